/-
  Our texts SvTq, SvTr, SvTs, SvPost, SvOpen, SvOpn07, joined.
-/
import Derived.Test.YtfomfplddncakaaMg4
import Derived.ChangeSame
import Derived.Test.YtfomfplddncakaaRows
import Derived.WalkKit
import Derived.ProofKit
import Derived.OpenShut
import Derived.JoinedCond
import Derived.Deep.Slices
import Derived.WideKeyArgs
/-
  token.Merge.
-/
set_option linter.unusedSimpArgs false
set_option linter.unusedVariables false
set_option linter.unnecessarySimpa false
namespace Go.Proofs.Ytfomfplddncakaa
open Go Go.Sv Go.RowKit
theorem flat_last (ns0 : List TokM) (m : TokM) : ((ns0 ++ [m]).flatMap TokM.cells).take (ns0.length * 8) = ns0.flatMap TokM.cells ∧ ((ns0 ++ [m]).flatMap TokM.cells).drop (ns0.length * 8) = m.cells := by
  have := fm_len TokM.len ns0
  rw [List.flatMap_append]
  exact ⟨List.take_left' this, by rw [List.drop_left' this]; simp⟩
/-- the last one turned -/
theorem TL.last {w w' : World} {lo : Nat} {q : Option Addr} {cc : Nat} {ns0 : List TokM} {m m' : TokM} (h : TL w lo q cc (ns0 ++ [m])) (hr : Row w' 8 q (ns0.length + 1) cc ((ns0 ++ [m']).flatMap TokM.cells)) (hl : Le (rb q) w w')
    (hm : AtR w lo m') (hap : ∀ x ∈ rb m'.p, x ∉ rb q) (hap2 : ∀ a ∈ ns0, ∀ x ∈ rb a.p, x ∉ rb m'.p) : TL w' lo q cc (ns0 ++ [m']) := by
  have hp := h.pair
  rw [List.pairwise_append] at hp
  refine ⟨by simpa using hr, h.low, ?_, ?_, ?_⟩
  · intro a ha
    rcases List.mem_append.1 ha with h1 | h1
    · exact ⟨(h.each a (List.mem_append_left _ h1)).1.le hl (h.apart a (List.mem_append_left _ h1)), (h.each a (List.mem_append_left _ h1)).2⟩
    · rw [List.mem_singleton.1 h1]; exact ⟨hm.1.le hl hap, hm.2⟩
  · intro a ha
    rcases List.mem_append.1 ha with h1 | h1
    · exact h.apart a (List.mem_append_left _ h1)
    · rw [List.mem_singleton.1 h1]; exact hap
  · rw [List.pairwise_append]
    refine ⟨hp.1, List.pairwise_singleton _ _, fun a ha b hb => ?_⟩
    rw [List.mem_singleton.1 hb]
    exact hap2 a ha
theorem accP_len (ts : List Tok) : (accP ts).length ≤ ts.length := by
  have key : ∀ (ts acc : List Tok), (ts.foldl stepP acc).length ≤ acc.length + ts.length := by
    intro ts
    induction ts with
    | nil => intro acc; simp
    | cons t ts ih =>
      intro acc
      have h1 : (stepP acc t).length ≤ acc.length + 1 := by
        unfold stepP
        split
        · simp
        · split
          · split
            · split <;> simp
            · simp
          · simp
      have := ih (stepP acc t)
      simp only [List.foldl_cons, List.length_cons]
      omega
  have := key ts []
  simpa [accP] using this
theorem small_txs {ts acc : List Tok} (hs : ∀ t ∈ ts, t.small) (hl : ∀ x ∈ acc, likeT ts x) (ht : txs acc ≤ 1048576) : ∀ x ∈ acc, x.small := by
  intro x hx
  obtain ⟨t, h1, h2, h3, h4⟩ := hl x hx
  have h5 := hs t h1
  have h6 : x.text.length ≤ txs acc := sum_mem (fun t : Tok => t.text.length) acc hx
  exact ⟨by rw [h3]; exact h5.name, by omega, by rw [h4]; exact h5.attrs, by rw [h4]; exact h5.each⟩
set_option maxHeartbeats 4000000 in
theorem merge_ok (ms : List TokM) (p : Option Addr) (c : Nat) (hn : ms.length ≤ 1048576) (hs : ∀ m ∈ ms, m.t.small) (htx : txs (ms.map TokM.t) ≤ 1048576) (w : World) (hT : Toks w p ms) :
    CallsR Try.prog 19 #[.slice p ms.length c] w fun v w' => Frm w w' ∧ ∃ q cc ns, v = .slice q ns.length cc ∧ ns.map TokM.t = mergeR (ms.map TokM.t) ∧ TL w' w.heap.size q cc ns := by
  refine enter (l := [.slice p ms.length c]) Try.func19 rfl Try.ntmps19 (by kernel_rfl) rfl ?_
  refine sgo ?_
  refine wcloop (X := Nat × Option Addr × Nat × List TokM) (fun x => [(3, .slice x.2.1 x.2.2.2.length x.2.2.1), (4, .bool (headText (accP ((ms.map TokM.t).take x.1)))), (11, .slice p ms.length c), (12, int ms.length), (13, int x.1)])
    (fun x wr => x.1 ≤ ms.length ∧ x.2.2.2.map TokM.t = (accP ((ms.map TokM.t).take x.1)).reverse ∧ txs (accP ((ms.map TokM.t).take x.1)) ≤ txs ((ms.map TokM.t).take x.1) ∧ TL wr w.heap.size x.2.1 x.2.2.1 x.2.2.2 ∧ Frm w wr)
    (fun x => ms.length - x.1) (0, none, 0, []) ⟨rfl, rfl, rfl, rfl, rfl, trivial⟩ ⟨by omega, rfl, by simp [accP, txs], TL.nil w _, Frm.refl _⟩ ?_
  rintro ⟨i, q, cc, ns⟩ wr ρ ⟨hil, hnt, htx1, hTL, hfr⟩
  dsimp only at hil hnt htx1 hTL ⊢
  have hTr := hT.frm hfr
  have hnsl : ns.length ≤ 1048576 := by
    have h1 : ns.length = (accP ((ms.map TokM.t).take i)).length := by
      have := congrArg List.length hnt
      simpa using this
    have h2 := accP_len ((ms.map TokM.t).take i)
    simp only [List.length_take, List.length_map] at h2
    omega
  refine sgo ?_
  (show WC _ _ _ _ _ _ _; first | refine WC_dec rfl (fun hc => ?_) (fun hc => ?_) | refine WC_cond rfl (fun hc => ?_) (fun hc => ?_))
  · have hlt : i < ms.length := by omega
    have hSg := hTr.im.sg
    have hx : ms[i]? = some ms[i] := List.getElem?_eq_getElem hlt
    have hseg := fm_seg TokM.len ms hx
    have hmem : ms[i] ∈ ms := List.getElem_mem hlt
    have hat := hTr.each _ hmem
    have hsm := hs _ hmem
    have hps : ∃ q, p = some q := hSg.some (by have := fm_len TokM.len ms; omega)
    have hfl := fm_len TokM.len ms
    have htk : (ms.map TokM.t).take (i + 1) = (ms.map TokM.t).take i ++ [ms[i].t] := by rw [List.take_add_one]; simp [hx]
    have hsnoc : accP ((ms.map TokM.t).take (i + 1)) = stepP (accP ((ms.map TokM.t).take i)) ms[i].t := by rw [htk, accP_snoc]
    have htxs : txs ((ms.map TokM.t).take (i + 1)) = txs ((ms.map TokM.t).take i) + ms[i].t.text.length := by rw [htk]; simp [txs]
    have htxall : txs ((ms.map TokM.t).take (i + 1)) ≤ 1048576 := Nat.le_trans (sum_take (fun t : Tok => t.text.length) _ _) htx
    generalize ms[i] = m at *
    obtain ⟨⟨k, nm, tx, es, sf, a1, a2, a3⟩, mp, mc⟩ := m
    have hes := hsm.attrs
    dsimp only at hat hes htk hsnoc htxs
    have hl1 := fm_len At.len es
    clear hc
    refine sgo ?_
    rw [hseg]
    refine wlalloc fun b6 w5 hb6 o5 hf5 => ?_
    refine sgo ?_
    refine wlstorea0 (vs := Tok.cells ⟨k, nm, tx, es, sf, a1, a2, a3⟩ mp mc) o5 (fun w6 o6 hl6 => ?_) (hx := rfl) (hy := rfl) (h1 := tok_one _ _ _)
    simp only [Tok.cells] at o6
    have hz5 := hfr.size
    have hfw6 : Frm wr w6 := hf5.step hl6 (by intro x hx; simp at hx; omega)
    have hTL6 := hTL.frm hfw6
    have hfr6 := hfr.trans hfw6
    have hb6l : b6 < w6.heap.size := o6.lt
    clear o5 hf5 hl6
    generalize htk0 : (ms.map TokM.t).take i = tk at *
    refine sgo ?_
    (show WC _ _ _ _ _ _ _; first | refine WC_dec rfl (fun hc => ?_) (fun hc => ?_) | refine WC_cond rfl (fun hc => ?_) (fun hc => ?_))
    · have hk : k ≠ 0 := hc
      have hst : stepP (accP tk) ⟨k, nm, tx, es, sf, a1, a2, a3⟩ = ⟨k, nm, tx, es, sf, a1, a2, a3⟩ :: accP tk := if_pos hk
      have hhd : false = headText (⟨k, nm, tx, es, sf, a1, a2, a3⟩ :: accP tk) := by simp [headText, hk]
      refine sgo ?_
      refine wlcall (own_ok ⟨⟨k, nm, tx, es, sf, a1, a2, a3⟩, mp, mc⟩ hsm _ (hat.frm hfw6)) ?_
      rintro v w7 ⟨hf7, p7, c7, rfl, hA7⟩
      refine sgo ?_
      refine wlb1a (size := 8) (vs := Tok.cells ⟨k, nm, tx, es, sf, a1, a2, a3⟩ p7 c7) (fun b10 w10 hb10 o10 hf10 => ?_) (hx := rfl) (hv := rfl)
      have hTL10 := (hTL6.frm hf7).frm hf10
      have hfl2 := fm_len TokM.len ns
      refine sgo ?_
      refine wlapp hTL10.row o10.sg (fun q11 c11 w11 hr11 hl11 => ?_) (hl := rfl) (h1 := tok_one _ _ _)
      have hz7 := hf7.size
      have hz10 := hf10.size
      have hz6 : wr.heap.size ≤ w6.heap.size := hfw6.size
      have hTL11 : TL w11 w.heap.size q11 c11 (ns ++ [⟨⟨k, nm, tx, es, sf, a1, a2, a3⟩, p7, c7⟩]) := by
        refine hTL10.push (m := ⟨⟨k, nm, tx, es, sf, a1, a2, a3⟩, p7, c7⟩) ⟨hA7.1.frm hf10, fun x hx => by have := hA7.2 x hx; omega⟩ (fun x hx hx' => ?_) hr11 hl11 (by omega)
        have := hA7.2 x hx
        have := (hTL6.lt x hx').2
        omega
      have hfr11 : Frm w w11 := ((hfr6.trans hf7).trans hf10).step hl11.1 (fun x hx => hTL.low x hx)
      refine sgo ?_
      have hA : Value.bool false = .bool (headText (accP ((ms.map TokM.t).take (i + 1)))) := by rw [hsnoc, hst]; exact congrArg Value.bool hhd
      have hB : (ns ++ [(⟨⟨k, nm, tx, es, sf, a1, a2, a3⟩, p7, c7⟩ : TokM)]).map TokM.t = (accP ((ms.map TokM.t).take (i + 1))).reverse := by rw [List.map_append, hnt, hsnoc, hst]; simp
      have hC : txs (accP ((ms.map TokM.t).take (i + 1))) ≤ txs ((ms.map TokM.t).take (i + 1)) := by
        rw [hsnoc]
        refine Nat.le_trans (stepP_txs _ _) ?_
        rw [htxs]
        dsimp only
        omega
      exact ⟨(i + 1, q11, c11, ns ++ [⟨⟨k, nm, tx, es, sf, a1, a2, a3⟩, p7, c7⟩]), ⟨congrArg (fun n => Value.slice q11 n c11) (by simp), hA, rfl, rfl, rfl, trivial⟩, ⟨by omega, hB, hC, hTL11, hfr11⟩, by omega⟩
    have hk : ¬ k ≠ 0 := hc
    have hk0 : k = 0 := Decidable.not_not.1 hk
    clear hc
    refine sgo ?_
    (show WC _ _ _ _ _ _ _; first | refine WC_dec rfl (fun hc => ?_) (fun hc => ?_) | refine WC_cond rfl (fun hc => ?_) (fun hc => ?_))
    · have hh : headText (accP tk) = false := by simpa using hc
      have hst : stepP (accP tk) ⟨k, nm, tx, es, sf, a1, a2, a3⟩ = ⟨k, nm, tx, es, sf, a1, a2, a3⟩ :: accP tk := by
        unfold stepP
        rw [if_neg hk]
        cases hacc : accP tk with
        | nil => rfl
        | cons l r =>
          rw [hacc] at hh
          have hl : ¬ l.kind = 0 := of_decide_eq_false hh
          dsimp only
          rw [if_neg hl]
      have hhd : true = headText (⟨k, nm, tx, es, sf, a1, a2, a3⟩ :: accP tk) := by simp [headText, hk0]
      refine sgo ?_
      refine wlcall (own_ok ⟨⟨k, nm, tx, es, sf, a1, a2, a3⟩, mp, mc⟩ hsm _ (hat.frm hfw6)) ?_
      rintro v w7 ⟨hf7, p7, c7, rfl, hA7⟩
      refine sgo ?_
      refine wlb1a (size := 8) (vs := Tok.cells ⟨k, nm, tx, es, sf, a1, a2, a3⟩ p7 c7) (fun b10 w10 hb10 o10 hf10 => ?_) (hx := rfl) (hv := rfl)
      have hTL10 := (hTL6.frm hf7).frm hf10
      have hfl2 := fm_len TokM.len ns
      refine sgo ?_
      refine wlapp hTL10.row o10.sg (fun q11 c11 w11 hr11 hl11 => ?_) (hl := rfl) (h1 := tok_one _ _ _)
      have hz7 := hf7.size
      have hz10 := hf10.size
      have hz6 : wr.heap.size ≤ w6.heap.size := hfw6.size
      have hTL11 : TL w11 w.heap.size q11 c11 (ns ++ [⟨⟨k, nm, tx, es, sf, a1, a2, a3⟩, p7, c7⟩]) := by
        refine hTL10.push (m := ⟨⟨k, nm, tx, es, sf, a1, a2, a3⟩, p7, c7⟩) ⟨hA7.1.frm hf10, fun x hx => by have := hA7.2 x hx; omega⟩ (fun x hx hx' => ?_) hr11 hl11 (by omega)
        have := hA7.2 x hx
        have := (hTL6.lt x hx').2
        omega
      have hfr11 : Frm w w11 := ((hfr6.trans hf7).trans hf10).step hl11.1 (fun x hx => hTL.low x hx)
      refine sgo ?_
      have hA : Value.bool true = .bool (headText (accP ((ms.map TokM.t).take (i + 1)))) := by rw [hsnoc, hst]; exact congrArg Value.bool hhd
      have hB : (ns ++ [(⟨⟨k, nm, tx, es, sf, a1, a2, a3⟩, p7, c7⟩ : TokM)]).map TokM.t = (accP ((ms.map TokM.t).take (i + 1))).reverse := by rw [List.map_append, hnt, hsnoc, hst]; simp
      have hC : txs (accP ((ms.map TokM.t).take (i + 1))) ≤ txs ((ms.map TokM.t).take (i + 1)) := by
        rw [hsnoc]
        refine Nat.le_trans (stepP_txs _ _) ?_
        rw [htxs]
        dsimp only
        omega
      exact ⟨(i + 1, q11, c11, ns ++ [⟨⟨k, nm, tx, es, sf, a1, a2, a3⟩, p7, c7⟩]), ⟨congrArg (fun n => Value.slice q11 n c11) (by simp), hA, rfl, rfl, rfl, trivial⟩, ⟨by omega, hB, hC, hTL11, hfr11⟩, by omega⟩
    have hh : headText (accP tk) = true := by simpa using hc
    clear hc
    obtain ⟨l, r, hacc, hl0⟩ : ∃ l r, accP tk = l :: r ∧ l.kind = 0 := by
      cases hacc : accP tk with
      | nil => rw [hacc] at hh; cases hh
      | cons l r => rw [hacc] at hh; exact ⟨l, r, rfl, of_decide_eq_true hh⟩
    rw [hacc] at hnt htx1 hsnoc
    have hnt' := hnt
    rw [List.reverse_cons] at hnt'
    obtain ⟨ns0, ns1, rfl, hn0, hn1⟩ := List.map_eq_append_iff.1 hnt'
    obtain ⟨m2, rfl, hm2⟩ : ∃ m2, ns1 = [m2] ∧ m2.t = l := by
      match ns1, hn1 with
      | [m2], h => exact ⟨m2, rfl, by simpa using h⟩
    have hnlen : (ns0 ++ [m2]).length = ns0.length + 1 := by simp
    have e : (((ns0.length + 1 : Nat) : Int) - 1).toNat = ns0.length := by omega
    have hxl : (ns0 ++ [m2])[ns0.length]? = some m2 := by simp
    have hrow6 := hTL6.row
    rw [hnlen] at hrow6
    have hSg6 := hrow6.sg
    have hflr := fm_len TokM.len (ns0 ++ [m2])
    have hqs : ∃ a, q = some a := hSg6.some (by omega)
    have hg2 := fm_get TokM.len (ns0 ++ [m2]) ns0.length 2 (by omega)
    rw [hxl, ← e] at hg2
    replace hg2 : ((ns0 ++ [m2]).flatMap TokM.cells)[(((ns0.length + 1 : Nat) : Int) - 1).toNat * 8 + 2]? = some (str l.text) := by rw [← hm2]; exact hg2
    obtain ⟨hft, hfd⟩ := flat_last ns0 m2
    rw [hnlen]
    refine sgo ?_
    (show WC _ _ _ _ _ _ _; first | refine WC_dec rfl (fun hc => ?_) (fun hc => ?_) | refine WC_cond rfl (fun hc => ?_) (fun hc => ?_))
    · have hlt0 : l.text = [] := hc
      have hst : stepP (l :: r) ⟨k, nm, tx, es, sf, a1, a2, a3⟩ = ⟨k, nm, tx, es, sf, a1, a2, a3⟩ :: r := by
        unfold stepP
        rw [if_neg hk]
        dsimp only
        rw [if_pos hl0, if_pos hlt0]
      refine sgo ?_
      refine wlcall (own_ok ⟨⟨k, nm, tx, es, sf, a1, a2, a3⟩, mp, mc⟩ hsm _ (hat.frm hfw6)) ?_
      rintro v w7 ⟨hf7, p7, c7, rfl, hA7⟩
      have hrow7 := hrow6.frm hf7
      refine sgo ?_
      refine wlrst (v := .agg ⟨TokM.cells ⟨⟨k, nm, tx, es, sf, a1, a2, a3⟩, p7, c7⟩⟩) (i := (((ns0.length + 1 : Nat) : Int) - 1).toNat * 8) hrow7 (fun w8 hr8 hl8 => ?_) (hk := by rw [e]; omega)
      have hd8 : ((ns0 ++ [m2]).flatMap TokM.cells).drop (ns0.length * 8 + 8) = [] := List.drop_eq_nil_of_le (by rw [hflr, hnlen]; omega)
      rw [e, hft, hd8, List.append_nil] at hr8
      have hz6 : wr.heap.size ≤ w6.heap.size := hfw6.size
      have hz7 := hf7.size
      have hTL8 : TL w8 w.heap.size q cc (ns0 ++ [⟨⟨k, nm, tx, es, sf, a1, a2, a3⟩, p7, c7⟩]) := by
        refine (hTL6.frm hf7).last (by rw [List.flatMap_append]; simpa [Value.cells] using hr8) hl8 ⟨hA7.1, fun x hx => by have := hA7.2 x hx; omega⟩ (fun x hx hx' => ?_) (fun a ha x hx hx' => ?_)
        · have := hA7.2 x hx
          have := hrow6.lt x hx'
          omega
        · have := hA7.2 x hx'
          have := (hTL6.each a (List.mem_append_left _ ha)).1.lt x hx
          omega
      have hfr8 : Frm w w8 := (hfr6.trans hf7).step hl8 (fun x hx => hTL.low x hx)
      have hA : Value.bool true = .bool (headText (accP ((ms.map TokM.t).take (i + 1)))) := by rw [hsnoc, hst]; simp [headText, hk0]
      have hB : (ns0 ++ [(⟨⟨k, nm, tx, es, sf, a1, a2, a3⟩, p7, c7⟩ : TokM)]).map TokM.t = (accP ((ms.map TokM.t).take (i + 1))).reverse := by rw [List.map_append, hn0, hsnoc, hst]; simp
      have hC : txs (accP ((ms.map TokM.t).take (i + 1))) ≤ txs ((ms.map TokM.t).take (i + 1)) := by
        rw [hsnoc]
        refine Nat.le_trans (stepP_txs _ _) ?_
        rw [htxs]
        dsimp only
        omega
      rw [hacc]
      refine sgo ?_
      exact ⟨(i + 1, q, cc, ns0 ++ [⟨⟨k, nm, tx, es, sf, a1, a2, a3⟩, p7, c7⟩]), ⟨congrArg (fun n => Value.slice q n cc) (by simp), (congrArg Value.bool (show headText (l :: r) = true from by simp [headText, hl0])).trans hA, rfl, rfl, rfl, trivial⟩, ⟨by omega, hB, hC, hTL8, hfr8⟩, by omega⟩
    · have hlt0 : ¬ l.text = [] := hc
      have hst : stepP (l :: r) ⟨k, nm, tx, es, sf, a1, a2, a3⟩ = { l with text := l.text ++ tx } :: r := by
        unfold stepP
        rw [if_neg hk]
        dsimp only
        rw [if_pos hl0, if_neg hlt0]
      have hltx : l.text.length + tx.length ≤ 1048576 := by
        rw [txs_cons] at htx1
        rw [htxs] at htxall
        omega
      have hup := flat_upd (f := TokM.cells) (k := 8) TokM.len 2 [str (l.text ++ tx)] (ns0 ++ [m2]) ns0.length m2 ⟨{ l with text := l.text ++ tx }, m2.p, m2.c⟩ hxl (by simp) (by rw [← hm2]; rfl)
      rw [List.set_append_right _ _ (Nat.le_refl _), Nat.sub_self, List.set_cons_zero] at hup
      generalize hF : (ns0 ++ [m2]).flatMap TokM.cells = F at *
      refine sgo ?_
      refine wcdraws (fun L w' => Le (rb q) w6 w' ∧ Row w' 8 q (ns0.length + 1) cc (bif L 9 then (ns0 ++ [(⟨{ l with text := l.text ++ tx }, m2.p, m2.c⟩ : TokM)]).flatMap TokM.cells else F)) (fun wd hwd => ⟨hwd.le, hrow6.frm hwd⟩) ?_
      (repeat (first | refine qs_fld ?_ | refine qsp ?_ | refine qs_slc ?_ | refine qs_bin ?_ | refine qs_idx ?_ | refine qs_len ?_ | refine qs_cnv ?_ | refine qs_idxa ?_ | refine qs_nilc ?_ | refine qs_una ?_))
      refine qs_load (i := (((ns0.length + 1 : Nat) : Int) - 1).toNat * 8 + 2) (fun L => bif L 9 then (ns0 ++ [(⟨{ l with text := l.text ++ tx }, m2.p, m2.c⟩ : TokM)]).flatMap TokM.cells else F) (v := str l.text) ?_ (fun L w h => h.2.sg) (fun L hu => by have h := hu.ahead 9 _ rfl rfl; rw [h]; exact hg2)
      (repeat (first | refine qs_fld ?_ | refine qsp ?_ | refine qs_slc ?_ | refine qs_bin ?_ | refine qs_idx ?_ | refine qs_len ?_ | refine qs_cnv ?_ | refine qs_idxa ?_ | refine qs_nilc ?_ | refine qs_una ?_))
      refine qs_load (i := 2) (fun _ => [int k, str nm, str tx, .slice mp es.length mc, .bool sf, int a1, int a2, int a3]) (v := str tx) ?_ (fun L w h => (o6.le h.1 (fun hx => by have := hrow6.lt b6 hx; have := hTL.row.lt b6 hx; omega)).sg) (fun L hu => rfl)
      (repeat (first | refine qs_fld ?_ | refine qsp ?_ | refine qs_slc ?_ | refine qs_bin ?_ | refine qs_idx ?_ | refine qs_len ?_ | refine qs_cnv ?_ | refine qs_idxa ?_ | refine qs_nilc ?_ | refine qs_una ?_))
      have hFl : F.length = (ns0.length + 1) * 8 := by rw [hflr, hnlen]
      have hGl := fm_len TokM.len (ns0 ++ [(⟨{ l with text := l.text ++ tx }, m2.p, m2.c⟩ : TokM)])
      rw [List.length_append, List.length_singleton] at hGl
      refine qs_rst (i := (((ns0.length + 1 : Nat) : Int) - 1).toNat * 8 + 2) (u := str (l.text ++ tx)) (fun L => bif L 9 then (ns0 ++ [(⟨{ l with text := l.text ++ tx }, m2.p, m2.c⟩ : TokM)]).flatMap TokM.cells else F) (fun L w h => h.2) (fun L w w' hu h ho hl => ⟨h.1.trans hl, ?_⟩) ?_ (hk := fun L => by cases L 9 <;> simp only [cond_true, cond_false] <;> rw [e] <;> omega)
      · have e9 : L 9 = false := hu.now
        rw [e9] at ho
        show Row _ _ _ _ _ ((ns0 ++ [(⟨{ l with text := l.text ++ tx }, m2.p, m2.c⟩ : TokM)]).flatMap TokM.cells)
        rw [← hup]
        rw [e] at ho
        exact ho
      refine qs_nil ?_
      intro L w8 hL hS
      have e9 := hL 9 (by decide)
      rw [e9] at hS
      clear hL e9 L
      have hm2m : m2 ∈ ns0 ++ [m2] := List.mem_append_right _ List.mem_cons_self
      have hTL8 : TL w8 w.heap.size q cc (ns0 ++ [⟨{ l with text := l.text ++ tx }, m2.p, m2.c⟩]) := by
        have hp := hTL6.pair
        rw [List.pairwise_append] at hp
        refine hTL6.last hS.2 hS.1 ?_ (hTL6.apart m2 hm2m) (fun a ha => hp.2.2 a ha m2 List.mem_cons_self)
        have := hTL6.each m2 hm2m
        unfold AtR at this ⊢
        rw [hm2] at this
        exact this
      have hfr8 : Frm w w8 := hfr6.step hS.1 (fun x hx => hTL.low x hx)
      have hA : Value.bool true = .bool (headText (accP ((ms.map TokM.t).take (i + 1)))) := by rw [hsnoc, hst]; simp [headText, hl0]
      have hB : (ns0 ++ [(⟨{ l with text := l.text ++ tx }, m2.p, m2.c⟩ : TokM)]).map TokM.t = (accP ((ms.map TokM.t).take (i + 1))).reverse := by rw [List.map_append, hn0, hsnoc, hst]; simp
      have hC : txs (accP ((ms.map TokM.t).take (i + 1))) ≤ txs ((ms.map TokM.t).take (i + 1)) := by
        rw [hsnoc]
        refine Nat.le_trans (stepP_txs _ _) ?_
        rw [htxs]
        dsimp only
        omega
      rw [hacc]
      refine sgo ?_
      exact ⟨(i + 1, q, cc, ns0 ++ [⟨{ l with text := l.text ++ tx }, m2.p, m2.c⟩]), ⟨congrArg (fun n => Value.slice q n cc) (by simp), (congrArg Value.bool (show headText (l :: r) = true from by simp [headText, hl0])).trans hA, rfl, rfl, rfl, trivial⟩, ⟨by omega, hB, hC, hTL8, hfr8⟩, by omega⟩
  · obtain rfl : i = ms.length := by omega
    clear hc
    have hall : (ms.map TokM.t).take ms.length = ms.map TokM.t := List.take_of_length_le (by simp)
    rw [hall] at hnt
    have hcap := hTL.row.le_cap
    refine sgo ?_
    refine wcloop (X := Nat × Nat × List TokM) (fun x => [(3, .slice q ns.length cc), (8, .slice q x.2.1 cc), (58, .slice q ns.length cc), (59, int ns.length), (60, int x.1)])
      (fun x wr => x.1 ≤ ns.length ∧ x.2.1 ≤ x.1 ∧ x.2.2.length = ns.length ∧ x.2.2.take x.2.1 = (ns.take x.1).filter (fun m => keepT m.t) ∧ x.2.2.drop x.1 = ns.drop x.1 ∧ Row wr 8 q ns.length cc (x.2.2.flatMap TokM.cells) ∧ (∀ m ∈ ns, AtR wr w.heap.size m) ∧ Frm w wr)
      (fun x => ns.length - x.1) (0, 0, ns) ⟨rfl, rfl, rfl, rfl, rfl, trivial⟩ ⟨by omega, Nat.le_refl _, rfl, rfl, rfl, hTL.row, hTL.each, hfr⟩ ?_
    rintro ⟨i, k, L⟩ w2 ρ2 ⟨hi, hki, hLl, hLt, hLd, hrow, hat, hfr2⟩
    dsimp only at hi hki hLl hLt hLd hrow ⊢
    have hSg2 := hrow.sg
    have hLfl := fm_len TokM.len L
    refine sgo ?_
    (show WC _ _ _ _ _ _ _; first | refine WC_dec rfl (fun hc => ?_) (fun hc => ?_) | refine WC_cond rfl (fun hc => ?_) (fun hc => ?_))
    · have hin : i < ns.length := by omega
      clear hc
      have hxn : ns[i]? = some ns[i] := List.getElem?_eq_getElem hin
      have hxL : L[i]? = some ns[i] := by
        have h1 : (L.drop i)[0]? = (ns.drop i)[0]? := by rw [hLd]
        rw [List.getElem?_drop, List.getElem?_drop, Nat.add_zero] at h1
        rw [h1, hxn]
      have hseg := fm_seg TokM.len L hxL
      have hqs : ∃ a, q = some a := hSg2.some (by omega)
      have htk : (ns.take (i + 1)).filter (fun m => keepT m.t) = (ns.take i).filter (fun m => keepT m.t) ++ (if keepT ns[i].t then [ns[i]] else []) := by
        rw [List.take_add_one, hxn, List.filter_append]
        simp [List.filter_cons]
      generalize ns[i] = m at *
      obtain ⟨⟨k2, nm, tx, es, sf, a1, a2, a3⟩, mp, mc⟩ := m
      dsimp only at htk
      refine sgo ?_
      rw [hseg]
      refine wlalloc fun b10 w3 hb10 o10 hf3 => ?_
      refine sgo ?_
      refine wlstorea0 (vs := Tok.cells ⟨k2, nm, tx, es, sf, a1, a2, a3⟩ mp mc) o10 (fun w4 o10' hl4 => ?_) (hx := rfl) (hy := rfl) (h1 := tok_one _ _ _)
      simp only [Tok.cells] at o10'
      have hfw : Frm w2 w4 := hf3.step hl4 (by intro x hx; simp at hx; omega)
      have hrow4 := hrow.frm hfw
      have hat4 : ∀ m ∈ ns, AtR w4 w.heap.size m := fun m hm => (hat m hm).frm hfw
      have hfr4 := hfr2.trans hfw
      clear o10 hf3 hl4
      refine sgo ?_
      (show WC _ _ _ _ _ _ _; first | refine WC_dec rfl (fun hc => ?_) (fun hc => ?_) | refine WC_cond rfl (fun hc => ?_) (fun hc => ?_))
      · have hkp : keepT ⟨k2, nm, tx, es, sf, a1, a2, a3⟩ = true := by
          simp only [keepT]; revert hc; simp [pkb_or]
        rw [hkp, if_pos rfl] at htk
        refine sgo ?_
        refine wlb1a (size := 8) (vs := Tok.cells ⟨k2, nm, tx, es, sf, a1, a2, a3⟩ mp mc) (fun b11 w5 hb11 o11 hf5 => ?_) (hx := rfl) (hv := rfl)
        have hrow5 := hrow4.frm hf5
        refine sgo ?_
        refine wlappin (k := k) (m := 1) hrow5 o11.sg (fun w6 hr6 hl6 => ?_) (hk := by omega) (hl := rfl) (h1 := tok_one _ _ _)
        have hkx : k < L.length := by omega
        have hup := flat_upd_all TokM.len L k L[k] ⟨⟨k2, nm, tx, es, sf, a1, a2, a3⟩, mp, mc⟩ (List.getElem?_eq_getElem hkx)
        rw [show (k + 1) * 8 = k * 8 + 8 from by omega] at hr6
        have hr6' : Row w6 8 q ns.length cc ((L.set k ⟨⟨k2, nm, tx, es, sf, a1, a2, a3⟩, mp, mc⟩).flatMap TokM.cells) := by rw [← hup]; exact hr6
        refine sgo ?_
        refine ⟨(i + 1, k + 1, L.set k ⟨⟨k2, nm, tx, es, sf, a1, a2, a3⟩, mp, mc⟩), ⟨rfl, rfl, rfl, rfl, rfl, trivial⟩, ⟨by omega, by dsimp only; omega, by simpa using hLl, ?_, ?_, hr6', fun m hm => ⟨((hat4 m hm).frm hf5).1.le hl6 (hTL.apart m hm), (hat m hm).2⟩, (hfr4.trans hf5).step hl6 (fun x hx => hTL.low x hx)⟩, by omega⟩
        · dsimp only
          rw [htk, ← hLt, List.take_add_one, List.getElem?_set_self hkx, List.take_set_of_le (Nat.le_refl _)]
          rfl
        · dsimp only
          rw [List.drop_set_of_lt (by omega), ← List.drop_drop, hLd, List.drop_drop]
      · have hkp : keepT ⟨k2, nm, tx, es, sf, a1, a2, a3⟩ = false := by
          simp only [keepT]; revert hc; simp [pkb_or]
        rw [hkp, if_neg Bool.false_ne_true, List.append_nil] at htk
        refine sgo ?_
        refine ⟨(i + 1, k, L), ⟨rfl, rfl, rfl, rfl, rfl, trivial⟩, ⟨by omega, by dsimp only; omega, hLl, ?_, ?_, hrow4, hat4, hfr4⟩, by omega⟩
        · dsimp only
          rw [htk]; exact hLt
        · dsimp only
          rw [← List.drop_drop, hLd, List.drop_drop]
    · obtain rfl : i = ns.length := by omega
      rw [List.take_length] at hLt
      have hcap2 := hrow.le_cap
      refine sgo ?_
      (first | refine fp1 (.inl rfl) rfl rfl ?_ | refine fp2 (.inl rfl) rfl rfl rfl ?_ | refine fp3 (.inl rfl) rfl rfl rfl rfl ?_ | refine fp0 (.inr rfl) rfl ?_ | refine fp0 (.inl rfl) rfl ?_ | refine fp1 (.inr rfl) rfl rfl ?_)
      have hkl : (ns.filter fun m => keepT m.t).length = k := by rw [← hLt, List.length_take]; omega
      refine ⟨hfr2, q, k, ns.filter fun m => keepT m.t, by rw [hkl]; rfl, ?_, ?_⟩
      · rw [mergeR, ← accP_filter, List.filter_reverse.symm, ← hnt, List.filter_map]
        rfl
      · have hr := (hrow.take hki).cap (Nat.le_refl k) (by omega)
        refine ⟨?_, hTL.low, fun m hm => hat m (List.mem_filter.1 hm).1, fun m hm => hTL.apart m (List.mem_filter.1 hm).1, hTL.pair.sublist List.filter_sublist⟩
        rw [hkl, ← hLt]
        have e1 := flat_len (f := TokM.cells) TokM.len (L.take k)
        have e2 : (L.flatMap TokM.cells).take (k * 8) = (L.take k).flatMap TokM.cells := by
          conv => lhs; rw [← List.take_append_drop k L, List.flatMap_append]
          exact List.take_left' (by rw [e1, List.length_take]; congr 1; omega)
        rw [← e2]
        exact hr
end Go.Proofs.Ytfomfplddncakaa

/-
  sieveref07.Merge.
-/
set_option linter.unusedSimpArgs false
set_option linter.unusedVariables false
set_option linter.unnecessarySimpa false
namespace Go.Proofs.Ytfomfplddncakaa
open Go Go.Sv Go.RowKit
theorem accM_len (ts : List Tok) : (accM ts).length ≤ ts.length := by
  have h1 := accP_filter ts
  have h2 := accP_len ts
  have := List.length_filter_le keepT (accP ts)
  rw [h1] at this
  omega
/-- a list of tokens whose records are one's own; their attributes may lie elsewhere -/
structure TW (w : World) (lo : Nat) (q : Option Addr) (cc : Nat) (ms : List TokM) : Prop where
  row : Row w 8 q ms.length cc (ms.flatMap TokM.cells)
  low : ∀ x ∈ rb q, lo ≤ x
  each : ∀ m ∈ ms, AtR w lo m
theorem TW.toks {w : World} {lo : Nat} {q : Option Addr} {cc : Nat} {ms : List TokM} (h : TW w lo q cc ms) : Toks w q ms := ⟨h.row.im (by simp), fun m hm => (h.each m hm).im⟩
theorem TW.low_all {w : World} {lo : Nat} {q : Option Addr} {cc : Nat} {ms : List TokM} (h : TW w lo q cc ms) : ∀ x ∈ tbl q ms, lo ≤ x := by
  intro x hx
  rcases List.mem_append.1 hx with hx | hx
  · exact h.low x hx
  · obtain ⟨m, hm, hx⟩ := List.mem_flatMap.1 hx
    exact (h.each m hm).2 x hx
theorem TW.frm {w w' : World} {lo : Nat} {q : Option Addr} {cc : Nat} {ms : List TokM} (h : TW w lo q cc ms) (hf : Frm w w') : TW w' lo q cc ms := ⟨h.row.frm hf, h.low, fun m hm => (h.each m hm).frm hf⟩
theorem TW.le {w w' : World} {lo : Nat} {q : Option Addr} {cc : Nat} {ms : List TokM} {M : List Nat} (h : TW w lo q cc ms) (hl : Le M w w') (hM : ∀ x ∈ tbl q ms, x ∉ M) : TW w' lo q cc ms :=
  ⟨h.row.le hl fun x hx => hM x (List.mem_append_left _ hx), h.low,
   fun m hm => ⟨(h.each m hm).1.le hl fun x hx => hM x (List.mem_append_right _ (List.mem_flatMap.2 ⟨m, hm, hx⟩)), (h.each m hm).2⟩⟩
set_option maxHeartbeats 4000000 in
theorem refMerge_ok (ms : List TokM) (p : Option Addr) (c lo : Nat) (hn : ms.length ≤ 1048576) (htx : txs (ms.map TokM.t) ≤ 1048576) (w : World) (hT : TL w lo p c ms) (hlo : lo ≤ w.heap.size) :
    CallsR Try.prog 20 #[.slice p ms.length c] w fun v w' => Frm w w' ∧ ∃ q cc ns, v = .slice q ns.length cc ∧ ns.map TokM.t = mergeR (ms.map TokM.t) ∧ TW w' lo q cc ns := by
  refine enter (l := [.slice p ms.length c]) Try.func20 rfl Try.ntmps20 (by kernel_rfl) rfl ?_
  refine sgo ?_
  refine wcloop (X := Nat × Option Addr × Nat × List TokM) (fun x => [(3, .slice x.2.1 x.2.2.2.length x.2.2.1), (7, .slice p ms.length c), (8, int ms.length), (9, int x.1)])
    (fun x wr => x.1 ≤ ms.length ∧ x.2.2.2.map TokM.t = (accM ((ms.map TokM.t).take x.1)).reverse ∧ txs (accM ((ms.map TokM.t).take x.1)) ≤ txs ((ms.map TokM.t).take x.1) ∧ Row wr 8 x.2.1 x.2.2.2.length x.2.2.1 (x.2.2.2.flatMap TokM.cells) ∧ (∀ y ∈ rb x.2.1, w.heap.size ≤ y) ∧ (∀ m ∈ x.2.2.2, AtR w lo m) ∧ Frm w wr)
    (fun x => ms.length - x.1) (0, none, 0, []) ⟨rfl, rfl, rfl, rfl, trivial⟩ ⟨by omega, rfl, by simp [accM, txs], Row.nil w 8, by simp [rb], by simp, Frm.refl _⟩ ?_
  rintro ⟨i, q, cc, ns⟩ wr ρ ⟨hil, hnt, htx1, hrow, hlow, hat2, hfr⟩
  dsimp only at hil hnt htx1 hrow hlow hat2 ⊢
  have hTr := hT.toks.frm hfr
  have hnsl : ns.length ≤ 1048576 := by
    have h1 : ns.length = (accM ((ms.map TokM.t).take i)).length := by
      have := congrArg List.length hnt
      simpa using this
    have h2 := accM_len ((ms.map TokM.t).take i)
    simp only [List.length_take, List.length_map] at h2
    omega
  refine sgo ?_
  (show WC _ _ _ _ _ _ _; first | refine WC_dec rfl (fun hc => ?_) (fun hc => ?_) | refine WC_cond rfl (fun hc => ?_) (fun hc => ?_))
  · have hlt : i < ms.length := by omega
    have hSg := hTr.im.sg
    have hx : ms[i]? = some ms[i] := List.getElem?_eq_getElem hlt
    have hseg := fm_seg TokM.len ms hx
    have hmem : ms[i] ∈ ms := List.getElem_mem hlt
    have hat0 := hT.each _ hmem
    have hps : ∃ q, p = some q := hSg.some (by have := fm_len TokM.len ms; omega)
    have hfl := fm_len TokM.len ms
    have htk : (ms.map TokM.t).take (i + 1) = (ms.map TokM.t).take i ++ [ms[i].t] := by rw [List.take_add_one]; simp [hx]
    have hsnoc : accM ((ms.map TokM.t).take (i + 1)) = stepM (accM ((ms.map TokM.t).take i)) ms[i].t := by rw [htk, accM_snoc]
    have htxs : txs ((ms.map TokM.t).take (i + 1)) = txs ((ms.map TokM.t).take i) + ms[i].t.text.length := by rw [htk]; simp [txs]
    have htxall : txs ((ms.map TokM.t).take (i + 1)) ≤ 1048576 := Nat.le_trans (sum_take (fun t : Tok => t.text.length) _ _) htx
    have hC : txs (accM ((ms.map TokM.t).take (i + 1))) ≤ txs ((ms.map TokM.t).take (i + 1)) := by
      rw [hsnoc]
      refine Nat.le_trans (stepM_txs _ _) ?_
      rw [htxs]
      omega
    generalize ms[i] = m at *
    obtain ⟨⟨k, nm, tx, es, sf, a1, a2, a3⟩, mp, mc⟩ := m
    dsimp only at htk hsnoc htxs
    clear hc
    refine sgo ?_
    rw [hseg]
    refine wlalloc fun b6 w5 hb6 o5 hf5 => ?_
    refine sgo ?_
    refine wlstorea0 (vs := Tok.cells ⟨k, nm, tx, es, sf, a1, a2, a3⟩ mp mc) o5 (fun w6 o6 hl6 => ?_) (hx := rfl) (hy := rfl) (h1 := tok_one _ _ _)
    simp only [Tok.cells] at o6
    have hz5 := hfr.size
    have hfw6 : Frm wr w6 := hf5.step hl6 (by intro x hx; simp at hx; omega)
    have hrow6 := hrow.frm hfw6
    have hfr6 := hfr.trans hfw6
    have hfl2 := fm_len TokM.len ns
    have hb6r : b6 ∉ rb q := fun hx => by have := hrow.lt b6 hx; omega
    clear o5 hf5 hl6
    generalize htk0 : (ms.map TokM.t).take i = tk at *
    refine sgo ?_
    (show WC _ _ _ _ _ _ _; first | refine WC_dec rfl (fun hc => ?_) (fun hc => ?_) | refine WC_cond rfl (fun hc => ?_) (fun hc => ?_))
    · have hk : k ≠ 0 := hc
      have hst : stepM (accM tk) ⟨k, nm, tx, es, sf, a1, a2, a3⟩ = ⟨k, nm, tx, es, sf, a1, a2, a3⟩ :: accM tk := if_pos hk
      refine sgo ?_
      refine wlb1a (size := 8) (vs := Tok.cells ⟨k, nm, tx, es, sf, a1, a2, a3⟩ mp mc) (fun b10 w10 hb10 o10 hf10 => ?_) (hx := rfl) (hv := rfl)
      have hrow10 := hrow6.frm hf10
      refine sgo ?_
      refine wlapp hrow10 o10.sg (fun q11 c11 w11 hr11 hl11 => ?_) (hl := rfl) (h1 := tok_one _ _ _)
      have hr11' : Row w11 8 q11 (ns ++ [(⟨⟨k, nm, tx, es, sf, a1, a2, a3⟩, mp, mc⟩ : TokM)]).length c11 ((ns ++ [(⟨⟨k, nm, tx, es, sf, a1, a2, a3⟩, mp, mc⟩ : TokM)]).flatMap TokM.cells) := by rw [List.flatMap_append]; simpa [TokM.cells] using hr11
      have hfr11 : Frm w w11 := (hfr6.trans hf10).step hl11.1 hlow
      have hlow11 : ∀ x ∈ rb q11, w.heap.size ≤ x := hl11.fresh (hfr6.trans hf10) hlow
      have hB : (ns ++ [(⟨⟨k, nm, tx, es, sf, a1, a2, a3⟩, mp, mc⟩ : TokM)]).map TokM.t = (accM ((ms.map TokM.t).take (i + 1))).reverse := by rw [List.map_append, hnt, hsnoc, hst]; simp
      refine sgo ?_
      exact ⟨(i + 1, q11, c11, ns ++ [⟨⟨k, nm, tx, es, sf, a1, a2, a3⟩, mp, mc⟩]), ⟨congrArg (fun n => Value.slice q11 n c11) (by simp), rfl, rfl, rfl, trivial⟩, ⟨by omega, hB, hC, hr11', hlow11, fun a ha => by rcases List.mem_append.1 ha with h | h; exact hat2 a h; rw [List.mem_singleton.1 h]; exact hat0, hfr11⟩, by omega⟩
    have hk : ¬ k ≠ 0 := hc
    have hk0 : k = 0 := Decidable.not_not.1 hk
    clear hc
    refine sgo ?_
    (show WC _ _ _ _ _ _ _; first | refine WC_dec rfl (fun hc => ?_) (fun hc => ?_) | refine WC_cond rfl (fun hc => ?_) (fun hc => ?_))
    · have ht0 : tx = [] := hc
      have hst : stepM (accM tk) ⟨k, nm, tx, es, sf, a1, a2, a3⟩ = accM tk := by
        unfold stepM
        rw [if_neg hk, if_pos ht0]
      have hB : ns.map TokM.t = (accM ((ms.map TokM.t).take (i + 1))).reverse := by rw [hsnoc, hst]; exact hnt
      refine sgo ?_
      exact ⟨(i + 1, q, cc, ns), ⟨rfl, rfl, rfl, rfl, trivial⟩, ⟨by omega, hB, hC, hrow6, hlow, hat2, hfr6⟩, by omega⟩
    have ht0 : ¬ tx = [] := hc
    clear hc
    cases hacc : accM tk with
    | nil =>
      have hns0 : ns = [] := by
        rw [hacc] at hnt
        simpa using hnt
      subst hns0
      have hst : stepM (accM tk) ⟨k, nm, tx, es, sf, a1, a2, a3⟩ = ⟨k, nm, tx, es, sf, a1, a2, a3⟩ :: accM tk := by
        unfold stepM
        rw [if_neg hk, if_neg ht0, hacc]
      refine sgo ?_
      refine wlg (v := ptrAt none 0) ?_ rfl rfl (fun hh => absurd hh (by decide))
      refine wlg (v := ptrAt none 0) ?_ rfl rfl (fun hh => absurd hh (by decide))
      refine wlg (v := int 0) ?_ rfl rfl (fun hh => absurd hh (by decide))
      refine sgo ?_
      refine wlb1a (size := 8) (vs := Tok.cells ⟨k, nm, tx, es, sf, a1, a2, a3⟩ mp mc) (fun b10 w10 hb10 o10 hf10 => ?_) (hx := rfl) (hv := rfl)
      have hrow10 := hrow6.frm hf10
      refine sgo ?_
      refine wlapp hrow10 o10.sg (fun q11 c11 w11 hr11 hl11 => ?_) (hl := rfl) (h1 := tok_one _ _ _)
      have hr11' : Row w11 8 q11 ([] ++ [(⟨⟨k, nm, tx, es, sf, a1, a2, a3⟩, mp, mc⟩ : TokM)]).length c11 (([] ++ [(⟨⟨k, nm, tx, es, sf, a1, a2, a3⟩, mp, mc⟩ : TokM)]).flatMap TokM.cells) := by rw [List.flatMap_append]; simpa [TokM.cells] using hr11
      have hfr11 : Frm w w11 := (hfr6.trans hf10).step hl11.1 hlow
      have hlow11 : ∀ x ∈ rb q11, w.heap.size ≤ x := hl11.fresh (hfr6.trans hf10) hlow
      have hB : ([] ++ [(⟨⟨k, nm, tx, es, sf, a1, a2, a3⟩, mp, mc⟩ : TokM)]).map TokM.t = (accM ((ms.map TokM.t).take (i + 1))).reverse := by rw [List.map_append, hnt, hsnoc, hst]; simp
      refine sgo ?_
      exact ⟨(i + 1, q11, c11, [] ++ [⟨⟨k, nm, tx, es, sf, a1, a2, a3⟩, mp, mc⟩]), ⟨congrArg (fun n => Value.slice q11 n c11) (by simp), rfl, rfl, rfl, trivial⟩, ⟨by omega, hB, hC, hr11', hlow11, fun a ha => by rcases List.mem_append.1 ha with h | h; exact hat2 a h; rw [List.mem_singleton.1 h]; exact hat0, hfr11⟩, by omega⟩
    | cons l r =>
      rw [hacc] at hnt htx1 hsnoc
      have hnt' := hnt
      rw [List.reverse_cons] at hnt'
      obtain ⟨ns0, ns1, rfl, hn0, hn1⟩ := List.map_eq_append_iff.1 hnt'
      obtain ⟨m2, rfl, hm2⟩ : ∃ m2, ns1 = [m2] ∧ m2.t = l := by
        match ns1, hn1 with
        | [m2], h => exact ⟨m2, rfl, by simpa using h⟩
      have hnlen : (ns0 ++ [m2]).length = ns0.length + 1 := by simp
      have e : (((ns0.length + 1 : Nat) : Int) - 1).toNat = ns0.length := by omega
      have hxl : (ns0 ++ [m2])[ns0.length]? = some m2 := by simp
      rw [hnlen] at hrow6
      have hSg6 := hrow6.sg
      have hflr := fm_len TokM.len (ns0 ++ [m2])
      have hqs : ∃ a, q = some a := hSg6.some (by omega)
      have hg2 := fm_get TokM.len (ns0 ++ [m2]) ns0.length 2 (by omega)
      have hg0 := fm_get TokM.len (ns0 ++ [m2]) ns0.length 0 (by omega)
      rw [hxl, ← e] at hg2 hg0
      replace hg2 : ((ns0 ++ [m2]).flatMap TokM.cells)[(((ns0.length + 1 : Nat) : Int) - 1).toNat * 8 + 2]? = some (str l.text) := by rw [← hm2]; exact hg2
      replace hg0 : ((ns0 ++ [m2]).flatMap TokM.cells)[(((ns0.length + 1 : Nat) : Int) - 1).toNat * 8]? = some (int l.kind) := by rw [← hm2]; exact hg0
      rw [hnlen]
      refine sgo ?_
      (show WC _ _ _ _ _ _ _; first | refine WC_dec rfl (fun hc => ?_) (fun hc => ?_) | refine WC_cond rfl (fun hc => ?_) (fun hc => ?_))
      · have hl0 : l.kind = 0 := by
          rw [pkb_and] at hc
          simp only [Bool.and_eq_true, decide_eq_true_eq] at hc
          exact hc.2
        clear hc
        have hst : stepM (l :: r) ⟨k, nm, tx, es, sf, a1, a2, a3⟩ = { l with text := l.text ++ tx } :: r := by
          unfold stepM
          rw [if_neg hk, if_neg ht0]
          dsimp only
          rw [if_pos hl0]
        have hltx : l.text.length + tx.length ≤ 1048576 := by
          rw [txs_cons] at htx1
          rw [htxs] at htxall
          omega
        have hup := flat_upd (f := TokM.cells) (k := 8) TokM.len 2 [str (l.text ++ tx)] (ns0 ++ [m2]) ns0.length m2 ⟨{ l with text := l.text ++ tx }, m2.p, m2.c⟩ hxl (by simp) (by rw [← hm2]; rfl)
        rw [List.set_append_right _ _ (Nat.le_refl _), Nat.sub_self, List.set_cons_zero] at hup
        generalize hF : (ns0 ++ [m2]).flatMap TokM.cells = F at *
        refine sgo ?_
        refine wcdraws (fun L w' => Le (rb q) w6 w' ∧ Row w' 8 q (ns0.length + 1) cc (bif L 11 then (ns0 ++ [(⟨{ l with text := l.text ++ tx }, m2.p, m2.c⟩ : TokM)]).flatMap TokM.cells else F)) (fun wd hwd => ⟨hwd.le, hrow6.frm hwd⟩) ?_
        (repeat (first | refine qs_fld ?_ | refine qsp ?_ | refine qs_slc ?_ | refine qs_bin ?_ | refine qs_idx ?_ | refine qs_len ?_ | refine qs_cnv ?_ | refine qs_idxa ?_ | refine qs_nilc ?_ | refine qs_una ?_))
        refine qs_load (i := (((ns0.length + 1 : Nat) : Int) - 1).toNat * 8 + 2) (fun L => bif L 11 then (ns0 ++ [(⟨{ l with text := l.text ++ tx }, m2.p, m2.c⟩ : TokM)]).flatMap TokM.cells else F) (v := str l.text) ?_ (fun L w h => h.2.sg) (fun L hu => by have h := hu.ahead 11 _ rfl rfl; rw [h]; exact hg2)
        (repeat (first | refine qs_fld ?_ | refine qsp ?_ | refine qs_slc ?_ | refine qs_bin ?_ | refine qs_idx ?_ | refine qs_len ?_ | refine qs_cnv ?_ | refine qs_idxa ?_ | refine qs_nilc ?_ | refine qs_una ?_))
        refine qs_load (i := 2) (fun _ => [int k, str nm, str tx, .slice mp es.length mc, .bool sf, int a1, int a2, int a3]) (v := str tx) ?_ (fun L w h => (o6.le h.1 hb6r).sg) (fun L hu => rfl)
        (repeat (first | refine qs_fld ?_ | refine qsp ?_ | refine qs_slc ?_ | refine qs_bin ?_ | refine qs_idx ?_ | refine qs_len ?_ | refine qs_cnv ?_ | refine qs_idxa ?_ | refine qs_nilc ?_ | refine qs_una ?_))
        have hFl : F.length = (ns0.length + 1) * 8 := by rw [hflr, hnlen]
        have hGl := fm_len TokM.len (ns0 ++ [(⟨{ l with text := l.text ++ tx }, m2.p, m2.c⟩ : TokM)])
        rw [List.length_append, List.length_singleton] at hGl
        refine qs_rst (i := (((ns0.length + 1 : Nat) : Int) - 1).toNat * 8 + 2) (u := str (l.text ++ tx)) (fun L => bif L 11 then (ns0 ++ [(⟨{ l with text := l.text ++ tx }, m2.p, m2.c⟩ : TokM)]).flatMap TokM.cells else F) (fun L w h => h.2) (fun L w w' hu h ho hl => ⟨h.1.trans hl, ?_⟩) ?_ (hk := fun L => by cases L 11 <;> simp only [cond_true, cond_false] <;> rw [e] <;> omega)
        · have e9 : L 11 = false := hu.now
          rw [e9] at ho
          show Row _ _ _ _ _ ((ns0 ++ [(⟨{ l with text := l.text ++ tx }, m2.p, m2.c⟩ : TokM)]).flatMap TokM.cells)
          rw [← hup]
          rw [e] at ho
          exact ho
        refine qs_nil ?_
        intro L w8 hL hS
        have e9 := hL 11 (by decide)
        rw [e9] at hS
        clear hL e9 L
        have hfr8 : Frm w w8 := hfr6.step hS.1 hlow
        have hB : (ns0 ++ [(⟨{ l with text := l.text ++ tx }, m2.p, m2.c⟩ : TokM)]).map TokM.t = (accM ((ms.map TokM.t).take (i + 1))).reverse := by rw [List.map_append, hn0, hsnoc, hst]; simp
        have hat3 : AtR w lo ⟨{ l with text := l.text ++ tx }, m2.p, m2.c⟩ := by
          have := hat2 m2 (List.mem_append_right _ List.mem_cons_self)
          unfold AtR at this ⊢
          rw [hm2] at this
          exact this
        refine sgo ?_
        exact ⟨(i + 1, q, cc, ns0 ++ [⟨{ l with text := l.text ++ tx }, m2.p, m2.c⟩]), ⟨congrArg (fun n => Value.slice q n cc) (by simp), rfl, rfl, rfl, trivial⟩, ⟨by omega, hB, hC, by simpa using hS.2, hlow, fun a ha => by rcases List.mem_append.1 ha with h | h; exact hat2 a (List.mem_append_left _ h); rw [List.mem_singleton.1 h]; exact hat3, hfr8⟩, by omega⟩
      · have hl0 : ¬ l.kind = 0 := by
          rw [pkb_and] at hc
          have h1 : (0 : Int) < ((ns0.length + 1 : Nat) : Int) := by omega
          simp only [h1, decide_true, Bool.true_and, decide_eq_false_iff_not] at hc
          exact hc
        clear hc
        have hst : stepM (l :: r) ⟨k, nm, tx, es, sf, a1, a2, a3⟩ = ⟨k, nm, tx, es, sf, a1, a2, a3⟩ :: l :: r := by
          unfold stepM
          rw [if_neg hk, if_neg ht0]
          dsimp only
          rw [if_neg hl0]
        refine sgo ?_
        refine wlb1a (size := 8) (vs := Tok.cells ⟨k, nm, tx, es, sf, a1, a2, a3⟩ mp mc) (fun b10 w10 hb10 o10 hf10 => ?_) (hx := rfl) (hv := rfl)
        have hrow10 := hrow6.frm hf10
        refine sgo ?_
        refine wlapp hrow10 o10.sg (fun q11 c11 w11 hr11 hl11 => ?_) (hl := rfl) (h1 := tok_one _ _ _)
        have hr11' : Row w11 8 q11 ((ns0 ++ [m2]) ++ [(⟨⟨k, nm, tx, es, sf, a1, a2, a3⟩, mp, mc⟩ : TokM)]).length c11 (((ns0 ++ [m2]) ++ [(⟨⟨k, nm, tx, es, sf, a1, a2, a3⟩, mp, mc⟩ : TokM)]).flatMap TokM.cells) := by rw [List.flatMap_append]; simpa [TokM.cells] using hr11
        have hfr11 : Frm w w11 := (hfr6.trans hf10).step hl11.1 hlow
        have hlow11 : ∀ x ∈ rb q11, w.heap.size ≤ x := hl11.fresh (hfr6.trans hf10) hlow
        have hB : ((ns0 ++ [m2]) ++ [(⟨⟨k, nm, tx, es, sf, a1, a2, a3⟩, mp, mc⟩ : TokM)]).map TokM.t = (accM ((ms.map TokM.t).take (i + 1))).reverse := by rw [List.map_append, hnt, hsnoc, hst]; simp
        refine sgo ?_
        exact ⟨(i + 1, q11, c11, (ns0 ++ [m2]) ++ [⟨⟨k, nm, tx, es, sf, a1, a2, a3⟩, mp, mc⟩]), ⟨congrArg (fun n => Value.slice q11 n c11) (by simp), rfl, rfl, rfl, trivial⟩, ⟨by omega, hB, hC, hr11', hlow11, fun a ha => by rcases List.mem_append.1 ha with h | h; exact hat2 a h; rw [List.mem_singleton.1 h]; exact hat0, hfr11⟩, by omega⟩
  · obtain rfl : i = ms.length := by omega
    have hall : (ms.map TokM.t).take ms.length = ms.map TokM.t := List.take_of_length_le (by simp)
    rw [hall] at hnt
    refine sgo ?_
    (first | refine fp1 (.inl rfl) rfl rfl ?_ | refine fp2 (.inl rfl) rfl rfl rfl ?_ | refine fp3 (.inl rfl) rfl rfl rfl rfl ?_ | refine fp0 (.inr rfl) rfl ?_ | refine fp0 (.inl rfl) rfl ?_ | refine fp1 (.inr rfl) rfl rfl ?_)
    exact ⟨hfr, q, cc, ns, rfl, hnt, hrow, fun x hx => Nat.le_trans hlo (hlow x hx), fun m hm => (hat2 m hm).frm hfr⟩
end Go.Proofs.Ytfomfplddncakaa

/-
  sievelaw07: TokenMerges.
-/
set_option linter.unusedSimpArgs false
set_option linter.unusedVariables false
set_option linter.unnecessarySimpa false
namespace Go.Proofs.Ytfomfplddncakaa
open Go Go.Sv Go.RowKit
theorem accP_like (ts : List Tok) : ∀ x ∈ accP ts, likeT ts x := by
  have key : ∀ (us acc : List Tok), (∀ t ∈ us, t ∈ ts) → (∀ x ∈ acc, likeT ts x) → ∀ x ∈ us.foldl stepP acc, likeT ts x := by
    intro us
    induction us with
    | nil => intro acc _ h; exact h
    | cons t us ih =>
      intro acc h1 h2
      exact ih _ (fun u hu => h1 u (List.mem_cons_of_mem _ hu)) (stepP_like h2 (h1 t List.mem_cons_self))
  exact key ts [] (fun _ h => h) (by simp)
theorem accP_txs (ts : List Tok) : txs (accP ts) ≤ txs ts := by
  have key : ∀ (us acc : List Tok), txs (us.foldl stepP acc) ≤ txs acc + txs us := by
    intro us
    induction us with
    | nil => intro acc; simp
    | cons t us ih =>
      intro acc
      have h1 := stepP_txs acc t
      have h2 := ih (stepP acc t)
      rw [txs_cons]
      simp only [List.foldl_cons]
      omega
  have := key ts []
  simpa [accP, txs] using this
theorem merge_small {ts : List Tok} (hs : ∀ t ∈ ts, t.small) (ht : txs ts ≤ 1048576) : ∀ x ∈ mergeR ts, x.small := by
  intro x hx
  have h1 : x ∈ accM ts := List.mem_reverse.1 hx
  rw [← accP_filter] at h1
  exact small_txs hs (accP_like ts) (Nat.le_trans (accP_txs ts) ht) x (List.mem_filter.1 h1).1
theorem merge_len (ts : List Tok) : (mergeR ts).length ≤ ts.length := by rw [mergeR, List.length_reverse]; exact accM_len ts
theorem mem_t {ns : List TokM} {ts : List Tok} (h : ns.map TokM.t = ts) (P : Tok → Prop) (hp : ∀ t ∈ ts, P t) : ∀ m ∈ ns, P m.t := fun m hm => hp _ (by rw [← h]; exact List.mem_map_of_mem hm)
theorem len_t {ns : List TokM} {ts : List Tok} (h : ns.map TokM.t = ts) : ns.length = ts.length := by rw [← h, List.length_map]

set_option maxHeartbeats 4000000 in
theorem tokenMerges_ok (ms : List TokM) (p : Option Addr) (c : Nat) (hb : wts ms ≤ 1048576) (w : World) (hT : Toks w p ms) :
    PureC Try.prog 6 #[.slice p ms.length c] w (.bool true) := by
  have hn : ms.length ≤ 1048576 := by
    have := sum_len (fun m : TokM => m.t.wt) ms (by intro m _; show 1 ≤ Tok.wt m.t; unfold Tok.wt; omega)
    unfold wts at hb; omega
  have hs : ∀ m ∈ ms, m.t.small := fun m hm => small_of_wt (Nat.le_trans (sum_mem (fun m : TokM => m.t.wt) ms hm) hb)
  have hsT : ∀ t ∈ ms.map TokM.t, t.small := fun t ht => by obtain ⟨m, hm, rfl⟩ := List.mem_map.1 ht; exact hs m hm
  have htx : txs (ms.map TokM.t) ≤ 1048576 := by
    have key : ∀ l : List TokM, txs (l.map TokM.t) ≤ wts l := by
      intro l
      induction l with
      | nil => simp [txs, wts]
      | cons m l ih =>
        have : wts (m :: l) = m.t.wt + wts l := by simp [wts]
        rw [List.map_cons, txs_cons, this]
        have : m.t.text.length ≤ m.t.wt := by unfold Tok.wt; omega
        omega
    exact Nat.le_trans (key ms) hb
  have hmS := merge_small hsT htx
  have hmL := merge_len (ms.map TokM.t)
  rw [List.length_map] at hmL
  refine enter (l := [.slice p ms.length c]) Try.func6 rfl Try.ntmps6 (by kernel_rfl) rfl ?_
  refine sgo ?_
  refine wlcall (copied_ok ms p c hn hs _ hT) ?_
  rintro _ w1 ⟨hf1, q1, c1, n1, rfl, e1, T1⟩
  have s1 := mem_t e1 Tok.small hsT
  have l1 := len_t e1
  rw [List.length_map] at l1
  refine sgo ?_
  refine wlcall (merge_ok n1 q1 c1 (by omega) s1 (by rw [e1]; exact htx) _ T1.toks) ?_
  rintro _ w2 ⟨hf2, q2, c2, n2, rfl, e2, T2⟩
  rw [e1] at e2
  have s2 := mem_t e2 Tok.small hmS
  have l2 := len_t e2
  have T1' := T1.frm hf2
  refine sgo ?_
  refine wlcall (merge_ok n1 q1 c1 (by omega) s1 (by rw [e1]; exact htx) _ T1'.toks) ?_
  rintro _ w3 ⟨hf3, q3, c3, n3, rfl, e3, T3⟩
  rw [e1] at e3
  have s3 := mem_t e3 Tok.small hmS
  have l3 := len_t e3
  have hf03 := (hf1.trans hf2).trans hf3
  refine sgo ?_
  refine wlcall (copied_ok ms p c hn hs _ (hT.frm hf03)) ?_
  rintro _ w4 ⟨hf4, q4, c4, n4, rfl, e4, T4⟩
  have l4 := len_t e4
  rw [List.length_map] at l4
  refine sgo ?_
  refine wlcall (refMerge_ok n4 q4 c4 _ (by omega) (by rw [e4]; exact htx) _ T4 hf4.size) ?_
  rintro _ w5 ⟨hf5, q5, c5, n5, rfl, e5, T5⟩
  rw [e4] at e5
  have s5 := mem_t e5 Tok.small hmS
  have l5 := len_t e5
  have T1a := ((T1'.frm hf3).frm hf4).frm hf5
  have T2a := ((T2.frm hf3).frm hf4).frm hf5
  have T3a := (T3.frm hf4).frm hf5
  have Tla := ((hT.frm hf03).frm hf4).frm hf5
  have hf05 := (hf03.trans hf4).trans hf5
  have b1 := T1.lt
  have b2 := T2.lt
  have b3 := T3.lt
  have z1 := hf1.size
  have z2 := hf2.size
  have z3 := hf3.size
  have e25 : ∀ pl, sameR pl (n2.map TokM.t) (n5.map TokM.t) = true := fun pl => by rw [e2, e5]; exact sameR_self pl _
  have e35 : ∀ pl, sameR pl (n3.map TokM.t) (n5.map TokM.t) = true := fun pl => by rw [e3, e5]; exact sameR_self pl _
  have e1l : ∀ pl, sameR pl (n1.map TokM.t) (ms.map TokM.t) = true := fun pl => by rw [e1]; exact sameR_self pl _
  refine sgo ?_
  refine wlpure (same_ok n2 n5 q2 q5 c2 c5 false (by omega) (by omega) s2 s5 _ T2a.toks T5.toks) fun w6 hf6 => ?_
  rw [e25]
  refine sgo ?_
  refine wlcallgp (vals := [.slice q1 n1.length c1, .slice p ms.length c, .bool true]) (fun _ => same_ok n1 ms q1 p c1 c true (by omega) hn s1 hs _ (T1a.frm hf6).toks (Tla.frm hf6)) fun w7 hf7 => ?_
  rw [e1l]
  have hf57 := hf6.trans hf7
  refine sgo ?_
  refine wlpure (same_ok n2 n5 q2 q5 c2 c5 true (by omega) (by omega) s2 s5 _ (T2a.frm hf57).toks (T5.frm hf57).toks) fun w8 hf8 => ?_
  rw [e25]
  have hf58 := hf57.trans hf8
  refine sgo ?_
  refine wlcall (spoil_ok n2 q2 c2 _ (by omega) (fun m hm => (s2 m hm).attrs) _ (T2a.frm hf58)) ?_
  rintro v9 w9 hl9
  have T1b := (T1a.frm hf58).le hl9 (fun x hx hx' => by have := b1 x hx; have := b2 x hx'; omega)
  have T3b := (T3a.frm hf58).le hl9 (fun x hx hx' => by have := b3 x hx; have := b2 x hx'; omega)
  have T5b := (T5.frm hf58).le hl9 (fun x hx hx' => by have := T5.low_all x hx; have := b2 x hx'; omega)
  have hf09 : Frm w w9 := (hf05.trans hf58).step hl9 (fun x hx => by have := b2 x hx; omega)
  refine sgo ?_
  refine wlcallgp (vals := [.slice q3 n3.length c3, .slice q5 n5.length c5, .bool true]) (fun _ => same_ok n3 n5 q3 q5 c3 c5 true (by omega) (by omega) s3 s5 _ T3b.toks T5b.toks) fun w10 hf10 => ?_
  rw [e35]
  refine sgo ?_
  refine wlcallgp (vals := [.slice q1 n1.length c1, .slice p ms.length c, .bool true]) (fun _ => same_ok n1 ms q1 p c1 c true (by omega) hn s1 hs _ (T1b.frm hf10).toks ((hT.frm hf09).frm hf10)) fun w11 hf11 => ?_
  rw [e1l]
  refine sgo ?_
  refine wlcallgp (vals := []) (fun _ => lives_ok _) (fun w12 hf12 => ?_) (ha := fun _ => rfl)
  have hfe := ((hf09.trans hf10).trans hf11).trans hf12
  refine sgo ?_
  (first | refine fp1 (.inl rfl) rfl rfl ?_ | refine fp2 (.inl rfl) rfl rfl rfl ?_ | refine fp3 (.inl rfl) rfl rfl rfl rfl ?_ | refine fp0 (.inr rfl) rfl ?_ | refine fp0 (.inl rfl) rfl ?_ | refine fp1 (.inr rfl) rfl rfl ?_); refine ⟨?_, by (first | exact Frm.refl _ | assumption | (refine Frm.trans ?_ (by assumption); first | exact Frm.refl _ | assumption))⟩; (try simp only [realB, rv_true, Nat.reduceBEq, cond_true, cond_false, entG, real_lif, updGL])
  rfl
end Go.Proofs.Ytfomfplddncakaa

/-
  From a frame to what a row asks behind the call: nothing that was there has turned (new blocks may be frozen).
-/
set_option linter.unusedSimpArgs false
set_option linter.unusedVariables false
set_option linter.unnecessarySimpa false
namespace Go.ChangeShapes
section
variable {H : Type} {enc : TypeId × Value → H} {P : Program}
theorem post_frm {f : Func} {s : ChangeSpec} {apart fresh handsOn again : Bool} {W W' : World} {args : Array Value} {v : Value} {ds gs : List (DataW H)} {before pa pv : List MemPlace}
    (hW : DataW.Whole enc P f.params.toList s.vars apart W args.toList ds gs before)
    (hres : ∀ (b : Nat) (sp : Nat → Bool) (hd : Bool), DataW.TrodAll enc P W' b sp hd f.resultTypes.toList (v.resultList f.resultTypes.size) (s.fn H (ds ++ gs)).results [])
    (hargs : ∀ sp : Nat → Bool, (∀ p ∈ before, sp p.block = true) → DataW.TrodAll enc P W' 0 sp true f.params.toList args.toList (s.fn H (ds ++ gs)).args pa)
    (hvars : ∀ sp : Nat → Bool, (∀ p ∈ before, sp p.block = true) → DataW.TrodVars enc P W' sp s.vars (s.fn H (ds ++ gs)).vars pv)
    (hps : before = pa ++ pv) (hk : Sv.Frm W W')
    (hok : ∀ (j : Nat) (t : TypeId) (r : Value), f.resultTypes[j]? = some t → (v.resultList f.resultTypes.size)[j]? = some r → Value.okWide P W' .any 0 t r) :
    s.post enc P f apart fresh handsOn again W args v W' := by
  have hold : ∀ p ∈ before, (fun b => decide (b < W.heap.size)) p.block = true := fun p hp => by simpa using hW.lt p hp
  refine ⟨ds, gs, before, [], pa, pv, hW, hres _ _ _, hargs _ hold, hvars _ hold, World.keptBut_mono (fun p hp => ⟨hp, ?_⟩) (RowKit.Below.frame hk (· ∈ before)), fun _ => ?_⟩
  · rw [hps, List.mem_append] at hp
    exact Or.inr hp
  · have hlt := hW.lt
    obtain ⟨_, _, _, _, _, hz, hn⟩ := hW
    refine ⟨hok, _, _, ([] ++ pa) ++ pv, ⟨[] ++ pa, pv, trodAll_append (hargs _ (fun _ _ => rfl)) (hres _ _ _), hvars _ (fun _ _ => rfl), rfl, ?_, ?_⟩, ?_⟩
    · intro b off hp
      have hp' : (.cell b off : MemPlace) ∈ before := by rw [hps]; simpa using hp
      rw [RowKit.Below.frozen hk (hlt _ hp')]
      exact hz b off hp'
    · intro ha
      have := hn ha
      rw [hps] at this
      simpa using this
    · intro p hp _
      rw [hps]
      simpa using hp
end
end Go.ChangeShapes

/-
  From a reading of the arguments to what lies in memory; and back: a law leaves the arguments as they were.
-/
set_option linter.unusedSimpArgs false
set_option linter.unusedVariables false
set_option linter.unnecessarySimpa false
namespace Go.Sv
open Go Go.RowKit Go.ChangeShapes Go.WideShapes
theorem cell_lt {w : World} {a : Addr} {v : Value} (h : w.cell? a = some v) : a.block < w.heap.size := by
  rcases Nat.lt_or_ge a.block w.heap.size with h1 | h1
  · exact h1
  · have : w.heap[a.block]? = none := Array.getElem?_eq_none h1
    simp [World.cell?, this] at h
theorem seg_app {w : World} {a : Addr} {l l' : List Value} (h : seg w a l) (h' : seg w (a.add l.length) l') : seg w a (l ++ l') := by
  intro i hi
  rcases Nat.lt_or_ge i l.length with h1 | h1
  · rw [h i h1, List.getElem?_append_left h1]
  · have := h' (i - l.length) (by simp at hi; omega)
    rw [add_add, show l.length + (i - l.length) = i by omega] at this
    rw [this, List.getElem?_append_right h1]
theorem seg_range {w : World} {a : Addr} {k : Nat} (f : Nat → List Value) : ∀ n : Nat, (∀ i, i < n → (f i).length = k ∧ seg w (a.add (i * k)) (f i)) → seg w a ((List.range n).flatMap f) ∧ ((List.range n).flatMap f).length = n * k
  | 0, _ => ⟨fun i hi => by simp at hi, by simp⟩
  | n + 1, h => by
    obtain ⟨h1, h2⟩ := seg_range f n fun i hi => h i (by omega)
    obtain ⟨h3, h4⟩ := h n (by omega)
    rw [List.range_succ, List.flatMap_append]
    simp only [List.flatMap_cons, List.flatMap_nil, List.append_nil]
    refine ⟨seg_app h1 (by rw [h2]; exact h4), ?_⟩
    rw [List.length_append, h2, h3, Nat.succ_mul]
/-- a law's ending: it answered true, and left all as it was -/
theorem trodAll_frm {H : Type} {enc : TypeId × Value → H} {P : Program} (hl : laidOutB P = true) {W W' : World} (hf : Sv.Frm W W') {sp : Nat → Bool} : ∀ {ts : List TypeId} {vs : List Value} {ds : List (DataW H)} {ps : List MemPlace},
    (∀ t ∈ ts, P.readableRec t = true ∧ t < P.types.size) → DataW.TrodAll enc P W 0 (fun _ => true) true ts vs ds ps → (∀ p ∈ ps, p.block < W.heap.size) → (∀ p ∈ ps, sp p.block = true) → DataW.TrodAll enc P W' 0 sp true ts vs ds ps
  | [], [], [], _, _, h, _, _ => h
  | t :: ts, v :: vs, d :: ds, _, ht, ⟨p, q, h1, h2, e⟩, hlt, hs => by
    subst e
    refine ⟨p, q, ?_, ?_, rfl⟩
    · obtain ⟨hr, hrow⟩ := ht t List.mem_cons_self
      exact WideElems.Trod_stays hl hr hrow h1 (fun x hx => RowKit.Below.same hf (hlt x (List.mem_append_left _ hx))) fun x hx => hs x (List.mem_append_left _ hx)
    · exact trodAll_frm hl hf (fun t ht' => ht t (List.mem_cons_of_mem _ ht')) h2 (fun x hx => hlt x (List.mem_append_right _ hx)) fun x hx => hs x (List.mem_append_right _ hx)
theorem law_ends {H : Type} {enc : TypeId × Value → H} {P : Program} {f : Func} {s : ChangeSpec} {W W' : World} {args : Array Value} {ds gs : List (DataW H)} {before : List MemPlace} {tb : TypeId}
    (hl : laidOutB P = true) (hT : ∀ t ∈ f.params.toList, P.readableRec t = true ∧ t < P.types.size) (hv : s.vars = []) (hrt : f.resultTypes = #[tb]) (hb : P.underlying tb = some .bool)
    (hW : DataW.Whole enc P f.params.toList s.vars false W args.toList ds gs before) (hfn : s.fn H (ds ++ gs) = { results := [.lit (.bool true)], args := ds ++ gs }) (hg : Frm W W') :
    s.post enc P f false true false false W args (.bool true) W' := by
  have hW' := hW
  have hlt := hW.lt
  obtain ⟨p, q, hA, hV, rfl, _, _⟩ := hW
  rw [hv] at hV
  obtain ⟨rfl, rfl⟩ := trodVars_none hV
  have hrl : (Value.bool true).resultList f.resultTypes.size = [.bool true] := by rw [hrt]; rfl
  simp only [List.append_nil] at hlt hfn
  refine post_frm (pa := p) (pv := []) hW' (fun _ _ _ => ?_) (fun sp hsp => ?_) (fun _ _ => ?_) rfl hg (ok_one hrt rfl (okWide_bool_mk hb _))
  · rw [hrt]
    simp only [List.append_nil, hfn]
    exact trodAll_cons_mk (shut_bool hb _) trodAll_mk0
  · simp only [List.append_nil, hfn]
    exact trodAll_frm hl hg hT hA hlt (fun x hx => hsp x (by simpa using hx))
  · simp only [List.append_nil, hfn, hv]
    rfl
end Go.Sv
namespace Go.Proofs.Ytfomfplddncakaa
open Go Go.Sv Go.RowKit Go.ChangeShapes Go.WideShapes Go.Deep

theorem laidOut : laidOutB Try.prog = true := by kernel_rfl
theorem own : ownKnob Try.prog.godebug = none := by kernel_rfl

section
variable {H : Type} {P : Program} {enc : TypeId × Value → H} {w : World} {base : Nat} {spare : Nat → Bool} {held : Bool}
theorem bulkAll_eq : ∀ l : List (DataW H), Rows.uptoBulkAll l = (l.map Rows.uptoBulk).sum
  | [] => by simp [Rows.uptoBulkAll]
  | d :: l => by simp only [Rows.uptoBulkAll, List.map_cons, List.sum_cons, bulkAll_eq l]
theorem bulk_slice (es rs : List (DataW H)) : Rows.uptoBulk (.slice es rs) = (es.map Rows.uptoBulk).sum + (rs.map Rows.uptoBulk).sum + 1 := by simp only [Rows.uptoBulk, bulkAll_eq]
theorem bulk_agg (es : List (DataW H)) : Rows.uptoBulk (.agg es) = (es.map Rows.uptoBulk).sum + 1 := by simp only [Rows.uptoBulk, bulkAll_eq]
theorem bulk_nil : Rows.uptoBulk (.nil : DataW H) = 1 := by simp only [Rows.uptoBulk]
theorem bulk_str (l : List UInt8) : Rows.uptoBulk (.lit (.string l) : DataW H) = l.length + 1 := by simp only [Rows.uptoBulk]
theorem bulk_int (k : IntKind) (n : Int) : Rows.uptoBulk (.lit (.int k n) : DataW H) = 1 := by simp only [Rows.uptoBulk]
theorem bulk_bool (b : Bool) : Rows.uptoBulk (.lit (.bool b) : DataW H) = 1 := by simp only [Rows.uptoBulk]

/-- a slice of records: what they are, where they lie, and what they hold together -/
theorem open_recs {t e : TypeId} {fuel : Nat} {cs : List Value} {x : DataW H × List MemPlace} {α : Type} (cells : α → List Value) (wt : α → Nat) (Q : α → Prop) (ht : P.underlying t = some (.slice e))
    (h : DataW.trod enc P w base spare held fuel t cs = some x)
    (hrec : ∀ k cs' y, cs'.length = P.cellsOf e → DataW.trod enc P w base spare held k e cs' = some y → ∃ r, cs' = cells r ∧ Q r ∧ wt r ≤ Rows.uptoBulk y.1) :
    ∃ (p : Option Addr) (c : Nat) (rs : List α), cs = [.slice p rs.length c] ∧ rs.length ≤ c ∧ c ≤ maxLen ∧ Im [] w p (rs.flatMap cells) ∧ (∀ r ∈ rs, Q r) ∧ (rs.map wt).sum + 1 ≤ Rows.uptoBulk x.1 := by
  rcases open_slice ht h with ⟨rfl, rfl⟩ | ⟨a, len, cap, m, n, D, Pl, rfl, _, hl, hm, hmm, rfl, hi⟩
  · exact ⟨none, 0, [], rfl, Nat.le_refl _, Nat.zero_le _, .inl rfl, by simp, by simp [bulk_nil]⟩
  · have hlm : len ≤ m := by rw [hmm]; split <;> omega
    have key : ∀ n : Nat, n ≤ len → ∃ rs : List α, rs.length = n ∧ rs.flatMap cells = (List.range n).flatMap (fun i => (w.cells? base (a.add (i * P.cellsOf e)) (P.cellsOf e)).getD []) ∧ (∀ r ∈ rs, Q r) ∧ (rs.map wt).sum ≤ ((List.range n).map fun i => Rows.uptoBulk (D i)).sum := by
      intro n
      induction n with
      | zero => intro _; exact ⟨[], rfl, rfl, by simp, by simp⟩
      | succ n ih =>
        intro hn
        obtain ⟨rs, h1, h2, h3, h4⟩ := ih (by omega)
        obtain ⟨cs', h5, h6⟩ := hi n (by omega)
        obtain ⟨_, hcl, _⟩ := World.cells?_some h5
        obtain ⟨r, h7, h8, h9⟩ := hrec _ _ _ hcl h6
        refine ⟨rs ++ [r], by simp [h1], ?_, ?_, ?_⟩
        · rw [List.range_succ, List.flatMap_append, List.flatMap_append, h2]
          simp [h5, h7]
        · intro x hx
          rcases List.mem_append.1 hx with hx | hx
          · exact h3 x hx
          · rw [List.mem_singleton.1 hx]; exact h8
        · rw [List.range_succ, List.map_append, List.map_append, List.sum_append, List.sum_append]
          simp only [List.map_cons, List.map_nil, List.sum_cons, List.sum_nil]
          dsimp only at h9
          omega
    obtain ⟨rs, h1, h2, h3, h4⟩ := key len (Nat.le_refl _)
    refine ⟨some a, cap, rs, by rw [h1], by omega, hm, ?_, h3, ?_⟩
    · rw [h2]
      have hsr := seg_range (w := w) (a := a) (k := P.cellsOf e) (fun i => (w.cells? base (a.add (i * P.cellsOf e)) (P.cellsOf e)).getD []) len (fun i hil => by
        obtain ⟨cs', h5, _⟩ := hi i (by omega)
        obtain ⟨_, hcl, hat⟩ := World.cells?_some h5
        rw [h5]
        exact ⟨hcl, fun j hj => hat j (by simpa [hcl] using hj)⟩)
      generalize (List.range len).flatMap (fun i => (w.cells? base (a.add (i * P.cellsOf e)) (P.cellsOf e)).getD []) = L at *
      cases L with
      | nil => exact .inl rfl
      | cons v L =>
        refine .inr ⟨a, rfl, hsr.1, ?_, by simp⟩
        have := hsr.1 0 (by simp)
        have h0 : w.cell? (a.add 0) = some v := this
        have := cell_lt h0
        rwa [add_block] at this
    · rw [bulk_slice, List.map_map]
      have : ((List.range len).map (Rows.uptoBulk ∘ D)).sum = ((List.range len).map fun i => Rows.uptoBulk (D i)).sum := rfl
      omega
theorem str_of (s : ByteArray) : Value.string s = str s.data.toList := by cases s; rfl
/-- a cell that is a text -/
theorem open_strc {t : TypeId} {fuel : Nat} {cs : List Value} {x : DataW H × List MemPlace} (ht : P.underlying t = some .string) (h : DataW.trod enc P w base spare held fuel t cs = some x) : ∃ l : List UInt8, cs = [str l] ∧ Rows.uptoBulk x.1 = l.length + 1 := by
  obtain ⟨s, rfl, rfl, _⟩ := DataW.trod_string ht h
  exact ⟨s.data.toList, by rw [str_of], bulk_str _⟩
theorem open_intc {t : TypeId} {k : IntKind} {fuel : Nat} {cs : List Value} {x : DataW H × List MemPlace} (ht : P.underlying t = some (.int k)) (h : DataW.trod enc P w base spare held fuel t cs = some x) : ∃ n : Int, cs = [.int k n] ∧ k.min ≤ n ∧ n ≤ k.max ∧ Rows.uptoBulk x.1 = 1 := by
  obtain ⟨n, rfl, rfl, hw⟩ := DataW.trod_int ht h
  simp only [Lit.wf, IntKind.has, Bool.and_eq_true, decide_eq_true_eq] at hw
  exact ⟨n, rfl, hw.1, hw.2, bulk_int _ _⟩
theorem open_boolc {t : TypeId} {fuel : Nat} {cs : List Value} {x : DataW H × List MemPlace} (ht : P.underlying t = some .bool) (h : DataW.trod enc P w base spare held fuel t cs = some x) : ∃ b : Bool, cs = [.bool b] ∧ Rows.uptoBulk x.1 = 1 := by
  obtain ⟨b, rfl, rfl⟩ := DataW.trod_bool ht h
  exact ⟨b, rfl, bulk_bool _⟩
theorem small_le {ds : List (DataW H)} (hk : Rows.uptoSmall H ds = true) : (ds.map Rows.uptoBulk).sum ≤ 1048576 := by
  have := of_decide_eq_true hk
  rwa [bulkAll_eq] at this
end
end Go.Proofs.Ytfomfplddncakaa

/-
  Readings of attributes and tokens: what lies in memory.
-/
set_option linter.unusedSimpArgs false
set_option linter.unusedVariables false
set_option linter.unnecessarySimpa false
namespace Go.Proofs.Ytfomfplddncakaa
open Go Go.Sv Go.RowKit Go.ChangeShapes Go.WideShapes Go.Deep

theorem c_str : Try.prog.cellsOf 9 = 1 := by kernel_rfl
theorem c_bool : Try.prog.cellsOf 4 = 1 := by kernel_rfl
theorem c_int : Try.prog.cellsOf 3 = 1 := by kernel_rfl
theorem c_kind : Try.prog.cellsOf 24 = 1 := by kernel_rfl
theorem c_place : Try.prog.cellsOf 27 = 3 := by kernel_rfl
theorem c_attrs : Try.prog.cellsOf 25 = 1 := by kernel_rfl
theorem c_attr : Try.prog.cellsOf 42 = 2 := by kernel_rfl
theorem c_tok : Try.prog.cellsOf 29 = 8 := by kernel_rfl
section
variable {H : Type} {enc : TypeId × Value → H} {w : World} {base : Nat} {spare : Nat → Bool} {held : Bool}
set_option maxRecDepth 100000 in
theorem open_at {fuel : Nat} {cs : List Value} {x : DataW H × List MemPlace} (h : DataW.trod enc Try.prog w base spare held fuel 42 cs = some x) : ∃ r : At, cs = r.cells ∧ True ∧ r.wt ≤ Rows.uptoBulk x.1 := by
  obtain ⟨xs, n, _, rfl, hl, hlen, hf⟩ := DataW.trod_struct Try.underlying42 h
  rw [c_attr] at hl
  have f0 := hf 0 _ rfl
  have f1 := hf 1 _ rfl
  clear hf h
  match cs, hl with
  | [c0, c1], _ =>
    match xs, hlen with
    | [y0, y1], _ =>
      simp only [c_str, List.drop_zero, List.drop_succ_cons, List.take_succ_cons, List.take_zero, List.getElem?_cons_zero, List.getElem?_cons_succ] at f0 f1
      obtain ⟨l0, e0, b0⟩ := open_strc Try.underlying9 f0
      obtain ⟨l1, e1, b1⟩ := open_strc Try.underlying9 f1
      injection e0 with e0
      injection e1 with e1
      subst e0 e1
      refine ⟨⟨l0, l1⟩, rfl, trivial, ?_⟩
      rw [bulk_agg]
      simp only [List.map_cons, List.map_nil, List.sum_cons, List.sum_nil, b0, b1, At.wt]
      omega
set_option maxRecDepth 100000 in
theorem open_tok {fuel : Nat} {cs : List Value} {x : DataW H × List MemPlace} (h : DataW.trod enc Try.prog w base spare held fuel 29 cs = some x) : ∃ r : TokM, cs = r.cells ∧ Im [] w r.p (r.t.attrs.flatMap At.cells) ∧ r.t.wt ≤ Rows.uptoBulk x.1 := by
  obtain ⟨xs, n, _, rfl, hl, hlen, hf⟩ := DataW.trod_struct Try.underlying29 h
  rw [c_tok] at hl
  have f0 := hf 0 _ rfl
  have f1 := hf 1 _ rfl
  have f2 := hf 2 _ rfl
  have f3 := hf 3 _ rfl
  have f4 := hf 4 _ rfl
  have f5 := hf 5 _ rfl
  clear hf h
  match cs, hl with
  | [c0, c1, c2, c3, c4, c5, c6, c7], _ =>
    match xs, hlen with
    | [y0, y1, y2, y3, y4, y5], _ =>
      simp only [c_str, c_bool, c_kind, c_place, c_attrs, List.drop_zero, List.drop_succ_cons, List.take_succ_cons, List.take_zero, List.getElem?_cons_zero, List.getElem?_cons_succ] at f0 f1 f2 f3 f4 f5
      obtain ⟨k, e0, _, _, b0⟩ := open_intc Try.underlying24 f0
      obtain ⟨l1, e1, b1⟩ := open_strc Try.underlying9 f1
      obtain ⟨l2, e2, b2⟩ := open_strc Try.underlying9 f2
      obtain ⟨p, c, es, e3, _, _, him, _, b3⟩ := open_recs At.cells At.wt (fun _ => True) Try.underlying25 f3 (fun k cs' y _ hy => open_at hy)
      obtain ⟨b, e4, b4⟩ := open_boolc Try.underlying4 f4
      obtain ⟨zs, m, _, rfl, _, hzl, hz⟩ := DataW.trod_struct Try.underlying27 f5
      have g0 := hz 0 _ rfl
      have g1 := hz 1 _ rfl
      have g2 := hz 2 _ rfl
      clear hz
      match zs, hzl with
      | [z0, z1, z2], _ =>
        simp only [c_int, List.drop_zero, List.drop_succ_cons, List.take_succ_cons, List.take_zero, List.getElem?_cons_zero, List.getElem?_cons_succ] at g0 g1 g2
        obtain ⟨n0, e5, _, _, b5⟩ := open_intc Try.underlying3 g0
        obtain ⟨n1, e6, _, _, b6⟩ := open_intc Try.underlying3 g1
        obtain ⟨n2, e7, _, _, b7⟩ := open_intc Try.underlying3 g2
        injection e0 with e0; injection e1 with e1; injection e2 with e2; injection e3 with e3; injection e4 with e4; injection e5 with e5; injection e6 with e6; injection e7 with e7
        subst e0 e1 e2 e3 e4 e5 e6 e7
        refine ⟨⟨⟨k, l1, l2, es, b, n0, n1, n2⟩, p, c⟩, rfl, him, ?_⟩
        simp only [bulk_agg, List.map_cons, List.map_nil, List.sum_cons, List.sum_nil, b0, b1, b2, b4, b5, b6, b7]
        unfold Tok.wt
        dsimp only at b3 ⊢
        omega
set_option maxRecDepth 100000 in
theorem open_toks {v : Value} {d : DataW H} {ps : List MemPlace} {r : Reach} {b0 : Nat} (hv : Value.okWide Try.prog w r b0 23 v) (h : DataW.Trod enc Try.prog w base spare held 23 v d ps) :
    ∃ (p : Option Addr) (c : Nat) (ms : List TokM), v = .slice p ms.length c ∧ Toks w p ms ∧ wts ms + 1 ≤ Rows.uptoBulk d := by
  obtain ⟨a, n, cc, rfl⟩ := okWide_slice Try.underlying23 hv
  obtain ⟨fuel, hf⟩ := h
  obtain ⟨p, c, ms, e, _, _, him, hQ, hw⟩ := open_recs TokM.cells (fun m => m.t.wt) (fun m => Im [] w m.p (m.t.attrs.flatMap At.cells)) Try.underlying23 hf (fun k cs' y _ hy => open_tok hy)
  have e' : Value.slice a n cc = .slice p ms.length c := by simpa [Value.cells] using e
  exact ⟨p, c, ms, e', ⟨him, hQ⟩, hw⟩
set_option maxRecDepth 100000 in
theorem open_tok1 {v : Value} {d : DataW H} {ps : List MemPlace} {r : Reach} {b0 : Nat} (hv : Value.okWide Try.prog w r b0 29 v) (h : DataW.Trod enc Try.prog w base spare held 29 v d ps) :
    ∃ m : TokM, v = .agg ⟨m.cells⟩ ∧ Im [] w m.p (m.t.attrs.flatMap At.cells) ∧ m.t.wt ≤ Rows.uptoBulk d := by
  obtain ⟨cs, rfl, _⟩ := okWide_struct Try.underlying29 hv
  obtain ⟨fuel, hf⟩ := h
  obtain ⟨m, e, him, hw⟩ := open_tok hf
  refine ⟨m, ?_, him, hw⟩
  have e' : cs.toList = m.cells := by simpa [Value.cells] using e
  rw [← e']
set_option maxRecDepth 100000 in
theorem open_str1 {v : Value} {d : DataW H} {ps : List MemPlace} {r : Reach} {b0 : Nat} (hv : Value.okWide Try.prog w r b0 9 v) (h : DataW.Trod enc Try.prog w base spare held 9 v d ps) :
    ∃ l : List UInt8, v = str l ∧ l.length + 1 ≤ Rows.uptoBulk d := by
  obtain ⟨s, rfl⟩ := okWide_string Try.underlying9 hv
  obtain ⟨fuel, hf⟩ := h
  obtain ⟨l, e, hw⟩ := open_strc Try.underlying9 hf
  dsimp only at hw
  exact ⟨l, by simpa [Value.cells] using e, by omega⟩
end
end Go.Proofs.Ytfomfplddncakaa

