/-
  Attributes: which may be.
-/
import Derived.Test.YtfomfplddncakaaSvTokB
import Derived.Test.YtfomfplddncakaaSvMap
namespace Go.Proofs.Ytfomfplddncakaa
open Go Go.Sv Go.RowKit

structure At where
  n : List UInt8
  v : List UInt8
  deriving DecidableEq
def At.cells (x : At) : List Value := [str x.n, str x.v]
theorem At.len (x : At) : x.cells.length = 2 := rfl
def At.small (x : At) : Prop := x.n.length ≤ 1048576 ∧ x.v.length ≤ 1048576
def atOk (x : At) : Bool := nameR true x.n && validR x.v
def attrsF : List (List UInt8) → List At → Bool
  | _, [] => true
  | seen, a :: es => (atOk a && !decide (a.n ∈ seen)) && attrsF (seen ++ [a.n]) es
/-- may attributes be? -/
def attrsR (l : List At) : Bool := attrsF [] l

set_option maxHeartbeats 2000000 in
theorem attrs_ok (es : List At) (p : Option Addr) (n c : Nat) (hn : n = es.length) (hb : es.length ≤ 1048576) (hs : ∀ x ∈ es, x.small) (w : World) (hi : Im [] w p (es.flatMap At.cells)) :
    PureC Try.prog 35 #[.slice p n c] w (.bool (attrsR es)) := by
  refine enter (l := [.slice p n c]) Try.func35 rfl Try.ntmps35 (by kernel_rfl) rfl ?_
  refine sgo ?_
  refine wlmap fun m w1 hm1 hM hf1 => ?_
  refine sgo ?_
  have hfl := fm_len At.len es
  refine wcloop (X := Nat) (fun i => [(3, .map (some m)), (7, .slice p n c), (8, int n), (9, int i)])
    (fun i wr => i ≤ es.length ∧ attrsR es = attrsF ((es.take i).map (·.n)) (es.drop i) ∧ Frm w wr ∧ MSet wr m ((es.take i).map (·.n))) (fun i => es.length - i) 0 ⟨rfl, rfl, rfl, rfl, trivial⟩ ⟨by omega, by simp [attrsR], hf1, by simpa using hM⟩ ?_
  rintro i wr ρ ⟨hil, hv, hfr, hMr⟩
  refine sgo ?_
  (show WC _ _ _ _ _ _ _; first | refine WC_dec rfl (fun hc => ?_) (fun hc => ?_) | refine WC_cond rfl (fun hc => ?_) (fun hc => ?_))
  · have hlt : i < es.length := by omega
    have hSg := (hi.frm hfr).sg
    have hx : es[i]? = some es[i] := List.getElem?_eq_getElem hlt
    have hseg := fm_seg At.len es hx
    have hdr : es.drop i = es[i] :: es.drop (i + 1) := List.drop_eq_getElem_cons hlt
    have htk : (es.take (i + 1)).map (·.n) = (es.take i).map (·.n) ++ [es[i].n] := by rw [List.take_add_one, hx, List.map_append]; rfl
    have hsm := hs es[i] (List.getElem_mem hlt)
    generalize es[i] = a at *
    rw [hdr] at hv
    generalize hsn : (es.take i).map (·.n) = seen at *
    have hps : ∃ q, p = some q := hSg.some (by omega)
    refine sgo ?_
    refine wlalloc fun b w2 hb1 ho hf2 => ?_
    refine wlstorea0 (hv := by exact ⟨by rw [hseg]; rfl, rfl⟩) (h1 := by rw [hseg]; simp [At.cells, Value.oneCell']) ho fun w3 ho3 hl3 => ?_
    rw [hseg] at ho3
    have hb2 : w.heap.size ≤ b := Nat.le_trans hfr.size hb1
    have hfr3 := (hfr.trans hf2).step hl3 (by simpa using hb2)
    have hmb : m ≠ b := by have := hMr.lt; omega
    replace hMr := (hMr.frm hf2).le hl3 (by simpa using hmb)
    simp only [At.cells] at ho3
    clear hseg
    refine sgo ?_
    refine wlpure (name_ok a.n true hsm.1 _) fun w4 hf4 => ?_
    have ho4 := ho3.frm hf4
    refine sgo ?_
    refine wlcallgp (vals := [str a.v]) (fun _ => tokValid_ok a.v hsm.2 _) fun w5 hf5 => ?_
    replace hMr := (hMr.frm hf4).frm hf5
    have ho5 := ho4.frm hf5
    have hfr5 := (hfr3.trans hf4).trans hf5
    clear ho ho3 ho4
    refine sgo ?_
    refine wlg_mset (s := a.n) hMr ?_
    refine sgo ?_
    have hbad : attrsR es = (!(pkb (pkb (!nameR true a.n) true !validR a.v) true (decide (a.n ∈ seen))) && attrsF (seen ++ [a.n]) (es.drop (i + 1))) := by
      rw [hv, attrsF]
      simp only [pkb_or, atOk]
      cases nameR true a.n <;> cases validR a.v <;> simp
    (show WC _ _ _ _ _ _ _; first | refine WC_dec rfl (fun hc => ?_) (fun hc => ?_) | refine WC_cond rfl (fun hc => ?_) (fun hc => ?_))
    · rw [hc, Bool.not_true, Bool.false_and] at hbad
      refine sgo ?_
      (first | refine fp1 (.inl rfl) rfl rfl ?_ | refine fp2 (.inl rfl) rfl rfl rfl ?_ | refine fp3 (.inl rfl) rfl rfl rfl rfl ?_ | refine fp0 (.inr rfl) rfl ?_ | refine fp0 (.inl rfl) rfl ?_ | refine fp1 (.inr rfl) rfl rfl ?_); refine ⟨?_, by (first | exact Frm.refl _ | assumption | (refine Frm.trans ?_ (by assumption); first | exact Frm.refl _ | assumption))⟩; (try simp only [realB, rv_true, Nat.reduceBEq, cond_true, cond_false, entG, real_lif, updGL])
      rw [hbad]
    · have hns : a.n ∉ seen := by
        simp only [pkb_or, Bool.or_eq_false_iff, decide_eq_false_iff_not] at hc
        exact hc.2
      rw [hc, Bool.not_false, Bool.true_and] at hbad
      refine sgo ?_
      refine wlmadd (s := a.n) hMr hns fun w6 hM6 hl6 => ?_
      have hfr6 := hfr5.step hl6 (by intro x hx; simp only [List.mem_singleton] at hx; subst hx; exact Nat.le_trans (Nat.le_refl _) hm1)
      refine sgo ?_
      refine ⟨i + 1, ⟨rfl, rfl, rfl, rfl, trivial⟩, ⟨by omega, ?_, hfr6, ?_⟩, by omega⟩
      · rw [hbad, htk]
      · rw [htk]; exact hM6
  · refine sgo ?_
    (first | refine fp1 (.inl rfl) rfl rfl ?_ | refine fp2 (.inl rfl) rfl rfl rfl ?_ | refine fp3 (.inl rfl) rfl rfl rfl rfl ?_ | refine fp0 (.inr rfl) rfl ?_ | refine fp0 (.inl rfl) rfl ?_ | refine fp1 (.inr rfl) rfl rfl ?_); refine ⟨?_, by (first | exact Frm.refl _ | assumption | (refine Frm.trans ?_ (by assumption); first | exact Frm.refl _ | assumption))⟩; (try simp only [realB, rv_true, Nat.reduceBEq, cond_true, cond_false, entG, real_lif, updGL])
    rw [hv, List.drop_eq_nil_of_le (by omega)]; rfl

set_option maxHeartbeats 2000000 in
theorem refAttrs_ok (es : List At) (p : Option Addr) (n c : Nat) (hn : n = es.length) (hb : es.length ≤ 1048576) (hs : ∀ x ∈ es, x.small) (w : World) (hi : Im [] w p (es.flatMap At.cells)) :
    PureC Try.prog 29 #[.slice p n c] w (.bool (attrsR es)) := by
  refine enter (l := [.slice p n c]) Try.func29 rfl Try.ntmps29 (by kernel_rfl) rfl ?_
  refine sgo ?_
  have hfl := fm_len At.len es
  refine wcloop (X := Nat) (fun i => [(0, .slice p n c), (6, .slice p n c), (7, int n), (8, int i)])
    (fun i wr => i ≤ es.length ∧ attrsR es = attrsF ((es.take i).map (·.n)) (es.drop i) ∧ Frm w wr) (fun i => es.length - i) 0 ⟨rfl, rfl, rfl, rfl, trivial⟩ ⟨by omega, by simp [attrsR], Frm.refl _⟩ ?_
  rintro i wr ρ ⟨hil, hv, hfr⟩
  refine sgo ?_
  (show WC _ _ _ _ _ _ _; first | refine WC_dec rfl (fun hc => ?_) (fun hc => ?_) | refine WC_cond rfl (fun hc => ?_) (fun hc => ?_))
  · have hlt : i < es.length := by omega
    have hSg := (hi.frm hfr).sg
    have hx : es[i]? = some es[i] := List.getElem?_eq_getElem hlt
    have hseg := fm_seg At.len es hx
    have hdr : es.drop i = es[i] :: es.drop (i + 1) := List.drop_eq_getElem_cons hlt
    have htk : (es.take (i + 1)).map (·.n) = (es.take i).map (·.n) ++ [es[i].n] := by rw [List.take_add_one, hx, List.map_append]; rfl
    have hsm := hs es[i] (List.getElem_mem hlt)
    generalize es[i] = a at *
    rw [hdr] at hv
    have hps : ∃ q, p = some q := hSg.some (by omega)
    refine sgo ?_
    refine wlalloc fun b w2 hb1 ho hf2 => ?_
    refine sgo ?_
    refine wlstorea0 (hv := by exact ⟨by rw [hseg]; rfl, rfl⟩) (h1 := by rw [hseg]; simp [At.cells, Value.oneCell']) ho fun w3 ho3 hl3 => ?_
    rw [hseg] at ho3
    have hb2 : w.heap.size ≤ b := Nat.le_trans hfr.size hb1
    have hfr3 := (hfr.trans hf2).step hl3 (by simpa using hb2)
    simp only [At.cells] at ho3
    clear hseg
    refine sgo ?_
    refine wlpure (attrName_ok a.n hsm.1 _) fun w4 hf4 => ?_
    have ho4 := ho3.frm hf4
    refine sgo ?_
    refine wlcallgp (vals := [str a.v]) (fun _ => refValid7_ok a.v hsm.2 _) fun w5 hf5 => ?_
    have ho5 := ho4.frm hf5
    have hfr5 := (hfr3.trans hf4).trans hf5
    clear ho ho3 ho4 hSg
    refine sgo ?_
    have hbad : attrsR es = (!(pkb (pkb (!nameR true a.n) true !validR a.v) true (decide (a.n ∈ (es.take i).map (·.n)))) && attrsF ((es.take i).map (·.n) ++ [a.n]) (es.drop (i + 1))) := by
      rw [hv, attrsF]
      simp only [pkb_or, atOk]
      cases nameR true a.n <;> cases validR a.v <;> simp
    (show WC _ _ _ _ _ _ _; first | refine WC_dec rfl (fun hc => ?_) (fun hc => ?_) | refine WC_cond rfl (fun hc => ?_) (fun hc => ?_))
    · rw [hc, pkb_or, Bool.true_or, Bool.not_true, Bool.false_and] at hbad
      refine sgo ?_
      (first | refine fp1 (.inl rfl) rfl rfl ?_ | refine fp2 (.inl rfl) rfl rfl rfl ?_ | refine fp3 (.inl rfl) rfl rfl rfl rfl ?_ | refine fp0 (.inr rfl) rfl ?_ | refine fp0 (.inl rfl) rfl ?_ | refine fp1 (.inr rfl) rfl rfl ?_); refine ⟨?_, by (first | exact Frm.refl _ | assumption | (refine Frm.trans ?_ (by assumption); first | exact Frm.refl _ | assumption))⟩; (try simp only [realB, rv_true, Nat.reduceBEq, cond_true, cond_false, entG, real_lif, updGL])
      rw [hbad]
    · rw [hc, pkb_or, Bool.false_or] at hbad
      refine sgo ?_
      refine wcloop (X := Nat) (fun k => [(0, .slice p n c), (3, int i), (4, ptrAt (pb b) 0), (5, int k), (6, .slice p n c), (7, int n), (8, int i)])
        (fun k wk => k ≤ i ∧ (∀ j x, j < k → es[j]? = some x → x.n ≠ a.n) ∧ Frm w wk ∧ Own wk b [str a.n, str a.v]) (fun k => i - k) 0 ⟨rfl, rfl, rfl, rfl, rfl, rfl, rfl, trivial⟩ ⟨by omega, by intro j x hj; omega, hfr5, ho5⟩ ?_
      rintro k wk ρk ⟨hk, hne, hfrk, hok⟩
      refine sgo ?_
      (show WC _ _ _ _ _ _ _; first | refine WC_dec rfl (fun hc => ?_) (fun hc => ?_) | refine WC_cond rfl (fun hc => ?_) (fun hc => ?_))
      · have hltk : k < es.length := by omega
        have hxk : es[k]? = some es[k] := List.getElem?_eq_getElem hltk
        have hgk : (es.flatMap At.cells)[k * 2]? = some (str es[k].n) := by
          have := fm_get At.len es k 0 (by omega)
          rw [Nat.add_zero, hxk] at this
          exact this
        generalize es[k] = a2 at *
        have hIk := hi.frm hfrk
        refine sgo ?_
        (first | refine WC_seq ?_ | skip); refine wcdraw ?_
        refine qgo ?_
        refine QL_nil ?_; intro wd hwd
        have hfrd := hfrk.trans hwd
        have hod := hok.frm hwd
        refine sgo ?_
        (show WC _ _ _ _ _ _ _; first | refine WC_dec rfl (fun hc => ?_) (fun hc => ?_) | refine WC_cond rfl (fun hc => ?_) (fun hc => ?_))
        · have hm : a.n ∈ (es.take i).map (·.n) := by
            refine List.mem_map.2 ⟨a2, ?_, hc⟩
            refine List.mem_of_getElem? (i := k) ?_
            rw [List.getElem?_take_of_lt (by omega)]; exact hxk
          rw [decide_eq_true hm, Bool.not_true, Bool.false_and] at hbad
          refine sgo ?_
          (first | refine fp1 (.inl rfl) rfl rfl ?_ | refine fp2 (.inl rfl) rfl rfl rfl ?_ | refine fp3 (.inl rfl) rfl rfl rfl rfl ?_ | refine fp0 (.inr rfl) rfl ?_ | refine fp0 (.inl rfl) rfl ?_ | refine fp1 (.inr rfl) rfl rfl ?_); refine ⟨?_, by (first | exact Frm.refl _ | assumption | (refine Frm.trans ?_ (by assumption); first | exact Frm.refl _ | assumption))⟩; (try simp only [realB, rv_true, Nat.reduceBEq, cond_true, cond_false, entG, real_lif, updGL])
          rw [hbad]
        · have hcn : a2.n ≠ a.n := hc
          refine sgo ?_
          refine ⟨k + 1, ⟨rfl, rfl, rfl, rfl, rfl, rfl, rfl, trivial⟩, ⟨by omega, ?_, hfrd, hod⟩, by omega⟩
          intro j x hj hjx
          rcases Nat.lt_or_ge j k with h | h
          · exact hne j x h hjx
          · obtain rfl : j = k := by omega
            rw [hxk] at hjx
            obtain rfl := Option.some.inj hjx
            exact hcn
      · have hm : a.n ∉ (es.take i).map (·.n) := by
          intro hm
          obtain ⟨x, hx1, hx2⟩ := List.mem_map.1 hm
          obtain ⟨j, hj⟩ := List.mem_iff_getElem?.1 hx1
          have hji : j < i := by
            rcases Nat.lt_or_ge j i with h | h
            · exact h
            · rw [List.getElem?_eq_none (by simp; omega)] at hj; cases hj
          rw [List.getElem?_take_of_lt hji] at hj
          exact hne j x (by omega) hj hx2
        rw [decide_eq_false hm, Bool.not_false, Bool.true_and] at hbad
        refine sgo ?_
        refine ⟨i + 1, ⟨rfl, rfl, rfl, rfl, trivial⟩, ⟨by omega, ?_, hfrk⟩, by omega⟩
        rw [hbad, htk]
  · refine sgo ?_
    (first | refine fp1 (.inl rfl) rfl rfl ?_ | refine fp2 (.inl rfl) rfl rfl rfl ?_ | refine fp3 (.inl rfl) rfl rfl rfl rfl ?_ | refine fp0 (.inr rfl) rfl ?_ | refine fp0 (.inl rfl) rfl ?_ | refine fp1 (.inr rfl) rfl rfl ?_); refine ⟨?_, by (first | exact Frm.refl _ | assumption | (refine Frm.trans ?_ (by assumption); first | exact Frm.refl _ | assumption))⟩; (try simp only [realB, rv_true, Nat.reduceBEq, cond_true, cond_false, entG, real_lif, updGL])
    rw [hv, List.drop_eq_nil_of_le (by omega)]; rfl
end Go.Proofs.Ytfomfplddncakaa
