/-
  sievelaw07: TokenPrints, walked.
-/
import Derived.Test.YtfomfplddncakaaSvTokH
namespace Go.Proofs.Ytfomfplddncakaa
open Go Go.Sv Go.RowKit

def mln (m : TokM) : List UInt8 := if mayR m.t then lnR m.t else []
def mlns (ms : List TokM) : List UInt8 := ms.flatMap mln
theorem mlns_take_succ {ms : List TokM} {i : Nat} {m : TokM} (hx : ms[i]? = some m) : mlns (ms.take (i + 1)) = mlns (ms.take i) ++ mln m := by
  unfold mlns
  rw [List.take_add_one, hx, List.flatMap_append]; simp
theorem mlns_take (ms : List TokM) (i : Nat) : (mlns (ms.take i)).length ≤ 3 * wts ms := by
  have h1 := len_flat mln (fun m => m.t.wt) 3 (ms.take i) fun m _ => by
    unfold mln
    split
    · exact lnR_len m.t
    · simp
  have h2 := sum_take (fun m : TokM => m.t.wt) ms i
  unfold mlns wts
  omega
theorem mlns_all {ms : List TokM} (h : allMay ms = true) : mlns ms = lns ms := by
  unfold mlns lns
  unfold allMay at h
  rw [List.all_eq_true] at h
  induction ms with
  | nil => rfl
  | cons m ms ih =>
    rw [List.flatMap_cons, List.flatMap_cons, ih fun m hm => h m (List.mem_cons_of_mem _ hm)]
    unfold mln
    rw [if_pos (h m List.mem_cons_self)]

set_option maxHeartbeats 1000000 in
theorem tokenPrints_ok (ms : List TokM) (p : Option Addr) (c : Nat) (hb : wts ms ≤ 1048576) (w : World) (hT : Toks w p ms) :
    PureC Try.prog 4 #[.slice p ms.length c] w (.bool true) := by
  have hnl : ms.length ≤ 1048576 := by
    have := sum_len (fun m : TokM => m.t.wt) ms (by intro m _; show 1 ≤ Tok.wt m.t; unfold Tok.wt; omega)
    unfold wts at hb; omega
  refine enter (l := [.slice p ms.length c]) Try.func4 rfl Try.ntmps4 (by kernel_rfl) rfl ?_
  refine sgo ?_
  refine wcloop (X := Nat) (fun i => [(0, .slice p ms.length c), (3, str (mlns (ms.take i))), (4, .bool (allMay (ms.take i))), (11, .slice p ms.length c), (12, int ms.length), (13, int i)])
    (fun i wr => i ≤ ms.length ∧ Frm w wr)
    (fun i => ms.length - i) 0 ⟨rfl, rfl, rfl, rfl, rfl, rfl, trivial⟩ ⟨by omega, Frm.refl _⟩ ?_
  rintro i wr ρ ⟨hil, hfr⟩
  have hTr := hT.frm hfr
  have hlr := mlns_take ms i
  refine sgo ?_
  (show WC _ _ _ _ _ _ _; first | refine WC_dec rfl (fun hc => ?_) (fun hc => ?_) | refine WC_cond rfl (fun hc => ?_) (fun hc => ?_))
  · have hlt : i < ms.length := by omega
    have hSg := hTr.im.sg
    have hx : ms[i]? = some ms[i] := List.getElem?_eq_getElem hlt
    have hseg := fm_seg TokM.len ms hx
    have hmem : ms[i] ∈ ms := List.getElem_mem hlt
    have hat := hTr.each _ hmem
    have hwt : ms[i].t.wt ≤ 1048576 := Nat.le_trans (sum_mem (fun m : TokM => m.t.wt) ms hmem) hb
    have hms := allMay_take_succ hx
    have hls := mlns_take_succ hx
    have hl2 := mlns_take ms (i + 1)
    generalize ms[i] = m at *
    have hps : ∃ q, p = some q := hSg.some (by have := fm_len TokM.len ms; omega)
    have hfl := fm_len TokM.len ms
    generalize hS : mlns (ms.take i) = S at *
    generalize hok : allMay (ms.take i) = ok at *
    refine sgo ?_
    refine wlalloc fun b2 w2 hb2 ho hf2 => ?_
    refine wlstorea0 (hv := by exact ⟨by rw [hseg]; rfl, rfl⟩) (h1 := by rw [hseg]; simp [TokM.cells, Tok.cells, Value.oneCell']) ho fun w3 ho3 hl3 => ?_
    rw [hseg] at ho3
    have hb2w : w.heap.size ≤ b2 := Nat.le_trans hfr.size hb2
    have hfr3 := (hfr.trans hf2).step hl3 (by simpa using hb2w)
    have hat3 : Im [] w3 m.p (m.t.attrs.flatMap At.cells) := ((hat.fresh (b := b2) hb2).frm hf2).le hl3 |>.weak (by simp)
    simp only [TokM.cells, Tok.cells] at ho3
    clear hseg hSg ho hat hTr
    refine sgo ?_
    have hpr := print_ok m.t m.p m.c (small_of_wt hwt) w3 hat3
    have hmy := fun w hi => may_ok m.t m.p m.c (small_of_wt hwt) w hi
    have hli := fun hm w hi => refLine_ok m.t m.p m.c hm (small_of_wt hwt) w hi
    by_cases hmm : mayR m.t = true
    · rw [if_pos hmm] at hpr
      refine wlpure hpr fun w4 hf4 => ?_
      have ho4 := ho3.frm hf4
      have hat4 := hat3.frm hf4
      have hfr4 := hfr3.trans hf4
      have hln : mln m = lnR m.t := by unfold mln; rw [if_pos hmm]
      rw [hln] at hls
      have hll := lnR_len m.t
      have hll2 : (lineR m.t).length + 1 ≤ 3 * m.t.wt := by unfold lnR at hll; simpa using hll
      have hle : lnR m.t = lineR m.t ++ [10] := rfl
      rw [hle] at hls hll hln
      clear hle hpr
      generalize lineR m.t = L at *
      refine sgo ?_
      rw [hmm] at hmy
      refine wlpure (hmy _ hat4) fun w5 hf5 => ?_
      have ho5 := ho4.frm hf5
      have hat5 := hat4.frm hf5
      have hfr5 := hfr4.trans hf5
      refine sgo ?_
      refine wlcallgp (vals := [.agg ⟨m.t.cells m.p m.c⟩]) (fun _ => hli hmm _ hat5) fun w6 hf6 => ?_
      have hfr6 := hfr5.trans hf6
      refine sgo ?_
      (show WC _ _ _ _ _ _ _; first | refine WC_dec rfl (fun hc => ?_) (fun hc => ?_) | refine WC_cond rfl (fun hc => ?_) (fun hc => ?_))
      · exfalso; revert hc; simp [pkb]
      · clear hc
        refine sgo ?_
        refine ⟨i + 1, ⟨rfl, ?_, ?_, rfl, rfl, rfl, trivial⟩, ⟨by omega, hfr6⟩, by omega⟩
        · show str _ = str _
          rw [hls]
        · show Value.bool _ = Value.bool _
          rw [hms, hmm, Bool.and_true]
    · have hmf : mayR m.t = false := by simpa using hmm
      rw [if_neg hmm] at hpr
      refine wlpure hpr fun w4 hf4 => ?_
      have ho4 := ho3.frm hf4
      have hat4 := hat3.frm hf4
      have hfr4 := hfr3.trans hf4
      have hln : mln m = [] := by unfold mln; rw [if_neg hmm]
      rw [hln, List.append_nil] at hls
      refine sgo ?_
      rw [hmf] at hmy
      refine wlpure (hmy _ hat4) fun w5 hf5 => ?_
      have hfr5 := hfr4.trans hf5
      refine sgo ?_
      refine ⟨i + 1, ⟨rfl, ?_, ?_, rfl, rfl, rfl, trivial⟩, ⟨by omega, hfr5⟩, by omega⟩
      · show str _ = str _
        rw [hls]
      · show Value.bool _ = Value.bool _
        rw [hms, hmf, Bool.and_false]
  · have htk : ms.take i = ms := List.take_of_length_le (by omega)
    rw [htk] at hlr ⊢
    clear hc
    have hl := list_ok ms p c hb wr hTr
    refine sgo ?_
    by_cases hma : allMay ms = true
    · rw [if_pos hma] at hl
      rw [mlns_all hma] at hlr ⊢
      rw [hma]
      refine wlpure hl fun w4 hf4 => ?_
      have hfr4 := hfr.trans hf4
      refine sgo ?_
      refine wlcallgp (vals := []) (fun _ => lives_ok _) (fun w5 hf5 => ?_) (ha := fun _ => rfl)
      have hfr5 := hfr4.trans hf5
      refine sgo ?_
      (first | refine fp1 (.inl rfl) rfl rfl ?_ | refine fp2 (.inl rfl) rfl rfl rfl ?_ | refine fp3 (.inl rfl) rfl rfl rfl rfl ?_ | refine fp0 (.inr rfl) rfl ?_ | refine fp0 (.inl rfl) rfl ?_ | refine fp1 (.inr rfl) rfl rfl ?_); refine ⟨?_, by (first | exact Frm.refl _ | assumption | (refine Frm.trans ?_ (by assumption); first | exact Frm.refl _ | assumption))⟩; (try simp only [realB, rv_true, Nat.reduceBEq, cond_true, cond_false, entG, real_lif, updGL])
      simp [pkb]
    · have hmf : allMay ms = false := by simpa using hma
      rw [if_neg hma] at hl
      rw [hmf]
      refine wlpure hl fun w4 hf4 => ?_
      have hfr4 := hfr.trans hf4
      refine sgo ?_
      refine wlcallgp (vals := []) (fun _ => lives_ok _) (fun w5 hf5 => ?_) (ha := fun _ => rfl)
      have hfr5 := hfr4.trans hf5
      refine sgo ?_
      (first | refine fp1 (.inl rfl) rfl rfl ?_ | refine fp2 (.inl rfl) rfl rfl rfl ?_ | refine fp3 (.inl rfl) rfl rfl rfl rfl ?_ | refine fp0 (.inr rfl) rfl ?_ | refine fp0 (.inl rfl) rfl ?_ | refine fp1 (.inr rfl) rfl rfl ?_); refine ⟨?_, by (first | exact Frm.refl _ | assumption | (refine Frm.trans ?_ (by assumption); first | exact Frm.refl _ | assumption))⟩; (try simp only [realB, rv_true, Nat.reduceBEq, cond_true, cond_false, entG, real_lif, updGL])
      simp [pkb]
end Go.Proofs.Ytfomfplddncakaa
