/-
  Lists of tokens in memory; package token: List; sievelaw07: TokenPrints.
-/
import Derived.Test.YtfomfplddncakaaSvTokG
import Derived.Test.YtfomfplddncakaaSvLives07
namespace Go.Proofs.Ytfomfplddncakaa
open Go Go.Sv Go.RowKit

/-- a token as it lies in memory: and where its attributes lie -/
structure TokM where
  t : Tok
  p : Option Addr
  c : Nat
def TokM.cells (m : TokM) : List Value := m.t.cells m.p m.c
theorem TokM.len (m : TokM) : m.cells.length = 8 := rfl
structure Toks (w : World) (p : Option Addr) (ms : List TokM) : Prop where
  im : Im [] w p (ms.flatMap TokM.cells)
  each : ∀ m ∈ ms, Im [] w m.p (m.t.attrs.flatMap At.cells)
theorem Toks.frm {w w' : World} {p : Option Addr} {ms : List TokM} (h : Toks w p ms) (hf : Frm w w') : Toks w' p ms := ⟨h.im.frm hf, fun m hm => (h.each m hm).frm hf⟩

def At.wt (x : At) : Nat := x.n.length + x.v.length + 3
def Tok.wt (t : Tok) : Nat := 8 + t.name.length + t.text.length + (t.attrs.map At.wt).sum
theorem sum_mem {α : Type} (f : α → Nat) (l : List α) {x : α} (h : x ∈ l) : f x ≤ (l.map f).sum := by
  induction l with
  | nil => cases h
  | cons y l ih =>
    simp only [List.map_cons, List.sum_cons]
    rcases List.mem_cons.1 h with rfl | h
    · omega
    · have := ih h; omega
theorem sum_len {α : Type} (f : α → Nat) (l : List α) (h : ∀ x ∈ l, 1 ≤ f x) : l.length ≤ (l.map f).sum := by
  induction l with
  | nil => simp
  | cons y l ih =>
    simp only [List.map_cons, List.sum_cons, List.length_cons]
    have := ih fun x hx => h x (List.mem_cons_of_mem _ hx)
    have := h y List.mem_cons_self
    omega
theorem sum_take {α : Type} (f : α → Nat) (l : List α) (i : Nat) : ((l.take i).map f).sum ≤ (l.map f).sum := by
  conv => rhs; rw [← List.take_append_drop i l, List.map_append, List.sum_append]
  omega
theorem len_flat {α β : Type} (f : α → List β) (g : α → Nat) (k : Nat) (l : List α) (h : ∀ x ∈ l, (f x).length ≤ k * g x) : (l.flatMap f).length ≤ k * (l.map g).sum := by
  induction l with
  | nil => simp
  | cons y l ih =>
    simp only [List.flatMap_cons, List.map_cons, List.sum_cons, List.length_append, Nat.mul_add]
    have := ih fun x hx => h x (List.mem_cons_of_mem _ hx)
    have := h y List.mem_cons_self
    omega
theorem small_of_wt {t : Tok} (h : t.wt ≤ 1048576) : t.small := by
  unfold Tok.wt at h
  refine ⟨by omega, by omega, ?_, fun x hx => ?_⟩
  · have := sum_len At.wt t.attrs (by intro x _; unfold At.wt; omega); omega
  · have h1 := sum_mem At.wt t.attrs hx
    have h2 : At.wt x = x.n.length + x.v.length + 3 := rfl
    exact ⟨by omega, by omega⟩
def lnR (t : Tok) : List UInt8 := lineR t ++ [10]
theorem lnR_len (t : Tok) : (lnR t).length ≤ 3 * t.wt := by
  have h1 := quoteR_len t.name
  have h2 := quoteR_len t.text
  have h3 := wordR_len t.kind
  have h4 : (headR t).length ≤ 10 + 2 * t.name.length + 2 * t.text.length := by
    unfold headR
    rw [List.length_append]
    split
    · simp only [List.length_cons]; omega
    · split
      · simp only [List.length_cons]; omega
      · simp only [List.length_nil]; omega
  have h5 : (t.attrs.flatMap atLine).length ≤ 2 * (t.attrs.map At.wt).sum := len_flat atLine At.wt 2 _ fun x _ => by
    have := quoteR_len x.n
    have := quoteR_len x.v
    simp only [atLine, List.length_cons, List.length_append, List.length_nil, At.wt]; omega
  have h6 : (if t.self then [32, 47] else [] : List UInt8).length ≤ 2 := by split <;> simp
  unfold lnR lineR Tok.wt
  simp only [List.length_append, List.length_cons, List.length_nil]
  omega
def wts (ms : List TokM) : Nat := (ms.map fun m => m.t.wt).sum
def lns (ms : List TokM) : List UInt8 := ms.flatMap fun m => lnR m.t
theorem lns_take (ms : List TokM) (i : Nat) : (lns (ms.take i)).length ≤ 3 * wts ms := by
  have h1 := len_flat (fun m : TokM => lnR m.t) (fun m => m.t.wt) 3 (ms.take i) fun m _ => lnR_len m.t
  have h2 := sum_take (fun m : TokM => m.t.wt) ms i
  unfold lns wts
  omega
def allMay (ms : List TokM) : Bool := ms.all fun m => mayR m.t
theorem allMay_take_succ {ms : List TokM} {i : Nat} {m : TokM} (hx : ms[i]? = some m) : allMay (ms.take (i + 1)) = (allMay (ms.take i) && mayR m.t) := by
  unfold allMay
  rw [List.take_add_one, hx, List.all_append]; simp
theorem lns_take_succ {ms : List TokM} {i : Nat} {m : TokM} (hx : ms[i]? = some m) : lns (ms.take (i + 1)) = lns (ms.take i) ++ lnR m.t := by
  unfold lns
  rw [List.take_add_one, hx, List.flatMap_append]; simp
theorem allMay_not {ms : List TokM} {m : TokM} (hm : m ∈ ms) (h : mayR m.t = false) : allMay ms = false := by
  unfold allMay
  rw [List.all_eq_false]
  exact ⟨m, hm, by simp [h]⟩

set_option maxHeartbeats 1000000 in
theorem list_ok (ms : List TokM) (p : Option Addr) (c : Nat) (hb : wts ms ≤ 1048576) (w : World) (hT : Toks w p ms) :
    PureC Try.prog 13 #[.slice p ms.length c] w (if allMay ms then .tuple #[str (lns ms), int 0] else .tuple #[str [], int 70]) := by
  have hnl : ms.length ≤ 1048576 := by
    have := sum_len (fun m : TokM => m.t.wt) ms (by intro m _; show 1 ≤ Tok.wt m.t; unfold Tok.wt; omega)
    unfold wts at hb; omega
  refine enter (l := [.slice p ms.length c]) Try.func13 rfl Try.ntmps13 (by kernel_rfl) rfl ?_
  refine sgo ?_
  refine wlallocT fun b w0 hbw ha0 hf0 => ?_
  have hB0 : Bld TB TY w0 b none [] := Bld.new ha0
  refine sgo ?_
  refine wcloop (X := Nat × Option Addr) (fun x => [(4, ptrAt (pb b) 0), (9, .slice p ms.length c), (10, int ms.length), (11, int x.1)])
    (fun x wr => x.1 ≤ ms.length ∧ allMay (ms.take x.1) = true ∧ Bld TB TY wr b x.2 (lns (ms.take x.1)) ∧ Frm w wr ∧ ∀ k ∈ b :: rb x.2, w.heap.size ≤ k)
    (fun x => ms.length - x.1) (0, none) ⟨rfl, rfl, rfl, rfl, trivial⟩ ⟨by omega, rfl, hB0, hf0, by intro x hx; simp [rb] at hx; omega⟩ ?_
  clear hB0
  rintro ⟨i, q⟩ wr ρ ⟨hil, hma, hBl, hfr, hq⟩
  dsimp only at hil hma hBl hq ⊢
  have hTr := hT.frm hfr
  have hlr := lns_take ms i
  refine sgo ?_
  (show WC _ _ _ _ _ _ _; first | refine WC_dec rfl (fun hc => ?_) (fun hc => ?_) | refine WC_cond rfl (fun hc => ?_) (fun hc => ?_))
  · have hlt : i < ms.length := by omega
    have hSg := hTr.im.sg
    have hx : ms[i]? = some ms[i] := List.getElem?_eq_getElem hlt
    have hseg := fm_seg TokM.len ms hx
    have hmem : ms[i] ∈ ms := List.getElem_mem hlt
    have hat := hTr.each _ hmem
    have hwt : ms[i].t.wt ≤ 1048576 := Nat.le_trans (sum_mem (fun m : TokM => m.t.wt) ms hmem) hb
    have hms := allMay_take_succ hx
    have hls := lns_take_succ hx
    have hl2 := lns_take ms (i + 1)
    generalize ms[i] = m at *
    have hps : ∃ q, p = some q := hSg.some (by have := fm_len TokM.len ms; omega)
    have hfl := fm_len TokM.len ms
    refine sgo ?_
    refine wlalloc fun b2 w2 hb2 ho hf2 => ?_
    refine wlstorea0 (hv := by exact ⟨by rw [hseg]; rfl, rfl⟩) (h1 := by rw [hseg]; simp [TokM.cells, Tok.cells, Value.oneCell']) ho fun w3 ho3 hl3 => ?_
    rw [hseg] at ho3
    have hb2w : w.heap.size ≤ b2 := Nat.le_trans hfr.size hb2
    have hfr3 := (hfr.trans hf2).step hl3 (by simpa using hb2w)
    have hB3 := (hBl.frm hf2).le hl3 (by intro k hk hm; simp only [List.mem_singleton] at hm; subst hm; have := hBl.lt k hk; omega)
    have hat3 : Im [] w3 m.p (m.t.attrs.flatMap At.cells) := ((hat.fresh (b := b2) hb2).frm hf2).le hl3 |>.weak (by simp)
    simp only [TokM.cells, Tok.cells] at ho3
    clear hseg hSg ho hat
    refine sgo ?_
    have hpr := print_ok m.t m.p m.c (small_of_wt hwt) w3 hat3
    by_cases hmm : mayR m.t = true
    · rw [if_pos hmm] at hpr
      refine wlpure hpr fun w4 hf4 => ?_
      have hB4 := hB3.frm hf4
      have hfr4 := hfr3.trans hf4
      have hll := lnR_len m.t
      have hll2 : (lineR m.t).length + 1 ≤ 3 * m.t.wt := by unfold lnR at hll; simpa using hll
      have hle : lnR m.t = lineR m.t ++ [10] := rfl
      rw [hle] at hls hll
      clear hle hpr
      generalize lineR m.t = L at *
      refine sgo ?_
      refine wlcall (writeString_ok b q _ (L ++ [10]) _ hB4 (by simp only [List.length_append, List.length_cons, List.length_nil]; omega)) ?_
      rintro v w5 ⟨rfl, q5, hB5, hl5⟩
      refine sgo ?_
      refine ⟨(i + 1, q5), ⟨rfl, rfl, rfl, rfl, trivial⟩, ⟨by dsimp only; omega, ?_, ?_, hfr4.step hl5.1 hq, hl5.fresh hfr4 hq⟩, by dsimp only; omega⟩
      · dsimp only; rw [hms, hma, hmm]; rfl
      · dsimp only; rw [hls]; exact hB5
    · have hmf : mayR m.t = false := by simpa using hmm
      rw [if_neg hmm] at hpr
      refine wlpure hpr fun w4 hf4 => ?_
      have hfr4 := hfr3.trans hf4
      refine sgo ?_
      (first | refine fp1 (.inl rfl) rfl rfl ?_ | refine fp2 (.inl rfl) rfl rfl rfl ?_ | refine fp3 (.inl rfl) rfl rfl rfl rfl ?_ | refine fp0 (.inr rfl) rfl ?_ | refine fp0 (.inl rfl) rfl ?_ | refine fp1 (.inr rfl) rfl rfl ?_); refine ⟨?_, by (first | exact Frm.refl _ | assumption | (refine Frm.trans ?_ (by assumption); first | exact Frm.refl _ | assumption))⟩; (try simp only [realB, rv_true, Nat.reduceBEq, cond_true, cond_false, entG, real_lif, updGL])
      rw [allMay_not hmem hmf]; rfl
  · have htk : ms.take i = ms := List.take_of_length_le (by omega)
    rw [htk] at hma hBl
    refine sgo ?_
    refine wlcall (string_ok w.heap.size b q _ _ hBl hq hfr.size) ?_
    rintro v w6 ⟨rfl, hf6⟩
    have hfr6 : Frm w w6 := Below.trans hfr hf6
    refine sgo ?_
    (first | refine fp1 (.inl rfl) rfl rfl ?_ | refine fp2 (.inl rfl) rfl rfl rfl ?_ | refine fp3 (.inl rfl) rfl rfl rfl rfl ?_ | refine fp0 (.inr rfl) rfl ?_ | refine fp0 (.inl rfl) rfl ?_ | refine fp1 (.inr rfl) rfl rfl ?_); refine ⟨?_, by (first | exact Frm.refl _ | assumption | (refine Frm.trans ?_ (by assumption); first | exact Frm.refl _ | assumption))⟩; (try simp only [realB, rv_true, Nat.reduceBEq, cond_true, cond_false, entG, real_lif, updGL])
    rw [hma]; rfl
end Go.Proofs.Ytfomfplddncakaa
