/-
  Package sieveref01: Bytes, Text, Runes, Mend.
-/
import Derived.Test.YtffaoehhhdcjjaaSvMend
set_option linter.unusedSimpArgs false
set_option linter.unusedVariables false
set_option linter.unnecessarySimpa false
namespace Go.Proofs.Ytffaoehhhdcjjaa
open Go Go.Sv Go.RowKit

/-- runes as cells -/
def rs32 (rs : List Nat) : List Value := rs.map fun n : Nat => i32 n
theorem rs32_length (rs : List Nat) : (rs32 rs).length = rs.length := by simp [rs32]
theorem rs32_get {rs : List Nat} {i r : Nat} (h : rs[i]? = some r) : (rs32 rs)[i]? = some (i32 r) := by simp [rs32, h]
theorem bs_app (a b : List UInt8) : bs a ++ bs b = bs (a ++ b) := by simp [bs]
theorem one_bs (a : List UInt8) : ∀ u ∈ bs a, u.oneCell' = true := by
  intro u hu
  unfold bs at hu
  obtain ⟨c, _, rfl⟩ := List.mem_map.1 hu
  rfl
theorem one_rs (a : List Nat) : ∀ u ∈ rs32 a, u.oneCell' = true := by
  intro u hu
  unfold rs32 at hu
  obtain ⟨c, _, rfl⟩ := List.mem_map.1 hu
  rfl

set_option maxHeartbeats 2000000 in
theorem refBytes_ok (rs : List Nat) (p : Option Addr) (c : Nat) (hb : rs.length ≤ 1073741824) (hg : ∀ r ∈ rs, Good r) (w : World) (hi : Im [] w p (rs32 rs)) :
    CallsR Try.prog 58 #[.slice p rs.length c] w (NewB w (rs.flatMap encR)) := by
  have hl32 := rs32_length rs
  refine enter (l := [.slice p rs.length c]) Try.func58 rfl Try.ntmps58 (by kernel_rfl) rfl ?_
  refine sgo ?_
  refine wcloop (X := Nat × Option Addr × Nat) (fun x => [(3, .slice x.2.1 ((rs.take x.1).flatMap encR).length x.2.2), (6, .slice p rs.length c), (7, int rs.length), (8, int x.1)])
    (fun x wr => x.1 ≤ rs.length ∧ Frm w wr ∧ Row wr 1 x.2.1 ((rs.take x.1).flatMap encR).length x.2.2 (bs ((rs.take x.1).flatMap encR)) ∧ ∀ b ∈ rb x.2.1, w.heap.size ≤ b)
    (fun x => rs.length - x.1) (0, none, 0) ⟨rfl, rfl, rfl, rfl, trivial⟩ ⟨by omega, Frm.refl _, Row.nil _ _, rb_nil _⟩ ?_
  rintro ⟨i, q, cc⟩ wr ρ ⟨hil, hfr, hR, hq⟩
  dsimp only at hil hR hq ⊢
  have hfl := encR_flat (rs.take i)
  have htl : (rs.take i).length ≤ rs.length := by simp; omega
  refine sgo ?_
  (show WC _ _ _ _ _ _ _; first | refine WC_dec rfl (fun hc => ?_) (fun hc => ?_) | refine WC_cond rfl (fun hc => ?_) (fun hc => ?_))
  · have hlt : i < rs.length := by omega
    have hx : rs[i]? = some rs[i] := List.getElem?_eq_getElem hlt
    have hgr := hg rs[i] (List.getElem_mem hlt)
    have htk : (rs.take (i + 1)).flatMap encR = (rs.take i).flatMap encR ++ encR rs[i] := by rw [List.take_add_one, hx, List.flatMap_append]; simp
    generalize rs[i] = r at *
    have hcell := rs32_get hx
    have hIr := hi.frm hfr
    have he4 := encR_len4 r
    generalize (rs.take i).flatMap encR = S at *
    refine sgo ?_
    refine wlcall (refBytesOf_ok r hgr _) ?_
    rintro v w1 ⟨hf1, q1, c1, rfl, hR1, hq1⟩
    have hfr1 := hfr.trans hf1
    refine wlapp (hR.frm hf1) hR1.sg (fun q' c' w2 hR2 hl2 => ?_) (hl := by simp) (h1 := one_bs _)
    rw [bs_app, ← List.length_append, ← htk] at hR2
    rw [← List.length_append, ← htk]
    refine sgo ?_
    refine ⟨(i + 1, q', c'), ⟨rfl, rfl, rfl, rfl, trivial⟩, ⟨by dsimp only; omega, ?_, hR2, ?_⟩, by dsimp only; omega⟩
    · exact hfr1.step hl2.1 hq
    · exact hl2.fresh hfr1 hq
  · rw [List.take_of_length_le (by omega)] at hR ⊢
    refine sgo ?_
    (first | refine fp1 (.inl rfl) rfl rfl ?_ | refine fp2 (.inl rfl) rfl rfl rfl ?_ | refine fp3 (.inl rfl) rfl rfl rfl rfl ?_ | refine fp0 (.inr rfl) rfl ?_ | refine fp0 (.inl rfl) rfl ?_ | refine fp1 (.inr rfl) rfl rfl ?_)
    exact ⟨hfr, q, cc, rfl, hR, hq⟩

theorem refText_ok (rs : List Nat) (p : Option Addr) (c : Nat) (hb : rs.length ≤ 1073741824) (hg : ∀ r ∈ rs, Good r) (w : World) (hi : Im [] w p (rs32 rs)) :
    PureC Try.prog 36 #[.slice p rs.length c] w (str (rs.flatMap encR)) := by
  refine enter (l := [.slice p rs.length c]) Try.func36 rfl Try.ntmps36 (by kernel_rfl) rfl ?_
  refine sgo ?_
  refine wlcall (refBytes_ok rs p c hb hg w hi) ?_
  rintro v w1 ⟨hf1, q1, c1, rfl, hR1, hq1⟩
  refine wl ?_ (y_b2s rfl hR1.sg)
  refine sgo ?_
  (first | refine fp1 (.inl rfl) rfl rfl ?_ | refine fp2 (.inl rfl) rfl rfl rfl ?_ | refine fp3 (.inl rfl) rfl rfl rfl rfl ?_ | refine fp0 (.inr rfl) rfl ?_ | refine fp0 (.inl rfl) rfl ?_ | refine fp1 (.inr rfl) rfl rfl ?_); refine ⟨?_, by (first | exact Frm.refl _ | assumption | (refine Frm.trans ?_ (by assumption); first | exact Frm.refl _ | assumption))⟩; (try simp only [realB, rv_true, Nat.reduceBEq, cond_true, cond_false, entG, real_lif, updGL])

/-- a new slice of runes -/
def NewR (w : World) (rs : List Nat) (v : Value) (w' : World) : Prop := Frm w w' ∧ ∃ q cc, v = .slice q rs.length cc ∧ Row w' 1 q rs.length cc (rs32 rs) ∧ ∀ x ∈ rb q, w.heap.size ≤ x
set_option maxHeartbeats 2000000 in
theorem refRunes_ok (l : List UInt8) (p : Option Addr) (n c : Nat) (hn : n = l.length) (hc : l.length ≤ c) (hb : l.length ≤ 1073741824) (w : World) (hi : Im [] w p (bs l)) :
    CallsR Try.prog 37 #[.slice p n c] w (NewR w (runesN l)) := by
  refine enter (l := [.slice p n c]) Try.func37 rfl Try.ntmps37 (by kernel_rfl) rfl ?_
  refine sgo ?_
  refine wlcall (pieces_ok l p n c hn hc hb w hi) ?_
  rintro v w1 ⟨hfr, q, cc, rfl, hR, hq⟩
  have hl := piecesF_len l.length 0 l
  change (piecesR l).length ≤ l.length at hl
  have hfl := flatMap_cells_len (piecesR l)
  have hpr := pieces_r l
  have hrl : (runesN l).length = (piecesR l).length := by simp [runesN]
  generalize runesN l = rs at *
  generalize hPs : piecesR l = Ps at *
  refine sgo ?_
  refine wcloop (X := Nat × Option Addr × Nat) (fun x => [(3, .slice x.2.1 x.1 x.2.2), (7, .slice q Ps.length cc), (8, int Ps.length), (9, int x.1)])
    (fun x wr => x.1 ≤ Ps.length ∧ Frm w1 wr ∧ Row wr 1 x.2.1 x.1 x.2.2 (rs32 (rs.take x.1)) ∧ ∀ b ∈ rb x.2.1, w1.heap.size ≤ b)
    (fun x => Ps.length - x.1) (0, none, 0) ⟨rfl, rfl, rfl, rfl, trivial⟩ ⟨by omega, Frm.refl _, Row.nil _ _, rb_nil _⟩ ?_
  rintro ⟨i, q2, c2⟩ wr ρ ⟨hil, hf2, hR2, hq2⟩
  dsimp only at hil hR2 hq2 ⊢
  refine sgo ?_
  (show WC _ _ _ _ _ _ _; first | refine WC_dec rfl (fun hc => ?_) (fun hc => ?_) | refine WC_cond rfl (fun hc => ?_) (fun hc => ?_))
  · have hlt : i < Ps.length := by omega
    have hSg := (hR.frm hf2).sg
    have hx : Ps[i]? = some Ps[i] := List.getElem?_eq_getElem hlt
    have hseg := flatMap_cells_seg Ps i _ hx
    have hri : rs[i]? = some rs[i] := List.getElem?_eq_getElem (by omega)
    have hrr : i32 Ps[i].r = i32 rs[i] := by
      have := congrArg (·[i]?) hpr
      simpa [hx, hri] using this
    have htk : rs32 (rs.take (i + 1)) = rs32 (rs.take i) ++ [i32 rs[i]] := by rw [List.take_add_one, hri]; unfold rs32; rw [List.map_append]; rfl
    generalize Ps[i] = x at *
    generalize rs[i] = r at *
    have hps : ∃ a, q = some a := hSg.some (by omega)
    refine sgo ?_
    refine wlalloc fun b w2 hb1 ho hf3 => ?_
    refine wlstorea0 (hv := by exact ⟨by rw [hseg]; rfl, rfl⟩) (h1 := by rw [hseg]; simp [Piece.cells, Value.oneCell']) ho fun w3 ho3 hl3 => ?_
    rw [hseg] at ho3
    simp only [Piece.cells] at ho3
    rw [hrr] at ho3
    have hb2 : w1.heap.size ≤ b := Nat.le_trans hf2.size hb1
    have hf4 := (hf2.trans hf3).step hl3 (by simpa using hb2)
    have hR3 := (hR2.frm hf3).le hl3 (by intro y hy hm; simp only [List.mem_singleton] at hm; subst hm; have := hR2.lt y hy; omega)
    clear hseg hSg ho
    refine sgo ?_
    refine wlb1_int fun b5 w5 hb5 ho5 hf5 => ?_
    refine wlapp (hR3.frm hf5) ho5.sg (fun q' c' w6 hR6 hl6 => ?_)
    rw [← htk] at hR6
    have hf6 := hf4.trans hf5
    refine sgo ?_
    exact ⟨(i + 1, q', c'), ⟨rfl, rfl, rfl, rfl, trivial⟩, ⟨by dsimp only; omega, hf6.step hl6.1 hq2, hR6, hl6.fresh hf6 hq2⟩, by dsimp only; omega⟩
  · have hii : i = Ps.length := by omega
    have htk : rs.take i = rs := List.take_of_length_le (by omega)
    rw [htk, show i = rs.length by omega] at hR2
    rw [show i = rs.length by omega]
    refine sgo ?_
    (first | refine fp1 (.inl rfl) rfl rfl ?_ | refine fp2 (.inl rfl) rfl rfl rfl ?_ | refine fp3 (.inl rfl) rfl rfl rfl rfl ?_ | refine fp0 (.inr rfl) rfl ?_ | refine fp0 (.inl rfl) rfl ?_ | refine fp1 (.inr rfl) rfl rfl ?_)
    exact ⟨hfr.trans hf2, q2, c2, rfl, hR2, fun x hx => Nat.le_trans hfr.size (hq2 x hx)⟩

theorem refMend_ok (l : List UInt8) (hb : l.length ≤ 1073741824) (w : World) : PureC Try.prog 16 #[str l] w (str (mendR l)) := by
  refine enter (l := [str l]) Try.func16 rfl Try.ntmps16 (by kernel_rfl) rfl ?_
  refine sgo ?_
  refine wls2b rfl (by omega) fun b c w1 hb1 hc1 hc2 hI hf1 => ?_
  refine wlcall (refRunes_ok l _ _ _ rfl hc1 hb _ hI) ?_
  rintro v w2 ⟨hf2, q, cc, rfl, hR, hq⟩
  have hlen := runesN_len l
  refine wlpure (refText_ok (runesN l) q cc (by omega) (runesN_good l) w2 (hR.im (by simp))) fun w3 hf3 => ?_
  have hf := (hf1.trans hf2).trans hf3
  refine sgo ?_
  (first | refine fp1 (.inl rfl) rfl rfl ?_ | refine fp2 (.inl rfl) rfl rfl rfl ?_ | refine fp3 (.inl rfl) rfl rfl rfl rfl ?_ | refine fp0 (.inr rfl) rfl ?_ | refine fp0 (.inl rfl) rfl ?_ | refine fp1 (.inr rfl) rfl rfl ?_); refine ⟨?_, by (first | exact Frm.refl _ | assumption | (refine Frm.trans ?_ (by assumption); first | exact Frm.refl _ | assumption))⟩; (try simp only [realB, rv_true, Nat.reduceBEq, cond_true, cond_false, entG, real_lif, updGL])
  rfl
end Go.Proofs.Ytffaoehhhdcjjaa
