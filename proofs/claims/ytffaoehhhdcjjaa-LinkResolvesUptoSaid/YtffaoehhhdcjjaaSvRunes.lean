/-
  Package utf: All, Runes.
-/
import Derived.Test.YtffaoehhhdcjjaaSvMendB
import Derived.Test.YtffaoehhhdcjjaaSvIter
set_option linter.unusedSimpArgs false
set_option linter.unusedVariables false
set_option linter.unnecessarySimpa false
namespace Go.Proofs.Ytffaoehhhdcjjaa
open Go Go.Sv Go.RowKit

/-- what All answers -/
def AllV (w : World) (l : List UInt8) (v : Value) (w' : World) : Prop :=
  Frm w w' ∧ ∃ b q c, v = .func (.func 69) #[] #[ptrAt (pb b) 0] ∧ Own w' b [.slice q l.length c] ∧ Im [] w' q (bs l) ∧ l.length ≤ c ∧ w.heap.size ≤ b ∧ ∀ x ∈ rb q, w.heap.size ≤ x
theorem all_ok (l : List UInt8) (p : Option Addr) (n c : Nat) (hn : n = l.length) (hb : l.length ≤ 1073741824) (w : World) (hi : Im [] w p (bs l)) : CallsR Try.prog 63 #[.slice p n c] w (AllV w l) := by
  subst hn
  refine enter (l := [.slice p l.length c]) Try.func63 rfl Try.ntmps63 (by kernel_rfl) rfl ?_
  refine sgo ?_
  refine wlbox (v := .slice p l.length c) (hx := rfl) fun b w1 hb1 ho hf1 => ?_
  have ho1 : Own w1 b [.slice p l.length c] := ho
  refine sgo ?_
  refine wlapp (Row.nil w1 1) (hi.frm hf1).sg (fun q c2 w2 hR hl => ?_) (hl := by simp) (h1 := one_bs _)
  simp only [Nat.zero_add, List.nil_append] at hR ⊢
  have ho2 := ho1.le hl.1 (by simp [rb])
  have hq : ∀ x ∈ rb q, w1.heap.size ≤ x := fun x hx => by
    rcases Nat.lt_or_ge x w1.heap.size with h | h
    · have := hl.2 x hx h; simp [rb] at this
    · exact h
  have hbq : ∀ x ∈ rb q, x ∉ [b] := by
    intro x hx hm
    simp only [List.mem_singleton] at hm
    subst hm
    have := hq x hx
    have := ho1.lt
    omega
  refine wlst_slice ho2 fun w3 ho3 hl3 => ?_
  refine sgo ?_
  (first | refine fp1 (.inl rfl) rfl rfl ?_ | refine fp2 (.inl rfl) rfl rfl rfl ?_ | refine fp3 (.inl rfl) rfl rfl rfl rfl ?_ | refine fp0 (.inr rfl) rfl ?_ | refine fp0 (.inl rfl) rfl ?_ | refine fp1 (.inr rfl) rfl rfl ?_)
  have hf2 : Frm w w2 := hf1.step hl.1 (by simp [rb])
  refine ⟨hf2.step hl3 (by simpa using hb1), b, q, c2, ?_, ho3, (hR.le hl3 hbq).im (by simp), hR.le_cap.1, hb1, fun x hx => Nat.le_trans hf1.size (hq x hx)⟩
  rfl

set_option maxHeartbeats 1000000 in
/-- the iterator, over whatever a round does -/
theorem all1_ok (lr b : Nat) (l : List UInt8) (q : Option Addr) (c : Nat) (hc : l.length ≤ c) (hb : l.length ≤ 1073741824) (J Jx : Nat → World → Prop)
    (hres : ∀ i w, J i w → Own w b [.slice q l.length c] ∧ Im [] w q (bs l)) (hfr : ∀ i w w', J i w → Frm w w' → J i w')
    (hY : ∀ i w, J i w → i < l.length → Yld Try.prog lr [int i, i32 (pieceR (l.drop i)).1] w fun bb w' => if bb then J (i + (pieceR (l.drop i)).2.1) w' else Jx i w')
    (w : World) (h0 : J 0 w) :
    CallsR Try.prog 69 #[.func (.yield lr) #[] #[], ptrAt (pb b) 0] w fun _ w' => J l.length w' ∨ ∃ i, i < l.length ∧ Jx i w' := by
  refine enter (l := [.func (.yield lr) #[] #[], ptrAt (pb b) 0]) Try.func69 rfl Try.ntmps69 (by kernel_rfl) rfl ?_
  refine sgo ?_
  refine wcloop (X := Nat) (fun i => [(0, .func (.yield lr) #[] #[]), (1, ptrAt (pb b) 0), (3, int i)])
    (fun i wr => i ≤ l.length ∧ J i wr) (fun i => l.length - i) 0 ⟨rfl, rfl, rfl, trivial⟩ ⟨by omega, h0⟩ ?_
  rintro i wr ρ ⟨hil, hJ⟩
  obtain ⟨ho, hi⟩ := hres i wr hJ
  refine sgo ?_
  (show WC _ _ _ _ _ _ _; first | refine WC_dec rfl (fun hc => ?_) (fun hc => ?_) | refine WC_cond rfl (fun hc => ?_) (fun hc => ?_))
  · have hlt : i < l.length := by omega
    have hpr := pieceR_rng (l.drop i) (by simp; omega)
    have hrd := readS_piece (l.drop i) (by simp; omega)
    have hdl : (l.drop i).length = l.length - i := by simp
    have hp := hi.part1 (c := c) (i' := i) (by intro h; omega)
    rw [bs_drop] at hp
    have hy := fun w hJ => hY i w hJ hlt
    refine sgo ?_
    refine wlpure (read_any (l.drop i) _ _ _ (by simp) (by omega) (by omega) (by omega) [] _ hp) fun w1 hf1 => ?_
    have hJ1 := hfr _ _ _ hJ hf1
    rw [hrd]
    dsimp only
    generalize (pieceR (l.drop i)).1 = r at *
    generalize (pieceR (l.drop i)).2.1 = m at *
    refine sgo ?_
    refine wlyield (hy w1 hJ1) fun bb w2 h2 => ?_
    cases bb
    · refine sgo ?_
      (first | refine fp1 (.inl rfl) rfl rfl ?_ | refine fp2 (.inl rfl) rfl rfl rfl ?_ | refine fp3 (.inl rfl) rfl rfl rfl rfl ?_ | refine fp0 (.inr rfl) rfl ?_ | refine fp0 (.inl rfl) rfl ?_ | refine fp1 (.inr rfl) rfl rfl ?_)
      exact .inr ⟨i, hlt, h2⟩
    · refine sgo ?_
      exact ⟨i + m, ⟨rfl, rfl, rfl, trivial⟩, ⟨by omega, h2⟩, by omega⟩
  · refine sgo ?_
    (first | refine fp1 (.inl rfl) rfl rfl ?_ | refine fp2 (.inl rfl) rfl rfl rfl ?_ | refine fp3 (.inl rfl) rfl rfl rfl rfl ?_ | refine fp0 (.inr rfl) rfl ?_ | refine fp0 (.inl rfl) rfl ?_ | refine fp1 (.inr rfl) rfl rfl ?_)
    rw [show i = l.length by omega] at hJ
    exact .inl hJ
end Go.Proofs.Ytffaoehhhdcjjaa
