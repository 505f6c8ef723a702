/-
  Package link: paths without dot segments; the twins.
-/
import Derived.Test.YtffaoehhhdcjjaaSvLkD
set_option linter.unusedSimpArgs false
set_option linter.unusedVariables false
set_option linter.unnecessarySimpa false
namespace Go.Sv
open Go Go.RowKit
section
variable {P : Program} {σ : Env} {w : World} {d : Option Tmp} {ty t t' : TypeId} {pos : String} {af : Array Edge} {g : Option (Nat × Bool)} {x y : Operand} {a b : Int} {ats : Array TypeId}
theorem y_max (hx : evl σ x = int a) (hy : evl σ y = int b) : Y P σ ⟨d, .call ⟨.builtin .max, #[x, y], ats⟩, ty, pos, af, g⟩ w (int (max a b)) w := by
  refine Y.val ?_; simp only [execOp, resolve, Sem.run_bind, Sem.run_pure, Result.andThen_ok, invoke, builtin]
  have e : (if b > a then b else a) = max a b := by omega
  simp [hx, hy, Builtin.max_, Builtin.max2, e]
end
end Go.Sv
namespace Go.Proofs.Ytffaoehhhdcjjaa
open Go Go.Sv Go.RowKit

/-- how many bytes stand ahead of the first of some -/
def upR (l sm : List UInt8) : Nat := (l.takeWhile fun c => decide (c ∉ sm)).length
theorem upR_le (l sm : List UInt8) : upR l sm ≤ l.length := (List.takeWhile_sublist _).length_le
theorem upR_cons (c : UInt8) (l sm : List UInt8) : upR (c :: l) sm = if c ∈ sm then 0 else upR l sm + 1 := by
  unfold upR
  rw [List.takeWhile_cons]
  by_cases h : c ∈ sm <;> simp [h]
theorem upR_at : ∀ (l sm : List UInt8) (i : Nat), i < l.length → (∀ j, j < i → UInt8.ofNat (at0 l j) ∉ sm) → UInt8.ofNat (at0 l i) ∈ sm → upR l sm = i
  | [], _, i, h, _, _ => by simp at h
  | c :: l, sm, 0, _, _, h => by
    rw [upR_cons, if_pos (by simpa [at0] using h)]
  | c :: l, sm, i + 1, hi, hj, h => by
    have h0 := hj 0 (by omega)
    rw [upR_cons, if_neg (by simpa [at0] using h0), upR_at l sm i (by simpa using hi) (fun j hj' => by have := hj (j + 1) (by omega); simpa [at0] using this) (by simpa [at0] using h)]
theorem upR_all : ∀ (l sm : List UInt8), (∀ j, j < l.length → UInt8.ofNat (at0 l j) ∉ sm) → upR l sm = l.length
  | [], _, _ => rfl
  | c :: l, sm, hj => by
    have h0 := hj 0 (by simp)
    rw [upR_cons, if_neg (by simpa [at0] using h0), upR_all l sm (fun j hj' => by have := hj (j + 1) (by simpa using hj'); simpa [at0] using this)]
    rfl
theorem indexByte_up : ∀ (l : List UInt8) (c : UInt8), Lib.indexByte l c = if c ∈ l then (upR l [c] : Int) else -1
  | [], c => by simp [Lib.indexByte]
  | b :: l, c => by
    have h := indexByte_up l c
    have hg := Lib.indexByte_ge l c
    simp only [Lib.indexByte, upR_cons, List.mem_cons, List.mem_singleton, List.not_mem_nil, or_false]
    by_cases hb : b = c
    · simp [hb]
    · have hb' : ¬ c = b := fun h => hb h.symm
      simp only [beq_iff_eq, hb, hb', if_false, false_or]
      by_cases hm : c ∈ l
      · rw [if_pos hm] at h ⊢
        rw [h, if_neg (by omega)]; omega
      · rw [if_neg hm] at h ⊢
        rw [h]; rfl
theorem up_not {l : List UInt8} {c : UInt8} (h : c ∉ l) : upR l [c] = l.length := by
  refine upR_all l [c] fun j hj hm => h ?_
  simp only [at0, List.getElem?_eq_getElem hj, Option.getD_some, List.mem_singleton] at hm
  rw [← hm]
  simp
theorem hasPrefix_ok (s p : List UInt8) (w : World) : PureC Try.prog 32 #[str s, str p] w (.bool (p.isPrefixOf s)) := by
  refine Calls.mono (Try.strings_HasPrefix ⟨s.toArray⟩ ⟨p.toArray⟩ w) ?_
  rintro e w' ⟨rfl, rfl⟩
  exact ⟨_, rfl, rfl, Frm.refl _⟩
theorem begins_ok (s p : List UInt8) (w : World) : PureC Try.prog 34 #[str s, str p] w (.bool (p.isPrefixOf s)) := by
  refine enter (l := [str s, str p]) Try.func34 rfl Try.ntmps34 (by kernel_rfl) rfl ?_
  refine sgo ?_
  (first | refine fp1 (.inl rfl) rfl rfl ?_ | refine fp2 (.inl rfl) rfl rfl rfl ?_ | refine fp3 (.inl rfl) rfl rfl rfl rfl ?_ | refine fp0 (.inr rfl) rfl ?_ | refine fp0 (.inl rfl) rfl ?_ | refine fp1 (.inr rfl) rfl rfl ?_); refine ⟨?_, by (first | exact Frm.refl _ | assumption | (refine Frm.trans ?_ (by assumption); first | exact Frm.refl _ | assumption))⟩; (try simp only [realB, rv_true, Nat.reduceBEq, cond_true, cond_false, entG, real_lif, updGL])
  refine congrArg Value.bool ?_
  rw [pkb_and, Bool.eq_iff_iff]
  simp only [Bool.and_eq_true, decide_eq_true_eq, List.isPrefixOf_iff_prefix, List.prefix_iff_eq_take]
  constructor
  · rintro ⟨_, h⟩; exact h.symm
  · intro h
    have := congrArg List.length h
    simp at this
    exact ⟨by omega, h.symm⟩
/-- the last place below n where c stands -/
def lastF (l : List UInt8) (c : Nat) : Nat → Int
  | 0 => -1
  | n + 1 => if at0 l n = c then n else lastF l c n
def lastR (l : List UInt8) (c : Nat) : Int := lastF l c l.length
theorem lastF_rng (l : List UInt8) (c : Nat) : ∀ n, -1 ≤ lastF l c n ∧ lastF l c n < n
  | 0 => by simp [lastF]
  | n + 1 => by
    have := lastF_rng l c n
    simp only [lastF]
    split <;> omega
theorem last0_ok (l : List UInt8) (c : Nat) (hb : l.length ≤ 4611686018427387904) (w : World) : PureC Try.prog 60 #[str l, byt c] w (int (lastR l c)) := by
  refine enter (l := [str l, byt c]) Try.func60 rfl Try.ntmps60 (by kernel_rfl) rfl ?_
  refine sgo ?_
  refine wcloop (X := Nat) (fun x => [(0, str l), (1, byt c), (5, int ((x : Int) - 1))])
    (fun x wr => x ≤ l.length ∧ lastF l c x = lastR l c ∧ Frm w wr) (fun x => x) l.length ⟨rfl, rfl, rfl, trivial⟩ ⟨Nat.le_refl _, rfl, Frm.refl _⟩ ?_
  rintro x wr ρ ⟨hx, he, hfr⟩
  refine sgo ?_
  (show WC _ _ _ _ _ _ _; first | refine WC_dec rfl (fun hc => ?_) (fun hc => ?_) | refine WC_cond rfl (fun hc => ?_) (fun hc => ?_))
  · obtain ⟨k, rfl⟩ : ∃ k, x = k + 1 := ⟨x - 1, by omega⟩
    simp only [lastF] at he
    refine sgo ?_
    have e : (((k + 1 : Nat) : Int) - 1).toNat = k := by omega
    rw [e]
    (show WC _ _ _ _ _ _ _; first | refine WC_dec rfl (fun hc => ?_) (fun hc => ?_) | refine WC_cond rfl (fun hc => ?_) (fun hc => ?_))
    · rw [if_pos (by simp only [at0]; omega)] at he
      refine sgo ?_
      (first | refine fp1 (.inl rfl) rfl rfl ?_ | refine fp2 (.inl rfl) rfl rfl rfl ?_ | refine fp3 (.inl rfl) rfl rfl rfl rfl ?_ | refine fp0 (.inr rfl) rfl ?_ | refine fp0 (.inl rfl) rfl ?_ | refine fp1 (.inr rfl) rfl rfl ?_); refine ⟨?_, by (first | exact Frm.refl _ | assumption | (refine Frm.trans ?_ (by assumption); first | exact Frm.refl _ | assumption))⟩; (try simp only [realB, rv_true, Nat.reduceBEq, cond_true, cond_false, entG, real_lif, updGL])
      rw [← he]
      refine congrArg int ?_
      omega
    · rw [if_neg (by simp only [at0]; omega)] at he
      refine sgo ?_
      exact ⟨k, ⟨rfl, rfl, congrArg (fun n : Int => int (n - 1)) (by omega), trivial⟩, ⟨by omega, he, hfr⟩, by omega⟩
  · obtain rfl : x = 0 := by omega
    refine sgo ?_
    (first | refine fp1 (.inl rfl) rfl rfl ?_ | refine fp2 (.inl rfl) rfl rfl rfl ?_ | refine fp3 (.inl rfl) rfl rfl rfl rfl ?_ | refine fp0 (.inr rfl) rfl ?_ | refine fp0 (.inl rfl) rfl ?_ | refine fp1 (.inr rfl) rfl rfl ?_); refine ⟨?_, by (first | exact Frm.refl _ | assumption | (refine Frm.trans ?_ (by assumption); first | exact Frm.refl _ | assumption))⟩; (try simp only [realB, rv_true, Nat.reduceBEq, cond_true, cond_false, entG, real_lif, updGL])
    rw [← he]
    rfl
theorem last_ok (l : List UInt8) (c : Nat) (hb : l.length ≤ 4611686018427387904) (w : World) : PureC Try.prog 44 #[str l, byt c] w (int (lastR l c)) := by
  refine enter (l := [str l, byt c]) Try.func44 rfl Try.ntmps44 (by kernel_rfl) rfl ?_
  refine sgo ?_
  refine wlpure (last0_ok l c hb _) fun w1 hf1 => ?_
  refine sgo ?_
  (first | refine fp1 (.inl rfl) rfl rfl ?_ | refine fp2 (.inl rfl) rfl rfl rfl ?_ | refine fp3 (.inl rfl) rfl rfl rfl rfl ?_ | refine fp0 (.inr rfl) rfl ?_ | refine fp0 (.inl rfl) rfl ?_ | refine fp1 (.inr rfl) rfl rfl ?_); refine ⟨?_, by (first | exact Frm.refl _ | assumption | (refine Frm.trans ?_ (by assumption); first | exact Frm.refl _ | assumption))⟩; (try simp only [realB, rv_true, Nat.reduceBEq, cond_true, cond_false, entG, real_lif, updGL])
def parR (l : List UInt8) : List UInt8 := l.take (max (lastR l 47) 0).toNat
theorem parent_ok (l : List UInt8) (hb : l.length ≤ 4611686018427387904) (w : World) : PureC Try.prog 33 #[str l] w (str (parR l)) := by
  refine enter (l := [str l]) Try.func33 rfl Try.ntmps33 (by kernel_rfl) rfl ?_
  refine sgo ?_
  refine wlpure (last_ok l 47 hb _) fun w1 hf1 => ?_
  have hr := lastF_rng l 47 l.length
  unfold parR
  unfold lastR
  generalize lastF l 47 l.length = m at *
  refine sgo ?_
  refine wl ?_ (y_max rfl rfl)
  refine sgo ?_
  (first | refine fp1 (.inl rfl) rfl rfl ?_ | refine fp2 (.inl rfl) rfl rfl rfl ?_ | refine fp3 (.inl rfl) rfl rfl rfl rfl ?_ | refine fp0 (.inr rfl) rfl ?_ | refine fp0 (.inl rfl) rfl ?_ | refine fp1 (.inr rfl) rfl rfl ?_); refine ⟨?_, by (first | exact Frm.refl _ | assumption | (refine Frm.trans ?_ (by assumption); first | exact Frm.refl _ | assumption))⟩; (try simp only [realB, rv_true, Nat.reduceBEq, cond_true, cond_false, entG, real_lif, updGL])

def pfx (p l : List UInt8) : Bool := p.isPrefixOf l
/-- a segment's end -/
def segN (l : List UInt8) : Nat := 1 + upR (l.drop 1) [47]
def dotStep (l out : List UInt8) : List UInt8 × List UInt8 :=
  if pfx [46, 46, 47] l then (l.drop 3, out)
  else if pfx [46, 47] l then (l.drop 2, out)
  else if pfx [47, 46, 47] l then (l.drop 2, out)
  else if l = [47, 46] then ([47], out)
  else if pfx [47, 46, 46, 47] l then (l.drop 3, parR out)
  else if l = [47, 46, 46] then ([47], parR out)
  else if l = [46] ∨ l = [46, 46] then ([], out)
  else (l.drop (segN l), out ++ l.take (segN l))
def dotsF : Nat → List UInt8 → List UInt8 → List UInt8
  | 0, _, out => out
  | f + 1, l, out => if l = [] then out else dotsF f (dotStep l out).1 (dotStep l out).2
theorem pfx_len {p l : List UInt8} (h : pfx p l = true) : p.length ≤ l.length := (List.isPrefixOf_iff_prefix.1 h).length_le
theorem dotStep_lt (l out : List UInt8) (h : l ≠ []) : (dotStep l out).1.length < l.length := by
  have h0 : 0 < l.length := List.length_pos_iff.2 h
  unfold dotStep
  repeat' split
  all_goals rename_i h1
  all_goals (try have hp := pfx_len h1)
  all_goals (try simp only [List.length_cons, List.length_nil] at hp)
  all_goals (try simp only [List.length_drop, segN])
  all_goals (try omega)
  all_goals (try (subst h1; simp; done))
  all_goals (try (simp; omega))
theorem dotsF_more : ∀ (f f' : Nat) (l out : List UInt8), l.length ≤ f → l.length ≤ f' → dotsF f l out = dotsF f' l out
  | 0, 0, _, _, _, _ => rfl
  | 0, f' + 1, l, out, h, _ => by
    have : l = [] := List.eq_nil_of_length_eq_zero (by omega)
    simp [dotsF, this]
  | f + 1, 0, l, out, _, h => by
    have : l = [] := List.eq_nil_of_length_eq_zero (by omega)
    simp [dotsF, this]
  | f + 1, f' + 1, l, out, h, h' => by
    simp only [dotsF]
    split
    · rfl
    · rename_i hne
      have := dotStep_lt l out hne
      exact dotsF_more f f' _ _ (by omega) (by omega)
def dotsL (l out : List UInt8) : List UInt8 := dotsF l.length l out
theorem dotsL_nil (out : List UInt8) : dotsL [] out = out := rfl
theorem dotsL_step (l out : List UInt8) (h : l ≠ []) : dotsL l out = dotsL (dotStep l out).1 (dotStep l out).2 := by
  have h1 := dotStep_lt l out h
  unfold dotsL
  obtain ⟨f, hf⟩ : ∃ f, l.length = f + 1 := ⟨l.length - 1, by omega⟩
  rw [hf, dotsF, if_neg h]
  exact dotsF_more _ _ _ _ (by omega) (Nat.le_refl _)
theorem parR_len (l : List UInt8) : (parR l).length ≤ l.length := by simp only [parR, List.length_take]; omega
theorem dotStep_len (l out : List UInt8) : (dotStep l out).1.length + (dotStep l out).2.length ≤ l.length + out.length := by
  have h0 := parR_len out
  unfold dotStep
  repeat' split
  all_goals rename_i h1
  all_goals (try simp only [List.length_drop, List.length_append, List.length_take, List.length_nil])
  all_goals (try omega)
  all_goals (try (subst h1; simp; done))
  all_goals (try (subst h1; simp; omega))
end Go.Proofs.Ytffaoehhhdcjjaa
