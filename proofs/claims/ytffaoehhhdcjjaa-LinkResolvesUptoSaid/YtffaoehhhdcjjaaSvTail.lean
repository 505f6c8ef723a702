/-
  Regions that draw their order and end in a forced tail: quiet operations first, then at most one that makes something, then the tail, in whatever world behind them.
-/
import Derived.StillTail
import Derived.OrdersIn
import Derived.TacticsIn
set_option linter.unusedSimpArgs false
set_option linter.unusedVariables false
set_option linter.unnecessarySimpa false
namespace Go.Sv
open Go

section
variable {P : Program} {ops : Array Oper} {md : Region.Mode} {R : World → World → Prop} {C : World → Prop} {m : Nat}

/-- one value, a world behind -/
def quietR (P : Program) (R : World → World → Prop) (w : World) (v : Value) : Result Next → Prop
  | .ok (.value u) w' => w' = w ∧ u = v
  | .ok .skip w' => w' = w ∧ v = undef
  | .ok (.enter f args) w' => w' = w ∧ Calls P f args w (fun e w'' => e = .returned v ∧ R w w'')
  | _ => False
/-- the same value in every world behind C -/
def quietY (P : Program) (R : World → World → Prop) (C : World → Prop) (o : Oper) (a : Act) (v : Value) : Prop := ∀ w, C w → quietR P R w v ((execOp a.eval o).run P w)
/-- something is made; what is said of it stays -/
def madeY (P : Program) (R : World → World → Prop) (C : World → Prop) (o : Oper) (a : Act) (V : Value → World → Prop) : Prop :=
  (∀ u w w', V u w → R w w' → V u w') ∧ ∀ w, C w → ∃ u w1, (execOp a.eval o).run P w = .ok (.value u) w1 ∧ R w w1 ∧ V u w1

def hOp (P : Program) (ops : Array Oper) (R : World → World → Prop) (C : World → Prop) (i : Nat) (K : Act → (World → Prop) → Prop) (a : Act) (F : World → Prop) : Prop :=
  match ops[i]? with
  | none => K a F
  | some o => if Region.wanted o (yielded ops a.tmps) then (∃ v, quietY P R C o a v ∧ K (a.put o.dst v) F) ∨ (∃ V, madeY P R C o a V ∧ ∀ u, K (a.put o.dst u) (fun w => F w ∧ V u w)) else K (a.put o.dst undef) F

theorem hOp_mono {i : Nat} {a : Act} {F : World → Prop} {K K' : Act → (World → Prop) → Prop} (h : ∀ a F, K a F → K' a F) (hh : hOp P ops R C i K a F) : hOp P ops R C i K' a F := by
  unfold hOp at *
  split
  · exact h _ _ (by simpa [*] using hh)
  · rename_i o ho
    simp only [ho] at hh
    split
    · rename_i hw
      simp only [hw, if_true] at hh
      rcases hh with ⟨v, h1, h2⟩ | ⟨V, h1, h2⟩
      · exact .inl ⟨v, h1, h _ _ h2⟩
      · exact .inr ⟨V, h1, fun u => h _ _ (h2 u)⟩
    · rename_i hw; simp only [hw] at hh; exact h _ _ hh

def Keeps (R : World → World → Prop) (F : World → Prop) : Prop := ∀ w w', F w → R w w' → F w'

theorem wpOp_of_hOp {i : Nat} {a : Act} {F : World → Prop} {K : Act → (World → Prop) → Prop} {K' : Act → World → Prop} {Q' : Exit → Act → World → Prop} {w : World} (hC : ∀ a b : World, C a → R a b → C b) (hW : C w) (hk : Keeps R F) (hF : F w)
    (h : ∀ a F w', Keeps R F → C w' → F w' → K a F → K' a w') (hh : hOp P ops R C i K a F) : wpOpIn Fence.wide m P ops Q' i K' a w := by
  unfold hOp at hh
  unfold wpOpIn
  split
  · rename_i ho; simp only [ho] at hh; exact h _ _ _ hk hW hF hh
  · rename_i o ho
    simp only [ho] at hh
    split
    · rename_i hw
      simp only [hw, if_true] at hh
      unfold Oper.wpIn
      refine ⟨fun _ _ => trivial, ?_⟩
      rw [show Fence.wide.round = none from rfl, Oper.semAt_none]
      rcases hh with ⟨v, h1, h2⟩ | ⟨V, ⟨h0, h1⟩, h2⟩
      · have h3 := h1 w hW
        generalize (execOp a.eval o).run P w = r at *
        cases r with
        | ok x w' =>
          cases x <;> simp only [quietR] at h3 <;> simp only [Oper.uponIn]
          case value u =>
            obtain ⟨e1, e2⟩ := h3
            rw [e1, e2]
            exact h _ _ _ hk hW hF h2
          case skip =>
            obtain ⟨e1, e2⟩ := h3
            rw [e1, ← e2]
            exact h _ _ _ hk hW hF h2
          case enter f args =>
            obtain ⟨e1, hc⟩ := h3
            rw [e1]
            refine ⟨fun hx => (by cases hx), callsIn_wide.2 (hc.mono ?_)⟩
            rintro e w'' ⟨rfl, hw''⟩
            exact h _ _ _ hk (hC _ _ hW hw'') (hk _ _ hF hw'') h2
        | halt x w' => simp only [quietR] at h3
      · obtain ⟨u, w1, h3, h4, h5⟩ := h1 w hW
        rw [h3]
        simp only [Oper.uponIn]
        exact h _ _ _ (fun a b ⟨x, y⟩ hr => ⟨hk _ _ x hr, h0 _ _ _ y hr⟩) (hC _ _ hW h4) ⟨hk _ _ hF h4, h5⟩ (h2 u)
    · rename_i hw; simp only [hw] at hh; exact ⟨fun _ _ => trivial, h _ _ _ hk hW hF hh⟩

/-- quiet at this frame, or passed over -/
def YieldsR (P : Program) (ops : Array Oper) (R : World → World → Prop) (C : World → Prop) (o : Oper) (v : Value) (a : Act) : Prop :=
  (Region.wanted o (yielded ops a.tmps) = true ∧ quietY P R C o a v) ∨ (Region.wanted o (yielded ops a.tmps) = false ∧ v = undef)
theorem YieldsR.hOp {i : Nat} {o : Oper} {v : Value} {a : Act} {F : World → Prop} (hi : ops[i]? = some o) (hy : YieldsR P ops R C o v a) {K : Act → (World → Prop) → Prop} (h : K (a.put o.dst v) F) : hOp P ops R C i K a F := by
  unfold Go.Sv.hOp
  simp only [hi]
  rcases hy with ⟨hw, hv⟩ | ⟨hw, rfl⟩
  · simp only [hw, if_true]; exact .inl ⟨v, hv, h⟩
  · simp only [hw, Bool.false_eq_true, if_false]; exact h
theorem YieldsR.of_same {o : Oper} {v : Value} {a a' : Act} (hy : YieldsR P ops R C o v a) (he : execOp a'.eval o = execOp a.eval o)
    (hw : Region.wanted o (yielded ops a'.tmps) = Region.wanted o (yielded ops a.tmps)) : YieldsR P ops R C o v a' := by
  unfold YieldsR quietY at *
  rw [he, hw]
  exact hy
theorem hOp_put {j : Nat} {oi oj : Oper} {v : Value} (hj : ops[j]? = some oj) (hap : oi.apart ops oj = true)
    (hsi : ∀ cs b, oi.op ≠ .select cs b) (hsj : ∀ cs b, oj.op ≠ .select cs b) {K : Act → (World → Prop) → Prop} {a : Act} {F : World → Prop}
    (hy : YieldsR P ops R C oi v a) (h : hOp P ops R C j K (a.put oi.dst v) F) :
    hOp P ops R C j (fun a' F' => YieldsR P ops R C oi v a' ∧ K (a'.put oi.dst v) F') a F := by
  obtain ⟨h1, h2, h3⟩ := Oper.apart_spec hap
  have keep : ∀ (a : Act), YieldsR P ops R C oi v a → ∀ u, YieldsR P ops R C oi v (a.put oj.dst u) := fun a hy u =>
    hy.of_same (execOp_put oi hsi a oj.dst u h3) (wanted_put oi a oj.dst u h3)
  unfold hOp at *
  simp only [hj] at *
  rw [wanted_put oj a oi.dst v h1] at h
  split
  · rename_i hw
    simp only [hw, if_true] at h
    rcases h with ⟨u, hu, hn⟩ | ⟨V, ⟨hV0, hV⟩, hn⟩
    · refine .inl ⟨u, fun w hw' => ?_, keep a hy u, by rw [← Act.put_comm a v u h2]; exact hn⟩
      have := hu w hw'
      rwa [execOp_put oj hsj a oi.dst v h1] at this
    · refine .inr ⟨V, ⟨hV0, fun w hw' => ?_⟩, fun u => ⟨keep a hy u, by rw [← Act.put_comm a v u h2]; exact hn u⟩⟩
      have := hV w hw'
      rwa [execOp_put oj hsj a oi.dst v h1] at this
  · rename_i hw
    simp only [hw] at h
    exact ⟨keep a hy _, by rw [← Act.put_comm a v undef h2]; exact h⟩

/-- the head, in whatever order; behind it the tail -/
def wpAnyH (P : Program) (md : Region.Mode) (ops : Array Oper) (R : World → World → Prop) (C : World → Prop) (n : Nat) (L : Array Bool → Act → (World → Prop) → Prop) : Nat → Array Bool → Act → (World → Prop) → Prop
  | 0, listed, a, F => L listed a F
  | f + 1, listed, a, F =>
    Region.ready md ops listed ≠ [] ∧ ∀ i ∈ Region.ready md ops listed, i < n ∧ hOp P ops R C i (fun a' F' => wpAnyH P md ops R C n L f (listed.setIfInBounds i true) a' F') a F

theorem wpAnyIn_of_h {n g : Nat} {L : Array Bool → Act → (World → Prop) → Prop} {Q' : Exit → Act → World → Prop} (hC : ∀ a b : World, C a → R a b → C b)
    (hL : ∀ listed a F w, Keeps R F → C w → F w → L listed a F → wpAnyIn Fence.wide m P md ops Q' g listed a w) :
    ∀ (f : Nat) (listed : Array Bool) (a : Act) (F : World → Prop) (w : World), Keeps R F → C w → F w → wpAnyH P md ops R C n L f listed a F → wpAnyIn Fence.wide m P md ops Q' (f + g) listed a w
  | 0, listed, a, F, w, hk, hw, hF, h => by rw [Nat.zero_add]; exact hL _ _ _ _ hk hw hF h
  | f + 1, listed, a, F, w, hk, hw, hF, h => by
    rw [show f + 1 + g = (f + g) + 1 by omega]
    exact ⟨fun h0 => absurd h0 h.1, fun i hi => wpOp_of_hOp hC hw hk hF (fun a' F' w' hk' hw' hF' h' => wpAnyIn_of_h hC hL f _ a' F' w' hk' hw' hF' h') (h.2 i hi).2⟩

theorem wpAnyH_first {n i : Nat} {oi : Oper} {v : Value} {L : Array Bool → Act → (World → Prop) → Prop} (hi : ops[i]? = some oi) (hsel : ∀ (j : Nat) (o : Oper) cs b, ops[j]? = some o → o.op ≠ .select cs b)
    (hs : Region.sinkB md ops n = true) (hc : Region.chainB md ops n = true) (hn : n < ops.size) (hin : i < n)
    (hdone : ∀ listed a F, L listed a F → ∀ j ∈ Region.ready md ops listed, n ≤ j) :
    ∀ (f : Nat) (listed : Array Bool) (a : Act) (F : World → Prop), HeadInv md ops n listed →
      (∀ j oj, ops[j]? = some oj → j ≠ i → listed.getD j true = false → (∀ e ∈ oj.after, Region.binds md e = true → e.on ≠ i) → oi.apart ops oj = true) →
      i ∈ Region.ready md ops listed → YieldsR P ops R C oi v a →
      wpAnyH P md ops R C n L f (listed.setIfInBounds i true) (a.put oi.dst v) F → wpAnyH P md ops R C n L (f + 1) listed a F := by
  intro f
  induction f with
  | zero =>
    intro listed a F inv _ hr hy H
    have hun := (mem_ready.1 hr).1
    refine ⟨fun h => (by rw [h] at hr; cases hr), fun j hj => ?_⟩
    have hjn : j < n := by
      rcases Nat.lt_or_ge j n with h | h
      · exact h
      · exact absurd hj (tail_waits hs hc hn inv _ i rfl hin hun j h)
    refine ⟨hjn, ?_⟩
    by_cases hji : j = i
    · subst hji; exact hy.hOp hi H
    · have := hdone _ _ _ H j (ready_mono hj hji)
      omega
  | succ f ih =>
    intro listed a F inv hfree hr hy H
    have hun := (mem_ready.1 hr).1
    refine ⟨fun h => (by rw [h] at hr; cases hr), fun j hj => ?_⟩
    have hjn : j < n := by
      rcases Nat.lt_or_ge j n with h | h
      · exact h
      · exact absurd hj (tail_waits hs hc hn inv _ i rfl hin hun j h)
    refine ⟨hjn, ?_⟩
    by_cases hji : j = i
    · subst hji; exact hy.hOp hi H
    · have h1 := (H.2 j (ready_mono hj hji)).2
      obtain ⟨hjun, oj, hoj, hall⟩ := mem_ready.1 hj
      have hnot : ∀ e ∈ oj.after, Region.binds md e = true → e.on ≠ i := fun e he hb heq => by
        have h1 := hall e he hb
        rw [heq, getD_both hun] at h1
        cases h1
      have h2 := hOp_put hoj (hfree j oj hoj hji hjun hnot) (fun cs b => hsel i oi cs b hi) (fun cs b => hsel j oj cs b hoj) hy h1
      have hfree' : ∀ k ok, ops[k]? = some ok → k ≠ i → (listed.setIfInBounds j true).getD k true = false →
          (∀ e ∈ ok.after, Region.binds md e = true → e.on ≠ i) → oi.apart ops ok = true := fun k ok hk hki hun hno => by
        refine hfree k ok hk hki ?_ hno
        by_cases hjk : j = k
        · subst hjk; exact hjun
        · rw [getD_set_ne true hjk] at hun; exact hun
      refine hOp_mono (fun a' F' h3 => ih (listed.setIfInBounds j true) a' F' (inv.set hj hjn) hfree' (ready_mono hr (Ne.symm hji)) h3.1 ?_) h2
      rw [Array.setIfInBounds_comm _ _ hji]
      exact h3.2

/-- the lexical walk of quiet operations -/
def wpR (P : Program) (ops : Array Oper) (R : World → World → Prop) (C : World → Prop) (Q : Act → Prop) : List Oper → Act → Prop
  | [], a => Q a
  | o :: rest, a => if Region.wanted o (yielded ops a.tmps) then ∃ v, quietY P R C o a v ∧ wpR P ops R C Q rest (a.put o.dst v) else wpR P ops R C Q rest (a.put o.dst undef)
theorem wpR_mono {Q Q' : Act → Prop} (h : ∀ a, Q a → Q' a) : ∀ {l : List Oper} {a : Act}, wpR P ops R C Q l a → wpR P ops R C Q' l a
  | [], _, hh => h _ hh
  | o :: rest, a, hh => by
    simp only [wpR] at hh ⊢
    split
    · rename_i hw; rw [if_pos hw] at hh; obtain ⟨v, h1, h2⟩ := hh; exact ⟨v, h1, wpR_mono h h2⟩
    · rename_i hw; rw [if_neg hw] at hh; exact wpR_mono h hh

theorem wpAnyIn_of_seq {Q' : Exit → Act → World → Prop} : ∀ (l : List Oper) (k : Nat) (listed : Array Bool) (a : Act) (w : World), (∀ j, l[j]? = ops[k + j]?) →
    Region.seqB md ops l.length k listed = true → wpListIn Fence.wide m P ops Q' l a w → wpAnyIn Fence.wide m P md ops Q' l.length listed a w
  | [], _, _, _, _, _, hB, h => ⟨by simpa [Region.seqB] using hB, h⟩
  | o :: l, k, listed, a, w, hl, hB, h => by
    have h0 : ops[k]? = some o := by simpa using (hl 0).symm
    simp only [List.length_cons, Region.seqB, Bool.and_eq_true, decide_eq_true_eq] at hB
    refine ⟨fun h1 => (by rw [hB.1] at h1; cases h1), fun i hi => ?_⟩
    rw [hB.1] at hi
    have hik : i = k := by simpa using hi
    subst hik
    have hw : wpOpIn Fence.wide m P ops Q' i (wpListIn Fence.wide m P ops Q' l) a w := by unfold wpOpIn; simp only [h0]; exact h
    exact wpOpIn_mono (fun a' w' h' => wpAnyIn_of_seq l (i + 1) _ a' w' (fun j => by have := hl (j + 1); simpa [Nat.add_assoc, Nat.add_comm 1 j] using this) hB.2 h') hw

/-- lexical steps of the head, whatever follows them -/
theorem wpAnyH_lex {n g : Nat} {Lq : Act → Prop} {L : Array Bool → Act → (World → Prop) → Prop} {F : World → Prop} {t : Nat} (hsel : Region.noSelect ops = true) (hs : Region.sinkB md ops n = true) (hc : Region.chainB md ops n = true) (hn : n < ops.size)
    (hdone : ∀ listed a F, L listed a F → ∀ j ∈ Region.ready md ops listed, n ≤ j)
    (hend : ∀ k listed a, k + t = n → HeadInv md ops n listed → Region.lexHead md ops g t k listed = true → Lq a → wpAnyH P md ops R C n L t listed a F) :
    ∀ (l : List Oper) (k : Nat) (listed : Array Bool) (a : Act), (∀ j, j < l.length → l[j]? = ops[k + j]?) → k + l.length + t = n → HeadInv md ops n listed →
    Region.lexHead md ops g (l.length + t) k listed = true → wpR P ops R C Lq l a → wpAnyH P md ops R C n L (l.length + t) listed a F
  | [], k, listed, a, _, hk, inv, hB, h => by
    simp only [List.length_nil, Nat.zero_add, Nat.add_zero] at hB hk ⊢
    exact hend k listed a hk inv hB h
  | o :: l, k, listed, a, hl, hk, inv, hB, h => by
    have h0 : ops[k]? = some o := by simpa using (hl 0 (by simp)).symm
    rw [List.length_cons, show l.length + 1 + t = (l.length + t) + 1 by omega] at hB ⊢
    simp only [Region.lexHead, Bool.and_eq_true] at hB
    obtain ⟨⟨hr, hf⟩, hB'⟩ := hB
    have hkn : k < n := by simp only [List.length_cons] at hk; omega
    have hr' : k ∈ Region.ready md ops listed := by simpa using hr
    have hst : ∃ v, YieldsR P ops R C o v a ∧ wpR P ops R C Lq l (a.put o.dst v) := by
      simp only [wpR] at h
      by_cases hw : Region.wanted o (yielded ops a.tmps) = true
      · rw [if_pos hw] at h
        obtain ⟨v, h1, h2⟩ := h
        exact ⟨v, .inl ⟨hw, h1⟩, h2⟩
      · rw [if_neg hw] at h
        exact ⟨undef, .inr ⟨by simpa using hw, rfl⟩, h⟩
    obtain ⟨v, hy, hK⟩ := hst
    exact wpAnyH_first h0 (Region.noSelect_spec hsel) hs hc hn hkn hdone (l.length + t) listed a F inv (Region.free_spec h0 hf) hr' hy
      (wpAnyH_lex hsel hs hc hn hdone hend l (k + 1) _ _ (fun j hj => by have := hl (j + 1) (by simp; omega); simpa [Nat.add_assoc, Nat.add_comm 1 j] using this) (by simp only [List.length_cons] at hk; omega) (inv.set hr' hkn) hB' hK)

/-- a region that draws: quiet ones, one that makes something, and a tail -/
theorem wpIn_region_made {id : Nat} {Q : Exit → Act → World → Prop} {a : Act} {w : World} {l1 l2 : List Oper} {x : Oper} (hm : P.follows .mixedOrders = true) (hC : ∀ a b : World, C a → R a b → C b) (h0 : C { w with drawn := w.drawn + 1 })
    (hB : Region.lexTailB .any (l1 ++ x :: l2).toArray (l1.length + 1) = true) (hx : x.guard = none)
    (h : wpR P (l1 ++ x :: l2).toArray R C (fun a' => ∃ V, madeY P R C x a' V ∧ ∀ u w', C w' → V u w' → wpListIn Fence.wide m P (l1 ++ x :: l2).toArray Q l2 (a'.put x.dst u) w') l1 a) :
    (Code.region id (l1 ++ x :: l2).toArray true).wpIn Fence.wide m P Q a w := by
  simp only [Region.lexTailB, Bool.and_eq_true, decide_eq_true_eq] at hB
  obtain ⟨⟨⟨⟨hsel, hn⟩, hs⟩, hc⟩, hlex⟩ := hB
  generalize hops : (l1 ++ x :: l2).toArray = ops at *
  have hsz : ops.size = l1.length + 1 + l2.length := by rw [← hops]; simp; omega
  have hget : ∀ j : Nat, ops[j]? = (l1 ++ x :: l2)[j]? := fun j => by subst hops; simp
  have hdl : l2.length = ops.size - (l1.length + 1) := by omega
  have inv0 : HeadInv .any ops (l1.length + 1) (Array.replicate ops.size false) :=
    ⟨by simp, fun j oj _ hl => (by rw [getD_replicate_false] at hl; cases hl), fun t _ h9 => getD_in (by simp only [Array.size_replicate]; exact h9) (getD_replicate_false _ _)⟩
  have hxo : ops[l1.length]? = some x := by rw [hget]; simp
  let L : Array Bool → Act → (World → Prop) → Prop := fun listed a F => Region.seqB .any ops (ops.size - (l1.length + 1)) (l1.length + 1) listed = true ∧ ∀ w', C w' → F w' → wpListIn Fence.wide m P ops Q l2 a w'
  have hdone : ∀ listed a F, L listed a F → ∀ j ∈ Region.ready .any ops listed, l1.length + 1 ≤ j := fun listed a F hL => seqB_ready hL.1
  have H := wpAnyH_lex (md := .any) (P := P) (R := R) (C := C) (g := ops.size - (l1.length + 1)) (t := 1) (L := L) (F := fun _ => True) (Lq := fun a' => ∃ V, madeY P R C x a' V ∧ ∀ u w', C w' → V u w' → wpListIn Fence.wide m P ops Q l2 (a'.put x.dst u) w') hsel hs hc hn hdone
    (fun k listed a' hk inv hB1 hq => by
      have hk' : k = l1.length := by omega
      subst hk'
      simp only [Region.lexHead, Bool.and_eq_true] at hB1
      obtain ⟨⟨hr, hf⟩, hB2⟩ := hB1
      have hr' : l1.length ∈ Region.ready .any ops listed := by simpa using hr
      have hun := (mem_ready.1 hr').1
      refine ⟨fun h => (by rw [h] at hr'; cases hr'), fun j hj => ?_⟩
      have hjn : j < l1.length + 1 := by
        rcases Nat.lt_or_ge j (l1.length + 1) with h | h
        · exact h
        · exact absurd hj (tail_waits hs hc hn inv _ l1.length rfl (by omega) hun j h)
      refine ⟨hjn, ?_⟩
      by_cases hji : j = l1.length
      · subst hji
        obtain ⟨V, hV, hq⟩ := hq
        unfold hOp
        simp only [hxo, Region.wanted, hx, if_true]
        exact .inr ⟨V, hV, fun u => ⟨hB2, fun w' hw' hF => hq u w' hw' hF.2⟩⟩
      · have := seqB_ready hB2 j (ready_mono hj hji)
        omega)
    l1 0 _ a (fun j hj => by rw [Nat.zero_add, hget, List.getElem?_append_left hj]) (by omega) inv0 (by rw [show l1.length + 1 = l1.length + 1 from rfl] at hlex; exact hlex) h
  refine wpIn_region_any hm ?_
  have := wpAnyIn_of_h (m := m) (Q' := Q) (g := ops.size - (l1.length + 1)) (n := l1.length + 1) hC (fun listed a' F w' _ hw' hF hL => by
    have := wpAnyIn_of_seq (m := m) (md := .any) (Q' := Q) l2 (l1.length + 1) listed a' w' (fun j => by
      rw [hget, List.getElem?_append_right (by omega)]
      rw [show l1.length + 1 + j - l1.length = j + 1 by omega]
      simp) (by rw [hdl]; exact hL.1) (hL.2 w' hw' hF)
    rwa [hdl] at this) _ _ _ (fun _ => True) _ (fun _ _ _ _ => trivial) h0 trivial H
  rw [show l1.length + 1 + (ops.size - (l1.length + 1)) = ops.size by omega] at this
  exact this

/-- a region that draws: quiet ones, and a tail -/
theorem wpIn_region_tail {id : Nat} {Q : Exit → Act → World → Prop} {a : Act} {w : World} {l1 l2 : List Oper} (hm : P.follows .mixedOrders = true) (hC : ∀ a b : World, C a → R a b → C b) (h0 : C { w with drawn := w.drawn + 1 })
    (hB : Region.lexTailB .any (l1 ++ l2).toArray l1.length = true)
    (h : wpR P (l1 ++ l2).toArray R C (fun a' => ∀ w', C w' → wpListIn Fence.wide m P (l1 ++ l2).toArray Q l2 a' w') l1 a) :
    (Code.region id (l1 ++ l2).toArray true).wpIn Fence.wide m P Q a w := by
  simp only [Region.lexTailB, Bool.and_eq_true, decide_eq_true_eq] at hB
  obtain ⟨⟨⟨⟨hsel, hn⟩, hs⟩, hc⟩, hlex⟩ := hB
  generalize hops : (l1 ++ l2).toArray = ops at *
  have hsz : ops.size = l1.length + l2.length := by rw [← hops]; simp
  have hget : ∀ j : Nat, ops[j]? = (l1 ++ l2)[j]? := fun j => by subst hops; simp
  have hdl : l2.length = ops.size - l1.length := by omega
  have inv0 : HeadInv .any ops l1.length (Array.replicate ops.size false) :=
    ⟨by simp, fun j oj _ hl => (by rw [getD_replicate_false] at hl; cases hl), fun t _ h9 => getD_in (by simp only [Array.size_replicate]; exact h9) (getD_replicate_false _ _)⟩
  let L : Array Bool → Act → (World → Prop) → Prop := fun listed a F => Region.seqB .any ops (ops.size - l1.length) l1.length listed = true ∧ ∀ w', C w' → wpListIn Fence.wide m P ops Q l2 a w'
  have hdone : ∀ listed a F, L listed a F → ∀ j ∈ Region.ready .any ops listed, l1.length ≤ j := fun listed a F hL => seqB_ready hL.1
  have H := wpAnyH_lex (md := .any) (P := P) (R := R) (C := C) (g := ops.size - l1.length) (t := 0) (L := L) (F := fun _ => True) (Lq := fun a' => ∀ w', C w' → wpListIn Fence.wide m P ops Q l2 a' w') hsel hs hc hn hdone
    (fun k listed a' hk inv hB1 hq => ⟨by
      have hk' : k = l1.length := by omega
      subst hk'
      simpa [Region.lexHead] using hB1, hq⟩)
    l1 0 _ a (fun j hj => by rw [Nat.zero_add, hget, List.getElem?_append_left hj]) (by omega) inv0 hlex h
  refine wpIn_region_any hm ?_
  have := wpAnyIn_of_h (m := m) (Q' := Q) (g := ops.size - l1.length) (n := l1.length) hC (fun listed a' F w' _ hw' hF hL => by
    have := wpAnyIn_of_seq (m := m) (md := .any) (Q' := Q) l2 l1.length listed a' w' (fun j => by
      rw [hget, List.getElem?_append_right (by omega)]
      rw [show l1.length + j - l1.length = j by omega]) (by rw [hdl]; exact hL.1) (hL.2 w' hw')
    rwa [hdl] at this) _ _ _ (fun _ => True) _ (fun _ _ _ _ => trivial) h0 trivial H
  rw [Nat.add_zero, show l1.length + (ops.size - l1.length) = ops.size by omega] at this
  exact this
end
end Go.Sv
