/-
  Our texts SvTail, SvCore, SvOps, SvTab, SvStep, joined.
-/
import Derived.StillTail
import Derived.OrdersIn
import Derived.TacticsIn
import Derived.WalkKit
import Derived.Deep.Quiet
import Derived.KernelRfl
import Derived.RangeFuncLeaves
import Derived.RangeFuncRecord
import Derived.Test.YtmnnffenijjpcaaDoorRows
/-
  Regions that draw their order and end in a forced tail: quiet operations first, then at most one that makes something, then the tail, in whatever world behind them.
-/
set_option linter.unusedSimpArgs false
set_option linter.unusedVariables false
set_option linter.unnecessarySimpa false
namespace Go.Sv
open Go

section
variable {P : Program} {ops : Array Oper} {md : Region.Mode} {R : World → World → Prop} {C : World → Prop} {m : Nat}

/-- one value, a world behind -/
def quietR (P : Program) (R : World → World → Prop) (w : World) (v : Value) : Result Next → Prop
  | .ok (.value u) w' => w' = w ∧ u = v
  | .ok .skip w' => w' = w ∧ v = undef
  | .ok (.enter f args) w' => w' = w ∧ Calls P f args w (fun e w'' => e = .returned v ∧ R w w'')
  | _ => False
/-- the same value in every world behind C -/
def quietY (P : Program) (R : World → World → Prop) (C : World → Prop) (o : Oper) (a : Act) (v : Value) : Prop := ∀ w, C w → quietR P R w v ((execOp a.eval o).run P w)
/-- something is made; what is said of it stays -/
def madeY (P : Program) (R : World → World → Prop) (C : World → Prop) (o : Oper) (a : Act) (V : Value → World → Prop) : Prop :=
  (∀ u w w', V u w → R w w' → V u w') ∧ ∀ w, C w → ∃ u w1, (execOp a.eval o).run P w = .ok (.value u) w1 ∧ R w w1 ∧ V u w1

def hOp (P : Program) (ops : Array Oper) (R : World → World → Prop) (C : World → Prop) (i : Nat) (K : Act → (World → Prop) → Prop) (a : Act) (F : World → Prop) : Prop :=
  match ops[i]? with
  | none => K a F
  | some o => if Region.wanted o (yielded ops a.tmps) then (∃ v, quietY P R C o a v ∧ K (a.put o.dst v) F) ∨ (∃ V, madeY P R C o a V ∧ ∀ u, K (a.put o.dst u) (fun w => F w ∧ V u w)) else K (a.put o.dst undef) F

theorem hOp_mono {i : Nat} {a : Act} {F : World → Prop} {K K' : Act → (World → Prop) → Prop} (h : ∀ a F, K a F → K' a F) (hh : hOp P ops R C i K a F) : hOp P ops R C i K' a F := by
  unfold hOp at *
  split
  · exact h _ _ (by simpa [*] using hh)
  · rename_i o ho
    simp only [ho] at hh
    split
    · rename_i hw
      simp only [hw, if_true] at hh
      rcases hh with ⟨v, h1, h2⟩ | ⟨V, h1, h2⟩
      · exact .inl ⟨v, h1, h _ _ h2⟩
      · exact .inr ⟨V, h1, fun u => h _ _ (h2 u)⟩
    · rename_i hw; simp only [hw] at hh; exact h _ _ hh

def Keeps (R : World → World → Prop) (F : World → Prop) : Prop := ∀ w w', F w → R w w' → F w'

theorem wpOp_of_hOp {i : Nat} {a : Act} {F : World → Prop} {K : Act → (World → Prop) → Prop} {K' : Act → World → Prop} {Q' : Exit → Act → World → Prop} {w : World} (hC : ∀ a b : World, C a → R a b → C b) (hW : C w) (hk : Keeps R F) (hF : F w)
    (h : ∀ a F w', Keeps R F → C w' → F w' → K a F → K' a w') (hh : hOp P ops R C i K a F) : wpOpIn Fence.wide m P ops Q' i K' a w := by
  unfold hOp at hh
  unfold wpOpIn
  split
  · rename_i ho; simp only [ho] at hh; exact h _ _ _ hk hW hF hh
  · rename_i o ho
    simp only [ho] at hh
    split
    · rename_i hw
      simp only [hw, if_true] at hh
      unfold Oper.wpIn
      refine ⟨fun _ _ => trivial, ?_⟩
      rw [show Fence.wide.round = none from rfl, Oper.semAt_none]
      rcases hh with ⟨v, h1, h2⟩ | ⟨V, ⟨h0, h1⟩, h2⟩
      · have h3 := h1 w hW
        generalize (execOp a.eval o).run P w = r at *
        cases r with
        | ok x w' =>
          cases x <;> simp only [quietR] at h3 <;> simp only [Oper.uponIn]
          case value u =>
            obtain ⟨e1, e2⟩ := h3
            rw [e1, e2]
            exact h _ _ _ hk hW hF h2
          case skip =>
            obtain ⟨e1, e2⟩ := h3
            rw [e1, ← e2]
            exact h _ _ _ hk hW hF h2
          case enter f args =>
            obtain ⟨e1, hc⟩ := h3
            rw [e1]
            refine ⟨fun hx => (by cases hx), callsIn_wide.2 (hc.mono ?_)⟩
            rintro e w'' ⟨rfl, hw''⟩
            exact h _ _ _ hk (hC _ _ hW hw'') (hk _ _ hF hw'') h2
        | halt x w' => simp only [quietR] at h3
      · obtain ⟨u, w1, h3, h4, h5⟩ := h1 w hW
        rw [h3]
        simp only [Oper.uponIn]
        exact h _ _ _ (fun a b ⟨x, y⟩ hr => ⟨hk _ _ x hr, h0 _ _ _ y hr⟩) (hC _ _ hW h4) ⟨hk _ _ hF h4, h5⟩ (h2 u)
    · rename_i hw; simp only [hw] at hh; exact ⟨fun _ _ => trivial, h _ _ _ hk hW hF hh⟩

/-- quiet at this frame, or passed over -/
def YieldsR (P : Program) (ops : Array Oper) (R : World → World → Prop) (C : World → Prop) (o : Oper) (v : Value) (a : Act) : Prop :=
  (Region.wanted o (yielded ops a.tmps) = true ∧ quietY P R C o a v) ∨ (Region.wanted o (yielded ops a.tmps) = false ∧ v = undef)
theorem YieldsR.hOp {i : Nat} {o : Oper} {v : Value} {a : Act} {F : World → Prop} (hi : ops[i]? = some o) (hy : YieldsR P ops R C o v a) {K : Act → (World → Prop) → Prop} (h : K (a.put o.dst v) F) : hOp P ops R C i K a F := by
  unfold Go.Sv.hOp
  simp only [hi]
  rcases hy with ⟨hw, hv⟩ | ⟨hw, rfl⟩
  · simp only [hw, if_true]; exact .inl ⟨v, hv, h⟩
  · simp only [hw, Bool.false_eq_true, if_false]; exact h
theorem YieldsR.of_same {o : Oper} {v : Value} {a a' : Act} (hy : YieldsR P ops R C o v a) (he : execOp a'.eval o = execOp a.eval o)
    (hw : Region.wanted o (yielded ops a'.tmps) = Region.wanted o (yielded ops a.tmps)) : YieldsR P ops R C o v a' := by
  unfold YieldsR quietY at *
  rw [he, hw]
  exact hy
theorem hOp_put {j : Nat} {oi oj : Oper} {v : Value} (hj : ops[j]? = some oj) (hap : oi.apart ops oj = true)
    (hsi : ∀ cs b, oi.op ≠ .select cs b) (hsj : ∀ cs b, oj.op ≠ .select cs b) {K : Act → (World → Prop) → Prop} {a : Act} {F : World → Prop}
    (hy : YieldsR P ops R C oi v a) (h : hOp P ops R C j K (a.put oi.dst v) F) :
    hOp P ops R C j (fun a' F' => YieldsR P ops R C oi v a' ∧ K (a'.put oi.dst v) F') a F := by
  obtain ⟨h1, h2, h3⟩ := Oper.apart_spec hap
  have keep : ∀ (a : Act), YieldsR P ops R C oi v a → ∀ u, YieldsR P ops R C oi v (a.put oj.dst u) := fun a hy u =>
    hy.of_same (execOp_put oi hsi a oj.dst u h3) (wanted_put oi a oj.dst u h3)
  unfold hOp at *
  simp only [hj] at *
  rw [wanted_put oj a oi.dst v h1] at h
  split
  · rename_i hw
    simp only [hw, if_true] at h
    rcases h with ⟨u, hu, hn⟩ | ⟨V, ⟨hV0, hV⟩, hn⟩
    · refine .inl ⟨u, fun w hw' => ?_, keep a hy u, by rw [← Act.put_comm a v u h2]; exact hn⟩
      have := hu w hw'
      rwa [execOp_put oj hsj a oi.dst v h1] at this
    · refine .inr ⟨V, ⟨hV0, fun w hw' => ?_⟩, fun u => ⟨keep a hy u, by rw [← Act.put_comm a v u h2]; exact hn u⟩⟩
      have := hV w hw'
      rwa [execOp_put oj hsj a oi.dst v h1] at this
  · rename_i hw
    simp only [hw] at h
    exact ⟨keep a hy _, by rw [← Act.put_comm a v undef h2]; exact h⟩

/-- the head, in whatever order; behind it the tail -/
def wpAnyH (P : Program) (md : Region.Mode) (ops : Array Oper) (R : World → World → Prop) (C : World → Prop) (n : Nat) (L : Array Bool → Act → (World → Prop) → Prop) : Nat → Array Bool → Act → (World → Prop) → Prop
  | 0, listed, a, F => L listed a F
  | f + 1, listed, a, F =>
    Region.ready md ops listed ≠ [] ∧ ∀ i ∈ Region.ready md ops listed, i < n ∧ hOp P ops R C i (fun a' F' => wpAnyH P md ops R C n L f (listed.setIfInBounds i true) a' F') a F

theorem wpAnyIn_of_h {n g : Nat} {L : Array Bool → Act → (World → Prop) → Prop} {Q' : Exit → Act → World → Prop} (hC : ∀ a b : World, C a → R a b → C b)
    (hL : ∀ listed a F w, Keeps R F → C w → F w → L listed a F → wpAnyIn Fence.wide m P md ops Q' g listed a w) :
    ∀ (f : Nat) (listed : Array Bool) (a : Act) (F : World → Prop) (w : World), Keeps R F → C w → F w → wpAnyH P md ops R C n L f listed a F → wpAnyIn Fence.wide m P md ops Q' (f + g) listed a w
  | 0, listed, a, F, w, hk, hw, hF, h => by rw [Nat.zero_add]; exact hL _ _ _ _ hk hw hF h
  | f + 1, listed, a, F, w, hk, hw, hF, h => by
    rw [show f + 1 + g = (f + g) + 1 by omega]
    exact ⟨fun h0 => absurd h0 h.1, fun i hi => wpOp_of_hOp hC hw hk hF (fun a' F' w' hk' hw' hF' h' => wpAnyIn_of_h hC hL f _ a' F' w' hk' hw' hF' h') (h.2 i hi).2⟩

theorem wpAnyH_first {n i : Nat} {oi : Oper} {v : Value} {L : Array Bool → Act → (World → Prop) → Prop} (hi : ops[i]? = some oi) (hsel : ∀ (j : Nat) (o : Oper) cs b, ops[j]? = some o → o.op ≠ .select cs b)
    (hs : Region.sinkB md ops n = true) (hc : Region.chainB md ops n = true) (hn : n < ops.size) (hin : i < n)
    (hdone : ∀ listed a F, L listed a F → ∀ j ∈ Region.ready md ops listed, n ≤ j) :
    ∀ (f : Nat) (listed : Array Bool) (a : Act) (F : World → Prop), HeadInv md ops n listed →
      (∀ j oj, ops[j]? = some oj → j ≠ i → listed.getD j true = false → (∀ e ∈ oj.after, Region.binds md e = true → e.on ≠ i) → oi.apart ops oj = true) →
      i ∈ Region.ready md ops listed → YieldsR P ops R C oi v a →
      wpAnyH P md ops R C n L f (listed.setIfInBounds i true) (a.put oi.dst v) F → wpAnyH P md ops R C n L (f + 1) listed a F := by
  intro f
  induction f with
  | zero =>
    intro listed a F inv _ hr hy H
    have hun := (mem_ready.1 hr).1
    refine ⟨fun h => (by rw [h] at hr; cases hr), fun j hj => ?_⟩
    have hjn : j < n := by
      rcases Nat.lt_or_ge j n with h | h
      · exact h
      · exact absurd hj (tail_waits hs hc hn inv _ i rfl hin hun j h)
    refine ⟨hjn, ?_⟩
    by_cases hji : j = i
    · subst hji; exact hy.hOp hi H
    · have := hdone _ _ _ H j (ready_mono hj hji)
      omega
  | succ f ih =>
    intro listed a F inv hfree hr hy H
    have hun := (mem_ready.1 hr).1
    refine ⟨fun h => (by rw [h] at hr; cases hr), fun j hj => ?_⟩
    have hjn : j < n := by
      rcases Nat.lt_or_ge j n with h | h
      · exact h
      · exact absurd hj (tail_waits hs hc hn inv _ i rfl hin hun j h)
    refine ⟨hjn, ?_⟩
    by_cases hji : j = i
    · subst hji; exact hy.hOp hi H
    · have h1 := (H.2 j (ready_mono hj hji)).2
      obtain ⟨hjun, oj, hoj, hall⟩ := mem_ready.1 hj
      have hnot : ∀ e ∈ oj.after, Region.binds md e = true → e.on ≠ i := fun e he hb heq => by
        have h1 := hall e he hb
        rw [heq, getD_both hun] at h1
        cases h1
      have h2 := hOp_put hoj (hfree j oj hoj hji hjun hnot) (fun cs b => hsel i oi cs b hi) (fun cs b => hsel j oj cs b hoj) hy h1
      have hfree' : ∀ k ok, ops[k]? = some ok → k ≠ i → (listed.setIfInBounds j true).getD k true = false →
          (∀ e ∈ ok.after, Region.binds md e = true → e.on ≠ i) → oi.apart ops ok = true := fun k ok hk hki hun hno => by
        refine hfree k ok hk hki ?_ hno
        by_cases hjk : j = k
        · subst hjk; exact hjun
        · rw [getD_set_ne true hjk] at hun; exact hun
      refine hOp_mono (fun a' F' h3 => ih (listed.setIfInBounds j true) a' F' (inv.set hj hjn) hfree' (ready_mono hr (Ne.symm hji)) h3.1 ?_) h2
      rw [Array.setIfInBounds_comm _ _ hji]
      exact h3.2

/-- the lexical walk of quiet operations -/
def wpR (P : Program) (ops : Array Oper) (R : World → World → Prop) (C : World → Prop) (Q : Act → Prop) : List Oper → Act → Prop
  | [], a => Q a
  | o :: rest, a => if Region.wanted o (yielded ops a.tmps) then ∃ v, quietY P R C o a v ∧ wpR P ops R C Q rest (a.put o.dst v) else wpR P ops R C Q rest (a.put o.dst undef)
theorem wpR_mono {Q Q' : Act → Prop} (h : ∀ a, Q a → Q' a) : ∀ {l : List Oper} {a : Act}, wpR P ops R C Q l a → wpR P ops R C Q' l a
  | [], _, hh => h _ hh
  | o :: rest, a, hh => by
    simp only [wpR] at hh ⊢
    split
    · rename_i hw; rw [if_pos hw] at hh; obtain ⟨v, h1, h2⟩ := hh; exact ⟨v, h1, wpR_mono h h2⟩
    · rename_i hw; rw [if_neg hw] at hh; exact wpR_mono h hh

theorem wpAnyIn_of_seq {Q' : Exit → Act → World → Prop} : ∀ (l : List Oper) (k : Nat) (listed : Array Bool) (a : Act) (w : World), (∀ j, l[j]? = ops[k + j]?) →
    Region.seqB md ops l.length k listed = true → wpListIn Fence.wide m P ops Q' l a w → wpAnyIn Fence.wide m P md ops Q' l.length listed a w
  | [], _, _, _, _, _, hB, h => ⟨by simpa [Region.seqB] using hB, h⟩
  | o :: l, k, listed, a, w, hl, hB, h => by
    have h0 : ops[k]? = some o := by simpa using (hl 0).symm
    simp only [List.length_cons, Region.seqB, Bool.and_eq_true, decide_eq_true_eq] at hB
    refine ⟨fun h1 => (by rw [hB.1] at h1; cases h1), fun i hi => ?_⟩
    rw [hB.1] at hi
    have hik : i = k := by simpa using hi
    subst hik
    have hw : wpOpIn Fence.wide m P ops Q' i (wpListIn Fence.wide m P ops Q' l) a w := by unfold wpOpIn; simp only [h0]; exact h
    exact wpOpIn_mono (fun a' w' h' => wpAnyIn_of_seq l (i + 1) _ a' w' (fun j => by have := hl (j + 1); simpa [Nat.add_assoc, Nat.add_comm 1 j] using this) hB.2 h') hw

/-- lexical steps of the head, whatever follows them -/
theorem wpAnyH_lex {n g : Nat} {Lq : Act → Prop} {L : Array Bool → Act → (World → Prop) → Prop} {F : World → Prop} {t : Nat} (hsel : Region.noSelect ops = true) (hs : Region.sinkB md ops n = true) (hc : Region.chainB md ops n = true) (hn : n < ops.size)
    (hdone : ∀ listed a F, L listed a F → ∀ j ∈ Region.ready md ops listed, n ≤ j)
    (hend : ∀ k listed a, k + t = n → HeadInv md ops n listed → Region.lexHead md ops g t k listed = true → Lq a → wpAnyH P md ops R C n L t listed a F) :
    ∀ (l : List Oper) (k : Nat) (listed : Array Bool) (a : Act), (∀ j, j < l.length → l[j]? = ops[k + j]?) → k + l.length + t = n → HeadInv md ops n listed →
    Region.lexHead md ops g (l.length + t) k listed = true → wpR P ops R C Lq l a → wpAnyH P md ops R C n L (l.length + t) listed a F
  | [], k, listed, a, _, hk, inv, hB, h => by
    simp only [List.length_nil, Nat.zero_add, Nat.add_zero] at hB hk ⊢
    exact hend k listed a hk inv hB h
  | o :: l, k, listed, a, hl, hk, inv, hB, h => by
    have h0 : ops[k]? = some o := by simpa using (hl 0 (by simp)).symm
    rw [List.length_cons, show l.length + 1 + t = (l.length + t) + 1 by omega] at hB ⊢
    simp only [Region.lexHead, Bool.and_eq_true] at hB
    obtain ⟨⟨hr, hf⟩, hB'⟩ := hB
    have hkn : k < n := by simp only [List.length_cons] at hk; omega
    have hr' : k ∈ Region.ready md ops listed := by simpa using hr
    have hst : ∃ v, YieldsR P ops R C o v a ∧ wpR P ops R C Lq l (a.put o.dst v) := by
      simp only [wpR] at h
      by_cases hw : Region.wanted o (yielded ops a.tmps) = true
      · rw [if_pos hw] at h
        obtain ⟨v, h1, h2⟩ := h
        exact ⟨v, .inl ⟨hw, h1⟩, h2⟩
      · rw [if_neg hw] at h
        exact ⟨undef, .inr ⟨by simpa using hw, rfl⟩, h⟩
    obtain ⟨v, hy, hK⟩ := hst
    exact wpAnyH_first h0 (Region.noSelect_spec hsel) hs hc hn hkn hdone (l.length + t) listed a F inv (Region.free_spec h0 hf) hr' hy
      (wpAnyH_lex hsel hs hc hn hdone hend l (k + 1) _ _ (fun j hj => by have := hl (j + 1) (by simp; omega); simpa [Nat.add_assoc, Nat.add_comm 1 j] using this) (by simp only [List.length_cons] at hk; omega) (inv.set hr' hkn) hB' hK)

/-- a region that draws: quiet ones, and a tail -/
theorem wpIn_region_tail {id : Nat} {Q : Exit → Act → World → Prop} {a : Act} {w : World} {l1 l2 : List Oper} (hm : P.follows .mixedOrders = true) (hC : ∀ a b : World, C a → R a b → C b) (h0 : C { w with drawn := w.drawn + 1 })
    (hB : Region.lexTailB .any (l1 ++ l2).toArray l1.length = true)
    (h : wpR P (l1 ++ l2).toArray R C (fun a' => ∀ w', C w' → wpListIn Fence.wide m P (l1 ++ l2).toArray Q l2 a' w') l1 a) :
    (Code.region id (l1 ++ l2).toArray true).wpIn Fence.wide m P Q a w := by
  simp only [Region.lexTailB, Bool.and_eq_true, decide_eq_true_eq] at hB
  obtain ⟨⟨⟨⟨hsel, hn⟩, hs⟩, hc⟩, hlex⟩ := hB
  generalize hops : (l1 ++ l2).toArray = ops at *
  have hsz : ops.size = l1.length + l2.length := by rw [← hops]; simp
  have hget : ∀ j : Nat, ops[j]? = (l1 ++ l2)[j]? := fun j => by subst hops; simp
  have hdl : l2.length = ops.size - l1.length := by omega
  have inv0 : HeadInv .any ops l1.length (Array.replicate ops.size false) :=
    ⟨by simp, fun j oj _ hl => (by rw [getD_replicate_false] at hl; cases hl), fun t _ h9 => getD_in (by simp only [Array.size_replicate]; exact h9) (getD_replicate_false _ _)⟩
  let L : Array Bool → Act → (World → Prop) → Prop := fun listed a F => Region.seqB .any ops (ops.size - l1.length) l1.length listed = true ∧ ∀ w', C w' → wpListIn Fence.wide m P ops Q l2 a w'
  have hdone : ∀ listed a F, L listed a F → ∀ j ∈ Region.ready .any ops listed, l1.length ≤ j := fun listed a F hL => seqB_ready hL.1
  have H := wpAnyH_lex (md := .any) (P := P) (R := R) (C := C) (g := ops.size - l1.length) (t := 0) (L := L) (F := fun _ => True) (Lq := fun a' => ∀ w', C w' → wpListIn Fence.wide m P ops Q l2 a' w') hsel hs hc hn hdone
    (fun k listed a' hk inv hB1 hq => ⟨by
      have hk' : k = l1.length := by omega
      subst hk'
      simpa [Region.lexHead] using hB1, hq⟩)
    l1 0 _ a (fun j hj => by rw [Nat.zero_add, hget, List.getElem?_append_left hj]) (by omega) inv0 hlex h
  refine wpIn_region_any hm ?_
  have := wpAnyIn_of_h (m := m) (Q' := Q) (g := ops.size - l1.length) (n := l1.length) hC (fun listed a' F w' _ hw' hF hL => by
    have := wpAnyIn_of_seq (m := m) (md := .any) (Q' := Q) l2 l1.length listed a' w' (fun j => by
      rw [hget, List.getElem?_append_right (by omega)]
      rw [show l1.length + j - l1.length = j by omega]) (by rw [hdl]; exact hL.1) (hL.2 w' hw')
    rwa [hdl] at this) _ _ _ (fun _ => True) _ (fun _ _ _ _ => trivial) h0 trivial H
  rw [Nat.add_zero, show l1.length + (ops.size - l1.length) = ops.size by omega] at this
  exact this
end
end Go.Sv

/-
  The wp rules of our own, over the kit's Code.wp and wpList: a frame is a function from slots to values.
-/
set_option linter.unusedSimpArgs false
set_option linter.unusedVariables false
set_option linter.unnecessarySimpa false
namespace Go.Sv
open Go Go.RowKit

/-! ## Frames -/
abbrev Env := Nat → Value
/-- what is deferred so far; and whether a round of a loop over a function is under way -/
structure Ctx where
  ds : List Deferred
  ro : Option Nat
def fen : Option Nat → Fence
  | none => Fence.wide
  | some l => Fence.wide.inRound l
theorem fen_fn (ro : Option Nat) (f : FuncId) : (fen ro).fn f := by cases ro <;> trivial
theorem fen_depth (ro : Option Nat) : (fen ro).depth = none := by cases ro <;> rfl
theorem fen_round (ro : Option Nat) : (fen ro).round = ro := by cases ro <;> rfl
theorem callsIn_fen {ro : Option Nat} {n : Nat} {P : Program} {f : FuncId} {args : Array Value} {w : World} {R : Ending → World → Prop} (h : Calls P f args w R) : CallsIn (fen ro) n P f args w R := by
  cases ro
  · exact callsIn_wide.2 h
  · exact (callsIn_wide (n := n)).2 h
def upd (σ : Env) (d : Nat) (v : Value) : Env := fun t => match Nat.beq t d with | true => v | false => σ t
def updO (σ : Env) (d : Option Nat) (v : Value) : Env := match d with | some d => upd σ d v | none => σ
def act (n : Nat) (ds : List Deferred) (σ : Env) : Act := ⟨Array.ofFn (fun i : Fin n => σ i), ds⟩
def evl (σ : Env) : Operand → Value
  | .tmp t => σ t
  | .const v => v
  | .global g => .pointer (some ⟨g, 0, none⟩)
  | .func f => .func (.func f) #[] #[]

theorem upd_same (σ : Env) (d : Nat) (v : Value) : upd σ d v d = v := by simp [upd, Nat.beq_refl]
theorem upd_ne (σ : Env) {d t : Nat} (v : Value) (h : t ≠ d) : upd σ d v t = σ t := by
  have : Nat.beq t d = false := by
    cases hb : Nat.beq t d
    · rfl
    · exact absurd (Nat.eq_of_beq_eq_true hb) h
  simp [upd, this]
theorem updB (σ : Env) (d : Nat) (v : Value) (t : Nat) : upd σ d v t = bif t == d then v else σ t := by
  by_cases e : t = d
  · subst e; rw [upd_same, beq_self_eq_true, cond_true]
  · rw [upd_ne _ _ e, beq_eq_false_iff_ne.2 e, cond_false]
theorem upd_self {σ : Env} {d : Nat} {v : Value} (h : σ d = v) : upd σ d v = σ := by
  funext t
  by_cases e : t = d
  · subst e; rw [upd_same, h]
  · rw [upd_ne _ _ e]

def opIn (n : Nat) : Operand → Bool
  | .tmp t => Nat.blt t n
  | _ => true
def dstIn (n : Nat) : Option Nat → Bool
  | some d => Nat.blt d n
  | none => true
def operIn (n : Nat) (inr : Bool) (ops : Array Oper) (o : Oper) : Bool :=
  dstIn n o.dst && o.op.operands.all (opIn n) && (match o.op with | .select .. => false | .defer _ => !inr | _ => true) &&
  (match o.guard with | some (j, _) => (match (ops[j]?).bind (·.dst) with | some d => Nat.blt d n | none => true) | none => true)

theorem act_eval {n : Nat} {ds : List Deferred} {σ : Env} {x : Operand} (h : opIn n x = true) : (act n ds σ).eval x = evl σ x := by
  cases x with
  | tmp t =>
    have ht : t < n := by simpa [opIn] using h
    simp [Act.eval, act, evl, ht]
  | _ => rfl

theorem act_put {n : Nat} {ds : List Deferred} {σ : Env} {d : Option Nat} {v : Value} (_h : dstIn n d = true) : (act n ds σ).put d v = act n ds (updO σ d v) := by
  cases d with
  | none => rfl
  | some d =>
    simp only [Act.put, act, updO]
    congr 1
    apply Array.ext
    · simp
    · intro i h1 h2
      simp only [Array.size_setIfInBounds, Array.size_ofFn] at h1
      rw [Array.getElem_setIfInBounds (by simpa using h1)]
      by_cases e : d = i
      · subst e; simp [upd_same]
      · rw [if_neg e]; simp [upd_ne σ v (Ne.symm e)]

theorem act_exec {n : Nat} {inr : Bool} {ops : Array Oper} {ds : List Deferred} {σ : Env} {o : Oper} (h : operIn n inr ops o = true) : execOp (act n ds σ).eval o = execOp (evl σ) o := by
  simp only [operIn, Bool.and_eq_true] at h
  refine execOp_congr o (fun cs b hs => ?_) (fun x hx => act_eval ?_)
  · rw [hs] at h; simp at h
  · have := h.1.1.2
    rw [Array.all_eq_true'] at this
    exact this x hx

/-- what a guard sees -/
def yl (ops : Array Oper) (σ : Env) (j : Nat) : Option Bool :=
  match (ops[j]?).bind (·.dst) with
  | some d => (match σ d with | .bool b => some b | _ => none)
  | none => none

theorem semAt_in {n : Nat} {ro : Option Nat} {ops : Array Oper} {o : Oper} (h : operIn n ro.isSome ops o = true) (ρ : Operand → Value) : Oper.semAt ro ρ o = execOp ρ o := by
  cases ro with
  | none => rfl
  | some l =>
    refine Oper.semAt_eq _ _ _ fun c hc => ?_
    simp only [operIn, Bool.and_eq_true] at h
    have := h.1.2
    rw [hc] at this
    simp at this
theorem act_yielded {n : Nat} {inr : Bool} {ops : Array Oper} {ds : List Deferred} {σ : Env} {o : Oper} (h : operIn n inr ops o = true) : Region.wanted o (yielded ops (act n ds σ).tmps) = Region.wanted o (yl ops σ) := by
  simp only [operIn, Bool.and_eq_true] at h
  have h2 := h.2
  unfold Region.wanted
  cases hg : o.guard with
  | none => rfl
  | some p =>
    obtain ⟨j, want⟩ := p
    simp only [hg] at h2
    simp only [yielded, yl]
    cases hd : (ops[j]?).bind (·.dst) with
    | none => rfl
    | some d =>
      simp only [hd] at h2
      have hdn : d < n := by simpa using h2
      simp only [Option.bind_some, act]
      rw [Array.getElem?_eq_getElem (by simpa using hdn)]
      simp only [Array.getElem_ofFn]
      cases σ d <;> rfl

/-! ## One operation: what it yields -/
def Y (P : Program) (σ : Env) (o : Oper) (w : World) (v : Value) (w' : World) : Prop :=
  (execOp (evl σ) o).run P w = .ok (.value v) w' ∨ ((execOp (evl σ) o).run P w = .ok .skip w' ∧ v = undef)

/-! ## Lists of operations -/
def lft (n : Nat) (ro : Option Nat) (Q : Exit → Ctx → Env → World → Prop) : Exit → Act → World → Prop := fun e a w => ∃ ds σ, a = act n ds σ ∧ Q e ⟨ds, ro⟩ σ w
def WL (P : Program) (n : Nat) (ds : Ctx) (ops : Array Oper) (Q : Exit → Ctx → Env → World → Prop) (l : List Oper) (σ : Env) (w : World) : Prop :=
  l.all (operIn n ds.ro.isSome ops) = true → wpListIn (fen ds.ro) 0 P ops (lft n ds.ro Q) l (act n ds.ds σ) w

theorem operIn_dst {n : Nat} {inr : Bool} {ops : Array Oper} {o : Oper} (h : operIn n inr ops o = true) : dstIn n o.dst = true := by
  simp only [operIn, Bool.and_eq_true] at h; exact h.1.1.1

section
variable {P : Program} {n : Nat} {ds : Ctx} {ops : Array Oper} {Q : Exit → Ctx → Env → World → Prop} {rest : List Oper} {σ : Env} {w w' : World} {o : Oper} {v : Value}

theorem WL_nil (h : Q .normal ds σ w) : WL P n ds ops Q [] σ w := fun _ => ⟨ds.ds, σ, rfl, h⟩

/-- an operation that is carried out: what the model says of it, to the rest -/
theorem WL_upon (hg : Region.wanted o (yl ops σ) = true)
    (h : operIn n ds.ro.isSome ops o = true → ∀ K : Act → World → Prop, (∀ σ w, WL P n ds ops Q rest σ w → K (act n ds.ds σ) w) → (∀ d σ w, WL P n ⟨d :: ds.ds, ds.ro⟩ ops Q rest σ w → K (act n (d :: ds.ds) σ) w) →
      o.uponIn (fen ds.ro) 0 P (act n ds.ds σ) K (lft n ds.ro Q) ((execOp (evl σ) o).run P w)) : WL P n ds ops Q (o :: rest) σ w := by
  intro hin
  simp only [List.all_cons, Bool.and_eq_true] at hin
  have hin1 := hin.1
  refine wpListIn_step fun K hK => ?_
  rw [act_yielded hin1, hg, if_pos rfl]
  refine ⟨fun f _ => fen_fn _ _, ?_⟩
  rw [fen_round, semAt_in hin1, act_exec hin1]
  exact h hin1 K (fun σ w hw => hK _ _ (hw hin.2)) (fun d σ w hw => hK _ _ (hw hin.2))

theorem WL_want (hg : Region.wanted o (yl ops σ) = true) (hy : Y P σ o w v w') (h : WL P n ds ops Q rest (updO σ o.dst v) w') : WL P n ds ops Q (o :: rest) σ w := by
  refine WL_upon hg fun hin K hK _ => ?_
  have hd := operIn_dst hin
  rcases hy with hy | ⟨hy, hv⟩
  · rw [hy, Oper.uponIn_value, act_put hd]; exact hK _ _ h
  · rw [hy, Oper.uponIn_skip, act_put hd, ← hv]; exact hK _ _ h

theorem WL_step (hg : o.guard = none) (hy : Y P σ o w v w') (h : WL P n ds ops Q rest (updO σ o.dst v) w') : WL P n ds ops Q (o :: rest) σ w :=
  WL_want (by simp [Region.wanted, hg]) hy h

/-- an operation whose guard says no -/
theorem WL_skip (hg : Region.wanted o (yl ops σ) = false) (h : WL P n ds ops Q rest (updO σ o.dst undef) w) : WL P n ds ops Q (o :: rest) σ w := by
  intro hin
  simp only [List.all_cons, Bool.and_eq_true] at hin
  have hin1 := hin.1
  have hd := operIn_dst hin1
  refine wpListIn_step fun K hK => ?_
  rw [act_yielded hin1, hg]
  simp only [Bool.false_eq_true, if_false]
  refine ⟨fun f _ => fen_fn _ _, hK _ _ ?_⟩
  rw [act_put hd]; exact h hin.2

/-- a guarded operation that leaves the world alone, both ways in one -/
theorem WL_guard {b : Bool} (hg : Region.wanted o (yl ops σ) = b) (hy : b = true → Y P σ o w v w) (h : WL P n ds ops Q rest (updO σ o.dst (bif b then v else undef)) w) : WL P n ds ops Q (o :: rest) σ w := by
  cases b with
  | true => exact WL_want hg (hy rfl) h
  | false => exact WL_skip hg h

/-! ## A call of a function by its contract -/
def CallsR (P : Program) (f : FuncId) (args : Array Value) (w : World) (R : Value → World → Prop) : Prop := Calls P f args w fun e w' => ∃ v, e = .returned v ∧ R v w'
theorem CallsR.mono {f : FuncId} {args : Array Value} {R R' : Value → World → Prop} (h : CallsR P f args w R) (hr : ∀ v w', R v w' → R' v w') : CallsR P f args w R' :=
  Calls.mono h fun _ _ ⟨v, he, h⟩ => ⟨v, he, hr _ _ h⟩

/-- a function that is entered as Go code -/
class Fnc (P : Program) (f : FuncId) : Prop where
  ok : ∃ fn, P.funcs[f]? = some fn ∧ (fn.name == "runtime.NumGoroutine") = false ∧ fn.body.isNone = false

theorem run_callFunc {f : FuncId} [hf : Fnc P f] (args : Array Value) (w : World) : (callFunc f args).run P w = .ok (.enter f args) w := by
  obtain ⟨fn, h1, h2, h3⟩ := hf.ok
  simp only [callFunc, Sem.run_bind, run_program, Result.andThen_ok, h1, h2, h3]
  rfl

theorem run_call_func {f : FuncId} [hf : Fnc P f] (σ : Env) (d : Option Tmp) (args : Array Operand) (ats : Array TypeId) (ty : TypeId) (pos : String) (af : Array Edge) (g : Option (Nat × Bool)) (w : World) :
    (execOp (evl σ) ⟨d, .call ⟨.value (.func f), args, ats⟩, ty, pos, af, g⟩).run P w = .ok (.enter f (args.map (evl σ))) w := by
  simp only [execOp, resolve, evl, Deferred.ofValue]
  simp only [Sem.run_bind, Sem.run_pure, Result.andThen_ok, invoke]
  simpa using run_callFunc (P := P) (f := f) (args.map (evl σ)) w

/-- a call that comes to a function's entry, by the function's contract: it returns, or panics -/
theorem WL_enter {f : FuncId} {args : Array Value} {R : Value → World → Prop} {S : List PanicEntry → World → Prop} (hg : Region.wanted o (yl ops σ) = true) (hy : (execOp (evl σ) o).run P w = .ok (.enter f args) w')
    (hc : Calls P f args w' fun e w'' => (∃ v, e = .returned v ∧ R v w'') ∨ ∃ ch, e = .panicked ch ∧ S ch w'')
    (h : ∀ v w', R v w' → WL P n ds ops Q rest (updO σ o.dst v) w') (hp : ∀ ch w', S ch w' → Q (.panic ch) ds σ w') : WL P n ds ops Q (o :: rest) σ w := by
  refine WL_upon hg fun hin K hK _ => ?_
  have hd := operIn_dst hin
  rw [hy, Oper.uponIn_enter]
  refine ⟨fun hx => (by rw [fen_depth] at hx; cases hx), callsIn_fen (Calls.mono hc ?_)⟩
  rintro e w'' (⟨v, rfl, hR⟩ | ⟨ch, rfl, hS⟩)
  · show K _ _
    rw [act_put hd]; exact hK _ _ (h v w'' hR)
  · exact ⟨ds.ds, σ, rfl, hp ch w'' hS⟩

theorem WL_call_want {f : FuncId} [hf : Fnc P f] {d : Option Tmp} {args : Array Operand} {ats : Array TypeId} {ty : TypeId} {pos : String} {af : Array Edge} {g : Option (Nat × Bool)} {R : Value → World → Prop}
    (hg : Region.wanted ⟨d, .call ⟨.value (.func f), args, ats⟩, ty, pos, af, g⟩ (yl ops σ) = true)
    (hc : CallsR P f (args.map (evl σ)) w R) (h : ∀ v w', R v w' → WL P n ds ops Q rest (updO σ d v) w') :
    WL P n ds ops Q (⟨d, .call ⟨.value (.func f), args, ats⟩, ty, pos, af, g⟩ :: rest) σ w :=
  WL_enter (S := fun _ _ => False) hg (run_call_func σ d args ats ty pos af g w) (Calls.mono hc fun _ _ h => .inl h) h fun _ _ h => h.elim
theorem WL_call {f : FuncId} [hf : Fnc P f] {d : Option Tmp} {args : Array Operand} {ats : Array TypeId} {ty : TypeId} {pos : String} {af : Array Edge} {R : Value → World → Prop}
    (hc : CallsR P f (args.map (evl σ)) w R) (h : ∀ v w', R v w' → WL P n ds ops Q rest (updO σ d v) w') :
    WL P n ds ops Q (⟨d, .call ⟨.value (.func f), args, ats⟩, ty, pos, af, none⟩ :: rest) σ w := WL_call_want (by simp [Region.wanted]) hc h
end

/-! ## Worlds that have grown -/
/-- all blocks of w are in w' as they were -/
def Frm (w w' : World) : Prop := Below w.heap.size w w'
theorem Frm.refl (w : World) : Frm w w := Below.refl _ _
theorem Frm.trans {a b c : World} (h : Frm a b) (k : Frm b c) : Frm a c := Below.trans h (Below.mono k h.size)
theorem Frm.drew {a b : World} (h : Frm a b) : Frm a b.drew := Below.drew h
theorem Frm.drawn {a b : World} (h : Frm a b) : Frm a { b with drawn := b.drawn + 1 } := Below.drew h

/-! ## Regions that draw their order -/
/-- one value in every world of the class, in whatever world of the class -/
def YQ (P : Program) (σ : Env) (o : Oper) (C : World → Prop) (v : Value) : Prop := ∀ w, C w → quietR P Frm w v ((execOp (evl σ) o).run P w)
def QL (P : Program) (n : Nat) (ds : Ctx) (ops : Array Oper) (C : World → Prop) (Q : Env → Prop) (l : List Oper) (σ : Env) : Prop :=
  l.all (operIn n false ops) = true → wpR P ops Frm C (fun a => ∃ σ', a = act n ds.ds σ' ∧ Q σ') l (act n ds.ds σ)

section
variable {P : Program} {n : Nat} {ds : Ctx} {ops : Array Oper} {C : World → Prop} {Q : Env → Prop} {rest : List Oper} {σ : Env} {w w' : World} {o : Oper} {v : Value}
theorem YQ.ofY (h : ∀ w, C w → Y P σ o w v w) : YQ P σ o C v := by
  intro w hw
  rcases h w hw with h | ⟨h, hv⟩
  · rw [h]; exact ⟨rfl, rfl⟩
  · rw [h]; exact ⟨rfl, hv⟩
theorem YQ.ofCall {f : FuncId} [hf : Fnc P f] {d : Option Tmp} {args : Array Operand} {ats : Array TypeId} {ty : TypeId} {pos : String} {af : Array Edge} {g : Option (Nat × Bool)}
    (h : ∀ w, C w → CallsR P f (args.map (evl σ)) w fun u w' => u = v ∧ Frm w w') : YQ P σ ⟨d, .call ⟨.value (.func f), args, ats⟩, ty, pos, af, g⟩ C v := by
  intro w hw
  rw [run_call_func]
  refine ⟨rfl, Calls.mono (h w hw) ?_⟩
  rintro e w' ⟨u, rfl, rfl, hC⟩
  exact ⟨rfl, hC⟩

theorem QL_nil (h : Q σ) : QL P n ds ops C Q [] σ := fun _ => ⟨σ, rfl, h⟩
theorem QL_want (hg : Region.wanted o (yl ops σ) = true) (hy : YQ P σ o C v) (h : QL P n ds ops C Q rest (updO σ o.dst v)) : QL P n ds ops C Q (o :: rest) σ := by
  intro hin
  simp only [List.all_cons, Bool.and_eq_true] at hin
  have hin1 := hin.1
  simp only [wpR]
  rw [act_yielded hin1, hg, if_pos rfl]
  refine ⟨v, fun w hw => ?_, ?_⟩
  · rw [act_exec hin1]; exact hy w hw
  · rw [act_put (operIn_dst hin1)]; exact h hin.2
theorem QL_step (hg : o.guard = none) (hy : YQ P σ o C v) (h : QL P n ds ops C Q rest (updO σ o.dst v)) : QL P n ds ops C Q (o :: rest) σ :=
  QL_want (by simp [Region.wanted, hg]) hy h
theorem QL_skip (hg : Region.wanted o (yl ops σ) = false) (h : QL P n ds ops C Q rest (updO σ o.dst undef)) : QL P n ds ops C Q (o :: rest) σ := by
  intro hin
  simp only [List.all_cons, Bool.and_eq_true] at hin
  have hin1 := hin.1
  simp only [wpR]
  rw [act_yielded hin1, hg, if_neg Bool.false_ne_true]
  rw [act_put (operIn_dst hin1)]; exact h hin.2
theorem QL_guard {b : Bool} (hg : Region.wanted o (yl ops σ) = b) (hy : b = true → YQ P σ o C v) (h : QL P n ds ops C Q rest (updO σ o.dst (bif b then v else undef))) : QL P n ds ops C Q (o :: rest) σ := by
  cases b with
  | true => exact QL_want hg (hy rfl) h
  | false => exact QL_skip hg h
end

/-- a loop whose measure goes with a ghost -/
theorem wp_loop' {F : Fence} {n : Nat} {P : Program} {Q : Exit → Act → World → Prop} {a : Act} {w : World} {c : Code} {m0 : Nat} (I : Act → World → Nat → Prop) (h₀ : I a w m0)
    (round : ∀ a w m, I a w m → c.wpIn F n P (Exit.then (fun a' w' => ∃ m', I a' w' m' ∧ m' < m) Q) a w) : (Code.loop c).wpIn F n P Q a w := by
  intro b k cs hro hb hr
  have key : ∀ m a w, I a w m →
      ∃ e a' w', Q e a' w' ∧ ArrivesIn (Machine.fenced P F) P (lone (b.atR a (.code c :: .inLoop c :: k)) cs w) b k cs e a' w' := by
    intro m
    induction m using Nat.strongRecOn with
    | _ m ih =>
      intro a w hI
      obtain ⟨e, a₁, w₁, hq, harr⟩ := round a w m hI b (.inLoop c :: k) cs hro hb hr
      cases e with
      | normal =>
        obtain ⟨m', hI₁, hlt⟩ := hq
        obtain ⟨e₂, a₂, w₂, hq₂, harr₂⟩ := ih m' hlt a₁ w₁ hI₁
        exact ⟨e₂, a₂, w₂, hq₂, .of_steps (StepsIn.trans harr (.one (fenced_calm hb hr rfl) stepR_inLoop)) harr₂⟩
      | exit id => exact ⟨_, a₁, w₁, hq, .pass (x := .inLoop c) rfl (fun _ _ => .inl (by simp)) harr⟩
      | goto l => exact ⟨_, a₁, w₁, hq, .pass (x := .inLoop c) rfl (fun _ _ => .inl (by simp)) harr⟩
      | ret => exact ⟨_, a₁, w₁, hq, .pass (x := .inLoop c) rfl (fun _ _ => .inl (by simp)) harr⟩
      | panic ch => exact ⟨_, a₁, w₁, hq, .pass (x := .inLoop c) rfl (fun _ _ => .inl (by simp)) harr⟩
      | outgrown => exact ⟨_, a₁, w₁, hq, .pass (x := .inLoop c) rfl (fun _ _ => .inl (by simp)) harr⟩
  obtain ⟨e, a', w', hq, harr⟩ := key m0 a w h₀
  exact ⟨e, a', w', hq, .of_steps (.one (fenced_calm hb hr rfl) stepR_loop) harr⟩

theorem wpQuiet_of_R {P : Program} {ops : Array Oper} {C : World → Prop} {Q : Act → Prop} (hC : ∀ w w', C w → Frm w w' → C w') : ∀ {l : List Oper} {a : Act}, wpR P ops Frm C Q l a → wpQuiet P ops C Q l a
  | [], _, hh => hh
  | o :: l, a, hh => by
    simp only [wpR] at hh
    simp only [wpQuiet]
    split
    · rename_i hw
      rw [if_pos hw] at hh
      obtain ⟨v, h1, h2⟩ := hh
      refine ⟨v, fun w hw => ?_, wpQuiet_of_R hC h2⟩
      have h3 := h1 w hw
      unfold Oper.quietAt
      generalize (execOp a.eval o).run P w = r at *
      cases r with
      | ok x w' =>
        cases x <;> simp only [quietR] at h3 <;> simp only [Oper.quietUpon]
        case value u => exact h3
        case skip => exact h3
        case enter f args =>
          obtain ⟨rfl, hc⟩ := h3
          exact ⟨rfl, hc.mono fun e w'' ⟨he, hf⟩ => ⟨he, hC _ _ hw hf⟩⟩
      | halt x w' => simp only [quietR] at h3
    · rename_i hw; rw [if_neg hw] at hh; exact wpQuiet_of_R hC hh

/-! ## Code -/
def codeIn (n : Nat) (inr : Bool) : Code → Bool
  | .region _ ops _ => ops.toList.all (operIn n inr ops)
  | .seq a b => codeIn n inr a && codeIn n inr b
  | .cond c a b => opIn n c && codeIn n inr a && codeIn n inr b
  | .block _ b => codeIn n inr b
  | .loop b => codeIn n inr b
  | .scope b => codeIn n inr b
  | .rangeFunc f ps a b => opIn n f && ps.all (fun t => Nat.blt t n) && codeIn n true a && codeIn n true b
  | _ => true

def WC (P : Program) (n : Nat) (ds : Ctx) (c : Code) (Q : Exit → Ctx → Env → World → Prop) (σ : Env) (w : World) : Prop :=
  codeIn n ds.ro.isSome c = true → c.wpIn (fen ds.ro) 0 P (lft n ds.ro Q) (act n ds.ds σ) w

def thn (K : Ctx → Env → World → Prop) (Q : Exit → Ctx → Env → World → Prop) : Exit → Ctx → Env → World → Prop
  | .normal, c, σ, w => K c σ w
  | e, c, σ, w => Q e c σ w
/-- what a loop's round, or a piece, leaves: what is deferred is as it was -/
def thl (c : Ctx) (K : Env → World → Prop) (Q : Exit → Ctx → Env → World → Prop) : Exit → Ctx → Env → World → Prop
  | .normal, c', σ, w => c' = c ∧ K σ w
  | e, c', σ, w => Q e c' σ w
def ngt (Q : Exit → Ctx → Env → World → Prop) : Exit → Ctx → Env → World → Prop
  | .goto _, _, _, _ => False
  | e, c, σ, w => Q e c σ w
def blk (id : Nat) (Q : Exit → Ctx → Env → World → Prop) : Exit → Ctx → Env → World → Prop
  | .exit id', c, σ, w => match Nat.beq id' id with | true => Q .normal c σ w | false => Q (.exit id') c σ w
  | e, c, σ, w => Q e c σ w

/-- the program's regions may come in any order that Go leaves open -/
class Mix (P : Program) : Prop where
  ok : P.follows .mixedOrders = true

section
variable {P : Program} {n : Nat} {ds : Ctx} {Q : Exit → Ctx → Env → World → Prop} {K : Ctx → Env → World → Prop} {L : Env → World → Prop} {σ : Env} {w : World} {a b c : Code}

theorem thn_normal (h : K ds σ w) : thn K Q .normal ds σ w := h
theorem thn_ret (h : Q .ret ds σ w) : thn K Q .ret ds σ w := h
theorem thn_exit {i : Nat} (h : Q (.exit i) ds σ w) : thn K Q (.exit i) ds σ w := h
theorem thl_normal (h : L σ w) : thl ds L Q .normal ds σ w := ⟨rfl, h⟩
theorem thl_ret {c : Ctx} (h : Q .ret ds σ w) : thl c L Q .ret ds σ w := h
theorem thl_exit {c : Ctx} {i : Nat} (h : Q (.exit i) ds σ w) : thl c L Q (.exit i) ds σ w := h
theorem blk_normal {i : Nat} (h : Q .normal ds σ w) : blk i Q .normal ds σ w := h
theorem blk_ret {i : Nat} (h : Q .ret ds σ w) : blk i Q .ret ds σ w := h
theorem blk_here {i : Nat} (h : Q .normal ds σ w) : blk i Q (.exit i) ds σ w := by simpa [blk, Nat.beq_refl] using h
theorem blk_on {i j : Nat} (hij : Nat.beq j i = false) (h : Q (.exit j) ds σ w) : blk i Q (.exit j) ds σ w := by simpa [blk, hij] using h

theorem WC_region {id : Nat} {ops : List Oper} (h : WL P n ds ops.toArray Q ops σ w) : WC P n ds (.region id ops.toArray false) Q σ w := fun hin =>
  wpIn_region_lit (h (by simpa [codeIn] using hin))

theorem WC_draw [hm : Mix P] {id : Nat} {ops : List Oper} (hro : ds.ro = none) (hB : Region.lexB .any ops.toArray = true)
    (h : QL P n ds ops.toArray (Frm w) (fun σ' => ∀ w', Frm w w' → Q .normal ds σ' w') ops σ) : WC P n ds (.region id ops.toArray true) Q σ w := by
  obtain ⟨dd, ro⟩ := ds
  dsimp only at hro
  subst hro
  intro hin
  refine wpIn_wide.2 (wp_region_quiet hm.ok hB (Frm.drawn (Frm.refl w)) ?_)
  have h1 := h (by simpa [codeIn] using hin)
  refine wpQuiet_of_R (fun _ _ h k => Frm.trans h k) (wpR_mono ?_ (by simpa using h1))
  rintro a ⟨σ', rfl, hq⟩ w' hw'
  exact ⟨dd, σ', rfl, hq w' hw'⟩

/-- a drawn region: quiet operations, then one that makes something, then the rest in order -/
def QX (P : Program) (w0 : World) (x : Oper) (σ : Env) (K : Env → World → Prop) : Prop :=
  ∃ V : Value → World → Prop, (∀ u w w', V u w → Frm w w' → V u w') ∧ (∀ w, Frm w0 w → ∃ u w1, (execOp (evl σ) x).run P w = .ok (.value u) w1 ∧ Frm w w1 ∧ V u w1) ∧ ∀ u w, Frm w0 w → V u w → K (updO σ x.dst u) w
theorem WC_drawT [hm : Mix P] {id : Nat} {l1 l2 : List Oper} (hro : ds.ro = none) (hB : Region.lexTailB .any (l1 ++ l2).toArray l1.length = true)
    (h : QL P n ds (l1 ++ l2).toArray (Frm w) (fun σ' => ∀ w', Frm w w' → WL P n ds (l1 ++ l2).toArray Q l2 σ' w') l1 σ) : WC P n ds (.region id (l1 ++ l2).toArray true) Q σ w := by
  obtain ⟨dd, ro⟩ := ds
  dsimp only at hro
  subst hro
  intro hin
  have hin' : (l1 ++ l2).all (operIn n false (l1 ++ l2).toArray) = true := by simpa [codeIn] using hin
  rw [List.all_append, Bool.and_eq_true] at hin'
  obtain ⟨i1, i3⟩ := hin'
  refine wpIn_region_tail (R := Frm) (C := Frm w) hm.ok (fun a b h k => Frm.trans h k) (Frm.drawn (Frm.refl w)) hB (wpR_mono ?_ (h i1))
  rintro a ⟨σ', rfl, hq⟩
  exact fun w' hw' => hq w' hw' i3

theorem WC_seq (h : WC P n ds a (thn (fun ds σ w => WC P n ds b Q σ w) Q) σ w) : WC P n ds (.seq a b) Q σ w := fun hin => by
  simp only [codeIn, Bool.and_eq_true] at hin
  refine wpIn_seq (wpIn_mono (h hin.1) ?_)
  rintro e a' w' ⟨dd, σ', rfl, hq⟩
  cases e <;> first | exact hq hin.2 | exact ⟨dd, σ', rfl, hq⟩
theorem WC_skip (h : Q .normal ds σ w) : WC P n ds .skip Q σ w := fun _ => wpIn_skip ⟨ds.ds, σ, rfl, h⟩
theorem WC_label {l : Nat} (h : Q .normal ds σ w) : WC P n ds (.label l) Q σ w := fun _ => wpIn_label ⟨ds.ds, σ, rfl, h⟩
theorem WC_exit {i : Nat} (h : Q (.exit i) ds σ w) : WC P n ds (.exit i) Q σ w := fun _ => wpIn_exit ⟨ds.ds, σ, rfl, h⟩
theorem WC_ret (h : Q .ret ds σ w) : WC P n ds .ret Q σ w := fun _ => wpIn_ret ⟨ds.ds, σ, rfl, h⟩
theorem WC_block {i : Nat} (h : WC P n ds b (blk i Q) σ w) : WC P n ds (.block i b) Q σ w := fun hin => by
  refine wpIn_block (wpIn_mono (h hin) ?_)
  rintro e a' w' ⟨dd, σ', rfl, hq⟩
  cases e <;> try exact ⟨dd, σ', rfl, hq⟩
  rename_i id'
  simp only [Exit.inBlock]
  by_cases e : id' = i
  · subst e; simp only [if_true]; exact ⟨dd, σ', rfl, by simpa [blk, Nat.beq_refl] using hq⟩
  · rw [if_neg e]
    have : Nat.beq id' i = false := by
      cases hb : Nat.beq id' i
      · rfl
      · exact absurd (Nat.eq_of_beq_eq_true hb) e
    exact ⟨dd, σ', rfl, by simpa [blk, this] using hq⟩
theorem ngt_normal (h : Q .normal ds σ w) : ngt Q .normal ds σ w := h
theorem ngt_ret (h : Q .ret ds σ w) : ngt Q .ret ds σ w := h
theorem ngt_exit {i : Nat} (h : Q (.exit i) ds σ w) : ngt Q (.exit i) ds σ w := h
theorem WC_scope (hro : ds.ro = none) (h : WC P n ds b (ngt Q) σ w) : WC P n ds (.scope b) Q σ w := by
  obtain ⟨dd, ro⟩ := ds
  dsimp only at hro
  subst hro
  intro hin
  refine wpIn_wide.2 (wp_scope_straight (wp_mono (wpIn_wide.1 (h hin)) ?_))
  rintro e a' w' ⟨dd, σ', rfl, hq⟩
  cases e <;> first | exact ⟨dd, σ', rfl, hq⟩ | exact hq.elim
theorem WC_cond {x : Operand} {t : Bool} (hc : evl σ x = .bool t) (ht : t = true → WC P n ds a Q σ w) (hf : t = false → WC P n ds b Q σ w) : WC P n ds (.cond x a b) Q σ w := fun hin => by
  simp only [codeIn, Bool.and_eq_true] at hin
  refine wpIn_cond_split (t := t) ?_ (fun h => ht h hin.1.2) (fun h => hf h hin.2)
  rw [act_eval hin.1.1, hc]
theorem WC_dec {x : Operand} {p : Prop} [Decidable p] (hc : evl σ x = .bool (decide p)) (ht : p → WC P n ds a Q σ w) (hf : ¬ p → WC P n ds b Q σ w) : WC P n ds (.cond x a b) Q σ w :=
  WC_cond hc (fun h => ht (of_decide_eq_true h)) (fun h => hf (of_decide_eq_false h))
theorem WC_yes {x : Operand} (hc : evl σ x = .bool true) (ht : WC P n ds a Q σ w) : WC P n ds (.cond x a b) Q σ w := WC_cond hc (fun _ => ht) (fun h => by cases h)
theorem WC_no {x : Operand} (hc : evl σ x = .bool false) (hf : WC P n ds b Q σ w) : WC P n ds (.cond x a b) Q σ w := WC_cond hc (fun h => by cases h) (fun _ => hf)

theorem WC_mono {Q' : Exit → Ctx → Env → World → Prop} (h : WC P n ds c Q σ w) (hq : ∀ e c σ w, Q e c σ w → Q' e c σ w) : WC P n ds c Q' σ w := fun hin =>
  wpIn_mono (h hin) fun _ _ _ ⟨dd, σ', ha, h⟩ => ⟨dd, σ', ha, hq _ _ _ _ h⟩

/-- slots and what lies in them -/
def Has (σ : Env) : List (Nat × Value) → Prop
  | [] => True
  | (d, v) :: l => σ d = v ∧ Has σ l
def updL (σ : Env) : List (Nat × Value) → Env
  | [] => σ
  | (d, v) :: l => upd (updL σ l) d v
theorem updL_has {σ : Env} : ∀ {l : List (Nat × Value)}, Has σ l → updL σ l = σ
  | [], _ => rfl
  | (d, v) :: l, ⟨h, hl⟩ => by simp only [updL]; rw [updL_has hl]; exact upd_self h

/-- a loop: the ghost state X, the slots that are known, what else holds, a measure -/
theorem WC_loop {X : Type} (sl : X → List (Nat × Value)) (I : X → World → Prop) (μ : X → Nat) (x0 : X) (h0 : Has σ (sl x0)) (hI : I x0 w)
    (round : ∀ (x : X) (w : World) (ρ : Env), I x w → WC P n ds c (thl ds (fun σ' w' => ∃ x', Has σ' (sl x') ∧ I x' w' ∧ μ x' < μ x) Q) (updL ρ (sl x)) w) : WC P n ds (.loop c) Q σ w := fun hin => by
  refine wp_loop' (fun a w' m => ∃ x σ', a = act n ds.ds σ' ∧ Has σ' (sl x) ∧ I x w' ∧ μ x = m) ⟨x0, σ, rfl, h0, hI, rfl⟩ ?_
  rintro a w' m ⟨x, σ', rfl, hh, hi, rfl⟩
  have h1 := round x w' σ' hi hin
  rw [updL_has hh] at h1
  refine wpIn_mono h1 ?_
  rintro e a' w'' ⟨dd, σ'', rfl, hq⟩
  cases e <;> try exact ⟨dd, σ'', rfl, hq⟩
  obtain ⟨hds, x', h2, h3, h4⟩ := hq
  have hdd : dd = ds.ds := congrArg Ctx.ds hds
  subst hdd
  exact ⟨_, ⟨x', σ'', rfl, h2, h3, rfl⟩, h4⟩
end

/-! ## A function -/
def ent : List Value → Nat → Env
  | [], _ => fun _ => undef
  | v :: vs, k => upd (ent vs (k + 1)) k v
theorem ent_get : ∀ (l : List Value) (k t : Nat), ent l k (k + t) = l.getD t undef
  | [], _, _ => by simp [ent]
  | v :: vs, k, 0 => by simp [ent, upd_same]
  | v :: vs, k, t + 1 => by
    have h := ent_get vs (k + 1) t
    rw [show k + 1 + t = k + (t + 1) from by omega] at h
    simp only [ent]
    rw [upd_ne _ _ (by omega), h]
    simp

/-- a function's end: what was deferred is carried out, then it returns a value -/
def fpost (P : Program) (n : Nat) (fn : Func) (R : Value → World → Prop) : Exit → Ctx → Env → World → Prop
  | .normal, c, σ, w | .ret, c, σ, w => LeavesInM Fence.wide 0 P fn (act n c.ds σ).tmps (fun e w' => ∃ v, e = .returned v ∧ R v w') c.ds .returning w
  | .panic ch, c, σ, w => LeavesInM Fence.wide 0 P fn (act n c.ds σ).tmps (fun e w' => ∃ v, e = .returned v ∧ R v w') c.ds (.panicking ch) w
  | _, _, _, _ => False
/-- .. which may panic instead -/
def fpostE (P : Program) (n : Nat) (fn : Func) (R : Ending → World → Prop) : Exit → Ctx → Env → World → Prop
  | .normal, c, σ, w | .ret, c, σ, w => LeavesInM Fence.wide 0 P fn (act n c.ds σ).tmps R c.ds .returning w
  | .panic ch, c, σ, w => LeavesInM Fence.wide 0 P fn (act n c.ds σ).tmps R c.ds (.panicking ch) w
  | _, _, _, _ => False

section
variable {P : Program} {n : Nat} {fn : Func} {R : Value → World → Prop} {σ : Env} {w : World} {ds : Ctx}

theorem ent_tmps {l : List Value} (hl : Nat.ble l.length n = true) (hn : fn.ntmps = n) : ({ tmps := l.toArray ++ Array.replicate (fn.ntmps - l.toArray.size) undef, defers := [] } : Act) = act n [] (ent l 0) := by
  have hl' : l.length ≤ n := by simpa using hl
  simp only [act, hn]
  congr 1
  apply Array.ext
  · simp; omega
  · intro i h1 h2
    have hi : i < n := by simpa using h2
    have := ent_get l 0 i
    rw [Nat.zero_add] at this
    simp only [Array.getElem_ofFn, this]
    rw [Array.getElem_append]
    split
    · rename_i h3; simp only [List.size_toArray] at h3; simp [h3]
    · rename_i h3; simp only [List.size_toArray] at h3; simp [Nat.not_lt.1 h3]
theorem call_introE {f : FuncId} {c : Code} {l : List Value} {R : Ending → World → Prop} (hf : P.funcs[f]? = some fn) (hb : fn.body = some c) (hn : fn.ntmps = n) (hin : codeIn n false c = true) (hl : Nat.ble l.length n = true)
    (h : WC P n ⟨[], none⟩ c (fpostE P n fn R) (ent l 0) w) : Calls P f l.toArray w R := by
  refine (callsIn_wide (n := 0)).1 (callsIn_of_wp_marks hf hb trivial ?_)
  rw [ent_tmps hl hn]
  refine wpIn_mono (h hin) ?_
  rintro ex a' w' ⟨dd, σ', rfl, hq⟩
  cases ex <;> first | exact hq | exact hq.elim
theorem call_intro {f : FuncId} {c : Code} {l : List Value} (hf : P.funcs[f]? = some fn) (hb : fn.body = some c) (hn : fn.ntmps = n) (hin : codeIn n false c = true) (hl : Nat.ble l.length n = true)
    (h : WC P n ⟨[], none⟩ c (fpost P n fn R) (ent l 0) w) : CallsR P f l.toArray w R :=
  call_introE hf hb hn hin hl (WC_mono h fun e c σ w hq => by cases e <;> exact hq)

theorem act_getD {dd : List Deferred} {t : Nat} (h : Nat.blt t n = true) : (act n dd σ).tmps.getD t undef = σ t := by
  have ht : t < n := by simpa using h
  simp [act, ht]
theorem fp_of {ex : Exit} (hex : ex = .ret ∨ ex = .normal) (hd : ds.ds = []) {v : Value} (hv : (results fn (act n ds.ds σ).tmps).run P w = .ok v w) (h : R v w) : fpost P n fn R ex ds σ w := by
  obtain ⟨dd, ro⟩ := ds
  dsimp only at hd
  subst hd
  rcases hex with rfl | rfl <;> exact ⟨v, hv, v, rfl, h⟩
theorem fp0 {ex : Exit} (hex : ex = .ret ∨ ex = .normal) (hr : fn.results = #[]) (h : R (.tuple #[]) w) (hd : ds.ds = [] := by rfl) : fpost P n fn R ex ds σ w := fp_of hex hd (results_none hr _ _ _) h
theorem fp1 {t : Nat} {ex : Exit} (hex : ex = .ret ∨ ex = .normal) (hr : fn.results = #[.tmp t]) (ht : Nat.blt t n = true) (h : R (σ t) w) (hd : ds.ds = [] := by rfl) : fpost P n fn R ex ds σ w :=
  fp_of hex hd (results_tmp hr _ _ _) (by rw [act_getD ht]; exact h)
theorem fp2 {t u : Nat} {ex : Exit} (hex : ex = .ret ∨ ex = .normal) (hr : fn.results = #[.tmp t, .tmp u]) (ht : Nat.blt t n = true) (hu : Nat.blt u n = true) (h : R (.tuple #[σ t, σ u]) w) (hd : ds.ds = [] := by rfl) : fpost P n fn R ex ds σ w :=
  fp_of hex hd (results_tmp2 hr _ _ _) (by rw [act_getD ht, act_getD hu]; exact h)
theorem fp3 {t u s : Nat} {ex : Exit} (hex : ex = .ret ∨ ex = .normal) (hr : fn.results = #[.tmp t, .tmp u, .tmp s]) (ht : Nat.blt t n = true) (hu : Nat.blt u n = true) (hs : Nat.blt s n = true) (h : R (.tuple #[σ t, σ u, σ s]) w) (hd : ds.ds = [] := by rfl) : fpost P n fn R ex ds σ w := by
  refine fp_of hex hd (v := .tuple #[(act n ds.ds σ).tmps.getD t undef, (act n ds.ds σ).tmps.getD u undef, (act n ds.ds σ).tmps.getD s undef]) ?_ ?_
  · simp [results, hr]
  · rw [act_getD ht, act_getD hu, act_getD hs]; exact h
/-- the mark of a loop over a function, at the function's end -/
theorem fp_mark {ex : Exit} {D : Nat} {dd : List Deferred} {ro : Option Nat} (hex : ex = .ret ∨ ex = .normal) (hD : w.heap[D]? = some (.deferred (some []))) (h : fpost P n fn R ex ⟨dd, ro⟩ σ (w.putObj D (.deferred none))) :
    fpost P n fn R ex ⟨{ target := .collected D, args := #[] } :: dd, ro⟩ σ w := by
  rcases hex with rfl | rfl <;> exact ⟨by simp, .inl ⟨D, _, rfl, run_takeDeferred hD, h⟩⟩
end
end Go.Sv

/-! ## Frames of values that may not be there: a value and whether it is -/
namespace Go.Sv
structure GV where
  v : Value
  g : Bool
abbrev GE := Nat → GV
def rv (x : GV) : Value := match x with | ⟨v, true⟩ => v | ⟨_, false⟩ => undef
def real (σ : GE) : Env := fun t => rv (σ t)
def updG (σ : GE) (d : Nat) (x : GV) : GE := fun t => match Nat.beq t d with | true => x | false => σ t
def lif (ρ : Env) : GE := fun t => ⟨ρ t, true⟩
theorem real_lif (ρ : Env) : real (lif ρ) = ρ := rfl
theorem real_upd (σ : GE) (d : Nat) (x : GV) : upd (real σ) d (rv x) = real (updG σ d x) := by
  funext t; simp only [upd, real, updG]; cases Nat.beq t d <;> rfl
theorem realB (σ : GE) (d t : Nat) (x : GV) : real (updG σ d x) t = bif t == d then rv x else real σ t := by rw [← real_upd, updB]
theorem rv_true (v : Value) : rv ⟨v, true⟩ = v := rfl
def updGL (σ : GE) : List (Nat × Value) → GE
  | [] => σ
  | (d, v) :: l => updG (updGL σ l) d ⟨v, true⟩
theorem real_updL (ρ : Env) : ∀ l, updL ρ l = real (updGL (lif ρ) l)
  | [] => rfl
  | (d, v) :: l => by simp only [updL, updGL]; rw [real_updL ρ l]; exact real_upd _ d ⟨v, true⟩
def entG : List Value → Nat → GE
  | [], _ => fun _ => ⟨undef, true⟩
  | v :: vs, k => updG (entG vs (k + 1)) k ⟨v, true⟩
theorem real_ent : ∀ (l : List Value) (k : Nat), ent l k = real (entG l k)
  | [], _ => rfl
  | v :: vs, k => by simp only [ent, entG]; rw [real_ent vs]; exact real_upd _ k ⟨v, true⟩
def gvl (σ : GE) : Operand → GV
  | .tmp t => σ t
  | .const v => ⟨v, true⟩
  | .global g => ⟨.pointer (some ⟨g, 0, none⟩), true⟩
  | .func f => ⟨.func (.func f) #[] #[], true⟩
theorem evr {σ : GE} {x : Operand} {v : Value} {g : Bool} (h : gvl σ x = ⟨v, g⟩) (hg : g = true) : evl (real σ) x = v := by
  subst hg
  cases x <;> simp only [gvl] at h
  · simp only [evl, real, h, rv]
  all_goals (injection h)
theorem evl_real (σ : GE) (x : Operand) (h : (gvl σ x).g = true) : evl (real σ) x = (gvl σ x).v := evr (v := (gvl σ x).v) rfl h

/-- a Bool out of two: what '&&' and '||' leave -/
def pkb (c a b : Bool) : Bool := bif c then a else b
@[simp] theorem pkb_or (c e : Bool) : pkb c true e = (c || e) := by cases c <;> rfl
@[simp] theorem pkb_and (c e : Bool) : pkb c e false = (c && e) := by cases c <;> rfl

def kEq : IntKind → IntKind → Bool
  | .i8, .i8 | .i16, .i16 | .i32, .i32 | .i64, .i64 | .u8, .u8 | .u16, .u16 | .u32, .u32 | .u64, .u64 => true
  | _, _ => false
theorem kEq_eq {k k' : IntKind} (h : kEq k k' = true) : k = k' := by cases k <;> cases k' <;> simp_all [kEq]

/-- comparisons -/
def cmpV : BinOp → Value → Value → Option Value
  | .lss, .int k a, .int k' b => match kEq k k' with | true => some (.bool (decide (a < b))) | false => none
  | .leq, .int k a, .int k' b => match kEq k k' with | true => some (.bool (decide (a ≤ b))) | false => none
  | .gtr, .int k a, .int k' b => match kEq k k' with | true => some (.bool (decide (b < a))) | false => none
  | .geq, .int k a, .int k' b => match kEq k k' with | true => some (.bool (decide (b ≤ a))) | false => none
  | .eql, .int k a, .int k' b => match kEq k k' with | true => some (.bool (decide (a = b))) | false => none
  | .neq, .int k a, .int k' b => match kEq k k' with | true => some (.bool (decide (a ≠ b))) | false => none
  | .eql, .string ⟨⟨a⟩⟩, .string ⟨⟨b⟩⟩ => some (.bool (decide (a = b)))
  | .neq, .string ⟨⟨a⟩⟩, .string ⟨⟨b⟩⟩ => some (.bool (decide (a ≠ b)))
  | _, _, _ => none

/-- what an operation that looks at its operands alone yields, and what of them must be there -/
def ev1 (σ : GE) : Op → Option GV
  | .move x | .assign x => match gvl σ x with | ⟨v, g⟩ => some ⟨v, g⟩
  | .pick c a b => match gvl σ c, gvl σ a, gvl σ b with
    | ⟨.bool c, gc⟩, ⟨.bool a, ga⟩, ⟨.bool b, gb⟩ => some ⟨.bool (pkb c a b), gc && pkb c ga gb⟩
    | _, _, _ => none
  | .binOp op _ x y _ => match gvl σ x, gvl σ y with
    | ⟨v, gx⟩, ⟨u, gy⟩ => match cmpV op v u with
      | some r => some ⟨r, gx && gy⟩
      | none => none
  | .unOp .not _ x => match gvl σ x with
    | ⟨.bool c, g⟩ => some ⟨.bool (!c), g⟩
    | _ => none
  | .extract x i => match gvl σ x with
    | ⟨.tuple ⟨vs⟩, g⟩ => match vs[i]? with | some v => some ⟨v, g⟩ | none => none
    | _ => none
  | _ => none
end Go.Sv

namespace Go.Sv
theorem Y.val {P : Program} {σ : Env} {o : Oper} {w w' : World} {v : Value} (h : (execOp (evl σ) o).run P w = .ok (.value v) w') : Y P σ o w v w' := .inl h
theorem Y.skip {P : Program} {σ : Env} {o : Oper} {w w' : World} (h : (execOp (evl σ) o).run P w = .ok .skip w') : Y P σ o w undef w' := .inr ⟨h, rfl⟩
attribute [irreducible] WL WC QL thn thl blk ngt Y YQ
end Go.Sv

/-
  What each operation yields, by its operands.
-/
set_option linter.unusedSimpArgs false
set_option linter.unusedVariables false
set_option linter.unnecessarySimpa false
namespace Go.Sv
open Go Go.RowKit

/-! ## Types, as instances: a seat lays one for each of its types -/
class Und (P : Program) (t : TypeId) (d : outParam TypeDesc) : Prop where
  ok : P.underlying t = some d
class Inf (P : Program) (t : TypeId) (z : outParam Value) (size bytes : outParam Nat) : Prop where
  ok : (P.info? t).map (fun i => (i.zero, i.size, i.bytes)) = some (some z, size, bytes)

class Agg (P : Program) (t : TypeId) (b : outParam Bool) : Prop where
  ok : ∃ d, P.underlying t = some d ∧ (match d with | .struct _ | .array _ _ => true | _ => false) = b
class Fld (P : Program) (t : TypeId) (i : Nat) (off : outParam Nat) (ft : outParam TypeId) : Prop where
  ok : ∃ fs f, P.underlying t = some (.struct fs) ∧ fs[i]? = some f ∧ f.offset = off ∧ f.type = ft

/-- the places of a struct's fields: where they begin, how many cells they have -/
class Flds (P : Program) (t : TypeId) (l : outParam (List (Nat × Nat))) : Prop where
  ok : ∃ fs, P.underlying t = some (.struct fs) ∧ ∀ w, (fs.mapM fun f => do pure (f.offset, ← sizeOf f.type) : Sem (Array (Nat × Nat))).run P w = .ok l.toArray w

/-- a string by its bytes -/
abbrev str (l : List UInt8) : Value := .string ⟨l.toArray⟩
abbrev int (n : Int) : Value := .int .i64 n
abbrev i32 (n : Int) : Value := .int .i32 n
abbrev byt (n : Int) : Value := .int .u8 n

section
variable {P : Program} {σ : Env} {w : World} {d : Option Tmp} {ty t t' : TypeId} {pos : String} {af : Array Edge} {g : Option (Nat × Bool)} {x y z : Operand}

theorem y_move : Y P σ ⟨d, .move x, ty, pos, af, g⟩ w (evl σ x) w := Y.val rfl
theorem y_assign : Y P σ ⟨d, .assign x, ty, pos, af, g⟩ w (evl σ x) w := Y.val rfl

theorem y_cmp {op : BinOp} {k : IntKind} {a b : Int} {r : Value} (hx : evl σ x = .int k a) (hy : evl σ y = .int k b) (h : (Op.intCmp op a b).run P w = .ok r w) (ho : (match op with | .eql | .neq | .lss | .leq | .gtr | .geq => true | _ => false) = true) :
    Y P σ ⟨d, .binOp op t x y t', ty, pos, af, g⟩ w r w := by
  refine Y.val ?_
  simp only [execOp, hx, hy]
  cases op <;> simp_all [eqGuard, binOp]

variable {k : IntKind} {a b : Int}
theorem y_lss (hx : evl σ x = .int k a) (hy : evl σ y = .int k b) : Y P σ ⟨d, .binOp .lss t x y t', ty, pos, af, g⟩ w (.bool (decide (a < b))) w := y_cmp hx hy rfl rfl
theorem y_leq (hx : evl σ x = .int k a) (hy : evl σ y = .int k b) : Y P σ ⟨d, .binOp .leq t x y t', ty, pos, af, g⟩ w (.bool (decide (a ≤ b))) w := y_cmp hx hy rfl rfl
theorem y_gtr (hx : evl σ x = .int k a) (hy : evl σ y = .int k b) : Y P σ ⟨d, .binOp .gtr t x y t', ty, pos, af, g⟩ w (.bool (decide (b < a))) w := y_cmp hx hy rfl rfl
theorem y_geq (hx : evl σ x = .int k a) (hy : evl σ y = .int k b) : Y P σ ⟨d, .binOp .geq t x y t', ty, pos, af, g⟩ w (.bool (decide (b ≤ a))) w := y_cmp hx hy rfl rfl
theorem y_eql (hx : evl σ x = .int k a) (hy : evl σ y = .int k b) : Y P σ ⟨d, .binOp .eql t x y t', ty, pos, af, g⟩ w (.bool (decide (a = b))) w := y_cmp hx hy (by simp only [Op.intCmp, Sem.run_pure]; congr 2) rfl
theorem y_neq (hx : evl σ x = .int k a) (hy : evl σ y = .int k b) : Y P σ ⟨d, .binOp .neq t x y t', ty, pos, af, g⟩ w (.bool (decide (a ≠ b))) w := y_cmp hx hy (by simp only [Op.intCmp, Sem.run_pure, bne]; congr 2; simp; rfl) rfl

theorem wrap_in {n : Int} (h : k.min ≤ n ∧ n ≤ k.max) : k.wrap n = n := by
  cases k <;> simp [IntKind.wrap, IntKind.min, IntKind.max, IntKind.signed, IntKind.bits] at * <;> omega

theorem y_add (hx : evl σ x = .int k a) (hy : evl σ y = .int k b) (h : k.min ≤ a + b ∧ a + b ≤ k.max) : Y P σ ⟨d, .binOp .add t x y t', ty, pos, af, g⟩ w (.int k (a + b)) w := by
  refine Y.val ?_; simp only [execOp, hx, hy]; simp [eqGuard, binOp, Op.intArith, wrap_in h]
theorem y_sub (hx : evl σ x = .int k a) (hy : evl σ y = .int k b) (h : k.min ≤ a - b ∧ a - b ≤ k.max) : Y P σ ⟨d, .binOp .sub t x y t', ty, pos, af, g⟩ w (.int k (a - b)) w := by
  refine Y.val ?_; simp only [execOp, hx, hy]; simp [eqGuard, binOp, Op.intArith, wrap_in h]
theorem y_mul (hx : evl σ x = .int k a) (hy : evl σ y = .int k b) (h : k.min ≤ a * b ∧ a * b ≤ k.max) : Y P σ ⟨d, .binOp .mul t x y t', ty, pos, af, g⟩ w (.int k (a * b)) w := by
  refine Y.val ?_; simp only [execOp, hx, hy]; simp [eqGuard, binOp, Op.intArith, wrap_in h]
def bitop (op : BinOp) (k : IntKind) (a b : Int) : Int :=
  let x := BitVec.ofInt k.bits a
  let y := BitVec.ofInt k.bits b
  match op with
  | .and => k.wrap (x &&& y).toNat
  | .or => k.wrap (x ||| y).toNat
  | .xor => k.wrap (x ^^^ y).toNat
  | _ => k.wrap (x &&& ~~~y).toNat
theorem y_and (hx : evl σ x = .int k a) (hy : evl σ y = .int k b) : Y P σ ⟨d, .binOp .and t x y t', ty, pos, af, g⟩ w (.int k (bitop .and k a b)) w := by
  refine Y.val ?_; simp only [execOp, hx, hy]; simp [eqGuard, binOp, Op.intBits, bitop]
theorem y_or (hx : evl σ x = .int k a) (hy : evl σ y = .int k b) : Y P σ ⟨d, .binOp .or t x y t', ty, pos, af, g⟩ w (.int k (bitop .or k a b)) w := by
  refine Y.val ?_; simp only [execOp, hx, hy]; simp [eqGuard, binOp, Op.intBits, bitop]
theorem y_xor (hx : evl σ x = .int k a) (hy : evl σ y = .int k b) : Y P σ ⟨d, .binOp .xor t x y t', ty, pos, af, g⟩ w (.int k (bitop .xor k a b)) w := by
  refine Y.val ?_; simp only [execOp, hx, hy]; simp [eqGuard, binOp, Op.intBits, bitop]
theorem y_quo (hx : evl σ x = .int k a) (hy : evl σ y = .int k b) (h : 0 ≤ a ∧ 0 < b ∧ a ≤ k.max) : Y P σ ⟨d, .binOp .quo t x y t', ty, pos, af, g⟩ w (.int k (a / b)) w := by
  refine Y.val ?_; simp only [execOp, hx, hy]
  have hb : ¬ b = 0 := by omega
  have e : a.tdiv b = a / b := Int.tdiv_eq_ediv_of_nonneg h.1
  have h1 : 0 ≤ a / b := Int.ediv_nonneg h.1 (by omega)
  have h2 : a / b ≤ a := Int.ediv_le_self _ h.1
  have hm : k.min ≤ 0 := by cases k <;> decide
  simp [eqGuard, binOp, Op.intDiv, hb, e, wrap_in (k := k) (n := a / b) ⟨by omega, by omega⟩]
theorem y_rem (hx : evl σ x = .int k a) (hy : evl σ y = .int k b) (h : 0 ≤ a ∧ 0 < b) : Y P σ ⟨d, .binOp .rem t x y t', ty, pos, af, g⟩ w (.int k (a % b)) w := by
  refine Y.val ?_; simp only [execOp, hx, hy]
  have hb : ¬ b = 0 := by omega
  have e : a.tmod b = a % b := Int.tmod_eq_emod_of_nonneg h.1
  simp [eqGuard, binOp, Op.intDiv, hb, e]
variable {k' : IntKind}
theorem y_shl (hx : evl σ x = .int k a) (hy : evl σ y = .int k' b) (h : 0 ≤ b) : Y P σ ⟨d, .binOp .shl t x y t', ty, pos, af, g⟩ w (.int k (k.wrap (a * 2 ^ (min b.toNat k.bits)))) w := by
  refine Y.val ?_; simp only [execOp, hx, hy]
  have hb : ¬ b < 0 := by omega
  simp [eqGuard, binOp, Op.shift, hb]
theorem y_shr (hx : evl σ x = .int k a) (hy : evl σ y = .int k' b) (h : 0 ≤ b) : Y P σ ⟨d, .binOp .shr t x y t', ty, pos, af, g⟩ w (.int k (a.fdiv (2 ^ (min b.toNat k.bits)))) w := by
  refine Y.val ?_; simp only [execOp, hx, hy]
  have hb : ¬ b < 0 := by omega
  simp [eqGuard, binOp, Op.shift, hb]

theorem y_not {c : Bool} (hx : evl σ x = .bool c) : Y P σ ⟨d, .unOp .not t x, ty, pos, af, g⟩ w (.bool (!c)) w := by
  refine Y.val ?_; simp only [execOp, hx]; simp [Op.unary]
theorem y_neg (hx : evl σ x = .int k a) : Y P σ ⟨d, .unOp .neg t x, ty, pos, af, g⟩ w (.int k (k.wrap (0 - a))) w := by
  refine Y.val ?_; simp only [execOp, hx]; simp [Op.unary, Op.intArith]

/-! picks -/
theorem y_pick {c : Bool} {v : Value} (hx : evl σ x = .bool c) (h : (if c then evl σ y else evl σ z) = v) : Y P σ ⟨d, .pick x y z, ty, pos, af, g⟩ w v w := by
  refine Y.val ?_; simp only [execOp, hx]; subst h; cases c <;> simp [asBool]
theorem y_extract {vs : Array Value} {i : Nat} {v : Value} (hx : evl σ x = .tuple vs) (hv : vs[i]? = some v) : Y P σ ⟨d, .extract x i, ty, pos, af, g⟩ w v w := by
  refine Y.val ?_; simp only [execOp, hx]; simp [Instr.extract, hv]

/-! strings -/
theorem lbeq (l l' : List UInt8) : (l == l') = decide (l = l') := by by_cases e : l = l' <;> simp [e]
theorem size_str (l : List UInt8) : (ByteArray.mk l.toArray).size = l.length := by simp [ByteArray.size]
variable {l l' : List UInt8}
theorem y_seql (hx : evl σ x = str l) (hy : evl σ y = str l') : Y P σ ⟨d, .binOp .eql t x y t', ty, pos, af, g⟩ w (.bool (decide (l = l'))) w := by
  refine Y.val ?_; simp only [execOp, hx, hy]; simp [eqGuard, binOp, Op.stringOp, lbeq]
theorem y_sneq (hx : evl σ x = str l) (hy : evl σ y = str l') : Y P σ ⟨d, .binOp .neq t x y t', ty, pos, af, g⟩ w (.bool (decide (l ≠ l'))) w := by
  refine Y.val ?_; simp only [execOp, hx, hy]; simp [eqGuard, binOp, Op.stringOp, lbeq]
theorem y_sadd (hx : evl σ x = str l) (hy : evl σ y = str l') (h : l.length + l'.length ≤ 9223372036854775807) : Y P σ ⟨d, .binOp .add t x y t', ty, pos, af, g⟩ w (str (l ++ l')) w := by
  refine Y.val ?_; simp only [execOp, hx, hy]
  have h' : ¬ (((ByteArray.mk l.toArray).size + (ByteArray.mk l'.toArray).size : Nat) : Int) > IntKind.i64.max := by
    simp only [ByteArray.size, List.size_toArray, IntKind.max, IntKind.signed, IntKind.bits]
    simp; omega
  simp only [eqGuard, binOp, Op.stringOp, h', if_false]
  simp
  rfl
theorem y_slen [hu : Und P t .string] {ats : Array TypeId} (hx : evl σ x = str l) (hat : ats = #[t]) : Y P σ ⟨d, .call ⟨.builtin .len, #[x], ats⟩, ty, pos, af, g⟩ w (int l.length) w := by
  subst hat
  refine Y.val ?_; simp only [execOp, resolve, Sem.run_bind, Sem.run_pure, Result.andThen_ok, invoke, builtin]
  simp [hx, run_len_string w t ty ⟨l.toArray⟩ hu.ok, size_str, goInt]
theorem y_len [hu : Und P t (.slice t')] {ats : Array TypeId} {p : Option Addr} {m c : Nat} (hx : evl σ x = .slice p m c) (hat : ats = #[t]) : Y P σ ⟨d, .call ⟨.builtin .len, #[x], ats⟩, ty, pos, af, g⟩ w (int m) w := by
  subst hat
  refine Y.val ?_; simp only [execOp, resolve, Sem.run_bind, Sem.run_pure, Result.andThen_ok, invoke, builtin]
  simp [hx, Builtin.len_, underlying, hu.ok, goInt]
theorem y_sindex [hu : Und P t .string] {i : Nat} {c : UInt8} (hx : evl σ x = str l) (hy : evl σ y = .int k i) (hc : l[i]? = some c) : Y P σ ⟨d, .index t x y, ty, pos, af, g⟩ w (byt c.toNat) w := by
  refine Y.val ?_; simp only [execOp, hx, hy]
  have hlt : i < l.length := by
    rcases Nat.lt_or_ge i l.length with h | h
    · exact h
    · rw [List.getElem?_eq_none h] at hc; cases hc
  have e : (ByteArray.mk l.toArray)[i]? = some c := by
    rw [ByteArray.getElem?_lt' _ _ (by simpa [ByteArray.size] using hlt)]
    rw [List.getElem?_eq_getElem hlt] at hc
    have hc' : l[i] = c := by simpa using hc
    rw [← hc']; rfl
  simp [Instr.index, asIntOf, underlying, hu.ok, e]
theorem extract_str (l : List UInt8) (a b : Nat) : (ByteArray.mk l.toArray).extract a b = ByteArray.mk ((l.drop a).take (b - a)).toArray := ByteArray.extract_mk l a b
theorem y_sslice [hu : Und P t .string] {i j : Nat} {y' z' : Operand} (hx : evl σ x = str l) (hy : evl σ y' = .int k i) (hz : evl σ z' = .int k' j) (h : i ≤ j ∧ j ≤ l.length) :
    Y P σ ⟨d, .slice t x (some y') (some z') none, ty, pos, af, g⟩ w (str ((l.drop i).take (j - i))) w := by
  refine Y.val ?_; simp only [execOp, hx, Option.map, hy, hz]
  have h1 : (0:Int) ≤ i ∧ (i:Int) ≤ (j:Nat) := by omega
  have h2 : (0:Int) ≤ j ∧ (j:Int) ≤ ((ByteArray.mk l.toArray).size : Nat) := by simp [ByteArray.size]; omega
  simp only [Instr.sliceAt, Sem.run_bind, underlying, run_program, Result.andThen_ok, hu.ok, Sem.run_pure, Instr.slice, Instr.sliceBounds, Instr.sliceBound, asIntOf, Option.isSome]
  have h3 : i ≤ j := h.1
  have h4 : j ≤ l.length := h.2
  simp [h1, h2, h3, h4, extract_str, size_str]
theorem y_sslice_to [hu : Und P t .string] {j : Nat} {z' : Operand} (hx : evl σ x = str l) (hz : evl σ z' = .int k' j) (h : j ≤ l.length) :
    Y P σ ⟨d, .slice t x none (some z') none, ty, pos, af, g⟩ w (str (l.take j)) w := by
  refine Y.val ?_; simp only [execOp, hx, Option.map, hz]
  have h2 : (0:Int) ≤ j ∧ (j:Int) ≤ ((ByteArray.mk l.toArray).size : Nat) := by simp [ByteArray.size]; omega
  simp only [Instr.sliceAt, Sem.run_bind, underlying, run_program, Result.andThen_ok, hu.ok, Sem.run_pure, Instr.slice, Instr.sliceBounds, Instr.sliceBound, asIntOf, Option.isSome]
  simp [h2, h, extract_str, size_str]
theorem y_sslice_from [hu : Und P t .string] {i : Nat} {y' : Operand} (hx : evl σ x = str l) (hy : evl σ y' = .int k i) (h : i ≤ l.length) :
    Y P σ ⟨d, .slice t x (some y') none none, ty, pos, af, g⟩ w (str (l.drop i)) w := by
  refine Y.val ?_; simp only [execOp, hx, Option.map, hy]
  have h2 : (0:Int) ≤ i ∧ (i:Int) ≤ ((ByteArray.mk l.toArray).size : Nat) := by simp [ByteArray.size]; omega
  simp only [Instr.sliceAt, Sem.run_bind, underlying, run_program, Result.andThen_ok, hu.ok, Sem.run_pure, Instr.slice, Instr.sliceBounds, Instr.sliceBound, asIntOf, Option.isSome]
  simp [h2, h, extract_str, size_str, List.take_of_length_le]

/-! conversions of numbers -/
theorem y_conv [hu : Und P t (.int k')] [hu' : Und P t' (.int k)] (hx : evl σ x = .int k' a) : Y P σ ⟨d, .convert t t' x, ty, pos, af, g⟩ w (.int k (k.wrap a)) w := by
  refine Y.val ?_; simp only [execOp, hx]; simp [convert, underlying, hu.ok, hu'.ok, Conv.intToInt]
theorem y_conv_in [hu : Und P t (.int k')] [hu' : Und P t' (.int k)] (hx : evl σ x = .int k' a) (h : k.min ≤ a ∧ a ≤ k.max) : Y P σ ⟨d, .convert t t' x, ty, pos, af, g⟩ w (.int k a) w := by
  have := y_conv (P := P) (σ := σ) (w := w) (d := d) (ty := ty) (pos := pos) (af := af) (g := g) (t := t) (t' := t') (k := k) hx
  rwa [wrap_in h] at this
theorem y_conv_str [hu : Und P t .string] [hu' : Und P t' .string] {s : ByteArray} (hx : evl σ x = .string s) : Y P σ ⟨d, .convert t t' x, ty, pos, af, g⟩ w (.string s) w := by
  refine Y.val ?_; simp only [execOp, hx]; simp [convert, underlying, hu.ok, hu'.ok]
theorem y_nilcheck {p : Addr} (hx : evl σ x = .pointer (some p)) : Y P σ ⟨d, .nilCheck x, ty, pos, af, g⟩ w (.pointer (some p)) w := by
  refine Y.val ?_; simp only [execOp, hx]; rfl
theorem y_makefunc {fn : Fn} {first captured : Array Operand} : Y P σ ⟨d, .makeFunc fn first captured, ty, pos, af, g⟩ w (.func fn (first.map (evl σ)) (captured.map (evl σ))) w := Y.val rfl
theorem y_makefuncL {fn : Fn} {first captured : List Operand} : Y P σ ⟨d, .makeFunc fn first.toArray captured.toArray, ty, pos, af, g⟩ w (.func fn ⟨first.map (evl σ)⟩ ⟨captured.map (evl σ)⟩) w := by
  have h := y_makefunc (P := P) (σ := σ) (d := d) (ty := ty) (pos := pos) (af := af) (g := g) (w := w) (fn := fn) (first := first.toArray) (captured := captured.toArray)
  rw [List.map_toArray, List.map_toArray] at h
  exact h
end

/-- what 'ev1' says is so -/
theorem cmpV_ok {P : Program} {σ : Env} {w : World} {d : Option Tmp} {ty t t' : TypeId} {pos : String} {af : Array Edge} {g : Option (Nat × Bool)} {x y : Operand} {op : BinOp} {v u r : Value}
    (h : cmpV op v u = some r) (hx : evl σ x = v) (hy : evl σ y = u) : Y P σ ⟨d, .binOp op t x y t', ty, pos, af, g⟩ w r w := by
  unfold cmpV at h
  split at h
  iterate 6
    · rename_i k a k' b
      cases hk : kEq k k' <;> simp only [hk] at h
      · cases h
      · obtain rfl := kEq_eq hk
        obtain rfl := Option.some.inj h
        first | exact y_lss hx hy | exact y_leq hx hy | exact y_gtr hx hy | exact y_geq hx hy | exact y_eql hx hy | exact y_neq hx hy
  · obtain rfl := Option.some.inj h; exact y_seql hx hy
  · obtain rfl := Option.some.inj h; exact y_sneq hx hy
  · cases h

theorem ev1_ok {P : Program} {σ : GE} {w : World} {d : Option Tmp} {ty : TypeId} {pos : String} {af : Array Edge} {g : Option (Nat × Bool)} {op : Op} {v : Value} {nd : Bool}
    (h : ev1 σ op = some ⟨v, nd⟩) (hn : nd = true) : Y P (real σ) ⟨d, op, ty, pos, af, g⟩ w v w := by
  subst hn
  cases op <;> try (simp only [ev1] at h; cases h; done)
  case move x =>
    simp only [ev1, Option.some.injEq] at h
    have := y_move (P := P) (σ := real σ) (w := w) (d := d) (ty := ty) (pos := pos) (af := af) (g := g) (x := x)
    rwa [evr h rfl] at this
  case assign x =>
    simp only [ev1, Option.some.injEq] at h
    have := y_assign (P := P) (σ := real σ) (w := w) (d := d) (ty := ty) (pos := pos) (af := af) (g := g) (x := x)
    rwa [evr h rfl] at this
  case pick c a b =>
    simp only [ev1] at h
    split at h
    · rename_i c' gc a' ga b' gb hc ha hb
      simp only [Option.some.injEq, GV.mk.injEq, Bool.and_eq_true] at h
      obtain ⟨rfl, hgc, hp⟩ := h
      refine y_pick (evr hc hgc) ?_
      cases c'
      · simp only [pkb, cond_false] at hp ⊢; simpa using evr hb hp
      · simp only [pkb, cond_true] at hp ⊢; simpa using evr ha hp
    · cases h
  case binOp op t x y t' =>
    simp only [ev1] at h
    split at h
    · rename_i r hr
      simp only [Option.some.injEq, GV.mk.injEq, Bool.and_eq_true] at h
      obtain ⟨rfl, hx, hy⟩ := h
      exact cmpV_ok hr (evl_real σ x hx) (evl_real σ y hy)
    · cases h
  case unOp op t x =>
    cases op <;> simp only [ev1] at h <;> try (cases h; done)
    split at h
    · rename_i hx
      simp only [Option.some.injEq, GV.mk.injEq] at h
      obtain ⟨rfl, hg⟩ := h
      exact y_not (evr hx hg)
    · cases h
  case extract x i =>
    simp only [ev1] at h
    split at h
    · rename_i hx
      split at h
      · rename_i hv
        simp only [Option.some.injEq, GV.mk.injEq] at h
        obtain ⟨rfl, hg⟩ := h
        exact y_extract (evr hx hg) (by simpa using hv)
      · cases h
    · cases h
theorem and_l {b c : Bool} (h : (b && c) = true) : b = true := by cases b <;> simp_all
end Go.Sv

/- This seat's types and functions as instances (made by a program of ours). -/
namespace Go.Proofs.YtmnnffenijjpcaaDoor
open Go Go.Sv
instance : Mix Tryd.prog := ⟨by kernel_rfl⟩
instance : Und Tryd.prog 2 (.int .i64) := ⟨Tryd.underlying2⟩
instance : Agg Tryd.prog 2 false := ⟨_, Tryd.underlying2, rfl⟩
instance : Inf Tryd.prog 2 (.int .i64 0) 1 8 := ⟨by kernel_rfl⟩
instance : Und Tryd.prog 3 (.int .i64) := ⟨Tryd.underlying3⟩
instance : Agg Tryd.prog 3 false := ⟨_, Tryd.underlying3, rfl⟩
instance : Inf Tryd.prog 3 (.int .i64 0) 1 8 := ⟨by kernel_rfl⟩
instance : Und Tryd.prog 4 .bool := ⟨Tryd.underlying4⟩
instance : Agg Tryd.prog 4 false := ⟨_, Tryd.underlying4, rfl⟩
instance : Inf Tryd.prog 4 (.bool false) 1 1 := ⟨by kernel_rfl⟩
instance : Und Tryd.prog 5 (.int .u8) := ⟨Tryd.underlying5⟩
instance : Agg Tryd.prog 5 false := ⟨_, Tryd.underlying5, rfl⟩
instance : Inf Tryd.prog 5 (.int .u8 0) 1 1 := ⟨by kernel_rfl⟩
instance : Und Tryd.prog 6 (.int .u8) := ⟨Tryd.underlying6⟩
instance : Agg Tryd.prog 6 false := ⟨_, Tryd.underlying6, rfl⟩
instance : Inf Tryd.prog 6 (.int .u8 0) 1 1 := ⟨by kernel_rfl⟩
instance : Agg Tryd.prog 7 true := ⟨_, Tryd.underlying7, rfl⟩
instance : Fld Tryd.prog 7 0 0 2 := ⟨_, _, Tryd.underlying7, rfl, rfl, rfl⟩
instance : Fld Tryd.prog 7 1 1 3 := ⟨_, _, Tryd.underlying7, rfl, rfl, rfl⟩
instance : Fld Tryd.prog 7 2 2 4 := ⟨_, _, Tryd.underlying7, rfl, rfl, rfl⟩
instance : Fld Tryd.prog 7 3 3 6 := ⟨_, _, Tryd.underlying7, rfl, rfl, rfl⟩
instance : Flds Tryd.prog 7 [(0, 1), (1, 1), (2, 1), (3, 1)] := ⟨_, Tryd.underlying7, fun _ => by kernel_rfl⟩
instance : Inf Tryd.prog 7 (.agg #[.int .i64 0, .int .i64 0, .bool false, .int .u8 0]) 4 24 := ⟨by kernel_rfl⟩
instance : Agg Tryd.prog 8 true := ⟨_, Tryd.underlying8, rfl⟩
instance : Fld Tryd.prog 8 0 0 2 := ⟨_, _, Tryd.underlying8, rfl, rfl, rfl⟩
instance : Fld Tryd.prog 8 1 1 3 := ⟨_, _, Tryd.underlying8, rfl, rfl, rfl⟩
instance : Fld Tryd.prog 8 2 2 4 := ⟨_, _, Tryd.underlying8, rfl, rfl, rfl⟩
instance : Fld Tryd.prog 8 3 3 6 := ⟨_, _, Tryd.underlying8, rfl, rfl, rfl⟩
instance : Flds Tryd.prog 8 [(0, 1), (1, 1), (2, 1), (3, 1)] := ⟨_, Tryd.underlying8, fun _ => by kernel_rfl⟩
instance : Inf Tryd.prog 8 (.agg #[.int .i64 0, .int .i64 0, .bool false, .int .u8 0]) 4 24 := ⟨by kernel_rfl⟩
instance : Und Tryd.prog 9 .string := ⟨Tryd.underlying9⟩
instance : Agg Tryd.prog 9 false := ⟨_, Tryd.underlying9, rfl⟩
instance : Inf Tryd.prog 9 (.string ⟨#[]⟩) 1 16 := ⟨by kernel_rfl⟩
instance : Und Tryd.prog 10 .string := ⟨Tryd.underlying10⟩
instance : Agg Tryd.prog 10 false := ⟨_, Tryd.underlying10, rfl⟩
instance : Inf Tryd.prog 10 (.string ⟨#[]⟩) 1 16 := ⟨by kernel_rfl⟩
instance : Und Tryd.prog 11 .string := ⟨Tryd.underlying11⟩
instance : Agg Tryd.prog 11 false := ⟨_, Tryd.underlying11, rfl⟩
instance : Inf Tryd.prog 11 (.string ⟨#[]⟩) 1 16 := ⟨by kernel_rfl⟩
instance : Und Tryd.prog 12 (.int .u64) := ⟨Tryd.underlying12⟩
instance : Agg Tryd.prog 12 false := ⟨_, Tryd.underlying12, rfl⟩
instance : Inf Tryd.prog 12 (.int .u64 0) 1 8 := ⟨by kernel_rfl⟩
instance : Agg Tryd.prog 13 true := ⟨_, Tryd.underlying13, rfl⟩
instance : Fld Tryd.prog 13 0 0 9 := ⟨_, _, Tryd.underlying13, rfl, rfl, rfl⟩
instance : Fld Tryd.prog 13 1 1 12 := ⟨_, _, Tryd.underlying13, rfl, rfl, rfl⟩
instance : Flds Tryd.prog 13 [(0, 1), (1, 1)] := ⟨_, Tryd.underlying13, fun _ => by kernel_rfl⟩
instance : Inf Tryd.prog 13 (.agg #[.string ⟨#[]⟩, .int .u64 0]) 2 24 := ⟨by kernel_rfl⟩
instance : Agg Tryd.prog 14 true := ⟨_, Tryd.underlying14, rfl⟩
instance : Fld Tryd.prog 14 0 0 9 := ⟨_, _, Tryd.underlying14, rfl, rfl, rfl⟩
instance : Fld Tryd.prog 14 1 1 12 := ⟨_, _, Tryd.underlying14, rfl, rfl, rfl⟩
instance : Flds Tryd.prog 14 [(0, 1), (1, 1)] := ⟨_, Tryd.underlying14, fun _ => by kernel_rfl⟩
instance : Inf Tryd.prog 14 (.agg #[.string ⟨#[]⟩, .int .u64 0]) 2 24 := ⟨by kernel_rfl⟩
instance : Und Tryd.prog 15 (.pointer 154) := ⟨Tryd.underlying15⟩
instance : Agg Tryd.prog 15 false := ⟨_, Tryd.underlying15, rfl⟩
instance : Inf Tryd.prog 15 (.pointer none) 1 8 := ⟨by kernel_rfl⟩
instance : Und Tryd.prog 16 (.pointer 157) := ⟨Tryd.underlying16⟩
instance : Agg Tryd.prog 16 false := ⟨_, Tryd.underlying16, rfl⟩
instance : Inf Tryd.prog 16 (.pointer none) 1 8 := ⟨by kernel_rfl⟩
instance : Und Tryd.prog 17 (.pointer 166) := ⟨Tryd.underlying17⟩
instance : Agg Tryd.prog 17 false := ⟨_, Tryd.underlying17, rfl⟩
instance : Inf Tryd.prog 17 (.pointer none) 1 8 := ⟨by kernel_rfl⟩
instance : Agg Tryd.prog 18 true := ⟨_, Tryd.underlying18, rfl⟩
instance : Fld Tryd.prog 18 0 0 17 := ⟨_, _, Tryd.underlying18, rfl, rfl, rfl⟩
instance : Flds Tryd.prog 18 [(0, 1)] := ⟨_, Tryd.underlying18, fun _ => by kernel_rfl⟩
instance : Inf Tryd.prog 18 (.agg #[.pointer none]) 1 8 := ⟨by kernel_rfl⟩
instance : Agg Tryd.prog 19 true := ⟨_, Tryd.underlying19, rfl⟩
instance : Fld Tryd.prog 19 0 0 17 := ⟨_, _, Tryd.underlying19, rfl, rfl, rfl⟩
instance : Flds Tryd.prog 19 [(0, 1)] := ⟨_, Tryd.underlying19, fun _ => by kernel_rfl⟩
instance : Inf Tryd.prog 19 (.agg #[.pointer none]) 1 8 := ⟨by kernel_rfl⟩
instance : Agg Tryd.prog 20 false := ⟨_, Tryd.underlying20, rfl⟩
instance : Inf Tryd.prog 20 (.nilIface) 1 16 := ⟨by kernel_rfl⟩
instance : Und Tryd.prog 21 (.int .i32) := ⟨Tryd.underlying21⟩
instance : Agg Tryd.prog 21 false := ⟨_, Tryd.underlying21, rfl⟩
instance : Inf Tryd.prog 21 (.int .i32 0) 1 4 := ⟨by kernel_rfl⟩
instance : Und Tryd.prog 23 (.int .i64) := ⟨Tryd.underlying23⟩
instance : Agg Tryd.prog 23 false := ⟨_, Tryd.underlying23, rfl⟩
instance : Inf Tryd.prog 23 (.int .i64 0) 1 8 := ⟨by kernel_rfl⟩
instance : Und Tryd.prog 24 (.slice 81) := ⟨Tryd.underlying24⟩
instance : Agg Tryd.prog 24 false := ⟨_, Tryd.underlying24, rfl⟩
instance : Inf Tryd.prog 24 (.slice none 0 0) 1 24 := ⟨by kernel_rfl⟩
instance : Agg Tryd.prog 25 true := ⟨_, Tryd.underlying25, rfl⟩
instance : Fld Tryd.prog 25 0 0 3 := ⟨_, _, Tryd.underlying25, rfl, rfl, rfl⟩
instance : Fld Tryd.prog 25 1 1 3 := ⟨_, _, Tryd.underlying25, rfl, rfl, rfl⟩
instance : Fld Tryd.prog 25 2 2 3 := ⟨_, _, Tryd.underlying25, rfl, rfl, rfl⟩
instance : Flds Tryd.prog 25 [(0, 1), (1, 1), (2, 1)] := ⟨_, Tryd.underlying25, fun _ => by kernel_rfl⟩
instance : Inf Tryd.prog 25 (.agg #[.int .i64 0, .int .i64 0, .int .i64 0]) 3 24 := ⟨by kernel_rfl⟩
instance : Agg Tryd.prog 26 true := ⟨_, Tryd.underlying26, rfl⟩
instance : Fld Tryd.prog 26 0 0 3 := ⟨_, _, Tryd.underlying26, rfl, rfl, rfl⟩
instance : Fld Tryd.prog 26 1 1 3 := ⟨_, _, Tryd.underlying26, rfl, rfl, rfl⟩
instance : Fld Tryd.prog 26 2 2 3 := ⟨_, _, Tryd.underlying26, rfl, rfl, rfl⟩
instance : Flds Tryd.prog 26 [(0, 1), (1, 1), (2, 1)] := ⟨_, Tryd.underlying26, fun _ => by kernel_rfl⟩
instance : Inf Tryd.prog 26 (.agg #[.int .i64 0, .int .i64 0, .int .i64 0]) 3 24 := ⟨by kernel_rfl⟩
instance : Agg Tryd.prog 27 true := ⟨_, Tryd.underlying27, rfl⟩
instance : Fld Tryd.prog 27 0 0 23 := ⟨_, _, Tryd.underlying27, rfl, rfl, rfl⟩
instance : Fld Tryd.prog 27 1 1 9 := ⟨_, _, Tryd.underlying27, rfl, rfl, rfl⟩
instance : Fld Tryd.prog 27 2 2 9 := ⟨_, _, Tryd.underlying27, rfl, rfl, rfl⟩
instance : Fld Tryd.prog 27 3 3 24 := ⟨_, _, Tryd.underlying27, rfl, rfl, rfl⟩
instance : Fld Tryd.prog 27 4 4 4 := ⟨_, _, Tryd.underlying27, rfl, rfl, rfl⟩
instance : Fld Tryd.prog 27 5 5 26 := ⟨_, _, Tryd.underlying27, rfl, rfl, rfl⟩
instance : Flds Tryd.prog 27 [(0, 1), (1, 1), (2, 1), (3, 1), (4, 1), (5, 3)] := ⟨_, Tryd.underlying27, fun _ => by kernel_rfl⟩
instance : Inf Tryd.prog 27 (.agg #[.int .i64 0, .string ⟨#[]⟩, .string ⟨#[]⟩, .slice none 0 0, .bool false, .int .i64 0, .int .i64 0, .int .i64 0]) 8 96 := ⟨by kernel_rfl⟩
instance : Agg Tryd.prog 28 true := ⟨_, Tryd.underlying28, rfl⟩
instance : Fld Tryd.prog 28 0 0 23 := ⟨_, _, Tryd.underlying28, rfl, rfl, rfl⟩
instance : Fld Tryd.prog 28 1 1 9 := ⟨_, _, Tryd.underlying28, rfl, rfl, rfl⟩
instance : Fld Tryd.prog 28 2 2 9 := ⟨_, _, Tryd.underlying28, rfl, rfl, rfl⟩
instance : Fld Tryd.prog 28 3 3 24 := ⟨_, _, Tryd.underlying28, rfl, rfl, rfl⟩
instance : Fld Tryd.prog 28 4 4 4 := ⟨_, _, Tryd.underlying28, rfl, rfl, rfl⟩
instance : Fld Tryd.prog 28 5 5 26 := ⟨_, _, Tryd.underlying28, rfl, rfl, rfl⟩
instance : Flds Tryd.prog 28 [(0, 1), (1, 1), (2, 1), (3, 1), (4, 1), (5, 3)] := ⟨_, Tryd.underlying28, fun _ => by kernel_rfl⟩
instance : Inf Tryd.prog 28 (.agg #[.int .i64 0, .string ⟨#[]⟩, .string ⟨#[]⟩, .slice none 0 0, .bool false, .int .i64 0, .int .i64 0, .int .i64 0]) 8 96 := ⟨by kernel_rfl⟩
instance : Und Tryd.prog 29 (.pointer 36) := ⟨Tryd.underlying29⟩
instance : Agg Tryd.prog 29 false := ⟨_, Tryd.underlying29, rfl⟩
instance : Inf Tryd.prog 29 (.pointer none) 1 8 := ⟨by kernel_rfl⟩
instance : Und Tryd.prog 30 (.slice 9) := ⟨Tryd.underlying30⟩
instance : Agg Tryd.prog 30 false := ⟨_, Tryd.underlying30, rfl⟩
instance : Inf Tryd.prog 30 (.slice none 0 0) 1 24 := ⟨by kernel_rfl⟩
instance : Und Tryd.prog 31 (.slice 48) := ⟨Tryd.underlying31⟩
instance : Agg Tryd.prog 31 false := ⟨_, Tryd.underlying31, rfl⟩
instance : Inf Tryd.prog 31 (.slice none 0 0) 1 24 := ⟨by kernel_rfl⟩
instance : Agg Tryd.prog 32 true := ⟨_, Tryd.underlying32, rfl⟩
instance : Fld Tryd.prog 32 0 0 30 := ⟨_, _, Tryd.underlying32, rfl, rfl, rfl⟩
instance : Fld Tryd.prog 32 1 1 30 := ⟨_, _, Tryd.underlying32, rfl, rfl, rfl⟩
instance : Fld Tryd.prog 32 2 2 4 := ⟨_, _, Tryd.underlying32, rfl, rfl, rfl⟩
instance : Fld Tryd.prog 32 3 3 31 := ⟨_, _, Tryd.underlying32, rfl, rfl, rfl⟩
instance : Flds Tryd.prog 32 [(0, 1), (1, 1), (2, 1), (3, 1)] := ⟨_, Tryd.underlying32, fun _ => by kernel_rfl⟩
instance : Inf Tryd.prog 32 (.agg #[.slice none 0 0, .slice none 0 0, .bool false, .slice none 0 0]) 4 80 := ⟨by kernel_rfl⟩
instance : Agg Tryd.prog 33 true := ⟨_, Tryd.underlying33, rfl⟩
instance : Fld Tryd.prog 33 0 0 30 := ⟨_, _, Tryd.underlying33, rfl, rfl, rfl⟩
instance : Fld Tryd.prog 33 1 1 30 := ⟨_, _, Tryd.underlying33, rfl, rfl, rfl⟩
instance : Fld Tryd.prog 33 2 2 4 := ⟨_, _, Tryd.underlying33, rfl, rfl, rfl⟩
instance : Fld Tryd.prog 33 3 3 31 := ⟨_, _, Tryd.underlying33, rfl, rfl, rfl⟩
instance : Flds Tryd.prog 33 [(0, 1), (1, 1), (2, 1), (3, 1)] := ⟨_, Tryd.underlying33, fun _ => by kernel_rfl⟩
instance : Inf Tryd.prog 33 (.agg #[.slice none 0 0, .slice none 0 0, .bool false, .slice none 0 0]) 4 80 := ⟨by kernel_rfl⟩
instance : Und Tryd.prog 34 (.slice 51) := ⟨Tryd.underlying34⟩
instance : Agg Tryd.prog 34 false := ⟨_, Tryd.underlying34, rfl⟩
instance : Inf Tryd.prog 34 (.slice none 0 0) 1 24 := ⟨by kernel_rfl⟩
instance : Agg Tryd.prog 35 true := ⟨_, Tryd.underlying35, rfl⟩
instance : Fld Tryd.prog 35 0 0 33 := ⟨_, _, Tryd.underlying35, rfl, rfl, rfl⟩
instance : Fld Tryd.prog 35 1 4 3 := ⟨_, _, Tryd.underlying35, rfl, rfl, rfl⟩
instance : Fld Tryd.prog 35 2 5 34 := ⟨_, _, Tryd.underlying35, rfl, rfl, rfl⟩
instance : Fld Tryd.prog 35 3 6 4 := ⟨_, _, Tryd.underlying35, rfl, rfl, rfl⟩
instance : Fld Tryd.prog 35 4 7 4 := ⟨_, _, Tryd.underlying35, rfl, rfl, rfl⟩
instance : Flds Tryd.prog 35 [(0, 4), (4, 1), (5, 1), (6, 1), (7, 1)] := ⟨_, Tryd.underlying35, fun _ => by kernel_rfl⟩
instance : Inf Tryd.prog 35 (.agg #[.slice none 0 0, .slice none 0 0, .bool false, .slice none 0 0, .int .i64 0, .slice none 0 0, .bool false, .bool false]) 8 120 := ⟨by kernel_rfl⟩
instance : Agg Tryd.prog 36 true := ⟨_, Tryd.underlying36, rfl⟩
instance : Fld Tryd.prog 36 0 0 33 := ⟨_, _, Tryd.underlying36, rfl, rfl, rfl⟩
instance : Fld Tryd.prog 36 1 4 3 := ⟨_, _, Tryd.underlying36, rfl, rfl, rfl⟩
instance : Fld Tryd.prog 36 2 5 34 := ⟨_, _, Tryd.underlying36, rfl, rfl, rfl⟩
instance : Fld Tryd.prog 36 3 6 4 := ⟨_, _, Tryd.underlying36, rfl, rfl, rfl⟩
instance : Fld Tryd.prog 36 4 7 4 := ⟨_, _, Tryd.underlying36, rfl, rfl, rfl⟩
instance : Flds Tryd.prog 36 [(0, 4), (4, 1), (5, 1), (6, 1), (7, 1)] := ⟨_, Tryd.underlying36, fun _ => by kernel_rfl⟩
instance : Inf Tryd.prog 36 (.agg #[.slice none 0 0, .slice none 0 0, .bool false, .slice none 0 0, .int .i64 0, .slice none 0 0, .bool false, .bool false]) 8 120 := ⟨by kernel_rfl⟩
instance : Und Tryd.prog 37 (.int .i64) := ⟨Tryd.underlying37⟩
instance : Agg Tryd.prog 37 false := ⟨_, Tryd.underlying37, rfl⟩
instance : Inf Tryd.prog 37 (.int .i64 0) 1 8 := ⟨by kernel_rfl⟩
instance : Und Tryd.prog 46 (.int .i64) := ⟨Tryd.underlying46⟩
instance : Agg Tryd.prog 46 false := ⟨_, Tryd.underlying46, rfl⟩
instance : Inf Tryd.prog 46 (.int .i64 0) 1 8 := ⟨by kernel_rfl⟩
instance : Agg Tryd.prog 47 true := ⟨_, Tryd.underlying47, rfl⟩
instance : Fld Tryd.prog 47 0 0 46 := ⟨_, _, Tryd.underlying47, rfl, rfl, rfl⟩
instance : Fld Tryd.prog 47 1 1 9 := ⟨_, _, Tryd.underlying47, rfl, rfl, rfl⟩
instance : Fld Tryd.prog 47 2 2 9 := ⟨_, _, Tryd.underlying47, rfl, rfl, rfl⟩
instance : Fld Tryd.prog 47 3 3 24 := ⟨_, _, Tryd.underlying47, rfl, rfl, rfl⟩
instance : Flds Tryd.prog 47 [(0, 1), (1, 1), (2, 1), (3, 1)] := ⟨_, Tryd.underlying47, fun _ => by kernel_rfl⟩
instance : Inf Tryd.prog 47 (.agg #[.int .i64 0, .string ⟨#[]⟩, .string ⟨#[]⟩, .slice none 0 0]) 4 64 := ⟨by kernel_rfl⟩
instance : Agg Tryd.prog 48 true := ⟨_, Tryd.underlying48, rfl⟩
instance : Fld Tryd.prog 48 0 0 46 := ⟨_, _, Tryd.underlying48, rfl, rfl, rfl⟩
instance : Fld Tryd.prog 48 1 1 9 := ⟨_, _, Tryd.underlying48, rfl, rfl, rfl⟩
instance : Fld Tryd.prog 48 2 2 9 := ⟨_, _, Tryd.underlying48, rfl, rfl, rfl⟩
instance : Fld Tryd.prog 48 3 3 24 := ⟨_, _, Tryd.underlying48, rfl, rfl, rfl⟩
instance : Flds Tryd.prog 48 [(0, 1), (1, 1), (2, 1), (3, 1)] := ⟨_, Tryd.underlying48, fun _ => by kernel_rfl⟩
instance : Inf Tryd.prog 48 (.agg #[.int .i64 0, .string ⟨#[]⟩, .string ⟨#[]⟩, .slice none 0 0]) 4 64 := ⟨by kernel_rfl⟩
instance : Und Tryd.prog 49 (.int .i64) := ⟨Tryd.underlying49⟩
instance : Agg Tryd.prog 49 false := ⟨_, Tryd.underlying49, rfl⟩
instance : Inf Tryd.prog 49 (.int .i64 0) 1 8 := ⟨by kernel_rfl⟩
instance : Agg Tryd.prog 50 true := ⟨_, Tryd.underlying50, rfl⟩
instance : Fld Tryd.prog 50 0 0 26 := ⟨_, _, Tryd.underlying50, rfl, rfl, rfl⟩
instance : Fld Tryd.prog 50 1 3 49 := ⟨_, _, Tryd.underlying50, rfl, rfl, rfl⟩
instance : Fld Tryd.prog 50 2 4 9 := ⟨_, _, Tryd.underlying50, rfl, rfl, rfl⟩
instance : Flds Tryd.prog 50 [(0, 3), (3, 1), (4, 1)] := ⟨_, Tryd.underlying50, fun _ => by kernel_rfl⟩
instance : Inf Tryd.prog 50 (.agg #[.int .i64 0, .int .i64 0, .int .i64 0, .int .i64 0, .string ⟨#[]⟩]) 5 48 := ⟨by kernel_rfl⟩
instance : Agg Tryd.prog 51 true := ⟨_, Tryd.underlying51, rfl⟩
instance : Fld Tryd.prog 51 0 0 26 := ⟨_, _, Tryd.underlying51, rfl, rfl, rfl⟩
instance : Fld Tryd.prog 51 1 3 49 := ⟨_, _, Tryd.underlying51, rfl, rfl, rfl⟩
instance : Fld Tryd.prog 51 2 4 9 := ⟨_, _, Tryd.underlying51, rfl, rfl, rfl⟩
instance : Flds Tryd.prog 51 [(0, 3), (3, 1), (4, 1)] := ⟨_, Tryd.underlying51, fun _ => by kernel_rfl⟩
instance : Inf Tryd.prog 51 (.agg #[.int .i64 0, .int .i64 0, .int .i64 0, .int .i64 0, .string ⟨#[]⟩]) 5 48 := ⟨by kernel_rfl⟩
instance : Und Tryd.prog 56 (.slice 28) := ⟨Tryd.underlying56⟩
instance : Agg Tryd.prog 56 false := ⟨_, Tryd.underlying56, rfl⟩
instance : Inf Tryd.prog 56 (.slice none 0 0) 1 24 := ⟨by kernel_rfl⟩
instance : Agg Tryd.prog 62 true := ⟨_, Tryd.underlying62, rfl⟩
instance : Fld Tryd.prog 62 0 0 3 := ⟨_, _, Tryd.underlying62, rfl, rfl, rfl⟩
instance : Fld Tryd.prog 62 1 1 30 := ⟨_, _, Tryd.underlying62, rfl, rfl, rfl⟩
instance : Fld Tryd.prog 62 2 2 4 := ⟨_, _, Tryd.underlying62, rfl, rfl, rfl⟩
instance : Flds Tryd.prog 62 [(0, 1), (1, 1), (2, 1)] := ⟨_, Tryd.underlying62, fun _ => by kernel_rfl⟩
instance : Inf Tryd.prog 62 (.agg #[.int .i64 0, .slice none 0 0, .bool false]) 3 40 := ⟨by kernel_rfl⟩
instance : Agg Tryd.prog 63 true := ⟨_, Tryd.underlying63, rfl⟩
instance : Fld Tryd.prog 63 0 0 3 := ⟨_, _, Tryd.underlying63, rfl, rfl, rfl⟩
instance : Fld Tryd.prog 63 1 1 30 := ⟨_, _, Tryd.underlying63, rfl, rfl, rfl⟩
instance : Fld Tryd.prog 63 2 2 4 := ⟨_, _, Tryd.underlying63, rfl, rfl, rfl⟩
instance : Flds Tryd.prog 63 [(0, 1), (1, 1), (2, 1)] := ⟨_, Tryd.underlying63, fun _ => by kernel_rfl⟩
instance : Inf Tryd.prog 63 (.agg #[.int .i64 0, .slice none 0 0, .bool false]) 3 40 := ⟨by kernel_rfl⟩
instance : Und Tryd.prog 68 (.int .i64) := ⟨Tryd.underlying68⟩
instance : Agg Tryd.prog 68 false := ⟨_, Tryd.underlying68, rfl⟩
instance : Inf Tryd.prog 68 (.int .i64 0) 1 8 := ⟨by kernel_rfl⟩
instance : Und Tryd.prog 75 (.pointer 33) := ⟨Tryd.underlying75⟩
instance : Agg Tryd.prog 75 false := ⟨_, Tryd.underlying75, rfl⟩
instance : Inf Tryd.prog 75 (.pointer none) 1 8 := ⟨by kernel_rfl⟩
instance : Und Tryd.prog 77 (.slice 5) := ⟨Tryd.underlying77⟩
instance : Agg Tryd.prog 77 false := ⟨_, Tryd.underlying77, rfl⟩
instance : Inf Tryd.prog 77 (.slice none 0 0) 1 24 := ⟨by kernel_rfl⟩
instance : Und Tryd.prog 79 (.map 9 4) := ⟨Tryd.underlying79⟩
instance : Agg Tryd.prog 79 false := ⟨_, Tryd.underlying79, rfl⟩
instance : Inf Tryd.prog 79 (.map none) 1 8 := ⟨by kernel_rfl⟩
instance : Agg Tryd.prog 80 true := ⟨_, Tryd.underlying80, rfl⟩
instance : Fld Tryd.prog 80 0 0 9 := ⟨_, _, Tryd.underlying80, rfl, rfl, rfl⟩
instance : Fld Tryd.prog 80 1 1 9 := ⟨_, _, Tryd.underlying80, rfl, rfl, rfl⟩
instance : Flds Tryd.prog 80 [(0, 1), (1, 1)] := ⟨_, Tryd.underlying80, fun _ => by kernel_rfl⟩
instance : Inf Tryd.prog 80 (.agg #[.string ⟨#[]⟩, .string ⟨#[]⟩]) 2 32 := ⟨by kernel_rfl⟩
instance : Agg Tryd.prog 81 true := ⟨_, Tryd.underlying81, rfl⟩
instance : Fld Tryd.prog 81 0 0 9 := ⟨_, _, Tryd.underlying81, rfl, rfl, rfl⟩
instance : Fld Tryd.prog 81 1 1 9 := ⟨_, _, Tryd.underlying81, rfl, rfl, rfl⟩
instance : Flds Tryd.prog 81 [(0, 1), (1, 1)] := ⟨_, Tryd.underlying81, fun _ => by kernel_rfl⟩
instance : Inf Tryd.prog 81 (.agg #[.string ⟨#[]⟩, .string ⟨#[]⟩]) 2 32 := ⟨by kernel_rfl⟩
instance : Und Tryd.prog 83 (.pointer 99) := ⟨Tryd.underlying83⟩
instance : Agg Tryd.prog 83 false := ⟨_, Tryd.underlying83, rfl⟩
instance : Inf Tryd.prog 83 (.pointer none) 1 8 := ⟨by kernel_rfl⟩
instance : Und Tryd.prog 88 (.array 16 9) := ⟨Tryd.underlying88⟩
instance : Agg Tryd.prog 88 true := ⟨_, Tryd.underlying88, rfl⟩
instance : Inf Tryd.prog 88 (.agg #[.string ⟨#[]⟩, .string ⟨#[]⟩, .string ⟨#[]⟩, .string ⟨#[]⟩, .string ⟨#[]⟩, .string ⟨#[]⟩, .string ⟨#[]⟩, .string ⟨#[]⟩, .string ⟨#[]⟩, .string ⟨#[]⟩, .string ⟨#[]⟩, .string ⟨#[]⟩, .string ⟨#[]⟩, .string ⟨#[]⟩, .string ⟨#[]⟩, .string ⟨#[]⟩]) 16 256 := ⟨by kernel_rfl⟩
instance : Und Tryd.prog 91 (.array 256 4) := ⟨Tryd.underlying91⟩
instance : Agg Tryd.prog 91 true := ⟨_, Tryd.underlying91, rfl⟩
instance : Inf Tryd.prog 91 (.agg #[.bool false, .bool false, .bool false, .bool false, .bool false, .bool false, .bool false, .bool false, .bool false, .bool false, .bool false, .bool false, .bool false, .bool false, .bool false, .bool false, .bool false, .bool false, .bool false, .bool false, .bool false, .bool false, .bool false, .bool false, .bool false, .bool false, .bool false, .bool false, .bool false, .bool false, .bool false, .bool false, .bool false, .bool false, .bool false, .bool false, .bool false, .bool false, .bool false, .bool false, .bool false, .bool false, .bool false, .bool false, .bool false, .bool false, .bool false, .bool false, .bool false, .bool false, .bool false, .bool false, .bool false, .bool false, .bool false, .bool false, .bool false, .bool false, .bool false, .bool false, .bool false, .bool false, .bool false, .bool false, .bool false, .bool false, .bool false, .bool false, .bool false, .bool false, .bool false, .bool false, .bool false, .bool false, .bool false, .bool false, .bool false, .bool false, .bool false, .bool false, .bool false, .bool false, .bool false, .bool false, .bool false, .bool false, .bool false, .bool false, .bool false, .bool false, .bool false, .bool false, .bool false, .bool false, .bool false, .bool false, .bool false, .bool false, .bool false, .bool false, .bool false, .bool false, .bool false, .bool false, .bool false, .bool false, .bool false, .bool false, .bool false, .bool false, .bool false, .bool false, .bool false, .bool false, .bool false, .bool false, .bool false, .bool false, .bool false, .bool false, .bool false, .bool false, .bool false, .bool false, .bool false, .bool false, .bool false, .bool false, .bool false, .bool false, .bool false, .bool false, .bool false, .bool false, .bool false, .bool false, .bool false, .bool false, .bool false, .bool false, .bool false, .bool false, .bool false, .bool false, .bool false, .bool false, .bool false, .bool false, .bool false, .bool false, .bool false, .bool false, .bool false, .bool false, .bool false, .bool false, .bool false, .bool false, .bool false, .bool false, .bool false, .bool false, .bool false, .bool false, .bool false, .bool false, .bool false, .bool false, .bool false, .bool false, .bool false, .bool false, .bool false, .bool false, .bool false, .bool false, .bool false, .bool false, .bool false, .bool false, .bool false, .bool false, .bool false, .bool false, .bool false, .bool false, .bool false, .bool false, .bool false, .bool false, .bool false, .bool false, .bool false, .bool false, .bool false, .bool false, .bool false, .bool false, .bool false, .bool false, .bool false, .bool false, .bool false, .bool false, .bool false, .bool false, .bool false, .bool false, .bool false, .bool false, .bool false, .bool false, .bool false, .bool false, .bool false, .bool false, .bool false, .bool false, .bool false, .bool false, .bool false, .bool false, .bool false, .bool false, .bool false, .bool false, .bool false, .bool false, .bool false, .bool false, .bool false, .bool false, .bool false, .bool false, .bool false, .bool false, .bool false, .bool false, .bool false, .bool false, .bool false, .bool false, .bool false, .bool false, .bool false, .bool false, .bool false, .bool false, .bool false, .bool false, .bool false, .bool false, .bool false, .bool false, .bool false, .bool false]) 256 256 := ⟨by kernel_rfl⟩
instance : Und Tryd.prog 92 (.array 256 4) := ⟨Tryd.underlying92⟩
instance : Agg Tryd.prog 92 true := ⟨_, Tryd.underlying92, rfl⟩
instance : Inf Tryd.prog 92 (.agg #[.bool false, .bool false, .bool false, .bool false, .bool false, .bool false, .bool false, .bool false, .bool false, .bool false, .bool false, .bool false, .bool false, .bool false, .bool false, .bool false, .bool false, .bool false, .bool false, .bool false, .bool false, .bool false, .bool false, .bool false, .bool false, .bool false, .bool false, .bool false, .bool false, .bool false, .bool false, .bool false, .bool false, .bool false, .bool false, .bool false, .bool false, .bool false, .bool false, .bool false, .bool false, .bool false, .bool false, .bool false, .bool false, .bool false, .bool false, .bool false, .bool false, .bool false, .bool false, .bool false, .bool false, .bool false, .bool false, .bool false, .bool false, .bool false, .bool false, .bool false, .bool false, .bool false, .bool false, .bool false, .bool false, .bool false, .bool false, .bool false, .bool false, .bool false, .bool false, .bool false, .bool false, .bool false, .bool false, .bool false, .bool false, .bool false, .bool false, .bool false, .bool false, .bool false, .bool false, .bool false, .bool false, .bool false, .bool false, .bool false, .bool false, .bool false, .bool false, .bool false, .bool false, .bool false, .bool false, .bool false, .bool false, .bool false, .bool false, .bool false, .bool false, .bool false, .bool false, .bool false, .bool false, .bool false, .bool false, .bool false, .bool false, .bool false, .bool false, .bool false, .bool false, .bool false, .bool false, .bool false, .bool false, .bool false, .bool false, .bool false, .bool false, .bool false, .bool false, .bool false, .bool false, .bool false, .bool false, .bool false, .bool false, .bool false, .bool false, .bool false, .bool false, .bool false, .bool false, .bool false, .bool false, .bool false, .bool false, .bool false, .bool false, .bool false, .bool false, .bool false, .bool false, .bool false, .bool false, .bool false, .bool false, .bool false, .bool false, .bool false, .bool false, .bool false, .bool false, .bool false, .bool false, .bool false, .bool false, .bool false, .bool false, .bool false, .bool false, .bool false, .bool false, .bool false, .bool false, .bool false, .bool false, .bool false, .bool false, .bool false, .bool false, .bool false, .bool false, .bool false, .bool false, .bool false, .bool false, .bool false, .bool false, .bool false, .bool false, .bool false, .bool false, .bool false, .bool false, .bool false, .bool false, .bool false, .bool false, .bool false, .bool false, .bool false, .bool false, .bool false, .bool false, .bool false, .bool false, .bool false, .bool false, .bool false, .bool false, .bool false, .bool false, .bool false, .bool false, .bool false, .bool false, .bool false, .bool false, .bool false, .bool false, .bool false, .bool false, .bool false, .bool false, .bool false, .bool false, .bool false, .bool false, .bool false, .bool false, .bool false, .bool false, .bool false, .bool false, .bool false, .bool false, .bool false, .bool false, .bool false, .bool false, .bool false, .bool false, .bool false, .bool false, .bool false, .bool false, .bool false, .bool false, .bool false, .bool false, .bool false, .bool false, .bool false, .bool false, .bool false, .bool false, .bool false, .bool false, .bool false, .bool false, .bool false, .bool false, .bool false]) 256 256 := ⟨by kernel_rfl⟩
instance : Und Tryd.prog 96 (.pointer 92) := ⟨Tryd.underlying96⟩
instance : Agg Tryd.prog 96 false := ⟨_, Tryd.underlying96, rfl⟩
instance : Inf Tryd.prog 96 (.pointer none) 1 8 := ⟨by kernel_rfl⟩
instance : Agg Tryd.prog 98 true := ⟨_, Tryd.underlying98, rfl⟩
instance : Fld Tryd.prog 98 0 0 30 := ⟨_, _, Tryd.underlying98, rfl, rfl, rfl⟩
instance : Fld Tryd.prog 98 1 1 30 := ⟨_, _, Tryd.underlying98, rfl, rfl, rfl⟩
instance : Flds Tryd.prog 98 [(0, 1), (1, 1)] := ⟨_, Tryd.underlying98, fun _ => by kernel_rfl⟩
instance : Inf Tryd.prog 98 (.agg #[.slice none 0 0, .slice none 0 0]) 2 48 := ⟨by kernel_rfl⟩
instance : Agg Tryd.prog 99 true := ⟨_, Tryd.underlying99, rfl⟩
instance : Fld Tryd.prog 99 0 0 30 := ⟨_, _, Tryd.underlying99, rfl, rfl, rfl⟩
instance : Fld Tryd.prog 99 1 1 30 := ⟨_, _, Tryd.underlying99, rfl, rfl, rfl⟩
instance : Flds Tryd.prog 99 [(0, 1), (1, 1)] := ⟨_, Tryd.underlying99, fun _ => by kernel_rfl⟩
instance : Inf Tryd.prog 99 (.agg #[.slice none 0 0, .slice none 0 0]) 2 48 := ⟨by kernel_rfl⟩
instance : Agg Tryd.prog 105 true := ⟨_, Tryd.underlying105, rfl⟩
instance : Fld Tryd.prog 105 0 0 59 := ⟨_, _, Tryd.underlying105, rfl, rfl, rfl⟩
instance : Fld Tryd.prog 105 1 1 87 := ⟨_, _, Tryd.underlying105, rfl, rfl, rfl⟩
instance : Flds Tryd.prog 105 [(0, 1), (1, 1)] := ⟨_, Tryd.underlying105, fun _ => by kernel_rfl⟩
instance : Inf Tryd.prog 105 (.agg #[.nilFunc, .nilFunc]) 2 16 := ⟨by kernel_rfl⟩
instance : Agg Tryd.prog 106 true := ⟨_, Tryd.underlying106, rfl⟩
instance : Fld Tryd.prog 106 0 0 59 := ⟨_, _, Tryd.underlying106, rfl, rfl, rfl⟩
instance : Fld Tryd.prog 106 1 1 87 := ⟨_, _, Tryd.underlying106, rfl, rfl, rfl⟩
instance : Flds Tryd.prog 106 [(0, 1), (1, 1)] := ⟨_, Tryd.underlying106, fun _ => by kernel_rfl⟩
instance : Inf Tryd.prog 106 (.agg #[.nilFunc, .nilFunc]) 2 16 := ⟨by kernel_rfl⟩
instance : Und Tryd.prog 108 (.map 9 106) := ⟨Tryd.underlying108⟩
instance : Agg Tryd.prog 108 false := ⟨_, Tryd.underlying108, rfl⟩
instance : Inf Tryd.prog 108 (.map none) 1 8 := ⟨by kernel_rfl⟩
instance : Und Tryd.prog 113 (.array 256 5) := ⟨Tryd.underlying113⟩
instance : Agg Tryd.prog 113 true := ⟨_, Tryd.underlying113, rfl⟩
instance : Inf Tryd.prog 113 (.agg #[.int .u8 0, .int .u8 0, .int .u8 0, .int .u8 0, .int .u8 0, .int .u8 0, .int .u8 0, .int .u8 0, .int .u8 0, .int .u8 0, .int .u8 0, .int .u8 0, .int .u8 0, .int .u8 0, .int .u8 0, .int .u8 0, .int .u8 0, .int .u8 0, .int .u8 0, .int .u8 0, .int .u8 0, .int .u8 0, .int .u8 0, .int .u8 0, .int .u8 0, .int .u8 0, .int .u8 0, .int .u8 0, .int .u8 0, .int .u8 0, .int .u8 0, .int .u8 0, .int .u8 0, .int .u8 0, .int .u8 0, .int .u8 0, .int .u8 0, .int .u8 0, .int .u8 0, .int .u8 0, .int .u8 0, .int .u8 0, .int .u8 0, .int .u8 0, .int .u8 0, .int .u8 0, .int .u8 0, .int .u8 0, .int .u8 0, .int .u8 0, .int .u8 0, .int .u8 0, .int .u8 0, .int .u8 0, .int .u8 0, .int .u8 0, .int .u8 0, .int .u8 0, .int .u8 0, .int .u8 0, .int .u8 0, .int .u8 0, .int .u8 0, .int .u8 0, .int .u8 0, .int .u8 0, .int .u8 0, .int .u8 0, .int .u8 0, .int .u8 0, .int .u8 0, .int .u8 0, .int .u8 0, .int .u8 0, .int .u8 0, .int .u8 0, .int .u8 0, .int .u8 0, .int .u8 0, .int .u8 0, .int .u8 0, .int .u8 0, .int .u8 0, .int .u8 0, .int .u8 0, .int .u8 0, .int .u8 0, .int .u8 0, .int .u8 0, .int .u8 0, .int .u8 0, .int .u8 0, .int .u8 0, .int .u8 0, .int .u8 0, .int .u8 0, .int .u8 0, .int .u8 0, .int .u8 0, .int .u8 0, .int .u8 0, .int .u8 0, .int .u8 0, .int .u8 0, .int .u8 0, .int .u8 0, .int .u8 0, .int .u8 0, .int .u8 0, .int .u8 0, .int .u8 0, .int .u8 0, .int .u8 0, .int .u8 0, .int .u8 0, .int .u8 0, .int .u8 0, .int .u8 0, .int .u8 0, .int .u8 0, .int .u8 0, .int .u8 0, .int .u8 0, .int .u8 0, .int .u8 0, .int .u8 0, .int .u8 0, .int .u8 0, .int .u8 0, .int .u8 0, .int .u8 0, .int .u8 0, .int .u8 0, .int .u8 0, .int .u8 0, .int .u8 0, .int .u8 0, .int .u8 0, .int .u8 0, .int .u8 0, .int .u8 0, .int .u8 0, .int .u8 0, .int .u8 0, .int .u8 0, .int .u8 0, .int .u8 0, .int .u8 0, .int .u8 0, .int .u8 0, .int .u8 0, .int .u8 0, .int .u8 0, .int .u8 0, .int .u8 0, .int .u8 0, .int .u8 0, .int .u8 0, .int .u8 0, .int .u8 0, .int .u8 0, .int .u8 0, .int .u8 0, .int .u8 0, .int .u8 0, .int .u8 0, .int .u8 0, .int .u8 0, .int .u8 0, .int .u8 0, .int .u8 0, .int .u8 0, .int .u8 0, .int .u8 0, .int .u8 0, .int .u8 0, .int .u8 0, .int .u8 0, .int .u8 0, .int .u8 0, .int .u8 0, .int .u8 0, .int .u8 0, .int .u8 0, .int .u8 0, .int .u8 0, .int .u8 0, .int .u8 0, .int .u8 0, .int .u8 0, .int .u8 0, .int .u8 0, .int .u8 0, .int .u8 0, .int .u8 0, .int .u8 0, .int .u8 0, .int .u8 0, .int .u8 0, .int .u8 0, .int .u8 0, .int .u8 0, .int .u8 0, .int .u8 0, .int .u8 0, .int .u8 0, .int .u8 0, .int .u8 0, .int .u8 0, .int .u8 0, .int .u8 0, .int .u8 0, .int .u8 0, .int .u8 0, .int .u8 0, .int .u8 0, .int .u8 0, .int .u8 0, .int .u8 0, .int .u8 0, .int .u8 0, .int .u8 0, .int .u8 0, .int .u8 0, .int .u8 0, .int .u8 0, .int .u8 0, .int .u8 0, .int .u8 0, .int .u8 0, .int .u8 0, .int .u8 0, .int .u8 0, .int .u8 0, .int .u8 0, .int .u8 0, .int .u8 0, .int .u8 0, .int .u8 0, .int .u8 0, .int .u8 0, .int .u8 0, .int .u8 0, .int .u8 0, .int .u8 0, .int .u8 0, .int .u8 0, .int .u8 0, .int .u8 0, .int .u8 0, .int .u8 0, .int .u8 0, .int .u8 0, .int .u8 0, .int .u8 0, .int .u8 0]) 256 256 := ⟨by kernel_rfl⟩
instance : Und Tryd.prog 124 (.int .u64) := ⟨Tryd.underlying124⟩
instance : Agg Tryd.prog 124 false := ⟨_, Tryd.underlying124, rfl⟩
instance : Inf Tryd.prog 124 (.int .u64 0) 1 8 := ⟨by kernel_rfl⟩
instance : Und Tryd.prog 125 (.slice 127) := ⟨Tryd.underlying125⟩
instance : Agg Tryd.prog 125 false := ⟨_, Tryd.underlying125, rfl⟩
instance : Inf Tryd.prog 125 (.slice none 0 0) 1 24 := ⟨by kernel_rfl⟩
instance : Agg Tryd.prog 126 true := ⟨_, Tryd.underlying126, rfl⟩
instance : Fld Tryd.prog 126 0 0 3 := ⟨_, _, Tryd.underlying126, rfl, rfl, rfl⟩
instance : Fld Tryd.prog 126 1 1 3 := ⟨_, _, Tryd.underlying126, rfl, rfl, rfl⟩
instance : Flds Tryd.prog 126 [(0, 1), (1, 1)] := ⟨_, Tryd.underlying126, fun _ => by kernel_rfl⟩
instance : Inf Tryd.prog 126 (.agg #[.int .i64 0, .int .i64 0]) 2 16 := ⟨by kernel_rfl⟩
instance : Agg Tryd.prog 127 true := ⟨_, Tryd.underlying127, rfl⟩
instance : Fld Tryd.prog 127 0 0 3 := ⟨_, _, Tryd.underlying127, rfl, rfl, rfl⟩
instance : Fld Tryd.prog 127 1 1 3 := ⟨_, _, Tryd.underlying127, rfl, rfl, rfl⟩
instance : Flds Tryd.prog 127 [(0, 1), (1, 1)] := ⟨_, Tryd.underlying127, fun _ => by kernel_rfl⟩
instance : Inf Tryd.prog 127 (.agg #[.int .i64 0, .int .i64 0]) 2 16 := ⟨by kernel_rfl⟩
instance : Und Tryd.prog 128 (.int .u32) := ⟨Tryd.underlying128⟩
instance : Agg Tryd.prog 128 false := ⟨_, Tryd.underlying128, rfl⟩
instance : Inf Tryd.prog 128 (.int .u32 0) 1 4 := ⟨by kernel_rfl⟩
instance : Und Tryd.prog 130 (.pointer 136) := ⟨Tryd.underlying130⟩
instance : Agg Tryd.prog 130 false := ⟨_, Tryd.underlying130, rfl⟩
instance : Inf Tryd.prog 130 (.pointer none) 1 8 := ⟨by kernel_rfl⟩
instance : Und Tryd.prog 133 (.slice 139) := ⟨Tryd.underlying133⟩
instance : Agg Tryd.prog 133 false := ⟨_, Tryd.underlying133, rfl⟩
instance : Inf Tryd.prog 133 (.slice none 0 0) 1 24 := ⟨by kernel_rfl⟩
instance : Und Tryd.prog 134 (.slice 142) := ⟨Tryd.underlying134⟩
instance : Agg Tryd.prog 134 false := ⟨_, Tryd.underlying134, rfl⟩
instance : Inf Tryd.prog 134 (.slice none 0 0) 1 24 := ⟨by kernel_rfl⟩
instance : Agg Tryd.prog 135 true := ⟨_, Tryd.underlying135, rfl⟩
instance : Fld Tryd.prog 135 0 0 133 := ⟨_, _, Tryd.underlying135, rfl, rfl, rfl⟩
instance : Fld Tryd.prog 135 1 1 134 := ⟨_, _, Tryd.underlying135, rfl, rfl, rfl⟩
instance : Fld Tryd.prog 135 2 2 3 := ⟨_, _, Tryd.underlying135, rfl, rfl, rfl⟩
instance : Flds Tryd.prog 135 [(0, 1), (1, 1), (2, 1)] := ⟨_, Tryd.underlying135, fun _ => by kernel_rfl⟩
instance : Inf Tryd.prog 135 (.agg #[.slice none 0 0, .slice none 0 0, .int .i64 0]) 3 56 := ⟨by kernel_rfl⟩
instance : Agg Tryd.prog 136 true := ⟨_, Tryd.underlying136, rfl⟩
instance : Fld Tryd.prog 136 0 0 133 := ⟨_, _, Tryd.underlying136, rfl, rfl, rfl⟩
instance : Fld Tryd.prog 136 1 1 134 := ⟨_, _, Tryd.underlying136, rfl, rfl, rfl⟩
instance : Fld Tryd.prog 136 2 2 3 := ⟨_, _, Tryd.underlying136, rfl, rfl, rfl⟩
instance : Flds Tryd.prog 136 [(0, 1), (1, 1), (2, 1)] := ⟨_, Tryd.underlying136, fun _ => by kernel_rfl⟩
instance : Inf Tryd.prog 136 (.agg #[.slice none 0 0, .slice none 0 0, .int .i64 0]) 3 56 := ⟨by kernel_rfl⟩
instance : Und Tryd.prog 137 (.int .u16) := ⟨Tryd.underlying137⟩
instance : Agg Tryd.prog 137 false := ⟨_, Tryd.underlying137, rfl⟩
instance : Inf Tryd.prog 137 (.int .u16 0) 1 2 := ⟨by kernel_rfl⟩
instance : Agg Tryd.prog 138 true := ⟨_, Tryd.underlying138, rfl⟩
instance : Fld Tryd.prog 138 0 0 137 := ⟨_, _, Tryd.underlying138, rfl, rfl, rfl⟩
instance : Fld Tryd.prog 138 1 1 137 := ⟨_, _, Tryd.underlying138, rfl, rfl, rfl⟩
instance : Fld Tryd.prog 138 2 2 137 := ⟨_, _, Tryd.underlying138, rfl, rfl, rfl⟩
instance : Flds Tryd.prog 138 [(0, 1), (1, 1), (2, 1)] := ⟨_, Tryd.underlying138, fun _ => by kernel_rfl⟩
instance : Inf Tryd.prog 138 (.agg #[.int .u16 0, .int .u16 0, .int .u16 0]) 3 6 := ⟨by kernel_rfl⟩
instance : Agg Tryd.prog 139 true := ⟨_, Tryd.underlying139, rfl⟩
instance : Fld Tryd.prog 139 0 0 137 := ⟨_, _, Tryd.underlying139, rfl, rfl, rfl⟩
instance : Fld Tryd.prog 139 1 1 137 := ⟨_, _, Tryd.underlying139, rfl, rfl, rfl⟩
instance : Fld Tryd.prog 139 2 2 137 := ⟨_, _, Tryd.underlying139, rfl, rfl, rfl⟩
instance : Flds Tryd.prog 139 [(0, 1), (1, 1), (2, 1)] := ⟨_, Tryd.underlying139, fun _ => by kernel_rfl⟩
instance : Inf Tryd.prog 139 (.agg #[.int .u16 0, .int .u16 0, .int .u16 0]) 3 6 := ⟨by kernel_rfl⟩
instance : Agg Tryd.prog 141 true := ⟨_, Tryd.underlying141, rfl⟩
instance : Fld Tryd.prog 141 0 0 128 := ⟨_, _, Tryd.underlying141, rfl, rfl, rfl⟩
instance : Fld Tryd.prog 141 1 1 128 := ⟨_, _, Tryd.underlying141, rfl, rfl, rfl⟩
instance : Fld Tryd.prog 141 2 2 128 := ⟨_, _, Tryd.underlying141, rfl, rfl, rfl⟩
instance : Flds Tryd.prog 141 [(0, 1), (1, 1), (2, 1)] := ⟨_, Tryd.underlying141, fun _ => by kernel_rfl⟩
instance : Inf Tryd.prog 141 (.agg #[.int .u32 0, .int .u32 0, .int .u32 0]) 3 12 := ⟨by kernel_rfl⟩
instance : Agg Tryd.prog 142 true := ⟨_, Tryd.underlying142, rfl⟩
instance : Fld Tryd.prog 142 0 0 128 := ⟨_, _, Tryd.underlying142, rfl, rfl, rfl⟩
instance : Fld Tryd.prog 142 1 1 128 := ⟨_, _, Tryd.underlying142, rfl, rfl, rfl⟩
instance : Fld Tryd.prog 142 2 2 128 := ⟨_, _, Tryd.underlying142, rfl, rfl, rfl⟩
instance : Flds Tryd.prog 142 [(0, 1), (1, 1), (2, 1)] := ⟨_, Tryd.underlying142, fun _ => by kernel_rfl⟩
instance : Inf Tryd.prog 142 (.agg #[.int .u32 0, .int .u32 0, .int .u32 0]) 3 12 := ⟨by kernel_rfl⟩
instance : Agg Tryd.prog 144 true := ⟨_, Tryd.underlying144, rfl⟩
instance : Fld Tryd.prog 144 0 0 5 := ⟨_, _, Tryd.underlying144, rfl, rfl, rfl⟩
instance : Fld Tryd.prog 144 1 1 5 := ⟨_, _, Tryd.underlying144, rfl, rfl, rfl⟩
instance : Flds Tryd.prog 144 [(0, 1), (1, 1)] := ⟨_, Tryd.underlying144, fun _ => by kernel_rfl⟩
instance : Inf Tryd.prog 144 (.agg #[.int .u8 0, .int .u8 0]) 2 2 := ⟨by kernel_rfl⟩
instance : Agg Tryd.prog 145 true := ⟨_, Tryd.underlying145, rfl⟩
instance : Fld Tryd.prog 145 0 0 5 := ⟨_, _, Tryd.underlying145, rfl, rfl, rfl⟩
instance : Fld Tryd.prog 145 1 1 5 := ⟨_, _, Tryd.underlying145, rfl, rfl, rfl⟩
instance : Flds Tryd.prog 145 [(0, 1), (1, 1)] := ⟨_, Tryd.underlying145, fun _ => by kernel_rfl⟩
instance : Inf Tryd.prog 145 (.agg #[.int .u8 0, .int .u8 0]) 2 2 := ⟨by kernel_rfl⟩
instance : Und Tryd.prog 146 (.array 16 145) := ⟨Tryd.underlying146⟩
instance : Agg Tryd.prog 146 true := ⟨_, Tryd.underlying146, rfl⟩
instance : Inf Tryd.prog 146 (.agg #[.int .u8 0, .int .u8 0, .int .u8 0, .int .u8 0, .int .u8 0, .int .u8 0, .int .u8 0, .int .u8 0, .int .u8 0, .int .u8 0, .int .u8 0, .int .u8 0, .int .u8 0, .int .u8 0, .int .u8 0, .int .u8 0, .int .u8 0, .int .u8 0, .int .u8 0, .int .u8 0, .int .u8 0, .int .u8 0, .int .u8 0, .int .u8 0, .int .u8 0, .int .u8 0, .int .u8 0, .int .u8 0, .int .u8 0, .int .u8 0, .int .u8 0, .int .u8 0]) 32 32 := ⟨by kernel_rfl⟩
instance : Und Tryd.prog 150 (.pointer 139) := ⟨Tryd.underlying150⟩
instance : Agg Tryd.prog 150 false := ⟨_, Tryd.underlying150, rfl⟩
instance : Inf Tryd.prog 150 (.pointer none) 1 8 := ⟨by kernel_rfl⟩
instance : Und Tryd.prog 151 (.pointer 142) := ⟨Tryd.underlying151⟩
instance : Agg Tryd.prog 151 false := ⟨_, Tryd.underlying151, rfl⟩
instance : Inf Tryd.prog 151 (.pointer none) 1 8 := ⟨by kernel_rfl⟩
instance : Agg Tryd.prog 153 true := ⟨_, Tryd.underlying153, rfl⟩
instance : Fld Tryd.prog 153 0 0 17 := ⟨_, _, Tryd.underlying153, rfl, rfl, rfl⟩
instance : Fld Tryd.prog 153 1 1 17 := ⟨_, _, Tryd.underlying153, rfl, rfl, rfl⟩
instance : Fld Tryd.prog 153 2 2 17 := ⟨_, _, Tryd.underlying153, rfl, rfl, rfl⟩
instance : Fld Tryd.prog 153 3 3 9 := ⟨_, _, Tryd.underlying153, rfl, rfl, rfl⟩
instance : Flds Tryd.prog 153 [(0, 1), (1, 1), (2, 1), (3, 1)] := ⟨_, Tryd.underlying153, fun _ => by kernel_rfl⟩
instance : Inf Tryd.prog 153 (.agg #[.pointer none, .pointer none, .pointer none, .string ⟨#[]⟩]) 4 40 := ⟨by kernel_rfl⟩
instance : Agg Tryd.prog 154 true := ⟨_, Tryd.underlying154, rfl⟩
instance : Fld Tryd.prog 154 0 0 17 := ⟨_, _, Tryd.underlying154, rfl, rfl, rfl⟩
instance : Fld Tryd.prog 154 1 1 17 := ⟨_, _, Tryd.underlying154, rfl, rfl, rfl⟩
instance : Fld Tryd.prog 154 2 2 17 := ⟨_, _, Tryd.underlying154, rfl, rfl, rfl⟩
instance : Fld Tryd.prog 154 3 3 9 := ⟨_, _, Tryd.underlying154, rfl, rfl, rfl⟩
instance : Flds Tryd.prog 154 [(0, 1), (1, 1), (2, 1), (3, 1)] := ⟨_, Tryd.underlying154, fun _ => by kernel_rfl⟩
instance : Inf Tryd.prog 154 (.agg #[.pointer none, .pointer none, .pointer none, .string ⟨#[]⟩]) 4 40 := ⟨by kernel_rfl⟩
instance : Und Tryd.prog 155 (.array 0 16) := ⟨Tryd.underlying155⟩
instance : Agg Tryd.prog 155 true := ⟨_, Tryd.underlying155, rfl⟩
instance : Inf Tryd.prog 155 (.agg #[]) 0 0 := ⟨by kernel_rfl⟩
instance : Agg Tryd.prog 156 true := ⟨_, Tryd.underlying156, rfl⟩
instance : Fld Tryd.prog 156 0 0 155 := ⟨_, _, Tryd.underlying156, rfl, rfl, rfl⟩
instance : Flds Tryd.prog 156 [(0, 0)] := ⟨_, Tryd.underlying156, fun _ => by kernel_rfl⟩
instance : Inf Tryd.prog 156 (.agg #[]) 0 0 := ⟨by kernel_rfl⟩
instance : Agg Tryd.prog 157 true := ⟨_, Tryd.underlying157, rfl⟩
instance : Fld Tryd.prog 157 0 0 155 := ⟨_, _, Tryd.underlying157, rfl, rfl, rfl⟩
instance : Flds Tryd.prog 157 [(0, 0)] := ⟨_, Tryd.underlying157, fun _ => by kernel_rfl⟩
instance : Inf Tryd.prog 157 (.agg #[]) 0 0 := ⟨by kernel_rfl⟩
instance : Und Tryd.prog 159 (.int .u8) := ⟨Tryd.underlying159⟩
instance : Agg Tryd.prog 159 false := ⟨_, Tryd.underlying159, rfl⟩
instance : Inf Tryd.prog 159 (.int .u8 0) 1 1 := ⟨by kernel_rfl⟩
instance : Und Tryd.prog 160 (.int .u8) := ⟨Tryd.underlying160⟩
instance : Agg Tryd.prog 160 false := ⟨_, Tryd.underlying160, rfl⟩
instance : Inf Tryd.prog 160 (.int .u8 0) 1 1 := ⟨by kernel_rfl⟩
instance : Und Tryd.prog 162 (.pointer 5) := ⟨Tryd.underlying162⟩
instance : Agg Tryd.prog 162 false := ⟨_, Tryd.underlying162, rfl⟩
instance : Inf Tryd.prog 162 (.pointer none) 1 8 := ⟨by kernel_rfl⟩
instance : Und Tryd.prog 163 (.int .i32) := ⟨Tryd.underlying163⟩
instance : Agg Tryd.prog 163 false := ⟨_, Tryd.underlying163, rfl⟩
instance : Inf Tryd.prog 163 (.int .i32 0) 1 4 := ⟨by kernel_rfl⟩
instance : Und Tryd.prog 164 (.int .i32) := ⟨Tryd.underlying164⟩
instance : Agg Tryd.prog 164 false := ⟨_, Tryd.underlying164, rfl⟩
instance : Inf Tryd.prog 164 (.int .i32 0) 1 4 := ⟨by kernel_rfl⟩
instance : Agg Tryd.prog 165 true := ⟨_, Tryd.underlying165, rfl⟩
instance : Fld Tryd.prog 165 0 0 12 := ⟨_, _, Tryd.underlying165, rfl, rfl, rfl⟩
instance : Fld Tryd.prog 165 1 1 12 := ⟨_, _, Tryd.underlying165, rfl, rfl, rfl⟩
instance : Fld Tryd.prog 165 2 2 128 := ⟨_, _, Tryd.underlying165, rfl, rfl, rfl⟩
instance : Fld Tryd.prog 165 3 3 159 := ⟨_, _, Tryd.underlying165, rfl, rfl, rfl⟩
instance : Fld Tryd.prog 165 4 4 5 := ⟨_, _, Tryd.underlying165, rfl, rfl, rfl⟩
instance : Fld Tryd.prog 165 5 5 5 := ⟨_, _, Tryd.underlying165, rfl, rfl, rfl⟩
instance : Fld Tryd.prog 165 6 6 160 := ⟨_, _, Tryd.underlying165, rfl, rfl, rfl⟩
instance : Fld Tryd.prog 165 7 7 161 := ⟨_, _, Tryd.underlying165, rfl, rfl, rfl⟩
instance : Fld Tryd.prog 165 8 8 162 := ⟨_, _, Tryd.underlying165, rfl, rfl, rfl⟩
instance : Fld Tryd.prog 165 9 9 163 := ⟨_, _, Tryd.underlying165, rfl, rfl, rfl⟩
instance : Fld Tryd.prog 165 10 10 164 := ⟨_, _, Tryd.underlying165, rfl, rfl, rfl⟩
instance : Flds Tryd.prog 165 [(0, 1), (1, 1), (2, 1), (3, 1), (4, 1), (5, 1), (6, 1), (7, 1), (8, 1), (9, 1), (10, 1)] := ⟨_, Tryd.underlying165, fun _ => by kernel_rfl⟩
instance : Inf Tryd.prog 165 (.agg #[.int .u64 0, .int .u64 0, .int .u32 0, .int .u8 0, .int .u8 0, .int .u8 0, .int .u8 0, .nilFunc, .pointer none, .int .i32 0, .int .i32 0]) 11 48 := ⟨by kernel_rfl⟩
instance : Agg Tryd.prog 166 true := ⟨_, Tryd.underlying166, rfl⟩
instance : Fld Tryd.prog 166 0 0 12 := ⟨_, _, Tryd.underlying166, rfl, rfl, rfl⟩
instance : Fld Tryd.prog 166 1 1 12 := ⟨_, _, Tryd.underlying166, rfl, rfl, rfl⟩
instance : Fld Tryd.prog 166 2 2 128 := ⟨_, _, Tryd.underlying166, rfl, rfl, rfl⟩
instance : Fld Tryd.prog 166 3 3 159 := ⟨_, _, Tryd.underlying166, rfl, rfl, rfl⟩
instance : Fld Tryd.prog 166 4 4 5 := ⟨_, _, Tryd.underlying166, rfl, rfl, rfl⟩
instance : Fld Tryd.prog 166 5 5 5 := ⟨_, _, Tryd.underlying166, rfl, rfl, rfl⟩
instance : Fld Tryd.prog 166 6 6 160 := ⟨_, _, Tryd.underlying166, rfl, rfl, rfl⟩
instance : Fld Tryd.prog 166 7 7 161 := ⟨_, _, Tryd.underlying166, rfl, rfl, rfl⟩
instance : Fld Tryd.prog 166 8 8 162 := ⟨_, _, Tryd.underlying166, rfl, rfl, rfl⟩
instance : Fld Tryd.prog 166 9 9 163 := ⟨_, _, Tryd.underlying166, rfl, rfl, rfl⟩
instance : Fld Tryd.prog 166 10 10 164 := ⟨_, _, Tryd.underlying166, rfl, rfl, rfl⟩
instance : Flds Tryd.prog 166 [(0, 1), (1, 1), (2, 1), (3, 1), (4, 1), (5, 1), (6, 1), (7, 1), (8, 1), (9, 1), (10, 1)] := ⟨_, Tryd.underlying166, fun _ => by kernel_rfl⟩
instance : Inf Tryd.prog 166 (.agg #[.int .u64 0, .int .u64 0, .int .u32 0, .int .u8 0, .int .u8 0, .int .u8 0, .int .u8 0, .nilFunc, .pointer none, .int .i32 0, .int .i32 0]) 11 48 := ⟨by kernel_rfl⟩
instance : Und Tryd.prog 167 .unsafePointer := ⟨Tryd.underlying167⟩
instance : Agg Tryd.prog 167 false := ⟨_, Tryd.underlying167, rfl⟩
instance : Inf Tryd.prog 167 (.pointer none) 1 8 := ⟨by kernel_rfl⟩
instance : Fnc Tryd.prog 2 := ⟨Tryd.f2, Tryd.func2, by kernel_rfl, rfl⟩
instance : Fnc Tryd.prog 3 := ⟨Tryd.f3, Tryd.func3, by kernel_rfl, rfl⟩
instance : Fnc Tryd.prog 4 := ⟨Tryd.f4, Tryd.func4, by kernel_rfl, rfl⟩
instance : Fnc Tryd.prog 5 := ⟨Tryd.f5, Tryd.func5, by kernel_rfl, rfl⟩
instance : Fnc Tryd.prog 6 := ⟨Tryd.f6, Tryd.func6, by kernel_rfl, rfl⟩
instance : Fnc Tryd.prog 7 := ⟨Tryd.f7, Tryd.func7, by kernel_rfl, rfl⟩
instance : Fnc Tryd.prog 8 := ⟨Tryd.f8, Tryd.func8, by kernel_rfl, rfl⟩
instance : Fnc Tryd.prog 9 := ⟨Tryd.f9, Tryd.func9, by kernel_rfl, rfl⟩
instance : Fnc Tryd.prog 10 := ⟨Tryd.f10, Tryd.func10, by kernel_rfl, rfl⟩
instance : Fnc Tryd.prog 11 := ⟨Tryd.f11, Tryd.func11, by kernel_rfl, rfl⟩
instance : Fnc Tryd.prog 12 := ⟨Tryd.f12, Tryd.func12, by kernel_rfl, rfl⟩
instance : Fnc Tryd.prog 13 := ⟨Tryd.f13, Tryd.func13, by kernel_rfl, rfl⟩
instance : Fnc Tryd.prog 14 := ⟨Tryd.f14, Tryd.func14, by kernel_rfl, rfl⟩
instance : Fnc Tryd.prog 15 := ⟨Tryd.f15, Tryd.func15, by kernel_rfl, rfl⟩
instance : Fnc Tryd.prog 16 := ⟨Tryd.f16, Tryd.func16, by kernel_rfl, rfl⟩
instance : Fnc Tryd.prog 17 := ⟨Tryd.f17, Tryd.func17, by kernel_rfl, rfl⟩
instance : Fnc Tryd.prog 18 := ⟨Tryd.f18, Tryd.func18, by kernel_rfl, rfl⟩
instance : Fnc Tryd.prog 19 := ⟨Tryd.f19, Tryd.func19, by kernel_rfl, rfl⟩
instance : Fnc Tryd.prog 20 := ⟨Tryd.f20, Tryd.func20, by kernel_rfl, rfl⟩
instance : Fnc Tryd.prog 21 := ⟨Tryd.f21, Tryd.func21, by kernel_rfl, rfl⟩
instance : Fnc Tryd.prog 22 := ⟨Tryd.f22, Tryd.func22, by kernel_rfl, rfl⟩
instance : Fnc Tryd.prog 23 := ⟨Tryd.f23, Tryd.func23, by kernel_rfl, rfl⟩
instance : Fnc Tryd.prog 24 := ⟨Tryd.f24, Tryd.func24, by kernel_rfl, rfl⟩
instance : Fnc Tryd.prog 25 := ⟨Tryd.f25, Tryd.func25, by kernel_rfl, rfl⟩
instance : Fnc Tryd.prog 26 := ⟨Tryd.f26, Tryd.func26, by kernel_rfl, rfl⟩
instance : Fnc Tryd.prog 27 := ⟨Tryd.f27, Tryd.func27, by kernel_rfl, rfl⟩
instance : Fnc Tryd.prog 28 := ⟨Tryd.f28, Tryd.func28, by kernel_rfl, rfl⟩
instance : Fnc Tryd.prog 29 := ⟨Tryd.f29, Tryd.func29, by kernel_rfl, rfl⟩
instance : Fnc Tryd.prog 30 := ⟨Tryd.f30, Tryd.func30, by kernel_rfl, rfl⟩
instance : Fnc Tryd.prog 31 := ⟨Tryd.f31, Tryd.func31, by kernel_rfl, rfl⟩
instance : Fnc Tryd.prog 32 := ⟨Tryd.f32, Tryd.func32, by kernel_rfl, rfl⟩
instance : Fnc Tryd.prog 33 := ⟨Tryd.f33, Tryd.func33, by kernel_rfl, rfl⟩
instance : Fnc Tryd.prog 34 := ⟨Tryd.f34, Tryd.func34, by kernel_rfl, rfl⟩
instance : Fnc Tryd.prog 35 := ⟨Tryd.f35, Tryd.func35, by kernel_rfl, rfl⟩
instance : Fnc Tryd.prog 36 := ⟨Tryd.f36, Tryd.func36, by kernel_rfl, rfl⟩
instance : Fnc Tryd.prog 37 := ⟨Tryd.f37, Tryd.func37, by kernel_rfl, rfl⟩
instance : Fnc Tryd.prog 38 := ⟨Tryd.f38, Tryd.func38, by kernel_rfl, rfl⟩
instance : Fnc Tryd.prog 39 := ⟨Tryd.f39, Tryd.func39, by kernel_rfl, rfl⟩
instance : Fnc Tryd.prog 40 := ⟨Tryd.f40, Tryd.func40, by kernel_rfl, rfl⟩
instance : Fnc Tryd.prog 41 := ⟨Tryd.f41, Tryd.func41, by kernel_rfl, rfl⟩
instance : Fnc Tryd.prog 42 := ⟨Tryd.f42, Tryd.func42, by kernel_rfl, rfl⟩
instance : Fnc Tryd.prog 43 := ⟨Tryd.f43, Tryd.func43, by kernel_rfl, rfl⟩
instance : Fnc Tryd.prog 44 := ⟨Tryd.f44, Tryd.func44, by kernel_rfl, rfl⟩
instance : Fnc Tryd.prog 45 := ⟨Tryd.f45, Tryd.func45, by kernel_rfl, rfl⟩
instance : Fnc Tryd.prog 46 := ⟨Tryd.f46, Tryd.func46, by kernel_rfl, rfl⟩
instance : Fnc Tryd.prog 47 := ⟨Tryd.f47, Tryd.func47, by kernel_rfl, rfl⟩
instance : Fnc Tryd.prog 48 := ⟨Tryd.f48, Tryd.func48, by kernel_rfl, rfl⟩
instance : Fnc Tryd.prog 49 := ⟨Tryd.f49, Tryd.func49, by kernel_rfl, rfl⟩
instance : Fnc Tryd.prog 50 := ⟨Tryd.f50, Tryd.func50, by kernel_rfl, rfl⟩
instance : Fnc Tryd.prog 51 := ⟨Tryd.f51, Tryd.func51, by kernel_rfl, rfl⟩
instance : Fnc Tryd.prog 52 := ⟨Tryd.f52, Tryd.func52, by kernel_rfl, rfl⟩
instance : Fnc Tryd.prog 53 := ⟨Tryd.f53, Tryd.func53, by kernel_rfl, rfl⟩
instance : Fnc Tryd.prog 54 := ⟨Tryd.f54, Tryd.func54, by kernel_rfl, rfl⟩
instance : Fnc Tryd.prog 55 := ⟨Tryd.f55, Tryd.func55, by kernel_rfl, rfl⟩
instance : Fnc Tryd.prog 56 := ⟨Tryd.f56, Tryd.func56, by kernel_rfl, rfl⟩
instance : Fnc Tryd.prog 57 := ⟨Tryd.f57, Tryd.func57, by kernel_rfl, rfl⟩
instance : Fnc Tryd.prog 58 := ⟨Tryd.f58, Tryd.func58, by kernel_rfl, rfl⟩
instance : Fnc Tryd.prog 59 := ⟨Tryd.f59, Tryd.func59, by kernel_rfl, rfl⟩
instance : Fnc Tryd.prog 60 := ⟨Tryd.f60, Tryd.func60, by kernel_rfl, rfl⟩
instance : Fnc Tryd.prog 61 := ⟨Tryd.f61, Tryd.func61, by kernel_rfl, rfl⟩
instance : Fnc Tryd.prog 62 := ⟨Tryd.f62, Tryd.func62, by kernel_rfl, rfl⟩
instance : Fnc Tryd.prog 63 := ⟨Tryd.f63, Tryd.func63, by kernel_rfl, rfl⟩
instance : Fnc Tryd.prog 64 := ⟨Tryd.f64, Tryd.func64, by kernel_rfl, rfl⟩
instance : Fnc Tryd.prog 65 := ⟨Tryd.f65, Tryd.func65, by kernel_rfl, rfl⟩
instance : Fnc Tryd.prog 66 := ⟨Tryd.f66, Tryd.func66, by kernel_rfl, rfl⟩
instance : Fnc Tryd.prog 67 := ⟨Tryd.f67, Tryd.func67, by kernel_rfl, rfl⟩
instance : Fnc Tryd.prog 68 := ⟨Tryd.f68, Tryd.func68, by kernel_rfl, rfl⟩
instance : Fnc Tryd.prog 69 := ⟨Tryd.f69, Tryd.func69, by kernel_rfl, rfl⟩
instance : Fnc Tryd.prog 70 := ⟨Tryd.f70, Tryd.func70, by kernel_rfl, rfl⟩
instance : Fnc Tryd.prog 71 := ⟨Tryd.f71, Tryd.func71, by kernel_rfl, rfl⟩
instance : Fnc Tryd.prog 72 := ⟨Tryd.f72, Tryd.func72, by kernel_rfl, rfl⟩
instance : Fnc Tryd.prog 73 := ⟨Tryd.f73, Tryd.func73, by kernel_rfl, rfl⟩
instance : Fnc Tryd.prog 74 := ⟨Tryd.f74, Tryd.func74, by kernel_rfl, rfl⟩
instance : Fnc Tryd.prog 75 := ⟨Tryd.f75, Tryd.func75, by kernel_rfl, rfl⟩
instance : Fnc Tryd.prog 76 := ⟨Tryd.f76, Tryd.func76, by kernel_rfl, rfl⟩
instance : Fnc Tryd.prog 77 := ⟨Tryd.f77, Tryd.func77, by kernel_rfl, rfl⟩
instance : Fnc Tryd.prog 78 := ⟨Tryd.f78, Tryd.func78, by kernel_rfl, rfl⟩
instance : Fnc Tryd.prog 79 := ⟨Tryd.f79, Tryd.func79, by kernel_rfl, rfl⟩
instance : Fnc Tryd.prog 80 := ⟨Tryd.f80, Tryd.func80, by kernel_rfl, rfl⟩
instance : Fnc Tryd.prog 81 := ⟨Tryd.f81, Tryd.func81, by kernel_rfl, rfl⟩
instance : Fnc Tryd.prog 82 := ⟨Tryd.f82, Tryd.func82, by kernel_rfl, rfl⟩
instance : Fnc Tryd.prog 83 := ⟨Tryd.f83, Tryd.func83, by kernel_rfl, rfl⟩
instance : Fnc Tryd.prog 84 := ⟨Tryd.f84, Tryd.func84, by kernel_rfl, rfl⟩
instance : Fnc Tryd.prog 85 := ⟨Tryd.f85, Tryd.func85, by kernel_rfl, rfl⟩
instance : Fnc Tryd.prog 86 := ⟨Tryd.f86, Tryd.func86, by kernel_rfl, rfl⟩
instance : Fnc Tryd.prog 87 := ⟨Tryd.f87, Tryd.func87, by kernel_rfl, rfl⟩
instance : Fnc Tryd.prog 88 := ⟨Tryd.f88, Tryd.func88, by kernel_rfl, rfl⟩
instance : Fnc Tryd.prog 89 := ⟨Tryd.f89, Tryd.func89, by kernel_rfl, rfl⟩
instance : Fnc Tryd.prog 90 := ⟨Tryd.f90, Tryd.func90, by kernel_rfl, rfl⟩
instance : Fnc Tryd.prog 91 := ⟨Tryd.f91, Tryd.func91, by kernel_rfl, rfl⟩
instance : Fnc Tryd.prog 93 := ⟨Tryd.f93, Tryd.func93, by kernel_rfl, rfl⟩
instance : Fnc Tryd.prog 121 := ⟨Tryd.f121, Tryd.func121, by kernel_rfl, rfl⟩
end Go.Proofs.YtmnnffenijjpcaaDoor

/-
  The rules as a script meets them.
-/
set_option linter.unusedSimpArgs false
set_option linter.unusedVariables false
set_option linter.unnecessarySimpa false
namespace Go.Sv
open Go Go.RowKit

/-- a function that answers one value and leaves what was there -/
def PureC (P : Program) (f : FuncId) (args : Array Value) (w : World) (v : Value) : Prop := CallsR P f args w fun u w' => u = v ∧ Frm w w'

section
variable {P : Program} {σ : Env} {w : World} {d : Option Tmp} {ty t t' : TypeId} {pos : String} {af : Array Edge} {g : Option (Nat × Bool)} {x y z : Operand} {a b : Int}
theorem y_add64 (hx : evl σ x = .int .i64 a) (hy : evl σ y = .int .i64 b) (h : -9223372036854775808 ≤ a + b ∧ a + b ≤ 9223372036854775807) : Y P σ ⟨d, .binOp .add t x y t', ty, pos, af, g⟩ w (.int .i64 (a + b)) w := y_add hx hy h
theorem y_sub64 (hx : evl σ x = .int .i64 a) (hy : evl σ y = .int .i64 b) (h : -9223372036854775808 ≤ a - b ∧ a - b ≤ 9223372036854775807) : Y P σ ⟨d, .binOp .sub t x y t', ty, pos, af, g⟩ w (.int .i64 (a - b)) w := y_sub hx hy h
theorem y_mul64 (hx : evl σ x = .int .i64 a) (hy : evl σ y = .int .i64 b) (h : -9223372036854775808 ≤ a * b ∧ a * b ≤ 9223372036854775807) : Y P σ ⟨d, .binOp .mul t x y t', ty, pos, af, g⟩ w (.int .i64 (a * b)) w := y_mul hx hy h
theorem y_add32 (hx : evl σ x = .int .i32 a) (hy : evl σ y = .int .i32 b) (h : -2147483648 ≤ a + b ∧ a + b ≤ 2147483647) : Y P σ ⟨d, .binOp .add t x y t', ty, pos, af, g⟩ w (.int .i32 (a + b)) w := y_add hx hy h
theorem y_sub32 (hx : evl σ x = .int .i32 a) (hy : evl σ y = .int .i32 b) (h : -2147483648 ≤ a - b ∧ a - b ≤ 2147483647) : Y P σ ⟨d, .binOp .sub t x y t', ty, pos, af, g⟩ w (.int .i32 (a - b)) w := y_sub hx hy h
theorem y_mul32 (hx : evl σ x = .int .i32 a) (hy : evl σ y = .int .i32 b) (h : -2147483648 ≤ a * b ∧ a * b ≤ 2147483647) : Y P σ ⟨d, .binOp .mul t x y t', ty, pos, af, g⟩ w (.int .i32 (a * b)) w := y_mul hx hy h
theorem y_add8 (hx : evl σ x = .int .u8 a) (hy : evl σ y = .int .u8 b) (h : 0 ≤ a + b ∧ a + b ≤ 255) : Y P σ ⟨d, .binOp .add t x y t', ty, pos, af, g⟩ w (.int .u8 (a + b)) w := y_add hx hy h
theorem y_sub8 (hx : evl σ x = .int .u8 a) (hy : evl σ y = .int .u8 b) (h : 0 ≤ a - b ∧ a - b ≤ 255) : Y P σ ⟨d, .binOp .sub t x y t', ty, pos, af, g⟩ w (.int .u8 (a - b)) w := y_sub hx hy h
theorem y_conv_b32 [hu : Und P t (.int .u8)] [hu' : Und P t' (.int .i32)] {c : UInt8} (hx : evl σ x = byt c.toNat) : Y P σ ⟨d, .convert t t' x, ty, pos, af, g⟩ w (i32 c.toNat) w :=
  y_conv_in hx (by have := UInt8.toNat_lt c; simp [IntKind.min, IntKind.max, IntKind.signed, IntKind.bits]; omega)
theorem y_conv_b64 [hu : Und P t (.int .u8)] [hu' : Und P t' (.int .i64)] {c : UInt8} (hx : evl σ x = byt c.toNat) : Y P σ ⟨d, .convert t t' x, ty, pos, af, g⟩ w (int c.toNat) w :=
  y_conv_in hx (by have := UInt8.toNat_lt c; simp [IntKind.min, IntKind.max, IntKind.signed, IntKind.bits]; omega)
theorem y_conv8_32 [hu : Und P t (.int .u8)] [hu' : Und P t' (.int .i32)] (hx : evl σ x = byt a) (h : 0 ≤ a ∧ a ≤ 255) : Y P σ ⟨d, .convert t t' x, ty, pos, af, g⟩ w (i32 a) w :=
  y_conv_in hx (by simp [IntKind.min, IntKind.max, IntKind.signed, IntKind.bits]; omega)
theorem y_conv8_64 [hu : Und P t (.int .u8)] [hu' : Und P t' (.int .i64)] (hx : evl σ x = byt a) (h : 0 ≤ a ∧ a ≤ 255) : Y P σ ⟨d, .convert t t' x, ty, pos, af, g⟩ w (int a) w :=
  y_conv_in hx (by simp [IntKind.min, IntKind.max, IntKind.signed, IntKind.bits]; omega)
theorem y_conv32_8 [hu : Und P t (.int .i32)] [hu' : Und P t' (.int .u8)] (hx : evl σ x = i32 a) (h : 0 ≤ a ∧ a ≤ 255) : Y P σ ⟨d, .convert t t' x, ty, pos, af, g⟩ w (byt a) w :=
  y_conv_in hx (by simp [IntKind.min, IntKind.max, IntKind.signed, IntKind.bits]; omega)
theorem y_conv64_8 [hu : Und P t (.int .i64)] [hu' : Und P t' (.int .u8)] (hx : evl σ x = int a) (h : 0 ≤ a ∧ a ≤ 255) : Y P σ ⟨d, .convert t t' x, ty, pos, af, g⟩ w (byt a) w :=
  y_conv_in hx (by simp [IntKind.min, IntKind.max, IntKind.signed, IntKind.bits]; omega)
theorem y_conv32_64 [hu : Und P t (.int .i32)] [hu' : Und P t' (.int .i64)] (hx : evl σ x = i32 a) (h : -2147483648 ≤ a ∧ a ≤ 2147483647) : Y P σ ⟨d, .convert t t' x, ty, pos, af, g⟩ w (int a) w :=
  y_conv_in hx (by simp [IntKind.min, IntKind.max, IntKind.signed, IntKind.bits]; omega)
theorem y_conv64_64 [hu : Und P t (.int .i64)] [hu' : Und P t' (.int .i64)] (hx : evl σ x = int a) (h : -9223372036854775808 ≤ a ∧ a ≤ 9223372036854775807) : Y P σ ⟨d, .convert t t' x, ty, pos, af, g⟩ w (int a) w :=
  y_conv_in hx (by simp [IntKind.min, IntKind.max, IntKind.signed, IntKind.bits]; omega)
theorem y_conv64_32 [hu : Und P t (.int .i64)] [hu' : Und P t' (.int .i32)] (hx : evl σ x = int a) (h : -2147483648 ≤ a ∧ a ≤ 2147483647) : Y P σ ⟨d, .convert t t' x, ty, pos, af, g⟩ w (i32 a) w :=
  y_conv_in hx (by simp [IntKind.min, IntKind.max, IntKind.signed, IntKind.bits]; omega)
theorem y_conv32_32 [hu : Und P t (.int .i32)] [hu' : Und P t' (.int .i32)] (hx : evl σ x = i32 a) (h : -2147483648 ≤ a ∧ a ≤ 2147483647) : Y P σ ⟨d, .convert t t' x, ty, pos, af, g⟩ w (i32 a) w :=
  y_conv_in hx (by simp [IntKind.min, IntKind.max, IntKind.signed, IntKind.bits]; omega)
theorem y_beql [hu : Und P t .bool] {u v : Bool} (hx : evl σ x = .bool u) (hy : evl σ y = .bool v) : Y P σ ⟨d, .binOp .eql t x y t', ty, pos, af, g⟩ w (.bool (decide (u = v))) w := by
  have h := run_equalIn_bool' (P := P) w 9999 t u v hu.ok
  refine Y.val ?_; simp only [execOp, hx, hy, eqGuard, Sem.run_bind, binOp, Op.equal, Op.maxDepth]
  rw [show (10000 : Nat) = 9999 + 1 from rfl]
  simp [h]; cases u <;> cases v <;> rfl
theorem y_bneq [hu : Und P t .bool] {u v : Bool} (hx : evl σ x = .bool u) (hy : evl σ y = .bool v) : Y P σ ⟨d, .binOp .neq t x y t', ty, pos, af, g⟩ w (.bool (decide (u ≠ v))) w := by
  have h := run_equalIn_bool' (P := P) w 9999 t u v hu.ok
  refine Y.val ?_; simp only [execOp, hx, hy, eqGuard, Sem.run_bind, binOp, Op.equal, Op.maxDepth]
  rw [show (10000 : Nat) = 9999 + 1 from rfl]
  simp [h]; cases u <;> cases v <;> rfl
theorem y_sindexI [hu : Und P t .string] {l : List UInt8} {k : IntKind} (hx : evl σ x = str l) (hy : evl σ y = .int k a) (h : 0 ≤ a ∧ a < l.length) : Y P σ ⟨d, .index t x y, ty, pos, af, g⟩ w (byt (l[a.toNat]?.getD 0).toNat) w := by
  obtain ⟨i, rfl⟩ := Int.eq_ofNat_of_zero_le h.1
  refine y_sindex hx hy ?_
  have : i < l.length := by omega
  simp [this]
theorem y_sindexN [hu : Und P t .string] {l : List UInt8} {i : Nat} {k : IntKind} (hx : evl σ x = str l) (hy : evl σ y = .int k i) (h : i < l.length) : Y P σ ⟨d, .index t x y, ty, pos, af, g⟩ w (byt (l[i]?.getD 0).toNat) w := by
  refine y_sindex hx hy ?_
  simp [h]
end

section
variable {P : Program} {n : Nat} {ds : Ctx} {ops : Array Oper} {Q : Exit → Ctx → Env → World → Prop} {C : World → Prop} {QE : Env → Prop} {rest : List Oper} {σ : GE} {w w' : World} {v : Value} {d : Nat} {op : Op} {ty : TypeId} {pos : String} {af : Array Edge} {j : Nat} {want b c nd : Bool} {dj : Nat}

theorem wl (h : WL P n ds ops Q rest (real (updG σ d ⟨v, true⟩)) w') (hy : Y P (real σ) ⟨some d, op, ty, pos, af, none⟩ w v w') : WL P n ds ops Q (⟨some d, op, ty, pos, af, none⟩ :: rest) (real σ) w :=
  WL_step rfl hy (by rw [← real_upd] at h; exact h)
theorem wl0 (h : WL P n ds ops Q rest (real σ) w') (hy : Y P (real σ) ⟨none, op, ty, pos, af, none⟩ w v w') : WL P n ds ops Q (⟨none, op, ty, pos, af, none⟩ :: rest) (real σ) w := WL_step rfl hy h
/-- an operation that only looks at its operands -/
theorem wlp (h : WL P n ds ops Q rest (real (updG σ d ⟨v, true⟩)) w) (he : ev1 σ op = some ⟨v, nd⟩ := by rfl) (hn : nd = true := by first | with_reducible rfl | with_reducible exact Go.Sv.tt | with_reducible exact Go.Sv.pk_or _ | with_reducible exact Go.Sv.pk_and _ | with_reducible exact Go.Sv.pk_tt _) : WL P n ds ops Q (⟨some d, op, ty, pos, af, none⟩ :: rest) (real σ) w :=
  wl h (ev1_ok he hn)

theorem wanted_real {o : Oper} {j dj : Nat} {want b c : Bool} (hgd : o.guard = some (j, want)) (hj : (ops[j]?).bind (·.dst) = some dj) (hσ : σ dj = ⟨.bool c, b⟩) :
    Region.wanted o (yl ops (real σ)) = (b && (c == want)) := by
  unfold Region.wanted yl
  rw [hgd]
  simp only [hj, real, hσ, rv]
  cases b <;> cases c <;> cases want <;> rfl
theorem rv_bif (b : Bool) (v : Value) : (bif b then v else undef) = rv ⟨v, b⟩ := by cases b <;> rfl

theorem wlg (h : WL P n ds ops Q rest (real (updG σ d ⟨v, b && (c == want)⟩)) w) (hj : (ops[j]?).bind (·.dst) = some dj) (hσ : σ dj = ⟨.bool c, b⟩) (hy : (b && (c == want)) = true → Y P (real σ) ⟨some d, op, ty, pos, af, some (j, want)⟩ w v w) :
    WL P n ds ops Q (⟨some d, op, ty, pos, af, some (j, want)⟩ :: rest) (real σ) w :=
  WL_guard (wanted_real rfl hj hσ) hy (by rw [rv_bif]; rw [← real_upd] at h; exact h)
theorem tt : (true && true) = true := rfl
theorem pk_tt (c : Bool) : (true && pkb c true true) = true := by cases c <;> rfl
theorem pk_or (c : Bool) : (true && pkb c true (true && (c == false))) = true := by cases c <;> rfl
theorem pk_and (c : Bool) : (true && pkb c (true && (c == true)) true) = true := by cases c <;> rfl
theorem pkg_or {G : Bool} (c : Bool) (h : G = true) : (G && pkb c true (G && (c == false))) = true := by subst h; cases c <;> rfl
theorem pkg_and {G : Bool} (c : Bool) (h : G = true) : (G && pkb c (G && (c == true)) true) = true := by subst h; cases c <;> rfl
theorem nd_same {G : Bool} (h : G = true) : (G && G) = true := by subst h; rfl
theorem nd_l {G : Bool} (h : G = true) : (G && true) = true := by subst h; rfl
theorem nd_r {G : Bool} (h : G = true) : (true && G) = true := by subst h; rfl
theorem wlpg (h : WL P n ds ops Q rest (real (updG σ d ⟨v, b && (c == want)⟩)) w) (hj : (ops[j]?).bind (·.dst) = some dj := by rfl) (hσ : σ dj = ⟨.bool c, b⟩ := by rfl) (he : ev1 σ op = some ⟨v, nd⟩ := by rfl)
    (hn : (b && (c == want)) = true → nd = true := by first | with_reducible exact fun _ => rfl | with_reducible exact fun _ => Go.Sv.tt | with_reducible exact fun h => h | with_reducible exact fun h => Go.Sv.nd_l h | with_reducible exact fun h => Go.Sv.nd_r h | with_reducible exact fun h => Go.Sv.nd_same h | with_reducible exact fun h => Go.Sv.pkg_or _ h | with_reducible exact fun h => Go.Sv.pkg_and _ h | with_reducible exact fun h => Go.Sv.and_l h | with_reducible exact fun h => Go.Sv.nd_l (Go.Sv.and_l h) | with_reducible exact fun h => Go.Sv.nd_r (Go.Sv.and_l h) | with_reducible exact fun h => Go.Sv.and_l (Go.Sv.and_l h) | with_reducible exact fun h => Go.Sv.nd_l (Go.Sv.and_l (Go.Sv.and_l h)) | (intro h; simp only [Bool.and_eq_true] at h ⊢; simp [h, Go.Sv.pkb]; done) | (intro h; simp_all [Go.Sv.pkb]; done) | (intro h; revert h; simp [Go.Sv.pkb]; done)) :
    WL P n ds ops Q (⟨some d, op, ty, pos, af, some (j, want)⟩ :: rest) (real σ) w := wlg h hj hσ fun hh => ev1_ok he (hn hh)
/-- a pick, whose parts may not be there -/
theorem wlpk (h : WL P n ds ops Q rest (real (updG σ d ⟨v, true⟩)) w) (he : ev1 σ op = some ⟨v, nd⟩ := by rfl) (hn : nd = true := by first | with_reducible rfl | with_reducible exact Go.Sv.tt | with_reducible exact Go.Sv.pk_or _ | with_reducible exact Go.Sv.pk_and _ | with_reducible exact Go.Sv.pk_tt _ | (simp [Go.Sv.pkb]; done) | (simp only [Go.Sv.pkb, Bool.and_eq_true]; simp_all; done)) : WL P n ds ops Q (⟨some d, op, ty, pos, af, none⟩ :: rest) (real σ) w :=
  wl h (ev1_ok he hn)

theorem wlcall {f : FuncId} [hf : Fnc P f] {args : List Operand} {ats : Array TypeId} {R : Value → World → Prop}
    (hc : CallsR P f (args.map (evl (real σ))).toArray w R) (h : ∀ v w', R v w' → WL P n ds ops Q rest (real (updG σ d ⟨v, true⟩)) w') :
    WL P n ds ops Q (⟨some d, .call ⟨.value (.func f), args.toArray, ats⟩, ty, pos, af, none⟩ :: rest) (real σ) w :=
  WL_call (R := R) (by simpa using hc) fun v w' hr => by have := h v w' hr; rw [← real_upd] at this; exact this
theorem wlpure {f : FuncId} [hf : Fnc P f] {args : List Operand} {ats : Array TypeId} (hc : PureC P f (args.map (evl (real σ))).toArray w v) (h : ∀ w', Frm w w' → WL P n ds ops Q rest (real (updG σ d ⟨v, true⟩)) w') :
    WL P n ds ops Q (⟨some d, .call ⟨.value (.func f), args.toArray, ats⟩, ty, pos, af, none⟩ :: rest) (real σ) w := by
  refine wlcall (R := fun u w' => u = v ∧ Frm w w') hc ?_
  rintro u w' ⟨rfl, hw⟩
  exact h w' hw

/-! regions that draw -/
theorem ql (h : QL P n ds ops C QE rest (real (updG σ d ⟨v, true⟩))) (hy : YQ P (real σ) ⟨some d, op, ty, pos, af, none⟩ C v) : QL P n ds ops C QE (⟨some d, op, ty, pos, af, none⟩ :: rest) (real σ) :=
  QL_step rfl hy (by rw [← real_upd] at h; exact h)
theorem qlp (h : QL P n ds ops C QE rest (real (updG σ d ⟨v, true⟩))) (he : ev1 σ op = some ⟨v, nd⟩ := by rfl) (hn : nd = true := by first | with_reducible rfl | with_reducible exact Go.Sv.tt | with_reducible exact Go.Sv.pk_or _ | with_reducible exact Go.Sv.pk_and _ | with_reducible exact Go.Sv.pk_tt _) : QL P n ds ops C QE (⟨some d, op, ty, pos, af, none⟩ :: rest) (real σ) :=
  ql h (YQ.ofY fun _ _ => ev1_ok he hn)
theorem qlpk (h : QL P n ds ops C QE rest (real (updG σ d ⟨v, true⟩))) (he : ev1 σ op = some ⟨v, nd⟩ := by rfl) (hn : nd = true := by first | with_reducible rfl | with_reducible exact Go.Sv.tt | with_reducible exact Go.Sv.pk_or _ | with_reducible exact Go.Sv.pk_and _ | with_reducible exact Go.Sv.pk_tt _ | (simp [Go.Sv.pkb]; done) | (simp only [Go.Sv.pkb, Bool.and_eq_true]; simp_all; done)) : QL P n ds ops C QE (⟨some d, op, ty, pos, af, none⟩ :: rest) (real σ) :=
  ql h (YQ.ofY fun _ _ => ev1_ok he hn)
theorem qlg (h : QL P n ds ops C QE rest (real (updG σ d ⟨v, b && (c == want)⟩))) (hj : (ops[j]?).bind (·.dst) = some dj) (hσ : σ dj = ⟨.bool c, b⟩) (hy : (b && (c == want)) = true → YQ P (real σ) ⟨some d, op, ty, pos, af, some (j, want)⟩ C v) :
    QL P n ds ops C QE (⟨some d, op, ty, pos, af, some (j, want)⟩ :: rest) (real σ) :=
  QL_guard (wanted_real rfl hj hσ) hy (by rw [rv_bif]; rw [← real_upd] at h; exact h)
theorem qlpg (h : QL P n ds ops C QE rest (real (updG σ d ⟨v, b && (c == want)⟩))) (hj : (ops[j]?).bind (·.dst) = some dj := by rfl) (hσ : σ dj = ⟨.bool c, b⟩ := by rfl) (he : ev1 σ op = some ⟨v, nd⟩ := by rfl)
    (hn : (b && (c == want)) = true → nd = true := by first | with_reducible exact fun _ => rfl | with_reducible exact fun _ => Go.Sv.tt | with_reducible exact fun h => h | with_reducible exact fun h => Go.Sv.nd_l h | with_reducible exact fun h => Go.Sv.nd_r h | with_reducible exact fun h => Go.Sv.nd_same h | with_reducible exact fun h => Go.Sv.pkg_or _ h | with_reducible exact fun h => Go.Sv.pkg_and _ h | with_reducible exact fun h => Go.Sv.and_l h | with_reducible exact fun h => Go.Sv.nd_l (Go.Sv.and_l h) | with_reducible exact fun h => Go.Sv.nd_r (Go.Sv.and_l h) | with_reducible exact fun h => Go.Sv.and_l (Go.Sv.and_l h) | with_reducible exact fun h => Go.Sv.nd_l (Go.Sv.and_l (Go.Sv.and_l h)) | (intro h; simp only [Bool.and_eq_true] at h ⊢; simp [h, Go.Sv.pkb]; done) | (intro h; simp_all [Go.Sv.pkb]; done) | (intro h; revert h; simp [Go.Sv.pkb]; done)) :
    QL P n ds ops C QE (⟨some d, op, ty, pos, af, some (j, want)⟩ :: rest) (real σ) := qlg h hj hσ fun hh => YQ.ofY fun _ _ => ev1_ok he (hn hh)
theorem qlcall {f : FuncId} [hf : Fnc P f] {args : List Operand} {ats : Array TypeId}
    (h : QL P n ds ops C QE rest (real (updG σ d ⟨v, true⟩))) (hc : ∀ w, C w → CallsR P f (args.map (evl (real σ))).toArray w fun u w' => u = v ∧ Frm w w') :
    QL P n ds ops C QE (⟨some d, .call ⟨.value (.func f), args.toArray, ats⟩, ty, pos, af, none⟩ :: rest) (real σ) := ql h (YQ.ofCall fun w hw => by simpa using hc w hw)
theorem PureC.q {f : FuncId} {args : Array Value} {w w0 : World} (h : PureC P f args w v) (hw : Frm w0 w) : CallsR P f args w fun u w' => u = v ∧ Frm w0 w' :=
  CallsR.mono h fun _ _ ⟨hu, hf⟩ => ⟨hu, hw.trans hf⟩
end
section
variable {P : Program} {n : Nat} {ds : Ctx} {Q : Exit → Ctx → Env → World → Prop} {σ : Env} {w : World} {a b : Code} {x : Operand} {t : Bool}
theorem wcyes (h : WC P n ds a Q σ w) (hc : evl σ x = .bool t := by rfl) (ht : t = true := by first | with_reducible rfl | decide) : WC P n ds (.cond x a b) Q σ w := WC_yes (by rw [hc, ht]) h
theorem wcno (h : WC P n ds b Q σ w) (hc : evl σ x = .bool t := by rfl) (ht : t = false := by first | with_reducible rfl | decide) : WC P n ds (.cond x a b) Q σ w := WC_no (by rw [hc, ht]) h
theorem wcdraw [hm : Mix P] {id : Nat} {ops : List Oper} (h : QL P n ds ops.toArray (Frm w) (fun σ' => ∀ w', Frm w w' → Q .normal ds σ' w') ops σ) (hB : Region.lexB .any ops.toArray = true := by kernel_rfl) (hro : ds.ro = none := by rfl) : WC P n ds (.region id ops.toArray true) Q σ w :=
  WC_draw hro hB h
end
/-- a list's first n, the next, and the rest -/
def Parts (n : Nat) (ops l1 : List Oper) (x : Oper) (l2 : List Oper) : Prop := ops = l1 ++ x :: l2 ∧ l1.length = n
theorem Parts.zero {x : Oper} {l2 : List Oper} : Parts 0 (x :: l2) [] x l2 := ⟨rfl, rfl⟩
theorem Parts.step {n : Nat} {ops l1 l2 : List Oper} {o x : Oper} (h : Parts n ops l1 x l2) : Parts (n + 1) (o :: ops) (o :: l1) x l2 := ⟨by rw [h.1]; rfl, by rw [List.length_cons, h.2]⟩
section
variable {P : Program} {n : Nat} {ds : Ctx} {Q : Exit → Ctx → Env → World → Prop} {σ : Env} {w : World}
/-- a drawn region: n quiet operations, the rest in order -/
theorem wcdrawt [hm : Mix P] {id : Nat} {ops l1 l2 : List Oper} {x : Oper} (k : Nat)
    (h : QL P n ds ops.toArray (Frm w) (fun σ' => ∀ w', Frm w w' → WL P n ds ops.toArray Q (x :: l2) σ' w') l1 σ)
    (hp : Parts k ops l1 x l2 := by repeat (first | exact Go.Sv.Parts.zero | apply Go.Sv.Parts.step)) (hB : Region.lexTailB .any ops.toArray k = true := by kernel_rfl) (hro : ds.ro = none := by rfl) : WC P n ds (.region id ops.toArray true) Q σ w := by
  obtain ⟨rfl, rfl⟩ := hp
  exact WC_drawT hro hB h
end
theorem enter {P : Program} {n : Nat} {fn : Func} {R : Value → World → Prop} {w : World} {f : FuncId} {c : Code} {l : List Value} (hf : P.funcs[f]? = some fn) (hb : fn.body = some c) (hn : fn.ntmps = n) (hin : codeIn n false c = true) (hl : Nat.ble l.length n = true)
    (h : WC P n ⟨[], none⟩ c (fpost P n fn R) (real (entG l 0)) w) : CallsR P f l.toArray w R := call_intro hf hb hn hin hl (by rw [real_ent]; exact h)
/-- a loop, from a frame of our kind -/
theorem wcloop {P : Program} {n : Nat} {ds : Ctx} {Q : Exit → Ctx → Env → World → Prop} {σ : Env} {w : World} {c : Code} {X : Type} (sl : X → List (Nat × Value)) (I : X → World → Prop) (μ : X → Nat) (x0 : X) (h0 : Has σ (sl x0)) (hI : I x0 w)
    (round : ∀ (x : X) (w : World) (ρ : GE), I x w → WC P n ds c (thl ds (fun σ' w' => ∃ x', Has σ' (sl x') ∧ I x' w' ∧ μ x' < μ x) Q) (real (updGL ρ (sl x))) w) : WC P n ds (.loop c) Q σ w :=
  WC_loop sl I μ x0 h0 hI fun x w ρ hi => by rw [real_updL]; exact round x w _ hi
end Go.Sv

