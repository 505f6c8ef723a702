/-
  Our texts SvGen, SvEvU, SvEvV, SvEcA, SvPost, SvOpen, SvOpnAt, SvOpn18, SvOpn, SvAsc, joined.
-/
import Derived.Test.YthgbpgjpnaanlaaDoorMg6
import Derived.ChangeSame
import Derived.Test.YthgbpgjpnaanlaaDoorRows
import Derived.WalkKit
import Derived.ProofKit
import Derived.OpenShut
import Derived.JoinedCond
import Derived.Deep.Slices
import Derived.WideKeyArgs
import Derived.Lib.LaidTab
import Derived.Deep.DeepHandedRow
import Derived.Deep.DeepWitnessRowRef
/-
  Regions that draw their order, whatever they make: by a plan that says of each operation what it yields, makes and takes.
-/
set_option linter.unusedSimpArgs false
set_option linter.unusedVariables false
set_option linter.unnecessarySimpa false
namespace Go.Sv
open Go Go.RowKit

theorem Sep.perm {w0 w : World} {cs ds : List Plot} (h : Sep w0 w cs) (hp : cs.Perm ds) : Sep w0 w ds :=
  ⟨h.frm, fun c hc => h.ok c (hp.mem_iff.2 hc), fun c hc => h.low c (hp.mem_iff.2 hc), hp.pairwise h.apart fun h x hx hx' => h x hx' hx⟩
theorem filter_insert {α : Type} [DecidableEq α] {k : α} {q : α → Bool} (hq : q k = false) : ∀ {l : List α}, l.Nodup → k ∈ l → (l.filter fun j => decide (j = k) || q j).Perm (k :: l.filter q)
  | [], _, h => by cases h
  | x :: l, hn, hm => by
    rw [List.nodup_cons] at hn
    by_cases e : x = k
    · subst e
      have hrest : l.filter (fun j => decide (j = x) || q j) = l.filter q := by
        refine List.filter_congr fun j hj => ?_
        have : j ≠ x := fun h => hn.1 (h ▸ hj)
        simp [this]
      simp only [List.filter_cons, decide_true, Bool.true_or, if_true, hq, Bool.false_eq_true, if_false, hrest]
      exact List.Perm.refl _
    · have hm' : k ∈ l := by
        rcases List.mem_cons.1 hm with h | h
        · exact absurd h.symm e
        · exact h
      have ih := filter_insert hq hn.2 hm'
      simp only [List.filter_cons, decide_eq_false e, Bool.false_or]
      cases q x with
      | false => simpa using ih
      | true => simpa using (ih.cons x).trans (List.Perm.swap k x _)

structure Plan (D : Type) where
  val : Nat → D → Value
  pl : Nat → D → List Plot
  con : Nat → Option Nat
  fact : Nat → (Nat → D) → Prop
section
variable {D : Type}
def setD (a : Nat → D) (k : Nat) (d : D) : Nat → D := fun j => if j = k then d else a j
theorem setD_same (a : Nat → D) (k : Nat) (d : D) : setD a k d k = d := if_pos rfl
theorem setD_ne (a : Nat → D) {k j : Nat} (d : D) (h : j ≠ k) : setD a k d j = a j := if_neg h
def Plan.live (p : Plan D) (L : Nat → Bool) (j : Nat) : Bool := L j && (match p.con j with | some c => !L c | none => true)
def Plan.mem (p : Plan D) (n : Nat) (L : Nat → Bool) (a : Nat → D) : List Plot := ((List.range n).filter (p.live L)).flatMap fun j => p.pl j (a j)
/-- what operation k takes -/
def Plan.takes (p : Plan D) (n k : Nat) (a : Nat → D) : List Plot := ((List.range n).filter fun j => decide (p.con j = some k)).flatMap fun j => p.pl j (a j)
def Plan.S (p : Plan D) (w0 : World) (cs : List Plot) (σ0 : Env) (ops : List Oper) (L : Nat → Bool) (σ : Env) (w : World) : Prop :=
  (∀ s, (∀ (k : Nat) (o : Oper), ops[k]? = some o → o.dst ≠ some s) → σ s = σ0 s) ∧
  ∃ a : Nat → D, (∀ (k : Nat) (o : Oper), ops[k]? = some o → L k = true → (∀ d, o.dst = some d → σ d = p.val k (a k)) ∧ p.fact k a) ∧ Sep w0 w (p.mem ops.length L a ++ cs)
/-- how operation k goes, by the plan -/
def Plan.Rule (p : Plan D) (P : Program) (w0 : World) (cs : List Plot) (σ0 : Env) (ops : List Oper) (k : Nat) (o : Oper) : Prop :=
  ∀ (a : Nat → D) (σ : Env) (w : World) (rest : List Plot), (∀ s, (∀ (k : Nat) (o : Oper), ops[k]? = some o → o.dst ≠ some s) → σ s = σ0 s) →
    (∀ (j : Nat) (oj : Oper), bindsOn o j = true → ops[j]? = some oj → (∀ d, oj.dst = some d → σ d = p.val j (a j)) ∧ p.fact j a) → Sep w0 w (p.takes ops.length k a ++ (cs ++ rest)) →
    (Region.wanted o (yl ops.toArray σ) = true ∧ comes P (fun v w' => ∃ d, v = p.val k d ∧ p.fact k (setD a k d) ∧ Sep w0 w' (p.pl k d ++ (cs ++ rest))) ((execOp (evl σ) o).run P w)) ∨
    (Region.wanted o (yl ops.toArray σ) = false ∧ ∃ d, undef = p.val k d ∧ p.fact k (setD a k d) ∧ Sep w0 w (p.pl k d ++ (cs ++ rest)))
def Plan.Rules (p : Plan D) (P : Program) (w0 : World) (cs : List Plot) (σ0 : Env) (ops : List Oper) : Nat → List Oper → Prop
  | _, [] => True
  | k, o :: l => p.Rule P w0 cs σ0 ops k o ∧ p.Rules P w0 cs σ0 ops (k + 1) l
/-- the plan's book-keeping: whoever takes waits; targets differ -/
def planB (con : Nat → Option Nat) (ops : List Oper) : Bool :=
  (List.range ops.length).all fun j => (match con j with
    | some c => decide (c < ops.length) && (match ops[c]? with | some oc => bindsOn oc j | none => false)
    | none => true) && (List.range ops.length).all fun i => decide (i = j) || (match ops[i]?, ops[j]? with
      | some oi, some oj => (match oi.dst with | some d => decide (oj.dst ≠ some d) | none => true)
      | _, _ => true)
theorem comes_mono {P : Program} {T T' : Value → World → Prop} (h : ∀ v w, T v w → T' v w) : ∀ {r : Result Next}, comes P T r → comes P T' r := by
  intro r hr
  unfold comes at *
  split at hr
  · exact h _ _ hr
  · exact h _ _ hr
  · exact Calls.mono hr fun e w ⟨v, he, hv⟩ => ⟨v, he, h _ _ hv⟩
  · exact hr.elim
theorem plan_step {p : Plan D} {P : Program} {w0 : World} {cs : List Plot} {σ0 : Env} {ops : List Oper} (hB : planB p.con ops = true)
    (hF : ∀ (j : Nat) (oj : Oper) (a a' : Nat → D), ops[j]? = some oj → a j = a' j → (∀ i, bindsOn oj i = true → a i = a' i) → p.fact j a → p.fact j a') {k : Nat} {o : Oper} (hk : ops[k]? = some o) (h : p.Rule P w0 cs σ0 ops k o) : StepI P ops.toArray (p.S w0 cs σ0 ops) k o := by
  rintro L σ w hu ⟨hσ, a, hA, hS⟩
  have hkn : k < ops.length := by
    rcases Nat.lt_or_ge k ops.length with h | h
    · exact h
    · rw [List.getElem?_eq_none h] at hk; cases hk
  have hcon : ∀ j c, j < ops.length → p.con j = some c → ∃ oc, ops[c]? = some oc ∧ bindsOn oc j = true := by
    intro j c hj hc
    have := List.all_eq_true.1 hB j (List.mem_range.2 hj)
    rw [Bool.and_eq_true, hc] at this
    have h1 := this.1
    simp only [Bool.and_eq_true, decide_eq_true_eq] at h1
    rw [List.getElem?_eq_getElem h1.1] at h1
    exact ⟨_, List.getElem?_eq_getElem h1.1, h1.2⟩
  have hdst : ∀ (i j : Nat) (oi oj : Oper) (d : Nat), ops[i]? = some oi → ops[j]? = some oj → i ≠ j → oi.dst = some d → oj.dst ≠ some d := by
    intro i j oi oj d hi hj hne hd
    have hjn : j < ops.length := (List.getElem?_eq_some_iff.1 hj).1
    have hin : i < ops.length := (List.getElem?_eq_some_iff.1 hi).1
    have := List.all_eq_true.1 hB j (List.mem_range.2 hjn)
    rw [Bool.and_eq_true] at this
    have := List.all_eq_true.1 this.2 i (List.mem_range.2 hin)
    rw [hi, hj] at this
    simp only [hne, decide_false, Bool.false_or, hd, decide_eq_true_eq] at this
    exact this
  -- what k takes, and the rest
  let q : Nat → Bool := fun j => p.live L j && !decide (p.con j = some k)
  let rest : List Plot := ((List.range ops.length).filter q).flatMap fun j => p.pl j (a j)
  have htake : (List.range ops.length).filter (fun j => p.live L j && decide (p.con j = some k)) = (List.range ops.length).filter fun j => decide (p.con j = some k) := by
    refine List.filter_congr fun j hj => ?_
    by_cases hc : p.con j = some k
    · obtain ⟨oc, ho, hb⟩ := hcon j k (List.mem_range.1 hj) hc
      rw [hk] at ho
      injection ho with ho
      subst ho
      have h1 := hu.did j hb
      simp [Plan.live, hc, h1, hu.now]
    · simp [hc]
  have hperm : (p.mem ops.length L a ++ cs).Perm (p.takes ops.length k a ++ (cs ++ rest)) := by
    have h1 : ((List.range ops.length).filter fun j => decide (p.con j = some k)) ++ ((List.range ops.length).filter q) |>.Perm ((List.range ops.length).filter (p.live L)) := by
      have h2 := List.filter_append_perm (fun j => decide (p.con j = some k)) ((List.range ops.length).filter (p.live L))
      rw [List.filter_filter, List.filter_filter] at h2
      rw [← htake]
      refine List.Perm.trans ?_ h2
      refine List.Perm.append (List.Perm.of_eq (List.filter_congr fun j _ => Bool.and_comm _ _)) (List.Perm.of_eq (List.filter_congr fun j _ => Bool.and_comm _ _))
    have h3 := (h1.symm.flatMap_right fun j => p.pl j (a j))
    rw [List.flatMap_append] at h3
    refine (h3.append_right cs).trans ?_
    rw [List.append_assoc]
    exact List.Perm.append_left _ List.perm_append_comm
  have hlive : ∀ d, (p.mem ops.length (on L k) (setD a k d)).Perm (p.pl k d ++ rest) := by
    intro d
    have hq : q k = false := by simp [q, Plan.live, hu.now]
    have hl : (List.range ops.length).filter (p.live (on L k)) = (List.range ops.length).filter fun j => decide (j = k) || q j := by
      refine List.filter_congr fun j hj => ?_
      by_cases e : j = k
      · subst e
        have : (match p.con j with | some c => !(on L j c) | none => true) = true := by
          cases hc : p.con j with
          | none => rfl
          | some c =>
            obtain ⟨oc, ho, hb⟩ := hcon j c hkn hc
            have h1 := hu.ahead c oc (by simpa using ho) hb
            have hne : c ≠ j := by
              intro e
              subst e
              rw [hk] at ho
              injection ho with ho
              subst ho
              have := hu.did c hb
              rw [hu.now] at this
              cases this
            simp [on_ne L hne, h1]
        simp only [Plan.live, on_same, this, Bool.and_self, decide_true, Bool.true_or]
      · simp only [Plan.live, on_ne L e, decide_eq_false e, Bool.false_or, q]
        cases hc : p.con j with
        | none => simp
        | some c =>
          by_cases ec : c = k
          · subst ec; simp [on_same]
          · have : ¬ (some c = some k) := fun h => ec (Option.some.inj h)
            simp [on_ne L ec, this]
    unfold Plan.mem
    rw [hl]
    refine ((filter_insert hq List.nodup_range (List.mem_range.2 hkn)).flatMap_right fun j => p.pl j (setD a k d j)).trans ?_
    rw [List.flatMap_cons, setD_same]
    refine List.Perm.append_left _ (List.Perm.of_eq ?_)
    show _ = List.flatMap (fun j => p.pl j (a j)) (List.filter q (List.range ops.length))
    rw [List.flatMap_def, List.flatMap_def]
    refine congrArg _ (List.map_congr_left fun j hj => ?_)
    have : j ≠ k := by
      rintro rfl
      have := (List.mem_filter.1 hj).2
      rw [hq] at this; cases this
    rw [setD_ne a d this]
  have hnew : ∀ d w', p.fact k (setD a k d) → Sep w0 w' (p.pl k d ++ (cs ++ rest)) → p.S w0 cs σ0 ops (on L k) (updO σ o.dst (p.val k d)) w' := by
    intro d w' hf hS'
    refine ⟨fun s hs => ?_, setD a k d, fun j oj hj hL => ?_, ?_⟩
    · have h1 := hs k o hk
      cases hd : o.dst with
      | none => exact hσ s hs
      | some dd =>
        rw [hd] at h1
        exact (upd_ne σ _ (fun e => h1 (by rw [e]))).trans (hσ s hs)
    · by_cases e : j = k
      · subst e
        rw [hk] at hj
        injection hj with hj
        subst hj
        refine ⟨fun dd hd => ?_, hf⟩
        rw [hd, setD_same]
        exact upd_same σ dd _
      · rw [on_ne L e] at hL
        obtain ⟨h1, h2⟩ := hA j oj hj hL
        refine ⟨fun dd hd => ?_, ?_⟩
        · rw [setD_ne a d e, ← h1 dd hd]
          cases hdo : o.dst with
          | none => rfl
          | some d2 =>
            have := hdst k j o oj d2 hk hj (fun e2 => e e2.symm) hdo
            exact upd_ne σ _ (fun e2 => this (by rw [hd, e2]))
        · refine hF j oj a _ hj (setD_ne a d e).symm (fun i hi => ?_) h2
          have : i ≠ k := by
            rintro rfl
            have := hu.ahead j oj (by simpa using hj) hi
            rw [this] at hL; cases hL
          exact (setD_ne a d this).symm
    · refine hS'.perm ?_
      have h1 : (p.pl k d ++ (cs ++ rest)).Perm ((p.pl k d ++ rest) ++ cs) := by
        rw [List.append_assoc]
        exact List.Perm.append_left _ List.perm_append_comm
      exact h1.trans ((hlive d).symm.append_right cs)
  rcases h a σ w rest hσ (fun j oj hb hj => hA j oj hj (hu.did j hb)) (hS.perm hperm) with ⟨h1, h2⟩ | ⟨h1, d, h2, h3, h4⟩
  · refine .inl ⟨h1, comes_mono (fun v w' => ?_) h2⟩
    rintro ⟨d, rfl, hf, hS'⟩
    exact hnew d w' hf hS'
  · refine .inr ⟨h1, ?_⟩
    rw [h2]
    exact hnew d w h3 h4
theorem plan_steps {p : Plan D} {P : Program} {w0 : World} {cs : List Plot} {σ0 : Env} {ops : List Oper} (hB : planB p.con ops = true)
    (hF : ∀ (j : Nat) (oj : Oper) (a a' : Nat → D), ops[j]? = some oj → a j = a' j → (∀ i, bindsOn oj i = true → a i = a' i) → p.fact j a → p.fact j a') : ∀ (l : List Oper) (k : Nat), (∀ j o, l[j]? = some o → ops[k + j]? = some o) → p.Rules P w0 cs σ0 ops k l → StepsI P ops.toArray (p.S w0 cs σ0 ops) k l
  | [], _, _, _ => trivial
  | o :: l, k, hl, hr => ⟨plan_step hB hF (by simpa using hl 0 o rfl) hr.1, plan_steps hB hF l (k + 1) (fun j o' h => by rw [show k + 1 + j = k + (j + 1) from by omega]; exact hl (j + 1) o' (by simpa using h)) hr.2⟩
/-- a region that draws, by a plan -/
theorem wcplan {P : Program} [hm : Mix P] {n : Nat} {ds : Ctx} {Q : Exit → Ctx → Env → World → Prop} {σ : Env} {w w0 : World} {id : Nat} {ops : List Oper} {cs : List Plot} (p : Plan D) (d0 : D) (hS : Sep w0 w cs)
    (hF : ∀ (j : Nat) (oj : Oper) (a a' : Nat → D), ops[j]? = some oj → a j = a' j → (∀ i, bindsOn oj i = true → a i = a' i) → p.fact j a → p.fact j a')
    (hR : p.Rules P w0 cs σ ops 0 ops)
    (hend : ∀ (a : Nat → D) σ' w', (∀ s, (∀ (k : Nat) (o : Oper), ops[k]? = some o → o.dst ≠ some s) → σ' s = σ s) → (∀ (k : Nat) (o : Oper), ops[k]? = some o → (∀ d, o.dst = some d → σ' d = p.val k (a k)) ∧ p.fact k a) →
      Sep w0 w' (((List.range ops.length).filter fun j => (p.con j).isNone).flatMap (fun j => p.pl j (a j)) ++ cs) → Q .normal ds σ' w')
    (hB : planB p.con ops = true := by kernel_rfl) (hf : fwdB ops.toArray = true := by kernel_rfl) (hro : ds.ro = none := by rfl) : WC P n ds (.region id ops.toArray true) Q σ w := by
  refine wcdrawi (p.S w0 cs σ ops) (fun wd hwd => ⟨fun _ _ => rfl, fun _ => d0, fun _ _ _ h => absurd h Bool.false_ne_true, ?_⟩) (plan_steps hB hF ops 0 (fun j o h => by rwa [Nat.zero_add]) hR) ?_ hf hro
  · have e : p.mem ops.length (fun _ => false) (fun _ => d0) = [] := by
      unfold Plan.mem
      rw [List.filter_eq_nil_iff.2 (by intro j _; simp [Plan.live])]
      rfl
    rw [e]
    exact hS.grow hwd
  · rintro L σ' w' hL ⟨hσ, a, hA, hS'⟩
    refine hend a σ' w' hσ (fun k o hk => hA k o hk (hL k (List.getElem?_eq_some_iff.1 hk).1)) ?_
    refine hS'.perm (List.Perm.append_right _ (List.Perm.of_eq ?_))
    unfold Plan.mem
    congr 1
    refine List.filter_congr fun j hj => ?_
    have h1 := hL j (List.mem_range.1 hj)
    simp only [Plan.live, h1, Bool.true_and]
    cases hc : p.con j with
    | none => rfl
    | some c =>
      have := List.all_eq_true.1 hB j hj
      rw [Bool.and_eq_true, hc] at this
      have h2 := this.1
      simp only [Bool.and_eq_true, decide_eq_true_eq] at h2
      simp [hL c h2.1]
end
end Go.Sv
namespace Go.Sv
open Go Go.RowKit
theorem frameOf {σ : Env} (sl : List (Nat × Value)) (h : Has σ sl) : σ = real (updGL (lif σ) sl) := by rw [← real_updL, updL_has h]
theorem notDst {ops : List Oper} {s : Nat} (h : (ops.all fun o => decide (o.dst ≠ some s)) = true) : ∀ (k : Nat) (o : Oper), ops[k]? = some o → o.dst ≠ some s := fun k o hk =>
  of_decide_eq_true (List.all_eq_true.1 h o (List.mem_of_getElem? hk))
section
variable {D : Type} {P : Program} {w0 w w' : World} {cs rest : List Plot} {σ : Env} {d : Option Tmp} {op : Op} {ty : TypeId} {pos : String} {af : Array Edge} {v : Value} {k : Nat} {ops : Array Oper} {T : Value → World → Prop}
/-- an operation of a plan, that has no guard -/
theorem rule_y {B : Prop} {o : Oper} (hy : Y P σ o w v w') (hT : T v w') (hg : o.guard = none := by rfl) :
    (Region.wanted o (yl ops σ) = true ∧ comes P T ((execOp (evl σ) o).run P w)) ∨ B := .inl ⟨by simp [Region.wanted, hg], comes_of_Y hy hT⟩
theorem rule_call {B : Prop} {f : FuncId} [hf : Fnc P f] {args : List Operand} {ats : Array TypeId} {vals : List Value} {R : Value → World → Prop} (hc : CallsR P f vals.toArray w R) (hT : ∀ v w', R v w' → T v w') (ha : args.map (evl σ) = vals) :
    (Region.wanted (⟨d, .call ⟨.value (.func f), args.toArray, ats⟩, ty, pos, af, none⟩ : Oper) (yl ops σ) = true ∧ comes P T ((execOp (evl σ) ⟨d, .call ⟨.value (.func f), args.toArray, ats⟩, ty, pos, af, none⟩).run P w)) ∨ B := by
  refine .inl ⟨by simp [Region.wanted], ?_⟩
  rw [run_call_func]
  have : (args.toArray.map (evl σ)) = vals.toArray := by rw [← ha]; simp
  rw [this]
  exact Calls.mono hc fun e w'' ⟨v, he, hv⟩ => ⟨v, he, hT v w'' hv⟩
variable {t t' e e' : TypeId} {x y : Operand} {zv u : Value} {size bytes i m n c c' : Nat} {p q : Option Addr} {xs news vs : List Value}
/-- a slice written out, of one struct: its piece -/
theorem y_bs1 [hu : Und P t (.slice e)] [hi : Inf P e zv size bytes] (hS : Sep w0 w cs) (hx : evl σ x = .agg ⟨vs⟩) (hv : vs.length = size) (hz : zv.cells.size = size) (hsz : 0 < size) (hm : size ≤ 16777216) :
    ∃ b w', Y P σ ⟨d, .buildSlice t 1 #[(0, x)], ty, pos, af, none⟩ w (.slice (pb b) 1 1) w' ∧ Sep w0 w' (pOwn b vs :: cs) := by
  refine ⟨w.heap.size, w.alloc (.cells ⟨vs⟩ e), Y.val ?_, hS.push (frm_alloc _ _) (own_alloc _ _ _) (by simp [pOwn])⟩
  simp only [execOp, List.map_toArray, List.map_cons, List.map_nil, hx, Sem.run_bind]
  rw [run_buildSlice1 (P := P) (t := t) (e := e) hz (by simpa [Value.cells] using hv) hsz hm]
  rfl
/-- append to the i-th piece -/
theorem y_app [hu : Und P t (.slice e)] [hu' : Und P t' (.slice e')] [hi : Inf P e zv size bytes] (hS : Sep w0 w cs) (i : Nat) (hs : Sg w q news) (hc : cs[i]? = some (pRow size p m c xs)) (hx : evl σ x = .slice p m c) (hy : evl σ y = .slice q n c') (hl : news.length = n * size)
    (h1 : ∀ u ∈ news, u.oneCell' = true) (hz : zv.cells.size = size) (hsz : 0 < size) (hb : (m + n) * bytes ≤ 140737488355328 ∧ m + n ≤ 9223372036854775807) :
    ∃ p' c2 w', Y P σ ⟨d, .call ⟨.builtin .append, #[x, y], #[t, t']⟩, ty, pos, af, none⟩ w (.slice p' (m + n) c2) w' ∧ Sep w0 w' (cs.set i (pRow size p' (m + n) c2 (xs ++ news))) := by
  obtain ⟨p', c2, w', h2, h3, h4⟩ := run_append_row (P := P) (t := t) (tx := t') (ty := ty) (e := e) hz hsz (hS.row i hc) (src_of_sg (tx := t') (c := c') hs hl h1) hb.2 hb.1
  exact ⟨p', c2, w', run_append_op hx hy h2, hS.upd i hc h4 h3⟩
end
end Go.Sv

/-
  Package event: Equal, Count, Text.
-/
set_option linter.unusedSimpArgs false
set_option linter.unusedVariables false
set_option linter.unnecessarySimpa false
namespace Go.Sv
open Go Go.RowKit
section
variable {P : Program} {w : World}
theorem run_partI {t : TypeId} {k : IntKind} (hu : P.underlying t = some (.int k)) {cs : Array Value} {off : Nat} {v : Value} (hv : cs[off]? = some v) : (part t cs off).run P w = .ok v w := by
  have hi : (isAgg t).run P w = .ok false w := by
    simp only [isAgg, underlying, Sem.run_bind, run_program, Result.andThen_ok, hu, Sem.run_pure]
  simp [part, hi, hv]
theorem run_eqA4 {t el : TypeId} {k : IntKind} {a b c e a' b' c' e' : Int} (hu : P.underlying t = some (.array 4 el)) (he : P.underlying el = some (.int k)) (hs : (sizeOf el).run P w = .ok 1 w) (d : Nat) :
    (Op.equalIn (d + 2) t (.agg #[.int k a, .int k b, .int k c, .int k e]) (.agg #[.int k a', .int k b', .int k c', .int k e'])).run P w = .ok (decide (a = a' ∧ b = b' ∧ c = c' ∧ e = e')) w := by
  have h1 : ∀ x y : Int, (x == y) = decide (x = y) := fun x y => by by_cases e : x = y <;> simp [e]
  have hq : ∀ x y : Int, (Op.equalIn (d + 1) el (.int k x) (.int k y)).run P w = .ok (decide (x = y)) w := fun x y => by rw [run_equalIn_int w _ _ _ _ _ _ he, h1]
  unfold Op.equalIn
  simp only [Sem.run_bind, run_underlying hu, Result.andThen_ok, hs]
  rw [Std.Legacy.Range.forIn_eq_forIn_range']
  simp only [Std.Legacy.Range.size, Nat.sub_zero, Nat.reduceAdd, Nat.reduceSub, Nat.div_one, List.range'_succ, List.range'_zero, List.forIn_cons, List.forIn_nil, Sem.run_bind, Nat.mul_one]
  have p0 : ∀ a b c e : Int, (part el #[Value.int k a, .int k b, .int k c, .int k e] 0).run P w = .ok (.int k a) w := fun _ _ _ _ => run_partI he rfl
  have p1 : ∀ a b c e : Int, (part el #[Value.int k a, .int k b, .int k c, .int k e] 1).run P w = .ok (.int k b) w := fun _ _ _ _ => run_partI he rfl
  have p2 : ∀ a b c e : Int, (part el #[Value.int k a, .int k b, .int k c, .int k e] 2).run P w = .ok (.int k c) w := fun _ _ _ _ => run_partI he rfl
  have p3 : ∀ a b c e : Int, (part el #[Value.int k a, .int k b, .int k c, .int k e] 3).run P w = .ok (.int k e) w := fun _ _ _ _ => run_partI he rfl
  by_cases e1 : a = a' <;> by_cases e2 : b = b' <;> by_cases e3 : c = c' <;> by_cases e4 : e = e' <;> simp [p0, p1, p2, p3, hq, e1, e2, e3, e4]
variable {σ : Env} {d : Option Tmp} {ty t t' el : TypeId} {pos : String} {af : Array Edge} {g : Option (Nat × Bool)} {x y : Operand} {zv : Value} {bytes : Nat}
/-- two arrays of four numbers -/
theorem y_eqA4 {k : IntKind} {a b c e a' b' c' e' : Int} [hu : Und P t (.array 4 el)] [he : Und P el (.int k)] [hi : Inf P el zv 1 bytes] (hg : P.eqGuardType P.depth t = false)
    (hx : evl σ x = .agg #[.int k a, .int k b, .int k c, .int k e]) (hy : evl σ y = .agg #[.int k a', .int k b', .int k c', .int k e']) :
    Y P σ ⟨d, .binOp .eql t x y t', ty, pos, af, g⟩ w (.bool (decide (a = a' ∧ b = b' ∧ c = c' ∧ e = e'))) w := by
  refine Y.val ?_
  simp only [execOp, hx, hy, Sem.run_bind, run_eqGuard_agg w .eql t x y _ _ hg, Result.andThen_ok, run_eql_struct]
  rw [show (10000 : Nat) = 9998 + 2 from rfl, run_eqA4 hu.ok he.ok (run_sizeOf (P := P) (t := el) w)]
  rfl
end
end Go.Sv
namespace Go.Proofs.YthgbpgjpnaanlaaDoor
open Go Go.Sv Go.RowKit

set_option maxHeartbeats 1000000 in
/-- two lists of attributes -/
theorem atEqual_ok (es fs : List At) (p q : Option Addr) (c cc : Nat) (h1 : es.length ≤ 1048577) (h2 : fs.length ≤ 1048577) (w : World) (hi : Im [] w p (es.flatMap At.cells)) (hj : Im [] w q (fs.flatMap At.cells)) :
    PureC Tryd.prog 63 #[.slice p es.length c, .slice q fs.length cc] w (.bool (decide (es = fs))) := by
  have hl1 := fm_len At.len es
  have hl2 := fm_len At.len fs
  refine enter (l := [.slice p es.length c, .slice q fs.length cc]) Tryd.func63 rfl Tryd.ntmps63 (by kernel_rfl) rfl ?_
  have hS := Sep.start w
  refine sgo ?_
  (show WC _ _ _ _ _ _ _; first | refine WC_dec rfl (fun hc => ?_) (fun hc => ?_) | refine WC_cond rfl (fun hc => ?_) (fun hc => ?_))
  · have hne : es ≠ fs := by
      intro h
      subst h
      simp at hc
    refine sgo ?_
    (first | refine fp1 (.inl rfl) rfl rfl ?_ | refine fp2 (.inl rfl) rfl rfl rfl ?_ | refine fp3 (.inl rfl) rfl rfl rfl rfl ?_ | refine fp0 (.inr rfl) rfl ?_ | refine fp0 (.inl rfl) rfl ?_ | refine fp1 (.inr rfl) rfl rfl ?_); refine ⟨?_, by (first | exact Frm.refl _ | assumption | exact Go.Sv.Sep.frm (by assumption) | (refine Frm.trans ?_ (by assumption); first | exact Frm.refl _ | assumption))⟩; (try simp only [realB, rv_true, Nat.reduceBEq, cond_true, cond_false, entG, real_lif, updGL])
    rw [decide_eq_false hne]
  · have hle : es.length = fs.length := by
      have : ¬ ((es.length : Int) ≠ fs.length) := hc
      omega
    clear hc
    refine sgo ?_
    refine wcloop (X := Nat) (fun i => [(0, .slice p es.length c), (1, .slice q fs.length cc), (12, int es.length), (13, int i)])
      (fun i wr => i ≤ es.length ∧ es.take i = fs.take i ∧ Frm w wr) (fun i => es.length - i) 0 ⟨rfl, rfl, rfl, rfl, trivial⟩ ⟨Nat.zero_le _, rfl, Frm.refl _⟩ ?_
    rintro i wr ρ ⟨hil, hpre, hfr⟩
    refine sgo ?_
    (show WC _ _ _ _ _ _ _; first | refine WC_dec rfl (fun hc => ?_) (fun hc => ?_) | refine WC_cond rfl (fun hc => ?_) (fun hc => ?_))
    · have hlt : i < es.length := by omega
      have hx : es[i]? = some es[i] := List.getElem?_eq_getElem hlt
      have hy : fs[i]? = some fs[i] := List.getElem?_eq_getElem (by omega)
      have hsx := att_at hx
      have hsy := att_at hy
      have hir := hi.frm hfr
      have hjr := hj.frm hfr
      have hpa : ∃ a, p = some a := hi.some (by omega)
      have hpb : ∃ a, q = some a := hj.some (by omega)
      have htx : es.take (i + 1) = es.take i ++ [es[i]] := by rw [List.take_add_one, hx]; rfl
      have hty : fs.take (i + 1) = fs.take i ++ [fs[i]] := by rw [List.take_add_one, hy]; rfl
      generalize es[i] = x at *
      generalize fs[i] = y at *
      clear hc
      refine sgo ?_
      refine wcdraw ?_
      refine qgo ?_
      rw [hsx, hsy]
      refine ql (v := .bool (!(decide (x.n = y.n) && (decide (x.v = y.v) && true)))) ?_ (YQ.ofY fun w _ => y_aneq rfl rfl rfl)
      refine QL_nil ?_
      intro w3 hf3
      have hfr3 := hfr.trans hf3
      obtain ⟨xn, xv⟩ := x
      obtain ⟨yn, yv⟩ := y
      refine sgo ?_
      (show WC _ _ _ _ _ _ _; first | refine WC_dec rfl (fun hc => ?_) (fun hc => ?_) | refine WC_cond rfl (fun hc => ?_) (fun hc => ?_))
      · have hne : es ≠ fs := by
          intro h
          subst h
          rw [hx] at hy
          injection hy with hy
          injection hy with e1 e2
          subst e1 e2
          simp at hc
        refine sgo ?_
        (first | refine fp1 (.inl rfl) rfl rfl ?_ | refine fp2 (.inl rfl) rfl rfl rfl ?_ | refine fp3 (.inl rfl) rfl rfl rfl rfl ?_ | refine fp0 (.inr rfl) rfl ?_ | refine fp0 (.inl rfl) rfl ?_ | refine fp1 (.inr rfl) rfl rfl ?_); refine ⟨?_, by (first | exact Frm.refl _ | assumption | exact Go.Sv.Sep.frm (by assumption) | (refine Frm.trans ?_ (by assumption); first | exact Frm.refl _ | assumption))⟩; (try simp only [realB, rv_true, Nat.reduceBEq, cond_true, cond_false, entG, real_lif, updGL])
        rw [decide_eq_false hne]
      · refine sgo ?_
        refine ⟨i + 1, ⟨rfl, rfl, rfl, rfl, trivial⟩, ⟨hlt, ?_, hfr3⟩, (by (try dsimp only); omega)⟩
        rw [htx, hty, hpre]
        simp at hc
        rw [hc.1, hc.2]
    · obtain rfl : i = es.length := by omega
      rw [List.take_length, hle, List.take_length] at hpre
      refine sgo ?_
      (first | refine fp1 (.inl rfl) rfl rfl ?_ | refine fp2 (.inl rfl) rfl rfl rfl ?_ | refine fp3 (.inl rfl) rfl rfl rfl rfl ?_ | refine fp0 (.inr rfl) rfl ?_ | refine fp0 (.inl rfl) rfl ?_ | refine fp1 (.inr rfl) rfl rfl ?_); refine ⟨?_, by (first | exact Frm.refl _ | assumption | exact Go.Sv.Sep.frm (by assumption) | (refine Frm.trans ?_ (by assumption); first | exact Frm.refl _ | assumption))⟩; (try simp only [realB, rv_true, Nat.reduceBEq, cond_true, cond_false, entG, real_lif, updGL])
      rw [hpre, decide_eq_true rfl]
set_option maxHeartbeats 1000000 in
theorem evEqual1_ok (a b : EvM) (ha : a.e.small) (hb : b.e.small) (w : World) (hi : Im [] w a.p (a.e.attrs.flatMap At.cells)) (hj : Im [] w b.p (b.e.attrs.flatMap At.cells)) :
    PureC Tryd.prog 62 #[.agg ⟨a.cells⟩, .agg ⟨b.cells⟩] w (.bool (decide (a.e = b.e))) := by
  obtain ⟨⟨ka, na, ta, es⟩, pa, ca⟩ := a
  obtain ⟨⟨kb, nb, tb, fs⟩, pb', cb⟩ := b
  have h1 := ha.attrs
  have h2 := hb.attrs
  dsimp only at hi hj h1 h2
  refine enter (l := [.agg ⟨EvM.cells ⟨⟨ka, na, ta, es⟩, pa, ca⟩⟩, .agg ⟨EvM.cells ⟨⟨kb, nb, tb, fs⟩, pb', cb⟩⟩]) Tryd.func62 rfl Tryd.ntmps62 (by kernel_rfl) rfl ?_
  have hS := Sep.start w
  refine WC_seq ?_
  refine WC_region ?_
  refine sbox (v := .agg ⟨EvM.cells ⟨⟨ka, na, ta, es⟩, pa, ca⟩⟩) hS fun b2 w1 hS => ?_
  replace hS : Sep w w1 [pOwn b2 [int ka, str na, str ta, .slice pa es.length ca]] := hS
  refine sbox (v := .agg ⟨EvM.cells ⟨⟨kb, nb, tb, fs⟩, pb', cb⟩⟩) hS fun b3 w2 hS => ?_
  replace hS : Sep w w2 [pOwn b3 [int kb, str nb, str tb, .slice pb' fs.length cb], pOwn b2 [int ka, str na, str ta, .slice pa es.length ca]] := hS
  refine sgo ?_
  refine wlcallgp (vals := [.slice pa es.length ca, .slice pb' fs.length cb]) (fun _ => atEqual_ok es fs pa pb' ca cb (by omega) (by omega) _ (hi.sep hS) (hj.sep hS)) fun w3 hf3 => ?_
  replace hS := hS.grow hf3
  refine sgo ?_
  (first | refine fp1 (.inl rfl) rfl rfl ?_ | refine fp2 (.inl rfl) rfl rfl rfl ?_ | refine fp3 (.inl rfl) rfl rfl rfl rfl ?_ | refine fp0 (.inr rfl) rfl ?_ | refine fp0 (.inl rfl) rfl ?_ | refine fp1 (.inr rfl) rfl rfl ?_); refine ⟨?_, by (first | exact Frm.refl _ | assumption | exact Go.Sv.Sep.frm (by assumption) | (refine Frm.trans ?_ (by assumption); first | exact Frm.refl _ | assumption))⟩; (try simp only [realB, rv_true, Nat.reduceBEq, cond_true, cond_false, entG, real_lif, updGL])
  have e : (⟨ka, na, ta, es⟩ : Ev) = ⟨kb, nb, tb, fs⟩ ↔ ((ka = kb ∧ na = nb) ∧ ta = tb) ∧ es = fs := by
    constructor
    · intro h; injection h with e1 e2 e3 e4; exact ⟨⟨⟨e1, e2⟩, e3⟩, e4⟩
    · rintro ⟨⟨⟨rfl, rfl⟩, rfl⟩, rfl⟩; rfl
  simp only [pkb_and, decide_eq_decide.2 e, Bool.decide_and]
set_option maxHeartbeats 1000000 in
theorem evEqualF_ok (ms ns : List EvM) (p q : Option Addr) (c cc : Nat) (h1 : ms.length ≤ 1048577) (h2 : ns.length ≤ 1048577) (hs : ∀ m ∈ ms, m.e.small) (hs2 : ∀ m ∈ ns, m.e.small) (w : World) (hE : Evs w p ms) (hF : Evs w q ns) :
    PureC Tryd.prog 61 #[.slice p ms.length c, .slice q ns.length cc, .func (.func 62) #[] #[]] w (.bool (decide (evs ms = evs ns))) := by
  refine enter (l := [.slice p ms.length c, .slice q ns.length cc, .func (.func 62) #[] #[]]) Tryd.func61 rfl Tryd.ntmps61 (by kernel_rfl) rfl ?_
  have hS := Sep.start w
  refine sgo ?_
  (show WC _ _ _ _ _ _ _; first | refine WC_dec rfl (fun hc => ?_) (fun hc => ?_) | refine WC_cond rfl (fun hc => ?_) (fun hc => ?_))
  · have hne : evs ms ≠ evs ns := by
      intro h
      have := congrArg List.length h
      rw [evs_len, evs_len] at this
      have hc' : ¬ ((ms.length : Int) = ns.length) := hc
      omega
    refine sgo ?_
    (first | refine fp1 (.inl rfl) rfl rfl ?_ | refine fp2 (.inl rfl) rfl rfl rfl ?_ | refine fp3 (.inl rfl) rfl rfl rfl rfl ?_ | refine fp0 (.inr rfl) rfl ?_ | refine fp0 (.inl rfl) rfl ?_ | refine fp1 (.inr rfl) rfl rfl ?_); refine ⟨?_, by (first | exact Frm.refl _ | assumption | exact Go.Sv.Sep.frm (by assumption) | (refine Frm.trans ?_ (by assumption); first | exact Frm.refl _ | assumption))⟩; (try simp only [realB, rv_true, Nat.reduceBEq, cond_true, cond_false, entG, real_lif, updGL])
    rw [decide_eq_false hne]
  have hle : ms.length = ns.length := by
    have : ¬ ((ms.length : Int) ≠ ns.length) := hc
    omega
  clear hc
  refine sgo ?_
  refine wcloop (X := Nat) (fun i => [(1, .slice q ns.length cc), (2, .func (.func 62) #[] #[]), (15, .slice p ms.length c), (16, int ms.length), (17, int i)])
    (fun i wr => i ≤ ms.length ∧ (evs ms).take i = (evs ns).take i ∧ Sep w wr []) (fun i => ms.length - i) 0 ⟨rfl, rfl, rfl, rfl, rfl, trivial⟩ ⟨Nat.zero_le _, rfl, hS⟩ ?_
  clear hS
  rintro i wr ρ ⟨hil, hpre, hS⟩
  have hEr := hE.frm hS.frm
  have hFr := hF.frm hS.frm
  refine sgo ?_
  (show WC _ _ _ _ _ _ _; first | refine WC_dec rfl (fun hc => ?_) (fun hc => ?_) | refine WC_cond rfl (fun hc => ?_) (fun hc => ?_))
  · have hlt : i < ms.length := by omega
    have hSg := hE.im.sg
    have hSh := hF.im.sg
    have hIm := hE.im
    have hIn := hF.im
    have hx : ms[i]? = some ms[i] := List.getElem?_eq_getElem hlt
    have hy : ns[i]? = some ns[i] := List.getElem?_eq_getElem (by omega)
    have hseg := fm_seg EvM.len ms hx
    have hseh := fm_seg EvM.len ns hy
    have hat := hE.each _ (List.getElem_mem hlt)
    have hau := hF.each _ (List.getElem_mem (show i < ns.length by omega))
    have hsm := hs _ (List.getElem_mem hlt)
    have hsn := hs2 _ (List.getElem_mem (show i < ns.length by omega))
    have hps : ∃ q, p = some q := hSg.some (by have := fm_len EvM.len ms; omega)
    have hqs : ∃ a, q = some a := hSh.some (by have := fm_len EvM.len ns; omega)
    have hfl := fm_len EvM.len ms
    have hfl2 := fm_len EvM.len ns
    have htx : (evs ms).take (i + 1) = (evs ms).take i ++ [ms[i].e] := by rw [List.take_add_one, evs_at hx]; rfl
    have hty : (evs ns).take (i + 1) = (evs ns).take i ++ [ns[i].e] := by rw [List.take_add_one, evs_at hy]; rfl
    generalize ms[i] = m at *
    generalize ns[i] = n at *
    clear hc
    obtain ⟨⟨ka, na, ta, es⟩, ap, ac⟩ := m
    obtain ⟨⟨kb, nb, tb, fs⟩, bp, bc⟩ := n
    refine sgo ?_
    rw [hseg]
    refine salloc hS fun b8 w1 hS => ?_
    refine sgo ?_
    refine ssta (vs := [int ka, str na, str ta, .slice ap es.length ac]) hS 0 fun w2 hS => ?_
    replace hS : Sep w w2 [pOwn b8 [int ka, str na, str ta, .slice ap es.length ac]] := hS
    refine sgo ?_
    rw [hseh]
    refine salloc hS fun b9 w3 hS => ?_
    refine sgo ?_
    refine ssta (vs := [int kb, str nb, str tb, .slice bp fs.length bc]) hS 0 fun w4 hS => ?_
    replace hS : Sep w w4 [pOwn b9 [int kb, str nb, str tb, .slice bp fs.length bc], pOwn b8 [int ka, str na, str ta, .slice ap es.length ac]] := hS
    refine sgo ?_
    refine wlcallv (f := 62) (first := []) (args := [.agg ⟨EvM.cells ⟨⟨ka, na, ta, es⟩, ap, ac⟩⟩, .agg ⟨EvM.cells ⟨⟨kb, nb, tb, fs⟩, bp, bc⟩⟩]) (cap := []) (evEqual1_ok ⟨⟨ka, na, ta, es⟩, ap, ac⟩ ⟨⟨kb, nb, tb, fs⟩, bp, bc⟩ hsm hsn w4 (hat.sep hS) (hau.sep hS)) ?_
    rintro _ w5 ⟨rfl, hf5⟩
    replace hS := hS.grow hf5
    refine sgo ?_
    (show WC _ _ _ _ _ _ _; first | refine WC_dec rfl (fun hc => ?_) (fun hc => ?_) | refine WC_cond rfl (fun hc => ?_) (fun hc => ?_))
    · have hne : evs ms ≠ evs ns := by
        intro h
        rw [h] at htx
        rw [htx] at hty
        have := List.append_cancel_left hty
        simp at this
        simp [this] at hc
      refine sgo ?_
      (first | refine fp1 (.inl rfl) rfl rfl ?_ | refine fp2 (.inl rfl) rfl rfl rfl ?_ | refine fp3 (.inl rfl) rfl rfl rfl rfl ?_ | refine fp0 (.inr rfl) rfl ?_ | refine fp0 (.inl rfl) rfl ?_ | refine fp1 (.inr rfl) rfl rfl ?_); refine ⟨?_, by (first | exact Frm.refl _ | assumption | exact Go.Sv.Sep.frm (by assumption) | (refine Frm.trans ?_ (by assumption); first | exact Frm.refl _ | assumption))⟩; (try simp only [realB, rv_true, Nat.reduceBEq, cond_true, cond_false, entG, real_lif, updGL])
      rw [decide_eq_false hne]
    · refine sgo ?_
      refine ⟨i + 1, ⟨rfl, rfl, rfl, rfl, rfl, trivial⟩, ⟨hlt, ?_, hS.tail.tail⟩, (by (try dsimp only); omega)⟩
      rw [htx, hty, hpre]
      simp at hc
      rw [hc.1, hc.2.1, hc.2.2.1, hc.2.2.2]
  · obtain rfl : i = ms.length := by omega
    refine sgo ?_
    (first | refine fp1 (.inl rfl) rfl rfl ?_ | refine fp2 (.inl rfl) rfl rfl rfl ?_ | refine fp3 (.inl rfl) rfl rfl rfl rfl ?_ | refine fp0 (.inr rfl) rfl ?_ | refine fp0 (.inl rfl) rfl ?_ | refine fp1 (.inr rfl) rfl rfl ?_); refine ⟨?_, by (first | exact Frm.refl _ | assumption | exact Go.Sv.Sep.frm (by assumption) | (refine Frm.trans ?_ (by assumption); first | exact Frm.refl _ | assumption))⟩; (try simp only [realB, rv_true, Nat.reduceBEq, cond_true, cond_false, entG, real_lif, updGL])
    rw [← evs_len ms, List.take_length, evs_len, hle, ← evs_len ns, List.take_length] at hpre
    rw [hpre, decide_eq_true rfl]
theorem eqEv_ok (ms ns : List EvM) (p q : Option Addr) (c cc : Nat) (h1 : ms.length ≤ 1048577) (h2 : ns.length ≤ 1048577) (hs : ∀ m ∈ ms, m.e.small) (hs2 : ∀ m ∈ ns, m.e.small) (w : World) (hE : Evs w p ms) (hF : Evs w q ns) :
    PureC Tryd.prog 35 #[.slice p ms.length c, .slice q ns.length cc] w (.bool (decide (evs ms = evs ns))) := by
  refine enter (l := [.slice p ms.length c, .slice q ns.length cc]) Tryd.func35 rfl Tryd.ntmps35 (by kernel_rfl) rfl ?_
  refine sgo ?_
  refine wlpure (evEqualF_ok ms ns p q c cc h1 h2 hs hs2 w hE hF) fun w1 hf1 => ?_
  refine sgo ?_
  (first | refine fp1 (.inl rfl) rfl rfl ?_ | refine fp2 (.inl rfl) rfl rfl rfl ?_ | refine fp3 (.inl rfl) rfl rfl rfl rfl ?_ | refine fp0 (.inr rfl) rfl ?_ | refine fp0 (.inl rfl) rfl ?_ | refine fp1 (.inr rfl) rfl rfl ?_); refine ⟨?_, by (first | exact Frm.refl _ | assumption | exact Go.Sv.Sep.frm (by assumption) | (refine Frm.trans ?_ (by assumption); first | exact Frm.refl _ | assumption))⟩; (try simp only [realB, rv_true, Nat.reduceBEq, cond_true, cond_false, entG, real_lif, updGL])
end Go.Proofs.YthgbpgjpnaanlaaDoor

/-
  Package event: Count, Text.
-/
set_option linter.unusedSimpArgs false
set_option linter.unusedVariables false
set_option linter.unnecessarySimpa false
namespace Go.Proofs.YthgbpgjpnaanlaaDoor
open Go Go.Sv Go.RowKit

def cntR (l : List Ev) (k : Int) : Nat := l.countP fun e => decide (e.kind = k)
theorem cnt_le (l : List Ev) (k : Int) : cntR l k ≤ l.length := List.countP_le_length
theorem cnt_snoc {l : List Ev} {i : Nat} {e : Ev} (h : l[i]? = some e) (k : Int) : cntR (l.take (i + 1)) k = cntR (l.take i) k + if e.kind = k then 1 else 0 := by
  unfold cntR
  rw [List.take_add_one, h, List.countP_append]
  by_cases hk : e.kind = k <;> simp [hk]
/-- how many of each kind -/
def cnts (l : List Ev) : List Value := [int (cntR l 0), int (cntR l 1), int (cntR l 2), int (cntR l 3)]
theorem cnts_snoc {l : List Ev} {i : Nat} {e : Ev} (h : l[i]? = some e) : cnts (l.take (i + 1)) = [int ((cntR (l.take i) 0 + if e.kind = 0 then 1 else 0 : Nat)), int ((cntR (l.take i) 1 + if e.kind = 1 then 1 else 0 : Nat)), int ((cntR (l.take i) 2 + if e.kind = 2 then 1 else 0 : Nat)), int ((cntR (l.take i) 3 + if e.kind = 3 then 1 else 0 : Nat))] := by
  simp only [cnts, cnt_snoc h]
set_option maxHeartbeats 2000000 in
theorem count_ok (ms : List EvM) (p : Option Addr) (c : Nat) (hn : ms.length ≤ 1048576) (w : World) (hE : Evs w p ms) :
    PureC Tryd.prog 30 #[.slice p ms.length c] w (.agg ⟨cnts (evs ms)⟩) := by
  refine enter (l := [.slice p ms.length c]) Tryd.func30 rfl Tryd.ntmps30 (by kernel_rfl) rfl ?_
  have hS := Sep.start w
  refine sgo ?_
  refine salloc hS fun b2 w2 hS => ?_
  refine sgo ?_
  refine salloc hS fun b3 w3 hS => ?_
  replace hS : Sep w w3 [pOwn b3 (cnts ((evs ms).take 0)), pOwn b2 [int 0, int 0, int 0, int 0]] := hS
  refine sgo ?_
  refine wcloop (X := Nat) (fun i => [(2, ptrAt (pb b2) 0), (3, ptrAt (pb b3) 0), (6, .slice p ms.length c), (7, int ms.length), (8, int i)])
    (fun i wr => i ≤ ms.length ∧ Sep w wr [pOwn b3 (cnts ((evs ms).take i)), pOwn b2 [int 0, int 0, int 0, int 0]]) (fun i => ms.length - i) 0 ⟨rfl, rfl, rfl, rfl, rfl, trivial⟩ ⟨Nat.zero_le _, hS⟩ ?_
  clear hS
  rintro i wr ρ ⟨hil, hS⟩
  refine sgo ?_
  (show WC _ _ _ _ _ _ _; first | refine WC_dec rfl (fun hc => ?_) (fun hc => ?_) | refine WC_cond rfl (fun hc => ?_) (fun hc => ?_))
  · have hlt : i < ms.length := by omega
    have hSg := (hE.frm hS.frm).im.sg
    have hx : ms[i]? = some ms[i] := List.getElem?_eq_getElem hlt
    have hseg := fm_seg EvM.len ms hx
    have hps : ∃ q, p = some q := hSg.some (by have := fm_len EvM.len ms; omega)
    have hfl := fm_len EvM.len ms
    have hsn := cnts_snoc (evs_at hx)
    have hl : ((evs ms).take i).length ≤ i := by rw [List.length_take]; omega
    have l0 := cnt_le ((evs ms).take i) 0
    have l1 := cnt_le ((evs ms).take i) 1
    have l2 := cnt_le ((evs ms).take i) 2
    have l3 := cnt_le ((evs ms).take i) 3
    generalize ms[i] = m at *
    replace hS : Sep w wr [pOwn b3 [int (cntR ((evs ms).take i) 0), int (cntR ((evs ms).take i) 1), int (cntR ((evs ms).take i) 2), int (cntR ((evs ms).take i) 3)], pOwn b2 [int 0, int 0, int 0, int 0]] := hS
    generalize cntR ((evs ms).take i) 0 = c0 at *
    generalize cntR ((evs ms).take i) 1 = c1 at *
    generalize cntR ((evs ms).take i) 2 = c2 at *
    generalize cntR ((evs ms).take i) 3 = c3 at *
    obtain ⟨⟨k, nm, tx, es⟩, mp, mc⟩ := m
    dsimp only at hsn
    clear hc
    refine sgo ?_
    rw [hseg]
    refine salloc hS fun b5 w5 hS => ?_
    refine sgo ?_
    refine ssta (vs := [int k, str nm, str tx, .slice mp es.length mc]) hS 0 fun w6 hS => ?_
    replace hS : Sep w w6 [pOwn b5 [int k, str nm, str tx, .slice mp es.length mc], pOwn b3 [int c0, int c1, int c2, int c3], pOwn b2 [int 0, int 0, int 0, int 0]] := hS
    by_cases hk : k = 0 ∨ k = 1 ∨ k = 2 ∨ k = 3
    · rcases hk with rfl | rfl | rfl | rfl
      · refine sgo ?_
        refine sst_int hS 1 (fun w7 hS => ?_)
        refine sgo ?_
        refine ⟨i + 1, ⟨rfl, rfl, rfl, rfl, rfl, trivial⟩, ⟨hlt, ?_⟩, (by (try dsimp only); omega)⟩
        rw [hsn]
        exact hS.tail
      · refine sgo ?_
        refine sst_int hS 1 (fun w7 hS => ?_)
        refine sgo ?_
        refine ⟨i + 1, ⟨rfl, rfl, rfl, rfl, rfl, trivial⟩, ⟨hlt, ?_⟩, (by (try dsimp only); omega)⟩
        rw [hsn]
        exact hS.tail
      · refine sgo ?_
        refine sst_int hS 1 (fun w7 hS => ?_)
        refine sgo ?_
        refine ⟨i + 1, ⟨rfl, rfl, rfl, rfl, rfl, trivial⟩, ⟨hlt, ?_⟩, (by (try dsimp only); omega)⟩
        rw [hsn]
        exact hS.tail
      · refine sgo ?_
        refine sst_int hS 1 (fun w7 hS => ?_)
        refine sgo ?_
        refine ⟨i + 1, ⟨rfl, rfl, rfl, rfl, rfl, trivial⟩, ⟨hlt, ?_⟩, (by (try dsimp only); omega)⟩
        rw [hsn]
        exact hS.tail
    · refine sgo ?_
      have hB : pkb (decide (0 ≤ k)) (decide (k < 4)) false = false := by
        rw [pkb_and, ← Bool.decide_and]
        exact decide_eq_false (by omega)
      refine wcno ?_ (ht := hB)
      refine sgo ?_
      refine ⟨i + 1, ⟨rfl, rfl, rfl, rfl, rfl, trivial⟩, ⟨hlt, ?_⟩, (by (try dsimp only); omega)⟩
      rw [hsn, if_neg (by omega), if_neg (by omega), if_neg (by omega), if_neg (by omega)]
      exact hS.tail
  · obtain rfl : i = ms.length := by omega
    rw [← evs_len, List.take_length] at hS
    replace hS : Sep w wr [pOwn b3 [int (cntR (evs ms) 0), int (cntR (evs ms) 1), int (cntR (evs ms) 2), int (cntR (evs ms) 3)], pOwn b2 [int 0, int 0, int 0, int 0]] := hS
    refine sgo ?_
    refine ssta (vs := [int (cntR (evs ms) 0), int (cntR (evs ms) 1), int (cntR (evs ms) 2), int (cntR (evs ms) 3)]) hS 1 fun w7 hS => ?_
    refine sgo ?_
    refine fpc (l := cnts (evs ms)) (.inl rfl) rfl rfl rfl (hS.own 1 rfl) ⟨?_, hS.frm⟩
    rfl
/-- all text in one -/
def etxt (e : Ev) : List UInt8 := if e.kind = 0 then mendR e.text else []
def textR (l : List Ev) : List UInt8 := l.flatMap etxt
theorem text_snoc {l : List Ev} {i : Nat} {e : Ev} (h : l[i]? = some e) : textR (l.take (i + 1)) = textR (l.take i) ++ etxt e := by
  unfold textR
  rw [List.take_add_one, h, List.flatMap_append]; simp
theorem etxt_len (e : Ev) : (etxt e).length ≤ 4 * e.wt := by
  unfold etxt Ev.wt
  split
  · have := mendR_len e.text; omega
  · simp
theorem text_len (l : List Ev) : (textR l).length ≤ 4 * (l.map Ev.wt).sum := len_flat etxt Ev.wt 4 l fun e _ => etxt_len e
theorem text_take (ms : List EvM) (i : Nat) : (textR ((evs ms).take i)).length ≤ 4 * evw ms := by
  have h1 := text_len ((evs ms).take i)
  have h2 := sum_take Ev.wt (evs ms) i
  have h3 : ((evs ms).map Ev.wt).sum = evw ms := by simp [evs, evw, Function.comp_def]
  omega
set_option maxHeartbeats 2000000 in
theorem evText_ok (ms : List EvM) (p : Option Addr) (c : Nat) (hw : evw ms ≤ 1048576) (w : World) (hE : Evs w p ms) :
    PureC Tryd.prog 36 #[.slice p ms.length c] w (str (textR (evs ms))) := by
  have hn : ms.length ≤ 1048576 := by
    have := sum_len (fun m : EvM => m.e.wt) ms (by intro m _; show 1 ≤ Ev.wt m.e; unfold Ev.wt; omega)
    unfold evw at hw; omega
  refine enter (l := [.slice p ms.length c]) Tryd.func36 rfl Tryd.ntmps36 (by kernel_rfl) rfl ?_
  refine sgo ?_
  refine wlallocT fun b w0 hbw ha0 hf0 => ?_
  have hB0 : Bld TB TY w0 b none [] := Bld.new ha0
  refine sgo ?_
  refine wcloop (X := Nat × Option Addr) (fun x => [(3, ptrAt (pb b) 0), (6, .slice p ms.length c), (7, int ms.length), (8, int x.1)])
    (fun x wr => x.1 ≤ ms.length ∧ Bld TB TY wr b x.2 (textR ((evs ms).take x.1)) ∧ Frm w wr ∧ ∀ k ∈ b :: rb x.2, w.heap.size ≤ k)
    (fun x => ms.length - x.1) (0, none) ⟨rfl, rfl, rfl, rfl, trivial⟩ ⟨by omega, hB0, hf0, by intro x hx; simp [rb] at hx; omega⟩ ?_
  clear hB0
  rintro ⟨i, q⟩ wr ρ ⟨hil, hBl, hfr, hq⟩
  dsimp only at hil hBl hq ⊢
  have hEr := hE.frm hfr
  have hlr := text_take ms i
  refine sgo ?_
  (show WC _ _ _ _ _ _ _; first | refine WC_dec rfl (fun hc => ?_) (fun hc => ?_) | refine WC_cond rfl (fun hc => ?_) (fun hc => ?_))
  · have hlt : i < ms.length := by omega
    have hSg := hEr.im.sg
    have hx : ms[i]? = some ms[i] := List.getElem?_eq_getElem hlt
    have hseg := fm_seg EvM.len ms hx
    have hls := text_snoc (evs_at hx)
    have hl2 := text_take ms (i + 1)
    have hwt : ms[i].e.wt ≤ 1048576 := Nat.le_trans (sum_mem (fun m : EvM => m.e.wt) ms (List.getElem_mem hlt)) hw
    have hps : ∃ q, p = some q := hSg.some (by have := fm_len EvM.len ms; omega)
    have hfl := fm_len EvM.len ms
    generalize ms[i] = m at *
    obtain ⟨⟨k, nm, tx, es⟩, mp, mc⟩ := m
    have htx : tx.length ≤ 1048576 := (Ev.small_of hwt).text
    clear hc
    refine sgo ?_
    refine wlalloc fun b2 w2 hb2 ho hf2 => ?_
    refine wlstorea0 (hv := by exact ⟨by rw [hseg]; rfl, rfl⟩) (h1 := by rw [hseg]; simp [EvM.cells, Ev.cells, Value.oneCell']) ho fun w3 ho3 hl3 => ?_
    rw [hseg] at ho3
    have hb2w : w.heap.size ≤ b2 := Nat.le_trans hfr.size hb2
    have hfr3 := (hfr.trans hf2).step hl3 (by simpa using hb2w)
    have hB3 := (hBl.frm hf2).le hl3 (by intro k hk hm; simp only [List.mem_singleton] at hm; subst hm; have := hBl.lt k hk; omega)
    simp only [EvM.cells, Ev.cells] at ho3
    clear hseg hSg ho
    refine sgo ?_
    (show WC _ _ _ _ _ _ _; first | refine WC_dec rfl (fun hc => ?_) (fun hc => ?_) | refine WC_cond rfl (fun hc => ?_) (fun hc => ?_))
    · replace hc : k = 0 := hc
      subst hc
      have hle : etxt ⟨0, nm, tx, es⟩ = mendR tx := rfl
      rw [hle] at hls
      refine sgo ?_
      refine wlpure (mend_ok tx (by omega) w3) fun w4 hf4 => ?_
      have hB4 := hB3.frm hf4
      have hfr4 := hfr3.trans hf4
      refine sgo ?_
      refine wlcall (writeString_ok b q _ (mendR tx) _ hB4 (by rw [hls] at hl2; rw [List.length_append] at hl2; omega)) ?_
      rintro v w5 ⟨rfl, q5, hB5, hl5⟩
      refine sgo ?_
      refine ⟨(i + 1, q5), ⟨rfl, rfl, rfl, rfl, trivial⟩, ⟨by dsimp only; omega, ?_, hfr4.step hl5.1 hq, hl5.fresh hfr4 hq⟩, by dsimp only; omega⟩
      dsimp only
      rw [hls]; exact hB5
    · replace hc : ¬ k = 0 := hc
      have hle : etxt ⟨k, nm, tx, es⟩ = [] := by unfold etxt; rw [if_neg hc]
      rw [hle, List.append_nil] at hls
      refine sgo ?_
      refine ⟨(i + 1, q), ⟨rfl, rfl, rfl, rfl, trivial⟩, ⟨by dsimp only; omega, ?_, hfr3, hq⟩, by dsimp only; omega⟩
      dsimp only
      rw [hls]; exact hB3
  · obtain rfl : i = ms.length := by omega
    rw [← evs_len, List.take_length] at hBl
    refine sgo ?_
    refine wlcall (string_ok w.heap.size b q _ _ hBl hq hfr.size) ?_
    rintro v w6 ⟨rfl, hf6⟩
    have hfr6 : Frm w w6 := Below.trans hfr hf6
    refine sgo ?_
    (first | refine fp1 (.inl rfl) rfl rfl ?_ | refine fp2 (.inl rfl) rfl rfl rfl ?_ | refine fp3 (.inl rfl) rfl rfl rfl rfl ?_ | refine fp0 (.inr rfl) rfl ?_ | refine fp0 (.inl rfl) rfl ?_ | refine fp1 (.inr rfl) rfl rfl ?_); refine ⟨?_, by (first | exact Frm.refl _ | assumption | exact Go.Sv.Sep.frm (by assumption) | (refine Frm.trans ?_ (by assumption); first | exact Frm.refl _ | assumption))⟩; (try simp only [realB, rv_true, Nat.reduceBEq, cond_true, cond_false, entG, real_lif, updGL])
end Go.Proofs.YthgbpgjpnaanlaaDoor

/-
  sievelaw18: EventChecks.
-/
set_option linter.unusedSimpArgs false
set_option linter.unusedVariables false
set_option linter.unnecessarySimpa false
namespace Go.Sv
open Go Go.RowKit
section
variable {D : Type} {P : Program} {w0 w w' : World} {cs rest : List Plot} {σ : Env} {d : Option Tmp} {dd dj : Nat} {op : Op} {ty : TypeId} {pos : String} {af : Array Edge} {v : Value} {k j : Nat} {want : Bool} {ops : Array Oper} {T : Value → World → Prop} {B : Prop}
theorem wanted_at {o : Oper} (hg : o.guard = some (j, want)) (hj : (ops[j]?).bind (·.dst) = some dj) (hv : σ dj = .bool want) : Region.wanted o (yl ops σ) = true := by
  unfold Region.wanted yl
  rw [hg]
  simp only [hj, hv]
  cases want <;> rfl
/-- an operation of a plan under a guard that holds -/
theorem rule_yg {o : Oper} (hy : Y P σ o w v w') (hT : T v w') (hv : σ dj = .bool want) (hg : o.guard = some (j, want) := by rfl) (hj : (ops[j]?).bind (·.dst) = some dj := by rfl) :
    (Region.wanted o (yl ops σ) = true ∧ comes P T ((execOp (evl σ) o).run P w)) ∨ B := .inl ⟨wanted_at hg hj hv, comes_of_Y hy hT⟩
theorem y_ev (sl : List (Nat × Value)) (hs : Has σ sl) {g : Option (Nat × Bool)} (he : ev1 (updGL (lif σ) sl) op = some ⟨v, true⟩) : Y P σ ⟨d, op, ty, pos, af, g⟩ w v w := by
  have hy : Y P (real (updGL (lif σ) sl)) ⟨d, op, ty, pos, af, g⟩ w v w := ev1_ok he rfl
  rw [← frameOf sl hs] at hy
  exact hy
/-- one that only looks at what is known -/
theorem rule_e (sl : List (Nat × Value)) (hs : Has σ sl) (hT : T v w) (he : ev1 (updGL (lif σ) sl) op = some ⟨v, true⟩ := by rfl) :
    (Region.wanted (⟨d, op, ty, pos, af, none⟩ : Oper) (yl ops σ) = true ∧ comes P T ((execOp (evl σ) ⟨d, op, ty, pos, af, none⟩).run P w)) ∨ B := rule_y (y_ev sl hs he) hT
theorem rule_eg (sl : List (Nat × Value)) (hs : Has σ sl) (hT : T v w) (hv : σ dj = .bool want) (he : ev1 (updGL (lif σ) sl) op = some ⟨v, true⟩ := by rfl) (hj : (ops[j]?).bind (·.dst) = some dj := by rfl) :
    (Region.wanted (⟨d, op, ty, pos, af, some (j, want)⟩ : Oper) (yl ops σ) = true ∧ comes P T ((execOp (evl σ) ⟨d, op, ty, pos, af, some (j, want)⟩).run P w)) ∨ B := rule_yg (y_ev sl hs he) hT hv rfl hj
theorem rule_callg {f : FuncId} [hf : Fnc P f] {args : List Operand} {ats : Array TypeId} {vals : List Value} {R : Value → World → Prop} (hc : CallsR P f vals.toArray w R) (hT : ∀ v w', R v w' → T v w') (ha : args.map (evl σ) = vals) (hv : σ dj = .bool want) (hj : (ops[j]?).bind (·.dst) = some dj := by rfl) :
    (Region.wanted (⟨d, .call ⟨.value (.func f), args.toArray, ats⟩, ty, pos, af, some (j, want)⟩ : Oper) (yl ops σ) = true ∧ comes P T ((execOp (evl σ) ⟨d, .call ⟨.value (.func f), args.toArray, ats⟩, ty, pos, af, some (j, want)⟩).run P w)) ∨ B := by
  refine .inl ⟨wanted_at rfl hj hv, ?_⟩
  rw [run_call_func]
  have : (args.toArray.map (evl σ)) = vals.toArray := by rw [← ha]; simp
  rw [this]
  exact Calls.mono hc fun e w'' ⟨v, he, hv⟩ => ⟨v, he, hT v w'' hv⟩
theorem rule_pureg {f : FuncId} [hf : Fnc P f] {args : List Operand} {ats : Array TypeId} {vals : List Value} (hc : PureC P f vals.toArray w v) (hT : ∀ w', Frm w w' → T v w') (ha : args.map (evl σ) = vals) (hv : σ dj = .bool want) (hj : (ops[j]?).bind (·.dst) = some dj := by rfl) :
    (Region.wanted (⟨d, .call ⟨.value (.func f), args.toArray, ats⟩, ty, pos, af, some (j, want)⟩ : Oper) (yl ops σ) = true ∧ comes P T ((execOp (evl σ) ⟨d, .call ⟨.value (.func f), args.toArray, ats⟩, ty, pos, af, some (j, want)⟩).run P w)) ∨ B :=
  rule_callg (R := fun u w' => u = v ∧ Frm w w') hc (fun _ w' h => h.1 ▸ hT w' h.2) ha hv hj
theorem rule_pure {f : FuncId} [hf : Fnc P f] {args : List Operand} {ats : Array TypeId} {vals : List Value} (hc : PureC P f vals.toArray w v) (hT : ∀ w', Frm w w' → T v w') (ha : args.map (evl σ) = vals) :
    (Region.wanted (⟨d, .call ⟨.value (.func f), args.toArray, ats⟩, ty, pos, af, none⟩ : Oper) (yl ops σ) = true ∧ comes P T ((execOp (evl σ) ⟨d, .call ⟨.value (.func f), args.toArray, ats⟩, ty, pos, af, none⟩).run P w)) ∨ B :=
  rule_call (R := fun u w' => u = v ∧ Frm w w') hc (fun _ w' h => h.1 ▸ hT w' h.2) ha
end
end Go.Sv
namespace Go.Proofs.YthgbpgjpnaanlaaDoor
open Go Go.Sv Go.RowKit

theorem mend18_ok (l : List UInt8) (hb : l.length ≤ 1073741824) (w : World) : PureC Tryd.prog 34 #[str l] w (str (mendR l)) := by
  refine enter (l := [str l]) Tryd.func34 rfl Tryd.ntmps34 (by kernel_rfl) rfl ?_
  refine sgo ?_
  refine wlpure (refMend_ok l hb w) fun w1 hf1 => ?_
  refine sgo ?_
  (first | refine fp1 (.inl rfl) rfl rfl ?_ | refine fp2 (.inl rfl) rfl rfl rfl ?_ | refine fp3 (.inl rfl) rfl rfl rfl rfl ?_ | refine fp0 (.inr rfl) rfl ?_ | refine fp0 (.inl rfl) rfl ?_ | refine fp1 (.inr rfl) rfl rfl ?_); refine ⟨?_, by (first | exact Frm.refl _ | assumption | exact Go.Sv.Sep.frm (by assumption) | (refine Frm.trans ?_ (by assumption); first | exact Frm.refl _ | assumption))⟩; (try simp only [realB, rv_true, Nat.reduceBEq, cond_true, cond_false, entG, real_lif, updGL])
structure CkD where
  q : Option Addr
  c : Nat
  ns : List EvM
def ckP (ms ns : List EvM) (p q : Option Addr) (c cc : Nat) : Plan CkD where
  val k d := match k with
    | 0 | 3 | 8 | 9 | 14 | 20 => .slice p ms.length c
    | 1 | 4 => .slice q ns.length cc
    | 2 | 5 => .bool (decide (evs ms = evs ns))
    | 10 => .slice d.q d.ns.length d.c
    | 15 | 16 => .agg ⟨cnts (evs ms)⟩
    | 21 | 22 => str (textR (evs ms))
    | _ => .bool true
  pl k d := match k with
    | 10 => [pRow 4 d.q d.ns.length d.c (d.ns.flatMap EvM.cells), pMany (d.ns.map EvM.row)]
    | _ => []
  con k := match k with
    | 10 => some 11
    | _ => none
  fact k a := match k with
    | 10 => evs (a 10).ns = evs ms
    | _ => True
set_option maxHeartbeats 4000000 in
theorem eventChecks_ok (ms ns : List EvM) (p q : Option Addr) (c cc : Nat) (hw : evw ms ≤ 1048576) (hw2 : evw ns ≤ 1048576) (w : World) (hA : Asc w) (hE : Evs w p ms) (hF : Evs w q ns) :
    PureC Tryd.prog 8 #[.slice p ms.length c, .slice q ns.length cc] w (.bool true) := by
  have hn : ms.length ≤ 1048576 := by
    have := sum_len (fun m : EvM => m.e.wt) ms (by intro m _; show 1 ≤ Ev.wt m.e; unfold Ev.wt; omega)
    unfold evw at hw; omega
  have hn2 : ns.length ≤ 1048576 := by
    have := sum_len (fun m : EvM => m.e.wt) ns (by intro m _; show 1 ≤ Ev.wt m.e; unfold Ev.wt; omega)
    unfold evw at hw2; omega
  have hs : ∀ m ∈ ms, m.e.small := fun m hm => Ev.small_of (Nat.le_trans (sum_mem (fun m : EvM => m.e.wt) ms hm) hw)
  have hs2 : ∀ m ∈ ns, m.e.small := fun m hm => Ev.small_of (Nat.le_trans (sum_mem (fun m : EvM => m.e.wt) ns hm) hw2)
  have hS := Sep.start w
  refine enter (l := [.slice p ms.length c, .slice q ns.length cc]) Tryd.func8 rfl Tryd.ntmps8 (by kernel_rfl) rfl ?_
  refine sgo ?_
  refine salloc hS fun b5 w1 hS => ?_
  replace hS : Sep w w1 [pOwn b5 (cnts ((evs ms).take 0))] := hS
  refine sgo ?_
  refine wcloop (X := Nat) (fun i => [(0, .slice p ms.length c), (1, .slice q ns.length cc), (5, ptrAt (pb b5) 0), (6, str (textR ((evs ms).take i))), (10, .slice p ms.length c), (11, int ms.length), (12, int i)])
    (fun i wr => i ≤ ms.length ∧ Sep w wr [pOwn b5 (cnts ((evs ms).take i))]) (fun i => ms.length - i) 0 ⟨rfl, rfl, rfl, rfl, rfl, rfl, rfl, trivial⟩ ⟨Nat.zero_le _, hS⟩ ?_
  clear hS
  rintro i wr ρ ⟨hil, hS⟩
  have hlr := text_take ms i
  refine sgo ?_
  (show WC _ _ _ _ _ _ _; first | refine WC_dec rfl (fun hc => ?_) (fun hc => ?_) | refine WC_cond rfl (fun hc => ?_) (fun hc => ?_))
  · have hlt : i < ms.length := by omega
    have hSg := (hE.frm hS.frm).im.sg
    have hx : ms[i]? = some ms[i] := List.getElem?_eq_getElem hlt
    have hseg := fm_seg EvM.len ms hx
    have hps : ∃ q, p = some q := hSg.some (by have := fm_len EvM.len ms; omega)
    have hfl := fm_len EvM.len ms
    have hat := hE.each _ (List.getElem_mem hlt)
    have hsm := hs _ (List.getElem_mem hlt)
    have hsn := cnts_snoc (evs_at hx)
    have hts := text_snoc (evs_at hx)
    have hl2 := text_take ms (i + 1)
    have hl : ((evs ms).take i).length ≤ i := by rw [List.length_take]; omega
    have l0 := cnt_le ((evs ms).take i) 0
    have l1 := cnt_le ((evs ms).take i) 1
    have l2 := cnt_le ((evs ms).take i) 2
    have l3 := cnt_le ((evs ms).take i) 3
    generalize ms[i] = m at *
    replace hS : Sep w wr [pOwn b5 [int (cntR ((evs ms).take i) 0), int (cntR ((evs ms).take i) 1), int (cntR ((evs ms).take i) 2), int (cntR ((evs ms).take i) 3)]] := hS
    generalize cntR ((evs ms).take i) 0 = c0 at *
    generalize cntR ((evs ms).take i) 1 = c1 at *
    generalize cntR ((evs ms).take i) 2 = c2 at *
    generalize cntR ((evs ms).take i) 3 = c3 at *
    generalize textR ((evs ms).take i) = S at *
    obtain ⟨⟨k, nm, tx, es⟩, mp, mc⟩ := m
    have htx : tx.length ≤ 1048576 := hsm.text
    dsimp only at hsn hts hat hsm
    clear hc
    refine sgo ?_
    rw [hseg]
    refine salloc hS fun b8 w5 hS => ?_
    refine sgo ?_
    refine ssta (vs := [int k, str nm, str tx, .slice mp es.length mc]) hS 0 fun w6 hS => ?_
    replace hS : Sep w w6 [pOwn b8 [int k, str nm, str tx, .slice mp es.length mc], pOwn b5 [int c0, int c1, int c2, int c3]] := hS
    refine sgo ?_
    refine wlpure (refEvCheck_ok ⟨k, nm, tx, es⟩ mp mc hsm w6 (hat.sep hS)) fun w7 hf7 => ?_
    replace hS := hS.grow hf7
    refine sgo ?_
    refine wcutt (X := Unit) (fun _ => [(0, .slice p ms.length c), (1, .slice q ns.length cc), (5, ptrAt (pb b5) 0), (6, str S), (8, ptrAt (pb b8) 0), (9, int (if evR ⟨k, nm, tx, es⟩ then 0 else 180)), (10, .slice p ms.length c), (11, int ms.length), (12, int i)])
      (fun _ w' => w' = w7) ?_ ?_
    · cases he : evR ⟨k, nm, tx, es⟩ with
      | false =>
        refine sgo ?_
        exact ⟨(), ⟨rfl, rfl, rfl, rfl, rfl, rfl, rfl, rfl, rfl, trivial⟩, rfl⟩
      | true =>
        refine sgo ?_
        exact ⟨(), ⟨rfl, rfl, rfl, rfl, rfl, rfl, rfl, rfl, rfl, trivial⟩, rfl⟩
    rintro _ w8 ρ2 rfl
    refine sgo ?_
    refine wlpure (evCheck_ok ⟨k, nm, tx, es⟩ mp mc hsm _ (hA.frm hS.frm) (hat.sep hS)) fun w9 hf9 => ?_
    replace hS := hS.grow hf9
    generalize (if evR ⟨k, nm, tx, es⟩ = true then (0 : Int) else 180) = C
    refine sgo ?_
    refine wlpure (num18_ok C _) fun w10 hf10 => ?_
    replace hS := hS.grow hf10
    refine sgo ?_
    refine wcno ?_ (ht := by simp)
    refine sgo ?_
    refine wcutt (X := Unit) (fun _ => [(0, .slice p ms.length c), (1, .slice q ns.length cc), (5, ptrAt (pb b5) 0), (6, str S), (8, ptrAt (pb b8) 0), (10, .slice p ms.length c), (11, int ms.length), (12, int i)])
      (fun _ w' => Sep w w' [pOwn b8 [int k, str nm, str tx, .slice mp es.length mc], pOwn b5 (cnts ((evs ms).take (i + 1)))]) ?_ ?_
    · rw [hsn]
      by_cases hk : k = 0 ∨ k = 1 ∨ k = 2 ∨ k = 3
      · rcases hk with rfl | rfl | rfl | rfl
        · refine sgo ?_
          refine sst_int hS 1 (fun w7 hS => ?_)
          refine sgo ?_
          exact ⟨(), ⟨rfl, rfl, rfl, rfl, rfl, rfl, rfl, rfl, trivial⟩, hS⟩
        · refine sgo ?_
          refine sst_int hS 1 (fun w7 hS => ?_)
          refine sgo ?_
          exact ⟨(), ⟨rfl, rfl, rfl, rfl, rfl, rfl, rfl, rfl, trivial⟩, hS⟩
        · refine sgo ?_
          refine sst_int hS 1 (fun w7 hS => ?_)
          refine sgo ?_
          exact ⟨(), ⟨rfl, rfl, rfl, rfl, rfl, rfl, rfl, rfl, trivial⟩, hS⟩
        · refine sgo ?_
          refine sst_int hS 1 (fun w7 hS => ?_)
          refine sgo ?_
          exact ⟨(), ⟨rfl, rfl, rfl, rfl, rfl, rfl, rfl, rfl, trivial⟩, hS⟩
      · refine sgo ?_
        have hB : pkb (decide (0 ≤ k)) (decide (k < 4)) false = false := by
          rw [pkb_and, ← Bool.decide_and]
          exact decide_eq_false (by omega)
        refine wcno ?_ (ht := hB)
        refine sgo ?_
        rw [if_neg (by omega), if_neg (by omega), if_neg (by omega), if_neg (by omega)]
        exact ⟨(), ⟨rfl, rfl, rfl, rfl, rfl, rfl, rfl, rfl, trivial⟩, hS⟩
    clear hS
    rintro _ w11 ρ3 hS
    refine sgo ?_
    (show WC _ _ _ _ _ _ _; first | refine WC_dec rfl (fun hc => ?_) (fun hc => ?_) | refine WC_cond rfl (fun hc => ?_) (fun hc => ?_))
    · replace hc : k = 0 := hc
      subst hc
      have hle : etxt ⟨0, nm, tx, es⟩ = mendR tx := rfl
      rw [hle] at hts
      rw [hts, List.length_append] at hl2
      refine sgo ?_
      refine wlpure (mend18_ok tx (by omega) _) fun w12 hf12 => ?_
      replace hS := hS.grow hf12
      refine sgo ?_
      refine ⟨i + 1, ⟨rfl, rfl, rfl, ?_, rfl, rfl, rfl, trivial⟩, ⟨hlt, hS.tail⟩, (by (try dsimp only); omega)⟩
      show str _ = str _
      rw [hts]
    · replace hc : ¬ k = 0 := hc
      have hle : etxt ⟨k, nm, tx, es⟩ = [] := by unfold etxt; rw [if_neg hc]
      rw [hle, List.append_nil] at hts
      refine sgo ?_
      refine ⟨i + 1, ⟨rfl, rfl, rfl, ?_, rfl, rfl, rfl, trivial⟩, ⟨hlt, hS.tail⟩, (by (try dsimp only); omega)⟩
      show str _ = str _
      rw [hts]
  · obtain rfl : i = ms.length := by omega
    rw [← evs_len, List.take_length] at hS
    have htk : (evs ms).take ms.length = evs ms := by rw [← evs_len, List.take_length]
    rw [htk]
    refine sgo ?_
    refine wcplan (ckP ms ns p q c cc) ⟨none, 0, []⟩ hS (fun j oj a a' hj he _ h => ?_) ⟨?_, ?_, ?_, ?_, ?_, ?_, ?_, ?_, ?_, ?_, ?_, ?_, ?_, ?_, ?_, ?_, ?_, ?_, ?_, ?_, ?_, ?_, ?_, ?_, ?_, ?_, ?_, ?_, ?_, trivial⟩ ?_
    · have hjl : j < 29 := (List.getElem?_eq_some_iff.1 hj).1
      by_cases e10 : j = 10
      · subst e10; exact (show evs (a' 10).ns = evs ms by rw [← he]; exact h)
      · have : (ckP ms ns p q c cc).fact j a' = True := by
          simp only [ckP]
        exact this ▸ True.intro
    · intro a σ' w' rest hσ hdep hS'
      have e0 : σ' 0 = .slice p ms.length c := (hσ 0 (notDst rfl)).trans rfl
      exact rule_e [(0, _)] ⟨e0, trivial⟩ ⟨⟨none, 0, []⟩, rfl, trivial, hS'⟩
    · intro a σ' w' rest hσ hdep hS'
      have e1 : σ' 1 = .slice q ns.length cc := (hσ 1 (notDst rfl)).trans rfl
      exact rule_e [(1, _)] ⟨e1, trivial⟩ ⟨⟨none, 0, []⟩, rfl, trivial, hS'⟩
    · intro a σ' w' rest hσ hdep hS'
      have e47 := ((hdep 0 _ rfl rfl).1 47 rfl)
      have e48 := ((hdep 1 _ rfl rfl).1 48 rfl)
      exact rule_pure (eqEv_ok ms ns p q c cc (by omega) (by omega) hs hs2 w' (hE.frm hS'.frm) (hF.frm hS'.frm)) (fun w2 hf2 => ⟨⟨none, 0, []⟩, rfl, trivial, hS'.grow hf2⟩) (am2 e47 e48)
    · intro a σ' w' rest hσ hdep hS'
      have e0 : σ' 0 = .slice p ms.length c := (hσ 0 (notDst rfl)).trans rfl
      exact rule_e [(0, _)] ⟨e0, trivial⟩ ⟨⟨none, 0, []⟩, rfl, trivial, hS'⟩
    · intro a σ' w' rest hσ hdep hS'
      have e1 : σ' 1 = .slice q ns.length cc := (hσ 1 (notDst rfl)).trans rfl
      exact rule_e [(1, _)] ⟨e1, trivial⟩ ⟨⟨none, 0, []⟩, rfl, trivial, hS'⟩
    · intro a σ' w' rest hσ hdep hS'
      have e50 := ((hdep 3 _ rfl rfl).1 50 rfl)
      have e51 := ((hdep 4 _ rfl rfl).1 51 rfl)
      exact rule_pure (evEqual_ok ms ns p q c cc (by omega) (by omega) hs hs2 w' (hE.frm hS'.frm) (hF.frm hS'.frm)) (fun w2 hf2 => ⟨⟨none, 0, []⟩, rfl, trivial, hS'.grow hf2⟩) (am2 e50 e51)
    · intro a σ' w' rest hσ hdep hS'
      have e49 := ((hdep 2 _ rfl rfl).1 49 rfl)
      have e52 := ((hdep 5 _ rfl rfl).1 52 rfl)
      refine rule_y (y_beql (u := decide (evs ms = evs ns)) (v := decide (evs ms = evs ns)) e49 e52) ⟨⟨none, 0, []⟩, ?_, trivial, hS'⟩
      show Value.bool _ = Value.bool true
      simp
    · intro a σ' w' rest hσ hdep hS'
      have e53 := ((hdep 6 _ rfl rfl).1 53 rfl)
      exact rule_e [(53, _)] ⟨e53, trivial⟩ ⟨⟨none, 0, []⟩, rfl, trivial, hS'⟩
    · intro a σ' w' rest hσ hdep hS'
      have e0 : σ' 0 = .slice p ms.length c := (hσ 0 (notDst rfl)).trans rfl
      have eg := ((hdep 7 _ rfl rfl).1 54 rfl)
      exact rule_eg [(0, _)] ⟨e0, trivial⟩ ⟨⟨none, 0, []⟩, rfl, trivial, hS'⟩ eg
    · intro a σ' w' rest hσ hdep hS'
      have e0 : σ' 0 = .slice p ms.length c := (hσ 0 (notDst rfl)).trans rfl
      have eg := ((hdep 7 _ rfl rfl).1 54 rfl)
      exact rule_eg [(0, _)] ⟨e0, trivial⟩ ⟨⟨none, 0, []⟩, rfl, trivial, hS'⟩ eg
    · intro a σ' w' rest hσ hdep hS'
      have e56 := ((hdep 9 _ rfl rfl).1 56 rfl)
      have eg := ((hdep 7 _ rfl rfl).1 54 rfl)
      refine rule_callg (vals := [.slice p ms.length c]) (evOwn_ok ms p c (by omega) hs w w' _ hS' (hE.frm hS'.frm)) (fun v w2 hR => ?_) (am1 e56) eg
      obtain ⟨q3, c3, ns3, rfl, hev3, -, hS2⟩ := hR
      exact ⟨⟨q3, c3, ns3⟩, rfl, hev3, hS2⟩
    · intro a σ' w' rest hσ hdep hS'
      have e55 := ((hdep 8 _ rfl rfl).1 55 rfl)
      have e57 := ((hdep 10 _ rfl rfl).1 57 rfl)
      have eg := ((hdep 7 _ rfl rfl).1 54 rfl)
      have hev : evs (a 10).ns = evs ms := (hdep 10 _ rfl rfl).2
      have hl : (a 10).ns.length = ms.length := by rw [← evs_len, hev, evs_len]
      have hS1 : Sep w w' (pRow 4 (a 10).q (a 10).ns.length (a 10).c ((a 10).ns.flatMap EvM.cells) :: pMany ((a 10).ns.map EvM.row) :: (_ ++ rest)) := hS'
      have hsn : ∀ m ∈ (a 10).ns, m.e.small := fun m hm => by
        have h1 : m.e ∈ evs ms := hev ▸ List.mem_map_of_mem hm
        obtain ⟨m2, hm2, e⟩ := List.mem_map.1 h1
        exact e ▸ hs m2 hm2
      refine rule_pureg (eqEv_ok ms (a 10).ns p (a 10).q c (a 10).c (by omega) (by omega) hs hsn w' (hE.frm hS'.frm) (Sep.evs hS1 0 1 rfl rfl)) (fun w2 hf2 => ⟨⟨none, 0, []⟩, ?_, trivial, (hS1.grow hf2).tail.tail⟩) (am2 e55 e57) eg
      show Value.bool _ = Value.bool true
      rw [decide_eq_true hev.symm]
    · intro a σ' w' rest hσ hdep hS'
      have e54 := ((hdep 7 _ rfl rfl).1 54 rfl)
      have e58 := ((hdep 11 _ rfl rfl).1 58 rfl)
      exact rule_e [(54, _), (58, _)] ⟨e54, e58, trivial⟩ ⟨⟨none, 0, []⟩, rfl, trivial, hS'⟩ (he := rfl)
    · intro a σ' w' rest hσ hdep hS'
      have e59 := ((hdep 12 _ rfl rfl).1 59 rfl)
      exact rule_e [(59, _)] ⟨e59, trivial⟩ ⟨⟨none, 0, []⟩, rfl, trivial, hS'⟩
    · intro a σ' w' rest hσ hdep hS'
      have e0 : σ' 0 = .slice p ms.length c := (hσ 0 (notDst rfl)).trans rfl
      have eg := ((hdep 13 _ rfl rfl).1 60 rfl)
      exact rule_eg [(0, _)] ⟨e0, trivial⟩ ⟨⟨none, 0, []⟩, rfl, trivial, hS'⟩ eg
    · intro a σ' w' rest hσ hdep hS'
      have e61 := ((hdep 14 _ rfl rfl).1 61 rfl)
      have eg := ((hdep 13 _ rfl rfl).1 60 rfl)
      exact rule_pureg (count_ok ms p c (by omega) w' (hE.frm hS'.frm)) (fun w2 hf2 => ⟨⟨none, 0, []⟩, rfl, trivial, hS'.grow hf2⟩) (am1 e61) eg
    · intro a σ' w' rest hσ hdep hS'
      have e5 : σ' 5 = ptrAt (pb b5) 0 := (hσ 5 (notDst rfl)).trans rfl
      have eg := ((hdep 13 _ rfl rfl).1 60 rfl)
      exact rule_yg (y_loada e5 (Sep.sgv hS' 0 rfl) (Nat.le_refl 4) ⟨_, rfl⟩) ⟨⟨none, 0, []⟩, rfl, trivial, hS'⟩ eg
    · intro a σ' w' rest hσ hdep hS'
      have e62 := ((hdep 15 _ rfl rfl).1 62 rfl)
      have e63 := ((hdep 16 _ rfl rfl).1 63 rfl)
      have eg := ((hdep 13 _ rfl rfl).1 60 rfl)
      refine rule_yg (y_eqA4 (by kernel_rfl) e62 e63) ⟨⟨none, 0, []⟩, ?_, trivial, hS'⟩ eg
      show Value.bool _ = Value.bool true
      simp
    · intro a σ' w' rest hσ hdep hS'
      have e60 := ((hdep 13 _ rfl rfl).1 60 rfl)
      have e64 := ((hdep 17 _ rfl rfl).1 64 rfl)
      exact rule_e [(60, _), (64, _)] ⟨e60, e64, trivial⟩ ⟨⟨none, 0, []⟩, rfl, trivial, hS'⟩ (he := rfl)
    · intro a σ' w' rest hσ hdep hS'
      have e65 := ((hdep 18 _ rfl rfl).1 65 rfl)
      exact rule_e [(65, _)] ⟨e65, trivial⟩ ⟨⟨none, 0, []⟩, rfl, trivial, hS'⟩
    · intro a σ' w' rest hσ hdep hS'
      have e0 : σ' 0 = .slice p ms.length c := (hσ 0 (notDst rfl)).trans rfl
      have eg := ((hdep 19 _ rfl rfl).1 66 rfl)
      exact rule_eg [(0, _)] ⟨e0, trivial⟩ ⟨⟨none, 0, []⟩, rfl, trivial, hS'⟩ eg
    · intro a σ' w' rest hσ hdep hS'
      have e67 := ((hdep 20 _ rfl rfl).1 67 rfl)
      have eg := ((hdep 19 _ rfl rfl).1 66 rfl)
      exact rule_pureg (evText_ok ms p c hw w' (hE.frm hS'.frm)) (fun w2 hf2 => ⟨⟨none, 0, []⟩, rfl, trivial, hS'.grow hf2⟩) (am1 e67) eg
    · intro a σ' w' rest hσ hdep hS'
      have e6 : σ' 6 = str (textR (evs ms)) := (hσ 6 (notDst rfl)).trans rfl
      have eg := ((hdep 19 _ rfl rfl).1 66 rfl)
      exact rule_eg [(6, _)] ⟨e6, trivial⟩ ⟨⟨none, 0, []⟩, rfl, trivial, hS'⟩ eg
    · intro a σ' w' rest hσ hdep hS'
      have e68 := ((hdep 21 _ rfl rfl).1 68 rfl)
      have e69 := ((hdep 22 _ rfl rfl).1 69 rfl)
      have eg := ((hdep 19 _ rfl rfl).1 66 rfl)
      exact rule_eg [(68, _), (69, _)] ⟨e68, e69, trivial⟩ ⟨⟨none, 0, []⟩, rfl, trivial, hS'⟩ eg (he := (show ev1 _ _ = some ⟨.bool (decide (textR (evs ms) = textR (evs ms))), true⟩ from rfl).trans (by rw [decide_eq_true (rfl : textR (evs ms) = textR (evs ms))]; rfl))
    · intro a σ' w' rest hσ hdep hS'
      have e66 := ((hdep 19 _ rfl rfl).1 66 rfl)
      have e70 := ((hdep 23 _ rfl rfl).1 70 rfl)
      exact rule_e [(66, _), (70, _)] ⟨e66, e70, trivial⟩ ⟨⟨none, 0, []⟩, rfl, trivial, hS'⟩ (he := rfl)
    · intro a σ' w' rest hσ hdep hS'
      have e71 := ((hdep 24 _ rfl rfl).1 71 rfl)
      exact rule_e [(71, _)] ⟨e71, trivial⟩ ⟨⟨none, 0, []⟩, rfl, trivial, hS'⟩
    · intro a σ' w' rest hσ hdep hS'
      have eg := ((hdep 25 _ rfl rfl).1 72 rfl)
      exact rule_pureg (awake18_ok w' (hA.frm hS'.frm)) (fun w2 hf2 => ⟨⟨none, 0, []⟩, rfl, trivial, hS'.grow hf2⟩) (rfl) eg
    · intro a σ' w' rest hσ hdep hS'
      have e72 := ((hdep 25 _ rfl rfl).1 72 rfl)
      have e73 := ((hdep 26 _ rfl rfl).1 73 rfl)
      exact rule_e [(72, _), (73, _)] ⟨e72, e73, trivial⟩ ⟨⟨none, 0, []⟩, rfl, trivial, hS'⟩ (he := rfl)
    · intro a σ' w' rest hσ hdep hS'
      have e74 := ((hdep 27 _ rfl rfl).1 74 rfl)
      exact rule_e [(74, _)] ⟨e74, trivial⟩ ⟨⟨none, 0, []⟩, rfl, trivial, hS'⟩
    · intro a σ' w' hσ hA' hS'
      have e4 := (hA' 28 _ rfl).1 4 rfl
      rw [frameOf (σ := σ') [(4, .bool true)] ⟨e4, trivial⟩]
      replace hS : Sep w w' [pOwn b5 (cnts (evs ms))] := hS'
      refine sgo ?_
      (first | refine fp1 (.inl rfl) rfl rfl ?_ | refine fp2 (.inl rfl) rfl rfl rfl ?_ | refine fp3 (.inl rfl) rfl rfl rfl rfl ?_ | refine fp0 (.inr rfl) rfl ?_ | refine fp0 (.inl rfl) rfl ?_ | refine fp1 (.inr rfl) rfl rfl ?_); refine ⟨?_, by (first | exact Frm.refl _ | assumption | exact Go.Sv.Sep.frm (by assumption) | (refine Frm.trans ?_ (by assumption); first | exact Frm.refl _ | assumption))⟩; (try simp only [realB, rv_true, Nat.reduceBEq, cond_true, cond_false, entG, real_lif, updGL])
end Go.Proofs.YthgbpgjpnaanlaaDoor

/-
  From a frame to what a row asks behind the call: nothing that was there has turned (new blocks may be frozen).
-/
set_option linter.unusedSimpArgs false
set_option linter.unusedVariables false
set_option linter.unnecessarySimpa false
namespace Go.ChangeShapes
section
variable {H : Type} {enc : TypeId × Value → H} {P : Program}
theorem post_frm {f : Func} {s : ChangeSpec} {apart fresh handsOn again : Bool} {W W' : World} {args : Array Value} {v : Value} {ds gs : List (DataW H)} {before pa pv : List MemPlace}
    (hW : DataW.Whole enc P f.params.toList s.vars apart W args.toList ds gs before)
    (hres : ∀ (b : Nat) (sp : Nat → Bool) (hd : Bool), DataW.TrodAll enc P W' b sp hd f.resultTypes.toList (v.resultList f.resultTypes.size) (s.fn H (ds ++ gs)).results [])
    (hargs : ∀ sp : Nat → Bool, (∀ p ∈ before, sp p.block = true) → DataW.TrodAll enc P W' 0 sp true f.params.toList args.toList (s.fn H (ds ++ gs)).args pa)
    (hvars : ∀ sp : Nat → Bool, (∀ p ∈ before, sp p.block = true) → DataW.TrodVars enc P W' sp s.vars (s.fn H (ds ++ gs)).vars pv)
    (hps : before = pa ++ pv) (hk : Sv.Frm W W')
    (hok : ∀ (j : Nat) (t : TypeId) (r : Value), f.resultTypes[j]? = some t → (v.resultList f.resultTypes.size)[j]? = some r → Value.okWide P W' .any 0 t r) :
    s.post enc P f apart fresh handsOn again W args v W' := by
  have hold : ∀ p ∈ before, (fun b => decide (b < W.heap.size)) p.block = true := fun p hp => by simpa using hW.lt p hp
  refine ⟨ds, gs, before, [], pa, pv, hW, hres _ _ _, hargs _ hold, hvars _ hold, World.keptBut_mono (fun p hp => ⟨hp, ?_⟩) (RowKit.Below.frame hk (· ∈ before)), fun _ => ?_⟩
  · rw [hps, List.mem_append] at hp
    exact Or.inr hp
  · have hlt := hW.lt
    obtain ⟨_, _, _, _, _, hz, hn⟩ := hW
    refine ⟨hok, _, _, ([] ++ pa) ++ pv, ⟨[] ++ pa, pv, trodAll_append (hargs _ (fun _ _ => rfl)) (hres _ _ _), hvars _ (fun _ _ => rfl), rfl, ?_, ?_⟩, ?_⟩
    · intro b off hp
      have hp' : (.cell b off : MemPlace) ∈ before := by rw [hps]; simpa using hp
      rw [RowKit.Below.frozen hk (hlt _ hp')]
      exact hz b off hp'
    · intro ha
      have := hn ha
      rw [hps] at this
      simpa using this
    · intro p hp _
      rw [hps]
      simpa using hp
end
end Go.ChangeShapes

/-
  From a reading of the arguments to what lies in memory; and back: a law leaves the arguments as they were.
-/
set_option linter.unusedSimpArgs false
set_option linter.unusedVariables false
set_option linter.unnecessarySimpa false
namespace Go.Sv
open Go Go.RowKit Go.ChangeShapes Go.WideShapes
theorem cell_lt {w : World} {a : Addr} {v : Value} (h : w.cell? a = some v) : a.block < w.heap.size := by
  rcases Nat.lt_or_ge a.block w.heap.size with h1 | h1
  · exact h1
  · have : w.heap[a.block]? = none := Array.getElem?_eq_none h1
    simp [World.cell?, this] at h
theorem seg_app {w : World} {a : Addr} {l l' : List Value} (h : seg w a l) (h' : seg w (a.add l.length) l') : seg w a (l ++ l') := by
  intro i hi
  rcases Nat.lt_or_ge i l.length with h1 | h1
  · rw [h i h1, List.getElem?_append_left h1]
  · have := h' (i - l.length) (by simp at hi; omega)
    rw [add_add, show l.length + (i - l.length) = i by omega] at this
    rw [this, List.getElem?_append_right h1]
theorem seg_range {w : World} {a : Addr} {k : Nat} (f : Nat → List Value) : ∀ n : Nat, (∀ i, i < n → (f i).length = k ∧ seg w (a.add (i * k)) (f i)) → seg w a ((List.range n).flatMap f) ∧ ((List.range n).flatMap f).length = n * k
  | 0, _ => ⟨fun i hi => by simp at hi, by simp⟩
  | n + 1, h => by
    obtain ⟨h1, h2⟩ := seg_range f n fun i hi => h i (by omega)
    obtain ⟨h3, h4⟩ := h n (by omega)
    rw [List.range_succ, List.flatMap_append]
    simp only [List.flatMap_cons, List.flatMap_nil, List.append_nil]
    refine ⟨seg_app h1 (by rw [h2]; exact h4), ?_⟩
    rw [List.length_append, h2, h3, Nat.succ_mul]
/-- a law's ending: it answered true, and left all as it was -/
theorem trodAll_frm {H : Type} {enc : TypeId × Value → H} {P : Program} (hl : laidOutB P = true) {W W' : World} (hf : Sv.Frm W W') {sp : Nat → Bool} : ∀ {ts : List TypeId} {vs : List Value} {ds : List (DataW H)} {ps : List MemPlace},
    (∀ t ∈ ts, P.readableRec t = true ∧ t < P.types.size) → DataW.TrodAll enc P W 0 (fun _ => true) true ts vs ds ps → (∀ p ∈ ps, p.block < W.heap.size) → (∀ p ∈ ps, sp p.block = true) → DataW.TrodAll enc P W' 0 sp true ts vs ds ps
  | [], [], [], _, _, h, _, _ => h
  | t :: ts, v :: vs, d :: ds, _, ht, ⟨p, q, h1, h2, e⟩, hlt, hs => by
    subst e
    refine ⟨p, q, ?_, ?_, rfl⟩
    · obtain ⟨hr, hrow⟩ := ht t List.mem_cons_self
      exact WideElems.Trod_stays hl hr hrow h1 (fun x hx => RowKit.Below.same hf (hlt x (List.mem_append_left _ hx))) fun x hx => hs x (List.mem_append_left _ hx)
    · exact trodAll_frm hl hf (fun t ht' => ht t (List.mem_cons_of_mem _ ht')) h2 (fun x hx => hlt x (List.mem_append_right _ hx)) fun x hx => hs x (List.mem_append_right _ hx)
theorem law_ends {H : Type} {enc : TypeId × Value → H} {P : Program} {f : Func} {s : ChangeSpec} {W W' : World} {args : Array Value} {ds gs : List (DataW H)} {before : List MemPlace} {tb : TypeId}
    (hl : laidOutB P = true) (hT : ∀ t ∈ f.params.toList, P.readableRec t = true ∧ t < P.types.size) (hv : s.vars = []) (hrt : f.resultTypes = #[tb]) (hb : P.underlying tb = some .bool)
    (hW : DataW.Whole enc P f.params.toList s.vars false W args.toList ds gs before) (hfn : s.fn H (ds ++ gs) = { results := [.lit (.bool true)], args := ds ++ gs }) (hg : Frm W W') :
    s.post enc P f false true false false W args (.bool true) W' := by
  have hW' := hW
  have hlt := hW.lt
  obtain ⟨p, q, hA, hV, rfl, _, _⟩ := hW
  rw [hv] at hV
  obtain ⟨rfl, rfl⟩ := trodVars_none hV
  have hrl : (Value.bool true).resultList f.resultTypes.size = [.bool true] := by rw [hrt]; rfl
  simp only [List.append_nil] at hlt hfn
  refine post_frm (pa := p) (pv := []) hW' (fun _ _ _ => ?_) (fun sp hsp => ?_) (fun _ _ => ?_) rfl hg (ok_one hrt rfl (okWide_bool_mk hb _))
  · rw [hrt]
    simp only [List.append_nil, hfn]
    exact trodAll_cons_mk (shut_bool hb _) trodAll_mk0
  · simp only [List.append_nil, hfn]
    exact trodAll_frm hl hg hT hA hlt (fun x hx => hsp x (by simpa using hx))
  · simp only [List.append_nil, hfn, hv]
    rfl
end Go.Sv
namespace Go.Proofs.YthgbpgjpnaanlaaDoor
open Go Go.Sv Go.RowKit Go.ChangeShapes Go.WideShapes Go.Deep

theorem laidOut : laidOutB Tryd.prog = true := by kernel_rfl
theorem own : ownKnob Tryd.prog.godebug = none := by kernel_rfl

section
variable {H : Type} {P : Program} {enc : TypeId × Value → H} {w : World} {base : Nat} {spare : Nat → Bool} {held : Bool}
theorem bulkAll_eq : ∀ l : List (DataW H), Rows.uptoBulkAll l = (l.map Rows.uptoBulk).sum
  | [] => by simp [Rows.uptoBulkAll]
  | d :: l => by simp only [Rows.uptoBulkAll, List.map_cons, List.sum_cons, bulkAll_eq l]
theorem bulk_slice (es rs : List (DataW H)) : Rows.uptoBulk (.slice es rs) = (es.map Rows.uptoBulk).sum + (rs.map Rows.uptoBulk).sum + 1 := by simp only [Rows.uptoBulk, bulkAll_eq]
theorem bulk_agg (es : List (DataW H)) : Rows.uptoBulk (.agg es) = (es.map Rows.uptoBulk).sum + 1 := by simp only [Rows.uptoBulk, bulkAll_eq]
theorem bulk_nil : Rows.uptoBulk (.nil : DataW H) = 1 := by simp only [Rows.uptoBulk]
theorem bulk_str (l : List UInt8) : Rows.uptoBulk (.lit (.string l) : DataW H) = l.length + 1 := by simp only [Rows.uptoBulk]
theorem bulk_int (k : IntKind) (n : Int) : Rows.uptoBulk (.lit (.int k n) : DataW H) = 1 := by simp only [Rows.uptoBulk]
theorem bulk_bool (b : Bool) : Rows.uptoBulk (.lit (.bool b) : DataW H) = 1 := by simp only [Rows.uptoBulk]

/-- a slice of records: what they are, where they lie, and what they hold together -/
theorem open_recs {t e : TypeId} {fuel : Nat} {cs : List Value} {x : DataW H × List MemPlace} {α : Type} (cells : α → List Value) (wt : α → Nat) (Q : α → Prop) (ht : P.underlying t = some (.slice e))
    (h : DataW.trod enc P w base spare held fuel t cs = some x)
    (hrec : ∀ k cs' y, cs'.length = P.cellsOf e → DataW.trod enc P w base spare held k e cs' = some y → ∃ r, cs' = cells r ∧ Q r ∧ wt r ≤ Rows.uptoBulk y.1) :
    ∃ (p : Option Addr) (c : Nat) (rs : List α), cs = [.slice p rs.length c] ∧ rs.length ≤ c ∧ c ≤ maxLen ∧ Im [] w p (rs.flatMap cells) ∧ (∀ r ∈ rs, Q r) ∧ (rs.map wt).sum + 1 ≤ Rows.uptoBulk x.1 := by
  rcases open_slice ht h with ⟨rfl, rfl⟩ | ⟨a, len, cap, m, n, D, Pl, rfl, _, hl, hm, hmm, rfl, hi⟩
  · exact ⟨none, 0, [], rfl, Nat.le_refl _, Nat.zero_le _, .inl rfl, by simp, by simp [bulk_nil]⟩
  · have hlm : len ≤ m := by rw [hmm]; split <;> omega
    have key : ∀ n : Nat, n ≤ len → ∃ rs : List α, rs.length = n ∧ rs.flatMap cells = (List.range n).flatMap (fun i => (w.cells? base (a.add (i * P.cellsOf e)) (P.cellsOf e)).getD []) ∧ (∀ r ∈ rs, Q r) ∧ (rs.map wt).sum ≤ ((List.range n).map fun i => Rows.uptoBulk (D i)).sum := by
      intro n
      induction n with
      | zero => intro _; exact ⟨[], rfl, rfl, by simp, by simp⟩
      | succ n ih =>
        intro hn
        obtain ⟨rs, h1, h2, h3, h4⟩ := ih (by omega)
        obtain ⟨cs', h5, h6⟩ := hi n (by omega)
        obtain ⟨_, hcl, _⟩ := World.cells?_some h5
        obtain ⟨r, h7, h8, h9⟩ := hrec _ _ _ hcl h6
        refine ⟨rs ++ [r], by simp [h1], ?_, ?_, ?_⟩
        · rw [List.range_succ, List.flatMap_append, List.flatMap_append, h2]
          simp [h5, h7]
        · intro x hx
          rcases List.mem_append.1 hx with hx | hx
          · exact h3 x hx
          · rw [List.mem_singleton.1 hx]; exact h8
        · rw [List.range_succ, List.map_append, List.map_append, List.sum_append, List.sum_append]
          simp only [List.map_cons, List.map_nil, List.sum_cons, List.sum_nil]
          dsimp only at h9
          omega
    obtain ⟨rs, h1, h2, h3, h4⟩ := key len (Nat.le_refl _)
    refine ⟨some a, cap, rs, by rw [h1], by omega, hm, ?_, h3, ?_⟩
    · rw [h2]
      have hsr := seg_range (w := w) (a := a) (k := P.cellsOf e) (fun i => (w.cells? base (a.add (i * P.cellsOf e)) (P.cellsOf e)).getD []) len (fun i hil => by
        obtain ⟨cs', h5, _⟩ := hi i (by omega)
        obtain ⟨_, hcl, hat⟩ := World.cells?_some h5
        rw [h5]
        exact ⟨hcl, fun j hj => hat j (by simpa [hcl] using hj)⟩)
      generalize (List.range len).flatMap (fun i => (w.cells? base (a.add (i * P.cellsOf e)) (P.cellsOf e)).getD []) = L at *
      cases L with
      | nil => exact .inl rfl
      | cons v L =>
        refine .inr ⟨a, rfl, hsr.1, ?_, by simp⟩
        have := hsr.1 0 (by simp)
        have h0 : w.cell? (a.add 0) = some v := this
        have := cell_lt h0
        rwa [add_block] at this
    · rw [bulk_slice, List.map_map]
      have : ((List.range len).map (Rows.uptoBulk ∘ D)).sum = ((List.range len).map fun i => Rows.uptoBulk (D i)).sum := rfl
      omega
theorem str_of (s : ByteArray) : Value.string s = str s.data.toList := by cases s; rfl
/-- a cell that is a text -/
theorem open_strc {t : TypeId} {fuel : Nat} {cs : List Value} {x : DataW H × List MemPlace} (ht : P.underlying t = some .string) (h : DataW.trod enc P w base spare held fuel t cs = some x) : ∃ l : List UInt8, cs = [str l] ∧ Rows.uptoBulk x.1 = l.length + 1 := by
  obtain ⟨s, rfl, rfl, _⟩ := DataW.trod_string ht h
  exact ⟨s.data.toList, by rw [str_of], bulk_str _⟩
theorem open_intc {t : TypeId} {k : IntKind} {fuel : Nat} {cs : List Value} {x : DataW H × List MemPlace} (ht : P.underlying t = some (.int k)) (h : DataW.trod enc P w base spare held fuel t cs = some x) : ∃ n : Int, cs = [.int k n] ∧ k.min ≤ n ∧ n ≤ k.max ∧ Rows.uptoBulk x.1 = 1 := by
  obtain ⟨n, rfl, rfl, hw⟩ := DataW.trod_int ht h
  simp only [Lit.wf, IntKind.has, Bool.and_eq_true, decide_eq_true_eq] at hw
  exact ⟨n, rfl, hw.1, hw.2, bulk_int _ _⟩
theorem open_boolc {t : TypeId} {fuel : Nat} {cs : List Value} {x : DataW H × List MemPlace} (ht : P.underlying t = some .bool) (h : DataW.trod enc P w base spare held fuel t cs = some x) : ∃ b : Bool, cs = [.bool b] ∧ Rows.uptoBulk x.1 = 1 := by
  obtain ⟨b, rfl, rfl⟩ := DataW.trod_bool ht h
  exact ⟨b, rfl, bulk_bool _⟩
theorem small_le {ds : List (DataW H)} (hk : Rows.uptoSmall H ds = true) : (ds.map Rows.uptoBulk).sum ≤ 1048576 := by
  have := of_decide_eq_true hk
  rwa [bulkAll_eq] at this
end
end Go.Proofs.YthgbpgjpnaanlaaDoor

/-
  Readings of attributes: what lies in memory.
-/
set_option linter.unusedSimpArgs false
set_option linter.unusedVariables false
set_option linter.unnecessarySimpa false
namespace Go.Proofs.YthgbpgjpnaanlaaDoor
open Go Go.Sv Go.RowKit Go.ChangeShapes Go.WideShapes Go.Deep

theorem c_str : Tryd.prog.cellsOf 9 = 1 := by kernel_rfl
theorem c_attrs : Tryd.prog.cellsOf 46 = 1 := by kernel_rfl
theorem c_attr : Tryd.prog.cellsOf 51 = 2 := by kernel_rfl
section
variable {H : Type} {enc : TypeId × Value → H} {w : World} {base : Nat} {spare : Nat → Bool} {held : Bool}
set_option maxRecDepth 100000 in
theorem open_at {fuel : Nat} {cs : List Value} {x : DataW H × List MemPlace} (h : DataW.trod enc Tryd.prog w base spare held fuel 51 cs = some x) : ∃ r : At, cs = r.cells ∧ True ∧ r.wt ≤ Rows.uptoBulk x.1 := by
  obtain ⟨xs, n, _, rfl, hl, hlen, hf⟩ := DataW.trod_struct Tryd.underlying51 h
  rw [c_attr] at hl
  have f0 := hf 0 _ rfl
  have f1 := hf 1 _ rfl
  clear hf h
  match cs, hl with
  | [c0, c1], _ =>
    match xs, hlen with
    | [y0, y1], _ =>
      simp only [c_str, List.drop_zero, List.drop_succ_cons, List.take_succ_cons, List.take_zero, List.getElem?_cons_zero, List.getElem?_cons_succ] at f0 f1
      obtain ⟨l0, e0, b0⟩ := open_strc Tryd.underlying9 f0
      obtain ⟨l1, e1, b1⟩ := open_strc Tryd.underlying9 f1
      injection e0 with e0
      injection e1 with e1
      subst e0 e1
      refine ⟨⟨l0, l1⟩, rfl, trivial, ?_⟩
      rw [bulk_agg]
      simp only [List.map_cons, List.map_nil, List.sum_cons, List.sum_nil, b0, b1, At.wt]
      omega
end
end Go.Proofs.YthgbpgjpnaanlaaDoor

/-
  Readings of events: what lies in memory.
-/
set_option linter.unusedSimpArgs false
set_option linter.unusedVariables false
set_option linter.unnecessarySimpa false
namespace Go.Proofs.YthgbpgjpnaanlaaDoor
open Go Go.Sv Go.RowKit Go.ChangeShapes Go.WideShapes Go.Deep
theorem c_ekind : Tryd.prog.cellsOf 45 = 1 := by kernel_rfl
theorem c_ev : Tryd.prog.cellsOf 48 = 4 := by kernel_rfl
section
variable {H : Type} {enc : TypeId × Value → H} {w : World} {base : Nat} {spare : Nat → Bool} {held : Bool}
set_option maxRecDepth 100000 in
theorem open_ev {fuel : Nat} {cs : List Value} {x : DataW H × List MemPlace} (h : DataW.trod enc Tryd.prog w base spare held fuel 48 cs = some x) : ∃ r : EvM, cs = r.cells ∧ Im [] w r.p (r.e.attrs.flatMap At.cells) ∧ r.e.wt ≤ Rows.uptoBulk x.1 := by
  obtain ⟨xs, n, _, rfl, hl, hlen, hf⟩ := DataW.trod_struct Tryd.underlying48 h
  rw [c_ev] at hl
  have f0 := hf 0 _ rfl
  have f1 := hf 1 _ rfl
  have f2 := hf 2 _ rfl
  have f3 := hf 3 _ rfl
  clear hf h
  match cs, hl with
  | [c0, c1, c2, c3], _ =>
    match xs, hlen with
    | [y0, y1, y2, y3], _ =>
      simp only [c_str, c_ekind, c_attrs, List.drop_zero, List.drop_succ_cons, List.take_succ_cons, List.take_zero, List.getElem?_cons_zero, List.getElem?_cons_succ] at f0 f1 f2 f3
      obtain ⟨k, e0, _, _, b0⟩ := open_intc Tryd.underlying45 f0
      obtain ⟨l1, e1, b1⟩ := open_strc Tryd.underlying9 f1
      obtain ⟨l2, e2, b2⟩ := open_strc Tryd.underlying9 f2
      obtain ⟨p, c, es, e3, _, _, him, _, b3⟩ := open_recs At.cells At.wt (fun _ => True) Tryd.underlying46 f3 (fun k cs' y _ hy => open_at hy)
      injection e0 with e0; injection e1 with e1; injection e2 with e2; injection e3 with e3
      subst e0 e1 e2 e3
      refine ⟨⟨⟨k, l1, l2, es⟩, p, c⟩, rfl, him, ?_⟩
      simp only [bulk_agg, List.map_cons, List.map_nil, List.sum_cons, List.sum_nil, b0, b1, b2]
      unfold Ev.wt
      dsimp only at b3 ⊢
      omega
set_option maxRecDepth 100000 in
theorem open_evs {v : Value} {d : DataW H} {ps : List MemPlace} {r : Reach} {b0 : Nat} (hv : Value.okWide Tryd.prog w r b0 25 v) (h : DataW.Trod enc Tryd.prog w base spare held 25 v d ps) :
    ∃ (p : Option Addr) (c : Nat) (ms : List EvM), v = .slice p ms.length c ∧ Evs w p ms ∧ evw ms + 1 ≤ Rows.uptoBulk d := by
  obtain ⟨a, n, cc, rfl⟩ := okWide_slice Tryd.underlying25 hv
  obtain ⟨fuel, hf⟩ := h
  obtain ⟨p, c, ms, e, _, _, him, hQ, hw⟩ := open_recs EvM.cells (fun m => m.e.wt) (fun m => Im [] w m.p (m.e.attrs.flatMap At.cells)) Tryd.underlying25 hf (fun k cs' y _ hy => open_ev hy)
  have e' : Value.slice a n cc = .slice p ms.length c := by simpa [Value.cells] using e
  exact ⟨p, c, ms, e', ⟨him, hQ⟩, hw⟩
end
end Go.Proofs.YthgbpgjpnaanlaaDoor

/-
  Readings of arguments of one cell: texts.
-/
set_option linter.unusedSimpArgs false
set_option linter.unusedVariables false
set_option linter.unnecessarySimpa false
namespace Go.Proofs.YthgbpgjpnaanlaaDoor
open Go Go.Sv Go.RowKit Go.ChangeShapes Go.WideShapes Go.Deep
section
variable {H : Type} {enc : TypeId × Value → H} {w : World} {base : Nat} {spare : Nat → Bool} {held : Bool}
set_option maxRecDepth 100000 in
theorem open_str1 {v : Value} {d : DataW H} {ps : List MemPlace} {r : Reach} {b0 : Nat} (hv : Value.okWide Tryd.prog w r b0 9 v) (h : DataW.Trod enc Tryd.prog w base spare held 9 v d ps) :
    ∃ l : List UInt8, v = str l ∧ l.length + 1 ≤ Rows.uptoBulk d := by
  obtain ⟨s, rfl⟩ := okWide_string Tryd.underlying9 hv
  obtain ⟨fuel, hf⟩ := h
  obtain ⟨l, e, hw⟩ := open_strc Tryd.underlying9 hf
  dsimp only at hw
  exact ⟨l, by simpa [Value.cells] using e, by omega⟩
end
end Go.Proofs.YthgbpgjpnaanlaaDoor

/-
  What a row's list says of the table of blanks; a world for the witness.
-/
set_option linter.unusedSimpArgs false
set_option linter.unusedVariables false
set_option linter.unnecessarySimpa false
namespace Go.Proofs.YthgbpgjpnaanlaaDoor
open Go Go.Sv Go.RowKit Go.ChangeShapes Go.WideShapes Go.ChangeAt

theorem laid_at {P : Program} {W : World} {name : String} {d : DataW Unit} : ∀ {laid : List (String × DataW Unit)} {ps : List MemPlace}, DataW.LaidVars P W laid ps → (name, d) ∈ laid →
    ∃ g t cs fuel p, P.globalNamed name = some g ∧ (P.globals[g]?).map (·.type) = some t ∧ W.var? P name = some cs ∧ DataW.trod (fun _ => ()) P W 0 (fun _ => true) false fuel t cs.toList = some (d, p)
  | [], _, _, hm => by cases hm
  | x :: laid, ps, h, hm => by
    obtain ⟨g', t', cs, fuel, p, q, hg', ht', hvar, hd, hr, _⟩ := h
    rcases List.mem_cons.1 hm with rfl | hm
    · exact ⟨g', t', cs, fuel, p, hg', ht', hvar, hd⟩
    · exact laid_at hr hm
theorem gAscType : (Tryd.prog.globals[0]?).map (·.type) = some 160 := by kernel_rfl
set_option maxRecDepth 100000 in
theorem asc_of {W : World} {laid : List (String × DataW Unit)} (h : laidMet Tryd.prog laid W) (hm : ("strings.asciiSpace", Rows.laid_strings_asciiSpace) ∈ laid) : Asc W := by
  obtain ⟨ps, hL, _⟩ := h
  obtain ⟨g', t', cs, fuel, p, hg', ht', hvar, hd⟩ := laid_at hL hm
  obtain rfl := Option.some.inj (gAsc.symm.trans hg')
  obtain rfl := Option.some.inj (gAscType.symm.trans ht')
  have e : (Rows.laid_strings_asciiSpace : DataW Unit) = Lib.tabData .u8 Lib.asciiSpaceTab := by kernel_rfl
  rw [e] at hd
  unfold Asc Lib.TabIs
  rw [hvar, ← Lib.cells_of_tab Tryd.underlying160 Tryd.underlying5 (by kernel_rfl) (by kernel_rfl) hd]
/-- a world for the witness: the variables hold what their initialisers lay -/
noncomputable def ascHeap (h : Array Obj) : Array Obj :=
  (((h.modify 0 fun | .cells _ t f => .cells (Lib.asciiSpaceTab.map fun z => Value.int .u8 z).toArray t f | o => o).modify 1 fun
    | .cells _ t f => .cells #[.pointer (some ⟨h.size, 0, none⟩)] t f | o => o).push (.cells #[.slice (some ⟨h.size + 1, 0, none⟩) 7 7, .slice none 0 0, .int .i64 2] 201 (0, 0))).push
    (.cells (([9, 13, 1, 32, 133, 101, 160, 5760, 5600, 8192, 8202, 1, 8232, 8233, 1, 8239, 8287, 48, 12288, 12288, 1] : List Int).map fun z => Value.int .u16 z).toArray 204 (0, 0))
noncomputable def ascWorld (os : Os) : World := { World.holding Tryd.prog os ⟨#[], #[], []⟩ with heap := ascHeap (World.holding Tryd.prog os ⟨#[], #[], []⟩).heap }
end Go.Proofs.YthgbpgjpnaanlaaDoor

