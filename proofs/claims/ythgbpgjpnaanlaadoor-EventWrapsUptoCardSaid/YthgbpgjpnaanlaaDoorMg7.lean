/-
  Our texts SvGen, SvEvT, SvPost, SvOpen, SvOpnAt, SvOpn18, SvOpn18b, SvOpn, SvAsc, joined.
-/
import Derived.Test.YthgbpgjpnaanlaaDoorMg6
import Derived.ChangeSame
import Derived.Test.YthgbpgjpnaanlaaDoorRows
import Derived.WalkKit
import Derived.ProofKit
import Derived.OpenShut
import Derived.JoinedCond
import Derived.Deep.Slices
import Derived.WideKeyArgs
import Derived.Lib.LaidTab
import Derived.Deep.DeepHandedRow
import Derived.Deep.DeepWitnessRowRef
/-
  Regions that draw their order, whatever they make: by a plan that says of each operation what it yields, makes and takes.
-/
set_option linter.unusedSimpArgs false
set_option linter.unusedVariables false
set_option linter.unnecessarySimpa false
namespace Go.Sv
open Go Go.RowKit

theorem Sep.perm {w0 w : World} {cs ds : List Plot} (h : Sep w0 w cs) (hp : cs.Perm ds) : Sep w0 w ds :=
  ⟨h.frm, fun c hc => h.ok c (hp.mem_iff.2 hc), fun c hc => h.low c (hp.mem_iff.2 hc), hp.pairwise h.apart fun h x hx hx' => h x hx' hx⟩
theorem filter_insert {α : Type} [DecidableEq α] {k : α} {q : α → Bool} (hq : q k = false) : ∀ {l : List α}, l.Nodup → k ∈ l → (l.filter fun j => decide (j = k) || q j).Perm (k :: l.filter q)
  | [], _, h => by cases h
  | x :: l, hn, hm => by
    rw [List.nodup_cons] at hn
    by_cases e : x = k
    · subst e
      have hrest : l.filter (fun j => decide (j = x) || q j) = l.filter q := by
        refine List.filter_congr fun j hj => ?_
        have : j ≠ x := fun h => hn.1 (h ▸ hj)
        simp [this]
      simp only [List.filter_cons, decide_true, Bool.true_or, if_true, hq, Bool.false_eq_true, if_false, hrest]
      exact List.Perm.refl _
    · have hm' : k ∈ l := by
        rcases List.mem_cons.1 hm with h | h
        · exact absurd h.symm e
        · exact h
      have ih := filter_insert hq hn.2 hm'
      simp only [List.filter_cons, decide_eq_false e, Bool.false_or]
      cases q x with
      | false => simpa using ih
      | true => simpa using (ih.cons x).trans (List.Perm.swap k x _)

structure Plan (D : Type) where
  val : Nat → D → Value
  pl : Nat → D → List Plot
  con : Nat → Option Nat
  fact : Nat → (Nat → D) → Prop
section
variable {D : Type}
def setD (a : Nat → D) (k : Nat) (d : D) : Nat → D := fun j => if j = k then d else a j
theorem setD_same (a : Nat → D) (k : Nat) (d : D) : setD a k d k = d := if_pos rfl
theorem setD_ne (a : Nat → D) {k j : Nat} (d : D) (h : j ≠ k) : setD a k d j = a j := if_neg h
def Plan.live (p : Plan D) (L : Nat → Bool) (j : Nat) : Bool := L j && (match p.con j with | some c => !L c | none => true)
def Plan.mem (p : Plan D) (n : Nat) (L : Nat → Bool) (a : Nat → D) : List Plot := ((List.range n).filter (p.live L)).flatMap fun j => p.pl j (a j)
/-- what operation k takes -/
def Plan.takes (p : Plan D) (n k : Nat) (a : Nat → D) : List Plot := ((List.range n).filter fun j => decide (p.con j = some k)).flatMap fun j => p.pl j (a j)
def Plan.S (p : Plan D) (w0 : World) (cs : List Plot) (σ0 : Env) (ops : List Oper) (L : Nat → Bool) (σ : Env) (w : World) : Prop :=
  (∀ s, (∀ (k : Nat) (o : Oper), ops[k]? = some o → o.dst ≠ some s) → σ s = σ0 s) ∧
  ∃ a : Nat → D, (∀ (k : Nat) (o : Oper), ops[k]? = some o → L k = true → (∀ d, o.dst = some d → σ d = p.val k (a k)) ∧ p.fact k a) ∧ Sep w0 w (p.mem ops.length L a ++ cs)
/-- how operation k goes, by the plan -/
def Plan.Rule (p : Plan D) (P : Program) (w0 : World) (cs : List Plot) (σ0 : Env) (ops : List Oper) (k : Nat) (o : Oper) : Prop :=
  ∀ (a : Nat → D) (σ : Env) (w : World) (rest : List Plot), (∀ s, (∀ (k : Nat) (o : Oper), ops[k]? = some o → o.dst ≠ some s) → σ s = σ0 s) →
    (∀ (j : Nat) (oj : Oper), bindsOn o j = true → ops[j]? = some oj → (∀ d, oj.dst = some d → σ d = p.val j (a j)) ∧ p.fact j a) → Sep w0 w (p.takes ops.length k a ++ (cs ++ rest)) →
    (Region.wanted o (yl ops.toArray σ) = true ∧ comes P (fun v w' => ∃ d, v = p.val k d ∧ p.fact k (setD a k d) ∧ Sep w0 w' (p.pl k d ++ (cs ++ rest))) ((execOp (evl σ) o).run P w)) ∨
    (Region.wanted o (yl ops.toArray σ) = false ∧ ∃ d, undef = p.val k d ∧ p.fact k (setD a k d) ∧ Sep w0 w (p.pl k d ++ (cs ++ rest)))
def Plan.Rules (p : Plan D) (P : Program) (w0 : World) (cs : List Plot) (σ0 : Env) (ops : List Oper) : Nat → List Oper → Prop
  | _, [] => True
  | k, o :: l => p.Rule P w0 cs σ0 ops k o ∧ p.Rules P w0 cs σ0 ops (k + 1) l
/-- the plan's book-keeping: whoever takes waits; targets differ -/
def planB (con : Nat → Option Nat) (ops : List Oper) : Bool :=
  (List.range ops.length).all fun j => (match con j with
    | some c => decide (c < ops.length) && (match ops[c]? with | some oc => bindsOn oc j | none => false)
    | none => true) && (List.range ops.length).all fun i => decide (i = j) || (match ops[i]?, ops[j]? with
      | some oi, some oj => (match oi.dst with | some d => decide (oj.dst ≠ some d) | none => true)
      | _, _ => true)
theorem comes_mono {P : Program} {T T' : Value → World → Prop} (h : ∀ v w, T v w → T' v w) : ∀ {r : Result Next}, comes P T r → comes P T' r := by
  intro r hr
  unfold comes at *
  split at hr
  · exact h _ _ hr
  · exact h _ _ hr
  · exact Calls.mono hr fun e w ⟨v, he, hv⟩ => ⟨v, he, h _ _ hv⟩
  · exact hr.elim
theorem plan_step {p : Plan D} {P : Program} {w0 : World} {cs : List Plot} {σ0 : Env} {ops : List Oper} (hB : planB p.con ops = true)
    (hF : ∀ (j : Nat) (oj : Oper) (a a' : Nat → D), ops[j]? = some oj → a j = a' j → (∀ i, bindsOn oj i = true → a i = a' i) → p.fact j a → p.fact j a') {k : Nat} {o : Oper} (hk : ops[k]? = some o) (h : p.Rule P w0 cs σ0 ops k o) : StepI P ops.toArray (p.S w0 cs σ0 ops) k o := by
  rintro L σ w hu ⟨hσ, a, hA, hS⟩
  have hkn : k < ops.length := by
    rcases Nat.lt_or_ge k ops.length with h | h
    · exact h
    · rw [List.getElem?_eq_none h] at hk; cases hk
  have hcon : ∀ j c, j < ops.length → p.con j = some c → ∃ oc, ops[c]? = some oc ∧ bindsOn oc j = true := by
    intro j c hj hc
    have := List.all_eq_true.1 hB j (List.mem_range.2 hj)
    rw [Bool.and_eq_true, hc] at this
    have h1 := this.1
    simp only [Bool.and_eq_true, decide_eq_true_eq] at h1
    rw [List.getElem?_eq_getElem h1.1] at h1
    exact ⟨_, List.getElem?_eq_getElem h1.1, h1.2⟩
  have hdst : ∀ (i j : Nat) (oi oj : Oper) (d : Nat), ops[i]? = some oi → ops[j]? = some oj → i ≠ j → oi.dst = some d → oj.dst ≠ some d := by
    intro i j oi oj d hi hj hne hd
    have hjn : j < ops.length := (List.getElem?_eq_some_iff.1 hj).1
    have hin : i < ops.length := (List.getElem?_eq_some_iff.1 hi).1
    have := List.all_eq_true.1 hB j (List.mem_range.2 hjn)
    rw [Bool.and_eq_true] at this
    have := List.all_eq_true.1 this.2 i (List.mem_range.2 hin)
    rw [hi, hj] at this
    simp only [hne, decide_false, Bool.false_or, hd, decide_eq_true_eq] at this
    exact this
  -- what k takes, and the rest
  let q : Nat → Bool := fun j => p.live L j && !decide (p.con j = some k)
  let rest : List Plot := ((List.range ops.length).filter q).flatMap fun j => p.pl j (a j)
  have htake : (List.range ops.length).filter (fun j => p.live L j && decide (p.con j = some k)) = (List.range ops.length).filter fun j => decide (p.con j = some k) := by
    refine List.filter_congr fun j hj => ?_
    by_cases hc : p.con j = some k
    · obtain ⟨oc, ho, hb⟩ := hcon j k (List.mem_range.1 hj) hc
      rw [hk] at ho
      injection ho with ho
      subst ho
      have h1 := hu.did j hb
      simp [Plan.live, hc, h1, hu.now]
    · simp [hc]
  have hperm : (p.mem ops.length L a ++ cs).Perm (p.takes ops.length k a ++ (cs ++ rest)) := by
    have h1 : ((List.range ops.length).filter fun j => decide (p.con j = some k)) ++ ((List.range ops.length).filter q) |>.Perm ((List.range ops.length).filter (p.live L)) := by
      have h2 := List.filter_append_perm (fun j => decide (p.con j = some k)) ((List.range ops.length).filter (p.live L))
      rw [List.filter_filter, List.filter_filter] at h2
      rw [← htake]
      refine List.Perm.trans ?_ h2
      refine List.Perm.append (List.Perm.of_eq (List.filter_congr fun j _ => Bool.and_comm _ _)) (List.Perm.of_eq (List.filter_congr fun j _ => Bool.and_comm _ _))
    have h3 := (h1.symm.flatMap_right fun j => p.pl j (a j))
    rw [List.flatMap_append] at h3
    refine (h3.append_right cs).trans ?_
    rw [List.append_assoc]
    exact List.Perm.append_left _ List.perm_append_comm
  have hlive : ∀ d, (p.mem ops.length (on L k) (setD a k d)).Perm (p.pl k d ++ rest) := by
    intro d
    have hq : q k = false := by simp [q, Plan.live, hu.now]
    have hl : (List.range ops.length).filter (p.live (on L k)) = (List.range ops.length).filter fun j => decide (j = k) || q j := by
      refine List.filter_congr fun j hj => ?_
      by_cases e : j = k
      · subst e
        have : (match p.con j with | some c => !(on L j c) | none => true) = true := by
          cases hc : p.con j with
          | none => rfl
          | some c =>
            obtain ⟨oc, ho, hb⟩ := hcon j c hkn hc
            have h1 := hu.ahead c oc (by simpa using ho) hb
            have hne : c ≠ j := by
              intro e
              subst e
              rw [hk] at ho
              injection ho with ho
              subst ho
              have := hu.did c hb
              rw [hu.now] at this
              cases this
            simp [on_ne L hne, h1]
        simp only [Plan.live, on_same, this, Bool.and_self, decide_true, Bool.true_or]
      · simp only [Plan.live, on_ne L e, decide_eq_false e, Bool.false_or, q]
        cases hc : p.con j with
        | none => simp
        | some c =>
          by_cases ec : c = k
          · subst ec; simp [on_same]
          · have : ¬ (some c = some k) := fun h => ec (Option.some.inj h)
            simp [on_ne L ec, this]
    unfold Plan.mem
    rw [hl]
    refine ((filter_insert hq List.nodup_range (List.mem_range.2 hkn)).flatMap_right fun j => p.pl j (setD a k d j)).trans ?_
    rw [List.flatMap_cons, setD_same]
    refine List.Perm.append_left _ (List.Perm.of_eq ?_)
    show _ = List.flatMap (fun j => p.pl j (a j)) (List.filter q (List.range ops.length))
    rw [List.flatMap_def, List.flatMap_def]
    refine congrArg _ (List.map_congr_left fun j hj => ?_)
    have : j ≠ k := by
      rintro rfl
      have := (List.mem_filter.1 hj).2
      rw [hq] at this; cases this
    rw [setD_ne a d this]
  have hnew : ∀ d w', p.fact k (setD a k d) → Sep w0 w' (p.pl k d ++ (cs ++ rest)) → p.S w0 cs σ0 ops (on L k) (updO σ o.dst (p.val k d)) w' := by
    intro d w' hf hS'
    refine ⟨fun s hs => ?_, setD a k d, fun j oj hj hL => ?_, ?_⟩
    · have h1 := hs k o hk
      cases hd : o.dst with
      | none => exact hσ s hs
      | some dd =>
        rw [hd] at h1
        exact (upd_ne σ _ (fun e => h1 (by rw [e]))).trans (hσ s hs)
    · by_cases e : j = k
      · subst e
        rw [hk] at hj
        injection hj with hj
        subst hj
        refine ⟨fun dd hd => ?_, hf⟩
        rw [hd, setD_same]
        exact upd_same σ dd _
      · rw [on_ne L e] at hL
        obtain ⟨h1, h2⟩ := hA j oj hj hL
        refine ⟨fun dd hd => ?_, ?_⟩
        · rw [setD_ne a d e, ← h1 dd hd]
          cases hdo : o.dst with
          | none => rfl
          | some d2 =>
            have := hdst k j o oj d2 hk hj (fun e2 => e e2.symm) hdo
            exact upd_ne σ _ (fun e2 => this (by rw [hd, e2]))
        · refine hF j oj a _ hj (setD_ne a d e).symm (fun i hi => ?_) h2
          have : i ≠ k := by
            rintro rfl
            have := hu.ahead j oj (by simpa using hj) hi
            rw [this] at hL; cases hL
          exact (setD_ne a d this).symm
    · refine hS'.perm ?_
      have h1 : (p.pl k d ++ (cs ++ rest)).Perm ((p.pl k d ++ rest) ++ cs) := by
        rw [List.append_assoc]
        exact List.Perm.append_left _ List.perm_append_comm
      exact h1.trans ((hlive d).symm.append_right cs)
  rcases h a σ w rest hσ (fun j oj hb hj => hA j oj hj (hu.did j hb)) (hS.perm hperm) with ⟨h1, h2⟩ | ⟨h1, d, h2, h3, h4⟩
  · refine .inl ⟨h1, comes_mono (fun v w' => ?_) h2⟩
    rintro ⟨d, rfl, hf, hS'⟩
    exact hnew d w' hf hS'
  · refine .inr ⟨h1, ?_⟩
    rw [h2]
    exact hnew d w h3 h4
theorem plan_steps {p : Plan D} {P : Program} {w0 : World} {cs : List Plot} {σ0 : Env} {ops : List Oper} (hB : planB p.con ops = true)
    (hF : ∀ (j : Nat) (oj : Oper) (a a' : Nat → D), ops[j]? = some oj → a j = a' j → (∀ i, bindsOn oj i = true → a i = a' i) → p.fact j a → p.fact j a') : ∀ (l : List Oper) (k : Nat), (∀ j o, l[j]? = some o → ops[k + j]? = some o) → p.Rules P w0 cs σ0 ops k l → StepsI P ops.toArray (p.S w0 cs σ0 ops) k l
  | [], _, _, _ => trivial
  | o :: l, k, hl, hr => ⟨plan_step hB hF (by simpa using hl 0 o rfl) hr.1, plan_steps hB hF l (k + 1) (fun j o' h => by rw [show k + 1 + j = k + (j + 1) from by omega]; exact hl (j + 1) o' (by simpa using h)) hr.2⟩
/-- a region that draws, by a plan -/
theorem wcplan {P : Program} [hm : Mix P] {n : Nat} {ds : Ctx} {Q : Exit → Ctx → Env → World → Prop} {σ : Env} {w w0 : World} {id : Nat} {ops : List Oper} {cs : List Plot} (p : Plan D) (d0 : D) (hS : Sep w0 w cs)
    (hF : ∀ (j : Nat) (oj : Oper) (a a' : Nat → D), ops[j]? = some oj → a j = a' j → (∀ i, bindsOn oj i = true → a i = a' i) → p.fact j a → p.fact j a')
    (hR : p.Rules P w0 cs σ ops 0 ops)
    (hend : ∀ (a : Nat → D) σ' w', (∀ s, (∀ (k : Nat) (o : Oper), ops[k]? = some o → o.dst ≠ some s) → σ' s = σ s) → (∀ (k : Nat) (o : Oper), ops[k]? = some o → (∀ d, o.dst = some d → σ' d = p.val k (a k)) ∧ p.fact k a) →
      Sep w0 w' (((List.range ops.length).filter fun j => (p.con j).isNone).flatMap (fun j => p.pl j (a j)) ++ cs) → Q .normal ds σ' w')
    (hB : planB p.con ops = true := by kernel_rfl) (hf : fwdB ops.toArray = true := by kernel_rfl) (hro : ds.ro = none := by rfl) : WC P n ds (.region id ops.toArray true) Q σ w := by
  refine wcdrawi (p.S w0 cs σ ops) (fun wd hwd => ⟨fun _ _ => rfl, fun _ => d0, fun _ _ _ h => absurd h Bool.false_ne_true, ?_⟩) (plan_steps hB hF ops 0 (fun j o h => by rwa [Nat.zero_add]) hR) ?_ hf hro
  · have e : p.mem ops.length (fun _ => false) (fun _ => d0) = [] := by
      unfold Plan.mem
      rw [List.filter_eq_nil_iff.2 (by intro j _; simp [Plan.live])]
      rfl
    rw [e]
    exact hS.grow hwd
  · rintro L σ' w' hL ⟨hσ, a, hA, hS'⟩
    refine hend a σ' w' hσ (fun k o hk => hA k o hk (hL k (List.getElem?_eq_some_iff.1 hk).1)) ?_
    refine hS'.perm (List.Perm.append_right _ (List.Perm.of_eq ?_))
    unfold Plan.mem
    congr 1
    refine List.filter_congr fun j hj => ?_
    have h1 := hL j (List.mem_range.1 hj)
    simp only [Plan.live, h1, Bool.true_and]
    cases hc : p.con j with
    | none => rfl
    | some c =>
      have := List.all_eq_true.1 hB j hj
      rw [Bool.and_eq_true, hc] at this
      have h2 := this.1
      simp only [Bool.and_eq_true, decide_eq_true_eq] at h2
      simp [hL c h2.1]
end
end Go.Sv
namespace Go.Sv
open Go Go.RowKit
theorem frameOf {σ : Env} (sl : List (Nat × Value)) (h : Has σ sl) : σ = real (updGL (lif σ) sl) := by rw [← real_updL, updL_has h]
theorem notDst {ops : List Oper} {s : Nat} (h : (ops.all fun o => decide (o.dst ≠ some s)) = true) : ∀ (k : Nat) (o : Oper), ops[k]? = some o → o.dst ≠ some s := fun k o hk =>
  of_decide_eq_true (List.all_eq_true.1 h o (List.mem_of_getElem? hk))
section
variable {D : Type} {P : Program} {w0 w w' : World} {cs rest : List Plot} {σ : Env} {d : Option Tmp} {op : Op} {ty : TypeId} {pos : String} {af : Array Edge} {v : Value} {k : Nat} {ops : Array Oper} {T : Value → World → Prop}
/-- an operation of a plan, that has no guard -/
theorem rule_y {B : Prop} {o : Oper} (hy : Y P σ o w v w') (hT : T v w') (hg : o.guard = none := by rfl) :
    (Region.wanted o (yl ops σ) = true ∧ comes P T ((execOp (evl σ) o).run P w)) ∨ B := .inl ⟨by simp [Region.wanted, hg], comes_of_Y hy hT⟩
theorem rule_call {B : Prop} {f : FuncId} [hf : Fnc P f] {args : List Operand} {ats : Array TypeId} {vals : List Value} {R : Value → World → Prop} (hc : CallsR P f vals.toArray w R) (hT : ∀ v w', R v w' → T v w') (ha : args.map (evl σ) = vals) :
    (Region.wanted (⟨d, .call ⟨.value (.func f), args.toArray, ats⟩, ty, pos, af, none⟩ : Oper) (yl ops σ) = true ∧ comes P T ((execOp (evl σ) ⟨d, .call ⟨.value (.func f), args.toArray, ats⟩, ty, pos, af, none⟩).run P w)) ∨ B := by
  refine .inl ⟨by simp [Region.wanted], ?_⟩
  rw [run_call_func]
  have : (args.toArray.map (evl σ)) = vals.toArray := by rw [← ha]; simp
  rw [this]
  exact Calls.mono hc fun e w'' ⟨v, he, hv⟩ => ⟨v, he, hT v w'' hv⟩
variable {t t' e e' : TypeId} {x y : Operand} {zv u : Value} {size bytes i m n c c' : Nat} {p q : Option Addr} {xs news vs : List Value}
/-- a slice written out, of one struct: its piece -/
theorem y_bs1 [hu : Und P t (.slice e)] [hi : Inf P e zv size bytes] (hS : Sep w0 w cs) (hx : evl σ x = .agg ⟨vs⟩) (hv : vs.length = size) (hz : zv.cells.size = size) (hsz : 0 < size) (hm : size ≤ 16777216) :
    ∃ b w', Y P σ ⟨d, .buildSlice t 1 #[(0, x)], ty, pos, af, none⟩ w (.slice (pb b) 1 1) w' ∧ Sep w0 w' (pOwn b vs :: cs) := by
  refine ⟨w.heap.size, w.alloc (.cells ⟨vs⟩ e), Y.val ?_, hS.push (frm_alloc _ _) (own_alloc _ _ _) (by simp [pOwn])⟩
  simp only [execOp, List.map_toArray, List.map_cons, List.map_nil, hx, Sem.run_bind]
  rw [run_buildSlice1 (P := P) (t := t) (e := e) hz (by simpa [Value.cells] using hv) hsz hm]
  rfl
/-- append to the i-th piece -/
theorem y_app [hu : Und P t (.slice e)] [hu' : Und P t' (.slice e')] [hi : Inf P e zv size bytes] (hS : Sep w0 w cs) (i : Nat) (hs : Sg w q news) (hc : cs[i]? = some (pRow size p m c xs)) (hx : evl σ x = .slice p m c) (hy : evl σ y = .slice q n c') (hl : news.length = n * size)
    (h1 : ∀ u ∈ news, u.oneCell' = true) (hz : zv.cells.size = size) (hsz : 0 < size) (hb : (m + n) * bytes ≤ 140737488355328 ∧ m + n ≤ 9223372036854775807) :
    ∃ p' c2 w', Y P σ ⟨d, .call ⟨.builtin .append, #[x, y], #[t, t']⟩, ty, pos, af, none⟩ w (.slice p' (m + n) c2) w' ∧ Sep w0 w' (cs.set i (pRow size p' (m + n) c2 (xs ++ news))) := by
  obtain ⟨p', c2, w', h2, h3, h4⟩ := run_append_row (P := P) (t := t) (tx := t') (ty := ty) (e := e) hz hsz (hS.row i hc) (src_of_sg (tx := t') (c := c') hs hl h1) hb.2 hb.1
  exact ⟨p', c2, w', run_append_op hx hy h2, hS.upd i hc h4 h3⟩
end
end Go.Sv

/-
  sievelaw18: EventWraps.
-/
set_option linter.unusedSimpArgs false
set_option linter.unusedVariables false
set_option linter.unnecessarySimpa false
namespace Go.Proofs.YthgbpgjpnaanlaaDoor
open Go Go.Sv Go.RowKit

/-- what is known in the region that puts the wanted events together -/
structure WrD where
  v : Value
  b : Nat
  q : Option Addr
  c : Nat
  ns : List EvM
def wrP (n : List UInt8) (es : List At) (pa : Option Addr) (ca : Nat) (ms : List EvM) (p : Option Addr) (c : Nat) : Plan WrD where
  val _ d := d.v
  pl k d := match k with
    | 1 => [pOwn d.b (EvM.cells ⟨firstE n es, pa, ca⟩)]
    | 3 => [pRow 4 d.q d.ns.length d.c (d.ns.flatMap EvM.cells), pMany (d.ns.map EvM.row)]
    | 4 => [pRow 4 d.q (1 + d.ns.length) d.c (EvM.cells ⟨firstE n es, pa, ca⟩ ++ d.ns.flatMap EvM.cells), pMany (d.ns.map EvM.row)]
    | 7 => [pOwn d.b (closeM n).cells]
    | 8 => [pRow 4 d.q (1 + d.ns.length + 1) d.c (EvM.cells ⟨firstE n es, pa, ca⟩ ++ d.ns.flatMap EvM.cells ++ (closeM n).cells), pMany (d.ns.map EvM.row)]
    | 9 => [pRow 4 d.q (1 + d.ns.length + 1) d.c (EvM.cells ⟨firstE n es, pa, ca⟩ ++ d.ns.flatMap EvM.cells ++ (closeM n).cells), pMany (d.ns.map EvM.row)]
    | _ => []
  con k := match k with
    | 1 => some 4
    | 3 => some 4
    | 4 => some 8
    | 7 => some 8
    | 8 => some 9
    | _ => none
  fact k a := match k with
    | 0 => (a 0).v = .agg ⟨EvM.cells ⟨firstE n es, pa, ca⟩⟩
    | 1 => (a 1).v = .slice (pb (a 1).b) 1 1
    | 2 => (a 2).v = .slice p ms.length c
    | 3 => (a 3).v = .slice (a 3).q (a 3).ns.length (a 3).c ∧ evs (a 3).ns = evs ms
    | 4 => (a 4).v = .slice (a 4).q (1 + (a 4).ns.length) (a 4).c ∧ evs (a 4).ns = evs ms
    | 5 => (a 5).v = str n
    | 6 => (a 6).v = .agg ⟨(closeM n).cells⟩
    | 7 => (a 7).v = .slice (pb (a 7).b) 1 1
    | 8 => (a 8).v = .slice (a 8).q (1 + (a 8).ns.length + 1) (a 8).c ∧ evs (a 8).ns = evs ms
    | 9 => (a 9).v = .slice (a 9).q (1 + (a 9).ns.length + 1) (a 9).c ∧ evs (a 9).ns = evs ms
    | _ => True
set_option maxHeartbeats 4000000 in
theorem eventWraps_ok (n : List UInt8) (es : List At) (ms : List EvM) (pa p : Option Addr) (ca c : Nat) (hf : (firstE n es).small) (hw : evw ms ≤ 1048573) (w : World) (hA : Asc w) (hi : Im [] w pa (es.flatMap At.cells)) (hE : Evs w p ms) :
    PureC Tryd.prog 6 #[str n, .slice pa es.length ca, .slice p ms.length c] w (.bool true) := by
  have hn : ms.length ≤ 1048573 := by
    have := sum_len (fun m : EvM => m.e.wt) ms (by intro m _; show 1 ≤ Ev.wt m.e; unfold Ev.wt; omega)
    unfold evw at hw; omega
  have hs : ∀ m ∈ ms, m.e.small := fun m hm => Ev.small_of (Nat.le_trans (sum_mem (fun m : EvM => m.e.wt) ms hm) (Nat.le_trans hw (by decide)))
  have hS := Sep.start w
  refine enter (l := [str n, .slice pa es.length ca, .slice p ms.length c]) Tryd.func6 rfl Tryd.ntmps6 (by kernel_rfl) rfl ?_
  refine sgo ?_
  refine wlcall (evOwn_ok ms p c (by omega) hs w w [] hS hE) ?_
  rintro _ w1 ⟨q, cc, ns, rfl, hev, -, hS⟩
  have hnl : ns.length = ms.length := by rw [← evs_len, hev, evs_len]
  have hns : ∀ m ∈ ns, m.e.small := fun m hm => by
    have : m.e ∈ evs ms := by rw [← hev]; exact List.mem_map_of_mem hm
    obtain ⟨m', hm', e⟩ := List.mem_map.1 this
    rw [← e]; exact hs m' hm'
  refine sgo ?_
  refine wlbuild ?_
  refine salloc hS fun b8 w2 hS => ?_
  refine sgo ?_
  refine ssta (vs := [int 1, str n, str [], .slice pa es.length ca]) hS 0 fun w3 hS => ?_
  replace hS : Sep w w3 [pOwn b8 [int 1, str n, str [], .slice pa es.length ca], pRow 4 q ns.length cc (ns.flatMap EvM.cells), pMany (ns.map EvM.row)] := hS
  refine sgo ?_
  refine wlcall (wrap_ok n es ns pa q ca cc hf (by omega) hns w w3 _ hS (hA.frm hS.frm) (hi.sep hS) (Sep.evs hS 1 2 rfl rfl)) ?_
  rintro _ w4 ⟨q1, c1, xs, rfl, hx1, -, hS⟩
  refine sgo ?_
  refine wlcall (wrap_ok n es ns pa q ca cc hf (by omega) hns w w4 _ hS (hA.frm hS.frm) (hi.sep hS) (Sep.evs hS 3 4 rfl rfl)) ?_
  rintro _ w5 ⟨q2, c2, ys, rfl, hx2, -, hS⟩
  rw [hev] at hx1 hx2 ⊢
  refine sgo ?_
  refine wlcall (at_ok ms p c (by omega) hs w w5 _ hS (hE.frm hS.frm)) ?_
  rintro _ w6 ⟨q4, c4, rfl, -, hS⟩
  generalize hk : lkR (evs ms) = k at *
  refine sgo ?_
  refine salloc hS fun b13 w7 hS => ?_
  refine sgo ?_
  refine ssta (vs := [.slice q4 k.stack.length c4, int k.most, int k.at_, int k.err, int k.good]) hS 0 fun w8 hS => ?_
  replace hS : Sep w w8 [pOwn b13 [.slice q4 k.stack.length c4, int k.most, int k.at_, int k.err, int k.good], pRow 1 q4 k.stack.length c4 (strs k.stack), pRow 4 q2 ys.length c2 (ys.flatMap EvM.cells), pMany (ys.map EvM.row), pRow 4 q1 xs.length c1 (xs.flatMap EvM.cells), pMany (xs.map EvM.row),
    pOwn b8 [int 1, str n, str [], .slice pa es.length ca], pRow 4 q ns.length cc (ns.flatMap EvM.cells), pMany (ns.map EvM.row)] := hS
  replace hS := hS.front 6 rfl
  have hCk : wrapC (firstE n es) k = if evR (firstE n es) = false then 180 else if k.err = 0 ∧ 0 < k.stack.length then 181 else k.err := by
    unfold wrapC
    by_cases h1 : evR (firstE n es) = false
    · rw [if_pos h1, if_pos h1]
    · rw [if_neg h1, if_neg h1]
      by_cases h2 : k.err = 0
      · by_cases h3 : k.stack = []
        · simp [h2, h3]
        · have := List.length_pos_iff.2 h3
          simp [h2, h3, this]
      · simp [h2]
  generalize hCg : wrapC (firstE n es) k = C at *
  refine sgo ?_
  refine wcutt (X := Unit) (fun _ => [(0, str n), (1, .slice pa es.length ca), (2, .slice p ms.length c), (7, .slice q ns.length cc), (8, ptrAt (pb b8) 0), (9, .slice q1 xs.length c1), (10, int C), (11, .slice q2 ys.length c2), (13, ptrAt (pb b13) 0), (14, int (if k.err = 0 ∧ 0 < k.stack.length then 181 else k.err))])
    (fun _ w' => w' = w8) ?_ ?_
  · (show WC _ _ _ _ _ _ _; first | refine WC_dec rfl (fun hc => ?_) (fun hc => ?_) | refine WC_cond rfl (fun hc => ?_) (fun hc => ?_))
    · have hc' : k.err = 0 ∧ 0 < k.stack.length := by
        simp only [pkb_and, Bool.and_eq_true, decide_eq_true_eq] at hc
        exact ⟨hc.1, by omega⟩
      rw [if_pos hc']
      refine sgo ?_
      exact ⟨(), ⟨rfl, rfl, rfl, rfl, rfl, rfl, rfl, rfl, rfl, rfl, trivial⟩, rfl⟩
    · have hc' : ¬ (k.err = 0 ∧ 0 < k.stack.length) := by
        simp only [pkb_and, Bool.and_eq_false_iff, decide_eq_false_iff_not] at hc
        omega
      rw [if_neg hc']
      refine sgo ?_
      exact ⟨(), ⟨rfl, rfl, rfl, rfl, rfl, rfl, rfl, rfl, rfl, rfl, trivial⟩, rfl⟩
  rintro _ w9 ρ rfl
  refine sgo ?_
  refine wlpure (refEvCheck_ok (firstE n es) pa ca hf w9 (hi.sep hS)) fun w10 hf10 => ?_
  replace hS := hS.grow hf10
  refine sgo ?_
  refine wcutt (X := Unit) (fun _ => [(0, str n), (1, .slice pa es.length ca), (2, .slice p ms.length c), (7, .slice q ns.length cc), (8, ptrAt (pb b8) 0), (9, .slice q1 xs.length c1), (10, int C), (11, .slice q2 ys.length c2), (13, ptrAt (pb b13) 0), (14, int C)])
    (fun _ w' => w' = w10) ?_ ?_
  · cases he : evR (firstE n es) with
    | false =>
      rw [if_pos he] at hCk
      subst hCk
      refine sgo ?_
      exact ⟨(), ⟨rfl, rfl, rfl, rfl, rfl, rfl, rfl, rfl, rfl, rfl, trivial⟩, rfl⟩
    | true =>
      rw [if_neg (by simp [he])] at hCk
      rw [← hCk]
      refine sgo ?_
      exact ⟨(), ⟨rfl, rfl, rfl, rfl, rfl, rfl, rfl, rfl, rfl, rfl, trivial⟩, rfl⟩
  rintro _ w11 ρ2 rfl
  refine sgo ?_
  refine wlpure (num18_ok C _) fun w12 hf12 => ?_
  replace hS := hS.grow hf12
  refine sgo ?_
  refine wcno ?_ (ht := by simp)
  refine sgo ?_
  by_cases h0 : C = 0
  · refine wcno ?_ (ht := by simpa using h0)
    rw [wrapE, hk, hCg, if_pos h0] at hx1 hx2
    clear hCk hCg
    have hA0 := hA
    clear hA
    refine sgo ?_
    refine wcplan (wrP n es pa ca ms p c) ⟨.nilIface, 0, none, 0, []⟩ hS (fun j oj a a' hj he _ h => ?_) ⟨?_, ?_, ?_, ?_, ?_, ?_, ?_, ?_, ?_, ?_, trivial⟩ ?_
    · have hjl : j < 10 := (List.getElem?_eq_some_iff.1 hj).1
      match j, hjl with
      | 0, _ | 1, _ | 2, _ | 3, _ | 4, _ | 5, _ | 6, _ | 7, _ | 8, _ | 9, _ => simp only [wrP] at h ⊢; rw [← he]; exact h
    · intro a σ' w' rest hσ hdep hS'
      have e8 : σ' 8 = ptrAt (pb b8) 0 := (hσ 8 (notDst rfl)).trans rfl
      exact rule_y (y_loada e8 (Sep.sgv hS' 0 rfl) (Nat.le_refl 4) ⟨_, rfl⟩) ⟨⟨.agg ⟨EvM.cells ⟨firstE n es, pa, ca⟩⟩, 0, none, 0, []⟩, rfl, rfl, hS'⟩
    · intro a σ' w' rest hσ hdep hS'
      have h0 := hdep 0 _ rfl rfl
      have e62 := (h0.1 62 rfl).trans h0.2
      obtain ⟨b, w2, hy, hS2⟩ := y_bs1 (P := Tryd.prog) (t := 25) (d := some 63) (x := .tmp 62) (vs := EvM.cells ⟨firstE n es, pa, ca⟩) (size := 4) hS' e62 rfl rfl (by decide) (by decide)
      exact rule_y hy ⟨⟨.slice (pb b) 1 1, b, none, 0, []⟩, rfl, rfl, hS2⟩
    · intro a σ' w' rest hσ hdep hS'
      have e2 : σ' 2 = .slice p ms.length c := (hσ 2 (notDst rfl)).trans rfl
      exact rule_y (Y.val (by simp only [execOp, evl, e2]; rfl)) ⟨⟨.slice p ms.length c, 0, none, 0, []⟩, rfl, rfl, hS'⟩
    · intro a σ' w' rest hσ hdep hS'
      have h2 := hdep 2 _ rfl rfl
      have e64 := (h2.1 64 rfl).trans h2.2
      refine rule_call (vals := [.slice p ms.length c]) (evOwn_ok ms p c (by omega) hs w w' _ hS' (hE.frm hS'.frm)) (fun v w2 hR => ?_) (am1 e64)
      obtain ⟨q3, c3, ns3, rfl, hev3, -, hS2⟩ := hR
      exact ⟨⟨.slice q3 ns3.length c3, 0, q3, c3, ns3⟩, rfl, ⟨rfl, hev3⟩, hS2⟩
    · intro a σ' w' rest hσ hdep hS'
      have h1 := hdep 1 _ rfl rfl
      have h3 := hdep 3 _ rfl rfl
      have e63 := (h1.1 63 rfl).trans h1.2
      have e65 := (h3.1 65 rfl).trans h3.2.1
      have hl3 : (a 3).ns.length = ms.length := by rw [← evs_len, h3.2.2, evs_len]
      have hS1 : Sep w w' (pOwn (a 1).b (EvM.cells ⟨firstE n es, pa, ca⟩) :: pRow 4 (a 3).q (a 3).ns.length (a 3).c ((a 3).ns.flatMap EvM.cells) :: pMany ((a 3).ns.map EvM.row) :: (_ ++ rest)) := hS'
      have hS2 := hS1.turn 0 (c' := pRow 4 (pb (a 1).b) 1 1 (EvM.cells ⟨firstE n es, pa, ca⟩)) rfl (fun h => Row.of_own (n := 1) h rfl (by decide)) (fun x hx => hx)
      obtain ⟨q', c', w2, hy, hS3⟩ := y_app (P := Tryd.prog) (t := 25) (t' := 25) (ty := 25) (d := some 66) (x := .tmp 63) (y := .tmp 65) hS2 0 (hS2.row 1 rfl).sg rfl e63 e65 (fm_len EvM.len _) (by intro u hu; obtain ⟨m, _, hm⟩ := List.mem_flatMap.1 hu; exact ev_one _ _ _ u hm) rfl (by decide) (by omega)
      exact rule_y hy ⟨⟨.slice q' (1 + (a 3).ns.length) c', 0, q', c', (a 3).ns⟩, rfl, ⟨rfl, h3.2.2⟩, hS3.drop 1 rfl⟩
    · intro a σ' w' rest hσ hdep hS'
      have e0 : σ' 0 = str n := (hσ 0 (notDst rfl)).trans rfl
      exact rule_y (Y.val (by simp only [execOp, evl, e0]; rfl)) ⟨⟨str n, 0, none, 0, []⟩, rfl, rfl, hS'⟩
    · intro a σ' w' rest hσ hdep hS'
      have h5 := hdep 5 _ rfl rfl
      have e67 := (h5.1 67 rfl).trans h5.2
      exact rule_y (y_build (cells := (closeM n).cells) (by rw [bm2 (x := .const (int 2)) (y := .tmp 67) (v := int 2) rfl e67]; simp [fillL, setSeg, Value.cells]; rfl)) ⟨⟨.agg ⟨(closeM n).cells⟩, 0, none, 0, []⟩, rfl, rfl, hS'⟩
    · intro a σ' w' rest hσ hdep hS'
      have h6 := hdep 6 _ rfl rfl
      have e68 := (h6.1 68 rfl).trans h6.2
      obtain ⟨b, w2, hy, hS2⟩ := y_bs1 (P := Tryd.prog) (t := 25) (d := some 69) (x := .tmp 68) (vs := (closeM n).cells) (size := 4) hS' e68 rfl rfl (by decide) (by decide)
      exact rule_y hy ⟨⟨.slice (pb b) 1 1, b, none, 0, []⟩, rfl, rfl, hS2⟩
    · intro a σ' w' rest hσ hdep hS'
      have h4 := hdep 4 _ rfl rfl
      have h7 := hdep 7 _ rfl rfl
      have e66 := (h4.1 66 rfl).trans h4.2.1
      have e69 := (h7.1 69 rfl).trans h7.2
      have hl4 : (a 4).ns.length = ms.length := by rw [← evs_len, h4.2.2, evs_len]
      have hS1 : Sep w w' (pRow 4 (a 4).q (1 + (a 4).ns.length) (a 4).c (EvM.cells ⟨firstE n es, pa, ca⟩ ++ (a 4).ns.flatMap EvM.cells) :: pMany ((a 4).ns.map EvM.row) :: pOwn (a 7).b (closeM n).cells :: (_ ++ rest)) := hS'
      obtain ⟨q', c', w2, hy, hS3⟩ := y_app (P := Tryd.prog) (t := 25) (t' := 25) (ty := 25) (d := some 70) (x := .tmp 66) (y := .tmp 69) (n := 1) hS1 0 (hS1.own 2 rfl).sg rfl e66 e69 rfl (ev_one _ _ _) rfl (by decide) (by omega)
      exact rule_y hy ⟨⟨.slice q' (1 + (a 4).ns.length + 1) c', 0, q', c', (a 4).ns⟩, rfl, ⟨rfl, h4.2.2⟩, hS3.drop 2 rfl⟩
    · intro a σ' w' rest hσ hdep hS'
      have h8 := hdep 8 _ rfl rfl
      have e70 := (h8.1 70 rfl).trans h8.2.1
      exact rule_y (Y.val (by simp only [execOp, evl, e70]; rfl)) ⟨⟨.slice (a 8).q (1 + (a 8).ns.length + 1) (a 8).c, 0, (a 8).q, (a 8).c, (a 8).ns⟩, rfl, ⟨rfl, h8.2.2⟩, hS'⟩
    · intro a σ' w' hσ hA' hS'
      have h9 := hA' 9 _ rfl
      have e15 := (h9.1 15 rfl).trans h9.2.1
      have hev9 := h9.2.2
      have hl9 : (a 9).ns.length = ms.length := by rw [← evs_len, hev9, evs_len]
      rw [frameOf (σ := σ') [(2, .slice p ms.length c), (7, .slice q ns.length cc), (9, .slice q1 xs.length c1), (11, .slice q2 ys.length c2), (15, .slice (a 9).q (1 + (a 9).ns.length + 1) (a 9).c)]
        ⟨(hσ 2 (notDst rfl)).trans rfl, (hσ 7 (notDst rfl)).trans rfl, (hσ 9 (notDst rfl)).trans rfl, (hσ 11 (notDst rfl)).trans rfl, e15, trivial⟩]
      replace hS : Sep w w' (pRow 4 (a 9).q (1 + (a 9).ns.length + 1) (a 9).c (EvM.cells ⟨firstE n es, pa, ca⟩ ++ (a 9).ns.flatMap EvM.cells ++ (closeM n).cells) :: pMany ((a 9).ns.map EvM.row) :: pOwn b8 [int 1, str n, str [], .slice pa es.length ca] :: pOwn b13 [.slice q4 k.stack.length c4, int k.most, int k.at_, int k.err, int k.good] :: pRow 1 q4 k.stack.length c4 (strs k.stack) :: pRow 4 q2 ys.length c2 (ys.flatMap EvM.cells) :: pMany (ys.map EvM.row) :: pRow 4 q1 xs.length c1 (xs.flatMap EvM.cells) :: pMany (xs.map EvM.row) ::
        pRow 4 q ns.length cc (ns.flatMap EvM.cells) :: pMany (ns.map EvM.row) :: []) := hS'
      have hfr := hS.frm
      clear hA' e15 h9 hS'
      generalize (a 9).q = q9 at *
      generalize (a 9).c = c9 at *
      generalize (a 9).ns = ns9 at *
      -- the wanted events, as they lie
      let full : List EvM := ⟨firstE n es, pa, ca⟩ :: ns9 ++ [closeM n]
      have hfl : full.length = 1 + ns9.length + 1 := by simp [full]; omega
      have hfe : evs full = firstE n es :: evs ms ++ [closeE n] := by simp only [full]; rw [← hev9]; simp [evs, closeM]
      have hsm : ∀ e ∈ firstE n es :: evs ms ++ [closeE n], e.small := by
        intro e he
        simp only [List.cons_append, List.mem_cons, List.mem_append, List.not_mem_nil, or_false] at he
        rcases he with rfl | he | rfl
        · exact hf
        · obtain ⟨m, hm, rfl⟩ := List.mem_map.1 he; exact hs m hm
        · exact ⟨hf.name, by simp [closeE], by simp [closeE], by simp [closeE]⟩
      have hsmall : ∀ l : List EvM, evs l = firstE n es :: evs ms ++ [closeE n] → ∀ m ∈ l, m.e.small := fun l hl m hm => hsm _ (by rw [← hl]; exact List.mem_map_of_mem hm)
      have hlen : ∀ l : List EvM, evs l = firstE n es :: evs ms ++ [closeE n] → l.length ≤ 1048577 := fun l hl => by rw [← evs_len, hl]; simp [evs_len]; omega
      have hEv : ∀ w2 cs2, Sep w w2 (pRow 4 q9 (1 + ns9.length + 1) c9 (EvM.cells ⟨firstE n es, pa, ca⟩ ++ ns9.flatMap EvM.cells ++ (closeM n).cells) :: pMany (ns9.map EvM.row) :: cs2) → Evs w2 q9 full := by
        intro w2 cs2 h
        refine ⟨?_, fun m hm => ?_⟩
        · have := h.im 0 rfl
          simpa [full, List.flatMap_append, List.flatMap_cons] using this
        · simp only [full, List.cons_append, List.mem_cons, List.mem_append, List.not_mem_nil, or_false] at hm
          rcases hm with rfl | hm | rfl
          · exact hi.sep h
          · exact RowD.im (h.many 1 rfl m.row (List.mem_map_of_mem hm))
          · exact Im.nil _ _ _
      rw [← hfl]
      refine sgo ?_
      refine wlpure (evEqual_ok xs full q1 q9 c1 c9 (hlen xs hx1) (hlen full hfe) (hsmall xs hx1) (hsmall full hfe) w' (Sep.evs hS 7 8 rfl rfl) (hEv _ _ hS)) fun w13 hf13 => ?_
      replace hS := hS.grow hf13
      rw [decide_eq_true (hx1.trans hfe.symm)]
      refine sgo ?_
      refine wlcall (evSpoil_ok xs q1 c1 (by have := hlen xs hx1; omega) (hsmall xs hx1) w w13 _ (((hS.front 8 rfl).front 8 rfl))) ?_
      rintro _ w14 hS
      refine sgo ?_
      refine wlpure (evEqual_ok ys full q2 q9 c2 c9 (hlen ys hx2) (hlen full hfe) (hsmall ys hx2) (hsmall full hfe) w14 (Sep.evs hS 5 6 rfl rfl) (hEv _ _ hS)) fun w15 hf15 => ?_
      replace hS := hS.grow hf15
      rw [decide_eq_true (hx2.trans hfe.symm)]
      refine sgo ?_
      refine wlcallgp (vals := [.slice q ns.length cc, .slice p ms.length c]) (fun _ => evEqual_ok ns ms q p cc c (by omega) (by omega) hns hs w15 (Sep.evs hS 7 8 rfl rfl) (hE.frm hS.frm)) fun w16 hf16 => ?_
      replace hS := hS.grow hf16
      rw [decide_eq_true hev]
      refine sgo ?_
      refine wlcallgp (vals := []) (fun _ => awake18_ok _ (hA0.frm hS.frm)) (fun w17 hf17 => ?_) (ha := fun _ => rfl)
      replace hS := hS.grow hf17
      refine sgo ?_
      (first | refine fp1 (.inl rfl) rfl rfl ?_ | refine fp2 (.inl rfl) rfl rfl rfl ?_ | refine fp3 (.inl rfl) rfl rfl rfl rfl ?_ | refine fp0 (.inr rfl) rfl ?_ | refine fp0 (.inl rfl) rfl ?_ | refine fp1 (.inr rfl) rfl rfl ?_); refine ⟨?_, by (first | exact Frm.refl _ | assumption | exact Go.Sv.Sep.frm (by assumption) | (refine Frm.trans ?_ (by assumption); first | exact Frm.refl _ | assumption))⟩; (try simp only [realB, rv_true, Nat.reduceBEq, cond_true, cond_false, entG, real_lif, updGL])
      simp [pkb]
  · refine wcyes ?_ (ht := by simpa using h0)
    have hxs : xs = [] := by
      rw [wrapE, hk, hCg, if_neg h0] at hx1
      exact List.map_eq_nil_iff.1 hx1
    subst hxs
    refine sgo ?_
    refine wlcallgp (vals := []) (fun _ => awake18_ok _ (hA.frm hS.frm)) (fun w13 hf13 => ?_) (ha := fun _ => rfl)
    replace hS := hS.grow hf13
    refine sgo ?_
    (first | refine fp1 (.inl rfl) rfl rfl ?_ | refine fp2 (.inl rfl) rfl rfl rfl ?_ | refine fp3 (.inl rfl) rfl rfl rfl rfl ?_ | refine fp0 (.inr rfl) rfl ?_ | refine fp0 (.inl rfl) rfl ?_ | refine fp1 (.inr rfl) rfl rfl ?_); refine ⟨?_, by (first | exact Frm.refl _ | assumption | exact Go.Sv.Sep.frm (by assumption) | (refine Frm.trans ?_ (by assumption); first | exact Frm.refl _ | assumption))⟩; (try simp only [realB, rv_true, Nat.reduceBEq, cond_true, cond_false, entG, real_lif, updGL])
    simp [pkb]
end Go.Proofs.YthgbpgjpnaanlaaDoor

/-
  From a frame to what a row asks behind the call: nothing that was there has turned (new blocks may be frozen).
-/
set_option linter.unusedSimpArgs false
set_option linter.unusedVariables false
set_option linter.unnecessarySimpa false
namespace Go.ChangeShapes
section
variable {H : Type} {enc : TypeId × Value → H} {P : Program}
theorem post_frm {f : Func} {s : ChangeSpec} {apart fresh handsOn again : Bool} {W W' : World} {args : Array Value} {v : Value} {ds gs : List (DataW H)} {before pa pv : List MemPlace}
    (hW : DataW.Whole enc P f.params.toList s.vars apart W args.toList ds gs before)
    (hres : ∀ (b : Nat) (sp : Nat → Bool) (hd : Bool), DataW.TrodAll enc P W' b sp hd f.resultTypes.toList (v.resultList f.resultTypes.size) (s.fn H (ds ++ gs)).results [])
    (hargs : ∀ sp : Nat → Bool, (∀ p ∈ before, sp p.block = true) → DataW.TrodAll enc P W' 0 sp true f.params.toList args.toList (s.fn H (ds ++ gs)).args pa)
    (hvars : ∀ sp : Nat → Bool, (∀ p ∈ before, sp p.block = true) → DataW.TrodVars enc P W' sp s.vars (s.fn H (ds ++ gs)).vars pv)
    (hps : before = pa ++ pv) (hk : Sv.Frm W W')
    (hok : ∀ (j : Nat) (t : TypeId) (r : Value), f.resultTypes[j]? = some t → (v.resultList f.resultTypes.size)[j]? = some r → Value.okWide P W' .any 0 t r) :
    s.post enc P f apart fresh handsOn again W args v W' := by
  have hold : ∀ p ∈ before, (fun b => decide (b < W.heap.size)) p.block = true := fun p hp => by simpa using hW.lt p hp
  refine ⟨ds, gs, before, [], pa, pv, hW, hres _ _ _, hargs _ hold, hvars _ hold, World.keptBut_mono (fun p hp => ⟨hp, ?_⟩) (RowKit.Below.frame hk (· ∈ before)), fun _ => ?_⟩
  · rw [hps, List.mem_append] at hp
    exact Or.inr hp
  · have hlt := hW.lt
    obtain ⟨_, _, _, _, _, hz, hn⟩ := hW
    refine ⟨hok, _, _, ([] ++ pa) ++ pv, ⟨[] ++ pa, pv, trodAll_append (hargs _ (fun _ _ => rfl)) (hres _ _ _), hvars _ (fun _ _ => rfl), rfl, ?_, ?_⟩, ?_⟩
    · intro b off hp
      have hp' : (.cell b off : MemPlace) ∈ before := by rw [hps]; simpa using hp
      rw [RowKit.Below.frozen hk (hlt _ hp')]
      exact hz b off hp'
    · intro ha
      have := hn ha
      rw [hps] at this
      simpa using this
    · intro p hp _
      rw [hps]
      simpa using hp
end
end Go.ChangeShapes

/-
  From a reading of the arguments to what lies in memory; and back: a law leaves the arguments as they were.
-/
set_option linter.unusedSimpArgs false
set_option linter.unusedVariables false
set_option linter.unnecessarySimpa false
namespace Go.Sv
open Go Go.RowKit Go.ChangeShapes Go.WideShapes
theorem cell_lt {w : World} {a : Addr} {v : Value} (h : w.cell? a = some v) : a.block < w.heap.size := by
  rcases Nat.lt_or_ge a.block w.heap.size with h1 | h1
  · exact h1
  · have : w.heap[a.block]? = none := Array.getElem?_eq_none h1
    simp [World.cell?, this] at h
theorem seg_app {w : World} {a : Addr} {l l' : List Value} (h : seg w a l) (h' : seg w (a.add l.length) l') : seg w a (l ++ l') := by
  intro i hi
  rcases Nat.lt_or_ge i l.length with h1 | h1
  · rw [h i h1, List.getElem?_append_left h1]
  · have := h' (i - l.length) (by simp at hi; omega)
    rw [add_add, show l.length + (i - l.length) = i by omega] at this
    rw [this, List.getElem?_append_right h1]
theorem seg_range {w : World} {a : Addr} {k : Nat} (f : Nat → List Value) : ∀ n : Nat, (∀ i, i < n → (f i).length = k ∧ seg w (a.add (i * k)) (f i)) → seg w a ((List.range n).flatMap f) ∧ ((List.range n).flatMap f).length = n * k
  | 0, _ => ⟨fun i hi => by simp at hi, by simp⟩
  | n + 1, h => by
    obtain ⟨h1, h2⟩ := seg_range f n fun i hi => h i (by omega)
    obtain ⟨h3, h4⟩ := h n (by omega)
    rw [List.range_succ, List.flatMap_append]
    simp only [List.flatMap_cons, List.flatMap_nil, List.append_nil]
    refine ⟨seg_app h1 (by rw [h2]; exact h4), ?_⟩
    rw [List.length_append, h2, h3, Nat.succ_mul]
/-- a law's ending: it answered true, and left all as it was -/
theorem trodAll_frm {H : Type} {enc : TypeId × Value → H} {P : Program} (hl : laidOutB P = true) {W W' : World} (hf : Sv.Frm W W') {sp : Nat → Bool} : ∀ {ts : List TypeId} {vs : List Value} {ds : List (DataW H)} {ps : List MemPlace},
    (∀ t ∈ ts, P.readableRec t = true ∧ t < P.types.size) → DataW.TrodAll enc P W 0 (fun _ => true) true ts vs ds ps → (∀ p ∈ ps, p.block < W.heap.size) → (∀ p ∈ ps, sp p.block = true) → DataW.TrodAll enc P W' 0 sp true ts vs ds ps
  | [], [], [], _, _, h, _, _ => h
  | t :: ts, v :: vs, d :: ds, _, ht, ⟨p, q, h1, h2, e⟩, hlt, hs => by
    subst e
    refine ⟨p, q, ?_, ?_, rfl⟩
    · obtain ⟨hr, hrow⟩ := ht t List.mem_cons_self
      exact WideElems.Trod_stays hl hr hrow h1 (fun x hx => RowKit.Below.same hf (hlt x (List.mem_append_left _ hx))) fun x hx => hs x (List.mem_append_left _ hx)
    · exact trodAll_frm hl hf (fun t ht' => ht t (List.mem_cons_of_mem _ ht')) h2 (fun x hx => hlt x (List.mem_append_right _ hx)) fun x hx => hs x (List.mem_append_right _ hx)
theorem law_ends {H : Type} {enc : TypeId × Value → H} {P : Program} {f : Func} {s : ChangeSpec} {W W' : World} {args : Array Value} {ds gs : List (DataW H)} {before : List MemPlace} {tb : TypeId}
    (hl : laidOutB P = true) (hT : ∀ t ∈ f.params.toList, P.readableRec t = true ∧ t < P.types.size) (hv : s.vars = []) (hrt : f.resultTypes = #[tb]) (hb : P.underlying tb = some .bool)
    (hW : DataW.Whole enc P f.params.toList s.vars false W args.toList ds gs before) (hfn : s.fn H (ds ++ gs) = { results := [.lit (.bool true)], args := ds ++ gs }) (hg : Frm W W') :
    s.post enc P f false true false false W args (.bool true) W' := by
  have hW' := hW
  have hlt := hW.lt
  obtain ⟨p, q, hA, hV, rfl, _, _⟩ := hW
  rw [hv] at hV
  obtain ⟨rfl, rfl⟩ := trodVars_none hV
  have hrl : (Value.bool true).resultList f.resultTypes.size = [.bool true] := by rw [hrt]; rfl
  simp only [List.append_nil] at hlt hfn
  refine post_frm (pa := p) (pv := []) hW' (fun _ _ _ => ?_) (fun sp hsp => ?_) (fun _ _ => ?_) rfl hg (ok_one hrt rfl (okWide_bool_mk hb _))
  · rw [hrt]
    simp only [List.append_nil, hfn]
    exact trodAll_cons_mk (shut_bool hb _) trodAll_mk0
  · simp only [List.append_nil, hfn]
    exact trodAll_frm hl hg hT hA hlt (fun x hx => hsp x (by simpa using hx))
  · simp only [List.append_nil, hfn, hv]
    rfl
end Go.Sv
namespace Go.Proofs.YthgbpgjpnaanlaaDoor
open Go Go.Sv Go.RowKit Go.ChangeShapes Go.WideShapes Go.Deep

theorem laidOut : laidOutB Tryd.prog = true := by kernel_rfl
theorem own : ownKnob Tryd.prog.godebug = none := by kernel_rfl

section
variable {H : Type} {P : Program} {enc : TypeId × Value → H} {w : World} {base : Nat} {spare : Nat → Bool} {held : Bool}
theorem bulkAll_eq : ∀ l : List (DataW H), Rows.uptoBulkAll l = (l.map Rows.uptoBulk).sum
  | [] => by simp [Rows.uptoBulkAll]
  | d :: l => by simp only [Rows.uptoBulkAll, List.map_cons, List.sum_cons, bulkAll_eq l]
theorem bulk_slice (es rs : List (DataW H)) : Rows.uptoBulk (.slice es rs) = (es.map Rows.uptoBulk).sum + (rs.map Rows.uptoBulk).sum + 1 := by simp only [Rows.uptoBulk, bulkAll_eq]
theorem bulk_agg (es : List (DataW H)) : Rows.uptoBulk (.agg es) = (es.map Rows.uptoBulk).sum + 1 := by simp only [Rows.uptoBulk, bulkAll_eq]
theorem bulk_nil : Rows.uptoBulk (.nil : DataW H) = 1 := by simp only [Rows.uptoBulk]
theorem bulk_str (l : List UInt8) : Rows.uptoBulk (.lit (.string l) : DataW H) = l.length + 1 := by simp only [Rows.uptoBulk]
theorem bulk_int (k : IntKind) (n : Int) : Rows.uptoBulk (.lit (.int k n) : DataW H) = 1 := by simp only [Rows.uptoBulk]
theorem bulk_bool (b : Bool) : Rows.uptoBulk (.lit (.bool b) : DataW H) = 1 := by simp only [Rows.uptoBulk]

/-- a slice of records: what they are, where they lie, and what they hold together -/
theorem open_recs {t e : TypeId} {fuel : Nat} {cs : List Value} {x : DataW H × List MemPlace} {α : Type} (cells : α → List Value) (wt : α → Nat) (Q : α → Prop) (ht : P.underlying t = some (.slice e))
    (h : DataW.trod enc P w base spare held fuel t cs = some x)
    (hrec : ∀ k cs' y, cs'.length = P.cellsOf e → DataW.trod enc P w base spare held k e cs' = some y → ∃ r, cs' = cells r ∧ Q r ∧ wt r ≤ Rows.uptoBulk y.1) :
    ∃ (p : Option Addr) (c : Nat) (rs : List α), cs = [.slice p rs.length c] ∧ rs.length ≤ c ∧ c ≤ maxLen ∧ Im [] w p (rs.flatMap cells) ∧ (∀ r ∈ rs, Q r) ∧ (rs.map wt).sum + 1 ≤ Rows.uptoBulk x.1 := by
  rcases open_slice ht h with ⟨rfl, rfl⟩ | ⟨a, len, cap, m, n, D, Pl, rfl, _, hl, hm, hmm, rfl, hi⟩
  · exact ⟨none, 0, [], rfl, Nat.le_refl _, Nat.zero_le _, .inl rfl, by simp, by simp [bulk_nil]⟩
  · have hlm : len ≤ m := by rw [hmm]; split <;> omega
    have key : ∀ n : Nat, n ≤ len → ∃ rs : List α, rs.length = n ∧ rs.flatMap cells = (List.range n).flatMap (fun i => (w.cells? base (a.add (i * P.cellsOf e)) (P.cellsOf e)).getD []) ∧ (∀ r ∈ rs, Q r) ∧ (rs.map wt).sum ≤ ((List.range n).map fun i => Rows.uptoBulk (D i)).sum := by
      intro n
      induction n with
      | zero => intro _; exact ⟨[], rfl, rfl, by simp, by simp⟩
      | succ n ih =>
        intro hn
        obtain ⟨rs, h1, h2, h3, h4⟩ := ih (by omega)
        obtain ⟨cs', h5, h6⟩ := hi n (by omega)
        obtain ⟨_, hcl, _⟩ := World.cells?_some h5
        obtain ⟨r, h7, h8, h9⟩ := hrec _ _ _ hcl h6
        refine ⟨rs ++ [r], by simp [h1], ?_, ?_, ?_⟩
        · rw [List.range_succ, List.flatMap_append, List.flatMap_append, h2]
          simp [h5, h7]
        · intro x hx
          rcases List.mem_append.1 hx with hx | hx
          · exact h3 x hx
          · rw [List.mem_singleton.1 hx]; exact h8
        · rw [List.range_succ, List.map_append, List.map_append, List.sum_append, List.sum_append]
          simp only [List.map_cons, List.map_nil, List.sum_cons, List.sum_nil]
          dsimp only at h9
          omega
    obtain ⟨rs, h1, h2, h3, h4⟩ := key len (Nat.le_refl _)
    refine ⟨some a, cap, rs, by rw [h1], by omega, hm, ?_, h3, ?_⟩
    · rw [h2]
      have hsr := seg_range (w := w) (a := a) (k := P.cellsOf e) (fun i => (w.cells? base (a.add (i * P.cellsOf e)) (P.cellsOf e)).getD []) len (fun i hil => by
        obtain ⟨cs', h5, _⟩ := hi i (by omega)
        obtain ⟨_, hcl, hat⟩ := World.cells?_some h5
        rw [h5]
        exact ⟨hcl, fun j hj => hat j (by simpa [hcl] using hj)⟩)
      generalize (List.range len).flatMap (fun i => (w.cells? base (a.add (i * P.cellsOf e)) (P.cellsOf e)).getD []) = L at *
      cases L with
      | nil => exact .inl rfl
      | cons v L =>
        refine .inr ⟨a, rfl, hsr.1, ?_, by simp⟩
        have := hsr.1 0 (by simp)
        have h0 : w.cell? (a.add 0) = some v := this
        have := cell_lt h0
        rwa [add_block] at this
    · rw [bulk_slice, List.map_map]
      have : ((List.range len).map (Rows.uptoBulk ∘ D)).sum = ((List.range len).map fun i => Rows.uptoBulk (D i)).sum := rfl
      omega
theorem str_of (s : ByteArray) : Value.string s = str s.data.toList := by cases s; rfl
/-- a cell that is a text -/
theorem open_strc {t : TypeId} {fuel : Nat} {cs : List Value} {x : DataW H × List MemPlace} (ht : P.underlying t = some .string) (h : DataW.trod enc P w base spare held fuel t cs = some x) : ∃ l : List UInt8, cs = [str l] ∧ Rows.uptoBulk x.1 = l.length + 1 := by
  obtain ⟨s, rfl, rfl, _⟩ := DataW.trod_string ht h
  exact ⟨s.data.toList, by rw [str_of], bulk_str _⟩
theorem open_intc {t : TypeId} {k : IntKind} {fuel : Nat} {cs : List Value} {x : DataW H × List MemPlace} (ht : P.underlying t = some (.int k)) (h : DataW.trod enc P w base spare held fuel t cs = some x) : ∃ n : Int, cs = [.int k n] ∧ k.min ≤ n ∧ n ≤ k.max ∧ Rows.uptoBulk x.1 = 1 := by
  obtain ⟨n, rfl, rfl, hw⟩ := DataW.trod_int ht h
  simp only [Lit.wf, IntKind.has, Bool.and_eq_true, decide_eq_true_eq] at hw
  exact ⟨n, rfl, hw.1, hw.2, bulk_int _ _⟩
theorem open_boolc {t : TypeId} {fuel : Nat} {cs : List Value} {x : DataW H × List MemPlace} (ht : P.underlying t = some .bool) (h : DataW.trod enc P w base spare held fuel t cs = some x) : ∃ b : Bool, cs = [.bool b] ∧ Rows.uptoBulk x.1 = 1 := by
  obtain ⟨b, rfl, rfl⟩ := DataW.trod_bool ht h
  exact ⟨b, rfl, bulk_bool _⟩
theorem small_le {ds : List (DataW H)} (hk : Rows.uptoSmall H ds = true) : (ds.map Rows.uptoBulk).sum ≤ 1048576 := by
  have := of_decide_eq_true hk
  rwa [bulkAll_eq] at this
end
end Go.Proofs.YthgbpgjpnaanlaaDoor

/-
  Readings of attributes: what lies in memory.
-/
set_option linter.unusedSimpArgs false
set_option linter.unusedVariables false
set_option linter.unnecessarySimpa false
namespace Go.Proofs.YthgbpgjpnaanlaaDoor
open Go Go.Sv Go.RowKit Go.ChangeShapes Go.WideShapes Go.Deep

theorem c_str : Tryd.prog.cellsOf 9 = 1 := by kernel_rfl
theorem c_attrs : Tryd.prog.cellsOf 46 = 1 := by kernel_rfl
theorem c_attr : Tryd.prog.cellsOf 51 = 2 := by kernel_rfl
section
variable {H : Type} {enc : TypeId × Value → H} {w : World} {base : Nat} {spare : Nat → Bool} {held : Bool}
set_option maxRecDepth 100000 in
theorem open_at {fuel : Nat} {cs : List Value} {x : DataW H × List MemPlace} (h : DataW.trod enc Tryd.prog w base spare held fuel 51 cs = some x) : ∃ r : At, cs = r.cells ∧ True ∧ r.wt ≤ Rows.uptoBulk x.1 := by
  obtain ⟨xs, n, _, rfl, hl, hlen, hf⟩ := DataW.trod_struct Tryd.underlying51 h
  rw [c_attr] at hl
  have f0 := hf 0 _ rfl
  have f1 := hf 1 _ rfl
  clear hf h
  match cs, hl with
  | [c0, c1], _ =>
    match xs, hlen with
    | [y0, y1], _ =>
      simp only [c_str, List.drop_zero, List.drop_succ_cons, List.take_succ_cons, List.take_zero, List.getElem?_cons_zero, List.getElem?_cons_succ] at f0 f1
      obtain ⟨l0, e0, b0⟩ := open_strc Tryd.underlying9 f0
      obtain ⟨l1, e1, b1⟩ := open_strc Tryd.underlying9 f1
      injection e0 with e0
      injection e1 with e1
      subst e0 e1
      refine ⟨⟨l0, l1⟩, rfl, trivial, ?_⟩
      rw [bulk_agg]
      simp only [List.map_cons, List.map_nil, List.sum_cons, List.sum_nil, b0, b1, At.wt]
      omega
end
end Go.Proofs.YthgbpgjpnaanlaaDoor

/-
  Readings of events: what lies in memory.
-/
set_option linter.unusedSimpArgs false
set_option linter.unusedVariables false
set_option linter.unnecessarySimpa false
namespace Go.Proofs.YthgbpgjpnaanlaaDoor
open Go Go.Sv Go.RowKit Go.ChangeShapes Go.WideShapes Go.Deep
theorem c_ekind : Tryd.prog.cellsOf 45 = 1 := by kernel_rfl
theorem c_ev : Tryd.prog.cellsOf 48 = 4 := by kernel_rfl
section
variable {H : Type} {enc : TypeId × Value → H} {w : World} {base : Nat} {spare : Nat → Bool} {held : Bool}
set_option maxRecDepth 100000 in
theorem open_ev {fuel : Nat} {cs : List Value} {x : DataW H × List MemPlace} (h : DataW.trod enc Tryd.prog w base spare held fuel 48 cs = some x) : ∃ r : EvM, cs = r.cells ∧ Im [] w r.p (r.e.attrs.flatMap At.cells) ∧ r.e.wt ≤ Rows.uptoBulk x.1 := by
  obtain ⟨xs, n, _, rfl, hl, hlen, hf⟩ := DataW.trod_struct Tryd.underlying48 h
  rw [c_ev] at hl
  have f0 := hf 0 _ rfl
  have f1 := hf 1 _ rfl
  have f2 := hf 2 _ rfl
  have f3 := hf 3 _ rfl
  clear hf h
  match cs, hl with
  | [c0, c1, c2, c3], _ =>
    match xs, hlen with
    | [y0, y1, y2, y3], _ =>
      simp only [c_str, c_ekind, c_attrs, List.drop_zero, List.drop_succ_cons, List.take_succ_cons, List.take_zero, List.getElem?_cons_zero, List.getElem?_cons_succ] at f0 f1 f2 f3
      obtain ⟨k, e0, _, _, b0⟩ := open_intc Tryd.underlying45 f0
      obtain ⟨l1, e1, b1⟩ := open_strc Tryd.underlying9 f1
      obtain ⟨l2, e2, b2⟩ := open_strc Tryd.underlying9 f2
      obtain ⟨p, c, es, e3, _, _, him, _, b3⟩ := open_recs At.cells At.wt (fun _ => True) Tryd.underlying46 f3 (fun k cs' y _ hy => open_at hy)
      injection e0 with e0; injection e1 with e1; injection e2 with e2; injection e3 with e3
      subst e0 e1 e2 e3
      refine ⟨⟨⟨k, l1, l2, es⟩, p, c⟩, rfl, him, ?_⟩
      simp only [bulk_agg, List.map_cons, List.map_nil, List.sum_cons, List.sum_nil, b0, b1, b2]
      unfold Ev.wt
      dsimp only at b3 ⊢
      omega
set_option maxRecDepth 100000 in
theorem open_evs {v : Value} {d : DataW H} {ps : List MemPlace} {r : Reach} {b0 : Nat} (hv : Value.okWide Tryd.prog w r b0 25 v) (h : DataW.Trod enc Tryd.prog w base spare held 25 v d ps) :
    ∃ (p : Option Addr) (c : Nat) (ms : List EvM), v = .slice p ms.length c ∧ Evs w p ms ∧ evw ms + 1 ≤ Rows.uptoBulk d := by
  obtain ⟨a, n, cc, rfl⟩ := okWide_slice Tryd.underlying25 hv
  obtain ⟨fuel, hf⟩ := h
  obtain ⟨p, c, ms, e, _, _, him, hQ, hw⟩ := open_recs EvM.cells (fun m => m.e.wt) (fun m => Im [] w m.p (m.e.attrs.flatMap At.cells)) Tryd.underlying25 hf (fun k cs' y _ hy => open_ev hy)
  have e' : Value.slice a n cc = .slice p ms.length c := by simpa [Value.cells] using e
  exact ⟨p, c, ms, e', ⟨him, hQ⟩, hw⟩
end
end Go.Proofs.YthgbpgjpnaanlaaDoor

/-
  Readings of lists of attributes.
-/
set_option linter.unusedSimpArgs false
set_option linter.unusedVariables false
set_option linter.unnecessarySimpa false
namespace Go.Proofs.YthgbpgjpnaanlaaDoor
open Go Go.Sv Go.RowKit Go.ChangeShapes Go.WideShapes Go.Deep
set_option maxRecDepth 100000 in
theorem open_ats {H : Type} {enc : TypeId × Value → H} {w : World} {base : Nat} {spare : Nat → Bool} {held : Bool} {v : Value} {d : DataW H} {ps : List MemPlace} {r : Reach} {b0 : Nat} (hv : Value.okWide Tryd.prog w r b0 46 v) (h : DataW.Trod enc Tryd.prog w base spare held 46 v d ps) :
    ∃ (p : Option Addr) (c : Nat) (es : List At), v = .slice p es.length c ∧ Im [] w p (es.flatMap At.cells) ∧ (es.map At.wt).sum + 1 ≤ Rows.uptoBulk d := by
  obtain ⟨a, n, cc, rfl⟩ := okWide_slice Tryd.underlying46 hv
  obtain ⟨fuel, hf⟩ := h
  obtain ⟨p, c, es, e, _, _, him, _, hw⟩ := open_recs At.cells At.wt (fun _ => True) Tryd.underlying46 hf (fun k cs' y _ hy => open_at hy)
  have e' : Value.slice a n cc = .slice p es.length c := by simpa [Value.cells] using e
  exact ⟨p, c, es, e', him, hw⟩
theorem firstE_small {n : List UInt8} {es : List At} (h : n.length + (es.map At.wt).sum ≤ 1048576) : (firstE n es).small := by
  have h1 := sum_len At.wt es (by intro x _; unfold At.wt; omega)
  refine ⟨by simp only [firstE]; omega, by simp [firstE], by simp only [firstE]; omega, fun x hx => ?_⟩
  have h1 := sum_mem At.wt es hx
  have h2 : At.wt x = x.n.length + x.v.length + 3 := rfl
  exact ⟨by omega, by omega⟩
end Go.Proofs.YthgbpgjpnaanlaaDoor

/-
  Readings of arguments of one cell: texts.
-/
set_option linter.unusedSimpArgs false
set_option linter.unusedVariables false
set_option linter.unnecessarySimpa false
namespace Go.Proofs.YthgbpgjpnaanlaaDoor
open Go Go.Sv Go.RowKit Go.ChangeShapes Go.WideShapes Go.Deep
section
variable {H : Type} {enc : TypeId × Value → H} {w : World} {base : Nat} {spare : Nat → Bool} {held : Bool}
set_option maxRecDepth 100000 in
theorem open_str1 {v : Value} {d : DataW H} {ps : List MemPlace} {r : Reach} {b0 : Nat} (hv : Value.okWide Tryd.prog w r b0 9 v) (h : DataW.Trod enc Tryd.prog w base spare held 9 v d ps) :
    ∃ l : List UInt8, v = str l ∧ l.length + 1 ≤ Rows.uptoBulk d := by
  obtain ⟨s, rfl⟩ := okWide_string Tryd.underlying9 hv
  obtain ⟨fuel, hf⟩ := h
  obtain ⟨l, e, hw⟩ := open_strc Tryd.underlying9 hf
  dsimp only at hw
  exact ⟨l, by simpa [Value.cells] using e, by omega⟩
end
end Go.Proofs.YthgbpgjpnaanlaaDoor

/-
  What a row's list says of the table of blanks; a world for the witness.
-/
set_option linter.unusedSimpArgs false
set_option linter.unusedVariables false
set_option linter.unnecessarySimpa false
namespace Go.Proofs.YthgbpgjpnaanlaaDoor
open Go Go.Sv Go.RowKit Go.ChangeShapes Go.WideShapes Go.ChangeAt

theorem laid_at {P : Program} {W : World} {name : String} {d : DataW Unit} : ∀ {laid : List (String × DataW Unit)} {ps : List MemPlace}, DataW.LaidVars P W laid ps → (name, d) ∈ laid →
    ∃ g t cs fuel p, P.globalNamed name = some g ∧ (P.globals[g]?).map (·.type) = some t ∧ W.var? P name = some cs ∧ DataW.trod (fun _ => ()) P W 0 (fun _ => true) false fuel t cs.toList = some (d, p)
  | [], _, _, hm => by cases hm
  | x :: laid, ps, h, hm => by
    obtain ⟨g', t', cs, fuel, p, q, hg', ht', hvar, hd, hr, _⟩ := h
    rcases List.mem_cons.1 hm with rfl | hm
    · exact ⟨g', t', cs, fuel, p, hg', ht', hvar, hd⟩
    · exact laid_at hr hm
theorem gAscType : (Tryd.prog.globals[0]?).map (·.type) = some 160 := by kernel_rfl
set_option maxRecDepth 100000 in
theorem asc_of {W : World} {laid : List (String × DataW Unit)} (h : laidMet Tryd.prog laid W) (hm : ("strings.asciiSpace", Rows.laid_strings_asciiSpace) ∈ laid) : Asc W := by
  obtain ⟨ps, hL, _⟩ := h
  obtain ⟨g', t', cs, fuel, p, hg', ht', hvar, hd⟩ := laid_at hL hm
  obtain rfl := Option.some.inj (gAsc.symm.trans hg')
  obtain rfl := Option.some.inj (gAscType.symm.trans ht')
  have e : (Rows.laid_strings_asciiSpace : DataW Unit) = Lib.tabData .u8 Lib.asciiSpaceTab := by kernel_rfl
  rw [e] at hd
  unfold Asc Lib.TabIs
  rw [hvar, ← Lib.cells_of_tab Tryd.underlying160 Tryd.underlying5 (by kernel_rfl) (by kernel_rfl) hd]
/-- a world for the witness: the variables hold what their initialisers lay -/
noncomputable def ascHeap (h : Array Obj) : Array Obj :=
  (((h.modify 0 fun | .cells _ t f => .cells (Lib.asciiSpaceTab.map fun z => Value.int .u8 z).toArray t f | o => o).modify 1 fun
    | .cells _ t f => .cells #[.pointer (some ⟨h.size, 0, none⟩)] t f | o => o).push (.cells #[.slice (some ⟨h.size + 1, 0, none⟩) 7 7, .slice none 0 0, .int .i64 2] 201 (0, 0))).push
    (.cells (([9, 13, 1, 32, 133, 101, 160, 5760, 5600, 8192, 8202, 1, 8232, 8233, 1, 8239, 8287, 48, 12288, 12288, 1] : List Int).map fun z => Value.int .u16 z).toArray 204 (0, 0))
noncomputable def ascWorld (os : Os) : World := { World.holding Tryd.prog os ⟨#[], #[], []⟩ with heap := ascHeap (World.holding Tryd.prog os ⟨#[], #[], []⟩).heap }
end Go.Proofs.YthgbpgjpnaanlaaDoor

