/-
  Our texts SvGb, SvEvZ, SvTabF, SvKp, SvKq, SvEvQ, SvEvR, SvEvS, SvEd, SvWk, SvEbC, SvElA, SvTpD, SvElB, SvRec, SvTpE, SvJmp, SvTpG, SvRec2, SvTpH, SvTokJ, SvTm, joined.
-/
import Derived.Test.YthgbpgjpnaanlaaGreatDoorMg5
import Derived.RecoverIn
import Derived.WalkSmall
import Derived.Laws.Build
import Derived.ScopeJumps
/-
  Regions that draw their order, by a plan, where operations may also take (and write) what lay there before.
-/
set_option linter.unusedSimpArgs false
set_option linter.unusedVariables false
set_option linter.unnecessarySimpa false
namespace Go.Sv
open Go Go.RowKit
theorem perm5 {α : Type} (A B C D E : List α) : ((A ++ B) ++ ((C ++ D) ++ E)).Perm (A ++ (C ++ (E ++ (B ++ D)))) := by
  simp only [List.append_assoc]
  refine List.Perm.append_left _ ?_
  have h1 : (B ++ (C ++ (D ++ E))).Perm (C ++ (B ++ (D ++ E))) := by
    rw [← List.append_assoc B C, ← List.append_assoc C B]
    exact List.perm_append_comm.append_right _
  refine h1.trans (List.Perm.append_left _ ?_)
  rw [← List.append_assoc]
  exact List.perm_append_comm
theorem perm4 {α : Type} (A B C D : List α) : (A ++ (B ++ (C ++ D))).Perm ((A ++ C) ++ (D ++ B)) := by
  simp only [List.append_assoc]
  refine List.Perm.append_left _ ?_
  have h1 : (B ++ (C ++ D)).Perm ((C ++ D) ++ B) := List.perm_append_comm
  rw [List.append_assoc] at h1
  exact h1
theorem perm6 {α : Type} (A B C S D E : List α) : ((A ++ B) ++ ((C ++ (S ++ D)) ++ E)).Perm (A ++ (C ++ (S ++ (E ++ (B ++ D))))) := by
  refine (perm5 A B C (S ++ D) E).trans (List.Perm.append_left _ (List.Perm.append_left _ ?_))
  have h1 : (E ++ (B ++ (S ++ D))) = ((E ++ B) ++ S) ++ D := by simp only [List.append_assoc]
  have h2 : (S ++ (E ++ (B ++ D))) = (S ++ (E ++ B)) ++ D := by simp only [List.append_assoc]
  rw [h1, h2]
  exact List.perm_append_comm.append_right _
theorem perm7 {α : Type} (A S B C D : List α) : (A ++ (S ++ (B ++ (C ++ D)))).Perm ((A ++ C) ++ ((S ++ D) ++ B)) := by
  have h1 : (A ++ (S ++ (B ++ (C ++ D)))) = (A ++ ((S ++ B) ++ (C ++ D))) := by simp only [List.append_assoc]
  rw [h1]
  refine (perm4 A (S ++ B) C D).trans (List.Perm.append_left _ ?_)
  have h2 : (S ++ D) ++ B = S ++ (D ++ B) := by simp only [List.append_assoc]
  rw [h2]
  have h3 : D ++ (S ++ B) = (D ++ S) ++ B := by simp only [List.append_assoc]
  have h4 : S ++ (D ++ B) = (S ++ D) ++ B := by simp only [List.append_assoc]
  rw [h3, h4]
  exact List.perm_append_comm.append_right _
section
variable {P : Program} {n : Nat} {ds : Ctx} {Q : Exit → Ctx → Env → World → Prop} {S : (Nat → Bool) → Env → World → Prop} {σ : Env} {w : World} {m : Nat}
theorem wpOpIn_of_I {ops : Array Oper} {dd : List Deferred} {Q' : Exit → Act → World → Prop} {T : Value → World → Prop} {K : Act → World → Prop} {i : Nat} {o : Oper} {ro : Option Nat} (hino : operIn n ro.isSome ops o = true) (ho : ops[i]? = some o)
    (h : (Region.wanted o (yl ops σ) = true ∧ comes P T ((execOp (evl σ) o).run P w)) ∨ (Region.wanted o (yl ops σ) = false ∧ T undef w))
    (next : ∀ v w', T v w' → K ((act n dd σ).put o.dst v) w') : wpOpIn (fen ro) m P ops Q' i K (act n dd σ) w := by
  unfold wpOpIn
  simp only [ho]
  rw [act_yielded hino]
  rcases h with ⟨hw, hy⟩ | ⟨hw, hy⟩
  · rw [hw, if_pos rfl]
    refine ⟨fun _ _ => fen_fn _ _, ?_⟩
    rw [fen_round, semAt_in hino, act_exec hino]
    generalize (execOp (evl σ) o).run P w = r at *
    cases r with
    | ok x w' =>
      cases x <;> simp only [comes] at hy <;> simp only [Oper.uponIn]
      case value u => exact next _ _ hy
      case skip => exact next _ _ hy
      case enter g args =>
        refine ⟨fun h => (by rw [fen_depth] at h; cases h), callsIn_fen (Calls.mono hy ?_)⟩
        rintro e w'' ⟨v, rfl, h2⟩
        exact next _ _ h2
    | halt x w' => simp only [comes] at hy
  · rw [hw, if_neg Bool.false_ne_true]
    exact ⟨fun _ _ => fen_fn _ _, next _ _ hy⟩
theorem wpAnyIn_of_I {ops : Array Oper} {dd : List Deferred} {Q' : Exit → Act → World → Prop} {ro : Option Nat} (hf : fwdB ops = true) (hin : ops.toList.all (operIn n ro.isSome ops) = true) (hop : ∀ k o, ops[k]? = some o → StepI P ops S k o)
    (hQ : ∀ L σ w, (∀ k, k < ops.size → L k = true) → S L σ w → Q' .normal (act n dd σ) w) :
    ∀ (f : Nat) (listed : Array Bool) (σ : Env) (w : World), listed.size = ops.size → Clo ops (fl listed) → listed.toList.count false ≤ f → S (fl listed) σ w → wpAnyIn (fen ro) m P .any ops Q' f listed (act n dd σ) w
  | 0, listed, σ, w, hsz, _, hc, hS => by
    have hall : ∀ k, k < ops.size → fl listed k = true := by
      intro k hk
      cases hL : fl listed k with
      | true => rfl
      | false =>
        exfalso
        simp only [fl, Array.getD_eq_getD_getElem?, show k < listed.size from by omega, Array.getElem?_eq_getElem, Option.getD_some] at hL
        have : false ∈ listed.toList := by rw [← hL]; simp
        have := List.count_pos_iff.2 this
        omega
    refine ⟨?_, hQ _ _ _ hall hS⟩
    cases hr : Region.ready .any ops listed with
    | nil => rfl
    | cons i r =>
      exfalso
      have hi : i ∈ Region.ready .any ops listed := by rw [hr]; exact List.mem_cons_self
      obtain ⟨h0, o, ho, _⟩ := mem_ready.1 hi
      have hk : i < ops.size := (Array.getElem?_eq_some_iff.1 ho).1
      have := hall i hk
      simp only [fl, Array.getD_eq_getD_getElem?, show i < listed.size from by omega, Array.getElem?_eq_getElem, Option.getD_some] at this h0
      rw [this] at h0
      cases h0
  | f + 1, listed, σ, w, hsz, hcl, hc, hS => by
    refine ⟨fun hr => hQ _ _ _ (ready_of_fwd hf hsz hr) hS, fun i hi => ?_⟩
    obtain ⟨h0, o, ho, hall⟩ := mem_ready.1 hi
    have hio : i < ops.size := (Array.getElem?_eq_some_iff.1 ho).1
    have hlt : i < listed.size := by omega
    have h0' : listed[i] = false := by simpa [hlt] using h0
    have hup : Up ops o i (fl listed) := by
      refine ⟨by simp [fl, hlt, h0'], ?_, ?_⟩
      · intro j hj
        obtain ⟨e, he, hb, rfl⟩ := bindsOn_iff.1 hj
        exact hall e he hb
      · intro j oj hj hb
        cases hL : fl listed j with
        | false => rfl
        | true =>
          have h1 := hcl j oj hj hL i hb
          have h2 : fl listed i = true := h1
          simp [fl, hlt, h0'] at h2
    have hino : operIn n ro.isSome ops o = true := by
      rw [List.all_eq_true] at hin
      exact hin o (by simpa using Array.mem_of_getElem? ho)
    refine wpOpIn_of_I hino ho (hop i o ho _ σ w hup hS) fun v w' hw' => ?_
    rw [act_put (operIn_dst hino)]
    refine wpAnyIn_of_I hf hin hop hQ f _ _ _ (by simpa using hsz) (by rw [fl_set hlt]; exact clo_on hcl ho hup.did) ?_ (by rw [fl_set hlt]; exact hw')
    rw [Array.toList_setIfInBounds, List.count_set]
    · have hb : listed.toList[i]'(by simpa using hlt) = false := by simpa using h0'
      have hpos : 0 < listed.toList.count false := List.count_pos_iff.2 (by rw [← hb]; exact List.getElem_mem _)
      rw [hb]; simp only [beq_self_eq_true, if_true]; simp; rw [Array.count_toList] at *; omega
    · simpa using hlt
/-- a region that draws, within whatever round -/
theorem wcdrawir [hm : Mix P] {id : Nat} {ops : List Oper} (S : (Nat → Bool) → Env → World → Prop) (h0 : ∀ wd, Frm w wd → S (fun _ => false) σ wd) (hop : StepsI P ops.toArray S 0 ops)
    (hend : ∀ L σ' w', (∀ k, k < ops.length → L k = true) → S L σ' w' → Q .normal ds σ' w') (hf : fwdB ops.toArray = true := by kernel_rfl) : WC P n ds (.region id ops.toArray true) Q σ w := by
  unfold WC
  intro hin
  have hin' : ops.all (operIn n ds.ro.isSome ops.toArray) = true := by simpa [codeIn] using hin
  refine wpIn_region_any hm.ok ?_
  have e0 : fl (Array.replicate ops.toArray.size false) = fun _ => false := by funext k; exact getD_replicate_false _ _
  refine wpAnyIn_of_I (S := S) (n := n) hf (by simpa using hin') (fun k o ho => ?_) ?_ _ _ _ _ (by simp) ?_ ?_ ?_
  · have := stepsI_get hop k o (by simpa using ho)
    rwa [Nat.zero_add] at this
  · intro L σ' w' hL hS
    exact ⟨ds.ds, σ', rfl, hend L σ' w' (by simpa using hL) hS⟩
  · rw [e0]; intro j oj _ hL; cases hL
  · simp
  · rw [e0]; exact h0 _ (Frm.drawn (Frm.refl w))
end
/-- what an operation leaves: its value, and where what it made lies -/
structure PD (X : Type) where
  v : Value
  p : Option Addr
  c : Nat
  b : Nat
  x : X
structure PlanB (X : Type) where
  pl : Nat → PD X → List Plot
  con : Nat → Option Nat
  base : Nat → List Plot
  fact : Nat → (Nat → PD X) → Prop
section
variable {X : Type}
def PlanB.live (p : PlanB X) (L : Nat → Bool) (j : Nat) : Bool := L j && (match p.con j with | some c => !L c | none => true)
def PlanB.mem (p : PlanB X) (n : Nat) (L : Nat → Bool) (a : Nat → PD X) : List Plot := ((List.range n).filter (p.live L)).flatMap fun j => p.pl j (a j)
/-- what operation k takes -/
def PlanB.takes (p : PlanB X) (n k : Nat) (a : Nat → PD X) : List Plot := ((List.range n).filter fun j => decide (p.con j = some k)).flatMap fun j => p.pl j (a j)
/-- what lay there before and is still to be taken -/
def PlanB.bmem (p : PlanB X) (n : Nat) (L : Nat → Bool) : List Plot := ((List.range n).filter fun j => !L j).flatMap p.base
def PlanB.S (p : PlanB X) (w0 : World) (cs : List Plot) (σ0 : Env) (ops : List Oper) (L : Nat → Bool) (σ : Env) (w : World) : Prop :=
  (∀ s, (∀ (k : Nat) (o : Oper), ops[k]? = some o → L k = true → o.dst ≠ some s) → σ s = σ0 s) ∧
  ∃ a : Nat → PD X, (∀ (k : Nat) (o : Oper), ops[k]? = some o → L k = true → (∀ d, o.dst = some d → σ d = (a k).v) ∧ p.fact k a) ∧ Sep w0 w (p.mem ops.length L a ++ (p.bmem ops.length L ++ cs))
/-- what k can see of what is to be taken by those that wait for it -/
def seesB (ops : List Oper) (k j : Nat) : Bool := decide (j ≠ k) && (match ops[j]? with | some oj => bindsOn oj k | none => false)
def PlanB.seen (p : PlanB X) (ops : List Oper) (k : Nat) : List Plot := ((List.range ops.length).filter (seesB ops k)).flatMap p.base
/-- how operation k goes, by the plan -/
def PlanB.Rule (p : PlanB X) (P : Program) (w0 : World) (cs : List Plot) (σ0 : Env) (ops : List Oper) (k : Nat) (o : Oper) : Prop :=
  ∀ (a : Nat → PD X) (σ : Env) (w : World) (rest : List Plot), (∀ s, (∀ (j : Nat) (o : Oper), ops[j]? = some o → j ≠ k → bindsOn o k = false → o.dst ≠ some s) → σ s = σ0 s) →
    (∀ (j : Nat) (oj : Oper), bindsOn o j = true → ops[j]? = some oj → (∀ d, oj.dst = some d → σ d = (a j).v) ∧ p.fact j a) → Sep w0 w (p.takes ops.length k a ++ (p.base k ++ (p.seen ops k ++ (cs ++ rest)))) →
    (Region.wanted o (yl ops.toArray σ) = true ∧ comes P (fun v w' => ∃ d, v = d.v ∧ p.fact k (setD a k d) ∧ Sep w0 w' (p.pl k d ++ (p.seen ops k ++ (cs ++ rest)))) ((execOp (evl σ) o).run P w)) ∨
    (Region.wanted o (yl ops.toArray σ) = false ∧ ∃ d, undef = d.v ∧ p.fact k (setD a k d) ∧ Sep w0 w (p.pl k d ++ (p.seen ops k ++ (cs ++ rest))))
def PlanB.Rules (p : PlanB X) (P : Program) (w0 : World) (cs : List Plot) (σ0 : Env) (ops : List Oper) : Nat → List Oper → Prop
  | _, [] => True
  | k, o :: l => p.Rule P w0 cs σ0 ops k o ∧ p.Rules P w0 cs σ0 ops (k + 1) l
theorem planb_core {p : PlanB X} {w0 : World} {cs : List Plot} {σ0 : Env} {ops : List Oper} (hB : planB p.con ops = true)
    (hF : ∀ (j : Nat) (oj : Oper) (a a' : Nat → PD X), ops[j]? = some oj → a j = a' j → (∀ i, bindsOn oj i = true → a i = a' i) → p.fact j a → p.fact j a') {k : Nat} {o : Oper} (hk : ops[k]? = some o) {L : Nat → Bool} {σ : Env} {w : World} (hu : Up ops.toArray o k L) (hS0 : p.S w0 cs σ0 ops L σ w) :
    ∃ (a : Nat → PD X) (rest : List Plot), (∀ s, (∀ (j : Nat) (o : Oper), ops[j]? = some o → j ≠ k → bindsOn o k = false → o.dst ≠ some s) → σ s = σ0 s) ∧
      (∀ (j : Nat) (oj : Oper), bindsOn o j = true → ops[j]? = some oj → (∀ d, oj.dst = some d → σ d = (a j).v) ∧ p.fact j a) ∧ Sep w0 w (p.takes ops.length k a ++ (p.base k ++ (p.seen ops k ++ (cs ++ rest)))) ∧
      ∀ d w', p.fact k (setD a k d) → Sep w0 w' (p.pl k d ++ (p.seen ops k ++ (cs ++ rest))) → p.S w0 cs σ0 ops (on L k) (updO σ o.dst (d.v)) w' := by
  obtain ⟨hσ, a, hA, hS⟩ := hS0
  have hkn : k < ops.length := by
    rcases Nat.lt_or_ge k ops.length with h | h
    · exact h
    · rw [List.getElem?_eq_none h] at hk; cases hk
  have hcon : ∀ j c, j < ops.length → p.con j = some c → ∃ oc, ops[c]? = some oc ∧ bindsOn oc j = true := by
    intro j c hj hc
    have := List.all_eq_true.1 hB j (List.mem_range.2 hj)
    rw [Bool.and_eq_true, hc] at this
    have h1 := this.1
    simp only [Bool.and_eq_true, decide_eq_true_eq] at h1
    rw [List.getElem?_eq_getElem h1.1] at h1
    exact ⟨_, List.getElem?_eq_getElem h1.1, h1.2⟩
  have hdst : ∀ (i j : Nat) (oi oj : Oper) (d : Nat), ops[i]? = some oi → ops[j]? = some oj → i ≠ j → oi.dst = some d → oj.dst ≠ some d := by
    intro i j oi oj d hi hj hne hd
    have hjn : j < ops.length := (List.getElem?_eq_some_iff.1 hj).1
    have hin : i < ops.length := (List.getElem?_eq_some_iff.1 hi).1
    have := List.all_eq_true.1 hB j (List.mem_range.2 hjn)
    rw [Bool.and_eq_true] at this
    have := List.all_eq_true.1 this.2 i (List.mem_range.2 hin)
    rw [hi, hj] at this
    simp only [hne, decide_false, Bool.false_or, hd, decide_eq_true_eq] at this
    exact this
  -- what k takes, and the rest
  let q : Nat → Bool := fun j => p.live L j && !decide (p.con j = some k)
  let rest0 : List Plot := ((List.range ops.length).filter q).flatMap fun j => p.pl j (a j)
  let bm : List Plot := p.bmem ops.length (on L k)
  let bm2 : List Plot := (((List.range ops.length).filter fun j => !(on L k) j).filter fun j => !(seesB ops k j)).flatMap p.base
  let rest : List Plot := rest0 ++ bm2
  have hsee : bm.Perm (p.seen ops k ++ bm2) := by
    have h2 := List.filter_append_perm (seesB ops k) ((List.range ops.length).filter fun j => !(on L k) j)
    have h3 : ((List.range ops.length).filter fun j => !(on L k) j).filter (seesB ops k) = (List.range ops.length).filter (seesB ops k) := by
      rw [List.filter_filter]
      refine List.filter_congr fun j hj => ?_
      cases hs : seesB ops k j with
      | false => rfl
      | true =>
        unfold seesB at hs
        rw [Bool.and_eq_true, decide_eq_true_eq] at hs
        obtain ⟨hne, hs⟩ := hs
        cases ho : ops[j]? with
        | none => rw [ho] at hs; cases hs
        | some oj =>
          rw [ho] at hs
          have := hu.ahead j oj (by simpa using ho) hs
          simp [on_ne L hne, this]
    rw [h3] at h2
    have h4 := h2.symm.flatMap_right p.base
    rw [List.flatMap_append] at h4
    exact h4
  have hbm : (p.bmem ops.length L).Perm (p.base k ++ bm) := by
    have hl : (List.range ops.length).filter (fun j => !L j) = (List.range ops.length).filter fun j => decide (j = k) || !(on L k) j := by
      refine List.filter_congr fun j hj => ?_
      by_cases e : j = k
      · subst e; simp [hu.now]
      · simp [e, on_ne L e]
    show (((List.range ops.length).filter fun j => !L j).flatMap p.base).Perm _
    rw [hl]
    refine ((filter_insert (q := fun j => !(on L k) j) (by simp [on_same]) List.nodup_range (List.mem_range.2 hkn)).flatMap_right p.base).trans ?_
    rw [List.flatMap_cons]
    exact List.Perm.refl _
  have htake : (List.range ops.length).filter (fun j => p.live L j && decide (p.con j = some k)) = (List.range ops.length).filter fun j => decide (p.con j = some k) := by
    refine List.filter_congr fun j hj => ?_
    by_cases hc : p.con j = some k
    · obtain ⟨oc, ho, hb⟩ := hcon j k (List.mem_range.1 hj) hc
      rw [hk] at ho
      injection ho with ho
      subst ho
      have h1 := hu.did j hb
      simp [PlanB.live, hc, h1, hu.now]
    · simp [hc]
  have hperm : (p.mem ops.length L a ++ (p.bmem ops.length L ++ cs)).Perm (p.takes ops.length k a ++ (p.base k ++ (p.seen ops k ++ (cs ++ rest)))) := by
    have h1 : ((List.range ops.length).filter fun j => decide (p.con j = some k)) ++ ((List.range ops.length).filter q) |>.Perm ((List.range ops.length).filter (p.live L)) := by
      have h2 := List.filter_append_perm (fun j => decide (p.con j = some k)) ((List.range ops.length).filter (p.live L))
      rw [List.filter_filter, List.filter_filter] at h2
      rw [← htake]
      refine List.Perm.trans ?_ h2
      refine List.Perm.append (List.Perm.of_eq (List.filter_congr fun j _ => Bool.and_comm _ _)) (List.Perm.of_eq (List.filter_congr fun j _ => Bool.and_comm _ _))
    have h3 := (h1.symm.flatMap_right fun j => p.pl j (a j))
    rw [List.flatMap_append] at h3
    exact (h3.append ((hbm.trans (List.Perm.append_left _ hsee)).append_right cs)).trans (perm6 _ _ _ _ _ _)
  have hlive : ∀ d, (p.mem ops.length (on L k) (setD a k d)).Perm (p.pl k d ++ rest0) := by
    intro d
    have hq : q k = false := by simp [q, PlanB.live, hu.now]
    have hl : (List.range ops.length).filter (p.live (on L k)) = (List.range ops.length).filter fun j => decide (j = k) || q j := by
      refine List.filter_congr fun j hj => ?_
      by_cases e : j = k
      · subst e
        have : (match p.con j with | some c => !(on L j c) | none => true) = true := by
          cases hc : p.con j with
          | none => rfl
          | some c =>
            obtain ⟨oc, ho, hb⟩ := hcon j c hkn hc
            have h1 := hu.ahead c oc (by simpa using ho) hb
            have hne : c ≠ j := by
              intro e
              subst e
              rw [hk] at ho
              injection ho with ho
              subst ho
              have := hu.did c hb
              rw [hu.now] at this
              cases this
            simp [on_ne L hne, h1]
        simp only [PlanB.live, on_same, this, Bool.and_self, decide_true, Bool.true_or]
      · simp only [PlanB.live, on_ne L e, decide_eq_false e, Bool.false_or, q]
        cases hc : p.con j with
        | none => simp
        | some c =>
          by_cases ec : c = k
          · subst ec; simp [on_same]
          · have : ¬ (some c = some k) := fun h => ec (Option.some.inj h)
            simp [on_ne L ec, this]
    unfold PlanB.mem
    rw [hl]
    refine ((filter_insert hq List.nodup_range (List.mem_range.2 hkn)).flatMap_right fun j => p.pl j (setD a k d j)).trans ?_
    rw [List.flatMap_cons, setD_same]
    refine List.Perm.append_left _ (List.Perm.of_eq ?_)
    show _ = List.flatMap (fun j => p.pl j (a j)) (List.filter q (List.range ops.length))
    rw [List.flatMap_def, List.flatMap_def]
    refine congrArg _ (List.map_congr_left fun j hj => ?_)
    have : j ≠ k := by
      rintro rfl
      have := (List.mem_filter.1 hj).2
      rw [hq] at this; cases this
    rw [setD_ne a d this]
  have hnew : ∀ d w', p.fact k (setD a k d) → Sep w0 w' (p.pl k d ++ (p.seen ops k ++ (cs ++ rest))) → p.S w0 cs σ0 ops (on L k) (updO σ o.dst (d.v)) w' := by
    intro d w' hf hS'
    refine ⟨fun s hs => ?_, setD a k d, fun j oj hj hL => ?_, ?_⟩
    · have h1 := hs k o hk (on_same L k)
      have hs' : ∀ (j : Nat) (oj : Oper), ops[j]? = some oj → L j = true → oj.dst ≠ some s := fun j oj hj hL => hs j oj hj (by
        by_cases e : j = k
        · subst e; exact on_same L j
        · rw [on_ne L e]; exact hL)
      cases hd : o.dst with
      | none => exact hσ s hs'
      | some dd =>
        rw [hd] at h1
        exact (upd_ne σ _ (fun e => h1 (by rw [e]))).trans (hσ s hs')
    · by_cases e : j = k
      · subst e
        rw [hk] at hj
        injection hj with hj
        subst hj
        refine ⟨fun dd hd => ?_, hf⟩
        rw [hd, setD_same]
        exact upd_same σ dd _
      · rw [on_ne L e] at hL
        obtain ⟨h1, h2⟩ := hA j oj hj hL
        refine ⟨fun dd hd => ?_, ?_⟩
        · rw [setD_ne a d e, ← h1 dd hd]
          cases hdo : o.dst with
          | none => rfl
          | some d2 =>
            have := hdst k j o oj d2 hk hj (fun e2 => e e2.symm) hdo
            exact upd_ne σ _ (fun e2 => this (by rw [hd, e2]))
        · refine hF j oj a _ hj (setD_ne a d e).symm (fun i hi => ?_) h2
          have : i ≠ k := by
            rintro rfl
            have := hu.ahead j oj (by simpa using hj) hi
            rw [this] at hL; cases hL
          exact (setD_ne a d this).symm
    · refine hS'.perm ?_
      exact (perm7 _ _ _ _ _).trans ((hlive d).symm.append (hsee.symm.append_right cs))
  exact ⟨a, rest, fun s hs => hσ s fun j oj hj hL => hs j oj hj (fun e => by rw [e, hu.now] at hL; cases hL) (by
      cases hb : bindsOn oj k with
      | false => rfl
      | true => have := hu.ahead j oj (by simpa using hj) hb; rw [this] at hL; cases hL), fun j oj hb hj => hA j oj hj (hu.did j hb), hS.perm hperm, hnew⟩
theorem planb_step {p : PlanB X} {P : Program} {w0 : World} {cs : List Plot} {σ0 : Env} {ops : List Oper} (hB : planB p.con ops = true)
    (hF : ∀ (j : Nat) (oj : Oper) (a a' : Nat → PD X), ops[j]? = some oj → a j = a' j → (∀ i, bindsOn oj i = true → a i = a' i) → p.fact j a → p.fact j a') {k : Nat} {o : Oper} (hk : ops[k]? = some o) (h : p.Rule P w0 cs σ0 ops k o) : StepI P ops.toArray (p.S w0 cs σ0 ops) k o := by
  intro L σ w hu hS0
  obtain ⟨a, rest, h1, h2, h3, hnew⟩ := planb_core hB hF hk hu hS0
  rcases h a σ w rest h1 h2 h3 with ⟨h1, h2⟩ | ⟨h1, d, h2, h3, h4⟩
  · refine .inl ⟨h1, comes_mono (fun v w' => ?_) h2⟩
    rintro ⟨d, rfl, hf, hS'⟩
    exact hnew d w' hf hS'
  · refine .inr ⟨h1, ?_⟩
    rw [h2]
    exact hnew d w h3 h4
theorem planb_steps {p : PlanB X} {P : Program} {w0 : World} {cs : List Plot} {σ0 : Env} {ops : List Oper} (hB : planB p.con ops = true)
    (hF : ∀ (j : Nat) (oj : Oper) (a a' : Nat → PD X), ops[j]? = some oj → a j = a' j → (∀ i, bindsOn oj i = true → a i = a' i) → p.fact j a → p.fact j a') : ∀ (l : List Oper) (k : Nat), (∀ j o, l[j]? = some o → ops[k + j]? = some o) → p.Rules P w0 cs σ0 ops k l → StepsI P ops.toArray (p.S w0 cs σ0 ops) k l
  | [], _, _, _ => trivial
  | o :: l, k, hl, hr => ⟨planb_step hB hF (by simpa using hl 0 o rfl) hr.1, planb_steps hB hF l (k + 1) (fun j o' h => by rw [show k + 1 + j = k + (j + 1) from by omega]; exact hl (j + 1) o' (by simpa using h)) hr.2⟩
/-- a region that draws, by a plan -/
theorem wcplanb {P : Program} [hm : Mix P] {n : Nat} {ds : Ctx} {Q : Exit → Ctx → Env → World → Prop} {σ : Env} {w w0 : World} {id : Nat} {ops : List Oper} {cs b : List Plot} (p : PlanB X) (d0 : PD X) (hS : Sep w0 w (b ++ cs)) (hb : (List.range ops.length).flatMap p.base = b)
    (hF : ∀ (j : Nat) (oj : Oper) (a a' : Nat → PD X), ops[j]? = some oj → a j = a' j → (∀ i, bindsOn oj i = true → a i = a' i) → p.fact j a → p.fact j a')
    (hR : p.Rules P w0 cs σ ops 0 ops)
    (hend : ∀ (a : Nat → PD X) σ' w', (∀ s, (∀ (k : Nat) (o : Oper), ops[k]? = some o → o.dst ≠ some s) → σ' s = σ s) → (∀ (k : Nat) (o : Oper), ops[k]? = some o → (∀ d, o.dst = some d → σ' d = (a k).v) ∧ p.fact k a) →
      Sep w0 w' (((List.range ops.length).filter fun j => (p.con j).isNone).flatMap (fun j => p.pl j (a j)) ++ cs) → Q .normal ds σ' w')
    (hB : planB p.con ops = true := by kernel_rfl) (hf : fwdB ops.toArray = true := by kernel_rfl) : WC P n ds (.region id ops.toArray true) Q σ w := by
  refine wcdrawir (p.S w0 cs σ ops) (fun wd hwd => ⟨fun _ _ => rfl, fun _ => d0, fun _ _ _ h => absurd h Bool.false_ne_true, ?_⟩) (planb_steps hB hF ops 0 (fun j o h => by rwa [Nat.zero_add]) hR) ?_ hf
  · have e : p.mem ops.length (fun _ => false) (fun _ => d0) = [] := by
      unfold PlanB.mem
      rw [List.filter_eq_nil_iff.2 (by intro j _; simp [PlanB.live])]
      rfl
    have e2 : p.bmem ops.length (fun _ => false) = b := by
      rw [← hb]; unfold PlanB.bmem
      rw [List.filter_eq_self.2 (by intro j _; rfl)]
    rw [e, e2]
    exact hS.grow hwd
  · rintro L σ' w' hL ⟨hσ, a, hA, hS'⟩
    refine hend a σ' w' (fun s hs => hσ s fun k o hk _ => hs k o hk) (fun k o hk => hA k o hk (hL k (List.getElem?_eq_some_iff.1 hk).1)) ?_
    have e2 : p.bmem ops.length L = [] := by
      unfold PlanB.bmem
      rw [List.filter_eq_nil_iff.2 (by intro j hj; simp [hL j (List.mem_range.1 hj)])]
      rfl
    rw [e2] at hS'
    refine hS'.perm (List.Perm.append_right _ (List.Perm.of_eq ?_))
    unfold PlanB.mem
    congr 1
    refine List.filter_congr fun j hj => ?_
    have h1 := hL j (List.mem_range.1 hj)
    simp only [PlanB.live, h1, Bool.true_and]
    cases hc : p.con j with
    | none => rfl
    | some c =>
      have := List.all_eq_true.1 hB j hj
      rw [Bool.and_eq_true, hc] at this
      have h2 := this.1
      simp only [Bool.and_eq_true, decide_eq_true_eq] at h2
      simp [hL c h2.1]
end
theorem notDstB {ops : List Oper} {s k : Nat} (h : ((List.range ops.length).all fun j => match ops[j]? with | some o => decide (j = k) || bindsOn o k || decide (o.dst ≠ some s) | none => true) = true) :
    ∀ (j : Nat) (o : Oper), ops[j]? = some o → j ≠ k → bindsOn o k = false → o.dst ≠ some s := fun j o hj hne hb => by
  have := List.all_eq_true.1 h j (List.mem_range.2 (List.getElem?_eq_some_iff.1 hj).1)
  rw [hj] at this
  simpa [hne, hb] using this
end Go.Sv

/-
  sieveref18: At.
-/
set_option linter.unusedSimpArgs false
set_option linter.unusedVariables false
set_option linter.unnecessarySimpa false
namespace Go.Proofs.YthgbpgjpnaanlaaGreatDoor
open Go Go.Sv Go.RowKit











def Lk.cells (k : Lk) (q : Option Addr) (c : Nat) : List Value := [.slice q k.stack.length c, int k.most, int k.at_, int k.err, int k.good]

end Go.Proofs.YthgbpgjpnaanlaaGreatDoor

/- This seat's function types as instances (made by a program of ours). -/
namespace Go.Proofs.YthgbpgjpnaanlaaGreatDoor
open Go Go.Sv
instance : Agg Tryz.prog 1 false := ⟨_, Tryz.underlying1, rfl⟩
instance : Inf Tryz.prog 1 (.nilFunc) 1 8 := ⟨by kernel_rfl⟩
instance : Agg Tryz.prog 25 false := ⟨_, Tryz.underlying25, rfl⟩
instance : Inf Tryz.prog 25 (.nilFunc) 1 8 := ⟨by kernel_rfl⟩
instance : Agg Tryz.prog 27 false := ⟨_, Tryz.underlying27, rfl⟩
instance : Inf Tryz.prog 27 (.nilFunc) 1 8 := ⟨by kernel_rfl⟩
instance : Agg Tryz.prog 28 false := ⟨_, Tryz.underlying28, rfl⟩
instance : Inf Tryz.prog 28 (.nilFunc) 1 8 := ⟨by kernel_rfl⟩
instance : Agg Tryz.prog 30 false := ⟨_, Tryz.underlying30, rfl⟩
instance : Inf Tryz.prog 30 (.nilFunc) 1 8 := ⟨by kernel_rfl⟩
instance : Agg Tryz.prog 32 false := ⟨_, Tryz.underlying32, rfl⟩
instance : Inf Tryz.prog 32 (.nilFunc) 1 8 := ⟨by kernel_rfl⟩
instance : Agg Tryz.prog 33 false := ⟨_, Tryz.underlying33, rfl⟩
instance : Inf Tryz.prog 33 (.nilFunc) 1 8 := ⟨by kernel_rfl⟩
instance : Agg Tryz.prog 34 false := ⟨_, Tryz.underlying34, rfl⟩
instance : Inf Tryz.prog 34 (.nilFunc) 1 8 := ⟨by kernel_rfl⟩
instance : Agg Tryz.prog 35 false := ⟨_, Tryz.underlying35, rfl⟩
instance : Inf Tryz.prog 35 (.nilFunc) 1 8 := ⟨by kernel_rfl⟩
instance : Agg Tryz.prog 36 false := ⟨_, Tryz.underlying36, rfl⟩
instance : Inf Tryz.prog 36 (.nilFunc) 1 8 := ⟨by kernel_rfl⟩
instance : Agg Tryz.prog 45 false := ⟨_, Tryz.underlying45, rfl⟩
instance : Inf Tryz.prog 45 (.nilFunc) 1 8 := ⟨by kernel_rfl⟩
instance : Agg Tryz.prog 46 false := ⟨_, Tryz.underlying46, rfl⟩
instance : Inf Tryz.prog 46 (.nilFunc) 1 8 := ⟨by kernel_rfl⟩
instance : Agg Tryz.prog 52 false := ⟨_, Tryz.underlying52, rfl⟩
instance : Inf Tryz.prog 52 (.nilFunc) 1 8 := ⟨by kernel_rfl⟩
instance : Agg Tryz.prog 55 false := ⟨_, Tryz.underlying55, rfl⟩
instance : Inf Tryz.prog 55 (.nilFunc) 1 8 := ⟨by kernel_rfl⟩
instance : Agg Tryz.prog 59 false := ⟨_, Tryz.underlying59, rfl⟩
instance : Inf Tryz.prog 59 (.nilFunc) 1 8 := ⟨by kernel_rfl⟩
instance : Agg Tryz.prog 60 false := ⟨_, Tryz.underlying60, rfl⟩
instance : Inf Tryz.prog 60 (.nilFunc) 1 8 := ⟨by kernel_rfl⟩
instance : Agg Tryz.prog 61 false := ⟨_, Tryz.underlying61, rfl⟩
instance : Inf Tryz.prog 61 (.nilFunc) 1 8 := ⟨by kernel_rfl⟩
instance : Agg Tryz.prog 62 false := ⟨_, Tryz.underlying62, rfl⟩
instance : Inf Tryz.prog 62 (.nilFunc) 1 8 := ⟨by kernel_rfl⟩
instance : Agg Tryz.prog 63 false := ⟨_, Tryz.underlying63, rfl⟩
instance : Inf Tryz.prog 63 (.nilFunc) 1 8 := ⟨by kernel_rfl⟩
instance : Agg Tryz.prog 68 false := ⟨_, Tryz.underlying68, rfl⟩
instance : Inf Tryz.prog 68 (.nilFunc) 1 8 := ⟨by kernel_rfl⟩
instance : Agg Tryz.prog 69 false := ⟨_, Tryz.underlying69, rfl⟩
instance : Inf Tryz.prog 69 (.nilFunc) 1 8 := ⟨by kernel_rfl⟩
instance : Agg Tryz.prog 71 false := ⟨_, Tryz.underlying71, rfl⟩
instance : Inf Tryz.prog 71 (.nilFunc) 1 8 := ⟨by kernel_rfl⟩
instance : Agg Tryz.prog 72 false := ⟨_, Tryz.underlying72, rfl⟩
instance : Inf Tryz.prog 72 (.nilFunc) 1 8 := ⟨by kernel_rfl⟩
instance : Agg Tryz.prog 76 false := ⟨_, Tryz.underlying76, rfl⟩
instance : Inf Tryz.prog 76 (.nilFunc) 1 8 := ⟨by kernel_rfl⟩
instance : Agg Tryz.prog 77 false := ⟨_, Tryz.underlying77, rfl⟩
instance : Inf Tryz.prog 77 (.nilFunc) 1 8 := ⟨by kernel_rfl⟩
instance : Agg Tryz.prog 78 false := ⟨_, Tryz.underlying78, rfl⟩
instance : Inf Tryz.prog 78 (.nilFunc) 1 8 := ⟨by kernel_rfl⟩
instance : Agg Tryz.prog 80 false := ⟨_, Tryz.underlying80, rfl⟩
instance : Inf Tryz.prog 80 (.nilFunc) 1 8 := ⟨by kernel_rfl⟩
instance : Agg Tryz.prog 82 false := ⟨_, Tryz.underlying82, rfl⟩
instance : Inf Tryz.prog 82 (.nilFunc) 1 8 := ⟨by kernel_rfl⟩
instance : Agg Tryz.prog 83 false := ⟨_, Tryz.underlying83, rfl⟩
instance : Inf Tryz.prog 83 (.nilFunc) 1 8 := ⟨by kernel_rfl⟩
instance : Agg Tryz.prog 85 false := ⟨_, Tryz.underlying85, rfl⟩
instance : Inf Tryz.prog 85 (.nilFunc) 1 8 := ⟨by kernel_rfl⟩
instance : Agg Tryz.prog 86 false := ⟨_, Tryz.underlying86, rfl⟩
instance : Inf Tryz.prog 86 (.nilFunc) 1 8 := ⟨by kernel_rfl⟩
instance : Agg Tryz.prog 88 false := ⟨_, Tryz.underlying88, rfl⟩
instance : Inf Tryz.prog 88 (.nilFunc) 1 8 := ⟨by kernel_rfl⟩
instance : Agg Tryz.prog 91 false := ⟨_, Tryz.underlying91, rfl⟩
instance : Inf Tryz.prog 91 (.nilFunc) 1 8 := ⟨by kernel_rfl⟩
instance : Agg Tryz.prog 92 false := ⟨_, Tryz.underlying92, rfl⟩
instance : Inf Tryz.prog 92 (.nilFunc) 1 8 := ⟨by kernel_rfl⟩
instance : Agg Tryz.prog 93 false := ⟨_, Tryz.underlying93, rfl⟩
instance : Inf Tryz.prog 93 (.nilFunc) 1 8 := ⟨by kernel_rfl⟩
instance : Agg Tryz.prog 95 false := ⟨_, Tryz.underlying95, rfl⟩
instance : Inf Tryz.prog 95 (.nilFunc) 1 8 := ⟨by kernel_rfl⟩
instance : Agg Tryz.prog 96 false := ⟨_, Tryz.underlying96, rfl⟩
instance : Inf Tryz.prog 96 (.nilFunc) 1 8 := ⟨by kernel_rfl⟩
instance : Agg Tryz.prog 98 false := ⟨_, Tryz.underlying98, rfl⟩
instance : Inf Tryz.prog 98 (.nilFunc) 1 8 := ⟨by kernel_rfl⟩
instance : Agg Tryz.prog 99 false := ⟨_, Tryz.underlying99, rfl⟩
instance : Inf Tryz.prog 99 (.nilFunc) 1 8 := ⟨by kernel_rfl⟩
instance : Agg Tryz.prog 100 false := ⟨_, Tryz.underlying100, rfl⟩
instance : Inf Tryz.prog 100 (.nilFunc) 1 8 := ⟨by kernel_rfl⟩
instance : Agg Tryz.prog 102 false := ⟨_, Tryz.underlying102, rfl⟩
instance : Inf Tryz.prog 102 (.nilFunc) 1 8 := ⟨by kernel_rfl⟩
instance : Agg Tryz.prog 103 false := ⟨_, Tryz.underlying103, rfl⟩
instance : Inf Tryz.prog 103 (.nilFunc) 1 8 := ⟨by kernel_rfl⟩
instance : Agg Tryz.prog 104 false := ⟨_, Tryz.underlying104, rfl⟩
instance : Inf Tryz.prog 104 (.nilFunc) 1 8 := ⟨by kernel_rfl⟩
instance : Agg Tryz.prog 105 false := ⟨_, Tryz.underlying105, rfl⟩
instance : Inf Tryz.prog 105 (.nilFunc) 1 8 := ⟨by kernel_rfl⟩
instance : Agg Tryz.prog 106 false := ⟨_, Tryz.underlying106, rfl⟩
instance : Inf Tryz.prog 106 (.nilFunc) 1 8 := ⟨by kernel_rfl⟩
instance : Agg Tryz.prog 107 false := ⟨_, Tryz.underlying107, rfl⟩
instance : Inf Tryz.prog 107 (.nilFunc) 1 8 := ⟨by kernel_rfl⟩
instance : Agg Tryz.prog 109 false := ⟨_, Tryz.underlying109, rfl⟩
instance : Inf Tryz.prog 109 (.nilFunc) 1 8 := ⟨by kernel_rfl⟩
instance : Agg Tryz.prog 111 false := ⟨_, Tryz.underlying111, rfl⟩
instance : Inf Tryz.prog 111 (.nilFunc) 1 8 := ⟨by kernel_rfl⟩
instance : Agg Tryz.prog 114 false := ⟨_, Tryz.underlying114, rfl⟩
instance : Inf Tryz.prog 114 (.nilFunc) 1 8 := ⟨by kernel_rfl⟩
instance : Agg Tryz.prog 115 false := ⟨_, Tryz.underlying115, rfl⟩
instance : Inf Tryz.prog 115 (.nilFunc) 1 8 := ⟨by kernel_rfl⟩
instance : Agg Tryz.prog 116 false := ⟨_, Tryz.underlying116, rfl⟩
instance : Inf Tryz.prog 116 (.nilFunc) 1 8 := ⟨by kernel_rfl⟩
instance : Agg Tryz.prog 118 false := ⟨_, Tryz.underlying118, rfl⟩
instance : Inf Tryz.prog 118 (.nilFunc) 1 8 := ⟨by kernel_rfl⟩
instance : Agg Tryz.prog 121 false := ⟨_, Tryz.underlying121, rfl⟩
instance : Inf Tryz.prog 121 (.nilFunc) 1 8 := ⟨by kernel_rfl⟩
instance : Agg Tryz.prog 122 false := ⟨_, Tryz.underlying122, rfl⟩
instance : Inf Tryz.prog 122 (.nilFunc) 1 8 := ⟨by kernel_rfl⟩
instance : Agg Tryz.prog 124 false := ⟨_, Tryz.underlying124, rfl⟩
instance : Inf Tryz.prog 124 (.nilFunc) 1 8 := ⟨by kernel_rfl⟩
instance : Agg Tryz.prog 127 false := ⟨_, Tryz.underlying127, rfl⟩
instance : Inf Tryz.prog 127 (.nilFunc) 1 8 := ⟨by kernel_rfl⟩
instance : Agg Tryz.prog 128 false := ⟨_, Tryz.underlying128, rfl⟩
instance : Inf Tryz.prog 128 (.nilFunc) 1 8 := ⟨by kernel_rfl⟩
instance : Agg Tryz.prog 129 false := ⟨_, Tryz.underlying129, rfl⟩
instance : Inf Tryz.prog 129 (.nilFunc) 1 8 := ⟨by kernel_rfl⟩
instance : Agg Tryz.prog 131 false := ⟨_, Tryz.underlying131, rfl⟩
instance : Inf Tryz.prog 131 (.nilFunc) 1 8 := ⟨by kernel_rfl⟩
instance : Agg Tryz.prog 133 false := ⟨_, Tryz.underlying133, rfl⟩
instance : Inf Tryz.prog 133 (.nilFunc) 1 8 := ⟨by kernel_rfl⟩
instance : Agg Tryz.prog 134 false := ⟨_, Tryz.underlying134, rfl⟩
instance : Inf Tryz.prog 134 (.nilFunc) 1 8 := ⟨by kernel_rfl⟩
instance : Agg Tryz.prog 136 false := ⟨_, Tryz.underlying136, rfl⟩
instance : Inf Tryz.prog 136 (.nilFunc) 1 8 := ⟨by kernel_rfl⟩
instance : Agg Tryz.prog 137 false := ⟨_, Tryz.underlying137, rfl⟩
instance : Inf Tryz.prog 137 (.nilFunc) 1 8 := ⟨by kernel_rfl⟩
instance : Agg Tryz.prog 143 false := ⟨_, Tryz.underlying143, rfl⟩
instance : Inf Tryz.prog 143 (.nilFunc) 1 8 := ⟨by kernel_rfl⟩
instance : Agg Tryz.prog 149 false := ⟨_, Tryz.underlying149, rfl⟩
instance : Inf Tryz.prog 149 (.nilFunc) 1 8 := ⟨by kernel_rfl⟩
instance : Agg Tryz.prog 151 false := ⟨_, Tryz.underlying151, rfl⟩
instance : Inf Tryz.prog 151 (.nilFunc) 1 8 := ⟨by kernel_rfl⟩
instance : Agg Tryz.prog 152 false := ⟨_, Tryz.underlying152, rfl⟩
instance : Inf Tryz.prog 152 (.nilFunc) 1 8 := ⟨by kernel_rfl⟩
instance : Agg Tryz.prog 153 false := ⟨_, Tryz.underlying153, rfl⟩
instance : Inf Tryz.prog 153 (.nilFunc) 1 8 := ⟨by kernel_rfl⟩
instance : Agg Tryz.prog 154 false := ⟨_, Tryz.underlying154, rfl⟩
instance : Inf Tryz.prog 154 (.nilFunc) 1 8 := ⟨by kernel_rfl⟩
instance : Agg Tryz.prog 162 false := ⟨_, Tryz.underlying162, rfl⟩
instance : Inf Tryz.prog 162 (.nilFunc) 1 8 := ⟨by kernel_rfl⟩
instance : Agg Tryz.prog 165 false := ⟨_, Tryz.underlying165, rfl⟩
instance : Inf Tryz.prog 165 (.nilFunc) 1 8 := ⟨by kernel_rfl⟩
instance : Agg Tryz.prog 170 false := ⟨_, Tryz.underlying170, rfl⟩
instance : Inf Tryz.prog 170 (.nilFunc) 1 8 := ⟨by kernel_rfl⟩
instance : Agg Tryz.prog 178 false := ⟨_, Tryz.underlying178, rfl⟩
instance : Inf Tryz.prog 178 (.nilFunc) 1 8 := ⟨by kernel_rfl⟩
instance : Agg Tryz.prog 181 false := ⟨_, Tryz.underlying181, rfl⟩
instance : Inf Tryz.prog 181 (.nilFunc) 1 8 := ⟨by kernel_rfl⟩
end Go.Proofs.YthgbpgjpnaanlaaGreatDoor

/-
  General steps: what is skipped, what is written, loops over functions (out of several texts).
-/
set_option linter.unusedSimpArgs false
set_option linter.unusedVariables false
set_option linter.unnecessarySimpa false
namespace Go.Sv
open Go Go.RowKit
/-- a guarded operation whose guard says no -/
theorem wlskipg {P : Program} {n : Nat} {ds : Ctx} {ops : Array Oper} {Q : Exit → Ctx → Env → World → Prop} {rest : List Oper} {σ : GE} {w : World} {d : Nat} {op : Op} {ty : TypeId} {pos : String} {af : Array Edge} {j dj : Nat} {want b c : Bool} (v : Value)
    (h : WL P n ds ops Q rest (real (updG σ d ⟨v, false⟩)) w)
    (hj : (ops[j]?).bind (·.dst) = some dj := by rfl) (hσ : σ dj = ⟨.bool c, b⟩ := by rfl) (hgt : (b && (c == want)) = false) :
    WL P n ds ops Q (⟨some d, op, ty, pos, af, some (j, want)⟩ :: rest) (real σ) w := by
  have hw := wanted_real (ops := ops) (o := ⟨some d, op, ty, pos, af, some (j, want)⟩) rfl hj hσ
  rw [hgt] at hw
  refine WL_skip hw ?_
  rw [← real_upd] at h
  exact h
/-- a store into a block of one's own -/
theorem y_sst {P : Program} {σ : Env} {w0 w : World} {cs : List Plot} {ty t : TypeId} {pos : String} {af : Array Edge} {g : Option (Nat × Bool)} {x y : Operand} {zv v : Value} {size bytes b j : Nat} {l : List Value} [hi : Inf P t zv size bytes] (hS : Sep w0 w cs) (i : Nat) (hc : cs[i]? = some (pOwn b l)) (hx : evl σ x = ptrAt (pb b) j) (hy : evl σ y = v) (hv : v.cells.size = size) (hk : j + size ≤ l.length) (h1 : ∀ u ∈ v.cells.toList, u.oneCell' = true) :
    ∃ w', Y P σ ⟨none, .store t x y, ty, pos, af, g⟩ w undef w' ∧ Sep w0 w' (cs.set i (pOwn b (l.take j ++ v.cells.toList ++ l.drop (j + size)))) := by
  obtain ⟨w', hr, h2, h3⟩ := run_store_own (P := P) (t := t) (hS.own i hc) hv hk h1
  refine ⟨w', Y.skip ?_, hS.upd i hc (lm_own h3) h2⟩
  simp only [execOp, hx, hy]
  rw [Sem.run_bind, hr]
  rfl
/-- all blocks of a list as they were -/
def pKeep (w1 : World) (F : List Nat) : Plot where
  foot := F.filter fun b => decide (b < w1.heap.size)
  ok w := ∀ b ∈ F, b < w1.heap.size → w.heap[b]? = w1.heap[b]?
  view := (none, [])
  loc _ _ h hb := fun b hF hlt => (hb b (List.mem_filter.2 ⟨hF, by simpa using hlt⟩)).trans (h b hF hlt)
  lt w h x hx := by
    obtain ⟨h1, h2⟩ := List.mem_filter.1 hx
    have h3 : x < w1.heap.size := by simpa using h2
    have h4 := h x h1 h3
    rw [Array.getElem?_eq_getElem h3] at h4
    exact (Array.getElem?_eq_some_iff.1 h4).1
  sg _ _ := .inl rfl
def feet (cs : List Plot) : List Nat := cs.flatMap Plot.foot
/-- the blocks that belong to no piece -/
def others (w0 w1 : World) (cs : List Plot) : List Nat := (List.range w1.heap.size).filter fun x => decide (w0.heap.size ≤ x) && !(decide (x ∈ feet cs))
section
variable {w0 w1 w2 w w' : World} {cs ds : List Plot} {B : Nat}
theorem Sep.keep (h : Sep w0 w1 cs) : Sep w0 w1 (pKeep w1 (others w0 w1 cs) :: cs) := by
  refine ⟨h.frm, ?_, ?_, ?_⟩
  · intro c hc
    rcases List.mem_cons.1 hc with rfl | hc
    · exact fun _ _ _ => rfl
    · exact h.ok c hc
  · intro c hc x hx
    rcases List.mem_cons.1 hc with rfl | hc
    · have := (List.mem_filter.1 (List.mem_filter.1 hx).1).2
      simp only [Bool.and_eq_true, decide_eq_true_eq] at this
      exact this.1
    · exact h.low c hc x hx
  · rw [List.pairwise_cons]
    refine ⟨fun c hc x hx hx' => ?_, h.apart⟩
    have := (List.mem_filter.1 (List.mem_filter.1 hx).1).2
    simp only [Bool.and_eq_true, Bool.not_eq_true', decide_eq_false_iff_not] at this
    exact this.2 (List.mem_flatMap.2 ⟨c, hc, hx'⟩)
theorem Sep.same (h : Sep w0 w1 cs) (hs : Same B w1 w2) (h0 : w0.heap.size ≤ B) (hB : ∀ x ∈ feet cs, x < B) : Sep w0 w2 cs :=
  ⟨⟨hs.os.trans h.frm.os, hs.tape.trans h.frm.tape, hs.output.trans h.frm.output, Nat.le_trans h0 hs.size, fun k hk => (hs.block k (Nat.lt_of_lt_of_le hk h0)).trans (h.frm.block k hk)⟩,
    fun c hc => c.loc w1 w2 (h.ok c hc) fun x hx => hs.block x (hB x (List.mem_flatMap.2 ⟨c, hc, hx⟩)), h.low, h.apart⟩
theorem Same.mono {B B' : Nat} (h : Same B w w') (hb : B' ≤ B) : Same B' w w' := ⟨h.os, h.tape, h.output, Nat.le_trans hb h.size, fun k hk => h.block k (Nat.lt_of_lt_of_le hk hb)⟩
end
def colls (Ds : List Nat) : List Deferred := Ds.map fun D => { target := .collected D, args := #[] }
theorem y_salloc {P : Program} {σ : Env} {w0 w : World} {cs : List Plot} {ty e : TypeId} {pos : String} {af : Array Edge} {g : Option (Nat × Bool)} {d : Option Tmp} {zv : Value} {size bytes : Nat} [hi : Inf P e zv size bytes] (hS : Sep w0 w cs) :
    ∃ b w', Y P σ ⟨d, .alloc e, ty, pos, af, g⟩ w (ptrAt (pb b) 0) w' ∧ Sep w0 w' (pOwn b zv.cells.toList :: cs) := by
  refine ⟨w.heap.size, w.alloc (.cells zv.cells e), Y.val ?_, hS.push (frm_alloc _ _) (own_alloc _ _ _) (by simp [pOwn])⟩
  simp [execOp, Instr.alloc, Sem.run_bind, run_zeroValue (P := P) (t := e), newVar, newRow]
  rfl
end Go.Sv

/-
  General steps, further.
-/
set_option linter.unusedSimpArgs false
set_option linter.unusedVariables false
set_option linter.unnecessarySimpa false
namespace Go.Sv
open Go Go.RowKit
end Go.Sv

/-
  sievelaw18: EventNests.
-/
set_option linter.unusedSimpArgs false
set_option linter.unusedVariables false
set_option linter.unnecessarySimpa false
namespace Go.Proofs.YthgbpgjpnaanlaaGreatDoor
open Go Go.Sv Go.RowKit

def depthS (k : Lk) : Nat := if k.err = 0 then k.most else 0
end Go.Proofs.YthgbpgjpnaanlaaGreatDoor

/-
  Package event: copied, Wrap; sievelaw18: spoil.
-/
set_option linter.unusedSimpArgs false
set_option linter.unusedVariables false
set_option linter.unnecessarySimpa false
namespace Go.Sv
open Go Go.RowKit
end Go.Sv
namespace Go.Proofs.YthgbpgjpnaanlaaGreatDoor
open Go Go.Sv Go.RowKit
























































def spM : EvM := ⟨⟨9, [115, 112, 111, 105, 108, 116], [], []⟩, none, 0⟩
set_option maxHeartbeats 2000000 in
theorem evSpoil_ok (ns : List EvM) (q : Option Addr) (cc : Nat) (h1 : ns.length ≤ 1048578) (hs : ∀ m ∈ ns, m.e.small) (w0 w : World) (cs : List Plot) (hS : Sep w0 w (pRow 4 q ns.length cc (ns.flatMap EvM.cells) :: pMany (ns.map EvM.row) :: cs)) :
    CallsR Tryz.prog 10 #[.slice q ns.length cc] w fun _ w' => Sep w0 w' cs := by
  refine enter (l := [.slice q ns.length cc]) Tryz.func10 rfl Tryz.ntmps10 (by kernel_rfl) rfl ?_
  refine sgo ?_
  refine wcloop (X := Nat × List RowD) (fun x => [(0, .slice q ns.length cc), (5, int ns.length), (6, int x.1)])
    (fun x wr => x.1 ≤ ns.length ∧ (x.2.length = ns.length ∧ ∀ (j : Nat) (m : EvM) (r : RowD), ns[j]? = some m → x.2[j]? = some r → r.p = m.p ∧ r.size = 2 ∧ r.n = m.e.attrs.length) ∧ Sep w0 wr (pRow 4 q ns.length cc (((ns.take x.1).map (fun _ => spM) ++ ns.drop x.1).flatMap EvM.cells) :: pMany x.2 :: cs))
    (fun x => ns.length - x.1) (0, ns.map EvM.row) ⟨rfl, rfl, rfl, trivial⟩ ⟨Nat.zero_le _, ⟨by simp, ?_⟩, by simpa using hS⟩ ?_
  · intro j m r hm hr
    simp only [List.getElem?_map, hm, Option.map_some, Option.some.injEq] at hr
    subst hr
    exact ⟨rfl, rfl, rfl⟩
  clear hS
  rintro ⟨i, rs⟩ wr ρ ⟨hil, ⟨hrl, hrs⟩, hS⟩
  dsimp only at *
  refine sgo ?_
  (show WC _ _ _ _ _ _ _; first | refine WC_dec rfl (fun hc => ?_) (fun hc => ?_) | refine WC_cond rfl (fun hc => ?_) (fun hc => ?_))
  · have hlt : i < ns.length := by omega
    have hx : ns[i]? = some ns[i] := List.getElem?_eq_getElem hlt
    have hsm := hs _ (List.getElem_mem hlt)
    have hxi : ((ns.take i).map (fun _ => spM) ++ ns.drop i)[i]? = some ns[i] := by rw [List.getElem?_append_right (by simp; omega)]; simp [hlt, Nat.min_eq_left (Nat.le_of_lt hlt)]
    have hset : ((ns.take i).map (fun _ => spM) ++ ns.drop i).set i spM = (ns.take (i + 1)).map (fun _ => spM) ++ ns.drop (i + 1) := by
      rw [List.set_append_right _ _ (by simp; omega), List.take_add_one, hx, List.map_append]
      simp only [List.length_map, List.length_take, Nat.min_eq_left (Nat.le_of_lt hlt), Nat.sub_self, Option.toList, List.map_cons, List.map_nil, List.append_assoc, List.cons_append, List.nil_append]
      rw [List.drop_eq_getElem_cons hlt]
      rfl
    have hg3 := fm_get EvM.len ((ns.take i).map (fun _ => spM) ++ ns.drop i) i 3 (by omega)
    rw [hxi] at hg3
    replace hg3 : (((ns.take i).map (fun _ => spM) ++ ns.drop i).flatMap EvM.cells)[i * 4 + 3]? = some (.slice ns[i].p ns[i].e.attrs.length ns[i].c) := hg3
    have hup := flat_upd_all (f := EvM.cells) (k := 4) EvM.len ((ns.take i).map (fun _ => spM) ++ ns.drop i) i ns[i] spM hxi
    rw [hset] at hup
    have hfl := fm_len EvM.len ((ns.take i).map (fun _ => spM) ++ ns.drop i)
    have hml : ((ns.take i).map (fun _ => spM) ++ ns.drop i).length = ns.length := by simp; omega
    rw [hml] at hfl
    have hps : ∃ a, q = some a := (hS.row 0 rfl).sg.some (by rw [hfl]; omega)
    have hri : rs[i]? = some rs[i] := List.getElem?_eq_getElem (by omega)
    obtain ⟨e1, e2, e3⟩ := hrs i _ _ hx hri
    have hes := hsm.attrs
    generalize ns[i] = m at *
    generalize ((ns.take i).map (fun _ => spM) ++ ns.drop i).flatMap EvM.cells = F at *
    generalize hr0 : rs[i] = r0 at *
    clear hc hxi hr0
    obtain ⟨rz, rp, rn, rc, rx⟩ := r0
    dsimp only at e1 e2 e3
    subst e1 e2 e3
    refine sgo ?_
    refine wcloop (X := Nat × List Value) (fun x => [(0, .slice q ns.length cc), (2, int i), (5, int ns.length), (6, int i), (14, int m.e.attrs.length), (15, int x.1)])
      (fun x wr => x.1 ≤ m.e.attrs.length ∧ Sep w0 wr (pRow 4 q ns.length cc F :: pMany (rs.set i ⟨2, m.p, m.e.attrs.length, rc, x.2⟩) :: cs)) (fun x => m.e.attrs.length - x.1) (0, rx) ⟨rfl, rfl, rfl, rfl, rfl, rfl, trivial⟩ ⟨Nat.zero_le _, ?_⟩ ?_
    · have e : rs.set i ⟨2, m.p, m.e.attrs.length, rc, rx⟩ = rs := by
        obtain ⟨h, hh⟩ := List.getElem?_eq_some_iff.1 hri
        rw [← hh, List.set_getElem_self]
      dsimp only
      rw [e]; exact hS
    clear hS
    rintro ⟨k, ys⟩ wr2 ρ2 ⟨hk, hS⟩
    dsimp only at *
    refine sgo ?_
    (show WC _ _ _ _ _ _ _; first | refine WC_dec rfl (fun hc => ?_) (fun hc => ?_) | refine WC_cond rfl (fun hc => ?_) (fun hc => ?_))
    · have hkl : k < m.e.attrs.length := by omega
      clear hc
      have hj : (rs.set i ⟨2, m.p, m.e.attrs.length, rc, ys⟩)[i]? = some ⟨2, m.p, m.e.attrs.length, rc, ys⟩ := by rw [List.getElem?_set_self (by omega)]
      have hrow := hS.many 1 rfl _ (List.mem_of_getElem? hj)
      have hrl2 : ys.length = m.e.attrs.length * 2 := Row.len hrow
      have hmp : ∃ a, m.p = some a := (Row.sg hrow).some (by dsimp only; omega)
      refine sgo ?_
      refine wlbuild ?_
      refine sgo ?_
      refine smst (v := .agg ⟨[str [115, 112, 111, 105, 108, 116], str []]⟩) (k := k * 2) hS 1 hj (fun w3 hS => ?_) (hk := by dsimp only; omega)
      refine sgo ?_
      refine ⟨(k + 1, ys.take (k * 2) ++ [str [115, 112, 111, 105, 108, 116], str []] ++ ys.drop (k * 2 + 2)), ⟨rfl, rfl, rfl, rfl, rfl, rfl, trivial⟩, ⟨hkl, ?_⟩, (by (try dsimp only); omega)⟩
      have hS2 := hS
      simp only [List.set_set, List.set_cons_succ, List.set_cons_zero] at hS2
      exact hS2
    · clear hc
      refine sgo ?_
      refine wlbuild ?_
      refine sgo ?_
      refine srst (v := .agg ⟨spM.cells⟩) (j := i * 4) hS 0 (fun w3 hS => ?_) (hk := by omega)
      refine sgo ?_
      refine ⟨(i + 1, rs.set i ⟨2, m.p, m.e.attrs.length, rc, ys⟩), ⟨rfl, rfl, rfl, trivial⟩, ⟨hlt, ⟨by simp [hrl], ?_⟩, ?_⟩, (by (try dsimp only); omega)⟩
      · intro j m' r' hm' hr'
        by_cases hji : j = i
        · subst hji
          rw [List.getElem?_set_self (by omega)] at hr'
          injection hr' with hr'
          rw [hx] at hm'
          injection hm' with hm'
          subst hr' hm'
          exact ⟨rfl, rfl, rfl⟩
        · rw [List.getElem?_set_ne (fun h => hji h.symm)] at hr'
          exact hrs j m' r' hm' hr'
      · rw [← hup]; exact hS
  · refine sgo ?_
    (first | refine fp1 (.inl rfl) rfl rfl ?_ | refine fp2 (.inl rfl) rfl rfl rfl ?_ | refine fp3 (.inl rfl) rfl rfl rfl rfl ?_ | refine fp0 (.inr rfl) rfl ?_ | refine fp0 (.inl rfl) rfl ?_ | refine fp1 (.inr rfl) rfl rfl ?_)
    exact hS.tail.tail
end Go.Proofs.YthgbpgjpnaanlaaGreatDoor

/-
  Package event: Wrap.
-/
set_option linter.unusedSimpArgs false
set_option linter.unusedVariables false
set_option linter.unnecessarySimpa false
namespace Go.Proofs.YthgbpgjpnaanlaaGreatDoor
open Go Go.Sv Go.RowKit

def firstE (n : List UInt8) (es : List At) : Ev := ⟨1, n, [], es⟩
def wrapC (f : Ev) (k : Lk) : Int := if evR f = false then 180 else if k.err ≠ 0 then k.err else if k.stack = [] then 0 else 181
def wrapE (n : List UInt8) (es : List At) (l : List Ev) : List Ev := if wrapC (firstE n es) (lkR l) = 0 then firstE n es :: l ++ [closeE n] else []






















































































































end Go.Proofs.YthgbpgjpnaanlaaGreatDoor

/-
  Package event: Trim; sieveref18: Trim.
-/
set_option linter.unusedSimpArgs false
set_option linter.unusedVariables false
set_option linter.unnecessarySimpa false
namespace Go.Sv
open Go Go.RowKit
end Go.Sv
namespace Go.Proofs.YthgbpgjpnaanlaaGreatDoor
open Go Go.Sv Go.RowKit

def opnE (e : Ev) (o : Int) : Int := if e.kind = 1 then o + 1 else if e.kind = 2 then o - 1 else o
def arndE (e : Ev) (o : Int) : Int := if e.kind = 2 then o - 1 else o
/-- does an event stay? -/
def keepE (d o : Int) (e : Ev) : Bool := if e.kind = 0 then decide (arndE e o ≤ d) else decide (arndE e o < d)
def trM (d : Int) (ms : List EvM) : Int × List EvM := ms.foldl (fun s m => (opnE m.e s.1, if keepE d s.1 m.e then s.2 ++ [m] else s.2)) (0, [])
def trI (d : Int) (ms : List EvM) (i : Nat) : Int × List EvM := trM d (ms.take i)
def trimC (d : Int) (k : Lk) : Int := if d < 0 then 1 else k.err















































































































































































































































end Go.Proofs.YthgbpgjpnaanlaaGreatDoor

/-
  Package event: Walk.
-/
set_option linter.unusedSimpArgs false
set_option linter.unusedVariables false
set_option linter.unnecessarySimpa false
namespace Go.Proofs.YthgbpgjpnaanlaaGreatDoor
open Go Go.Sv Go.RowKit
def wlkP (b3 b5 : Nat) (q : Option Addr) (cc : Nat) (ns : List EvM) (m : EvM) : PlanB (Option Addr × Nat) where
  pl k d := match k with
    | 2 => [pRow 2 d.x.1 m.e.attrs.length d.x.2 (m.e.attrs.flatMap At.cells)]
    | 3 => [pOwn d.b (m.e.cells d.x.1 d.x.2)]
    | 4 => [pRow 4 d.p (ns.length + 1) d.c (ns.flatMap EvM.cells ++ m.e.cells d.x.1 d.x.2)]
    | 5 => [pOwn b3 [.slice d.p (ns.length + 1) d.c]]
    | _ => []
  con k := match k with
    | 3 => some 4
    | _ => none
  base k := match k with
    | 4 => [pRow 4 q ns.length cc (ns.flatMap EvM.cells)]
    | 5 => [pOwn b3 [.slice q ns.length cc]]
    | _ => []
  fact k a := match k with
    | 0 => (a 0).v = .slice q ns.length cc
    | 1 => (a 1).v = .agg ⟨m.cells⟩
    | 2 => (a 2).v = .agg ⟨m.e.cells (a 2).x.1 (a 2).x.2⟩
    | 3 => (a 3).v = .slice (pb (a 3).b) 1 1 ∧ (a 3).x = (a 2).x
    | 4 => (a 4).v = .slice (a 4).p (ns.length + 1) (a 4).c ∧ (a 4).x = (a 3).x
    | 5 => (a 5).p = (a 4).p ∧ (a 5).c = (a 4).c
    | _ => True






































































































end Go.Proofs.YthgbpgjpnaanlaaGreatDoor

/-
  Package event: words, asToken, Print.
-/
set_option linter.unusedSimpArgs false
set_option linter.unusedVariables false
set_option linter.unnecessarySimpa false
namespace Go.Proofs.YthgbpgjpnaanlaaGreatDoor
open Go Go.Sv Go.RowKit

def wrdV (k : Int) : Value := .agg ⟨[str (ew0 k), str (ew1 k)]⟩
def wrdKV : List (Int × Value) := [(0, wrdV 0), (1, wrdV 1), (2, wrdV 2), (3, wrdV 3)]
theorem wrd_at {k : Int} (hk : k = 0 ∨ k = 1 ∨ k = 2 ∨ k = 3) : wrdKV.lookup k = some (wrdV k) := by
  rcases hk with rfl | rfl | rfl | rfl <;> rfl
theorem y_wrd {P : Program} {σ : Env} {w : World} {m : Nat} {d : Option Tmp} {ty t kt vt : TypeId} {pos : String} {af : Array Edge} {g : Option (Nat × Bool)} {x y : Operand} {zv : Value} {size bytes : Nat} [hu : Und P t (.map kt vt)] [hkt : Und P kt (.int .i64)] [hi : Inf P vt zv size bytes] {k : Int} (hk : k = 0 ∨ k = 1 ∨ k = 2 ∨ k = 3) (hm : IMap w m wrdKV) (hx : evl σ x = .map (some m)) (hy : evl σ y = int k) :
    Y P σ ⟨d, .lookup t x y false, ty, pos, af, g⟩ w (wrdV k) w := by
  have h : Y P σ ⟨d, .lookup t x y false, ty, pos, af, g⟩ w ((wrdKV.lookup k).getD zv) w := y_ilookup hx hy hm
  rw [wrd_at hk] at h
  exact h
set_option maxHeartbeats 1000000 in
theorem words18_ok (w0 w : World) (cs : List Plot) (hS : Sep w0 w cs) :
    CallsR Tryz.prog 15 #[] w fun v w' => ∃ m, v = .map (some m) ∧ Frm w w' ∧ Sep w0 w' (pIMap m wrdKV :: cs) := by
  refine enter (l := []) Tryz.func15 rfl Tryz.ntmps15 (by kernel_rfl) rfl ?_
  refine sgo ?_
  refine wlimap fun m w1 hm hI hf => ?_
  have hm1 := hI.lt
  refine wl ?_ (y_arr (zs := [str [], str []]) (zv := str []) [str (ew0 0), str (ew1 0)] rfl rfl rfl (by simp [Value.cells]))
  refine wliins (s := 0) (v := wrdV 0) hI rfl fun w2 hI hl => ?_
  replace hf := hf.step hl (by simpa using hm)
  refine wl ?_ (y_arr (zs := [str [], str []]) (zv := str []) [str (ew0 1), str (ew1 1)] rfl rfl rfl (by simp [Value.cells]))
  refine wliins (s := 1) (v := wrdV 1) hI rfl fun w3 hI hl => ?_
  replace hf := hf.step hl (by simpa using hm)
  refine wl ?_ (y_arr (zs := [str [], str []]) (zv := str []) [str (ew0 2), str (ew1 2)] rfl rfl rfl (by simp [Value.cells]))
  refine wliins (s := 2) (v := wrdV 2) hI rfl fun w4 hI hl => ?_
  replace hf := hf.step hl (by simpa using hm)
  refine wl ?_ (y_arr (zs := [str [], str []]) (zv := str []) [str (ew0 3), str (ew1 3)] rfl rfl rfl (by simp [Value.cells]))
  refine wliins (s := 3) (v := wrdV 3) hI rfl fun w5 hI hl => ?_
  replace hf := hf.step hl (by simpa using hm)
  refine sgo ?_
  (first | refine fp1 (.inl rfl) rfl rfl ?_ | refine fp2 (.inl rfl) rfl rfl rfl ?_ | refine fp3 (.inl rfl) rfl rfl rfl rfl ?_ | refine fp0 (.inr rfl) rfl ?_ | refine fp0 (.inl rfl) rfl ?_ | refine fp1 (.inr rfl) rfl rfl ?_)
  exact ⟨m, rfl, hf, hS.push hf (c := pIMap m wrdKV) hI (by intro x hx; simp [pIMap] at hx; omega)⟩
def tokP (e : Ev) (p : Option Addr) : Option Addr := if e.kind = 0 ∨ e.kind = 2 then none else p
def tokC (e : Ev) (c : Nat) : Nat := if e.kind = 0 ∨ e.kind = 2 then 0 else c
theorem evTok_small {e : Ev} (h : e.small) : (evTok e).small := by
  unfold evTok
  split
  · exact ⟨by simp, h.text, by simp, by simp⟩
  split
  · exact Ev.close_small h
  · exact Ev.start_small h
theorem evTok_im {w : World} {e : Ev} {p : Option Addr} (h : Im [] w p (e.attrs.flatMap At.cells)) : Im [] w (tokP e p) ((evTok e).attrs.flatMap At.cells) := by
  unfold tokP evTok
  by_cases h0 : e.kind = 0
  · rw [if_pos (.inl h0), if_pos h0]; exact Im.nil _ _ _
  · rw [if_neg h0]
    by_cases h2 : e.kind = 2
    · rw [if_pos (.inr h2), if_pos h2]; exact Im.nil _ _ _
    · rw [if_neg (by omega), if_neg h2]; exact h
set_option maxHeartbeats 1000000 in
theorem asToken_ok (e : Ev) (p : Option Addr) (c : Nat) (w : World) :
    PureC Tryz.prog 14 #[.agg ⟨e.cells p c⟩] w (.agg ⟨(evTok e).cells (tokP e p) (tokC e c)⟩) := by
  obtain ⟨k, nm, tx, es⟩ := e
  refine enter (l := [.agg ⟨Ev.cells ⟨k, nm, tx, es⟩ p c⟩]) Tryz.func14 rfl Tryz.ntmps14 (by kernel_rfl) rfl ?_
  have hS := Sep.start w
  refine sgo ?_
  refine sbox (v := .agg ⟨Ev.cells ⟨k, nm, tx, es⟩ p c⟩) hS fun b w1 hS => ?_
  refine sgo ?_
  refine salloc hS fun b2 w2 hS => ?_
  replace hS : Sep w w2 [pOwn b2 [int 0, str [], str [], .slice none 0 0, .bool false, int 0, int 0, int 0], pOwn b [int k, str nm, str tx, .slice p es.length c]] := hS
  refine sgo ?_
  (show WC _ _ _ _ _ _ _; first | refine WC_dec rfl (fun hc => ?_) (fun hc => ?_) | refine WC_cond rfl (fun hc => ?_) (fun hc => ?_))
  · replace hc : k = 0 := hc
    subst hc
    refine sgo ?_
    refine wlbuild ?_
    refine ssta (vs := [int 0, str [], str tx, .slice none 0 0, .bool false, int 0, int 0, int 0]) hS 0 fun w3 hS => ?_
    refine sgo ?_
    refine fpc (l := [int 0, str [], str tx, .slice none 0 0, .bool false, int 0, int 0, int 0]) (.inl rfl) rfl rfl rfl (hS.own 0 rfl) ⟨?_, hS.frm⟩
    rfl
  · replace hc : ¬ k = 0 := hc
    have hk0 := hc
    clear hc
    refine sgo ?_
    (show WC _ _ _ _ _ _ _; first | refine WC_dec rfl (fun hc => ?_) (fun hc => ?_) | refine WC_cond rfl (fun hc => ?_) (fun hc => ?_))
    · replace hc : k = 2 := hc
      subst hc
      refine sgo ?_
      refine wlbuild ?_
      refine ssta (vs := [int 2, str nm, str [], .slice none 0 0, .bool false, int 0, int 0, int 0]) hS 0 fun w3 hS => ?_
      refine sgo ?_
      refine fpc (l := [int 2, str nm, str [], .slice none 0 0, .bool false, int 0, int 0, int 0]) (.inl rfl) rfl rfl rfl (hS.own 0 rfl) ⟨?_, hS.frm⟩
      rfl
    · replace hc : ¬ k = 2 := hc
      refine sgo ?_
      refine wlbuild ?_
      refine ssta (vs := [int 1, str nm, str [], .slice p es.length c, .bool false, int 0, int 0, int 0]) hS 0 fun w3 hS => ?_
      refine sgo ?_
      refine fpc (l := [int 1, str nm, str [], .slice p es.length c, .bool false, int 0, int 0, int 0]) (.inl rfl) rfl rfl rfl (hS.own 0 rfl) ⟨?_, hS.frm⟩
      unfold evTok tokP tokC
      dsimp only
      rw [if_neg hk0, if_neg hc, if_neg (by omega), if_neg (by omega)]
      rfl
/-! ## Print -/
theorem trimPre_ok (s p : List UInt8) (w : World) : PureC Tryz.prog 17 #[str s, str p] w (str (Lib.trimPrefix s p)) := by
  refine Calls.mono (Tryz.strings_TrimPrefix ⟨s.toArray⟩ ⟨p.toArray⟩ w) ?_
  rintro e w' ⟨rfl, rfl⟩
  exact ⟨_, rfl, rfl, Frm.refl _⟩
theorem evLine_trim {e : Ev} (h : evR e = true) : ew0 e.kind ++ Lib.trimPrefix (lineR (evTok e)) (ew1 e.kind) = evLine e := by
  obtain ⟨X, h1, h2⟩ := evLine_eq h
  unfold evLine
  congr 1
  unfold Lib.trimPrefix Lib.hasPrefix
  rw [if_pos]
  rw [h2, List.isPrefixOf_iff_prefix]
  exact List.prefix_append _ _
theorem evLine_len {e : Ev} (h : evR e = true) : (evLn e).length ≤ 5 * e.wt := by
  have ha : ∀ es : List At, (es.flatMap atLine).length ≤ 2 * (es.map At.wt).sum := by
    intro es
    induction es with
    | nil => simp
    | cons x es ih =>
      rw [List.flatMap_cons, List.length_append, List.map_cons, List.sum_cons]
      have h1 := quoteR_len x.n
      have h2 := quoteR_len x.v
      have h3 : (atLine x).length = (quoteR x.n).length + (quoteR x.v).length + 2 := by unfold atLine; simp; omega
      have h4 : At.wt x = x.n.length + x.v.length + 3 := rfl
      omega
  have hg : ∀ t : Tok, (lineR t).length ≤ 7 + (2 * t.name.length + 3) + (2 * t.text.length + 3) + (t.attrs.flatMap atLine).length + 2 := by
    intro t
    have hw := wordR_len t.kind
    have hq := quoteR_len t.name
    have hq2 := quoteR_len t.text
    have h1 : (if t.kind = 1 ∨ t.kind = 2 then 32 :: quoteR t.name else if t.kind = 0 ∨ t.kind = 3 then 32 :: quoteR t.text else []).length ≤ (2 * t.name.length + 3) + (2 * t.text.length + 3) := by
      split
      · rw [List.length_cons]; omega
      split
      · rw [List.length_cons]; omega
      · rw [List.length_nil]; omega
    have h2 : (if t.self = true then [32, 47] else ([] : List UInt8)).length ≤ 2 := by split <;> simp
    unfold lineR headR
    simp only [List.length_append]
    omega
  have h0 := hg (evTok e)
  have hn : (evTok e).name.length ≤ e.name.length := by
    unfold evTok; split
    · exact Nat.zero_le _
    split
    · exact Nat.le_refl _
    · exact Nat.le_refl _
  have ht : (evTok e).text.length ≤ e.text.length := by
    unfold evTok; split
    · exact Nat.le_refl _
    split
    · exact Nat.zero_le _
    · exact Nat.zero_le _
  have hat : ((evTok e).attrs.flatMap atLine).length ≤ 2 * (e.attrs.map At.wt).sum := by
    unfold evTok; split
    · exact Nat.zero_le _
    split
    · exact Nat.zero_le _
    · exact ha e.attrs
  have h5 : (ew0 e.kind).length ≤ 5 := by
    unfold ew0
    repeat' split
    all_goals decide
  have h6 : (ew1 e.kind).length ≥ 3 := by
    unfold ew1
    repeat' split
    all_goals decide
  obtain ⟨X, h7, h8⟩ := evLine_eq h
  have h9 := congrArg List.length h8
  simp only [List.length_append, List.length_cons] at h9
  unfold evLn Ev.wt
  rw [h7]
  simp only [List.length_append, List.length_cons, List.length_nil]
  omega
theorem evLns_snoc {l : List Ev} {i : Nat} {e : Ev} (h : l[i]? = some e) : evLns (l.take (i + 1)) = evLns (l.take i) ++ evLn e := by
  unfold evLns
  rw [List.take_add_one, h, List.flatMap_append]; simp
theorem evLns_len : ∀ l : List Ev, (∀ e ∈ l, evR e = true) → (evLns l).length ≤ 5 * (l.map Ev.wt).sum
  | [], _ => by simp [evLns]
  | e :: l, h => by
    have ih := evLns_len l fun x hx => h x (List.mem_cons_of_mem _ hx)
    have h1 := evLine_len (h e (by simp))
    have e1 : evLns (e :: l) = evLn e ++ evLns l := by unfold evLns; rw [List.flatMap_cons]
    rw [e1, List.length_append, List.map_cons, List.sum_cons]
    omega
theorem evLns_take {ms : List EvM} {i : Nat} (h : ∀ e ∈ (evs ms).take i, evR e = true) : (evLns ((evs ms).take i)).length ≤ 5 * evw ms := by
  have h1 := evLns_len _ h
  have h2 := sum_take Ev.wt (evs ms) i
  have h3 : ((evs ms).map Ev.wt).sum = evw ms := by simp [evs, evw, Function.comp_def]
  omega
def prP (b6 : Nat) (k : Int) : PlanB Unit where
  pl k2 d := match k2 with
    | 0 => [pIMap d.b wrdKV]
    | 4 => [pOwn d.b [str [], str []]]
    | 5 => [pOwn d.b [str (ew0 k), str (ew1 k)]]
    | _ => []
  con k2 := match k2 with
    | 0 => some 3
    | 4 => some 5
    | _ => none
  base k2 := match k2 with
    | _ => []
  fact k2 a := match k2 with
    | 0 => (a 0).v = .map (some (a 0).b)
    | 1 => (a 1).v = ptrAt (pb b6) 0
    | 2 => (a 2).v = int k
    | 3 => (a 3).v = wrdV k
    | 4 => (a 4).v = ptrAt (pb (a 4).b) 0
    | 5 => (a 5).b = (a 4).b
    | _ => True
set_option maxHeartbeats 4000000 in
theorem evPrint_ok (ms : List EvM) (p : Option Addr) (c : Nat) (hw : evw ms ≤ 2097152) (hs : ∀ m ∈ ms, m.e.small) (w : World) (hA : Asc w) (hE : Evs w p ms) :
    PureC Tryz.prog 4 #[.slice p ms.length c] w (if (evs ms).all evR = true then .tuple #[str (evLns (evs ms)), int 0] else .tuple #[str [], int 180]) := by
  have hn : ms.length ≤ 2097152 := by
    have := sum_len (fun m : EvM => m.e.wt) ms (by intro m _; show 1 ≤ Ev.wt m.e; unfold Ev.wt; omega)
    unfold evw at hw; omega
  have hS := Sep.start w
  obtain ⟨R, hR⟩ : ∃ R, (evs ms).all evR = R := ⟨_, rfl⟩
  rw [hR]
  refine enter (l := [.slice p ms.length c]) Tryz.func4 rfl Tryz.ntmps4 (by kernel_rfl) rfl ?_
  refine sgo ?_
  refine wlallocT fun b w1 hbw ha hf => ?_
  replace hS : Sep w w1 [pBld TB TY b none []] := hS.push hf (Bld.new ha) (by intro x hx; simp [pBld, rb] at hx; omega)
  refine sgo ?_
  refine wcloop (X := Nat × Option Addr) (fun x => [(4, ptrAt (pb b) 0), (11, .slice p ms.length c), (12, int ms.length), (13, int x.1)])
    (fun x wr => x.1 ≤ ms.length ∧ (∀ e ∈ (evs ms).take x.1, evR e = true) ∧ Sep w wr [pBld TB TY b x.2 (evLns ((evs ms).take x.1))]) (fun x => ms.length - x.1) (0, none) ⟨rfl, rfl, rfl, rfl, trivial⟩ ⟨Nat.zero_le _, by simp, hS⟩ ?_
  clear hS ha hf
  rintro ⟨i, q⟩ wr ρ ⟨hil, hall, hS⟩
  dsimp only at hil hall hS ⊢
  refine sgo ?_
  (show WC _ _ _ _ _ _ _; first | refine WC_dec rfl (fun hc => ?_) (fun hc => ?_) | refine WC_cond rfl (fun hc => ?_) (fun hc => ?_))
  · have hlt : i < ms.length := by omega
    clear hc
    have hSg := (hE.frm hS.frm).im.sg
    have hx : ms[i]? = some ms[i] := List.getElem?_eq_getElem hlt
    have hmem : ms[i] ∈ ms := List.getElem_mem hlt
    have hseg := fm_seg EvM.len ms hx
    have hfl := fm_len EvM.len ms
    have hps : ∃ q, p = some q := hSg.some (by omega)
    have hat := hE.each _ hmem
    have hsm := hs _ hmem
    have hsn := evLns_snoc (evs_at hx)
    have hex := evs_at hx
    have hnext : evR ms[i].e = true → ∀ e ∈ (evs ms).take (i + 1), evR e = true := fun h e he => by
      rw [List.take_add_one, hex] at he
      rcases List.mem_append.1 he with he | he
      · exact hall e he
      · have : e = ms[i].e := by simpa using he
        rw [this]; exact h
    have hbad : evR ms[i].e = false → R = false := fun h => by
      rw [← hR, List.all_eq_false]
      exact ⟨ms[i].e, List.mem_of_getElem? hex, by simp [h]⟩
    have hln : evR ms[i].e = true → (evLns ((evs ms).take i)).length + (evLn ms[i].e).length ≤ 5 * evw ms := fun h => by
      have := evLns_take (hnext h)
      rw [hsn, List.length_append] at this
      exact this
    have hkind : evR ms[i].e = true → ms[i].e.kind = 0 ∨ ms[i].e.kind = 1 ∨ ms[i].e.kind = 2 ∨ ms[i].e.kind = 3 := evR_kind
    have htrim : evR ms[i].e = true → _ := evLine_trim (e := ms[i].e)
    have hmay : evR ms[i].e = true → _ := evTok_may (e := ms[i].e)
    generalize ms[i] = m at *
    generalize hacc : evLns ((evs ms).take i) = acc at *
    obtain ⟨e0, mp, mc⟩ := m
    have htok := fun w' h => print_ok (evTok e0) (tokP e0 mp) (tokC e0 mc) (evTok_small hsm) w' h
    have hasT := fun w' => asToken_ok e0 mp mc w'
    have hchk := fun w' h1 h2 => evCheck_ok e0 mp mc hsm w' h1 h2
    dsimp only at hln hkind htrim hmay hbad hnext hsn hat
    generalize hT : evTok e0 = T at *
    have hag : (EvM.mk e0 mp mc).cells = e0.cells mp mc := rfl
    obtain ⟨k, nm, tx, es⟩ := e0
    have htp : Im [] w (tokP ⟨k, nm, tx, es⟩ mp) (T.attrs.flatMap At.cells) := hT ▸ evTok_im hat
    generalize tokP ⟨k, nm, tx, es⟩ mp = tp at *
    generalize tokC ⟨k, nm, tx, es⟩ mc = tc at *
    refine sgo ?_
    rw [hseg]
    refine salloc hS fun b6 w5 hS => ?_
    refine sgo ?_
    refine ssta (vs := [int k, str nm, str tx, .slice mp es.length mc]) hS 0 fun w6 hS => ?_
    replace hS : Sep w w6 [pOwn b6 [int k, str nm, str tx, .slice mp es.length mc], pBld TB TY b q acc] := hS
    refine sgo ?_
    refine wlpure (hchk w6 (hA.frm hS.frm) (hat.sep hS)) fun w7 hf7 => ?_
    replace hS := hS.grow hf7
    cases he : evR ⟨k, nm, tx, es⟩ with
    | false =>
      have hRf := hbad he
      subst hRf
      simp only [Bool.false_eq_true, if_false]
      refine sgo ?_
      (first | refine fp1 (.inl rfl) rfl rfl ?_ | refine fp2 (.inl rfl) rfl rfl rfl ?_ | refine fp3 (.inl rfl) rfl rfl rfl rfl ?_ | refine fp0 (.inr rfl) rfl ?_ | refine fp0 (.inl rfl) rfl ?_ | refine fp1 (.inr rfl) rfl rfl ?_); refine ⟨?_, by (first | exact Frm.refl _ | assumption | exact Go.Sv.Sep.frm (by assumption) | (refine Frm.trans ?_ (by assumption); first | exact Frm.refl _ | assumption))⟩; (try simp only [realB, rv_true, Nat.reduceBEq, cond_true, cond_false, entG, real_lif, updGL])
    | true =>
      have hk4 := hkind he
      have htr := htrim he
      have hma := hmay he
      have hl4 := hln he
      have hall' := hnext he
      clear hkind htrim hmay hln hnext hbad hchk
      simp only [if_true]
      refine sgo ?_
      refine wlpure (hasT _) fun w8 hf8 => ?_
      replace hS := hS.grow hf8
      refine wlpure (htok _ (htp.sep hS)) fun w9 hf9 => ?_
      replace hS := hS.grow hf9
      rw [if_pos hma]
      generalize hLn : lineR T = LN at *
      refine sgo ?_
      dsimp only at hk4 htr
      refine wcplanb (b := []) (prP b6 k) ⟨.nilIface, none, 0, 0, ()⟩ hS rfl (fun j oj a a' hj he hd h => ?_) ⟨?_, ?_, ?_, ?_, ?_, ?_, trivial⟩ ?_
      · have hjl : j < 6 := (List.getElem?_eq_some_iff.1 hj).1
        match j, hjl with
        | 0, _ | 1, _ | 2, _ | 3, _ | 4, _ => first | (simp only [prP] at h ⊢; rw [← he]; exact h) | exact h
        | 5, _ => simp only [prP] at h ⊢; rw [← he, ← hd 4 (by cases hj; rfl)]; exact h
      · intro a σ' w' rest hσ hdep hS'   -- 0: call; pieces:  ..
        refine rule_call (vals := []) (words18_ok w w' _ hS') (fun v w2 hR => ?_) rfl
        obtain ⟨m, rfl, -, hS2⟩ := hR
        exact ⟨⟨.map (some m), none, 0, m, ()⟩, rfl, rfl, hS2⟩
      · intro a σ' w' rest hσ hdep hS'   -- 1: fieldAddr; pieces:  ..
        have e6 : σ' 6 = ptrAt (pb b6) 0 := (hσ 6 (notDstB rfl)).trans rfl
        exact rule_y (y_field e6 ⟨_, rfl⟩ (by decide)) ⟨⟨ptrAt (pb b6) 0, none, 0, 0, ()⟩, rfl, rfl, hS'⟩
      · intro a σ' w' rest hσ hdep hS'   -- 2: load; pieces:  ..
        have f1 := (hdep 1 _ rfl rfl).2
        have e29 := ((hdep 1 _ rfl rfl).1 29 rfl).trans f1
        exact rule_y (y_load e29 (Sep.sgv hS' 0 rfl) rfl) ⟨⟨int k, none, 0, 0, ()⟩, rfl, rfl, hS'⟩
      · intro a σ' w' rest hσ hdep hS'   -- 3: lookup; pieces: takes 0 ..
        have f0 := (hdep 0 _ rfl rfl).2
        have e28 := ((hdep 0 _ rfl rfl).1 28 rfl).trans f0
        have f2 := (hdep 2 _ rfl rfl).2
        have e30 := ((hdep 2 _ rfl rfl).1 30 rfl).trans f2
        exact rule_y (y_wrd hk4 (Sep.at (c := pIMap (a 0).b wrdKV) hS' 0 rfl) e28 e30) ⟨⟨wrdV k, none, 0, 0, ()⟩, rfl, rfl, hS'.tail⟩
      · intro a σ' w' rest hσ hdep hS'   -- 4: alloc; pieces:  ..
        obtain ⟨b, w2, hy, hS2⟩ := y_salloc (P := Tryz.prog) (e := 53) (d := some 10) hS'
        exact rule_y hy ⟨⟨ptrAt (pb b) 0, none, 0, b, ()⟩, rfl, rfl, hS2⟩
      · intro a σ' w' rest hσ hdep hS'   -- 5: store; pieces: takes 4 ..
        have f4 := (hdep 4 _ rfl rfl).2
        have e10 := ((hdep 4 _ rfl rfl).1 10 rfl).trans f4
        have f3 := (hdep 3 _ rfl rfl).2
        have e31 := ((hdep 3 _ rfl rfl).1 31 rfl).trans f3
        obtain ⟨w2, hy, hS2⟩ := y_sst (P := Tryz.prog) (t := 53) (x := .tmp 10) (y := .tmp 31) hS' 0 rfl e10 e31 rfl (Nat.le_of_ble_eq_true rfl) (by simp [Go.Value.cells, Go.Value.oneCell', wrdV])
        exact rule_y hy ⟨⟨undef, none, 0, (a 4).b, ()⟩, rfl, rfl, hS2⟩
      · intro a σ' w' hσ hA' hS'
        have h4 := hA' 4 _ rfl
        have h5 := hA' 5 _ rfl
        have e10 := (h4.1 10 rfl).trans h4.2
        rw [frameOf (σ := σ') [(4, ptrAt (pb b) 0), (8, str LN), (10, ptrAt (pb (a 4).b) 0), (11, .slice p ms.length c), (12, int ms.length), (13, int i)]
          ⟨(hσ 4 (notDst rfl)).trans rfl, (hσ 8 (notDst rfl)).trans rfl, e10, (hσ 11 (notDst rfl)).trans rfl, (hσ 12 (notDst rfl)).trans rfl, (hσ 13 (notDst rfl)).trans rfl, trivial⟩]
        replace hS : Sep w w' [pOwn (a 5).b [str (ew0 k), str (ew1 k)], pOwn b6 [int k, str nm, str tx, .slice mp es.length mc], pBld TB TY b q acc] := hS'
        rw [h5.2] at hS
        generalize (a 4).b = b10 at *
        clear hA' h4 h5 e10 hS' hσ hsn hex
        have hxl : (ew0 k).length ≤ 5 := by
          unfold ew0
          repeat' split
          all_goals decide
        have hll : (evLine ⟨k, nm, tx, es⟩).length ≤ 10485760 := by
          unfold evLn at hl4
          simp at hl4
          omega
        have htl2 : (ew0 k).length + (Lib.trimPrefix LN (ew1 k)).length = (evLine ⟨k, nm, tx, es⟩).length := by rw [← htr, List.length_append]
        have hsn' := evLns_snoc (evs_at hx)
        refine thn_normal ?_
        refine sgo ?_
        refine wcdrawt 8 ?_
        refine qgo ?_
        refine qlcallp (fun w _ => trimPre_ok LN (ew1 k) w) ?_
        refine qgo ?_
        refine QL_nil ?_
        intro w11 hf11
        replace hS := hS.grow hf11
        have hw3 : ew0 k ++ Lib.trimPrefix LN (ew1 k) ++ [10] = evLn ⟨k, nm, tx, es⟩ := by rw [htr]; rfl
        rw [hw3]
        refine wlcall (writeString_ok b q acc (evLn ⟨k, nm, tx, es⟩) _ (hS.bld 2 rfl) (by omega)) ?_
        rintro _ w12 ⟨rfl, q', hB, hl⟩
        replace hS := hS.toBld 2 rfl hl hB
        rw [hacc] at hsn'
        refine sgo ?_
        refine ⟨(i + 1, q'), ⟨rfl, rfl, rfl, rfl, trivial⟩, ⟨hlt, hall', ?_⟩, (by (try dsimp only); omega)⟩
        dsimp only
        rw [hsn']
        exact (hS.drop 1 rfl).drop 0 rfl
  · obtain rfl : i = ms.length := by omega
    rw [← evs_len, List.take_length] at hS hall
    have hRt : R = true := by rw [← hR, List.all_eq_true]; exact hall
    rw [hRt]
    simp only [if_true]
    refine sgo ?_
    refine wlcall (string_ok w.heap.size b q _ _ (hS.bld 0 rfl) (fun x hx => hS.low _ List.mem_cons_self x hx) hS.frm.size) ?_
    rintro _ w6 ⟨rfl, hf6⟩
    have hfr6 : Frm w w6 := Below.trans hS.frm hf6
    refine sgo ?_
    (first | refine fp1 (.inl rfl) rfl rfl ?_ | refine fp2 (.inl rfl) rfl rfl rfl ?_ | refine fp3 (.inl rfl) rfl rfl rfl rfl ?_ | refine fp0 (.inr rfl) rfl ?_ | refine fp0 (.inl rfl) rfl ?_ | refine fp1 (.inr rfl) rfl rfl ?_); refine ⟨?_, by (first | exact Frm.refl _ | assumption | exact Go.Sv.Sep.frm (by assumption) | (refine Frm.trans ?_ (by assumption); first | exact Frm.refl _ | assumption))⟩; (try simp only [realB, rv_true, Nat.reduceBEq, cond_true, cond_false, entG, real_lif, updGL])
end Go.Proofs.YthgbpgjpnaanlaaGreatDoor

/-
  Package sieveref18: quoted, Line, Print.
-/
set_option linter.unusedSimpArgs false
set_option linter.unusedVariables false
set_option linter.unnecessarySimpa false
namespace Go.Sv
open Go Go.RowKit
end Go.Sv
namespace Go.Proofs.YthgbpgjpnaanlaaGreatDoor
open Go Go.Sv Go.RowKit

theorem y_i2s {P : Program} {w : World} {ty t t' : TypeId} {pos : String} {af : Array Edge} {x : Operand} {σ : Env} {d : Option Tmp} {g : Option (Nat × Bool)} {r : Nat} [hu : Und P t (.int .i32)] [hu' : Und P t' .string] (hg : Good r) (hx : evl σ x = .int .i32 r) :
    Y P σ ⟨d, .convert t t' x, ty, pos, af, g⟩ w (str (encR r)) w := by
  refine Y.val ?_
  simp only [execOp, hx]
  rw [Sem.run_bind]
  simp [convert, underlying, Sem.run_bind, run_program, hu.ok, hu'.ok, Conv.intToString, encode_good hg]
set_option maxHeartbeats 4000000 in
theorem quoted18_ok (l : List UInt8) (hv : validR l = true) (hb : l.length ≤ 1048576) (w : World) :
    PureC Tryz.prog 40 #[str l] w (str (quoteR l)) := by
  have hel := escs_len l
  refine enter (l := [str l]) Tryz.func40 rfl Tryz.ntmps40 (by kernel_rfl) rfl ?_
  refine sgo ?_
  refine wlrange fun r w2 hr2 hI2 hf2 => ?_
  refine sgo ?_
  refine wcloop (X := Nat) (fun i => [(3, str (34 :: (l.take i).flatMap esc)), (7, .pointer (pb r))])
    (fun i wr => i ≤ l.length ∧ validR (l.drop i) = true ∧ It wr r l i ∧ Frm w wr) (fun i => l.length - i) 0 ⟨rfl, rfl, trivial⟩ ⟨by omega, by simpa using hv, hI2, hf2⟩ ?_
  rintro i wr ρ ⟨hil, hvi, hIt, hfr⟩
  refine sgo ?_
  by_cases hi : i < l.length
  · refine wlnext_yes hIt hi fun w3 hIt3 hl3 => ?_
    have hd0 : 0 < (l.drop i).length := by simp; omega
    obtain ⟨hR, hv2⟩ := valid_step (l.drop i) hd0 hvi
    have hdec := decode_right l i hR
    obtain ⟨r0, hp1, hr1, hr2', hesc⟩ := esc_piece (l.drop i) hd0 hR
    have hrng := pieceR_rng (l.drop i) hd0
    simp only [hdec] at hIt3 ⊢
    have hp2 : (pieceR (l.drop i)).1.toNat = r0 := by rw [hp1]; rfl
    rw [hp2]
    generalize (pieceR (l.drop i)).2.1 = nn at *
    clear hdec hp1 hp2 hR
    have hfr3 := hfr.step hl3 (by intro x hx; simp only [List.mem_singleton] at hx; subst hx; exact hr2)
    have hti := escs_len (l.take i)
    have hti2 : (l.take i).length ≤ 1048576 := by simp; omega
    have hlen : (34 :: (l.take i).flatMap esc).length ≤ 4000000 := by simp only [List.length_cons]; omega
    have hdl : (l.drop i).length = l.length - i := by simp
    have hin : i + nn ≤ l.length := by omega
    have hv3 : validR (l.drop (i + nn)) = true := by rw [← List.drop_drop]; exact hv2
    have hes : 34 :: (l.take (i + nn)).flatMap esc = (34 :: (l.take i).flatMap esc) ++ escP r0 := by rw [esc_step, hesc]; rfl
    have hel4 : (encR r0).length ≤ 4 := (encR_len4 r0).2
    have hg : Good r0 := by unfold Good; omega
    generalize (34 :: (l.take i).flatMap esc) = S at *
    clear hIt hesc hv2 hvi hl3 hti hti2
    refine sgo ?_
    (show WC _ _ _ _ _ _ _; first | refine WC_dec rfl (fun hc => ?_) (fun hc => ?_) | refine WC_cond rfl (fun hc => ?_) (fun hc => ?_))
    · refine sgo ?_
      refine ⟨i + nn, ⟨?_, rfl, trivial⟩, ⟨hin, hv3, hIt3, hfr3⟩, by omega⟩
      rw [hes, show escP r0 = [92, 110] by unfold escP; rw [if_pos (by omega)]]
      rfl
    · have hc10 : ¬ r0 = 10 := by omega
      clear hc
      refine sgo ?_
      (show WC _ _ _ _ _ _ _; first | refine WC_dec rfl (fun hc => ?_) (fun hc => ?_) | refine WC_cond rfl (fun hc => ?_) (fun hc => ?_))
      · refine sgo ?_
        refine ⟨i + nn, ⟨?_, rfl, trivial⟩, ⟨hin, hv3, hIt3, hfr3⟩, by omega⟩
        rw [hes, show escP r0 = [92, 116] by unfold escP; rw [if_neg (by omega), if_pos (by omega)]]
        rfl
      · have hc9 : ¬ r0 = 9 := by omega
        clear hc
        refine sgo ?_
        (show WC _ _ _ _ _ _ _; first | refine WC_dec rfl (fun hc => ?_) (fun hc => ?_) | refine WC_cond rfl (fun hc => ?_) (fun hc => ?_))
        · have hc34 : r0 = 34 := by omega
          clear hc
          rw [show escP r0 = 92 :: encR r0 by unfold escP; rw [if_neg hc10, if_neg hc9, if_pos (.inl hc34)]] at hes
          refine sgo ?_
          refine wcyes ?_ (ht := by simp [hc34])
          refine sgo ?_
          refine wl ?_ (y_i2s hg rfl)
          refine sgo ?_
          refine ⟨i + nn, ⟨?_, rfl, trivial⟩, ⟨hin, hv3, hIt3, hfr3⟩, by omega⟩
          rw [hes]
          rfl
        · have hc34 : ¬ r0 = 34 := by omega
          clear hc
          refine sgo ?_
          (show WC _ _ _ _ _ _ _; first | refine WC_dec rfl (fun hc => ?_) (fun hc => ?_) | refine WC_cond rfl (fun hc => ?_) (fun hc => ?_))
          · rw [show escP r0 = 92 :: encR r0 by unfold escP; rw [if_neg hc10, if_neg hc9, if_pos (.inr (by omega))]] at hes
            refine sgo ?_
            refine wl ?_ (y_i2s hg rfl)
            refine sgo ?_
            refine ⟨i + nn, ⟨?_, rfl, trivial⟩, ⟨hin, hv3, hIt3, hfr3⟩, by omega⟩
            rw [hes]
            rfl
          · rw [show escP r0 = encR r0 by unfold escP; rw [if_neg hc10, if_neg hc9, if_neg (by omega)]] at hes
            refine sgo ?_
            refine wl ?_ (y_i2s hg rfl)
            refine sgo ?_
            refine ⟨i + nn, ⟨?_, rfl, trivial⟩, ⟨hin, hv3, hIt3, hfr3⟩, by omega⟩
            rw [hes]
            rfl
  · refine wlnext_no hIt (by omega) ?_
    have hti : l.take i = l := List.take_of_length_le (by omega)
    rw [hti]
    refine sgo ?_
    (first | refine fp1 (.inl rfl) rfl rfl ?_ | refine fp2 (.inl rfl) rfl rfl rfl ?_ | refine fp3 (.inl rfl) rfl rfl rfl rfl ?_ | refine fp0 (.inr rfl) rfl ?_ | refine fp0 (.inl rfl) rfl ?_ | refine fp1 (.inr rfl) rfl rfl ?_); refine ⟨?_, by (first | exact Frm.refl _ | assumption | exact Go.Sv.Sep.frm (by assumption) | (refine Frm.trans ?_ (by assumption); first | exact Frm.refl _ | assumption))⟩; (try simp only [realB, rv_true, Nat.reduceBEq, cond_true, cond_false, entG, real_lif, updGL])
    rfl
theorem ew0_len (k : Int) : (ew0 k).length ≤ 5 := by
  unfold ew0
  repeat' split
  all_goals decide
theorem refEvLine_eq {e : Ev} (h : evR e = true) : evLine e = ew0 e.kind ++ 32 :: (if e.kind = 0 then quoteR e.text else quoteR e.name ++ e.attrs.flatMap atLine) := by
  obtain ⟨X, h1, h2⟩ := evLine_eq h
  rw [h1]
  congr 2
  have h3 : lineR (evTok e) = ew1 e.kind ++ 32 :: (if e.kind = 0 then quoteR e.text else quoteR e.name ++ e.attrs.flatMap atLine) := by
    rw [← evTok_word h]
    unfold lineR headR evTok
    rcases evR_kind h with hk | hk | hk | hk
    · rw [hk]; simp
    · rw [hk]; simp [Ev.start]
    · rw [hk]
      have ha : e.attrs = [] := by
        unfold evR at h
        rw [if_neg (by omega), if_neg (by omega), if_neg (by omega), if_pos hk] at h
        simp only [Bool.and_eq_true, decide_eq_true_eq] at h
        exact List.eq_nil_of_length_eq_zero h.1.2
      simp [Ev.close, ha]
    · rw [hk]; simp [Ev.start]
  rw [h3] at h2
  exact ((List.cons.inj (List.append_cancel_left h2)).2).symm
end Go.Proofs.YthgbpgjpnaanlaaGreatDoor

/-
  Lines of tokens, read as the document does: plain laws.
-/
set_option linter.unusedSimpArgs false
set_option linter.unusedVariables false
set_option linter.unnecessarySimpa false
namespace Go.Proofs.YthgbpgjpnaanlaaGreatDoor
open Go Go.Sv Go.RowKit

theorem atsR_suf : ∀ (n : Nat) (s : List UInt8) (acc es : List At) (r : List UInt8), s.length ≤ n → atsR s acc = some (es, r) → r <:+ s ∧ r.length ≤ s.length ∧ es.length ≤ acc.length + s.length
  | n, s, acc, es, r, hn, h => by
    by_cases h2 : s.take 2 = [32, 34]
    · cases h1 : at1R s with
      | none => rw [atsR_bad h2 h1] at h; cases h
      | some x =>
        obtain ⟨a, r1⟩ := x
        rw [atsR_yes h2 h1] at h
        obtain ⟨a1, a2, a3⟩ := at1R_suf h1
        cases n with
        | zero => omega
        | succ n =>
          obtain ⟨b1, b2, b3⟩ := atsR_suf n r1 (acc ++ [a]) es r (by omega) h
          rw [List.length_append, List.length_singleton] at b3
          exact ⟨b1.trans a1, by omega, by omega⟩
    · rw [atsR_end h2] at h
      injection h with h; injection h with h3 h4
      subst h3 h4
      exact ⟨List.suffix_refl _, Nat.le_refl _, by omega⟩
theorem head_no {k : Nat} (hk : k ≠ 4) {s : List UInt8} (h : ¬ s.take 1 = [32]) : headT k s = none := by unfold headT; rw [if_neg hk, if_neg h]
theorem head_bad {k : Nat} (hk : k ≠ 4) {s : List UInt8} (h : s.take 1 = [32]) (h2 : qtxR (s.drop 1) = none) : headT k s = none := by unfold headT; rw [if_neg hk, if_pos h, h2]
theorem head_yes {k : Nat} (hk : k ≠ 4) {s x r : List UInt8} (h : s.take 1 = [32]) (h2 : qtxR (s.drop 1) = some (x, r)) : headT k s = some (if k = 1 ∨ k = 2 then (x, [], r) else ([], x, r)) := by
  unfold headT; rw [if_neg hk, if_pos h, h2]
  dsimp only
  split <;> rfl
theorem tok_none {k : Nat} {s : List UInt8} (h : headT k s = none) : tokR k s = none := by unfold tokR; rw [h]
/-- of the words just one can stand at the front -/
theorem read_at : ∀ (k : Nat) (x s : List UInt8), wordsL[k]? = some x → x.isPrefixOf s = true → readR s = tokR k (s.drop x.length) := by
  intro k x s hx hp
  obtain ⟨t, rfl⟩ := List.isPrefixOf_iff_prefix.1 hp
  have hk : k < 5 := (List.getElem?_eq_some_iff.1 hx).1
  match k, hk with
  | 0, _ => obtain rfl : wText = x := Option.some.inj hx; rfl
  | 1, _ => obtain rfl : wStart = x := Option.some.inj hx; rfl
  | 2, _ => obtain rfl : wEnd = x := Option.some.inj hx; rfl
  | 3, _ => obtain rfl : wComment = x := Option.some.inj hx; rfl
  | 4, _ => obtain rfl : wDoctype = x := Option.some.inj hx; rfl
end Go.Proofs.YthgbpgjpnaanlaaGreatDoor

/-
  Events as lines, read as the document does: plain laws.
-/
set_option linter.unusedSimpArgs false
set_option linter.unusedVariables false
set_option linter.unnecessarySimpa false
namespace Go.Proofs.YthgbpgjpnaanlaaGreatDoor
open Go Go.Sv Go.RowKit

/-- behind a first mark: the text up to the next, and the rest; tabs may stand as they are -/
def tkqR : List UInt8 → List UInt8 → Option (List UInt8 × List UInt8)
  | [], _ => none
  | c :: l, acc =>
    if c.toNat = 34 then some (acc, l)
    else if c.toNat = 92 then
      match l with
      | [] => none
      | d :: l' => if d.toNat = 110 then tkqR l' (acc ++ [10]) else if d.toNat = 116 then tkqR l' (acc ++ [9]) else if d.toNat = 34 ∨ d.toNat = 92 then tkqR l' (acc ++ [d]) else none
    else tkqR l (acc ++ [c])
theorem tkqR_cons (c : UInt8) (l acc : List UInt8) : tkqR (c :: l) acc =
    if c.toNat = 34 then some (acc, l)
    else if c.toNat = 92 then
      match l with
      | [] => none
      | d :: l' => if d.toNat = 110 then tkqR l' (acc ++ [10]) else if d.toNat = 116 then tkqR l' (acc ++ [9]) else if d.toNat = 34 ∨ d.toNat = 92 then tkqR l' (acc ++ [d]) else none
    else tkqR l (acc ++ [c]) := by
  cases l <;> rfl
def tkR : List UInt8 → Option (List UInt8 × List UInt8)
  | [] => none
  | c :: l => if c.toNat = 34 then tkqR l [] else none
theorem tkqR_suf : ∀ (n : Nat) (l acc : List UInt8) (t r : List UInt8), l.length ≤ n → tkqR l acc = some (t, r) → r.length < l.length ∧ t.length + r.length + 1 ≤ acc.length + l.length
  | n, [], acc, t, r, hn, h => by simp [tkqR] at h
  | 0, c :: l, acc, t, r, hn, h => by simp at hn
  | n + 1, c :: l, acc, t, r, hn, h => by
    simp only [List.length_cons] at hn
    rw [tkqR_cons] at h
    split at h
    · injection h with h; injection h with h1 h2
      subst h1 h2
      exact ⟨by simp, by simp; omega⟩
    split at h
    · cases l with
      | nil => cases h
      | cons d l' =>
        simp only [List.length_cons] at hn
        have key : ∀ x : UInt8, tkqR l' (acc ++ [x]) = some (t, r) → r.length < (c :: d :: l').length ∧ t.length + r.length + 1 ≤ acc.length + (c :: d :: l').length := fun x hx => by
          obtain ⟨h2, h3⟩ := tkqR_suf n l' _ t r (by omega) hx
          simp only [List.length_append, List.length_cons, List.length_nil] at h3 ⊢
          exact ⟨by omega, by omega⟩
        dsimp only at h
        split at h
        · exact key _ h
        split at h
        · exact key _ h
        split at h
        · exact key _ h
        · cases h
    · obtain ⟨h2, h3⟩ := tkqR_suf n l _ t r (by omega) h
      simp only [List.length_append, List.length_cons, List.length_nil] at h3 ⊢
      exact ⟨by omega, by omega⟩
theorem tkR_suf {s t r : List UInt8} (h : tkR s = some (t, r)) : r.length < s.length ∧ t.length + r.length + 2 ≤ s.length := by
  cases s with
  | nil => cases h
  | cons c l =>
    by_cases hc : c.toNat = 34
    · rw [tkR, if_pos hc] at h
      obtain ⟨h2, h3⟩ := tkqR_suf l.length l [] t r (Nat.le_refl _) h
      simp only [List.length_nil, List.length_cons] at h3 ⊢
      exact ⟨by omega, by omega⟩
    · rw [tkR, if_neg hc] at h
      cases h
theorem tkq_out {l acc : List UInt8} {i : Nat} (h : l.length ≤ i) : tkqR (l.drop i) acc = none := by
  rw [List.drop_eq_nil_of_le h, tkqR]
theorem tkq_mark {l acc : List UInt8} {i : Nat} {c : UInt8} (h : l[i]? = some c) (hc : c.toNat = 34) : tkqR (l.drop i) acc = some (acc, l.drop (i + 1)) := by
  rw [drop_at h, tkqR_cons, if_pos hc]
theorem tkq_one {l acc : List UInt8} {i : Nat} {c : UInt8} (h : l[i]? = some c) (h1 : c.toNat ≠ 34) (h3 : c.toNat ≠ 92) : tkqR (l.drop i) acc = tkqR (l.drop (i + 1)) (acc ++ [c]) := by
  rw [drop_at h, tkqR_cons, if_neg h1, if_neg h3]
theorem tkq_esc_out {l acc : List UInt8} {i : Nat} {c : UInt8} (h : l[i]? = some c) (hc : c.toNat = 92) (ho : l.length ≤ i + 1) : tkqR (l.drop i) acc = none := by
  rw [drop_at h, tkqR_cons, if_neg (by omega), if_pos hc, List.drop_eq_nil_of_le ho]
theorem tkq_esc_at {l acc : List UInt8} {i : Nat} {c d : UInt8} (h : l[i]? = some c) (hc : c.toNat = 92) (hd : l[i + 1]? = some d) : tkqR (l.drop i) acc =
    if d.toNat = 110 then tkqR (l.drop (i + 2)) (acc ++ [10]) else if d.toNat = 116 then tkqR (l.drop (i + 2)) (acc ++ [9]) else if d.toNat = 34 ∨ d.toNat = 92 then tkqR (l.drop (i + 2)) (acc ++ [d]) else none := by
  rw [drop_at h, tkqR_cons, if_neg (by omega), if_pos hc, drop_at hd]
theorem tkq_esc : ∀ (s r acc : List UInt8), tkqR (s.flatMap esc ++ 34 :: r) acc = some (acc ++ s, r)
  | [], r, acc => by
    rw [List.flatMap_nil, List.nil_append, List.append_nil, tkqR_cons, if_pos (by decide)]
  | c :: s, r, acc => by
    have ih := fun acc => tkq_esc s r acc
    rw [List.flatMap_cons, List.append_assoc]
    unfold esc
    split
    · rename_i h; subst h
      change tkqR (92 :: 110 :: (s.flatMap esc ++ 34 :: r)) acc = _
      rw [tkqR_cons, if_neg (by decide), if_pos (by decide)]
      dsimp only
      rw [if_pos (by decide), ih, List.append_assoc]; rfl
    split
    · rename_i h; subst h
      change tkqR (92 :: 116 :: (s.flatMap esc ++ 34 :: r)) acc = _
      rw [tkqR_cons, if_neg (by decide), if_pos (by decide)]
      dsimp only
      rw [if_neg (by decide), if_pos (by decide), ih, List.append_assoc]; rfl
    split
    · rename_i h; subst h
      change tkqR (92 :: 34 :: (s.flatMap esc ++ 34 :: r)) acc = _
      rw [tkqR_cons, if_neg (by decide), if_pos (by decide)]
      dsimp only
      rw [if_neg (by decide), if_neg (by decide), if_pos (by decide), ih, List.append_assoc]; rfl
    split
    · rename_i h; subst h
      change tkqR (92 :: 92 :: (s.flatMap esc ++ 34 :: r)) acc = _
      rw [tkqR_cons, if_neg (by decide), if_pos (by decide)]
      dsimp only
      rw [if_neg (by decide), if_neg (by decide), if_pos (by decide), ih, List.append_assoc]; rfl
    · rename_i h10 h9 h34 h92
      have key : ∀ n : UInt8, ¬ c = n → ¬ c.toNat = n.toNat := fun n h h' => h (UInt8.toNat_inj.1 h')
      change tkqR (c :: (s.flatMap esc ++ 34 :: r)) acc = _
      rw [tkqR_cons, if_neg (show ¬ c.toNat = 34 from key 34 h34), if_neg (show ¬ c.toNat = 92 from key 92 h92), ih, List.append_assoc]; rfl
theorem tk_quote (s r : List UInt8) : tkR (quoteR s ++ r) = some (s, r) := by
  have e : quoteR s ++ r = 34 :: (s.flatMap esc ++ 34 :: r) := by unfold quoteR; simp
  rw [e, tkR, if_pos (by decide), tkq_esc]
  rfl
/-- one attribute at the front: a blank, its name, =, its value -/
def ratR : List UInt8 → Option (At × List UInt8)
  | [] => none
  | c :: l => if c.toNat = 32 then
      match tkR l with
      | none => none
      | some (n, r) =>
        match r with
        | [] => none
        | d :: r' => if d.toNat = 61 then (match tkR r' with | none => none | some (v, r2) => some (⟨n, v⟩, r2)) else none
    else none
theorem ratR_cons (c : UInt8) (l : List UInt8) : ratR (c :: l) = if c.toNat = 32 then
      match tkR l with
      | none => none
      | some (n, r) =>
        match r with
        | [] => none
        | d :: r' => if d.toNat = 61 then (match tkR r' with | none => none | some (v, r2) => some (⟨n, v⟩, r2)) else none
    else none := rfl
theorem ratR_suf {s r : List UInt8} {a : At} (h : ratR s = some (a, r)) : r.length < s.length ∧ a.n.length + a.v.length + r.length + 4 ≤ s.length := by
  cases s with
  | nil => cases h
  | cons c l =>
    rw [ratR_cons] at h
    split at h
    · cases h1 : tkR l with
      | none => rw [h1] at h; cases h
      | some x =>
        obtain ⟨n, r1⟩ := x
        rw [h1] at h
        dsimp only at h
        cases r1 with
        | nil => cases h
        | cons d r1 =>
          dsimp only at h
          split at h
          · cases h2 : tkR r1 with
            | none => rw [h2] at h; cases h
            | some y =>
              obtain ⟨v, r2⟩ := y
              rw [h2] at h
              injection h with h; injection h with h3 h4
              subst h3 h4
              obtain ⟨a2, a3⟩ := tkR_suf h1
              obtain ⟨b2, b3⟩ := tkR_suf h2
              simp only [List.length_cons] at a2 a3 ⊢
              exact ⟨by omega, by omega⟩
          · cases h
    · cases h
/-- attributes up to the end -/
def ratsR (s : List UInt8) (acc : List At) : Option (List At) :=
  if s = [] then some acc else
    match h : ratR s with
    | none => none
    | some (a, r) =>
      have := (ratR_suf h).1
      ratsR r (acc ++ [a])
termination_by s.length
theorem ratsR_nil (acc : List At) : ratsR [] acc = some acc := by rw [ratsR, if_pos rfl]
theorem ratsR_yes {s : List UInt8} {acc : List At} {a : At} {r : List UInt8} (h : s ≠ []) (h1 : ratR s = some (a, r)) : ratsR s acc = ratsR r (acc ++ [a]) := by
  rw [ratsR, if_neg h]
  split
  · rename_i h2; rw [h1] at h2; cases h2
  · rename_i a' r' h2; rw [h1] at h2; injection h2 with h2; injection h2 with h3 h4; subst h3 h4; rfl
theorem ratsR_bad {s : List UInt8} {acc : List At} (h : s ≠ []) (h1 : ratR s = none) : ratsR s acc = none := by
  rw [ratsR, if_neg h]
  split
  · rfl
  · rename_i a' r' h2; rw [h1] at h2; cases h2
theorem rat_line (x : At) (r : List UInt8) : ratR (atLine x ++ r) = some (x, r) := by
  have e : atLine x ++ r = 32 :: (quoteR x.n ++ 61 :: (quoteR x.v ++ r)) := by unfold atLine; simp
  rw [e]
  rw [ratR_cons, if_pos (by decide), tk_quote]
  dsimp only
  rw [if_pos (by decide), tk_quote]
theorem rats_line : ∀ (es : List At) (acc : List At), ratsR (es.flatMap atLine) acc = some (acc ++ es)
  | [], acc => by rw [List.flatMap_nil, ratsR_nil, List.append_nil]
  | x :: es, acc => by
    have hne : (x :: es).flatMap atLine ≠ [] := by rw [List.flatMap_cons]; unfold atLine; simp
    have h1 : ratR ((x :: es).flatMap atLine) = some (x, es.flatMap atLine) := by rw [List.flatMap_cons]; exact rat_line x _
    rw [ratsR_yes hne h1, rats_line es, List.append_assoc]
    rfl
/-! ## the event of a line -/
def evOf (k : Nat) (t : List UInt8) (es : List At) : Ev := ⟨k, if k = 0 then [] else t, if k = 0 then t else [], es⟩
def refBe (k : Nat) (s : List UInt8) : Option Ev :=
  match tkR s with
  | none => none
  | some (t, r) => match ratsR r [] with | none => none | some es => some (evOf k t es)
def ewB (k : Nat) : List UInt8 := ew0 k ++ [32]
def ewL : List (List UInt8) := [ewB 0, ewB 1, ewB 2, ewB 3]
def refF : Nat → List (List UInt8) → List UInt8 → Option Ev
  | _, [], _ => none
  | k, x :: ws, s => if x.isPrefixOf s = true then (match refBe k (s.drop x.length) with | none => none | some e => if evR e = true ∧ evLine e = s then some e else none) else refF (k + 1) ws s
def refReadR (s : List UInt8) : Option Ev := refF 0 ewL s
theorem refF_step {k : Nat} {x s : List UInt8} (h : ewL[k]? = some x) : refF k (ewL.drop k) s = if x.isPrefixOf s = true then (match refBe k (s.drop x.length) with | none => none | some e => if evR e = true ∧ evLine e = s then some e else none) else refF (k + 1) (ewL.drop (k + 1)) s := by
  obtain ⟨hi, rfl⟩ := List.getElem?_eq_some_iff.1 h
  rw [List.drop_eq_getElem_cons hi, refF]
theorem ewL_at {k : Nat} (h : k < 4) : ewL[k]? = some (ewB k) := by
  match k, h with
  | 0, _ => rfl
  | 1, _ => rfl
  | 2, _ => rfl
  | 3, _ => rfl
theorem ew0_no {k : Nat} (h : k < 4) : ∀ c ∈ ew0 k, c.toNat ≠ 32 := by
  have key : ∀ w : List UInt8, (w.all fun x => !decide (x.toNat = 32)) = true → ∀ x ∈ w, x.toNat ≠ 32 := fun w hw x hx => by
    have := List.all_eq_true.1 hw x hx; simpa using this
  match k, h with
  | 0, _ => exact key _ rfl
  | 1, _ => exact key _ rfl
  | 2, _ => exact key _ rfl
  | 3, _ => exact key _ rfl
theorem pre_word {k : Nat} (h : k < 4) {s : List UInt8} (hp : (ewB k).isPrefixOf s = true) : cutB s = (ew0 k, s.drop (ewB k).length) := by
  obtain ⟨r, rfl⟩ := List.isPrefixOf_iff_prefix.1 hp
  rw [List.drop_left]
  have e : ewB k ++ r = ew0 k ++ 32 :: r := by unfold ewB; simp
  rw [e, cutB_app _ _ (ew0_no h)]
theorem ew0_inj' {i j : Nat} (hi : i < 4) (hj : j < 4) (h : ew0 i = ew0 j) : i = j := by
  match i, hi, j, hj with
  | 0, _, 0, _ => rfl
  | 1, _, 1, _ => rfl
  | 2, _, 2, _ => rfl
  | 3, _, 3, _ => rfl
  | 0, _, 1, _ => exact absurd h (by decide)
  | 0, _, 2, _ => exact absurd h (by decide)
  | 0, _, 3, _ => exact absurd h (by decide)
  | 1, _, 0, _ => exact absurd h (by decide)
  | 1, _, 2, _ => exact absurd h (by decide)
  | 1, _, 3, _ => exact absurd h (by decide)
  | 2, _, 0, _ => exact absurd h (by decide)
  | 2, _, 1, _ => exact absurd h (by decide)
  | 2, _, 3, _ => exact absurd h (by decide)
  | 3, _, 0, _ => exact absurd h (by decide)
  | 3, _, 1, _ => exact absurd h (by decide)
  | 3, _, 2, _ => exact absurd h (by decide)
theorem refF_some : ∀ (ws : List (List UInt8)) (k : Nat) (s : List UInt8) (e : Ev), refF k ws s = some e → evR e = true ∧ evLine e = s
  | [], _, _, _, h => by cases h
  | x :: ws, k, s, e, h => by
    rw [refF] at h
    split at h
    · cases hb : refBe k (s.drop x.length) with
      | none => rw [hb] at h; cases h
      | some e' =>
        rw [hb] at h
        dsimp only at h
        split at h
        · rename_i h2
          injection h with h
          subst h
          exact h2
        · cases h
    · exact refF_some ws (k + 1) s e h
theorem refF_at {s : List UInt8} {k : Nat} (hk : k < 4) (hp : (ewB k).isPrefixOf s = true) : refReadR s = (match refBe k (s.drop (ewB k).length) with | none => none | some e => if evR e = true ∧ evLine e = s then some e else none) := by
  have hno : ∀ j, j < 4 → j ≠ k → ¬ (ewB j).isPrefixOf s = true := fun j hj hne hpj => by
    have h1 := pre_word hk hp
    have h2 := pre_word hj hpj
    rw [h1] at h2
    injection h2 with h3 h4
    exact hne (ew0_inj' hj hk h3.symm)
  unfold refReadR
  have key : ∀ (n j : Nat), j + n = k → refF j (ewL.drop j) s = refF k (ewL.drop k) s := by
    intro n
    induction n with
    | zero => intro j hj; rw [show j = k by omega]
    | succ n ih =>
      intro j hj
      rw [refF_step (ewL_at (by omega)), if_neg (hno j (by omega) (by omega))]
      exact ih (j + 1) (by omega)
  have := key k 0 (by omega)
  rw [List.drop_zero] at this
  rw [this, refF_step (ewL_at hk), if_pos hp]
theorem refRead_back {e : Ev} (h : evR e = true) : refReadR (evLine e) = some e := by
  obtain ⟨k, hk, hk4⟩ : ∃ k : Nat, e.kind = (k : Int) ∧ k < 4 := by
    rcases evR_kind h with hk | hk | hk | hk
    · exact ⟨0, hk, by decide⟩
    · exact ⟨1, hk, by decide⟩
    · exact ⟨2, hk, by decide⟩
    · exact ⟨3, hk, by decide⟩
  have hl := refEvLine_eq h
  have hl2 : evLine e = ewB k ++ (if e.kind = 0 then quoteR e.text else quoteR e.name ++ e.attrs.flatMap atLine) := by rw [hl, hk]; unfold ewB; simp
  have hp : (ewB k).isPrefixOf (evLine e) = true := by rw [hl2, List.isPrefixOf_iff_prefix]; exact List.prefix_append _ _
  rw [refF_at hk4 hp]
  have hd : (evLine e).drop (ewB k).length = (if e.kind = 0 then quoteR e.text else quoteR e.name ++ e.attrs.flatMap atLine) := by rw [hl2, List.drop_left]
  rw [hd]
  have hb : refBe k (if e.kind = 0 then quoteR e.text else quoteR e.name ++ e.attrs.flatMap atLine) = some e := by
    have hv := h
    obtain ⟨ek, en, et, ea⟩ := e
    dsimp only at hk
    subst hk
    unfold refBe
    by_cases h0 : k = 0
    · subst h0
      unfold evR at hv
      rw [if_pos (by rfl)] at hv
      simp only [Bool.and_eq_true, decide_eq_true_eq] at hv
      have h5 := List.eq_nil_of_length_eq_zero hv.2
      rw [if_pos (by rfl)]
      have := tk_quote et []
      rw [List.append_nil] at this
      dsimp only
      rw [this]
      dsimp only
      rw [ratsR_nil]
      dsimp only
      unfold evOf
      rw [if_pos rfl, if_pos rfl, hv.1.2, h5]
    · have hne : ¬ ((k : Int) = 0) := by omega
      rw [if_neg hne]
      dsimp only
      rw [tk_quote]
      dsimp only
      rw [rats_line, List.nil_append]
      dsimp only
      unfold evOf
      rw [if_neg h0, if_neg h0]
      have ht : et = [] := by
        unfold evR at hv
        rw [if_neg hne] at hv
        dsimp only at hv
        split at hv
        · simp only [Bool.and_eq_true, decide_eq_true_eq] at hv; exact hv.1.1
        split at hv
        · simp only [Bool.and_eq_true, decide_eq_true_eq] at hv; exact hv.1.1
        split at hv
        · simp only [Bool.and_eq_true, decide_eq_true_eq] at hv; exact hv.1.1
        · cases hv
      rw [ht]
  rw [hb]
  dsimp only
  rw [if_pos ⟨h, rfl⟩]
end Go.Proofs.YthgbpgjpnaanlaaGreatDoor

/-
  Deferred functions that recover.
-/
set_option linter.unusedSimpArgs false
set_option linter.unusedVariables false
set_option linter.unnecessarySimpa false
namespace Go.Sv
open Go Go.RowKit

/-- what recover hands to a deferred function, by the mode of the frame below it, and how it leaves that mode -/
inductive Recov : FrameMode → Value → FrameMode → Prop
  | panicking (v : Value) (older : List PanicEntry) : Recov (.panicking ({ v := v, recovered := false } :: older)) v (.panicking ({ v := v, recovered := true } :: older))
  | returning : Recov .returning .nilIface .returning
/-- a deferred function's end, the frame below in a mode -/
def fpostD (P : Program) (n : Nat) (fn : Func) (u : FrameMode) (R : Ending → FrameMode → World → Prop) : Exit → Ctx → Env → World → Prop
  | .normal, c, σ, w | .ret, c, σ, w => c.ds = [] ∧ ∃ v, (results fn (act n c.ds σ).tmps).run P w = .ok v w ∧ R (.returned v) u w
  | .panic ch, c, _, w => c.ds = [] ∧ R (.panicked ch) u w
  | _, _, _, _ => False
section
variable {P : Program} {n : Nat} {fn : Func} {R : Ending → FrameMode → World → Prop} {u u' : FrameMode} {w : World}
theorem postS_of {c₀ : Frame} {cs : List Frame} {e : Exit} {a : Act} (h : lft n none (fpostD P n fn u' R) e a w) : bodyPostS P fn c₀ cs R e a ({ c₀ with mode := u' } :: cs) w := by
  obtain ⟨ds, σ, rfl, hq⟩ := h
  cases e with
  | normal => exact ⟨hq.1, u', rfl, hq.2⟩
  | ret => exact ⟨hq.1, u', rfl, hq.2⟩
  | panic ch => exact ⟨hq.1, u', rfl, hq.2⟩
  | exit id => exact hq.elim
  | goto l => exact hq.elim
  | outgrown => exact hq.elim
/-- the entry of a deferred function whose first operation is recover -/
theorem enterD {f : FuncId} {id : Nat} {o : Oper} {ops : List Oper} {rest : Code} {l : List Value} {v : Value}
    (hf : P.funcs[f]? = some fn) (hb : fn.body = some (.seq (.region id (o :: ops).toArray false) rest)) (hn : fn.ntmps = n)
    (hin : codeIn n false (.seq (.region id (o :: ops).toArray false) rest) = true) (hl : Nat.ble l.length n = true) (hg : o.guard = none)
    (hrun : (execOp (evl (ent l 0)) o).run P w = .ok .recover w) (hu : Recov u v u')
    (h : WL P n ⟨[], none⟩ (o :: ops).toArray (thn (fun c σ w => WC P n c rest (fpostD P n fn u' R) σ w) (fpostD P n fn u' R)) ops (updO (ent l 0) o.dst v) w) :
    CallsDIn Fence.wide 0 P f l.toArray u w R := by
  refine callsDIn_of_wpSIn hf hb trivial fun c₀ cs hm => ?_
  rw [ent_tmps hl hn]
  have hin0 := hin
  simp only [codeIn, Bool.and_eq_true] at hin0
  obtain ⟨hin1, hin2⟩ := hin0
  have hin3 : (o :: ops).all (operIn n false (o :: ops).toArray) = true := hin1
  rw [List.all_cons, Bool.and_eq_true] at hin3
  obtain ⟨hino, hinl⟩ := hin3
  refine wpSIn_seq ?_
  intro b k hb' hro hF hroom
  obtain ⟨cs', hrec, hlen⟩ : ∃ cs', ((recoverD (c₀ :: cs) = some (v, cs')) ∨ (recoverD (c₀ :: cs) = none ∧ v = .nilIface ∧ cs' = c₀ :: cs)) ∧ cs' = { c₀ with mode := u' } :: cs := by
    cases hu with
    | panicking v older => exact ⟨_, .inl (by simp only [recoverD, hm]), rfl⟩
    | returning => exact ⟨c₀ :: cs, .inr ⟨by simp only [recoverD, hm], rfl, rfl⟩, by rw [← hm]⟩
  have hroom' : (Fence.wide).room (cs'.length + 1 + 0) := by rw [hlen]; exact hroom
  have hro' : b.roundOf = (Fence.wide).round := hro
  unfold WL at h
  have hl1 := h hinl
  have hl2 : wpOpsIn Fence.wide 0 P (o :: ops).toArray (lft n none (thn (fun c σ w => WC P n c rest (fpostD P n fn u' R) σ w) (fpostD P n fn u' R))) (List.range' 1 ops.length) (act n [] (updO (ent l 0) o.dst v)) w := by
    rw [wpOpsIn_eq_wpListIn ops 1 (by intro j; rw [Nat.add_comm]; simp)]
    exact hl1
  obtain ⟨e, a', w', hq, harr⟩ := wp_opsIn _ _ _ hl2 b k cs' hro' hF hroom'
  have ho : (o :: ops).toArray[0]? = some o := by simp
  have habout : ∀ f, o.about P w (act n [] (ent l 0)).eval = some f → Fence.wide.fn f := fun _ _ => trivial
  have h0 : (lone (b.atR (act n [] (ent l 0)) (.inRegion (o :: ops).toArray (0 :: List.range' 1 ops.length) :: k)) (c₀ :: cs) w).fenced P Fence.wide := fenced_oper hF hroom ho habout
  have hw : Region.wanted o (yielded (o :: ops).toArray (act n [] (ent l 0)).tmps) = true := by simp [Region.wanted, hg]
  have hgo := stepGR_op (P := P) (b := b) (a := act n [] (ent l 0)) (k := k) (cs := c₀ :: cs) (w := w) (rest := List.range' 1 ops.length) ho hw
  rw [hro, Oper.semAt_none] at hgo
  have hfin : ∀ v, (b.atR (act n [] (ent l 0)) (.inRegion (o :: ops).toArray (0 :: List.range' 1 ops.length) :: k)).finish v = b.atR ((act n [] (ent l 0)).put o.dst v) (.inRegion (o :: ops).toArray (List.range' 1 ops.length) :: k) := by
    intro v; rw [Frame.finish_atR, ho]; rfl
  have hr : (execOp (act n [] (ent l 0)).eval o).run P w = .ok .recover w := by rw [act_exec hino]; exact hrun
  have hk : (b.atR (act n [] (ent l 0)) (.inRegion (o :: ops).toArray (0 :: List.range' 1 ops.length) :: k)).kind = .deferred := hb'
  have htr := tryRecover_deferred hk (c₀ :: cs)
  have hput : (act n [] (ent l 0)).put o.dst v = act n [] (updO (ent l 0) o.dst v) := act_put (operIn_dst hino)
  have hstep : ArrivesIn (Machine.fenced P Fence.wide) P (lone (b.atR (act n [] (ent l 0)) (.inRegion (o :: ops).toArray (0 :: List.range' 1 ops.length) :: k)) (c₀ :: cs) w) b k cs' e a' w' := by
    refine .of_steps (.one h0 (step_lone_go ?_)) harr
    rw [hgo, ← hput, ← hfin]
    simp only [Frame.atR, hro] at htr ⊢
    rcases hrec with hrec | ⟨hrec, hv, hcs⟩
    · simp [stepG.apply, hr, htr, hrec]
    · simp [stepG.apply, hr, htr, hrec, hv, hcs]
  refine ⟨e, a', cs', w', by rw [hlen]; rfl, ?_, .of_steps (.one (fenced_calm hF hroom rfl) stepR_region) ?_⟩
  · cases e with
    | normal =>
      obtain ⟨ds', σ', rfl, hq⟩ := hq
      unfold thn at hq
      dsimp only at hq
      refine wpSIn_of_wpIn rfl ?_
      unfold WC at hq
      refine wpIn_mono (hq hin2) fun e a w' h => ?_
      rw [hlen]
      exact postS_of h
    | ret =>
      obtain ⟨x, y, hx, hy⟩ := hq
      unfold thn at hy
      rw [hlen]
      exact postS_of (e := .ret) ⟨x, y, hx, hy⟩
    | panic ch =>
      obtain ⟨x, y, hx, hy⟩ := hq
      unfold thn at hy
      rw [hlen]
      exact postS_of (e := .panic ch) ⟨x, y, hx, hy⟩
    | exit id =>
      obtain ⟨x, y, hx, hy⟩ := hq
      unfold thn at hy
      exact False.elim hy
    | goto l =>
      obtain ⟨x, y, hx, hy⟩ := hq
      unfold thn at hy
      exact False.elim hy
    | outgrown =>
      obtain ⟨x, y, hx, hy⟩ := hq
      unfold thn at hy
      exact False.elim hy
  · have e2 : List.range (o :: ops).toArray.size = 0 :: List.range' 1 ops.length := by
      rw [List.range_eq_range']; simp [List.range'_succ]
    rw [e2]
    exact hstep
theorem enterDR {f : FuncId} {id : Nat} {o : Oper} {ops : List Oper} {rest : Code} {l : List Value} {v : Value} {d : Nat}
    (hf : P.funcs[f]? = some fn) (hb : fn.body = some (.seq (.region id (o :: ops).toArray false) rest)) (hn : fn.ntmps = n)
    (hin : codeIn n false (.seq (.region id (o :: ops).toArray false) rest) = true) (hl : Nat.ble l.length n = true) (hg : o.guard = none) (hd : o.dst = some d)
    (hrun : (execOp (evl (ent l 0)) o).run P w = .ok .recover w) (hu : Recov u v u')
    (h : WL P n ⟨[], none⟩ (o :: ops).toArray (thn (fun c σ w => WC P n c rest (fpostD P n fn u' R) σ w) (fpostD P n fn u' R)) ops (real (updG (entG l 0) d ⟨v, true⟩)) w) :
    CallsDIn Fence.wide 0 P f l.toArray u w R := by
  refine enterD hf hb hn hin hl hg hrun hu ?_
  rw [hd]
  unfold updO
  dsimp only
  rw [real_ent, show v = rv ⟨v, true⟩ from rfl, real_upd]
  exact h
theorem fpD0 {ex : Exit} {c : Ctx} {σ : Env} (hex : ex = .ret ∨ ex = .normal) (hr : fn.results = #[]) (h : R (.returned (.tuple #[])) u w) (hd : c.ds = [] := by rfl) : fpostD P n fn u R ex c σ w := by
  rcases hex with rfl | rfl
  · exact ⟨hd, _, results_none hr _ _ _, h⟩
  · exact ⟨hd, _, results_none hr _ _ _, h⟩
/-- at a function's end, a deferred function -/
theorem leave_fn {d : Deferred} {ds : List Deferred} {tmps : Array Value} {R : Ending → World → Prop} {fv : Fn} {cap : Array Value} {f : FuncId} {args : Array Value} (hu : u ≠ .run) (ht : d.target = .fn fv cap)
    (hi : (invoke d.target d.args).run P w = .ok (.enter f args) w)
    (h : CallsDIn Fence.wide 0 P f args u w fun
      | .returned _, u', w' => LeavesInM Fence.wide 0 P fn tmps R ds (settle u') w'
      | .panicked chain, u', w' => LeavesInM Fence.wide 0 P fn tmps R ds (raised u' chain) w'
      | .outgrown, _, w' => R .outgrown w') : LeavesInM Fence.wide 0 P fn tmps R (d :: ds) u w :=
  ⟨hu, .inr ⟨fun h => by simp [Fence.wide] at h, fv, cap, f, args, ht, hi, fun _ _ => trivial, h⟩⟩
end
/-- a call that returns, or panics -/
def CallsP (P : Program) (f : FuncId) (args : Array Value) (w : World) (R : Value → World → Prop) (S : List PanicEntry → World → Prop) : Prop :=
  Calls P f args w fun e w' => (∃ v, e = .returned v ∧ R v w') ∨ ∃ ch, e = .panicked ch ∧ S ch w'
section
variable {P : Program} {n : Nat} {ds : Ctx} {ops : Array Oper} {Q : Exit → Ctx → Env → World → Prop} {rest : List Oper} {σ : GE} {w : World} {v : Value} {d : Nat} {ty : TypeId} {pos : String} {af : Array Edge}
theorem wlcallP {f : FuncId} [hf : Fnc P f] {args : List Operand} {ats : Array TypeId} {R : Value → World → Prop} {S : List PanicEntry → World → Prop}
    (hc : CallsP P f (args.map (evl (real σ))).toArray w R S) (h : ∀ v w', R v w' → WL P n ds ops Q rest (real (updG σ d ⟨v, true⟩)) w') (hp : ∀ ch w', S ch w' → Q (.panic ch) ds (real σ) w') :
    WL P n ds ops Q (⟨some d, .call ⟨.value (.func f), args.toArray, ats⟩, ty, pos, af, none⟩ :: rest) (real σ) w :=
  WL_enter (R := R) (S := S) (by simp [Region.wanted]) (run_call_func (real σ) (some d) args.toArray ats ty pos af none w) (by simpa [CallsP] using hc) (fun v w' hr => by have := h v w' hr; rw [← real_upd] at this; exact this) hp
/-- an operation that panics -/
theorem wlpanic {o : Oper} {w' : World} (hg : o.guard = none) (hrun : (execOp (evl (real σ)) o).run P w = .halt (.panic v) w') (h : Q (.panic [{ v := v, recovered := false }]) ds (real σ) w') :
    WL P n ds ops Q (o :: rest) (real σ) w :=
  WL_upon (by simp [Region.wanted, hg]) fun _ K _ _ => by rw [hrun]; exact ⟨ds.ds, _, rfl, h⟩
theorem wlmki {t : TypeId} {x : Operand} (h : WL P n ds ops Q rest (real (updG σ d ⟨.iface t v, true⟩)) w) (hc : P.concrete t = true) (hx : evl (real σ) x = v := by rfl) :
    WL P n ds ops Q (⟨some d, .makeInterface t x, ty, pos, af, none⟩ :: rest) (real σ) w := by
  refine wl h (Y.val ?_)
  simp only [execOp, hx]
  rw [Sem.run_bind, run_makeInterface (P := P) (w := w) t v hc]
  rfl
/-- the text's own panic -/
theorem wlpan {t : TypeId} {x : Operand} {od : Option Nat} (h : Q (.panic [{ v := .iface t v, recovered := false }]) ds (real σ) w) (hx : evl (real σ) x = .iface t v := by rfl) :
    WL P n ds ops Q (⟨od, .panic x, ty, pos, af, none⟩ :: rest) (real σ) w := by
  refine wlpanic (v := .iface t v) (w' := w) rfl ?_ h
  simp only [execOp, hx]
  rfl
end
/-- the entry of a function that may panic, and defers nothing -/
theorem enterP {P : Program} {n : Nat} {fn : Func} {R : Value → World → Prop} {S : List PanicEntry → World → Prop} {w : World} {f : FuncId} {c : Code} {l : List Value} (hf : P.funcs[f]? = some fn) (hb : fn.body = some c) (hn : fn.ntmps = n) (hin : codeIn n false c = true) (hl : Nat.ble l.length n = true)
    (h : WC P n ⟨[], none⟩ c (fpostE P n fn fun e w' => (∃ v, e = .returned v ∧ R v w') ∨ ∃ ch, e = .panicked ch ∧ S ch w') (real (entG l 0)) w) : CallsP P f l.toArray w R S := enterE hf hb hn hin hl h
section
variable {P : Program} {n : Nat} {fn : Func} {R : Value → World → Prop} {S : List PanicEntry → World → Prop} {w : World} {σ : Env} {ds : Ctx}
theorem fpP {ex : Exit} {c : Ctx} (hex : ex = .ret ∨ ex = .normal) (h : fpost P n fn R ex c σ w) (hd : c.ds = []) : fpostE P n fn (fun e w' => (∃ v, e = .returned v ∧ R v w') ∨ ∃ ch, e = .panicked ch ∧ S ch w') ex c σ w := by
  obtain ⟨dd, ro⟩ := c
  dsimp only at hd
  subst hd
  rcases hex with rfl | rfl
  · obtain ⟨v, hv, hR⟩ := h; exact ⟨v, hv, .inl hR⟩
  · obtain ⟨v, hv, hR⟩ := h; exact ⟨v, hv, .inl hR⟩
theorem fpPan {c : Ctx} {ch : List PanicEntry} (h : S ch w) (hd : c.ds = []) : fpostE P n fn (fun e w' => (∃ v, e = .returned v ∧ R v w') ∨ ∃ ch, e = .panicked ch ∧ S ch w') (.panic ch) c σ w := by
  obtain ⟨dd, ro⟩ := c
  dsimp only at hd
  subst hd
  exact .inr ⟨ch, rfl, h⟩
end
theorem wcutr {P : Program} {n : Nat} {ds : Ctx} {K : Ctx → Env → World → Prop} {Q : Exit → Ctx → Env → World → Prop} {σ : Env} {w : World} {a : Code} {X : Type} (sl : X → List (Nat × Value)) (I : X → World → Prop)
    (ha : WC P n ds a (thl ds (fun σ w => ∃ x, Has σ (sl x) ∧ I x w) Q) σ w) (hb : ∀ x w (ρ : GE), I x w → K ds (real (updGL ρ (sl x))) w) : WC P n ds a (thn K Q) σ w := by
  refine WC_mono ha ?_
  intro e c' σ' w' h
  unfold thl at h
  unfold thn
  cases e <;> try exact h
  obtain ⟨rfl, x, h1, h2⟩ := h
  have := hb x w' (lif σ') h2
  rw [← real_updL, updL_has h1] at this
  exact this
section
variable {P : Program} {n : Nat} {ds : Ctx} {ops : Array Oper} {Q : Exit → Ctx → Env → World → Prop} {rest : List Oper} {σ : GE} {w : World} {ty : TypeId} {pos : String} {af : Array Edge}
/-- a statement 'defer' of a function value -/
theorem wldefer {f : FuncId} {cap : List Value} {x : Operand} (h : WL P n ⟨⟨.fn (.func f) ⟨cap⟩, #[]⟩ :: ds.ds, ds.ro⟩ ops Q rest (real σ) w) (hx : evl (real σ) x = .func (.func f) #[] ⟨cap⟩ := by rfl) :
    WL P n ds ops Q (⟨none, .defer ⟨.value x, #[], #[]⟩, ty, pos, af, none⟩ :: rest) (real σ) w := by
  refine WL_defer (o := ⟨none, .defer ⟨.value x, #[], #[]⟩, ty, pos, af, none⟩) (w' := w) rfl ?_ h
  simp only [execOp, resolve, hx, Deferred.ofValue]
  simp
/-- at a function's end, a deferred function value -/
theorem leave_fv {fn : Func} {tmps : Array Value} {R : Ending → World → Prop} {u : FrameMode} {dl : List Deferred} {f : FuncId} [hf : Fnc P f] {cap : List Value} (hu : u ≠ .run)
    (h : CallsDIn Fence.wide 0 P f cap.toArray u w fun
      | .returned _, u', w' => LeavesInM Fence.wide 0 P fn tmps R dl (settle u') w'
      | .panicked chain, u', w' => LeavesInM Fence.wide 0 P fn tmps R dl (raised u' chain) w'
      | .outgrown, _, w' => R .outgrown w') : LeavesInM Fence.wide 0 P fn tmps R (⟨.fn (.func f) ⟨cap⟩, #[]⟩ :: dl) u w := by
  refine leave_fn (fv := .func f) (cap := ⟨cap⟩) (args := cap.toArray) hu rfl ?_ h
  have := run_callFunc (P := P) (f := f) cap.toArray w
  simpa [invoke] using this
theorem fp_panic {fn : Func} {R : Value → World → Prop} {ch : List PanicEntry} {σ : Env} (h : LeavesInM Fence.wide 0 P fn (act n ds.ds σ).tmps (fun e w' => ∃ v, e = .returned v ∧ R v w') ds.ds (.panicking ch) w) : fpost P n fn R (.panic ch) ds σ w := h
theorem fp_leave {fn : Func} {R : Value → World → Prop} {ex : Exit} {σ : Env} (hex : ex = .ret ∨ ex = .normal) (h : LeavesInM Fence.wide 0 P fn (act n ds.ds σ).tmps (fun e w' => ∃ v, e = .returned v ∧ R v w') ds.ds .returning w) : fpost P n fn R ex ds σ w := by
  rcases hex with rfl | rfl <;> exact h
/-- two results that lie in cells, a struct and a value -/
theorem leave_two {fn : Func} {R : Value → World → Prop} {dl : List Deferred} {σ : Env} {t1 t2 : Nat} {y1 y2 : TypeId} {b1 b2 : Nat} {l : List Value} {v zv : Value} {bytes : Nat} (hr : fn.results = #[.cell t1 y1, .cell t2 y2])
    (ht : (Nat.blt t1 n && Nat.blt t2 n) = true) (hp : σ t1 = .pointer (pb b1) ∧ σ t2 = .pointer (pb b2)) (o1 : Own w b1 l) (o2 : Own w b2 [v])
    [h1 : Agg P y1 true] [hi : Inf P y1 zv l.length bytes] [h2 : Agg P y2 false] (h : R (.tuple #[.agg l.toArray, v]) w) :
    LeavesInM Fence.wide 0 P fn (act n dl σ).tmps (fun e w' => ∃ v, e = .returned v ∧ R v w') [] .returning w := by
  simp only [Bool.and_eq_true] at ht
  obtain ⟨ht1, ht2⟩ := ht
  obtain ⟨p1, p2⟩ := hp
  obtain ⟨T1, o1⟩ := o1
  obtain ⟨T2, o2⟩ := o2
  have g : ∀ {t b : Nat}, Nat.blt t n = true → σ t = .pointer (pb b) → (act n dl σ).tmps[t]?.getD undef = .pointer (pb b) := fun {t b} ht hp => by
    have : (act n dl σ).tmps.getD t undef = .pointer (pb b) := by rw [act_getD ht]; exact hp
    simpa using this
  have c2 : w.cell? ⟨b2, 0, none⟩ = some v := by rw [cell_of_row w b2 0 _ _ _ o2]; rfl
  obtain ⟨dd, hd1, hd2⟩ := h1.ok
  obtain ⟨i, hi1, hi2, hi3, hi4⟩ := inf_size (P := P) (t := y1)
  have c1 := run_loadVar_row (P := P) w b1 T1 y1 l.toArray (0, 0) dd o1 hd1 (by revert hd2; cases dd <;> exact id) (by rw [hi1]; simp [hi3])
  refine ⟨.tuple #[.agg l.toArray, v], ?_, _, rfl, h⟩
  have c3 : (loadVar y2 ⟨b2, 0, none⟩).run P w = .ok v w := by
    simp [loadVar, run_isAgg (P := P) (t := y2), c2]
  simp [results, hr, g ht1 p1, g ht2 p2, asAddr, pb, c1, c3]
end
end Go.Sv

/-
  Package token, reading: take, text.
-/
set_option linter.unusedSimpArgs false
set_option linter.unusedVariables false
set_option linter.unnecessarySimpa false
namespace Go.Proofs.YthgbpgjpnaanlaaGreatDoor
open Go Go.Sv Go.RowKit

theorem cutPrefix_ok (s p : List UInt8) (w : World) : PureC Tryz.prog 101 #[str s, str p] w (.tuple #[str (if p.isPrefixOf s = true then s.drop p.length else s), .bool (p.isPrefixOf s)]) := by
  refine Calls.mono (Tryz.strings_CutPrefix ⟨s.toArray⟩ ⟨p.toArray⟩ w) ?_
  rintro e w' ⟨rfl, rfl⟩
  exact ⟨_, rfl, rfl, Frm.refl _⟩
theorem hasPrefix7_ok (s p : List UInt8) (w : World) : PureC Tryz.prog 104 #[str s, str p] w (.bool (p.isPrefixOf s)) := by
  refine Calls.mono (Tryz.strings_HasPrefix ⟨s.toArray⟩ ⟨p.toArray⟩ w) ?_
  rintro e w' ⟨rfl, rfl⟩
  exact ⟨_, rfl, rfl, Frm.refl _⟩
def stopV : Value := .iface 138 (.agg #[])
theorem stop_conc : Tryz.prog.concrete 138 = true := by kernel_rfl
def stopE : List PanicEntry := [{ v := stopV, recovered := false }]

set_option maxHeartbeats 1000000 in
theorem take_ok (b : Nat) (s p : List UInt8) (hb : s.length ≤ 16777216) (w0 w : World) (cs : List Plot) (hS : Sep w0 w (pOwn b [str s] :: cs)) :
    CallsP Tryz.prog 102 #[ptrAt (pb b) 0, str p] w (fun _ w' => p.isPrefixOf s = true ∧ Sep w0 w' (pOwn b [str (s.drop p.length)] :: cs))
      (fun ch w' => p.isPrefixOf s = false ∧ ch = stopE ∧ Sep w0 w' (pOwn b [str s] :: cs)) := by
  have hcp := fun w => cutPrefix_ok s p w
  refine enterP (l := [ptrAt (pb b) 0, str p]) Tryz.func102 rfl Tryz.ntmps102 (by kernel_rfl) rfl ?_
  refine sgo ?_
  refine wlpure (hcp _) fun w1 hf1 => ?_
  replace hS := hS.grow hf1
  refine sgo ?_
  cases hp : p.isPrefixOf s with
  | false =>
    simp only [hp, Bool.false_eq_true, if_false]
    refine sgo ?_
    refine wlbuild ?_
    refine wlmki ?_ stop_conc
    refine wlpan ?_
    refine thn_panic ?_
    exact fpPan ⟨trivial, rfl, hS⟩ rfl
  | true =>
    simp only [hp, if_true]
    refine sgo ?_
    refine sst_str hS 0 fun w2 hS => ?_
    refine sgo ?_
    refine fpP (c := ⟨[], none⟩) (.inr rfl) ?_ rfl
    (first | refine fp1 (.inl rfl) rfl rfl ?_ | refine fp2 (.inl rfl) rfl rfl rfl ?_ | refine fp3 (.inl rfl) rfl rfl rfl rfl ?_ | refine fp0 (.inr rfl) rfl ?_ | refine fp0 (.inl rfl) rfl ?_ | refine fp1 (.inr rfl) rfl rfl ?_)
    exact ⟨trivial, hS⟩
/-! ## text -/
theorem fresh_at {M M' : List Nat} {w w' : World} {B : Nat} (h : Lm M w M' w') (hM : ∀ x ∈ M, B ≤ x) (hB : B ≤ w.heap.size) : ∀ x ∈ M', B ≤ x := fun x hx => by
  rcases Nat.lt_or_ge x w.heap.size with h1 | h1
  · exact hM x (h.2 x hx h1)
  · omega
theorem textR_yes {s : List UInt8} (h : ([34] : List UInt8).isPrefixOf s = true) : qtxR s = unqR (s.drop 1) [] := by
  cases s with
  | nil => cases h
  | cons c l =>
    have hc : c.toNat = 34 := by
      have : (34 == c && List.isPrefixOf [] l) = true := h
      simp only [Bool.and_eq_true, beq_iff_eq] at this
      rw [← this.1]; rfl
    rw [qtxR, if_pos hc]
    rfl
theorem textR_no {s : List UInt8} (h : ([34] : List UInt8).isPrefixOf s = false) : qtxR s = none := by
  cases s with
  | nil => rfl
  | cons c l =>
    rw [qtxR, if_neg]
    intro hc
    have : c = 34 := UInt8.toNat_inj.1 hc
    subst this
    have h' : ((34 : UInt8) == 34 && List.isPrefixOf [] l) = false := h
    simp at h'
set_option maxHeartbeats 4000000 in
theorem text_ok (b : Nat) (s : List UInt8) (hb : s.length ≤ 16777216) (w0 w : World) (cs : List Plot) (hS : Sep w0 w (pOwn b [str s] :: cs)) :
    CallsP Tryz.prog 103 #[ptrAt (pb b) 0] w (fun v w' => ∃ t r, qtxR s = some (t, r) ∧ v = str t ∧ Sep w0 w' (pOwn b [str r] :: cs))
      (fun ch w' => qtxR s = none ∧ ch = stopE ∧ ∃ s', Sep w0 w' (pOwn b [str s'] :: cs)) := by
  have htk := fun w hS => take_ok b s [34] hb w0 w cs hS
  refine enterP (l := [ptrAt (pb b) 0]) Tryz.func103 rfl Tryz.ntmps103 (by kernel_rfl) rfl ?_
  refine sgo ?_
  refine wlcallP (htk _ hS) ?_ ?_
  rotate_left
  · rintro ch w' ⟨hp, rfl, hS⟩
    repeat (first | refine thn_panic ?_ | refine thl_panic ?_ | refine blk_panic ?_ | refine ngt_panic ?_)
    exact fpPan ⟨textR_no hp, rfl, s, hS⟩ rfl
  clear hS
  rintro _ w1 ⟨hp, hS⟩
  rw [textR_yes hp]
  have hl1 : (s.drop ([34] : List UInt8).length).length ≤ 16777216 := by rw [List.length_drop]; omega
  have hl2 : s.drop ([34] : List UInt8).length = s.drop 1 := rfl
  rw [hl2] at hS hl1
  generalize s.drop 1 = l at *
  have hlow : ∀ c ∈ (pOwn b [str l] :: cs), ∀ x ∈ c.foot, x < w1.heap.size := fun c hc => hS.lt hc
  have hz := hS.frm.size
  generalize hB : w1.heap.size = B at *
  clear hp hl2
  refine sgo ?_
  refine wlallocT fun b2 w2 hb2 ha hf => ?_
  replace hS : Sep w0 w2 (pBld TB TY b2 none [] :: pOwn b [str l] :: cs) := hS.push hf (Bld.new ha) (by intro x hx; simp [pBld, rb] at hx; omega)
  refine sgo ?_
  refine wcloop (X := Nat × Option Addr × List UInt8) (fun x => [(0, ptrAt (pb b) 0), (2, str []), (3, ptrAt (pb b2) 0), (4, int x.1)])
    (fun x wr => x.1 ≤ l.length ∧ unqR (l.drop x.1) x.2.2 = unqR l [] ∧ x.2.2.length ≤ x.1 ∧ Sep w0 wr (pBld TB TY b2 x.2.1 x.2.2 :: pOwn b [str l] :: cs) ∧ ∀ k ∈ b2 :: rb x.2.1, B ≤ k) (fun x => l.length - x.1) (0, none, []) ⟨rfl, rfl, rfl, rfl, trivial⟩
    ⟨Nat.zero_le _, rfl, Nat.le_refl _, hS, by intro k hk; simp [rb] at hk; omega⟩ ?_
  clear hS ha hf
  rintro ⟨i, q, acc⟩ wr ρ ⟨hil, hu, hal, hS, hq⟩
  dsimp only at hil hu hal hS hq ⊢
  have hBw : B ≤ wr.heap.size := by have := (hS.bld 0 rfl).lt b2 List.mem_cons_self; omega
  refine sgo ?_
  (show WC _ _ _ _ _ _ _; first | refine WC_dec rfl (fun hc => ?_) (fun hc => ?_) | refine WC_cond rfl (fun hc => ?_) (fun hc => ?_))
  · have hlt : i < l.length := by omega
    clear hc
    obtain ⟨c, hx⟩ : ∃ c, l[i]? = some c := ⟨_, List.getElem?_eq_getElem hlt⟩
    refine sgo ?_
    have hg : l[i]?.getD 0 = c := by rw [hx]; rfl
    simp only [hg]
    clear hg
    (show WC _ _ _ _ _ _ _; first | refine WC_dec rfl (fun hc => ?_) (fun hc => ?_) | refine WC_cond rfl (fun hc => ?_) (fun hc => ?_))
    · have hc34 : c.toNat = 34 := by omega
      clear hc
      rw [unq_mark hx hc34] at hu
      refine sgo ?_
      refine sst_str hS 1 fun w3 hS => ?_
      replace hS : Sep w0 w3 (pBld TB TY b2 q acc :: pOwn b [str (l.drop ((i : Int) + 1).toNat)] :: cs) := hS
      rw [show ((i : Int) + 1).toNat = i + 1 from by omega] at hS
      refine sgo ?_
      refine wlcall (string_ok B b2 q acc _ (hS.bld 0 rfl) hq (by have := (hS.bld 0 rfl).lt b2 List.mem_cons_self; omega)) ?_
      rintro _ w4 ⟨rfl, hbl⟩
      replace hS := hS.tail.below hz (fun c hc => by
        rcases List.mem_cons.1 hc with rfl | hc
        · exact hlow (pOwn b [str l]) List.mem_cons_self
        · exact hlow c (List.mem_cons_of_mem _ hc)) hbl
      refine sgo ?_
      refine fpP (c := ⟨[], none⟩) (.inl rfl) ?_ rfl
      (first | refine fp1 (.inl rfl) rfl rfl ?_ | refine fp2 (.inl rfl) rfl rfl rfl ?_ | refine fp3 (.inl rfl) rfl rfl rfl rfl ?_ | refine fp0 (.inr rfl) rfl ?_ | refine fp0 (.inl rfl) rfl ?_ | refine fp1 (.inr rfl) rfl rfl ?_)
      exact ⟨acc, l.drop (i + 1), hu.symm, rfl, hS⟩
    have h34 : c.toNat ≠ 34 := by omega
    clear hc
    refine sgo ?_
    (show WC _ _ _ _ _ _ _; first | refine WC_dec rfl (fun hc => ?_) (fun hc => ?_) | refine WC_cond rfl (fun hc => ?_) (fun hc => ?_))
    · have hc9 : c.toNat = 9 := by omega
      clear hc
      rw [unq_tab hx hc9] at hu
      refine sgo ?_
      refine wlbuild ?_
      refine wlmki ?_ stop_conc
      refine wlpan ?_
      repeat (first | refine thn_panic ?_ | refine thl_panic ?_ | refine blk_panic ?_ | refine ngt_panic ?_)
      exact fpPan ⟨hu.symm, rfl, l, hS.tail⟩ rfl
    have h9 : c.toNat ≠ 9 := by omega
    clear hc
    refine sgo ?_
    (show WC _ _ _ _ _ _ _; first | refine WC_dec rfl (fun hc => ?_) (fun hc => ?_) | refine WC_cond rfl (fun hc => ?_) (fun hc => ?_))
    · have hc92 : c.toNat = 92 := by omega
      clear hc
      refine sgo ?_
      (show WC _ _ _ _ _ _ _; first | refine WC_dec rfl (fun hc => ?_) (fun hc => ?_) | refine WC_cond rfl (fun hc => ?_) (fun hc => ?_))
      · have hio : l.length ≤ i + 1 := by omega
        clear hc
        rw [unq_esc_out hx hc92 hio] at hu
        refine sgo ?_
        refine wlbuild ?_
        refine wlmki ?_ stop_conc
        refine wlpan ?_
        repeat (first | refine thn_panic ?_ | refine thl_panic ?_ | refine blk_panic ?_ | refine ngt_panic ?_)
        exact fpPan ⟨hu.symm, rfl, l, hS.tail⟩ rfl
      have hlt2 : i + 1 < l.length := by omega
      clear hc
      obtain ⟨d, hd⟩ : ∃ d, l[i + 1]? = some d := ⟨_, List.getElem?_eq_getElem hlt2⟩
      rw [unq_esc_at hx hc92 hd] at hu
      refine sgo ?_
      have hg : l[i + 1]?.getD 0 = d := by rw [hd]; rfl
      simp only [hg]
      clear hg
      (show WC _ _ _ _ _ _ _; first | refine WC_dec rfl (fun hc => ?_) (fun hc => ?_) | refine WC_cond rfl (fun hc => ?_) (fun hc => ?_))
      · have h110 : d.toNat = 110 := by omega
        clear hc
        rw [if_pos h110] at hu
        refine sgo ?_
        refine wlcall (writeByte_ok b2 q acc 10 _ (hS.bld 0 rfl) (by omega)) ?_
        rintro _ w3 ⟨rfl, q', hB', hl'⟩
        have hq' := fresh_at hl' hq hBw
        replace hS := hS.toBld 0 rfl hl' hB'
        refine sgo ?_
        exact ⟨(i + 2, q', acc ++ [10]), ⟨rfl, rfl, rfl, rfl, trivial⟩, ⟨by omega, hu, by simp; omega, hS, hq'⟩, by dsimp only; omega⟩
      have h110 : ¬ d.toNat = 110 := by omega
      clear hc
      rw [if_neg h110] at hu
      refine sgo ?_
      (show WC _ _ _ _ _ _ _; first | refine WC_dec rfl (fun hc => ?_) (fun hc => ?_) | refine WC_cond rfl (fun hc => ?_) (fun hc => ?_))
      · have h116 : d.toNat = 116 := by omega
        clear hc
        rw [if_pos h116] at hu
        refine sgo ?_
        refine wlcall (writeByte_ok b2 q acc 9 _ (hS.bld 0 rfl) (by omega)) ?_
        rintro _ w3 ⟨rfl, q', hB', hl'⟩
        have hq' := fresh_at hl' hq hBw
        replace hS := hS.toBld 0 rfl hl' hB'
        refine sgo ?_
        exact ⟨(i + 2, q', acc ++ [9]), ⟨rfl, rfl, rfl, rfl, trivial⟩, ⟨by omega, hu, by simp; omega, hS, hq'⟩, by dsimp only; omega⟩
      have h116 : ¬ d.toNat = 116 := by omega
      clear hc
      rw [if_neg h116] at hu
      refine sgo ?_
      (show WC _ _ _ _ _ _ _; first | refine WC_dec rfl (fun hc => ?_) (fun hc => ?_) | refine WC_cond rfl (fun hc => ?_) (fun hc => ?_))
      · have h34d : d.toNat = 34 := by omega
        clear hc
        rw [if_pos (.inl h34d)] at hu
        refine sgo ?_
        refine wcyes ?_ (ht := by simp [h34d])
        refine sgo ?_
        have hg : l[i + 1]?.getD 0 = d := by rw [hd]; rfl
        try simp only [hg]
        try clear hg
        refine wlcall (writeByte_ok b2 q acc d _ (hS.bld 0 rfl) (by omega)) ?_
        rintro _ w3 ⟨rfl, q', hB', hl'⟩
        have hq' := fresh_at hl' hq hBw
        replace hS := hS.toBld 0 rfl hl' hB'
        refine sgo ?_
        exact ⟨(i + 2, q', acc ++ [d]), ⟨rfl, rfl, rfl, rfl, trivial⟩, ⟨by omega, hu, by simp; omega, hS, hq'⟩, by dsimp only; omega⟩
      have h34d : ¬ d.toNat = 34 := by omega
      clear hc
      refine sgo ?_
      (show WC _ _ _ _ _ _ _; first | refine WC_dec rfl (fun hc => ?_) (fun hc => ?_) | refine WC_cond rfl (fun hc => ?_) (fun hc => ?_))
      · have h92d : d.toNat = 92 := by omega
        clear hc
        rw [if_pos (.inr h92d)] at hu
        refine sgo ?_
        have hg : l[i + 1]?.getD 0 = d := by rw [hd]; rfl
        try simp only [hg]
        try clear hg
        refine wlcall (writeByte_ok b2 q acc d _ (hS.bld 0 rfl) (by omega)) ?_
        rintro _ w3 ⟨rfl, q', hB', hl'⟩
        have hq' := fresh_at hl' hq hBw
        replace hS := hS.toBld 0 rfl hl' hB'
        refine sgo ?_
        exact ⟨(i + 2, q', acc ++ [d]), ⟨rfl, rfl, rfl, rfl, trivial⟩, ⟨by omega, hu, by simp; omega, hS, hq'⟩, by dsimp only; omega⟩
      have h92d : ¬ d.toNat = 92 := by omega
      clear hc
      rw [if_neg (by rintro (h | h); exact h34d h; exact h92d h)] at hu
      refine sgo ?_
      refine wlbuild ?_
      refine wlmki ?_ stop_conc
      refine wlpan ?_
      repeat (first | refine thn_panic ?_ | refine thl_panic ?_ | refine blk_panic ?_ | refine ngt_panic ?_)
      exact fpPan ⟨hu.symm, rfl, l, hS.tail⟩ rfl
    have h92 : c.toNat ≠ 92 := by omega
    clear hc
    rw [unq_one hx h34 h9 h92] at hu
    refine sgo ?_
    refine wlcall (writeByte_ok b2 q acc c _ (hS.bld 0 rfl) (by omega)) ?_
    rintro _ w3 ⟨rfl, q', hB', hl'⟩
    have hq' := fresh_at hl' hq hBw
    replace hS := hS.toBld 0 rfl hl' hB'
    refine sgo ?_
    exact ⟨(i + 1, q', acc ++ [c]), ⟨rfl, rfl, rfl, rfl, trivial⟩, ⟨by omega, hu, by simp; omega, hS, hq'⟩, by dsimp only; omega⟩
  · have hio : l.length ≤ i := by omega
    rw [unq_out hio] at hu
    refine sgo ?_
    refine wlbuild ?_
    refine wlmki ?_ stop_conc
    refine wlpan ?_
    repeat (first | refine thn_panic ?_ | refine thl_panic ?_ | refine blk_panic ?_ | refine ngt_panic ?_)
    exact fpPan ⟨hu.symm, rfl, l, hS.tail⟩ rfl
end Go.Proofs.YthgbpgjpnaanlaaGreatDoor

/-
  A scope in which the run jumps back to its label, once.
-/
set_option linter.unusedSimpArgs false
set_option linter.unusedVariables false
set_option linter.unnecessarySimpa false
namespace Go.Sv
open Go Go.RowKit
/-- what a jump leaves -/
def jmpq (l : Nat) (c : Ctx) (K : Env → World → Prop) (Q : Exit → Ctx → Env → World → Prop) : Exit → Ctx → Env → World → Prop
  | .goto l', c', σ, w => l' = l ∧ c' = c ∧ K σ w
  | e, c', σ, w => Q e c' σ w
section
variable {P : Program} {n l : Nat} {ds : Ctx} {Q : Exit → Ctx → Env → World → Prop} {K : Ctx → Env → World → Prop} {L : Env → World → Prop} {σ : Env} {w : World} {c rest : Code}
end
/-- a cut behind a piece of code that stands in a block -/
theorem wcutj {P : Program} {n i : Nat} {ds : Ctx} {K : Ctx → Env → World → Prop} {Q : Exit → Ctx → Env → World → Prop} {σ : Env} {w : World} {a : Code} {X : Type} (sl : X → List (Nat × Value)) (I : X → World → Prop)
    (ha : WC P n ds a (blk i (thl ds (fun σ w => ∃ x, Has σ (sl x) ∧ I x w) Q)) σ w) (hb : ∀ x w (ρ : GE), I x w → K ds (real (updGL ρ (sl x))) w) : WC P n ds a (blk i (thn K Q)) σ w := by
  refine WC_mono ha ?_
  have hn : ∀ c' σ' w', thl ds (fun σ w => ∃ x, Has σ (sl x) ∧ I x w) Q .normal c' σ' w' → thn K Q .normal c' σ' w' := by
    intro c' σ' w' h
    unfold thl at h
    unfold thn
    obtain ⟨rfl, x, h1, h2⟩ := h
    have := hb x w' (lif σ') h2
    rw [← real_updL, updL_has h1] at this
    exact this
  intro e c' σ' w' h
  unfold blk at h ⊢
  cases e with
  | normal => exact hn _ _ _ h
  | exit j =>
    dsimp only at h ⊢
    cases hj : Nat.beq j i with
    | true => rw [hj] at h; exact hn _ _ _ h
    | false => rw [hj] at h; unfold thl at h; unfold thn; exact h
  | _ => unfold thl at h; unfold thn; exact h
theorem Sep.nilRow {w0 w : World} {cs : List Plot} (h : Sep w0 w cs) (size : Nat) : Sep w0 w (pRow size none 0 0 [] :: cs) := h.push (Frm.refl w) (Row.nil w size) (by simp [pRow, rb])
attribute [irreducible] jmpq
end Go.Sv

/-
  Package token, reading: a token.
-/
set_option linter.unusedSimpArgs false
set_option linter.unusedVariables false
set_option linter.unnecessarySimpa false
namespace Go.Proofs.YthgbpgjpnaanlaaGreatDoor
open Go Go.Sv Go.RowKit

theorem readF_step {k : Nat} {x s : List UInt8} (h : wordsL[k]? = some x) : readF k (wordsL.drop k) s = if x.isPrefixOf s = true then tokR k (s.drop x.length) else readF (k + 1) (wordsL.drop (k + 1)) s := by
  obtain ⟨hi, rfl⟩ := List.getElem?_eq_some_iff.1 h
  rw [List.drop_eq_getElem_cons hi, readF]
theorem words_at2 {k : Nat} {x : List UInt8} (h : wordsL[k]? = some x) : (#[str wText, str wStart, str wEnd, str wComment, str wDoctype] : Array Value)[k]? = some (str x) := by
  have hk : k < 5 := (List.getElem?_eq_some_iff.1 h).1
  match k, hk with
  | 0, _ => obtain rfl : wText = x := Option.some.inj h; rfl
  | 1, _ => obtain rfl : wStart = x := Option.some.inj h; rfl
  | 2, _ => obtain rfl : wEnd = x := Option.some.inj h; rfl
  | 3, _ => obtain rfl : wComment = x := Option.some.inj h; rfl
  | 4, _ => obtain rfl : wDoctype = x := Option.some.inj h; rfl
theorem pre_take {p l : List UInt8} : p.isPrefixOf l = true ↔ l.take p.length = p := by
  rw [List.isPrefixOf_iff_prefix]
  constructor
  · rintro ⟨t, rfl⟩; rw [List.take_left]
  · intro h; rw [← h]; exact List.take_prefix _ _
theorem pre_yes {p l : List UInt8} (h : p.isPrefixOf l = true) : l.take p.length = p := pre_take.1 h
theorem pre_no {p l : List UInt8} (h : p.isPrefixOf l = false) : ¬ l.take p.length = p := fun hh => by rw [pre_take.2 hh] at h; cases h
theorem head_suf {k : Nat} {l nm tx r : List UInt8} (h : headT k l = some (nm, tx, r)) : r.length ≤ l.length ∧ nm.length ≤ l.length ∧ tx.length ≤ l.length := by
  unfold headT at h
  split at h
  · injection h with h; injection h with h1 h; injection h with h2 h3
    subst h1 h2 h3
    exact ⟨Nat.le_refl _, Nat.zero_le _, Nat.zero_le _⟩
  split at h
  · cases ht : qtxR (l.drop 1) with
    | none => rw [ht] at h; cases h
    | some x =>
      obtain ⟨a, b⟩ := x
      rw [ht] at h
      obtain ⟨_, h2, h3⟩ := textR_suf ht
      rw [List.length_drop] at h2 h3
      dsimp only at h
      split at h
      · injection h with h; injection h with h4 h; injection h with h5 h6
        subst h4 h5 h6
        exact ⟨by omega, by omega, Nat.zero_le _⟩
      · injection h with h; injection h with h4 h; injection h with h5 h6
        subst h4 h5 h6
        exact ⟨by omega, Nat.zero_le _, by omega⟩
  · cases h
theorem tok_end {k : Nat} {l nm tx r0 r : List UInt8} {es : List At} (h : headT k l = some (nm, tx, r0)) (ha : atsR r0 [] = some (es, r)) :
    tokR k l = if (r = [] ∨ r = [32, 47]) ∧ mayR ⟨k, nm, tx, es, decide (r = [32, 47]), 0, 0, 0⟩ = true then some ⟨k, nm, tx, es, decide (r = [32, 47]), 0, 0, 0⟩ else none := by
  unfold tokR; rw [h]; dsimp only; rw [ha]
theorem tok_bad {k : Nat} {l nm tx r0 : List UInt8} (h : headT k l = some (nm, tx, r0)) (ha : atsR r0 [] = none) : tokR k l = none := by
  unfold tokR; rw [h]; dsimp only; rw [ha]
theorem at1_text {r : List UInt8} (h : qtxR (r.drop 1) = none) : at1R r = none := by unfold at1R; rw [h]
theorem at1_eq {r n r1 : List UInt8} (h : qtxR (r.drop 1) = some (n, r1)) (h2 : ¬ r1.take 1 = [61]) : at1R r = none := by unfold at1R; rw [h]; dsimp only; rw [if_neg h2]
theorem at1_val {r n r1 : List UInt8} (h : qtxR (r.drop 1) = some (n, r1)) (h2 : r1.take 1 = [61]) (h3 : qtxR (r1.drop 1) = none) : at1R r = none := by unfold at1R; rw [h]; dsimp only; rw [if_pos h2, h3]
theorem at1_all {r n r1 v r2 : List UInt8} (h : qtxR (r.drop 1) = some (n, r1)) (h2 : r1.take 1 = [61]) (h3 : qtxR (r1.drop 1) = some (v, r2)) : at1R r = some (⟨n, v⟩, r2) := by unfold at1R; rw [h]; dsimp only; rw [if_pos h2, h3]
/-- what is read of a line is small -/
def lineS (s : List UInt8) : Prop := ∀ (k : Nat) (x nm tx r0 : List UInt8) (es : List At) (r : List UInt8), wordsL[k]? = some x → x.isPrefixOf s = true → headT k (s.drop x.length) = some (nm, tx, r0) → atsR r0 [] = some (es, r) →
  nm.length ≤ 1048576 ∧ tx.length ≤ 1048576 ∧ es.length ≤ 1048576 ∧ ∀ a ∈ es, a.small
def zeroV : List Value := [int 0, str [], str [], .slice none 0 0, .bool false, int 0, int 0, int 0]
set_option maxHeartbeats 1000000 in
theorem token_ok (b : Nat) (s : List UInt8) (hb : s.length ≤ 16777216) (HS : lineS s) (w0 w : World) (cs : List Plot) (hS : Sep w0 w (pOwn b [str s] :: cs)) :
    CallsP Tryz.prog 90 #[ptrAt (pb b) 0] w (fun v w' => ∃ t p c, readR s = some t ∧ v = .agg ⟨Tok.cells t p c⟩ ∧ ∃ s', Sep w0 w' (pRow 2 p t.attrs.length c (t.attrs.flatMap At.cells) :: pOwn b [str s'] :: cs))
      (fun ch w' => readR s = none ∧ ch = stopE ∧ ∃ s', Sep w0 w' (pOwn b [str s'] :: cs)) := by
  obtain ⟨R, hR⟩ : ∃ R, R = readR s := ⟨_, rfl⟩
  rw [← hR]
  have hcp := fun p w => cutPrefix_ok s p w
  refine enterP (l := [ptrAt (pb b) 0]) Tryz.func90 rfl Tryz.ntmps90 (by kernel_rfl) rfl ?_
  refine sgo ?_
  refine salloc hS fun bR w1 hS => ?_
  replace hS : Sep w0 w1 (pOwn bR zeroV :: pOwn b [str s] :: cs) := hS
  refine sgo ?_
  refine wlpure (words_ok _) fun w2 hf2 => ?_
  replace hS := hS.grow hf2
  clear hf2
  refine sgo ?_
  refine wcloop (X := Nat) (fun k => [(0, ptrAt (pb b) 0), (2, ptrAt (pb bR) 0), (9, wordsV), (10, int k)])
    (fun k wr => k ≤ 5 ∧ readF k (wordsL.drop k) s = R ∧ Sep w0 wr (pOwn bR zeroV :: pOwn b [str s] :: cs)) (fun k => 5 - k) 0 ⟨rfl, rfl, rfl, rfl, trivial⟩ ⟨by omega, hR.symm, hS⟩ ?_
  clear hS
  rintro k wr ρ ⟨hk5, hrd, hS⟩
  refine sgo ?_
  (show WC _ _ _ _ _ _ _; first | refine WC_dec rfl (fun hc => ?_) (fun hc => ?_) | refine WC_cond rfl (fun hc => ?_) (fun hc => ?_))
  · have hk : k < 5 := by omega
    clear hc
    obtain ⟨x, hx⟩ : ∃ x, wordsL[k]? = some x := ⟨_, List.getElem?_eq_getElem hk⟩
    have hwa := words_at2 hx
    rw [readF_step hx] at hrd
    refine sgo ?_
    refine wlpure (hcp x _) fun w3 hf3 => ?_
    replace hS := hS.grow hf3
    clear hf3 hcp hwa
    cases hp : x.isPrefixOf s with
    | false =>
      rw [hp, if_neg Bool.false_ne_true] at hrd
      simp only [hp, Bool.false_eq_true, if_false]
      refine sgo ?_
      exact ⟨k + 1, ⟨rfl, rfl, rfl, rfl, trivial⟩, ⟨hk, hrd, hS⟩, by omega⟩
    | true =>
      rw [hp, if_pos rfl] at hrd
      simp only [hp, if_true]
      have hb1 : (s.drop x.length).length ≤ 16777216 := by rw [List.length_drop]; omega
      have HSk := fun nm tx r0 es r => HS k x nm tx r0 es r hx hp
      clear HS
      generalize s.drop x.length = l at *
      clear hp hx
      refine sgo ?_
      refine wlbuild ?_
      refine sgo ?_
      refine salloc hS fun bT w4 hS => ?_
      refine sgo ?_
      refine ssta (vs := [int k, str [], str [], .slice none 0 0, .bool false, int 0, int 0, int 0]) hS 0 fun w5 hS => ?_
      refine sgo ?_
      refine sst_str hS 2 fun w6 hS => ?_
      replace hS : Sep w0 w6 (pOwn bT [int k, str [], str [], .slice none 0 0, .bool false, int 0, int 0, int 0] :: pOwn bR zeroV :: pOwn b [str l] :: cs) := hS
      have hS' : Sep w0 w6 (pOwn b [str l] :: pOwn bT [int k, str [], str [], .slice none 0 0, .bool false, int 0, int 0, int 0] :: pOwn bR zeroV :: cs) := hS.front 2 rfl
      replace hS := hS'
      clear hS'
      refine sgo ?_
      refine wcutr (X := Unit) (fun _ => [(0, ptrAt (pb b) 0), (2, ptrAt (pb bR) 0), (7, ptrAt (pb bT) 0), (32, int k), (33, .bool (decide (k = 1 ∨ k = 2)))]) (fun _ w' => w' = w6) ?_ ?_
      · have hk' : k = 0 ∨ k = 1 ∨ k = 2 ∨ k = 3 ∨ k = 4 := by omega
        clear hk hk5 hR hS
        rcases hk' with rfl | rfl | rfl | rfl | rfl <;> (refine sgo ?_; exact ⟨(), ⟨rfl, rfl, rfl, rfl, rfl, trivial⟩, rfl⟩)
      rintro _ w7 ρ1 rfl
      refine wcutj (X := List UInt8 × List UInt8 × List UInt8) (fun _ => [(0, ptrAt (pb b) 0), (2, ptrAt (pb bR) 0), (7, ptrAt (pb bT) 0)])
        (fun x w' => headT k l = some x ∧ Sep w0 w' (pOwn b [str x.2.2] :: pOwn bT [int k, str x.1, str x.2.1, .slice none 0 0, .bool false, int 0, int 0, int 0] :: pOwn bR zeroV :: cs)) ?_ ?_
      · have hk' : k = 0 ∨ k = 1 ∨ k = 2 ∨ k = 3 ∨ k = 4 := by omega
        clear hk hk5 hR HSk
        rcases hk' with rfl | rfl | rfl | rfl | rfl
        · refine sgo ?_
          refine wlcallP (take_ok b l [32] hb1 w0 _ _ hS) ?_ ?_
          rotate_left
          · rintro ch w7 ⟨hp, rfl, hS⟩
            have hrn : R = none := by rw [← hrd]; exact tok_none (head_no (by decide) (pre_no hp))
            repeat (first | refine thn_panic ?_ | refine thl_panic ?_ | refine blk_panic ?_ | refine ngt_panic ?_)
            exact fpPan ⟨hrn, rfl, _, hS.drop 2 rfl |>.drop 1 rfl⟩ rfl
          clear hS
          rintro _ w7 ⟨hp, hS⟩
          have hp1 := pre_yes hp
          clear hp
          refine sgo ?_
          refine wlcallP (text_ok b _ (by rw [List.length_drop]; omega) w0 _ _ hS) ?_ ?_
          rotate_left
          · rintro ch w8 ⟨hp, rfl, s', hS⟩
            have hrn : R = none := by rw [← hrd]; exact tok_none (head_bad (by decide) hp1 hp)
            repeat (first | refine thn_panic ?_ | refine thl_panic ?_ | refine blk_panic ?_ | refine ngt_panic ?_)
            exact fpPan ⟨hrn, rfl, _, hS.drop 2 rfl |>.drop 1 rfl⟩ rfl
          clear hS
          rintro _ w8 ⟨t, r, htr, rfl, hS⟩
          refine sgo ?_
          refine sst_str hS 1 fun w9 hS => ?_
          refine sgo ?_
          exact ⟨([], t, r), ⟨rfl, rfl, rfl, trivial⟩, head_yes (by decide) hp1 htr, hS⟩
        · refine sgo ?_
          refine wlcallP (take_ok b l [32] hb1 w0 _ _ hS) ?_ ?_
          rotate_left
          · rintro ch w7 ⟨hp, rfl, hS⟩
            have hrn : R = none := by rw [← hrd]; exact tok_none (head_no (by decide) (pre_no hp))
            repeat (first | refine thn_panic ?_ | refine thl_panic ?_ | refine blk_panic ?_ | refine ngt_panic ?_)
            exact fpPan ⟨hrn, rfl, _, hS.drop 2 rfl |>.drop 1 rfl⟩ rfl
          clear hS
          rintro _ w7 ⟨hp, hS⟩
          have hp1 := pre_yes hp
          clear hp
          refine sgo ?_
          refine wlcallP (text_ok b _ (by rw [List.length_drop]; omega) w0 _ _ hS) ?_ ?_
          rotate_left
          · rintro ch w8 ⟨hp, rfl, s', hS⟩
            have hrn : R = none := by rw [← hrd]; exact tok_none (head_bad (by decide) hp1 hp)
            repeat (first | refine thn_panic ?_ | refine thl_panic ?_ | refine blk_panic ?_ | refine ngt_panic ?_)
            exact fpPan ⟨hrn, rfl, _, hS.drop 2 rfl |>.drop 1 rfl⟩ rfl
          clear hS
          rintro _ w8 ⟨t, r, htr, rfl, hS⟩
          refine sgo ?_
          refine sst_str hS 1 fun w9 hS => ?_
          refine sgo ?_
          exact ⟨(t, [], r), ⟨rfl, rfl, rfl, trivial⟩, head_yes (by decide) hp1 htr, hS⟩
        · refine sgo ?_
          refine wlcallP (take_ok b l [32] hb1 w0 _ _ hS) ?_ ?_
          rotate_left
          · rintro ch w7 ⟨hp, rfl, hS⟩
            have hrn : R = none := by rw [← hrd]; exact tok_none (head_no (by decide) (pre_no hp))
            repeat (first | refine thn_panic ?_ | refine thl_panic ?_ | refine blk_panic ?_ | refine ngt_panic ?_)
            exact fpPan ⟨hrn, rfl, _, hS.drop 2 rfl |>.drop 1 rfl⟩ rfl
          clear hS
          rintro _ w7 ⟨hp, hS⟩
          have hp1 := pre_yes hp
          clear hp
          refine sgo ?_
          refine wlcallP (text_ok b _ (by rw [List.length_drop]; omega) w0 _ _ hS) ?_ ?_
          rotate_left
          · rintro ch w8 ⟨hp, rfl, s', hS⟩
            have hrn : R = none := by rw [← hrd]; exact tok_none (head_bad (by decide) hp1 hp)
            repeat (first | refine thn_panic ?_ | refine thl_panic ?_ | refine blk_panic ?_ | refine ngt_panic ?_)
            exact fpPan ⟨hrn, rfl, _, hS.drop 2 rfl |>.drop 1 rfl⟩ rfl
          clear hS
          rintro _ w8 ⟨t, r, htr, rfl, hS⟩
          refine sgo ?_
          refine sst_str hS 1 fun w9 hS => ?_
          refine sgo ?_
          exact ⟨(t, [], r), ⟨rfl, rfl, rfl, trivial⟩, head_yes (by decide) hp1 htr, hS⟩
        · refine sgo ?_
          refine wlcallP (take_ok b l [32] hb1 w0 _ _ hS) ?_ ?_
          rotate_left
          · rintro ch w7 ⟨hp, rfl, hS⟩
            have hrn : R = none := by rw [← hrd]; exact tok_none (head_no (by decide) (pre_no hp))
            repeat (first | refine thn_panic ?_ | refine thl_panic ?_ | refine blk_panic ?_ | refine ngt_panic ?_)
            exact fpPan ⟨hrn, rfl, _, hS.drop 2 rfl |>.drop 1 rfl⟩ rfl
          clear hS
          rintro _ w7 ⟨hp, hS⟩
          have hp1 := pre_yes hp
          clear hp
          refine sgo ?_
          refine wlcallP (text_ok b _ (by rw [List.length_drop]; omega) w0 _ _ hS) ?_ ?_
          rotate_left
          · rintro ch w8 ⟨hp, rfl, s', hS⟩
            have hrn : R = none := by rw [← hrd]; exact tok_none (head_bad (by decide) hp1 hp)
            repeat (first | refine thn_panic ?_ | refine thl_panic ?_ | refine blk_panic ?_ | refine ngt_panic ?_)
            exact fpPan ⟨hrn, rfl, _, hS.drop 2 rfl |>.drop 1 rfl⟩ rfl
          clear hS
          rintro _ w8 ⟨t, r, htr, rfl, hS⟩
          refine sgo ?_
          refine sst_str hS 1 fun w9 hS => ?_
          refine sgo ?_
          exact ⟨([], t, r), ⟨rfl, rfl, rfl, trivial⟩, head_yes (by decide) hp1 htr, hS⟩
        · refine sgo ?_
          exact ⟨([], [], l), ⟨rfl, rfl, rfl, trivial⟩, by unfold headT; rw [if_pos rfl], hS⟩
      clear hS
      rintro ⟨nm, tx, r0⟩ w7 ρ2 ⟨hh, hS⟩
      dsimp only at hS
      obtain ⟨hr0, hnm, htx⟩ := head_suf hh
      replace hS : Sep w0 w7 (pOwn b [str r0] :: pRow 2 none 0 0 [] :: pOwn bT [int k, str nm, str tx, .slice none 0 0, .bool false, int 0, int 0, int 0] :: pOwn bR zeroV :: cs) := (hS.nilRow 2).front 1 rfl
      refine sgo ?_
      refine wcloop (X := List At × Option Addr × Nat × List UInt8) (fun _ => [(0, ptrAt (pb b) 0), (2, ptrAt (pb bR) 0), (7, ptrAt (pb bT) 0)])
        (fun x wr => atsR x.2.2.2 x.1 = atsR r0 [] ∧ x.1.length + x.2.2.2.length ≤ l.length ∧
          Sep w0 wr (pOwn b [str x.2.2.2] :: pRow 2 x.2.1 x.1.length x.2.2.1 (x.1.flatMap At.cells) :: pOwn bT [int k, str nm, str tx, .slice x.2.1 x.1.length x.2.2.1, .bool false, int 0, int 0, int 0] :: pOwn bR zeroV :: cs))
        (fun x => x.2.2.2.length) ([], none, 0, r0) ⟨rfl, rfl, rfl, trivial⟩ ⟨rfl, by simpa using hr0, hS⟩ ?_
      clear hS hR
      rintro ⟨acc, q, c, r⟩ w8 ρ3 ⟨hA, hlen, hS⟩
      dsimp only at hA hlen hS ⊢
      refine sgo ?_
      refine wlpure (hasPrefix7_ok r [32, 34] _) fun w9 hf9 => ?_
      replace hS := hS.grow hf9
      clear hf9
      cases hpp : ([32, 34] : List UInt8).isPrefixOf r with
      | true =>
        have hr2 : r.take 2 = [32, 34] := pre_yes hpp
        refine sgo ?_
        refine wlcallP (take_ok b r [32] (by omega) w0 _ _ hS) ?_ ?_
        rotate_left
        · rintro ch w10 ⟨hp, rfl, hS⟩
          exfalso
          refine pre_no hp ?_
          have := congrArg (List.take 1) hr2
          rw [List.take_take] at this
          exact this
        clear hS
        rintro _ w10 ⟨_, hS⟩
        have hd1 : (r.drop ([32] : List UInt8).length).length ≤ 16777216 := by rw [List.length_drop]; omega
        refine sgo ?_
        refine wlcallP (text_ok b _ hd1 w0 _ _ hS) ?_ ?_
        rotate_left
        · rintro ch w10 ⟨hp, rfl, s', hS⟩
          have hrn : R = none := by rw [← hrd]; exact tok_bad hh (by rw [← hA]; exact atsR_bad hr2 (at1_text hp))
          repeat (first | refine thn_panic ?_ | refine thl_panic ?_ | refine blk_panic ?_ | refine ngt_panic ?_)
          exact fpPan ⟨hrn, rfl, _, ((hS.drop 3).drop 2).drop 1⟩ rfl
        clear hS
        rintro _ w11 ⟨n, r1, htn, rfl, hS⟩
        have hl1 := (textR_suf htn).2.1
        have hl1' := (textR_suf htn).2.2
        change qtxR (r.drop 1) = some (n, r1) at htn
        rw [List.length_drop] at hl1 hl1'
        have hr1l : 1 ≤ r.length := by
          rcases Nat.eq_zero_or_pos r.length with h0 | h0
          · rw [List.eq_nil_of_length_eq_zero h0] at hr2; cases hr2
          · exact h0
        clear hd1
        refine sgo ?_
        refine wlbuild ?_
        refine sgo ?_
        refine salloc hS fun bA w12 hS => ?_
        refine sgo ?_
        refine ssta (vs := [str n, str []]) hS 0 fun w13 hS => ?_
        replace hS := hS.front 1 rfl
        refine sgo ?_
        refine wlcallP (take_ok b r1 [61] (by simp only [List.length_singleton] at hl1 hl1'; omega) w0 _ _ hS) ?_ ?_
        rotate_left
        · rintro ch w10 ⟨hp, rfl, hS⟩
          have hrn : R = none := by rw [← hrd]; exact tok_bad hh (by rw [← hA]; exact atsR_bad hr2 (at1_eq htn (pre_no hp)))
          repeat (first | refine thn_panic ?_ | refine thl_panic ?_ | refine blk_panic ?_ | refine ngt_panic ?_)
          exact fpPan ⟨hrn, rfl, _, (((hS.drop 4).drop 3).drop 2).drop 1⟩ rfl
        clear hS
        rintro _ w14 ⟨hp, hS⟩
        have hr3 : r1.take 1 = [61] := pre_yes hp
        clear hp
        have hd1 : (r1.drop ([61] : List UInt8).length).length ≤ 16777216 := by simp only [List.length_singleton, List.length_drop] at *; omega
        refine sgo ?_
        refine wlcallP (text_ok b _ hd1 w0 _ _ hS) ?_ ?_
        rotate_left
        · rintro ch w10 ⟨hp, rfl, s', hS⟩
          have hrn : R = none := by rw [← hrd]; exact tok_bad hh (by rw [← hA]; exact atsR_bad hr2 (at1_val htn hr3 hp))
          repeat (first | refine thn_panic ?_ | refine thl_panic ?_ | refine blk_panic ?_ | refine ngt_panic ?_)
          exact fpPan ⟨hrn, rfl, _, (((hS.drop 4).drop 3).drop 2).drop 1⟩ rfl
        clear hS
        rintro _ w15 ⟨v, r2, htv, rfl, hS⟩
        have hl2 := (textR_suf htv).2.1
        have hl2' := (textR_suf htv).2.2
        change qtxR (r1.drop 1) = some (v, r2) at htv
        rw [List.length_drop] at hl2 hl2'
        clear hd1
        have hA2 := at1_all htn hr3 htv
        rw [atsR_yes hr2 hA2] at hA
        simp only [List.length_singleton] at hl1 hl1' hl2 hl2'
        clear htn htv hr3 hA2 hr2 hpp
        refine sgo ?_
        refine sst_str hS 1 fun w16 hS => ?_
        replace hS : Sep w0 w16 (pOwn b [str r2] :: pOwn bA [str n, str v] :: pRow 2 q acc.length c (acc.flatMap At.cells) :: pOwn bT [int k, str nm, str tx, .slice q acc.length c, .bool false, int 0, int 0, int 0] :: pOwn bR zeroV :: cs) := hS
        refine sgo ?_
        refine sb1a (vs := [str n, str v]) hS fun b3 w17 hS => ?_
        refine sgo ?_
        refine sapp hS 3 (hS.own 0 rfl).sg fun q' c' w18 hS => ?_
        refine sgo ?_
        refine sst_slice hS 4 fun w19 hS => ?_
        have e1 : (acc ++ [(⟨n, v⟩ : At)]).flatMap At.cells = acc.flatMap At.cells ++ [str n, str v] := by rw [List.flatMap_append]; rfl
        have e2 : (acc ++ [(⟨n, v⟩ : At)]).length = acc.length + 1 := by rw [List.length_append]; rfl
        have hS' : Sep w0 w19 (pOwn b [str r2] :: pRow 2 q' (acc.length + 1) c' (acc.flatMap At.cells ++ [str n, str v]) :: pOwn bT [int k, str nm, str tx, .slice q' (acc.length + 1) c', .bool false, int 0, int 0, int 0] :: pOwn bR zeroV :: cs) := (hS.drop 2).drop 0
        rw [← e1, ← e2] at hS'
        clear hS
        refine sgo ?_
        exact ⟨(acc ++ [⟨n, v⟩], q', c', r2), ⟨rfl, rfl, rfl, trivial⟩, ⟨hA, by rw [e2]; dsimp only; omega, hS'⟩, by dsimp only; omega⟩
      | false =>
        have hr2 : ¬ r.take 2 = [32, 34] := pre_no hpp
        rw [atsR_end hr2] at hA
        rw [tok_end hh hA.symm] at hrd
        obtain ⟨hz1, hz2, hz3, hz4⟩ := HSk nm tx r0 acc r hh hA.symm
        clear HSk hA hr2 hpp hh
        refine sgo ?_
        refine wcutr (X := Unit) (fun _ => [(0, ptrAt (pb b) 0), (2, ptrAt (pb bR) 0), (7, ptrAt (pb bT) 0)])
          (fun _ w' => Sep w0 w' (pOwn b [str (if r = [32, 47] then [] else r)] :: pRow 2 q acc.length c (acc.flatMap At.cells) :: pOwn bT [int k, str nm, str tx, .slice q acc.length c, .bool (decide (r = [32, 47])), int 0, int 0, int 0] :: pOwn bR zeroV :: cs)) ?_ ?_
        · (show WC _ _ _ _ _ _ _; first | refine WC_dec rfl (fun hc => ?_) (fun hc => ?_) | refine WC_cond rfl (fun hc => ?_) (fun hc => ?_))
          · refine sgo ?_
            refine sst_bool hS 2 fun w10 hS => ?_
            refine sgo ?_
            refine sst_str hS 0 fun w11 hS => ?_
            refine sgo ?_
            refine ⟨(), ⟨rfl, rfl, rfl, trivial⟩, ?_⟩
            rw [if_pos hc, decide_eq_true hc]
            exact hS
          · refine sgo ?_
            refine ⟨(), ⟨rfl, rfl, rfl, trivial⟩, ?_⟩
            rw [if_neg hc, decide_eq_false hc]
            exact hS
        clear hS
        rintro _ w10 ρ4 hS
        have hse : (r = [] ∨ r = [32, 47]) ↔ (if r = [32, 47] then [] else r) = [] := by
          by_cases h : r = [32, 47]
          · simp [h]
          · simp [h]
        simp only [hse] at hrd
        clear hse
        generalize (if r = [32, 47] then [] else r) = e at *
        generalize decide (r = [32, 47]) = sf at *
        have hst : Tok.small ⟨k, nm, tx, acc, sf, 0, 0, 0⟩ := ⟨hz1, hz2, hz3, hz4⟩
        refine sgo ?_
        refine wlcallgp (vals := [.agg ⟨Tok.cells ⟨k, nm, tx, acc, sf, 0, 0, 0⟩ q c⟩]) (fun _ => check_ok ⟨k, nm, tx, acc, sf, 0, 0, 0⟩ q c hst _ (hS.im 1 rfl)) fun w11 hf11 => ?_
        replace hS := hS.grow hf11
        clear hf11
        refine sgo ?_
        by_cases he : e = [] ∧ mayR ⟨k, nm, tx, acc, sf, 0, 0, 0⟩ = true
        · rw [if_pos he] at hrd
          refine wcno ?_ (ht := by simp [pkb, he.1, he.2])
          refine sgo ?_
          refine ssta (vs := Tok.cells ⟨k, nm, tx, acc, sf, 0, 0, 0⟩ q c) hS 3 fun w12 hS => ?_
          refine sgo ?_
          refine fpP (c := ⟨[], none⟩) (.inl rfl) ?_ rfl
          refine fpc (.inl rfl) rfl rfl rfl (hS.own 3 rfl) ?_
          exact ⟨⟨k, nm, tx, acc, sf, 0, 0, 0⟩, q, c, hrd.symm, rfl, e, ((hS.drop 3).drop 2).front 1 rfl⟩
        · rw [if_neg he] at hrd
          refine wcyes ?_ (ht := by
            by_cases h1 : e = []
            · have h2 : mayR ⟨k, nm, tx, acc, sf, 0, 0, 0⟩ = false := Bool.eq_false_iff.2 fun h => he ⟨h1, h⟩
              simp [pkb, h1, h2]
            · simp [pkb, h1])
          refine sgo ?_
          refine wlbuild ?_
          refine wlmki ?_ stop_conc
          refine wlpan ?_
          repeat (first | refine thn_panic ?_ | refine thl_panic ?_ | refine blk_panic ?_ | refine ngt_panic ?_)
          exact fpPan ⟨hrd.symm, rfl, e, ((hS.drop 3).drop 2).drop 1⟩ rfl
  · have hk : k = 5 := by omega
    subst hk
    clear hc
    have hrd' : R = none := hrd.symm
    refine sgo ?_
    refine wlbuild ?_
    refine wlmki ?_ stop_conc
    refine wlpan ?_
    repeat (first | refine thn_panic ?_ | refine thl_panic ?_ | refine blk_panic ?_ | refine ngt_panic ?_)
    exact fpPan ⟨hrd', rfl, s, hS.tail⟩ rfl
end Go.Proofs.YthgbpgjpnaanlaaGreatDoor

/-
  Interface values compared with nil; type assertions that hold.
-/
set_option linter.unusedSimpArgs false
set_option linter.unusedVariables false
set_option linter.unnecessarySimpa false
namespace Go.Sv
open Go Go.RowKit
section
variable {P : Program} {σ : Env} {w : World} {d : Option Tmp} {ty t t' T xt : TypeId} {pos : String} {af : Array Edge} {g : Option (Nat × Bool)} {x y : Operand} {v : Value}
theorem y_inn0 {desc : TypeDesc} (hu : P.underlying t = some desc) (hd : (match desc with | .interface _ => true | _ => false) = true) (hx : evl σ x = .nilIface) : Y P σ ⟨d, .binOp .neq t x (.const .nilIface) t', ty, pos, af, g⟩ w (.bool false) w := by
  refine Y.val ?_
  have h : ∀ k : Nat, (Op.equalIn (k + 1) t .nilIface .nilIface).run P w = .ok true w := fun k => by
    cases desc <;> first | (cases hd; done) | simp [Op.equalIn, run_underlying hu]
  have he : evl σ (.const .nilIface) = .nilIface := rfl
  simp only [execOp, hx, he]
  simp [eqGuard, binOp, Op.equal, Op.maxDepth, h 9999]
theorem y_inn1 {desc : TypeDesc} (hu : P.underlying t = some desc) (hd : (match desc with | .interface _ => true | _ => false) = true) (hx : evl σ x = .iface T v) : Y P σ ⟨d, .binOp .neq t x (.const .nilIface) t', ty, pos, af, g⟩ w (.bool true) w := by
  refine Y.val ?_
  have h : ∀ k : Nat, (Op.equalIn (k + 1) t (.iface T v) .nilIface).run P w = .ok false w := fun k => by
    cases desc <;> first | (cases hd; done) | simp [Op.equalIn, run_underlying hu]
  have he : evl σ (.const .nilIface) = .nilIface := rfl
  simp only [execOp, hx, he]
  simp [eqGuard, binOp, Op.equal, Op.maxDepth, h 9999]
theorem y_tas {desc : TypeDesc} (hu : P.underlying T = some desc) (hd : (match desc with | .interface _ => false | _ => true) = true) (hx : evl σ x = .iface T v) : Y P σ ⟨d, .typeAssert x xt T true, ty, pos, af, g⟩ w (.tuple #[v, .bool true]) w := by
  refine Y.val ?_
  have h : (Instr.typeAssert (.iface T v) xt T true).run P w = .ok (.tuple #[v, .bool true]) w := by
    cases desc <;> first | (cases hd; done) | simp [Instr.typeAssert, run_underlying hu]
  simp only [execOp, hx]
  rw [Sem.run_bind, h]
  rfl
end
end Go.Sv

/-
  Package token, reading: a line.
-/
set_option linter.unusedSimpArgs false
set_option linter.unusedVariables false
set_option linter.unnecessarySimpa false
namespace Go.Proofs.YthgbpgjpnaanlaaGreatDoor
open Go Go.Sv Go.RowKit

set_option maxHeartbeats 1000000 in
/-- the deferred function of line, where nothing has panicked -/
theorem line1_back (bt bo : Nat) (w : World) (R : Ending → FrameMode → World → Prop) (h : R (.returned (.tuple #[])) .returning w) :
    CallsDIn Fence.wide 0 Tryz.prog 89 #[ptrAt (pb bt) 0, ptrAt (pb bo) 0] .returning w R := by
  refine enterDR (l := [ptrAt (pb bt) 0, ptrAt (pb bo) 0]) (v := .nilIface) Tryz.func89 rfl Tryz.ntmps89 (by kernel_rfl) rfl rfl rfl rfl .returning ?_
  refine sgo ?_
  refine wl ?_ (y_inn0 Tryz.underlying20 rfl rfl)
  refine sgo ?_
  exact fpD0 (.inr rfl) rfl h
set_option maxHeartbeats 1000000 in
/-- .. and where it has -/
theorem line1_caught (bt bo : Nat) (w0 w : World) (cs : List Plot) (hS : Sep w0 w (pOwn bt zeroV :: pOwn bo [.bool false] :: cs)) (R : Ending → FrameMode → World → Prop)
    (h : ∀ w', Sep w0 w' (pOwn bt zeroV :: pOwn bo [.bool false] :: cs) → R (.returned (.tuple #[])) (.panicking [{ v := stopV, recovered := true }]) w') :
    CallsDIn Fence.wide 0 Tryz.prog 89 #[ptrAt (pb bt) 0, ptrAt (pb bo) 0] (.panicking stopE) w R := by
  refine enterDR (l := [ptrAt (pb bt) 0, ptrAt (pb bo) 0]) (v := stopV) Tryz.func89 rfl Tryz.ntmps89 (by kernel_rfl) rfl rfl rfl rfl (.panicking stopV []) ?_
  refine sgo ?_
  refine wl ?_ (y_inn1 Tryz.underlying20 rfl rfl)
  refine sgo ?_
  refine wl ?_ (y_tas Tryz.underlying138 rfl rfl)
  refine sgo ?_
  refine salloc hS fun b3 w1 hS => ?_
  refine sgo ?_
  refine ssta (vs := []) hS 0 fun w2 hS => ?_
  refine sgo ?_
  refine wlbuild ?_
  refine ssta (vs := zeroV) hS 1 (fun w3 hS => ?_) (hy := rfl)
  refine sgo ?_
  refine sst_bool hS 2 fun w4 hS => ?_
  refine sgo ?_
  refine fpD0 (.inr rfl) rfl (h _ hS.tail)
/-! ## line -/
set_option maxHeartbeats 1000000 in
theorem line_ok (s : List UInt8) (hb : s.length ≤ 16777216) (HS : lineS s) (w : World) :
    CallsR Tryz.prog 72 #[str s] w fun v w' => match readR s with
      | some t => ∃ p c, v = .tuple #[.agg ⟨Tok.cells t p c⟩, .bool true] ∧ Sep w w' [pRow 2 p t.attrs.length c (t.attrs.flatMap At.cells)]
      | none => v = .tuple #[.agg ⟨zeroV⟩, .bool false] ∧ Sep w w' [] := by
  have hS := Sep.start w
  refine enter (l := [str s]) Tryz.func72 rfl Tryz.ntmps72 (by kernel_rfl) rfl ?_
  refine sgo ?_
  refine salloc hS fun bt w1 hS => ?_
  refine sgo ?_
  refine salloc hS fun bo w2 hS => ?_
  replace hS : Sep w w2 [pOwn bo [.bool false], pOwn bt zeroV] := hS
  refine sgo ?_
  refine wldefer ?_
  refine sgo ?_
  refine wlbuild ?_
  refine sgo ?_
  refine sbox hS fun br w3 hS => ?_
  replace hS : Sep w w3 [pOwn br [str s], pOwn bo [.bool false], pOwn bt zeroV] := hS
  refine sgo ?_
  refine wlcallP (token_ok br s hb HS w _ _ hS) ?_ ?_
  · clear hS
    rintro _ w4 ⟨t, p, c, ht, rfl, s', hS⟩
    rw [ht]
    dsimp only
    refine sgo ?_
    refine ssta (vs := Tok.cells t p c) hS 3 fun w5 hS => ?_
    refine sgo ?_
    refine sst_bool hS 2 fun w6 hS => ?_
    refine sgo ?_
    refine fp_leave (.inl rfl) ?_
    refine leave_fv (cap := [ptrAt (pb bt) 0, ptrAt (pb bo) 0]) (by simp) ?_
    refine line1_back bt bo _ _ ?_
    refine leave_two (b1 := bt) (b2 := bo) (l := Tok.cells t p c) (v := .bool true) rfl rfl ⟨rfl, rfl⟩ (hS.own 3 rfl) (hS.own 2 rfl) ?_
    exact ⟨p, c, rfl, ((hS.drop 3).drop 2).drop 1⟩
  · clear hS
    rintro ch w4 ⟨hn, rfl, s', hS⟩
    rw [hn]
    dsimp only
    repeat (first | refine thn_panic ?_ | refine thl_panic ?_ | refine blk_panic ?_ | refine ngt_panic ?_)
    refine fp_panic ?_
    refine leave_fv (cap := [ptrAt (pb bt) 0, ptrAt (pb bo) 0]) (by simp) ?_
    refine line1_caught bt bo w w4 [] ((hS.tail).front 1 rfl) _ fun w5 hS => ?_
    refine leave_two (b1 := bt) (b2 := bo) (l := zeroV) (v := .bool false) rfl rfl ⟨rfl, rfl⟩ (hS.own 0 rfl) (hS.own 1 rfl) ?_
    exact ⟨rfl, hS.tail.tail⟩
end Go.Proofs.YthgbpgjpnaanlaaGreatDoor

/-
  Packages token and sieveref07: Equal, Attr, SameAttrs; sievelaw07: TokenChecks.
-/
set_option linter.unusedSimpArgs false
set_option linter.unusedVariables false
set_option linter.unnecessarySimpa false
namespace Go.Proofs.YthgbpgjpnaanlaaGreatDoor
open Go Go.Sv Go.RowKit

def eqR (a b : Tok) : Bool := decide (a.kind = b.kind) && (decide (a.name = b.name) && (decide (a.text = b.text) && (decide (a.self = b.self) && decide (a.attrs = b.attrs))))
def attrR (es : List At) (n : List UInt8) : Option At := es.find? fun x => decide (x.n = n)
def attrV (o : Option At) : Value := match o with | some x => .tuple #[str x.v, .bool true] | none => .tuple #[str [], .bool false]










































end Go.Proofs.YthgbpgjpnaanlaaGreatDoor

/-
  Tokens in memory of one's own: copied, own, Same, spoil.
-/
set_option linter.unusedSimpArgs false
set_option linter.unusedVariables false
set_option linter.unnecessarySimpa false
namespace Go.Proofs.YthgbpgjpnaanlaaGreatDoor
open Go Go.Sv Go.RowKit

/-- a token's attributes in memory of one's own -/
def AtR (w : World) (lo : Nat) (m : TokM) : Prop := Row w 2 m.p m.t.attrs.length m.c (m.t.attrs.flatMap At.cells) ∧ ∀ x ∈ rb m.p, lo ≤ x
theorem AtR.frm {w w' : World} {lo : Nat} {m : TokM} (h : AtR w lo m) (hf : Frm w w') : AtR w' lo m := ⟨h.1.frm hf, h.2⟩
theorem AtR.im {w : World} {lo : Nat} {m : TokM} (h : AtR w lo m) : Im [] w m.p (m.t.attrs.flatMap At.cells) := h.1.im (by simp)
/-- the blocks of a list of tokens -/
def tbl (q : Option Addr) (ms : List TokM) : List Nat := rb q ++ ms.flatMap fun m => rb m.p
/-- a list of tokens in memory of one's own -/
structure TL (w : World) (lo : Nat) (q : Option Addr) (cc : Nat) (ms : List TokM) : Prop where
  row : Row w 8 q ms.length cc (ms.flatMap TokM.cells)
  low : ∀ x ∈ rb q, lo ≤ x
  each : ∀ m ∈ ms, AtR w lo m
  apart : ∀ m ∈ ms, ∀ x ∈ rb m.p, x ∉ rb q
  pair : ms.Pairwise fun a b => ∀ x ∈ rb a.p, x ∉ rb b.p
theorem TL.nil (w : World) (lo : Nat) : TL w lo none 0 [] := ⟨Row.nil w 8, by simp [rb], by simp, by simp, .nil⟩
theorem TL.toks {w : World} {lo : Nat} {q : Option Addr} {cc : Nat} {ms : List TokM} (h : TL w lo q cc ms) : Toks w q ms := ⟨h.row.im (by simp), fun m hm => (h.each m hm).im⟩
theorem TL.frm {w w' : World} {lo : Nat} {q : Option Addr} {cc : Nat} {ms : List TokM} (h : TL w lo q cc ms) (hf : Frm w w') : TL w' lo q cc ms :=
  ⟨h.row.frm hf, h.low, fun m hm => (h.each m hm).frm hf, h.apart, h.pair⟩
theorem TL.lt {w : World} {lo : Nat} {q : Option Addr} {cc : Nat} {ms : List TokM} (h : TL w lo q cc ms) : ∀ x ∈ tbl q ms, lo ≤ x ∧ x < w.heap.size := by
  intro x hx
  rcases List.mem_append.1 hx with hx | hx
  · exact ⟨h.low x hx, h.row.lt x hx⟩
  · obtain ⟨m, hm, hx⟩ := List.mem_flatMap.1 hx
    exact ⟨(h.each m hm).2 x hx, (h.each m hm).1.lt x hx⟩
theorem TL.le {w w' : World} {lo : Nat} {q : Option Addr} {cc : Nat} {ms : List TokM} {M : List Nat} (h : TL w lo q cc ms) (hl : Le M w w') (hM : ∀ x ∈ tbl q ms, x ∉ M) : TL w' lo q cc ms :=
  ⟨h.row.le hl fun x hx => hM x (List.mem_append_left _ hx), h.low,
   fun m hm => ⟨(h.each m hm).1.le hl fun x hx => hM x (List.mem_append_right _ (List.mem_flatMap.2 ⟨m, hm, hx⟩)), (h.each m hm).2⟩, h.apart, h.pair⟩
/-- one more at the end -/
theorem TL.push {w w' : World} {lo : Nat} {q q' : Option Addr} {cc cc' : Nat} {ms : List TokM} {m : TokM} (h : TL w lo q cc ms) (hm : AtR w lo m) (hap : ∀ x ∈ rb m.p, x ∉ tbl q ms)
    (hr : Row w' 8 q' (ms.length + 1) cc' (ms.flatMap TokM.cells ++ m.cells)) (hl : Lm (rb q) w (rb q') w') (hlo : lo ≤ w.heap.size) : TL w' lo q' cc' (ms ++ [m]) := by
  have hq : ∀ x ∈ rb q', x ∈ rb q ∨ w.heap.size ≤ x := fun x hx => by
    rcases Nat.lt_or_ge x w.heap.size with h1 | h1
    · exact .inl (hl.2 x hx h1)
    · exact .inr h1
  have hapq : ∀ m' : TokM, AtR w lo m' → (∀ x ∈ rb m'.p, x ∉ rb q) → AtR w' lo m' ∧ ∀ x ∈ rb m'.p, x ∉ rb q' := fun m' h1 h2 =>
    ⟨⟨h1.1.le hl.1 h2, h1.2⟩, fun x hx hx' => by
      rcases hq x hx' with h3 | h3
      · exact h2 x hx h3
      · have := h1.1.lt x hx; omega⟩
  have hm2 := hapq m hm fun x hx hx' => hap x hx (List.mem_append_left _ hx')
  refine ⟨by simpa [List.flatMap_append] using hr, ?_, ?_, ?_, ?_⟩
  · intro x hx
    rcases hq x hx with h1 | h1
    · exact h.low x h1
    · omega
  · intro m' hm'
    rcases List.mem_append.1 hm' with h1 | h1
    · exact (hapq m' (h.each m' h1) (h.apart m' h1)).1
    · rw [List.mem_singleton.1 h1]; exact hm2.1
  · intro m' hm'
    rcases List.mem_append.1 hm' with h1 | h1
    · exact (hapq m' (h.each m' h1) (h.apart m' h1)).2
    · rw [List.mem_singleton.1 h1]; exact hm2.2
  · rw [List.pairwise_append]
    refine ⟨h.pair, List.pairwise_singleton _ _, fun a ha b hb x hx hx' => ?_⟩
    rw [List.mem_singleton.1 hb] at hx'
    exact hap x hx' (List.mem_append_right _ (List.mem_flatMap.2 ⟨a, ha, hx⟩))







































theorem tok_one (t : Tok) (p : Option Addr) (c : Nat) : ∀ u ∈ t.cells p c, u.oneCell' = true := by simp [Tok.cells, Value.oneCell']
theorem small_of {ms : List TokM} (h : ∀ m ∈ ms, m.t.small) {m : TokM} {i : Nat} (hx : ms[i]? = some m) : m.t.small := h m (List.mem_of_getElem? hx)


















































































end Go.Proofs.YthgbpgjpnaanlaaGreatDoor

