/-
  Our texts SvGen, SvEvU, SvEvV, SvEcA, SvEd, SvGb, SvWk, SvGc, SvWl, SvJn, SvPt, SvEvT, SvPu, SvCtx, SvWm, SvPost, SvOpen, SvOpnAt, SvOpn18, SvOpn18c, SvOpnB, SvOpn, SvAsc, joined.
-/
import Derived.Test.YthgbpgjpnaanlaaDoorMg4
import Derived.ChangeSame
import Derived.Test.YthgbpgjpnaanlaaDoorRows
import Derived.WalkKit
import Derived.ProofKit
import Derived.OpenShut
import Derived.JoinedCond
import Derived.Deep.Slices
import Derived.WideKeyArgs
import Derived.Lib.LaidTab
import Derived.Deep.DeepHandedRow
import Derived.Deep.DeepWitnessRowRef
/-
  Regions that draw their order, whatever they make: by a plan that says of each operation what it yields, makes and takes.
-/
set_option linter.unusedSimpArgs false
set_option linter.unusedVariables false
set_option linter.unnecessarySimpa false
namespace Go.Sv
open Go Go.RowKit

theorem Sep.perm {w0 w : World} {cs ds : List Plot} (h : Sep w0 w cs) (hp : cs.Perm ds) : Sep w0 w ds :=
  ⟨h.frm, fun c hc => h.ok c (hp.mem_iff.2 hc), fun c hc => h.low c (hp.mem_iff.2 hc), hp.pairwise h.apart fun h x hx hx' => h x hx' hx⟩
theorem filter_insert {α : Type} [DecidableEq α] {k : α} {q : α → Bool} (hq : q k = false) : ∀ {l : List α}, l.Nodup → k ∈ l → (l.filter fun j => decide (j = k) || q j).Perm (k :: l.filter q)
  | [], _, h => by cases h
  | x :: l, hn, hm => by
    rw [List.nodup_cons] at hn
    by_cases e : x = k
    · subst e
      have hrest : l.filter (fun j => decide (j = x) || q j) = l.filter q := by
        refine List.filter_congr fun j hj => ?_
        have : j ≠ x := fun h => hn.1 (h ▸ hj)
        simp [this]
      simp only [List.filter_cons, decide_true, Bool.true_or, if_true, hq, Bool.false_eq_true, if_false, hrest]
      exact List.Perm.refl _
    · have hm' : k ∈ l := by
        rcases List.mem_cons.1 hm with h | h
        · exact absurd h.symm e
        · exact h
      have ih := filter_insert hq hn.2 hm'
      simp only [List.filter_cons, decide_eq_false e, Bool.false_or]
      cases q x with
      | false => simpa using ih
      | true => simpa using (ih.cons x).trans (List.Perm.swap k x _)

structure Plan (D : Type) where
  val : Nat → D → Value
  pl : Nat → D → List Plot
  con : Nat → Option Nat
  fact : Nat → (Nat → D) → Prop
section
variable {D : Type}
def setD (a : Nat → D) (k : Nat) (d : D) : Nat → D := fun j => if j = k then d else a j
theorem setD_same (a : Nat → D) (k : Nat) (d : D) : setD a k d k = d := if_pos rfl
theorem setD_ne (a : Nat → D) {k j : Nat} (d : D) (h : j ≠ k) : setD a k d j = a j := if_neg h
def Plan.live (p : Plan D) (L : Nat → Bool) (j : Nat) : Bool := L j && (match p.con j with | some c => !L c | none => true)
def Plan.mem (p : Plan D) (n : Nat) (L : Nat → Bool) (a : Nat → D) : List Plot := ((List.range n).filter (p.live L)).flatMap fun j => p.pl j (a j)
/-- what operation k takes -/
def Plan.takes (p : Plan D) (n k : Nat) (a : Nat → D) : List Plot := ((List.range n).filter fun j => decide (p.con j = some k)).flatMap fun j => p.pl j (a j)
def Plan.S (p : Plan D) (w0 : World) (cs : List Plot) (σ0 : Env) (ops : List Oper) (L : Nat → Bool) (σ : Env) (w : World) : Prop :=
  (∀ s, (∀ (k : Nat) (o : Oper), ops[k]? = some o → o.dst ≠ some s) → σ s = σ0 s) ∧
  ∃ a : Nat → D, (∀ (k : Nat) (o : Oper), ops[k]? = some o → L k = true → (∀ d, o.dst = some d → σ d = p.val k (a k)) ∧ p.fact k a) ∧ Sep w0 w (p.mem ops.length L a ++ cs)
/-- how operation k goes, by the plan -/
def Plan.Rule (p : Plan D) (P : Program) (w0 : World) (cs : List Plot) (σ0 : Env) (ops : List Oper) (k : Nat) (o : Oper) : Prop :=
  ∀ (a : Nat → D) (σ : Env) (w : World) (rest : List Plot), (∀ s, (∀ (k : Nat) (o : Oper), ops[k]? = some o → o.dst ≠ some s) → σ s = σ0 s) →
    (∀ (j : Nat) (oj : Oper), bindsOn o j = true → ops[j]? = some oj → (∀ d, oj.dst = some d → σ d = p.val j (a j)) ∧ p.fact j a) → Sep w0 w (p.takes ops.length k a ++ (cs ++ rest)) →
    (Region.wanted o (yl ops.toArray σ) = true ∧ comes P (fun v w' => ∃ d, v = p.val k d ∧ p.fact k (setD a k d) ∧ Sep w0 w' (p.pl k d ++ (cs ++ rest))) ((execOp (evl σ) o).run P w)) ∨
    (Region.wanted o (yl ops.toArray σ) = false ∧ ∃ d, undef = p.val k d ∧ p.fact k (setD a k d) ∧ Sep w0 w (p.pl k d ++ (cs ++ rest)))
def Plan.Rules (p : Plan D) (P : Program) (w0 : World) (cs : List Plot) (σ0 : Env) (ops : List Oper) : Nat → List Oper → Prop
  | _, [] => True
  | k, o :: l => p.Rule P w0 cs σ0 ops k o ∧ p.Rules P w0 cs σ0 ops (k + 1) l
/-- the plan's book-keeping: whoever takes waits; targets differ -/
def planB (con : Nat → Option Nat) (ops : List Oper) : Bool :=
  (List.range ops.length).all fun j => (match con j with
    | some c => decide (c < ops.length) && (match ops[c]? with | some oc => bindsOn oc j | none => false)
    | none => true) && (List.range ops.length).all fun i => decide (i = j) || (match ops[i]?, ops[j]? with
      | some oi, some oj => (match oi.dst with | some d => decide (oj.dst ≠ some d) | none => true)
      | _, _ => true)
theorem comes_mono {P : Program} {T T' : Value → World → Prop} (h : ∀ v w, T v w → T' v w) : ∀ {r : Result Next}, comes P T r → comes P T' r := by
  intro r hr
  unfold comes at *
  split at hr
  · exact h _ _ hr
  · exact h _ _ hr
  · exact Calls.mono hr fun e w ⟨v, he, hv⟩ => ⟨v, he, h _ _ hv⟩
  · exact hr.elim
end
end Go.Sv
namespace Go.Sv
open Go Go.RowKit
theorem frameOf {σ : Env} (sl : List (Nat × Value)) (h : Has σ sl) : σ = real (updGL (lif σ) sl) := by rw [← real_updL, updL_has h]
theorem notDst {ops : List Oper} {s : Nat} (h : (ops.all fun o => decide (o.dst ≠ some s)) = true) : ∀ (k : Nat) (o : Oper), ops[k]? = some o → o.dst ≠ some s := fun k o hk =>
  of_decide_eq_true (List.all_eq_true.1 h o (List.mem_of_getElem? hk))
section
variable {D : Type} {P : Program} {w0 w w' : World} {cs rest : List Plot} {σ : Env} {d : Option Tmp} {op : Op} {ty : TypeId} {pos : String} {af : Array Edge} {v : Value} {k : Nat} {ops : Array Oper} {T : Value → World → Prop}
/-- an operation of a plan, that has no guard -/
theorem rule_y {B : Prop} {o : Oper} (hy : Y P σ o w v w') (hT : T v w') (hg : o.guard = none := by rfl) :
    (Region.wanted o (yl ops σ) = true ∧ comes P T ((execOp (evl σ) o).run P w)) ∨ B := .inl ⟨by simp [Region.wanted, hg], comes_of_Y hy hT⟩
theorem rule_call {B : Prop} {f : FuncId} [hf : Fnc P f] {args : List Operand} {ats : Array TypeId} {vals : List Value} {R : Value → World → Prop} (hc : CallsR P f vals.toArray w R) (hT : ∀ v w', R v w' → T v w') (ha : args.map (evl σ) = vals) :
    (Region.wanted (⟨d, .call ⟨.value (.func f), args.toArray, ats⟩, ty, pos, af, none⟩ : Oper) (yl ops σ) = true ∧ comes P T ((execOp (evl σ) ⟨d, .call ⟨.value (.func f), args.toArray, ats⟩, ty, pos, af, none⟩).run P w)) ∨ B := by
  refine .inl ⟨by simp [Region.wanted], ?_⟩
  rw [run_call_func]
  have : (args.toArray.map (evl σ)) = vals.toArray := by rw [← ha]; simp
  rw [this]
  exact Calls.mono hc fun e w'' ⟨v, he, hv⟩ => ⟨v, he, hT v w'' hv⟩
variable {t t' e e' : TypeId} {x y : Operand} {zv u : Value} {size bytes i m n c c' : Nat} {p q : Option Addr} {xs news vs : List Value}
/-- a slice written out, of one struct: its piece -/
theorem y_bs1 [hu : Und P t (.slice e)] [hi : Inf P e zv size bytes] (hS : Sep w0 w cs) (hx : evl σ x = .agg ⟨vs⟩) (hv : vs.length = size) (hz : zv.cells.size = size) (hsz : 0 < size) (hm : size ≤ 16777216) :
    ∃ b w', Y P σ ⟨d, .buildSlice t 1 #[(0, x)], ty, pos, af, none⟩ w (.slice (pb b) 1 1) w' ∧ Sep w0 w' (pOwn b vs :: cs) := by
  refine ⟨w.heap.size, w.alloc (.cells ⟨vs⟩ e), Y.val ?_, hS.push (frm_alloc _ _) (own_alloc _ _ _) (by simp [pOwn])⟩
  simp only [execOp, List.map_toArray, List.map_cons, List.map_nil, hx, Sem.run_bind]
  rw [run_buildSlice1 (P := P) (t := t) (e := e) hz (by simpa [Value.cells] using hv) hsz hm]
  rfl
/-- append to the i-th piece -/
theorem y_app [hu : Und P t (.slice e)] [hu' : Und P t' (.slice e')] [hi : Inf P e zv size bytes] (hS : Sep w0 w cs) (i : Nat) (hs : Sg w q news) (hc : cs[i]? = some (pRow size p m c xs)) (hx : evl σ x = .slice p m c) (hy : evl σ y = .slice q n c') (hl : news.length = n * size)
    (h1 : ∀ u ∈ news, u.oneCell' = true) (hz : zv.cells.size = size) (hsz : 0 < size) (hb : (m + n) * bytes ≤ 140737488355328 ∧ m + n ≤ 9223372036854775807) :
    ∃ p' c2 w', Y P σ ⟨d, .call ⟨.builtin .append, #[x, y], #[t, t']⟩, ty, pos, af, none⟩ w (.slice p' (m + n) c2) w' ∧ Sep w0 w' (cs.set i (pRow size p' (m + n) c2 (xs ++ news))) := by
  obtain ⟨p', c2, w', h2, h3, h4⟩ := run_append_row (P := P) (t := t) (tx := t') (ty := ty) (e := e) hz hsz (hS.row i hc) (src_of_sg (tx := t') (c := c') hs hl h1) hb.2 hb.1
  exact ⟨p', c2, w', run_append_op hx hy h2, hS.upd i hc h4 h3⟩
end
end Go.Sv

/-
  Package event: Equal, Count, Text.
-/
set_option linter.unusedSimpArgs false
set_option linter.unusedVariables false
set_option linter.unnecessarySimpa false
namespace Go.Sv
open Go Go.RowKit
section
variable {P : Program} {w : World}
variable {σ : Env} {d : Option Tmp} {ty t t' el : TypeId} {pos : String} {af : Array Edge} {g : Option (Nat × Bool)} {x y : Operand} {zv : Value} {bytes : Nat}
end
end Go.Sv
namespace Go.Proofs.YthgbpgjpnaanlaaDoor
open Go Go.Sv Go.RowKit

end Go.Proofs.YthgbpgjpnaanlaaDoor

/-
  Package event: Count, Text.
-/
set_option linter.unusedSimpArgs false
set_option linter.unusedVariables false
set_option linter.unnecessarySimpa false
namespace Go.Proofs.YthgbpgjpnaanlaaDoor
open Go Go.Sv Go.RowKit

def cntR (l : List Ev) (k : Int) : Nat := l.countP fun e => decide (e.kind = k)
/-- how many of each kind -/
def cnts (l : List Ev) : List Value := [int (cntR l 0), int (cntR l 1), int (cntR l 2), int (cntR l 3)]
/-- all text in one -/
def etxt (e : Ev) : List UInt8 := if e.kind = 0 then mendR e.text else []
def textR (l : List Ev) : List UInt8 := l.flatMap etxt
end Go.Proofs.YthgbpgjpnaanlaaDoor

/-
  sievelaw18: EventChecks.
-/
set_option linter.unusedSimpArgs false
set_option linter.unusedVariables false
set_option linter.unnecessarySimpa false
namespace Go.Sv
open Go Go.RowKit
section
variable {D : Type} {P : Program} {w0 w w' : World} {cs rest : List Plot} {σ : Env} {d : Option Tmp} {dd dj : Nat} {op : Op} {ty : TypeId} {pos : String} {af : Array Edge} {v : Value} {k j : Nat} {want : Bool} {ops : Array Oper} {T : Value → World → Prop} {B : Prop}
theorem wanted_at {o : Oper} (hg : o.guard = some (j, want)) (hj : (ops[j]?).bind (·.dst) = some dj) (hv : σ dj = .bool want) : Region.wanted o (yl ops σ) = true := by
  unfold Region.wanted yl
  rw [hg]
  simp only [hj, hv]
  cases want <;> rfl
/-- an operation of a plan under a guard that holds -/
theorem rule_yg {o : Oper} (hy : Y P σ o w v w') (hT : T v w') (hv : σ dj = .bool want) (hg : o.guard = some (j, want) := by rfl) (hj : (ops[j]?).bind (·.dst) = some dj := by rfl) :
    (Region.wanted o (yl ops σ) = true ∧ comes P T ((execOp (evl σ) o).run P w)) ∨ B := .inl ⟨wanted_at hg hj hv, comes_of_Y hy hT⟩
theorem y_ev (sl : List (Nat × Value)) (hs : Has σ sl) {g : Option (Nat × Bool)} (he : ev1 (updGL (lif σ) sl) op = some ⟨v, true⟩) : Y P σ ⟨d, op, ty, pos, af, g⟩ w v w := by
  have hy : Y P (real (updGL (lif σ) sl)) ⟨d, op, ty, pos, af, g⟩ w v w := ev1_ok he rfl
  rw [← frameOf sl hs] at hy
  exact hy
/-- one that only looks at what is known -/
theorem rule_e (sl : List (Nat × Value)) (hs : Has σ sl) (hT : T v w) (he : ev1 (updGL (lif σ) sl) op = some ⟨v, true⟩ := by rfl) :
    (Region.wanted (⟨d, op, ty, pos, af, none⟩ : Oper) (yl ops σ) = true ∧ comes P T ((execOp (evl σ) ⟨d, op, ty, pos, af, none⟩).run P w)) ∨ B := rule_y (y_ev sl hs he) hT
theorem rule_eg (sl : List (Nat × Value)) (hs : Has σ sl) (hT : T v w) (hv : σ dj = .bool want) (he : ev1 (updGL (lif σ) sl) op = some ⟨v, true⟩ := by rfl) (hj : (ops[j]?).bind (·.dst) = some dj := by rfl) :
    (Region.wanted (⟨d, op, ty, pos, af, some (j, want)⟩ : Oper) (yl ops σ) = true ∧ comes P T ((execOp (evl σ) ⟨d, op, ty, pos, af, some (j, want)⟩).run P w)) ∨ B := rule_yg (y_ev sl hs he) hT hv rfl hj
theorem rule_callg {f : FuncId} [hf : Fnc P f] {args : List Operand} {ats : Array TypeId} {vals : List Value} {R : Value → World → Prop} (hc : CallsR P f vals.toArray w R) (hT : ∀ v w', R v w' → T v w') (ha : args.map (evl σ) = vals) (hv : σ dj = .bool want) (hj : (ops[j]?).bind (·.dst) = some dj := by rfl) :
    (Region.wanted (⟨d, .call ⟨.value (.func f), args.toArray, ats⟩, ty, pos, af, some (j, want)⟩ : Oper) (yl ops σ) = true ∧ comes P T ((execOp (evl σ) ⟨d, .call ⟨.value (.func f), args.toArray, ats⟩, ty, pos, af, some (j, want)⟩).run P w)) ∨ B := by
  refine .inl ⟨wanted_at rfl hj hv, ?_⟩
  rw [run_call_func]
  have : (args.toArray.map (evl σ)) = vals.toArray := by rw [← ha]; simp
  rw [this]
  exact Calls.mono hc fun e w'' ⟨v, he, hv⟩ => ⟨v, he, hT v w'' hv⟩
theorem rule_pureg {f : FuncId} [hf : Fnc P f] {args : List Operand} {ats : Array TypeId} {vals : List Value} (hc : PureC P f vals.toArray w v) (hT : ∀ w', Frm w w' → T v w') (ha : args.map (evl σ) = vals) (hv : σ dj = .bool want) (hj : (ops[j]?).bind (·.dst) = some dj := by rfl) :
    (Region.wanted (⟨d, .call ⟨.value (.func f), args.toArray, ats⟩, ty, pos, af, some (j, want)⟩ : Oper) (yl ops σ) = true ∧ comes P T ((execOp (evl σ) ⟨d, .call ⟨.value (.func f), args.toArray, ats⟩, ty, pos, af, some (j, want)⟩).run P w)) ∨ B :=
  rule_callg (R := fun u w' => u = v ∧ Frm w w') hc (fun _ w' h => h.1 ▸ hT w' h.2) ha hv hj
end
end Go.Sv
namespace Go.Proofs.YthgbpgjpnaanlaaDoor
open Go Go.Sv Go.RowKit

structure CkD where
  q : Option Addr
  c : Nat
  ns : List EvM
def ckP (ms ns : List EvM) (p q : Option Addr) (c cc : Nat) : Plan CkD where
  val k d := match k with
    | 0 | 3 | 8 | 9 | 14 | 20 => .slice p ms.length c
    | 1 | 4 => .slice q ns.length cc
    | 2 | 5 => .bool (decide (evs ms = evs ns))
    | 10 => .slice d.q d.ns.length d.c
    | 15 | 16 => .agg ⟨cnts (evs ms)⟩
    | 21 | 22 => str (textR (evs ms))
    | _ => .bool true
  pl k d := match k with
    | 10 => [pRow 4 d.q d.ns.length d.c (d.ns.flatMap EvM.cells), pMany (d.ns.map EvM.row)]
    | _ => []
  con k := match k with
    | 10 => some 11
    | _ => none
  fact k a := match k with
    | 10 => evs (a 10).ns = evs ms
    | _ => True
end Go.Proofs.YthgbpgjpnaanlaaDoor

/-
  Package event: Trim; sieveref18: Trim.
-/
set_option linter.unusedSimpArgs false
set_option linter.unusedVariables false
set_option linter.unnecessarySimpa false
namespace Go.Sv
open Go Go.RowKit
end Go.Sv
namespace Go.Proofs.YthgbpgjpnaanlaaDoor
open Go Go.Sv Go.RowKit

def opnE (e : Ev) (o : Int) : Int := if e.kind = 1 then o + 1 else if e.kind = 2 then o - 1 else o
def arndE (e : Ev) (o : Int) : Int := if e.kind = 2 then o - 1 else o
/-- does an event stay? -/
def keepE (d o : Int) (e : Ev) : Bool := if e.kind = 0 then decide (arndE e o ≤ d) else decide (arndE e o < d)
def trM (d : Int) (ms : List EvM) : Int × List EvM := ms.foldl (fun s m => (opnE m.e s.1, if keepE d s.1 m.e then s.2 ++ [m] else s.2)) (0, [])
def trI (d : Int) (ms : List EvM) (i : Nat) : Int × List EvM := trM d (ms.take i)
def trimC (d : Int) (k : Lk) : Int := if d < 0 then 1 else k.err
end Go.Proofs.YthgbpgjpnaanlaaDoor

/-
  Regions that draw their order, by a plan, where operations may also take (and write) what lay there before.
-/
set_option linter.unusedSimpArgs false
set_option linter.unusedVariables false
set_option linter.unnecessarySimpa false
namespace Go.Sv
open Go Go.RowKit
theorem perm5 {α : Type} (A B C D E : List α) : ((A ++ B) ++ ((C ++ D) ++ E)).Perm (A ++ (C ++ (E ++ (B ++ D)))) := by
  simp only [List.append_assoc]
  refine List.Perm.append_left _ ?_
  have h1 : (B ++ (C ++ (D ++ E))).Perm (C ++ (B ++ (D ++ E))) := by
    rw [← List.append_assoc B C, ← List.append_assoc C B]
    exact List.perm_append_comm.append_right _
  refine h1.trans (List.Perm.append_left _ ?_)
  rw [← List.append_assoc]
  exact List.perm_append_comm
theorem perm4 {α : Type} (A B C D : List α) : (A ++ (B ++ (C ++ D))).Perm ((A ++ C) ++ (D ++ B)) := by
  simp only [List.append_assoc]
  refine List.Perm.append_left _ ?_
  have h1 : (B ++ (C ++ D)).Perm ((C ++ D) ++ B) := List.perm_append_comm
  rw [List.append_assoc] at h1
  exact h1
theorem perm6 {α : Type} (A B C S D E : List α) : ((A ++ B) ++ ((C ++ (S ++ D)) ++ E)).Perm (A ++ (C ++ (S ++ (E ++ (B ++ D))))) := by
  refine (perm5 A B C (S ++ D) E).trans (List.Perm.append_left _ (List.Perm.append_left _ ?_))
  have h1 : (E ++ (B ++ (S ++ D))) = ((E ++ B) ++ S) ++ D := by simp only [List.append_assoc]
  have h2 : (S ++ (E ++ (B ++ D))) = (S ++ (E ++ B)) ++ D := by simp only [List.append_assoc]
  rw [h1, h2]
  exact List.perm_append_comm.append_right _
theorem perm7 {α : Type} (A S B C D : List α) : (A ++ (S ++ (B ++ (C ++ D)))).Perm ((A ++ C) ++ ((S ++ D) ++ B)) := by
  have h1 : (A ++ (S ++ (B ++ (C ++ D)))) = (A ++ ((S ++ B) ++ (C ++ D))) := by simp only [List.append_assoc]
  rw [h1]
  refine (perm4 A (S ++ B) C D).trans (List.Perm.append_left _ ?_)
  have h2 : (S ++ D) ++ B = S ++ (D ++ B) := by simp only [List.append_assoc]
  rw [h2]
  have h3 : D ++ (S ++ B) = (D ++ S) ++ B := by simp only [List.append_assoc]
  have h4 : S ++ (D ++ B) = (S ++ D) ++ B := by simp only [List.append_assoc]
  rw [h3, h4]
  exact List.perm_append_comm.append_right _
section
variable {P : Program} {n : Nat} {ds : Ctx} {Q : Exit → Ctx → Env → World → Prop} {S : (Nat → Bool) → Env → World → Prop} {σ : Env} {w : World} {m : Nat}
theorem wpOpIn_of_I {ops : Array Oper} {dd : List Deferred} {Q' : Exit → Act → World → Prop} {T : Value → World → Prop} {K : Act → World → Prop} {i : Nat} {o : Oper} {ro : Option Nat} (hino : operIn n ro.isSome ops o = true) (ho : ops[i]? = some o)
    (h : (Region.wanted o (yl ops σ) = true ∧ comes P T ((execOp (evl σ) o).run P w)) ∨ (Region.wanted o (yl ops σ) = false ∧ T undef w))
    (next : ∀ v w', T v w' → K ((act n dd σ).put o.dst v) w') : wpOpIn (fen ro) m P ops Q' i K (act n dd σ) w := by
  unfold wpOpIn
  simp only [ho]
  rw [act_yielded hino]
  rcases h with ⟨hw, hy⟩ | ⟨hw, hy⟩
  · rw [hw, if_pos rfl]
    refine ⟨fun _ _ => fen_fn _ _, ?_⟩
    rw [fen_round, semAt_in hino, act_exec hino]
    generalize (execOp (evl σ) o).run P w = r at *
    cases r with
    | ok x w' =>
      cases x <;> simp only [comes] at hy <;> simp only [Oper.uponIn]
      case value u => exact next _ _ hy
      case skip => exact next _ _ hy
      case enter g args =>
        refine ⟨fun h => (by rw [fen_depth] at h; cases h), callsIn_fen (Calls.mono hy ?_)⟩
        rintro e w'' ⟨v, rfl, h2⟩
        exact next _ _ h2
    | halt x w' => simp only [comes] at hy
  · rw [hw, if_neg Bool.false_ne_true]
    exact ⟨fun _ _ => fen_fn _ _, next _ _ hy⟩
theorem wpAnyIn_of_I {ops : Array Oper} {dd : List Deferred} {Q' : Exit → Act → World → Prop} {ro : Option Nat} (hf : fwdB ops = true) (hin : ops.toList.all (operIn n ro.isSome ops) = true) (hop : ∀ k o, ops[k]? = some o → StepI P ops S k o)
    (hQ : ∀ L σ w, (∀ k, k < ops.size → L k = true) → S L σ w → Q' .normal (act n dd σ) w) :
    ∀ (f : Nat) (listed : Array Bool) (σ : Env) (w : World), listed.size = ops.size → Clo ops (fl listed) → listed.toList.count false ≤ f → S (fl listed) σ w → wpAnyIn (fen ro) m P .any ops Q' f listed (act n dd σ) w
  | 0, listed, σ, w, hsz, _, hc, hS => by
    have hall : ∀ k, k < ops.size → fl listed k = true := by
      intro k hk
      cases hL : fl listed k with
      | true => rfl
      | false =>
        exfalso
        simp only [fl, Array.getD_eq_getD_getElem?, show k < listed.size from by omega, Array.getElem?_eq_getElem, Option.getD_some] at hL
        have : false ∈ listed.toList := by rw [← hL]; simp
        have := List.count_pos_iff.2 this
        omega
    refine ⟨?_, hQ _ _ _ hall hS⟩
    cases hr : Region.ready .any ops listed with
    | nil => rfl
    | cons i r =>
      exfalso
      have hi : i ∈ Region.ready .any ops listed := by rw [hr]; exact List.mem_cons_self
      obtain ⟨h0, o, ho, _⟩ := mem_ready.1 hi
      have hk : i < ops.size := (Array.getElem?_eq_some_iff.1 ho).1
      have := hall i hk
      simp only [fl, Array.getD_eq_getD_getElem?, show i < listed.size from by omega, Array.getElem?_eq_getElem, Option.getD_some] at this h0
      rw [this] at h0
      cases h0
  | f + 1, listed, σ, w, hsz, hcl, hc, hS => by
    refine ⟨fun hr => hQ _ _ _ (ready_of_fwd hf hsz hr) hS, fun i hi => ?_⟩
    obtain ⟨h0, o, ho, hall⟩ := mem_ready.1 hi
    have hio : i < ops.size := (Array.getElem?_eq_some_iff.1 ho).1
    have hlt : i < listed.size := by omega
    have h0' : listed[i] = false := by simpa [hlt] using h0
    have hup : Up ops o i (fl listed) := by
      refine ⟨by simp [fl, hlt, h0'], ?_, ?_⟩
      · intro j hj
        obtain ⟨e, he, hb, rfl⟩ := bindsOn_iff.1 hj
        exact hall e he hb
      · intro j oj hj hb
        cases hL : fl listed j with
        | false => rfl
        | true =>
          have h1 := hcl j oj hj hL i hb
          have h2 : fl listed i = true := h1
          simp [fl, hlt, h0'] at h2
    have hino : operIn n ro.isSome ops o = true := by
      rw [List.all_eq_true] at hin
      exact hin o (by simpa using Array.mem_of_getElem? ho)
    refine wpOpIn_of_I hino ho (hop i o ho _ σ w hup hS) fun v w' hw' => ?_
    rw [act_put (operIn_dst hino)]
    refine wpAnyIn_of_I hf hin hop hQ f _ _ _ (by simpa using hsz) (by rw [fl_set hlt]; exact clo_on hcl ho hup.did) ?_ (by rw [fl_set hlt]; exact hw')
    rw [Array.toList_setIfInBounds, List.count_set]
    · have hb : listed.toList[i]'(by simpa using hlt) = false := by simpa using h0'
      have hpos : 0 < listed.toList.count false := List.count_pos_iff.2 (by rw [← hb]; exact List.getElem_mem _)
      rw [hb]; simp only [beq_self_eq_true, if_true]; simp; rw [Array.count_toList] at *; omega
    · simpa using hlt
/-- a region that draws, within whatever round -/
theorem wcdrawir [hm : Mix P] {id : Nat} {ops : List Oper} (S : (Nat → Bool) → Env → World → Prop) (h0 : ∀ wd, Frm w wd → S (fun _ => false) σ wd) (hop : StepsI P ops.toArray S 0 ops)
    (hend : ∀ L σ' w', (∀ k, k < ops.length → L k = true) → S L σ' w' → Q .normal ds σ' w') (hf : fwdB ops.toArray = true := by kernel_rfl) : WC P n ds (.region id ops.toArray true) Q σ w := by
  unfold WC
  intro hin
  have hin' : ops.all (operIn n ds.ro.isSome ops.toArray) = true := by simpa [codeIn] using hin
  refine wpIn_region_any hm.ok ?_
  have e0 : fl (Array.replicate ops.toArray.size false) = fun _ => false := by funext k; exact getD_replicate_false _ _
  refine wpAnyIn_of_I (S := S) (n := n) hf (by simpa using hin') (fun k o ho => ?_) ?_ _ _ _ _ (by simp) ?_ ?_ ?_
  · have := stepsI_get hop k o (by simpa using ho)
    rwa [Nat.zero_add] at this
  · intro L σ' w' hL hS
    exact ⟨ds.ds, σ', rfl, hend L σ' w' (by simpa using hL) hS⟩
  · rw [e0]; intro j oj _ hL; cases hL
  · simp
  · rw [e0]; exact h0 _ (Frm.drawn (Frm.refl w))
end
/-- what an operation leaves: its value, and where what it made lies -/
structure PD (X : Type) where
  v : Value
  p : Option Addr
  c : Nat
  b : Nat
  x : X
structure PlanB (X : Type) where
  pl : Nat → PD X → List Plot
  con : Nat → Option Nat
  base : Nat → List Plot
  fact : Nat → (Nat → PD X) → Prop
section
variable {X : Type}
def PlanB.live (p : PlanB X) (L : Nat → Bool) (j : Nat) : Bool := L j && (match p.con j with | some c => !L c | none => true)
def PlanB.mem (p : PlanB X) (n : Nat) (L : Nat → Bool) (a : Nat → PD X) : List Plot := ((List.range n).filter (p.live L)).flatMap fun j => p.pl j (a j)
/-- what operation k takes -/
def PlanB.takes (p : PlanB X) (n k : Nat) (a : Nat → PD X) : List Plot := ((List.range n).filter fun j => decide (p.con j = some k)).flatMap fun j => p.pl j (a j)
/-- what lay there before and is still to be taken -/
def PlanB.bmem (p : PlanB X) (n : Nat) (L : Nat → Bool) : List Plot := ((List.range n).filter fun j => !L j).flatMap p.base
def PlanB.S (p : PlanB X) (w0 : World) (cs : List Plot) (σ0 : Env) (ops : List Oper) (L : Nat → Bool) (σ : Env) (w : World) : Prop :=
  (∀ s, (∀ (k : Nat) (o : Oper), ops[k]? = some o → L k = true → o.dst ≠ some s) → σ s = σ0 s) ∧
  ∃ a : Nat → PD X, (∀ (k : Nat) (o : Oper), ops[k]? = some o → L k = true → (∀ d, o.dst = some d → σ d = (a k).v) ∧ p.fact k a) ∧ Sep w0 w (p.mem ops.length L a ++ (p.bmem ops.length L ++ cs))
/-- what k can see of what is to be taken by those that wait for it -/
def seesB (ops : List Oper) (k j : Nat) : Bool := decide (j ≠ k) && (match ops[j]? with | some oj => bindsOn oj k | none => false)
def PlanB.seen (p : PlanB X) (ops : List Oper) (k : Nat) : List Plot := ((List.range ops.length).filter (seesB ops k)).flatMap p.base
/-- how operation k goes, by the plan -/
def PlanB.Rule (p : PlanB X) (P : Program) (w0 : World) (cs : List Plot) (σ0 : Env) (ops : List Oper) (k : Nat) (o : Oper) : Prop :=
  ∀ (a : Nat → PD X) (σ : Env) (w : World) (rest : List Plot), (∀ s, (∀ (j : Nat) (o : Oper), ops[j]? = some o → j ≠ k → bindsOn o k = false → o.dst ≠ some s) → σ s = σ0 s) →
    (∀ (j : Nat) (oj : Oper), bindsOn o j = true → ops[j]? = some oj → (∀ d, oj.dst = some d → σ d = (a j).v) ∧ p.fact j a) → Sep w0 w (p.takes ops.length k a ++ (p.base k ++ (p.seen ops k ++ (cs ++ rest)))) →
    (Region.wanted o (yl ops.toArray σ) = true ∧ comes P (fun v w' => ∃ d, v = d.v ∧ p.fact k (setD a k d) ∧ Sep w0 w' (p.pl k d ++ (p.seen ops k ++ (cs ++ rest)))) ((execOp (evl σ) o).run P w)) ∨
    (Region.wanted o (yl ops.toArray σ) = false ∧ ∃ d, undef = d.v ∧ p.fact k (setD a k d) ∧ Sep w0 w (p.pl k d ++ (p.seen ops k ++ (cs ++ rest))))
def PlanB.Rules (p : PlanB X) (P : Program) (w0 : World) (cs : List Plot) (σ0 : Env) (ops : List Oper) : Nat → List Oper → Prop
  | _, [] => True
  | k, o :: l => p.Rule P w0 cs σ0 ops k o ∧ p.Rules P w0 cs σ0 ops (k + 1) l
theorem planb_step {p : PlanB X} {P : Program} {w0 : World} {cs : List Plot} {σ0 : Env} {ops : List Oper} (hB : planB p.con ops = true)
    (hF : ∀ (j : Nat) (oj : Oper) (a a' : Nat → PD X), ops[j]? = some oj → a j = a' j → (∀ i, bindsOn oj i = true → a i = a' i) → p.fact j a → p.fact j a') {k : Nat} {o : Oper} (hk : ops[k]? = some o) (h : p.Rule P w0 cs σ0 ops k o) : StepI P ops.toArray (p.S w0 cs σ0 ops) k o := by
  rintro L σ w hu ⟨hσ, a, hA, hS⟩
  have hkn : k < ops.length := by
    rcases Nat.lt_or_ge k ops.length with h | h
    · exact h
    · rw [List.getElem?_eq_none h] at hk; cases hk
  have hcon : ∀ j c, j < ops.length → p.con j = some c → ∃ oc, ops[c]? = some oc ∧ bindsOn oc j = true := by
    intro j c hj hc
    have := List.all_eq_true.1 hB j (List.mem_range.2 hj)
    rw [Bool.and_eq_true, hc] at this
    have h1 := this.1
    simp only [Bool.and_eq_true, decide_eq_true_eq] at h1
    rw [List.getElem?_eq_getElem h1.1] at h1
    exact ⟨_, List.getElem?_eq_getElem h1.1, h1.2⟩
  have hdst : ∀ (i j : Nat) (oi oj : Oper) (d : Nat), ops[i]? = some oi → ops[j]? = some oj → i ≠ j → oi.dst = some d → oj.dst ≠ some d := by
    intro i j oi oj d hi hj hne hd
    have hjn : j < ops.length := (List.getElem?_eq_some_iff.1 hj).1
    have hin : i < ops.length := (List.getElem?_eq_some_iff.1 hi).1
    have := List.all_eq_true.1 hB j (List.mem_range.2 hjn)
    rw [Bool.and_eq_true] at this
    have := List.all_eq_true.1 this.2 i (List.mem_range.2 hin)
    rw [hi, hj] at this
    simp only [hne, decide_false, Bool.false_or, hd, decide_eq_true_eq] at this
    exact this
  -- what k takes, and the rest
  let q : Nat → Bool := fun j => p.live L j && !decide (p.con j = some k)
  let rest0 : List Plot := ((List.range ops.length).filter q).flatMap fun j => p.pl j (a j)
  let bm : List Plot := p.bmem ops.length (on L k)
  let bm2 : List Plot := (((List.range ops.length).filter fun j => !(on L k) j).filter fun j => !(seesB ops k j)).flatMap p.base
  let rest : List Plot := rest0 ++ bm2
  have hsee : bm.Perm (p.seen ops k ++ bm2) := by
    have h2 := List.filter_append_perm (seesB ops k) ((List.range ops.length).filter fun j => !(on L k) j)
    have h3 : ((List.range ops.length).filter fun j => !(on L k) j).filter (seesB ops k) = (List.range ops.length).filter (seesB ops k) := by
      rw [List.filter_filter]
      refine List.filter_congr fun j hj => ?_
      cases hs : seesB ops k j with
      | false => rfl
      | true =>
        unfold seesB at hs
        rw [Bool.and_eq_true, decide_eq_true_eq] at hs
        obtain ⟨hne, hs⟩ := hs
        cases ho : ops[j]? with
        | none => rw [ho] at hs; cases hs
        | some oj =>
          rw [ho] at hs
          have := hu.ahead j oj (by simpa using ho) hs
          simp [on_ne L hne, this]
    rw [h3] at h2
    have h4 := h2.symm.flatMap_right p.base
    rw [List.flatMap_append] at h4
    exact h4
  have hbm : (p.bmem ops.length L).Perm (p.base k ++ bm) := by
    have hl : (List.range ops.length).filter (fun j => !L j) = (List.range ops.length).filter fun j => decide (j = k) || !(on L k) j := by
      refine List.filter_congr fun j hj => ?_
      by_cases e : j = k
      · subst e; simp [hu.now]
      · simp [e, on_ne L e]
    show (((List.range ops.length).filter fun j => !L j).flatMap p.base).Perm _
    rw [hl]
    refine ((filter_insert (q := fun j => !(on L k) j) (by simp [on_same]) List.nodup_range (List.mem_range.2 hkn)).flatMap_right p.base).trans ?_
    rw [List.flatMap_cons]
    exact List.Perm.refl _
  have htake : (List.range ops.length).filter (fun j => p.live L j && decide (p.con j = some k)) = (List.range ops.length).filter fun j => decide (p.con j = some k) := by
    refine List.filter_congr fun j hj => ?_
    by_cases hc : p.con j = some k
    · obtain ⟨oc, ho, hb⟩ := hcon j k (List.mem_range.1 hj) hc
      rw [hk] at ho
      injection ho with ho
      subst ho
      have h1 := hu.did j hb
      simp [PlanB.live, hc, h1, hu.now]
    · simp [hc]
  have hperm : (p.mem ops.length L a ++ (p.bmem ops.length L ++ cs)).Perm (p.takes ops.length k a ++ (p.base k ++ (p.seen ops k ++ (cs ++ rest)))) := by
    have h1 : ((List.range ops.length).filter fun j => decide (p.con j = some k)) ++ ((List.range ops.length).filter q) |>.Perm ((List.range ops.length).filter (p.live L)) := by
      have h2 := List.filter_append_perm (fun j => decide (p.con j = some k)) ((List.range ops.length).filter (p.live L))
      rw [List.filter_filter, List.filter_filter] at h2
      rw [← htake]
      refine List.Perm.trans ?_ h2
      refine List.Perm.append (List.Perm.of_eq (List.filter_congr fun j _ => Bool.and_comm _ _)) (List.Perm.of_eq (List.filter_congr fun j _ => Bool.and_comm _ _))
    have h3 := (h1.symm.flatMap_right fun j => p.pl j (a j))
    rw [List.flatMap_append] at h3
    exact (h3.append ((hbm.trans (List.Perm.append_left _ hsee)).append_right cs)).trans (perm6 _ _ _ _ _ _)
  have hlive : ∀ d, (p.mem ops.length (on L k) (setD a k d)).Perm (p.pl k d ++ rest0) := by
    intro d
    have hq : q k = false := by simp [q, PlanB.live, hu.now]
    have hl : (List.range ops.length).filter (p.live (on L k)) = (List.range ops.length).filter fun j => decide (j = k) || q j := by
      refine List.filter_congr fun j hj => ?_
      by_cases e : j = k
      · subst e
        have : (match p.con j with | some c => !(on L j c) | none => true) = true := by
          cases hc : p.con j with
          | none => rfl
          | some c =>
            obtain ⟨oc, ho, hb⟩ := hcon j c hkn hc
            have h1 := hu.ahead c oc (by simpa using ho) hb
            have hne : c ≠ j := by
              intro e
              subst e
              rw [hk] at ho
              injection ho with ho
              subst ho
              have := hu.did c hb
              rw [hu.now] at this
              cases this
            simp [on_ne L hne, h1]
        simp only [PlanB.live, on_same, this, Bool.and_self, decide_true, Bool.true_or]
      · simp only [PlanB.live, on_ne L e, decide_eq_false e, Bool.false_or, q]
        cases hc : p.con j with
        | none => simp
        | some c =>
          by_cases ec : c = k
          · subst ec; simp [on_same]
          · have : ¬ (some c = some k) := fun h => ec (Option.some.inj h)
            simp [on_ne L ec, this]
    unfold PlanB.mem
    rw [hl]
    refine ((filter_insert hq List.nodup_range (List.mem_range.2 hkn)).flatMap_right fun j => p.pl j (setD a k d j)).trans ?_
    rw [List.flatMap_cons, setD_same]
    refine List.Perm.append_left _ (List.Perm.of_eq ?_)
    show _ = List.flatMap (fun j => p.pl j (a j)) (List.filter q (List.range ops.length))
    rw [List.flatMap_def, List.flatMap_def]
    refine congrArg _ (List.map_congr_left fun j hj => ?_)
    have : j ≠ k := by
      rintro rfl
      have := (List.mem_filter.1 hj).2
      rw [hq] at this; cases this
    rw [setD_ne a d this]
  have hnew : ∀ d w', p.fact k (setD a k d) → Sep w0 w' (p.pl k d ++ (p.seen ops k ++ (cs ++ rest))) → p.S w0 cs σ0 ops (on L k) (updO σ o.dst (d.v)) w' := by
    intro d w' hf hS'
    refine ⟨fun s hs => ?_, setD a k d, fun j oj hj hL => ?_, ?_⟩
    · have h1 := hs k o hk (on_same L k)
      have hs' : ∀ (j : Nat) (oj : Oper), ops[j]? = some oj → L j = true → oj.dst ≠ some s := fun j oj hj hL => hs j oj hj (by
        by_cases e : j = k
        · subst e; exact on_same L j
        · rw [on_ne L e]; exact hL)
      cases hd : o.dst with
      | none => exact hσ s hs'
      | some dd =>
        rw [hd] at h1
        exact (upd_ne σ _ (fun e => h1 (by rw [e]))).trans (hσ s hs')
    · by_cases e : j = k
      · subst e
        rw [hk] at hj
        injection hj with hj
        subst hj
        refine ⟨fun dd hd => ?_, hf⟩
        rw [hd, setD_same]
        exact upd_same σ dd _
      · rw [on_ne L e] at hL
        obtain ⟨h1, h2⟩ := hA j oj hj hL
        refine ⟨fun dd hd => ?_, ?_⟩
        · rw [setD_ne a d e, ← h1 dd hd]
          cases hdo : o.dst with
          | none => rfl
          | some d2 =>
            have := hdst k j o oj d2 hk hj (fun e2 => e e2.symm) hdo
            exact upd_ne σ _ (fun e2 => this (by rw [hd, e2]))
        · refine hF j oj a _ hj (setD_ne a d e).symm (fun i hi => ?_) h2
          have : i ≠ k := by
            rintro rfl
            have := hu.ahead j oj (by simpa using hj) hi
            rw [this] at hL; cases hL
          exact (setD_ne a d this).symm
    · refine hS'.perm ?_
      exact (perm7 _ _ _ _ _).trans ((hlive d).symm.append (hsee.symm.append_right cs))
  rcases h a σ w rest (fun s hs => hσ s fun j oj hj hL => hs j oj hj (fun e => by rw [e, hu.now] at hL; cases hL) (by
      cases hb : bindsOn oj k with
      | false => rfl
      | true => have := hu.ahead j oj (by simpa using hj) hb; rw [this] at hL; cases hL)) (fun j oj hb hj => hA j oj hj (hu.did j hb)) (hS.perm hperm) with ⟨h1, h2⟩ | ⟨h1, d, h2, h3, h4⟩
  · refine .inl ⟨h1, comes_mono (fun v w' => ?_) h2⟩
    rintro ⟨d, rfl, hf, hS'⟩
    exact hnew d w' hf hS'
  · refine .inr ⟨h1, ?_⟩
    rw [h2]
    exact hnew d w h3 h4
theorem planb_steps {p : PlanB X} {P : Program} {w0 : World} {cs : List Plot} {σ0 : Env} {ops : List Oper} (hB : planB p.con ops = true)
    (hF : ∀ (j : Nat) (oj : Oper) (a a' : Nat → PD X), ops[j]? = some oj → a j = a' j → (∀ i, bindsOn oj i = true → a i = a' i) → p.fact j a → p.fact j a') : ∀ (l : List Oper) (k : Nat), (∀ j o, l[j]? = some o → ops[k + j]? = some o) → p.Rules P w0 cs σ0 ops k l → StepsI P ops.toArray (p.S w0 cs σ0 ops) k l
  | [], _, _, _ => trivial
  | o :: l, k, hl, hr => ⟨planb_step hB hF (by simpa using hl 0 o rfl) hr.1, planb_steps hB hF l (k + 1) (fun j o' h => by rw [show k + 1 + j = k + (j + 1) from by omega]; exact hl (j + 1) o' (by simpa using h)) hr.2⟩
/-- a region that draws, by a plan -/
theorem wcplanb {P : Program} [hm : Mix P] {n : Nat} {ds : Ctx} {Q : Exit → Ctx → Env → World → Prop} {σ : Env} {w w0 : World} {id : Nat} {ops : List Oper} {cs b : List Plot} (p : PlanB X) (d0 : PD X) (hS : Sep w0 w (b ++ cs)) (hb : (List.range ops.length).flatMap p.base = b)
    (hF : ∀ (j : Nat) (oj : Oper) (a a' : Nat → PD X), ops[j]? = some oj → a j = a' j → (∀ i, bindsOn oj i = true → a i = a' i) → p.fact j a → p.fact j a')
    (hR : p.Rules P w0 cs σ ops 0 ops)
    (hend : ∀ (a : Nat → PD X) σ' w', (∀ s, (∀ (k : Nat) (o : Oper), ops[k]? = some o → o.dst ≠ some s) → σ' s = σ s) → (∀ (k : Nat) (o : Oper), ops[k]? = some o → (∀ d, o.dst = some d → σ' d = (a k).v) ∧ p.fact k a) →
      Sep w0 w' (((List.range ops.length).filter fun j => (p.con j).isNone).flatMap (fun j => p.pl j (a j)) ++ cs) → Q .normal ds σ' w')
    (hB : planB p.con ops = true := by kernel_rfl) (hf : fwdB ops.toArray = true := by kernel_rfl) : WC P n ds (.region id ops.toArray true) Q σ w := by
  refine wcdrawir (p.S w0 cs σ ops) (fun wd hwd => ⟨fun _ _ => rfl, fun _ => d0, fun _ _ _ h => absurd h Bool.false_ne_true, ?_⟩) (planb_steps hB hF ops 0 (fun j o h => by rwa [Nat.zero_add]) hR) ?_ hf
  · have e : p.mem ops.length (fun _ => false) (fun _ => d0) = [] := by
      unfold PlanB.mem
      rw [List.filter_eq_nil_iff.2 (by intro j _; simp [PlanB.live])]
      rfl
    have e2 : p.bmem ops.length (fun _ => false) = b := by
      rw [← hb]; unfold PlanB.bmem
      rw [List.filter_eq_self.2 (by intro j _; rfl)]
    rw [e, e2]
    exact hS.grow hwd
  · rintro L σ' w' hL ⟨hσ, a, hA, hS'⟩
    refine hend a σ' w' (fun s hs => hσ s fun k o hk _ => hs k o hk) (fun k o hk => hA k o hk (hL k (List.getElem?_eq_some_iff.1 hk).1)) ?_
    have e2 : p.bmem ops.length L = [] := by
      unfold PlanB.bmem
      rw [List.filter_eq_nil_iff.2 (by intro j hj; simp [hL j (List.mem_range.1 hj)])]
      rfl
    rw [e2] at hS'
    refine hS'.perm (List.Perm.append_right _ (List.Perm.of_eq ?_))
    unfold PlanB.mem
    congr 1
    refine List.filter_congr fun j hj => ?_
    have h1 := hL j (List.mem_range.1 hj)
    simp only [PlanB.live, h1, Bool.true_and]
    cases hc : p.con j with
    | none => rfl
    | some c =>
      have := List.all_eq_true.1 hB j hj
      rw [Bool.and_eq_true, hc] at this
      have h2 := this.1
      simp only [Bool.and_eq_true, decide_eq_true_eq] at h2
      simp [hL c h2.1]
end
theorem notDstB {ops : List Oper} {s k : Nat} (h : ((List.range ops.length).all fun j => match ops[j]? with | some o => decide (j = k) || bindsOn o k || decide (o.dst ≠ some s) | none => true) = true) :
    ∀ (j : Nat) (o : Oper), ops[j]? = some o → j ≠ k → bindsOn o k = false → o.dst ≠ some s := fun j o hj hne hb => by
  have := List.all_eq_true.1 h j (List.mem_range.2 (List.getElem?_eq_some_iff.1 hj).1)
  rw [hj] at this
  simpa [hne, hb] using this
end Go.Sv

/-
  Package event: Walk.
-/
set_option linter.unusedSimpArgs false
set_option linter.unusedVariables false
set_option linter.unnecessarySimpa false
namespace Go.Sv
open Go Go.RowKit
/-- a store into a block of one's own -/
theorem y_sst {P : Program} {σ : Env} {w0 w : World} {cs : List Plot} {ty t : TypeId} {pos : String} {af : Array Edge} {g : Option (Nat × Bool)} {x y : Operand} {zv v : Value} {size bytes b j : Nat} {l : List Value} [hi : Inf P t zv size bytes] (hS : Sep w0 w cs) (i : Nat) (hc : cs[i]? = some (pOwn b l)) (hx : evl σ x = ptrAt (pb b) j) (hy : evl σ y = v) (hv : v.cells.size = size) (hk : j + size ≤ l.length) (h1 : ∀ u ∈ v.cells.toList, u.oneCell' = true) :
    ∃ w', Y P σ ⟨none, .store t x y, ty, pos, af, g⟩ w undef w' ∧ Sep w0 w' (cs.set i (pOwn b (l.take j ++ v.cells.toList ++ l.drop (j + size)))) := by
  obtain ⟨w', hr, h2, h3⟩ := run_store_own (P := P) (t := t) (hS.own i hc) hv hk h1
  refine ⟨w', Y.skip ?_, hS.upd i hc (lm_own h3) h2⟩
  simp only [execOp, hx, hy]
  rw [Sem.run_bind, hr]
  rfl
end Go.Sv
namespace Go.Proofs.YthgbpgjpnaanlaaDoor
open Go Go.Sv Go.RowKit
def wlkP (b3 b5 : Nat) (q : Option Addr) (cc : Nat) (ns : List EvM) (m : EvM) : PlanB (Option Addr × Nat) where
  pl k d := match k with
    | 2 => [pRow 2 d.x.1 m.e.attrs.length d.x.2 (m.e.attrs.flatMap At.cells)]
    | 3 => [pOwn d.b (m.e.cells d.x.1 d.x.2)]
    | 4 => [pRow 4 d.p (ns.length + 1) d.c (ns.flatMap EvM.cells ++ m.e.cells d.x.1 d.x.2)]
    | 5 => [pOwn b3 [.slice d.p (ns.length + 1) d.c]]
    | _ => []
  con k := match k with
    | 3 => some 4
    | _ => none
  base k := match k with
    | 4 => [pRow 4 q ns.length cc (ns.flatMap EvM.cells)]
    | 5 => [pOwn b3 [.slice q ns.length cc]]
    | _ => []
  fact k a := match k with
    | 0 => (a 0).v = .slice q ns.length cc
    | 1 => (a 1).v = .agg ⟨m.cells⟩
    | 2 => (a 2).v = .agg ⟨m.e.cells (a 2).x.1 (a 2).x.2⟩
    | 3 => (a 3).v = .slice (pb (a 3).b) 1 1 ∧ (a 3).x = (a 2).x
    | 4 => (a 4).v = .slice (a 4).p (ns.length + 1) (a 4).c ∧ (a 4).x = (a 3).x
    | 5 => (a 5).p = (a 4).p ∧ (a 5).c = (a 4).c
    | _ => True
set_option maxHeartbeats 4000000 in
theorem evWalk_ok (ms : List EvM) (p : Option Addr) (c : Nat) (hn : ms.length ≤ 1048576) (hs : ∀ m ∈ ms, m.e.small) (w0 w : World) (cs : List Plot) (hS0 : Sep w0 w cs) (hE : Evs w p ms) :
    CallsR Tryd.prog 23 #[.slice p ms.length c] w fun v w' => ∃ b q cc ns, v = .func (.func 49) #[] #[ptrAt (pb b) 0] ∧ evs ns = evs ms ∧ Frm w w' ∧ Sep w0 w' (pOwn b [.slice q ns.length cc] :: pRow 4 q ns.length cc (ns.flatMap EvM.cells) :: pMany (ns.map EvM.row) :: cs) := by
  have hS := Sep.start w
  refine enter (l := [.slice p ms.length c]) Tryd.func23 rfl Tryd.ntmps23 (by kernel_rfl) rfl ?_
  refine sgo ?_
  refine salloc hS fun b3 w1 hS => ?_
  replace hS : Sep w w1 [pOwn b3 [.slice none 0 0]] := hS
  replace hS := ((hS.zero).push (c := pRow 4 none 0 0 []) (Frm.refl _) (Row.nil _ 4) (by simp [pRow, rb]))
  refine sgo ?_
  refine wcloop (X := Nat × Option Addr × Nat × List EvM) (fun x => [(3, ptrAt (pb b3) 0), (6, .slice p ms.length c), (7, int ms.length), (8, int x.1)])
    (fun x wr => x.1 ≤ ms.length ∧ evs x.2.2.2 = (evs ms).take x.1 ∧ Sep w wr [pRow 4 x.2.1 x.2.2.2.length x.2.2.1 (x.2.2.2.flatMap EvM.cells), pMany (x.2.2.2.map EvM.row), pOwn b3 [.slice x.2.1 x.2.2.2.length x.2.2.1]])
    (fun x => ms.length - x.1) (0, none, 0, []) ⟨rfl, rfl, rfl, rfl, trivial⟩ ⟨Nat.zero_le _, rfl, hS⟩ ?_
  clear hS
  rintro ⟨i, q, cc, ns⟩ wr ρ ⟨hil, hev, hS⟩
  dsimp only at *
  have hnl : ns.length = i := by rw [← evs_len, hev, List.length_take, evs_len]; omega
  refine sgo ?_
  (show WC _ _ _ _ _ _ _; first | refine WC_dec rfl (fun hc => ?_) (fun hc => ?_) | refine WC_cond rfl (fun hc => ?_) (fun hc => ?_))
  · have hlt : i < ms.length := by omega
    have hIm := hE.im
    have hx : ms[i]? = some ms[i] := List.getElem?_eq_getElem hlt
    have hmem : ms[i] ∈ ms := List.getElem_mem hlt
    have hseg := fm_seg EvM.len ms hx
    have hfl := fm_len EvM.len ms
    have hat := hE.each _ hmem
    have hsm := hs _ hmem
    have hps : ∃ a, p = some a := hE.im.sg.some (by omega)
    have hsn : (evs ms).take (i + 1) = (evs ms).take i ++ [ms[i].e] := by rw [List.take_add_one, evs_at hx]; rfl
    generalize ms[i] = m at *
    clear hc
    refine sgo ?_
    rw [hseg]
    refine salloc hS fun b5 w5 hS => ?_
    refine sgo ?_
    refine ssta (vs := m.cells) hS 0 fun w6 hS => ?_
    replace hS : Sep w w6 [pOwn b5 m.cells, pRow 4 q ns.length cc (ns.flatMap EvM.cells), pMany (ns.map EvM.row), pOwn b3 [.slice q ns.length cc]] := hS
    replace hS : Sep w w6 ([pRow 4 q ns.length cc (ns.flatMap EvM.cells)] ++ [pOwn b3 [.slice q ns.length cc]] ++ [pOwn b5 m.cells, pMany (ns.map EvM.row)]) := (hS.front 3 rfl).front 2 rfl
    refine sgo ?_
    refine wcplanb (b := [pRow 4 q ns.length cc (ns.flatMap EvM.cells)] ++ [pOwn b3 [.slice q ns.length cc]]) (wlkP b3 b5 q cc ns m) ⟨.nilIface, none, 0, 0, (none, 0)⟩ hS rfl (fun j oj a a' hj he hd h => ?_) ⟨?_, ?_, ?_, ?_, ?_, ?_, trivial⟩ ?_
    · have hjl : j < 6 := (List.getElem?_eq_some_iff.1 hj).1
      match j, hjl with
      | 0, _ | 1, _ | 2, _ => first | (simp only [wlkP] at h ⊢; rw [← he]; exact h) | exact h
      | 3, _ => simp only [wlkP] at h ⊢; rw [← he, ← hd 2 (by cases hj; rfl)]; exact h
      | 4, _ => simp only [wlkP] at h ⊢; rw [← he, ← hd 3 (by cases hj; rfl)]; exact h
      | 5, _ => simp only [wlkP] at h ⊢; rw [← he, ← hd 4 (by cases hj; rfl)]; exact h
    · intro a σ' w' rest hσ hdep hS'   -- 0: load; pieces: sees 4, sees 5 ..
      have e3 : σ' 3 = ptrAt (pb b3) 0 := (hσ 3 (notDstB rfl)).trans rfl
      exact rule_y (y_load e3 (Sep.sgv hS' 1 rfl) rfl) ⟨⟨.slice q ns.length cc, none, 0, 0, (none, 0)⟩, rfl, rfl, hS'⟩
    · intro a σ' w' rest hσ hdep hS'   -- 1: load; pieces: sees 5 ..
      have e5 : σ' 5 = ptrAt (pb b5) 0 := (hσ 5 (notDstB rfl)).trans rfl
      exact rule_y (y_loada e5 (Sep.sgv hS' 1 rfl) (Nat.le_of_ble_eq_true rfl) ⟨_, rfl⟩) ⟨⟨.agg ⟨m.cells⟩, none, 0, 0, (none, 0)⟩, rfl, rfl, hS'⟩
    · intro a σ' w' rest hσ hdep hS'   -- 2: call; pieces: sees 4, sees 5 ..
      have f1 := (hdep 1 _ rfl rfl).2
      have e13 := ((hdep 1 _ rfl rfl).1 13 rfl).trans f1
      refine rule_call (vals := [.agg ⟨m.cells⟩]) (evCopied_ok m.e m.p m.c hsm w w' _ hS' (hat.sep hS')) (fun v w2 hR => ?_) (am1 e13)
      obtain ⟨q2, c2, rfl, -, hS2⟩ := hR
      exact ⟨⟨.agg ⟨m.e.cells q2 c2⟩, none, 0, 0, (q2, c2)⟩, rfl, rfl, hS2⟩
    · intro a σ' w' rest hσ hdep hS'   -- 3: buildSlice; pieces: sees 4, sees 5 ..
      have f2 := (hdep 2 _ rfl rfl).2
      have e14 := ((hdep 2 _ rfl rfl).1 14 rfl).trans f2
      obtain ⟨b, w2, hy, hS2⟩ := y_bs1 (P := Tryd.prog) (t := 25) (d := some 15) (x := .tmp 14) (vs := m.e.cells (a 2).x.1 (a 2).x.2) (size := 4) hS' e14 rfl rfl (by decide) (by decide)
      exact rule_y hy ⟨⟨.slice (pb b) 1 1, none, 0, b, (a 2).x⟩, rfl, ⟨rfl, rfl⟩, hS2⟩
    · intro a σ' w' rest hσ hdep hS'   -- 4: call; pieces: takes 3, base 4, sees 5 ..
      have f0 := (hdep 0 _ rfl rfl).2
      have e12 := ((hdep 0 _ rfl rfl).1 12 rfl).trans f0
      have f3 := (hdep 3 _ rfl rfl).2
      have e15 := ((hdep 3 _ rfl rfl).1 15 rfl).trans f3.1
      obtain ⟨p2, c2, w2, hy, hS2⟩ := y_app (P := Tryd.prog) (t := 25) (t' := 25) (ty := 25) (d := some 16) (x := .tmp 12) (y := .tmp 15) (n := 1) hS' 1 (hS'.own 0 rfl).sg rfl e12 e15 rfl (ev_one _ _ _) rfl (by decide) (by omega)
      exact rule_y hy ⟨⟨.slice p2 (ns.length + 1) c2, p2, c2, 0, (a 3).x⟩, rfl, ⟨rfl, rfl⟩, hS2.drop 0 rfl⟩
    · intro a σ' w' rest hσ hdep hS'   -- 5: store; pieces: base 5 ..
      have e3 : σ' 3 = ptrAt (pb b3) 0 := (hσ 3 (notDstB rfl)).trans rfl
      have f4 := (hdep 4 _ rfl rfl).2
      have e16 := ((hdep 4 _ rfl rfl).1 16 rfl).trans f4.1
      obtain ⟨w2, hy, hS2⟩ := y_sst (P := Tryd.prog) (t := 25) (x := .tmp 3) (y := .tmp 16) hS' 0 rfl e3 e16 rfl (Nat.le_of_ble_eq_true rfl) (by simp [Go.Value.cells, Go.Value.oneCell'])
      exact rule_y hy ⟨⟨undef, (a 4).p, (a 4).c, 0, (none, 0)⟩, rfl, ⟨rfl, rfl⟩, hS2⟩
    · intro a σ' w' hσ hA' hS'
      have h4 := (hA' 4 _ rfl).2
      have h5 := (hA' 5 _ rfl).2
      have h3 := (hA' 3 _ rfl).2
      rw [frameOf (σ := σ') [(3, ptrAt (pb b3) 0), (6, .slice p ms.length c), (7, int ms.length), (8, int i)]
        ⟨(hσ 3 (notDst rfl)).trans rfl, (hσ 6 (notDst rfl)).trans rfl, (hσ 7 (notDst rfl)).trans rfl, (hσ 8 (notDst rfl)).trans rfl, trivial⟩]
      replace hS : Sep w w' (pRow 2 (a 2).x.1 m.e.attrs.length (a 2).x.2 (m.e.attrs.flatMap At.cells) :: pRow 4 (a 4).p (ns.length + 1) (a 4).c (ns.flatMap EvM.cells ++ m.e.cells (a 4).x.1 (a 4).x.2) :: pOwn b3 [.slice (a 5).p (ns.length + 1) (a 5).c] :: pOwn b5 m.cells :: pMany (ns.map EvM.row) :: []) := hS'
      have hx4 : (a 4).x = (a 2).x := h4.2.trans h3.2
      rw [h5.1, h5.2, hx4] at hS
      generalize (a 2).x = xx at *
      generalize (a 4).p = q4 at *
      generalize (a 4).c = c4 at *
      rw [show m.e.cells xx.1 xx.2 = EvM.cells ⟨m.e, xx.1, xx.2⟩ from rfl, evs_flat, show ns.length + 1 = (ns ++ [(⟨m.e, xx.1, xx.2⟩ : EvM)]).length from by simp] at hS
      have h1 := ((hS.drop 3 rfl).front 3 rfl).front 1 rfl
      have h2 := h1.more
      have h3 := h2.front 1 rfl
      refine sgo ?_
      refine ⟨(i + 1, q4, c4, ns ++ [⟨m.e, xx.1, xx.2⟩]), ⟨rfl, rfl, rfl, rfl, trivial⟩, ⟨hlt, by dsimp only; rw [evs_snoc, hsn, hev], ?_⟩, (by (try dsimp only); omega)⟩
      dsimp only
      rw [List.map_append]
      exact h3
  · obtain rfl : i = ms.length := by omega
    rw [← evs_len, List.take_length] at hev
    refine sgo ?_
    (first | refine fp1 (.inl rfl) rfl rfl ?_ | refine fp2 (.inl rfl) rfl rfl rfl ?_ | refine fp3 (.inl rfl) rfl rfl rfl rfl ?_ | refine fp0 (.inr rfl) rfl ?_ | refine fp0 (.inl rfl) rfl ?_ | refine fp1 (.inr rfl) rfl rfl ?_)
    exact ⟨b3, q, cc, ns, rfl, hev, hS.frm, hS0.seq (ds := [_, _, _]) (hS.front 2 rfl)⟩
end Go.Proofs.YthgbpgjpnaanlaaDoor

/-
  Regions that draw their order, by a plan for the first operations; the rest in order.
-/
set_option linter.unusedSimpArgs false
set_option linter.unusedVariables false
set_option linter.unnecessarySimpa false
namespace Go.Sv
open Go Go.RowKit
/-- the first n1 are done, the rest not -/
def heads (n1 size : Nat) : Array Bool := ((List.range size).map fun i => decide (i < n1)).toArray
section
variable {P : Program} {n : Nat} {ds : Ctx} {Q : Exit → Ctx → Env → World → Prop} {S : (Nat → Bool) → Env → World → Prop} {σ : Env} {w : World} {m : Nat}
theorem wpAnyIn_of_seqF {F : Fence} {md : Region.Mode} {ops : Array Oper} {Q' : Exit → Act → World → Prop} : ∀ (l : List Oper) (k : Nat) (listed : Array Bool) (a : Act) (w : World), (∀ j, l[j]? = ops[k + j]?) →
    Region.seqB md ops l.length k listed = true → wpListIn F m P ops Q' l a w → wpAnyIn F m P md ops Q' l.length listed a w
  | [], _, _, _, _, _, hB, h => ⟨by simpa [Region.seqB] using hB, h⟩
  | o :: l, k, listed, a, w, hl, hB, h => by
    have h0 : ops[k]? = some o := by simpa using (hl 0).symm
    simp only [List.length_cons, Region.seqB, Bool.and_eq_true, decide_eq_true_eq] at hB
    refine ⟨fun h1 => (by rw [hB.1] at h1; cases h1), fun i hi => ?_⟩
    rw [hB.1] at hi
    have hik : i = k := by simpa using hi
    subst hik
    have hw : wpOpIn F m P ops Q' i (wpListIn F m P ops Q' l) a w := by unfold wpOpIn; simp only [h0]; exact h
    exact wpOpIn_mono (fun a' w' h' => wpAnyIn_of_seqF l (i + 1) _ a' w' (fun j => by have := hl (j + 1); simpa [Nat.add_assoc, Nat.add_comm 1 j] using this) hB.2 h') hw
theorem wpAnyIn_of_IT {ops : Array Oper} {dd : List Deferred} {Q' : Exit → Act → World → Prop} {n1 : Nat} {l2 : List Oper} {ro : Option Nat} (hs : Region.sinkB .any ops n1 = true) (hc : Region.chainB .any ops n1 = true) (hn : n1 < ops.size) (hf : fwdB ops = true)
    (hin : ops.toList.all (operIn n ro.isSome ops) = true) (hop : ∀ k o, k < n1 → ops[k]? = some o → StepI P ops S k o) (hl2 : ∀ j, l2[j]? = ops[n1 + j]?) (hB2 : Region.seqB .any ops l2.length n1 (heads n1 ops.size) = true)
    (hQ : ∀ L σ w, (∀ k, k < n1 → L k = true) → (∀ k, n1 ≤ k → L k = false) → S L σ w → wpListIn (fen ro) m P ops Q' l2 (act n dd σ) w) :
    ∀ (f : Nat) (listed : Array Bool) (σ : Env) (w : World), HeadInv .any ops n1 listed → (listed.toList.take n1).count false = f → S (fl listed) σ w → wpAnyIn (fen ro) m P .any ops Q' (f + l2.length) listed (act n dd σ) w
  | 0, listed, σ, w, inv, hcnt, hS => by
    have hsz := inv.size
    have hfirst : ∀ i, i < n1 → ∀ h : i < listed.size, listed[i] = true := by
      intro i hi h
      cases hb : listed[i] with
      | true => rfl
      | false =>
        exfalso
        have : false ∈ listed.toList.take n1 := by
          rw [List.mem_iff_getElem]
          exact ⟨i, by simp; omega, by simp [hb]⟩
        have := List.count_pos_iff.2 this
        omega
    have hrest : ∀ i, n1 ≤ i → ∀ h : i < listed.size, listed[i] = false := by
      intro i hi h
      have := inv.tail i hi (by omega)
      simpa [h] using this
    have he : listed = heads n1 ops.size := by
      apply Array.ext
      · simp [heads, hsz]
      · intro i h1 h2
        simp only [heads, List.getElem_toArray, List.getElem_map, List.getElem_range]
        rcases Nat.lt_or_ge i n1 with h | h
        · rw [hfirst i h h1, decide_eq_true h]
        · rw [hrest i h h1, decide_eq_false (by omega)]
    rw [Nat.zero_add]
    refine wpAnyIn_of_seqF l2 n1 listed _ w hl2 (by rw [he]; exact hB2) (hQ (fl listed) σ w (fun k hk => ?_) (fun k hk => ?_) hS)
    · have h1 : k < listed.size := by omega
      simp [fl, h1, hfirst k hk h1]
    · rcases Nat.lt_or_ge k listed.size with h1 | h1
      · simp [fl, h1, hrest k hk h1]
      · simp [fl, Array.getElem?_eq_none h1]
  | f + 1, listed, σ, w, inv, hcnt, hS => by
    have hsz := inv.size
    have hmem : false ∈ listed.toList.take n1 := List.count_pos_iff.1 (by omega)
    obtain ⟨u, hu1, hu2⟩ := List.mem_iff_getElem.1 hmem
    have hun : u < n1 := by simp at hu1; omega
    have hul : u < listed.size := by simp at hu1; omega
    have hu3 : listed[u] = false := by simpa using hu2
    rw [show f + 1 + l2.length = (f + l2.length) + 1 from by omega]
    refine ⟨fun hr => ?_, fun i hi => ?_⟩
    · exfalso
      have := ready_of_fwd hf hsz hr u (by omega)
      simp [fl, hul, hu3] at this
    · have hin1 : i < n1 := by
        rcases Nat.lt_or_ge i n1 with h | h
        · exact h
        · exact absurd hi (tail_waits hs hc hn inv _ u rfl hun (by simp [hul, hu3]) i h)
      obtain ⟨h0, o, ho, hall⟩ := mem_ready.1 hi
      have hio : i < ops.size := (Array.getElem?_eq_some_iff.1 ho).1
      have hlt : i < listed.size := by omega
      have h0' : listed[i] = false := by simpa [hlt] using h0
      have hup : Up ops o i (fl listed) := by
        refine ⟨by simp [fl, hlt, h0'], ?_, ?_⟩
        · intro j hj
          obtain ⟨e, he, hb, rfl⟩ := bindsOn_iff.1 hj
          exact hall e he hb
        · intro j oj hj hb
          cases hL : fl listed j with
          | false => rfl
          | true =>
            obtain ⟨e, he, hb1, hb2⟩ := bindsOn_iff.1 hb
            have h2 := inv.closed j oj hj hL e he hb1
            rw [hb2] at h2
            simp [hlt, h0'] at h2
      have hino : operIn n ro.isSome ops o = true := by
        rw [List.all_eq_true] at hin
        exact hin o (by simpa using Array.mem_of_getElem? ho)
      refine wpOpIn_of_I hino ho (hop i o hin1 ho _ σ w hup hS) fun v w' hw' => ?_
      rw [act_put (operIn_dst hino)]
      refine wpAnyIn_of_IT hs hc hn hf hin hop hl2 hB2 hQ f _ _ _ (inv.set hi hin1) ?_ (by rw [fl_set hlt]; exact hw')
      rw [Array.toList_setIfInBounds, List.take_set, List.count_set]
      · have hb : (listed.toList.take n1)[i]'(by simp; omega) = false := by simpa using h0'
        rw [hb]; simp only [beq_self_eq_true, if_true]; simp; omega
      · simp; omega
theorem wcdrawit [hm : Mix P] {id : Nat} {ops l2 : List Oper} (n1 : Nat) (S : (Nat → Bool) → Env → World → Prop) (h0 : ∀ wd, Frm w wd → S (fun _ => false) σ wd) (hop : ∀ k o, k < n1 → ops[k]? = some o → StepI P ops.toArray S k o)
    (hend : ∀ L σ' w', (∀ k, k < n1 → L k = true) → (∀ k, n1 ≤ k → L k = false) → S L σ' w' → WL P n ds ops.toArray Q l2 σ' w') (hl2 : ops.drop n1 = l2)
    (hB : Region.lexTailB .any ops.toArray n1 = true) (hB2 : Region.seqB .any ops.toArray l2.length n1 (heads n1 ops.toArray.size) = true) (hf : fwdB ops.toArray = true) : WC P n ds (.region id ops.toArray true) Q σ w := by
  obtain ⟨dd, ro⟩ := ds
  unfold WC
  intro hin
  have hin' : ops.all (operIn n ro.isSome ops.toArray) = true := by simpa [codeIn] using hin
  simp only [Region.lexTailB, Bool.and_eq_true, decide_eq_true_eq] at hB
  obtain ⟨⟨⟨⟨hsel, hn⟩, hs⟩, hc⟩, hlex⟩ := hB
  refine wpIn_region_any hm.ok ?_
  have e0 : fl (Array.replicate ops.toArray.size false) = fun _ => false := by funext k; exact getD_replicate_false _ _
  have inv0 : HeadInv .any ops.toArray n1 (Array.replicate ops.toArray.size false) :=
    ⟨by simp, fun j oj _ hl => (by rw [getD_replicate_false] at hl; cases hl), fun t _ h9 => getD_in (by simp only [Array.size_replicate]; exact h9) (getD_replicate_false _ _)⟩
  have hl3 : ∀ j : Nat, l2[j]? = ops.toArray[n1 + j]? := fun j => by subst hl2; simp
  have hnl : n1 < ops.length := by simpa using hn
  have hsum : ops.toArray.size = n1 + l2.length := by subst hl2; simp; omega
  have := wpAnyIn_of_IT (S := S) (n := n) (m := 0) (dd := dd) (l2 := l2) hs hc hn hf (by simpa using hin') (fun k o hk ho => hop k o hk (by simpa using ho)) hl3 hB2
    (fun L σ' w' h1 h2 h3 => by
      have hw := hend L σ' w' h1 h2 h3
      unfold WL at hw
      refine hw ?_
      rw [List.all_eq_true] at hin' ⊢
      intro x hx
      subst hl2
      exact hin' x (List.mem_of_mem_drop hx))
    n1 _ σ { w with drawn := w.drawn + 1 } inv0 (by simp; omega) (by rw [e0]; exact h0 _ (Frm.drawn (Frm.refl w)))
  rw [← hsum] at this
  exact this
variable {X : Type}
/-- a region that draws: a plan for the first n1, the rest in order -/
theorem wcplant [hm : Mix P] {w0 : World} {id : Nat} {ops l1 l2 : List Oper} {x : Oper} {cs b : List Plot} (n1 : Nat) (p : PlanB X) (d0 : PD X) (hS : Sep w0 w (b ++ cs)) (hb : (List.range ops.length).flatMap p.base = b)
    (hF : ∀ (j : Nat) (oj : Oper) (a a' : Nat → PD X), ops[j]? = some oj → a j = a' j → (∀ i, bindsOn oj i = true → a i = a' i) → p.fact j a → p.fact j a')
    (hR : p.Rules P w0 cs σ ops 0 l1)
    (hend : ∀ (a : Nat → PD X) σ' w', (∀ s, (∀ (k : Nat) (o : Oper), l1[k]? = some o → o.dst ≠ some s) → σ' s = σ s) → (∀ (k : Nat) (o : Oper), l1[k]? = some o → (∀ d, o.dst = some d → σ' d = (a k).v) ∧ p.fact k a) →
      Sep w0 w' (((List.range n1).filter fun j => (p.con j).isNone).flatMap (fun j => p.pl j (a j)) ++ cs) → WL P n ds ops.toArray Q (x :: l2) σ' w')
    (hp : Parts n1 ops l1 x l2 := by repeat (first | exact Go.Sv.Parts.zero | apply Go.Sv.Parts.step)) (hB : planB p.con ops = true := by kernel_rfl) (hcon : ((List.range n1).all fun j => match p.con j with | some c => decide (c < n1) | none => true) = true := by kernel_rfl) (hbase : (List.range' n1 (ops.length - n1)).flatMap p.base = [] := by rfl)
    (hBt : Region.lexTailB .any ops.toArray n1 = true := by kernel_rfl) (hB2 : Region.seqB .any ops.toArray (x :: l2).length n1 (heads n1 ops.toArray.size) = true := by kernel_rfl) (hf : fwdB ops.toArray = true := by kernel_rfl) : WC P n ds (.region id ops.toArray true) Q σ w := by
  have hl : ops.take n1 = l1 ∧ ops.drop n1 = x :: l2 := by
    obtain ⟨h1, h2⟩ := hp
    subst h1
    subst h2
    exact ⟨List.take_left, List.drop_left⟩
  have hn1 : n1 < ops.length := by
    simp only [Region.lexTailB, Bool.and_eq_true, decide_eq_true_eq] at hBt
    simpa using hBt.1.1.1.2
  have hget : ∀ k o, k < n1 → (ops[k]? = some o ↔ l1[k]? = some o) := by
    intro k o hk
    rw [← hl.1, List.getElem?_take, if_pos hk]
  have hlen : l1.length = n1 := by rw [← hl.1, List.length_take]; omega
  have hsteps := planb_steps hB hF l1 0 (fun j o h => by
    rw [Nat.zero_add]
    have hj : j < n1 := by rw [← hlen]; exact (List.getElem?_eq_some_iff.1 h).1
    exact (hget j o hj).2 h) hR
  refine wcdrawit n1 (p.S w0 cs σ ops) (fun wd hwd => ⟨fun _ _ => rfl, fun _ => d0, fun _ _ _ h => absurd h Bool.false_ne_true, ?_⟩) (fun k o hk ho => ?_) ?_ hl.2 hBt hB2 hf
  · have e : p.mem ops.length (fun _ => false) (fun _ => d0) = [] := by
      unfold PlanB.mem
      rw [List.filter_eq_nil_iff.2 (by intro j _; simp [PlanB.live])]
      rfl
    have e2 : p.bmem ops.length (fun _ => false) = b := by
      rw [← hb]; unfold PlanB.bmem
      rw [List.filter_eq_self.2 (by intro j _; rfl)]
    rw [e, e2]
    exact hS.grow hwd
  · have := stepsI_get hsteps k o ((hget k o hk).1 ho)
    rwa [Nat.zero_add] at this
  · rintro L σ' w' hL1 hL2 ⟨hσ, a, hA, hS'⟩
    have hk1 : ∀ {k : Nat} {o : Oper}, l1[k]? = some o → k < n1 := fun h => by rw [← hlen]; exact (List.getElem?_eq_some_iff.1 h).1
    refine hend a σ' w' (fun s hs => hσ s fun k o hk hLk => ?_) (fun k o hk => hA k o ((hget k o (hk1 hk)).2 hk) (hL1 k (hk1 hk))) ?_
    · rcases Nat.lt_or_ge k n1 with h | h
      · exact hs k o ((hget k o h).1 hk)
      · rw [hL2 k h] at hLk; cases hLk
    · have e2 : p.bmem ops.length L = [] := by
        unfold PlanB.bmem
        have hr : (List.range ops.length).filter (fun j => !L j) = List.range' n1 (ops.length - n1) := by
          have h1 : List.range ops.length = List.range n1 ++ List.range' n1 (ops.length - n1) := by
            rw [List.range_eq_range', List.range_eq_range']
            have := List.range'_append (s := 0) (m := n1) (n := ops.length - n1) (step := 1)
            simp only [Nat.zero_add, Nat.one_mul] at this
            rw [this]
            congr 1; omega
          rw [h1, List.filter_append, List.filter_eq_nil_iff.2 (by intro j hj; simp [hL1 j (List.mem_range.1 hj)]), List.filter_eq_self.2 (by intro j hj; simp [hL2 j (List.mem_range'_1.1 hj).1])]
          rfl
        rw [hr, hbase]
      rw [e2] at hS'
      refine hS'.perm (List.Perm.append_right _ (List.Perm.of_eq ?_))
      unfold PlanB.mem
      congr 1
      have h1 : List.range ops.length = List.range n1 ++ List.range' n1 (ops.length - n1) := by
        rw [List.range_eq_range', List.range_eq_range']
        have := List.range'_append (s := 0) (m := n1) (n := ops.length - n1) (step := 1)
        simp only [Nat.zero_add, Nat.one_mul] at this
        rw [this]
        congr 1; omega
      have h9 : (List.range' n1 (ops.length - n1)).filter (p.live L) = [] := List.filter_eq_nil_iff.2 (by intro j hj; simp [PlanB.live, hL2 j (List.mem_range'_1.1 hj).1])
      rw [h1, List.filter_append, h9, List.append_nil]
      refine List.filter_congr fun j hj => ?_
      have h2 := hL1 j (List.mem_range.1 hj)
      simp only [PlanB.live, h2, Bool.true_and]
      cases hc : p.con j with
      | none => rfl
      | some c =>
        have := List.all_eq_true.1 hcon j hj
        rw [hc] at this
        simp only [decide_eq_true_eq] at this
        simp [hL1 c this]
end
end Go.Sv

/-
  Package event: what Walk answers, looped over.
-/
set_option linter.unusedSimpArgs false
set_option linter.unusedVariables false
set_option linter.unnecessarySimpa false
namespace Go.Sv
open Go Go.RowKit
/-- all blocks of a list as they were -/
def pKeep (w1 : World) (F : List Nat) : Plot where
  foot := F.filter fun b => decide (b < w1.heap.size)
  ok w := ∀ b ∈ F, b < w1.heap.size → w.heap[b]? = w1.heap[b]?
  view := (none, [])
  loc _ _ h hb := fun b hF hlt => (hb b (List.mem_filter.2 ⟨hF, by simpa using hlt⟩)).trans (h b hF hlt)
  lt w h x hx := by
    obtain ⟨h1, h2⟩ := List.mem_filter.1 hx
    have h3 : x < w1.heap.size := by simpa using h2
    have h4 := h x h1 h3
    rw [Array.getElem?_eq_getElem h3] at h4
    exact (Array.getElem?_eq_some_iff.1 h4).1
  sg _ _ := .inl rfl
def feet (cs : List Plot) : List Nat := cs.flatMap Plot.foot
/-- the blocks that belong to no piece -/
def others (w0 w1 : World) (cs : List Plot) : List Nat := (List.range w1.heap.size).filter fun x => decide (w0.heap.size ≤ x) && !(decide (x ∈ feet cs))
section
variable {w0 w1 w2 w w' : World} {cs ds : List Plot} {B : Nat}
theorem Sep.keep (h : Sep w0 w1 cs) : Sep w0 w1 (pKeep w1 (others w0 w1 cs) :: cs) := by
  refine ⟨h.frm, ?_, ?_, ?_⟩
  · intro c hc
    rcases List.mem_cons.1 hc with rfl | hc
    · exact fun _ _ _ => rfl
    · exact h.ok c hc
  · intro c hc x hx
    rcases List.mem_cons.1 hc with rfl | hc
    · have := (List.mem_filter.1 (List.mem_filter.1 hx).1).2
      simp only [Bool.and_eq_true, decide_eq_true_eq] at this
      exact this.1
    · exact h.low c hc x hx
  · rw [List.pairwise_cons]
    refine ⟨fun c hc x hx hx' => ?_, h.apart⟩
    have := (List.mem_filter.1 (List.mem_filter.1 hx).1).2
    simp only [Bool.and_eq_true, Bool.not_eq_true', decide_eq_false_iff_not] at this
    exact this.2 (List.mem_flatMap.2 ⟨c, hc, hx'⟩)
theorem Sep.keep1 (h : Sep w0 w1 cs) : ∃ kp : Plot, kp = pKeep w1 (others w0 w1 cs) ∧ Sep w0 w1 (kp :: cs) := ⟨_, rfl, h.keep⟩
/-- .. then only the pieces were written -/
theorem Sep.kept (h : Sep w0 w1 cs) (h2 : Sep w0 w2 ds) (hk : pKeep w1 (others w0 w1 cs) ∈ ds) (hsz : w1.heap.size ≤ w2.heap.size) : Le (feet cs) w1 w2 := by
  refine ⟨h2.frm.os.trans h.frm.os.symm, h2.frm.tape.trans h.frm.tape.symm, h2.frm.output.trans h.frm.output.symm, hsz, fun k hk1 hk2 => ?_⟩
  rcases Nat.lt_or_ge k w0.heap.size with h3 | h3
  · rw [h2.frm.block k h3, h.frm.block k h3]
  · exact h2.ok _ hk k (List.mem_filter.2 ⟨List.mem_range.2 hk1, by simp [h3, hk2]⟩) hk1
theorem Sep.same (h : Sep w0 w1 cs) (hs : Same B w1 w2) (h0 : w0.heap.size ≤ B) (hB : ∀ x ∈ feet cs, x < B) : Sep w0 w2 cs :=
  ⟨⟨hs.os.trans h.frm.os, hs.tape.trans h.frm.tape, hs.output.trans h.frm.output, Nat.le_trans h0 hs.size, fun k hk => (hs.block k (Nat.lt_of_lt_of_le hk h0)).trans (h.frm.block k hk)⟩,
    fun c hc => c.loc w1 w2 (h.ok c hc) fun x hx => hs.block x (hB x (List.mem_flatMap.2 ⟨c, hc, hx⟩)), h.low, h.apart⟩
theorem Same.mono {B B' : Nat} (h : Same B w w') (hb : B' ≤ B) : Same B' w w' := ⟨h.os, h.tape, h.output, Nat.le_trans hb h.size, fun k hk => h.block k (Nat.lt_of_lt_of_le hk hb)⟩
theorem Same.of_frm1 (h : Frm w w') : Same w.heap.size w w' := ⟨h.os, h.tape, h.output, h.size, h.block⟩
end
/-- is a function nil? -/
theorem y_fnil {P : Program} {w : World} {σ : Env} {d : Option Tmp} {ty t t' : TypeId} {pos : String} {af : Array Edge} {g : Option (Nat × Bool)} {x y : Operand} {f : Fn} {a1 c1 : Array Value} {ps rs : Array TypeId} {vd : Bool} (hu : P.underlying t = some (.func ps rs vd)) (hx : evl σ x = .func f a1 c1) (hy : evl σ y = .nilFunc) : Y P σ ⟨d, .binOp .eql t x y t', ty, pos, af, g⟩ w (.bool false) w := by
  refine Y.val ?_
  have h : ∀ k : Nat, (Op.equalIn (k + 1) t (.func f a1 c1) .nilFunc).run P w = .ok false w := fun k => by simp [Op.equalIn, run_underlying hu]
  simp only [execOp, hx, hy]
  simp [eqGuard, binOp, Op.equal, Op.maxDepth, h 9999]
end Go.Sv
namespace Go.Proofs.YthgbpgjpnaanlaaDoor
open Go Go.Sv Go.RowKit
def seeP (b2 b4 lr : Nat) (d : Int) (e : Ev) (p : Option Addr) (c : Nat) : PlanB (Option Addr × Nat) where
  pl k d := match k with
    | 3 => [pRow 2 d.x.1 e.attrs.length d.x.2 (e.attrs.flatMap At.cells)]
    | _ => []
  con k := match k with
    | _ => none
  base k := match k with
    | _ => []
  fact k a := match k with
    | 0 => (a 0).v = .func (.yield lr) #[] #[]
    | 1 => (a 1).v = int d
    | 2 => (a 2).v = .agg ⟨e.cells p c⟩
    | 3 => (a 3).v = .agg ⟨e.cells (a 3).x.1 (a 3).x.2⟩
    | 4 => True
    | 5 => True
    | _ => True
instance : Agg Tryd.prog 78 false := ⟨_, Tryd.underlying78, rfl⟩
set_option maxHeartbeats 2000000 in
theorem see_ok (lr b2 : Nat) (d : Int) (e : Ev) (p : Option Addr) (c : Nat) (hsm : e.small) (R : Bool → World → Prop) (w : World) (ho : Own w b2 [.func (.yield lr) #[] #[]]) (hat : Im [] w p (e.attrs.flatMap At.cells))
    (hY : ∀ q cc w', Sep w w' [pRow 2 q e.attrs.length cc (e.attrs.flatMap At.cells)] → Yld Tryd.prog lr [int d, .agg ⟨e.cells q cc⟩] w' R) :
    CallsR Tryd.prog 50 #[int d, .agg ⟨e.cells p c⟩, ptrAt (pb b2) 0] w fun v w' => ∃ bb, v = .bool bb ∧ R bb w' := by
  have hS := Sep.start w
  refine enter (l := [int d, .agg ⟨e.cells p c⟩, ptrAt (pb b2) 0]) Tryd.func50 rfl Tryd.ntmps50 (by kernel_rfl) rfl ?_
  refine sgo ?_
  refine sbox (v := .agg ⟨e.cells p c⟩) hS fun b4 w1 hS => ?_
  replace hS : Sep w w1 [pOwn b4 (e.cells p c)] := hS
  refine sgo ?_
  replace hS : Sep w w1 ([] ++ [pOwn b4 (e.cells p c)]) := hS
  refine wcplant (b := []) 4 (seeP b2 b4 lr d e p c) ⟨.nilIface, none, 0, 0, (none, 0)⟩ hS rfl (fun j oj a a' hj he hd h => ?_) ?_ ?_
  · have hjl : j < 6 := (List.getElem?_eq_some_iff.1 hj).1
    match j, hjl with
    | 0, _ | 1, _ | 2, _ | 3, _ | 4, _ | 5, _ => first | (simp only [seeP] at h ⊢; rw [← he]; exact h) | exact h
  · refine ⟨?_, ?_, ?_, ?_, trivial⟩
    · intro a σ' w' rest hσ hdep hS'   -- 0: load; pieces:  ..
      have e2 : σ' 2 = ptrAt (pb b2) 0 := (hσ 2 (notDstB rfl)).trans rfl
      exact rule_y (y_load e2 (ho.frm hS'.frm).sg rfl) ⟨⟨.func (.yield lr) #[] #[], none, 0, 0, (none, 0)⟩, rfl, rfl, hS'⟩
    · intro a σ' w' rest hσ hdep hS'   -- 1: move; pieces:  ..
      have e0 : σ' 0 = int d := (hσ 0 (notDstB rfl)).trans rfl
      exact rule_e [(0, _)] ⟨e0, trivial⟩ ⟨⟨int d, none, 0, 0, (none, 0)⟩, rfl, rfl, hS'⟩
    · intro a σ' w' rest hσ hdep hS'   -- 2: load; pieces:  ..
      have e4 : σ' 4 = ptrAt (pb b4) 0 := (hσ 4 (notDstB rfl)).trans rfl
      exact rule_y (y_loada e4 (Sep.sgv hS' 0 rfl) (Nat.le_of_ble_eq_true rfl) ⟨_, rfl⟩) ⟨⟨.agg ⟨e.cells p c⟩, none, 0, 0, (none, 0)⟩, rfl, rfl, hS'⟩
    · intro a σ' w' rest hσ hdep hS'   -- 3: call; pieces:  ..
      have f2 := (hdep 2 _ rfl rfl).2
      have e8 := ((hdep 2 _ rfl rfl).1 8 rfl).trans f2
      refine rule_call (vals := [.agg ⟨e.cells p c⟩]) (evCopied_ok e p c hsm w w' _ hS' (hat.sep hS')) (fun v w2 hR => ?_) (am1 e8)
      obtain ⟨q2, c2, rfl, -, hS2⟩ := hR
      exact ⟨⟨.agg ⟨e.cells q2 c2⟩, none, 0, 0, (q2, c2)⟩, rfl, rfl, hS2⟩
  · intro a σ' w' hσ hA' hS'
    have h0 := hA' 0 _ rfl
    have h1 := hA' 1 _ rfl
    have h3 := hA' 3 _ rfl
    rw [frameOf (σ := σ') [(6, .func (.yield lr) #[] #[]), (7, int d), (9, .agg ⟨e.cells (a 3).x.1 (a 3).x.2⟩)] ⟨(h0.1 6 rfl).trans h0.2, (h1.1 7 rfl).trans h1.2, (h3.1 9 rfl).trans h3.2, trivial⟩]
    replace hS : Sep w w' [pRow 2 (a 3).x.1 e.attrs.length (a 3).x.2 (e.attrs.flatMap At.cells), pOwn b4 (e.cells p c)] := hS'
    refine wlyield (hY _ _ w' (hS.drop 1 rfl)) fun bb w2 h2 => ?_
    refine sgo ?_
    (first | refine fp1 (.inl rfl) rfl rfl ?_ | refine fp2 (.inl rfl) rfl rfl rfl ?_ | refine fp3 (.inl rfl) rfl rfl rfl rfl ?_ | refine fp0 (.inr rfl) rfl ?_ | refine fp0 (.inl rfl) rfl ?_ | refine fp1 (.inr rfl) rfl rfl ?_)
    exact ⟨bb, rfl, h2⟩
set_option maxHeartbeats 2000000 in
theorem walk1_ok (lr bW : Nat) (ns : List EvM) (q : Option Addr) (cc : Nat) (hn : ns.length ≤ 1048576) (hs : ∀ m ∈ ns, m.e.small) (B : Nat) (J Jx : Nat → World → Prop)
    (hJE : ∀ i w, J i w → Own w bW [.slice q ns.length cc] ∧ Evs w q ns ∧ Asc w) (hst : ∀ i w1 w2, J i w1 → Same B w1 w2 → J i w2) (hstx : ∀ i w1 w2, Jx i w1 → Same B w1 w2 → Jx i w2)
    (hY : ∀ i w1 m, J i w1 → ns[i]? = some m → (lkI ns i).err = 0 → (lkI ns (i + 1)).err = 0 → ∀ q2 c2 w', Sep w1 w' [pRow 2 q2 m.e.attrs.length c2 (m.e.attrs.flatMap At.cells)] → Yld Tryd.prog lr [int (lkI ns i).stack.length, .agg ⟨m.e.cells q2 c2⟩] w' fun bb w2 => ∃ N, Le N w1 w2 ∧ (∀ x ∈ N, x < B) ∧ if bb then J (i + 1) w2 else Jx i w2)
    (w : World) (hB : B = w.heap.size) (h0 : J 0 w) :
    CallsR Tryd.prog 49 #[.func (.yield lr) #[] #[], ptrAt (pb bW) 0] w fun _ w' => (J (lkR (evs ns)).good w') ∨ ∃ i, i < ns.length ∧ (lkI ns (i + 1)).err = 0 ∧ Jx i w' := by
  have hW := (hJE 0 w h0).1
  refine enter (l := [.func (.yield lr) #[] #[], ptrAt (pb bW) 0]) Tryd.func49 rfl Tryd.ntmps49 (by kernel_rfl) rfl ?_
  refine sgo ?_
  refine wlbox (v := .func (.yield lr) #[] #[]) (hx := rfl) fun b2 w2 hb2 o2 hf2 => ?_
  replace o2 : Own w2 b2 [.func (.yield lr) #[] #[]] := o2
  have hJ2 := hst 0 _ _ h0 (hB ▸ Same.of_frm1 hf2)
  have hsg := (hJE 0 w2 hJ2).1.sg
  refine sgo ?_
  refine wlcall (walk_ok ns q cc hn hs 50 [ptrAt (pb b2) 0] w2.heap.size (fun i w' => J i w' ∧ Own w' b2 [.func (.yield lr) #[] #[]]) Jx (fun i w' h => (hJE i w' h.1).2)
    (fun i w1 w' h h' => ⟨hst i w1 w' h.1 (h'.mono (by rw [hB]; exact hf2.size)), h.2.same h' o2.lt⟩) (fun i w1 w' h h' => hstx i w1 w' h (h'.mono (by rw [hB]; exact hf2.size)))
    (fun i w1 m h hx hk0 hk1 => ?_) w2 rfl ⟨hJ2, o2⟩) ?_
  · have hmem := List.mem_of_getElem? hx
    have hat := (hJE i w1 h.1).2.1.each m hmem
    refine CallsR.mono (see_ok lr b2 (lkI ns i).stack.length m.e m.p m.c (hs m hmem) _ w1 h.2 hat (hY i w1 m h.1 hx hk0 hk1)) ?_
    rintro v w3 ⟨bb, rfl, N, hl, hN, hp⟩
    refine ⟨bb, N, rfl, hl, fun x hx => Nat.lt_of_lt_of_le (hN x hx) (by rw [hB]; exact hf2.size), ?_⟩
    cases bb with
    | false => exact hp
    | true =>
      simp only [if_true] at hp ⊢
      refine ⟨hp, h.2.le hl fun hm => ?_⟩
      have := hN b2 hm
      omega
  · rintro v w' (⟨⟨h1, _⟩, h2, rfl⟩ | ⟨⟨h1, _⟩, h2, q1, c1, w1, rfl, _, _⟩ | ⟨i, q1, n1, c1, hi, hk, h1, rfl⟩)
    · refine sgo ?_
      (first | refine fp1 (.inl rfl) rfl rfl ?_ | refine fp2 (.inl rfl) rfl rfl rfl ?_ | refine fp3 (.inl rfl) rfl rfl rfl rfl ?_ | refine fp0 (.inr rfl) rfl ?_ | refine fp0 (.inl rfl) rfl ?_ | refine fp1 (.inr rfl) rfl rfl ?_)
      exact .inl h1
    · refine sgo ?_
      (first | refine fp1 (.inl rfl) rfl rfl ?_ | refine fp2 (.inl rfl) rfl rfl rfl ?_ | refine fp3 (.inl rfl) rfl rfl rfl rfl ?_ | refine fp0 (.inr rfl) rfl ?_ | refine fp0 (.inl rfl) rfl ?_ | refine fp1 (.inr rfl) rfl rfl ?_)
      rw [(lk_ok h2).2.1, evs_len]
      exact .inl h1
    · refine sgo ?_
      (first | refine fp1 (.inl rfl) rfl rfl ?_ | refine fp2 (.inl rfl) rfl rfl rfl ?_ | refine fp3 (.inl rfl) rfl rfl rfl rfl ?_ | refine fp0 (.inr rfl) rfl ?_ | refine fp0 (.inl rfl) rfl ?_ | refine fp1 (.inr rfl) rfl rfl ?_)
      exact .inr ⟨i, hi, hk, h1⟩
end Go.Proofs.YthgbpgjpnaanlaaDoor

/-
  strings.Join (and Grow of a builder that has not been written).
-/
set_option linter.unusedSimpArgs false
set_option linter.unusedVariables false
set_option linter.unnecessarySimpa false
namespace Go.Sv
open Go Go.RowKit
section
variable {P : Program} {T E : TypeId} {w w' : World} {b : Nat} {q : Option Addr} {c : Nat} {s : List UInt8}
end
end Go.Sv
namespace Go.Proofs.YthgbpgjpnaanlaaDoor
open Go Go.Sv Go.RowKit

/-- texts, put together -/
def joinR (sep : List UInt8) : List (List UInt8) → List UInt8
  | [] => []
  | x :: r => x ++ r.flatMap fun y => sep ++ y
def tlen (l : List (List UInt8)) : Nat := (l.map List.length).sum
end Go.Proofs.YthgbpgjpnaanlaaDoor

/-
  Package event: Paths; sieveref18: Paths.
-/
set_option linter.unusedSimpArgs false
set_option linter.unusedVariables false
set_option linter.unnecessarySimpa false
namespace Go.Sv
open Go Go.RowKit
section
variable {P : Program} {w w' w0 : World} {t tx t' ty e e' : TypeId} {z : Value} {size bytes n m c c' k : Nat} {p q : Option Addr} {xs news : List Value} {x y : Operand} {cs : List Plot} {σ : Env} {d : Option Tmp} {pos : String} {af : Array Edge}
/-- a field of a struct's value -/
theorem y_fldv {i off ft : Nat} {cells : Array Value} {v : Value} {g : Option (Nat × Bool)} [hf : Fld P t i off ft] [ha : Agg P ft false] [hi : Inf P ft z 1 bytes] (hx : evl σ x = .agg cells) (hc : cells[off]? = some v) : Y P σ ⟨d, .field t x i, ty, pos, af, g⟩ w v w := by
  obtain ⟨fs, f, h1, h2, h3, h4⟩ := hf.ok
  refine Y.val ?_
  simp only [execOp, hx, Instr.field, Sem.run_bind, underlying, run_program, Result.andThen_ok, h1, Sem.run_pure, h2]
  subst h3
  subst h4
  simp [asAgg, part, run_isAgg (P := P) (t := f.type), hc]
end
end Go.Sv
namespace Go.Proofs.YthgbpgjpnaanlaaDoor
open Go Go.Sv Go.RowKit

/-- the way of an element in others -/
def pthR (st : List (List UInt8)) (x : List UInt8) : List UInt8 := (st.flatMap fun n => n ++ [47]) ++ x
def nmw (st : List (List UInt8)) : Nat := (st.map fun n => n.length + 1).sum
/-- where elements stand, of the first i -/
def pathsI (ms : List EvM) : Nat → List (List UInt8)
  | 0 => []
  | i + 1 => pathsI ms i ++ (match ms[i]? with | some m => if m.e.kind = 1 ∨ m.e.kind = 3 then [pthR (lkI ms i).stack m.e.name] else [] | none => [])
def pthP (b7 b9 : Nat) (q q6 : Option Addr) (cc c6 : Nat) (st out : List (List UInt8)) (nm : List UInt8) : PlanB Unit where
  pl k d := match k with
    | 12 => [pOwn d.b [str nm]]
    | 13 => [pRow 1 d.p (st.length + 1) d.c (strs st ++ [str nm])]
    | 15 => [pOwn d.b [str (pthR st nm)]]
    | 16 => [pRow 1 d.p (out.length + 1) d.c (strs out ++ [str (pthR st nm)])]
    | _ => []
  con k := match k with
    | 12 => some 13
    | 13 => some 14
    | 15 => some 16
    | _ => none
  base k := match k with
    | 16 => [pRow 1 q6 out.length c6 (strs out)]
    | _ => []
  fact k a := match k with
    | 0 => (a 0).v = .slice q6 out.length c6
    | 1 => (a 1).v = ptrAt (pb b7) 0
    | 2 => (a 2).v = .slice q st.length cc
    | 3 => (a 3).v = ptrAt (pb b7) 0
    | 4 => (a 4).v = .slice q st.length cc
    | 5 => (a 5).v = int st.length
    | 6 => (a 6).v = ptrAt (pb b7) 0
    | 7 => (a 7).v = .slice q st.length cc
    | 8 => (a 8).v = int st.length
    | 9 => (a 9).v = .slice q st.length st.length
    | 10 => (a 10).v = ptrAt (pb b9) 1
    | 11 => (a 11).v = str nm
    | 12 => (a 12).v = .slice (pb (a 12).b) 1 1
    | 13 => (a 13).v = .slice (a 13).p (st.length + 1) (a 13).c
    | 14 => (a 14).v = str (pthR st nm)
    | 15 => (a 15).v = .slice (pb (a 15).b) 1 1
    | 16 => (a 16).v = .slice (a 16).p (out.length + 1) (a 16).c
    | 17 => (a 17).v = .slice (a 16).p (out.length + 1) (a 16).c
    | _ => True
def slashes (st : List (List UInt8)) (j : Nat) : List UInt8 := (st.take j).flatMap fun n => n ++ [47]
theorem fm_take {α : Type} {f : α → List Value} {k : Nat} (h : ∀ x, (f x).length = k) (l : List α) (i : Nat) : (l.flatMap f).take (i * k) = (l.take i).flatMap f := by
  induction l generalizing i with
  | nil => simp
  | cons x l ih =>
    cases i with
    | zero => simp
    | succ i =>
      rw [List.flatMap_cons, List.take_succ_cons, List.flatMap_cons, ← ih i, List.take_append, h, List.take_of_length_le (by rw [h, Nat.succ_mul]; omega)]
      congr 2
      rw [Nat.succ_mul]; omega
theorem evs_take (ms : List EvM) (i : Nat) : evs (ms.take i) = (evs ms).take i := by rw [evs, evs, List.map_take]
theorem Evs.take {w : World} {p : Option Addr} {ms : List EvM} (h : Evs w p ms) (i : Nat) : Evs w p (ms.take i) := by
  refine ⟨?_, fun m hm => h.each m (List.mem_of_mem_take hm)⟩
  have := h.im.take (i * 4)
  rwa [fm_take EvM.len] at this
end Go.Proofs.YthgbpgjpnaanlaaDoor

/-
  sievelaw18: EventWraps.
-/
set_option linter.unusedSimpArgs false
set_option linter.unusedVariables false
set_option linter.unnecessarySimpa false
namespace Go.Proofs.YthgbpgjpnaanlaaDoor
open Go Go.Sv Go.RowKit

/-- what is known in the region that puts the wanted events together -/
structure WrD where
  v : Value
  b : Nat
  q : Option Addr
  c : Nat
  ns : List EvM
def wrP (n : List UInt8) (es : List At) (pa : Option Addr) (ca : Nat) (ms : List EvM) (p : Option Addr) (c : Nat) : Plan WrD where
  val _ d := d.v
  pl k d := match k with
    | 1 => [pOwn d.b (EvM.cells ⟨firstE n es, pa, ca⟩)]
    | 3 => [pRow 4 d.q d.ns.length d.c (d.ns.flatMap EvM.cells), pMany (d.ns.map EvM.row)]
    | 4 => [pRow 4 d.q (1 + d.ns.length) d.c (EvM.cells ⟨firstE n es, pa, ca⟩ ++ d.ns.flatMap EvM.cells), pMany (d.ns.map EvM.row)]
    | 7 => [pOwn d.b (closeM n).cells]
    | 8 => [pRow 4 d.q (1 + d.ns.length + 1) d.c (EvM.cells ⟨firstE n es, pa, ca⟩ ++ d.ns.flatMap EvM.cells ++ (closeM n).cells), pMany (d.ns.map EvM.row)]
    | 9 => [pRow 4 d.q (1 + d.ns.length + 1) d.c (EvM.cells ⟨firstE n es, pa, ca⟩ ++ d.ns.flatMap EvM.cells ++ (closeM n).cells), pMany (d.ns.map EvM.row)]
    | _ => []
  con k := match k with
    | 1 => some 4
    | 3 => some 4
    | 4 => some 8
    | 7 => some 8
    | 8 => some 9
    | _ => none
  fact k a := match k with
    | 0 => (a 0).v = .agg ⟨EvM.cells ⟨firstE n es, pa, ca⟩⟩
    | 1 => (a 1).v = .slice (pb (a 1).b) 1 1
    | 2 => (a 2).v = .slice p ms.length c
    | 3 => (a 3).v = .slice (a 3).q (a 3).ns.length (a 3).c ∧ evs (a 3).ns = evs ms
    | 4 => (a 4).v = .slice (a 4).q (1 + (a 4).ns.length) (a 4).c ∧ evs (a 4).ns = evs ms
    | 5 => (a 5).v = str n
    | 6 => (a 6).v = .agg ⟨(closeM n).cells⟩
    | 7 => (a 7).v = .slice (pb (a 7).b) 1 1
    | 8 => (a 8).v = .slice (a 8).q (1 + (a 8).ns.length + 1) (a 8).c ∧ evs (a 8).ns = evs ms
    | 9 => (a 9).v = .slice (a 9).q (1 + (a 9).ns.length + 1) (a 9).c ∧ evs (a 9).ns = evs ms
    | _ => True
end Go.Proofs.YthgbpgjpnaanlaaDoor

/-
  sievelaw18: EventTrims.
-/
set_option linter.unusedSimpArgs false
set_option linter.unusedVariables false
set_option linter.unnecessarySimpa false
namespace Go.Sv
open Go Go.RowKit
end Go.Sv
namespace Go.Proofs.YthgbpgjpnaanlaaDoor
open Go Go.Sv Go.RowKit

theorem evs_get {ms ns : List EvM} (h : evs ms = evs ns) {i : Nat} {m : EvM} (hx : ms[i]? = some m) : ∃ n, ns[i]? = some n ∧ n.e = m.e := by
  have h1 := evs_at hx
  rw [h] at h1
  unfold evs at h1
  rw [List.getElem?_map] at h1
  cases hn : ns[i]? with
  | none => rw [hn] at h1; cases h1
  | some n => rw [hn] at h1; exact ⟨n, rfl, by simpa using h1⟩
theorem evw_evs {ms ns : List EvM} (h : evs ms = evs ns) : evw ms = evw ns := by
  have : ∀ l : List EvM, evw l = ((evs l).map Ev.wt).sum := fun l => by unfold evw evs; rw [List.map_map]; rfl
  rw [this, this, h]
end Go.Proofs.YthgbpgjpnaanlaaDoor

/-
  Loops and cuts where what is deferred changes; a result that lies in a cell.
-/
set_option linter.unusedSimpArgs false
set_option linter.unusedVariables false
set_option linter.unnecessarySimpa false
namespace Go.Sv
open Go Go.RowKit
section
variable {P : Program} {n : Nat} {Q : Exit → Ctx → Env → World → Prop} {σ : Env} {w : World} {c : Code}
/-- a loop whose rounds defer -/
theorem WC_loopd {X : Type} (sl : X → List (Nat × Value)) (cx : X → List Deferred) (I : X → World → Prop) (μ : X → Nat) (x0 : X) (h0 : Has σ (sl x0)) (hI : I x0 w)
    (round : ∀ (x : X) (w : World) (ρ : Env), I x w → WC P n ⟨cx x, none⟩ c (thn (fun ds' σ' w' => ∃ x', ds' = ⟨cx x', none⟩ ∧ Has σ' (sl x') ∧ I x' w' ∧ μ x' < μ x) Q) (updL ρ (sl x)) w) : WC P n ⟨cx x0, none⟩ (.loop c) Q σ w := by
  unfold WC
  intro hin
  refine wp_loop' (fun a w' m => ∃ x σ', a = act n (cx x) σ' ∧ Has σ' (sl x) ∧ I x w' ∧ μ x = m) ⟨x0, σ, rfl, h0, hI, rfl⟩ ?_
  rintro a w' m ⟨x, σ', rfl, hh, hi, rfl⟩
  have h1 := round x w' σ' hi
  unfold WC at h1
  have h1 := h1 hin
  rw [updL_has hh] at h1
  refine wpIn_mono h1 ?_
  rintro e a' w'' ⟨dd, σ'', rfl, hq⟩
  unfold thn at hq
  cases e <;> try exact ⟨dd, σ'', rfl, hq⟩
  obtain ⟨x', hds, h2, h3, h4⟩ := hq
  have hdd : dd = cx x' := congrArg Ctx.ds hds
  subst hdd
  exact ⟨_, ⟨x', σ'', rfl, h2, h3, rfl⟩, h4⟩
theorem wcloopd {X : Type} (sl : X → List (Nat × Value)) (cx : X → List Deferred) (I : X → World → Prop) (μ : X → Nat) (x0 : X) {ds : Ctx} (hds : ds = ⟨cx x0, none⟩) (h0 : Has σ (sl x0)) (hI : I x0 w)
    (round : ∀ (x : X) (w : World) (ρ : GE), I x w → WC P n ⟨cx x, none⟩ c (thn (fun ds' σ' w' => ∃ x', ds' = ⟨cx x', none⟩ ∧ Has σ' (sl x') ∧ I x' w' ∧ μ x' < μ x) Q) (real (updGL ρ (sl x))) w) : WC P n ds (.loop c) Q σ w := by
  subst hds
  exact WC_loopd sl cx I μ x0 h0 hI fun x w ρ hi => by rw [real_updL]; exact round x w _ hi
/-- a cut behind a piece of code that stands in a block, where things are deferred -/
theorem wcutk {i : Nat} {ds : Ctx} {K : Ctx → Env → World → Prop} {X : Type} (sl : X → List (Nat × Value)) (cx : X → List Deferred) (I : X → World → Prop)
    (ha : WC P n ds c (blk i (thn (fun ds' σ w => ∃ x, ds' = ⟨cx x, none⟩ ∧ Has σ (sl x) ∧ I x w) Q)) σ w) (hb : ∀ x w (ρ : GE), I x w → K ⟨cx x, none⟩ (real (updGL ρ (sl x))) w) : WC P n ds c (blk i (thn K Q)) σ w := by
  refine WC_mono ha ?_
  have hn : ∀ c' σ' w', thn (fun ds' σ w => ∃ x, ds' = ⟨cx x, none⟩ ∧ Has σ (sl x) ∧ I x w) Q .normal c' σ' w' → thn K Q .normal c' σ' w' := by
    intro c' σ' w' h
    unfold thn at h ⊢
    obtain ⟨x, rfl, h1, h2⟩ := h
    have := hb x w' (lif σ') h2
    rw [← real_updL, updL_has h1] at this
    exact this
  intro e c' σ' w' h
  unfold blk at h ⊢
  cases e with
  | normal => exact hn _ _ _ h
  | exit j =>
    dsimp only at h ⊢
    cases hj : Nat.beq j i with
    | true => rw [hj] at h; exact hn _ _ _ h
    | false => rw [hj] at h; unfold thn at h ⊢; exact h
  | _ => unfold thn at h ⊢; exact h
end
/-- a result of one cell that lies in a cell -/
theorem fpc1 {P : Program} {n : Nat} {fn : Func} {R : Value → World → Prop} {σ : Env} {w : World} {tt : Nat} {ty : TypeId} {ex : Exit} {b : Nat} {v : Value} {ds : Ctx} (hex : ex = .ret ∨ ex = .normal) (hr : fn.results = #[.cell tt ty]) (ht : Nat.blt tt n = true) (hp : σ tt = .pointer (pb b)) (ho : Own w b [v])
    [ha : Agg P ty false] (h : R v w) (hd : ds.ds = [] := by rfl) : fpost P n fn R ex ds σ w := by
  refine fp_of hex hd ?_ h
  have hp' : (act n ds.ds σ).tmps.getD tt undef = .pointer (pb b) := by rw [act_getD ht]; exact hp
  have hp2 : (act n ds.ds σ).tmps[tt]?.getD undef = .pointer (pb b) := by simpa using hp'
  obtain ⟨T, ho⟩ := ho
  have hc : w.cell? ⟨b, 0, none⟩ = some v := by rw [cell_of_row w b 0 _ _ _ ho]; rfl
  simp [results, hr, hp2, asAddr, pb, loadVar, run_isAgg (P := P) (t := ty), hc]
end Go.Sv

/-
  sievelaw18: EventWalks.
-/
set_option linter.unusedSimpArgs false
set_option linter.unusedVariables false
set_option linter.unnecessarySimpa false
namespace Go.Sv
open Go Go.RowKit
def colls (Ds : List Nat) : List Deferred := Ds.map fun D => { target := .collected D, args := #[] }
theorem fp_marks {P : Program} {n : Nat} {fn : Func} {R : Value → World → Prop} {ex : Exit} {σ : Env} {w0 : World} {cs : List Plot} (hex : ex = .ret ∨ ex = .normal) : ∀ (Ds : List Nat) (w : World), Sep w0 w (Ds.map pDef ++ cs) → (∀ w', Sep w0 w' cs → fpost P n fn R ex ⟨[], none⟩ σ w') → fpost P n fn R ex ⟨colls Ds, none⟩ σ w
  | [], w, hS, h => h w hS
  | D :: Ds, w, hS, h => fp_mark hex (hS.noDef 0 rfl) (fp_marks hex Ds _ hS.undef h)
theorem loop_fam {P : Program} {n : Nat} {fn : FuncId} {dd : List Deferred} {σ : GE} {ps : List Tmp} {a b : Code} {D l : Nat} {w : World} (hL : LoopAt w l (recOf P n fn dd σ ps a b D .ready none)) : ∃ rc : LoopState → Option Code → Loop, rc = recOf P n fn dd σ ps a b D ∧ LoopAt w l (rc .ready none) := ⟨_, rfl, hL⟩
theorem Sep.feet_lt {w0 w : World} {cs : List Plot} (h : Sep w0 w cs) : ∀ x ∈ feet cs, x < w.heap.size := fun x hx => by
  obtain ⟨c, hc, hx⟩ := List.mem_flatMap.1 hx
  exact h.lt hc x hx
end Go.Sv
namespace Go.Proofs.YthgbpgjpnaanlaaDoor
open Go Go.Sv Go.RowKit
def wksP (b2 b5 b9 b11 : Nat) (p q4 q2 : Option Addr) (n c c4 c2 i : Nat) (ms : List EvM) (e : Ev) (K kk : Lk) : PlanB Unit where
  pl k d := match k with
    | 18 => [pRow 1 d.p kk.stack.length d.c (strs kk.stack)]
    | _ => []
  con k := match k with
    | _ => none
  base k := match k with
    | _ => []
  fact k a := match k with
    | 0 => (a 0).v = int i
    | 1 => (a 1).v = ptrAt (pb b5) 4
    | 2 => (a 2).v = int K.good
    | 3 => (a 3).v = .bool false
    | 4 => (a 4).v = .bool false
    | 5 => (a 5).v = .agg ⟨e.cells q2 c2⟩
    | 6 => (a 6).v = .slice p n c
    | 7 => (a 7).v = int i
    | 8 => (a 8).v = ptrAt p (i * 4)
    | 9 => (a 9).v = .agg ⟨((ms.flatMap EvM.cells).drop (i * 4)).take 4⟩
    | 10 => (a 10).v = .bool true
    | 11 => (a 11).v = .bool false
    | 12 => (a 12).v = .bool false
    | 13 => (a 13).v = .bool false
    | 14 => (a 14).v = int kk.stack.length
    | 15 => (a 15).v = .slice p n c
    | 16 => (a 16).v = int i
    | 17 => (a 17).v = .slice p i c
    | 18 => (a 18).v = .agg ⟨kk.cells (a 18).p (a 18).c⟩
    | 19 => (a 19).v = .slice (a 18).p kk.stack.length (a 18).c
    | 20 => (a 20).v = int kk.stack.length
    | 21 => (a 21).v = .bool false
    | 22 => (a 22).v = .bool false
    | _ => True
theorem good_of {ms : List EvM} {i : Nat} (hi : i < ms.length) (h : (lkI ms (i + 1)).err = 0) : i < (lkR (evs ms)).good := by
  by_cases h0 : (lkR (evs ms)).err = 0
  · rw [(lk_ok h0).2.1, evs_len]; exact hi
  · obtain ⟨j, hj, h1, h2⟩ := lk_err h0
    have h3 := lk_wrong (k := lkR ((evs ms).take j)) (e := (evs ms)[j]) h1 (by rw [← h2]; exact h0)
    have h4 : (lkR (evs ms)).good = (lkR ((evs ms).take j)).good := by rw [h2, h3]
    have h5 := (lk_ok h1).2.1
    rw [List.length_take] at h5
    rw [h4, h5]
    have : i < j := by
      rcases Nat.lt_or_ge i j with hij | hij
      · exact hij
      · exfalso
        have e1 : (lkI ms (j + 1)).err ≠ 0 := by
          unfold lkI
          rw [lk_take (List.getElem?_eq_getElem hj), ← h2]
          exact h0
        have h6 := lk_split ((evs ms).take (i + 1)) (j + 1)
        rw [List.take_take, Nat.min_eq_left (by omega)] at h6
        rw [show lkR ((evs ms).take (j + 1)) = lkI ms (j + 1) from rfl, lk_bad e1] at h6
        rw [show lkR ((evs ms).take (i + 1)) = lkI ms (i + 1) from rfl] at h6
        rw [h6] at h
        exact e1 h
    omega
set_option maxHeartbeats 4000000 in
theorem eventWalks_ok (ms : List EvM) (stop : Int) (p : Option Addr) (c : Nat) (hcc : ms.length ≤ c) (hw : evw ms ≤ 1048576) (w : World) (hA : Asc w) (hE : Evs w p ms) :
    PureC Tryd.prog 5 #[.slice p ms.length c, int stop] w (.bool true) := by
  have hn : ms.length ≤ 1048576 := by
    have := sum_len (fun m : EvM => m.e.wt) ms (by intro m _; show 1 ≤ Ev.wt m.e; unfold Ev.wt; omega)
    unfold evw at hw; omega
  have hs : ∀ m ∈ ms, m.e.small := fun m hm => Ev.small_of (Nat.le_trans (sum_mem (fun m : EvM => m.e.wt) ms hm) hw)
  have hS := Sep.start w
  refine enter (l := [.slice p ms.length c, int stop]) Tryd.func5 rfl Tryd.ntmps5 (by kernel_rfl) rfl ?_
  refine sgo ?_
  refine sbox (v := .slice p ms.length c) hS fun b2 w1 hS => ?_
  refine sgo ?_
  refine sbox (v := int stop) hS fun b3 w2 hS => ?_
  refine sgo ?_
  refine salloc hS fun b4 w3 hS => ?_
  replace hS : Sep w w3 [pOwn b4 [.bool false], pOwn b3 [int stop], pOwn b2 [.slice p ms.length c]] := hS
  refine sgo ?_
  refine wlcall (at_ok ms p c hn hs w w3 _ hS (hE.frm hS.frm)) ?_
  rintro _ w4 ⟨q4, c4, rfl, -, hS⟩
  refine sgo ?_
  refine salloc hS fun b5 w5 hS => ?_
  refine sgo ?_
  refine ssta (vs := (lkR (evs ms)).cells q4 c4) hS 0 fun w6 hS => ?_
  refine sgo ?_
  refine wlcall (evOwn_ok ms p c hn hs w w6 _ hS (hE.frm hS.frm)) ?_
  rintro _ w7 ⟨qg, cg, gs, rfl, hevg, -, hS⟩
  have hgl : gs.length = ms.length := by rw [← evs_len, hevg, evs_len]
  have hgw : evw gs ≤ 1048576 := by rw [evw_evs hevg]; exact hw
  have hgs : ∀ m ∈ gs, m.e.small := fun m hm => Ev.small_of (Nat.le_trans (sum_mem (fun m : EvM => m.e.wt) gs hm) hgw)
  refine sgo ?_
  refine wlcall (evWalk_ok gs qg cg (by omega) hgs w w7 _ hS (Sep.evs hS 0 1 rfl rfl)) ?_
  rintro _ w8 ⟨bW, q, cc, ns, rfl, hevn, -, hS⟩
  have hev : evs ns = evs ms := hevn.trans hevg
  have hnl : ns.length = ms.length := by rw [← evs_len, hev, evs_len]
  have hnw : evw ns ≤ 1048576 := by rw [evw_evs hev]; exact hw
  have hns : ∀ m ∈ ns, m.e.small := fun m hm => Ev.small_of (Nat.le_trans (sum_mem (fun m : EvM => m.e.wt) ns hm) hnw)
  have hlk : ∀ i, lkI ns i = lkI ms i := fun i => by unfold lkI; rw [hev]
  refine sgo ?_
  refine wl ?_ (y_fnil Tryd.underlying42 rfl rfl)
  refine sgo ?_
  refine wlcall (evSpoil_ok gs qg cg (by omega) hgs w w8 _ ((hS.front 4 rfl).front 4 rfl)) ?_
  rintro _ w9 hS
  refine sgo ?_
  replace hS : Sep w w9 [pOwn bW [.slice q ns.length cc], pRow 4 q ns.length cc (ns.flatMap EvM.cells), pMany (ns.map EvM.row), pOwn b5 ((lkR (evs ms)).cells q4 c4), pRow 1 q4 (lkR (evs ms)).stack.length c4 (strs (lkR (evs ms)).stack), pOwn b4 [.bool false], pOwn b3 [int stop], pOwn b2 [.slice p ms.length c]] := hS
  replace hS := hS.drop 4 rfl
  have hgood := fun i (hi : i < ms.length) (h : (lkI ms (i + 1)).err = 0) => good_of hi h
  have hgle := (lk_bound (evs ms)).2.2.2
  rw [evs_len] at hgle
  generalize hK : lkR (evs ms) = K at *
  refine salloc hS fun b8 w10 hS => ?_
  replace hS : Sep w w10 [pOwn b8 [int 0], pOwn bW [.slice q ns.length cc], pRow 4 q ns.length cc (ns.flatMap EvM.cells), pMany (ns.map EvM.row), pOwn b5 (K.cells q4 c4), pOwn b4 [.bool false], pOwn b3 [int stop], pOwn b2 [.slice p ms.length c]] := hS
  refine sgo ?_
  refine sst_int hS 0 fun w11 hS => ?_
  replace hS : Sep w w11 [pOwn b8 [int ((0 : Nat) : Int)], pOwn bW [.slice q ns.length cc], pRow 4 q ns.length cc (ns.flatMap EvM.cells), pMany (ns.map EvM.row), pOwn b5 (K.cells q4 c4), pOwn b4 [.bool false], pOwn b3 [int stop], pOwn b2 [.slice p ms.length c]] := hS
  refine sgo ?_
  refine wcloopd (X := Nat × Nat × List Nat) (fun x => [(2, ptrAt (pb b2) 0), (3, ptrAt (pb b3) 0), (4, ptrAt (pb b4) 0), (5, ptrAt (pb b5) 0), (7, .func (.func 49) #[] #[ptrAt (pb bW) 0]), (8, ptrAt (pb x.2.1) 0)]) (fun x => colls x.2.2)
    (fun x wr => x.1 ≤ 2 ∧ Sep w wr ([pOwn x.2.1 [int x.1], pOwn bW [.slice q ns.length cc], pRow 4 q ns.length cc (ns.flatMap EvM.cells), pMany (ns.map EvM.row), pOwn b5 (K.cells q4 c4), pOwn b4 [.bool false], pOwn b3 [int stop], pOwn b2 [.slice p ms.length c]] ++ x.2.2.map pDef))
    (fun x => 2 - x.1) (0, b8, []) rfl ⟨rfl, rfl, rfl, rfl, rfl, rfl, trivial⟩ ⟨Nat.zero_le _, hS⟩ ?_
  clear hS
  rintro ⟨r, b8, Ds⟩ wr ρ ⟨hr2, hS⟩
  dsimp only at *
  refine sgo ?_
  (show WC _ _ _ _ _ _ _; first | refine WC_dec rfl (fun hc => ?_) (fun hc => ?_) | refine WC_cond rfl (fun hc => ?_) (fun hc => ?_))
  · have hr : r < 2 := by omega
    clear hc
    refine sgo ?_
    refine salloc hS fun b9 w12 hS => ?_
    refine sgo ?_
    refine sst_int hS 0 fun w13 hS => ?_
    replace hS : Sep w w13 ([pOwn b9 [int ((0 : Nat) : Int)], pOwn b8 [int r], pOwn bW [.slice q ns.length cc], pRow 4 q ns.length cc (ns.flatMap EvM.cells), pMany (ns.map EvM.row), pOwn b5 (K.cells q4 c4), pOwn b4 [.bool false], pOwn b3 [int stop], pOwn b2 [.slice p ms.length c]] ++ Ds.map pDef) := hS
    refine sgo ?_
    refine wcutk (X := Nat × List Nat) (fun x => [(2, ptrAt (pb b2) 0), (3, ptrAt (pb b3) 0), (4, ptrAt (pb b4) 0), (5, ptrAt (pb b5) 0), (7, .func (.func 49) #[] #[ptrAt (pb bW) 0]), (8, ptrAt (pb b8) 0), (9, ptrAt (pb b9) 0)]) (fun x => colls x.2)
      (fun x wr => (x.1 = K.good ∨ (r = 0 ∧ (x.1 : Int) = stop)) ∧ Sep w wr ([pOwn b9 [int x.1], pOwn b8 [int r], pOwn bW [.slice q ns.length cc], pRow 4 q ns.length cc (ns.flatMap EvM.cells), pMany (ns.map EvM.row), pOwn b5 (K.cells q4 c4), pOwn b4 [.bool false], pOwn b3 [int stop], pOwn b2 [.slice p ms.length c]] ++ x.2.map pDef)) ?_ ?_
    · refine wcrangef (cap := [ptrAt (pb bW) 0]) rfl rfl ?_
      intro fn lr D w14 hD hlr hne hf14 hL hN
      obtain ⟨rc, hrc, hL⟩ := loop_fam hL
      replace hS := hS.loop hf14 hL hN hlr hD hne
      have hfeet := hS.feet_lt
      have hsz := hS.frm.size
      refine CallsR.mono (walk1_ok lr bW ns q cc (by omega) hns w14.heap.size
        (fun i w' => Sep w w' (pLoop lr (rc .ready none) :: pDef D :: ([pOwn b9 [int i], pOwn b8 [int r], pOwn bW [.slice q ns.length cc], pRow 4 q ns.length cc (ns.flatMap EvM.cells), pMany (ns.map EvM.row), pOwn b5 (K.cells q4 c4), pOwn b4 [.bool false], pOwn b3 [int stop], pOwn b2 [.slice p ms.length c]] ++ Ds.map pDef)))
        (fun i w' => (r = 0 ∧ ((i + 1 : Nat) : Int) = stop) ∧ Sep w w' (pLoop lr (rc .done (some (.exit 2))) :: pDef D :: ([pOwn b9 [int ((i + 1 : Nat) : Int)], pOwn b8 [int r], pOwn bW [.slice q ns.length cc], pRow 4 q ns.length cc (ns.flatMap EvM.cells), pMany (ns.map EvM.row), pOwn b5 (K.cells q4 c4), pOwn b4 [.bool false], pOwn b3 [int stop], pOwn b2 [.slice p ms.length c]] ++ Ds.map pDef))) ?_ ?_ ?_ ?_ w14 rfl hS) ?_
      · intro i w' h
        exact ⟨h.own 4 rfl, Sep.evs h 5 6 rfl rfl, hA.frm h.frm⟩
      · intro i w1 w2 h h'
        exact h.same h' hsz hfeet
      · rintro i w1 w2 ⟨h1, h⟩ h'
        exact ⟨h1, h.same h' hsz hfeet⟩
      · subst hrc
        rintro i w1 m h hx hk0 hk1 q2 c2 w' hS2
        obtain ⟨kp, hkp, hk⟩ := h.keep1
        have hS3 := hk.seq hS2
        obtain ⟨m', hm', hme⟩ := evs_get hev hx
        have hlt : i < ms.length := (List.getElem?_eq_some_iff.1 hm').1
        rw [hlk] at hk0 hk1 ⊢
        have hig := hgood i hlt hk1
        have hge : decide ((K.good : Int) ≤ (i : Int)) = false := decide_eq_false (by omega)
        have hmem := List.mem_of_getElem? hm'
        have hseg := fm_seg EvM.len ms hm'
        have hfl := fm_len EvM.len ms
        have hsm2 := hs _ hmem
        have hps : ∃ a, p = some a := hE.im.sg.some (by omega)
        have hti : (ms.take i).length = i := by rw [List.length_take]; omega
        have hat := fun w' (cs' : List Plot) (h : Sep w w' cs') => at_ok (ms.take i) p c (by omega) (fun m hm => hs m (List.mem_of_mem_take hm)) w w' cs' h ((hE.frm h.frm).take i)
        rw [evs_take, hti] at hat
        rw [show lkR ((evs ms).take i) = lkI ms i from rfl] at hat
        have hsm := hns _ (List.mem_of_getElem? hx)
        have hes := hsm.attrs
        generalize hkk : lkI ms i = kk at *
        have hw1 := hS2.frm.size
        refine yld_of (hS3.loopAt 2 rfl) rfl (by kernel_rfl) ?_
        obtain ⟨e, mp, mc⟩ := m
        dsimp only at hS3 hme hsm hes ⊢
        refine sgo ?_
        refine wlalloc fun b11 w3 hb11 ho11 hf11 => ?_
        have hS := hS3.push (c := pOwn b11 _) hf11 ho11 (by simpa [pOwn] using hb11)
        refine sgo ?_
        refine ssta (vs := e.cells q2 c2) hS 0 fun w4 hS => ?_
        replace hS : Sep w w4 (pOwn b11 (e.cells q2 c2) :: pRow 2 q2 e.attrs.length c2 (e.attrs.flatMap At.cells) :: kp :: pLoop lr _ :: pDef D :: ([pOwn b9 [int i], pOwn b8 [int r], pOwn bW [.slice q ns.length cc], pRow 4 q ns.length cc (ns.flatMap EvM.cells), pMany (ns.map EvM.row), pOwn b5 (K.cells q4 c4), pOwn b4 [.bool false], pOwn b3 [int stop], pOwn b2 [.slice p ms.length c]] ++ Ds.map pDef)) := hS
        refine sgo ?_
        refine ⟨hS.loopAt 3 rfl, fun w5 hl5 hL5 => ?_⟩
        obtain ⟨rb, hrb, hL5⟩ : ∃ rb : Loop, rb = _ ∧ LoopAt w5 lr rb := ⟨_, rfl, hL5⟩
        replace hS := hS.turnLoop 3 rfl hl5 hL5
        replace hS : Sep w w5 ([] ++ (pOwn b11 (e.cells q2 c2) :: pRow 2 q2 e.attrs.length c2 (e.attrs.flatMap At.cells) :: kp :: pLoop lr rb :: pDef D :: ([pOwn b9 [int i], pOwn b8 [int r], pOwn bW [.slice q ns.length cc], pRow 4 q ns.length cc (ns.flatMap EvM.cells), pMany (ns.map EvM.row), pOwn b5 (K.cells q4 c4), pOwn b4 [.bool false], pOwn b3 [int stop], pOwn b2 [.slice p ms.length c]] ++ Ds.map pDef))) := hS
        refine sgo ?_
        refine wcplanb (b := []) (wksP b2 b5 b9 b11 p q4 q2 ms.length c c4 c2 i ms e K kk) ⟨.nilIface, none, 0, 0, ()⟩ hS rfl (fun j oj a a' hj he hd h => ?_) ⟨?_, ?_, ?_, ?_, ?_, ?_, ?_, ?_, ?_, ?_, ?_, ?_, ?_, ?_, ?_, ?_, ?_, ?_, ?_, ?_, ?_, ?_, ?_, trivial⟩ ?_
        · have hjl : j < 23 := (List.getElem?_eq_some_iff.1 hj).1
          match j, hjl with
          | 0, _ | 1, _ | 2, _ | 3, _ | 4, _ | 5, _ | 6, _ | 7, _ | 8, _ | 9, _ | 10, _ | 11, _ | 12, _ | 13, _ | 14, _ | 15, _ | 16, _ | 17, _ | 18, _ | 20, _ | 21, _ | 22, _ => first | (simp only [wksP] at h ⊢; rw [← he]; exact h) | exact h
          | 19, _ => simp only [wksP] at h ⊢; rw [← he, ← hd 18 (by cases hj; rfl)]; exact h
        · intro a σ' w' rest hσ hdep hS'   -- 0: load; pieces:  ..
          have e9 : σ' 9 = ptrAt (pb b9) 0 := (hσ 9 (notDstB rfl)).trans rfl
          exact rule_y (y_load e9 (Sep.sgv hS' 5 rfl) rfl) ⟨⟨int i, none, 0, 0, ()⟩, rfl, rfl, hS'⟩
        · intro a σ' w' rest hσ hdep hS'   -- 1: fieldAddr; pieces:  ..
          have e5 : σ' 5 = ptrAt (pb b5) 0 := (hσ 5 (notDstB rfl)).trans rfl
          exact rule_y (y_field e5 ⟨_, rfl⟩ (by decide)) ⟨⟨ptrAt (pb b5) 4, none, 0, 0, ()⟩, rfl, rfl, hS'⟩
        · intro a σ' w' rest hσ hdep hS'   -- 2: load; pieces:  ..
          have f1 := (hdep 1 _ rfl rfl).2
          have e31 := ((hdep 1 _ rfl rfl).1 31 rfl).trans f1
          exact rule_y (y_load e31 (Sep.sgv hS' 10 rfl) rfl) ⟨⟨int K.good, none, 0, 0, ()⟩, rfl, rfl, hS'⟩
        · intro a σ' w' rest hσ hdep hS'   -- 3: binOp; pieces:  ..
          have f0 := (hdep 0 _ rfl rfl).2
          have e30 := ((hdep 0 _ rfl rfl).1 30 rfl).trans f0
          have f2 := (hdep 2 _ rfl rfl).2
          have e32 := ((hdep 2 _ rfl rfl).1 32 rfl).trans f2
          exact rule_e [(30, _), (32, _)] ⟨e30, e32, trivial⟩ ⟨⟨.bool false, none, 0, 0, ()⟩, rfl, rfl, hS'⟩ (he := (show ev1 _ _ = some ⟨.bool (decide ((K.good : Int) ≤ (i : Int))), true⟩ from rfl).trans (by rw [hge]))
        · intro a σ' w' rest hσ hdep hS'   -- 4: move; pieces:  ..
          have f3 := (hdep 3 _ rfl rfl).2
          have e33 := ((hdep 3 _ rfl rfl).1 33 rfl).trans f3
          exact rule_e [(33, _)] ⟨e33, trivial⟩ ⟨⟨.bool false, none, 0, 0, ()⟩, rfl, rfl, hS'⟩
        · intro a σ' w' rest hσ hdep hS'   -- 5: load; pieces:  ..
          have e11 : σ' 11 = ptrAt (pb b11) 0 := (hσ 11 (notDstB rfl)).trans rfl
          have eg := ((hdep 4 _ rfl rfl).1 34 rfl).trans (hdep 4 _ rfl rfl).2
          exact rule_yg (y_loada e11 (Sep.sgv hS' 0 rfl) (Nat.le_of_ble_eq_true rfl) ⟨_, rfl⟩) ⟨⟨.agg ⟨e.cells q2 c2⟩, none, 0, 0, ()⟩, rfl, rfl, hS'⟩ eg
        · intro a σ' w' rest hσ hdep hS'   -- 6: load; pieces:  ..
          have e2 : σ' 2 = ptrAt (pb b2) 0 := (hσ 2 (notDstB rfl)).trans rfl
          have eg := ((hdep 4 _ rfl rfl).1 34 rfl).trans (hdep 4 _ rfl rfl).2
          exact rule_yg (y_load e2 (Sep.sgv hS' 13 rfl) rfl) ⟨⟨.slice p ms.length c, none, 0, 0, ()⟩, rfl, rfl, hS'⟩ eg
        · intro a σ' w' rest hσ hdep hS'   -- 7: load; pieces:  ..
          have e9 : σ' 9 = ptrAt (pb b9) 0 := (hσ 9 (notDstB rfl)).trans rfl
          have eg := ((hdep 4 _ rfl rfl).1 34 rfl).trans (hdep 4 _ rfl rfl).2
          exact rule_yg (y_load e9 (Sep.sgv hS' 5 rfl) rfl) ⟨⟨int i, none, 0, 0, ()⟩, rfl, rfl, hS'⟩ eg
        · intro a σ' w' rest hσ hdep hS'   -- 8: indexAddr; pieces:  ..
          have f6 := (hdep 6 _ rfl rfl).2
          have e36 := ((hdep 6 _ rfl rfl).1 36 rfl).trans f6
          have f7 := (hdep 7 _ rfl rfl).2
          have e37 := ((hdep 7 _ rfl rfl).1 37 rfl).trans f7
          have eg := ((hdep 4 _ rfl rfl).1 34 rfl).trans (hdep 4 _ rfl rfl).2
          exact rule_yg (y_idx e36 e37 hlt hps) ⟨⟨ptrAt p (i * 4), none, 0, 0, ()⟩, rfl, rfl, hS'⟩ eg
        · intro a σ' w' rest hσ hdep hS'   -- 9: load; pieces:  ..
          have f8 := (hdep 8 _ rfl rfl).2
          have e38 := ((hdep 8 _ rfl rfl).1 38 rfl).trans f8
          have eg := ((hdep 4 _ rfl rfl).1 34 rfl).trans (hdep 4 _ rfl rfl).2
          exact rule_yg (y_loada e38 (hE.im.frm hS'.frm).sg (by omega) hps) ⟨⟨.agg ⟨((ms.flatMap EvM.cells).drop (i * 4)).take 4⟩, none, 0, 0, ()⟩, rfl, rfl, hS'⟩ eg
        · intro a σ' w' rest hσ hdep hS'   -- 10: call; pieces:  ..
          have f5 := (hdep 5 _ rfl rfl).2
          have e35 := ((hdep 5 _ rfl rfl).1 35 rfl).trans f5
          have f9 := (hdep 9 _ rfl rfl).2
          have e39 := ((hdep 9 _ rfl rfl).1 39 rfl).trans f9
          have eg := ((hdep 4 _ rfl rfl).1 34 rfl).trans (hdep 4 _ rfl rfl).2
          rw [hseg] at e39
          have hc := evSame_ok ⟨e, q2, c2⟩ m' hsm hsm2 w' (hS'.im 1 rfl) ((hE.each m' hmem).frm hS'.frm)
          rw [decide_eq_true hme.symm] at hc
          exact rule_pureg hc (fun w2 hf2 => ⟨⟨.bool true, none, 0, 0, ()⟩, rfl, rfl, hS'.grow hf2⟩) (am2 e35 e39) eg
        · intro a σ' w' rest hσ hdep hS'   -- 11: unOp; pieces:  ..
          have f10 := (hdep 10 _ rfl rfl).2
          have e40 := ((hdep 10 _ rfl rfl).1 40 rfl).trans f10
          have eg := ((hdep 4 _ rfl rfl).1 34 rfl).trans (hdep 4 _ rfl rfl).2
          exact rule_eg [(40, _)] ⟨e40, trivial⟩ ⟨⟨.bool false, none, 0, 0, ()⟩, rfl, rfl, hS'⟩ eg
        · intro a σ' w' rest hσ hdep hS'   -- 12: pick; pieces:  ..
          have f4 := (hdep 4 _ rfl rfl).2
          have e34 := ((hdep 4 _ rfl rfl).1 34 rfl).trans f4
          have f11 := (hdep 11 _ rfl rfl).2
          have e41 := ((hdep 11 _ rfl rfl).1 41 rfl).trans f11
          exact rule_e [(34, _), (41, _)] ⟨e34, e41, trivial⟩ ⟨⟨.bool false, none, 0, 0, ()⟩, rfl, rfl, hS'⟩
        · intro a σ' w' rest hσ hdep hS'   -- 13: move; pieces:  ..
          have f12 := (hdep 12 _ rfl rfl).2
          have e42 := ((hdep 12 _ rfl rfl).1 42 rfl).trans f12
          exact rule_e [(42, _)] ⟨e42, trivial⟩ ⟨⟨.bool false, none, 0, 0, ()⟩, rfl, rfl, hS'⟩
        · intro a σ' w' rest hσ hdep hS'   -- 14: move; pieces:  ..
          have e10 : σ' 10 = int kk.stack.length := (hσ 10 (notDstB rfl)).trans rfl
          have eg := ((hdep 13 _ rfl rfl).1 43 rfl).trans (hdep 13 _ rfl rfl).2
          exact rule_eg [(10, _)] ⟨e10, trivial⟩ ⟨⟨int kk.stack.length, none, 0, 0, ()⟩, rfl, rfl, hS'⟩ eg
        · intro a σ' w' rest hσ hdep hS'   -- 15: load; pieces:  ..
          have e2 : σ' 2 = ptrAt (pb b2) 0 := (hσ 2 (notDstB rfl)).trans rfl
          have eg := ((hdep 13 _ rfl rfl).1 43 rfl).trans (hdep 13 _ rfl rfl).2
          exact rule_yg (y_load e2 (Sep.sgv hS' 13 rfl) rfl) ⟨⟨.slice p ms.length c, none, 0, 0, ()⟩, rfl, rfl, hS'⟩ eg
        · intro a σ' w' rest hσ hdep hS'   -- 16: load; pieces:  ..
          have e9 : σ' 9 = ptrAt (pb b9) 0 := (hσ 9 (notDstB rfl)).trans rfl
          have eg := ((hdep 13 _ rfl rfl).1 43 rfl).trans (hdep 13 _ rfl rfl).2
          exact rule_yg (y_load e9 (Sep.sgv hS' 5 rfl) rfl) ⟨⟨int i, none, 0, 0, ()⟩, rfl, rfl, hS'⟩ eg
        · intro a σ' w' rest hσ hdep hS'   -- 17: slice; pieces:  ..
          have f15 := (hdep 15 _ rfl rfl).2
          have e45 := ((hdep 15 _ rfl rfl).1 45 rfl).trans f15
          have f16 := (hdep 16 _ rfl rfl).2
          have e46 := ((hdep 16 _ rfl rfl).1 46 rfl).trans f16
          have eg := ((hdep 13 _ rfl rfl).1 43 rfl).trans (hdep 13 _ rfl rfl).2
          exact rule_yg (y_rslice_to e45 e46 (by omega)) ⟨⟨.slice p i c, none, 0, 0, ()⟩, rfl, rfl, hS'⟩ eg
        · intro a σ' w' rest hσ hdep hS'   -- 18: call; pieces:  ..
          have f17 := (hdep 17 _ rfl rfl).2
          have e47 := ((hdep 17 _ rfl rfl).1 47 rfl).trans f17
          have eg := ((hdep 13 _ rfl rfl).1 43 rfl).trans (hdep 13 _ rfl rfl).2
          refine rule_callg (vals := [.slice p i c]) (hat w' _ hS') (fun v w2 hR => ?_) (am1 e47) eg
          obtain ⟨q9, c9, rfl, -, hS2⟩ := hR
          exact ⟨⟨.agg ⟨kk.cells q9 c9⟩, q9, c9, 0, ()⟩, rfl, rfl, hS2⟩
        · intro a σ' w' rest hσ hdep hS'   -- 19: field; pieces:  ..
          have f18 := (hdep 18 _ rfl rfl).2
          have e48 := ((hdep 18 _ rfl rfl).1 48 rfl).trans f18
          have eg := ((hdep 13 _ rfl rfl).1 43 rfl).trans (hdep 13 _ rfl rfl).2
          exact rule_yg (y_fldv e48 rfl) ⟨⟨.slice (a 18).p kk.stack.length (a 18).c, none, 0, 0, ()⟩, rfl, rfl, hS'⟩ eg
        · intro a σ' w' rest hσ hdep hS'   -- 20: call; pieces:  ..
          have f19 := (hdep 19 _ rfl rfl).2
          have e49 := ((hdep 19 _ rfl rfl).1 49 rfl).trans f19
          have eg := ((hdep 13 _ rfl rfl).1 43 rfl).trans (hdep 13 _ rfl rfl).2
          exact rule_yg (y_len e49 rfl) ⟨⟨int kk.stack.length, none, 0, 0, ()⟩, rfl, rfl, hS'⟩ eg
        · intro a σ' w' rest hσ hdep hS'   -- 21: binOp; pieces:  ..
          have f14 := (hdep 14 _ rfl rfl).2
          have e44 := ((hdep 14 _ rfl rfl).1 44 rfl).trans f14
          have f20 := (hdep 20 _ rfl rfl).2
          have e50 := ((hdep 20 _ rfl rfl).1 50 rfl).trans f20
          have eg := ((hdep 13 _ rfl rfl).1 43 rfl).trans (hdep 13 _ rfl rfl).2
          exact rule_eg [(44, _), (50, _)] ⟨e44, e50, trivial⟩ ⟨⟨.bool false, none, 0, 0, ()⟩, rfl, rfl, hS'⟩ eg (he := (show ev1 _ _ = some ⟨.bool (decide ((kk.stack.length : Int) ≠ (kk.stack.length : Int))), true⟩ from rfl).trans (by simp))
        · intro a σ' w' rest hσ hdep hS'   -- 22: pick; pieces:  ..
          have f13 := (hdep 13 _ rfl rfl).2
          have e43 := ((hdep 13 _ rfl rfl).1 43 rfl).trans f13
          have f21 := (hdep 21 _ rfl rfl).2
          have e51 := ((hdep 21 _ rfl rfl).1 51 rfl).trans f21
          exact rule_e [(43, _), (51, _)] ⟨e43, e51, trivial⟩ ⟨⟨.bool false, none, 0, 0, ()⟩, rfl, rfl, hS'⟩
        · intro a σ' w' hσ hA' hS'
          have h22 := hA' 22 _ rfl
          rw [frameOf (σ := σ') [(2, ptrAt (pb b2) 0), (3, ptrAt (pb b3) 0), (4, ptrAt (pb b4) 0), (5, ptrAt (pb b5) 0), (8, ptrAt (pb b8) 0), (9, ptrAt (pb b9) 0), (11, ptrAt (pb b11) 0), (52, .bool false)]
            ⟨(hσ 2 (notDst rfl)).trans rfl, (hσ 3 (notDst rfl)).trans rfl, (hσ 4 (notDst rfl)).trans rfl, (hσ 5 (notDst rfl)).trans rfl, (hσ 8 (notDst rfl)).trans rfl, (hσ 9 (notDst rfl)).trans rfl, (hσ 11 (notDst rfl)).trans rfl, (h22.1 52 rfl).trans h22.2, trivial⟩]
          replace hS : Sep w w' (pRow 1 (a 18).p kk.stack.length (a 18).c (strs kk.stack) :: pOwn b11 (e.cells q2 c2) :: pRow 2 q2 e.attrs.length c2 (e.attrs.flatMap At.cells) :: kp :: pLoop lr rb :: pDef D :: ([pOwn b9 [int i], pOwn b8 [int r], pOwn bW [.slice q ns.length cc], pRow 4 q ns.length cc (ns.flatMap EvM.cells), pMany (ns.map EvM.row), pOwn b5 (K.cells q4 c4), pOwn b4 [.bool false], pOwn b3 [int stop], pOwn b2 [.slice p ms.length c]] ++ Ds.map pDef)) := hS'
          replace hS := hS.tail
          clear hA' hS' h22 hσ
          obtain ⟨kd, nm, tx, es⟩ := e
          replace hS : Sep w w' (pOwn b11 [int kd, str nm, str tx, .slice q2 es.length c2] :: pRow 2 q2 es.length c2 (es.flatMap At.cells) :: kp :: pLoop lr rb :: pDef D :: ([pOwn b9 [int i], pOwn b8 [int r], pOwn bW [.slice q ns.length cc], pRow 4 q ns.length cc (ns.flatMap EvM.cells), pMany (ns.map EvM.row), pOwn b5 (K.cells q4 c4), pOwn b4 [.bool false], pOwn b3 [int stop], pOwn b2 [.slice p ms.length c]] ++ Ds.map pDef)) := hS
          dsimp only at hes
          refine sgo ?_
          refine wcloop (X := Nat × List Value) (fun x => [(2, ptrAt (pb b2) 0), (3, ptrAt (pb b3) 0), (4, ptrAt (pb b4) 0), (5, ptrAt (pb b5) 0), (8, ptrAt (pb b8) 0), (9, ptrAt (pb b9) 0), (11, ptrAt (pb b11) 0), (55, int es.length), (56, int x.1)])
            (fun x wr => x.1 ≤ es.length ∧ Sep w wr (pOwn b11 [int kd, str nm, str tx, .slice q2 es.length c2] :: pRow 2 q2 es.length c2 x.2 :: kp :: pLoop lr rb :: pDef D :: ([pOwn b9 [int i], pOwn b8 [int r], pOwn bW [.slice q ns.length cc], pRow 4 q ns.length cc (ns.flatMap EvM.cells), pMany (ns.map EvM.row), pOwn b5 (K.cells q4 c4), pOwn b4 [.bool false], pOwn b3 [int stop], pOwn b2 [.slice p ms.length c]] ++ Ds.map pDef)))
            (fun x => es.length - x.1) (0, es.flatMap At.cells) ⟨rfl, rfl, rfl, rfl, rfl, rfl, rfl, rfl, rfl, trivial⟩ ⟨Nat.zero_le _, hS⟩ ?_
          clear hS
          rintro ⟨j, xs⟩ wr2 ρ4 ⟨hjl, hS⟩
          dsimp only at *
          refine sgo ?_
          (show WC _ _ _ _ _ _ _; first | refine WC_dec rfl (fun hc => ?_) (fun hc => ?_) | refine WC_cond rfl (fun hc => ?_) (fun hc => ?_))
          · have hlt2 : j < es.length := by omega
            have hxl : xs.length = es.length * 2 := (hS.row 1 rfl).len
            have hqp : ∃ a, q2 = some a := (hS.row 1 rfl).sg.some (by omega)
            clear hc
            refine sgo ?_
            refine wlbuild ?_
            refine sgo ?_
            refine srst (v := .agg ⟨[str [115, 112, 111, 105, 108, 116], str []]⟩) hS 1 (fun w6 hS => ?_) (hk := by omega)
            refine sgo ?_
            exact ⟨(j + 1, _), ⟨rfl, rfl, rfl, rfl, rfl, rfl, rfl, rfl, rfl, trivial⟩, ⟨hlt2, hS⟩, (by (try dsimp only); omega)⟩
          · clear hc
            refine sgo ?_
            refine sst_int hS 5 fun w7 hS => ?_
            have e1 : (i : Int) + 1 = ((i + 1 : Nat) : Int) := by omega
            replace hS : Sep w w7 (pOwn b11 [int kd, str nm, str tx, .slice q2 es.length c2] :: pRow 2 q2 es.length c2 xs :: kp :: pLoop lr rb :: pDef D :: ([pOwn b9 [int ((i + 1 : Nat) : Int)], pOwn b8 [int r], pOwn bW [.slice q ns.length cc], pRow 4 q ns.length cc (ns.flatMap EvM.cells), pMany (ns.map EvM.row), pOwn b5 (K.cells q4 c4), pOwn b4 [.bool false], pOwn b3 [int stop], pOwn b2 [.slice p ms.length c]] ++ Ds.map pDef)) := by rw [← e1]; exact hS
            have hfin : ∀ {wz : World} {cz : List Plot} {st : Loop}, Sep w wz (pOwn b11 [int kd, str nm, str tx, .slice q2 es.length c2] :: pRow 2 q2 es.length c2 xs :: kp :: pLoop lr st :: cz) → ∃ N, Le N w1 wz ∧ ∀ x ∈ N, x < w14.heap.size := by
              intro wz cz st hz
              rw [hkp] at hz
              refine ⟨_, Sep.kept h hz (List.Mem.tail _ (List.Mem.tail _ (List.Mem.head _))) ?_, hfeet⟩
              have := hz.lt (List.Mem.head _) b11 (List.Mem.head _)
              omega
            have hs9 : Sg w7 (pb b9) [int ((i + 1 : Nat) : Int)] := (hS.own 5 rfl).sg
            have hs8 : Sg w7 (pb b8) [int r] := (hS.own 6 rfl).sg
            have hs3 : Sg w7 (pb b3) [int stop] := (hS.own 12 rfl).sg
            refine sgo ?_
            (show WC _ _ _ _ _ _ _; first | refine WC_dec rfl (fun hc => ?_) (fun hc => ?_) | refine WC_cond rfl (fun hc => ?_) (fun hc => ?_))
            · simp only [pkb_and, Bool.and_eq_true, decide_eq_true_eq] at hc
              have hr0 : r = 0 := by omega
              refine sgo ?_
              subst hrb
              refine rnd_exit (hS.loopAt 3 rfl) fun w8 hl8 hL8 => ?_
              replace hS := hS.turnLoop 3 rfl hl8 hL8
              obtain ⟨N, h1, h2⟩ := hfin hS
              exact ⟨N, h1, h2, ⟨hr0, hc.2⟩, ((hS.drop 0 rfl).drop 0 rfl).drop 0 rfl⟩
            · clear hc
              refine sgo ?_
              subst hrb
              refine rnd_normal (hS.loopAt 3 rfl) fun w8 hl8 hL8 => ?_
              replace hS := hS.turnLoop 3 rfl hl8 hL8
              obtain ⟨N, h1, h2⟩ := hfin hS
              exact ⟨N, h1, h2, ((hS.drop 0 rfl).drop 0 rfl).drop 0 rfl⟩
      · subst hrc
        rintro v w4 (hJ | ⟨i, hi, hk, ⟨hr0, hstp⟩, hJx⟩)
        · refine ⟨.ready, none, by simp, hJ.loopAt 0 rfl, fun w5 hl5 => aft_none ?_⟩
          rw [hev, hK] at hJ
          have hS := Sep.lose hJ hl5
          exact blk_normal (thn_normal ⟨(K.good, D :: Ds), rfl, ⟨rfl, rfl, rfl, rfl, rfl, rfl, rfl, trivial⟩, .inl rfl, hS.perm List.perm_middle.symm⟩)
        · refine ⟨.done, some (.exit 2), by simp, hJx.loopAt 0 rfl, fun w5 hl5 => aft_exit ?_⟩
          have hS := Sep.lose hJx hl5
          exact blk_here (thn_normal ⟨(i + 1, D :: Ds), rfl, ⟨rfl, rfl, rfl, rfl, rfl, rfl, rfl, trivial⟩, .inr ⟨hr0, hstp⟩, hS.perm List.perm_middle.symm⟩)
    rintro ⟨i, Ds2⟩ w15 ρ2 ⟨hi, hS⟩
    dsimp only at *
    have hs5 : Sg w15 (pb b5) (K.cells q4 c4) := (hS.own 5 rfl).sg
    have hs3 : Sg w15 (pb b3) [int stop] := (hS.own 7 rfl).sg
    refine sgo ?_
    refine wcno ?_ (ht := ?_)
    rotate_left
    · rcases hi with rfl | ⟨rfl, h⟩
      · simp [pkb]
      · simp [pkb, h]
    refine sgo ?_
    refine salloc hS fun b8n w16 hS => ?_
    refine sgo ?_
    refine sst_int hS 0 (fun w17 hS => ?_) (hk := by exact Nat.zero_lt_one)
    replace hS : Sep w w17 ([pOwn b8n [int r], pOwn b9 [int i], pOwn b8 [int r], pOwn bW [.slice q ns.length cc], pRow 4 q ns.length cc (ns.flatMap EvM.cells), pMany (ns.map EvM.row), pOwn b5 (K.cells q4 c4), pOwn b4 [.bool false], pOwn b3 [int stop], pOwn b2 [.slice p ms.length c]] ++ Ds2.map pDef) := hS
    refine sgo ?_
    refine sst_int hS 0 fun w18 hS => ?_
    have e1 : (r : Int) + 1 = ((r + 1 : Nat) : Int) := by omega
    replace hS : Sep w w18 ([pOwn b8n [int ((r + 1 : Nat) : Int)], pOwn b9 [int i], pOwn b8 [int r], pOwn bW [.slice q ns.length cc], pRow 4 q ns.length cc (ns.flatMap EvM.cells), pMany (ns.map EvM.row), pOwn b5 (K.cells q4 c4), pOwn b4 [.bool false], pOwn b3 [int stop], pOwn b2 [.slice p ms.length c]] ++ Ds2.map pDef) := by rw [← e1]; exact hS
    refine sgo ?_
    exact ⟨(r + 1, b8n, Ds2), rfl, ⟨rfl, rfl, rfl, rfl, rfl, rfl, trivial⟩, ⟨hr, (hS.drop 1 rfl).drop 1 rfl⟩, (by (try dsimp only); omega)⟩
  · clear hc
    refine sgo ?_
    refine wlpure (awake18_ok _ (hA.frm hS.frm)) fun w12 hf12 => ?_
    replace hS := hS.grow hf12
    refine sgo ?_
    refine sst_bool hS 5 fun w13 hS => ?_
    replace hS : Sep w w13 ([pOwn b8 [int r], pOwn bW [.slice q ns.length cc], pRow 4 q ns.length cc (ns.flatMap EvM.cells), pMany (ns.map EvM.row), pOwn b5 (K.cells q4 c4), pOwn b4 [.bool true], pOwn b3 [int stop], pOwn b2 [.slice p ms.length c]] ++ Ds.map pDef) := hS
    refine sgo ?_
    refine fp_marks (.inl rfl) Ds _ (hS.perm List.perm_append_comm) fun w14 hS => ?_
    exact fpc1 (.inl rfl) rfl rfl rfl (hS.own 5 rfl) ⟨rfl, hS.frm⟩
end Go.Proofs.YthgbpgjpnaanlaaDoor

/-
  From a frame to what a row asks behind the call: nothing that was there has turned (new blocks may be frozen).
-/
set_option linter.unusedSimpArgs false
set_option linter.unusedVariables false
set_option linter.unnecessarySimpa false
namespace Go.ChangeShapes
section
variable {H : Type} {enc : TypeId × Value → H} {P : Program}
theorem post_frm {f : Func} {s : ChangeSpec} {apart fresh handsOn again : Bool} {W W' : World} {args : Array Value} {v : Value} {ds gs : List (DataW H)} {before pa pv : List MemPlace}
    (hW : DataW.Whole enc P f.params.toList s.vars apart W args.toList ds gs before)
    (hres : ∀ (b : Nat) (sp : Nat → Bool) (hd : Bool), DataW.TrodAll enc P W' b sp hd f.resultTypes.toList (v.resultList f.resultTypes.size) (s.fn H (ds ++ gs)).results [])
    (hargs : ∀ sp : Nat → Bool, (∀ p ∈ before, sp p.block = true) → DataW.TrodAll enc P W' 0 sp true f.params.toList args.toList (s.fn H (ds ++ gs)).args pa)
    (hvars : ∀ sp : Nat → Bool, (∀ p ∈ before, sp p.block = true) → DataW.TrodVars enc P W' sp s.vars (s.fn H (ds ++ gs)).vars pv)
    (hps : before = pa ++ pv) (hk : Sv.Frm W W')
    (hok : ∀ (j : Nat) (t : TypeId) (r : Value), f.resultTypes[j]? = some t → (v.resultList f.resultTypes.size)[j]? = some r → Value.okWide P W' .any 0 t r) :
    s.post enc P f apart fresh handsOn again W args v W' := by
  have hold : ∀ p ∈ before, (fun b => decide (b < W.heap.size)) p.block = true := fun p hp => by simpa using hW.lt p hp
  refine ⟨ds, gs, before, [], pa, pv, hW, hres _ _ _, hargs _ hold, hvars _ hold, World.keptBut_mono (fun p hp => ⟨hp, ?_⟩) (RowKit.Below.frame hk (· ∈ before)), fun _ => ?_⟩
  · rw [hps, List.mem_append] at hp
    exact Or.inr hp
  · have hlt := hW.lt
    obtain ⟨_, _, _, _, _, hz, hn⟩ := hW
    refine ⟨hok, _, _, ([] ++ pa) ++ pv, ⟨[] ++ pa, pv, trodAll_append (hargs _ (fun _ _ => rfl)) (hres _ _ _), hvars _ (fun _ _ => rfl), rfl, ?_, ?_⟩, ?_⟩
    · intro b off hp
      have hp' : (.cell b off : MemPlace) ∈ before := by rw [hps]; simpa using hp
      rw [RowKit.Below.frozen hk (hlt _ hp')]
      exact hz b off hp'
    · intro ha
      have := hn ha
      rw [hps] at this
      simpa using this
    · intro p hp _
      rw [hps]
      simpa using hp
end
end Go.ChangeShapes

/-
  From a reading of the arguments to what lies in memory; and back: a law leaves the arguments as they were.
-/
set_option linter.unusedSimpArgs false
set_option linter.unusedVariables false
set_option linter.unnecessarySimpa false
namespace Go.Sv
open Go Go.RowKit Go.ChangeShapes Go.WideShapes
theorem cell_lt {w : World} {a : Addr} {v : Value} (h : w.cell? a = some v) : a.block < w.heap.size := by
  rcases Nat.lt_or_ge a.block w.heap.size with h1 | h1
  · exact h1
  · have : w.heap[a.block]? = none := Array.getElem?_eq_none h1
    simp [World.cell?, this] at h
theorem seg_app {w : World} {a : Addr} {l l' : List Value} (h : seg w a l) (h' : seg w (a.add l.length) l') : seg w a (l ++ l') := by
  intro i hi
  rcases Nat.lt_or_ge i l.length with h1 | h1
  · rw [h i h1, List.getElem?_append_left h1]
  · have := h' (i - l.length) (by simp at hi; omega)
    rw [add_add, show l.length + (i - l.length) = i by omega] at this
    rw [this, List.getElem?_append_right h1]
theorem seg_range {w : World} {a : Addr} {k : Nat} (f : Nat → List Value) : ∀ n : Nat, (∀ i, i < n → (f i).length = k ∧ seg w (a.add (i * k)) (f i)) → seg w a ((List.range n).flatMap f) ∧ ((List.range n).flatMap f).length = n * k
  | 0, _ => ⟨fun i hi => by simp at hi, by simp⟩
  | n + 1, h => by
    obtain ⟨h1, h2⟩ := seg_range f n fun i hi => h i (by omega)
    obtain ⟨h3, h4⟩ := h n (by omega)
    rw [List.range_succ, List.flatMap_append]
    simp only [List.flatMap_cons, List.flatMap_nil, List.append_nil]
    refine ⟨seg_app h1 (by rw [h2]; exact h4), ?_⟩
    rw [List.length_append, h2, h3, Nat.succ_mul]
/-- a law's ending: it answered true, and left all as it was -/
theorem trodAll_frm {H : Type} {enc : TypeId × Value → H} {P : Program} (hl : laidOutB P = true) {W W' : World} (hf : Sv.Frm W W') {sp : Nat → Bool} : ∀ {ts : List TypeId} {vs : List Value} {ds : List (DataW H)} {ps : List MemPlace},
    (∀ t ∈ ts, P.readableRec t = true ∧ t < P.types.size) → DataW.TrodAll enc P W 0 (fun _ => true) true ts vs ds ps → (∀ p ∈ ps, p.block < W.heap.size) → (∀ p ∈ ps, sp p.block = true) → DataW.TrodAll enc P W' 0 sp true ts vs ds ps
  | [], [], [], _, _, h, _, _ => h
  | t :: ts, v :: vs, d :: ds, _, ht, ⟨p, q, h1, h2, e⟩, hlt, hs => by
    subst e
    refine ⟨p, q, ?_, ?_, rfl⟩
    · obtain ⟨hr, hrow⟩ := ht t List.mem_cons_self
      exact WideElems.Trod_stays hl hr hrow h1 (fun x hx => RowKit.Below.same hf (hlt x (List.mem_append_left _ hx))) fun x hx => hs x (List.mem_append_left _ hx)
    · exact trodAll_frm hl hf (fun t ht' => ht t (List.mem_cons_of_mem _ ht')) h2 (fun x hx => hlt x (List.mem_append_right _ hx)) fun x hx => hs x (List.mem_append_right _ hx)
theorem law_ends {H : Type} {enc : TypeId × Value → H} {P : Program} {f : Func} {s : ChangeSpec} {W W' : World} {args : Array Value} {ds gs : List (DataW H)} {before : List MemPlace} {tb : TypeId}
    (hl : laidOutB P = true) (hT : ∀ t ∈ f.params.toList, P.readableRec t = true ∧ t < P.types.size) (hv : s.vars = []) (hrt : f.resultTypes = #[tb]) (hb : P.underlying tb = some .bool)
    (hW : DataW.Whole enc P f.params.toList s.vars false W args.toList ds gs before) (hfn : s.fn H (ds ++ gs) = { results := [.lit (.bool true)], args := ds ++ gs }) (hg : Frm W W') :
    s.post enc P f false true false false W args (.bool true) W' := by
  have hW' := hW
  have hlt := hW.lt
  obtain ⟨p, q, hA, hV, rfl, _, _⟩ := hW
  rw [hv] at hV
  obtain ⟨rfl, rfl⟩ := trodVars_none hV
  have hrl : (Value.bool true).resultList f.resultTypes.size = [.bool true] := by rw [hrt]; rfl
  simp only [List.append_nil] at hlt hfn
  refine post_frm (pa := p) (pv := []) hW' (fun _ _ _ => ?_) (fun sp hsp => ?_) (fun _ _ => ?_) rfl hg (ok_one hrt rfl (okWide_bool_mk hb _))
  · rw [hrt]
    simp only [List.append_nil, hfn]
    exact trodAll_cons_mk (shut_bool hb _) trodAll_mk0
  · simp only [List.append_nil, hfn]
    exact trodAll_frm hl hg hT hA hlt (fun x hx => hsp x (by simpa using hx))
  · simp only [List.append_nil, hfn, hv]
    rfl
end Go.Sv
namespace Go.Proofs.YthgbpgjpnaanlaaDoor
open Go Go.Sv Go.RowKit Go.ChangeShapes Go.WideShapes Go.Deep

theorem laidOut : laidOutB Tryd.prog = true := by kernel_rfl
theorem own : ownKnob Tryd.prog.godebug = none := by kernel_rfl

section
variable {H : Type} {P : Program} {enc : TypeId × Value → H} {w : World} {base : Nat} {spare : Nat → Bool} {held : Bool}
theorem bulkAll_eq : ∀ l : List (DataW H), Rows.uptoBulkAll l = (l.map Rows.uptoBulk).sum
  | [] => by simp [Rows.uptoBulkAll]
  | d :: l => by simp only [Rows.uptoBulkAll, List.map_cons, List.sum_cons, bulkAll_eq l]
theorem bulk_slice (es rs : List (DataW H)) : Rows.uptoBulk (.slice es rs) = (es.map Rows.uptoBulk).sum + (rs.map Rows.uptoBulk).sum + 1 := by simp only [Rows.uptoBulk, bulkAll_eq]
theorem bulk_agg (es : List (DataW H)) : Rows.uptoBulk (.agg es) = (es.map Rows.uptoBulk).sum + 1 := by simp only [Rows.uptoBulk, bulkAll_eq]
theorem bulk_nil : Rows.uptoBulk (.nil : DataW H) = 1 := by simp only [Rows.uptoBulk]
theorem bulk_str (l : List UInt8) : Rows.uptoBulk (.lit (.string l) : DataW H) = l.length + 1 := by simp only [Rows.uptoBulk]
theorem bulk_int (k : IntKind) (n : Int) : Rows.uptoBulk (.lit (.int k n) : DataW H) = 1 := by simp only [Rows.uptoBulk]
/-- a slice of records: what they are, where they lie, and what they hold together -/
theorem open_recs {t e : TypeId} {fuel : Nat} {cs : List Value} {x : DataW H × List MemPlace} {α : Type} (cells : α → List Value) (wt : α → Nat) (Q : α → Prop) (ht : P.underlying t = some (.slice e))
    (h : DataW.trod enc P w base spare held fuel t cs = some x)
    (hrec : ∀ k cs' y, cs'.length = P.cellsOf e → DataW.trod enc P w base spare held k e cs' = some y → ∃ r, cs' = cells r ∧ Q r ∧ wt r ≤ Rows.uptoBulk y.1) :
    ∃ (p : Option Addr) (c : Nat) (rs : List α), cs = [.slice p rs.length c] ∧ rs.length ≤ c ∧ c ≤ maxLen ∧ Im [] w p (rs.flatMap cells) ∧ (∀ r ∈ rs, Q r) ∧ (rs.map wt).sum + 1 ≤ Rows.uptoBulk x.1 := by
  rcases open_slice ht h with ⟨rfl, rfl⟩ | ⟨a, len, cap, m, n, D, Pl, rfl, _, hl, hm, hmm, rfl, hi⟩
  · exact ⟨none, 0, [], rfl, Nat.le_refl _, Nat.zero_le _, .inl rfl, by simp, by simp [bulk_nil]⟩
  · have hlm : len ≤ m := by rw [hmm]; split <;> omega
    have key : ∀ n : Nat, n ≤ len → ∃ rs : List α, rs.length = n ∧ rs.flatMap cells = (List.range n).flatMap (fun i => (w.cells? base (a.add (i * P.cellsOf e)) (P.cellsOf e)).getD []) ∧ (∀ r ∈ rs, Q r) ∧ (rs.map wt).sum ≤ ((List.range n).map fun i => Rows.uptoBulk (D i)).sum := by
      intro n
      induction n with
      | zero => intro _; exact ⟨[], rfl, rfl, by simp, by simp⟩
      | succ n ih =>
        intro hn
        obtain ⟨rs, h1, h2, h3, h4⟩ := ih (by omega)
        obtain ⟨cs', h5, h6⟩ := hi n (by omega)
        obtain ⟨_, hcl, _⟩ := World.cells?_some h5
        obtain ⟨r, h7, h8, h9⟩ := hrec _ _ _ hcl h6
        refine ⟨rs ++ [r], by simp [h1], ?_, ?_, ?_⟩
        · rw [List.range_succ, List.flatMap_append, List.flatMap_append, h2]
          simp [h5, h7]
        · intro x hx
          rcases List.mem_append.1 hx with hx | hx
          · exact h3 x hx
          · rw [List.mem_singleton.1 hx]; exact h8
        · rw [List.range_succ, List.map_append, List.map_append, List.sum_append, List.sum_append]
          simp only [List.map_cons, List.map_nil, List.sum_cons, List.sum_nil]
          dsimp only at h9
          omega
    obtain ⟨rs, h1, h2, h3, h4⟩ := key len (Nat.le_refl _)
    refine ⟨some a, cap, rs, by rw [h1], by omega, hm, ?_, h3, ?_⟩
    · rw [h2]
      have hsr := seg_range (w := w) (a := a) (k := P.cellsOf e) (fun i => (w.cells? base (a.add (i * P.cellsOf e)) (P.cellsOf e)).getD []) len (fun i hil => by
        obtain ⟨cs', h5, _⟩ := hi i (by omega)
        obtain ⟨_, hcl, hat⟩ := World.cells?_some h5
        rw [h5]
        exact ⟨hcl, fun j hj => hat j (by simpa [hcl] using hj)⟩)
      generalize (List.range len).flatMap (fun i => (w.cells? base (a.add (i * P.cellsOf e)) (P.cellsOf e)).getD []) = L at *
      cases L with
      | nil => exact .inl rfl
      | cons v L =>
        refine .inr ⟨a, rfl, hsr.1, ?_, by simp⟩
        have := hsr.1 0 (by simp)
        have h0 : w.cell? (a.add 0) = some v := this
        have := cell_lt h0
        rwa [add_block] at this
    · rw [bulk_slice, List.map_map]
      have : ((List.range len).map (Rows.uptoBulk ∘ D)).sum = ((List.range len).map fun i => Rows.uptoBulk (D i)).sum := rfl
      omega
theorem str_of (s : ByteArray) : Value.string s = str s.data.toList := by cases s; rfl
/-- a cell that is a text -/
theorem open_strc {t : TypeId} {fuel : Nat} {cs : List Value} {x : DataW H × List MemPlace} (ht : P.underlying t = some .string) (h : DataW.trod enc P w base spare held fuel t cs = some x) : ∃ l : List UInt8, cs = [str l] ∧ Rows.uptoBulk x.1 = l.length + 1 := by
  obtain ⟨s, rfl, rfl, _⟩ := DataW.trod_string ht h
  exact ⟨s.data.toList, by rw [str_of], bulk_str _⟩
theorem open_intc {t : TypeId} {k : IntKind} {fuel : Nat} {cs : List Value} {x : DataW H × List MemPlace} (ht : P.underlying t = some (.int k)) (h : DataW.trod enc P w base spare held fuel t cs = some x) : ∃ n : Int, cs = [.int k n] ∧ k.min ≤ n ∧ n ≤ k.max ∧ Rows.uptoBulk x.1 = 1 := by
  obtain ⟨n, rfl, rfl, hw⟩ := DataW.trod_int ht h
  simp only [Lit.wf, IntKind.has, Bool.and_eq_true, decide_eq_true_eq] at hw
  exact ⟨n, rfl, hw.1, hw.2, bulk_int _ _⟩
theorem small_le {ds : List (DataW H)} (hk : Rows.uptoSmall H ds = true) : (ds.map Rows.uptoBulk).sum ≤ 1048576 := by
  have := of_decide_eq_true hk
  rwa [bulkAll_eq] at this
end
end Go.Proofs.YthgbpgjpnaanlaaDoor

/-
  Readings of attributes: what lies in memory.
-/
set_option linter.unusedSimpArgs false
set_option linter.unusedVariables false
set_option linter.unnecessarySimpa false
namespace Go.Proofs.YthgbpgjpnaanlaaDoor
open Go Go.Sv Go.RowKit Go.ChangeShapes Go.WideShapes Go.Deep

theorem c_str : Tryd.prog.cellsOf 9 = 1 := by kernel_rfl
theorem c_attrs : Tryd.prog.cellsOf 46 = 1 := by kernel_rfl
theorem c_attr : Tryd.prog.cellsOf 51 = 2 := by kernel_rfl
section
variable {H : Type} {enc : TypeId × Value → H} {w : World} {base : Nat} {spare : Nat → Bool} {held : Bool}
set_option maxRecDepth 100000 in
theorem open_at {fuel : Nat} {cs : List Value} {x : DataW H × List MemPlace} (h : DataW.trod enc Tryd.prog w base spare held fuel 51 cs = some x) : ∃ r : At, cs = r.cells ∧ True ∧ r.wt ≤ Rows.uptoBulk x.1 := by
  obtain ⟨xs, n, _, rfl, hl, hlen, hf⟩ := DataW.trod_struct Tryd.underlying51 h
  rw [c_attr] at hl
  have f0 := hf 0 _ rfl
  have f1 := hf 1 _ rfl
  clear hf h
  match cs, hl with
  | [c0, c1], _ =>
    match xs, hlen with
    | [y0, y1], _ =>
      simp only [c_str, List.drop_zero, List.drop_succ_cons, List.take_succ_cons, List.take_zero, List.getElem?_cons_zero, List.getElem?_cons_succ] at f0 f1
      obtain ⟨l0, e0, b0⟩ := open_strc Tryd.underlying9 f0
      obtain ⟨l1, e1, b1⟩ := open_strc Tryd.underlying9 f1
      injection e0 with e0
      injection e1 with e1
      subst e0 e1
      refine ⟨⟨l0, l1⟩, rfl, trivial, ?_⟩
      rw [bulk_agg]
      simp only [List.map_cons, List.map_nil, List.sum_cons, List.sum_nil, b0, b1, At.wt]
      omega
end
end Go.Proofs.YthgbpgjpnaanlaaDoor

/-
  Readings of events: what lies in memory.
-/
set_option linter.unusedSimpArgs false
set_option linter.unusedVariables false
set_option linter.unnecessarySimpa false
namespace Go.Proofs.YthgbpgjpnaanlaaDoor
open Go Go.Sv Go.RowKit Go.ChangeShapes Go.WideShapes Go.Deep
theorem c_ekind : Tryd.prog.cellsOf 45 = 1 := by kernel_rfl
theorem c_ev : Tryd.prog.cellsOf 48 = 4 := by kernel_rfl
section
variable {H : Type} {enc : TypeId × Value → H} {w : World} {base : Nat} {spare : Nat → Bool} {held : Bool}
set_option maxRecDepth 100000 in
theorem open_ev {fuel : Nat} {cs : List Value} {x : DataW H × List MemPlace} (h : DataW.trod enc Tryd.prog w base spare held fuel 48 cs = some x) : ∃ r : EvM, cs = r.cells ∧ Im [] w r.p (r.e.attrs.flatMap At.cells) ∧ r.e.wt ≤ Rows.uptoBulk x.1 := by
  obtain ⟨xs, n, _, rfl, hl, hlen, hf⟩ := DataW.trod_struct Tryd.underlying48 h
  rw [c_ev] at hl
  have f0 := hf 0 _ rfl
  have f1 := hf 1 _ rfl
  have f2 := hf 2 _ rfl
  have f3 := hf 3 _ rfl
  clear hf h
  match cs, hl with
  | [c0, c1, c2, c3], _ =>
    match xs, hlen with
    | [y0, y1, y2, y3], _ =>
      simp only [c_str, c_ekind, c_attrs, List.drop_zero, List.drop_succ_cons, List.take_succ_cons, List.take_zero, List.getElem?_cons_zero, List.getElem?_cons_succ] at f0 f1 f2 f3
      obtain ⟨k, e0, _, _, b0⟩ := open_intc Tryd.underlying45 f0
      obtain ⟨l1, e1, b1⟩ := open_strc Tryd.underlying9 f1
      obtain ⟨l2, e2, b2⟩ := open_strc Tryd.underlying9 f2
      obtain ⟨p, c, es, e3, _, _, him, _, b3⟩ := open_recs At.cells At.wt (fun _ => True) Tryd.underlying46 f3 (fun k cs' y _ hy => open_at hy)
      injection e0 with e0; injection e1 with e1; injection e2 with e2; injection e3 with e3
      subst e0 e1 e2 e3
      refine ⟨⟨⟨k, l1, l2, es⟩, p, c⟩, rfl, him, ?_⟩
      simp only [bulk_agg, List.map_cons, List.map_nil, List.sum_cons, List.sum_nil, b0, b1, b2]
      unfold Ev.wt
      dsimp only at b3 ⊢
      omega
end
end Go.Proofs.YthgbpgjpnaanlaaDoor

/-
  Readings of lists of events, with their capacity.
-/
set_option linter.unusedSimpArgs false
set_option linter.unusedVariables false
set_option linter.unnecessarySimpa false
namespace Go.Proofs.YthgbpgjpnaanlaaDoor
open Go Go.Sv Go.RowKit Go.ChangeShapes Go.WideShapes Go.Deep
set_option maxRecDepth 100000 in
theorem open_evs2 {H : Type} {enc : TypeId × Value → H} {w : World} {base : Nat} {spare : Nat → Bool} {held : Bool} {v : Value} {d : DataW H} {ps : List MemPlace} {r : Reach} {b0 : Nat} (hv : Value.okWide Tryd.prog w r b0 25 v) (h : DataW.Trod enc Tryd.prog w base spare held 25 v d ps) :
    ∃ (p : Option Addr) (c : Nat) (ms : List EvM), v = .slice p ms.length c ∧ ms.length ≤ c ∧ Evs w p ms ∧ evw ms + 1 ≤ Rows.uptoBulk d := by
  obtain ⟨a, n, cc, rfl⟩ := okWide_slice Tryd.underlying25 hv
  obtain ⟨fuel, hf⟩ := h
  obtain ⟨p, c, ms, e, hc, _, him, hQ, hw⟩ := open_recs EvM.cells (fun m => m.e.wt) (fun m => Im [] w m.p (m.e.attrs.flatMap At.cells)) Tryd.underlying25 hf (fun k cs' y _ hy => open_ev hy)
  have e' : Value.slice a n cc = .slice p ms.length c := by simpa [Value.cells] using e
  exact ⟨p, c, ms, e', hc, ⟨him, hQ⟩, hw⟩
end Go.Proofs.YthgbpgjpnaanlaaDoor

/-
  Readings of arguments of one cell: numbers, truth values.
-/
set_option linter.unusedSimpArgs false
set_option linter.unusedVariables false
set_option linter.unnecessarySimpa false
namespace Go.Proofs.YthgbpgjpnaanlaaDoor
open Go Go.Sv Go.RowKit Go.ChangeShapes Go.WideShapes Go.Deep
set_option maxRecDepth 100000 in
theorem open_int1 {H : Type} {enc : TypeId × Value → H} {w : World} {base : Nat} {spare : Nat → Bool} {held : Bool} {v : Value} {d : DataW H} {ps : List MemPlace} {r : Reach} {b0 : Nat} (hv : Value.okWide Tryd.prog w r b0 3 v) (h : DataW.Trod enc Tryd.prog w base spare held 3 v d ps) :
    ∃ n : Int, v = .int .i64 n ∧ IntKind.min .i64 ≤ n ∧ n ≤ IntKind.max .i64 ∧ 1 ≤ Rows.uptoBulk d := by
  obtain ⟨s, rfl⟩ := okWide_int Tryd.underlying3 hv
  obtain ⟨fuel, hf⟩ := h
  obtain ⟨l, e, h1, h2, hw⟩ := open_intc Tryd.underlying3 hf
  dsimp only at hw
  exact ⟨l, by simpa [Value.cells] using e, h1, h2, by omega⟩
end Go.Proofs.YthgbpgjpnaanlaaDoor

/-
  Readings of arguments of one cell: texts.
-/
set_option linter.unusedSimpArgs false
set_option linter.unusedVariables false
set_option linter.unnecessarySimpa false
namespace Go.Proofs.YthgbpgjpnaanlaaDoor
open Go Go.Sv Go.RowKit Go.ChangeShapes Go.WideShapes Go.Deep
section
variable {H : Type} {enc : TypeId × Value → H} {w : World} {base : Nat} {spare : Nat → Bool} {held : Bool}
end
end Go.Proofs.YthgbpgjpnaanlaaDoor

/-
  What a row's list says of the table of blanks; a world for the witness.
-/
set_option linter.unusedSimpArgs false
set_option linter.unusedVariables false
set_option linter.unnecessarySimpa false
namespace Go.Proofs.YthgbpgjpnaanlaaDoor
open Go Go.Sv Go.RowKit Go.ChangeShapes Go.WideShapes Go.ChangeAt

theorem laid_at {P : Program} {W : World} {name : String} {d : DataW Unit} : ∀ {laid : List (String × DataW Unit)} {ps : List MemPlace}, DataW.LaidVars P W laid ps → (name, d) ∈ laid →
    ∃ g t cs fuel p, P.globalNamed name = some g ∧ (P.globals[g]?).map (·.type) = some t ∧ W.var? P name = some cs ∧ DataW.trod (fun _ => ()) P W 0 (fun _ => true) false fuel t cs.toList = some (d, p)
  | [], _, _, hm => by cases hm
  | x :: laid, ps, h, hm => by
    obtain ⟨g', t', cs, fuel, p, q, hg', ht', hvar, hd, hr, _⟩ := h
    rcases List.mem_cons.1 hm with rfl | hm
    · exact ⟨g', t', cs, fuel, p, hg', ht', hvar, hd⟩
    · exact laid_at hr hm
theorem gAscType : (Tryd.prog.globals[0]?).map (·.type) = some 160 := by kernel_rfl
set_option maxRecDepth 100000 in
theorem asc_of {W : World} {laid : List (String × DataW Unit)} (h : laidMet Tryd.prog laid W) (hm : ("strings.asciiSpace", Rows.laid_strings_asciiSpace) ∈ laid) : Asc W := by
  obtain ⟨ps, hL, _⟩ := h
  obtain ⟨g', t', cs, fuel, p, hg', ht', hvar, hd⟩ := laid_at hL hm
  obtain rfl := Option.some.inj (gAsc.symm.trans hg')
  obtain rfl := Option.some.inj (gAscType.symm.trans ht')
  have e : (Rows.laid_strings_asciiSpace : DataW Unit) = Lib.tabData .u8 Lib.asciiSpaceTab := by kernel_rfl
  rw [e] at hd
  unfold Asc Lib.TabIs
  rw [hvar, ← Lib.cells_of_tab Tryd.underlying160 Tryd.underlying5 (by kernel_rfl) (by kernel_rfl) hd]
/-- a world for the witness: the variables hold what their initialisers lay -/
noncomputable def ascHeap (h : Array Obj) : Array Obj :=
  (((h.modify 0 fun | .cells _ t f => .cells (Lib.asciiSpaceTab.map fun z => Value.int .u8 z).toArray t f | o => o).modify 1 fun
    | .cells _ t f => .cells #[.pointer (some ⟨h.size, 0, none⟩)] t f | o => o).push (.cells #[.slice (some ⟨h.size + 1, 0, none⟩) 7 7, .slice none 0 0, .int .i64 2] 201 (0, 0))).push
    (.cells (([9, 13, 1, 32, 133, 101, 160, 5760, 5600, 8192, 8202, 1, 8232, 8233, 1, 8239, 8287, 48, 12288, 12288, 1] : List Int).map fun z => Value.int .u16 z).toArray 204 (0, 0))
noncomputable def ascWorld (os : Os) : World := { World.holding Tryd.prog os ⟨#[], #[], []⟩ with heap := ascHeap (World.holding Tryd.prog os ⟨#[], #[], []⟩).heap }
end Go.Proofs.YthgbpgjpnaanlaaDoor

