/-
  Regions that draw their order and write: what stands in the world is told by what has been carried out.
-/
import Derived.Test.YtffaoehhhdcjjaaSvGo
set_option linter.unusedSimpArgs false
set_option linter.unusedVariables false
set_option linter.unnecessarySimpa false
namespace Go.Sv
open Go Go.RowKit

def fl (b : Array Bool) : Nat → Bool := fun k => b.getD k false
def on (L : Nat → Bool) (i : Nat) : Nat → Bool := fun k => match Nat.beq k i with | true => true | false => L k
theorem on_same (L : Nat → Bool) (i : Nat) : on L i i = true := by simp [on, Nat.beq_refl]
theorem on_ne (L : Nat → Bool) {i k : Nat} (h : k ≠ i) : on L i k = L k := by
  have : Nat.beq k i = false := by
    cases hb : Nat.beq k i
    · rfl
    · exact absurd (Nat.eq_of_beq_eq_true hb) h
  simp [on, this]
theorem fl_set {b : Array Bool} {i : Nat} (hi : i < b.size) : fl (b.setIfInBounds i true) = on (fl b) i := by
  funext k
  by_cases e : k = i
  · subst e; rw [on_same]; simp [fl, hi]
  · rw [on_ne _ e]; exact getD_set_ne false (Ne.symm e)
def bindsOn (o : Oper) (j : Nat) : Bool := o.after.toList.any fun e => Region.binds .any e && e.on == j
theorem bindsOn_iff {o : Oper} {j : Nat} : bindsOn o j = true ↔ ∃ e ∈ o.after, Region.binds .any e = true ∧ e.on = j := by
  simp only [bindsOn, List.any_eq_true, Bool.and_eq_true, beq_iff_eq, Array.mem_toList_iff]
def Clo (ops : Array Oper) (L : Nat → Bool) : Prop := ∀ j oj, ops[j]? = some oj → L j = true → ∀ i, bindsOn oj i = true → L i = true
/-- what is known when operation k comes up: it stands behind what it waits for, ahead of what waits for it -/
structure Up (ops : Array Oper) (o : Oper) (k : Nat) (L : Nat → Bool) : Prop where
  now : L k = false
  did : ∀ j, bindsOn o j = true → L j = true
  ahead : ∀ j oj, ops[j]? = some oj → bindsOn oj k = true → L j = false
/-- an operation yields v, and behind it T holds -/
def sees (P : Program) (T : World → Prop) (v : Value) : Result Next → Prop
  | .ok (.value u) w' => u = v ∧ T w'
  | .ok .skip w' => v = undef ∧ T w'
  | .ok (.enter f args) w' => Calls P f args w' (fun e w'' => e = .returned v ∧ T w'')
  | _ => False

section
variable {P : Program} {ops : Array Oper} {S : (Nat → Bool) → World → Prop}
def YA (P : Program) (ops : Array Oper) (S : (Nat → Bool) → World → Prop) (o : Oper) (k : Nat) (v : Value) (ev : Operand → Value) : Prop :=
  ∀ L w, Up ops o k L → S L w → sees P (S (on L k)) v ((execOp ev o).run P w)
def ZA (P : Program) (ops : Array Oper) (S : (Nat → Bool) → World → Prop) (o : Oper) (k : Nat) (v : Value) (a : Act) : Prop :=
  (Region.wanted o (yielded ops a.tmps) = true ∧ ∀ L w, Up ops o k L → S L w → sees P (S (on L k)) v ((execOp a.eval o).run P w)) ∨
  (Region.wanted o (yielded ops a.tmps) = false ∧ v = undef ∧ ∀ L w, Up ops o k L → S L w → S (on L k) w)
def gOp (P : Program) (ops : Array Oper) (S : (Nat → Bool) → World → Prop) (i : Nat) (K : Act → Prop) (a : Act) : Prop := ∃ o v, ops[i]? = some o ∧ ZA P ops S o i v a ∧ K (a.put o.dst v)
def wpG (P : Program) (ops : Array Oper) (S : (Nat → Bool) → World → Prop) (Qf : Act → Prop) : Nat → Array Bool → Act → Prop
  | 0, listed, a => Region.ready .any ops listed = [] ∧ (∀ k, k < ops.size → fl listed k = true) ∧ Qf a
  | f + 1, listed, a => Region.ready .any ops listed ≠ [] ∧ ∀ i ∈ Region.ready .any ops listed, gOp P ops S i (fun a' => wpG P ops S Qf f (listed.setIfInBounds i true) a') a

theorem clo_on {L : Nat → Bool} {i : Nat} {o : Oper} (hc : Clo ops L) (hi : ops[i]? = some o) (hd : ∀ j, bindsOn o j = true → L j = true) : Clo ops (on L i) := by
  intro j oj hj hL k hk
  by_cases e : j = i
  · subst e
    rw [hi] at hj
    cases hj
    have := hd k hk
    by_cases e2 : k = j
    · subst e2; exact on_same _ _
    · rw [on_ne _ e2]; exact this
  · rw [on_ne _ e] at hL
    have := hc j oj hj hL k hk
    by_cases e2 : k = i
    · subst e2; exact on_same _ _
    · rw [on_ne _ e2]; exact this

theorem wpAny_of_G {Q : Exit → Act → World → Prop} {Qf : Act → Prop} (hQ : ∀ a L w, Qf a → (∀ k, k < ops.size → L k = true) → S L w → Q .normal a w) :
    ∀ (f : Nat) (listed : Array Bool) (a : Act) (w : World), listed.size = ops.size → Clo ops (fl listed) → S (fl listed) w → wpG P ops S Qf f listed a → wpAny P .any ops Q f listed a w
  | 0, listed, a, w, _, _, hS, h => ⟨h.1, hQ _ _ _ h.2.2 h.2.1 hS⟩
  | f + 1, listed, a, w, hsz, hc, hS, h => by
    refine ⟨fun h0 => absurd h0 h.1, fun i hi => ?_⟩
    obtain ⟨o, v, ho, hz, hK⟩ := h.2 i hi
    obtain ⟨h0, o', ho', hall⟩ := mem_ready.1 hi
    rw [ho] at ho'
    cases ho'
    have hlt : i < listed.size := by rw [hsz]; exact (Array.getElem?_eq_some_iff.1 ho).1
    have hup : Up ops o i (fl listed) := by
      refine ⟨?_, ?_, ?_⟩
      · show listed.getD i false = false
        simp only [Array.getD_eq_getD_getElem?, hlt, Array.getElem?_eq_getElem, Option.getD_some] at h0 ⊢
        exact h0
      · intro j hj
        obtain ⟨e, he, hb, rfl⟩ := bindsOn_iff.1 hj
        exact hall e he hb
      · intro j oj hj hb
        cases hL : fl listed j with
        | false => rfl
        | true =>
          have h1 := hc j oj hj hL i hb
          have h2 : fl listed i = true := h1
          simp only [fl, Array.getD_eq_getD_getElem?, hlt, Array.getElem?_eq_getElem, Option.getD_some] at h0 h2
          rw [h0] at h2
          cases h2
    have next : ∀ w', S (on (fl listed) i) w' → wpAny P .any ops Q f (listed.setIfInBounds i true) (a.put o.dst v) w' := fun w' hw' =>
      wpAny_of_G hQ f _ _ _ (by simpa using hsz) (by rw [fl_set hlt]; exact clo_on hc ho hup.did) (by rw [fl_set hlt]; exact hw') hK
    unfold wpOp
    simp only [ho]
    rcases hz with ⟨hw, hy⟩ | ⟨hw, rfl, hs⟩
    · rw [hw, if_pos rfl]
      refine .inl ?_
      unfold Oper.wp
      have hy := hy _ _ hup hS
      generalize (execOp a.eval o).run P w = r at *
      cases r with
      | ok x w' =>
        cases x <;> simp only [sees] at hy <;> simp only [Oper.upon]
        case value u =>
          obtain ⟨rfl, h2⟩ := hy
          exact next _ h2
        case skip =>
          obtain ⟨rfl, h2⟩ := hy
          exact next _ h2
        case enter g args =>
          refine Calls.mono hy ?_
          rintro e w'' ⟨rfl, h2⟩
          exact next _ h2
      | halt x w' => simp only [sees] at hy
    · rw [hw, if_neg Bool.false_ne_true]
      exact next _ (hs _ _ hup hS)

theorem ZA.of_same {o : Oper} {k : Nat} {v : Value} {a a' : Act} (hy : ZA P ops S o k v a) (he : execOp a'.eval o = execOp a.eval o)
    (hw : Region.wanted o (yielded ops a'.tmps) = Region.wanted o (yielded ops a.tmps)) : ZA P ops S o k v a' := by
  unfold ZA at *
  rw [he, hw]
  exact hy
theorem gOp_put {i j : Nat} {oi oj : Oper} {v : Value} (hj : ops[j]? = some oj) (hap : oi.apart ops oj = true)
    (hsi : ∀ cs b, oi.op ≠ .select cs b) (hsj : ∀ cs b, oj.op ≠ .select cs b) {K : Act → Prop} {a : Act}
    (hy : ZA P ops S oi i v a) (h : gOp P ops S j K (a.put oi.dst v)) : gOp P ops S j (fun a' => ZA P ops S oi i v a' ∧ K (a'.put oi.dst v)) a := by
  obtain ⟨h1, h2, h3⟩ := Oper.apart_spec hap
  obtain ⟨o, u, ho, hz, hK⟩ := h
  rw [hj] at ho
  cases ho
  refine ⟨oj, u, hj, hz.of_same (execOp_put oj hsj a oi.dst v h1).symm (wanted_put oj a oi.dst v h1).symm, hy.of_same (execOp_put oi hsi a oj.dst u h3) (wanted_put oi a oj.dst u h3), ?_⟩
  rw [← Act.put_comm a v u h2]
  exact hK
theorem gOp_mono {i : Nat} {K K' : Act → Prop} {a : Act} (h : ∀ a, K a → K' a) (hh : gOp P ops S i K a) : gOp P ops S i K' a := by
  obtain ⟨o, v, ho, hz, hK⟩ := hh
  exact ⟨o, v, ho, hz, h _ hK⟩
theorem wpG_first {Qf : Act → Prop} {i : Nat} {oi : Oper} {v : Value} (hi : ops[i]? = some oi) (hsel : ∀ (j : Nat) (o : Oper) cs b, ops[j]? = some o → o.op ≠ .select cs b) :
    ∀ (f : Nat) (listed : Array Bool) (a : Act),
      (∀ j oj, ops[j]? = some oj → j ≠ i → listed.getD j true = false → (∀ e ∈ oj.after, Region.binds .any e = true → e.on ≠ i) → oi.apart ops oj = true) →
      i ∈ Region.ready .any ops listed → ZA P ops S oi i v a →
      wpG P ops S Qf f (listed.setIfInBounds i true) (a.put oi.dst v) → wpG P ops S Qf (f + 1) listed a := by
  intro f
  induction f with
  | zero =>
    intro listed a _ hr hy H
    refine ⟨fun h => (by rw [h] at hr; cases hr), fun j hj => ?_⟩
    by_cases hji : j = i
    · subst hji; exact ⟨oi, v, hi, hy, H⟩
    · have := ready_mono hj hji
      rw [H.1] at this
      cases this
  | succ f ih =>
    intro listed a hfree hr hy H
    refine ⟨fun h => (by rw [h] at hr; cases hr), fun j hj => ?_⟩
    by_cases hji : j = i
    · subst hji; exact ⟨oi, v, hi, hy, H⟩
    · have h1 := H.2 j (ready_mono hj hji)
      obtain ⟨hjun, oj, hoj, hall⟩ := mem_ready.1 hj
      have hnot : ∀ e ∈ oj.after, Region.binds .any e = true → e.on ≠ i := fun e he hb heq => by
        have h1 := hall e he hb
        have h0 := (mem_ready.1 hr).1
        rw [heq] at h1
        rcases Nat.lt_or_ge i listed.size with h' | h'
        · simp [h'] at h0 h1; rw [h0] at h1; cases h1
        · simp [Array.getElem?_eq_none h'] at h1
      have h2 := gOp_put hoj (hfree j oj hoj hji hjun hnot) (fun cs b => hsel i oi cs b hi) (fun cs b => hsel j oj cs b hoj) hy h1
      have hfree' : ∀ k ok, ops[k]? = some ok → k ≠ i → (listed.setIfInBounds j true).getD k true = false →
          (∀ e ∈ ok.after, Region.binds .any e = true → e.on ≠ i) → oi.apart ops ok = true := fun k ok hk hki hun hno => by
        refine hfree k ok hk hki ?_ hno
        by_cases hjk : j = k
        · subst hjk; exact hjun
        · rw [getD_set_ne true hjk] at hun; exact hun
      refine gOp_mono (fun a' h3 => ih (listed.setIfInBounds j true) a' hfree' (ready_mono hr (Ne.symm hji)) h3.1 ?_) h2
      rw [Array.setIfInBounds_comm _ _ hji]
      exact h3.2

/-- the lexical walk -/
def QS (P : Program) (ops : Array Oper) (S : (Nat → Bool) → World → Prop) (Qf : Env → Prop) : Nat → List Oper → Env → Prop
  | _, [], σ => Qf σ
  | k, o :: l, σ => ∃ v, ((Region.wanted o (yl ops σ) = true ∧ YA P ops S o k v (evl σ)) ∨ (Region.wanted o (yl ops σ) = false ∧ v = undef ∧ ∀ L w, Up ops o k L → S L w → S (on L k) w)) ∧ QS P ops S Qf (k + 1) l (updO σ o.dst v)
theorem wpG_lex {n : Nat} {dd : List Deferred} {Qf : Env → Prop} (hs : Region.noSelect ops = true) : ∀ (l : List Oper) (k : Nat) (listed : Array Bool) (σ : Env), (∀ j, l[j]? = ops[k + j]?) → listed.size = ops.size → (∀ j, j < k → fl listed j = true) → k + l.length = ops.size →
    Region.lexFrom .any ops l.length k listed = true → l.all (operIn n false ops) = true → QS P ops S Qf k l σ → wpG P ops S (fun a => ∃ σ', a = act n dd σ' ∧ Qf σ') l.length listed (act n dd σ)
  | [], k, listed, σ, _, _, hd, hk, hB, _, h => ⟨by simpa [Region.lexFrom] using hB, fun j hj => hd j (by simp only [List.length_nil] at hk; omega), σ, rfl, h⟩
  | o :: l, k, listed, σ, hl, hsz, hd, hk, hB, hin, h => by
    have h0 : ops[k]? = some o := by simpa using (hl 0).symm
    have hlt : k < listed.size := by rw [hsz]; exact (Array.getElem?_eq_some_iff.1 h0).1
    simp only [List.length_cons, Region.lexFrom, Bool.and_eq_true] at hB
    obtain ⟨⟨hr, hf⟩, hB'⟩ := hB
    simp only [List.all_cons, Bool.and_eq_true] at hin
    obtain ⟨v, hy, hK⟩ := h
    refine wpG_first (v := v) h0 (Region.noSelect_spec hs) l.length listed _ (Region.free_spec h0 hf) (by simpa using hr) ?_ ?_
    · unfold ZA
      rw [act_yielded hin.1, act_exec hin.1]
      exact hy
    · rw [act_put (operIn_dst hin.1)]
      refine wpG_lex hs l (k + 1) _ _ (fun j => by have := hl (j + 1); simpa [Nat.add_assoc, Nat.add_comm 1 j] using this) (by simpa using hsz) (fun j hj => ?_) (by simp only [List.length_cons] at hk; omega) hB' hin.2 hK
      rw [fl_set hlt]
      by_cases e : j = k
      · subst e; exact on_same _ _
      · rw [on_ne _ e]; exact hd j (by omega)
end
section
variable {P : Program} {n : Nat} {ds : Ctx} {Q : Exit → Ctx → Env → World → Prop} {S : (Nat → Bool) → World → Prop} {σ : Env} {w : World}
theorem WC_drawS [hm : Mix P] {id : Nat} {ops : List Oper} (hro : ds.ro = none) (hB : Region.lexB .any ops.toArray = true) (h0 : ∀ wd, Frm w wd → S (fun _ => false) wd)
    (h : QS P ops.toArray S (fun σ' => ∀ L w', (∀ k, k < ops.length → L k = true) → S L w' → Q .normal ds σ' w') 0 ops σ) : WC P n ds (.region id ops.toArray true) Q σ w := by
  obtain ⟨dd, ro⟩ := ds
  dsimp only at hro
  subst hro
  unfold WC
  intro hin
  have hin' : ops.all (operIn n false ops.toArray) = true := by simpa [codeIn] using hin
  simp only [Region.lexB, Bool.and_eq_true] at hB
  refine wpIn_wide.2 (wp_region_any hm.ok ?_)
  have e0 : fl (Array.replicate ops.toArray.size false) = fun _ => false := by funext k; exact getD_replicate_false _ _
  refine wpAny_of_G (S := S) (Qf := fun a => ∃ σ', a = act n dd σ' ∧ ∀ L w', (∀ k, k < ops.length → L k = true) → S L w' → Q .normal ⟨dd, none⟩ σ' w') ?_ _ _ _ _ (by simp) ?_ ?_ ?_
  · rintro a L w' ⟨σ', rfl, hq⟩ hL hS
    exact ⟨dd, σ', rfl, hq L w' (by simpa using hL) hS⟩
  · rw [e0]; intro j oj _ hL; cases hL
  · rw [e0]; exact h0 _ (Frm.drawn (Frm.refl w))
  · have := wpG_lex (dd := dd) (n := n) hB.1 ops 0 (Array.replicate ops.toArray.size false) σ (by simp) (by simp) (by omega) (by simp) (by simpa using hB.2) hin' h
    simpa using this
end

/-! ## The rules as a script meets them -/
section
variable {P : Program} {n : Nat} {ds : Ctx} {ops : Array Oper} {Q : Exit → Ctx → Env → World → Prop} {S : (Nat → Bool) → World → Prop} {Qf : Env → Prop} {rest : List Oper} {σ : GE} {w : World} {v : Value} {d k : Nat} {op : Op} {ty : TypeId} {pos : String} {af : Array Edge} {nd : Bool}
theorem wcdraws [hm : Mix P] {id : Nat} {ops : List Oper} (S : (Nat → Bool) → World → Prop) (h0 : ∀ wd, Frm w wd → S (fun _ => false) wd)
    (h : QS P ops.toArray S (fun σ' => ∀ L w', (∀ k, k < ops.length → L k = true) → S L w' → Q .normal ds σ' w') 0 ops (real σ)) (hB : Region.lexB .any ops.toArray = true := by kernel_rfl) (hro : ds.ro = none := by rfl) : WC P n ds (.region id ops.toArray true) Q (real σ) w :=
  WC_drawS hro hB h0 h
theorem qs_nil (h : Qf (real σ)) : QS P ops S Qf k [] (real σ) := h
theorem sees_of_Y {ev : Env} {o : Oper} {w w' : World} {T : World → Prop} (hy : Y P ev o w v w') (hT : T w') : sees P T v ((execOp (evl ev) o).run P w) := by
  unfold Y at hy
  rcases hy with hy | ⟨hy, hv⟩
  · rw [hy]; exact ⟨rfl, hT⟩
  · rw [hy]; exact ⟨hv, hT⟩
/-- an operation that leaves the world alone -/
theorem qsy (h : QS P ops S Qf (k + 1) rest (real (updG σ d ⟨v, true⟩))) (hy : ∀ L w, Up ops ⟨some d, op, ty, pos, af, none⟩ k L → S L w → Y P (real σ) ⟨some d, op, ty, pos, af, none⟩ w v w) (hi : ∀ L w, S L w → S (on L k) w := by exact fun _ _ h => h) :
    QS P ops S Qf k (⟨some d, op, ty, pos, af, none⟩ :: rest) (real σ) :=
  ⟨v, .inl ⟨by simp [Region.wanted], fun L w hu hs => sees_of_Y (hy L w hu hs) (hi L w hs)⟩, by rw [← real_upd] at h; exact h⟩
theorem qsp (h : QS P ops S Qf (k + 1) rest (real (updG σ d ⟨v, true⟩))) (he : ev1 σ op = some ⟨v, nd⟩ := by rfl) (hn : nd = true := by first | with_reducible rfl | with_reducible exact Go.Sv.tt | with_reducible exact Go.Sv.pk_or _ | with_reducible exact Go.Sv.pk_and _ | with_reducible exact Go.Sv.pk_tt _) (hi : ∀ L w, S L w → S (on L k) w := by exact fun _ _ h => h) :
    QS P ops S Qf k (⟨some d, op, ty, pos, af, none⟩ :: rest) (real σ) := qsy h (fun _ _ _ _ => ev1_ok he hn) hi
/-- .. and yields the same in whatever world -/
theorem qsq (h : QS P ops S Qf (k + 1) rest (real (updG σ d ⟨v, true⟩))) (hy : ∀ w, Y P (real σ) ⟨some d, op, ty, pos, af, none⟩ w v w) (hi : ∀ L w, S L w → S (on L k) w := by exact fun _ _ h => h) :
    QS P ops S Qf k (⟨some d, op, ty, pos, af, none⟩ :: rest) (real σ) := qsy h (fun _ w _ _ => hy w) hi
theorem qs_fld {t : TypeId} {x : Operand} {i : Nat} (h : QS P ops S Qf (k + 1) rest (real (updG σ d ⟨v, true⟩))) (hy : ∀ w, Y P (real σ) ⟨some d, .fieldAddr t x i, ty, pos, af, none⟩ w v w := by
    intro wq
    exact y_field rfl (by first | exact ⟨_, rfl⟩ | assumption | exact Im.some (by assumption) (by (try simp only [Go.Sv.bs_length]); omega) | exact Im.some (by assumption) (by simp; omega)) (by decide)) (hi : ∀ L w, S L w → S (on L k) w := by exact fun _ _ h => h) :
    QS P ops S Qf k (⟨some d, .fieldAddr t x i, ty, pos, af, none⟩ :: rest) (real σ) := qsq h hy hi
/-- a load of one cell -/
theorem qs_load {t : TypeId} {x : Operand} {p : Option Addr} {i : Nat} [ha : Agg P t false] (l : (Nat → Bool) → List Value) (h : QS P ops S Qf (k + 1) rest (real (updG σ d ⟨v, true⟩)))
    (hs : ∀ L w, S L w → Sg w p (l L)) (hv : ∀ L, Up ops ⟨some d, .load t x, ty, pos, af, none⟩ k L → (l L)[i]? = some v := by intro L hu; rfl) (hx : evl (real σ) x = ptrAt p i := by rfl) (hi : ∀ L w, S L w → S (on L k) w := by exact fun _ _ h => h) :
    QS P ops S Qf k (⟨some d, .load t x, ty, pos, af, none⟩ :: rest) (real σ) := qsy h (fun L w hu hsw => y_load hx (hs L w hsw) (hv L hu)) hi
/-- a call of a function that answers one value and leaves what was there -/
theorem qs_call {f : FuncId} [hf : Fnc P f] {args : List Operand} {ats : Array TypeId} (hc : ∀ L w, Up ops ⟨some d, .call ⟨.value (.func f), args.toArray, ats⟩, ty, pos, af, none⟩ k L → S L w → PureC P f (args.map (evl (real σ))).toArray w v)
    (hi : ∀ L w w', S L w → Frm w w' → S (on L k) w') (h : QS P ops S Qf (k + 1) rest (real (updG σ d ⟨v, true⟩))) :
    QS P ops S Qf k (⟨some d, .call ⟨.value (.func f), args.toArray, ats⟩, ty, pos, af, none⟩ :: rest) (real σ) := by
  refine ⟨v, .inl ⟨by simp [Region.wanted], fun L w hu hs => ?_⟩, by rw [← real_upd] at h; exact h⟩
  rw [run_call_func]
  have := hc L w hu hs
  unfold PureC CallsR at this
  refine Calls.mono (by simpa using this) ?_
  rintro e w' ⟨u, rfl, rfl, hw⟩
  exact ⟨rfl, hi L w w' hs hw⟩
/-- a store into a block of one's own -/
theorem qs_st {t : TypeId} {x y : Operand} {zv : Value} {size bytes b i : Nat} {u : Value} [hi : Inf P t zv size bytes] (l : (Nat → Bool) → List Value) (ho : ∀ L w, S L w → Own w b (l L)) (hS : ∀ L w w', Up ops ⟨none, .store t x y, ty, pos, af, none⟩ k L → S L w → Own w' b ((l L).take i ++ u.cells.toList ++ (l L).drop (i + size)) → Le [b] w w' → S (on L k) w')
    (h : QS P ops S Qf (k + 1) rest (real σ)) (hx : evl (real σ) x = ptrAt (pb b) i := by rfl) (hy : evl (real σ) y = u := by rfl) (hv : u.cells.size = size := by rfl) (hk : ∀ L, Nat.ble (i + size) (l L).length = true := by intro L; rfl) (h1 : (u.cells.toList.all fun c => c.oneCell') = true := by rfl) :
    QS P ops S Qf k (⟨none, .store t x y, ty, pos, af, none⟩ :: rest) (real σ) := by
  refine ⟨undef, .inl ⟨by simp [Region.wanted], fun L w hu hs => ?_⟩, h⟩
  obtain ⟨w', hr, h2, h3⟩ := run_store_own (P := P) (t := t) (ho L w hs) hv (Nat.le_of_ble_eq_true (hk L)) (List.all_eq_true.1 h1)
  simp only [execOp, hx, hy]
  rw [Sem.run_bind, hr]
  exact ⟨rfl, hS L w w' hu hs h2 h3⟩
end
end Go.Sv
namespace Go.Sv
attribute [irreducible] QS
end Go.Sv
