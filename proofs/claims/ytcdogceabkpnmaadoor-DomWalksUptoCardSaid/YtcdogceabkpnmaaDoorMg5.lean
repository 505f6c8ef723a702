/-
  Our texts SvDmA, SvDe, SvEcA, SvGb, SvGc, SvKq, SvDw, SvDx, SvDk, SvDl, SvDoA, SvPost, SvOpen, SvOpnAt, SvOpn18, joined.
-/
import Derived.Test.YtcdogceabkpnmaaDoorMg4
import Derived.ChangeSame
import Derived.Test.YtcdogceabkpnmaaDoorRows
import Derived.WalkKit
import Derived.ProofKit
import Derived.OpenShut
import Derived.JoinedCond
import Derived.Deep.Slices
import Derived.WideKeyArgs
/-
  Trees merged: the plain part (chapter 21).
-/
set_option linter.unusedSimpArgs false
set_option linter.unusedVariables false
set_option linter.unnecessarySimpa false
namespace Go.Proofs.YtcdogceabkpnmaaDoor
open Go Go.Sv Go.RowKit
/-- a text node behind others -/
def putT (out : List Nd) (t : List UInt8) (es : List At) (ks : Fo) : List Nd :=
  if t = [] then out else match out.getLast? with
    | some m => if m.name = [] then out.dropLast ++ [{ m with text := m.text ++ t }] else out ++ [⟨[], t, es, ks⟩]
    | none => [⟨[], t, es, ks⟩]
/-- neighbouring texts in one, at every depth, behind others -/
def Fo.merge : Fo → List Nd → List Nd
  | .nil, out => out
  | .cons n t es ks r, out => r.merge (if n = [] then putT out t es ks else out ++ [⟨n, t, es, .of (ks.merge [])⟩])
def Fo.txt : Fo → List UInt8
  | .nil => []
  | .cons n t _ ks r => (if n = [] then t else ks.txt) ++ r.txt
def Fo.elems : Fo → Nat
  | .nil => 0
  | .cons n _ _ ks r => (if n = [] then 0 else 1 + ks.elems) + r.elems
def Fo.texts : Fo → Nat
  | .nil => 0
  | .cons n _ _ ks r => (if n = [] then 1 else ks.texts) + r.texts
def ndTxt (m : Nd) : List UInt8 := if m.name = [] then m.text else m.kids.txt
def ndEl (m : Nd) : Nat := if m.name = [] then 0 else 1 + m.kids.elems
theorem txt_of (l : List Nd) : (Fo.of l).txt = l.flatMap ndTxt := by
  induction l with
  | nil => rfl
  | cons m l ih => simp only [Fo.of, Fo.txt, ih, List.flatMap_cons, ndTxt]
theorem el_of (l : List Nd) : (Fo.of l).elems = (l.map ndEl).sum := by
  induction l with
  | nil => rfl
  | cons m l ih => simp only [Fo.of, Fo.elems, ih, List.map_cons, List.sum_cons, ndEl]
theorem putT_snoc (l : List Nd) (m : Nd) (t : List UInt8) (es : List At) (ks : Fo) : putT (l ++ [m]) t es ks = if t = [] then l ++ [m] else if m.name = [] then l ++ [{ m with text := m.text ++ t }] else l ++ [m] ++ [⟨[], t, es, ks⟩] := by
  simp [putT]
theorem putT_nil (t : List UInt8) (es : List At) (ks : Fo) : putT [] t es ks = if t = [] then [] else [⟨[], t, es, ks⟩] := by simp [putT]
theorem putT_txt (out : List Nd) (t : List UInt8) (es : List At) (ks : Fo) : (putT out t es ks).flatMap ndTxt = out.flatMap ndTxt ++ t := by
  rcases List.eq_nil_or_concat out with rfl | ⟨l, m, rfl⟩
  · rw [putT_nil]; split <;> simp_all [ndTxt]
  · rw [List.concat_eq_append, putT_snoc]
    split
    · simp_all
    · split
      · rename_i h; simp [ndTxt, h]
      · simp [ndTxt]
theorem putT_el (out : List Nd) (t : List UInt8) (es : List At) (ks : Fo) : ((putT out t es ks).map ndEl).sum = (out.map ndEl).sum := by
  rcases List.eq_nil_or_concat out with rfl | ⟨l, m, rfl⟩
  · rw [putT_nil]; split <;> simp [ndEl]
  · rw [List.concat_eq_append, putT_snoc]
    split
    · rfl
    · split
      · rename_i h; simp [ndEl, h]
      · simp [ndEl]
theorem putT_dN (out : List Nd) (t : List UInt8) (es : List At) (ks : Fo) : dN (putT out t es ks) = dN out := by
  rcases List.eq_nil_or_concat out with rfl | ⟨l, m, rfl⟩
  · rw [putT_nil]; split <;> simp [dN, dNd]
  · rw [List.concat_eq_append, putT_snoc]
    split
    · rfl
    · split
      · rename_i h; rw [dN_snoc, dN_snoc]; simp [dNd, h]
      · rw [dN_snoc]; simp [dNd]
theorem merge_txt (f : Fo) : ∀ out, (f.merge out).flatMap ndTxt = out.flatMap ndTxt ++ f.txt := by
  induction f with
  | nil => intro out; simp [Fo.merge, Fo.txt]
  | cons n t es ks r ih1 ih2 =>
    intro out
    simp only [Fo.merge, Fo.txt]
    rw [ih2]
    split
    · rw [putT_txt, List.append_assoc]
    · rename_i h
      have := ih1 []
      simp only [List.flatMap_nil, List.nil_append] at this
      rw [List.flatMap_append]
      simp [ndTxt, h, txt_of, this]
theorem merge_el (f : Fo) : ∀ out, ((f.merge out).map ndEl).sum = (out.map ndEl).sum + f.elems := by
  induction f with
  | nil => intro out; simp [Fo.merge, Fo.elems]
  | cons n t es ks r ih1 ih2 =>
    intro out
    simp only [Fo.merge, Fo.elems]
    rw [ih2]
    split
    · rw [putT_el]; omega
    · rename_i h
      have := ih1 []
      simp only [List.map_nil, List.sum_nil, Nat.zero_add] at this
      simp [ndEl, h, el_of, this]; omega
theorem merge_dN (f : Fo) : ∀ out, dN (f.merge out) = max (dN out) f.depth := by
  induction f with
  | nil => intro out; simp [Fo.merge, Fo.depth]
  | cons n t es ks r ih1 ih2 =>
    intro out
    simp only [Fo.merge, Fo.depth]
    rw [ih2]
    split
    · rw [putT_dN]; simp
    · rename_i h
      have := ih1 []
      rw [show dN [] = 0 from rfl, Nat.zero_max] at this
      rw [dN_snoc]
      simp only [dNd, h, if_false, dN_of, this]
      omega
/-- does a list begin with a text? -/
def Fo.isT : Fo → Bool
  | .nil => false
  | .cons n _ _ _ _ => decide (n = [])
/-- merged as it is -/
def Fo.ok : Fo → Prop
  | .nil => True
  | .cons n t _ ks r => (if n = [] then t ≠ [] ∧ r.isT = false else ks.ok) ∧ r.ok
def lastT (l : List Nd) : Bool := match l.getLast? with | some m => decide (m.name = []) | none => false
theorem lastT_snoc (l : List Nd) (m : Nd) : lastT (l ++ [m]) = decide (m.name = []) := by simp [lastT]
theorem of_list0 (f : Fo) : Fo.of f.list = f := by
  induction f with
  | nil => rfl
  | cons n t es ks r _ ih => simp only [Fo.list, Fo.of, ih]
theorem merge_same (f : Fo) : ∀ out, f.ok → (lastT out = true → f.isT = false) → f.merge out = out ++ f.list := by
  induction f with
  | nil => intro out _ _; simp [Fo.merge, Fo.list]
  | cons n t es ks r ih1 ih2 =>
    intro out h hl
    obtain ⟨h1, h2⟩ := h
    simp only [Fo.merge, Fo.list]
    by_cases hn : n = []
    · subst hn
      rw [if_pos rfl] at h1 ⊢
      have hp : putT out t es ks = out ++ [⟨[], t, es, ks⟩] := by
        rcases List.eq_nil_or_concat out with rfl | ⟨l, m, rfl⟩
        · rw [putT_nil, if_neg h1.1]; rfl
        · rw [List.concat_eq_append] at hl ⊢
          rw [putT_snoc, if_neg h1.1]
          rw [lastT_snoc] at hl
          have : ¬ m.name = [] := fun h3 => by
            have := hl (decide_eq_true h3)
            simp [Fo.isT] at this
          rw [if_neg this]
      rw [hp, ih2 _ h2 (fun _ => h1.2)]
      simp
    · rw [if_neg hn] at h1 ⊢
      have h3 := ih1 [] h1 (fun h => by cases h)
      rw [h3, List.nil_append]
      have h4 : Fo.of ks.list = ks := of_list0 ks
      rw [h4, ih2 _ h2 (fun h5 => by rw [lastT_snoc] at h5; exact absurd (of_decide_eq_true h5) hn)]
      simp
def ndOk (m : Nd) : Prop := if m.name = [] then m.text ≠ [] else m.kids.ok
theorem lastT_cons (x : Nd) (l : List Nd) : lastT (x :: l) = if l = [] then decide (x.name = []) else lastT l := by
  cases l with
  | nil => rfl
  | cons y l => simp [lastT, List.getLast?_cons_cons]
theorem isT_snoc (l : List Nd) (m : Nd) : (Fo.of (l ++ [m])).isT = if l = [] then decide (m.name = []) else (Fo.of l).isT := by
  cases l <;> rfl
theorem ok_snoc (m : Nd) (l : List Nd) : (Fo.of (l ++ [m])).ok ↔ (Fo.of l).ok ∧ ndOk m ∧ (m.name = [] → lastT l = false) := by
  induction l with
  | nil =>
    simp only [List.nil_append, Fo.of, Fo.ok, Fo.isT, ndOk, lastT]
    split <;> simp_all
  | cons x l ih =>
    simp only [List.cons_append, Fo.of, Fo.ok, ih, isT_snoc, lastT_cons]
    by_cases hl : l = []
    · subst hl
      by_cases hx : x.name = [] <;> by_cases hm : m.name = [] <;> simp [hx, hm, Fo.of, Fo.ok, Fo.isT, lastT]
    · by_cases hx : x.name = [] <;> by_cases hm : m.name = [] <;> simp [hx, hm, hl, and_assoc]
theorem putT_ok (out : List Nd) (t : List UInt8) (es : List At) (ks : Fo) (h : (Fo.of out).ok) : (Fo.of (putT out t es ks)).ok := by
  rcases List.eq_nil_or_concat out with rfl | ⟨l, m, rfl⟩
  · rw [putT_nil]
    split
    · trivial
    · rename_i ht; exact ⟨⟨ht, rfl⟩, trivial⟩
  · rw [List.concat_eq_append] at h ⊢
    rw [putT_snoc]
    split
    · exact h
    · rename_i ht
      split
      · rename_i hm
        rw [ok_snoc] at h ⊢
        obtain ⟨h1, h2, h3⟩ := h
        refine ⟨h1, ?_, h3⟩
        unfold ndOk at h2 ⊢
        rw [if_pos hm] at h2 ⊢
        simp [ht]
      · rename_i hm
        rw [ok_snoc]
        refine ⟨h, ?_, fun _ => by rw [lastT_snoc]; exact decide_eq_false hm⟩
        unfold ndOk; rw [if_pos rfl]; exact ht
theorem merge_ok1 (f : Fo) : ∀ out, (Fo.of out).ok → (Fo.of (f.merge out)).ok := by
  induction f with
  | nil => intro out h; exact h
  | cons n t es ks r ih1 ih2 =>
    intro out h
    simp only [Fo.merge]
    refine ih2 _ ?_
    split
    · exact putT_ok out t es ks h
    · rename_i hn
      rw [ok_snoc]
      refine ⟨h, ?_, fun h2 => absurd h2 hn⟩
      unfold ndOk
      rw [if_neg hn]
      exact ih1 [] trivial
/-- merged twice is merged once -/
theorem merge_twice (f : Fo) : (Fo.of (f.merge [])).merge [] = f.merge [] := by
  rw [merge_same _ [] (merge_ok1 f [] trivial) (fun h => by cases h), Fo.list_of]; rfl
end Go.Proofs.YtcdogceabkpnmaaDoor

/-
  Chapter 21: Depth, Count, Text of trees.
-/
set_option linter.unusedSimpArgs false
set_option linter.unusedVariables false
set_option linter.unnecessarySimpa false
namespace Go.Proofs.YtcdogceabkpnmaaDoor
open Go Go.Sv Go.RowKit

def ndTx (m : Nd) : Nat := if m.name = [] then 1 else m.kids.texts
theorem texts_of (l : List Nd) : (Fo.of l).texts = (l.map ndTx).sum := by
  induction l with
  | nil => rfl
  | cons m l ih => simp only [Fo.of, Fo.texts, ih, List.map_cons, List.sum_cons, ndTx]
theorem cnt_wt (f : FoM) : f.fo.elems + f.fo.texts ≤ f.wt := by
  induction f with
  | nil => exact Nat.le_refl _
  | cons n t es ap ac ks kp kc r ih1 ih2 =>
    simp only [FoM.fo, Fo.elems, Fo.texts, FoM.wt]
    split <;> omega
theorem txt_wt (f : FoM) : f.fo.txt.length ≤ f.wt := by
  induction f with
  | nil => exact Nat.le_refl _
  | cons n t es ap ac ks kp kc r ih1 ih2 =>
    simp only [FoM.fo, Fo.txt, FoM.wt, List.length_append]
    split <;> omega
/-- the nodes up to a place -/
def ndT (f : FoM) (i : Nat) : List Nd := (f.list.map NdM.nd).take i
theorem ndT_succ {f : FoM} {i : Nat} {m : NdM} (h : f.list[i]? = some m) : ndT f (i + 1) = ndT f i ++ [m.nd] := by
  unfold ndT
  rw [List.take_add_one, List.getElem?_map, h]; rfl
theorem ndT_all (f : FoM) : ndT f f.len = f.list.map NdM.nd := List.take_of_length_le (by rw [List.length_map]; exact Nat.le_refl _)
def elT (f : FoM) (i : Nat) : Nat := ((ndT f i).map ndEl).sum
def txT (f : FoM) (i : Nat) : Nat := ((ndT f i).map ndTx).sum
def strT (f : FoM) (i : Nat) : List UInt8 := (ndT f i).flatMap ndTxt
theorem elT_all (f : FoM) : elT f f.len = f.fo.elems := by rw [elT, ndT_all, fo_list, el_of]
theorem txT_all (f : FoM) : txT f f.len = f.fo.texts := by rw [txT, ndT_all, fo_list, texts_of]
theorem strT_all (f : FoM) : strT f f.len = f.fo.txt := by rw [strT, ndT_all, fo_list, txt_of]
theorem dN_all (f : FoM) : dN (ndT f f.len) = f.fo.depth := by rw [ndT_all, fo_list, dN_of]
theorem elT_succ {f : FoM} {i : Nat} {m : NdM} (h : f.list[i]? = some m) : elT f (i + 1) = elT f i + ndEl m.nd := by
  unfold elT; rw [ndT_succ h]; simp
theorem txT_succ {f : FoM} {i : Nat} {m : NdM} (h : f.list[i]? = some m) : txT f (i + 1) = txT f i + ndTx m.nd := by
  unfold txT; rw [ndT_succ h]; simp
theorem strT_succ {f : FoM} {i : Nat} {m : NdM} (h : f.list[i]? = some m) : strT f (i + 1) = strT f i ++ ndTxt m.nd := by
  unfold strT; rw [ndT_succ h]; simp
theorem elT_le (f : FoM) (i : Nat) : elT f i ≤ f.wt := by
  have h1 := sum_take_le ndEl (f.list.map NdM.nd) i
  have h2 := elT_all f
  have h3 := cnt_wt f
  unfold elT ndT at *
  rw [List.take_of_length_le (i := f.len) (by rw [List.length_map]; exact Nat.le_refl _)] at h2
  omega
theorem txT_le (f : FoM) (i : Nat) : txT f i ≤ f.wt := by
  have h1 := sum_take_le ndTx (f.list.map NdM.nd) i
  have h2 := txT_all f
  have h3 := cnt_wt f
  unfold txT ndT at *
  rw [List.take_of_length_le (i := f.len) (by rw [List.length_map]; exact Nat.le_refl _)] at h2
  omega
theorem strT_le (f : FoM) (i : Nat) : (strT f i).length ≤ f.wt := by
  have h1 := sum_take_le (fun m : Nd => (ndTxt m).length) (f.list.map NdM.nd) i
  have h2 := congrArg List.length (strT_all f)
  have h3 := txt_wt f
  unfold strT ndT at *
  rw [List.take_of_length_le (i := f.len) (by rw [List.length_map]; exact Nat.le_refl _)] at h2
  rw [List.length_flatMap] at h2 ⊢
  omega
theorem dNT_le (f : FoM) (i : Nat) : dN (ndT f i) ≤ f.wt := by
  have key : ∀ (l : List Nd) (i : Nat), dN (l.take i) ≤ dN l := by
    intro l
    induction l with
    | nil => intro i; simp
    | cons m l ih =>
      intro i
      cases i with
      | zero => simp [dN]
      | succ i => have := ih i; simp only [List.take_succ_cons, dN]; omega
  have h2 := key (f.list.map NdM.nd) i
  have h3 := dN_all f
  rw [ndT_all] at h3
  have h4 := depth_wt f
  unfold ndT
  omega
def nW (m : Nd) : Nat := 4 + m.name.length + m.text.length + (m.attrs.map At.wt).sum + m.kids.wt
theorem wt_of (l : List Nd) : (Fo.of l).wt = (l.map nW).sum := by
  induction l with
  | nil => rfl
  | cons m l ih => simp only [Fo.of, Fo.wt, ih, List.map_cons, List.sum_cons, nW]
theorem sum_le2 {α : Type} {g h : α → Nat} : ∀ {l : List α}, (∀ x ∈ l, g x ≤ h x) → (l.map g).sum ≤ (l.map h).sum
  | [], _ => Nat.le_refl _
  | x :: l, hl => by
    simp only [List.map_cons, List.sum_cons]
    have h1 := hl x List.mem_cons_self
    have h2 := sum_le2 (l := l) fun y hy => hl y (List.mem_cons_of_mem _ hy)
    omega
/-- what stands ahead of a node, and the node, weigh no more than all -/
theorem pre_wt {f : FoM} {i : Nat} {m : NdM} (h : f.list[i]? = some m) (g : Nd → Nat) (hg : ∀ x : Nd, g x ≤ nW x) : ((ndT f i).map g).sum + nW m.nd ≤ f.wt := by
  have h1 := sum_le2 (l := ndT f i) (g := g) (h := nW) fun x _ => hg x
  have h2 := sum_take_le nW (f.list.map NdM.nd) (i + 1)
  have h3 : f.wt = ((f.list.map NdM.nd).map nW).sum := by rw [wt_fo, fo_list, wt_of]
  have h4 := ndT_succ h
  unfold ndT at h4 h1 ⊢
  rw [h4, List.map_append, List.sum_append] at h2
  simp only [List.map_cons, List.map_nil, List.sum_cons, List.sum_nil] at h2
  omega
theorem txt_wtF (f : Fo) : f.txt.length ≤ f.wt := by
  induction f with
  | nil => exact Nat.le_refl _
  | cons n t es ks r ih1 ih2 =>
    simp only [Fo.txt, Fo.wt, List.length_append]
    split <;> omega
theorem ndTxt_w (x : Nd) : (ndTxt x).length ≤ nW x := by
  unfold ndTxt nW
  have := txt_wtF x.kids
  split <;> omega
theorem strT_pre {f : FoM} {i : Nat} {m : NdM} (h : f.list[i]? = some m) : (strT f i).length + m.kids.wt + m.text.length ≤ f.wt := by
  have := pre_wt h (fun x => (ndTxt x).length) ndTxt_w
  have e : (strT f i).length = ((ndT f i).map fun x => (ndTxt x).length).sum := by unfold strT; rw [List.length_flatMap]
  rw [e]
  unfold nW at this
  have e2 : m.nd.kids.wt = m.kids.wt := by rw [wt_fo]; rfl
  have e3 : m.nd.text = m.text := rfl
  rw [e3] at this
  omega
set_option maxHeartbeats 2000000 in
theorem domDepth_ok : ∀ (k : Nat) (f : FoM) (p : Option Addr) (c : Nat), f.size < k → f.wt ≤ 1048576 → ∀ (w : World), Tre w p f → PureC Tryd.prog 28 #[.slice p f.len c] w (int f.fo.depth) := by
  intro k
  induction k with
  | zero => intro f p c hk; omega
  | succ k ih =>
    intro f p c hk hw w hT
    have hlw := FoM.len_wt f
    have hS := Sep.start w
    refine enter (l := [.slice p f.len c]) Tryd.func28 rfl Tryd.ntmps28 (by kernel_rfl) rfl ?_
    refine sgo ?_
    refine wcloop (X := Nat) (fun i => [(3, int (dN (ndT f i))), (6, .slice p f.len c), (7, int f.len), (8, int i)]) (fun i wr => i ≤ f.len ∧ Sep w wr []) (fun i => f.len - i) 0 ⟨rfl, rfl, rfl, rfl, trivial⟩ ⟨Nat.zero_le _, hS⟩ ?_
    clear hS
    rintro i wr ρ ⟨hil, hS⟩
    have hdl := dNT_le f i
    refine sgo ?_
    (show WC _ _ _ _ _ _ _; first | refine WC_dec rfl (fun hc => ?_) (fun hc => ?_) | refine WC_cond rfl (fun hc => ?_) (fun hc => ?_))
    · have hlt : i < f.len := by omega
      have hTw := hT.frm hS.frm
      have hIm := hTw.im
      obtain ⟨m, hx, hm, hseg, hfl, hps, hat, hkT⟩ := tre_at hT hlt
      have hsn : dN (ndT f (i + 1)) = max (dN (ndT f i)) (dNd m.nd) := by rw [ndT_succ hx, dN_snoc]
      have hsz := FoM.size_mem hm
      have hsm := nd_small hw hm
      have hih := fun w' (cs' : List Plot) (h : Sep w w' cs') => ih m.kids m.kp m.kc (by omega) hsm.kids w' (hkT.frm h.frm)
      have hkd := depth_wt m.kids
      have hkw := hsm.kids
      obtain ⟨n, t, es, ap, ac, ks, kp, kc⟩ := m
      dsimp only [dNd, NdM.nd] at hih hsn hkd hkw
      clear hc
      refine sgo ?_
      rw [hseg]
      refine salloc hS fun b5 w5 hS => ?_
      refine sgo ?_
      refine ssta (vs := [str n, str t, .slice ap es.length ac, .slice kp ks.len kc]) hS 0 fun w6 hS => ?_
      replace hS : Sep w w6 [pOwn b5 [str n, str t, .slice ap es.length ac, .slice kp ks.len kc]] := hS
      refine sgo ?_
      refine wlbuild (cells := [str n, str t, .slice ap es.length ac, .slice kp ks.len kc]) ?_
      refine wlpure (oneText_ok n (str t) (.slice ap es.length ac) (.slice kp ks.len kc) _) fun w7 hf7 => ?_
      replace hS := hS.grow hf7
      refine sgo ?_
      (show WC _ _ _ _ _ _ _; first | refine WC_dec rfl (fun hc => ?_) (fun hc => ?_) | refine WC_cond rfl (fun hc => ?_) (fun hc => ?_))
      · have hn : ¬ n = [] := by simpa using hc
        rw [if_neg hn] at hsn
        refine sgo ?_
        refine wlpure (hih _ _ hS) fun w8 hf8 => ?_
        replace hS := hS.grow hf8
        refine sgo ?_
        refine wl ?_ (y_max rfl rfl)
        refine sgo ?_
        refine ⟨i + 1, ⟨?_, rfl, rfl, rfl, trivial⟩, ⟨hlt, hS.tail⟩, (by (try dsimp only); omega)⟩
        show int _ = int _
        rw [hsn]; congr 1; omega
      · have hn : n = [] := by simpa using hc
        rw [if_pos hn, Nat.max_zero] at hsn
        refine sgo ?_
        refine ⟨i + 1, ⟨?_, rfl, rfl, rfl, trivial⟩, ⟨hlt, hS.tail⟩, (by (try dsimp only); omega)⟩
        show int _ = int _
        rw [hsn]
    · obtain rfl : i = f.len := by omega
      rw [dN_all] at *
      refine sgo ?_
      (first | refine fp1 (.inl rfl) rfl rfl ?_ | refine fp2 (.inl rfl) rfl rfl rfl ?_ | refine fp3 (.inl rfl) rfl rfl rfl rfl ?_ | refine fp0 (.inr rfl) rfl ?_ | refine fp0 (.inl rfl) rfl ?_ | refine fp1 (.inr rfl) rfl rfl ?_); refine ⟨?_, by (first | exact Frm.refl _ | assumption | exact Go.Sv.Sep.frm (by assumption) | (refine Frm.trans ?_ (by assumption); first | exact Frm.refl _ | assumption))⟩; (try simp only [realB, rv_true, Nat.reduceBEq, cond_true, cond_false, entG, real_lif, updGL])
set_option maxHeartbeats 2000000 in
theorem refDepth_ok : ∀ (k : Nat) (f : FoM) (p : Option Addr) (c : Nat), f.size < k → f.wt ≤ 1048576 → ∀ (w : World), Tre w p f → PureC Tryd.prog 29 #[.slice p f.len c] w (int f.fo.depth) := by
  intro k
  induction k with
  | zero => intro f p c hk; omega
  | succ k ih =>
    intro f p c hk hw w hT
    have hlw := FoM.len_wt f
    have hS := Sep.start w
    refine enter (l := [.slice p f.len c]) Tryd.func29 rfl Tryd.ntmps29 (by kernel_rfl) rfl ?_
    refine sgo ?_
    refine wcloop (X := Nat) (fun i => [(3, int (dN (ndT f i))), (7, .slice p f.len c), (8, int f.len), (9, int i)]) (fun i wr => i ≤ f.len ∧ Sep w wr []) (fun i => f.len - i) 0 ⟨rfl, rfl, rfl, rfl, trivial⟩ ⟨Nat.zero_le _, hS⟩ ?_
    clear hS
    rintro i wr ρ ⟨hil, hS⟩
    have hdl := dNT_le f i
    refine sgo ?_
    (show WC _ _ _ _ _ _ _; first | refine WC_dec rfl (fun hc => ?_) (fun hc => ?_) | refine WC_cond rfl (fun hc => ?_) (fun hc => ?_))
    · have hlt : i < f.len := by omega
      have hTw := hT.frm hS.frm
      have hIm := hTw.im
      obtain ⟨m, hx, hm, hseg, hfl, hps, hat, hkT⟩ := tre_at hT hlt
      have hsn : dN (ndT f (i + 1)) = max (dN (ndT f i)) (dNd m.nd) := by rw [ndT_succ hx, dN_snoc]
      have hsz := FoM.size_mem hm
      have hsm := nd_small hw hm
      have hih := fun w' (cs' : List Plot) (h : Sep w w' cs') => ih m.kids m.kp m.kc (by omega) hsm.kids w' (hkT.frm h.frm)
      have hkd := depth_wt m.kids
      have hkw := hsm.kids
      obtain ⟨n, t, es, ap, ac, ks, kp, kc⟩ := m
      dsimp only [dNd, NdM.nd] at hih hsn hkd hkw
      clear hc
      refine sgo ?_
      rw [hseg]
      refine salloc hS fun b5 w5 hS => ?_
      refine sgo ?_
      refine ssta (vs := [str n, str t, .slice ap es.length ac, .slice kp ks.len kc]) hS 0 fun w6 hS => ?_
      replace hS : Sep w w6 [pOwn b5 [str n, str t, .slice ap es.length ac, .slice kp ks.len kc]] := hS
      refine sgo ?_
      (show WC _ _ _ _ _ _ _; first | refine WC_dec rfl (fun hc => ?_) (fun hc => ?_) | refine WC_cond rfl (fun hc => ?_) (fun hc => ?_))
      · have hn : n = [] := by simpa using hc
        rw [if_pos hn, Nat.max_zero] at hsn
        refine sgo ?_
        refine ⟨i + 1, ⟨?_, rfl, rfl, rfl, trivial⟩, ⟨hlt, hS.tail⟩, (by (try dsimp only); omega)⟩
        show int _ = int _
        rw [hsn]
      · have hn : ¬ n = [] := by simpa using hc
        rw [if_neg hn] at hsn
        clear hc
        refine sgo ?_
        refine wlpure (hih _ _ hS) fun w8 hf8 => ?_
        replace hS := hS.grow hf8
        refine sgo ?_
        (show WC _ _ _ _ _ _ _; first | refine WC_dec rfl (fun hc => ?_) (fun hc => ?_) | refine WC_cond rfl (fun hc => ?_) (fun hc => ?_))
        · refine sgo ?_
          refine ⟨i + 1, ⟨?_, rfl, rfl, rfl, trivial⟩, ⟨hlt, hS.tail⟩, (by (try dsimp only); omega)⟩
          show int _ = int _
          rw [hsn]; congr 1; omega
        · refine sgo ?_
          refine ⟨i + 1, ⟨?_, rfl, rfl, rfl, trivial⟩, ⟨hlt, hS.tail⟩, (by (try dsimp only); omega)⟩
          show int _ = int _
          rw [hsn]; congr 1; omega
    · obtain rfl : i = f.len := by omega
      rw [dN_all] at *
      refine sgo ?_
      (first | refine fp1 (.inl rfl) rfl rfl ?_ | refine fp2 (.inl rfl) rfl rfl rfl ?_ | refine fp3 (.inl rfl) rfl rfl rfl rfl ?_ | refine fp0 (.inr rfl) rfl ?_ | refine fp0 (.inl rfl) rfl ?_ | refine fp1 (.inr rfl) rfl rfl ?_); refine ⟨?_, by (first | exact Frm.refl _ | assumption | exact Go.Sv.Sep.frm (by assumption) | (refine Frm.trans ?_ (by assumption); first | exact Frm.refl _ | assumption))⟩; (try simp only [realB, rv_true, Nat.reduceBEq, cond_true, cond_false, entG, real_lif, updGL])
set_option maxHeartbeats 2000000 in
theorem refCount_ok : ∀ (k : Nat) (f : FoM) (p : Option Addr) (c : Nat), f.size < k → f.wt ≤ 1048576 → ∀ (w : World), Tre w p f → PureC Tryd.prog 25 #[.slice p f.len c] w (.tuple #[int f.fo.elems, int f.fo.texts]) := by
  intro k
  induction k with
  | zero => intro f p c hk; omega
  | succ k ih =>
    intro f p c hk hw w hT
    have hlw := FoM.len_wt f
    have hS := Sep.start w
    refine enter (l := [.slice p f.len c]) Tryd.func25 rfl Tryd.ntmps25 (by kernel_rfl) rfl ?_
    refine sgo ?_
    refine wcloop (X := Nat) (fun i => [(4, int (elT f i)), (5, int (txT f i)), (10, .slice p f.len c), (11, int f.len), (12, int i)]) (fun i wr => i ≤ f.len ∧ Sep w wr []) (fun i => f.len - i) 0 ⟨rfl, rfl, rfl, rfl, rfl, trivial⟩ ⟨Nat.zero_le _, hS⟩ ?_
    clear hS
    rintro i wr ρ ⟨hil, hS⟩
    have hdl := elT_le f i
    have hdl2 := txT_le f i
    refine sgo ?_
    (show WC _ _ _ _ _ _ _; first | refine WC_dec rfl (fun hc => ?_) (fun hc => ?_) | refine WC_cond rfl (fun hc => ?_) (fun hc => ?_))
    · have hlt : i < f.len := by omega
      have hTw := hT.frm hS.frm
      have hIm := hTw.im
      obtain ⟨m, hx, hm, hseg, hfl, hps, hat, hkT⟩ := tre_at hT hlt
      have hsn := elT_succ hx
      have hsn2 := txT_succ hx
      have hsz := FoM.size_mem hm
      have hsm := nd_small hw hm
      have hih := fun w' (cs' : List Plot) (h : Sep w w' cs') => ih m.kids m.kp m.kc (by omega) hsm.kids w' (hkT.frm h.frm)
      have hkd := cnt_wt m.kids
      have hkw := hsm.kids
      obtain ⟨n, t, es, ap, ac, ks, kp, kc⟩ := m
      dsimp only [ndEl, ndTx, NdM.nd] at hih hsn hsn2 hkd hkw
      clear hc
      refine sgo ?_
      rw [hseg]
      refine salloc hS fun b5 w5 hS => ?_
      refine sgo ?_
      refine ssta (vs := [str n, str t, .slice ap es.length ac, .slice kp ks.len kc]) hS 0 fun w6 hS => ?_
      replace hS : Sep w w6 [pOwn b5 [str n, str t, .slice ap es.length ac, .slice kp ks.len kc]] := hS
      refine sgo ?_
      (show WC _ _ _ _ _ _ _; first | refine WC_dec rfl (fun hc => ?_) (fun hc => ?_) | refine WC_cond rfl (fun hc => ?_) (fun hc => ?_))
      · have hn : n = [] := by simpa using hc
        rw [if_pos hn] at hsn hsn2
        refine sgo ?_
        refine ⟨i + 1, ⟨?_, ?_, rfl, rfl, rfl, trivial⟩, ⟨hlt, hS.tail⟩, (by (try dsimp only); omega)⟩
        · show int _ = int _
          rw [hsn]; rfl
        · show int _ = int _
          rw [hsn2]; congr 1
      · have hn : ¬ n = [] := by simpa using hc
        rw [if_neg hn] at hsn hsn2
        clear hc
        refine sgo ?_
        refine wlpure (hih _ _ hS) fun w8 hf8 => ?_
        replace hS := hS.grow hf8
        refine sgo ?_
        refine ⟨i + 1, ⟨?_, ?_, rfl, rfl, rfl, trivial⟩, ⟨hlt, hS.tail⟩, (by (try dsimp only); omega)⟩
        · show int _ = int _
          rw [hsn]; congr 1; omega
        · show int _ = int _
          rw [hsn2]; congr 1
    · obtain rfl : i = f.len := by omega
      rw [elT_all, txT_all] at *
      refine sgo ?_
      (first | refine fp1 (.inl rfl) rfl rfl ?_ | refine fp2 (.inl rfl) rfl rfl rfl ?_ | refine fp3 (.inl rfl) rfl rfl rfl rfl ?_ | refine fp0 (.inr rfl) rfl ?_ | refine fp0 (.inl rfl) rfl ?_ | refine fp1 (.inr rfl) rfl rfl ?_); refine ⟨?_, by (first | exact Frm.refl _ | assumption | exact Go.Sv.Sep.frm (by assumption) | (refine Frm.trans ?_ (by assumption); first | exact Frm.refl _ | assumption))⟩; (try simp only [realB, rv_true, Nat.reduceBEq, cond_true, cond_false, entG, real_lif, updGL])
set_option maxHeartbeats 2000000 in
theorem refText_ok : ∀ (k : Nat) (f : FoM) (p : Option Addr) (c : Nat), f.size < k → f.wt ≤ 1048576 → ∀ (w : World), Tre w p f → PureC Tryd.prog 31 #[.slice p f.len c] w (str f.fo.txt) := by
  intro k
  induction k with
  | zero => intro f p c hk; omega
  | succ k ih =>
    intro f p c hk hw w hT
    have hlw := FoM.len_wt f
    have hS := Sep.start w
    refine enter (l := [.slice p f.len c]) Tryd.func31 rfl Tryd.ntmps31 (by kernel_rfl) rfl ?_
    refine sgo ?_
    refine wcloop (X := Nat) (fun i => [(3, str (strT f i)), (6, .slice p f.len c), (7, int f.len), (8, int i)]) (fun i wr => i ≤ f.len ∧ Sep w wr []) (fun i => f.len - i) 0 ⟨rfl, rfl, rfl, rfl, trivial⟩ ⟨Nat.zero_le _, hS⟩ ?_
    clear hS
    rintro i wr ρ ⟨hil, hS⟩
    have hdl := strT_le f i
    refine sgo ?_
    (show WC _ _ _ _ _ _ _; first | refine WC_dec rfl (fun hc => ?_) (fun hc => ?_) | refine WC_cond rfl (fun hc => ?_) (fun hc => ?_))
    · have hlt : i < f.len := by omega
      have hTw := hT.frm hS.frm
      have hIm := hTw.im
      obtain ⟨m, hx, hm, hseg, hfl, hps, hat, hkT⟩ := tre_at hT hlt
      have hsn := strT_succ hx
      have hsz := FoM.size_mem hm
      have hsm := nd_small hw hm
      have hih := fun w' (cs' : List Plot) (h : Sep w w' cs') => ih m.kids m.kp m.kc (by omega) hsm.kids w' (hkT.frm h.frm)
      have hkd := txt_wt m.kids
      have hkw := hsm.kids
      have htx := hsm.text
      obtain ⟨n, t, es, ap, ac, ks, kp, kc⟩ := m
      dsimp only [ndTxt, NdM.nd] at hih hsn hkd hkw htx
      clear hc
      refine sgo ?_
      rw [hseg]
      refine salloc hS fun b5 w5 hS => ?_
      refine sgo ?_
      refine ssta (vs := [str n, str t, .slice ap es.length ac, .slice kp ks.len kc]) hS 0 fun w6 hS => ?_
      replace hS : Sep w w6 [pOwn b5 [str n, str t, .slice ap es.length ac, .slice kp ks.len kc]] := hS
      refine sgo ?_
      (show WC _ _ _ _ _ _ _; first | refine WC_dec rfl (fun hc => ?_) (fun hc => ?_) | refine WC_cond rfl (fun hc => ?_) (fun hc => ?_))
      · have hn : n = [] := by simpa using hc
        rw [if_pos hn] at hsn
        refine sgo ?_
        refine ⟨i + 1, ⟨?_, rfl, rfl, rfl, trivial⟩, ⟨hlt, hS.tail⟩, (by (try dsimp only); omega)⟩
        show str _ = str _
        rw [hsn]
      · have hn : ¬ n = [] := by simpa using hc
        rw [if_neg hn] at hsn
        clear hc
        refine sgo ?_
        refine wlpure (hih _ _ hS) fun w8 hf8 => ?_
        replace hS := hS.grow hf8
        refine sgo ?_
        refine ⟨i + 1, ⟨?_, rfl, rfl, rfl, trivial⟩, ⟨hlt, hS.tail⟩, (by (try dsimp only); omega)⟩
        show str _ = str _
        rw [hsn]
    · obtain rfl : i = f.len := by omega
      rw [strT_all] at *
      refine sgo ?_
      (first | refine fp1 (.inl rfl) rfl rfl ?_ | refine fp2 (.inl rfl) rfl rfl rfl ?_ | refine fp3 (.inl rfl) rfl rfl rfl rfl ?_ | refine fp0 (.inr rfl) rfl ?_ | refine fp0 (.inl rfl) rfl ?_ | refine fp1 (.inr rfl) rfl rfl ?_); refine ⟨?_, by (first | exact Frm.refl _ | assumption | exact Go.Sv.Sep.frm (by assumption) | (refine Frm.trans ?_ (by assumption); first | exact Frm.refl _ | assumption))⟩; (try simp only [realB, rv_true, Nat.reduceBEq, cond_true, cond_false, entG, real_lif, updGL])
set_option maxHeartbeats 2000000 in
theorem gather_ok : ∀ (k : Nat) (f : FoM) (p : Option Addr) (c : Nat), f.size < k → f.wt ≤ 1048576 → ∀ (xs : List UInt8) (q : Option Addr) (cc : Nat), xs.length + f.wt ≤ 2097152 → ∀ (w0 w : World) (cs : List Plot), Sep w0 w (pRow 1 q xs.length cc (bs xs) :: cs) → Tre w0 p f →
    CallsR Tryd.prog 55 #[.slice q xs.length cc, .slice p f.len c] w fun v w' => ∃ (q2 : Option Addr) (c2 : Nat), v = .slice q2 (xs ++ f.fo.txt).length c2 ∧ Sep w0 w' (pRow 1 q2 (xs ++ f.fo.txt).length c2 (bs (xs ++ f.fo.txt)) :: cs) := by
  intro k
  induction k with
  | zero => intro f p c hk; omega
  | succ k ih =>
    intro f p c hk hw xs q cc hxs w0 w cs hS hT
    have hlw := FoM.len_wt f
    refine enter (l := [.slice q xs.length cc, .slice p f.len c]) Tryd.func55 rfl Tryd.ntmps55 (by kernel_rfl) rfl ?_
    refine sgo ?_
    refine wcloop (X := Nat × Option Addr × Nat) (fun x => [(0, .slice x.2.1 (xs ++ strT f x.1).length x.2.2), (7, .slice p f.len c), (8, int f.len), (9, int x.1)]) (fun x wr => x.1 ≤ f.len ∧ Sep w0 wr (pRow 1 x.2.1 (xs ++ strT f x.1).length x.2.2 (bs (xs ++ strT f x.1)) :: cs)) (fun x => f.len - x.1) (0, q, cc)
      ⟨by show Value.slice q _ cc = _; rw [show strT f 0 = [] from rfl, List.append_nil], rfl, rfl, rfl, trivial⟩ ⟨Nat.zero_le _, by rw [show strT f 0 = [] from rfl, List.append_nil]; exact hS⟩ ?_
    clear hS
    rintro ⟨i, q, cc⟩ wr ρ ⟨hil, hS⟩
    dsimp only at *
    have hdl := strT_le f i
    have hlen : (xs ++ strT f i).length = xs.length + (strT f i).length := List.length_append
    refine sgo ?_
    (show WC _ _ _ _ _ _ _; first | refine WC_dec rfl (fun hc => ?_) (fun hc => ?_) | refine WC_cond rfl (fun hc => ?_) (fun hc => ?_))
    · have hlt : i < f.len := by omega
      have hTw := hT.frm hS.frm
      have hIm := hTw.im
      obtain ⟨m, hx, hm, hseg, hfl, hps, hat, hkT⟩ := tre_at hT hlt
      have hsn := strT_succ hx
      have hdl2 := strT_le f (i + 1)
      have hpre := strT_pre hx
      have hsz := FoM.size_mem hm
      have hsm := nd_small hw hm
      have hih := fun w' q2 c2 (cs' : List Plot) h => ih m.kids m.kp m.kc (by omega) hsm.kids (xs ++ strT f i) q2 c2 h w0 w' cs'
      have hkd := txt_wt m.kids
      have hkw := hsm.kids
      have htx := hsm.text
      obtain ⟨n, t, es, ap, ac, ks, kp, kc⟩ := m
      dsimp only [ndTxt, NdM.nd] at hih hsn hkd hkw htx hpre
      clear hc
      rw [hsn, List.length_append] at hdl2
      refine sgo ?_
      rw [hseg]
      refine salloc hS fun b5 w5 hS => ?_
      refine sgo ?_
      refine ssta (vs := [str n, str t, .slice ap es.length ac, .slice kp ks.len kc]) hS 0 fun w6 hS => ?_
      replace hS : Sep w0 w6 (pOwn b5 [str n, str t, .slice ap es.length ac, .slice kp ks.len kc] :: pRow 1 q (xs ++ strT f i).length cc (bs (xs ++ strT f i)) :: cs) := hS
      refine sgo ?_
      refine wlbuild (cells := [str n, str t, .slice ap es.length ac, .slice kp ks.len kc]) ?_
      refine wlpure (oneText_ok n (str t) (.slice ap es.length ac) (.slice kp ks.len kc) _) fun w7 hf7 => ?_
      replace hS := hS.grow hf7
      refine sgo ?_
      (show WC _ _ _ _ _ _ _; first | refine WC_dec rfl (fun hc => ?_) (fun hc => ?_) | refine WC_cond rfl (fun hc => ?_) (fun hc => ?_))
      · have hn : n = [] := by simpa using hc
        rw [if_pos hn] at hsn hdl2
        refine sgo ?_
        refine sapps (s := t) hS 1 (fun q2 c2 w8 hS => ?_) (hb := by omega)
        refine sgo ?_
        refine ⟨(i + 1, q2, c2), ⟨?_, rfl, rfl, rfl, trivial⟩, ⟨hlt, ?_⟩, (by (try dsimp only); omega)⟩
        · show Value.slice q2 _ c2 = Value.slice q2 _ c2
          rw [hsn, ← List.append_assoc, show (xs ++ strT f i ++ t).length = (xs ++ strT f i).length + t.length from List.length_append]
        · replace hS := hS.tail
          rw [bs_app, ← List.length_append, List.append_assoc, ← hsn] at hS
          exact hS
      · have hn : ¬ n = [] := by simpa using hc
        rw [if_neg hn] at hsn hdl2
        clear hc
        refine sgo ?_
        refine wlcall (hih _ q cc _ (by rw [List.length_append]; omega) (hS.front 1 rfl) hkT) ?_
        rintro _ w8 ⟨q2, c2, rfl, hS⟩
        refine sgo ?_
        refine ⟨(i + 1, q2, c2), ⟨?_, rfl, rfl, rfl, trivial⟩, ⟨hlt, ?_⟩, (by (try dsimp only); omega)⟩
        · show Value.slice q2 _ c2 = Value.slice q2 _ c2
          rw [hsn, ← List.append_assoc]
        · replace hS := hS.drop 1 rfl
          rw [List.append_assoc, ← hsn] at hS
          exact hS
    · obtain rfl : i = f.len := by omega
      rw [strT_all] at *
      refine sgo ?_
      (first | refine fp1 (.inl rfl) rfl rfl ?_ | refine fp2 (.inl rfl) rfl rfl rfl ?_ | refine fp3 (.inl rfl) rfl rfl rfl rfl ?_ | refine fp0 (.inr rfl) rfl ?_ | refine fp0 (.inl rfl) rfl ?_ | refine fp1 (.inr rfl) rfl rfl ?_)
      exact ⟨q, cc, rfl, hS⟩
theorem domText_ok (f : FoM) (p : Option Addr) (c : Nat) (hw : f.wt ≤ 1048576) (w : World) (hT : Tre w p f) : PureC Tryd.prog 30 #[.slice p f.len c] w (str f.fo.txt) := by
  have hS := (Sep.start w).push (c := pRow 1 none 0 0 []) (Frm.refl _) (Row.nil _ 1) (rb_nil _)
  refine enter (l := [.slice p f.len c]) Tryd.func30 rfl Tryd.ntmps30 (by kernel_rfl) rfl ?_
  refine sgo ?_
  refine wlcall (gather_ok (f.size + 1) f p c (by omega) hw [] none 0 (by rw [List.length_nil]; omega) w w [] hS hT) ?_
  rintro _ w1 ⟨q, cc, rfl, hS⟩
  rw [List.nil_append] at *
  refine sgo ?_
  refine wl ?_ (y_b2s rfl (hS.sgv 0 rfl))
  refine sgo ?_
  (first | refine fp1 (.inl rfl) rfl rfl ?_ | refine fp2 (.inl rfl) rfl rfl rfl ?_ | refine fp3 (.inl rfl) rfl rfl rfl rfl ?_ | refine fp0 (.inr rfl) rfl ?_ | refine fp0 (.inl rfl) rfl ?_ | refine fp1 (.inr rfl) rfl rfl ?_); refine ⟨?_, by (first | exact Frm.refl _ | assumption | exact Go.Sv.Sep.frm (by assumption) | (refine Frm.trans ?_ (by assumption); first | exact Frm.refl _ | assumption))⟩; (try simp only [realB, rv_true, Nat.reduceBEq, cond_true, cond_false, entG, real_lif, updGL])
end Go.Proofs.YtcdogceabkpnmaaDoor

/-
  sievelaw18: EventChecks.
-/
set_option linter.unusedSimpArgs false
set_option linter.unusedVariables false
set_option linter.unnecessarySimpa false
namespace Go.Sv
open Go Go.RowKit
section
variable {D : Type} {P : Program} {w0 w w' : World} {cs rest : List Plot} {σ : Env} {d : Option Tmp} {dd dj : Nat} {op : Op} {ty : TypeId} {pos : String} {af : Array Edge} {v : Value} {k j : Nat} {want : Bool} {ops : Array Oper} {T : Value → World → Prop} {B : Prop}
theorem wanted_at {o : Oper} (hg : o.guard = some (j, want)) (hj : (ops[j]?).bind (·.dst) = some dj) (hv : σ dj = .bool want) : Region.wanted o (yl ops σ) = true := by
  unfold Region.wanted yl
  rw [hg]
  simp only [hj, hv]
  cases want <;> rfl
/-- an operation of a plan under a guard that holds -/
theorem rule_yg {o : Oper} (hy : Y P σ o w v w') (hT : T v w') (hv : σ dj = .bool want) (hg : o.guard = some (j, want) := by rfl) (hj : (ops[j]?).bind (·.dst) = some dj := by rfl) :
    (Region.wanted o (yl ops σ) = true ∧ comes P T ((execOp (evl σ) o).run P w)) ∨ B := .inl ⟨wanted_at hg hj hv, comes_of_Y hy hT⟩
theorem y_ev (sl : List (Nat × Value)) (hs : Has σ sl) {g : Option (Nat × Bool)} (he : ev1 (updGL (lif σ) sl) op = some ⟨v, true⟩) : Y P σ ⟨d, op, ty, pos, af, g⟩ w v w := by
  have hy : Y P (real (updGL (lif σ) sl)) ⟨d, op, ty, pos, af, g⟩ w v w := ev1_ok he rfl
  rw [← frameOf sl hs] at hy
  exact hy
/-- one that only looks at what is known -/
theorem rule_e (sl : List (Nat × Value)) (hs : Has σ sl) (hT : T v w) (he : ev1 (updGL (lif σ) sl) op = some ⟨v, true⟩ := by rfl) :
    (Region.wanted (⟨d, op, ty, pos, af, none⟩ : Oper) (yl ops σ) = true ∧ comes P T ((execOp (evl σ) ⟨d, op, ty, pos, af, none⟩).run P w)) ∨ B := rule_y (y_ev sl hs he) hT
theorem rule_eg (sl : List (Nat × Value)) (hs : Has σ sl) (hT : T v w) (hv : σ dj = .bool want) (he : ev1 (updGL (lif σ) sl) op = some ⟨v, true⟩ := by rfl) (hj : (ops[j]?).bind (·.dst) = some dj := by rfl) :
    (Region.wanted (⟨d, op, ty, pos, af, some (j, want)⟩ : Oper) (yl ops σ) = true ∧ comes P T ((execOp (evl σ) ⟨d, op, ty, pos, af, some (j, want)⟩).run P w)) ∨ B := rule_yg (y_ev sl hs he) hT hv rfl hj
theorem rule_callg {f : FuncId} [hf : Fnc P f] {args : List Operand} {ats : Array TypeId} {vals : List Value} {R : Value → World → Prop} (hc : CallsR P f vals.toArray w R) (hT : ∀ v w', R v w' → T v w') (ha : args.map (evl σ) = vals) (hv : σ dj = .bool want) (hj : (ops[j]?).bind (·.dst) = some dj := by rfl) :
    (Region.wanted (⟨d, .call ⟨.value (.func f), args.toArray, ats⟩, ty, pos, af, some (j, want)⟩ : Oper) (yl ops σ) = true ∧ comes P T ((execOp (evl σ) ⟨d, .call ⟨.value (.func f), args.toArray, ats⟩, ty, pos, af, some (j, want)⟩).run P w)) ∨ B := by
  refine .inl ⟨wanted_at rfl hj hv, ?_⟩
  rw [run_call_func]
  have : (args.toArray.map (evl σ)) = vals.toArray := by rw [← ha]; simp
  rw [this]
  exact Calls.mono hc fun e w'' ⟨v, he, hv⟩ => ⟨v, he, hT v w'' hv⟩
theorem rule_pureg {f : FuncId} [hf : Fnc P f] {args : List Operand} {ats : Array TypeId} {vals : List Value} (hc : PureC P f vals.toArray w v) (hT : ∀ w', Frm w w' → T v w') (ha : args.map (evl σ) = vals) (hv : σ dj = .bool want) (hj : (ops[j]?).bind (·.dst) = some dj := by rfl) :
    (Region.wanted (⟨d, .call ⟨.value (.func f), args.toArray, ats⟩, ty, pos, af, some (j, want)⟩ : Oper) (yl ops σ) = true ∧ comes P T ((execOp (evl σ) ⟨d, .call ⟨.value (.func f), args.toArray, ats⟩, ty, pos, af, some (j, want)⟩).run P w)) ∨ B :=
  rule_callg (R := fun u w' => u = v ∧ Frm w w') hc (fun _ w' h => h.1 ▸ hT w' h.2) ha hv hj
end
end Go.Sv
namespace Go.Proofs.YtcdogceabkpnmaaDoor
open Go Go.Sv Go.RowKit







structure CkD where
  q : Option Addr
  c : Nat
  ns : List EvM
def ckP (ms ns : List EvM) (p q : Option Addr) (c cc : Nat) : Plan CkD where
  val k d := match k with
    | 0 | 3 | 8 | 9 | 14 | 20 => .slice p ms.length c
    | 1 | 4 => .slice q ns.length cc
    | 2 | 5 => .bool (decide (evs ms = evs ns))
    | 10 => .slice d.q d.ns.length d.c
    | 15 | 16 => .agg ⟨cnts (evs ms)⟩
    | 21 | 22 => str (textR (evs ms))
    | _ => .bool true
  pl k d := match k with
    | 10 => [pRow 4 d.q d.ns.length d.c (d.ns.flatMap EvM.cells), pMany (d.ns.map EvM.row)]
    | _ => []
  con k := match k with
    | 10 => some 11
    | _ => none
  fact k a := match k with
    | 10 => evs (a 10).ns = evs ms
    | _ => True



















































































































































































































































































end Go.Proofs.YtcdogceabkpnmaaDoor

/-
  Regions that draw their order, by a plan, where operations may also take (and write) what lay there before.
-/
set_option linter.unusedSimpArgs false
set_option linter.unusedVariables false
set_option linter.unnecessarySimpa false
namespace Go.Sv
open Go Go.RowKit
theorem perm5 {α : Type} (A B C D E : List α) : ((A ++ B) ++ ((C ++ D) ++ E)).Perm (A ++ (C ++ (E ++ (B ++ D)))) := by
  simp only [List.append_assoc]
  refine List.Perm.append_left _ ?_
  have h1 : (B ++ (C ++ (D ++ E))).Perm (C ++ (B ++ (D ++ E))) := by
    rw [← List.append_assoc B C, ← List.append_assoc C B]
    exact List.perm_append_comm.append_right _
  refine h1.trans (List.Perm.append_left _ ?_)
  rw [← List.append_assoc]
  exact List.perm_append_comm
theorem perm4 {α : Type} (A B C D : List α) : (A ++ (B ++ (C ++ D))).Perm ((A ++ C) ++ (D ++ B)) := by
  simp only [List.append_assoc]
  refine List.Perm.append_left _ ?_
  have h1 : (B ++ (C ++ D)).Perm ((C ++ D) ++ B) := List.perm_append_comm
  rw [List.append_assoc] at h1
  exact h1
theorem perm6 {α : Type} (A B C S D E : List α) : ((A ++ B) ++ ((C ++ (S ++ D)) ++ E)).Perm (A ++ (C ++ (S ++ (E ++ (B ++ D))))) := by
  refine (perm5 A B C (S ++ D) E).trans (List.Perm.append_left _ (List.Perm.append_left _ ?_))
  have h1 : (E ++ (B ++ (S ++ D))) = ((E ++ B) ++ S) ++ D := by simp only [List.append_assoc]
  have h2 : (S ++ (E ++ (B ++ D))) = (S ++ (E ++ B)) ++ D := by simp only [List.append_assoc]
  rw [h1, h2]
  exact List.perm_append_comm.append_right _
theorem perm7 {α : Type} (A S B C D : List α) : (A ++ (S ++ (B ++ (C ++ D)))).Perm ((A ++ C) ++ ((S ++ D) ++ B)) := by
  have h1 : (A ++ (S ++ (B ++ (C ++ D)))) = (A ++ ((S ++ B) ++ (C ++ D))) := by simp only [List.append_assoc]
  rw [h1]
  refine (perm4 A (S ++ B) C D).trans (List.Perm.append_left _ ?_)
  have h2 : (S ++ D) ++ B = S ++ (D ++ B) := by simp only [List.append_assoc]
  rw [h2]
  have h3 : D ++ (S ++ B) = (D ++ S) ++ B := by simp only [List.append_assoc]
  have h4 : S ++ (D ++ B) = (S ++ D) ++ B := by simp only [List.append_assoc]
  rw [h3, h4]
  exact List.perm_append_comm.append_right _
section
variable {P : Program} {n : Nat} {ds : Ctx} {Q : Exit → Ctx → Env → World → Prop} {S : (Nat → Bool) → Env → World → Prop} {σ : Env} {w : World} {m : Nat}
theorem wpOpIn_of_I {ops : Array Oper} {dd : List Deferred} {Q' : Exit → Act → World → Prop} {T : Value → World → Prop} {K : Act → World → Prop} {i : Nat} {o : Oper} {ro : Option Nat} (hino : operIn n ro.isSome ops o = true) (ho : ops[i]? = some o)
    (h : (Region.wanted o (yl ops σ) = true ∧ comes P T ((execOp (evl σ) o).run P w)) ∨ (Region.wanted o (yl ops σ) = false ∧ T undef w))
    (next : ∀ v w', T v w' → K ((act n dd σ).put o.dst v) w') : wpOpIn (fen ro) m P ops Q' i K (act n dd σ) w := by
  unfold wpOpIn
  simp only [ho]
  rw [act_yielded hino]
  rcases h with ⟨hw, hy⟩ | ⟨hw, hy⟩
  · rw [hw, if_pos rfl]
    refine ⟨fun _ _ => fen_fn _ _, ?_⟩
    rw [fen_round, semAt_in hino, act_exec hino]
    generalize (execOp (evl σ) o).run P w = r at *
    cases r with
    | ok x w' =>
      cases x <;> simp only [comes] at hy <;> simp only [Oper.uponIn]
      case value u => exact next _ _ hy
      case skip => exact next _ _ hy
      case enter g args =>
        refine ⟨fun h => (by rw [fen_depth] at h; cases h), callsIn_fen (Calls.mono hy ?_)⟩
        rintro e w'' ⟨v, rfl, h2⟩
        exact next _ _ h2
    | halt x w' => simp only [comes] at hy
  · rw [hw, if_neg Bool.false_ne_true]
    exact ⟨fun _ _ => fen_fn _ _, next _ _ hy⟩
theorem wpAnyIn_of_I {ops : Array Oper} {dd : List Deferred} {Q' : Exit → Act → World → Prop} {ro : Option Nat} (hf : fwdB ops = true) (hin : ops.toList.all (operIn n ro.isSome ops) = true) (hop : ∀ k o, ops[k]? = some o → StepI P ops S k o)
    (hQ : ∀ L σ w, (∀ k, k < ops.size → L k = true) → S L σ w → Q' .normal (act n dd σ) w) :
    ∀ (f : Nat) (listed : Array Bool) (σ : Env) (w : World), listed.size = ops.size → Clo ops (fl listed) → listed.toList.count false ≤ f → S (fl listed) σ w → wpAnyIn (fen ro) m P .any ops Q' f listed (act n dd σ) w
  | 0, listed, σ, w, hsz, _, hc, hS => by
    have hall : ∀ k, k < ops.size → fl listed k = true := by
      intro k hk
      cases hL : fl listed k with
      | true => rfl
      | false =>
        exfalso
        simp only [fl, Array.getD_eq_getD_getElem?, show k < listed.size from by omega, Array.getElem?_eq_getElem, Option.getD_some] at hL
        have : false ∈ listed.toList := by rw [← hL]; simp
        have := List.count_pos_iff.2 this
        omega
    refine ⟨?_, hQ _ _ _ hall hS⟩
    cases hr : Region.ready .any ops listed with
    | nil => rfl
    | cons i r =>
      exfalso
      have hi : i ∈ Region.ready .any ops listed := by rw [hr]; exact List.mem_cons_self
      obtain ⟨h0, o, ho, _⟩ := mem_ready.1 hi
      have hk : i < ops.size := (Array.getElem?_eq_some_iff.1 ho).1
      have := hall i hk
      simp only [fl, Array.getD_eq_getD_getElem?, show i < listed.size from by omega, Array.getElem?_eq_getElem, Option.getD_some] at this h0
      rw [this] at h0
      cases h0
  | f + 1, listed, σ, w, hsz, hcl, hc, hS => by
    refine ⟨fun hr => hQ _ _ _ (ready_of_fwd hf hsz hr) hS, fun i hi => ?_⟩
    obtain ⟨h0, o, ho, hall⟩ := mem_ready.1 hi
    have hio : i < ops.size := (Array.getElem?_eq_some_iff.1 ho).1
    have hlt : i < listed.size := by omega
    have h0' : listed[i] = false := by simpa [hlt] using h0
    have hup : Up ops o i (fl listed) := by
      refine ⟨by simp [fl, hlt, h0'], ?_, ?_⟩
      · intro j hj
        obtain ⟨e, he, hb, rfl⟩ := bindsOn_iff.1 hj
        exact hall e he hb
      · intro j oj hj hb
        cases hL : fl listed j with
        | false => rfl
        | true =>
          have h1 := hcl j oj hj hL i hb
          have h2 : fl listed i = true := h1
          simp [fl, hlt, h0'] at h2
    have hino : operIn n ro.isSome ops o = true := by
      rw [List.all_eq_true] at hin
      exact hin o (by simpa using Array.mem_of_getElem? ho)
    refine wpOpIn_of_I hino ho (hop i o ho _ σ w hup hS) fun v w' hw' => ?_
    rw [act_put (operIn_dst hino)]
    refine wpAnyIn_of_I hf hin hop hQ f _ _ _ (by simpa using hsz) (by rw [fl_set hlt]; exact clo_on hcl ho hup.did) ?_ (by rw [fl_set hlt]; exact hw')
    rw [Array.toList_setIfInBounds, List.count_set]
    · have hb : listed.toList[i]'(by simpa using hlt) = false := by simpa using h0'
      have hpos : 0 < listed.toList.count false := List.count_pos_iff.2 (by rw [← hb]; exact List.getElem_mem _)
      rw [hb]; simp only [beq_self_eq_true, if_true]; simp; rw [Array.count_toList] at *; omega
    · simpa using hlt
/-- a region that draws, within whatever round -/
theorem wcdrawir [hm : Mix P] {id : Nat} {ops : List Oper} (S : (Nat → Bool) → Env → World → Prop) (h0 : ∀ wd, Frm w wd → S (fun _ => false) σ wd) (hop : StepsI P ops.toArray S 0 ops)
    (hend : ∀ L σ' w', (∀ k, k < ops.length → L k = true) → S L σ' w' → Q .normal ds σ' w') (hf : fwdB ops.toArray = true := by kernel_rfl) : WC P n ds (.region id ops.toArray true) Q σ w := by
  unfold WC
  intro hin
  have hin' : ops.all (operIn n ds.ro.isSome ops.toArray) = true := by simpa [codeIn] using hin
  refine wpIn_region_any hm.ok ?_
  have e0 : fl (Array.replicate ops.toArray.size false) = fun _ => false := by funext k; exact getD_replicate_false _ _
  refine wpAnyIn_of_I (S := S) (n := n) hf (by simpa using hin') (fun k o ho => ?_) ?_ _ _ _ _ (by simp) ?_ ?_ ?_
  · have := stepsI_get hop k o (by simpa using ho)
    rwa [Nat.zero_add] at this
  · intro L σ' w' hL hS
    exact ⟨ds.ds, σ', rfl, hend L σ' w' (by simpa using hL) hS⟩
  · rw [e0]; intro j oj _ hL; cases hL
  · simp
  · rw [e0]; exact h0 _ (Frm.drawn (Frm.refl w))
end
/-- what an operation leaves: its value, and where what it made lies -/
structure PD (X : Type) where
  v : Value
  p : Option Addr
  c : Nat
  b : Nat
  x : X
structure PlanB (X : Type) where
  pl : Nat → PD X → List Plot
  con : Nat → Option Nat
  base : Nat → List Plot
  fact : Nat → (Nat → PD X) → Prop
section
variable {X : Type}
def PlanB.live (p : PlanB X) (L : Nat → Bool) (j : Nat) : Bool := L j && (match p.con j with | some c => !L c | none => true)
def PlanB.mem (p : PlanB X) (n : Nat) (L : Nat → Bool) (a : Nat → PD X) : List Plot := ((List.range n).filter (p.live L)).flatMap fun j => p.pl j (a j)
/-- what operation k takes -/
def PlanB.takes (p : PlanB X) (n k : Nat) (a : Nat → PD X) : List Plot := ((List.range n).filter fun j => decide (p.con j = some k)).flatMap fun j => p.pl j (a j)
/-- what lay there before and is still to be taken -/
def PlanB.bmem (p : PlanB X) (n : Nat) (L : Nat → Bool) : List Plot := ((List.range n).filter fun j => !L j).flatMap p.base
def PlanB.S (p : PlanB X) (w0 : World) (cs : List Plot) (σ0 : Env) (ops : List Oper) (L : Nat → Bool) (σ : Env) (w : World) : Prop :=
  (∀ s, (∀ (k : Nat) (o : Oper), ops[k]? = some o → L k = true → o.dst ≠ some s) → σ s = σ0 s) ∧
  ∃ a : Nat → PD X, (∀ (k : Nat) (o : Oper), ops[k]? = some o → L k = true → (∀ d, o.dst = some d → σ d = (a k).v) ∧ p.fact k a) ∧ Sep w0 w (p.mem ops.length L a ++ (p.bmem ops.length L ++ cs))
/-- what k can see of what is to be taken by those that wait for it -/
def seesB (ops : List Oper) (k j : Nat) : Bool := decide (j ≠ k) && (match ops[j]? with | some oj => bindsOn oj k | none => false)
def PlanB.seen (p : PlanB X) (ops : List Oper) (k : Nat) : List Plot := ((List.range ops.length).filter (seesB ops k)).flatMap p.base
/-- how operation k goes, by the plan -/
def PlanB.Rule (p : PlanB X) (P : Program) (w0 : World) (cs : List Plot) (σ0 : Env) (ops : List Oper) (k : Nat) (o : Oper) : Prop :=
  ∀ (a : Nat → PD X) (σ : Env) (w : World) (rest : List Plot), (∀ s, (∀ (j : Nat) (o : Oper), ops[j]? = some o → j ≠ k → bindsOn o k = false → o.dst ≠ some s) → σ s = σ0 s) →
    (∀ (j : Nat) (oj : Oper), bindsOn o j = true → ops[j]? = some oj → (∀ d, oj.dst = some d → σ d = (a j).v) ∧ p.fact j a) → Sep w0 w (p.takes ops.length k a ++ (p.base k ++ (p.seen ops k ++ (cs ++ rest)))) →
    (Region.wanted o (yl ops.toArray σ) = true ∧ comes P (fun v w' => ∃ d, v = d.v ∧ p.fact k (setD a k d) ∧ Sep w0 w' (p.pl k d ++ (p.seen ops k ++ (cs ++ rest)))) ((execOp (evl σ) o).run P w)) ∨
    (Region.wanted o (yl ops.toArray σ) = false ∧ ∃ d, undef = d.v ∧ p.fact k (setD a k d) ∧ Sep w0 w (p.pl k d ++ (p.seen ops k ++ (cs ++ rest))))
def PlanB.Rules (p : PlanB X) (P : Program) (w0 : World) (cs : List Plot) (σ0 : Env) (ops : List Oper) : Nat → List Oper → Prop
  | _, [] => True
  | k, o :: l => p.Rule P w0 cs σ0 ops k o ∧ p.Rules P w0 cs σ0 ops (k + 1) l
theorem planb_step {p : PlanB X} {P : Program} {w0 : World} {cs : List Plot} {σ0 : Env} {ops : List Oper} (hB : planB p.con ops = true)
    (hF : ∀ (j : Nat) (oj : Oper) (a a' : Nat → PD X), ops[j]? = some oj → a j = a' j → (∀ i, bindsOn oj i = true → a i = a' i) → p.fact j a → p.fact j a') {k : Nat} {o : Oper} (hk : ops[k]? = some o) (h : p.Rule P w0 cs σ0 ops k o) : StepI P ops.toArray (p.S w0 cs σ0 ops) k o := by
  rintro L σ w hu ⟨hσ, a, hA, hS⟩
  have hkn : k < ops.length := by
    rcases Nat.lt_or_ge k ops.length with h | h
    · exact h
    · rw [List.getElem?_eq_none h] at hk; cases hk
  have hcon : ∀ j c, j < ops.length → p.con j = some c → ∃ oc, ops[c]? = some oc ∧ bindsOn oc j = true := by
    intro j c hj hc
    have := List.all_eq_true.1 hB j (List.mem_range.2 hj)
    rw [Bool.and_eq_true, hc] at this
    have h1 := this.1
    simp only [Bool.and_eq_true, decide_eq_true_eq] at h1
    rw [List.getElem?_eq_getElem h1.1] at h1
    exact ⟨_, List.getElem?_eq_getElem h1.1, h1.2⟩
  have hdst : ∀ (i j : Nat) (oi oj : Oper) (d : Nat), ops[i]? = some oi → ops[j]? = some oj → i ≠ j → oi.dst = some d → oj.dst ≠ some d := by
    intro i j oi oj d hi hj hne hd
    have hjn : j < ops.length := (List.getElem?_eq_some_iff.1 hj).1
    have hin : i < ops.length := (List.getElem?_eq_some_iff.1 hi).1
    have := List.all_eq_true.1 hB j (List.mem_range.2 hjn)
    rw [Bool.and_eq_true] at this
    have := List.all_eq_true.1 this.2 i (List.mem_range.2 hin)
    rw [hi, hj] at this
    simp only [hne, decide_false, Bool.false_or, hd, decide_eq_true_eq] at this
    exact this
  -- what k takes, and the rest
  let q : Nat → Bool := fun j => p.live L j && !decide (p.con j = some k)
  let rest0 : List Plot := ((List.range ops.length).filter q).flatMap fun j => p.pl j (a j)
  let bm : List Plot := p.bmem ops.length (on L k)
  let bm2 : List Plot := (((List.range ops.length).filter fun j => !(on L k) j).filter fun j => !(seesB ops k j)).flatMap p.base
  let rest : List Plot := rest0 ++ bm2
  have hsee : bm.Perm (p.seen ops k ++ bm2) := by
    have h2 := List.filter_append_perm (seesB ops k) ((List.range ops.length).filter fun j => !(on L k) j)
    have h3 : ((List.range ops.length).filter fun j => !(on L k) j).filter (seesB ops k) = (List.range ops.length).filter (seesB ops k) := by
      rw [List.filter_filter]
      refine List.filter_congr fun j hj => ?_
      cases hs : seesB ops k j with
      | false => rfl
      | true =>
        unfold seesB at hs
        rw [Bool.and_eq_true, decide_eq_true_eq] at hs
        obtain ⟨hne, hs⟩ := hs
        cases ho : ops[j]? with
        | none => rw [ho] at hs; cases hs
        | some oj =>
          rw [ho] at hs
          have := hu.ahead j oj (by simpa using ho) hs
          simp [on_ne L hne, this]
    rw [h3] at h2
    have h4 := h2.symm.flatMap_right p.base
    rw [List.flatMap_append] at h4
    exact h4
  have hbm : (p.bmem ops.length L).Perm (p.base k ++ bm) := by
    have hl : (List.range ops.length).filter (fun j => !L j) = (List.range ops.length).filter fun j => decide (j = k) || !(on L k) j := by
      refine List.filter_congr fun j hj => ?_
      by_cases e : j = k
      · subst e; simp [hu.now]
      · simp [e, on_ne L e]
    show (((List.range ops.length).filter fun j => !L j).flatMap p.base).Perm _
    rw [hl]
    refine ((filter_insert (q := fun j => !(on L k) j) (by simp [on_same]) List.nodup_range (List.mem_range.2 hkn)).flatMap_right p.base).trans ?_
    rw [List.flatMap_cons]
    exact List.Perm.refl _
  have htake : (List.range ops.length).filter (fun j => p.live L j && decide (p.con j = some k)) = (List.range ops.length).filter fun j => decide (p.con j = some k) := by
    refine List.filter_congr fun j hj => ?_
    by_cases hc : p.con j = some k
    · obtain ⟨oc, ho, hb⟩ := hcon j k (List.mem_range.1 hj) hc
      rw [hk] at ho
      injection ho with ho
      subst ho
      have h1 := hu.did j hb
      simp [PlanB.live, hc, h1, hu.now]
    · simp [hc]
  have hperm : (p.mem ops.length L a ++ (p.bmem ops.length L ++ cs)).Perm (p.takes ops.length k a ++ (p.base k ++ (p.seen ops k ++ (cs ++ rest)))) := by
    have h1 : ((List.range ops.length).filter fun j => decide (p.con j = some k)) ++ ((List.range ops.length).filter q) |>.Perm ((List.range ops.length).filter (p.live L)) := by
      have h2 := List.filter_append_perm (fun j => decide (p.con j = some k)) ((List.range ops.length).filter (p.live L))
      rw [List.filter_filter, List.filter_filter] at h2
      rw [← htake]
      refine List.Perm.trans ?_ h2
      refine List.Perm.append (List.Perm.of_eq (List.filter_congr fun j _ => Bool.and_comm _ _)) (List.Perm.of_eq (List.filter_congr fun j _ => Bool.and_comm _ _))
    have h3 := (h1.symm.flatMap_right fun j => p.pl j (a j))
    rw [List.flatMap_append] at h3
    exact (h3.append ((hbm.trans (List.Perm.append_left _ hsee)).append_right cs)).trans (perm6 _ _ _ _ _ _)
  have hlive : ∀ d, (p.mem ops.length (on L k) (setD a k d)).Perm (p.pl k d ++ rest0) := by
    intro d
    have hq : q k = false := by simp [q, PlanB.live, hu.now]
    have hl : (List.range ops.length).filter (p.live (on L k)) = (List.range ops.length).filter fun j => decide (j = k) || q j := by
      refine List.filter_congr fun j hj => ?_
      by_cases e : j = k
      · subst e
        have : (match p.con j with | some c => !(on L j c) | none => true) = true := by
          cases hc : p.con j with
          | none => rfl
          | some c =>
            obtain ⟨oc, ho, hb⟩ := hcon j c hkn hc
            have h1 := hu.ahead c oc (by simpa using ho) hb
            have hne : c ≠ j := by
              intro e
              subst e
              rw [hk] at ho
              injection ho with ho
              subst ho
              have := hu.did c hb
              rw [hu.now] at this
              cases this
            simp [on_ne L hne, h1]
        simp only [PlanB.live, on_same, this, Bool.and_self, decide_true, Bool.true_or]
      · simp only [PlanB.live, on_ne L e, decide_eq_false e, Bool.false_or, q]
        cases hc : p.con j with
        | none => simp
        | some c =>
          by_cases ec : c = k
          · subst ec; simp [on_same]
          · have : ¬ (some c = some k) := fun h => ec (Option.some.inj h)
            simp [on_ne L ec, this]
    unfold PlanB.mem
    rw [hl]
    refine ((filter_insert hq List.nodup_range (List.mem_range.2 hkn)).flatMap_right fun j => p.pl j (setD a k d j)).trans ?_
    rw [List.flatMap_cons, setD_same]
    refine List.Perm.append_left _ (List.Perm.of_eq ?_)
    show _ = List.flatMap (fun j => p.pl j (a j)) (List.filter q (List.range ops.length))
    rw [List.flatMap_def, List.flatMap_def]
    refine congrArg _ (List.map_congr_left fun j hj => ?_)
    have : j ≠ k := by
      rintro rfl
      have := (List.mem_filter.1 hj).2
      rw [hq] at this; cases this
    rw [setD_ne a d this]
  have hnew : ∀ d w', p.fact k (setD a k d) → Sep w0 w' (p.pl k d ++ (p.seen ops k ++ (cs ++ rest))) → p.S w0 cs σ0 ops (on L k) (updO σ o.dst (d.v)) w' := by
    intro d w' hf hS'
    refine ⟨fun s hs => ?_, setD a k d, fun j oj hj hL => ?_, ?_⟩
    · have h1 := hs k o hk (on_same L k)
      have hs' : ∀ (j : Nat) (oj : Oper), ops[j]? = some oj → L j = true → oj.dst ≠ some s := fun j oj hj hL => hs j oj hj (by
        by_cases e : j = k
        · subst e; exact on_same L j
        · rw [on_ne L e]; exact hL)
      cases hd : o.dst with
      | none => exact hσ s hs'
      | some dd =>
        rw [hd] at h1
        exact (upd_ne σ _ (fun e => h1 (by rw [e]))).trans (hσ s hs')
    · by_cases e : j = k
      · subst e
        rw [hk] at hj
        injection hj with hj
        subst hj
        refine ⟨fun dd hd => ?_, hf⟩
        rw [hd, setD_same]
        exact upd_same σ dd _
      · rw [on_ne L e] at hL
        obtain ⟨h1, h2⟩ := hA j oj hj hL
        refine ⟨fun dd hd => ?_, ?_⟩
        · rw [setD_ne a d e, ← h1 dd hd]
          cases hdo : o.dst with
          | none => rfl
          | some d2 =>
            have := hdst k j o oj d2 hk hj (fun e2 => e e2.symm) hdo
            exact upd_ne σ _ (fun e2 => this (by rw [hd, e2]))
        · refine hF j oj a _ hj (setD_ne a d e).symm (fun i hi => ?_) h2
          have : i ≠ k := by
            rintro rfl
            have := hu.ahead j oj (by simpa using hj) hi
            rw [this] at hL; cases hL
          exact (setD_ne a d this).symm
    · refine hS'.perm ?_
      exact (perm7 _ _ _ _ _).trans ((hlive d).symm.append (hsee.symm.append_right cs))
  rcases h a σ w rest (fun s hs => hσ s fun j oj hj hL => hs j oj hj (fun e => by rw [e, hu.now] at hL; cases hL) (by
      cases hb : bindsOn oj k with
      | false => rfl
      | true => have := hu.ahead j oj (by simpa using hj) hb; rw [this] at hL; cases hL)) (fun j oj hb hj => hA j oj hj (hu.did j hb)) (hS.perm hperm) with ⟨h1, h2⟩ | ⟨h1, d, h2, h3, h4⟩
  · refine .inl ⟨h1, comes_mono (fun v w' => ?_) h2⟩
    rintro ⟨d, rfl, hf, hS'⟩
    exact hnew d w' hf hS'
  · refine .inr ⟨h1, ?_⟩
    rw [h2]
    exact hnew d w h3 h4
theorem planb_steps {p : PlanB X} {P : Program} {w0 : World} {cs : List Plot} {σ0 : Env} {ops : List Oper} (hB : planB p.con ops = true)
    (hF : ∀ (j : Nat) (oj : Oper) (a a' : Nat → PD X), ops[j]? = some oj → a j = a' j → (∀ i, bindsOn oj i = true → a i = a' i) → p.fact j a → p.fact j a') : ∀ (l : List Oper) (k : Nat), (∀ j o, l[j]? = some o → ops[k + j]? = some o) → p.Rules P w0 cs σ0 ops k l → StepsI P ops.toArray (p.S w0 cs σ0 ops) k l
  | [], _, _, _ => trivial
  | o :: l, k, hl, hr => ⟨planb_step hB hF (by simpa using hl 0 o rfl) hr.1, planb_steps hB hF l (k + 1) (fun j o' h => by rw [show k + 1 + j = k + (j + 1) from by omega]; exact hl (j + 1) o' (by simpa using h)) hr.2⟩
/-- a region that draws, by a plan -/
theorem wcplanb {P : Program} [hm : Mix P] {n : Nat} {ds : Ctx} {Q : Exit → Ctx → Env → World → Prop} {σ : Env} {w w0 : World} {id : Nat} {ops : List Oper} {cs b : List Plot} (p : PlanB X) (d0 : PD X) (hS : Sep w0 w (b ++ cs)) (hb : (List.range ops.length).flatMap p.base = b)
    (hF : ∀ (j : Nat) (oj : Oper) (a a' : Nat → PD X), ops[j]? = some oj → a j = a' j → (∀ i, bindsOn oj i = true → a i = a' i) → p.fact j a → p.fact j a')
    (hR : p.Rules P w0 cs σ ops 0 ops)
    (hend : ∀ (a : Nat → PD X) σ' w', (∀ s, (∀ (k : Nat) (o : Oper), ops[k]? = some o → o.dst ≠ some s) → σ' s = σ s) → (∀ (k : Nat) (o : Oper), ops[k]? = some o → (∀ d, o.dst = some d → σ' d = (a k).v) ∧ p.fact k a) →
      Sep w0 w' (((List.range ops.length).filter fun j => (p.con j).isNone).flatMap (fun j => p.pl j (a j)) ++ cs) → Q .normal ds σ' w')
    (hB : planB p.con ops = true := by kernel_rfl) (hf : fwdB ops.toArray = true := by kernel_rfl) : WC P n ds (.region id ops.toArray true) Q σ w := by
  refine wcdrawir (p.S w0 cs σ ops) (fun wd hwd => ⟨fun _ _ => rfl, fun _ => d0, fun _ _ _ h => absurd h Bool.false_ne_true, ?_⟩) (planb_steps hB hF ops 0 (fun j o h => by rwa [Nat.zero_add]) hR) ?_ hf
  · have e : p.mem ops.length (fun _ => false) (fun _ => d0) = [] := by
      unfold PlanB.mem
      rw [List.filter_eq_nil_iff.2 (by intro j _; simp [PlanB.live])]
      rfl
    have e2 : p.bmem ops.length (fun _ => false) = b := by
      rw [← hb]; unfold PlanB.bmem
      rw [List.filter_eq_self.2 (by intro j _; rfl)]
    rw [e, e2]
    exact hS.grow hwd
  · rintro L σ' w' hL ⟨hσ, a, hA, hS'⟩
    refine hend a σ' w' (fun s hs => hσ s fun k o hk _ => hs k o hk) (fun k o hk => hA k o hk (hL k (List.getElem?_eq_some_iff.1 hk).1)) ?_
    have e2 : p.bmem ops.length L = [] := by
      unfold PlanB.bmem
      rw [List.filter_eq_nil_iff.2 (by intro j hj; simp [hL j (List.mem_range.1 hj)])]
      rfl
    rw [e2] at hS'
    refine hS'.perm (List.Perm.append_right _ (List.Perm.of_eq ?_))
    unfold PlanB.mem
    congr 1
    refine List.filter_congr fun j hj => ?_
    have h1 := hL j (List.mem_range.1 hj)
    simp only [PlanB.live, h1, Bool.true_and]
    cases hc : p.con j with
    | none => rfl
    | some c =>
      have := List.all_eq_true.1 hB j hj
      rw [Bool.and_eq_true, hc] at this
      have h2 := this.1
      simp only [Bool.and_eq_true, decide_eq_true_eq] at h2
      simp [hL c h2.1]
end
theorem notDstB {ops : List Oper} {s k : Nat} (h : ((List.range ops.length).all fun j => match ops[j]? with | some o => decide (j = k) || bindsOn o k || decide (o.dst ≠ some s) | none => true) = true) :
    ∀ (j : Nat) (o : Oper), ops[j]? = some o → j ≠ k → bindsOn o k = false → o.dst ≠ some s := fun j o hj hne hb => by
  have := List.all_eq_true.1 h j (List.mem_range.2 (List.getElem?_eq_some_iff.1 hj).1)
  rw [hj] at this
  simpa [hne, hb] using this
end Go.Sv

/-
  Regions that draw their order, by a plan for the first operations; the rest in order.
-/
set_option linter.unusedSimpArgs false
set_option linter.unusedVariables false
set_option linter.unnecessarySimpa false
namespace Go.Sv
open Go Go.RowKit
/-- the first n1 are done, the rest not -/
def heads (n1 size : Nat) : Array Bool := ((List.range size).map fun i => decide (i < n1)).toArray
section
variable {P : Program} {n : Nat} {ds : Ctx} {Q : Exit → Ctx → Env → World → Prop} {S : (Nat → Bool) → Env → World → Prop} {σ : Env} {w : World} {m : Nat}
theorem wpAnyIn_of_seqF {F : Fence} {md : Region.Mode} {ops : Array Oper} {Q' : Exit → Act → World → Prop} : ∀ (l : List Oper) (k : Nat) (listed : Array Bool) (a : Act) (w : World), (∀ j, l[j]? = ops[k + j]?) →
    Region.seqB md ops l.length k listed = true → wpListIn F m P ops Q' l a w → wpAnyIn F m P md ops Q' l.length listed a w
  | [], _, _, _, _, _, hB, h => ⟨by simpa [Region.seqB] using hB, h⟩
  | o :: l, k, listed, a, w, hl, hB, h => by
    have h0 : ops[k]? = some o := by simpa using (hl 0).symm
    simp only [List.length_cons, Region.seqB, Bool.and_eq_true, decide_eq_true_eq] at hB
    refine ⟨fun h1 => (by rw [hB.1] at h1; cases h1), fun i hi => ?_⟩
    rw [hB.1] at hi
    have hik : i = k := by simpa using hi
    subst hik
    have hw : wpOpIn F m P ops Q' i (wpListIn F m P ops Q' l) a w := by unfold wpOpIn; simp only [h0]; exact h
    exact wpOpIn_mono (fun a' w' h' => wpAnyIn_of_seqF l (i + 1) _ a' w' (fun j => by have := hl (j + 1); simpa [Nat.add_assoc, Nat.add_comm 1 j] using this) hB.2 h') hw
theorem wpAnyIn_of_IT {ops : Array Oper} {dd : List Deferred} {Q' : Exit → Act → World → Prop} {n1 : Nat} {l2 : List Oper} {ro : Option Nat} (hs : Region.sinkB .any ops n1 = true) (hc : Region.chainB .any ops n1 = true) (hn : n1 < ops.size) (hf : fwdB ops = true)
    (hin : ops.toList.all (operIn n ro.isSome ops) = true) (hop : ∀ k o, k < n1 → ops[k]? = some o → StepI P ops S k o) (hl2 : ∀ j, l2[j]? = ops[n1 + j]?) (hB2 : Region.seqB .any ops l2.length n1 (heads n1 ops.size) = true)
    (hQ : ∀ L σ w, (∀ k, k < n1 → L k = true) → (∀ k, n1 ≤ k → L k = false) → S L σ w → wpListIn (fen ro) m P ops Q' l2 (act n dd σ) w) :
    ∀ (f : Nat) (listed : Array Bool) (σ : Env) (w : World), HeadInv .any ops n1 listed → (listed.toList.take n1).count false = f → S (fl listed) σ w → wpAnyIn (fen ro) m P .any ops Q' (f + l2.length) listed (act n dd σ) w
  | 0, listed, σ, w, inv, hcnt, hS => by
    have hsz := inv.size
    have hfirst : ∀ i, i < n1 → ∀ h : i < listed.size, listed[i] = true := by
      intro i hi h
      cases hb : listed[i] with
      | true => rfl
      | false =>
        exfalso
        have : false ∈ listed.toList.take n1 := by
          rw [List.mem_iff_getElem]
          exact ⟨i, by simp; omega, by simp [hb]⟩
        have := List.count_pos_iff.2 this
        omega
    have hrest : ∀ i, n1 ≤ i → ∀ h : i < listed.size, listed[i] = false := by
      intro i hi h
      have := inv.tail i hi (by omega)
      simpa [h] using this
    have he : listed = heads n1 ops.size := by
      apply Array.ext
      · simp [heads, hsz]
      · intro i h1 h2
        simp only [heads, List.getElem_toArray, List.getElem_map, List.getElem_range]
        rcases Nat.lt_or_ge i n1 with h | h
        · rw [hfirst i h h1, decide_eq_true h]
        · rw [hrest i h h1, decide_eq_false (by omega)]
    rw [Nat.zero_add]
    refine wpAnyIn_of_seqF l2 n1 listed _ w hl2 (by rw [he]; exact hB2) (hQ (fl listed) σ w (fun k hk => ?_) (fun k hk => ?_) hS)
    · have h1 : k < listed.size := by omega
      simp [fl, h1, hfirst k hk h1]
    · rcases Nat.lt_or_ge k listed.size with h1 | h1
      · simp [fl, h1, hrest k hk h1]
      · simp [fl, Array.getElem?_eq_none h1]
  | f + 1, listed, σ, w, inv, hcnt, hS => by
    have hsz := inv.size
    have hmem : false ∈ listed.toList.take n1 := List.count_pos_iff.1 (by omega)
    obtain ⟨u, hu1, hu2⟩ := List.mem_iff_getElem.1 hmem
    have hun : u < n1 := by simp at hu1; omega
    have hul : u < listed.size := by simp at hu1; omega
    have hu3 : listed[u] = false := by simpa using hu2
    rw [show f + 1 + l2.length = (f + l2.length) + 1 from by omega]
    refine ⟨fun hr => ?_, fun i hi => ?_⟩
    · exfalso
      have := ready_of_fwd hf hsz hr u (by omega)
      simp [fl, hul, hu3] at this
    · have hin1 : i < n1 := by
        rcases Nat.lt_or_ge i n1 with h | h
        · exact h
        · exact absurd hi (tail_waits hs hc hn inv _ u rfl hun (by simp [hul, hu3]) i h)
      obtain ⟨h0, o, ho, hall⟩ := mem_ready.1 hi
      have hio : i < ops.size := (Array.getElem?_eq_some_iff.1 ho).1
      have hlt : i < listed.size := by omega
      have h0' : listed[i] = false := by simpa [hlt] using h0
      have hup : Up ops o i (fl listed) := by
        refine ⟨by simp [fl, hlt, h0'], ?_, ?_⟩
        · intro j hj
          obtain ⟨e, he, hb, rfl⟩ := bindsOn_iff.1 hj
          exact hall e he hb
        · intro j oj hj hb
          cases hL : fl listed j with
          | false => rfl
          | true =>
            obtain ⟨e, he, hb1, hb2⟩ := bindsOn_iff.1 hb
            have h2 := inv.closed j oj hj hL e he hb1
            rw [hb2] at h2
            simp [hlt, h0'] at h2
      have hino : operIn n ro.isSome ops o = true := by
        rw [List.all_eq_true] at hin
        exact hin o (by simpa using Array.mem_of_getElem? ho)
      refine wpOpIn_of_I hino ho (hop i o hin1 ho _ σ w hup hS) fun v w' hw' => ?_
      rw [act_put (operIn_dst hino)]
      refine wpAnyIn_of_IT hs hc hn hf hin hop hl2 hB2 hQ f _ _ _ (inv.set hi hin1) ?_ (by rw [fl_set hlt]; exact hw')
      rw [Array.toList_setIfInBounds, List.take_set, List.count_set]
      · have hb : (listed.toList.take n1)[i]'(by simp; omega) = false := by simpa using h0'
        rw [hb]; simp only [beq_self_eq_true, if_true]; simp; omega
      · simp; omega
theorem wcdrawit [hm : Mix P] {id : Nat} {ops l2 : List Oper} (n1 : Nat) (S : (Nat → Bool) → Env → World → Prop) (h0 : ∀ wd, Frm w wd → S (fun _ => false) σ wd) (hop : ∀ k o, k < n1 → ops[k]? = some o → StepI P ops.toArray S k o)
    (hend : ∀ L σ' w', (∀ k, k < n1 → L k = true) → (∀ k, n1 ≤ k → L k = false) → S L σ' w' → WL P n ds ops.toArray Q l2 σ' w') (hl2 : ops.drop n1 = l2)
    (hB : Region.lexTailB .any ops.toArray n1 = true) (hB2 : Region.seqB .any ops.toArray l2.length n1 (heads n1 ops.toArray.size) = true) (hf : fwdB ops.toArray = true) : WC P n ds (.region id ops.toArray true) Q σ w := by
  obtain ⟨dd, ro⟩ := ds
  unfold WC
  intro hin
  have hin' : ops.all (operIn n ro.isSome ops.toArray) = true := by simpa [codeIn] using hin
  simp only [Region.lexTailB, Bool.and_eq_true, decide_eq_true_eq] at hB
  obtain ⟨⟨⟨⟨hsel, hn⟩, hs⟩, hc⟩, hlex⟩ := hB
  refine wpIn_region_any hm.ok ?_
  have e0 : fl (Array.replicate ops.toArray.size false) = fun _ => false := by funext k; exact getD_replicate_false _ _
  have inv0 : HeadInv .any ops.toArray n1 (Array.replicate ops.toArray.size false) :=
    ⟨by simp, fun j oj _ hl => (by rw [getD_replicate_false] at hl; cases hl), fun t _ h9 => getD_in (by simp only [Array.size_replicate]; exact h9) (getD_replicate_false _ _)⟩
  have hl3 : ∀ j : Nat, l2[j]? = ops.toArray[n1 + j]? := fun j => by subst hl2; simp
  have hnl : n1 < ops.length := by simpa using hn
  have hsum : ops.toArray.size = n1 + l2.length := by subst hl2; simp; omega
  have := wpAnyIn_of_IT (S := S) (n := n) (m := 0) (dd := dd) (l2 := l2) hs hc hn hf (by simpa using hin') (fun k o hk ho => hop k o hk (by simpa using ho)) hl3 hB2
    (fun L σ' w' h1 h2 h3 => by
      have hw := hend L σ' w' h1 h2 h3
      unfold WL at hw
      refine hw ?_
      rw [List.all_eq_true] at hin' ⊢
      intro x hx
      subst hl2
      exact hin' x (List.mem_of_mem_drop hx))
    n1 _ σ { w with drawn := w.drawn + 1 } inv0 (by simp; omega) (by rw [e0]; exact h0 _ (Frm.drawn (Frm.refl w)))
  rw [← hsum] at this
  exact this
variable {X : Type}
/-- a region that draws: a plan for the first n1, the rest in order -/
theorem wcplant [hm : Mix P] {w0 : World} {id : Nat} {ops l1 l2 : List Oper} {x : Oper} {cs b : List Plot} (n1 : Nat) (p : PlanB X) (d0 : PD X) (hS : Sep w0 w (b ++ cs)) (hb : (List.range ops.length).flatMap p.base = b)
    (hF : ∀ (j : Nat) (oj : Oper) (a a' : Nat → PD X), ops[j]? = some oj → a j = a' j → (∀ i, bindsOn oj i = true → a i = a' i) → p.fact j a → p.fact j a')
    (hR : p.Rules P w0 cs σ ops 0 l1)
    (hend : ∀ (a : Nat → PD X) σ' w', (∀ s, (∀ (k : Nat) (o : Oper), l1[k]? = some o → o.dst ≠ some s) → σ' s = σ s) → (∀ (k : Nat) (o : Oper), l1[k]? = some o → (∀ d, o.dst = some d → σ' d = (a k).v) ∧ p.fact k a) →
      Sep w0 w' (((List.range n1).filter fun j => (p.con j).isNone).flatMap (fun j => p.pl j (a j)) ++ cs) → WL P n ds ops.toArray Q (x :: l2) σ' w')
    (hp : Parts n1 ops l1 x l2 := by repeat (first | exact Go.Sv.Parts.zero | apply Go.Sv.Parts.step)) (hB : planB p.con ops = true := by kernel_rfl) (hcon : ((List.range n1).all fun j => match p.con j with | some c => decide (c < n1) | none => true) = true := by kernel_rfl) (hbase : (List.range' n1 (ops.length - n1)).flatMap p.base = [] := by rfl)
    (hBt : Region.lexTailB .any ops.toArray n1 = true := by kernel_rfl) (hB2 : Region.seqB .any ops.toArray (x :: l2).length n1 (heads n1 ops.toArray.size) = true := by kernel_rfl) (hf : fwdB ops.toArray = true := by kernel_rfl) : WC P n ds (.region id ops.toArray true) Q σ w := by
  have hl : ops.take n1 = l1 ∧ ops.drop n1 = x :: l2 := by
    obtain ⟨h1, h2⟩ := hp
    subst h1
    subst h2
    exact ⟨List.take_left, List.drop_left⟩
  have hn1 : n1 < ops.length := by
    simp only [Region.lexTailB, Bool.and_eq_true, decide_eq_true_eq] at hBt
    simpa using hBt.1.1.1.2
  have hget : ∀ k o, k < n1 → (ops[k]? = some o ↔ l1[k]? = some o) := by
    intro k o hk
    rw [← hl.1, List.getElem?_take, if_pos hk]
  have hlen : l1.length = n1 := by rw [← hl.1, List.length_take]; omega
  have hsteps := planb_steps hB hF l1 0 (fun j o h => by
    rw [Nat.zero_add]
    have hj : j < n1 := by rw [← hlen]; exact (List.getElem?_eq_some_iff.1 h).1
    exact (hget j o hj).2 h) hR
  refine wcdrawit n1 (p.S w0 cs σ ops) (fun wd hwd => ⟨fun _ _ => rfl, fun _ => d0, fun _ _ _ h => absurd h Bool.false_ne_true, ?_⟩) (fun k o hk ho => ?_) ?_ hl.2 hBt hB2 hf
  · have e : p.mem ops.length (fun _ => false) (fun _ => d0) = [] := by
      unfold PlanB.mem
      rw [List.filter_eq_nil_iff.2 (by intro j _; simp [PlanB.live])]
      rfl
    have e2 : p.bmem ops.length (fun _ => false) = b := by
      rw [← hb]; unfold PlanB.bmem
      rw [List.filter_eq_self.2 (by intro j _; rfl)]
    rw [e, e2]
    exact hS.grow hwd
  · have := stepsI_get hsteps k o ((hget k o hk).1 ho)
    rwa [Nat.zero_add] at this
  · rintro L σ' w' hL1 hL2 ⟨hσ, a, hA, hS'⟩
    have hk1 : ∀ {k : Nat} {o : Oper}, l1[k]? = some o → k < n1 := fun h => by rw [← hlen]; exact (List.getElem?_eq_some_iff.1 h).1
    refine hend a σ' w' (fun s hs => hσ s fun k o hk hLk => ?_) (fun k o hk => hA k o ((hget k o (hk1 hk)).2 hk) (hL1 k (hk1 hk))) ?_
    · rcases Nat.lt_or_ge k n1 with h | h
      · exact hs k o ((hget k o h).1 hk)
      · rw [hL2 k h] at hLk; cases hLk
    · have e2 : p.bmem ops.length L = [] := by
        unfold PlanB.bmem
        have hr : (List.range ops.length).filter (fun j => !L j) = List.range' n1 (ops.length - n1) := by
          have h1 : List.range ops.length = List.range n1 ++ List.range' n1 (ops.length - n1) := by
            rw [List.range_eq_range', List.range_eq_range']
            have := List.range'_append (s := 0) (m := n1) (n := ops.length - n1) (step := 1)
            simp only [Nat.zero_add, Nat.one_mul] at this
            rw [this]
            congr 1; omega
          rw [h1, List.filter_append, List.filter_eq_nil_iff.2 (by intro j hj; simp [hL1 j (List.mem_range.1 hj)]), List.filter_eq_self.2 (by intro j hj; simp [hL2 j (List.mem_range'_1.1 hj).1])]
          rfl
        rw [hr, hbase]
      rw [e2] at hS'
      refine hS'.perm (List.Perm.append_right _ (List.Perm.of_eq ?_))
      unfold PlanB.mem
      congr 1
      have h1 : List.range ops.length = List.range n1 ++ List.range' n1 (ops.length - n1) := by
        rw [List.range_eq_range', List.range_eq_range']
        have := List.range'_append (s := 0) (m := n1) (n := ops.length - n1) (step := 1)
        simp only [Nat.zero_add, Nat.one_mul] at this
        rw [this]
        congr 1; omega
      have h9 : (List.range' n1 (ops.length - n1)).filter (p.live L) = [] := List.filter_eq_nil_iff.2 (by intro j hj; simp [PlanB.live, hL2 j (List.mem_range'_1.1 hj).1])
      rw [h1, List.filter_append, h9, List.append_nil]
      refine List.filter_congr fun j hj => ?_
      have h2 := hL1 j (List.mem_range.1 hj)
      simp only [PlanB.live, h2, Bool.true_and]
      cases hc : p.con j with
      | none => rfl
      | some c =>
        have := List.all_eq_true.1 hcon j hj
        rw [hc] at this
        simp only [decide_eq_true_eq] at this
        simp [hL1 c this]
end
end Go.Sv

/-
  General steps, further.
-/
set_option linter.unusedSimpArgs false
set_option linter.unusedVariables false
set_option linter.unnecessarySimpa false
namespace Go.Sv
open Go Go.RowKit
/-- a guarded call, whose guard is known to say yes -/
theorem wlcallgt {P : Program} {n : Nat} {ds : Ctx} {ops : Array Oper} {Q : Exit → Ctx → Env → World → Prop} {rest : List Oper} {σ : GE} {w : World} {d : Nat} {ty : TypeId} {pos : String} {af : Array Edge} {j dj : Nat} {want b c : Bool} {f : FuncId} [hf : Fnc P f] {args : List Operand} {ats : Array TypeId} {vals : List Value} {R : Value → World → Prop}
    (hc : CallsR P f vals.toArray w R) (h : ∀ v w', R v w' → WL P n ds ops Q rest (real (updG σ d ⟨v, true⟩)) w') (hgt : (b && (c == want)) = true)
    (hj : (ops[j]?).bind (·.dst) = some dj := by rfl) (hσ : σ dj = ⟨.bool c, b⟩ := by rfl)
    (ha : (b && (c == want)) = true → args.map (evl (real σ)) = vals := by
    intro hgd
    first
    | exact Go.Sv.am1 (evG hgd)
    | exact Go.Sv.am2 (evG hgd) (evG hgd)
    | exact Go.Sv.am3 (evG hgd) (evG hgd) (evG hgd)) :
    WL P n ds ops Q (⟨some d, .call ⟨.value (.func f), args.toArray, ats⟩, ty, pos, af, some (j, want)⟩ :: rest) (real σ) w := by
  have hw := wanted_real (ops := ops) (o := ⟨some d, .call ⟨.value (.func f), args.toArray, ats⟩, ty, pos, af, some (j, want)⟩) rfl hj hσ
  rw [hgt] at hw
  refine WL_call_want (R := R) hw (by rw [← ha hgt] at hc; simpa using hc) fun v w' hr => ?_
  have := h v w' hr
  rw [← real_upd] at this
  exact this
/-- a slice of one -/
theorem y_slice1 {P : Program} {σ : Env} {w : World} {d : Option Tmp} {ty t e : TypeId} {pos : String} {af : Array Edge} {g : Option (Nat × Bool)} {x y' z' : Operand} {zv : Value} {size bytes n c i : Nat} {p : Option Addr} [hu : Und P t (.slice e)] [hi : Inf P e zv size bytes] (hx : evl σ x = .slice p n c) (hy : evl σ y' = int i) (hz : evl σ z' = int ((i : Int) + 1)) (h : i + 1 ≤ c) :
    Y P σ ⟨d, .slice t x (some y') (some z') none, ty, pos, af, g⟩ w (.slice (slp c i p (i * size)) 1 (c - i)) w := by
  have h1 := y_rslice (P := P) (w := w) (d := d) (ty := ty) (pos := pos) (af := af) (g := g) (t := t) (e := e) (i' := i) (j := i + 1) hx hy (hz.trans (show Value.int .i64 ((i : Int) + 1) = .int .i64 ((i + 1 : Nat) : Int) from by rw [Int.natCast_add]; rfl)) ⟨by omega, h⟩
  rwa [Nat.add_sub_cancel_left] at h1
end Go.Sv

/-
  Chapter 21: dom.Walk.
-/
set_option linter.unusedSimpArgs false
set_option linter.unusedVariables false
set_option linter.unnecessarySimpa false
namespace Go.Proofs.YtcdogceabkpnmaaDoor
open Go Go.Sv Go.RowKit
def ints (l : List Nat) : List Value := l.map fun i : Nat => int i
theorem ints_len (l : List Nat) : (ints l).length = l.length := by simp [ints]
theorem ints_one (l : List Nat) : ∀ u ∈ ints l, u.oneCell' = true := by
  intro u hu
  obtain ⟨x, _, rfl⟩ := List.mem_map.1 hu
  rfl
theorem ints_snoc (l : List Nat) (i : Nat) : ints l ++ [int i] = ints (l ++ [i]) := by simp [ints]
/-- every node with its way, each ahead of its kids -/
def Fo.wlk : Fo → List Nat → Nat → List (List Nat × Nd)
  | .nil, _, _ => []
  | .cons n t es ks r, w, i => (w ++ [i], ⟨n, t, es, ks⟩) :: ((if n = [] then [] else ks.wlk (w ++ [i]) 0) ++ r.wlk w (i + 1))
theorem wlk_append (l m : List Nd) (w : List Nat) (i : Nat) : (Fo.of (l ++ m)).wlk w i = (Fo.of l).wlk w i ++ (Fo.of m).wlk w (i + l.length) := by
  induction l generalizing i with
  | nil => rfl
  | cons x l ih =>
    simp only [List.cons_append, Fo.of, Fo.wlk, ih, List.length_cons, List.append_assoc]
    rw [show i + 1 + l.length = i + (l.length + 1) by omega]
def wkT (f : FoM) (w : List Nat) (i : Nat) : List (List Nat × Nd) := (Fo.of (ndT f i)).wlk w 0
theorem wkT_all (f : FoM) (w : List Nat) : wkT f w f.len = f.fo.wlk w 0 := by rw [wkT, ndT_all, fo_list]
theorem ndT_len {f : FoM} {i : Nat} (h : i ≤ f.len) : (ndT f i).length = i := by
  unfold ndT; rw [List.length_take, List.length_map]; exact Nat.min_eq_left h
theorem wkT_succ {f : FoM} {i : Nat} {m : NdM} (w : List Nat) (h : f.list[i]? = some m) : wkT f w (i + 1) = wkT f w i ++ ((w ++ [i], m.nd) :: (if m.name = [] then [] else m.kids.fo.wlk (w ++ [i]) 0)) := by
  have hi : i < f.len := (List.getElem?_eq_some_iff.1 h).1
  unfold wkT
  rw [ndT_succ h, wlk_append, ndT_len (by omega), Nat.zero_add]
  simp [Fo.of, Fo.wlk, NdM.nd]
theorem wkT_pre (f : FoM) (w : List Nat) (i : Nat) : ∃ rest, f.fo.wlk w 0 = wkT f w i ++ rest := by
  refine ⟨(Fo.of ((f.list.map NdM.nd).drop i)).wlk w (0 + ((f.list.map NdM.nd).take i).length), ?_⟩
  rw [fo_list]
  conv => lhs; rw [← List.take_append_drop i (f.list.map NdM.nd), wlk_append]
  rfl
theorem wkT_get {f : FoM} {i j : Nat} {w : List Nat} {x : List Nat × Nd} (h : (wkT f w i)[j]? = some x) : (f.fo.wlk w 0)[j]? = some x := by
  obtain ⟨rest, hr⟩ := wkT_pre f w i
  obtain ⟨hj, _⟩ := List.getElem?_eq_some_iff.1 h
  rw [hr, List.getElem?_append_left hj]
  exact h
/-- each slice of trees has room for them -/
def FoM.fit : FoM → Prop
  | .nil => True
  | .cons _ _ _ _ _ ks _ kc r => ks.len ≤ kc ∧ ks.fit ∧ r.fit
theorem fit_mem {f : FoM} (h : f.fit) {m : NdM} (hm : m ∈ f.list) : m.kids.len ≤ m.kc ∧ m.kids.fit := by
  induction f with
  | nil => cases hm
  | cons n t es ap ac ks kp kc r _ ih =>
    rcases List.mem_cons.1 hm with rfl | hm
    · exact ⟨h.1, h.2.1⟩
    · exact ih h.2.2 hm
theorem fit_rows {w : World} {f : FoM} (h : ∀ r ∈ f.rows, r.ok w) : f.fit := by
  induction f with
  | nil => trivial
  | cons n t es ap ac ks kp kc r ih1 ih2 =>
    simp only [FoM.rows, List.mem_cons, List.mem_append] at h
    exact ⟨(Row.le_cap (h ⟨4, kp, ks.len, kc, _⟩ (.inr (.inl rfl)))).1, ih1 fun x hx => h x (.inr (.inr (.inl hx))), ih2 fun x hx => h x (.inr (.inr (.inr hx)))⟩
theorem one_of {L : List NdM} {m : NdM} (h : L.map NdM.nd = [m.nd]) : ∃ m2, L = [m2] ∧ m2.nd = m.nd := by
  cases L with
  | nil => cases h
  | cons m2 l =>
    cases l with
    | nil => exact ⟨m2, rfl, by simpa using h⟩
    | cons m3 l => simp at h
theorem own1_ok (m : NdM) (p : Option Addr) (c : Nat) (hw : (FoM.of [m]).wt ≤ 1048576) (w0 w : World) (cs : List Plot) (hS : Sep w0 w cs) (hT : Tre w p (FoM.of [m])) :
    CallsR Tryd.prog 39 #[.slice p 1 c] w fun v w' => ∃ (q : Option Addr) (cc : Nat) (m2 : NdM), v = .slice q 1 cc ∧ m2.nd = m.nd ∧ (∃ a, q = some a) ∧ Frm w w' ∧ Sep w0 w' (pRow 4 q 1 cc m2.cells :: pMany m2.rows :: cs) := by
  refine CallsR.mono (own21_ok ((FoM.of [m]).size + 1) (FoM.of [m]) p c (Nat.lt_succ_self _) hw w0 w cs hS hT) ?_
  rintro v w' ⟨q, cc, L, rfl, hL, hf, hS⟩
  rw [FoM.list_of] at hL
  obtain ⟨m2, rfl, hm⟩ := one_of hL
  simp only [List.flatMap_cons, List.flatMap_nil, List.append_nil] at hS
  exact ⟨q, cc, m2, rfl, hm, (hS.row 0 rfl).sg.some (by rw [NdM.clen]; decide), hf, hS⟩
theorem of1 {w : World} {p : Option Addr} {f : FoM} (hT : Tre w p f) {i c : Nat} {m : NdM} (hx : f.list[i]? = some m) (hc : f.len ≤ c) : Tre w (slp c i p (i * 4)) (FoM.of [m]) := by
  have hi : i < f.len := (List.getElem?_eq_some_iff.1 hx).1
  have hm := List.mem_of_getElem? hx
  have hseg := fm_seg NdM.clen f.list hx
  have h1 := (hT.im.part (c := c) (i' := i) (size := 4) (fun h => by omega)).take 4
  rw [hseg] at h1
  refine ⟨by simpa [FoM.of, FoM.list] using h1, ?_⟩
  obtain ⟨h2, h3⟩ := hT.kid hm
  exact ⟨h2, h3.im, h3.nds, trivial⟩
theorem wt1 {f : FoM} {m : NdM} (hm : m ∈ f.list) : (FoM.of [m]).wt ≤ f.wt := by
  have := FoM.wt_mem hm
  simp only [FoM.of, FoM.wt]; omega
def dwkP (lr : Nat) (p ph : Option Addr) (fl c ch i : Nat) (wi : List Nat) (nd : Nd) : PlanB (Option Addr × Nat × NdM) where
  pl k d := match k with
    | 2 => [pRow 1 d.p wi.length d.c (ints wi)]
    | 8 => [pRow 4 d.x.1 1 d.x.2.1 d.x.2.2.cells, pMany d.x.2.2.rows]
    | 9 => [pRow 4 d.x.1 1 d.x.2.1 d.x.2.2.cells, pMany d.x.2.2.rows]
    | 10 => [pRow 4 d.x.1 1 d.x.2.1 d.x.2.2.cells, pMany d.x.2.2.rows]
    | _ => []
  con k := match k with
    | 8 => some 9
    | 9 => some 10
    | _ => none
  base k := match k with
    | _ => []
  fact k a := match k with
    | 0 => (a 0).v = .func (.yield lr) #[] #[]
    | 1 => (a 1).v = .slice ph wi.length ch
    | 2 => (a 2).v = .slice (a 2).p wi.length (a 2).c
    | 3 => (a 3).v = .slice p fl c
    | 4 => (a 4).v = int i
    | 5 => (a 5).v = int i
    | 6 => (a 6).v = int ((i : Int) + 1)
    | 7 => (a 7).v = .slice (slp c i p (i * 4)) 1 (c - i)
    | 8 => (a 8).v = .slice (a 8).x.1 1 (a 8).x.2.1 ∧ (a 8).x.2.2.nd = nd ∧ ∃ a', (a 8).x.1 = some a'
    | 9 => (a 9).v = ptrAt (a 9).x.1 (0 * 4) ∧ (a 9).x = (a 8).x ∧ ∃ a', (a 9).x.1 = some a'
    | 10 => (a 10).v = .agg ⟨(a 10).x.2.2.cells⟩ ∧ (a 10).x = (a 9).x
    | 11 => True
    | 12 => True
    | _ => True
/-- what yield answers to a node: its own way, its own copy -/
def YldAt (lr B : Nat) (whole : List (List Nat × Nd)) (J Jx : Nat → World → Prop) : Prop :=
  ∀ i w1 way nd, J i w1 → whole[i]? = some (way, nd) → ∀ q c (m2 : NdM) w', m2.nd = nd → Sep w1 w' [pRow 1 q way.length c (ints way), pMany m2.rows] →
    Yld Tryd.prog lr [.slice q way.length c, .agg ⟨m2.cells⟩] w' fun bb w2 => ∃ N, Le N w1 w2 ∧ (∀ x ∈ N, x < B) ∧ if bb then J (i + 1) w2 else Jx i w2
set_option maxHeartbeats 8000000 in
theorem walk21_ok (lr B : Nat) (whole : List (List Nat × Nd)) (J Jx : Nat → World → Prop) (hst : ∀ i w1 w2, J i w1 → Same B w1 w2 → J i w2) (hstx : ∀ i w1 w2, Jx i w1 → Same B w1 w2 → Jx i w2) (hY : YldAt lr B whole J Jx) :
    ∀ (k : Nat) (f : FoM) (p : Option Addr) (c : Nat), f.size < k → f.wt ≤ 1048576 → f.len ≤ c → f.fit → (∀ i w, J i w → Tre w p f) → ∀ (way : List Nat) (pw : Option Addr) (cw s : Nat), way.length + k ≤ 4194304 → (∀ j x, (f.fo.wlk way 0)[j]? = some x → whole[s + j]? = some x) →
      ∀ (w0 w : World) (cs : List Plot), w0.heap.size = B → Sep w0 w (pRow 1 pw way.length cw (ints way) :: cs) → J s w →
      CallsR Tryd.prog 41 #[.slice pw way.length cw, .slice p f.len c, .func (.yield lr) #[] #[]] w fun v w' => ∃ bb w0', v = .bool bb ∧ w0'.heap.size = B ∧ Sep w0' w' (pRow 1 pw way.length cw (ints way) :: cs) ∧ if bb then J (s + (f.fo.wlk way 0).length) w' else ∃ j, j < whole.length ∧ Jx j w' := by
  intro k
  induction k with
  | zero => intro f p c hk; omega
  | succ k ih =>
    intro f p c hk hw hfc hfit hJT way pw cw s hwl hwh w0 w cs hB0 hS hJ
    have hlw := FoM.len_wt f
    refine enter (l := [.slice pw way.length cw, .slice p f.len c, .func (.yield lr) #[] #[]]) Tryd.func41 rfl Tryd.ntmps41 (by kernel_rfl) rfl ?_
    refine sgo ?_
    refine wcloop (X := Nat) (fun i => [(0, .slice pw way.length cw), (1, .slice p f.len c), (2, .func (.yield lr) #[] #[]), (10, .slice p f.len c), (11, int f.len), (12, int i)])
      (fun i wr => i ≤ f.len ∧ J (s + (wkT f way i).length) wr ∧ ∃ w0', w0'.heap.size = B ∧ Sep w0' wr (pRow 1 pw way.length cw (ints way) :: cs)) (fun i => f.len - i) 0 ⟨rfl, rfl, rfl, rfl, rfl, rfl, trivial⟩ ⟨Nat.zero_le _, hJ, w0, hB0, hS⟩ ?_
    clear hS hJ hB0 w0
    rintro i wr ρ ⟨hil, hJ, w0, hB0, hS⟩
    have hS00 := hS
    refine sgo ?_
    (show WC _ _ _ _ _ _ _; first | refine WC_dec rfl (fun hc => ?_) (fun hc => ?_) | refine WC_cond rfl (fun hc => ?_) (fun hc => ?_))
    · have hlt : i < f.len := by omega
      have hT := hJT _ _ hJ
      have hIm := hT.im
      obtain ⟨m, hx, hm, hseg, hfl, hps, hat, hkT⟩ := tre_at hT hlt
      have hsz := FoM.size_mem hm
      have hsm := nd_small hw hm
      have hw1 := wt1 hm
      have hsn := wkT_succ way hx
      have hget : whole[s + (wkT f way i).length]? = some (way ++ [i], m.nd) := hwh _ _ (wkT_get (i := i + 1) (by rw [hsn]; simp))
      obtain ⟨hkc, hkf⟩ := fit_mem hfit hm
      have hih := ih m.kids m.kp m.kc (by omega) hsm.kids hkc hkf (fun i w h => ((hJT i w h).kid hm).2) (way ++ [i])
      clear hc
      obtain ⟨wi, hwi⟩ : ∃ wi, wi = way ++ [i] := ⟨_, rfl⟩
      rw [← hwi] at hget hsn hih
      have hwil : wi.length = way.length + 1 := by rw [hwi]; simp
      refine sgo ?_
      rw [hseg]
      refine salloc hS fun b8 w5 hS => ?_
      refine sgo ?_
      refine ssta (vs := m.cells) hS 0 (fun w6 hS => ?_) (hv := ⟨m.clen, rfl⟩) (h1 := List.all_eq_true.2 (nd_one m))
      replace hS : Sep w0 w6 (pOwn b8 m.cells :: pRow 1 pw way.length cw (ints way) :: cs) := hS
      refine sgo ?_
      refine sapp0 hS (hS.row 1 rfl).sg (fun q2 c2 w7 hS => ?_) (hl := by rw [ints_len, Nat.mul_one]) (h1 := ints_one way)
      refine sgo ?_
      refine sb1i hS fun b3 w8 hS => ?_
      refine sgo ?_
      refine sapp hS 1 (hS.own 0 rfl).sg (fun q4 c4 w9 hS => ?_)
      rw [ints_snoc, ← hwi, ← hwil] at hS
      rw [← hwil]
      replace hS : Sep w0 w9 (pRow 1 q4 wi.length c4 (ints wi) :: pOwn b8 m.cells :: pRow 1 pw way.length cw (ints way) :: cs) := hS.sel 4 [1, 2, 3]
      have hJ9 : J (s + (wkT f way i).length) w9 := hst _ _ _ hJ (hB0 ▸ Same.of_sep hS00 hS)
      have hown := fun w' (cs' : List Plot) (h : Sep w9 w' cs') => own1_ok m (slp c i p (i * 4)) (c - i) (by omega) w9 w' cs' h (of1 ((hJT _ _ hJ9).frm h.frm) hx hfc)
      have hh : Im [] w9 q4 (ints wi) := hS.im 0 rfl
      have hSo := hS
      clear hS
      have hS : Sep w9 w9 ([] ++ []) := Sep.start w9
      refine sgo ?_
      refine wcplant (b := []) 11 (dwkP lr p q4 f.len c c4 i wi m.nd) ⟨.nilIface, none, 0, 0, (none, 0, ⟨[], [], [], none, 0, .nil, none, 0⟩)⟩ hS rfl (fun j oj a a' hj he hd h => ?_) ?_ ?_
      · have hjl : j < 13 := (List.getElem?_eq_some_iff.1 hj).1
        match j, hjl with
        | 0, _ | 1, _ | 2, _ | 3, _ | 4, _ | 5, _ | 6, _ | 7, _ | 8, _ | 11, _ | 12, _ => first | (simp only [dwkP] at h ⊢; rw [← he]; exact h) | exact h
        | 9, _ => simp only [dwkP] at h ⊢; rw [← he, ← hd 8 (by cases hj; rfl)]; exact h
        | 10, _ => simp only [dwkP] at h ⊢; rw [← he, ← hd 9 (by cases hj; rfl)]; exact h
      · refine ⟨?_, ?_, ?_, ?_, ?_, ?_, ?_, ?_, ?_, ?_, ?_, trivial⟩
        · intro a σ' w' rest hσ hdep hS'   -- 0: move; pieces:  ..
          have e2 : σ' 2 = .func (.yield lr) #[] #[] := (hσ 2 (notDstB rfl)).trans rfl
          exact rule_e [(2, _)] ⟨e2, trivial⟩ ⟨⟨.func (.yield lr) #[] #[], none, 0, 0, (none, 0, ⟨[], [], [], none, 0, .nil, none, 0⟩)⟩, rfl, rfl, hS'⟩
        · intro a σ' w' rest hσ hdep hS'   -- 1: move; pieces:  ..
          have e9 : σ' 9 = .slice q4 wi.length c4 := (hσ 9 (notDstB rfl)).trans rfl
          exact rule_e [(9, _)] ⟨e9, trivial⟩ ⟨⟨.slice q4 wi.length c4, none, 0, 0, (none, 0, ⟨[], [], [], none, 0, .nil, none, 0⟩)⟩, rfl, rfl, hS'⟩
        · intro a σ' w' rest hσ hdep hS'   -- 2: call; pieces:  ..
          have f1 := (hdep 1 _ rfl rfl).2
          have e23 := ((hdep 1 _ rfl rfl).1 23 rfl).trans f1
          obtain ⟨p2, c2, w2, hy, hS2⟩ := y_app0 (P := Tryd.prog) (t := 30) (t' := 30) (ty := 30) (d := some 24) (x := .const (.slice none 0 0)) (y := .tmp 23) (n := wi.length) hS' (hh.sep hS').sg rfl e23 (show (ints wi).length = wi.length * 1 by rw [ints_len, Nat.mul_one]) (ints_one _) rfl (by decide) (by omega)
          exact rule_y hy ⟨⟨.slice p2 wi.length c2, p2, c2, 0, (none, 0, ⟨[], [], [], none, 0, .nil, none, 0⟩)⟩, rfl, rfl, hS2⟩
        · intro a σ' w' rest hσ hdep hS'   -- 3: move; pieces:  ..
          have e1 : σ' 1 = .slice p f.len c := (hσ 1 (notDstB rfl)).trans rfl
          exact rule_e [(1, _)] ⟨e1, trivial⟩ ⟨⟨.slice p f.len c, none, 0, 0, (none, 0, ⟨[], [], [], none, 0, .nil, none, 0⟩)⟩, rfl, rfl, hS'⟩
        · intro a σ' w' rest hσ hdep hS'   -- 4: move; pieces:  ..
          have e7 : σ' 7 = int i := (hσ 7 (notDstB rfl)).trans rfl
          exact rule_e [(7, _)] ⟨e7, trivial⟩ ⟨⟨int i, none, 0, 0, (none, 0, ⟨[], [], [], none, 0, .nil, none, 0⟩)⟩, rfl, rfl, hS'⟩
        · intro a σ' w' rest hσ hdep hS'   -- 5: move; pieces:  ..
          have e7 : σ' 7 = int i := (hσ 7 (notDstB rfl)).trans rfl
          exact rule_e [(7, _)] ⟨e7, trivial⟩ ⟨⟨int i, none, 0, 0, (none, 0, ⟨[], [], [], none, 0, .nil, none, 0⟩)⟩, rfl, rfl, hS'⟩
        · intro a σ' w' rest hσ hdep hS'   -- 6: binOp; pieces:  ..
          have f5 := (hdep 5 _ rfl rfl).2
          have e27 := ((hdep 5 _ rfl rfl).1 27 rfl).trans f5
          exact rule_y (y_add64 e27 rfl ⟨by omega, by omega⟩) ⟨⟨int ((i : Int) + 1), none, 0, 0, (none, 0, ⟨[], [], [], none, 0, .nil, none, 0⟩)⟩, rfl, rfl, hS'⟩
        · intro a σ' w' rest hσ hdep hS'   -- 7: slice; pieces:  ..
          have f3 := (hdep 3 _ rfl rfl).2
          have e25 := ((hdep 3 _ rfl rfl).1 25 rfl).trans f3
          have f4 := (hdep 4 _ rfl rfl).2
          have e26 := ((hdep 4 _ rfl rfl).1 26 rfl).trans f4
          have f6 := (hdep 6 _ rfl rfl).2
          have e28 := ((hdep 6 _ rfl rfl).1 28 rfl).trans f6
          exact rule_y (y_slice1 e25 e26 e28 (by omega)) ⟨⟨.slice (slp c i p (i * 4)) 1 (c - i), none, 0, 0, (none, 0, ⟨[], [], [], none, 0, .nil, none, 0⟩)⟩, rfl, rfl, hS'⟩
        · intro a σ' w' rest hσ hdep hS'   -- 8: call; pieces:  ..
          have f7 := (hdep 7 _ rfl rfl).2
          have e29 := ((hdep 7 _ rfl rfl).1 29 rfl).trans f7
          refine rule_call (vals := [.slice (slp c i p (i * 4)) 1 (c - i)]) (hown w' _ hS') (fun v w2 hR => ?_) (am1 e29)
          obtain ⟨q3, c3, m2, rfl, hm2, hq3, -, hS2⟩ := hR
          exact ⟨⟨.slice q3 1 c3, none, 0, 0, (q3, c3, m2)⟩, rfl, ⟨rfl, hm2, hq3⟩, hS2⟩
        · intro a σ' w' rest hσ hdep hS'   -- 9: indexAddr; pieces: takes 8 ..
          have f8 := (hdep 8 _ rfl rfl).2
          have e30 := ((hdep 8 _ rfl rfl).1 30 rfl).trans f8.1
          exact rule_y (y_idx (i := 0) e30 rfl (by decide) f8.2.2) ⟨⟨ptrAt (a 8).x.1 (0 * 4), none, 0, 0, (a 8).x⟩, rfl, ⟨rfl, rfl, f8.2.2⟩, hS'⟩
        · intro a σ' w' rest hσ hdep hS'   -- 10: load; pieces: takes 9 ..
          have f9 := (hdep 9 _ rfl rfl).2
          have e31 := ((hdep 9 _ rfl rfl).1 31 rfl).trans f9.1
          exact rule_y (y_loada e31 (hS'.sgv 0 rfl) (by rw [NdM.clen]; decide) f9.2.2) ⟨⟨.agg ⟨(a 9).x.2.2.cells⟩, none, 0, 0, (a 9).x⟩, rfl, ⟨rfl, rfl⟩, hS'⟩
      · intro a σ' w' hσ hA' hS'
        have h0 := hA' 0 _ rfl
        have h2 := hA' 2 _ rfl
        have h8 := hA' 8 _ rfl
        have h9 := hA' 9 _ rfl
        have h10 := hA' 10 _ rfl
        have hx10 : (a 10).x = (a 8).x := h10.2.2.trans h9.2.2.1
        rw [frameOf (σ := σ') [(0, .slice pw way.length cw), (1, .slice p f.len c), (2, .func (.yield lr) #[] #[]), (8, ptrAt (pb b8) 0), (9, .slice q4 wi.length c4), (10, .slice p f.len c), (11, int f.len), (12, int i), (22, .func (.yield lr) #[] #[]), (24, .slice (a 2).p wi.length (a 2).c), (32, .agg ⟨(a 8).x.2.2.cells⟩)]
          ⟨(hσ 0 (notDst rfl)).trans rfl, (hσ 1 (notDst rfl)).trans rfl, (hσ 2 (notDst rfl)).trans rfl, (hσ 8 (notDst rfl)).trans rfl, (hσ 9 (notDst rfl)).trans rfl, (hσ 10 (notDst rfl)).trans rfl, (hσ 11 (notDst rfl)).trans rfl, (hσ 12 (notDst rfl)).trans rfl, (h0.1 22 rfl).trans h0.2, (h2.1 24 rfl).trans h2.2, (h10.1 32 rfl).trans (h10.2.1.trans (by rw [hx10])), trivial⟩]
        replace hS' : Sep w9 w' [pRow 1 (a 2).p wi.length (a 2).c (ints wi), pRow 4 (a 10).x.1 1 (a 10).x.2.1 (a 10).x.2.2.cells, pMany (a 10).x.2.2.rows] := hS'
        rw [hx10] at hS'
        replace hS' : Sep w9 w' [pRow 1 (a 2).p wi.length (a 2).c (ints wi), pRow 4 (a 8).x.1 1 (a 8).x.2.1 (a 8).x.2.2.cells, pMany (a 8).x.2.2.rows] := hS'
        refine wlyield (hY _ w9 wi m.nd hJ9 hget (a 2).p (a 2).c (a 8).x.2.2 w' h8.2.2.1 (hS'.sel 3 [0, 2])) fun bb w2 hbb => ?_
        obtain ⟨N, hN1, hN2, hbb⟩ := hbb
        obtain ⟨wb, hwb, hS⟩ := hSo.rebase hN1 (fun x hx => by rw [hB0]; exact hN2 x hx)
        rw [hB0] at hwb
        clear hA' hS' hSo h0 h2 h8 h9 h10 hx10 hσ hown hh
        cases bb with
        | false =>
          refine sgo ?_
          (first | refine fp1 (.inl rfl) rfl rfl ?_ | refine fp2 (.inl rfl) rfl rfl rfl ?_ | refine fp3 (.inl rfl) rfl rfl rfl rfl ?_ | refine fp0 (.inr rfl) rfl ?_ | refine fp0 (.inl rfl) rfl ?_ | refine fp1 (.inr rfl) rfl rfl ?_)
          exact ⟨false, wb, rfl, hwb, hS.sel 3 [2], s + (wkT f way i).length, (List.getElem?_eq_some_iff.1 hget).1, hbb⟩
        | true =>
          replace hbb : J (s + (wkT f way i).length + 1) w2 := hbb
          obtain ⟨n, t, es, ap, ac, ks, kp, kc⟩ := m
          dsimp only [NdM.cells] at hS hih hsn hsm hkT hwh
          refine sgo ?_
          refine wlbuild (cells := [str n, str t, .slice ap es.length ac, .slice kp ks.len kc]) ?_
          refine wlpure (oneText_ok n (str t) (.slice ap es.length ac) (.slice kp ks.len kc) _) fun w3 hf3 => ?_
          have hJ3 : J (s + (wkT f way i).length + 1) w3 := hst _ _ _ hbb (hwb ▸ Same.of_sep hS (hS.grow hf3))
          replace hS := hS.grow hf3
          clear hbb
          by_cases hn : n = []
          · subst hn
            rw [if_pos rfl] at hsn
            refine sgo ?_
            refine wlskipg (.bool false) ?_ (hgt := by simp)
            refine sgo ?_
            refine ⟨i + 1, ⟨rfl, rfl, rfl, rfl, rfl, rfl, trivial⟩, ⟨hlt, ?_, wb, hwb, hS.sel 3 [2]⟩, (by (try dsimp only); omega)⟩
            rw [hsn, List.length_append]
            exact hJ3
          · rw [if_neg hn] at hsn
            rw [show decide (n = []) = false from decide_eq_false hn]
            refine sgo ?_
            have hwk : ∀ j x, (ks.fo.wlk wi 0)[j]? = some x → whole[s + (wkT f way i).length + 1 + j]? = some x := by
              intro j x h
              have h1 : (wkT f way (i + 1))[(wkT f way i).length + 1 + j]? = some x := by
                rw [hsn, List.getElem?_append_right (by omega), show (wkT f way i).length + 1 + j - (wkT f way i).length = j + 1 by omega, List.getElem?_cons_succ]
                exact h
              have := hwh _ _ (wkT_get h1)
              rwa [show s + ((wkT f way i).length + 1 + j) = s + (wkT f way i).length + 1 + j by omega] at this
            refine wlcallgt (vals := [.slice q4 wi.length c4, .slice kp ks.len kc, .func (.yield lr) #[] #[]]) (hih q4 c4 (s + (wkT f way i).length + 1) (by omega) hwk wb w3 _ hwb hS hJ3) (fun v5 w12 hR => ?_) rfl
            clear hS hwb hJ3
            obtain ⟨bb, wb2, rfl, hwb, hS, hbb⟩ := hR
            cases bb with
            | false =>
              refine sgo ?_
              (first | refine fp1 (.inl rfl) rfl rfl ?_ | refine fp2 (.inl rfl) rfl rfl rfl ?_ | refine fp3 (.inl rfl) rfl rfl rfl rfl ?_ | refine fp0 (.inr rfl) rfl ?_ | refine fp0 (.inl rfl) rfl ?_ | refine fp1 (.inr rfl) rfl rfl ?_)
              exact ⟨false, wb2, rfl, hwb, hS.sel 3 [2], hbb⟩
            | true =>
              refine sgo ?_
              refine ⟨i + 1, ⟨rfl, rfl, rfl, rfl, rfl, rfl, trivial⟩, ⟨hlt, ?_, wb2, hwb, hS.sel 3 [2]⟩, (by (try dsimp only); omega)⟩
              rw [hsn, List.length_append, List.length_cons, show s + ((wkT f way i).length + ((ks.fo.wlk wi 0).length + 1)) = s + (wkT f way i).length + 1 + (ks.fo.wlk wi 0).length by omega]
              exact hbb
    · obtain rfl : i = f.len := by omega
      refine sgo ?_
      (first | refine fp1 (.inl rfl) rfl rfl ?_ | refine fp2 (.inl rfl) rfl rfl rfl ?_ | refine fp3 (.inl rfl) rfl rfl rfl rfl ?_ | refine fp0 (.inr rfl) rfl ?_ | refine fp0 (.inl rfl) rfl ?_ | refine fp1 (.inr rfl) rfl rfl ?_)
      rw [wkT_all] at hJ
      exact ⟨true, w0, rfl, hB0, hS, hJ⟩
set_option maxHeartbeats 2000000 in
/-- dom.Walk: trees of its own, and a function over them -/
theorem domWalk_ok (f : FoM) (p : Option Addr) (c : Nat) (hw : f.wt ≤ 1048576) (w0 w : World) (cs : List Plot) (hS0 : Sep w0 w cs) (hT : Tre w p f) :
    CallsR Tryd.prog 12 #[.slice p f.len c] w fun v w' => ∃ (b : Nat) (q : Option Addr) (cc : Nat) (L : List NdM), v = .func (.func 40) #[] #[ptrAt (pb b) 0] ∧ L.map NdM.nd = f.list.map NdM.nd ∧ Frm w w' ∧ Sep w0 w' (pOwn b [.slice q L.length cc] :: pRow 4 q L.length cc (L.flatMap NdM.cells) :: pMany (L.flatMap NdM.rows) :: cs) := by
  have hS := Sep.start w
  refine enter (l := [.slice p f.len c]) Tryd.func12 rfl Tryd.ntmps12 (by kernel_rfl) rfl ?_
  refine sgo ?_
  refine sbox (v := .slice p f.len c) hS fun b w1 hS => ?_
  replace hS : Sep w w1 [pOwn b [.slice p f.len c]] := hS
  refine sgo ?_
  refine wlcall (own21_ok (f.size + 1) f p c (Nat.lt_succ_self _) hw w w1 _ hS (hT.frm hS.frm)) ?_
  rintro _ w2 ⟨q, cc, L, rfl, hL, -, hS⟩
  refine sgo ?_
  refine sst_slice hS 2 fun w3 hS => ?_
  replace hS : Sep w w3 [pRow 4 q L.length cc (L.flatMap NdM.cells), pMany (L.flatMap NdM.rows), pOwn b [.slice q L.length cc]] := hS
  refine sgo ?_
  (first | refine fp1 (.inl rfl) rfl rfl ?_ | refine fp2 (.inl rfl) rfl rfl rfl ?_ | refine fp3 (.inl rfl) rfl rfl rfl rfl ?_ | refine fp0 (.inr rfl) rfl ?_ | refine fp0 (.inl rfl) rfl ?_ | refine fp1 (.inr rfl) rfl rfl ?_)
  exact ⟨b, q, cc, L, rfl, hL, hS.frm, hS0.seq (ds := [_, _, _]) (hS.sel 3 [2, 0, 1])⟩
theorem wt_of_nd {L : List NdM} {f : FoM} (h : L.map NdM.nd = f.list.map NdM.nd) : (FoM.of L).wt = f.wt := by
  rw [wt_fo, wt_fo, fo_of, h, ← fo_list]
set_option maxHeartbeats 2000000 in
/-- .. called with yield -/
theorem walk1_ok21 (lr B bW : Nat) (L : List NdM) (q : Option Addr) (cc : Nat) (hw : (FoM.of L).wt ≤ 1048576) (hc : L.length ≤ cc) (hfit : (FoM.of L).fit) (hsz : (FoM.of L).size ≤ 4000000) (J Jx : Nat → World → Prop) (hst : ∀ i w1 w2, J i w1 → Same B w1 w2 → J i w2) (hstx : ∀ i w1 w2, Jx i w1 → Same B w1 w2 → Jx i w2)
    (hJE : ∀ i w, J i w → Own w bW [.slice q L.length cc] ∧ Tre w q (FoM.of L)) (hY : YldAt lr B ((FoM.of L).fo.wlk [] 0) J Jx) (w : World) (hB : w.heap.size = B) (h0 : J 0 w) :
    CallsR Tryd.prog 40 #[.func (.yield lr) #[] #[], ptrAt (pb bW) 0] w fun _ w' => J ((FoM.of L).fo.wlk [] 0).length w' ∨ ∃ j, j < ((FoM.of L).fo.wlk [] 0).length ∧ Jx j w' := by
  have ho := (hJE 0 w h0).1.sg
  have hS := ((Sep.start w)).push (c := pRow 1 none 0 0 []) (Frm.refl _) (Row.nil _ 1) (rb_nil _)
  refine enter (l := [.func (.yield lr) #[] #[], ptrAt (pb bW) 0]) Tryd.func40 rfl Tryd.ntmps40 (by kernel_rfl) rfl ?_
  refine sgo ?_
  have hwk := walk21_ok lr B ((FoM.of L).fo.wlk [] 0) J Jx hst hstx hY ((FoM.of L).size + 1) (FoM.of L) q cc (Nat.lt_succ_self _) hw (by rw [len_of]; exact hc) hfit (fun i w h => (hJE i w h).2) [] none 0 0 (by simp; omega) (fun j x h => by rw [Nat.zero_add]; exact h) w w [] hB hS h0
  rw [len_of] at hwk
  refine wlcall hwk ?_
  rintro _ w1 ⟨bb, w0', rfl, -, -, hbb⟩
  refine sgo ?_
  (first | refine fp1 (.inl rfl) rfl rfl ?_ | refine fp2 (.inl rfl) rfl rfl rfl ?_ | refine fp3 (.inl rfl) rfl rfl rfl rfl ?_ | refine fp0 (.inr rfl) rfl ?_ | refine fp0 (.inl rfl) rfl ?_ | refine fp1 (.inr rfl) rfl rfl ?_)
  cases bb with
  | true =>
    replace hbb : J (0 + ((FoM.of L).fo.wlk [] 0).length) w1 := hbb
    rw [Nat.zero_add] at hbb
    exact .inl hbb
  | false => exact .inr hbb
end Go.Proofs.YtcdogceabkpnmaaDoor

/-
  Chapter 21: dom.Count.
-/
set_option linter.unusedSimpArgs false
set_option linter.unusedVariables false
set_option linter.unnecessarySimpa false
namespace Go.Proofs.YtcdogceabkpnmaaDoor
open Go Go.Sv Go.RowKit
theorem size_wt (f : FoM) : f.size ≤ f.wt := by
  induction f with
  | nil => exact Nat.le_refl _
  | cons n t es ap ac ks kp kc r ih1 ih2 => simp only [FoM.size, FoM.wt]; omega
def isTx (x : List Nat × Nd) : Bool := decide (x.2.name = [])
def cT (W : List (List Nat × Nd)) (i : Nat) : Nat := (W.take i).countP isTx
def cE (W : List (List Nat × Nd)) (i : Nat) : Nat := (W.take i).countP fun x => !isTx x
theorem cT_succ {W : List (List Nat × Nd)} {i : Nat} {way : List Nat} {nd : Nd} (h : W[i]? = some (way, nd)) : cT W (i + 1) = cT W i + if nd.name = [] then 1 else 0 := by
  unfold cT
  rw [List.take_add_one, h, List.countP_append]
  by_cases hn : nd.name = [] <;> simp [isTx, hn]
theorem cE_succ {W : List (List Nat × Nd)} {i : Nat} {way : List Nat} {nd : Nd} (h : W[i]? = some (way, nd)) : cE W (i + 1) = cE W i + if nd.name = [] then 0 else 1 := by
  unfold cE
  rw [List.take_add_one, h, List.countP_append]
  by_cases hn : nd.name = [] <;> simp [isTx, hn]
theorem cnt_split {α : Type} (p : α → Bool) (l : List α) : l.length = l.countP p + l.countP fun x => !p x := by
  induction l with
  | nil => rfl
  | cons x l ih =>
    simp only [List.length_cons, List.countP_cons]
    cases p x <;> simp <;> omega
theorem wlk_cnt (f : Fo) : ∀ w i, (f.wlk w i).countP isTx = f.texts ∧ ((f.wlk w i).countP fun x => !isTx x) = f.elems := by
  induction f with
  | nil => intro w i; exact ⟨rfl, rfl⟩
  | cons n t es ks r ih1 ih2 =>
    intro w i
    obtain ⟨h1, h2⟩ := ih1 (w ++ [i]) 0
    obtain ⟨h3, h4⟩ := ih2 w (i + 1)
    simp only [Fo.wlk, Fo.texts, Fo.elems, List.countP_cons, List.countP_append, h3, h4]
    by_cases hn : n = []
    · have hx : isTx (w ++ [i], ⟨n, t, es, ks⟩) = true := decide_eq_true hn
      simp only [if_pos hn, hx, List.countP_nil]
      constructor <;> simp <;> omega
    · have hx : isTx (w ++ [i], ⟨n, t, es, ks⟩) = false := decide_eq_false hn
      simp only [if_neg hn, hx, h1, h2]
      constructor <;> simp <;> omega
theorem cT_all (f : Fo) : cT (f.wlk [] 0) (f.wlk [] 0).length = f.texts := by rw [cT, List.take_length]; exact (wlk_cnt f [] 0).1
theorem cE_all (f : Fo) : cE (f.wlk [] 0) (f.wlk [] 0).length = f.elems := by rw [cE, List.take_length]; exact (wlk_cnt f [] 0).2
theorem wlk_len (f : Fo) : (f.wlk [] 0).length = f.elems + f.texts := by
  have h1 := wlk_cnt f [] 0
  have h2 := cnt_split isTx (f.wlk [] 0)
  omega
theorem cT_le (W : List (List Nat × Nd)) (i : Nat) : cT W i ≤ W.length := Nat.le_trans List.countP_le_length (by rw [List.length_take]; omega)
theorem cE_le (W : List (List Nat × Nd)) (i : Nat) : cE W i ≤ W.length := Nat.le_trans List.countP_le_length (by rw [List.length_take]; omega)
set_option maxHeartbeats 4000000 in
theorem domCount_ok (f : FoM) (p : Option Addr) (c : Nat) (hw : f.wt ≤ 1048576) (w : World) (hT : Tre w p f) : PureC Tryd.prog 24 #[.slice p f.len c] w (.tuple #[int f.fo.elems, int f.fo.texts]) := by
  have hS := Sep.start w
  refine enter (l := [.slice p f.len c]) Tryd.func24 rfl Tryd.ntmps24 (by kernel_rfl) rfl ?_
  refine sgo ?_
  refine salloc hS fun b4 w1 hS => ?_
  refine sgo ?_
  refine salloc hS fun b5 w2 hS => ?_
  refine sgo ?_
  refine sst_int hS 1 fun w3 hS => ?_
  refine sgo ?_
  refine sst_int hS 0 fun w4 hS => ?_
  replace hS : Sep w w4 [pOwn b5 [int ((0 : Nat) : Int)], pOwn b4 [int ((0 : Nat) : Int)]] := hS
  refine sgo ?_
  refine wlcall (domWalk_ok f p c hw w w4 _ hS (hT.frm hS.frm)) ?_
  rintro _ w5 ⟨bW, q, cc, L, rfl, hL, -, hS⟩
  have hfo : (FoM.of L).fo = f.fo := by rw [fo_of, hL, ← fo_list]
  have hLw : (FoM.of L).wt ≤ 1048576 := by rw [wt_of_nd hL]; exact hw
  have hcap := (hS.row 1 rfl).le_cap.1
  have hfit : (FoM.of L).fit := fit_rows (by rw [rows_of]; exact hS.many 2 rfl)
  have hlen := wlk_len f.fo
  have hcw := cnt_wt f
  have hLs : (FoM.of L).size ≤ 4000000 := by have := size_wt (FoM.of L); omega
  refine sgo ?_
  refine wcrangef (cap := [ptrAt (pb bW) 0]) rfl rfl ?_
  intro fn lr D w8 hD hlr hne hf8 hLo hN
  obtain ⟨rc, hrc, hLo⟩ := loop_fam hLo
  replace hS := hS.loop hf8 hLo hN hlr hD hne
  have hfeet := hS.feet_lt
  have hsz := hS.frm.size
  have hW : (FoM.of L).fo.wlk [] 0 = f.fo.wlk [] 0 := by rw [hfo]
  have h1 := walk1_ok21 lr w8.heap.size bW L q cc hLw hcap hfit hLs
    (fun i w' => Sep w w' (pLoop lr (rc .ready none) :: pDef D :: [pOwn bW [.slice q L.length cc], pRow 4 q L.length cc (L.flatMap NdM.cells), pMany (L.flatMap NdM.rows), pOwn b5 [int (cT (f.fo.wlk [] 0) i)], pOwn b4 [int (cE (f.fo.wlk [] 0) i)]]))
    (fun _ _ => False) (fun i w1 w2 h h' => h.same h' hsz hfeet) (fun _ _ _ h _ => h.elim) (fun i w' h => ⟨h.own 2 rfl, Sep.treL h 3 4 rfl rfl⟩) ?_ w8 rfl hS
  · refine CallsR.mono h1 ?_
    rw [hW]
    rintro v w4 hor
    have hS := hor.resolve_right fun ⟨_, _, h⟩ => h
    rw [cT_all, cE_all] at hS
    refine ⟨.ready, none, by simp, by rw [← hrc]; exact hS.loopAt 0 rfl, fun w5 hl5 => aft_none ?_⟩
    replace hS := Sep.lose hS hl5
    refine sgo ?_
    refine wcdraw ?_
    refine qgo ?_
    refine QL_nil ?_
    intro w6 hf6
    replace hS := hS.grow hf6
    refine sgo ?_
    refine fp_mark (.inl rfl) (hS.noDef 0 rfl) ?_
    (first | refine fp1 (.inl rfl) rfl rfl ?_ | refine fp2 (.inl rfl) rfl rfl rfl ?_ | refine fp3 (.inl rfl) rfl rfl rfl rfl ?_ | refine fp0 (.inr rfl) rfl ?_ | refine fp0 (.inl rfl) rfl ?_ | refine fp1 (.inr rfl) rfl rfl ?_)
    exact ⟨rfl, hS.undef.frm⟩
  · subst hrc
    intro i w1 way nd h hx q2 c2 m2 w' hm2 hS2
    rw [hW] at hx
    obtain ⟨kp, hkp, hk⟩ := h.keep1
    have hS3 := hk.seq hS2
    have hlt : i < (f.fo.wlk [] 0).length := (List.getElem?_eq_some_iff.1 hx).1
    have hcT := cT_succ hx
    have hcE := cE_succ hx
    have hcl := cT_le (f.fo.wlk [] 0) i
    have hcl2 := cE_le (f.fo.wlk [] 0) i
    rw [← hm2] at hcT hcE
    have hw1 := hS2.frm.size
    refine yld_of (hS3.loopAt 3 rfl) rfl (by kernel_rfl) ?_
    obtain ⟨n, t, es, ap, ac, ks, kp2, kc⟩ := m2
    simp only [NdM.nd] at hcT hcE
    clear hm2
    refine sgo ?_
    refine wlalloc fun b7 w3 hb7 ho7 hf7 => ?_
    have hS := hS3.push (c := pOwn b7 _) hf7 ho7 (by simpa [pOwn] using hb7)
    refine sgo ?_
    refine ssta (vs := [str n, str t, .slice ap es.length ac, .slice kp2 ks.len kc]) hS 0 fun w4 hS => ?_
    replace hS : Sep w w4 (pOwn b7 [str n, str t, .slice ap es.length ac, .slice kp2 ks.len kc] :: pRow 1 q2 way.length c2 (ints way) :: pMany (NdM.rows ⟨n, t, es, ap, ac, ks, kp2, kc⟩) :: kp :: pLoop lr _ :: pDef D :: [pOwn bW [.slice q L.length cc], pRow 4 q L.length cc (L.flatMap NdM.cells), pMany (L.flatMap NdM.rows), pOwn b5 [int (cT (f.fo.wlk [] 0) i)], pOwn b4 [int (cE (f.fo.wlk [] 0) i)]]) := hS
    have hfin : ∀ {wz : World} {cz : List Plot} {vs : List Value} {y z : Plot} {st : Loop}, Sep w wz (pOwn b7 vs :: y :: z :: kp :: pLoop lr st :: cz) → ∃ N, Le N w1 wz ∧ ∀ x ∈ N, x < w8.heap.size := by
      intro wz cz vs y z st hz
      rw [hkp] at hz
      refine ⟨_, Sep.kept h hz (List.Mem.tail _ (List.Mem.tail _ (List.Mem.tail _ (List.Mem.head _)))) ?_, hfeet⟩
      have := hz.lt (List.Mem.head _) b7 (List.Mem.head _)
      omega
    refine sgo ?_
    refine ⟨hS.loopAt 4 rfl, fun w5 hl5 hL5 => ?_⟩
    obtain ⟨rb, hrb, hL5⟩ : ∃ rb : Loop, rb = _ ∧ LoopAt w5 lr rb := ⟨_, rfl, hL5⟩
    replace hS := hS.turnLoop 4 rfl hl5 hL5
    replace hS : Sep w w5 (pOwn b7 [str n, str t, .slice ap es.length ac, .slice kp2 ks.len kc] :: pRow 1 q2 way.length c2 (ints way) :: pMany (NdM.rows ⟨n, t, es, ap, ac, ks, kp2, kc⟩) :: kp :: pLoop lr rb :: pDef D :: [pOwn bW [.slice q L.length cc], pRow 4 q L.length cc (L.flatMap NdM.cells), pMany (L.flatMap NdM.rows), pOwn b5 [int (cT (f.fo.wlk [] 0) i)], pOwn b4 [int (cE (f.fo.wlk [] 0) i)]]) := hS
    refine sgo ?_
    refine wlbuild (cells := [str n, str t, .slice ap es.length ac, .slice kp2 ks.len kc]) ?_
    refine wlpure (oneText_ok n (str t) (.slice ap es.length ac) (.slice kp2 ks.len kc) _) fun w6 hf6 => ?_
    replace hS := hS.grow hf6
    have hs5 : Sg w6 (pb b5) [int (cT (f.fo.wlk [] 0) i)] := (hS.own 9 rfl).sg
    have hs4 : Sg w6 (pb b4) [int (cE (f.fo.wlk [] 0) i)] := (hS.own 10 rfl).sg
    refine sgo ?_
    (show WC _ _ _ _ _ _ _; first | refine WC_dec rfl (fun hc => ?_) (fun hc => ?_) | refine WC_cond rfl (fun hc => ?_) (fun hc => ?_))
    · have hn : n = [] := by simpa using hc
      simp [hn] at hcT hcE
      refine sgo ?_
      refine sst_int hS 9 fun w7 hS => ?_
      replace hS : Sep w w7 (pOwn b7 [str n, str t, .slice ap es.length ac, .slice kp2 ks.len kc] :: pRow 1 q2 way.length c2 (ints way) :: pMany (NdM.rows ⟨n, t, es, ap, ac, ks, kp2, kc⟩) :: kp :: pLoop lr rb :: pDef D :: [pOwn bW [.slice q L.length cc], pRow 4 q L.length cc (L.flatMap NdM.cells), pMany (L.flatMap NdM.rows), pOwn b5 [int (cT (f.fo.wlk [] 0) (i + 1))], pOwn b4 [int (cE (f.fo.wlk [] 0) (i + 1))]]) := by rw [hcT, hcE]; exact hS
      refine sgo ?_
      subst hrb
      refine rnd_normal (hS.loopAt 4 rfl) fun w9 hl9 hL9 => ?_
      replace hS := hS.turnLoop 4 rfl hl9 hL9
      obtain ⟨N, g1, g2⟩ := hfin hS
      exact ⟨N, g1, g2, (((hS.drop 0 rfl).drop 0 rfl).drop 0 rfl).drop 0 rfl⟩
    · have hn : ¬ n = [] := by simpa using hc
      simp [hn] at hcT hcE
      refine sgo ?_
      refine sst_int hS 10 fun w7 hS => ?_
      replace hS : Sep w w7 (pOwn b7 [str n, str t, .slice ap es.length ac, .slice kp2 ks.len kc] :: pRow 1 q2 way.length c2 (ints way) :: pMany (NdM.rows ⟨n, t, es, ap, ac, ks, kp2, kc⟩) :: kp :: pLoop lr rb :: pDef D :: [pOwn bW [.slice q L.length cc], pRow 4 q L.length cc (L.flatMap NdM.cells), pMany (L.flatMap NdM.rows), pOwn b5 [int (cT (f.fo.wlk [] 0) (i + 1))], pOwn b4 [int (cE (f.fo.wlk [] 0) (i + 1))]]) := by rw [hcT, hcE]; exact hS
      refine sgo ?_
      subst hrb
      refine rnd_normal (hS.loopAt 4 rfl) fun w9 hl9 hL9 => ?_
      replace hS := hS.turnLoop 4 rfl hl9 hL9
      obtain ⟨N, g1, g2⟩ := hfin hS
      exact ⟨N, g1, g2, (((hS.drop 0 rfl).drop 0 rfl).drop 0 rfl).drop 0 rfl⟩
end Go.Proofs.YtcdogceabkpnmaaDoor

/-
  Chapter 21: may trees be? dom.Check and sieveref21.May.
-/
set_option linter.unusedSimpArgs false
set_option linter.unusedVariables false
set_option linter.unnecessarySimpa false
namespace Go.Proofs.YtcdogceabkpnmaaDoor
open Go Go.Sv Go.RowKit
def Fo.isNil : Fo → Bool
  | .nil => true
  | .cons .. => false
/-- may trees be? -/
def Fo.may : Fo → Bool
  | .nil => true
  | .cons n t es ks r => (if n = [] then ((!decide (t = []) && validR t) && decide (es.length = 0)) && ks.isNil
      else (((nameR false n && decide (t = [])) && attrsR es) && ks.may) && !(voidR n && !ks.isNil)) && r.may
def ndMay (m : Nd) : Bool := if m.name = [] then ((!decide (m.text = []) && validR m.text) && decide (m.attrs.length = 0)) && m.kids.isNil
      else (((nameR false m.name && decide (m.text = [])) && attrsR m.attrs) && m.kids.may) && !(voidR m.name && !m.kids.isNil)
theorem may_of (l : List Nd) : (Fo.of l).may = l.all ndMay := by
  induction l with
  | nil => rfl
  | cons m l ih => simp only [Fo.of, Fo.may, List.all_cons, ih, ndMay]
theorem isNil_len (f : FoM) : f.fo.isNil = decide (f.len = 0) := by
  cases f with
  | nil => rfl
  | cons n t es ap ac ks kp kc r => simp [FoM.fo, Fo.isNil, FoM.len, FoM.list]
def mayT (f : FoM) (i : Nat) : Bool := (ndT f i).all ndMay
theorem mayT_all (f : FoM) : mayT f f.len = f.fo.may := by rw [mayT, ndT_all, fo_list, may_of]
theorem mayT_no {f : FoM} {i : Nat} {m : NdM} (h : f.list[i]? = some m) (hm : ndMay m.nd = false) : f.fo.may = false := by
  rw [fo_list, may_of, List.all_eq_false]
  exact ⟨m.nd, List.mem_map.2 ⟨m, List.mem_of_getElem? h, rfl⟩, by simp [hm]⟩
theorem mayT_succ {f : FoM} {i : Nat} {m : NdM} (h : f.list[i]? = some m) (hm : ndMay m.nd = true) (hi : mayT f i = true) : mayT f (i + 1) = true := by
  unfold mayT at *; rw [ndT_succ h, List.all_append, hi]; simp [hm]
theorem may_not {a b c e : Bool} {t : List UInt8} {k : Nat} (h : a = true → t = [] → b = true → c = true → (e = false ∨ k = 0) → False) : ((((a && decide (t = [])) && b) && c) && !(e && !decide (k = 0))) = false := by
  rw [Bool.eq_false_iff]
  intro h2
  simp only [Bool.and_eq_true, decide_eq_true_eq, Bool.not_eq_true', Bool.and_eq_false_iff, Bool.not_eq_false'] at h2
  obtain ⟨⟨⟨⟨h3, h4⟩, h5⟩, h6⟩, h7⟩ := h2
  exact h h3 h4 h5 h6 h7
theorem may_yes {a b c e : Bool} {t : List UInt8} {k : Nat} (h1 : a = true) (h2 : t = []) (h3 : b = true) (h4 : c = true) (h5 : e = true → k = 0) : ((((a && decide (t = [])) && b) && c) && !(e && !decide (k = 0))) = true := by
  subst h1 h2 h3 h4
  cases e
  · rfl
  · simp [h5 rfl]
theorem txt_not {b : Bool} {t : List UInt8} {j k : Nat} (h : t ≠ [] → b = true → j = 0 → k = 0 → False) : (((!decide (t = []) && b) && decide (j = 0)) && decide (k = 0)) = false := by
  rw [Bool.eq_false_iff]
  intro h2
  simp only [Bool.and_eq_true, decide_eq_true_eq, Bool.not_eq_true', decide_eq_false_iff_not] at h2
  exact h h2.1.1.1 h2.1.1.2 h2.1.2 h2.2
theorem txt_yes {b : Bool} {t : List UInt8} {j k : Nat} (h1 : t ≠ []) (h2 : b = true) (h3 : j = 0) (h4 : k = 0) : (((!decide (t = []) && b) && decide (j = 0)) && decide (k = 0)) = true := by
  simp [h1, h2, h3, h4]
theorem oneVoid_ok (n : List UInt8) (u v x : Value) (w : World) (hA : Asc w) : PureC Tryd.prog 62 #[.agg ⟨[str n, u, v, x]⟩] w (.bool (voidR n)) := by
  have hS := Sep.start w
  refine enter (l := [.agg ⟨[str n, u, v, x]⟩]) Tryd.func62 rfl Tryd.ntmps62 (by kernel_rfl) rfl ?_
  refine sgo ?_
  refine sbox (v := .agg ⟨[str n, u, v, x]⟩) hS fun b1 w1 hS => ?_
  replace hS : Sep w w1 [pOwn b1 [str n, u, v, x]] := hS
  refine sgo ?_
  refine wlpure (in0_ok n w1 (hA.frm hS.frm)) fun w2 hf2 => ?_
  replace hS := hS.grow hf2
  refine sgo ?_
  (first | refine fp1 (.inl rfl) rfl rfl ?_ | refine fp2 (.inl rfl) rfl rfl rfl ?_ | refine fp3 (.inl rfl) rfl rfl rfl rfl ?_ | refine fp0 (.inr rfl) rfl ?_ | refine fp0 (.inl rfl) rfl ?_ | refine fp1 (.inr rfl) rfl rfl ?_); refine ⟨?_, by (first | exact Frm.refl _ | assumption | exact Go.Sv.Sep.frm (by assumption) | (refine Frm.trans ?_ (by assumption); first | exact Frm.refl _ | assumption))⟩; (try simp only [realB, rv_true, Nat.reduceBEq, cond_true, cond_false, entG, real_lif, updGL])
set_option maxHeartbeats 4000000 in
theorem oneMay_ok (m : NdM) (hs : m.small) (w : World) (hA : Asc w) (hi : Im [] w m.ap (m.attrs.flatMap At.cells))
    (hkd : ∀ w', Frm w w' → PureC Tryd.prog 26 #[.slice m.kp m.kids.len m.kc] w' (int (if m.kids.fo.may then 0 else 210))) :
    PureC Tryd.prog 53 #[.agg ⟨m.cells⟩] w (.bool (ndMay m.nd)) := by
  have hnm := isNil_len m.kids
  obtain ⟨n, t, es, ap, ac, ks, kp, kc⟩ := m
  obtain ⟨h1, h2, h3, h4, h5, h6⟩ := hs
  dsimp only at hi hkd hnm h1 h2 h3 h4 h5 h6
  have hst : (Tok.mk 1 n [] es false 0 0 0).small := ⟨h1, by simp, h3, h4⟩
  have hS := Sep.start w
  refine enter (l := [.agg ⟨NdM.cells ⟨n, t, es, ap, ac, ks, kp, kc⟩⟩]) Tryd.func53 rfl Tryd.ntmps53 (by kernel_rfl) rfl ?_
  refine sgo ?_
  refine sbox (v := .agg ⟨NdM.cells ⟨n, t, es, ap, ac, ks, kp, kc⟩⟩) hS fun b1 w1 hS => ?_
  replace hS : Sep w w1 [pOwn b1 [str n, str t, .slice ap es.length ac, .slice kp ks.len kc]] := hS
  refine sgo ?_
  refine wlpure (oneText_ok n (str t) (.slice ap es.length ac) (.slice kp ks.len kc) _) fun w2 hf2 => ?_
  replace hS := hS.grow hf2
  refine sgo ?_
  by_cases hn : n = []
  · subst hn
    refine wcyes ?_ (ht := by simp)
    refine sgo ?_
    refine wls2bg (s := t) (by omega) fun q cc w3 hI hf3 => ?_
    refine wlcallgp (vals := [.slice (pb q) t.length cc]) (fun hg => valid_ok t (pb q) t.length cc rfl (hI hg).1 (by omega) [] w3 (hI hg).2.2) fun w4 hf4 => ?_
    rw [valid_eq]
    replace hS := (hS.grow hf3).grow hf4
    refine sgo ?_
    (first | refine fp1 (.inl rfl) rfl rfl ?_ | refine fp2 (.inl rfl) rfl rfl rfl ?_ | refine fp3 (.inl rfl) rfl rfl rfl rfl ?_ | refine fp0 (.inr rfl) rfl ?_ | refine fp0 (.inl rfl) rfl ?_ | refine fp1 (.inr rfl) rfl rfl ?_); refine ⟨?_, by (first | exact Frm.refl _ | assumption | exact Go.Sv.Sep.frm (by assumption) | (refine Frm.trans ?_ (by assumption); first | exact Frm.refl _ | assumption))⟩; (try simp only [realB, rv_true, Nat.reduceBEq, cond_true, cond_false, entG, real_lif, updGL])
    congr 1
    simp only [ndMay, NdM.nd, if_true, hnm, pkb_and]
    by_cases ht : t = [] <;> simp [ht, Bool.and_assoc]
  · refine wcno ?_ (ht := by simp [hn])
    refine sgo ?_
    refine wlbuild (cells := [int 1, str n, str [], .slice ap es.length ac, .bool false, int 0, int 0, int 0]) ?_
    refine salloc hS fun b3 w3 hS => ?_
    refine sgo ?_
    refine ssta (vs := [int 1, str n, str [], .slice ap es.length ac, .bool false, int 0, int 0, int 0]) hS 0 fun w4 hS => ?_
    replace hS : Sep w w4 [pOwn b3 [int 1, str n, str [], .slice ap es.length ac, .bool false, int 0, int 0, int 0], pOwn b1 [str n, str t, .slice ap es.length ac, .slice kp ks.len kc]] := hS
    refine sgo ?_
    refine wlcallgp (vals := [.agg ⟨Tok.cells ⟨1, n, [], es, false, 0, 0, 0⟩ ap ac⟩]) (fun _ => check_ok ⟨1, n, [], es, false, 0, 0, 0⟩ ap ac hst _ (hi.sep hS)) fun w5 hf5 => ?_
    replace hS := hS.grow hf5
    refine sgo ?_
    refine wlcallgp (vals := [.agg ⟨[str n, str t, .slice ap es.length ac, .slice kp ks.len kc]⟩]) (fun _ => oneVoid_ok n (str t) (.slice ap es.length ac) (.slice kp ks.len kc) _ (hA.frm hS.frm)) fun w6 hf6 => ?_
    replace hS := hS.grow hf6
    refine sgo ?_
    have hmk : mayR ⟨1, n, [], es, false, 0, 0, 0⟩ = (nameR false n && attrsR es) := by simp [mayR]
    have hmn : ndMay (NdM.nd ⟨n, t, es, ap, ac, ks, kp, kc⟩) = ((((nameR false n && decide (t = [])) && attrsR es) && ks.fo.may) && !(voidR n && !decide (ks.len = 0))) := by
      simp only [ndMay, NdM.nd, if_neg hn, hnm]
      by_cases ht : t = [] <;> simp [ht]
    rw [hmk] at *
    rw [hmn]
    (show WC _ _ _ _ _ _ _; first | refine WC_dec rfl (fun hc => ?_) (fun hc => ?_) | refine WC_cond rfl (fun hc => ?_) (fun hc => ?_))
    · refine sgo ?_
      (first | refine fp1 (.inl rfl) rfl rfl ?_ | refine fp2 (.inl rfl) rfl rfl rfl ?_ | refine fp3 (.inl rfl) rfl rfl rfl rfl ?_ | refine fp0 (.inr rfl) rfl ?_ | refine fp0 (.inl rfl) rfl ?_ | refine fp1 (.inr rfl) rfl rfl ?_); refine ⟨?_, by (first | exact Frm.refl _ | assumption | exact Go.Sv.Sep.frm (by assumption) | (refine Frm.trans ?_ (by assumption); first | exact Frm.refl _ | assumption))⟩; (try simp only [realB, rv_true, Nat.reduceBEq, cond_true, cond_false, entG, real_lif, updGL])
      congr 1
      simp only [pkb_or, pkb_and] at hc
      rw [may_not ?_]
      intro a1 a2 a3 a4 a5
      rcases a5 with a5 | a5 <;> simp [a1, a2, a3, a5] at hc
    · refine sgo ?_
      refine wlpure (hkd _ hS.frm) fun w7 hf7 => ?_
      replace hS := hS.grow hf7
      refine sgo ?_
      (first | refine fp1 (.inl rfl) rfl rfl ?_ | refine fp2 (.inl rfl) rfl rfl rfl ?_ | refine fp3 (.inl rfl) rfl rfl rfl rfl ?_ | refine fp0 (.inr rfl) rfl ?_ | refine fp0 (.inl rfl) rfl ?_ | refine fp1 (.inr rfl) rfl rfl ?_); refine ⟨?_, by (first | exact Frm.refl _ | assumption | exact Go.Sv.Sep.frm (by assumption) | (refine Frm.trans ?_ (by assumption); first | exact Frm.refl _ | assumption))⟩; (try simp only [realB, rv_true, Nat.reduceBEq, cond_true, cond_false, entG, real_lif, updGL])
      congr 1
      simp only [pkb_or, pkb_and] at hc
      cases hk1 : nameR false n <;> cases hk2 : attrsR es <;> simp [hk1, hk2] at hc
      obtain ⟨h7, h8⟩ := hc
      have h9 : (voidR n && !decide (ks.len = 0)) = false := by
        cases hv : voidR n
        · rfl
        · have := h8 hv
          simp; omega
      cases hk : ks.fo.may <;> simp [h7, h9]
set_option maxHeartbeats 4000000 in
theorem domCheck_ok : ∀ (k : Nat) (f : FoM) (p : Option Addr) (c : Nat), f.size < k → f.wt ≤ 1048576 → ∀ (w : World), Asc w → Tre w p f → PureC Tryd.prog 26 #[.slice p f.len c] w (int (if f.fo.may then 0 else 210)) := by
  intro k
  induction k with
  | zero => intro f p c hk; omega
  | succ k ih =>
    intro f p c hk hw w hA hT
    have hlw := FoM.len_wt f
    have hS := Sep.start w
    refine enter (l := [.slice p f.len c]) Tryd.func26 rfl Tryd.ntmps26 (by kernel_rfl) rfl ?_
    refine sgo ?_
    refine wcloop (X := Nat) (fun i => [(5, .slice p f.len c), (6, int f.len), (7, int i)]) (fun i wr => i ≤ f.len ∧ mayT f i = true ∧ Sep w wr []) (fun i => f.len - i) 0 ⟨rfl, rfl, rfl, trivial⟩ ⟨Nat.zero_le _, rfl, hS⟩ ?_
    clear hS
    rintro i wr ρ ⟨hil, hmt, hS⟩
    refine sgo ?_
    (show WC _ _ _ _ _ _ _; first | refine WC_dec rfl (fun hc => ?_) (fun hc => ?_) | refine WC_cond rfl (fun hc => ?_) (fun hc => ?_))
    · have hlt : i < f.len := by omega
      have hTw := hT.frm hS.frm
      have hIm := hTw.im
      obtain ⟨m, hx, hm, hseg, hfl, hps, hat, hkT⟩ := tre_at hT hlt
      have hsz := FoM.size_mem hm
      have hsm := nd_small hw hm
      have hih := fun w' (cs' : List Plot) (h : Sep w w' cs') => oneMay_ok m hsm w' (hA.frm h.frm) (hat.frm h.frm) (fun w2 h2 => ih m.kids m.kp m.kc (by omega) hsm.kids w2 (hA.frm (h.frm.trans h2)) (hkT.frm (h.frm.trans h2)))
      clear hc
      obtain ⟨n, t, es, ap, ac, ks, kp, kc⟩ := m
      refine sgo ?_
      rw [hseg]
      refine salloc hS fun b5 w5 hS => ?_
      refine sgo ?_
      refine ssta (vs := [str n, str t, .slice ap es.length ac, .slice kp ks.len kc]) hS 0 fun w6 hS => ?_
      replace hS : Sep w w6 [pOwn b5 [str n, str t, .slice ap es.length ac, .slice kp ks.len kc]] := hS
      refine sgo ?_
      refine wlbuild (cells := [str n, str t, .slice ap es.length ac, .slice kp ks.len kc]) ?_
      refine wlpure (hih _ _ hS) fun w7 hf7 => ?_
      replace hS := hS.grow hf7
      refine sgo ?_
      (show WC _ _ _ _ _ _ _; first | refine WC_dec rfl (fun hc => ?_) (fun hc => ?_) | refine WC_cond rfl (fun hc => ?_) (fun hc => ?_))
      · have hn : ndMay (NdM.nd ⟨n, t, es, ap, ac, ks, kp, kc⟩) = false := by simpa using hc
        refine sgo ?_
        (first | refine fp1 (.inl rfl) rfl rfl ?_ | refine fp2 (.inl rfl) rfl rfl rfl ?_ | refine fp3 (.inl rfl) rfl rfl rfl rfl ?_ | refine fp0 (.inr rfl) rfl ?_ | refine fp0 (.inl rfl) rfl ?_ | refine fp1 (.inr rfl) rfl rfl ?_); refine ⟨?_, by (first | exact Frm.refl _ | assumption | exact Go.Sv.Sep.frm (by assumption) | (refine Frm.trans ?_ (by assumption); first | exact Frm.refl _ | assumption))⟩; (try simp only [realB, rv_true, Nat.reduceBEq, cond_true, cond_false, entG, real_lif, updGL])
        rw [mayT_no hx hn]; rfl
      · have hn : ndMay (NdM.nd ⟨n, t, es, ap, ac, ks, kp, kc⟩) = true := by simpa using hc
        refine sgo ?_
        exact ⟨i + 1, ⟨rfl, rfl, rfl, trivial⟩, ⟨hlt, mayT_succ hx hn hmt, hS.tail⟩, (by (try dsimp only); omega)⟩
    · obtain rfl : i = f.len := by omega
      rw [mayT_all] at hmt
      refine sgo ?_
      (first | refine fp1 (.inl rfl) rfl rfl ?_ | refine fp2 (.inl rfl) rfl rfl rfl ?_ | refine fp3 (.inl rfl) rfl rfl rfl rfl ?_ | refine fp0 (.inr rfl) rfl ?_ | refine fp0 (.inl rfl) rfl ?_ | refine fp1 (.inr rfl) rfl rfl ?_); refine ⟨?_, by (first | exact Frm.refl _ | assumption | exact Go.Sv.Sep.frm (by assumption) | (refine Frm.trans ?_ (by assumption); first | exact Frm.refl _ | assumption))⟩; (try simp only [realB, rv_true, Nat.reduceBEq, cond_true, cond_false, entG, real_lif, updGL])
      rw [hmt]; rfl
set_option maxHeartbeats 4000000 in
theorem refMay21_ok : ∀ (k : Nat) (f : FoM) (p : Option Addr) (c : Nat), f.size < k → f.wt ≤ 1048576 → ∀ (w : World), Tre w p f → PureC Tryd.prog 20 #[.slice p f.len c] w (.bool f.fo.may) := by
  intro k
  induction k with
  | zero => intro f p c hk; omega
  | succ k ih =>
    intro f p c hk hw w hT
    have hlw := FoM.len_wt f
    have hS := Sep.start w
    refine enter (l := [.slice p f.len c]) Tryd.func20 rfl Tryd.ntmps20 (by kernel_rfl) rfl ?_
    refine sgo ?_
    refine wcloop (X := Nat) (fun i => [(5, .slice p f.len c), (6, int f.len), (7, int i)]) (fun i wr => i ≤ f.len ∧ mayT f i = true ∧ Sep w wr []) (fun i => f.len - i) 0 ⟨rfl, rfl, rfl, trivial⟩ ⟨Nat.zero_le _, rfl, hS⟩ ?_
    clear hS
    rintro i wr ρ ⟨hil, hmt, hS⟩
    refine sgo ?_
    (show WC _ _ _ _ _ _ _; first | refine WC_dec rfl (fun hc => ?_) (fun hc => ?_) | refine WC_cond rfl (fun hc => ?_) (fun hc => ?_))
    · have hlt : i < f.len := by omega
      have hTw := hT.frm hS.frm
      have hIm := hTw.im
      obtain ⟨m, hx, hm, hseg, hfl, hps, hat, hkT⟩ := tre_at hT hlt
      have hsz := FoM.size_mem hm
      have hsm := nd_small hw hm
      have hih := fun w' (cs' : List Plot) (h : Sep w w' cs') => ih m.kids m.kp m.kc (by omega) hsm.kids w' (hkT.frm h.frm)
      have hnm := isNil_len m.kids
      have hno := fun h => mayT_no (m := m) hx h
      have hyes := fun h => mayT_succ (m := m) hx h hmt
      obtain ⟨n, t, es, ap, ac, ks, kp, kc⟩ := m
      obtain ⟨h1, h2, h3, h4, h5, h6⟩ := hsm
      dsimp only at hih hat hnm h1 h2 h3 h4 h5 h6
      clear hc
      refine sgo ?_
      rw [hseg]
      refine salloc hS fun b5 w5 hS => ?_
      refine sgo ?_
      refine ssta (vs := [str n, str t, .slice ap es.length ac, .slice kp ks.len kc]) hS 0 fun w6 hS => ?_
      replace hS : Sep w w6 [pOwn b5 [str n, str t, .slice ap es.length ac, .slice kp ks.len kc]] := hS
      refine sgo ?_
      by_cases hn : n = []
      · subst hn
        have hmn : ndMay (NdM.nd ⟨[], t, es, ap, ac, ks, kp, kc⟩) = (((!decide (t = []) && validR t) && decide (es.length = 0)) && decide (ks.len = 0)) := by
          simp only [ndMay, NdM.nd, if_true, hnm]
          by_cases ht : t = [] <;> simp [ht]
        rw [hmn] at hno hyes
        refine wcyes ?_ (ht := by simp)
        refine sgo ?_
        refine wls2bg (s := t) (by omega) fun q cc w3 hI hf3 => ?_
        refine wlcallgp (vals := [.slice (pb q) t.length cc]) (fun hg => refValid_ok t (pb q) t.length cc rfl (hI hg).1 (by omega) w3 (hI hg).2.2) fun w4 hf4 => ?_
        replace hS := (hS.grow hf3).grow hf4
        refine sgo ?_
        (show WC _ _ _ _ _ _ _; first | refine WC_dec rfl (fun hc => ?_) (fun hc => ?_) | refine WC_cond rfl (fun hc => ?_) (fun hc => ?_))
        · simp only [pkb_or] at hc
          refine sgo ?_
          (first | refine fp1 (.inl rfl) rfl rfl ?_ | refine fp2 (.inl rfl) rfl rfl rfl ?_ | refine fp3 (.inl rfl) rfl rfl rfl rfl ?_ | refine fp0 (.inr rfl) rfl ?_ | refine fp0 (.inl rfl) rfl ?_ | refine fp1 (.inr rfl) rfl rfl ?_); refine ⟨?_, by (first | exact Frm.refl _ | assumption | exact Go.Sv.Sep.frm (by assumption) | (refine Frm.trans ?_ (by assumption); first | exact Frm.refl _ | assumption))⟩; (try simp only [realB, rv_true, Nat.reduceBEq, cond_true, cond_false, entG, real_lif, updGL])
          rw [hno (txt_not fun a1 a2 a3 a4 => by simp [a1, a2, a3, a4] at hc)]
        · simp only [pkb_or] at hc
          refine sgo ?_
          exact ⟨i + 1, ⟨rfl, rfl, rfl, trivial⟩, ⟨hlt, hyes (by
            simp only [Bool.or_eq_false_iff, decide_eq_false_iff_not, Bool.not_eq_false'] at hc
            exact txt_yes hc.1.1.1 hc.1.1.2 (by have := hc.1.2; omega) (by have := hc.2; omega)), hS.tail⟩, (by (try dsimp only); omega)⟩
      · have hmn : ndMay (NdM.nd ⟨n, t, es, ap, ac, ks, kp, kc⟩) = ((((nameR false n && decide (t = [])) && attrsR es) && ks.fo.may) && !(voidR n && !decide (ks.len = 0))) := by
          simp only [ndMay, NdM.nd, if_neg hn, hnm]
          by_cases ht : t = [] <;> simp [ht]
        rw [hmn] at hno hyes
        refine wcno ?_ (ht := by simp [hn])
        refine sgo ?_
        refine wlpure (tagName_ok n h1 _) fun w3 hf3 => ?_
        replace hS := hS.grow hf3
        refine sgo ?_
        refine wlcallgp (vals := [.slice ap es.length ac]) (fun _ => refAttrs_ok es ap es.length ac rfl h3 h4 _ (hat.sep hS)) fun w4 hf4 => ?_
        replace hS := hS.grow hf4
        refine sgo ?_
        refine wlcallgp (vals := [.slice kp ks.len kc]) (fun _ => hih _ _ hS) fun w7 hf7 => ?_
        replace hS := hS.grow hf7
        refine sgo ?_
        refine wlcallgp (vals := [str n, int 0]) (fun _ => refIn0_ok n _) fun w8 hf8 => ?_
        replace hS := hS.grow hf8
        refine sgo ?_
        (show WC _ _ _ _ _ _ _; first | refine WC_dec rfl (fun hc => ?_) (fun hc => ?_) | refine WC_cond rfl (fun hc => ?_) (fun hc => ?_))
        · simp only [pkb_or, pkb_and] at hc
          refine sgo ?_
          (first | refine fp1 (.inl rfl) rfl rfl ?_ | refine fp2 (.inl rfl) rfl rfl rfl ?_ | refine fp3 (.inl rfl) rfl rfl rfl rfl ?_ | refine fp0 (.inr rfl) rfl ?_ | refine fp0 (.inl rfl) rfl ?_ | refine fp1 (.inr rfl) rfl rfl ?_); refine ⟨?_, by (first | exact Frm.refl _ | assumption | exact Go.Sv.Sep.frm (by assumption) | (refine Frm.trans ?_ (by assumption); first | exact Frm.refl _ | assumption))⟩; (try simp only [realB, rv_true, Nat.reduceBEq, cond_true, cond_false, entG, real_lif, updGL])
          rw [hno (may_not fun a1 a2 a3 a4 a5 => by rcases a5 with a5 | a5 <;> simp [a1, a2, a3, a4, a5] at hc)]
        · simp only [pkb_or, pkb_and] at hc
          refine sgo ?_
          exact ⟨i + 1, ⟨rfl, rfl, rfl, trivial⟩, ⟨hlt, hyes (by
            simp only [Bool.or_eq_false_iff, decide_eq_false_iff_not, Bool.not_eq_false', Bool.and_eq_false_iff, Decidable.not_not] at hc
            exact may_yes hc.1.1.1.1 hc.1.1.1.2 hc.1.1.2 hc.1.2 (fun hv => by
              rcases hc.2 with h9 | h9
              · rw [hv] at h9; cases h9
              · omega)), hS.tail⟩, (by (try dsimp only); omega)⟩
    · obtain rfl : i = f.len := by omega
      rw [mayT_all] at hmt
      refine sgo ?_
      (first | refine fp1 (.inl rfl) rfl rfl ?_ | refine fp2 (.inl rfl) rfl rfl rfl ?_ | refine fp3 (.inl rfl) rfl rfl rfl rfl ?_ | refine fp0 (.inr rfl) rfl ?_ | refine fp0 (.inl rfl) rfl ?_ | refine fp1 (.inr rfl) rfl rfl ?_); refine ⟨?_, by (first | exact Frm.refl _ | assumption | exact Go.Sv.Sep.frm (by assumption) | (refine Frm.trans ?_ (by assumption); first | exact Frm.refl _ | assumption))⟩; (try simp only [realB, rv_true, Nat.reduceBEq, cond_true, cond_false, entG, real_lif, updGL])
      rw [hmt]
end Go.Proofs.YtcdogceabkpnmaaDoor

/-
  Chapter 21: sievelaw21: p, text, lives.
-/
set_option linter.unusedSimpArgs false
set_option linter.unusedVariables false
set_option linter.unnecessarySimpa false
namespace Go.Sv
open Go Go.RowKit
section
variable {P : Program} {w0 w : World} {cs : List Plot} {σ : Env} {d : Option Tmp} {ty : TypeId} {pos : String} {af : Array Edge} {g : Option (Nat × Bool)} {t e : TypeId} {x : Operand} {zv : Value} {size bytes : Nat} {vs : List Value}
theorem y_bs1g [hu : Und P t (.slice e)] [hi : Inf P e zv size bytes] (hS : Sep w0 w cs) (hx : evl σ x = .agg ⟨vs⟩) (hv : vs.length = size) (hz : zv.cells.size = size) (hsz : 0 < size) (hm : size ≤ 16777216) :
    ∃ b w', Y P σ ⟨d, .buildSlice t 1 #[(0, x)], ty, pos, af, g⟩ w (.slice (pb b) 1 1) w' ∧ Sep w0 w' (pOwn b vs :: cs) := by
  refine ⟨w.heap.size, w.alloc (.cells ⟨vs⟩ e), Y.val ?_, hS.push (frm_alloc _ _) (own_alloc _ _ _) (by simp [pOwn])⟩
  simp only [execOp, List.map_toArray, List.map_cons, List.map_nil, hx, Sem.run_bind]
  rw [run_buildSlice1 (P := P) (t := t) (e := e) hz (by simpa [Value.cells] using hv) hsz hm]
  rfl
end
theorem sb1gt {P : Program} {n : Nat} {ds : Ctx} {ops : Array Oper} {Q : Exit → Ctx → Env → World → Prop} {rest : List Oper} {σ : GE} {w0 w : World} {cs : List Plot} {d : Nat} {ty t e : TypeId} {pos : String} {af : Array Edge} {x : Operand} {zv : Value} {size bytes j dj : Nat} {want b c : Bool} {vs : List Value} [hu : Und P t (.slice e)] [hi : Inf P e zv size bytes] (hS : Sep w0 w cs)
    (h : ∀ b w', Sep w0 w' (pOwn b vs :: cs) → WL P n ds ops Q rest (real (updG σ d ⟨.slice (pb b) 1 1, true⟩)) w') (hgt : (b && (c == want)) = true)
    (hj : (ops[j]?).bind (·.dst) = some dj := by rfl) (hσ : σ dj = ⟨.bool c, b⟩ := by rfl) (hx : (b && (c == want)) = true → evl (real σ) x = .agg ⟨vs⟩ := by exact fun hgd => evG hgd) (hv : vs.length = size := by first | rfl | (simp; done)) (hz : zv.cells.size = size := by rfl) (hsz : 0 < size := by decide) (hm : size ≤ 16777216 := by decide) :
    WL P n ds ops Q (⟨some d, .buildSlice t 1 #[(0, x)], ty, pos, af, some (j, want)⟩ :: rest) (real σ) w := by
  obtain ⟨b, w2, hy, hS2⟩ := y_bs1g (P := P) (t := t) (d := some d) (ty := ty) (pos := pos) (af := af) (g := some (j, want)) hS (hx hgt) hv hz hsz hm
  exact wlgt hy (h b w2 hS2) hj hσ hgt
end Go.Sv
namespace Go.Proofs.YtcdogceabkpnmaaDoor
open Go Go.Sv Go.RowKit
def txM (s : List UInt8) : NdM := ⟨[], s, [], none, 0, .nil, none, 0⟩
def elM (n : List UInt8) (L : List NdM) (p : Option Addr) (c : Nat) : NdM := ⟨n, [], [], none, 0, .of L, p, c⟩
theorem text21_ok (s : List UInt8) (w : World) : PureC Tryd.prog 44 #[str s] w (.agg ⟨(txM s).cells⟩) := by
  have hS := Sep.start w
  refine enter (l := [str s]) Tryd.func44 rfl Tryd.ntmps44 (by kernel_rfl) rfl ?_
  refine sgo ?_
  refine salloc hS fun b w1 hS => ?_
  refine sgo ?_
  refine wlbuild (cells := (txM s).cells) ?_
  refine ssta (vs := (txM s).cells) hS 0 fun w2 hS => ?_
  replace hS : Sep w w2 [pOwn b (txM s).cells] := hS
  refine sgo ?_
  exact fpc (l := (txM s).cells) (zv := .agg ⟨[str [], str [], .slice none 0 0, .slice none 0 0]⟩) (.inl rfl) rfl rfl rfl (hS.own 0 rfl) ⟨rfl, hS.frm⟩
theorem p21_ok (p : Option Addr) (n c : Nat) (w : World) : PureC Tryd.prog 43 #[.slice p n c] w (.agg ⟨[str [112], str [], .slice none 0 0, .slice p n c]⟩) := by
  have hS := Sep.start w
  refine enter (l := [.slice p n c]) Tryd.func43 rfl Tryd.ntmps43 (by kernel_rfl) rfl ?_
  refine sgo ?_
  refine salloc hS fun b w1 hS => ?_
  refine sgo ?_
  refine wlbuild (cells := [str [112], str [], .slice none 0 0, .slice p n c]) ?_
  refine ssta (vs := [str [112], str [], .slice none 0 0, .slice p n c]) hS 0 fun w2 hS => ?_
  replace hS : Sep w w2 [pOwn b [str [112], str [], .slice none 0 0, .slice p n c]] := hS
  refine sgo ?_
  exact fpc (l := [str [112], str [], .slice none 0 0, .slice p n c]) (zv := .agg ⟨[str [], str [], .slice none 0 0, .slice none 0 0]⟩) (.inl rfl) rfl rfl rfl (hS.own 0 rfl) ⟨rfl, hS.frm⟩
theorem nds_each {w : World} {L : List NdM} (h : ∀ r ∈ L, Im [] w r.ap (r.attrs.flatMap At.cells) ∧ Tre w r.kp r.kids) : Nds w (FoM.of L) := by
  induction L with
  | nil => trivial
  | cons m L ih =>
    have h1 := h m List.mem_cons_self
    exact ⟨h1.1, h1.2.im, h1.2.nds, ih fun r hr => h r (List.mem_cons_of_mem _ hr)⟩
theorem treOwn {w : World} {b : Nat} {L : List NdM} (ho : Own w b (L.flatMap NdM.cells)) (h : ∀ r ∈ L, Im [] w r.ap (r.attrs.flatMap At.cells) ∧ Tre w r.kp r.kids) : Tre w (pb b) (FoM.of L) :=
  ⟨by rw [FoM.list_of]; exact ho.im (by simp), nds_each h⟩
theorem treNil (w : World) (p : Option Addr) : Tre w p (FoM.of []) := ⟨Im.nil _ _ _, trivial⟩
theorem at_txM (w : World) (s : List UInt8) : Im [] w (txM s).ap ((txM s).attrs.flatMap At.cells) ∧ Tre w (txM s).kp (txM s).kids := ⟨Im.nil _ _ _, treNil w _⟩
theorem at_elM {w : World} {n : List UInt8} {L : List NdM} {p : Option Addr} {c : Nat} (h : Tre w p (FoM.of L)) : Im [] w (elM n L p c).ap ((elM n L p c).attrs.flatMap At.cells) ∧ Tre w (elM n L p c).kp (elM n L p c).kids := ⟨Im.nil _ _ _, h⟩
set_option maxHeartbeats 4000000 in
theorem lives21_ok (w : World) (hA : Asc w) : PureC Tryd.prog 15 #[] w (.bool true) := by
  refine enter (l := []) Tryd.func15 rfl Tryd.ntmps15 (by kernel_rfl) rfl ?_
  have hS := Sep.start w
  refine sgo ?_
  refine wlpure (text21_ok [97] _) fun w1 hf1 => ?_
  replace hS := hS.grow hf1
  refine sgo ?_
  refine wlpure (p21_ok none 0 0 _) fun w2 hf2 => ?_
  replace hS := hS.grow hf2
  refine sgo ?_
  refine wlbsr [(txM [97]).cells, [str [112], str [], .slice none 0 0, .slice none 0 0]] 2 (fun b w3 hb ho hf => ?_) (h1 := fun v hv => by simp only [List.mem_cons, List.not_mem_nil, or_false] at hv; rcases hv with rfl | rfl <;> rfl)
  replace hS : Sep w w3 [pOwn b ([txM [97], elM [112] [] none 0].flatMap NdM.cells)] := hS.push hf ho (by simpa [pOwn] using hb)
  refine sgo ?_
  refine wlpure (p21_ok (pb b) 2 2 _) fun w4 hf4 => ?_
  replace hS := hS.grow hf4
  refine sgo ?_
  refine sb1a (vs := [str [112], str [], .slice none 0 0, .slice (pb b) 2 2]) hS fun b2 w5 hS => ?_
  replace hS : Sep w w5 [pOwn b2 ([elM [112] [txM [97], elM [112] [] none 0] (pb b) 2].flatMap NdM.cells), pOwn b ([txM [97], elM [112] [] none 0].flatMap NdM.cells)] := hS
  refine sgo ?_
  have hT1 : Tre w5 (pb b2) (FoM.of [elM [112] [txM [97], elM [112] [] none 0] (pb b) 2]) := treOwn (hS.own 0 rfl) fun r hr => by
    rw [List.mem_singleton.1 hr]
    refine at_elM (treOwn (hS.own 1 rfl) fun r hr => ?_)
    simp only [List.mem_cons, List.not_mem_nil, or_false] at hr
    rcases hr with rfl | rfl
    · exact at_txM _ _
    · exact at_elM (treNil _ _)
  refine wlpure (domCount_ok (FoM.of [elM [112] [txM [97], elM [112] [] none 0] (pb b) 2]) (pb b2) 1 (by simp [FoM.of, FoM.wt, elM, txM]) w5 hT1) fun w6 hf6 => ?_
  replace hS := (hS.grow hf6).empty
  rw [show (FoM.of [elM [112] [txM [97], elM [112] [] none 0] (pb b) 2]).fo.elems = 2 from rfl, show (FoM.of [elM [112] [txM [97], elM [112] [] none 0] (pb b) 2]).fo.texts = 1 from rfl]
  refine sgo ?_
  refine wlpure (text21_ok [120] _) fun w7 hf7 => ?_
  replace hS := hS.grow hf7
  refine sgo ?_
  refine sb1a (vs := (txM [120]).cells) hS fun b3 w8 hS => ?_
  refine sgo ?_
  refine wlpure (p21_ok (pb b3) 1 1 _) fun w9 hf9 => ?_
  replace hS := hS.grow hf9
  refine sgo ?_
  refine sb1a (vs := [str [112], str [], .slice none 0 0, .slice (pb b3) 1 1]) hS fun b4 w10 hS => ?_
  refine sgo ?_
  refine wlpure (p21_ok (pb b4) 1 1 _) fun w11 hf11 => ?_
  replace hS := hS.grow hf11
  refine sgo ?_
  refine sb1a (vs := [str [112], str [], .slice none 0 0, .slice (pb b4) 1 1]) hS fun b5 w12 hS => ?_
  replace hS : Sep w w12 [pOwn b5 ([elM [112] [elM [112] [txM [120]] (pb b3) 1] (pb b4) 1].flatMap NdM.cells), pOwn b4 ([elM [112] [txM [120]] (pb b3) 1].flatMap NdM.cells), pOwn b3 ([txM [120]].flatMap NdM.cells)] := hS
  refine sgo ?_
  have hT2 : Tre w12 (pb b5) (FoM.of [elM [112] [elM [112] [txM [120]] (pb b3) 1] (pb b4) 1]) := treOwn (hS.own 0 rfl) fun r hr => by
    rw [List.mem_singleton.1 hr]
    refine at_elM (treOwn (hS.own 1 rfl) fun r hr => ?_)
    rw [List.mem_singleton.1 hr]
    refine at_elM (treOwn (hS.own 2 rfl) fun r hr => ?_)
    rw [List.mem_singleton.1 hr]
    exact at_txM _ _
  refine wlpure (domDepth_ok ((FoM.of [elM [112] [elM [112] [txM [120]] (pb b3) 1] (pb b4) 1]).size + 1) (FoM.of [elM [112] [elM [112] [txM [120]] (pb b3) 1] (pb b4) 1]) (pb b5) 1 (Nat.lt_succ_self _) (by simp [FoM.of, FoM.wt, elM, txM]) w12 hT2) fun w13 hf13 => ?_
  replace hS := (hS.grow hf13).empty
  rw [show (FoM.of [elM [112] [elM [112] [txM [120]] (pb b3) 1] (pb b4) 1]).fo.depth = 2 from rfl]
  refine sgo ?_
  refine wlcallgp (vals := [str [120]]) (fun _ => text21_ok [120] _) fun w14 hf14 => ?_
  replace hS := hS.grow hf14
  refine sb1gt (vs := (txM [120]).cells) hS (fun b6 w15 hS => ?_) ?_
  rotate_left
  · simp [pkb]
  refine wlgt (y_build (cells := [str [98, 114], str [], .slice none 0 0, .slice (pb b6) 1 1]) (by rw [bm2 (v := str [98, 114]) (u := .slice (pb b6) 1 1) rfl rfl]; simp [fillL, setSeg, Value.cells] <;> rfl)) ?_ (hgt := ?_)
  rotate_left
  · simp [pkb]
  refine sb1gt (vs := [str [98, 114], str [], .slice none 0 0, .slice (pb b6) 1 1]) hS (fun b7 w16 hS => ?_) ?_
  rotate_left
  · simp [pkb]
  replace hS : Sep w w16 [pOwn b7 ([elM [98, 114] [txM [120]] (pb b6) 1].flatMap NdM.cells), pOwn b6 ([txM [120]].flatMap NdM.cells)] := hS
  have hT3 : Tre w16 (pb b7) (FoM.of [elM [98, 114] [txM [120]] (pb b6) 1]) := treOwn (hS.own 0 rfl) fun r hr => by
    rw [List.mem_singleton.1 hr]
    refine at_elM (treOwn (hS.own 1 rfl) fun r hr => ?_)
    rw [List.mem_singleton.1 hr]
    exact at_txM _ _
  have hC := domCheck_ok ((FoM.of [elM [98, 114] [txM [120]] (pb b6) 1]).size + 1) (FoM.of [elM [98, 114] [txM [120]] (pb b6) 1]) (pb b7) 1 (Nat.lt_succ_self _) (by simp [FoM.of, FoM.wt, elM, txM]) w16 (hA.frm hS.frm) hT3
  rw [show (FoM.of [elM [98, 114] [txM [120]] (pb b6) 1]).fo.may = false by
    rw [show (FoM.of [elM [98, 114] [txM [120]] (pb b6) 1]).fo = .cons [98, 114] [] [] (.cons [] [120] [] .nil .nil) .nil from rfl]
    decide +kernel] at hC
  refine wlcallgp (vals := [.slice (pb b7) 1 1]) (fun _ => hC) fun w17 hf17 => ?_
  replace hS := hS.grow hf17
  refine sgo ?_
  (first | refine fp1 (.inl rfl) rfl rfl ?_ | refine fp2 (.inl rfl) rfl rfl rfl ?_ | refine fp3 (.inl rfl) rfl rfl rfl rfl ?_ | refine fp0 (.inr rfl) rfl ?_ | refine fp0 (.inl rfl) rfl ?_ | refine fp1 (.inr rfl) rfl rfl ?_); refine ⟨?_, by (first | exact Frm.refl _ | assumption | exact Go.Sv.Sep.frm (by assumption) | (refine Frm.trans ?_ (by assumption); first | exact Frm.refl _ | assumption))⟩; (try simp only [realB, rv_true, Nat.reduceBEq, cond_true, cond_false, entG, real_lif, updGL])
  rfl
end Go.Proofs.YtcdogceabkpnmaaDoor

/-
  Chapter 21: DomAsks walked.
-/
set_option linter.unusedSimpArgs false
set_option linter.unusedVariables false
set_option linter.unnecessarySimpa false
namespace Go.Proofs.YtcdogceabkpnmaaDoor
open Go Go.Sv Go.RowKit
set_option maxHeartbeats 4000000 in
theorem domAsks_ok (f g : FoM) (p q : Option Addr) (c d : Nat) (hw : f.wt ≤ 1048576) (hw2 : g.wt ≤ 1048576) (w : World) (hA : Asc w) (hT : Tre w p f) (hT2 : Tre w q g) : PureC Tryd.prog 6 #[.slice p f.len c, .slice q g.len d] w (.bool true) := by
  have hS := Sep.start w
  have hcw := cnt_wt f
  have hdw := depth_wt f
  have htw := txt_wt f
  refine enter (l := [.slice p f.len c, .slice q g.len d]) Tryd.func6 rfl Tryd.ntmps6 (by kernel_rfl) rfl ?_
  refine sgo ?_
  refine wlpure (domCount_ok f p c hw w hT) fun w1 hf1 => ?_
  replace hS := hS.grow hf1
  refine sgo ?_
  refine wlpure (refCount_ok (f.size + 1) f p c (Nat.lt_succ_self _) hw _ (hT.frm hS.frm)) fun w2 hf2 => ?_
  replace hS := hS.grow hf2
  refine sgo ?_
  refine wlpure (domCheck_ok (f.size + 1) f p c (Nat.lt_succ_self _) hw _ (hA.frm hS.frm) (hT.frm hS.frm)) fun w3 hf3 => ?_
  replace hS := hS.grow hf3
  refine sgo ?_
  refine wlpure (refMay21_ok (f.size + 1) f p c (Nat.lt_succ_self _) hw _ (hT.frm hS.frm)) fun w4 hf4 => ?_
  replace hS := hS.grow hf4
  refine sgo ?_
  refine wlcallgp (vals := [.slice p f.len c, .slice q g.len d]) (fun _ => domEqual_ok (f.size + 1) f g p q c d (Nat.lt_succ_self _) hw hw2 _ (hT.frm hS.frm) (hT2.frm hS.frm)) fun w5 hf5 => ?_
  replace hS := hS.grow hf5
  refine sgo ?_
  refine wlcallgp (vals := [.slice p f.len c, .slice q g.len d]) (fun _ => refEqual21_ok (f.size + 1) f g p q c d (Nat.lt_succ_self _) hw hw2 _ (hT.frm hS.frm) (hT2.frm hS.frm)) fun w6 hf6 => ?_
  replace hS := hS.grow hf6
  refine sgo ?_
  refine wlcallgp (vals := [.slice p f.len c, .slice p f.len c]) (fun _ => domEqual_ok (f.size + 1) f f p p c c (Nat.lt_succ_self _) hw hw _ (hT.frm hS.frm) (hT.frm hS.frm)) fun w7 hf7 => ?_
  replace hS := hS.grow hf7
  refine sgo ?_
  refine wcno ?_ (ht := by cases f.fo.may <;> simp [pkb])
  refine sgo ?_
  refine wlpure (domCheck_ok (f.size + 1) f p c (Nat.lt_succ_self _) hw _ (hA.frm hS.frm) (hT.frm hS.frm)) fun w8 hf8 => ?_
  replace hS := hS.grow hf8
  refine sgo ?_
  refine wcno ?_ (ht := by cases f.fo.may <;> simp [pkb])
  refine sgo ?_
  refine wlpure (domDepth_ok (f.size + 1) f p c (Nat.lt_succ_self _) hw _ (hT.frm hS.frm)) fun w9 hf9 => ?_
  replace hS := hS.grow hf9
  refine sgo ?_
  refine wlpure (refDepth_ok (f.size + 1) f p c (Nat.lt_succ_self _) hw _ (hT.frm hS.frm)) fun w10 hf10 => ?_
  replace hS := hS.grow hf10
  refine sgo ?_
  refine wlcallgp (vals := [.slice p f.len c]) (fun _ => domText_ok f p c hw _ (hT.frm hS.frm)) fun w11 hf11 => ?_
  replace hS := hS.grow hf11
  refine sgo ?_
  refine wlcallgp (vals := [.slice p f.len c]) (fun _ => refText_ok (f.size + 1) f p c (Nat.lt_succ_self _) hw _ (hT.frm hS.frm)) fun w12 hf12 => ?_
  replace hS := hS.grow hf12
  refine sgo ?_
  refine wlcallgp (vals := []) (fun _ => lives21_ok _ (hA.frm hS.frm)) (fun w13 hf13 => ?_) (ha := fun _ => rfl)
  replace hS := hS.grow hf13
  refine sgo ?_
  (first | refine fp1 (.inl rfl) rfl rfl ?_ | refine fp2 (.inl rfl) rfl rfl rfl ?_ | refine fp3 (.inl rfl) rfl rfl rfl rfl ?_ | refine fp0 (.inr rfl) rfl ?_ | refine fp0 (.inl rfl) rfl ?_ | refine fp1 (.inr rfl) rfl rfl ?_); refine ⟨?_, by (first | exact Frm.refl _ | assumption | exact Go.Sv.Sep.frm (by assumption) | (refine Frm.trans ?_ (by assumption); first | exact Frm.refl _ | assumption))⟩; (try simp only [realB, rv_true, Nat.reduceBEq, cond_true, cond_false, entG, real_lif, updGL])
  simp [pkb]
end Go.Proofs.YtcdogceabkpnmaaDoor

/-
  From a frame to what a row asks behind the call: nothing that was there has turned (new blocks may be frozen).
-/
set_option linter.unusedSimpArgs false
set_option linter.unusedVariables false
set_option linter.unnecessarySimpa false
namespace Go.ChangeShapes
section
variable {H : Type} {enc : TypeId × Value → H} {P : Program}
theorem post_frm {f : Func} {s : ChangeSpec} {apart fresh handsOn again : Bool} {W W' : World} {args : Array Value} {v : Value} {ds gs : List (DataW H)} {before pa pv : List MemPlace}
    (hW : DataW.Whole enc P f.params.toList s.vars apart W args.toList ds gs before)
    (hres : ∀ (b : Nat) (sp : Nat → Bool) (hd : Bool), DataW.TrodAll enc P W' b sp hd f.resultTypes.toList (v.resultList f.resultTypes.size) (s.fn H (ds ++ gs)).results [])
    (hargs : ∀ sp : Nat → Bool, (∀ p ∈ before, sp p.block = true) → DataW.TrodAll enc P W' 0 sp true f.params.toList args.toList (s.fn H (ds ++ gs)).args pa)
    (hvars : ∀ sp : Nat → Bool, (∀ p ∈ before, sp p.block = true) → DataW.TrodVars enc P W' sp s.vars (s.fn H (ds ++ gs)).vars pv)
    (hps : before = pa ++ pv) (hk : Sv.Frm W W')
    (hok : ∀ (j : Nat) (t : TypeId) (r : Value), f.resultTypes[j]? = some t → (v.resultList f.resultTypes.size)[j]? = some r → Value.okWide P W' .any 0 t r) :
    s.post enc P f apart fresh handsOn again W args v W' := by
  have hold : ∀ p ∈ before, (fun b => decide (b < W.heap.size)) p.block = true := fun p hp => by simpa using hW.lt p hp
  refine ⟨ds, gs, before, [], pa, pv, hW, hres _ _ _, hargs _ hold, hvars _ hold, World.keptBut_mono (fun p hp => ⟨hp, ?_⟩) (RowKit.Below.frame hk (· ∈ before)), fun _ => ?_⟩
  · rw [hps, List.mem_append] at hp
    exact Or.inr hp
  · have hlt := hW.lt
    obtain ⟨_, _, _, _, _, hz, hn⟩ := hW
    refine ⟨hok, _, _, ([] ++ pa) ++ pv, ⟨[] ++ pa, pv, trodAll_append (hargs _ (fun _ _ => rfl)) (hres _ _ _), hvars _ (fun _ _ => rfl), rfl, ?_, ?_⟩, ?_⟩
    · intro b off hp
      have hp' : (.cell b off : MemPlace) ∈ before := by rw [hps]; simpa using hp
      rw [RowKit.Below.frozen hk (hlt _ hp')]
      exact hz b off hp'
    · intro ha
      have := hn ha
      rw [hps] at this
      simpa using this
    · intro p hp _
      rw [hps]
      simpa using hp
end
end Go.ChangeShapes

/-
  From a reading of the arguments to what lies in memory; and back: a law leaves the arguments as they were.
-/
set_option linter.unusedSimpArgs false
set_option linter.unusedVariables false
set_option linter.unnecessarySimpa false
namespace Go.Sv
open Go Go.RowKit Go.ChangeShapes Go.WideShapes
theorem cell_lt {w : World} {a : Addr} {v : Value} (h : w.cell? a = some v) : a.block < w.heap.size := by
  rcases Nat.lt_or_ge a.block w.heap.size with h1 | h1
  · exact h1
  · have : w.heap[a.block]? = none := Array.getElem?_eq_none h1
    simp [World.cell?, this] at h
theorem seg_app {w : World} {a : Addr} {l l' : List Value} (h : seg w a l) (h' : seg w (a.add l.length) l') : seg w a (l ++ l') := by
  intro i hi
  rcases Nat.lt_or_ge i l.length with h1 | h1
  · rw [h i h1, List.getElem?_append_left h1]
  · have := h' (i - l.length) (by simp at hi; omega)
    rw [add_add, show l.length + (i - l.length) = i by omega] at this
    rw [this, List.getElem?_append_right h1]
theorem seg_range {w : World} {a : Addr} {k : Nat} (f : Nat → List Value) : ∀ n : Nat, (∀ i, i < n → (f i).length = k ∧ seg w (a.add (i * k)) (f i)) → seg w a ((List.range n).flatMap f) ∧ ((List.range n).flatMap f).length = n * k
  | 0, _ => ⟨fun i hi => by simp at hi, by simp⟩
  | n + 1, h => by
    obtain ⟨h1, h2⟩ := seg_range f n fun i hi => h i (by omega)
    obtain ⟨h3, h4⟩ := h n (by omega)
    rw [List.range_succ, List.flatMap_append]
    simp only [List.flatMap_cons, List.flatMap_nil, List.append_nil]
    refine ⟨seg_app h1 (by rw [h2]; exact h4), ?_⟩
    rw [List.length_append, h2, h3, Nat.succ_mul]
/-- a law's ending: it answered true, and left all as it was -/
theorem trodAll_frm {H : Type} {enc : TypeId × Value → H} {P : Program} (hl : laidOutB P = true) {W W' : World} (hf : Sv.Frm W W') {sp : Nat → Bool} : ∀ {ts : List TypeId} {vs : List Value} {ds : List (DataW H)} {ps : List MemPlace},
    (∀ t ∈ ts, P.readableRec t = true ∧ t < P.types.size) → DataW.TrodAll enc P W 0 (fun _ => true) true ts vs ds ps → (∀ p ∈ ps, p.block < W.heap.size) → (∀ p ∈ ps, sp p.block = true) → DataW.TrodAll enc P W' 0 sp true ts vs ds ps
  | [], [], [], _, _, h, _, _ => h
  | t :: ts, v :: vs, d :: ds, _, ht, ⟨p, q, h1, h2, e⟩, hlt, hs => by
    subst e
    refine ⟨p, q, ?_, ?_, rfl⟩
    · obtain ⟨hr, hrow⟩ := ht t List.mem_cons_self
      exact WideElems.Trod_stays hl hr hrow h1 (fun x hx => RowKit.Below.same hf (hlt x (List.mem_append_left _ hx))) fun x hx => hs x (List.mem_append_left _ hx)
    · exact trodAll_frm hl hf (fun t ht' => ht t (List.mem_cons_of_mem _ ht')) h2 (fun x hx => hlt x (List.mem_append_right _ hx)) fun x hx => hs x (List.mem_append_right _ hx)
theorem law_ends {H : Type} {enc : TypeId × Value → H} {P : Program} {f : Func} {s : ChangeSpec} {W W' : World} {args : Array Value} {ds gs : List (DataW H)} {before : List MemPlace} {tb : TypeId}
    (hl : laidOutB P = true) (hT : ∀ t ∈ f.params.toList, P.readableRec t = true ∧ t < P.types.size) (hv : s.vars = []) (hrt : f.resultTypes = #[tb]) (hb : P.underlying tb = some .bool)
    (hW : DataW.Whole enc P f.params.toList s.vars false W args.toList ds gs before) (hfn : s.fn H (ds ++ gs) = { results := [.lit (.bool true)], args := ds ++ gs }) (hg : Frm W W') :
    s.post enc P f false true false false W args (.bool true) W' := by
  have hW' := hW
  have hlt := hW.lt
  obtain ⟨p, q, hA, hV, rfl, _, _⟩ := hW
  rw [hv] at hV
  obtain ⟨rfl, rfl⟩ := trodVars_none hV
  have hrl : (Value.bool true).resultList f.resultTypes.size = [.bool true] := by rw [hrt]; rfl
  simp only [List.append_nil] at hlt hfn
  refine post_frm (pa := p) (pv := []) hW' (fun _ _ _ => ?_) (fun sp hsp => ?_) (fun _ _ => ?_) rfl hg (ok_one hrt rfl (okWide_bool_mk hb _))
  · rw [hrt]
    simp only [List.append_nil, hfn]
    exact trodAll_cons_mk (shut_bool hb _) trodAll_mk0
  · simp only [List.append_nil, hfn]
    exact trodAll_frm hl hg hT hA hlt (fun x hx => hsp x (by simpa using hx))
  · simp only [List.append_nil, hfn, hv]
    rfl
end Go.Sv
namespace Go.Proofs.YtcdogceabkpnmaaDoor
open Go Go.Sv Go.RowKit Go.ChangeShapes Go.WideShapes Go.Deep

theorem laidOut : laidOutB Tryd.prog = true := by kernel_rfl
theorem own : ownKnob Tryd.prog.godebug = none := by kernel_rfl

section
variable {H : Type} {P : Program} {enc : TypeId × Value → H} {w : World} {base : Nat} {spare : Nat → Bool} {held : Bool}
theorem bulkAll_eq : ∀ l : List (DataW H), Rows.uptoBulkAll l = (l.map Rows.uptoBulk).sum
  | [] => by simp [Rows.uptoBulkAll]
  | d :: l => by simp only [Rows.uptoBulkAll, List.map_cons, List.sum_cons, bulkAll_eq l]
theorem bulk_slice (es rs : List (DataW H)) : Rows.uptoBulk (.slice es rs) = (es.map Rows.uptoBulk).sum + (rs.map Rows.uptoBulk).sum + 1 := by simp only [Rows.uptoBulk, bulkAll_eq]
theorem bulk_agg (es : List (DataW H)) : Rows.uptoBulk (.agg es) = (es.map Rows.uptoBulk).sum + 1 := by simp only [Rows.uptoBulk, bulkAll_eq]
theorem bulk_nil : Rows.uptoBulk (.nil : DataW H) = 1 := by simp only [Rows.uptoBulk]
theorem bulk_str (l : List UInt8) : Rows.uptoBulk (.lit (.string l) : DataW H) = l.length + 1 := by simp only [Rows.uptoBulk]
theorem bulk_int (k : IntKind) (n : Int) : Rows.uptoBulk (.lit (.int k n) : DataW H) = 1 := by simp only [Rows.uptoBulk]
/-- a slice of records: what they are, where they lie, and what they hold together -/
theorem open_recs {t e : TypeId} {fuel : Nat} {cs : List Value} {x : DataW H × List MemPlace} {α : Type} (cells : α → List Value) (wt : α → Nat) (Q : α → Prop) (ht : P.underlying t = some (.slice e))
    (h : DataW.trod enc P w base spare held fuel t cs = some x)
    (hrec : ∀ k cs' y, cs'.length = P.cellsOf e → DataW.trod enc P w base spare held k e cs' = some y → ∃ r, cs' = cells r ∧ Q r ∧ wt r ≤ Rows.uptoBulk y.1) :
    ∃ (p : Option Addr) (c : Nat) (rs : List α), cs = [.slice p rs.length c] ∧ rs.length ≤ c ∧ c ≤ maxLen ∧ Im [] w p (rs.flatMap cells) ∧ (∀ r ∈ rs, Q r) ∧ (rs.map wt).sum + 1 ≤ Rows.uptoBulk x.1 := by
  rcases open_slice ht h with ⟨rfl, rfl⟩ | ⟨a, len, cap, m, n, D, Pl, rfl, _, hl, hm, hmm, rfl, hi⟩
  · exact ⟨none, 0, [], rfl, Nat.le_refl _, Nat.zero_le _, .inl rfl, by simp, by simp [bulk_nil]⟩
  · have hlm : len ≤ m := by rw [hmm]; split <;> omega
    have key : ∀ n : Nat, n ≤ len → ∃ rs : List α, rs.length = n ∧ rs.flatMap cells = (List.range n).flatMap (fun i => (w.cells? base (a.add (i * P.cellsOf e)) (P.cellsOf e)).getD []) ∧ (∀ r ∈ rs, Q r) ∧ (rs.map wt).sum ≤ ((List.range n).map fun i => Rows.uptoBulk (D i)).sum := by
      intro n
      induction n with
      | zero => intro _; exact ⟨[], rfl, rfl, by simp, by simp⟩
      | succ n ih =>
        intro hn
        obtain ⟨rs, h1, h2, h3, h4⟩ := ih (by omega)
        obtain ⟨cs', h5, h6⟩ := hi n (by omega)
        obtain ⟨_, hcl, _⟩ := World.cells?_some h5
        obtain ⟨r, h7, h8, h9⟩ := hrec _ _ _ hcl h6
        refine ⟨rs ++ [r], by simp [h1], ?_, ?_, ?_⟩
        · rw [List.range_succ, List.flatMap_append, List.flatMap_append, h2]
          simp [h5, h7]
        · intro x hx
          rcases List.mem_append.1 hx with hx | hx
          · exact h3 x hx
          · rw [List.mem_singleton.1 hx]; exact h8
        · rw [List.range_succ, List.map_append, List.map_append, List.sum_append, List.sum_append]
          simp only [List.map_cons, List.map_nil, List.sum_cons, List.sum_nil]
          dsimp only at h9
          omega
    obtain ⟨rs, h1, h2, h3, h4⟩ := key len (Nat.le_refl _)
    refine ⟨some a, cap, rs, by rw [h1], by omega, hm, ?_, h3, ?_⟩
    · rw [h2]
      have hsr := seg_range (w := w) (a := a) (k := P.cellsOf e) (fun i => (w.cells? base (a.add (i * P.cellsOf e)) (P.cellsOf e)).getD []) len (fun i hil => by
        obtain ⟨cs', h5, _⟩ := hi i (by omega)
        obtain ⟨_, hcl, hat⟩ := World.cells?_some h5
        rw [h5]
        exact ⟨hcl, fun j hj => hat j (by simpa [hcl] using hj)⟩)
      generalize (List.range len).flatMap (fun i => (w.cells? base (a.add (i * P.cellsOf e)) (P.cellsOf e)).getD []) = L at *
      cases L with
      | nil => exact .inl rfl
      | cons v L =>
        refine .inr ⟨a, rfl, hsr.1, ?_, by simp⟩
        have := hsr.1 0 (by simp)
        have h0 : w.cell? (a.add 0) = some v := this
        have := cell_lt h0
        rwa [add_block] at this
    · rw [bulk_slice, List.map_map]
      have : ((List.range len).map (Rows.uptoBulk ∘ D)).sum = ((List.range len).map fun i => Rows.uptoBulk (D i)).sum := rfl
      omega
theorem str_of (s : ByteArray) : Value.string s = str s.data.toList := by cases s; rfl
/-- a cell that is a text -/
theorem open_strc {t : TypeId} {fuel : Nat} {cs : List Value} {x : DataW H × List MemPlace} (ht : P.underlying t = some .string) (h : DataW.trod enc P w base spare held fuel t cs = some x) : ∃ l : List UInt8, cs = [str l] ∧ Rows.uptoBulk x.1 = l.length + 1 := by
  obtain ⟨s, rfl, rfl, _⟩ := DataW.trod_string ht h
  exact ⟨s.data.toList, by rw [str_of], bulk_str _⟩
theorem open_intc {t : TypeId} {k : IntKind} {fuel : Nat} {cs : List Value} {x : DataW H × List MemPlace} (ht : P.underlying t = some (.int k)) (h : DataW.trod enc P w base spare held fuel t cs = some x) : ∃ n : Int, cs = [.int k n] ∧ k.min ≤ n ∧ n ≤ k.max ∧ Rows.uptoBulk x.1 = 1 := by
  obtain ⟨n, rfl, rfl, hw⟩ := DataW.trod_int ht h
  simp only [Lit.wf, IntKind.has, Bool.and_eq_true, decide_eq_true_eq] at hw
  exact ⟨n, rfl, hw.1, hw.2, bulk_int _ _⟩
theorem small_le {ds : List (DataW H)} (hk : Rows.uptoSmall H ds = true) : (ds.map Rows.uptoBulk).sum ≤ 1048576 := by
  have := of_decide_eq_true hk
  rwa [bulkAll_eq] at this
end
end Go.Proofs.YtcdogceabkpnmaaDoor

/-
  Readings of attributes: what lies in memory.
-/
set_option linter.unusedSimpArgs false
set_option linter.unusedVariables false
set_option linter.unnecessarySimpa false
namespace Go.Proofs.YtcdogceabkpnmaaDoor
open Go Go.Sv Go.RowKit Go.ChangeShapes Go.WideShapes Go.Deep

theorem c_str : Tryd.prog.cellsOf 9 = 1 := by kernel_rfl
theorem c_attrs : Tryd.prog.cellsOf 31 = 1 := by kernel_rfl
theorem c_attr : Tryd.prog.cellsOf 53 = 2 := by kernel_rfl
section
variable {H : Type} {enc : TypeId × Value → H} {w : World} {base : Nat} {spare : Nat → Bool} {held : Bool}
set_option maxRecDepth 100000 in
theorem open_at {fuel : Nat} {cs : List Value} {x : DataW H × List MemPlace} (h : DataW.trod enc Tryd.prog w base spare held fuel 53 cs = some x) : ∃ r : At, cs = r.cells ∧ True ∧ r.wt ≤ Rows.uptoBulk x.1 := by
  obtain ⟨xs, n, _, rfl, hl, hlen, hf⟩ := DataW.trod_struct Tryd.underlying53 h
  rw [c_attr] at hl
  have f0 := hf 0 _ rfl
  have f1 := hf 1 _ rfl
  clear hf h
  match cs, hl with
  | [c0, c1], _ =>
    match xs, hlen with
    | [y0, y1], _ =>
      simp only [c_str, List.drop_zero, List.drop_succ_cons, List.take_succ_cons, List.take_zero, List.getElem?_cons_zero, List.getElem?_cons_succ] at f0 f1
      obtain ⟨l0, e0, b0⟩ := open_strc Tryd.underlying9 f0
      obtain ⟨l1, e1, b1⟩ := open_strc Tryd.underlying9 f1
      injection e0 with e0
      injection e1 with e1
      subst e0 e1
      refine ⟨⟨l0, l1⟩, rfl, trivial, ?_⟩
      rw [bulk_agg]
      simp only [List.map_cons, List.map_nil, List.sum_cons, List.sum_nil, b0, b1, At.wt]
      omega
end
end Go.Proofs.YtcdogceabkpnmaaDoor

/-
  Readings of events: what lies in memory.
-/
set_option linter.unusedSimpArgs false
set_option linter.unusedVariables false
set_option linter.unnecessarySimpa false
namespace Go.Proofs.YtcdogceabkpnmaaDoor
open Go Go.Sv Go.RowKit Go.ChangeShapes Go.WideShapes Go.Deep
section
variable {H : Type} {enc : TypeId × Value → H} {w : World} {base : Nat} {spare : Nat → Bool} {held : Bool}
end
end Go.Proofs.YtcdogceabkpnmaaDoor

