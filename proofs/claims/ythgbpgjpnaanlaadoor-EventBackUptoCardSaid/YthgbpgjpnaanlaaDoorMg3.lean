/-
  Our texts SvMap, SvTokC, SvTokD, SvBld, SvStr, SvBs, SvRune, SvDec, SvRange, Shelf, SvQuote, SvFp, SvTokE, SvTokF, SvTokG, SvLives07, SvTokH, SvDraw, SvDraw2, SvRowS, joined.
-/
import Derived.Test.YthgbpgjpnaanlaaDoorMg2
import Derived.MapKept
import Derived.Lib.Builder
import Derived.Lib.AppendStr
import Derived.Laws.Externs
import Derived.Shelf.Strings.Builder1
import Derived.Shelf.Strings.Builder2
import Derived.Shelf.Strings.OnBuilder
import Derived.Shelf.Small.Wraps
import Derived.Shelf.Strings.BuilderF
import Derived.Shelf.Strings.BuilderK
import Derived.Shelf.Strings.BuilderRune
import Derived.Shelf.Utf8.AppendRune
import Derived.Shelf.Utf8.AppendRunePlain
import Derived.Shelf.Utf8.RuneCount
import Derived.Shelf.Strings.Builder2Cap
import Derived.Shelf.Strings.Search1
import Derived.Shelf.Strings.Search2
import Derived.Shelf.Strings.Search3
import Derived.Shelf.Strings.Cut
import Derived.Shelf.Strings.Count
import Derived.Shelf.LaysM
import Derived.Shelf.Strings.Shaped
import Derived.Shelf.Strings.Prefix
import Derived.Shelf.Strings.Split
import Derived.Shelf.Strings.Fields
import Derived.Shelf.Strings.SplitShaped
import Derived.Shelf.Unicode.Latin
import Derived.Shelf.Unicode.Decode
import Derived.Shelf.Strings.RuneCount
import Derived.Shelf.Strings.Explode
import Derived.Shelf.Unicode.DecodeSlow
import Derived.Shelf.Unicode.DecodeAny
import Derived.Shelf.Unicode.Is16White
import Derived.Shelf.Unicode.IsSpaceAny
import Derived.Shelf.Unicode.Is16WhiteD
import Derived.Shelf.Unicode.IsSpaceAnyD
import Derived.Shelf.Strings.FieldsAny
import Derived.Shelf.Strings.FieldsFuncAny
import Derived.Shelf.Unicode.Is16Any
import Derived.Shelf.Unicode.Is32Any
import Derived.Shelf.Unicode.ExclAny
import Derived.Shelf.Strings.FieldsFuncGrows
import Derived.Test.YthgbpgjpnaanlaaDoorProg
/-
  Maps with keys that are strings; lists of records in cells.
-/
set_option linter.unusedSimpArgs false
set_option linter.unusedVariables false
set_option linter.unnecessarySimpa false
namespace Go.Sv
open Go Go.RowKit

/-! ## Lists of records -/
section
variable {α : Type} {f : α → List Value} {k : Nat}
theorem fm_len (h : ∀ x, (f x).length = k) (l : List α) : (l.flatMap f).length = l.length * k := by
  induction l with
  | nil => simp
  | cons x l ih => simp [List.flatMap_cons, ih, h, Nat.add_mul]; omega
theorem fm_get (h : ∀ x, (f x).length = k) (l : List α) : ∀ (i j : Nat), j < k → (l.flatMap f)[i * k + j]? = (l[i]?).bind fun x => (f x)[j]? := by
  induction l with
  | nil => intro i j _; simp
  | cons x l ih =>
    intro i j hj
    rw [List.flatMap_cons]
    cases i with
    | zero => simp only [Nat.zero_mul, Nat.zero_add]; rw [List.getElem?_append_left (by rw [h]; exact hj)]; simp
    | succ i =>
      rw [List.getElem?_append_right (by rw [h, Nat.succ_mul]; omega), h, show (i + 1) * k + j - k = i * k + j from by rw [Nat.succ_mul]; omega, ih i j hj]
      simp
theorem fm_seg (h : ∀ x, (f x).length = k) (l : List α) {i : Nat} {x : α} (hx : l[i]? = some x) : ((l.flatMap f).drop (i * k)).take k = f x := by
  apply List.ext_getElem?
  intro j
  rcases Nat.lt_or_ge j k with hj | hj
  · rw [List.getElem?_take_of_lt hj, List.getElem?_drop, fm_get h l i j hj, hx]; rfl
  · rw [List.getElem?_eq_none (by simp; omega), List.getElem?_eq_none (by rw [h]; exact hj)]
end

/-! ## Maps -/
def MMap (w : World) (m : Nat) (kv : List (List UInt8 × Value)) : Prop := ∃ es clock, w.heap[m]? = some (.map es clock) ∧ es.toList.map (fun e => (e.key, e.val)) = kv.map fun x => (str x.1, x.2)
/-- a map to true: a set -/
def MSet (w : World) (m : Nat) (ks : List (List UInt8)) : Prop := MMap w m (ks.map fun k => (k, .bool true))

section
variable {P : Program} {w w' : World} {m : Nat} {kv : List (List UInt8 × Value)} {ks : List (List UInt8)} {s : List UInt8}
theorem MMap.lt (h : MMap w m kv) : m < w.heap.size := by
  obtain ⟨es, cl, h, _⟩ := h
  exact (Array.getElem?_eq_some_iff.1 h).1
theorem MMap.le {M : List Nat} (h : MMap w m kv) (hl : Le M w w') (hm : m ∉ M) : MMap w' m kv := by
  have := h.lt
  obtain ⟨es, cl, h, h2⟩ := h
  exact ⟨es, cl, by rw [hl.block m this hm]; exact h, h2⟩
theorem MMap.frm (h : MMap w m kv) (hl : Frm w w') : MMap w' m kv := h.le (M := []) hl.le (by simp)
theorem MSet.lt (h : MSet w m ks) : m < w.heap.size := MMap.lt h
theorem MSet.le {M : List Nat} (h : MSet w m ks) (hl : Le M w w') (hm : m ∉ M) : MSet w' m ks := MMap.le h hl hm
theorem MSet.frm (h : MSet w m ks) (hl : Frm w w') : MSet w' m ks := MMap.frm h hl

theorem same_str (a b : List UInt8) : Instr.sameNow .string (str a) (str b) = some (decide (a = b)) := by
  simp only [Instr.sameNow]
  congr 1
  show (a.toArray == b.toArray) = decide (a = b)
  simp [lbeq]
theorem find_kv : ∀ (es : List MapEntry) (kv : List (List UInt8 × Value)) (i : Nat), es.map (fun e => (e.key, e.val)) = kv.map (fun x => (str x.1, x.2)) →
    ∃ r, Instr.findNow .string (str s) es i = some r ∧ r.map (·.2) = kv.lookup s
  | [], kv, i, h => by
    have : kv = [] := by simpa using h.symm
    subst this
    exact ⟨none, rfl, rfl⟩
  | e :: es, [], i, h => by simp at h
  | e :: es, x :: kv, i, h => by
    simp only [List.map_cons, List.cons.injEq, Prod.mk.injEq] at h
    obtain ⟨⟨h1, h2⟩, h3⟩ := h
    obtain ⟨r, hr, hr2⟩ := find_kv es kv (i + 1) h3
    simp only [Instr.findNow, h1, same_str]
    by_cases e1 : s = x.1
    · rw [decide_eq_true e1]
      refine ⟨some (i, e.val), rfl, ?_⟩
      subst e1
      simp [List.lookup, h2]
    · rw [decide_eq_false e1]
      refine ⟨r, hr, ?_⟩
      have : (s == x.1) = false := by simpa using e1
      rw [hr2]
      simp [List.lookup, this]
variable {σ : Env} {d : Option Tmp} {ty t t' kt vt : TypeId} {pos : String} {af : Array Edge} {g : Option (Nat × Bool)} {x y z : Operand} {zv : Value} {size bytes : Nat}
theorem y_lookup [hu : Und P t (.map kt vt)] [hk : Und P kt .string] [hi : Inf P vt zv size bytes] (hx : evl σ x = .map (some m)) (hy : evl σ y = str s) (hm : MMap w m kv) :
    Y P σ ⟨d, .lookup t x y false, ty, pos, af, g⟩ w ((kv.lookup s).getD zv) w := by
  refine Y.val ?_
  obtain ⟨es, cl, h1, h2⟩ := hm
  obtain ⟨r, hr, hr2⟩ := find_kv (s := s) es.toList kv 0 h2
  have hc := MapKept.run_checkKey (P := P) (w := w) (k := str s) hk.ok (by simp [MapKept.IsKey]) es.isEmpty 9999
  have hf := MapKept.run_findKey (P := P) (w := w) (kt := kt) hk.ok hr
  rw [← hr2]
  simp only [execOp, hx, hy, Instr.lookup, Sem.run_bind, underlying, run_program, Result.andThen_ok, hu.ok, Sem.run_pure, MapKept.run_getObj_map h1, hc, hf]
  cases r with
  | none => simp [run_zeroValue (P := P) (t := vt)]
  | some r => simp
theorem lookup_set (s : List UInt8) (ks : List (List UInt8)) : ((ks.map fun k => (k, Value.bool true)).lookup s).getD (.bool false) = .bool (decide (s ∈ ks)) := by
  induction ks with
  | nil => simp
  | cons k ks ih =>
    by_cases e : s = k
    · subst e; simp [List.lookup]
    · have : (s == k) = false := by simpa using e
      simp only [List.map_cons, List.lookup, this, ih]
      simp [e]
theorem y_lookset [hu : Und P t (.map kt vt)] [hk : Und P kt .string] [hi : Inf P vt (.bool false) 1 1] (hm : MSet w m ks) (hx : evl σ x = .map (some m)) (hy : evl σ y = str s) :
    Y P σ ⟨d, .lookup t x y false, ty, pos, af, g⟩ w (.bool (decide (s ∈ ks))) w := by
  have := y_lookup (P := P) (d := d) (ty := ty) (pos := pos) (af := af) (g := g) (t := t) hx hy hm
  rwa [lookup_set] at this
theorem run_mapnew [hu : Und P t (.map kt vt)] [hk : Und P kt .string] {v : Value} (hm : MMap w m kv) (hn : kv.lookup s = none) :
    ∃ w', (Instr.mapUpdate t (.map (some m)) (str s) v).run P w = .ok () w' ∧ MMap w' m (kv ++ [(s, v)]) ∧ Le [m] w w' := by
  obtain ⟨es, cl, h1, h2⟩ := hm
  obtain ⟨r, hr, hr2⟩ := find_kv (s := s) es.toList kv 0 h2
  obtain rfl : r = none := by rw [hn] at hr2; simpa using hr2
  have hc := MapKept.run_checkKey (P := P) (w := w) (k := str s) hk.ok (by simp [MapKept.IsKey]) false 9999
  have hf := MapKept.run_findKey (P := P) (w := w) (kt := kt) hk.ok hr
  have hs := MapKept.heap_set (o' := .map (es.push ⟨str s, v, cl⟩) (cl + 1)) h1
  refine ⟨{ w with heap := w.heap.setIfInBounds m (.map (es.push ⟨str s, v, cl⟩) (cl + 1)) }, ?_, ⟨_, _, hs.1, by simp [h2]⟩, ⟨rfl, rfl, rfl, by simp, fun k _ hkm => hs.2 k (by simpa using hkm)⟩⟩
  simp only [Instr.mapUpdate, Sem.run_bind, underlying, run_program, Result.andThen_ok, hu.ok, Sem.run_pure, MapKept.run_getObj_map h1, hc, hf, MapKept.run_setObj_map _ h1]
end
section
variable {P : Program} {n : Nat} {ds : Ctx} {ops : Array Oper} {Q : Exit → Ctx → Env → World → Prop} {rest : List Oper} {σ : GE} {w : World} {v : Value} {d : Nat} {ty t kt vt : TypeId} {pos : String} {af : Array Edge} {x y z : Operand} {m j dj : Nat} {b c want : Bool} {ks : List (List UInt8)} {s : List UInt8}
theorem wlmap (h : ∀ m w', w.heap.size ≤ m → MSet w' m [] → Frm w w' → WL P n ds ops Q rest (real (updG σ d ⟨.map (some m), true⟩)) w') :
    WL P n ds ops Q (⟨some d, .makeMap t none, ty, pos, af, none⟩ :: rest) (real σ) w := by
  refine wl (h w.heap.size (w.alloc (.map #[] 0)) (Nat.le_refl _) ⟨#[], 0, heap_alloc_new w _, rfl⟩ (frm_alloc _ _)) ?_
  refine Y.val ?_
  simp [execOp, Instr.makeMap, newObj]
  rfl
theorem wlg_mset [hu : Und P t (.map kt vt)] [hk : Und P kt .string] [hi : Inf P vt (.bool false) 1 1] (hm : MSet w m ks) (h : WL P n ds ops Q rest (real (updG σ d ⟨.bool (decide (s ∈ ks)), b && (c == want)⟩)) w)
    (hj : (ops[j]?).bind (·.dst) = some dj := by rfl) (hσ : σ dj = ⟨.bool c, b⟩ := by rfl)
    (hx : (b && (c == want)) = true → evl (real σ) x = .map (some m) := by
      intro hgd
      exact evG hgd)
    (hy : (b && (c == want)) = true → evl (real σ) y = str s := by
      intro hgd
      exact evG hgd) :
    WL P n ds ops Q (⟨some d, .lookup t x y false, ty, pos, af, some (j, want)⟩ :: rest) (real σ) w := wlg h hj hσ fun hg => y_lookset hm (hx hg) (hy hg)
theorem lookup_none {ks : List (List UInt8)} (h : s ∉ ks) : (ks.map fun k => (k, Value.bool true)).lookup s = none := by
  induction ks with
  | nil => rfl
  | cons k ks ih =>
    simp only [List.mem_cons, not_or] at h
    have : (s == k) = false := by simpa using h.1
    simp only [List.map_cons, List.lookup, this, ih h.2]
theorem wlmadd [hu : Und P t (.map kt vt)] [hk : Und P kt .string] (hm : MSet w m ks) (hn : s ∉ ks) (h : ∀ w', MSet w' m (ks ++ [s]) → Le [m] w w' → WL P n ds ops Q rest (real σ) w')
    (hx : evl (real σ) x = .map (some m) := by rfl) (hy : evl (real σ) y = str s := by rfl) (hz : evl (real σ) z = .bool true := by rfl) :
    WL P n ds ops Q (⟨none, .mapUpdate t x y z, ty, pos, af, none⟩ :: rest) (real σ) w := by
  obtain ⟨w', h1, h2, h3⟩ := run_mapnew (P := P) (t := t) (v := .bool true) hm (lookup_none hn)
  refine wl0 (h w' (by simpa [MSet] using h2) h3) (Y.skip ?_)
  simp only [execOp, hx, hy, hz]
  rw [Sem.run_bind, h1]
  rfl
end
end Go.Sv

/-
  Attributes: which may be.
-/
set_option linter.unusedSimpArgs false
set_option linter.unusedVariables false
set_option linter.unnecessarySimpa false
namespace Go.Proofs.YthgbpgjpnaanlaaDoor
open Go Go.Sv Go.RowKit

structure At where
  n : List UInt8
  v : List UInt8
  deriving DecidableEq
def At.cells (x : At) : List Value := [str x.n, str x.v]
theorem At.len (x : At) : x.cells.length = 2 := rfl
def At.small (x : At) : Prop := x.n.length ≤ 1048576 ∧ x.v.length ≤ 1048576
def atOk (x : At) : Bool := nameR true x.n && validR x.v
def attrsF : List (List UInt8) → List At → Bool
  | _, [] => true
  | seen, a :: es => (atOk a && !decide (a.n ∈ seen)) && attrsF (seen ++ [a.n]) es
/-- may attributes be? -/
def attrsR (l : List At) : Bool := attrsF [] l

set_option maxHeartbeats 2000000 in
theorem attrs_ok (es : List At) (p : Option Addr) (n c : Nat) (hn : n = es.length) (hb : es.length ≤ 1048576) (hs : ∀ x ∈ es, x.small) (w : World) (hi : Im [] w p (es.flatMap At.cells)) :
    PureC Tryd.prog 92 #[.slice p n c] w (.bool (attrsR es)) := by
  refine enter (l := [.slice p n c]) Tryd.func92 rfl Tryd.ntmps92 (by kernel_rfl) rfl ?_
  refine sgo ?_
  refine wlmap fun m w1 hm1 hM hf1 => ?_
  refine sgo ?_
  have hfl := fm_len At.len es
  refine wcloop (X := Nat) (fun i => [(3, .map (some m)), (7, .slice p n c), (8, int n), (9, int i)])
    (fun i wr => i ≤ es.length ∧ attrsR es = attrsF ((es.take i).map (·.n)) (es.drop i) ∧ Frm w wr ∧ MSet wr m ((es.take i).map (·.n))) (fun i => es.length - i) 0 ⟨rfl, rfl, rfl, rfl, trivial⟩ ⟨by omega, by simp [attrsR], hf1, by simpa using hM⟩ ?_
  rintro i wr ρ ⟨hil, hv, hfr, hMr⟩
  refine sgo ?_
  (show WC _ _ _ _ _ _ _; first | refine WC_dec rfl (fun hc => ?_) (fun hc => ?_) | refine WC_cond rfl (fun hc => ?_) (fun hc => ?_))
  · have hlt : i < es.length := by omega
    have hSg := (hi.frm hfr).sg
    have hx : es[i]? = some es[i] := List.getElem?_eq_getElem hlt
    have hseg := fm_seg At.len es hx
    have hdr : es.drop i = es[i] :: es.drop (i + 1) := List.drop_eq_getElem_cons hlt
    have htk : (es.take (i + 1)).map (·.n) = (es.take i).map (·.n) ++ [es[i].n] := by rw [List.take_add_one, hx, List.map_append]; rfl
    have hsm := hs es[i] (List.getElem_mem hlt)
    generalize es[i] = a at *
    rw [hdr] at hv
    generalize hsn : (es.take i).map (·.n) = seen at *
    have hps : ∃ q, p = some q := hSg.some (by omega)
    refine sgo ?_
    refine wlalloc fun b w2 hb1 ho hf2 => ?_
    refine wlstorea0 (hv := by exact ⟨by rw [hseg]; rfl, rfl⟩) (h1 := by rw [hseg]; simp [At.cells, Value.oneCell']) ho fun w3 ho3 hl3 => ?_
    rw [hseg] at ho3
    have hb2 : w.heap.size ≤ b := Nat.le_trans hfr.size hb1
    have hfr3 := (hfr.trans hf2).step hl3 (by simpa using hb2)
    have hmb : m ≠ b := by have := hMr.lt; omega
    replace hMr := (hMr.frm hf2).le hl3 (by simpa using hmb)
    simp only [At.cells] at ho3
    clear hseg
    refine sgo ?_
    refine wlpure (name_ok a.n true hsm.1 _) fun w4 hf4 => ?_
    have ho4 := ho3.frm hf4
    refine sgo ?_
    refine wlcallgp (vals := [str a.v]) (fun _ => tokValid_ok a.v hsm.2 _) fun w5 hf5 => ?_
    replace hMr := (hMr.frm hf4).frm hf5
    have ho5 := ho4.frm hf5
    have hfr5 := (hfr3.trans hf4).trans hf5
    clear ho ho3 ho4
    refine sgo ?_
    refine wlg_mset (s := a.n) hMr ?_
    refine sgo ?_
    have hbad : attrsR es = (!(pkb (pkb (!nameR true a.n) true !validR a.v) true (decide (a.n ∈ seen))) && attrsF (seen ++ [a.n]) (es.drop (i + 1))) := by
      rw [hv, attrsF]
      simp only [pkb_or, atOk]
      cases nameR true a.n <;> cases validR a.v <;> simp
    (show WC _ _ _ _ _ _ _; first | refine WC_dec rfl (fun hc => ?_) (fun hc => ?_) | refine WC_cond rfl (fun hc => ?_) (fun hc => ?_))
    · rw [hc, Bool.not_true, Bool.false_and] at hbad
      refine sgo ?_
      (first | refine fp1 (.inl rfl) rfl rfl ?_ | refine fp2 (.inl rfl) rfl rfl rfl ?_ | refine fp3 (.inl rfl) rfl rfl rfl rfl ?_ | refine fp0 (.inr rfl) rfl ?_ | refine fp0 (.inl rfl) rfl ?_ | refine fp1 (.inr rfl) rfl rfl ?_); refine ⟨?_, by (first | exact Frm.refl _ | assumption | exact Go.Sv.Sep.frm (by assumption) | (refine Frm.trans ?_ (by assumption); first | exact Frm.refl _ | assumption))⟩; (try simp only [realB, rv_true, Nat.reduceBEq, cond_true, cond_false, entG, real_lif, updGL])
      rw [hbad]
    · have hns : a.n ∉ seen := by
        simp only [pkb_or, Bool.or_eq_false_iff, decide_eq_false_iff_not] at hc
        exact hc.2
      rw [hc, Bool.not_false, Bool.true_and] at hbad
      refine sgo ?_
      refine wlmadd (s := a.n) hMr hns fun w6 hM6 hl6 => ?_
      have hfr6 := hfr5.step hl6 (by intro x hx; simp only [List.mem_singleton] at hx; subst hx; exact Nat.le_trans (Nat.le_refl _) hm1)
      refine sgo ?_
      refine ⟨i + 1, ⟨rfl, rfl, rfl, rfl, trivial⟩, ⟨by omega, ?_, hfr6, ?_⟩, by omega⟩
      · rw [hbad, htk]
      · rw [htk]; exact hM6
  · refine sgo ?_
    (first | refine fp1 (.inl rfl) rfl rfl ?_ | refine fp2 (.inl rfl) rfl rfl rfl ?_ | refine fp3 (.inl rfl) rfl rfl rfl rfl ?_ | refine fp0 (.inr rfl) rfl ?_ | refine fp0 (.inl rfl) rfl ?_ | refine fp1 (.inr rfl) rfl rfl ?_); refine ⟨?_, by (first | exact Frm.refl _ | assumption | exact Go.Sv.Sep.frm (by assumption) | (refine Frm.trans ?_ (by assumption); first | exact Frm.refl _ | assumption))⟩; (try simp only [realB, rv_true, Nat.reduceBEq, cond_true, cond_false, entG, real_lif, updGL])
    rw [hv, List.drop_eq_nil_of_le (by omega)]; rfl

end Go.Proofs.YthgbpgjpnaanlaaDoor

/-
  Tokens: which may be.
-/
set_option linter.unusedSimpArgs false
set_option linter.unusedVariables false
set_option linter.unnecessarySimpa false
namespace Go.Proofs.YthgbpgjpnaanlaaDoor
open Go Go.Sv Go.RowKit

structure Tok where
  kind : Int
  name : List UInt8
  text : List UInt8
  attrs : List At
  self : Bool
  a : Int
  b : Int
  d : Int
  deriving DecidableEq
def Tok.cells (t : Tok) (p : Option Addr) (c : Nat) : List Value := [int t.kind, str t.name, str t.text, .slice p t.attrs.length c, .bool t.self, int t.a, int t.b, int t.d]
structure Tok.small (t : Tok) : Prop where
  name : t.name.length ≤ 1048576
  text : t.text.length ≤ 1048576
  attrs : t.attrs.length ≤ 1048576
  each : ∀ x ∈ t.attrs, x.small
def bareR (t : Tok) : Bool := decide (t.name = []) && (decide (t.attrs.length = 0) && !t.self)
/-- may a token be? -/
def mayR (t : Tok) : Bool :=
  if t.kind = 0 then bareR t && (!decide (t.text = []) && validR t.text)
  else if t.kind = 1 then nameR false t.name && (decide (t.text = []) && attrsR t.attrs)
  else if t.kind = 2 then nameR false t.name && (decide (t.text = []) && (decide (t.attrs.length = 0) && !t.self))
  else if t.kind = 3 then bareR t && validR t.text
  else if t.kind = 4 then bareR t && decide (t.text = [])
  else false

set_option maxHeartbeats 4000000 in
theorem check_ok (t : Tok) (p : Option Addr) (c : Nat) (hs : t.small) (w : World) (hi : Im [] w p (t.attrs.flatMap At.cells)) :
    PureC Tryd.prog 59 #[.agg ⟨t.cells p c⟩] w (int (if mayR t then 0 else 70)) := by
  obtain ⟨k, nm, tx, es, sf, a, b, d⟩ := t
  obtain ⟨h1, h2, h3, h4⟩ := hs
  dsimp only at h1 h2 h3 h4 hi
  refine enter (l := [.agg ⟨Tok.cells ⟨k, nm, tx, es, sf, a, b, d⟩ p c⟩]) Tryd.func59 rfl Tryd.ntmps59 (by kernel_rfl) rfl ?_
  refine sgo ?_
  refine wlbox (v := .agg ⟨Tok.cells ⟨k, nm, tx, es, sf, a, b, d⟩ p c⟩) (hx := rfl) fun b1 w1 hb1 ho hf1 => ?_
  simp only [Tok.cells, Value.cells] at ho
  refine sgo ?_
  (show WC _ _ _ _ _ _ _; first | refine WC_dec rfl (fun hc => ?_) (fun hc => ?_) | refine WC_cond rfl (fun hc => ?_) (fun hc => ?_))
  · have hk : k = 0 := hc
    clear hc
    refine sgo ?_
    refine wlcallgp (vals := [str tx]) (fun _ => tokValid_ok tx h2 _) fun w2 hf2 => ?_
    replace ho := ho.frm hf2
    have hf := hf1.trans hf2
    refine sgo ?_
    (show WC _ _ _ _ _ _ _; first | refine WC_dec rfl (fun hc => ?_) (fun hc => ?_) | refine WC_cond rfl (fun hc => ?_) (fun hc => ?_))
    · refine sgo ?_
      (first | refine fp1 (.inl rfl) rfl rfl ?_ | refine fp2 (.inl rfl) rfl rfl rfl ?_ | refine fp3 (.inl rfl) rfl rfl rfl rfl ?_ | refine fp0 (.inr rfl) rfl ?_ | refine fp0 (.inl rfl) rfl ?_ | refine fp1 (.inr rfl) rfl rfl ?_); refine ⟨?_, by (first | exact Frm.refl _ | assumption | exact Go.Sv.Sep.frm (by assumption) | (refine Frm.trans ?_ (by assumption); first | exact Frm.refl _ | assumption))⟩; (try simp only [realB, rv_true, Nat.reduceBEq, cond_true, cond_false, entG, real_lif, updGL])
      have : mayR ⟨k, nm, tx, es, sf, a, b, d⟩ = false := by
        simp only [mayR, bareR, hk, if_pos]
        simp only [pkb_and] at hc
        grind
      rw [this]; rfl
    · refine sgo ?_
      (first | refine fp1 (.inl rfl) rfl rfl ?_ | refine fp2 (.inl rfl) rfl rfl rfl ?_ | refine fp3 (.inl rfl) rfl rfl rfl rfl ?_ | refine fp0 (.inr rfl) rfl ?_ | refine fp0 (.inl rfl) rfl ?_ | refine fp1 (.inr rfl) rfl rfl ?_); refine ⟨?_, by (first | exact Frm.refl _ | assumption | exact Go.Sv.Sep.frm (by assumption) | (refine Frm.trans ?_ (by assumption); first | exact Frm.refl _ | assumption))⟩; (try simp only [realB, rv_true, Nat.reduceBEq, cond_true, cond_false, entG, real_lif, updGL])
      have : mayR ⟨k, nm, tx, es, sf, a, b, d⟩ = true := by
        simp only [mayR, bareR, hk, if_pos]
        simp only [pkb_and] at hc
        grind
      rw [this]; rfl
  · have hk0 : ¬ k = 0 := hc
    clear hc
    refine sgo ?_
    (show WC _ _ _ _ _ _ _; first | refine WC_dec rfl (fun hc => ?_) (fun hc => ?_) | refine WC_cond rfl (fun hc => ?_) (fun hc => ?_))
    · have hk : k = 1 := hc
      clear hc
      refine sgo ?_
      refine wlpure (name_ok nm false h1 _) fun w2 hf2 => ?_
      replace ho := ho.frm hf2
      have hf := hf1.trans hf2
      refine sgo ?_
      refine wlcallgp (vals := [.slice p es.length c]) (fun _ => attrs_ok es p _ c rfl h3 h4 _ (hi.frm hf)) fun w3 hf3 => ?_
      replace ho := ho.frm hf3
      replace hf := hf.trans hf3
      refine sgo ?_
      (show WC _ _ _ _ _ _ _; first | refine WC_dec rfl (fun hc => ?_) (fun hc => ?_) | refine WC_cond rfl (fun hc => ?_) (fun hc => ?_))
      · refine sgo ?_
        (first | refine fp1 (.inl rfl) rfl rfl ?_ | refine fp2 (.inl rfl) rfl rfl rfl ?_ | refine fp3 (.inl rfl) rfl rfl rfl rfl ?_ | refine fp0 (.inr rfl) rfl ?_ | refine fp0 (.inl rfl) rfl ?_ | refine fp1 (.inr rfl) rfl rfl ?_); refine ⟨?_, by (first | exact Frm.refl _ | assumption | exact Go.Sv.Sep.frm (by assumption) | (refine Frm.trans ?_ (by assumption); first | exact Frm.refl _ | assumption))⟩; (try simp only [realB, rv_true, Nat.reduceBEq, cond_true, cond_false, entG, real_lif, updGL])
        have : mayR ⟨k, nm, tx, es, sf, a, b, d⟩ = false := by
          simp only [mayR, bareR, hk, if_pos]
          simp only [pkb_and] at hc
          grind
        rw [this]; rfl
      · refine sgo ?_
        (first | refine fp1 (.inl rfl) rfl rfl ?_ | refine fp2 (.inl rfl) rfl rfl rfl ?_ | refine fp3 (.inl rfl) rfl rfl rfl rfl ?_ | refine fp0 (.inr rfl) rfl ?_ | refine fp0 (.inl rfl) rfl ?_ | refine fp1 (.inr rfl) rfl rfl ?_); refine ⟨?_, by (first | exact Frm.refl _ | assumption | exact Go.Sv.Sep.frm (by assumption) | (refine Frm.trans ?_ (by assumption); first | exact Frm.refl _ | assumption))⟩; (try simp only [realB, rv_true, Nat.reduceBEq, cond_true, cond_false, entG, real_lif, updGL])
        have : mayR ⟨k, nm, tx, es, sf, a, b, d⟩ = true := by
          simp only [mayR, bareR, hk, if_pos]
          simp only [pkb_and] at hc
          grind
        rw [this]; rfl
    · have hk1 : ¬ k = 1 := hc
      clear hc
      refine sgo ?_
      (show WC _ _ _ _ _ _ _; first | refine WC_dec rfl (fun hc => ?_) (fun hc => ?_) | refine WC_cond rfl (fun hc => ?_) (fun hc => ?_))
      · have hk : k = 2 := hc
        clear hc
        refine sgo ?_
        refine wlpure (name_ok nm false h1 _) fun w2 hf2 => ?_
        replace ho := ho.frm hf2
        have hf := hf1.trans hf2
        refine sgo ?_
        (show WC _ _ _ _ _ _ _; first | refine WC_dec rfl (fun hc => ?_) (fun hc => ?_) | refine WC_cond rfl (fun hc => ?_) (fun hc => ?_))
        · refine sgo ?_
          (first | refine fp1 (.inl rfl) rfl rfl ?_ | refine fp2 (.inl rfl) rfl rfl rfl ?_ | refine fp3 (.inl rfl) rfl rfl rfl rfl ?_ | refine fp0 (.inr rfl) rfl ?_ | refine fp0 (.inl rfl) rfl ?_ | refine fp1 (.inr rfl) rfl rfl ?_); refine ⟨?_, by (first | exact Frm.refl _ | assumption | exact Go.Sv.Sep.frm (by assumption) | (refine Frm.trans ?_ (by assumption); first | exact Frm.refl _ | assumption))⟩; (try simp only [realB, rv_true, Nat.reduceBEq, cond_true, cond_false, entG, real_lif, updGL])
          have : mayR ⟨k, nm, tx, es, sf, a, b, d⟩ = false := by
            simp only [mayR, bareR, hk, if_pos]
            simp only [pkb_and] at hc
            grind
          rw [this]; rfl
        · refine sgo ?_
          (first | refine fp1 (.inl rfl) rfl rfl ?_ | refine fp2 (.inl rfl) rfl rfl rfl ?_ | refine fp3 (.inl rfl) rfl rfl rfl rfl ?_ | refine fp0 (.inr rfl) rfl ?_ | refine fp0 (.inl rfl) rfl ?_ | refine fp1 (.inr rfl) rfl rfl ?_); refine ⟨?_, by (first | exact Frm.refl _ | assumption | exact Go.Sv.Sep.frm (by assumption) | (refine Frm.trans ?_ (by assumption); first | exact Frm.refl _ | assumption))⟩; (try simp only [realB, rv_true, Nat.reduceBEq, cond_true, cond_false, entG, real_lif, updGL])
          have : mayR ⟨k, nm, tx, es, sf, a, b, d⟩ = true := by
            simp only [mayR, bareR, hk, if_pos]
            simp only [pkb_and] at hc
            grind
          rw [this]; rfl
      · have hk2 : ¬ k = 2 := hc
        clear hc
        refine sgo ?_
        (show WC _ _ _ _ _ _ _; first | refine WC_dec rfl (fun hc => ?_) (fun hc => ?_) | refine WC_cond rfl (fun hc => ?_) (fun hc => ?_))
        · have hk : k = 3 := hc
          clear hc
          refine sgo ?_
          refine wlpure (tokValid_ok tx h2 _) fun w2 hf2 => ?_
          replace ho := ho.frm hf2
          have hf := hf1.trans hf2
          refine sgo ?_
          (show WC _ _ _ _ _ _ _; first | refine WC_dec rfl (fun hc => ?_) (fun hc => ?_) | refine WC_cond rfl (fun hc => ?_) (fun hc => ?_))
          · refine sgo ?_
            (first | refine fp1 (.inl rfl) rfl rfl ?_ | refine fp2 (.inl rfl) rfl rfl rfl ?_ | refine fp3 (.inl rfl) rfl rfl rfl rfl ?_ | refine fp0 (.inr rfl) rfl ?_ | refine fp0 (.inl rfl) rfl ?_ | refine fp1 (.inr rfl) rfl rfl ?_); refine ⟨?_, by (first | exact Frm.refl _ | assumption | exact Go.Sv.Sep.frm (by assumption) | (refine Frm.trans ?_ (by assumption); first | exact Frm.refl _ | assumption))⟩; (try simp only [realB, rv_true, Nat.reduceBEq, cond_true, cond_false, entG, real_lif, updGL])
            have : mayR ⟨k, nm, tx, es, sf, a, b, d⟩ = false := by
              simp only [mayR, bareR, hk, if_pos]
              simp only [pkb_and] at hc
              grind
            rw [this]; rfl
          · refine sgo ?_
            (first | refine fp1 (.inl rfl) rfl rfl ?_ | refine fp2 (.inl rfl) rfl rfl rfl ?_ | refine fp3 (.inl rfl) rfl rfl rfl rfl ?_ | refine fp0 (.inr rfl) rfl ?_ | refine fp0 (.inl rfl) rfl ?_ | refine fp1 (.inr rfl) rfl rfl ?_); refine ⟨?_, by (first | exact Frm.refl _ | assumption | exact Go.Sv.Sep.frm (by assumption) | (refine Frm.trans ?_ (by assumption); first | exact Frm.refl _ | assumption))⟩; (try simp only [realB, rv_true, Nat.reduceBEq, cond_true, cond_false, entG, real_lif, updGL])
            have : mayR ⟨k, nm, tx, es, sf, a, b, d⟩ = true := by
              simp only [mayR, bareR, hk, if_pos]
              simp only [pkb_and] at hc
              grind
            rw [this]; rfl
        · have hk3 : ¬ k = 3 := hc
          clear hc
          refine sgo ?_
          (show WC _ _ _ _ _ _ _; first | refine WC_dec rfl (fun hc => ?_) (fun hc => ?_) | refine WC_cond rfl (fun hc => ?_) (fun hc => ?_))
          · have hk : k = 4 := hc
            clear hc
            refine sgo ?_
            (show WC _ _ _ _ _ _ _; first | refine WC_dec rfl (fun hc => ?_) (fun hc => ?_) | refine WC_cond rfl (fun hc => ?_) (fun hc => ?_))
            · refine sgo ?_
              (first | refine fp1 (.inl rfl) rfl rfl ?_ | refine fp2 (.inl rfl) rfl rfl rfl ?_ | refine fp3 (.inl rfl) rfl rfl rfl rfl ?_ | refine fp0 (.inr rfl) rfl ?_ | refine fp0 (.inl rfl) rfl ?_ | refine fp1 (.inr rfl) rfl rfl ?_); refine ⟨?_, by (first | exact Frm.refl _ | assumption | exact Go.Sv.Sep.frm (by assumption) | (refine Frm.trans ?_ (by assumption); first | exact Frm.refl _ | assumption))⟩; (try simp only [realB, rv_true, Nat.reduceBEq, cond_true, cond_false, entG, real_lif, updGL])
              have : mayR ⟨k, nm, tx, es, sf, a, b, d⟩ = false := by
                simp only [mayR, bareR, hk, if_pos]
                simp only [pkb_and] at hc
                grind
              rw [this]; rfl
            · refine sgo ?_
              (first | refine fp1 (.inl rfl) rfl rfl ?_ | refine fp2 (.inl rfl) rfl rfl rfl ?_ | refine fp3 (.inl rfl) rfl rfl rfl rfl ?_ | refine fp0 (.inr rfl) rfl ?_ | refine fp0 (.inl rfl) rfl ?_ | refine fp1 (.inr rfl) rfl rfl ?_); refine ⟨?_, by (first | exact Frm.refl _ | assumption | exact Go.Sv.Sep.frm (by assumption) | (refine Frm.trans ?_ (by assumption); first | exact Frm.refl _ | assumption))⟩; (try simp only [realB, rv_true, Nat.reduceBEq, cond_true, cond_false, entG, real_lif, updGL])
              have : mayR ⟨k, nm, tx, es, sf, a, b, d⟩ = true := by
                simp only [mayR, bareR, hk, if_pos]
                simp only [pkb_and] at hc
                grind
              rw [this]; rfl
          · have hk4 : ¬ k = 4 := hc
            clear hc
            refine sgo ?_
            (first | refine fp1 (.inl rfl) rfl rfl ?_ | refine fp2 (.inl rfl) rfl rfl rfl ?_ | refine fp3 (.inl rfl) rfl rfl rfl rfl ?_ | refine fp0 (.inr rfl) rfl ?_ | refine fp0 (.inl rfl) rfl ?_ | refine fp1 (.inr rfl) rfl rfl ?_); refine ⟨?_, by (first | exact Frm.refl _ | assumption | exact Go.Sv.Sep.frm (by assumption) | (refine Frm.trans ?_ (by assumption); first | exact Frm.refl _ | assumption))⟩; (try simp only [realB, rv_true, Nat.reduceBEq, cond_true, cond_false, entG, real_lif, updGL])
            have : mayR ⟨k, nm, tx, es, sf, a, b, d⟩ = false := by simp [mayR, hk0, hk1, hk2, hk3, hk4]
            rw [this]; rfl

end Go.Proofs.YthgbpgjpnaanlaaDoor

/-
  strings.Builder: a block of two cells and a row of bytes; pointers compared; pointers turned to unsafe ones and back; slices written out.
-/
set_option linter.unusedSimpArgs false
set_option linter.unusedVariables false
set_option linter.unnecessarySimpa false
namespace Go.Sv
open Go Go.RowKit

/-- a builder in block b: it holds s; its bytes lie at q -/
structure BuP (T E : TypeId) (w : World) (b : Nat) (pv q : Option Addr) (c : Nat) (s : List UInt8) : Prop where
  hp : pv = none ∨ pv = pb b
  cell : w.heap[b]? = some (.cells #[.pointer pv, .slice q s.length c] T (0, 0))
  row : w.ownsRow 0 E 1 (.slice q s.length c) s.length (bs s)
  ne : b ∉ rb q
def Bld (T E : TypeId) (w : World) (b : Nat) (q : Option Addr) (s : List UInt8) : Prop := ∃ pv c, BuP T E w b pv q c s

section
variable {P : Program} {T E : TypeId} {w w' : World} {b : Nat} {pv q : Option Addr} {c : Nat} {s : List UInt8} {M : List Nat}
theorem rb_own {q : Option Addr} {n c k : Nat} : (Value.slice q n c).ownBlock = some k ↔ k ∈ rb q := by
  cases q with
  | none => simp [Value.ownBlock, rb]
  | some a => simp only [Value.ownBlock, rb, Option.some.injEq, List.mem_singleton]; exact eq_comm
theorem rowT_lt {B n : Nat} {xs : List Value} (h : w.ownsRow B E 1 (.slice q n c) n xs) : ∀ k ∈ rb q, k < w.heap.size := fun k hk => (h.lt k (rb_own.2 hk)).2
theorem rowT_le {B n : Nat} {xs : List Value} (h : w.ownsRow B E 1 (.slice q n c) n xs) (hl : Le M w w') (hM : ∀ k ∈ rb q, k ∉ M) : w'.ownsRow B E 1 (.slice q n c) n xs := by
  refine ⟨h.1, ?_⟩
  have hlt := rowT_lt h
  rcases h.2 with h1 | ⟨g, cap, cur, hv, h2, h3, h4⟩
  · exact .inl h1
  · refine .inr ⟨g, cap, cur, hv, h2, ?_, h4⟩
    have hg : g ∈ rb q := rb_own.1 (by rw [hv]; rfl)
    rw [hl.block g (hlt g hg) (hM g hg)]; exact h3
theorem rowT_row {B n : Nat} {xs : List Value} (h : w.ownsRow B E 1 (.slice q n c) n xs) : Row w 1 q n c xs := by
  refine ⟨h.1, ?_⟩
  rcases h.2 with ⟨h1, h2⟩ | ⟨g, cap, cur, hv, h2, h3, h4, h5, h6, h7⟩
  · injection h1 with h1 h3 h4
    exact .inl ⟨h1, h2, h4⟩
  · injection hv with h1 h8 h9
    subst h9
    refine .inr ⟨g, 0, cur, E, h1, h3, h4, by simpa [maxLen] using h5, by omega, by simpa using h7⟩
theorem rowT_base {B n : Nat} {xs : List Value} (h : w.ownsRow 0 E 1 (.slice q n c) n xs) (hB : ∀ k ∈ rb q, B ≤ k) : w.ownsRow B E 1 (.slice q n c) n xs := by
  refine ⟨h.1, ?_⟩
  rcases h.2 with h1 | ⟨g, cap, cur, hv, h2, h3⟩
  · exact .inl h1
  · exact .inr ⟨g, cap, cur, hv, hB g (rb_own.1 (by rw [hv]; rfl)), h3⟩

theorem BuP.own (h : BuP T E w b pv q c s) : Own w b [.pointer pv, .slice q s.length c] := ⟨T, h.cell⟩
theorem BuP.le (h : BuP T E w b pv q c s) (hl : Le M w w') (hb : b ∉ M) (hM : ∀ k ∈ rb q, k ∉ M) : BuP T E w' b pv q c s :=
  ⟨h.hp, by rw [hl.block b h.own.lt hb]; exact h.cell, rowT_le h.row hl hM, h.ne⟩
theorem Bld.lt (h : Bld T E w b q s) : ∀ k ∈ b :: rb q, k < w.heap.size := by
  obtain ⟨pv, c, h⟩ := h
  intro k hk
  rcases List.mem_cons.1 hk with rfl | hk
  · exact h.own.lt
  · exact rowT_lt h.row k hk
theorem Bld.le (h : Bld T E w b q s) (hl : Le M w w') (hM : ∀ k ∈ b :: rb q, k ∉ M) : Bld T E w' b q s := by
  obtain ⟨pv, c, h⟩ := h
  exact ⟨pv, c, h.le hl (hM b List.mem_cons_self) fun k hk => hM k (List.mem_cons_of_mem _ hk)⟩
theorem Bld.frm (h : Bld T E w b q s) (hl : Frm w w') : Bld T E w' b q s := h.le (M := []) hl.le (by simp)
/-- a new one -/
theorem Bld.new (ho : w.heap[b]? = some (.cells #[.pointer none, .slice none 0 0] T (0, 0))) : Bld T E w b none [] :=
  ⟨none, 0, .inl rfl, ho, ⟨by simp [bs], .inl ⟨rfl, rfl⟩⟩, by simp [rb]⟩
/-- for the shelf -/
theorem Bld.shelf {B : Nat} (h : Bld T E w b q s) (hB : ∀ k ∈ b :: rb q, B ≤ k) : Lib.IsBuilder T E B b (bs s) w := by
  obtain ⟨pv, c, h⟩ := h
  have h1 : Lib.BuilderAt T E B b (.pointer pv) (bs s) w := by
    refine ⟨hB b List.mem_cons_self, _, h.cell, ?_, fun hh => h.ne (rb_own.1 hh)⟩
    have := rowT_base (B := B) h.row fun k hk => hB k (List.mem_cons_of_mem _ hk)
    simpa using this
  rcases h.hp with rfl | rfl
  · exact .inl h1
  · exact .inr h1

/-- append to a row of bytes -/
theorem run_appT {t ty : TypeId} {zb : Nat} {n m cc : Nat} {a : Addr} {xs news : List Value} [hu : Und P t (.slice E)] [hi : Inf P E (.int .u8 0) 1 zb] (hr : w.ownsRow 0 E 1 (.slice q n c) n xs) (hs : seg w a news) (hl : news.length = m)
    (h1 : ∀ u ∈ news, u.oneCell' = true) (h63 : n + m ≤ 9223372036854775807) (hb : (n + m) * zb ≤ 140737488355328) :
    ∃ q' c' w', (Builtin.append_ #[t, t] ty #[.slice q n c, .slice (some a) m cc]).run P w = .ok (.slice q' (n + m) c') w' ∧ w'.ownsRow 0 E 1 (.slice q' (n + m) c') (n + m) (xs ++ news) ∧ Lm (rb q) w (rb q') w' := by
  obtain ⟨i, hi1, hi2, hi3, hi4⟩ := inf_size (P := P) (t := E)
  have hl1 : news.length = m * 1 := by omega
  obtain ⟨q', c', w', r1, r2, r3⟩ := run_append_row (P := P) (t := t) (tx := t) (ty := ty) (e := E) rfl (by decide) (rowT_row hr) (src_of_sg (tx := t) (c := cc) (.inr ⟨a, rfl, hs⟩) hl1 h1) h63 hb
  obtain ⟨v', w2, k1, k2, k3, k4⟩ := run_append_own (P := P) w 0 t ty E i (.int .u8 0) 1 zb hu.ok hi1 hi2 hi3 hi4 rfl (by decide) _ n xs hr a m cc news hl1
    (fun j u hj => by
      have hlt : j < news.length := by
        rcases Nat.lt_or_ge j news.length with h | h
        · exact h
        · rw [List.getElem?_eq_none h] at hj; cases hj
      rw [hs j hlt]; exact hj) h1 (by simpa [maxLen] using h63) hb (Nat.zero_le _)
  rw [r1] at k1
  injection k1 with k5 k6
  subst k6
  refine ⟨q', c', w', r1, ?_, r3⟩
  rw [k5]; exact k2
theorem run_appTs {t t' ty : TypeId} {n : Nat} {xs : List Value} [hu : Und P t (.slice E)] [hu' : Und P t' .string] [hi : Inf P E (.int .u8 0) 1 1] (hr : w.ownsRow 0 E 1 (.slice q n c) n xs)
    (h63 : n + s.length ≤ 9223372036854775807) (hb : n + s.length ≤ 140737488355328) :
    ∃ q' c' w', (Builtin.append_ #[t, t'] ty #[.slice q n c, str s]).run P w = .ok (.slice q' (n + s.length) c') w' ∧ w'.ownsRow 0 E 1 (.slice q' (n + s.length) c') (n + s.length) (xs ++ bs s) ∧ Lm (rb q) w (rb q') w' := by
  obtain ⟨i, hi1, hi2, hi3, hi4⟩ := inf_size (P := P) (t := E)
  have hsrc := Src.ofString (P := P) w hu'.ok ⟨s.toArray⟩
  rw [size_str] at hsrc
  have e1 : byteCells ⟨s.toArray⟩ = bs s := by simp [byteCells, bs]
  rw [e1] at hsrc
  obtain ⟨q', c', w', r1, r2, r3⟩ := run_append_row (P := P) (t := t) (tx := t') (ty := ty) (e := E) (size := 1) (z := .int .u8 0) rfl (by decide) (rowT_row hr) hsrc h63 (by omega)
  obtain ⟨v', w2, k1, k2, k3, k4⟩ := Lib.run_append_own_string (P := P) w 0 t t' ty E i hu.ok hu'.ok hi1 hi2 hi3 hi4 _ n xs hr ⟨s.toArray⟩ (by rw [size_str]; simpa [maxLen] using h63) (by rw [size_str]; exact hb) (Nat.zero_le _)
  rw [r1] at k1
  injection k1 with k5 k6
  subst k6
  rw [size_str] at k2
  refine ⟨q', c', w', r1, ?_, r3⟩
  rw [k5]
  have e2 : Lib.strCells ⟨s.toArray⟩ = bs s := by simp [Lib.strCells, bs]
  rw [← e2]; exact k2
end

/-! ## pointers -/
section
variable {P : Program} {σ : Env} {w : World} {d : Option Tmp} {ty t t' e : TypeId} {pos : String} {af : Array Edge} {g : Option (Nat × Bool)} {x y : Operand} {p : Option Addr}
theorem y_pnil [hu : Und P t (.pointer e)] (hx : evl σ x = .pointer p) (hy : evl σ y = .pointer none) : Y P σ ⟨d, .binOp .eql t x y t', ty, pos, af, g⟩ w (.bool p.isNone) w := by
  refine Y.val ?_
  have h : ∀ k : Nat, (Op.equalIn (k + 1) t (.pointer p) (.pointer none)).run P w = .ok p.isNone w := fun k => by
    cases p <;> simp [Op.equalIn, run_underlying hu.ok]
  simp only [execOp, hx, hy]
  simp [eqGuard, binOp, Op.equal, Op.maxDepth, h 9999]
theorem y_psame {a : Addr} {j : TypeInfo} [hu : Und P t (.pointer e)] (hx : evl σ x = .pointer (some a)) (hy : evl σ y = .pointer (some a)) (hj : P.info? e = some j) : Y P σ ⟨d, .binOp .neq t x y t', ty, pos, af, g⟩ w (.bool false) w := by
  refine Y.val ?_
  have h := Lib.run_neq_ptr_same (P := P) w (tp := t) a hu.ok hj
  simp only [execOp, hx, hy]
  rw [Sem.run_bind, Sem.run_bind, show (eqGuard .neq t x y (.pointer (some a)) (.pointer (some a))).run P w = .ok () w from by simp [eqGuard], Result.andThen_ok, h]
  rfl
theorem y_tou {a : Addr} {j : TypeInfo} {E : TypeId} {cells : Nat} [hu : Und P t (.pointer e)] [hu' : Und P t' .unsafePointer] (hx : evl σ x = .pointer (some a)) (ht : P.info? e = some j) (hj : j.size ≠ 0) (hsh : w.shape? a.block = some (E, cells)) (hoff : a.off < cells) :
    Y P σ ⟨d, .convert t t' x, ty, pos, af, g⟩ w (.pointer (some a)) w := by
  refine Y.val ?_
  simp only [execOp, hx]
  rw [Sem.run_bind, Lib.run_to_unsafe (P := P) w a hu.ok hu'.ok ht hj hsh hoff]
  rfl
theorem y_fromu {a : Addr} {j : TypeInfo} {E : TypeId} {cells : Nat} [hu : Und P t .unsafePointer] [hu' : Und P t' (.pointer e)] (hx : evl σ x = .pointer (some a)) (ht : P.info? e = some j) (hsh : w.shape? a.block = some (E, cells)) (hl : liesAt P P.depth E (cells / P.cellsOf E) a.off e 1 = true) :
    Y P σ ⟨d, .convert t t' x, ty, pos, af, g⟩ w (.pointer (some a)) w := by
  refine Y.val ?_
  simp only [execOp, hx]
  rw [Sem.run_bind, Lib.run_from_unsafe (P := P) w a hu.ok hu'.ok ht hsh hl]
  rfl
theorem y_noesc {f : FuncId} {fn : Func} {ats : Array TypeId} {v : Value} (hf : P.funcs[f]? = some fn) (h1 : (fn.name == "runtime.NumGoroutine") = false) (h2 : fn.body.isNone = true) (h3 : Extern.findNext fn = none) (h4 : Extern.find fn = some Extern.AbiNoEscape.same) (hx : evl σ x = v) :
    Y P σ ⟨d, .call ⟨.value (.func f), #[x], ats⟩, ty, pos, af, g⟩ w v w := by
  refine Y.val ?_
  simp only [execOp, resolve, evl, Deferred.ofValue]
  simp only [Sem.run_bind, Sem.run_pure, Result.andThen_ok, invoke]
  have h := run_callFunc_extern hf h1 h2 h3 h4 #[v] w
  rw [Lib.run_noEscape] at h
  simp only [Result.andThen] at h
  simpa [hx] using h
end

/-! ## stores that keep what kind of block it is; append of bytes -/
section
variable {P : Program} {n : Nat} {ds : Ctx} {ops : Array Oper} {Q : Exit → Ctx → Env → World → Prop} {rest : List Oper} {σ : GE} {w : World} {v : Value} {d : Nat} {ty t t' e T E : TypeId} {pos : String} {af : Array Edge} {x y : Operand} {zv : Value} {size bytes b i m c cc : Nat} {l xs news : List Value} {p q : Option Addr} {s : List UInt8}
theorem wlstT [hi : Inf P t zv 1 bytes] (ho : w.heap[b]? = some (.cells l.toArray T (0, 0))) (h : ∀ w', w'.heap[b]? = some (.cells (l.set i v).toArray T (0, 0)) → Le [b] w w' → WL P n ds ops Q rest (real σ) w')
    (hc : v.cells = #[v]) (h1 : v.oneCell' = true) (hx : evl (real σ) x = ptrAt (pb b) i := by rfl) (hy : evl (real σ) y = v := by rfl) (hk : i < l.length := by first | decide | (simp; done)) :
    WL P n ds ops Q (⟨none, .store t x y, ty, pos, af, none⟩ :: rest) (real σ) w := by
  have e : (⟨b, 0, none⟩ : Addr).add i = ⟨b, i, none⟩ := by unfold Addr.add; split <;> simp_all
  have hs := run_storeCells_at P b i T [v] 0 l.toArray w ho (by simp; omega) (by simp [h1])
  have e2 : l.take i ++ [v] ++ l.drop (i + 1) = l.set i v := by
    rw [List.set_eq_take_append_cons_drop, if_pos hk]; simp
  refine wl0 (h (w.setRow b (l.set i v).toArray) (by rw [setRow_heap w b l.toArray _ T (0, 0) ho]) (le_setRow w b _)) (Y.skip ?_)
  simp only [execOp, hx, hy]
  have hr : (Instr.storeAt t (ptrAt (pb b) i) v).run P w = .ok () (w.setRow b (l.set i v).toArray) := by
    simp only [Instr.storeAt, show ptrAt (pb b) i = .pointer (some ⟨b, i, none⟩) from by simp [e], Instr.sureAddr, Sem.run_bind, Sem.run_pure, Result.andThen_ok, storeVar, run_sizeOf (P := P) (t := t)]
    rw [if_neg (by simp [hc]), hc]
    simp only [List.length_singleton, Nat.add_zero, List.size_toArray] at hs
    rw [← e2]
    simpa using hs
  rw [Sem.run_bind, hr]
  rfl
theorem wlappT [hu : Und P t (.slice E)] [hi : Inf P E (.int .u8 0) 1 1] (hr : w.ownsRow 0 E 1 (.slice q m c) m xs) (hs : Sg w p news)
    (h : ∀ q' c' w', w'.ownsRow 0 E 1 (.slice q' (m + news.length) c') (m + news.length) (xs ++ news) → Lm (rb q) w (rb q') w' → WL P n ds ops Q rest (real (updG σ d ⟨.slice q' (m + news.length) c', true⟩)) w')
    (hx : evl (real σ) x = .slice q m c := by rfl) (hy : evl (real σ) y = .slice p news.length cc := by rfl) (hp : 0 < news.length := by first | decide | (simp; done))
    (h1 : ∀ u ∈ news, u.oneCell' = true := by simp [Go.Value.oneCell']) (hb : m + news.length ≤ 140737488355328 := by omega) :
    WL P n ds ops Q (⟨some d, .call ⟨.builtin .append, #[x, y], #[t, t]⟩, ty, pos, af, none⟩ :: rest) (real σ) w := by
  rcases hs with rfl | ⟨a, rfl, hs⟩
  · simp at hp
  obtain ⟨q', c', w', r1, r2, r3⟩ := run_appT (P := P) (t := t) (ty := ty) (cc := cc) hr hs rfl h1 (by omega) (by omega)
  exact wl (h q' c' w' r2 r3) (run_append_op hx hy r1)
theorem wlappTs [hu : Und P t (.slice E)] [hu' : Und P t' .string] [hi : Inf P E (.int .u8 0) 1 1] (hr : w.ownsRow 0 E 1 (.slice q m c) m xs)
    (h : ∀ q' c' w', w'.ownsRow 0 E 1 (.slice q' (m + s.length) c') (m + s.length) (xs ++ bs s) → Lm (rb q) w (rb q') w' → WL P n ds ops Q rest (real (updG σ d ⟨.slice q' (m + s.length) c', true⟩)) w')
    (hx : evl (real σ) x = .slice q m c := by rfl) (hy : evl (real σ) y = str s := by rfl) (hb : m + s.length ≤ 140737488355328 := by omega) :
    WL P n ds ops Q (⟨some d, .call ⟨.builtin .append, #[x, y], #[t, t']⟩, ty, pos, af, none⟩ :: rest) (real σ) w := by
  obtain ⟨q', c', w', r1, r2, r3⟩ := run_appTs (P := P) (t := t) (t' := t') (ty := ty) (s := s) hr (by omega) (by omega)
  exact wl (h q' c' w' r2 r3) (run_append_op hx hy r1)
end
end Go.Sv

/-
  strings.Builder, walked.
-/
set_option linter.unusedSimpArgs false
set_option linter.unusedVariables false
set_option linter.unnecessarySimpa false
namespace Go.Proofs.YthgbpgjpnaanlaaDoor
open Go Go.Sv Go.RowKit

abbrev TB : Nat := 101
abbrev TY : Nat := 5
theorem bup_shape {w : World} {b : Nat} {pv q : Option Addr} {c : Nat} {s : List UInt8} (h : BuP TB TY w b pv q c s) : w.shape? b = some (TB, 2) := by
  have := h.cell
  simp [World.shape?, this]

theorem tb_info : ∃ j, Tryd.prog.info? TB = some j ∧ j.size ≠ 0 := by
  obtain ⟨j, hj1, hj2, hj3, hj4⟩ := inf_size (P := Tryd.prog) (t := TB)
  exact ⟨j, hj1, by rw [hj3]; decide⟩
theorem copyCheck_ok (b : Nat) (pv q : Option Addr) (c : Nat) (s : List UInt8) (w : World) (h : BuP TB TY w b pv q c s) :
    CallsR Tryd.prog 95 #[ptrAt (pb b) 0] w fun v w' => v = .tuple #[] ∧ BuP TB TY w' b (pb b) q c s ∧ Le [b] w w' := by
  have ho := h.own
  have hsh := bup_shape h
  rcases h.hp with rfl | rfl
  · refine enter (l := [ptrAt (pb b) 0]) Tryd.func95 rfl Tryd.ntmps95 (by kernel_rfl) rfl ?_
    refine sgo ?_
    refine wl (v := .bool true) ?_ (y_pnil (p := none) rfl rfl)
    refine sgo ?_
    obtain ⟨j, hj1, hj3⟩ := tb_info
    refine wl ?_ (y_tou (a := ⟨b, 0, none⟩) rfl hj1 hj3 hsh Nat.two_pos)
    refine wl ?_ (y_noesc (v := .pointer (some ⟨b, 0, none⟩)) Tryd.func115 (by kernel_rfl) (by kernel_rfl) (by kernel_rfl) (by kernel_rfl) rfl)
    refine wl ?_ (y_fromu (a := ⟨b, 0, none⟩) rfl hj1 hsh (by kernel_rfl))
    clear hj1 hj3
    refine sgo ?_
    refine wlstT (v := .pointer (pb b)) h.cell (fun w' h1 h2 => ?_) rfl rfl
    refine sgo ?_
    (first | refine fp1 (.inl rfl) rfl rfl ?_ | refine fp2 (.inl rfl) rfl rfl rfl ?_ | refine fp3 (.inl rfl) rfl rfl rfl rfl ?_ | refine fp0 (.inr rfl) rfl ?_ | refine fp0 (.inl rfl) rfl ?_ | refine fp1 (.inr rfl) rfl rfl ?_)
    exact ⟨rfl, ⟨.inr rfl, h1, rowT_le h.row h2 (by intro k hk hm; simp only [List.mem_singleton] at hm; subst hm; exact h.ne hk), h.ne⟩, h2⟩
  · refine enter (l := [ptrAt (pb b) 0]) Tryd.func95 rfl Tryd.ntmps95 (by kernel_rfl) rfl ?_
    refine sgo ?_
    refine wl (v := .bool false) ?_ (y_pnil (p := some ⟨b, 0, none⟩) rfl rfl)
    refine sgo ?_
    obtain ⟨j, hj1, hj3⟩ := tb_info
    refine wl ?_ (y_psame (a := ⟨b, 0, none⟩) rfl rfl hj1)
    clear hj1 hj3
    refine sgo ?_
    (first | refine fp1 (.inl rfl) rfl rfl ?_ | refine fp2 (.inl rfl) rfl rfl rfl ?_ | refine fp3 (.inl rfl) rfl rfl rfl rfl ?_ | refine fp0 (.inr rfl) rfl ?_ | refine fp0 (.inl rfl) rfl ?_ | refine fp1 (.inr rfl) rfl rfl ?_)
    exact ⟨rfl, h, Le.refl _ _⟩

theorem write_lm {w w1 w2 w3 : World} {b : Nat} {q q' : Option Addr} (h1 : Le [b] w w1) (h2 : Lm (rb q) w1 (rb q') w2) (h3 : Le [b] w2 w3) : Lm (b :: rb q) w (b :: rb q') w3 := by
  refine ⟨⟨h3.os.trans (h2.1.os.trans h1.os), h3.tape.trans (h2.1.tape.trans h1.tape), h3.output.trans (h2.1.output.trans h1.output), Nat.le_trans h1.size (Nat.le_trans h2.1.size h3.size), fun k hk hm => ?_⟩, ?_⟩
  · simp only [List.mem_cons, not_or] at hm
    have e1 := h1.block k hk (by simpa using hm.1)
    have e2 := h2.1.block k (Nat.lt_of_lt_of_le hk h1.size) hm.2
    have e3 := h3.block k (Nat.lt_of_lt_of_le hk (Nat.le_trans h1.size h2.1.size)) (by simpa using hm.1)
    rw [e3, e2, e1]
  · intro k hk hlt
    rcases List.mem_cons.1 hk with rfl | hk
    · exact List.mem_cons_self
    · exact List.mem_cons_of_mem _ (h2.2 k hk (Nat.lt_of_lt_of_le hlt h1.size))
theorem bld_put {w1 w2 w3 : World} {b : Nat} {q q' : Option Addr} {c c' : Nat} {s t : List UInt8} (h1 : BuP TB TY w1 b (pb b) q c s) (h2 : Lm (rb q) w1 (rb q') w2) (hr : w2.ownsRow 0 TY 1 (.slice q' (s.length + t.length) c') (s.length + t.length) (bs s ++ bs t))
    (h3 : w3.heap[b]? = some (.cells ([.pointer (pb b), .slice q s.length c].set 1 (.slice q' (s.length + t.length) c')).toArray TB (0, 0))) (h4 : Le [b] w2 w3) : Bld TB TY w3 b q' (s ++ t) := by
  have hne : b ∉ rb q' := fun hb => h1.ne (h2.2 b hb h1.own.lt)
  have e : bs s ++ bs t = bs (s ++ t) := by simp [bs]
  rw [e, ← List.length_append] at hr
  rw [← List.length_append] at h3
  exact ⟨pb b, c', .inr rfl, h3, rowT_le hr h4 (by intro k hk hm; simp only [List.mem_singleton] at hm; subst hm; exact hne hk), hne⟩

theorem writeString_ok (b : Nat) (q : Option Addr) (s t : List UInt8) (w : World) (h : Bld TB TY w b q s) (hb : s.length + t.length ≤ 140737488355328) :
    CallsR Tryd.prog 64 #[ptrAt (pb b) 0, str t] w fun v w' => v = .tuple #[int t.length, .nilIface] ∧ ∃ q', Bld TB TY w' b q' (s ++ t) ∧ Lm (b :: rb q) w (b :: rb q') w' := by
  obtain ⟨pv, c, h⟩ := h
  refine enter (l := [ptrAt (pb b) 0, str t]) Tryd.func64 rfl Tryd.ntmps64 (by kernel_rfl) rfl ?_
  refine sgo ?_
  refine wlcall (copyCheck_ok b pv q c s w h) ?_
  rintro v w1 ⟨rfl, h1, hl1⟩
  have ho := h1.own
  refine sgo ?_
  refine wlappTs h1.row fun q' c' w2 hr2 hl2 => ?_
  have hc2 : w2.heap[b]? = _ := (hl2.1.block b h1.own.lt h1.ne).trans h1.cell
  refine sgo ?_
  refine wlstT (v := .slice q' (s.length + t.length) c') hc2 (fun w3 h3 hl3 => ?_) rfl rfl
  refine sgo ?_
  (first | refine fp1 (.inl rfl) rfl rfl ?_ | refine fp2 (.inl rfl) rfl rfl rfl ?_ | refine fp3 (.inl rfl) rfl rfl rfl rfl ?_ | refine fp0 (.inr rfl) rfl ?_ | refine fp0 (.inl rfl) rfl ?_ | refine fp1 (.inr rfl) rfl rfl ?_)
  exact ⟨rfl, q', bld_put h1 hl2 hr2 h3 hl3, write_lm hl1 hl2 hl3⟩

theorem writeByte_ok (b : Nat) (q : Option Addr) (s : List UInt8) (x : UInt8) (w : World) (h : Bld TB TY w b q s) (hb : s.length + 1 ≤ 140737488355328) :
    CallsR Tryd.prog 118 #[ptrAt (pb b) 0, byt x.toNat] w fun v w' => v = .nilIface ∧ ∃ q', Bld TB TY w' b q' (s ++ [x]) ∧ Lm (b :: rb q) w (b :: rb q') w' := by
  obtain ⟨pv, c, h⟩ := h
  refine enter (l := [ptrAt (pb b) 0, byt x.toNat]) Tryd.func118 rfl Tryd.ntmps118 (by kernel_rfl) rfl ?_
  refine sgo ?_
  refine wlcall (copyCheck_ok b pv q c s w h) ?_
  rintro v w1 ⟨rfl, h1, hl1⟩
  have ho := h1.own
  refine sgo ?_
  refine wlb1_int fun b2 w2 hb2 ho2 hf2 => ?_
  refine wlappT (news := bs [x]) (rowT_le h1.row hf2.le (M := []) (by simp)) ho2.sg (fun q' c' w3 hr3 hl3 => ?_) (hp := Nat.one_pos) (h1 := by simp [bs, Value.oneCell']) (hb := by simpa using hb)
  have hl3' : Lm (rb q) w1 (rb q') w3 := ⟨(hf2.le).trans hl3.1, fun k hk hlt => hl3.2 k hk (Nat.lt_of_lt_of_le hlt hf2.size)⟩
  have hc3 : w3.heap[b]? = _ := (hl3'.1.block b h1.own.lt h1.ne).trans h1.cell
  refine sgo ?_
  refine wlstT (v := .slice q' (s.length + 1) c') hc3 (fun w4 h4 hl4 => ?_) rfl rfl
  refine sgo ?_
  (first | refine fp1 (.inl rfl) rfl rfl ?_ | refine fp2 (.inl rfl) rfl rfl rfl ?_ | refine fp3 (.inl rfl) rfl rfl rfl rfl ?_ | refine fp0 (.inr rfl) rfl ?_ | refine fp0 (.inl rfl) rfl ?_ | refine fp1 (.inr rfl) rfl rfl ?_)
  exact ⟨rfl, q', bld_put (t := [x]) h1 hl3' hr3 h4 hl4, write_lm hl1 hl3' hl4⟩
end Go.Proofs.YthgbpgjpnaanlaaDoor

/-
  Slices written out, of two to four values of one cell each.
-/
set_option linter.unusedSimpArgs false
set_option linter.unusedVariables false
set_option linter.unnecessarySimpa false
namespace Go.Sv
open Go Go.RowKit
section
variable {P : Program} {n : Nat} {ds : Ctx} {ops : Array Oper} {Q : Exit → Ctx → Env → World → Prop} {rest : List Oper} {σ : GE} {w : World} {d : Nat} {ty t e : TypeId} {pos : String} {af : Array Edge} {x1 x2 x3 x4 : Operand} {v1 v2 v3 v4 zv : Value} {bytes : Nat}
theorem run_bs2 [hu : Und P t (.slice e)] [hi : Inf P e zv 1 bytes] (hz : zv.cells.size = 1) (h1 : v1.cells = #[v1]) (h2 : v2.cells = #[v2]) (w : World) :
    (Instr.buildSlice t 2 #[(0, v1), (1, v2)]).run P w = .ok (.slice (some ⟨w.heap.size, 0, none⟩) 2 2) (w.alloc (.cells #[v1, v2] e)) := by
  have hf : Instr.fill (fun i => some (i * 1, 1)) ((Array.range (2 * 1)).map (zv.cells[· % zv.cells.size]!)) [(0, v1), (1, v2)] = some #[v1, v2] := by
    simp [Instr.fill, h1, h2, Array.range, Array.ofFn_succ, Array.zipIdx]
  simp only [Instr.buildSlice, Sem.run_bind, underlying, run_program, Result.andThen_ok, hu.ok, Sem.run_pure, run_sizeOf (P := P) (t := e), Nat.mul_one]
  rw [if_neg (by decide), if_neg (by decide)]
  simp only [Sem.run_bind, Sem.run_pure, Result.andThen_ok, run_zeroValue (P := P) (t := e)]
  simp only [Nat.mul_one] at hf
  rw [hf]
  simp [newRow]
theorem run_bs3 [hu : Und P t (.slice e)] [hi : Inf P e zv 1 bytes] (hz : zv.cells.size = 1) (h1 : v1.cells = #[v1]) (h2 : v2.cells = #[v2]) (h3 : v3.cells = #[v3]) (w : World) :
    (Instr.buildSlice t 3 #[(0, v1), (1, v2), (2, v3)]).run P w = .ok (.slice (some ⟨w.heap.size, 0, none⟩) 3 3) (w.alloc (.cells #[v1, v2, v3] e)) := by
  have hf : Instr.fill (fun i => some (i * 1, 1)) ((Array.range (3 * 1)).map (zv.cells[· % zv.cells.size]!)) [(0, v1), (1, v2), (2, v3)] = some #[v1, v2, v3] := by
    simp [Instr.fill, h1, h2, h3, Array.range, Array.ofFn_succ, Array.zipIdx]
  simp only [Instr.buildSlice, Sem.run_bind, underlying, run_program, Result.andThen_ok, hu.ok, Sem.run_pure, run_sizeOf (P := P) (t := e), Nat.mul_one]
  rw [if_neg (by decide), if_neg (by decide)]
  simp only [Sem.run_bind, Sem.run_pure, Result.andThen_ok, run_zeroValue (P := P) (t := e)]
  simp only [Nat.mul_one] at hf
  rw [hf]
  simp [newRow]
theorem run_bs4 [hu : Und P t (.slice e)] [hi : Inf P e zv 1 bytes] (hz : zv.cells.size = 1) (h1 : v1.cells = #[v1]) (h2 : v2.cells = #[v2]) (h3 : v3.cells = #[v3]) (h4 : v4.cells = #[v4]) (w : World) :
    (Instr.buildSlice t 4 #[(0, v1), (1, v2), (2, v3), (3, v4)]).run P w = .ok (.slice (some ⟨w.heap.size, 0, none⟩) 4 4) (w.alloc (.cells #[v1, v2, v3, v4] e)) := by
  have hf : Instr.fill (fun i => some (i * 1, 1)) ((Array.range (4 * 1)).map (zv.cells[· % zv.cells.size]!)) [(0, v1), (1, v2), (2, v3), (3, v4)] = some #[v1, v2, v3, v4] := by
    simp [Instr.fill, h1, h2, h3, h4, Array.range, Array.ofFn_succ, Array.zipIdx]
  simp only [Instr.buildSlice, Sem.run_bind, underlying, run_program, Result.andThen_ok, hu.ok, Sem.run_pure, run_sizeOf (P := P) (t := e), Nat.mul_one]
  rw [if_neg (by decide), if_neg (by decide)]
  simp only [Sem.run_bind, Sem.run_pure, Result.andThen_ok, run_zeroValue (P := P) (t := e)]
  simp only [Nat.mul_one] at hf
  rw [hf]
  simp [newRow]
theorem wlbs2 [hu : Und P t (.slice e)] [hi : Inf P e zv 1 bytes] (h : ∀ b w', w.heap.size ≤ b → Own w' b [v1, v2] → Frm w w' → WL P n ds ops Q rest (real (updG σ d ⟨.slice (pb b) 2 2, true⟩)) w')
    (hx1 : evl (real σ) x1 = v1 := by rfl) (hx2 : evl (real σ) x2 = v2 := by rfl) (h1 : v1.cells = #[v1] := by rfl) (h2 : v2.cells = #[v2] := by rfl) (hz : zv.cells.size = 1 := by rfl) :
    WL P n ds ops Q (⟨some d, .buildSlice t 2 #[(0, x1), (1, x2)], ty, pos, af, none⟩ :: rest) (real σ) w := by
  refine wl (h w.heap.size (w.alloc (.cells #[v1, v2] e)) (Nat.le_refl _) (own_alloc _ _ _) (frm_alloc _ _)) (Y.val ?_)
  simp only [execOp, List.map_toArray, List.map_cons, List.map_nil, hx1, hx2, Sem.run_bind]
  rw [run_bs2 (P := P) (t := t) (e := e) hz h1 h2]
  rfl
theorem wlbs3 [hu : Und P t (.slice e)] [hi : Inf P e zv 1 bytes] (h : ∀ b w', w.heap.size ≤ b → Own w' b [v1, v2, v3] → Frm w w' → WL P n ds ops Q rest (real (updG σ d ⟨.slice (pb b) 3 3, true⟩)) w')
    (hx1 : evl (real σ) x1 = v1 := by rfl) (hx2 : evl (real σ) x2 = v2 := by rfl) (hx3 : evl (real σ) x3 = v3 := by rfl) (h1 : v1.cells = #[v1] := by rfl) (h2 : v2.cells = #[v2] := by rfl) (h3 : v3.cells = #[v3] := by rfl) (hz : zv.cells.size = 1 := by rfl) :
    WL P n ds ops Q (⟨some d, .buildSlice t 3 #[(0, x1), (1, x2), (2, x3)], ty, pos, af, none⟩ :: rest) (real σ) w := by
  refine wl (h w.heap.size (w.alloc (.cells #[v1, v2, v3] e)) (Nat.le_refl _) (own_alloc _ _ _) (frm_alloc _ _)) (Y.val ?_)
  simp only [execOp, List.map_toArray, List.map_cons, List.map_nil, hx1, hx2, hx3, Sem.run_bind]
  rw [run_bs3 (P := P) (t := t) (e := e) hz h1 h2 h3]
  rfl
theorem wlbs4 [hu : Und P t (.slice e)] [hi : Inf P e zv 1 bytes] (h : ∀ b w', w.heap.size ≤ b → Own w' b [v1, v2, v3, v4] → Frm w w' → WL P n ds ops Q rest (real (updG σ d ⟨.slice (pb b) 4 4, true⟩)) w')
    (hx1 : evl (real σ) x1 = v1 := by rfl) (hx2 : evl (real σ) x2 = v2 := by rfl) (hx3 : evl (real σ) x3 = v3 := by rfl) (hx4 : evl (real σ) x4 = v4 := by rfl) (h1 : v1.cells = #[v1] := by rfl) (h2 : v2.cells = #[v2] := by rfl) (h3 : v3.cells = #[v3] := by rfl) (h4 : v4.cells = #[v4] := by rfl) (hz : zv.cells.size = 1 := by rfl) :
    WL P n ds ops Q (⟨some d, .buildSlice t 4 #[(0, x1), (1, x2), (2, x3), (3, x4)], ty, pos, af, none⟩ :: rest) (real σ) w := by
  refine wl (h w.heap.size (w.alloc (.cells #[v1, v2, v3, v4] e)) (Nat.le_refl _) (own_alloc _ _ _) (frm_alloc _ _)) (Y.val ?_)
  simp only [execOp, List.map_toArray, List.map_cons, List.map_nil, hx1, hx2, hx3, hx4, Sem.run_bind]
  rw [run_bs4 (P := P) (t := t) (e := e) hz h1 h2 h3 h4]
  rfl
end
end Go.Sv

/-
  A rune's bytes: utf8.AppendRune, and the builder's WriteRune.
-/
set_option linter.unusedSimpArgs false
set_option linter.unusedVariables false
set_option linter.unnecessarySimpa false
namespace Go.Proofs.YthgbpgjpnaanlaaDoor
open Go Go.Sv Go.RowKit

/-- a rune's bytes -/
def encN (r : Nat) : List Nat :=
  if r < 128 then [r]
  else if r < 2048 then [192 + r / 64, 128 + r % 64]
  else if r < 65536 then [224 + r / 4096, 128 + r / 64 % 64, 128 + r % 64]
  else [240 + r / 262144, 128 + r / 4096 % 64, 128 + r / 64 % 64, 128 + r % 64]
def encR (r : Nat) : List UInt8 := (encN r).map UInt8.ofNat
theorem bs_ofNat {l : List Nat} (h : ∀ x ∈ l, x < 256) : bs (l.map UInt8.ofNat) = l.map fun n : Nat => byt n := by
  unfold bs
  rw [List.map_map]
  refine List.map_congr_left fun x hx => ?_
  have := h x hx
  simp only [Function.comp]
  rw [UInt8.toNat_ofNat_of_lt' (by simpa using this)]
theorem encN_lt (r : Nat) (h : r < 1114112) : ∀ x ∈ encN r, x < 256 := by
  unfold encN
  intro x hx
  repeat' split at hx
  all_goals simp only [List.mem_cons, List.not_mem_nil, or_false] at hx
  all_goals omega
theorem bs_encR (r : Nat) (h : r < 1114112) : bs (encR r) = (encN r).map fun n : Nat => byt n := bs_ofNat (encN_lt r h)
theorem encR_len (r : Nat) : (encR r).length = (encN r).length := by simp [encR]

theorem wr8 (n : Nat) : IntKind.u8.wrap (n : Int) = ((n % 256 : Nat) : Int) := by simp [IntKind.wrap, IntKind.signed, IntKind.bits]
theorem wr32 (n : Nat) (h : n < 4294967296) : IntKind.u32.wrap (n : Int) = (n : Int) := wrap_in (by simp [IntKind.min, IntKind.max, IntKind.signed, IntKind.bits]; omega)
theorem fd (r k : Nat) (hk : 0 < k) : (r : Int).fdiv (k : Int) = ((r / k : Nat) : Int) := by
  rw [Int.fdiv_eq_ediv_of_nonneg _ (by omega)]; rfl
theorem sh6 (r : Nat) : (r : Int).fdiv (2 ^ (min (6 : Int).toNat IntKind.i32.bits)) = ((r / 64 : Nat) : Int) := fd r 64 (by decide)
theorem sh12 (r : Nat) : (r : Int).fdiv (2 ^ (min (12 : Int).toNat IntKind.i32.bits)) = ((r / 4096 : Nat) : Int) := fd r 4096 (by decide)
theorem sh18 (r : Nat) : (r : Int).fdiv (2 ^ (min (18 : Int).toNat IntKind.i32.bits)) = ((r / 262144 : Nat) : Int) := fd r 262144 (by decide)
theorem msk (c : Nat) (hc : c < 256) : bitop .and .u8 (c : Int) 63 = ((c % 64 : Nat) : Int) := by revert hc; revert c; decide +kernel
theorem o128 (c : Nat) (hc : c < 64) : bitop .or .u8 128 (c : Int) = ((128 + c : Nat) : Int) := by revert hc; revert c; decide +kernel
theorem o192 (c : Nat) (hc : c < 32) : bitop .or .u8 192 (c : Int) = ((192 + c : Nat) : Int) := by revert hc; revert c; decide +kernel
theorem o224 (c : Nat) (hc : c < 16) : bitop .or .u8 224 (c : Int) = ((224 + c : Nat) : Int) := by revert hc; revert c; decide +kernel
theorem o240 (c : Nat) (hc : c < 8) : bitop .or .u8 240 (c : Int) = ((240 + c : Nat) : Int) := by revert hc; revert c; decide +kernel
theorem cont (n : Nat) : bitop .or .u8 128 (bitop .and .u8 (IntKind.u8.wrap (n : Int)) 63) = ((128 + n % 64 : Nat) : Int) := by
  rw [wr8, msk _ (by omega), o128 _ (by omega)]
  congr 2
  omega

/-- the row behind the append -/
def AppR (q : Option Addr) (s : List UInt8) (t : List UInt8) (w : World) (v : Value) (w' : World) : Prop :=
  ∃ q' c', v = .slice q' (s.length + t.length) c' ∧ w'.ownsRow 0 TY 1 (.slice q' (s.length + t.length) c') (s.length + t.length) (bs s ++ bs t) ∧ Lm (rb q) w (rb q') w'

theorem lm_frm {A B : List Nat} {w w1 w2 : World} (hf : Frm w w1) (h : Lm A w1 B w2) : Lm A w B w2 := ⟨hf.le.trans h.1, fun k hk hlt => h.2 k hk (Nat.lt_of_lt_of_le hlt hf.size)⟩

set_option maxHeartbeats 2000000 in
theorem appendNA_ok (q : Option Addr) (c : Nat) (s : List UInt8) (r : Nat) (h1 : 128 ≤ r) (h2 : r < 1114112) (h3 : ¬ (55296 ≤ r ∧ r ≤ 57343)) (hb : s.length + 4 ≤ 140737488355328) (w : World) (hr : w.ownsRow 0 TY 1 (.slice q s.length c) s.length (bs s)) :
    CallsR Tryd.prog 145 #[.slice q s.length c, i32 r] w (AppR q s (encR r) w) := by
  have hw := wr32 r (by omega)
  refine enter (l := [.slice q s.length c, i32 r]) Tryd.func145 rfl Tryd.ntmps145 (by kernel_rfl) rfl ?_
  refine sgo ?_
  rw [hw]
  (show WC _ _ _ _ _ _ _; first | refine WC_dec rfl (fun hc => ?_) (fun hc => ?_) | refine WC_cond rfl (fun hc => ?_) (fun hc => ?_))
  · skip
    refine sgo ?_
    rw [sh6, cont, wr8, Nat.mod_eq_of_lt (show r / 64 < 256 by omega), o192 _ (by omega)]
    refine wlbs2 fun b w1 hb1 ho hf1 => ?_
    have e : bs (encR r) = [byt (192 + r / 64 : Nat), byt (128 + r % 64 : Nat)] := by
      rw [bs_encR r h2, encN, if_neg (by omega), if_pos (by omega)]; rfl
    refine wlappT (news := [byt (192 + r / 64 : Nat), byt (128 + r % 64 : Nat)]) (rowT_le hr hf1.le (M := []) (by simp)) ho.sg (fun q' c' w2 hr2 hl2 => ?_) (hb := by simp only [List.length_cons, List.length_nil]; omega)
    refine sgo ?_
    (first | refine fp1 (.inl rfl) rfl rfl ?_ | refine fp2 (.inl rfl) rfl rfl rfl ?_ | refine fp3 (.inl rfl) rfl rfl rfl rfl ?_ | refine fp0 (.inr rfl) rfl ?_ | refine fp0 (.inl rfl) rfl ?_ | refine fp1 (.inr rfl) rfl rfl ?_)
    have el : (encR r).length = 2 := by rw [← bs_length, e]; rfl
    refine ⟨q', c', by rw [el]; rfl, ?_, lm_frm hf1 hl2⟩
    rw [el, e]; exact hr2
  · have hc1 : 2048 ≤ r := by omega
    clear hc
    refine sgo ?_
    (show WC _ _ _ _ _ _ _; first | refine WC_dec rfl (fun hc => ?_) (fun hc => ?_) | refine WC_cond rfl (fun hc => ?_) (fun hc => ?_))
    · have hc2 : r < 55296 := by omega
      clear hc
      refine sgo ?_
      (show WC _ _ _ _ _ _ _; first | refine WC_dec rfl (fun hc => ?_) (fun hc => ?_) | refine WC_cond rfl (fun hc => ?_) (fun hc => ?_))
      · clear hc
        refine sgo ?_
        rw [sh12, sh6, cont, cont, wr8, Nat.mod_eq_of_lt (show r / 4096 < 256 by omega), o224 _ (by omega)]
        refine wlbs3 fun b w1 hb1 ho hf1 => ?_
        have e : bs (encR r) = [byt (224 + r / 4096 : Nat), byt (128 + r / 64 % 64 : Nat), byt (128 + r % 64 : Nat)] := by
          rw [bs_encR r h2, encN, if_neg (by omega), if_neg (by omega), if_pos (by omega)]; rfl
        refine wlappT (news := [byt (224 + r / 4096 : Nat), byt (128 + r / 64 % 64 : Nat), byt (128 + r % 64 : Nat)]) (rowT_le hr hf1.le (M := []) (by simp)) ho.sg (fun q' c' w2 hr2 hl2 => ?_) (hb := by simp only [List.length_cons, List.length_nil]; omega)
        refine sgo ?_
        (first | refine fp1 (.inl rfl) rfl rfl ?_ | refine fp2 (.inl rfl) rfl rfl rfl ?_ | refine fp3 (.inl rfl) rfl rfl rfl rfl ?_ | refine fp0 (.inr rfl) rfl ?_ | refine fp0 (.inl rfl) rfl ?_ | refine fp1 (.inr rfl) rfl rfl ?_)
        have el : (encR r).length = 3 := by rw [← bs_length, e]; rfl
        refine ⟨q', c', by rw [el]; rfl, ?_, lm_frm hf1 hl2⟩
        rw [el, e]; exact hr2
      · omega
    · have hc2 : 57343 < r := by omega
      clear hc
      refine sgo ?_
      (show WC _ _ _ _ _ _ _; first | refine WC_dec rfl (fun hc => ?_) (fun hc => ?_) | refine WC_cond rfl (fun hc => ?_) (fun hc => ?_))
      · have hc3 : r ≤ 65535 := by
          simp only [pkb_and, Bool.and_eq_true, decide_eq_true_eq] at hc
          omega
        clear hc
        refine sgo ?_
        rw [sh12, sh6, cont, cont, wr8, Nat.mod_eq_of_lt (show r / 4096 < 256 by omega), o224 _ (by omega)]
        refine wlbs3 fun b w1 hb1 ho hf1 => ?_
        have e : bs (encR r) = [byt (224 + r / 4096 : Nat), byt (128 + r / 64 % 64 : Nat), byt (128 + r % 64 : Nat)] := by
          rw [bs_encR r h2, encN, if_neg (by omega), if_neg (by omega), if_pos (by omega)]; rfl
        refine wlappT (news := [byt (224 + r / 4096 : Nat), byt (128 + r / 64 % 64 : Nat), byt (128 + r % 64 : Nat)]) (rowT_le hr hf1.le (M := []) (by simp)) ho.sg (fun q' c' w2 hr2 hl2 => ?_) (hb := by simp only [List.length_cons, List.length_nil]; omega)
        refine sgo ?_
        (first | refine fp1 (.inl rfl) rfl rfl ?_ | refine fp2 (.inl rfl) rfl rfl rfl ?_ | refine fp3 (.inl rfl) rfl rfl rfl rfl ?_ | refine fp0 (.inr rfl) rfl ?_ | refine fp0 (.inl rfl) rfl ?_ | refine fp1 (.inr rfl) rfl rfl ?_)
        have el : (encR r).length = 3 := by rw [← bs_length, e]; rfl
        refine ⟨q', c', by rw [el]; rfl, ?_, lm_frm hf1 hl2⟩
        rw [el, e]; exact hr2
      · have hc3 : 65535 < r := by
          simp only [pkb_and, Bool.and_eq_false_iff, decide_eq_false_iff_not] at hc
          omega
        clear hc
        refine sgo ?_
        (show WC _ _ _ _ _ _ _; first | refine WC_dec rfl (fun hc => ?_) (fun hc => ?_) | refine WC_cond rfl (fun hc => ?_) (fun hc => ?_))
        · clear hc
          refine sgo ?_
          rw [sh18, sh12, sh6, cont, cont, cont, wr8, Nat.mod_eq_of_lt (show r / 262144 < 256 by omega), o240 _ (by omega)]
          refine wlbs4 fun b w1 hb1 ho hf1 => ?_
          have e : bs (encR r) = [byt (240 + r / 262144 : Nat), byt (128 + r / 4096 % 64 : Nat), byt (128 + r / 64 % 64 : Nat), byt (128 + r % 64 : Nat)] := by
            rw [bs_encR r h2, encN, if_neg (by omega), if_neg (by omega), if_neg (by omega)]; rfl
          refine wlappT (news := [byt (240 + r / 262144 : Nat), byt (128 + r / 4096 % 64 : Nat), byt (128 + r / 64 % 64 : Nat), byt (128 + r % 64 : Nat)]) (rowT_le hr hf1.le (M := []) (by simp)) ho.sg (fun q' c' w2 hr2 hl2 => ?_) (hb := by simp only [List.length_cons, List.length_nil]; omega)
          refine sgo ?_
          (first | refine fp1 (.inl rfl) rfl rfl ?_ | refine fp2 (.inl rfl) rfl rfl rfl ?_ | refine fp3 (.inl rfl) rfl rfl rfl rfl ?_ | refine fp0 (.inr rfl) rfl ?_ | refine fp0 (.inl rfl) rfl ?_ | refine fp1 (.inr rfl) rfl rfl ?_)
          have el : (encR r).length = 4 := by rw [← bs_length, e]; rfl
          refine ⟨q', c', by rw [el]; rfl, ?_, lm_frm hf1 hl2⟩
          rw [el, e]; exact hr2
        · simp only [pkb_and, Bool.and_eq_false_iff, decide_eq_false_iff_not] at hc
          omega

set_option maxHeartbeats 1000000 in
theorem appendRune_ok (q : Option Addr) (c : Nat) (s : List UInt8) (r : Nat) (h2 : r < 1114112) (h3 : ¬ (55296 ≤ r ∧ r ≤ 57343)) (hb : s.length + 4 ≤ 140737488355328) (w : World) (hr : w.ownsRow 0 TY 1 (.slice q s.length c) s.length (bs s)) :
    CallsR Tryd.prog 134 #[.slice q s.length c, i32 r] w (AppR q s (encR r) w) := by
  have hw := wr32 r (by omega)
  refine enter (l := [.slice q s.length c, i32 r]) Tryd.func134 rfl Tryd.ntmps134 (by kernel_rfl) rfl ?_
  refine sgo ?_
  rw [hw]
  (show WC _ _ _ _ _ _ _; first | refine WC_dec rfl (fun hc => ?_) (fun hc => ?_) | refine WC_cond rfl (fun hc => ?_) (fun hc => ?_))
  · have hr1 : r < 128 := by omega
    clear hc
    refine sgo ?_
    refine wlb1_int fun b w1 hb1 ho hf1 => ?_
    have e : bs (encR r) = [byt (r : Nat)] := by
      rw [bs_encR r h2, encN, if_pos hr1]; rfl
    refine wlappT (news := [byt (r : Nat)]) (rowT_le hr hf1.le (M := []) (by simp)) ho.sg (fun q' c' w2 hr2 hl2 => ?_) (hb := by simp only [List.length_cons, List.length_nil]; omega)
    refine sgo ?_
    (first | refine fp1 (.inl rfl) rfl rfl ?_ | refine fp2 (.inl rfl) rfl rfl rfl ?_ | refine fp3 (.inl rfl) rfl rfl rfl rfl ?_ | refine fp0 (.inr rfl) rfl ?_ | refine fp0 (.inl rfl) rfl ?_ | refine fp1 (.inr rfl) rfl rfl ?_)
    have el : (encR r).length = 1 := by rw [← bs_length, e]; rfl
    refine ⟨q', c', by rw [el]; rfl, ?_, lm_frm hf1 hl2⟩
    rw [el, e]; exact hr2
  · have hr1 : 128 ≤ r := by omega
    clear hc
    refine sgo ?_
    refine wlcall (appendNA_ok q c s r hr1 h2 h3 hb w hr) ?_
    rintro v w1 ⟨q', c', rfl, hr2, hl2⟩
    refine sgo ?_
    (first | refine fp1 (.inl rfl) rfl rfl ?_ | refine fp2 (.inl rfl) rfl rfl rfl ?_ | refine fp3 (.inl rfl) rfl rfl rfl rfl ?_ | refine fp0 (.inr rfl) rfl ?_ | refine fp0 (.inl rfl) rfl ?_ | refine fp1 (.inr rfl) rfl rfl ?_)
    exact ⟨q', c', rfl, hr2, hl2⟩

set_option maxHeartbeats 1000000 in
theorem writeRune_ok (b : Nat) (q : Option Addr) (s : List UInt8) (r : Nat) (h2 : r < 1114112) (h3 : ¬ (55296 ≤ r ∧ r ≤ 57343)) (w : World) (h : Bld TB TY w b q s) (hb : s.length + 4 ≤ 140737488355328) :
    CallsR Tryd.prog 119 #[ptrAt (pb b) 0, i32 r] w fun v w' => v = .tuple #[int (encR r).length, .nilIface] ∧ ∃ q', Bld TB TY w' b q' (s ++ encR r) ∧ Lm (b :: rb q) w (b :: rb q') w' := by
  obtain ⟨pv, c, h⟩ := h
  refine enter (l := [ptrAt (pb b) 0, i32 r]) Tryd.func119 rfl Tryd.ntmps119 (by kernel_rfl) rfl ?_
  refine sgo ?_
  refine wlcall (copyCheck_ok b pv q c s w h) ?_
  rintro v w1 ⟨rfl, h1, hl1⟩
  have ho := h1.own
  refine sgo ?_
  refine wlcall (appendRune_ok q c s r h2 h3 hb w1 h1.row) ?_
  rintro v w2 ⟨q', c', rfl, hr2, hl2⟩
  have hc2 : w2.heap[b]? = _ := (hl2.1.block b h1.own.lt h1.ne).trans h1.cell
  have hle : (encR r).length ≤ 4 := by
    rw [encR_len]; unfold encN
    repeat' split
    all_goals simp
  refine sgo ?_
  refine wlstT (v := .slice q' (s.length + (encR r).length) c') hc2 (fun w3 h3 hl3 => ?_) rfl rfl
  clear ho
  have ho : Own w3 b [.pointer (pb b), .slice q' (s.length + (encR r).length) c'] := ⟨TB, h3⟩
  refine sgo ?_
  (first | refine fp1 (.inl rfl) rfl rfl ?_ | refine fp2 (.inl rfl) rfl rfl rfl ?_ | refine fp3 (.inl rfl) rfl rfl rfl rfl ?_ | refine fp0 (.inr rfl) rfl ?_ | refine fp0 (.inl rfl) rfl ?_ | refine fp1 (.inr rfl) rfl rfl ?_)
  refine ⟨?_, q', bld_put h1 hl2 hr2 h3 hl3, write_lm hl1 hl2 hl3⟩
  show Value.tuple #[int _, .nilIface] = Value.tuple #[int _, .nilIface]
  have : ((s.length + (encR r).length : Nat) : Int) - (s.length : Int) = ((encR r).length : Int) := by omega
  rw [← this]
end Go.Proofs.YthgbpgjpnaanlaaDoor

/-
  What a right piece is: its bytes, its rune, how the language's range reads it, how the library writes it.
-/
set_option linter.unusedSimpArgs false
set_option linter.unusedVariables false
set_option linter.unnecessarySimpa false
namespace Go.Proofs.YthgbpgjpnaanlaaDoor
open Go Go.Sv Go.RowKit

/-- the four kinds of right pieces -/
def Right (l : List UInt8) : Prop :=
  (at0 l 0 < 128 ∧ pieceR l = (((at0 l 0 : Nat) : Int), 1, true))
  ∨ (1 < l.length ∧ 194 ≤ at0 l 0 ∧ at0 l 0 ≤ 223 ∧ 128 ≤ at0 l 1 ∧ at0 l 1 ≤ 191 ∧ pieceR l = (((at0 l 0 % 32 * 64 + at0 l 1 % 64 : Nat) : Int), 2, true))
  ∨ (2 < l.length ∧ 224 ≤ at0 l 0 ∧ at0 l 0 ≤ 239 ∧ 128 ≤ at0 l 1 ∧ at0 l 1 ≤ 191 ∧ (at0 l 0 = 224 → 160 ≤ at0 l 1) ∧ (at0 l 0 = 237 → at0 l 1 ≤ 159) ∧ 128 ≤ at0 l 2 ∧ at0 l 2 ≤ 191 ∧ pieceR l = ((((at0 l 0 % 16 * 64 + at0 l 1 % 64) * 64 + at0 l 2 % 64 : Nat) : Int), 3, true))
  ∨ (3 < l.length ∧ 240 ≤ at0 l 0 ∧ at0 l 0 ≤ 244 ∧ 128 ≤ at0 l 1 ∧ at0 l 1 ≤ 191 ∧ (at0 l 0 = 240 → 144 ≤ at0 l 1) ∧ (at0 l 0 = 244 → at0 l 1 ≤ 143) ∧ 128 ≤ at0 l 2 ∧ at0 l 2 ≤ 191 ∧ 128 ≤ at0 l 3 ∧ at0 l 3 ≤ 191 ∧ pieceR l = (((((at0 l 0 % 8 * 64 + at0 l 1 % 64) * 64 + at0 l 2 % 64) * 64 + at0 l 3 % 64 : Nat) : Int), 4, true))

theorem secR (c d : Nat) (h : secondR c d = true) : 128 ≤ d ∧ d ≤ 191 ∧ (c = 224 → 160 ≤ d) ∧ (c = 237 → d ≤ 159) ∧ (c = 240 → 144 ≤ d) ∧ (c = 244 → d ≤ 143) := by
  unfold secondR at h
  repeat' split at h
  all_goals simp only [Bool.and_eq_true, decide_eq_true_eq] at h
  all_goals omega

theorem right_of (l : List UInt8) (h : (pieceR l).2.2 = true) : Right l := by
  have hg2 : (goodR l).2 = true := h
  have hs0 : ¬ sizeR (at0 l 0) = 0 := by
    intro h0
    unfold goodR at hg2; rw [if_pos h0] at hg2; cases hg2
  have hg : goodR l = (goodF l (sizeR (at0 l 0)) 4 1, decide (goodF l (sizeR (at0 l 0)) 4 1 = sizeR (at0 l 0))) := by unfold goodR; rw [if_neg hs0]
  have he : goodF l (sizeR (at0 l 0)) 4 1 = sizeR (at0 l 0) := by
    rw [hg] at hg2; simpa using hg2
  have hp : pieceR l = (((accR l (sizeR (at0 l 0) - 1) 1 (firstR (at0 l 0) (sizeR (at0 l 0))) : Nat) : Int), sizeR (at0 l 0), true) := by
    have hg' : goodR l = (sizeR (at0 l 0), true) := by rw [hg, he]; simp
    unfold pieceR
    rw [hg']
    simp [hs0]
  have hc := at0_lt l 0
  have hsz : (sizeR (at0 l 0) = 1 ∧ at0 l 0 < 128) ∨ (sizeR (at0 l 0) = 2 ∧ 194 ≤ at0 l 0 ∧ at0 l 0 ≤ 223) ∨ (sizeR (at0 l 0) = 3 ∧ 224 ≤ at0 l 0 ∧ at0 l 0 ≤ 239) ∨ (sizeR (at0 l 0) = 4 ∧ 240 ≤ at0 l 0 ∧ at0 l 0 ≤ 244) := by
    revert hs0
    unfold sizeR
    repeat' split
    all_goals omega
  rcases hsz with ⟨e, h1⟩ | ⟨e, h1, h2⟩ | ⟨e, h1, h2⟩ | ⟨e, h1, h2⟩
  · left
    refine ⟨h1, ?_⟩
    rw [hp, e]; rfl
  · right; left
    rw [e] at he hp
    rw [goodF] at he
    split at he
    · rename_i hk
      split at he
      · omega
      · rename_i hk2
        have hs : secondR (at0 l 0) (at0 l 1) = true := by
          cases hh : secondR (at0 l 0) (at0 l 1) with
          | true => rfl
          | false => exact absurd (.inl ⟨rfl, hh⟩) hk2
        have := secR _ _ hs
        exact ⟨hk.2, h1, h2, this.1, this.2.1, hp⟩
    · omega
  · right; right; left
    rw [e] at he hp
    rw [goodF] at he
    split at he
    · rename_i hk
      split at he
      · omega
      · rename_i hk2
        have hs : secondR (at0 l 0) (at0 l 1) = true := by
          cases hh : secondR (at0 l 0) (at0 l 1) with
          | true => rfl
          | false => exact absurd (.inl ⟨rfl, hh⟩) hk2
        have := secR _ _ hs
        rw [goodF] at he
        split at he
        · rename_i hk3
          split at he
          · omega
          · rename_i hk4
            simp only [Nat.reduceAdd] at hk4
            exact ⟨hk3.2, h1, h2, this.1, this.2.1, this.2.2.1, this.2.2.2.1, by omega, by omega, hp⟩
        · omega
    · omega
  · right; right; right
    rw [e] at he hp
    rw [goodF] at he
    split at he
    · rename_i hk
      split at he
      · omega
      · rename_i hk2
        have hs : secondR (at0 l 0) (at0 l 1) = true := by
          cases hh : secondR (at0 l 0) (at0 l 1) with
          | true => rfl
          | false => exact absurd (.inl ⟨rfl, hh⟩) hk2
        have := secR _ _ hs
        rw [goodF] at he
        split at he
        · rename_i hk3
          split at he
          · omega
          · rename_i hk4
            rw [goodF] at he
            split at he
            · rename_i hk5
              split at he
              · omega
              · rename_i hk6
                simp only [Nat.reduceAdd] at hk4 hk6
                exact ⟨hk5.2, h1, h2, this.1, this.2.1, this.2.2.2.2.1, this.2.2.2.2.2, by omega, by omega, by omega, by omega, hp⟩
            · omega
        · omega
    · omega

theorem get_at0 (l : List UInt8) (i k : Nat) : (ByteArray.get! ⟨l.toArray⟩ (i + k)).toNat = at0 (l.drop i) k := by
  simp only [at0, List.getElem?_drop, ByteArray.get!]
  congr 1
  simp [getElem!_def]
  cases l[i + k]? <;> rfl
theorem decode_right (l : List UInt8) (i : Nat) (hr : Right (l.drop i)) : Utf8.decode ⟨l.toArray⟩ i = ((pieceR (l.drop i)).1.toNat, (pieceR (l.drop i)).2.1) := by
  have hd : ∀ k, (k < (l.drop i).length) = (i + k < l.length) := fun k => by simp; omega
  unfold Utf8.decode
  simp only [get_at0, size_str]
  unfold Right at hr
  simp only [hd] at hr
  generalize at0 (l.drop i) 0 = b0 at *
  generalize at0 (l.drop i) 1 = b1 at *
  generalize at0 (l.drop i) 2 = b2 at *
  generalize at0 (l.drop i) 3 = b3 at *
  rcases hr with ⟨h1, hp⟩ | ⟨hl, h1, h2, h3, h4, hp⟩ | ⟨hl, h1, h2, h3, h4, h5, h6, h7, h8, hp⟩ | ⟨hl, h1, h2, h3, h4, h5, h6, h7, h8, h9, h10, hp⟩
  · rw [hp, if_pos h1]; rfl
  · have e1 : b0 / 32 = 6 := by omega
    have e2 : b1 / 64 = 2 := by omega
    rw [hp, if_neg (by omega), if_pos (by simp [e1, e2, hl]), if_pos (by omega)]; rfl
  · have e1 : ¬ b0 / 32 = 6 := by omega
    have e2 : b1 / 64 = 2 := by omega
    have e3 : b0 / 16 = 14 := by omega
    have e4 : b2 / 64 = 2 := by omega
    have hl1 : i + 1 < l.length := by omega
    have ec : b0 % 16 * 4096 + b1 % 64 * 64 + b2 % 64 = (b0 % 16 * 64 + b1 % 64) * 64 + b2 % 64 := by omega
    rw [hp, if_neg (by omega), if_neg (by simp [e1]), if_pos (by simp [e3, e2, e4, hl, hl1]), ec, if_pos]
    · rfl
    · simp only [Utf8.valid, Bool.and_eq_true, Bool.or_eq_true, decide_eq_true_eq]
      omega
  · have e1 : ¬ b0 / 32 = 6 := by omega
    have e2 : b1 / 64 = 2 := by omega
    have e3 : ¬ b0 / 16 = 14 := by omega
    have e4 : b2 / 64 = 2 := by omega
    have e5 : b0 / 8 = 30 := by omega
    have e6 : b3 / 64 = 2 := by omega
    have hl1 : i + 1 < l.length := by omega
    have hl2 : i + 2 < l.length := by omega
    have ec : b0 % 8 * 262144 + b1 % 64 * 4096 + b2 % 64 * 64 + b3 % 64 = ((b0 % 8 * 64 + b1 % 64) * 64 + b2 % 64) * 64 + b3 % 64 := by omega
    rw [hp, if_neg (by omega), if_neg (by simp [e1]), if_neg (by simp [e3]), if_pos (by simp [e5, e2, e4, e6, hl, hl1, hl2]), ec, if_pos]
    · rfl
    · simp only [Utf8.valid, Bool.and_eq_true, Bool.or_eq_true, decide_eq_true_eq]
      omega

theorem ofN (c : UInt8) (n : Nat) (h : n = c.toNat) : UInt8.ofNat n = c := by subst h; exact UInt8.ofNat_toNat
/-- a right piece's rune is written as the piece's bytes -/
theorem enc_right (l : List UInt8) (h0 : 0 < l.length) (hr : Right l) : ∃ r : Nat, (pieceR l).1 = (r : Int) ∧ r < 1114112 ∧ ¬ (55296 ≤ r ∧ r ≤ 57343) ∧ encR r = l.take (pieceR l).2.1 ∧ (r < 128 → (pieceR l).2.1 = 1 ∧ at0 l 0 = r) ∧ (128 ≤ r → ∀ k, k < (pieceR l).2.1 → 128 ≤ at0 l k) := by
  have hb0 := at0_lt l 0
  have hb1 := at0_lt l 1
  have hb2 := at0_lt l 2
  have hb3 := at0_lt l 3
  rcases hr with ⟨h1, hp⟩ | ⟨hl, h1, h2, h3, h4, hp⟩ | ⟨hl, h1, h2, h3, h4, h5, h6, h7, h8, hp⟩ | ⟨hl, h1, h2, h3, h4, h5, h6, h7, h8, h9, h10, hp⟩
  · obtain ⟨a, l', rfl⟩ : ∃ a l', l = a :: l' := by
      cases l with
      | nil => simp at h0
      | cons a l' => exact ⟨a, l', rfl⟩
    have ea : at0 (a :: l') 0 = a.toNat := rfl
    refine ⟨at0 (a :: l') 0, by rw [hp], by omega, by omega, ?_, fun _ => ⟨by rw [hp], rfl⟩, fun h => by omega⟩
    rw [hp, encR, encN, if_pos h1]
    simp only [List.map_cons, List.map_nil, List.take_succ_cons, List.take_zero]
    rw [ofN a _ ea]
  · obtain ⟨a, b, l', rfl⟩ : ∃ a b l', l = a :: b :: l' := by
      match l, hl with
      | a :: b :: l', _ => exact ⟨a, b, l', rfl⟩
    have ea : at0 (a :: b :: l') 0 = a.toNat := rfl
    have eb : at0 (a :: b :: l') 1 = b.toNat := rfl
    generalize hr : at0 (a :: b :: l') 0 % 32 * 64 + at0 (a :: b :: l') 1 % 64 = r at *
    refine ⟨r, by rw [hp], by omega, by omega, ?_, fun h => by omega, fun _ k hk => ?_⟩
    · rw [hp, encR, encN, if_neg (by omega), if_pos (by omega)]
      simp only [List.map_cons, List.map_nil, List.take_succ_cons, List.take_zero]
      rw [ofN a _ (by omega), ofN b _ (by omega)]
    · rw [hp] at hk
      have : k = 0 ∨ k = 1 := by simp only [] at hk; omega
      rcases this with rfl | rfl <;> omega
  · obtain ⟨a, b, c, l', rfl⟩ : ∃ a b c l', l = a :: b :: c :: l' := by
      match l, hl with
      | a :: b :: c :: l', _ => exact ⟨a, b, c, l', rfl⟩
    have ea : at0 (a :: b :: c :: l') 0 = a.toNat := rfl
    have eb : at0 (a :: b :: c :: l') 1 = b.toNat := rfl
    have ec : at0 (a :: b :: c :: l') 2 = c.toNat := rfl
    generalize hr : (at0 (a :: b :: c :: l') 0 % 16 * 64 + at0 (a :: b :: c :: l') 1 % 64) * 64 + at0 (a :: b :: c :: l') 2 % 64 = r at *
    refine ⟨r, by rw [hp], by omega, by omega, ?_, fun h => by omega, fun _ k hk => ?_⟩
    · rw [hp, encR, encN, if_neg (by omega), if_neg (by omega), if_pos (by omega)]
      simp only [List.map_cons, List.map_nil, List.take_succ_cons, List.take_zero]
      rw [ofN a _ (by omega), ofN b _ (by omega), ofN c _ (by omega)]
    · rw [hp] at hk
      have : k = 0 ∨ k = 1 ∨ k = 2 := by simp only [] at hk; omega
      rcases this with rfl | rfl | rfl <;> omega
  · obtain ⟨a, b, c, d, l', rfl⟩ : ∃ a b c d l', l = a :: b :: c :: d :: l' := by
      match l, hl with
      | a :: b :: c :: d :: l', _ => exact ⟨a, b, c, d, l', rfl⟩
    have ea : at0 (a :: b :: c :: d :: l') 0 = a.toNat := rfl
    have eb : at0 (a :: b :: c :: d :: l') 1 = b.toNat := rfl
    have ec : at0 (a :: b :: c :: d :: l') 2 = c.toNat := rfl
    have ed : at0 (a :: b :: c :: d :: l') 3 = d.toNat := rfl
    generalize hr : ((at0 (a :: b :: c :: d :: l') 0 % 8 * 64 + at0 (a :: b :: c :: d :: l') 1 % 64) * 64 + at0 (a :: b :: c :: d :: l') 2 % 64) * 64 + at0 (a :: b :: c :: d :: l') 3 % 64 = r at *
    refine ⟨r, by rw [hp], by omega, by omega, ?_, fun h => by omega, fun _ k hk => ?_⟩
    · rw [hp, encR, encN, if_neg (by omega), if_neg (by omega), if_neg (by omega)]
      simp only [List.map_cons, List.map_nil, List.take_succ_cons, List.take_zero]
      rw [ofN a _ (by omega), ofN b _ (by omega), ofN c _ (by omega), ofN d _ (by omega)]
    · rw [hp] at hk
      have : k = 0 ∨ k = 1 ∨ k = 2 ∨ k = 3 := by simp only [] at hk; omega
      rcases this with rfl | rfl | rfl | rfl <;> omega

/-- of a text that is right the first piece is, and the rest is right -/
theorem valid_step (l : List UInt8) (h0 : 0 < l.length) (h : validR l = true) : Right l ∧ validR (l.drop (pieceR l).2.1) = true := by
  have hp := readS_piece l h0
  have hv := validS_cons l h0
  rw [valid_eq, valid_eq, h, hp] at hv
  dsimp only at hv
  by_cases hw : whatR l = 0
  · rw [if_neg (by simpa using hw)] at hv
    exact ⟨right_of l ((whatR_zero l).1 hw), hv.symm⟩
  · rw [if_pos hw] at hv; cases hv
end Go.Proofs.YthgbpgjpnaanlaaDoor

/-
  Ranges over strings; an array's elements.
-/
set_option linter.unusedSimpArgs false
set_option linter.unusedVariables false
set_option linter.unnecessarySimpa false
namespace Go.Sv
open Go Go.RowKit
/-- an iterator over l, at i -/
def It (w : World) (r : Nat) (l : List UInt8) (i : Nat) : Prop := w.heap[r]? = some (.stringIter ⟨l.toArray⟩ i)
section
variable {w w' : World} {r i b : Nat} {l : List UInt8} {M : List Nat} {T E : TypeId} {q : Option Addr} {s : List UInt8}
theorem It.lt (h : It w r l i) : r < w.heap.size := (Array.getElem?_eq_some_iff.1 h).1
theorem It.le (h : It w r l i) (hl : Le M w w') (hm : r ∉ M) : It w' r l i := (hl.block r h.lt hm).trans h
theorem It.frm (h : It w r l i) (hl : Frm w w') : It w' r l i := h.le (M := []) hl.le (by simp)
theorem It.bld (h : It w r l i) (hb : Bld T E w b q s) : r ∉ b :: rb q := by
  obtain ⟨pv, c, hb⟩ := hb
  have hr : w.heap[r]? = some (.stringIter ⟨l.toArray⟩ i) := h
  intro hm
  rcases List.mem_cons.1 hm with rfl | hm
  · rw [hb.cell] at hr; cases hr
  · rcases hb.row.2 with ⟨h1, _⟩ | ⟨g, cap, cur, hv, _, hg, _⟩
    · injection h1 with h1; subst h1; simp [rb] at hm
    · injection hv with h1; subst h1
      simp only [rb, List.mem_singleton] at hm
      subst hm
      rw [hg] at hr; cases hr
end
section
variable {P : Program} {n : Nat} {ds : Ctx} {ops : Array Oper} {Q : Exit → Ctx → Env → World → Prop} {rest : List Oper} {σ : GE} {w : World} {d : Nat} {ty t e : TypeId} {pos : String} {af : Array Edge} {x y : Operand} {l : List UInt8} {r i : Nat}
theorem wlallocT {zv : Value} {size bytes : Nat} [hi : Inf P e zv size bytes] (h : ∀ b w', w.heap.size ≤ b → w'.heap[b]? = some (.cells zv.cells e (0, 0)) → Frm w w' → WL P n ds ops Q rest (real (updG σ d ⟨ptrAt (pb b) 0, true⟩)) w') :
    WL P n ds ops Q (⟨some d, .alloc e, ty, pos, af, none⟩ :: rest) (real σ) w := by
  refine wl (h w.heap.size (w.alloc (.cells zv.cells e)) (Nat.le_refl _) (heap_alloc_new w _) (frm_alloc _ _)) ?_
  refine Y.val ?_
  simp [execOp, Instr.alloc, run_zeroValue (P := P) (t := e), newVar, newRow]
  rfl
theorem wlrange [hu : Und P t .string] (h : ∀ r w', w.heap.size ≤ r → It w' r l 0 → Frm w w' → WL P n ds ops Q rest (real (updG σ d ⟨.pointer (pb r), true⟩)) w') (hx : evl (real σ) x = str l := by rfl) :
    WL P n ds ops Q (⟨some d, .range t x, ty, pos, af, none⟩ :: rest) (real σ) w := by
  refine wl (h w.heap.size (w.alloc (.stringIter ⟨l.toArray⟩ 0)) (Nat.le_refl _) (heap_alloc_new w _) (frm_alloc _ _)) (Y.val ?_)
  simp only [execOp, hx, Instr.range, Sem.run_bind, underlying, run_program, Result.andThen_ok, hu.ok, Sem.run_pure]
  rfl
theorem run_getObj_it (h : It w r l i) : (getObj r).run P w = .ok (.stringIter ⟨l.toArray⟩ i) w := by
  have h : w.heap[r]? = _ := h
  simp [getObj, Sem.run, h]
theorem wlnext_yes (ht : It w r l i) (hi : i < l.length) (h : ∀ w', It w' r l (i + (Utf8.decode ⟨l.toArray⟩ i).2) → Le [r] w w' → WL P n ds ops Q rest (real (updG σ d ⟨.tuple #[.bool true, int i, i32 (Utf8.decode ⟨l.toArray⟩ i).1], true⟩)) w')
    (hx : evl (real σ) x = .pointer (pb r) := by rfl) :
    WL P n ds ops Q (⟨some d, .next x true, ty, pos, af, none⟩ :: rest) (real σ) w := by
  have hg := run_getObj_it (P := P) ht
  have ht : w.heap[r]? = _ := ht
  have hs := MapKept.heap_set (o' := .stringIter ⟨l.toArray⟩ (i + (Utf8.decode ⟨l.toArray⟩ i).2)) ht
  have hset : (setObj r (.stringIter ⟨l.toArray⟩ (i + (Utf8.decode ⟨l.toArray⟩ i).2))).run P w = .ok () { w with heap := w.heap.setIfInBounds r (.stringIter ⟨l.toArray⟩ (i + (Utf8.decode ⟨l.toArray⟩ i).2)) } := by
    simp [setObj, Sem.run, ht]
  refine wl (h { w with heap := w.heap.setIfInBounds r (.stringIter ⟨l.toArray⟩ (i + (Utf8.decode ⟨l.toArray⟩ i).2)) } hs.1 ⟨rfl, rfl, rfl, by simp, fun k _ hk => hs.2 k (by simpa using hk)⟩) (Y.val ?_)
  simp only [execOp, hx, Instr.next, Sem.run_bind, hg, Result.andThen_ok]
  rw [if_pos (by simpa [ByteArray.size] using hi)]
  simp only [Sem.run_bind, hset, Result.andThen_ok, Sem.run_pure]
  rfl
theorem wlnext_no (ht : It w r l i) (hi : l.length ≤ i) (h : WL P n ds ops Q rest (real (updG σ d ⟨.tuple #[.bool false], true⟩)) w)
    (hx : evl (real σ) x = .pointer (pb r) := by rfl) :
    WL P n ds ops Q (⟨some d, .next x true, ty, pos, af, none⟩ :: rest) (real σ) w := by
  have hg := run_getObj_it (P := P) ht
  refine wl h (Y.val ?_)
  simp only [execOp, hx, Instr.next, Sem.run_bind, hg, Result.andThen_ok]
  rw [if_neg (by simp [ByteArray.size]; omega)]
  simp only [Sem.run_bind, Result.andThen_ok, Sem.run_pure]
end
end Go.Sv

/-
  DERIVED: THE SHELF's CONTRACTS AT THIS DUMP, IN PLAIN WORDS (tools/lay-plain.mjs out of 'TrydShelf.lean', which tools/lay-shelf.mjs wrote): THE SAME DECLARATIONS UNDER THE SAME NAMES: 'import', 'namespace', 'open', 'def', 'theorem' AND NOTHING ELSE: no command of the shelf's: FOR A HAND-IN. Each laying: the table of numbers ('.._ren') and one theorem, a field a fact of the dump's own or the kernel's comparison; each contract: ONE APPLICATION.
-/
namespace Go.Proofs
open Go.Shelf
def Tryd.lays169_ren : Go.Shelf.Ren := ⟨fun | 169 => 66 | n => n, fun | 70 => 99 | 9 => 9 | 0 => 0 | 72 => 101 | 37 => 85 | 127 => 142 | 3 => 3 | 5 => 5 | n => n, fun | n => n⟩
theorem Tryd.lays169 : Go.Proofs.Lays.n169 Tryd.prog Tryd.lays169_ren := {
  mixed := by kernel_rfl
  f169 := Tryd.func66.trans (congrArg some (by kernel_rfl))
  t0 := Tryd.underlying0
  a0 := Tryd.isAgg0
  z0 := Tryd.sizeOf0
  v0 := Tryd.zeroValue0
  t3 := Tryd.underlying3
  a3 := Tryd.isAgg3
  z3 := Tryd.sizeOf3
  v3 := Tryd.zeroValue3
  t9 := Tryd.underlying9
  a9 := Tryd.isAgg9
  z9 := Tryd.sizeOf9
  v9 := Tryd.zeroValue9
  t37 := Tryd.underlying85
  a37 := Tryd.isAgg85
  z37 := Tryd.sizeOf85
  v37 := Tryd.zeroValue85
  t70 := Tryd.underlying99
  a70 := Tryd.isAgg99
  z70 := Tryd.sizeOf99
  v70 := Tryd.zeroValue99
  t72 := Tryd.underlying101
  a72 := Tryd.isAgg101
  z72 := Tryd.sizeOf101
  v72 := Tryd.zeroValue101
  t127 := Tryd.underlying142
  a127 := Tryd.isAgg142
  z127 := Tryd.sizeOf142
  v127 := Tryd.zeroValue142 }
theorem Tryd.Builder_Extra_169 : Builder.Extra Tryd.prog Tryd.lays169_ren := {
  sizeBuilder := by kernel_rfl
  liesBuilder := by kernel_rfl
  t5 := Tryd.underlying5
  a5 := Tryd.isAgg5
  z5 := Tryd.sizeOf5
  v5 := Tryd.zeroValue5
  infoByte := by kernel_rfl
  cellsByte := by kernel_rfl
  sizeByte := by kernel_rfl
  neB5 := by decide }
open Go.RowKit in
/-- (*strings.Builder).String: "String returns the accumulated string.": WHATEVER THE BUILDER HOLDS. (LAID: no walk: one application.) -/
theorem Tryd.Builder_String_any (B b : Nat) (l : List UInt8) (w : World) (h : Lib.IsBuilder 101 5 B b (Lib.byteCells l) w) (hBw : B ≤ w.heap.size) :
    Calls Tryd.prog 66 #[.pointer (some ⟨b, 0, none⟩)] w fun e w' => e = .returned (.string ⟨l.toArray⟩) ∧ Below B w w' := Any.Builder_String_any Tryd.lays169 Tryd.Builder_Extra_169 B b l w h hBw
def Tryd.lays241_ren : Go.Shelf.Ren := ⟨fun | 241 => 117 | 277 => 133 | n => n, fun | 70 => 99 | 3 => 3 | 0 => 0 | 72 => 101 | 37 => 85 | 5 => 5 | n => n, fun | n => n⟩
def Tryd.lays165_ren : Go.Shelf.Ren := ⟨fun | 165 => 97 | 240 => 95 | 241 => 117 | 276 => 115 | 277 => 133 | n => n, fun | 70 => 99 | 3 => 3 | 0 => 0 | 4 => 4 | 9 => 9 | 20 => 20 | 72 => 101 | 37 => 85 | 164 => 165 | 5 => 5 | n => n, fun | n => n⟩
def Tryd.lays156_ren : Go.Shelf.Ren := ⟨fun | 156 => 68 | 165 => 97 | 166 => 64 | 169 => 66 | 240 => 95 | 241 => 117 | 276 => 115 | 277 => 133 | n => n, fun | 31 => 29 | 9 => 9 | 3 => 3 | 4 => 4 | 0 => 0 | 20 => 20 | 72 => 101 | 76 => 104 | 70 => 99 | 37 => 85 | 75 => 103 | 127 => 142 | 164 => 165 | 5 => 5 | 80 => 106 | n => n, fun | n => n⟩
def Tryd.lays210_ren : Go.Shelf.Ren := ⟨fun | 210 => 157 | 206 => 120 | n => n, fun | 9 => 9 | 4 => 4 | 3 => 3 | n => n, fun | n => n⟩
def Tryd.lays103_ren : Go.Shelf.Ren := ⟨fun | 103 => 151 | 210 => 157 | 206 => 120 | n => n, fun | 9 => 9 | 4 => 4 | 24 => 122 | 3 => 3 | n => n, fun | n => n⟩
theorem Tryd.lays103 : Go.Proofs.Lays.n103 Tryd.prog Tryd.lays103_ren := {
  mixed := by kernel_rfl
  f103 := Tryd.func151.trans (congrArg some (by kernel_rfl))
  f206 := Tryd.func120.trans (congrArg some (by kernel_rfl))
  f210 := Tryd.func157.trans (congrArg some (by kernel_rfl))
  t3 := Tryd.underlying3
  a3 := Tryd.isAgg3
  z3 := Tryd.sizeOf3
  v3 := Tryd.zeroValue3
  t4 := Tryd.underlying4
  a4 := Tryd.isAgg4
  z4 := Tryd.sizeOf4
  v4 := Tryd.zeroValue4
  t9 := Tryd.underlying9
  a9 := Tryd.isAgg9
  z9 := Tryd.sizeOf9
  v9 := Tryd.zeroValue9
  t24 := Tryd.underlying122
  a24 := Tryd.isAgg122
  z24 := Tryd.sizeOf122
  v24 := Tryd.zeroValue122 }
open Go.RowKit in
/-- strings.CutPrefix: "CutPrefix returns s without the provided leading prefix string and reports whether it found the prefix. If s doesn't start with prefix, CutPrefix returns s, false. If prefix is the empty string, CutPrefix returns s, true.": IT RETURNS '(Lib.trimPrefix s p, Lib.hasPrefix s p)'; the world is as it was. (LAID: no walk: one application.) -/
theorem Tryd.strings_CutPrefix (s p : ByteArray) (w : World) :
    Calls Tryd.prog 151 #[.string s, .string p] w fun e w' => e = .returned (.tuple #[.string ⟨(Lib.trimPrefix s.data.toList p.data.toList).toArray⟩, .bool (Lib.hasPrefix s.data.toList p.data.toList)]) ∧ w' = w := Any.strings_CutPrefix Tryd.lays103 s p w
def Tryd.lays278_ren : Go.Shelf.Ren := ⟨fun | 278 => 145 | n => n, fun | 37 => 85 | 21 => 21 | 51 => 181 | 4 => 4 | 46 => 159 | 5 => 5 | n => n, fun | n => n⟩
def Tryd.lays242_ren : Go.Shelf.Ren := ⟨fun | 242 => 134 | 278 => 145 | n => n, fun | 37 => 85 | 21 => 21 | 51 => 181 | 4 => 4 | 5 => 5 | 46 => 159 | n => n, fun | n => n⟩
def Tryd.lays195_ren : Go.Shelf.Ren := ⟨fun | 195 => 135 | n => n, fun | 9 => 9 | 3 => 3 | 0 => 0 | 4 => 4 | n => n, fun | n => n⟩
def Tryd.lays217_ren : Go.Shelf.Ren := ⟨fun | 217 => 147 | 266 => 155 | n => n, fun | 9 => 9 | 5 => 5 | 3 => 3 | n => n, fun | n => n⟩
def Tryd.lays224_ren : Go.Shelf.Ren := ⟨fun | 224 => 149 | n => n, fun | 3 => 3 | n => n, fun | n => n⟩
def Tryd.lays314_ren : Go.Shelf.Ren := ⟨fun | 314 => 156 | n => n, fun | 9 => 9 | 51 => 181 | 3 => 3 | 4 => 4 | 5 => 5 | 46 => 159 | n => n, fun | n => n⟩
def Tryd.lays267_ren : Go.Shelf.Ren := ⟨fun | 267 => 150 | 314 => 156 | n => n, fun | 9 => 9 | 3 => 3 | 146 => 217 | 51 => 181 | 4 => 4 | 5 => 5 | 46 => 159 | n => n, fun | n => n⟩
def Tryd.lays219_ren : Go.Shelf.Ren := ⟨fun | 219 => 138 | 217 => 147 | 225 => 148 | 224 => 149 | 267 => 150 | 266 => 155 | 314 => 156 | n => n, fun | 9 => 9 | 3 => 3 | 4 => 4 | 5 => 5 | 46 => 159 | 146 => 217 | 51 => 181 | n => n, fun | 1 => 2 | n => n⟩
theorem Tryd.lays219 : Go.Proofs.Lays.n219 Tryd.prog Tryd.lays219_ren := {
  mixed := by kernel_rfl
  f217 := Tryd.func147.trans (congrArg some (by kernel_rfl))
  f219 := Tryd.func138.trans (congrArg some (by kernel_rfl))
  f224 := Tryd.func149.trans (congrArg some (by kernel_rfl))
  f225 := Tryd.func148.trans (congrArg some (by kernel_rfl))
  f266 := Tryd.func155.trans (congrArg some (by kernel_rfl))
  f267 := Tryd.func150.trans (congrArg some (by kernel_rfl))
  f314 := Tryd.func156.trans (congrArg some (by kernel_rfl))
  t3 := Tryd.underlying3
  a3 := Tryd.isAgg3
  z3 := Tryd.sizeOf3
  v3 := Tryd.zeroValue3
  t4 := Tryd.underlying4
  a4 := Tryd.isAgg4
  z4 := Tryd.sizeOf4
  v4 := Tryd.zeroValue4
  t5 := Tryd.underlying5
  a5 := Tryd.isAgg5
  z5 := Tryd.sizeOf5
  v5 := Tryd.zeroValue5
  t9 := Tryd.underlying9
  a9 := Tryd.isAgg9
  z9 := Tryd.sizeOf9
  v9 := Tryd.zeroValue9
  t46 := Tryd.underlying159
  a46 := Tryd.isAgg159
  z46 := Tryd.sizeOf159
  v46 := Tryd.zeroValue159
  t51 := Tryd.underlying181
  a51 := Tryd.isAgg181
  z51 := Tryd.sizeOf181
  v51 := Tryd.zeroValue181
  t146 := Tryd.underlying217
  a146 := Tryd.isAgg217
  z146 := Tryd.sizeOf217
  v146 := Tryd.zeroValue217
  g1 := by kernel_rfl }
open Go.RowKit Go.Lib in
/-- internal/stringslite.Index (what strings.Index calls) AT A substr OF ONE BYTE c: IT RETURNS 'Lib.indexByte s c'; the world is as it was. (LAID: no walk: one application.) -/
theorem Tryd.stringslite_Index_one (s : ByteArray) (c : UInt8) (w : World) :
    Calls Tryd.prog 138 #[.string s, .string ⟨#[c]⟩] w fun e w' => e = .returned (.int .i64 (Lib.indexByte s.data.toList c)) ∧ w' = w := Any.stringslite_Index_one Tryd.lays219 s c w
def Tryd.lays143_ren : Go.Shelf.Ren := ⟨fun | 143 => 123 | 219 => 138 | 217 => 147 | 225 => 148 | 224 => 149 | 267 => 150 | 266 => 155 | 314 => 156 | n => n, fun | 9 => 9 | 3 => 3 | 4 => 4 | 5 => 5 | 46 => 159 | 146 => 217 | 51 => 181 | n => n, fun | 1 => 2 | n => n⟩
def Tryd.lays144_ren : Go.Shelf.Ren := ⟨fun | 144 => 105 | 143 => 123 | 219 => 138 | 217 => 147 | 225 => 148 | 224 => 149 | 267 => 150 | 266 => 155 | 314 => 156 | n => n, fun | 9 => 9 | 4 => 4 | 3 => 3 | 5 => 5 | 46 => 159 | 146 => 217 | 51 => 181 | n => n, fun | 1 => 2 | n => n⟩
def Tryd.lays220_ren : Go.Shelf.Ren := ⟨fun | 220 => 125 | 219 => 138 | 217 => 147 | 225 => 148 | 224 => 149 | 267 => 150 | 266 => 155 | 314 => 156 | n => n, fun | 9 => 9 | 4 => 4 | 3 => 3 | 5 => 5 | 46 => 159 | 146 => 217 | 51 => 181 | n => n, fun | 1 => 2 | n => n⟩
def Tryd.lays145_ren : Go.Shelf.Ren := ⟨fun | 145 => 103 | 220 => 125 | 219 => 138 | 217 => 147 | 225 => 148 | 224 => 149 | 267 => 150 | 266 => 155 | 314 => 156 | n => n, fun | 9 => 9 | 4 => 4 | 59 => 148 | 3 => 3 | 5 => 5 | 46 => 159 | 146 => 217 | 51 => 181 | n => n, fun | 1 => 2 | n => n⟩
def Tryd.lays138_ren : Go.Shelf.Ren := ⟨fun | 138 => 122 | 195 => 135 | 218 => 137 | 143 => 123 | 219 => 138 | 217 => 147 | 225 => 148 | 224 => 149 | 267 => 150 | 266 => 155 | 314 => 156 | n => n, fun | 9 => 9 | 3 => 3 | 4 => 4 | 5 => 5 | 0 => 0 | 46 => 159 | 146 => 217 | 51 => 181 | n => n, fun | 1 => 2 | n => n⟩
def Tryd.laysM219_ren : Go.Shelf.Ren := ⟨fun | 219 => 138 | 217 => 147 | 225 => 148 | 224 => 149 | 267 => 150 | 266 => 155 | 314 => 156 | n => n, fun | 9 => 9 | 3 => 3 | 4 => 4 | 5 => 5 | 46 => 159 | 146 => 217 | 51 => 181 | n => n, fun | 1 => 2 | n => n⟩
def Tryd.laysM143_ren : Go.Shelf.Ren := ⟨fun | 143 => 123 | 219 => 138 | 217 => 147 | 225 => 148 | 224 => 149 | 267 => 150 | 266 => 155 | 314 => 156 | n => n, fun | 9 => 9 | 3 => 3 | 4 => 4 | 5 => 5 | 46 => 159 | 146 => 217 | 51 => 181 | n => n, fun | 1 => 2 | n => n⟩
def Tryd.laysM144_ren : Go.Shelf.Ren := ⟨fun | 144 => 105 | 143 => 123 | 219 => 138 | 217 => 147 | 225 => 148 | 224 => 149 | 267 => 150 | 266 => 155 | 314 => 156 | n => n, fun | 9 => 9 | 4 => 4 | 3 => 3 | 5 => 5 | 46 => 159 | 146 => 217 | 51 => 181 | n => n, fun | 1 => 2 | n => n⟩
def Tryd.laysM220_ren : Go.Shelf.Ren := ⟨fun | 220 => 125 | 219 => 138 | 217 => 147 | 225 => 148 | 224 => 149 | 267 => 150 | 266 => 155 | 314 => 156 | n => n, fun | 9 => 9 | 4 => 4 | 3 => 3 | 5 => 5 | 46 => 159 | 146 => 217 | 51 => 181 | n => n, fun | 1 => 2 | n => n⟩
def Tryd.laysM145_ren : Go.Shelf.Ren := ⟨fun | 145 => 103 | 220 => 125 | 219 => 138 | 217 => 147 | 225 => 148 | 224 => 149 | 267 => 150 | 266 => 155 | 314 => 156 | n => n, fun | 9 => 9 | 4 => 4 | 59 => 148 | 3 => 3 | 5 => 5 | 46 => 159 | 146 => 217 | 51 => 181 | n => n, fun | 1 => 2 | n => n⟩
def Tryd.laysM138_ren : Go.Shelf.Ren := ⟨fun | 138 => 122 | 195 => 135 | 218 => 137 | 143 => 123 | 219 => 138 | 217 => 147 | 225 => 148 | 224 => 149 | 267 => 150 | 266 => 155 | 314 => 156 | n => n, fun | 9 => 9 | 3 => 3 | 4 => 4 | 5 => 5 | 0 => 0 | 46 => 159 | 146 => 217 | 51 => 181 | n => n, fun | 1 => 2 | n => n⟩
def Tryd.lays206_ren : Go.Shelf.Ren := ⟨fun | 206 => 120 | n => n, fun | 9 => 9 | 4 => 4 | 3 => 3 | n => n, fun | n => n⟩
def Tryd.lays99_ren : Go.Shelf.Ren := ⟨fun | 99 => 154 | 206 => 120 | n => n, fun | 9 => 9 | 4 => 4 | 3 => 3 | n => n, fun | n => n⟩
theorem Tryd.lays99 : Go.Proofs.Lays.n99 Tryd.prog Tryd.lays99_ren := {
  mixed := by kernel_rfl
  f99 := Tryd.func154.trans (congrArg some (by kernel_rfl))
  f206 := Tryd.func120.trans (congrArg some (by kernel_rfl))
  t3 := Tryd.underlying3
  a3 := Tryd.isAgg3
  z3 := Tryd.sizeOf3
  v3 := Tryd.zeroValue3
  t4 := Tryd.underlying4
  a4 := Tryd.isAgg4
  z4 := Tryd.sizeOf4
  v4 := Tryd.zeroValue4
  t9 := Tryd.underlying9
  a9 := Tryd.isAgg9
  z9 := Tryd.sizeOf9
  v9 := Tryd.zeroValue9 }
open Go.RowKit Go.Lib in
/-- strings.HasPrefix: "HasPrefix reports whether the string s begins with prefix.": IT RETURNS 'Lib.hasPrefix s prefix'; the world is as it was. (LAID: no walk: one application.) -/
theorem Tryd.strings_HasPrefix (s p : ByteArray) (w : World) :
    Calls Tryd.prog 154 #[.string s, .string p] w fun e w' => e = .returned (.bool (Lib.hasPrefix s.data.toList p.data.toList)) ∧ w' = w := Any.strings_HasPrefix Tryd.lays99 s p w
def Tryd.lays207_ren : Go.Shelf.Ren := ⟨fun | 207 => 124 | n => n, fun | 9 => 9 | 4 => 4 | 3 => 3 | n => n, fun | n => n⟩
def Tryd.lays208_ren : Go.Shelf.Ren := ⟨fun | 208 => 100 | 206 => 120 | n => n, fun | 9 => 9 | 4 => 4 | 3 => 3 | n => n, fun | n => n⟩
def Tryd.lays101_ren : Go.Shelf.Ren := ⟨fun | 101 => 73 | 208 => 100 | 206 => 120 | n => n, fun | 9 => 9 | 4 => 4 | 3 => 3 | n => n, fun | n => n⟩
theorem Tryd.lays101 : Go.Proofs.Lays.n101 Tryd.prog Tryd.lays101_ren := {
  mixed := by kernel_rfl
  f101 := Tryd.func73.trans (congrArg some (by kernel_rfl))
  f206 := Tryd.func120.trans (congrArg some (by kernel_rfl))
  f208 := Tryd.func100.trans (congrArg some (by kernel_rfl))
  t3 := Tryd.underlying3
  a3 := Tryd.isAgg3
  z3 := Tryd.sizeOf3
  v3 := Tryd.zeroValue3
  t4 := Tryd.underlying4
  a4 := Tryd.isAgg4
  z4 := Tryd.sizeOf4
  v4 := Tryd.zeroValue4
  t9 := Tryd.underlying9
  a9 := Tryd.isAgg9
  z9 := Tryd.sizeOf9
  v9 := Tryd.zeroValue9 }
open Go.RowKit Go.Lib in
/-- strings.TrimPrefix: "TrimPrefix returns s without the provided leading prefix string. If s doesn't start with prefix, s is returned unchanged.": IT RETURNS 'Lib.trimPrefix s prefix'; the world is as it was. (LAID: no walk: one application.) -/
theorem Tryd.strings_TrimPrefix (s p : ByteArray) (w : World) :
    Calls Tryd.prog 73 #[.string s, .string p] w fun e w' => e = .returned (.string ⟨(Lib.trimPrefix s.data.toList p.data.toList).toArray⟩) ∧ w' = w := Any.strings_TrimPrefix Tryd.lays101 s p w
def Tryd.lays209_ren : Go.Shelf.Ren := ⟨fun | 209 => 102 | 207 => 124 | n => n, fun | 9 => 9 | 4 => 4 | 3 => 3 | n => n, fun | n => n⟩
def Tryd.lays102_ren : Go.Shelf.Ren := ⟨fun | 102 => 76 | 209 => 102 | 207 => 124 | n => n, fun | 9 => 9 | 4 => 4 | 3 => 3 | n => n, fun | n => n⟩
theorem Tryd.lays102 : Go.Proofs.Lays.n102 Tryd.prog Tryd.lays102_ren := {
  mixed := by kernel_rfl
  f102 := Tryd.func76.trans (congrArg some (by kernel_rfl))
  f207 := Tryd.func124.trans (congrArg some (by kernel_rfl))
  f209 := Tryd.func102.trans (congrArg some (by kernel_rfl))
  t3 := Tryd.underlying3
  a3 := Tryd.isAgg3
  z3 := Tryd.sizeOf3
  v3 := Tryd.zeroValue3
  t4 := Tryd.underlying4
  a4 := Tryd.isAgg4
  z4 := Tryd.sizeOf4
  v4 := Tryd.zeroValue4
  t9 := Tryd.underlying9
  a9 := Tryd.isAgg9
  z9 := Tryd.sizeOf9
  v9 := Tryd.zeroValue9 }
open Go.RowKit Go.Lib in
/-- strings.TrimSuffix: "TrimSuffix returns s without the provided trailing suffix string. If s doesn't end with suffix, s is returned unchanged.": IT RETURNS 'Lib.trimSuffix s suffix'; the world is as it was. (LAID: no walk: one application.) -/
theorem Tryd.strings_TrimSuffix (s p : ByteArray) (w : World) (hs : s.size ≤ 9223372036854775807) :
    Calls Tryd.prog 76 #[.string s, .string p] w fun e w' => e = .returned (.string ⟨(Lib.trimSuffix s.data.toList p.data.toList).toArray⟩) ∧ w' = w := Any.strings_TrimSuffix Tryd.lays102 s p w hs
def Tryd.lays221_ren : Go.Shelf.Ren := ⟨fun | 221 => 101 | 268 => 121 | 138 => 122 | 143 => 123 | 195 => 135 | 197 => 136 | 218 => 137 | 219 => 138 | 260 => 146 | 217 => 147 | 225 => 148 | 224 => 149 | 267 => 150 | 266 => 155 | 314 => 156 | n => n, fun | 9 => 9 | 3 => 3 | 31 => 29 | 4 => 4 | 0 => 0 | 105 => 189 | 21 => 21 | 5 => 5 | 46 => 159 | 119 => 160 | 139 => 216 | 138 => 215 | 146 => 217 | 51 => 181 | n => n, fun | 1 => 2 | 3 => 3 | 4 => 4 | n => n⟩
def Tryd.lays146_ren : Go.Shelf.Ren := ⟨fun | 146 => 75 | 221 => 101 | 268 => 121 | 138 => 122 | 143 => 123 | 195 => 135 | 197 => 136 | 218 => 137 | 219 => 138 | 260 => 146 | 217 => 147 | 225 => 148 | 224 => 149 | 267 => 150 | 266 => 155 | 314 => 156 | n => n, fun | 9 => 9 | 31 => 29 | 3 => 3 | 4 => 4 | 0 => 0 | 105 => 189 | 21 => 21 | 5 => 5 | 46 => 159 | 119 => 160 | 139 => 216 | 138 => 215 | 146 => 217 | 51 => 181 | n => n, fun | 1 => 2 | 3 => 3 | 4 => 4 | n => n⟩
theorem Tryd.lays146 : Go.Proofs.Lays.n146 Tryd.prog Tryd.lays146_ren := {
  mixed := by kernel_rfl
  f138 := Tryd.func122.trans (congrArg some (by kernel_rfl))
  f143 := Tryd.func123.trans (congrArg some (by kernel_rfl))
  f146 := Tryd.func75.trans (congrArg some (by kernel_rfl))
  f195 := Tryd.func135.trans (congrArg some (by kernel_rfl))
  f197 := Tryd.func136.trans (congrArg some (by kernel_rfl))
  f217 := Tryd.func147.trans (congrArg some (by kernel_rfl))
  f218 := Tryd.func137.trans (congrArg some (by kernel_rfl))
  f219 := Tryd.func138.trans (congrArg some (by kernel_rfl))
  f221 := Tryd.func101.trans (congrArg some (by kernel_rfl))
  f224 := Tryd.func149.trans (congrArg some (by kernel_rfl))
  f225 := Tryd.func148.trans (congrArg some (by kernel_rfl))
  f260 := Tryd.func146.trans (congrArg some (by kernel_rfl))
  f266 := Tryd.func155.trans (congrArg some (by kernel_rfl))
  f267 := Tryd.func150.trans (congrArg some (by kernel_rfl))
  f268 := Tryd.func121.trans (congrArg some (by kernel_rfl))
  f314 := Tryd.func156.trans (congrArg some (by kernel_rfl))
  t0 := Tryd.underlying0
  a0 := Tryd.isAgg0
  z0 := Tryd.sizeOf0
  v0 := Tryd.zeroValue0
  t3 := Tryd.underlying3
  a3 := Tryd.isAgg3
  z3 := Tryd.sizeOf3
  v3 := Tryd.zeroValue3
  t4 := Tryd.underlying4
  a4 := Tryd.isAgg4
  z4 := Tryd.sizeOf4
  v4 := Tryd.zeroValue4
  t5 := Tryd.underlying5
  a5 := Tryd.isAgg5
  z5 := Tryd.sizeOf5
  v5 := Tryd.zeroValue5
  t9 := Tryd.underlying9
  a9 := Tryd.isAgg9
  z9 := Tryd.sizeOf9
  v9 := Tryd.zeroValue9
  t21 := Tryd.underlying21
  a21 := Tryd.isAgg21
  z21 := Tryd.sizeOf21
  v21 := Tryd.zeroValue21
  t31 := Tryd.underlying29
  a31 := Tryd.isAgg29
  z31 := Tryd.sizeOf29
  v31 := Tryd.zeroValue29
  t46 := Tryd.underlying159
  a46 := Tryd.isAgg159
  z46 := Tryd.sizeOf159
  v46 := Tryd.zeroValue159
  t51 := Tryd.underlying181
  a51 := Tryd.isAgg181
  z51 := Tryd.sizeOf181
  v51 := Tryd.zeroValue181
  t105 := Tryd.underlying189
  a105 := Tryd.isAgg189
  z105 := Tryd.sizeOf189
  v105 := Tryd.zeroValue189
  t119 := Tryd.underlying160
  a119 := Tryd.isAgg160
  z119 := Tryd.sizeOf160
  t138 := Tryd.underlying215
  a138 := Tryd.isAgg215
  z138 := Tryd.sizeOf215
  v138 := Tryd.zeroValue215
  t139 := Tryd.underlying216
  a139 := Tryd.isAgg216
  z139 := Tryd.sizeOf216
  v139 := Tryd.zeroValue216
  t146 := Tryd.underlying217
  a146 := Tryd.isAgg217
  z146 := Tryd.sizeOf217
  v146 := Tryd.zeroValue217
  g1 := by kernel_rfl
  g3 := by kernel_rfl
  g4 := by kernel_rfl }
open Go.RowKit Go.Lib in
/-- strings.Split. (LAID: no walk: one application.) -/
theorem Tryd.strings_Split (s sep : ByteArray) (m : Int) (w : World) (hs : s.size < 4294967281) (hm : w.cell? ⟨2, 0, none⟩ = some (.int .i64 m)) (h1 : 1 ≤ sep.size) :
    Calls Tryd.prog 75 #[.string s, .string sep] w fun e w' =>
      e = .returned (.slice (some ⟨w.heap.size, 0, none⟩) (Lib.countB s sep + 1) (Lib.countB s sep + 1)) ∧ w' = w.alloc (.cells ((Lib.splitB sep 0 (Lib.countB s sep) s).map Value.string).toArray 9) := Any.strings_Split Tryd.lays146 (by kernel_rfl) s sep m w hs hm h1
def Tryd.lays157_ren : Go.Shelf.Ren := ⟨fun | 157 => 88 | 229 => 111 | 199 => 112 | 261 => 130 | 311 => 141 | 312 => 142 | n => n, fun | 9 => 9 | 31 => 29 | 3 => 3 | 5 => 5 | 4 => 4 | 119 => 160 | 0 => 0 | 40 => 162 | 152 => 178 | 21 => 21 | 154 => 180 | 51 => 181 | 141 => 183 | 196 => 201 | 193 => 198 | 198 => 204 | 49 => 202 | 194 => 199 | 201 => 207 | 226 => 212 | 46 => 159 | 227 => 213 | n => n, fun | 0 => 0 | 6 => 1 | n => n⟩
theorem Tryd.lays157 : Go.Proofs.Lays.n157 Tryd.prog Tryd.lays157_ren := {
  mixed := by kernel_rfl
  f157 := Tryd.func88.trans (congrArg some (by kernel_rfl))
  f199 := Tryd.func112.trans (congrArg some (by kernel_rfl))
  f229 := Tryd.func111.trans (congrArg some (by kernel_rfl))
  f261 := Tryd.func130.trans (congrArg some (by kernel_rfl))
  f311 := Tryd.func141.trans (congrArg some (by kernel_rfl))
  f312 := Tryd.func142.trans (congrArg some (by kernel_rfl))
  t0 := Tryd.underlying0
  a0 := Tryd.isAgg0
  z0 := Tryd.sizeOf0
  v0 := Tryd.zeroValue0
  t3 := Tryd.underlying3
  a3 := Tryd.isAgg3
  z3 := Tryd.sizeOf3
  v3 := Tryd.zeroValue3
  t4 := Tryd.underlying4
  a4 := Tryd.isAgg4
  z4 := Tryd.sizeOf4
  v4 := Tryd.zeroValue4
  t5 := Tryd.underlying5
  a5 := Tryd.isAgg5
  z5 := Tryd.sizeOf5
  v5 := Tryd.zeroValue5
  t9 := Tryd.underlying9
  a9 := Tryd.isAgg9
  z9 := Tryd.sizeOf9
  v9 := Tryd.zeroValue9
  t21 := Tryd.underlying21
  a21 := Tryd.isAgg21
  z21 := Tryd.sizeOf21
  v21 := Tryd.zeroValue21
  t31 := Tryd.underlying29
  a31 := Tryd.isAgg29
  z31 := Tryd.sizeOf29
  v31 := Tryd.zeroValue29
  t40 := Tryd.underlying162
  a40 := Tryd.isAgg162
  z40 := Tryd.sizeOf162
  v40 := Tryd.zeroValue162
  t46 := Tryd.underlying159
  a46 := Tryd.isAgg159
  z46 := Tryd.sizeOf159
  v46 := Tryd.zeroValue159
  t49 := Tryd.underlying202
  a49 := Tryd.isAgg202
  z49 := Tryd.sizeOf202
  v49 := Tryd.zeroValue202
  t51 := Tryd.underlying181
  a51 := Tryd.isAgg181
  z51 := Tryd.sizeOf181
  v51 := Tryd.zeroValue181
  t119 := Tryd.underlying160
  a119 := Tryd.isAgg160
  z119 := Tryd.sizeOf160
  t141 := Tryd.underlying183
  a141 := Tryd.isAgg183
  z141 := Tryd.sizeOf183
  v141 := Tryd.zeroValue183
  t152 := Tryd.underlying178
  a152 := Tryd.isAgg178
  z152 := Tryd.sizeOf178
  v152 := Tryd.zeroValue178
  t154 := Tryd.underlying180
  a154 := Tryd.isAgg180
  z154 := Tryd.sizeOf180
  v154 := Tryd.zeroValue180
  t193 := Tryd.underlying198
  a193 := Tryd.isAgg198
  z193 := Tryd.sizeOf198
  v193 := Tryd.zeroValue198
  t194 := Tryd.underlying199
  a194 := Tryd.isAgg199
  z194 := Tryd.sizeOf199
  v194 := Tryd.zeroValue199
  t196 := Tryd.underlying201
  a196 := Tryd.isAgg201
  z196 := Tryd.sizeOf201
  v196 := Tryd.zeroValue201
  t198 := Tryd.underlying204
  a198 := Tryd.isAgg204
  z198 := Tryd.sizeOf204
  v198 := Tryd.zeroValue204
  t201 := Tryd.underlying207
  a201 := Tryd.isAgg207
  z201 := Tryd.sizeOf207
  v201 := Tryd.zeroValue207
  t226 := Tryd.underlying212
  a226 := Tryd.isAgg212
  z226 := Tryd.sizeOf212
  v226 := Tryd.zeroValue212
  t227 := Tryd.underlying213
  a227 := Tryd.isAgg213
  z227 := Tryd.sizeOf213
  v227 := Tryd.zeroValue213
  g0 := by kernel_rfl
  g6 := by kernel_rfl }
open Go.RowKit Go.Lib in
/-- strings.Fields, the table by 'Lib.TabIs' (as strings.TrimSpace's contract). 'hg': the table's number, by its name: at a dump 'by kernel_rfl'. (LAID: no walk: one application.) -/
theorem Tryd.strings_Fields (s : ByteArray) (w : World) (hs : s.size < 4294967281) (hascii : ∀ (j : Nat) b, s.data.toList[j]? = some b → b.toNat < 128) (htab : Lib.TabIs Tryd.prog w "strings.asciiSpace" .u8 Lib.asciiSpaceTab) :
    Calls Tryd.prog 88 #[.string s] w fun e w' =>
      e = .returned (.slice (some ⟨w.heap.size, 0, none⟩) (Lib.fields s.data.toList).length (Lib.fields s.data.toList).length) ∧ w' = w.alloc (.cells ((Lib.fields s.data.toList).map fun l => Value.string ⟨l.toArray⟩).toArray 9) := Any.strings_Fields Tryd.lays157 (by kernel_rfl) (by kernel_rfl) s w hs hascii htab
def Tryd.laysM146_ren : Go.Shelf.Ren := ⟨fun | 146 => 75 | 221 => 101 | 268 => 121 | 138 => 122 | 143 => 123 | 195 => 135 | 197 => 136 | 218 => 137 | 219 => 138 | 260 => 146 | 217 => 147 | 225 => 148 | 224 => 149 | 267 => 150 | 266 => 155 | 314 => 156 | n => n, fun | 9 => 9 | 31 => 29 | 3 => 3 | 4 => 4 | 0 => 0 | 105 => 189 | 21 => 21 | 5 => 5 | 46 => 159 | 119 => 160 | 139 => 216 | 138 => 215 | 146 => 217 | 51 => 181 | n => n, fun | 1 => 2 | 3 => 3 | 4 => 4 | n => n⟩
theorem Tryd.laysM146 : Go.Proofs.LaysM.n146 Tryd.prog Tryd.laysM146_ren := {
  mixed := by kernel_rfl
  f138 := Tryd.func122.trans (congrArg some (by kernel_rfl))
  f143 := Tryd.func123.trans (congrArg some (by kernel_rfl))
  f146 := Tryd.func75.trans (congrArg some (by kernel_rfl))
  f195 := Tryd.func135.trans (congrArg some (by kernel_rfl))
  f197 := Tryd.func136.trans (congrArg some (by kernel_rfl))
  f217 := Tryd.func147.trans (congrArg some (by kernel_rfl))
  f218 := Tryd.func137.trans (congrArg some (by kernel_rfl))
  f219 := Tryd.func138.trans (congrArg some (by kernel_rfl))
  f221 := Tryd.func101.trans (congrArg some (by kernel_rfl))
  f224 := Tryd.func149.trans (congrArg some (by kernel_rfl))
  f225 := Tryd.func148.trans (congrArg some (by kernel_rfl))
  f260 := Tryd.func146.trans (congrArg some (by kernel_rfl))
  f266 := Tryd.func155.trans (congrArg some (by kernel_rfl))
  f267 := Tryd.func150.trans (congrArg some (by kernel_rfl))
  f268 := Tryd.func121.trans (congrArg some (by kernel_rfl))
  f314 := Tryd.func156.trans (congrArg some (by kernel_rfl))
  t0 := Tryd.underlying0
  a0 := Tryd.isAgg0
  z0 := Tryd.sizeOf0
  v0 := Tryd.zeroValue0
  t3 := Tryd.underlying3
  a3 := Tryd.isAgg3
  z3 := Tryd.sizeOf3
  v3 := Tryd.zeroValue3
  t4 := Tryd.underlying4
  a4 := Tryd.isAgg4
  z4 := Tryd.sizeOf4
  v4 := Tryd.zeroValue4
  t5 := Tryd.underlying5
  a5 := Tryd.isAgg5
  z5 := Tryd.sizeOf5
  v5 := Tryd.zeroValue5
  t9 := Tryd.underlying9
  a9 := Tryd.isAgg9
  z9 := Tryd.sizeOf9
  v9 := Tryd.zeroValue9
  t21 := Tryd.underlying21
  a21 := Tryd.isAgg21
  z21 := Tryd.sizeOf21
  v21 := Tryd.zeroValue21
  t31 := Tryd.underlying29
  a31 := Tryd.isAgg29
  z31 := Tryd.sizeOf29
  v31 := Tryd.zeroValue29
  t46 := Tryd.underlying159
  a46 := Tryd.isAgg159
  z46 := Tryd.sizeOf159
  v46 := Tryd.zeroValue159
  t51 := Tryd.underlying181
  a51 := Tryd.isAgg181
  z51 := Tryd.sizeOf181
  v51 := Tryd.zeroValue181
  t105 := Tryd.underlying189
  a105 := Tryd.isAgg189
  z105 := Tryd.sizeOf189
  v105 := Tryd.zeroValue189
  t119 := Tryd.underlying160
  a119 := Tryd.isAgg160
  z119 := Tryd.sizeOf160
  t138 := Tryd.underlying215
  a138 := Tryd.isAgg215
  z138 := Tryd.sizeOf215
  v138 := Tryd.zeroValue215
  t139 := Tryd.underlying216
  a139 := Tryd.isAgg216
  z139 := Tryd.sizeOf216
  v139 := Tryd.zeroValue216
  t146 := Tryd.underlying217
  a146 := Tryd.isAgg217
  z146 := Tryd.sizeOf217
  v146 := Tryd.zeroValue217
  g1 := by kernel_rfl
  g3 := by kernel_rfl
  g4 := by kernel_rfl
  i0 := by kernel_rfl
  i3 := by kernel_rfl
  i4 := by kernel_rfl
  i5 := by kernel_rfl
  i9 := by kernel_rfl
  i21 := by kernel_rfl
  i31 := by kernel_rfl
  i46 := by kernel_rfl
  i51 := by kernel_rfl
  i105 := by kernel_rfl
  i138 := by kernel_rfl
  i139 := by kernel_rfl
  i146 := by kernel_rfl
  m1 := by kernel_rfl
  s1_3 := fun w h => Go.Proofs.cell_of_shapedOpen_int (zero := #[.int .i64 0]) (t := 3) h (of_decide_eq_true (by kernel_rfl)) (by kernel_rfl) rfl (by kernel_rfl) (by kernel_rfl) Tryd.underlying3
  m3 := by kernel_rfl
  m4 := by kernel_rfl }
def Tryd.laysM157_ren : Go.Shelf.Ren := ⟨fun | 157 => 88 | 229 => 111 | 199 => 112 | 261 => 130 | 311 => 141 | 312 => 142 | n => n, fun | 9 => 9 | 31 => 29 | 3 => 3 | 5 => 5 | 4 => 4 | 119 => 160 | 0 => 0 | 40 => 162 | 152 => 178 | 21 => 21 | 154 => 180 | 51 => 181 | 141 => 183 | 196 => 201 | 193 => 198 | 198 => 204 | 49 => 202 | 194 => 199 | 201 => 207 | 226 => 212 | 46 => 159 | 227 => 213 | n => n, fun | 0 => 0 | 6 => 1 | n => n⟩
def Tryd.lays199_ren : Go.Shelf.Ren := ⟨fun | 199 => 112 | 261 => 130 | 311 => 141 | 312 => 142 | n => n, fun | 21 => 21 | 4 => 4 | 51 => 181 | 141 => 183 | 0 => 0 | 196 => 201 | 193 => 198 | 3 => 3 | 198 => 204 | 49 => 202 | 194 => 199 | 201 => 207 | 226 => 212 | 46 => 159 | 227 => 213 | n => n, fun | 6 => 1 | n => n⟩
def Tryd.lays197_ren : Go.Shelf.Ren := ⟨fun | 197 => 136 | 260 => 146 | n => n, fun | 9 => 9 | 21 => 21 | 3 => 3 | 4 => 4 | 5 => 5 | 105 => 189 | 119 => 160 | 0 => 0 | 46 => 159 | 139 => 216 | 138 => 215 | n => n, fun | 3 => 3 | 4 => 4 | n => n⟩
def Tryd.lays268_ren : Go.Shelf.Ren := ⟨fun | 268 => 121 | 195 => 135 | 197 => 136 | 260 => 146 | n => n, fun | 9 => 9 | 3 => 3 | 31 => 29 | 4 => 4 | 105 => 189 | 21 => 21 | 0 => 0 | 5 => 5 | 119 => 160 | 46 => 159 | 139 => 216 | 138 => 215 | n => n, fun | 3 => 3 | 4 => 4 | n => n⟩
def Tryd.lays260_ren : Go.Shelf.Ren := ⟨fun | 260 => 146 | n => n, fun | 9 => 9 | 21 => 21 | 3 => 3 | 4 => 4 | 5 => 5 | 119 => 160 | 0 => 0 | 46 => 159 | 139 => 216 | 138 => 215 | n => n, fun | 3 => 3 | 4 => 4 | n => n⟩
def Tryd.lays311_ren : Go.Shelf.Ren := ⟨fun | 311 => 141 | n => n, fun | 193 => 198 | 49 => 202 | 4 => 4 | 3 => 3 | 0 => 0 | 226 => 212 | 198 => 204 | 46 => 159 | n => n, fun | n => n⟩
def Tryd.lays261_ren : Go.Shelf.Ren := ⟨fun | 261 => 130 | 311 => 141 | 312 => 142 | n => n, fun | 141 => 183 | 21 => 21 | 4 => 4 | 0 => 0 | 196 => 201 | 193 => 198 | 3 => 3 | 51 => 181 | 198 => 204 | 49 => 202 | 194 => 199 | 201 => 207 | 226 => 212 | 46 => 159 | 227 => 213 | n => n, fun | n => n⟩
def Tryd.lays229_ren : Go.Shelf.Ren := ⟨fun | 229 => 111 | n => n, fun | 9 => 9 | 40 => 162 | 31 => 29 | 152 => 178 | 3 => 3 | 0 => 0 | 4 => 4 | 21 => 21 | 154 => 180 | n => n, fun | n => n⟩
def Tryd.lays312_ren : Go.Shelf.Ren := ⟨fun | 312 => 142 | n => n, fun | 194 => 199 | 51 => 181 | 4 => 4 | 3 => 3 | 0 => 0 | 227 => 213 | 201 => 207 | 46 => 159 | n => n, fun | n => n⟩
end Go.Proofs

/-
  Package token: quoted texts; the kinds' words.
-/
set_option linter.unusedSimpArgs false
set_option linter.unusedVariables false
set_option linter.unnecessarySimpa false
namespace Go.Proofs.YthgbpgjpnaanlaaDoor
open Go Go.Sv Go.RowKit

theorem string_ok (B b : Nat) (q : Option Addr) (s : List UInt8) (w : World) (h : Bld TB TY w b q s) (hB : ∀ k ∈ b :: rb q, B ≤ k) (hw : B ≤ w.heap.size) :
    CallsR Tryd.prog 66 #[ptrAt (pb b) 0] w fun v w' => v = str s ∧ Below B w w' := by
  refine Calls.mono (Tryd.Builder_String_any B b s w (h.shelf hB) hw) ?_
  rintro e w' ⟨rfl, hb⟩
  exact ⟨_, rfl, rfl, hb⟩

/-- a byte in a quoted text -/
def esc (c : UInt8) : List UInt8 := if c = 10 then [92, 110] else if c = 9 then [92, 116] else if c = 34 then [92, 34] else if c = 92 then [92, 92] else [c]
def quoteR (l : List UInt8) : List UInt8 := 34 :: l.flatMap esc ++ [34]
theorem esc_len (c : UInt8) : (esc c).length ≤ 2 := by
  unfold esc
  repeat' split
  all_goals simp
theorem escs_len (l : List UInt8) : (l.flatMap esc).length ≤ 2 * l.length := by
  induction l with
  | nil => simp
  | cons c l ih => have := esc_len c; simp only [List.flatMap_cons, List.length_append, List.length_cons]; omega
def escP (r : Nat) : List UInt8 := if r = 10 then [92, 110] else if r = 9 then [92, 116] else if r = 34 ∨ r = 92 then 92 :: encR r else encR r
theorem esc_big {l : List UInt8} (h : ∀ c ∈ l, 128 ≤ c.toNat) : l.flatMap esc = l := by
  induction l with
  | nil => rfl
  | cons c l ih =>
    have hc := h c List.mem_cons_self
    have h1 : ∀ n : UInt8, n.toNat < 128 → c ≠ n := fun n hn e => by subst e; omega
    have : esc c = [c] := by
      unfold esc
      rw [if_neg (h1 10 (by decide)), if_neg (h1 9 (by decide)), if_neg (h1 34 (by decide)), if_neg (h1 92 (by decide))]
    rw [List.flatMap_cons, this, ih fun c hc => h c (List.mem_cons_of_mem _ hc)]; rfl
theorem esc_piece (l : List UInt8) (h0 : 0 < l.length) (hr : Right l) : ∃ r : Nat, (pieceR l).1 = (r : Int) ∧ r < 1114112 ∧ ¬ (55296 ≤ r ∧ r ≤ 57343) ∧ (l.take (pieceR l).2.1).flatMap esc = escP r := by
  obtain ⟨r, h1, h2, h3, h4, h5, h6⟩ := enc_right l h0 hr
  refine ⟨r, h1, h2, h3, ?_⟩
  have hn := (pieceR_rng l h0).2
  rw [← h4]
  by_cases hs : r < 128
  · have e : encR r = [UInt8.ofNat r] := by rw [encR, encN, if_pos hs]; rfl
    unfold escP
    rw [e]
    have hi : ∀ n : Nat, n < 128 → (UInt8.ofNat r = UInt8.ofNat n ↔ r = n) := by
      intro n hn
      constructor
      · intro he
        have := congrArg UInt8.toNat he
        rw [UInt8.toNat_ofNat_of_lt' (show r < 256 by omega), UInt8.toNat_ofNat_of_lt' (show n < 256 by omega)] at this
        exact this
      · intro he; rw [he]
    have a10 := hi 10 (by decide)
    have a9 := hi 9 (by decide)
    have a34 := hi 34 (by decide)
    have a92 := hi 92 (by decide)
    simp only [List.flatMap_cons, List.flatMap_nil, List.append_nil, esc]
    change UInt8.ofNat r = 10 ↔ _ at a10
    change UInt8.ofNat r = 9 ↔ _ at a9
    change UInt8.ofNat r = 34 ↔ _ at a34
    change UInt8.ofNat r = 92 ↔ _ at a92
    by_cases c1 : r = 10
    · rw [if_pos (a10.2 c1), if_pos c1]
    · rw [if_neg (mt a10.1 c1), if_neg c1]
      by_cases c2 : r = 9
      · rw [if_pos (a9.2 c2), if_pos c2]
      · rw [if_neg (mt a9.1 c2), if_neg c2]
        by_cases c3 : r = 34
        · rw [if_pos (a34.2 c3), if_pos (.inl c3), a34.2 c3]
        · rw [if_neg (mt a34.1 c3)]
          by_cases c4 : r = 92
          · rw [if_pos (a92.2 c4), if_pos (.inr c4), a92.2 c4]
          · rw [if_neg (mt a92.1 c4), if_neg (by omega)]
  · have : ∀ c ∈ encR r, 128 ≤ c.toNat := by
      intro c hc
      rw [h4] at hc
      obtain ⟨k, hk⟩ := List.mem_iff_getElem?.1 hc
      have hkn : k < (pieceR l).2.1 := by
        rcases Nat.lt_or_ge k (pieceR l).2.1 with h | h
        · exact h
        · rw [List.getElem?_eq_none (by simp; omega)] at hk; cases hk
      have := h6 (by omega) k hkn
      rw [List.getElem?_take_of_lt hkn] at hk
      rw [at0, hk] at this
      exact this
    rw [esc_big this]
    unfold escP
    rw [if_neg (by omega), if_neg (by omega), if_neg (by omega)]

theorem esc_step (l : List UInt8) (i n : Nat) : (l.take (i + n)).flatMap esc = (l.take i).flatMap esc ++ ((l.drop i).take n).flatMap esc := by
  rw [List.take_add, List.flatMap_append]

set_option maxHeartbeats 4000000 in
theorem quoted_ok (l : List UInt8) (hv : validR l = true) (hb : l.length ≤ 1048576) (w : World) :
    PureC Tryd.prog 99 #[str l] w (str (quoteR l)) := by
  have hel := escs_len l
  refine enter (l := [str l]) Tryd.func99 rfl Tryd.ntmps99 (by kernel_rfl) rfl ?_
  refine sgo ?_
  refine wlallocT fun b w0 hbw ha0 hf0 => ?_
  have hB0 : Bld TB TY w0 b none [] := Bld.new ha0
  refine sgo ?_
  refine wlcall (writeByte_ok b none [] 34 w0 hB0 (by simp)) ?_
  rintro v w1 ⟨rfl, q1, hB1, hl1⟩
  have hq1 : ∀ x ∈ b :: rb q1, w.heap.size ≤ x := hl1.fresh hf0 (by intro x hx; simp [rb] at hx; omega)
  have hf1 := hf0.step hl1.1 (by intro x hx; simp [rb] at hx; omega)
  refine sgo ?_
  refine wlrange fun r w2 hr2 hI2 hf2 => ?_
  replace hB1 := hB1.frm hf2
  refine sgo ?_
  refine wcloop (X := Nat × Option Addr) (fun x => [(3, ptrAt (pb b) 0), (8, .pointer (pb r))])
    (fun x wr => x.1 ≤ l.length ∧ validR (l.drop x.1) = true ∧ It wr r l x.1 ∧ Bld TB TY wr b x.2 (34 :: (l.take x.1).flatMap esc) ∧ Frm w wr ∧ ∀ k ∈ b :: rb x.2, w.heap.size ≤ k)
    (fun x => l.length - x.1) (0, q1) ⟨rfl, rfl, trivial⟩ ⟨by omega, by simpa using hv, hI2, by simpa using hB1, hf1.trans hf2, hq1⟩ ?_
  rintro ⟨i, q⟩ wr ρ ⟨hil, hvi, hIt, hBl, hfr, hq⟩
  dsimp only at hil hvi hIt hBl hq ⊢
  have hrw : w.heap.size ≤ r := Nat.le_trans hf1.size hr2
  have hrb := hIt.bld hBl
  refine sgo ?_
  by_cases hi : i < l.length
  · refine wlnext_yes hIt hi fun w3 hIt3 hl3 => ?_
    have hd0 : 0 < (l.drop i).length := by simp; omega
    obtain ⟨hR, hv2⟩ := valid_step (l.drop i) hd0 hvi
    have hdec := decode_right l i hR
    obtain ⟨r0, hp1, hr1, hr2', hesc⟩ := esc_piece (l.drop i) hd0 hR
    have hrng := pieceR_rng (l.drop i) hd0
    simp only [hdec] at hIt3 ⊢
    have hp2 : (pieceR (l.drop i)).1.toNat = r0 := by rw [hp1]; rfl
    rw [hp2]
    generalize (pieceR (l.drop i)).2.1 = nn at *
    clear hdec hp1 hp2 hR
    have hB3 := hBl.le hl3 (by intro k hk hm; simp only [List.mem_singleton] at hm; subst hm; exact hrb hk)
    have hfr3 := hfr.step hl3 (by intro x hx; simp only [List.mem_singleton] at hx; subst hx; exact hrw)
    have hti := escs_len (l.take i)
    have hti2 : (l.take i).length ≤ 1048576 := by simp; omega
    have hlen : (34 :: (l.take i).flatMap esc).length ≤ 4000000 := by simp only [List.length_cons]; omega
    have hdl : (l.drop i).length = l.length - i := by simp
    have fin : ∀ q' w', Bld TB TY w' b q' ((34 :: (l.take i).flatMap esc) ++ escP r0) → Lm (b :: rb q) w3 (b :: rb q') w' →
        (i + nn ≤ l.length ∧ validR (l.drop (i + nn)) = true ∧ It w' r l (i + nn) ∧ Bld TB TY w' b q' (34 :: (l.take (i + nn)).flatMap esc) ∧ Frm w w' ∧ ∀ k ∈ b :: rb q', w.heap.size ≤ k) := by
      intro q' w' hB' hl'
      refine ⟨by omega, ?_, hIt3.le hl'.1 hrb, ?_, hfr3.step hl'.1 hq, hl'.fresh hfr3 hq⟩
      · rw [← List.drop_drop]; exact hv2
      · rw [esc_step, hesc]; exact hB'
    generalize hS : (34 :: (l.take i).flatMap esc) = S at *
    clear hIt hBl hIt3 hesc hv2 hvi hl3 hti hti2
    refine sgo ?_
    (show WC _ _ _ _ _ _ _; first | refine WC_dec rfl (fun hc => ?_) (fun hc => ?_) | refine WC_cond rfl (fun hc => ?_) (fun hc => ?_))
    · refine sgo ?_
      refine wlcall (writeString_ok b q _ [92, 110] _ hB3 (by simp only [List.length_cons, List.length_nil]; omega)) ?_
      rintro v w4 ⟨rfl, q4, hB4, hl4⟩
      refine sgo ?_
      refine ⟨(i + nn, q4), ⟨rfl, rfl, trivial⟩, fin q4 w4 ?_ hl4, by dsimp only; omega⟩
      have e : escP r0 = [92, 110] := by unfold escP; rw [if_pos (by omega)]
      rw [e]
      exact hB4
    · have hc10 : ¬ r0 = 10 := by omega
      clear hc
      refine sgo ?_
      (show WC _ _ _ _ _ _ _; first | refine WC_dec rfl (fun hc => ?_) (fun hc => ?_) | refine WC_cond rfl (fun hc => ?_) (fun hc => ?_))
      · refine sgo ?_
        refine wlcall (writeString_ok b q _ [92, 116] _ hB3 (by simp only [List.length_cons, List.length_nil]; omega)) ?_
        rintro v w4 ⟨rfl, q4, hB4, hl4⟩
        refine sgo ?_
        refine ⟨(i + nn, q4), ⟨rfl, rfl, trivial⟩, fin q4 w4 ?_ hl4, by dsimp only; omega⟩
        have e : escP r0 = [92, 116] := by unfold escP; rw [if_neg (by omega), if_pos (by omega)]
        rw [e]
        exact hB4
      · have hc9 : ¬ r0 = 9 := by omega
        clear hc
        refine sgo ?_
        (show WC _ _ _ _ _ _ _; first | refine WC_dec rfl (fun hc => ?_) (fun hc => ?_) | refine WC_cond rfl (fun hc => ?_) (fun hc => ?_))
        · have hc34 : r0 = 34 := by omega
          clear hc
          refine sgo ?_
          (show WC _ _ _ _ _ _ _; first | refine WC_dec rfl (fun hc => ?_) (fun hc => ?_) | refine WC_cond rfl (fun hc => ?_) (fun hc => ?_))
          · refine sgo ?_
            refine wlcall (writeByte_ok b q _ 92 _ hB3 (by omega)) ?_
            rintro v w4 ⟨rfl, q4, hB4, hl4⟩
            refine sgo ?_
            refine wlcall (writeRune_ok b q4 _ r0 hr1 hr2' _ hB4 (by simp only [List.length_append, List.length_singleton]; omega)) ?_
            rintro v w5 ⟨rfl, q5, hB5, hl5⟩
            refine sgo ?_
            refine ⟨(i + nn, q5), ⟨rfl, rfl, trivial⟩, fin q5 w5 ?_ (hl4.trans hl5), by dsimp only; omega⟩
            have e : escP r0 = 92 :: encR r0 := by unfold escP; rw [if_neg (by omega), if_neg (by omega), if_pos (by omega)]
            rw [e]
            rw [List.append_assoc] at hB5
            exact hB5
          · omega
        · have hc34 : ¬ r0 = 34 := by omega
          clear hc
          refine sgo ?_
          (show WC _ _ _ _ _ _ _; first | refine WC_dec rfl (fun hc => ?_) (fun hc => ?_) | refine WC_cond rfl (fun hc => ?_) (fun hc => ?_))
          · refine sgo ?_
            refine wlcall (writeByte_ok b q _ 92 _ hB3 (by omega)) ?_
            rintro v w4 ⟨rfl, q4, hB4, hl4⟩
            refine sgo ?_
            refine wlcall (writeRune_ok b q4 _ r0 hr1 hr2' _ hB4 (by simp only [List.length_append, List.length_singleton]; omega)) ?_
            rintro v w5 ⟨rfl, q5, hB5, hl5⟩
            refine sgo ?_
            refine ⟨(i + nn, q5), ⟨rfl, rfl, trivial⟩, fin q5 w5 ?_ (hl4.trans hl5), by dsimp only; omega⟩
            have e : escP r0 = 92 :: encR r0 := by unfold escP; rw [if_neg (by omega), if_neg (by omega), if_pos (by omega)]
            rw [e]
            rw [List.append_assoc] at hB5
            exact hB5
          · have hc92 : ¬ r0 = 92 := by omega
            clear hc
            refine sgo ?_
            refine wlcall (writeRune_ok b q _ r0 hr1 hr2' _ hB3 (by omega)) ?_
            rintro v w5 ⟨rfl, q5, hB5, hl5⟩
            refine sgo ?_
            refine ⟨(i + nn, q5), ⟨rfl, rfl, trivial⟩, fin q5 w5 ?_ hl5, by dsimp only; omega⟩
            have e : escP r0 = encR r0 := by unfold escP; rw [if_neg (by omega), if_neg (by omega), if_neg (by omega)]
            rw [e]
            exact hB5
  · refine wlnext_no hIt (by omega) ?_
    have hti : l.take i = l := List.take_of_length_le (by omega)
    rw [hti] at hBl
    refine sgo ?_
    refine wlcall (writeByte_ok b q _ 34 _ hBl (by simp only [List.length_cons]; omega)) ?_
    rintro v w4 ⟨rfl, q4, hB4, hl4⟩
    have hq4 := hl4.fresh hfr hq
    have hfr4 := hfr.step hl4.1 hq
    refine sgo ?_
    refine wlcall (string_ok w.heap.size b q4 _ _ hB4 hq4 hfr4.size) ?_
    rintro v w5 ⟨rfl, hb5⟩
    refine sgo ?_
    (first | refine fp1 (.inl rfl) rfl rfl ?_ | refine fp2 (.inl rfl) rfl rfl rfl ?_ | refine fp3 (.inl rfl) rfl rfl rfl rfl ?_ | refine fp0 (.inr rfl) rfl ?_ | refine fp0 (.inl rfl) rfl ?_ | refine fp1 (.inr rfl) rfl rfl ?_)
    refine ⟨rfl, ?_⟩
    exact Below.trans hfr4 hb5
end Go.Proofs.YthgbpgjpnaanlaaDoor

/-
  Arrays written out; a function's end, where its result lies in a cell.
-/
set_option linter.unusedSimpArgs false
set_option linter.unusedVariables false
set_option linter.unnecessarySimpa false
namespace Go.Sv
open Go Go.RowKit
section
variable {P : Program} {σ : Env} {w : World} {d : Option Tmp} {ty t e : TypeId} {pos : String} {af : Array Edge} {g : Option (Nat × Bool)} {x y : Operand} {v1 v2 v3 v4 v5 z1 z2 z3 z4 z5 zv : Value} {x1 x2 x3 x4 x5 : Operand} {bytes bytes' n i : Nat} {k : IntKind} 
theorem y_build5 [hu : Und P t (.array 5 e)] [hi : Inf P e zv 1 bytes] [hj : Inf P t (.agg #[z1, z2, z3, z4, z5]) 5 bytes'] (e1 : evl σ x1 = v1) (e2 : evl σ x2 = v2) (e3 : evl σ x3 = v3) (e4 : evl σ x4 = v4) (e5 : evl σ x5 = v5)
    (h1 : v1.cells = #[v1]) (h2 : v2.cells = #[v2]) (h3 : v3.cells = #[v3]) (h4 : v4.cells = #[v4]) (h5 : v5.cells = #[v5]) :
    Y P σ ⟨d, .build t #[(0, x1), (1, x2), (2, x3), (3, x4), (4, x5)], ty, pos, af, g⟩ w (.agg #[v1, v2, v3, v4, v5]) w := by
  refine Y.val ?_
  have hf : Instr.fill (fun i => some (i * 1, 1)) #[z1, z2, z3, z4, z5] [(0, v1), (1, v2), (2, v3), (3, v4), (4, v5)] = some #[v1, v2, v3, v4, v5] := by
    simp [Instr.fill, h1, h2, h3, h4, h5, Array.zipIdx]
  simp only [execOp, List.map_toArray, List.map_cons, List.map_nil, e1, e2, e3, e4, e5, Instr.build, Sem.run_bind, run_zeroValue (P := P) (t := t), Result.andThen_ok, underlying, run_program, hu.ok, Sem.run_pure, run_sizeOf (P := P) (t := e), Value.cells]
  rw [hf]
  rfl
end
theorem fpc {P : Program} {n : Nat} {fn : Func} {R : Value → World → Prop} {σ : Env} {w : World} {tt : Nat} {ty : TypeId} {ex : Exit} {b : Nat} {l : List Value} {zv : Value} {bytes : Nat} {ds : Ctx} (hex : ex = .ret ∨ ex = .normal) (hr : fn.results = #[.cell tt ty]) (ht : Nat.blt tt n = true) (hp : σ tt = .pointer (pb b)) (ho : Own w b l)
    [ha : Agg P ty true] [hi : Inf P ty zv l.length bytes] (h : R (.agg l.toArray) w) (hd : ds.ds = [] := by rfl) : fpost P n fn R ex ds σ w := by
  obtain ⟨T, ho⟩ := ho
  obtain ⟨dd, hd1, hd2⟩ := ha.ok
  obtain ⟨i, hi1, hi2, hi3, hi4⟩ := inf_size (P := P) (t := ty)
  exact fp_of hex hd (results_cell_row (P := P) hr (act n ds.ds σ).tmps w b T l.toArray (0, 0) dd (by rw [act_getD ht]; exact hp) ho hd1 (by revert hd2; cases dd <;> exact id) (by rw [hi1]; simp [hi3])) h
end Go.Sv

/-
  Package token: Print.
-/
set_option linter.unusedSimpArgs false
set_option linter.unusedVariables false
set_option linter.unnecessarySimpa false
namespace Go.Proofs.YthgbpgjpnaanlaaDoor
open Go Go.Sv Go.RowKit

def wText : List UInt8 := [116, 101, 120, 116]
def wStart : List UInt8 := [115, 116, 97, 114, 116]
def wEnd : List UInt8 := [101, 110, 100]
def wComment : List UInt8 := [99, 111, 109, 109, 101, 110, 116]
def wDoctype : List UInt8 := [100, 111, 99, 116, 121, 112, 101]
def wordsV : Value := .agg #[str wText, str wStart, str wEnd, str wComment, str wDoctype]
def wordR (k : Int) : List UInt8 := if k = 0 then wText else if k = 1 then wStart else if k = 2 then wEnd else if k = 3 then wComment else wDoctype

theorem words_ok (w : World) : PureC Tryd.prog 98 #[] w wordsV := by
  refine enter (l := []) Tryd.func98 rfl Tryd.ntmps98 (by kernel_rfl) rfl ?_
  refine sgo ?_
  refine wlalloc fun b w1 hb1 ho hf1 => ?_
  refine sgo ?_
  refine wl ?_ (y_build5 (v1 := str wText) (v2 := str wStart) (v3 := str wEnd) (v4 := str wComment) (v5 := str wDoctype) rfl rfl rfl rfl rfl rfl rfl rfl rfl rfl)
  refine wlstorea0 (vs := [str wText, str wStart, str wEnd, str wComment, str wDoctype]) ho fun w2 ho2 hl2 => ?_
  refine sgo ?_
  refine fpc (.inl rfl) rfl rfl rfl ho2 ⟨rfl, hf1.step hl2 (by simpa using hb1)⟩
end Go.Proofs.YthgbpgjpnaanlaaDoor

/-
  Package token: Print.
-/
set_option linter.unusedSimpArgs false
set_option linter.unusedVariables false
set_option linter.unnecessarySimpa false
namespace Go.Proofs.YthgbpgjpnaanlaaDoor
open Go Go.Sv Go.RowKit

def atLine (x : At) : List UInt8 := 32 :: quoteR x.n ++ [61] ++ quoteR x.v
/-- the line of a token that may be -/
def headR (t : Tok) : List UInt8 :=
  wordR t.kind ++ (if t.kind = 1 ∨ t.kind = 2 then 32 :: quoteR t.name else if t.kind = 0 ∨ t.kind = 3 then 32 :: quoteR t.text else [])
def lineR (t : Tok) : List UInt8 := headR t ++ t.attrs.flatMap atLine ++ (if t.self then [32, 47] else [])

theorem nameR_valid {attr : Bool} {l : List UInt8} (h : nameR attr l = true) : validR l = true := by
  unfold nameR at h
  simp only [Bool.and_eq_true] at h
  exact h.1.1.1
theorem attrsF_all : ∀ (es : List At) (seen : List (List UInt8)), attrsF seen es = true → ∀ x ∈ es, validR x.n = true ∧ validR x.v = true
  | [], _, _ => by simp
  | a :: es, seen, h => by
    simp only [attrsF, Bool.and_eq_true, atOk] at h
    intro x hx
    rcases List.mem_cons.1 hx with rfl | hx
    · exact ⟨nameR_valid h.1.1.1, h.1.1.2⟩
    · exact attrsF_all es _ h.2 x hx
structure MayF (t : Tok) : Prop where
  kind : 0 ≤ t.kind ∧ t.kind ≤ 4
  name : t.kind = 1 ∨ t.kind = 2 → validR t.name = true
  text : t.kind = 0 ∨ t.kind = 3 → validR t.text = true
  attrs : ∀ x ∈ t.attrs, validR x.n = true ∧ validR x.v = true
theorem may_facts (t : Tok) (h : mayR t = true) : MayF t := by
  unfold mayR at h
  have hnil : t.attrs.length = 0 → ∀ x ∈ t.attrs, validR x.n = true ∧ validR x.v = true := fun h0 x hx => by
    rw [List.eq_nil_of_length_eq_zero h0] at hx; cases hx
  split at h
  · rename_i hk
    simp only [bareR, Bool.and_eq_true, decide_eq_true_eq] at h
    exact ⟨by omega, by omega, fun _ => h.2.2, hnil h.1.2.1⟩
  split at h
  · rename_i hk
    simp only [Bool.and_eq_true, decide_eq_true_eq] at h
    exact ⟨by omega, fun _ => nameR_valid h.1, by omega, attrsF_all _ _ h.2.2⟩
  split at h
  · rename_i hk
    simp only [Bool.and_eq_true, decide_eq_true_eq] at h
    exact ⟨by omega, fun _ => nameR_valid h.1, by omega, hnil h.2.2.1⟩
  split at h
  · rename_i hk
    simp only [bareR, Bool.and_eq_true, decide_eq_true_eq] at h
    exact ⟨by omega, by omega, fun _ => h.2, hnil h.1.2.1⟩
  split at h
  · rename_i hk
    simp only [bareR, Bool.and_eq_true, decide_eq_true_eq] at h
    exact ⟨by omega, by omega, by omega, hnil h.1.2.1⟩
  · cases h

theorem quoteR_len (l : List UInt8) : (quoteR l).length ≤ 2 * l.length + 2 := by
  have := escs_len l
  simp only [quoteR, List.length_cons, List.length_append, List.length_nil]; omega
theorem wordR_len (k : Int) : (wordR k).length ≤ 7 := by
  unfold wordR
  repeat' split
  all_goals decide

theorem words_at (k : Nat) (h : (k : Int) ≤ 4) : (#[str wText, str wStart, str wEnd, str wComment, str wDoctype] : Array Value)[k]? = some (str (wordR k)) := by
  have : k = 0 ∨ k = 1 ∨ k = 2 ∨ k = 3 ∨ k = 4 := by omega
  rcases this with rfl | rfl | rfl | rfl | rfl <;> rfl
theorem atLine_len (x : At) (h : x.small) : (atLine x).length ≤ 5000000 := by
  have := quoteR_len x.n
  have := quoteR_len x.v
  have h1 := h.1
  have h2 := h.2
  simp only [atLine, List.length_cons, List.length_append, List.length_nil]; omega

set_option maxHeartbeats 8000000 in
theorem print_ok (t : Tok) (p : Option Addr) (c : Nat) (hs : t.small) (w : World) (hi : Im [] w p (t.attrs.flatMap At.cells)) :
    PureC Tryd.prog 70 #[.agg ⟨t.cells p c⟩] w (if mayR t then .tuple #[str (lineR t), int 0] else .tuple #[str [], int 70]) := by
  obtain ⟨k, nm, tx, es, sf, a, b, d⟩ := t
  have hmf := may_facts ⟨k, nm, tx, es, sf, a, b, d⟩
  have hck := fun w hi => check_ok ⟨k, nm, tx, es, sf, a, b, d⟩ p c hs w hi
  obtain ⟨h1, h2, h3, h4⟩ := hs
  dsimp only at h1 h2 h3 h4 hi hck
  generalize hln : lineR ⟨k, nm, tx, es, sf, a, b, d⟩ = ln
  generalize hhd : headR ⟨k, nm, tx, es, sf, a, b, d⟩ = hd
  have hfl := fm_len At.len es
  have hln' : ln = hd ++ es.flatMap atLine ++ (if sf then [32, 47] else []) := by rw [← hln, ← hhd]; rfl
  have hhd' : hd = wordR k ++ (if k = 1 ∨ k = 2 then 32 :: quoteR nm else if k = 0 ∨ k = 3 then 32 :: quoteR tx else []) := by rw [← hhd]; rfl
  clear hln hhd
  refine enter (l := [.agg ⟨Tok.cells ⟨k, nm, tx, es, sf, a, b, d⟩ p c⟩]) Tryd.func70 rfl Tryd.ntmps70 (by kernel_rfl) rfl ?_
  refine sgo ?_
  refine wlbox (v := .agg ⟨Tok.cells ⟨k, nm, tx, es, sf, a, b, d⟩ p c⟩) (hx := rfl) fun b1 w1 hb1 ho hf1 => ?_
  have hpc := hck w1 (hi.frm hf1)
  simp only [Tok.cells, Value.cells] at ho hpc
  clear hck
  refine sgo ?_
  refine wlpure hpc fun w2 hf2 => ?_
  replace ho := ho.frm hf2
  have hf := hf1.trans hf2
  clear hpc
  cases hm : mayR ⟨k, nm, tx, es, sf, a, b, d⟩
  · refine sgo ?_
    (first | refine fp1 (.inl rfl) rfl rfl ?_ | refine fp2 (.inl rfl) rfl rfl rfl ?_ | refine fp3 (.inl rfl) rfl rfl rfl rfl ?_ | refine fp0 (.inr rfl) rfl ?_ | refine fp0 (.inl rfl) rfl ?_ | refine fp1 (.inr rfl) rfl rfl ?_); refine ⟨?_, by (first | exact Frm.refl _ | assumption | exact Go.Sv.Sep.frm (by assumption) | (refine Frm.trans ?_ (by assumption); first | exact Frm.refl _ | assumption))⟩; (try simp only [realB, rv_true, Nat.reduceBEq, cond_true, cond_false, entG, real_lif, updGL])
    rfl
  · obtain ⟨hk, hvn, hvt, hva⟩ := hmf hm
    dsimp only at hk hvn hvt hva
    refine sgo ?_
    · clear hmf hm
      obtain ⟨kn, rfl⟩ := Int.eq_ofNat_of_zero_le hk.1
      have hk4 := hk.2
      have hwl := wordR_len kn
      refine sgo ?_
      (first | refine WC_seq ?_ | skip); refine wcdraw ?_
      refine qlcallp (fun w _ => words_ok w) ?_
      refine qgo ?_
      refine ql ?_ (YQ.ofY fun wq hwq => y_aidx rfl rfl (by omega) (words_at kn hk4))
      refine qgo ?_
      refine QL_nil ?_; intro wd hwd
      have hod := ho.frm hwd
      have hfd := hf.trans hwd
      clear ho
      refine Go.Sv.thn_normal ?_
      refine wcut (X := Unit) (fun _ => [(1, ptrAt (pb b1) 0), (5, str hd)]) (fun _ w' => Frm w w' ∧ Own w' b1 [int kn, str nm, str tx, Value.slice p es.length c, Value.bool sf, int a, int b, int d]) ?_ ?_
      · refine sgo ?_
        (show WC _ _ _ _ _ _ _; first | refine WC_dec rfl (fun hc => ?_) (fun hc => ?_) | refine WC_cond rfl (fun hc => ?_) (fun hc => ?_))
        · have hk1 : (kn : Int) = 1 := hc
          clear hc
          refine sgo ?_
          (show WC _ _ _ _ _ _ _; first | refine WC_dec rfl (fun hc => ?_) (fun hc => ?_) | refine WC_cond rfl (fun hc => ?_) (fun hc => ?_))
          · refine sgo ?_
            refine wlpure (quoted_ok nm (hvn (.inl hk1)) h1 _) fun w4 hf4 => ?_
            have hql := quoteR_len nm
            refine sgo ?_
            refine ⟨(), ⟨rfl, ?_, trivial⟩, hfd.trans hf4, hod.frm hf4⟩
            show str _ = str _
            refine congrArg (fun l => str l) ?_
            rw [hhd', if_pos (.inl hk1)]; rfl
          · omega
        · have hk1 : ¬ (kn : Int) = 1 := hc
          clear hc
          refine sgo ?_
          (show WC _ _ _ _ _ _ _; first | refine WC_dec rfl (fun hc => ?_) (fun hc => ?_) | refine WC_cond rfl (fun hc => ?_) (fun hc => ?_))
          · refine sgo ?_
            refine wlpure (quoted_ok nm (hvn (.inr hc)) h1 _) fun w4 hf4 => ?_
            have hql := quoteR_len nm
            refine sgo ?_
            refine ⟨(), ⟨rfl, ?_, trivial⟩, hfd.trans hf4, hod.frm hf4⟩
            show str _ = str _
            refine congrArg (fun l => str l) ?_
            rw [hhd', if_pos (.inr hc)]; rfl
          · have hk2 : ¬ (kn : Int) = 2 := hc
            clear hc
            refine sgo ?_
            (show WC _ _ _ _ _ _ _; first | refine WC_dec rfl (fun hc => ?_) (fun hc => ?_) | refine WC_cond rfl (fun hc => ?_) (fun hc => ?_))
            · have hk0 : (kn : Int) = 0 := hc
              clear hc
              refine sgo ?_
              (show WC _ _ _ _ _ _ _; first | refine WC_dec rfl (fun hc => ?_) (fun hc => ?_) | refine WC_cond rfl (fun hc => ?_) (fun hc => ?_))
              · refine sgo ?_
                refine wlpure (quoted_ok tx (hvt (.inl hk0)) h2 _) fun w4 hf4 => ?_
                have hql := quoteR_len tx
                refine sgo ?_
                refine ⟨(), ⟨rfl, ?_, trivial⟩, hfd.trans hf4, hod.frm hf4⟩
                show str _ = str _
                refine congrArg (fun l => str l) ?_
                rw [hhd', if_neg (by omega), if_pos (.inl hk0)]; rfl
              · omega
            · have hk0 : ¬ (kn : Int) = 0 := hc
              clear hc
              refine sgo ?_
              (show WC _ _ _ _ _ _ _; first | refine WC_dec rfl (fun hc => ?_) (fun hc => ?_) | refine WC_cond rfl (fun hc => ?_) (fun hc => ?_))
              · refine sgo ?_
                refine wlpure (quoted_ok tx (hvt (.inr hc)) h2 _) fun w4 hf4 => ?_
                have hql := quoteR_len tx
                refine sgo ?_
                refine ⟨(), ⟨rfl, ?_, trivial⟩, hfd.trans hf4, hod.frm hf4⟩
                show str _ = str _
                refine congrArg (fun l => str l) ?_
                rw [hhd', if_neg (by omega), if_pos (.inr hc)]; rfl
              · have hk3 : ¬ (kn : Int) = 3 := hc
                clear hc
                refine sgo ?_
                refine ⟨(), ⟨rfl, ?_, trivial⟩, hfd, hod⟩
                show str _ = str _
                refine congrArg (fun l => str l) ?_
                rw [hhd', if_neg (by omega), if_neg (by omega), List.append_nil]
      clear hod hfd
      rintro ⟨⟩ w5 ρ5 ⟨hf5, ho5⟩
      have hhl : hd.length ≤ 3000000 := by
        have h5 := quoteR_len nm
        have h6 := quoteR_len tx
        rw [hhd', List.length_append]
        split
        · simp only [List.length_cons]; omega
        · split
          · simp only [List.length_cons]; omega
          · simp only [List.length_nil]; omega
      clear hhd' hvn hvt
      refine sgo ?_
      refine wcloop (X := Nat × List UInt8) (fun x => [(1, ptrAt (pb b1) 0), (5, str x.2), (38, .slice p es.length c), (39, int es.length), (40, int x.1)])
        (fun x wr => x.1 ≤ es.length ∧ x.2 = hd ++ (es.take x.1).flatMap atLine ∧ x.2.length ≤ 3000000 + x.1 * 5000000 ∧ Frm w wr ∧ Own wr b1 [int kn, str nm, str tx, Value.slice p es.length c, Value.bool sf, int a, int b, int d])
        (fun x => es.length - x.1) (0, hd) ⟨rfl, rfl, rfl, rfl, rfl, trivial⟩ ⟨by omega, by simp, by simpa using hhl, hf5, ho5⟩ ?_
      clear ho5
      rintro ⟨i, acc⟩ wr ρ ⟨hil, hacc, hal, hfr, hor⟩
      dsimp only at hil hacc hal ⊢
      refine sgo ?_
      (show WC _ _ _ _ _ _ _; first | refine WC_dec rfl (fun hc => ?_) (fun hc => ?_) | refine WC_cond rfl (fun hc => ?_) (fun hc => ?_))
      · have hlt : i < es.length := by omega
        have hSg := (hi.frm hfr).sg
        have hx : es[i]? = some es[i] := List.getElem?_eq_getElem hlt
        have hseg := fm_seg At.len es hx
        have htk : (es.take (i + 1)).flatMap atLine = (es.take i).flatMap atLine ++ atLine es[i] := by rw [List.take_add_one, hx, List.flatMap_append]; simp
        have hsm := h4 es[i] (List.getElem_mem hlt)
        have hva1 := hva es[i] (List.getElem_mem hlt)
        generalize es[i] = x at *
        have hxl := atLine_len x hsm
        have hps : ∃ q, p = some q := hSg.some (by omega)
        refine sgo ?_
        refine wlalloc fun b2 w6 hb2 ho2 hf6 => ?_
        refine wlstorea0 (hv := by exact ⟨by rw [hseg]; rfl, rfl⟩) (h1 := by rw [hseg]; simp [At.cells, Value.oneCell']) ho2 fun w7 ho7 hl7 => ?_
        rw [hseg] at ho7
        have hb2w : w.heap.size ≤ b2 := Nat.le_trans hfr.size hb2
        have hfr7 := (hfr.trans hf6).step hl7 (by simpa using hb2w)
        have hne : b1 ≠ b2 := by have := hor.lt; omega
        have hor7 := (hor.frm hf6).le hl7 (by simpa using hne)
        simp only [At.cells] at ho7
        clear hseg hSg ho2 hor
        have hqn := quoteR_len x.n
        have hqv := quoteR_len x.v
        have hs1 := hsm.1
        have hs2 := hsm.2
        refine sgo ?_
        (first | refine WC_seq ?_ | skip); refine wcdraw ?_
        refine qgo ?_
        refine qlcallp (fun w _ => quoted_ok x.n hva1.1 hsm.1 w) ?_
        refine qgo ?_
        refine qlcallp (fun w _ => quoted_ok x.v hva1.2 hsm.2 w) ?_
        refine qgo ?_
        refine QL_nil ?_; intro wd hwd
        have hfr8 := hfr7.trans hwd
        have hor8 := hor7.frm hwd
        refine sgo ?_
        refine ⟨(i + 1, acc ++ atLine x), ⟨rfl, ?_, rfl, rfl, rfl, trivial⟩, ⟨by dsimp only; omega, ?_, ?_, hfr8, hor8⟩, by dsimp only; omega⟩
        · show str _ = str _
          refine congrArg (fun l => str l) ?_
          simp [atLine]
        · dsimp only
          rw [hacc, htk, List.append_assoc]
        · dsimp only
          rw [List.length_append]; omega
      · have htk : es.take i = es := List.take_of_length_le (by omega)
        rw [htk] at hacc
        refine sgo ?_
        (show WC _ _ _ _ _ _ _; first | refine WC_dec rfl (fun hc => ?_) (fun hc => ?_) | refine WC_cond rfl (fun hc => ?_) (fun hc => ?_))
        · refine sgo ?_
          (first | refine fp1 (.inl rfl) rfl rfl ?_ | refine fp2 (.inl rfl) rfl rfl rfl ?_ | refine fp3 (.inl rfl) rfl rfl rfl rfl ?_ | refine fp0 (.inr rfl) rfl ?_ | refine fp0 (.inl rfl) rfl ?_ | refine fp1 (.inr rfl) rfl rfl ?_); refine ⟨?_, by (first | exact Frm.refl _ | assumption | exact Go.Sv.Sep.frm (by assumption) | (refine Frm.trans ?_ (by assumption); first | exact Frm.refl _ | assumption))⟩; (try simp only [realB, rv_true, Nat.reduceBEq, cond_true, cond_false, entG, real_lif, updGL])
          rw [hln', ← hacc, hc]; rfl
        · refine sgo ?_
          (first | refine fp1 (.inl rfl) rfl rfl ?_ | refine fp2 (.inl rfl) rfl rfl rfl ?_ | refine fp3 (.inl rfl) rfl rfl rfl rfl ?_ | refine fp0 (.inr rfl) rfl ?_ | refine fp0 (.inl rfl) rfl ?_ | refine fp1 (.inr rfl) rfl rfl ?_); refine ⟨?_, by (first | exact Frm.refl _ | assumption | exact Go.Sv.Sep.frm (by assumption) | (refine Frm.trans ?_ (by assumption); first | exact Frm.refl _ | assumption))⟩; (try simp only [realB, rv_true, Nat.reduceBEq, cond_true, cond_false, entG, real_lif, updGL])
          rw [hln', ← hacc, hc]; simp
end Go.Proofs.YthgbpgjpnaanlaaDoor

/-
  Package sieveref07: Quote and Line; package token: List.
-/
set_option linter.unusedSimpArgs false
set_option linter.unusedVariables false
set_option linter.unnecessarySimpa false
namespace Go.Proofs.YthgbpgjpnaanlaaDoor
open Go Go.Sv Go.RowKit

end Go.Proofs.YthgbpgjpnaanlaaDoor

/-
  sievelaw07: the document's examples.
-/
set_option linter.unusedSimpArgs false
set_option linter.unusedVariables false
set_option linter.unnecessarySimpa false
namespace Go.Sv
open Go Go.RowKit
end Go.Sv
namespace Go.Proofs.YthgbpgjpnaanlaaDoor
open Go Go.Sv Go.RowKit

def exAt : At := ⟨[104, 114, 101, 102], [120, 34, 121]⟩
def exTok : Tok := ⟨1, [97], [], [exAt], false, 0, 0, 0⟩
def exBad : Tok := ⟨1, [65], [], [], false, 0, 0, 0⟩
def exLine : List UInt8 := [115, 116, 97, 114, 116, 32, 34, 97, 34, 32, 34, 104, 114, 101, 102, 34, 61, 34, 120, 92, 34, 121, 34]
end Go.Proofs.YthgbpgjpnaanlaaDoor

/-
  Lists of tokens in memory; package token: List; sievelaw07: TokenPrints.
-/
set_option linter.unusedSimpArgs false
set_option linter.unusedVariables false
set_option linter.unnecessarySimpa false
namespace Go.Proofs.YthgbpgjpnaanlaaDoor
open Go Go.Sv Go.RowKit

/-- a token as it lies in memory: and where its attributes lie -/
structure TokM where
  t : Tok
  p : Option Addr
  c : Nat
def TokM.cells (m : TokM) : List Value := m.t.cells m.p m.c
theorem TokM.len (m : TokM) : m.cells.length = 8 := rfl
structure Toks (w : World) (p : Option Addr) (ms : List TokM) : Prop where
  im : Im [] w p (ms.flatMap TokM.cells)
  each : ∀ m ∈ ms, Im [] w m.p (m.t.attrs.flatMap At.cells)
theorem Toks.frm {w w' : World} {p : Option Addr} {ms : List TokM} (h : Toks w p ms) (hf : Frm w w') : Toks w' p ms := ⟨h.im.frm hf, fun m hm => (h.each m hm).frm hf⟩

def At.wt (x : At) : Nat := x.n.length + x.v.length + 3
def Tok.wt (t : Tok) : Nat := 8 + t.name.length + t.text.length + (t.attrs.map At.wt).sum
theorem sum_mem {α : Type} (f : α → Nat) (l : List α) {x : α} (h : x ∈ l) : f x ≤ (l.map f).sum := by
  induction l with
  | nil => cases h
  | cons y l ih =>
    simp only [List.map_cons, List.sum_cons]
    rcases List.mem_cons.1 h with rfl | h
    · omega
    · have := ih h; omega
theorem sum_len {α : Type} (f : α → Nat) (l : List α) (h : ∀ x ∈ l, 1 ≤ f x) : l.length ≤ (l.map f).sum := by
  induction l with
  | nil => simp
  | cons y l ih =>
    simp only [List.map_cons, List.sum_cons, List.length_cons]
    have := ih fun x hx => h x (List.mem_cons_of_mem _ hx)
    have := h y List.mem_cons_self
    omega
theorem sum_take {α : Type} (f : α → Nat) (l : List α) (i : Nat) : ((l.take i).map f).sum ≤ (l.map f).sum := by
  conv => rhs; rw [← List.take_append_drop i l, List.map_append, List.sum_append]
  omega
def lnR (t : Tok) : List UInt8 := lineR t ++ [10]
def wts (ms : List TokM) : Nat := (ms.map fun m => m.t.wt).sum
def lns (ms : List TokM) : List UInt8 := ms.flatMap fun m => lnR m.t
def allMay (ms : List TokM) : Bool := ms.all fun m => mayR m.t
end Go.Proofs.YthgbpgjpnaanlaaDoor

/-
  Regions that draw their order and write: what stands in the world is told by what has been carried out.
-/
set_option linter.unusedSimpArgs false
set_option linter.unusedVariables false
set_option linter.unnecessarySimpa false
namespace Go.Sv
open Go Go.RowKit

def fl (b : Array Bool) : Nat → Bool := fun k => b.getD k false
def on (L : Nat → Bool) (i : Nat) : Nat → Bool := fun k => match Nat.beq k i with | true => true | false => L k
theorem on_same (L : Nat → Bool) (i : Nat) : on L i i = true := by simp [on, Nat.beq_refl]
theorem on_ne (L : Nat → Bool) {i k : Nat} (h : k ≠ i) : on L i k = L k := by
  have : Nat.beq k i = false := by
    cases hb : Nat.beq k i
    · rfl
    · exact absurd (Nat.eq_of_beq_eq_true hb) h
  simp [on, this]
theorem fl_set {b : Array Bool} {i : Nat} (hi : i < b.size) : fl (b.setIfInBounds i true) = on (fl b) i := by
  funext k
  by_cases e : k = i
  · subst e; rw [on_same]; simp [fl, hi]
  · rw [on_ne _ e]; exact getD_set_ne false (Ne.symm e)
def bindsOn (o : Oper) (j : Nat) : Bool := o.after.toList.any fun e => Region.binds .any e && e.on == j
theorem bindsOn_iff {o : Oper} {j : Nat} : bindsOn o j = true ↔ ∃ e ∈ o.after, Region.binds .any e = true ∧ e.on = j := by
  simp only [bindsOn, List.any_eq_true, Bool.and_eq_true, beq_iff_eq, Array.mem_toList_iff]
def Clo (ops : Array Oper) (L : Nat → Bool) : Prop := ∀ j oj, ops[j]? = some oj → L j = true → ∀ i, bindsOn oj i = true → L i = true
/-- what is known when operation k comes up: it stands behind what it waits for, ahead of what waits for it -/
structure Up (ops : Array Oper) (o : Oper) (k : Nat) (L : Nat → Bool) : Prop where
  now : L k = false
  did : ∀ j, bindsOn o j = true → L j = true
  ahead : ∀ j oj, ops[j]? = some oj → bindsOn oj k = true → L j = false
/-- an operation yields v, and behind it T holds -/
def sees (P : Program) (T : World → Prop) (v : Value) : Result Next → Prop
  | .ok (.value u) w' => u = v ∧ T w'
  | .ok .skip w' => v = undef ∧ T w'
  | .ok (.enter f args) w' => Calls P f args w' (fun e w'' => e = .returned v ∧ T w'')
  | _ => False

section
variable {P : Program} {ops : Array Oper} {S : (Nat → Bool) → World → Prop}
def YA (P : Program) (ops : Array Oper) (S : (Nat → Bool) → World → Prop) (o : Oper) (k : Nat) (v : Value) (ev : Operand → Value) : Prop :=
  ∀ L w, Up ops o k L → S L w → sees P (S (on L k)) v ((execOp ev o).run P w)
def ZA (P : Program) (ops : Array Oper) (S : (Nat → Bool) → World → Prop) (o : Oper) (k : Nat) (v : Value) (a : Act) : Prop :=
  (Region.wanted o (yielded ops a.tmps) = true ∧ ∀ L w, Up ops o k L → S L w → sees P (S (on L k)) v ((execOp a.eval o).run P w)) ∨
  (Region.wanted o (yielded ops a.tmps) = false ∧ v = undef ∧ ∀ L w, Up ops o k L → S L w → S (on L k) w)
def gOp (P : Program) (ops : Array Oper) (S : (Nat → Bool) → World → Prop) (i : Nat) (K : Act → Prop) (a : Act) : Prop := ∃ o v, ops[i]? = some o ∧ ZA P ops S o i v a ∧ K (a.put o.dst v)
def wpG (P : Program) (ops : Array Oper) (S : (Nat → Bool) → World → Prop) (Qf : Act → Prop) : Nat → Array Bool → Act → Prop
  | 0, listed, a => Region.ready .any ops listed = [] ∧ (∀ k, k < ops.size → fl listed k = true) ∧ Qf a
  | f + 1, listed, a => Region.ready .any ops listed ≠ [] ∧ ∀ i ∈ Region.ready .any ops listed, gOp P ops S i (fun a' => wpG P ops S Qf f (listed.setIfInBounds i true) a') a

theorem clo_on {L : Nat → Bool} {i : Nat} {o : Oper} (hc : Clo ops L) (hi : ops[i]? = some o) (hd : ∀ j, bindsOn o j = true → L j = true) : Clo ops (on L i) := by
  intro j oj hj hL k hk
  by_cases e : j = i
  · subst e
    rw [hi] at hj
    cases hj
    have := hd k hk
    by_cases e2 : k = j
    · subst e2; exact on_same _ _
    · rw [on_ne _ e2]; exact this
  · rw [on_ne _ e] at hL
    have := hc j oj hj hL k hk
    by_cases e2 : k = i
    · subst e2; exact on_same _ _
    · rw [on_ne _ e2]; exact this

theorem ZA.of_same {o : Oper} {k : Nat} {v : Value} {a a' : Act} (hy : ZA P ops S o k v a) (he : execOp a'.eval o = execOp a.eval o)
    (hw : Region.wanted o (yielded ops a'.tmps) = Region.wanted o (yielded ops a.tmps)) : ZA P ops S o k v a' := by
  unfold ZA at *
  rw [he, hw]
  exact hy
/-- the lexical walk -/
def QS (P : Program) (ops : Array Oper) (S : (Nat → Bool) → World → Prop) (Qf : Env → Prop) : Nat → List Oper → Env → Prop
  | _, [], σ => Qf σ
  | k, o :: l, σ => ∃ v, ((Region.wanted o (yl ops σ) = true ∧ YA P ops S o k v (evl σ)) ∨ (Region.wanted o (yl ops σ) = false ∧ v = undef ∧ ∀ L w, Up ops o k L → S L w → S (on L k) w)) ∧ QS P ops S Qf (k + 1) l (updO σ o.dst v)
end
section
variable {P : Program} {n : Nat} {ds : Ctx} {Q : Exit → Ctx → Env → World → Prop} {S : (Nat → Bool) → World → Prop} {σ : Env} {w : World}
end

/-! ## The rules as a script meets them -/
section
variable {P : Program} {n : Nat} {ds : Ctx} {ops : Array Oper} {Q : Exit → Ctx → Env → World → Prop} {S : (Nat → Bool) → World → Prop} {Qf : Env → Prop} {rest : List Oper} {σ : GE} {w : World} {v : Value} {d k : Nat} {op : Op} {ty : TypeId} {pos : String} {af : Array Edge} {nd : Bool}
end
end Go.Sv
namespace Go.Sv
attribute [irreducible] QS
end Go.Sv

/-
  For each kind of operation that does not look at the world, a rule for regions that draw and write.
-/
set_option linter.unusedSimpArgs false
set_option linter.unusedVariables false
set_option linter.unnecessarySimpa false
namespace Go.Sv
open Go Go.RowKit
section
variable {P : Program} {ops : Array Oper} {S : (Nat → Bool) → World → Prop} {Qf : Env → Prop} {rest : List Oper} {σ : GE} {w : World} {v : Value} {d k : Nat} {ty : TypeId} {pos : String} {af : Array Edge}

end
end Go.Sv

/-
  Stores into slices of one's own; lists of records.
-/
set_option linter.unusedSimpArgs false
set_option linter.unusedVariables false
set_option linter.unnecessarySimpa false
namespace Go.Sv
open Go Go.RowKit
section
variable {P : Program} {n : Nat} {ds : Ctx} {ops : Array Oper} {Q : Exit → Ctx → Env → World → Prop} {rest : List Oper} {σ : GE} {w : World} {v : Value} {d : Nat} {ty t e : TypeId} {pos : String} {af : Array Edge} {x y : Operand} {zv : Value} {size sz bytes m c i k : Nat} {p : Option Addr} {xs : List Value} {S : (Nat → Bool) → World → Prop} {Qf : Env → Prop}
end
section
variable {α : Type} {f : α → List Value} {k : Nat}
end
end Go.Sv
/-! ## append where there is room: in place -/
namespace Go.Sv
open Go Go.RowKit
section
variable {P : Program} {n : Nat} {ds : Ctx} {ops : Array Oper} {Q : Exit → Ctx → Env → World → Prop} {rest : List Oper} {σ : GE} {w : World} {v : Value} {d : Nat} {ty t t' e e' : TypeId} {pos : String} {af : Array Edge} {x y : Operand} {zv : Value} {size bytes m c c' i k j : Nat} {p q : Option Addr} {xs news : List Value}
/-- a slice written out, of no elements -/
theorem wlb0 [hu : Und P t (.slice e)] [hi : Inf P e zv size bytes] (h : ∀ b w', w.heap.size ≤ b → Row w' size (pb b) 0 0 [] → Frm w w' → WL P n ds ops Q rest (real (updG σ d ⟨.slice (pb b) 0 0, true⟩)) w') :
    WL P n ds ops Q (⟨some d, .buildSlice t 0 #[], ty, pos, af, none⟩ :: rest) (real σ) w := by
  refine wl (h w.heap.size (w.alloc (.cells #[] e)) (Nat.le_refl _) (Row.of_own (own_alloc _ _ _) (by simp) (by omega)) (frm_alloc _ _)) (Y.val ?_)
  simp only [execOp, Instr.buildSlice, Sem.run_bind, underlying, run_program, Result.andThen_ok, hu.ok, Sem.run_pure, run_sizeOf (P := P) (t := e), Nat.zero_mul]
  simp [Instr.fill, newRow]
  refine congrArg (fun cs => w.alloc (Obj.cells cs e)) ?_
  apply Array.ext'
  simp
end
end Go.Sv

