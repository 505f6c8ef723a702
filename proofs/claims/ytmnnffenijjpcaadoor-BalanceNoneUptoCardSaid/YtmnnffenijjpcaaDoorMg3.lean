/-
  Our texts SvMap, SvTokC, SvTokD, SvBld, SvStr, SvBs, SvRune, SvDec, SvRange, Shelf, SvQuote, SvFp, SvTokE, SvTokF, SvTokG, SvLives07, SvTokH, SvDraw, SvDraw2, SvRowS, SvSep, SvEvA, SvNm, SvMend, SvMendB, SvIter, SvRunes, SvRunesB, SvMendC, SvPl1, SvLkA, SvLkB, SvLkC, SvLkD, SvLn, SvIn, SvInL, SvInN, SvInM, joined.
-/
import Derived.Test.YtmnnffenijjpcaaDoorMg2
import Derived.MapKept
import Derived.Lib.Builder
import Derived.Lib.AppendStr
import Derived.Laws.Externs
import Derived.Shelf.Strings.Trim
import Derived.Shelf.Small.Utf8
import Derived.Shelf.Small.Strs
import Derived.Shelf.Strings.Search1
import Derived.Shelf.Strings.Fields
import Derived.Shelf.LaysM
import Derived.Shelf.Strings.SplitShaped
import Derived.Shelf.Unicode.Latin
import Derived.Shelf.Unicode.Decode
import Derived.Shelf.Strings.Runes
import Derived.Shelf.Strings.AsciiSet
import Derived.Shelf.Unicode.DecodeSlow
import Derived.Shelf.Unicode.DecodeAny
import Derived.Shelf.Unicode.Is16White
import Derived.Shelf.Unicode.IsSpaceAny
import Derived.Shelf.Unicode.DecodeLast
import Derived.Shelf.Unicode.Is16WhiteD
import Derived.Shelf.Unicode.IsSpaceAnyD
import Derived.Shelf.Strings.FieldsAny
import Derived.Shelf.Strings.FieldsFuncAny
import Derived.Shelf.Unicode.Is16Any
import Derived.Shelf.Unicode.Is32Any
import Derived.Shelf.Unicode.ExclAny
import Derived.Shelf.Strings.FieldsFuncGrows
import Derived.Ground.Names2Prog
import Derived.Shelf.Slices.Clone
import Derived.Ground.SlgnProg
import Derived.Shelf.SlicesE.Clone
import Derived.Test.YtmnnffenijjpcaaDoorProg
import Derived.Laws.Cover4
import Derived.Laws.MakeOwn
import Derived.Lib.LaidTab
/-
  Maps with keys that are strings; lists of records in cells.
-/
set_option linter.unusedSimpArgs false
set_option linter.unusedVariables false
set_option linter.unnecessarySimpa false
namespace Go.Sv
open Go Go.RowKit

/-! ## Lists of records -/
section
variable {α : Type} {f : α → List Value} {k : Nat}
theorem fm_len (h : ∀ x, (f x).length = k) (l : List α) : (l.flatMap f).length = l.length * k := by
  induction l with
  | nil => simp
  | cons x l ih => simp [List.flatMap_cons, ih, h, Nat.add_mul]; omega
theorem fm_get (h : ∀ x, (f x).length = k) (l : List α) : ∀ (i j : Nat), j < k → (l.flatMap f)[i * k + j]? = (l[i]?).bind fun x => (f x)[j]? := by
  induction l with
  | nil => intro i j _; simp
  | cons x l ih =>
    intro i j hj
    rw [List.flatMap_cons]
    cases i with
    | zero => simp only [Nat.zero_mul, Nat.zero_add]; rw [List.getElem?_append_left (by rw [h]; exact hj)]; simp
    | succ i =>
      rw [List.getElem?_append_right (by rw [h, Nat.succ_mul]; omega), h, show (i + 1) * k + j - k = i * k + j from by rw [Nat.succ_mul]; omega, ih i j hj]
      simp
theorem fm_seg (h : ∀ x, (f x).length = k) (l : List α) {i : Nat} {x : α} (hx : l[i]? = some x) : ((l.flatMap f).drop (i * k)).take k = f x := by
  apply List.ext_getElem?
  intro j
  rcases Nat.lt_or_ge j k with hj | hj
  · rw [List.getElem?_take_of_lt hj, List.getElem?_drop, fm_get h l i j hj, hx]; rfl
  · rw [List.getElem?_eq_none (by simp; omega), List.getElem?_eq_none (by rw [h]; exact hj)]
end

/-! ## Maps -/
def MMap (w : World) (m : Nat) (kv : List (List UInt8 × Value)) : Prop := ∃ es clock, w.heap[m]? = some (.map es clock) ∧ es.toList.map (fun e => (e.key, e.val)) = kv.map fun x => (str x.1, x.2)
/-- a map to true: a set -/
def MSet (w : World) (m : Nat) (ks : List (List UInt8)) : Prop := MMap w m (ks.map fun k => (k, .bool true))

section
variable {P : Program} {w w' : World} {m : Nat} {kv : List (List UInt8 × Value)} {ks : List (List UInt8)} {s : List UInt8}
theorem MMap.lt (h : MMap w m kv) : m < w.heap.size := by
  obtain ⟨es, cl, h, _⟩ := h
  exact (Array.getElem?_eq_some_iff.1 h).1
theorem MMap.le {M : List Nat} (h : MMap w m kv) (hl : Le M w w') (hm : m ∉ M) : MMap w' m kv := by
  have := h.lt
  obtain ⟨es, cl, h, h2⟩ := h
  exact ⟨es, cl, by rw [hl.block m this hm]; exact h, h2⟩
theorem MMap.frm (h : MMap w m kv) (hl : Frm w w') : MMap w' m kv := h.le (M := []) hl.le (by simp)
theorem MSet.lt (h : MSet w m ks) : m < w.heap.size := MMap.lt h
theorem MSet.le {M : List Nat} (h : MSet w m ks) (hl : Le M w w') (hm : m ∉ M) : MSet w' m ks := MMap.le h hl hm
theorem MSet.frm (h : MSet w m ks) (hl : Frm w w') : MSet w' m ks := MMap.frm h hl

theorem same_str (a b : List UInt8) : Instr.sameNow .string (str a) (str b) = some (decide (a = b)) := by
  simp only [Instr.sameNow]
  congr 1
  show (a.toArray == b.toArray) = decide (a = b)
  simp [lbeq]
theorem find_kv : ∀ (es : List MapEntry) (kv : List (List UInt8 × Value)) (i : Nat), es.map (fun e => (e.key, e.val)) = kv.map (fun x => (str x.1, x.2)) →
    ∃ r, Instr.findNow .string (str s) es i = some r ∧ r.map (·.2) = kv.lookup s
  | [], kv, i, h => by
    have : kv = [] := by simpa using h.symm
    subst this
    exact ⟨none, rfl, rfl⟩
  | e :: es, [], i, h => by simp at h
  | e :: es, x :: kv, i, h => by
    simp only [List.map_cons, List.cons.injEq, Prod.mk.injEq] at h
    obtain ⟨⟨h1, h2⟩, h3⟩ := h
    obtain ⟨r, hr, hr2⟩ := find_kv es kv (i + 1) h3
    simp only [Instr.findNow, h1, same_str]
    by_cases e1 : s = x.1
    · rw [decide_eq_true e1]
      refine ⟨some (i, e.val), rfl, ?_⟩
      subst e1
      simp [List.lookup, h2]
    · rw [decide_eq_false e1]
      refine ⟨r, hr, ?_⟩
      have : (s == x.1) = false := by simpa using e1
      rw [hr2]
      simp [List.lookup, this]
variable {σ : Env} {d : Option Tmp} {ty t t' kt vt : TypeId} {pos : String} {af : Array Edge} {g : Option (Nat × Bool)} {x y z : Operand} {zv : Value} {size bytes : Nat}
theorem y_lookup [hu : Und P t (.map kt vt)] [hk : Und P kt .string] [hi : Inf P vt zv size bytes] (hx : evl σ x = .map (some m)) (hy : evl σ y = str s) (hm : MMap w m kv) :
    Y P σ ⟨d, .lookup t x y false, ty, pos, af, g⟩ w ((kv.lookup s).getD zv) w := by
  refine Y.val ?_
  obtain ⟨es, cl, h1, h2⟩ := hm
  obtain ⟨r, hr, hr2⟩ := find_kv (s := s) es.toList kv 0 h2
  have hc := MapKept.run_checkKey (P := P) (w := w) (k := str s) hk.ok (by simp [MapKept.IsKey]) es.isEmpty 9999
  have hf := MapKept.run_findKey (P := P) (w := w) (kt := kt) hk.ok hr
  rw [← hr2]
  simp only [execOp, hx, hy, Instr.lookup, Sem.run_bind, underlying, run_program, Result.andThen_ok, hu.ok, Sem.run_pure, MapKept.run_getObj_map h1, hc, hf]
  cases r with
  | none => simp [run_zeroValue (P := P) (t := vt)]
  | some r => simp
theorem lookup_set (s : List UInt8) (ks : List (List UInt8)) : ((ks.map fun k => (k, Value.bool true)).lookup s).getD (.bool false) = .bool (decide (s ∈ ks)) := by
  induction ks with
  | nil => simp
  | cons k ks ih =>
    by_cases e : s = k
    · subst e; simp [List.lookup]
    · have : (s == k) = false := by simpa using e
      simp only [List.map_cons, List.lookup, this, ih]
      simp [e]
theorem y_lookset [hu : Und P t (.map kt vt)] [hk : Und P kt .string] [hi : Inf P vt (.bool false) 1 1] (hm : MSet w m ks) (hx : evl σ x = .map (some m)) (hy : evl σ y = str s) :
    Y P σ ⟨d, .lookup t x y false, ty, pos, af, g⟩ w (.bool (decide (s ∈ ks))) w := by
  have := y_lookup (P := P) (d := d) (ty := ty) (pos := pos) (af := af) (g := g) (t := t) hx hy hm
  rwa [lookup_set] at this
theorem run_mapnew [hu : Und P t (.map kt vt)] [hk : Und P kt .string] {v : Value} (hm : MMap w m kv) (hn : kv.lookup s = none) :
    ∃ w', (Instr.mapUpdate t (.map (some m)) (str s) v).run P w = .ok () w' ∧ MMap w' m (kv ++ [(s, v)]) ∧ Le [m] w w' := by
  obtain ⟨es, cl, h1, h2⟩ := hm
  obtain ⟨r, hr, hr2⟩ := find_kv (s := s) es.toList kv 0 h2
  obtain rfl : r = none := by rw [hn] at hr2; simpa using hr2
  have hc := MapKept.run_checkKey (P := P) (w := w) (k := str s) hk.ok (by simp [MapKept.IsKey]) false 9999
  have hf := MapKept.run_findKey (P := P) (w := w) (kt := kt) hk.ok hr
  have hs := MapKept.heap_set (o' := .map (es.push ⟨str s, v, cl⟩) (cl + 1)) h1
  refine ⟨{ w with heap := w.heap.setIfInBounds m (.map (es.push ⟨str s, v, cl⟩) (cl + 1)) }, ?_, ⟨_, _, hs.1, by simp [h2]⟩, ⟨rfl, rfl, rfl, by simp, fun k _ hkm => hs.2 k (by simpa using hkm)⟩⟩
  simp only [Instr.mapUpdate, Sem.run_bind, underlying, run_program, Result.andThen_ok, hu.ok, Sem.run_pure, MapKept.run_getObj_map h1, hc, hf, MapKept.run_setObj_map _ h1]
end
section
variable {P : Program} {n : Nat} {ds : Ctx} {ops : Array Oper} {Q : Exit → Ctx → Env → World → Prop} {rest : List Oper} {σ : GE} {w : World} {v : Value} {d : Nat} {ty t kt vt : TypeId} {pos : String} {af : Array Edge} {x y z : Operand} {m j dj : Nat} {b c want : Bool} {ks : List (List UInt8)} {s : List UInt8}
theorem wlmap (h : ∀ m w', w.heap.size ≤ m → MSet w' m [] → Frm w w' → WL P n ds ops Q rest (real (updG σ d ⟨.map (some m), true⟩)) w') :
    WL P n ds ops Q (⟨some d, .makeMap t none, ty, pos, af, none⟩ :: rest) (real σ) w := by
  refine wl (h w.heap.size (w.alloc (.map #[] 0)) (Nat.le_refl _) ⟨#[], 0, heap_alloc_new w _, rfl⟩ (frm_alloc _ _)) ?_
  refine Y.val ?_
  simp [execOp, Instr.makeMap, newObj]
  rfl
theorem wlg_mset [hu : Und P t (.map kt vt)] [hk : Und P kt .string] [hi : Inf P vt (.bool false) 1 1] (hm : MSet w m ks) (h : WL P n ds ops Q rest (real (updG σ d ⟨.bool (decide (s ∈ ks)), b && (c == want)⟩)) w)
    (hj : (ops[j]?).bind (·.dst) = some dj := by rfl) (hσ : σ dj = ⟨.bool c, b⟩ := by rfl)
    (hx : (b && (c == want)) = true → evl (real σ) x = .map (some m) := by
      intro hgd
      exact evG hgd)
    (hy : (b && (c == want)) = true → evl (real σ) y = str s := by
      intro hgd
      exact evG hgd) :
    WL P n ds ops Q (⟨some d, .lookup t x y false, ty, pos, af, some (j, want)⟩ :: rest) (real σ) w := wlg h hj hσ fun hg => y_lookset hm (hx hg) (hy hg)
theorem lookup_none {ks : List (List UInt8)} (h : s ∉ ks) : (ks.map fun k => (k, Value.bool true)).lookup s = none := by
  induction ks with
  | nil => rfl
  | cons k ks ih =>
    simp only [List.mem_cons, not_or] at h
    have : (s == k) = false := by simpa using h.1
    simp only [List.map_cons, List.lookup, this, ih h.2]
theorem wlmadd [hu : Und P t (.map kt vt)] [hk : Und P kt .string] (hm : MSet w m ks) (hn : s ∉ ks) (h : ∀ w', MSet w' m (ks ++ [s]) → Le [m] w w' → WL P n ds ops Q rest (real σ) w')
    (hx : evl (real σ) x = .map (some m) := by rfl) (hy : evl (real σ) y = str s := by rfl) (hz : evl (real σ) z = .bool true := by rfl) :
    WL P n ds ops Q (⟨none, .mapUpdate t x y z, ty, pos, af, none⟩ :: rest) (real σ) w := by
  obtain ⟨w', h1, h2, h3⟩ := run_mapnew (P := P) (t := t) (v := .bool true) hm (lookup_none hn)
  refine wl0 (h w' (by simpa [MSet] using h2) h3) (Y.skip ?_)
  simp only [execOp, hx, hy, hz]
  rw [Sem.run_bind, h1]
  rfl
end
end Go.Sv

/-
  Attributes: which may be.
-/
set_option linter.unusedSimpArgs false
set_option linter.unusedVariables false
set_option linter.unnecessarySimpa false
namespace Go.Proofs.YtmnnffenijjpcaaDoor
open Go Go.Sv Go.RowKit

structure At where
  n : List UInt8
  v : List UInt8
  deriving DecidableEq
def At.cells (x : At) : List Value := [str x.n, str x.v]
theorem At.len (x : At) : x.cells.length = 2 := rfl
def At.small (x : At) : Prop := x.n.length ≤ 1048576 ∧ x.v.length ≤ 1048576
def atOk (x : At) : Bool := nameR true x.n && validR x.v
def attrsF : List (List UInt8) → List At → Bool
  | _, [] => true
  | seen, a :: es => (atOk a && !decide (a.n ∈ seen)) && attrsF (seen ++ [a.n]) es
/-- may attributes be? -/
def attrsR (l : List At) : Bool := attrsF [] l

set_option maxHeartbeats 2000000 in
theorem attrs_ok (es : List At) (p : Option Addr) (n c : Nat) (hn : n = es.length) (hb : es.length ≤ 1048576) (hs : ∀ x ∈ es, x.small) (w : World) (hi : Im [] w p (es.flatMap At.cells)) :
    PureC Tryd.prog 23 #[.slice p n c] w (.bool (attrsR es)) := by
  refine enter (l := [.slice p n c]) Tryd.func23 rfl Tryd.ntmps23 (by kernel_rfl) rfl ?_
  refine sgo ?_
  refine wlmap fun m w1 hm1 hM hf1 => ?_
  refine sgo ?_
  have hfl := fm_len At.len es
  refine wcloop (X := Nat) (fun i => [(3, .map (some m)), (7, .slice p n c), (8, int n), (9, int i)])
    (fun i wr => i ≤ es.length ∧ attrsR es = attrsF ((es.take i).map (·.n)) (es.drop i) ∧ Frm w wr ∧ MSet wr m ((es.take i).map (·.n))) (fun i => es.length - i) 0 ⟨rfl, rfl, rfl, rfl, trivial⟩ ⟨by omega, by simp [attrsR], hf1, by simpa using hM⟩ ?_
  rintro i wr ρ ⟨hil, hv, hfr, hMr⟩
  refine sgo ?_
  (show WC _ _ _ _ _ _ _; first | refine WC_dec rfl (fun hc => ?_) (fun hc => ?_) | refine WC_cond rfl (fun hc => ?_) (fun hc => ?_))
  · have hlt : i < es.length := by omega
    have hSg := (hi.frm hfr).sg
    have hx : es[i]? = some es[i] := List.getElem?_eq_getElem hlt
    have hseg := fm_seg At.len es hx
    have hdr : es.drop i = es[i] :: es.drop (i + 1) := List.drop_eq_getElem_cons hlt
    have htk : (es.take (i + 1)).map (·.n) = (es.take i).map (·.n) ++ [es[i].n] := by rw [List.take_add_one, hx, List.map_append]; rfl
    have hsm := hs es[i] (List.getElem_mem hlt)
    generalize es[i] = a at *
    rw [hdr] at hv
    generalize hsn : (es.take i).map (·.n) = seen at *
    have hps : ∃ q, p = some q := hSg.some (by omega)
    refine sgo ?_
    refine wlalloc fun b w2 hb1 ho hf2 => ?_
    refine wlstorea0 (hv := by exact ⟨by rw [hseg]; rfl, rfl⟩) (h1 := by rw [hseg]; simp [At.cells, Value.oneCell']) ho fun w3 ho3 hl3 => ?_
    rw [hseg] at ho3
    have hb2 : w.heap.size ≤ b := Nat.le_trans hfr.size hb1
    have hfr3 := (hfr.trans hf2).step hl3 (by simpa using hb2)
    have hmb : m ≠ b := by have := hMr.lt; omega
    replace hMr := (hMr.frm hf2).le hl3 (by simpa using hmb)
    simp only [At.cells] at ho3
    clear hseg
    refine sgo ?_
    refine wlpure (name_ok a.n true hsm.1 _) fun w4 hf4 => ?_
    have ho4 := ho3.frm hf4
    refine sgo ?_
    refine wlcallgp (vals := [str a.v]) (fun _ => tokValid_ok a.v hsm.2 _) fun w5 hf5 => ?_
    replace hMr := (hMr.frm hf4).frm hf5
    have ho5 := ho4.frm hf5
    have hfr5 := (hfr3.trans hf4).trans hf5
    clear ho ho3 ho4
    refine sgo ?_
    refine wlg_mset (s := a.n) hMr ?_
    refine sgo ?_
    have hbad : attrsR es = (!(pkb (pkb (!nameR true a.n) true !validR a.v) true (decide (a.n ∈ seen))) && attrsF (seen ++ [a.n]) (es.drop (i + 1))) := by
      rw [hv, attrsF]
      simp only [pkb_or, atOk]
      cases nameR true a.n <;> cases validR a.v <;> simp
    (show WC _ _ _ _ _ _ _; first | refine WC_dec rfl (fun hc => ?_) (fun hc => ?_) | refine WC_cond rfl (fun hc => ?_) (fun hc => ?_))
    · rw [hc, Bool.not_true, Bool.false_and] at hbad
      refine sgo ?_
      (first | refine fp1 (.inl rfl) rfl rfl ?_ | refine fp2 (.inl rfl) rfl rfl rfl ?_ | refine fp3 (.inl rfl) rfl rfl rfl rfl ?_ | refine fp0 (.inr rfl) rfl ?_ | refine fp0 (.inl rfl) rfl ?_ | refine fp1 (.inr rfl) rfl rfl ?_); refine ⟨?_, by (first | exact Frm.refl _ | assumption | exact Go.Sv.Sep.frm (by assumption) | (refine Frm.trans ?_ (by assumption); first | exact Frm.refl _ | assumption))⟩; (try simp only [realB, rv_true, Nat.reduceBEq, cond_true, cond_false, entG, real_lif, updGL])
      rw [hbad]
    · have hns : a.n ∉ seen := by
        simp only [pkb_or, Bool.or_eq_false_iff, decide_eq_false_iff_not] at hc
        exact hc.2
      rw [hc, Bool.not_false, Bool.true_and] at hbad
      refine sgo ?_
      refine wlmadd (s := a.n) hMr hns fun w6 hM6 hl6 => ?_
      have hfr6 := hfr5.step hl6 (by intro x hx; simp only [List.mem_singleton] at hx; subst hx; exact Nat.le_trans (Nat.le_refl _) hm1)
      refine sgo ?_
      refine ⟨i + 1, ⟨rfl, rfl, rfl, rfl, trivial⟩, ⟨by omega, ?_, hfr6, ?_⟩, by omega⟩
      · rw [hbad, htk]
      · rw [htk]; exact hM6
  · refine sgo ?_
    (first | refine fp1 (.inl rfl) rfl rfl ?_ | refine fp2 (.inl rfl) rfl rfl rfl ?_ | refine fp3 (.inl rfl) rfl rfl rfl rfl ?_ | refine fp0 (.inr rfl) rfl ?_ | refine fp0 (.inl rfl) rfl ?_ | refine fp1 (.inr rfl) rfl rfl ?_); refine ⟨?_, by (first | exact Frm.refl _ | assumption | exact Go.Sv.Sep.frm (by assumption) | (refine Frm.trans ?_ (by assumption); first | exact Frm.refl _ | assumption))⟩; (try simp only [realB, rv_true, Nat.reduceBEq, cond_true, cond_false, entG, real_lif, updGL])
    rw [hv, List.drop_eq_nil_of_le (by omega)]; rfl











































































































end Go.Proofs.YtmnnffenijjpcaaDoor

/-
  Tokens: which may be.
-/
set_option linter.unusedSimpArgs false
set_option linter.unusedVariables false
set_option linter.unnecessarySimpa false
namespace Go.Proofs.YtmnnffenijjpcaaDoor
open Go Go.Sv Go.RowKit

structure Tok where
  kind : Int
  name : List UInt8
  text : List UInt8
  attrs : List At
  self : Bool
  a : Int
  b : Int
  d : Int
  deriving DecidableEq
def Tok.cells (t : Tok) (p : Option Addr) (c : Nat) : List Value := [int t.kind, str t.name, str t.text, .slice p t.attrs.length c, .bool t.self, int t.a, int t.b, int t.d]
structure Tok.small (t : Tok) : Prop where
  name : t.name.length ≤ 1048576
  text : t.text.length ≤ 1048576
  attrs : t.attrs.length ≤ 1048576
  each : ∀ x ∈ t.attrs, x.small
def bareR (t : Tok) : Bool := decide (t.name = []) && (decide (t.attrs.length = 0) && !t.self)
/-- may a token be? -/
def mayR (t : Tok) : Bool :=
  if t.kind = 0 then bareR t && (!decide (t.text = []) && validR t.text)
  else if t.kind = 1 then nameR false t.name && (decide (t.text = []) && attrsR t.attrs)
  else if t.kind = 2 then nameR false t.name && (decide (t.text = []) && (decide (t.attrs.length = 0) && !t.self))
  else if t.kind = 3 then bareR t && validR t.text
  else if t.kind = 4 then bareR t && decide (t.text = [])
  else false

set_option maxHeartbeats 4000000 in
theorem check_ok (t : Tok) (p : Option Addr) (c : Nat) (hs : t.small) (w : World) (hi : Im [] w p (t.attrs.flatMap At.cells)) :
    PureC Tryd.prog 15 #[.agg ⟨t.cells p c⟩] w (int (if mayR t then 0 else 70)) := by
  obtain ⟨k, nm, tx, es, sf, a, b, d⟩ := t
  obtain ⟨h1, h2, h3, h4⟩ := hs
  dsimp only at h1 h2 h3 h4 hi
  refine enter (l := [.agg ⟨Tok.cells ⟨k, nm, tx, es, sf, a, b, d⟩ p c⟩]) Tryd.func15 rfl Tryd.ntmps15 (by kernel_rfl) rfl ?_
  refine sgo ?_
  refine wlbox (v := .agg ⟨Tok.cells ⟨k, nm, tx, es, sf, a, b, d⟩ p c⟩) (hx := rfl) fun b1 w1 hb1 ho hf1 => ?_
  simp only [Tok.cells, Value.cells] at ho
  refine sgo ?_
  (show WC _ _ _ _ _ _ _; first | refine WC_dec rfl (fun hc => ?_) (fun hc => ?_) | refine WC_cond rfl (fun hc => ?_) (fun hc => ?_))
  · have hk : k = 0 := hc
    clear hc
    refine sgo ?_
    refine wlcallgp (vals := [str tx]) (fun _ => tokValid_ok tx h2 _) fun w2 hf2 => ?_
    replace ho := ho.frm hf2
    have hf := hf1.trans hf2
    refine sgo ?_
    (show WC _ _ _ _ _ _ _; first | refine WC_dec rfl (fun hc => ?_) (fun hc => ?_) | refine WC_cond rfl (fun hc => ?_) (fun hc => ?_))
    · refine sgo ?_
      (first | refine fp1 (.inl rfl) rfl rfl ?_ | refine fp2 (.inl rfl) rfl rfl rfl ?_ | refine fp3 (.inl rfl) rfl rfl rfl rfl ?_ | refine fp0 (.inr rfl) rfl ?_ | refine fp0 (.inl rfl) rfl ?_ | refine fp1 (.inr rfl) rfl rfl ?_); refine ⟨?_, by (first | exact Frm.refl _ | assumption | exact Go.Sv.Sep.frm (by assumption) | (refine Frm.trans ?_ (by assumption); first | exact Frm.refl _ | assumption))⟩; (try simp only [realB, rv_true, Nat.reduceBEq, cond_true, cond_false, entG, real_lif, updGL])
      have : mayR ⟨k, nm, tx, es, sf, a, b, d⟩ = false := by
        simp only [mayR, bareR, hk, if_pos]
        simp only [pkb_and] at hc
        grind
      rw [this]; rfl
    · refine sgo ?_
      (first | refine fp1 (.inl rfl) rfl rfl ?_ | refine fp2 (.inl rfl) rfl rfl rfl ?_ | refine fp3 (.inl rfl) rfl rfl rfl rfl ?_ | refine fp0 (.inr rfl) rfl ?_ | refine fp0 (.inl rfl) rfl ?_ | refine fp1 (.inr rfl) rfl rfl ?_); refine ⟨?_, by (first | exact Frm.refl _ | assumption | exact Go.Sv.Sep.frm (by assumption) | (refine Frm.trans ?_ (by assumption); first | exact Frm.refl _ | assumption))⟩; (try simp only [realB, rv_true, Nat.reduceBEq, cond_true, cond_false, entG, real_lif, updGL])
      have : mayR ⟨k, nm, tx, es, sf, a, b, d⟩ = true := by
        simp only [mayR, bareR, hk, if_pos]
        simp only [pkb_and] at hc
        grind
      rw [this]; rfl
  · have hk0 : ¬ k = 0 := hc
    clear hc
    refine sgo ?_
    (show WC _ _ _ _ _ _ _; first | refine WC_dec rfl (fun hc => ?_) (fun hc => ?_) | refine WC_cond rfl (fun hc => ?_) (fun hc => ?_))
    · have hk : k = 1 := hc
      clear hc
      refine sgo ?_
      refine wlpure (name_ok nm false h1 _) fun w2 hf2 => ?_
      replace ho := ho.frm hf2
      have hf := hf1.trans hf2
      refine sgo ?_
      refine wlcallgp (vals := [.slice p es.length c]) (fun _ => attrs_ok es p _ c rfl h3 h4 _ (hi.frm hf)) fun w3 hf3 => ?_
      replace ho := ho.frm hf3
      replace hf := hf.trans hf3
      refine sgo ?_
      (show WC _ _ _ _ _ _ _; first | refine WC_dec rfl (fun hc => ?_) (fun hc => ?_) | refine WC_cond rfl (fun hc => ?_) (fun hc => ?_))
      · refine sgo ?_
        (first | refine fp1 (.inl rfl) rfl rfl ?_ | refine fp2 (.inl rfl) rfl rfl rfl ?_ | refine fp3 (.inl rfl) rfl rfl rfl rfl ?_ | refine fp0 (.inr rfl) rfl ?_ | refine fp0 (.inl rfl) rfl ?_ | refine fp1 (.inr rfl) rfl rfl ?_); refine ⟨?_, by (first | exact Frm.refl _ | assumption | exact Go.Sv.Sep.frm (by assumption) | (refine Frm.trans ?_ (by assumption); first | exact Frm.refl _ | assumption))⟩; (try simp only [realB, rv_true, Nat.reduceBEq, cond_true, cond_false, entG, real_lif, updGL])
        have : mayR ⟨k, nm, tx, es, sf, a, b, d⟩ = false := by
          simp only [mayR, bareR, hk, if_pos]
          simp only [pkb_and] at hc
          grind
        rw [this]; rfl
      · refine sgo ?_
        (first | refine fp1 (.inl rfl) rfl rfl ?_ | refine fp2 (.inl rfl) rfl rfl rfl ?_ | refine fp3 (.inl rfl) rfl rfl rfl rfl ?_ | refine fp0 (.inr rfl) rfl ?_ | refine fp0 (.inl rfl) rfl ?_ | refine fp1 (.inr rfl) rfl rfl ?_); refine ⟨?_, by (first | exact Frm.refl _ | assumption | exact Go.Sv.Sep.frm (by assumption) | (refine Frm.trans ?_ (by assumption); first | exact Frm.refl _ | assumption))⟩; (try simp only [realB, rv_true, Nat.reduceBEq, cond_true, cond_false, entG, real_lif, updGL])
        have : mayR ⟨k, nm, tx, es, sf, a, b, d⟩ = true := by
          simp only [mayR, bareR, hk, if_pos]
          simp only [pkb_and] at hc
          grind
        rw [this]; rfl
    · have hk1 : ¬ k = 1 := hc
      clear hc
      refine sgo ?_
      (show WC _ _ _ _ _ _ _; first | refine WC_dec rfl (fun hc => ?_) (fun hc => ?_) | refine WC_cond rfl (fun hc => ?_) (fun hc => ?_))
      · have hk : k = 2 := hc
        clear hc
        refine sgo ?_
        refine wlpure (name_ok nm false h1 _) fun w2 hf2 => ?_
        replace ho := ho.frm hf2
        have hf := hf1.trans hf2
        refine sgo ?_
        (show WC _ _ _ _ _ _ _; first | refine WC_dec rfl (fun hc => ?_) (fun hc => ?_) | refine WC_cond rfl (fun hc => ?_) (fun hc => ?_))
        · refine sgo ?_
          (first | refine fp1 (.inl rfl) rfl rfl ?_ | refine fp2 (.inl rfl) rfl rfl rfl ?_ | refine fp3 (.inl rfl) rfl rfl rfl rfl ?_ | refine fp0 (.inr rfl) rfl ?_ | refine fp0 (.inl rfl) rfl ?_ | refine fp1 (.inr rfl) rfl rfl ?_); refine ⟨?_, by (first | exact Frm.refl _ | assumption | exact Go.Sv.Sep.frm (by assumption) | (refine Frm.trans ?_ (by assumption); first | exact Frm.refl _ | assumption))⟩; (try simp only [realB, rv_true, Nat.reduceBEq, cond_true, cond_false, entG, real_lif, updGL])
          have : mayR ⟨k, nm, tx, es, sf, a, b, d⟩ = false := by
            simp only [mayR, bareR, hk, if_pos]
            simp only [pkb_and] at hc
            grind
          rw [this]; rfl
        · refine sgo ?_
          (first | refine fp1 (.inl rfl) rfl rfl ?_ | refine fp2 (.inl rfl) rfl rfl rfl ?_ | refine fp3 (.inl rfl) rfl rfl rfl rfl ?_ | refine fp0 (.inr rfl) rfl ?_ | refine fp0 (.inl rfl) rfl ?_ | refine fp1 (.inr rfl) rfl rfl ?_); refine ⟨?_, by (first | exact Frm.refl _ | assumption | exact Go.Sv.Sep.frm (by assumption) | (refine Frm.trans ?_ (by assumption); first | exact Frm.refl _ | assumption))⟩; (try simp only [realB, rv_true, Nat.reduceBEq, cond_true, cond_false, entG, real_lif, updGL])
          have : mayR ⟨k, nm, tx, es, sf, a, b, d⟩ = true := by
            simp only [mayR, bareR, hk, if_pos]
            simp only [pkb_and] at hc
            grind
          rw [this]; rfl
      · have hk2 : ¬ k = 2 := hc
        clear hc
        refine sgo ?_
        (show WC _ _ _ _ _ _ _; first | refine WC_dec rfl (fun hc => ?_) (fun hc => ?_) | refine WC_cond rfl (fun hc => ?_) (fun hc => ?_))
        · have hk : k = 3 := hc
          clear hc
          refine sgo ?_
          refine wlpure (tokValid_ok tx h2 _) fun w2 hf2 => ?_
          replace ho := ho.frm hf2
          have hf := hf1.trans hf2
          refine sgo ?_
          (show WC _ _ _ _ _ _ _; first | refine WC_dec rfl (fun hc => ?_) (fun hc => ?_) | refine WC_cond rfl (fun hc => ?_) (fun hc => ?_))
          · refine sgo ?_
            (first | refine fp1 (.inl rfl) rfl rfl ?_ | refine fp2 (.inl rfl) rfl rfl rfl ?_ | refine fp3 (.inl rfl) rfl rfl rfl rfl ?_ | refine fp0 (.inr rfl) rfl ?_ | refine fp0 (.inl rfl) rfl ?_ | refine fp1 (.inr rfl) rfl rfl ?_); refine ⟨?_, by (first | exact Frm.refl _ | assumption | exact Go.Sv.Sep.frm (by assumption) | (refine Frm.trans ?_ (by assumption); first | exact Frm.refl _ | assumption))⟩; (try simp only [realB, rv_true, Nat.reduceBEq, cond_true, cond_false, entG, real_lif, updGL])
            have : mayR ⟨k, nm, tx, es, sf, a, b, d⟩ = false := by
              simp only [mayR, bareR, hk, if_pos]
              simp only [pkb_and] at hc
              grind
            rw [this]; rfl
          · refine sgo ?_
            (first | refine fp1 (.inl rfl) rfl rfl ?_ | refine fp2 (.inl rfl) rfl rfl rfl ?_ | refine fp3 (.inl rfl) rfl rfl rfl rfl ?_ | refine fp0 (.inr rfl) rfl ?_ | refine fp0 (.inl rfl) rfl ?_ | refine fp1 (.inr rfl) rfl rfl ?_); refine ⟨?_, by (first | exact Frm.refl _ | assumption | exact Go.Sv.Sep.frm (by assumption) | (refine Frm.trans ?_ (by assumption); first | exact Frm.refl _ | assumption))⟩; (try simp only [realB, rv_true, Nat.reduceBEq, cond_true, cond_false, entG, real_lif, updGL])
            have : mayR ⟨k, nm, tx, es, sf, a, b, d⟩ = true := by
              simp only [mayR, bareR, hk, if_pos]
              simp only [pkb_and] at hc
              grind
            rw [this]; rfl
        · have hk3 : ¬ k = 3 := hc
          clear hc
          refine sgo ?_
          (show WC _ _ _ _ _ _ _; first | refine WC_dec rfl (fun hc => ?_) (fun hc => ?_) | refine WC_cond rfl (fun hc => ?_) (fun hc => ?_))
          · have hk : k = 4 := hc
            clear hc
            refine sgo ?_
            (show WC _ _ _ _ _ _ _; first | refine WC_dec rfl (fun hc => ?_) (fun hc => ?_) | refine WC_cond rfl (fun hc => ?_) (fun hc => ?_))
            · refine sgo ?_
              (first | refine fp1 (.inl rfl) rfl rfl ?_ | refine fp2 (.inl rfl) rfl rfl rfl ?_ | refine fp3 (.inl rfl) rfl rfl rfl rfl ?_ | refine fp0 (.inr rfl) rfl ?_ | refine fp0 (.inl rfl) rfl ?_ | refine fp1 (.inr rfl) rfl rfl ?_); refine ⟨?_, by (first | exact Frm.refl _ | assumption | exact Go.Sv.Sep.frm (by assumption) | (refine Frm.trans ?_ (by assumption); first | exact Frm.refl _ | assumption))⟩; (try simp only [realB, rv_true, Nat.reduceBEq, cond_true, cond_false, entG, real_lif, updGL])
              have : mayR ⟨k, nm, tx, es, sf, a, b, d⟩ = false := by
                simp only [mayR, bareR, hk, if_pos]
                simp only [pkb_and] at hc
                grind
              rw [this]; rfl
            · refine sgo ?_
              (first | refine fp1 (.inl rfl) rfl rfl ?_ | refine fp2 (.inl rfl) rfl rfl rfl ?_ | refine fp3 (.inl rfl) rfl rfl rfl rfl ?_ | refine fp0 (.inr rfl) rfl ?_ | refine fp0 (.inl rfl) rfl ?_ | refine fp1 (.inr rfl) rfl rfl ?_); refine ⟨?_, by (first | exact Frm.refl _ | assumption | exact Go.Sv.Sep.frm (by assumption) | (refine Frm.trans ?_ (by assumption); first | exact Frm.refl _ | assumption))⟩; (try simp only [realB, rv_true, Nat.reduceBEq, cond_true, cond_false, entG, real_lif, updGL])
              have : mayR ⟨k, nm, tx, es, sf, a, b, d⟩ = true := by
                simp only [mayR, bareR, hk, if_pos]
                simp only [pkb_and] at hc
                grind
              rw [this]; rfl
          · have hk4 : ¬ k = 4 := hc
            clear hc
            refine sgo ?_
            (first | refine fp1 (.inl rfl) rfl rfl ?_ | refine fp2 (.inl rfl) rfl rfl rfl ?_ | refine fp3 (.inl rfl) rfl rfl rfl rfl ?_ | refine fp0 (.inr rfl) rfl ?_ | refine fp0 (.inl rfl) rfl ?_ | refine fp1 (.inr rfl) rfl rfl ?_); refine ⟨?_, by (first | exact Frm.refl _ | assumption | exact Go.Sv.Sep.frm (by assumption) | (refine Frm.trans ?_ (by assumption); first | exact Frm.refl _ | assumption))⟩; (try simp only [realB, rv_true, Nat.reduceBEq, cond_true, cond_false, entG, real_lif, updGL])
            have : mayR ⟨k, nm, tx, es, sf, a, b, d⟩ = false := by simp [mayR, hk0, hk1, hk2, hk3, hk4]
            rw [this]; rfl




























































































end Go.Proofs.YtmnnffenijjpcaaDoor

/-
  strings.Builder: a block of two cells and a row of bytes; pointers compared; pointers turned to unsafe ones and back; slices written out.
-/
set_option linter.unusedSimpArgs false
set_option linter.unusedVariables false
set_option linter.unnecessarySimpa false
namespace Go.Sv
open Go Go.RowKit

/-- a builder in block b: it holds s; its bytes lie at q -/
structure BuP (T E : TypeId) (w : World) (b : Nat) (pv q : Option Addr) (c : Nat) (s : List UInt8) : Prop where
  hp : pv = none ∨ pv = pb b
  cell : w.heap[b]? = some (.cells #[.pointer pv, .slice q s.length c] T (0, 0))
  row : w.ownsRow 0 E 1 (.slice q s.length c) s.length (bs s)
  ne : b ∉ rb q
def Bld (T E : TypeId) (w : World) (b : Nat) (q : Option Addr) (s : List UInt8) : Prop := ∃ pv c, BuP T E w b pv q c s

section
variable {P : Program} {T E : TypeId} {w w' : World} {b : Nat} {pv q : Option Addr} {c : Nat} {s : List UInt8} {M : List Nat}
theorem rb_own {q : Option Addr} {n c k : Nat} : (Value.slice q n c).ownBlock = some k ↔ k ∈ rb q := by
  cases q with
  | none => simp [Value.ownBlock, rb]
  | some a => simp only [Value.ownBlock, rb, Option.some.injEq, List.mem_singleton]; exact eq_comm
theorem rowT_lt {B n : Nat} {xs : List Value} (h : w.ownsRow B E 1 (.slice q n c) n xs) : ∀ k ∈ rb q, k < w.heap.size := fun k hk => (h.lt k (rb_own.2 hk)).2
theorem rowT_le {B n : Nat} {xs : List Value} (h : w.ownsRow B E 1 (.slice q n c) n xs) (hl : Le M w w') (hM : ∀ k ∈ rb q, k ∉ M) : w'.ownsRow B E 1 (.slice q n c) n xs := by
  refine ⟨h.1, ?_⟩
  have hlt := rowT_lt h
  rcases h.2 with h1 | ⟨g, cap, cur, hv, h2, h3, h4⟩
  · exact .inl h1
  · refine .inr ⟨g, cap, cur, hv, h2, ?_, h4⟩
    have hg : g ∈ rb q := rb_own.1 (by rw [hv]; rfl)
    rw [hl.block g (hlt g hg) (hM g hg)]; exact h3
theorem rowT_base {B n : Nat} {xs : List Value} (h : w.ownsRow 0 E 1 (.slice q n c) n xs) (hB : ∀ k ∈ rb q, B ≤ k) : w.ownsRow B E 1 (.slice q n c) n xs := by
  refine ⟨h.1, ?_⟩
  rcases h.2 with h1 | ⟨g, cap, cur, hv, h2, h3⟩
  · exact .inl h1
  · exact .inr ⟨g, cap, cur, hv, hB g (rb_own.1 (by rw [hv]; rfl)), h3⟩

theorem BuP.own (h : BuP T E w b pv q c s) : Own w b [.pointer pv, .slice q s.length c] := ⟨T, h.cell⟩
theorem BuP.le (h : BuP T E w b pv q c s) (hl : Le M w w') (hb : b ∉ M) (hM : ∀ k ∈ rb q, k ∉ M) : BuP T E w' b pv q c s :=
  ⟨h.hp, by rw [hl.block b h.own.lt hb]; exact h.cell, rowT_le h.row hl hM, h.ne⟩
theorem Bld.lt (h : Bld T E w b q s) : ∀ k ∈ b :: rb q, k < w.heap.size := by
  obtain ⟨pv, c, h⟩ := h
  intro k hk
  rcases List.mem_cons.1 hk with rfl | hk
  · exact h.own.lt
  · exact rowT_lt h.row k hk
theorem Bld.le (h : Bld T E w b q s) (hl : Le M w w') (hM : ∀ k ∈ b :: rb q, k ∉ M) : Bld T E w' b q s := by
  obtain ⟨pv, c, h⟩ := h
  exact ⟨pv, c, h.le hl (hM b List.mem_cons_self) fun k hk => hM k (List.mem_cons_of_mem _ hk)⟩
theorem Bld.frm (h : Bld T E w b q s) (hl : Frm w w') : Bld T E w' b q s := h.le (M := []) hl.le (by simp)
/-- a new one -/
theorem Bld.new (ho : w.heap[b]? = some (.cells #[.pointer none, .slice none 0 0] T (0, 0))) : Bld T E w b none [] :=
  ⟨none, 0, .inl rfl, ho, ⟨by simp [bs], .inl ⟨rfl, rfl⟩⟩, by simp [rb]⟩
/-- for the shelf -/
theorem Bld.shelf {B : Nat} (h : Bld T E w b q s) (hB : ∀ k ∈ b :: rb q, B ≤ k) : Lib.IsBuilder T E B b (bs s) w := by
  obtain ⟨pv, c, h⟩ := h
  have h1 : Lib.BuilderAt T E B b (.pointer pv) (bs s) w := by
    refine ⟨hB b List.mem_cons_self, _, h.cell, ?_, fun hh => h.ne (rb_own.1 hh)⟩
    have := rowT_base (B := B) h.row fun k hk => hB k (List.mem_cons_of_mem _ hk)
    simpa using this
  rcases h.hp with rfl | rfl
  · exact .inl h1
  · exact .inr h1

end

/-! ## pointers -/
section
variable {P : Program} {σ : Env} {w : World} {d : Option Tmp} {ty t t' e : TypeId} {pos : String} {af : Array Edge} {g : Option (Nat × Bool)} {x y : Operand} {p : Option Addr}
theorem y_pnil [hu : Und P t (.pointer e)] (hx : evl σ x = .pointer p) (hy : evl σ y = .pointer none) : Y P σ ⟨d, .binOp .eql t x y t', ty, pos, af, g⟩ w (.bool p.isNone) w := by
  refine Y.val ?_
  have h : ∀ k : Nat, (Op.equalIn (k + 1) t (.pointer p) (.pointer none)).run P w = .ok p.isNone w := fun k => by
    cases p <;> simp [Op.equalIn, run_underlying hu.ok]
  simp only [execOp, hx, hy]
  simp [eqGuard, binOp, Op.equal, Op.maxDepth, h 9999]
end

/-! ## stores that keep what kind of block it is; append of bytes -/
section
variable {P : Program} {n : Nat} {ds : Ctx} {ops : Array Oper} {Q : Exit → Ctx → Env → World → Prop} {rest : List Oper} {σ : GE} {w : World} {v : Value} {d : Nat} {ty t t' e T E : TypeId} {pos : String} {af : Array Edge} {x y : Operand} {zv : Value} {size bytes b i m c cc : Nat} {l xs news : List Value} {p q : Option Addr} {s : List UInt8}
end
end Go.Sv

/-
  strings.Builder, walked.
-/
set_option linter.unusedSimpArgs false
set_option linter.unusedVariables false
set_option linter.unnecessarySimpa false
namespace Go.Proofs.YtmnnffenijjpcaaDoor
open Go Go.Sv Go.RowKit


abbrev TY : Nat := 5





































end Go.Proofs.YtmnnffenijjpcaaDoor

/-
  Slices written out, of two to four values of one cell each.
-/
set_option linter.unusedSimpArgs false
set_option linter.unusedVariables false
set_option linter.unnecessarySimpa false
namespace Go.Sv
open Go Go.RowKit
section
variable {P : Program} {n : Nat} {ds : Ctx} {ops : Array Oper} {Q : Exit → Ctx → Env → World → Prop} {rest : List Oper} {σ : GE} {w : World} {d : Nat} {ty t e : TypeId} {pos : String} {af : Array Edge} {x1 x2 x3 x4 : Operand} {v1 v2 v3 v4 zv : Value} {bytes : Nat}
end
end Go.Sv

/-
  A rune's bytes: utf8.AppendRune, and the builder's WriteRune.
-/
set_option linter.unusedSimpArgs false
set_option linter.unusedVariables false
set_option linter.unnecessarySimpa false
namespace Go.Proofs.YtmnnffenijjpcaaDoor
open Go Go.Sv Go.RowKit

/-- a rune's bytes -/
def encN (r : Nat) : List Nat :=
  if r < 128 then [r]
  else if r < 2048 then [192 + r / 64, 128 + r % 64]
  else if r < 65536 then [224 + r / 4096, 128 + r / 64 % 64, 128 + r % 64]
  else [240 + r / 262144, 128 + r / 4096 % 64, 128 + r / 64 % 64, 128 + r % 64]
def encR (r : Nat) : List UInt8 := (encN r).map UInt8.ofNat
theorem encN_lt (r : Nat) (h : r < 1114112) : ∀ x ∈ encN r, x < 256 := by
  unfold encN
  intro x hx
  repeat' split at hx
  all_goals simp only [List.mem_cons, List.not_mem_nil, or_false] at hx
  all_goals omega
theorem encR_len (r : Nat) : (encR r).length = (encN r).length := by simp [encR]

/-- the row behind the append -/
def AppR (q : Option Addr) (s : List UInt8) (t : List UInt8) (w : World) (v : Value) (w' : World) : Prop :=
  ∃ q' c', v = .slice q' (s.length + t.length) c' ∧ w'.ownsRow 0 TY 1 (.slice q' (s.length + t.length) c') (s.length + t.length) (bs s ++ bs t) ∧ Lm (rb q) w (rb q') w'

end Go.Proofs.YtmnnffenijjpcaaDoor

/-
  What a right piece is: its bytes, its rune, how the language's range reads it, how the library writes it.
-/
set_option linter.unusedSimpArgs false
set_option linter.unusedVariables false
set_option linter.unnecessarySimpa false
namespace Go.Proofs.YtmnnffenijjpcaaDoor
open Go Go.Sv Go.RowKit

/-- the four kinds of right pieces -/
def Right (l : List UInt8) : Prop :=
  (at0 l 0 < 128 ∧ pieceR l = (((at0 l 0 : Nat) : Int), 1, true))
  ∨ (1 < l.length ∧ 194 ≤ at0 l 0 ∧ at0 l 0 ≤ 223 ∧ 128 ≤ at0 l 1 ∧ at0 l 1 ≤ 191 ∧ pieceR l = (((at0 l 0 % 32 * 64 + at0 l 1 % 64 : Nat) : Int), 2, true))
  ∨ (2 < l.length ∧ 224 ≤ at0 l 0 ∧ at0 l 0 ≤ 239 ∧ 128 ≤ at0 l 1 ∧ at0 l 1 ≤ 191 ∧ (at0 l 0 = 224 → 160 ≤ at0 l 1) ∧ (at0 l 0 = 237 → at0 l 1 ≤ 159) ∧ 128 ≤ at0 l 2 ∧ at0 l 2 ≤ 191 ∧ pieceR l = ((((at0 l 0 % 16 * 64 + at0 l 1 % 64) * 64 + at0 l 2 % 64 : Nat) : Int), 3, true))
  ∨ (3 < l.length ∧ 240 ≤ at0 l 0 ∧ at0 l 0 ≤ 244 ∧ 128 ≤ at0 l 1 ∧ at0 l 1 ≤ 191 ∧ (at0 l 0 = 240 → 144 ≤ at0 l 1) ∧ (at0 l 0 = 244 → at0 l 1 ≤ 143) ∧ 128 ≤ at0 l 2 ∧ at0 l 2 ≤ 191 ∧ 128 ≤ at0 l 3 ∧ at0 l 3 ≤ 191 ∧ pieceR l = (((((at0 l 0 % 8 * 64 + at0 l 1 % 64) * 64 + at0 l 2 % 64) * 64 + at0 l 3 % 64 : Nat) : Int), 4, true))

theorem secR (c d : Nat) (h : secondR c d = true) : 128 ≤ d ∧ d ≤ 191 ∧ (c = 224 → 160 ≤ d) ∧ (c = 237 → d ≤ 159) ∧ (c = 240 → 144 ≤ d) ∧ (c = 244 → d ≤ 143) := by
  unfold secondR at h
  repeat' split at h
  all_goals simp only [Bool.and_eq_true, decide_eq_true_eq] at h
  all_goals omega

theorem right_of (l : List UInt8) (h : (pieceR l).2.2 = true) : Right l := by
  have hg2 : (goodR l).2 = true := h
  have hs0 : ¬ sizeR (at0 l 0) = 0 := by
    intro h0
    unfold goodR at hg2; rw [if_pos h0] at hg2; cases hg2
  have hg : goodR l = (goodF l (sizeR (at0 l 0)) 4 1, decide (goodF l (sizeR (at0 l 0)) 4 1 = sizeR (at0 l 0))) := by unfold goodR; rw [if_neg hs0]
  have he : goodF l (sizeR (at0 l 0)) 4 1 = sizeR (at0 l 0) := by
    rw [hg] at hg2; simpa using hg2
  have hp : pieceR l = (((accR l (sizeR (at0 l 0) - 1) 1 (firstR (at0 l 0) (sizeR (at0 l 0))) : Nat) : Int), sizeR (at0 l 0), true) := by
    have hg' : goodR l = (sizeR (at0 l 0), true) := by rw [hg, he]; simp
    unfold pieceR
    rw [hg']
    simp [hs0]
  have hc := at0_lt l 0
  have hsz : (sizeR (at0 l 0) = 1 ∧ at0 l 0 < 128) ∨ (sizeR (at0 l 0) = 2 ∧ 194 ≤ at0 l 0 ∧ at0 l 0 ≤ 223) ∨ (sizeR (at0 l 0) = 3 ∧ 224 ≤ at0 l 0 ∧ at0 l 0 ≤ 239) ∨ (sizeR (at0 l 0) = 4 ∧ 240 ≤ at0 l 0 ∧ at0 l 0 ≤ 244) := by
    revert hs0
    unfold sizeR
    repeat' split
    all_goals omega
  rcases hsz with ⟨e, h1⟩ | ⟨e, h1, h2⟩ | ⟨e, h1, h2⟩ | ⟨e, h1, h2⟩
  · left
    refine ⟨h1, ?_⟩
    rw [hp, e]; rfl
  · right; left
    rw [e] at he hp
    rw [goodF] at he
    split at he
    · rename_i hk
      split at he
      · omega
      · rename_i hk2
        have hs : secondR (at0 l 0) (at0 l 1) = true := by
          cases hh : secondR (at0 l 0) (at0 l 1) with
          | true => rfl
          | false => exact absurd (.inl ⟨rfl, hh⟩) hk2
        have := secR _ _ hs
        exact ⟨hk.2, h1, h2, this.1, this.2.1, hp⟩
    · omega
  · right; right; left
    rw [e] at he hp
    rw [goodF] at he
    split at he
    · rename_i hk
      split at he
      · omega
      · rename_i hk2
        have hs : secondR (at0 l 0) (at0 l 1) = true := by
          cases hh : secondR (at0 l 0) (at0 l 1) with
          | true => rfl
          | false => exact absurd (.inl ⟨rfl, hh⟩) hk2
        have := secR _ _ hs
        rw [goodF] at he
        split at he
        · rename_i hk3
          split at he
          · omega
          · rename_i hk4
            simp only [Nat.reduceAdd] at hk4
            exact ⟨hk3.2, h1, h2, this.1, this.2.1, this.2.2.1, this.2.2.2.1, by omega, by omega, hp⟩
        · omega
    · omega
  · right; right; right
    rw [e] at he hp
    rw [goodF] at he
    split at he
    · rename_i hk
      split at he
      · omega
      · rename_i hk2
        have hs : secondR (at0 l 0) (at0 l 1) = true := by
          cases hh : secondR (at0 l 0) (at0 l 1) with
          | true => rfl
          | false => exact absurd (.inl ⟨rfl, hh⟩) hk2
        have := secR _ _ hs
        rw [goodF] at he
        split at he
        · rename_i hk3
          split at he
          · omega
          · rename_i hk4
            rw [goodF] at he
            split at he
            · rename_i hk5
              split at he
              · omega
              · rename_i hk6
                simp only [Nat.reduceAdd] at hk4 hk6
                exact ⟨hk5.2, h1, h2, this.1, this.2.1, this.2.2.2.2.1, this.2.2.2.2.2, by omega, by omega, by omega, by omega, hp⟩
            · omega
        · omega
    · omega

theorem ofN (c : UInt8) (n : Nat) (h : n = c.toNat) : UInt8.ofNat n = c := by subst h; exact UInt8.ofNat_toNat
/-- a right piece's rune is written as the piece's bytes -/
theorem enc_right (l : List UInt8) (h0 : 0 < l.length) (hr : Right l) : ∃ r : Nat, (pieceR l).1 = (r : Int) ∧ r < 1114112 ∧ ¬ (55296 ≤ r ∧ r ≤ 57343) ∧ encR r = l.take (pieceR l).2.1 ∧ (r < 128 → (pieceR l).2.1 = 1 ∧ at0 l 0 = r) ∧ (128 ≤ r → ∀ k, k < (pieceR l).2.1 → 128 ≤ at0 l k) := by
  have hb0 := at0_lt l 0
  have hb1 := at0_lt l 1
  have hb2 := at0_lt l 2
  have hb3 := at0_lt l 3
  rcases hr with ⟨h1, hp⟩ | ⟨hl, h1, h2, h3, h4, hp⟩ | ⟨hl, h1, h2, h3, h4, h5, h6, h7, h8, hp⟩ | ⟨hl, h1, h2, h3, h4, h5, h6, h7, h8, h9, h10, hp⟩
  · obtain ⟨a, l', rfl⟩ : ∃ a l', l = a :: l' := by
      cases l with
      | nil => simp at h0
      | cons a l' => exact ⟨a, l', rfl⟩
    have ea : at0 (a :: l') 0 = a.toNat := rfl
    refine ⟨at0 (a :: l') 0, by rw [hp], by omega, by omega, ?_, fun _ => ⟨by rw [hp], rfl⟩, fun h => by omega⟩
    rw [hp, encR, encN, if_pos h1]
    simp only [List.map_cons, List.map_nil, List.take_succ_cons, List.take_zero]
    rw [ofN a _ ea]
  · obtain ⟨a, b, l', rfl⟩ : ∃ a b l', l = a :: b :: l' := by
      match l, hl with
      | a :: b :: l', _ => exact ⟨a, b, l', rfl⟩
    have ea : at0 (a :: b :: l') 0 = a.toNat := rfl
    have eb : at0 (a :: b :: l') 1 = b.toNat := rfl
    generalize hr : at0 (a :: b :: l') 0 % 32 * 64 + at0 (a :: b :: l') 1 % 64 = r at *
    refine ⟨r, by rw [hp], by omega, by omega, ?_, fun h => by omega, fun _ k hk => ?_⟩
    · rw [hp, encR, encN, if_neg (by omega), if_pos (by omega)]
      simp only [List.map_cons, List.map_nil, List.take_succ_cons, List.take_zero]
      rw [ofN a _ (by omega), ofN b _ (by omega)]
    · rw [hp] at hk
      have : k = 0 ∨ k = 1 := by simp only [] at hk; omega
      rcases this with rfl | rfl <;> omega
  · obtain ⟨a, b, c, l', rfl⟩ : ∃ a b c l', l = a :: b :: c :: l' := by
      match l, hl with
      | a :: b :: c :: l', _ => exact ⟨a, b, c, l', rfl⟩
    have ea : at0 (a :: b :: c :: l') 0 = a.toNat := rfl
    have eb : at0 (a :: b :: c :: l') 1 = b.toNat := rfl
    have ec : at0 (a :: b :: c :: l') 2 = c.toNat := rfl
    generalize hr : (at0 (a :: b :: c :: l') 0 % 16 * 64 + at0 (a :: b :: c :: l') 1 % 64) * 64 + at0 (a :: b :: c :: l') 2 % 64 = r at *
    refine ⟨r, by rw [hp], by omega, by omega, ?_, fun h => by omega, fun _ k hk => ?_⟩
    · rw [hp, encR, encN, if_neg (by omega), if_neg (by omega), if_pos (by omega)]
      simp only [List.map_cons, List.map_nil, List.take_succ_cons, List.take_zero]
      rw [ofN a _ (by omega), ofN b _ (by omega), ofN c _ (by omega)]
    · rw [hp] at hk
      have : k = 0 ∨ k = 1 ∨ k = 2 := by simp only [] at hk; omega
      rcases this with rfl | rfl | rfl <;> omega
  · obtain ⟨a, b, c, d, l', rfl⟩ : ∃ a b c d l', l = a :: b :: c :: d :: l' := by
      match l, hl with
      | a :: b :: c :: d :: l', _ => exact ⟨a, b, c, d, l', rfl⟩
    have ea : at0 (a :: b :: c :: d :: l') 0 = a.toNat := rfl
    have eb : at0 (a :: b :: c :: d :: l') 1 = b.toNat := rfl
    have ec : at0 (a :: b :: c :: d :: l') 2 = c.toNat := rfl
    have ed : at0 (a :: b :: c :: d :: l') 3 = d.toNat := rfl
    generalize hr : ((at0 (a :: b :: c :: d :: l') 0 % 8 * 64 + at0 (a :: b :: c :: d :: l') 1 % 64) * 64 + at0 (a :: b :: c :: d :: l') 2 % 64) * 64 + at0 (a :: b :: c :: d :: l') 3 % 64 = r at *
    refine ⟨r, by rw [hp], by omega, by omega, ?_, fun h => by omega, fun _ k hk => ?_⟩
    · rw [hp, encR, encN, if_neg (by omega), if_neg (by omega), if_neg (by omega)]
      simp only [List.map_cons, List.map_nil, List.take_succ_cons, List.take_zero]
      rw [ofN a _ (by omega), ofN b _ (by omega), ofN c _ (by omega), ofN d _ (by omega)]
    · rw [hp] at hk
      have : k = 0 ∨ k = 1 ∨ k = 2 ∨ k = 3 := by simp only [] at hk; omega
      rcases this with rfl | rfl | rfl | rfl <;> omega

/-- of a text that is right the first piece is, and the rest is right -/
theorem valid_step (l : List UInt8) (h0 : 0 < l.length) (h : validR l = true) : Right l ∧ validR (l.drop (pieceR l).2.1) = true := by
  have hp := readS_piece l h0
  have hv := validS_cons l h0
  rw [valid_eq, valid_eq, h, hp] at hv
  dsimp only at hv
  by_cases hw : whatR l = 0
  · rw [if_neg (by simpa using hw)] at hv
    exact ⟨right_of l ((whatR_zero l).1 hw), hv.symm⟩
  · rw [if_pos hw] at hv; cases hv
end Go.Proofs.YtmnnffenijjpcaaDoor

/-
  Ranges over strings; an array's elements.
-/
set_option linter.unusedSimpArgs false
set_option linter.unusedVariables false
set_option linter.unnecessarySimpa false
namespace Go.Sv
open Go Go.RowKit
/-- an iterator over l, at i -/
def It (w : World) (r : Nat) (l : List UInt8) (i : Nat) : Prop := w.heap[r]? = some (.stringIter ⟨l.toArray⟩ i)
section
variable {w w' : World} {r i b : Nat} {l : List UInt8} {M : List Nat} {T E : TypeId} {q : Option Addr} {s : List UInt8}
theorem It.lt (h : It w r l i) : r < w.heap.size := (Array.getElem?_eq_some_iff.1 h).1
theorem It.le (h : It w r l i) (hl : Le M w w') (hm : r ∉ M) : It w' r l i := (hl.block r h.lt hm).trans h
theorem It.frm (h : It w r l i) (hl : Frm w w') : It w' r l i := h.le (M := []) hl.le (by simp)
end
section
variable {P : Program} {n : Nat} {ds : Ctx} {ops : Array Oper} {Q : Exit → Ctx → Env → World → Prop} {rest : List Oper} {σ : GE} {w : World} {d : Nat} {ty t e : TypeId} {pos : String} {af : Array Edge} {x y : Operand} {l : List UInt8} {r i : Nat}
end
end Go.Sv

/-
  DERIVED: THE SHELF's CONTRACTS AT THIS DUMP, IN PLAIN WORDS (tools/lay-plain.mjs out of 'TrydShelf.lean', which tools/lay-shelf.mjs wrote): THE SAME DECLARATIONS UNDER THE SAME NAMES: 'import', 'namespace', 'open', 'def', 'theorem' AND NOTHING ELSE: no command of the shelf's: FOR A HAND-IN. Each laying: the table of numbers ('.._ren') and one theorem, a field a fact of the dump's own or the kernel's comparison; each contract: ONE APPLICATION.
-/
namespace Go.Proofs
open Go.Shelf
def Tryd.lays231_ren : Go.Shelf.Ren := ⟨fun | 231 => 41 | n => n, fun | 9 => 9 | 5 => 5 | 3 => 3 | 4 => 4 | n => n, fun | n => n⟩
def Tryd.lays232_ren : Go.Shelf.Ren := ⟨fun | 232 => 49 | n => n, fun | 9 => 9 | 5 => 5 | 3 => 3 | 4 => 4 | n => n, fun | n => n⟩
def Tryd.lays161_ren : Go.Shelf.Ren := ⟨fun | 161 => 29 | 231 => 41 | 227 => 42 | 233 => 43 | 235 => 44 | 228 => 68 | 197 => 69 | 151 => 70 | 260 => 83 | 152 => 84 | 137 => 89 | 119 => 90 | 224 => 91 | 225 => 92 | 217 => 93 | 266 => 94 | n => n, fun | 9 => 9 | 4 => 4 | 3 => 3 | 5 => 5 | 117 => 93 | 116 => 92 | 0 => 0 | 124 => 96 | 105 => 116 | 21 => 21 | 119 => 113 | 46 => 124 | 139 => 146 | 138 => 145 | n => n, fun | 3 => 2 | 4 => 3 | n => n⟩
theorem Tryd.lays161 : Go.Proofs.Lays.n161 Tryd.prog Tryd.lays161_ren := {
  mixed := by kernel_rfl
  f119 := Tryd.func90.trans (congrArg some (by kernel_rfl))
  f137 := Tryd.func89.trans (congrArg some (by kernel_rfl))
  f151 := Tryd.func70.trans (congrArg some (by kernel_rfl))
  f152 := Tryd.func84.trans (congrArg some (by kernel_rfl))
  f161 := Tryd.func29.trans (congrArg some (by kernel_rfl))
  f197 := Tryd.func69.trans (congrArg some (by kernel_rfl))
  f217 := Tryd.func93.trans (congrArg some (by kernel_rfl))
  f224 := Tryd.func91.trans (congrArg some (by kernel_rfl))
  f225 := Tryd.func92.trans (congrArg some (by kernel_rfl))
  f227 := Tryd.func42.trans (congrArg some (by kernel_rfl))
  f228 := Tryd.func68.trans (congrArg some (by kernel_rfl))
  f231 := Tryd.func41.trans (congrArg some (by kernel_rfl))
  f233 := Tryd.func43.trans (congrArg some (by kernel_rfl))
  f235 := Tryd.func44.trans (congrArg some (by kernel_rfl))
  f260 := Tryd.func83.trans (congrArg some (by kernel_rfl))
  f266 := Tryd.func94.trans (congrArg some (by kernel_rfl))
  t0 := Tryd.underlying0
  a0 := Tryd.isAgg0
  z0 := Tryd.sizeOf0
  v0 := Tryd.zeroValue0
  t3 := Tryd.underlying3
  a3 := Tryd.isAgg3
  z3 := Tryd.sizeOf3
  v3 := Tryd.zeroValue3
  t4 := Tryd.underlying4
  a4 := Tryd.isAgg4
  z4 := Tryd.sizeOf4
  v4 := Tryd.zeroValue4
  t5 := Tryd.underlying5
  a5 := Tryd.isAgg5
  z5 := Tryd.sizeOf5
  v5 := Tryd.zeroValue5
  t9 := Tryd.underlying9
  a9 := Tryd.isAgg9
  z9 := Tryd.sizeOf9
  v9 := Tryd.zeroValue9
  t21 := Tryd.underlying21
  a21 := Tryd.isAgg21
  z21 := Tryd.sizeOf21
  v21 := Tryd.zeroValue21
  t46 := Tryd.underlying124
  a46 := Tryd.isAgg124
  z46 := Tryd.sizeOf124
  v46 := Tryd.zeroValue124
  t105 := Tryd.underlying116
  a105 := Tryd.isAgg116
  z105 := Tryd.sizeOf116
  v105 := Tryd.zeroValue116
  t116 := Tryd.underlying92
  a116 := Tryd.isAgg92
  z116 := Tryd.sizeOf92
  t117 := Tryd.underlying93
  a117 := Tryd.isAgg93
  z117 := Tryd.sizeOf93
  v117 := Tryd.zeroValue93
  t119 := Tryd.underlying113
  a119 := Tryd.isAgg113
  z119 := Tryd.sizeOf113
  t124 := Tryd.underlying96
  a124 := Tryd.isAgg96
  z124 := Tryd.sizeOf96
  v124 := Tryd.zeroValue96
  t138 := Tryd.underlying145
  a138 := Tryd.isAgg145
  z138 := Tryd.sizeOf145
  v138 := Tryd.zeroValue145
  t139 := Tryd.underlying146
  a139 := Tryd.isAgg146
  z139 := Tryd.sizeOf146
  v139 := Tryd.zeroValue146
  g3 := by kernel_rfl
  g4 := by kernel_rfl }
open Go.RowKit in
/-- strings.TrimLeft: "TrimLeft returns a slice of the string s with all leading Unicode code points contained in cutset removed.": AT A cutset OF ONE ASCII BYTE. The world is as it was. (LAID: no walk: one application.) -/
theorem Tryd.strings_TrimLeft_one (s : ByteArray) (c : UInt8) (hc : c.toNat < 128) (w : World) :
    Calls Tryd.prog 29 #[.string s, .string ⟨#[c]⟩] w fun e w' => e = .returned (.string ⟨(Lib.trimLeftB s.data.toList c).toArray⟩) ∧ w' = w := Any.strings_TrimLeft_one Tryd.lays161 s c hc w
def Tryd.lays160_ren : Go.Shelf.Ren := ⟨fun | 160 => 31 | 232 => 49 | 231 => 41 | 227 => 42 | 234 => 50 | 233 => 43 | 236 => 51 | 235 => 44 | 228 => 68 | 271 => 71 | 151 => 70 | 197 => 69 | 120 => 85 | 152 => 84 | 260 => 83 | 137 => 89 | 119 => 90 | 224 => 91 | 225 => 92 | 217 => 93 | 266 => 94 | n => n, fun | 9 => 9 | 4 => 4 | 3 => 3 | 5 => 5 | 117 => 93 | 116 => 92 | 0 => 0 | 124 => 96 | 21 => 21 | 105 => 116 | 46 => 124 | 119 => 113 | 139 => 146 | 138 => 145 | n => n, fun | 3 => 2 | 4 => 3 | n => n⟩
def Tryd.lays119_ren : Go.Shelf.Ren := ⟨fun | 119 => 90 | n => n, fun | 21 => 21 | 4 => 4 | n => n, fun | n => n⟩
def Tryd.lays120_ren : Go.Shelf.Ren := ⟨fun | 120 => 85 | n => n, fun | 5 => 5 | 4 => 4 | n => n, fun | n => n⟩
def Tryd.lays137_ren : Go.Shelf.Ren := ⟨fun | 137 => 89 | 217 => 93 | 266 => 94 | n => n, fun | 9 => 9 | 5 => 5 | 3 => 3 | n => n, fun | n => n⟩
def Tryd.lays217_ren : Go.Shelf.Ren := ⟨fun | 217 => 93 | 266 => 94 | n => n, fun | 9 => 9 | 5 => 5 | 3 => 3 | n => n, fun | n => n⟩
def Tryd.lays224_ren : Go.Shelf.Ren := ⟨fun | 224 => 91 | n => n, fun | 3 => 3 | n => n, fun | n => n⟩
def Tryd.lays157_ren : Go.Shelf.Ren := ⟨fun | 157 => 39 | 229 => 66 | 199 => 67 | 261 => 82 | 311 => 87 | 312 => 88 | n => n, fun | 9 => 9 | 31 => 30 | 3 => 3 | 5 => 5 | 4 => 4 | 119 => 113 | 0 => 0 | 40 => 115 | 152 => 125 | 21 => 21 | 154 => 127 | 51 => 128 | 141 => 130 | 196 => 136 | 193 => 133 | 198 => 139 | 49 => 137 | 194 => 134 | 201 => 142 | 226 => 150 | 46 => 124 | 227 => 151 | n => n, fun | 0 => 0 | 6 => 1 | n => n⟩
theorem Tryd.lays157 : Go.Proofs.Lays.n157 Tryd.prog Tryd.lays157_ren := {
  mixed := by kernel_rfl
  f157 := Tryd.func39.trans (congrArg some (by kernel_rfl))
  f199 := Tryd.func67.trans (congrArg some (by kernel_rfl))
  f229 := Tryd.func66.trans (congrArg some (by kernel_rfl))
  f261 := Tryd.func82.trans (congrArg some (by kernel_rfl))
  f311 := Tryd.func87.trans (congrArg some (by kernel_rfl))
  f312 := Tryd.func88.trans (congrArg some (by kernel_rfl))
  t0 := Tryd.underlying0
  a0 := Tryd.isAgg0
  z0 := Tryd.sizeOf0
  v0 := Tryd.zeroValue0
  t3 := Tryd.underlying3
  a3 := Tryd.isAgg3
  z3 := Tryd.sizeOf3
  v3 := Tryd.zeroValue3
  t4 := Tryd.underlying4
  a4 := Tryd.isAgg4
  z4 := Tryd.sizeOf4
  v4 := Tryd.zeroValue4
  t5 := Tryd.underlying5
  a5 := Tryd.isAgg5
  z5 := Tryd.sizeOf5
  v5 := Tryd.zeroValue5
  t9 := Tryd.underlying9
  a9 := Tryd.isAgg9
  z9 := Tryd.sizeOf9
  v9 := Tryd.zeroValue9
  t21 := Tryd.underlying21
  a21 := Tryd.isAgg21
  z21 := Tryd.sizeOf21
  v21 := Tryd.zeroValue21
  t31 := Tryd.underlying30
  a31 := Tryd.isAgg30
  z31 := Tryd.sizeOf30
  v31 := Tryd.zeroValue30
  t40 := Tryd.underlying115
  a40 := Tryd.isAgg115
  z40 := Tryd.sizeOf115
  v40 := Tryd.zeroValue115
  t46 := Tryd.underlying124
  a46 := Tryd.isAgg124
  z46 := Tryd.sizeOf124
  v46 := Tryd.zeroValue124
  t49 := Tryd.underlying137
  a49 := Tryd.isAgg137
  z49 := Tryd.sizeOf137
  v49 := Tryd.zeroValue137
  t51 := Tryd.underlying128
  a51 := Tryd.isAgg128
  z51 := Tryd.sizeOf128
  v51 := Tryd.zeroValue128
  t119 := Tryd.underlying113
  a119 := Tryd.isAgg113
  z119 := Tryd.sizeOf113
  t141 := Tryd.underlying130
  a141 := Tryd.isAgg130
  z141 := Tryd.sizeOf130
  v141 := Tryd.zeroValue130
  t152 := Tryd.underlying125
  a152 := Tryd.isAgg125
  z152 := Tryd.sizeOf125
  v152 := Tryd.zeroValue125
  t154 := Tryd.underlying127
  a154 := Tryd.isAgg127
  z154 := Tryd.sizeOf127
  v154 := Tryd.zeroValue127
  t193 := Tryd.underlying133
  a193 := Tryd.isAgg133
  z193 := Tryd.sizeOf133
  v193 := Tryd.zeroValue133
  t194 := Tryd.underlying134
  a194 := Tryd.isAgg134
  z194 := Tryd.sizeOf134
  v194 := Tryd.zeroValue134
  t196 := Tryd.underlying136
  a196 := Tryd.isAgg136
  z196 := Tryd.sizeOf136
  v196 := Tryd.zeroValue136
  t198 := Tryd.underlying139
  a198 := Tryd.isAgg139
  z198 := Tryd.sizeOf139
  v198 := Tryd.zeroValue139
  t201 := Tryd.underlying142
  a201 := Tryd.isAgg142
  z201 := Tryd.sizeOf142
  v201 := Tryd.zeroValue142
  t226 := Tryd.underlying150
  a226 := Tryd.isAgg150
  z226 := Tryd.sizeOf150
  v226 := Tryd.zeroValue150
  t227 := Tryd.underlying151
  a227 := Tryd.isAgg151
  z227 := Tryd.sizeOf151
  v227 := Tryd.zeroValue151
  g0 := by kernel_rfl
  g6 := by kernel_rfl }
open Go.RowKit Go.Lib in
/-- strings.Fields, the table by 'Lib.TabIs' (as strings.TrimSpace's contract). 'hg': the table's number, by its name: at a dump 'by kernel_rfl'. (LAID: no walk: one application.) -/
theorem Tryd.strings_Fields (s : ByteArray) (w : World) (hs : s.size < 4294967281) (hascii : ∀ (j : Nat) b, s.data.toList[j]? = some b → b.toNat < 128) (htab : Lib.TabIs Tryd.prog w "strings.asciiSpace" .u8 Lib.asciiSpaceTab) :
    Calls Tryd.prog 39 #[.string s] w fun e w' =>
      e = .returned (.slice (some ⟨w.heap.size, 0, none⟩) (Lib.fields s.data.toList).length (Lib.fields s.data.toList).length) ∧ w' = w.alloc (.cells ((Lib.fields s.data.toList).map fun l => Value.string ⟨l.toArray⟩).toArray 9) := Any.strings_Fields Tryd.lays157 (by kernel_rfl) (by kernel_rfl) s w hs hascii htab
def Tryd.laysM157_ren : Go.Shelf.Ren := ⟨fun | 157 => 39 | 229 => 66 | 199 => 67 | 261 => 82 | 311 => 87 | 312 => 88 | n => n, fun | 9 => 9 | 31 => 30 | 3 => 3 | 5 => 5 | 4 => 4 | 119 => 113 | 0 => 0 | 40 => 115 | 152 => 125 | 21 => 21 | 154 => 127 | 51 => 128 | 141 => 130 | 196 => 136 | 193 => 133 | 198 => 139 | 49 => 137 | 194 => 134 | 201 => 142 | 226 => 150 | 46 => 124 | 227 => 151 | n => n, fun | 0 => 0 | 6 => 1 | n => n⟩
def Tryd.lays199_ren : Go.Shelf.Ren := ⟨fun | 199 => 67 | 261 => 82 | 311 => 87 | 312 => 88 | n => n, fun | 21 => 21 | 4 => 4 | 51 => 128 | 141 => 130 | 0 => 0 | 196 => 136 | 193 => 133 | 3 => 3 | 198 => 139 | 49 => 137 | 194 => 134 | 201 => 142 | 226 => 150 | 46 => 124 | 227 => 151 | n => n, fun | 6 => 1 | n => n⟩
def Tryd.lays197_ren : Go.Shelf.Ren := ⟨fun | 197 => 69 | 260 => 83 | n => n, fun | 9 => 9 | 21 => 21 | 3 => 3 | 4 => 4 | 5 => 5 | 105 => 116 | 119 => 113 | 0 => 0 | 46 => 124 | 139 => 146 | 138 => 145 | n => n, fun | 3 => 2 | 4 => 3 | n => n⟩
def Tryd.lays152_ren : Go.Shelf.Ren := ⟨fun | 152 => 84 | 137 => 89 | 119 => 90 | 224 => 91 | 225 => 92 | 217 => 93 | 266 => 94 | n => n, fun | 9 => 9 | 21 => 21 | 3 => 3 | 4 => 4 | 5 => 5 | 0 => 0 | 46 => 124 | n => n, fun | n => n⟩
def Tryd.lays151_ren : Go.Shelf.Ren := ⟨fun | 151 => 70 | 152 => 84 | 137 => 89 | 119 => 90 | 224 => 91 | 225 => 92 | 217 => 93 | 266 => 94 | n => n, fun | 9 => 9 | 21 => 21 | 4 => 4 | 3 => 3 | 5 => 5 | 0 => 0 | 46 => 124 | n => n, fun | n => n⟩
def Tryd.lays227_ren : Go.Shelf.Ren := ⟨fun | 227 => 42 | n => n, fun | 9 => 9 | 116 => 92 | 4 => 4 | 0 => 0 | 3 => 3 | 5 => 5 | n => n, fun | n => n⟩
theorem Tryd.lays227 : Go.Proofs.Lays.n227 Tryd.prog Tryd.lays227_ren := {
  mixed := by kernel_rfl
  f227 := Tryd.func42.trans (congrArg some (by kernel_rfl))
  t0 := Tryd.underlying0
  a0 := Tryd.isAgg0
  z0 := Tryd.sizeOf0
  v0 := Tryd.zeroValue0
  t3 := Tryd.underlying3
  a3 := Tryd.isAgg3
  z3 := Tryd.sizeOf3
  v3 := Tryd.zeroValue3
  t4 := Tryd.underlying4
  a4 := Tryd.isAgg4
  z4 := Tryd.sizeOf4
  v4 := Tryd.zeroValue4
  t5 := Tryd.underlying5
  a5 := Tryd.isAgg5
  z5 := Tryd.sizeOf5
  v5 := Tryd.zeroValue5
  t9 := Tryd.underlying9
  a9 := Tryd.isAgg9
  z9 := Tryd.sizeOf9
  v9 := Tryd.zeroValue9
  t116 := Tryd.underlying92
  a116 := Tryd.isAgg92
  z116 := Tryd.sizeOf92 }
open Go.RowKit Go.Lib in
theorem Tryd.strings_makeASCIISet (hv116 : ∀ w, (zeroValue 92).run Tryd.prog w = .ok (.agg (Array.replicate 256 (.bool false))) w) (chars : ByteArray) (w : World) (hs : chars.size < 4294967281) (hascii : ∀ (j : Nat) b, chars.data.toList[j]? = some b → b.toNat < 128) :
    Calls Tryd.prog 42 #[.string chars] w fun e w' => e = .returned (.tuple #[.agg (Lib.setCells chars.data.toList), .bool true]) ∧ w' = w.alloc (.cells (Lib.setCells chars.data.toList) 92) := Any.strings_makeASCIISet Tryd.lays227 hv116 (by kernel_rfl) chars w hs hascii
def Tryd.lays228_ren : Go.Shelf.Ren := ⟨fun | 228 => 68 | n => n, fun | 124 => 96 | 5 => 5 | 4 => 4 | 0 => 0 | 116 => 92 | n => n, fun | n => n⟩
theorem Tryd.lays228 : Go.Proofs.Lays.n228 Tryd.prog Tryd.lays228_ren := {
  mixed := by kernel_rfl
  f228 := Tryd.func68.trans (congrArg some (by kernel_rfl))
  t0 := Tryd.underlying0
  a0 := Tryd.isAgg0
  z0 := Tryd.sizeOf0
  v0 := Tryd.zeroValue0
  t4 := Tryd.underlying4
  a4 := Tryd.isAgg4
  z4 := Tryd.sizeOf4
  v4 := Tryd.zeroValue4
  t5 := Tryd.underlying5
  a5 := Tryd.isAgg5
  z5 := Tryd.sizeOf5
  v5 := Tryd.zeroValue5
  t116 := Tryd.underlying92
  a116 := Tryd.isAgg92
  z116 := Tryd.sizeOf92
  t124 := Tryd.underlying96
  a124 := Tryd.isAgg96
  z124 := Tryd.sizeOf96
  v124 := Tryd.zeroValue96 }
open Go.RowKit Go.Lib in
/-- '(as *asciiSet) contains(c)': 'as[c]': the set lies at block b, whole. (LAID: no walk: one application.) -/
theorem Tryd.asciiSet_contains (b : Nat) (x : UInt8) (v : Bool) (w : World) (hc : w.cell? ⟨b, x.toNat, none⟩ = some (.bool v)) :
    Calls Tryd.prog 68 #[.pointer (some ⟨b, 0, none⟩), .int .u8 x.toNat] w fun e w' => e = .returned (.bool v) ∧ w' = w := Any.asciiSet_contains Tryd.lays228 b x v w hc
def Tryd.lays260_ren : Go.Shelf.Ren := ⟨fun | 260 => 83 | n => n, fun | 9 => 9 | 21 => 21 | 3 => 3 | 4 => 4 | 5 => 5 | 119 => 113 | 0 => 0 | 46 => 124 | 139 => 146 | 138 => 145 | n => n, fun | 3 => 2 | 4 => 3 | n => n⟩
def Tryd.lays311_ren : Go.Shelf.Ren := ⟨fun | 311 => 87 | n => n, fun | 193 => 133 | 49 => 137 | 4 => 4 | 3 => 3 | 0 => 0 | 226 => 150 | 198 => 139 | 46 => 124 | n => n, fun | n => n⟩
def Tryd.lays261_ren : Go.Shelf.Ren := ⟨fun | 261 => 82 | 311 => 87 | 312 => 88 | n => n, fun | 141 => 130 | 21 => 21 | 4 => 4 | 0 => 0 | 196 => 136 | 193 => 133 | 3 => 3 | 51 => 128 | 198 => 139 | 49 => 137 | 194 => 134 | 201 => 142 | 226 => 150 | 46 => 124 | 227 => 151 | n => n, fun | n => n⟩
def Tryd.lays271_ren : Go.Shelf.Ren := ⟨fun | 271 => 71 | 120 => 85 | 197 => 69 | 260 => 83 | n => n, fun | 9 => 9 | 21 => 21 | 3 => 3 | 4 => 4 | 5 => 5 | 105 => 116 | 119 => 113 | 0 => 0 | 46 => 124 | 139 => 146 | 138 => 145 | n => n, fun | 3 => 2 | 4 => 3 | n => n⟩
def Tryd.lays229_ren : Go.Shelf.Ren := ⟨fun | 229 => 66 | n => n, fun | 9 => 9 | 40 => 115 | 31 => 30 | 152 => 125 | 3 => 3 | 0 => 0 | 4 => 4 | 21 => 21 | 154 => 127 | n => n, fun | n => n⟩
def Tryd.lays312_ren : Go.Shelf.Ren := ⟨fun | 312 => 88 | n => n, fun | 194 => 134 | 51 => 128 | 4 => 4 | 3 => 3 | 0 => 0 | 227 => 151 | 201 => 142 | 46 => 124 | n => n, fun | n => n⟩
def Tryd.laysNm216_ren : Go.Shelf.Ren := ⟨fun | 16 => 65 | n => n, fun | 24 => 30 | 9 => 9 | 4 => 4 | n => n, fun | n => n⟩
def Tryd.laysSlE041_f65_ren : Go.Shelf.Ren := ⟨fun | 41 => 65 | n => n, fun | 22 => 30 | 23 => 9 | 4 => 4 | n => n, fun | n => n⟩
end Go.Proofs

/-
  Package token: quoted texts; the kinds' words.
-/
set_option linter.unusedSimpArgs false
set_option linter.unusedVariables false
set_option linter.unnecessarySimpa false
namespace Go.Proofs.YtmnnffenijjpcaaDoor
open Go Go.Sv Go.RowKit







/-- a byte in a quoted text -/
def esc (c : UInt8) : List UInt8 := if c = 10 then [92, 110] else if c = 9 then [92, 116] else if c = 34 then [92, 34] else if c = 92 then [92, 92] else [c]
def quoteR (l : List UInt8) : List UInt8 := 34 :: l.flatMap esc ++ [34]
def escP (r : Nat) : List UInt8 := if r = 10 then [92, 110] else if r = 9 then [92, 116] else if r = 34 ∨ r = 92 then 92 :: encR r else encR r
end Go.Proofs.YtmnnffenijjpcaaDoor

/-
  Arrays written out; a function's end, where its result lies in a cell.
-/
set_option linter.unusedSimpArgs false
set_option linter.unusedVariables false
set_option linter.unnecessarySimpa false
namespace Go.Sv
open Go Go.RowKit
section
variable {P : Program} {σ : Env} {w : World} {d : Option Tmp} {ty t e : TypeId} {pos : String} {af : Array Edge} {g : Option (Nat × Bool)} {x y : Operand} {v1 v2 v3 v4 v5 z1 z2 z3 z4 z5 zv : Value} {x1 x2 x3 x4 x5 : Operand} {bytes bytes' n i : Nat} {k : IntKind} 
end
theorem fpc {P : Program} {n : Nat} {fn : Func} {R : Value → World → Prop} {σ : Env} {w : World} {tt : Nat} {ty : TypeId} {ex : Exit} {b : Nat} {l : List Value} {zv : Value} {bytes : Nat} {ds : Ctx} (hex : ex = .ret ∨ ex = .normal) (hr : fn.results = #[.cell tt ty]) (ht : Nat.blt tt n = true) (hp : σ tt = .pointer (pb b)) (ho : Own w b l)
    [ha : Agg P ty true] [hi : Inf P ty zv l.length bytes] (h : R (.agg l.toArray) w) (hd : ds.ds = [] := by rfl) : fpost P n fn R ex ds σ w := by
  obtain ⟨T, ho⟩ := ho
  obtain ⟨dd, hd1, hd2⟩ := ha.ok
  obtain ⟨i, hi1, hi2, hi3, hi4⟩ := inf_size (P := P) (t := ty)
  exact fp_of hex hd (results_cell_row (P := P) hr (act n ds.ds σ).tmps w b T l.toArray (0, 0) dd (by rw [act_getD ht]; exact hp) ho hd1 (by revert hd2; cases dd <;> exact id) (by rw [hi1]; simp [hi3])) h
end Go.Sv

/-
  Package token: Print.
-/
set_option linter.unusedSimpArgs false
set_option linter.unusedVariables false
set_option linter.unnecessarySimpa false
namespace Go.Proofs.YtmnnffenijjpcaaDoor
open Go Go.Sv Go.RowKit

def wText : List UInt8 := [116, 101, 120, 116]
def wStart : List UInt8 := [115, 116, 97, 114, 116]
def wEnd : List UInt8 := [101, 110, 100]
def wComment : List UInt8 := [99, 111, 109, 109, 101, 110, 116]
def wDoctype : List UInt8 := [100, 111, 99, 116, 121, 112, 101]
def wordsV : Value := .agg #[str wText, str wStart, str wEnd, str wComment, str wDoctype]
def wordR (k : Int) : List UInt8 := if k = 0 then wText else if k = 1 then wStart else if k = 2 then wEnd else if k = 3 then wComment else wDoctype










end Go.Proofs.YtmnnffenijjpcaaDoor

/-
  Package token: Print.
-/
set_option linter.unusedSimpArgs false
set_option linter.unusedVariables false
set_option linter.unnecessarySimpa false
namespace Go.Proofs.YtmnnffenijjpcaaDoor
open Go Go.Sv Go.RowKit

def atLine (x : At) : List UInt8 := 32 :: quoteR x.n ++ [61] ++ quoteR x.v
/-- the line of a token that may be -/
def headR (t : Tok) : List UInt8 :=
  wordR t.kind ++ (if t.kind = 1 ∨ t.kind = 2 then 32 :: quoteR t.name else if t.kind = 0 ∨ t.kind = 3 then 32 :: quoteR t.text else [])
def lineR (t : Tok) : List UInt8 := headR t ++ t.attrs.flatMap atLine ++ (if t.self then [32, 47] else [])

structure MayF (t : Tok) : Prop where
  kind : 0 ≤ t.kind ∧ t.kind ≤ 4
  name : t.kind = 1 ∨ t.kind = 2 → validR t.name = true
  text : t.kind = 0 ∨ t.kind = 3 → validR t.text = true
  attrs : ∀ x ∈ t.attrs, validR x.n = true ∧ validR x.v = true
end Go.Proofs.YtmnnffenijjpcaaDoor

/-
  Package sieveref07: Quote and Line; package token: List.
-/
set_option linter.unusedSimpArgs false
set_option linter.unusedVariables false
set_option linter.unnecessarySimpa false
namespace Go.Proofs.YtmnnffenijjpcaaDoor
open Go Go.Sv Go.RowKit

end Go.Proofs.YtmnnffenijjpcaaDoor

/-
  sievelaw07: the document's examples.
-/
set_option linter.unusedSimpArgs false
set_option linter.unusedVariables false
set_option linter.unnecessarySimpa false
namespace Go.Sv
open Go Go.RowKit
end Go.Sv
namespace Go.Proofs.YtmnnffenijjpcaaDoor
open Go Go.Sv Go.RowKit

def exAt : At := ⟨[104, 114, 101, 102], [120, 34, 121]⟩
def exTok : Tok := ⟨1, [97], [], [exAt], false, 0, 0, 0⟩
def exBad : Tok := ⟨1, [65], [], [], false, 0, 0, 0⟩
def exLine : List UInt8 := [115, 116, 97, 114, 116, 32, 34, 97, 34, 32, 34, 104, 114, 101, 102, 34, 61, 34, 120, 92, 34, 121, 34]
end Go.Proofs.YtmnnffenijjpcaaDoor

/-
  Lists of tokens in memory; package token: List; sievelaw07: TokenPrints.
-/
set_option linter.unusedSimpArgs false
set_option linter.unusedVariables false
set_option linter.unnecessarySimpa false
namespace Go.Proofs.YtmnnffenijjpcaaDoor
open Go Go.Sv Go.RowKit

/-- a token as it lies in memory: and where its attributes lie -/
structure TokM where
  t : Tok
  p : Option Addr
  c : Nat
def TokM.cells (m : TokM) : List Value := m.t.cells m.p m.c
theorem TokM.len (m : TokM) : m.cells.length = 8 := rfl
structure Toks (w : World) (p : Option Addr) (ms : List TokM) : Prop where
  im : Im [] w p (ms.flatMap TokM.cells)
  each : ∀ m ∈ ms, Im [] w m.p (m.t.attrs.flatMap At.cells)
theorem Toks.frm {w w' : World} {p : Option Addr} {ms : List TokM} (h : Toks w p ms) (hf : Frm w w') : Toks w' p ms := ⟨h.im.frm hf, fun m hm => (h.each m hm).frm hf⟩

def At.wt (x : At) : Nat := x.n.length + x.v.length + 3
def Tok.wt (t : Tok) : Nat := 8 + t.name.length + t.text.length + (t.attrs.map At.wt).sum
def lnR (t : Tok) : List UInt8 := lineR t ++ [10]
def wts (ms : List TokM) : Nat := (ms.map fun m => m.t.wt).sum
def lns (ms : List TokM) : List UInt8 := ms.flatMap fun m => lnR m.t
def allMay (ms : List TokM) : Bool := ms.all fun m => mayR m.t
end Go.Proofs.YtmnnffenijjpcaaDoor

/-
  Regions that draw their order and write: what stands in the world is told by what has been carried out.
-/
set_option linter.unusedSimpArgs false
set_option linter.unusedVariables false
set_option linter.unnecessarySimpa false
namespace Go.Sv
open Go Go.RowKit

def fl (b : Array Bool) : Nat → Bool := fun k => b.getD k false
def on (L : Nat → Bool) (i : Nat) : Nat → Bool := fun k => match Nat.beq k i with | true => true | false => L k
theorem on_same (L : Nat → Bool) (i : Nat) : on L i i = true := by simp [on, Nat.beq_refl]
theorem on_ne (L : Nat → Bool) {i k : Nat} (h : k ≠ i) : on L i k = L k := by
  have : Nat.beq k i = false := by
    cases hb : Nat.beq k i
    · rfl
    · exact absurd (Nat.eq_of_beq_eq_true hb) h
  simp [on, this]
theorem fl_set {b : Array Bool} {i : Nat} (hi : i < b.size) : fl (b.setIfInBounds i true) = on (fl b) i := by
  funext k
  by_cases e : k = i
  · subst e; rw [on_same]; simp [fl, hi]
  · rw [on_ne _ e]; exact getD_set_ne false (Ne.symm e)
def bindsOn (o : Oper) (j : Nat) : Bool := o.after.toList.any fun e => Region.binds .any e && e.on == j
theorem bindsOn_iff {o : Oper} {j : Nat} : bindsOn o j = true ↔ ∃ e ∈ o.after, Region.binds .any e = true ∧ e.on = j := by
  simp only [bindsOn, List.any_eq_true, Bool.and_eq_true, beq_iff_eq, Array.mem_toList_iff]
def Clo (ops : Array Oper) (L : Nat → Bool) : Prop := ∀ j oj, ops[j]? = some oj → L j = true → ∀ i, bindsOn oj i = true → L i = true
/-- what is known when operation k comes up: it stands behind what it waits for, ahead of what waits for it -/
structure Up (ops : Array Oper) (o : Oper) (k : Nat) (L : Nat → Bool) : Prop where
  now : L k = false
  did : ∀ j, bindsOn o j = true → L j = true
  ahead : ∀ j oj, ops[j]? = some oj → bindsOn oj k = true → L j = false
/-- an operation yields v, and behind it T holds -/
def sees (P : Program) (T : World → Prop) (v : Value) : Result Next → Prop
  | .ok (.value u) w' => u = v ∧ T w'
  | .ok .skip w' => v = undef ∧ T w'
  | .ok (.enter f args) w' => Calls P f args w' (fun e w'' => e = .returned v ∧ T w'')
  | _ => False

section
variable {P : Program} {ops : Array Oper} {S : (Nat → Bool) → World → Prop}
def YA (P : Program) (ops : Array Oper) (S : (Nat → Bool) → World → Prop) (o : Oper) (k : Nat) (v : Value) (ev : Operand → Value) : Prop :=
  ∀ L w, Up ops o k L → S L w → sees P (S (on L k)) v ((execOp ev o).run P w)
def ZA (P : Program) (ops : Array Oper) (S : (Nat → Bool) → World → Prop) (o : Oper) (k : Nat) (v : Value) (a : Act) : Prop :=
  (Region.wanted o (yielded ops a.tmps) = true ∧ ∀ L w, Up ops o k L → S L w → sees P (S (on L k)) v ((execOp a.eval o).run P w)) ∨
  (Region.wanted o (yielded ops a.tmps) = false ∧ v = undef ∧ ∀ L w, Up ops o k L → S L w → S (on L k) w)
def gOp (P : Program) (ops : Array Oper) (S : (Nat → Bool) → World → Prop) (i : Nat) (K : Act → Prop) (a : Act) : Prop := ∃ o v, ops[i]? = some o ∧ ZA P ops S o i v a ∧ K (a.put o.dst v)
def wpG (P : Program) (ops : Array Oper) (S : (Nat → Bool) → World → Prop) (Qf : Act → Prop) : Nat → Array Bool → Act → Prop
  | 0, listed, a => Region.ready .any ops listed = [] ∧ (∀ k, k < ops.size → fl listed k = true) ∧ Qf a
  | f + 1, listed, a => Region.ready .any ops listed ≠ [] ∧ ∀ i ∈ Region.ready .any ops listed, gOp P ops S i (fun a' => wpG P ops S Qf f (listed.setIfInBounds i true) a') a

theorem clo_on {L : Nat → Bool} {i : Nat} {o : Oper} (hc : Clo ops L) (hi : ops[i]? = some o) (hd : ∀ j, bindsOn o j = true → L j = true) : Clo ops (on L i) := by
  intro j oj hj hL k hk
  by_cases e : j = i
  · subst e
    rw [hi] at hj
    cases hj
    have := hd k hk
    by_cases e2 : k = j
    · subst e2; exact on_same _ _
    · rw [on_ne _ e2]; exact this
  · rw [on_ne _ e] at hL
    have := hc j oj hj hL k hk
    by_cases e2 : k = i
    · subst e2; exact on_same _ _
    · rw [on_ne _ e2]; exact this

theorem ZA.of_same {o : Oper} {k : Nat} {v : Value} {a a' : Act} (hy : ZA P ops S o k v a) (he : execOp a'.eval o = execOp a.eval o)
    (hw : Region.wanted o (yielded ops a'.tmps) = Region.wanted o (yielded ops a.tmps)) : ZA P ops S o k v a' := by
  unfold ZA at *
  rw [he, hw]
  exact hy
/-- the lexical walk -/
def QS (P : Program) (ops : Array Oper) (S : (Nat → Bool) → World → Prop) (Qf : Env → Prop) : Nat → List Oper → Env → Prop
  | _, [], σ => Qf σ
  | k, o :: l, σ => ∃ v, ((Region.wanted o (yl ops σ) = true ∧ YA P ops S o k v (evl σ)) ∨ (Region.wanted o (yl ops σ) = false ∧ v = undef ∧ ∀ L w, Up ops o k L → S L w → S (on L k) w)) ∧ QS P ops S Qf (k + 1) l (updO σ o.dst v)
end
section
variable {P : Program} {n : Nat} {ds : Ctx} {Q : Exit → Ctx → Env → World → Prop} {S : (Nat → Bool) → World → Prop} {σ : Env} {w : World}
end

/-! ## The rules as a script meets them -/
section
variable {P : Program} {n : Nat} {ds : Ctx} {ops : Array Oper} {Q : Exit → Ctx → Env → World → Prop} {S : (Nat → Bool) → World → Prop} {Qf : Env → Prop} {rest : List Oper} {σ : GE} {w : World} {v : Value} {d k : Nat} {op : Op} {ty : TypeId} {pos : String} {af : Array Edge} {nd : Bool}
end
end Go.Sv
namespace Go.Sv
attribute [irreducible] QS
end Go.Sv

/-
  For each kind of operation that does not look at the world, a rule for regions that draw and write.
-/
set_option linter.unusedSimpArgs false
set_option linter.unusedVariables false
set_option linter.unnecessarySimpa false
namespace Go.Sv
open Go Go.RowKit
section
variable {P : Program} {ops : Array Oper} {S : (Nat → Bool) → World → Prop} {Qf : Env → Prop} {rest : List Oper} {σ : GE} {w : World} {v : Value} {d k : Nat} {ty : TypeId} {pos : String} {af : Array Edge}

end
end Go.Sv

/-
  Stores into slices of one's own; lists of records.
-/
set_option linter.unusedSimpArgs false
set_option linter.unusedVariables false
set_option linter.unnecessarySimpa false
namespace Go.Sv
open Go Go.RowKit
section
variable {P : Program} {n : Nat} {ds : Ctx} {ops : Array Oper} {Q : Exit → Ctx → Env → World → Prop} {rest : List Oper} {σ : GE} {w : World} {v : Value} {d : Nat} {ty t e : TypeId} {pos : String} {af : Array Edge} {x y : Operand} {zv : Value} {size sz bytes m c i k : Nat} {p : Option Addr} {xs : List Value} {S : (Nat → Bool) → World → Prop} {Qf : Env → Prop}
end
section
variable {α : Type} {f : α → List Value} {k : Nat}
end
end Go.Sv
/-! ## append where there is room: in place -/
namespace Go.Sv
open Go Go.RowKit
section
variable {P : Program} {n : Nat} {ds : Ctx} {ops : Array Oper} {Q : Exit → Ctx → Env → World → Prop} {rest : List Oper} {σ : GE} {w : World} {v : Value} {d : Nat} {ty t t' e e' : TypeId} {pos : String} {af : Array Edge} {x y : Operand} {zv : Value} {size bytes m c c' i k j : Nat} {p q : Option Addr} {xs news : List Value}
/-- a slice written out, of no elements -/
theorem wlb0 [hu : Und P t (.slice e)] [hi : Inf P e zv size bytes] (h : ∀ b w', w.heap.size ≤ b → Row w' size (pb b) 0 0 [] → Frm w w' → WL P n ds ops Q rest (real (updG σ d ⟨.slice (pb b) 0 0, true⟩)) w') :
    WL P n ds ops Q (⟨some d, .buildSlice t 0 #[], ty, pos, af, none⟩ :: rest) (real σ) w := by
  refine wl (h w.heap.size (w.alloc (.cells #[] e)) (Nat.le_refl _) (Row.of_own (own_alloc _ _ _) (by simp) (by omega)) (frm_alloc _ _)) (Y.val ?_)
  simp only [execOp, Instr.buildSlice, Sem.run_bind, underlying, run_program, Result.andThen_ok, hu.ok, Sem.run_pure, run_sizeOf (P := P) (t := e), Nat.zero_mul]
  simp [Instr.fill, newRow]
  refine congrArg (fun cs => w.alloc (Obj.cells cs e)) ?_
  apply Array.ext'
  simp
end
end Go.Sv

/-
  Memory of one's own in pieces that lie apart, carried along as one fact.
-/
set_option linter.unusedSimpArgs false
set_option linter.unusedVariables false
set_option linter.unnecessarySimpa false
namespace Go.Sv
open Go Go.RowKit

theorem Own.of_block {w w' : World} {b : Nat} {l : List Value} (h : Own w b l) (hb : w'.heap[b]? = w.heap[b]?) : Own w' b l := by
  obtain ⟨t, h⟩ := h
  exact ⟨t, hb.trans h⟩
def pOwn (b : Nat) (l : List Value) : Plot where
  foot := [b]
  ok w := Own w b l
  view := (pb b, l)
  loc _ _ h hb := h.of_block (hb b (by simp))
  lt _ h x hx := by rw [List.mem_singleton.1 hx]; exact h.lt
  sg _ h := h.sg
def pRow (size : Nat) (p : Option Addr) (n c : Nat) (xs : List Value) : Plot where
  foot := rb p
  ok w := Row w size p n c xs
  view := (p, xs)
  loc _ _ h hb := h.of_block hb
  lt _ h := h.lt
  sg _ h := h.sg

section
variable {w0 w w' : World} {cs ds es : List Plot} {c c' a b : Plot} {M : List Nat} {i j : Nat}
theorem Sep.own {b : Nat} {l : List Value} (h : Sep w0 w cs) (i : Nat) (hi : cs[i]? = some (pOwn b l)) : Own w b l := h.at (c := pOwn b l) i hi
theorem Sep.row {s n c : Nat} {p : Option Addr} {l : List Value} (h : Sep w0 w cs) (i : Nat) (hi : cs[i]? = some (pRow s p n c l)) : Row w s p n c l := h.at (c := pRow s p n c l) i hi
/-- a piece that is written no more -/
theorem Sep.im {s n c : Nat} {p : Option Addr} {l : List Value} (h : Sep w0 w cs) (i : Nat) (hi : cs[i]? = some (pRow s p n c l)) : Im [] w p l := (h.row i hi).im (by simp)
end

/-! ## Operations on pieces -/
section
variable {P : Program} {n : Nat} {ds : Ctx} {ops : Array Oper} {Q : Exit → Ctx → Env → World → Prop} {rest : List Oper} {σ : GE} {w0 w : World} {v : Value} {d : Nat} {ty t t' e e' : TypeId} {pos : String} {af : Array Edge} {x y : Operand} {zv : Value} {size sz bytes : Nat} {p q : Option Addr} {l xs news vs : List Value} {b i m k c c' j : Nat} {cs : List Plot}
theorem salloc [hi : Inf P e zv size bytes] (hS : Sep w0 w cs) (h : ∀ b w', Sep w0 w' (pOwn b zv.cells.toList :: cs) → WL P n ds ops Q rest (real (updG σ d ⟨ptrAt (pb b) 0, true⟩)) w') :
    WL P n ds ops Q (⟨some d, .alloc e, ty, pos, af, none⟩ :: rest) (real σ) w :=
  wlalloc fun b w' hb ho hf => h b w' (hS.push hf ho (by simpa [pOwn] using hb))
theorem sbox (hS : Sep w0 w cs) (h : ∀ b w', Sep w0 w' (pOwn b v.cells.toList :: cs) → WL P n ds ops Q rest (real (updG σ d ⟨ptrAt (pb b) 0, true⟩)) w') (hx : evl (real σ) x = v := by rfl) :
    WL P n ds ops Q (⟨some d, .box e x, ty, pos, af, none⟩ :: rest) (real σ) w :=
  wlbox (fun b w' hb ho hf => h b w' (hS.push hf ho (by simpa [pOwn] using hb))) hx
theorem lm_own {b : Nat} {w w' : World} (h : Le [b] w w') : Lm [b] w [b] w' := ⟨h, fun _ hx _ => hx⟩
/-- a whole struct into the i-th piece -/
theorem ssta [hi : Inf P t zv size bytes] (hS : Sep w0 w cs) (i : Nat) (h : ∀ w', Sep w0 w' (cs.set i (pOwn b vs)) → WL P n ds ops Q rest (real σ) w') (hc : cs[i]? = some (pOwn b l) := by rfl)
    (hx : evl (real σ) x = ptrAt (pb b) 0 := by rfl) (hy : evl (real σ) y = .agg ⟨vs⟩ := by rfl) (hv : vs.length = size ∧ l.length = size := by first | exact ⟨rfl, rfl⟩ | (simp; done)) (h1 : (vs.all fun c => c.oneCell') = true := by rfl) :
    WL P n ds ops Q (⟨none, .store t x y, ty, pos, af, none⟩ :: rest) (real σ) w :=
  wlstorea0 (hS.own i hc) (fun w' ho hl => h w' (hS.upd i hc (lm_own hl) ho)) hx hy hv (List.all_eq_true.1 h1)
/-- one cell into the i-th piece -/
theorem sst1 [hi : Inf P t zv 1 bytes] (hS : Sep w0 w cs) (i : Nat) (h : ∀ w', Sep w0 w' (cs.set i (pOwn b (l.set j v))) → WL P n ds ops Q rest (real σ) w') (hc : cs[i]? = some (pOwn b l) := by rfl)
    (hx : evl (real σ) x = ptrAt (pb b) j := by rfl) (hy : evl (real σ) y = v := by rfl) (hv : v.cells = #[v] := by rfl) (h1 : v.oneCell' = true := by rfl) (hk : j < l.length := by first | decide | (simp; done)) :
    WL P n ds ops Q (⟨none, .store t x y, ty, pos, af, none⟩ :: rest) (real σ) w :=
  wlstore1 hx hy (hS.own i hc) hv h1 hk fun w' ho hl => h w' (hS.upd i hc (lm_own hl) ho)
theorem sapp [hu : Und P t (.slice e)] [hu' : Und P t' (.slice e')] [hi : Inf P e zv size bytes] (hS : Sep w0 w cs) (i : Nat) (hs : Sg w q news)
    (h : ∀ p' c' w', Sep w0 w' (cs.set i (pRow size p' (m + k) c' (xs ++ news))) → WL P n ds ops Q rest (real (updG σ d ⟨.slice p' (m + k) c', true⟩)) w') (hc : cs[i]? = some (pRow size p m c xs) := by rfl)
    (hx : evl (real σ) x = .slice p m c := by rfl) (hy : evl (real σ) y = .slice q k c' := by rfl) (hl : news.length = k * size := by first | rfl | (simp; done))
    (h1 : ∀ u ∈ news, u.oneCell' = true := by simp [Go.Value.oneCell']) (hz : zv.cells.size = size := by rfl) (hsz : 0 < size := by decide) (hb : (m + k) * bytes ≤ 140737488355328 ∧ m + k ≤ 9223372036854775807 := by omega) :
    WL P n ds ops Q (⟨some d, .call ⟨.builtin .append, #[x, y], #[t, t']⟩, ty, pos, af, none⟩ :: rest) (real σ) w :=
  wlapp (hS.row i hc) hs (fun p' c' w' hr hl => h p' c' w' (hS.upd i hc hl hr)) hx hy hl h1 hz hsz hb
/-- append to nothing: a new piece -/
theorem sapp0 [hu : Und P t (.slice e)] [hu' : Und P t' (.slice e')] [hi : Inf P e zv size bytes] (hS : Sep w0 w cs) (hs : Sg w q news)
    (h : ∀ p' c' w', Sep w0 w' (pRow size p' k c' news :: cs) → WL P n ds ops Q rest (real (updG σ d ⟨.slice p' k c', true⟩)) w')
    (hx : evl (real σ) x = .slice none 0 0 := by rfl) (hy : evl (real σ) y = .slice q k c' := by rfl) (hl : news.length = k * size := by first | rfl | (simp; done))
    (h1 : ∀ u ∈ news, u.oneCell' = true := by simp [Go.Value.oneCell']) (hz : zv.cells.size = size := by rfl) (hsz : 0 < size := by decide) (hb : k * bytes ≤ 140737488355328 ∧ k ≤ 9223372036854775807 := by omega) :
    WL P n ds ops Q (⟨some d, .call ⟨.builtin .append, #[x, y], #[t, t']⟩, ty, pos, af, none⟩ :: rest) (real σ) w :=
  wlapp (Row.nil w size) hs (fun p' c' w' hr hl => by
    rw [Nat.zero_add]
    have := h p' c' w'
    rw [List.nil_append, Nat.zero_add] at hr
    refine this (hS.push (hl.frm (by simp [rb])) hr ?_)
    exact hl.fresh (Frm.refl w) (by simp [rb])) hx hy hl h1 hz hsz (by rw [Nat.zero_add]; exact hb)
/-- a slice written out, of one struct -/
theorem sb1a [hu : Und P t (.slice e)] [hi : Inf P e zv size bytes] (hS : Sep w0 w cs) (h : ∀ b w', Sep w0 w' (pOwn b vs :: cs) → WL P n ds ops Q rest (real (updG σ d ⟨.slice (pb b) 1 1, true⟩)) w')
    (hx : evl (real σ) x = .agg ⟨vs⟩ := by rfl) (hv : vs.length = size := by first | rfl | (simp; done)) (hz : zv.cells.size = size := by rfl) (hsz : 0 < size := by decide) (hm : size ≤ 16777216 := by decide) :
    WL P n ds ops Q (⟨some d, .buildSlice t 1 #[(0, x)], ty, pos, af, none⟩ :: rest) (real σ) w :=
  wlb1a (fun b w' hb ho hf => h b w' (hS.push hf ho (by simpa [pOwn] using hb))) hx hv hz hsz hm
/-- .. of one cell -/
theorem sb1 [hu : Und P t (.slice e)] [hi : Inf P e zv 1 bytes] (hS : Sep w0 w cs) (h : ∀ b w', Sep w0 w' (pOwn b [v] :: cs) → WL P n ds ops Q rest (real (updG σ d ⟨.slice (pb b) 1 1, true⟩)) w')
    (hx : evl (real σ) x = v := by rfl) (hv : v.cells = #[v] := by rfl) (hz : zv.cells.size = 1 := by rfl) :
    WL P n ds ops Q (⟨some d, .buildSlice t 1 #[(0, x)], ty, pos, af, none⟩ :: rest) (real σ) w :=
  wlb1v hx hv (fun b w' hb ho hf => h b w' (hS.push hf ho (by simpa [pOwn] using hb))) hz
theorem sb1s {s : List UInt8} [hu : Und P t (.slice e)] [hi : Inf P e zv 1 bytes] (hS : Sep w0 w cs) (h : ∀ b w', Sep w0 w' (pOwn b [str s] :: cs) → WL P n ds ops Q rest (real (updG σ d ⟨.slice (pb b) 1 1, true⟩)) w')
    (hx : evl (real σ) x = str s := by rfl) (hz : zv.cells.size = 1 := by rfl) :
    WL P n ds ops Q (⟨some d, .buildSlice t 1 #[(0, x)], ty, pos, af, none⟩ :: rest) (real σ) w := sb1 hS h hx rfl hz
theorem sst_str {s : List UInt8} [hi : Inf P t zv 1 bytes] (hS : Sep w0 w cs) (i : Nat) (h : ∀ w', Sep w0 w' (cs.set i (pOwn b (l.set j (str s)))) → WL P n ds ops Q rest (real σ) w') (hc : cs[i]? = some (pOwn b l) := by rfl)
    (hx : evl (real σ) x = ptrAt (pb b) j := by rfl) (hy : evl (real σ) y = str s := by rfl) (hk : j < l.length := by first | decide | (simp; done)) :
    WL P n ds ops Q (⟨none, .store t x y, ty, pos, af, none⟩ :: rest) (real σ) w := sst1 hS i h hc hx hy rfl rfl hk
theorem sst_int {kk : IntKind} {a : Int} [hi : Inf P t zv 1 bytes] (hS : Sep w0 w cs) (i : Nat) (h : ∀ w', Sep w0 w' (cs.set i (pOwn b (l.set j (.int kk a)))) → WL P n ds ops Q rest (real σ) w') (hc : cs[i]? = some (pOwn b l) := by rfl)
    (hx : evl (real σ) x = ptrAt (pb b) j := by rfl) (hy : evl (real σ) y = .int kk a := by rfl) (hk : j < l.length := by first | decide | (simp; done)) :
    WL P n ds ops Q (⟨none, .store t x y, ty, pos, af, none⟩ :: rest) (real σ) w := sst1 hS i h hc hx hy rfl rfl hk
theorem sst_bool {a : Bool} [hi : Inf P t zv 1 bytes] (hS : Sep w0 w cs) (i : Nat) (h : ∀ w', Sep w0 w' (cs.set i (pOwn b (l.set j (.bool a)))) → WL P n ds ops Q rest (real σ) w') (hc : cs[i]? = some (pOwn b l) := by rfl)
    (hx : evl (real σ) x = ptrAt (pb b) j := by rfl) (hy : evl (real σ) y = .bool a := by rfl) (hk : j < l.length := by first | decide | (simp; done)) :
    WL P n ds ops Q (⟨none, .store t x y, ty, pos, af, none⟩ :: rest) (real σ) w := sst1 hS i h hc hx hy rfl rfl hk
theorem sst_slice {a : Option Addr} {m1 m2 : Nat} [hi : Inf P t zv 1 bytes] (hS : Sep w0 w cs) (i : Nat) (h : ∀ w', Sep w0 w' (cs.set i (pOwn b (l.set j (.slice a m1 m2)))) → WL P n ds ops Q rest (real σ) w') (hc : cs[i]? = some (pOwn b l) := by rfl)
    (hx : evl (real σ) x = ptrAt (pb b) j := by rfl) (hy : evl (real σ) y = .slice a m1 m2 := by rfl) (hk : j < l.length := by first | decide | (simp; done)) :
    WL P n ds ops Q (⟨none, .store t x y, ty, pos, af, none⟩ :: rest) (real σ) w := sst1 hS i h hc hx hy rfl rfl hk
/-- .. of none -/
theorem sb0 [hu : Und P t (.slice e)] [hi : Inf P e zv size bytes] (hS : Sep w0 w cs) (h : ∀ b w', Sep w0 w' (pRow size (pb b) 0 0 [] :: cs) → WL P n ds ops Q rest (real (updG σ d ⟨.slice (pb b) 0 0, true⟩)) w') :
    WL P n ds ops Q (⟨some d, .buildSlice t 0 #[], ty, pos, af, none⟩ :: rest) (real σ) w :=
  wlb0 fun b w' hb ho hf => h b w' (hS.push hf ho (by simpa [pRow, rb] using hb))
end
/-! ## Many rows in one piece -/
structure RowD where
  size : Nat
  p : Option Addr
  n : Nat
  c : Nat
  xs : List Value
def RowD.ok (w : World) (r : RowD) : Prop := Row w r.size r.p r.n r.c r.xs
def RowD.apart (a b : RowD) : Prop := ∀ x ∈ rb a.p, x ∉ rb b.p
def pMany (rs : List RowD) : Plot where
  foot := rs.flatMap fun r => rb r.p
  ok w := (∀ r ∈ rs, r.ok w) ∧ rs.Pairwise RowD.apart
  view := (none, [])
  loc _ _ h hb := ⟨fun r hr => (h.1 r hr).of_block fun b hh => hb b (List.mem_flatMap.2 ⟨r, hr, hh⟩), h.2⟩
  lt _ h x hx := by
    obtain ⟨r, hr, hx⟩ := List.mem_flatMap.1 hx
    exact (h.1 r hr).lt x hx
  sg _ _ := .inl rfl
theorem many_nil (w : World) : (pMany []).ok w := ⟨by simp, .nil⟩
section
variable {w0 w w' : World} {cs ds : List Plot} {rs : List RowD} {r r' : RowD} {s n c i j : Nat} {p : Option Addr} {xs : List Value}
theorem Sep.zero (h : Sep w0 w cs) : Sep w0 w (pMany [] :: cs) := h.push (Frm.refl w) (many_nil w) (by simp [pMany])
theorem Sep.many (h : Sep w0 w cs) (i : Nat) (hi : cs[i]? = some (pMany rs)) : ∀ r ∈ rs, r.ok w := (h.at (c := pMany rs) i hi).1
/-- a row more among the many -/
theorem Sep.more (h : Sep w0 w (pRow s p n c xs :: pMany rs :: cs)) : Sep w0 w (pMany (rs ++ [⟨s, p, n, c, xs⟩]) :: cs) := by
  refine h.join (fun h1 h2 h3 => ⟨fun r hr => ?_, ?_⟩) (fun x hx => ?_)
  · rcases List.mem_append.1 hr with hr | hr
    · exact h2.1 r hr
    · rw [List.mem_singleton.1 hr]; exact h1
  · rw [List.pairwise_append]
    refine ⟨h2.2, List.pairwise_singleton _ _, fun a ha b hb x hx hx' => ?_⟩
    rw [List.mem_singleton.1 hb] at hx'
    exact h3 x hx' (List.mem_flatMap.2 ⟨a, ha, hx⟩)
  · obtain ⟨r, hr, hx⟩ := List.mem_flatMap.1 hx
    rcases List.mem_append.1 hr with hr | hr
    · exact .inr (List.mem_flatMap.2 ⟨r, hr, hx⟩)
    · rw [List.mem_singleton.1 hr] at hx; exact .inl hx
/-- two times many -/
theorem Sep.both {rs' : List RowD} (h : Sep w0 w (pMany rs :: pMany rs' :: cs)) : Sep w0 w (pMany (rs' ++ rs) :: cs) := by
  refine h.join (fun h1 h2 h3 => ⟨fun r hr => ?_, ?_⟩) (fun x hx => ?_)
  · rcases List.mem_append.1 hr with hr | hr
    · exact h2.1 r hr
    · exact h1.1 r hr
  · rw [List.pairwise_append]
    exact ⟨h2.2, h1.2, fun a ha b hb x hx hx' => h3 x (List.mem_flatMap.2 ⟨b, hb, hx'⟩) (List.mem_flatMap.2 ⟨a, ha, hx⟩)⟩
  · obtain ⟨r, hr, hx⟩ := List.mem_flatMap.1 hx
    rcases List.mem_append.1 hr with hr | hr
    · exact .inr (List.mem_flatMap.2 ⟨r, hr, hx⟩)
    · exact .inl (List.mem_flatMap.2 ⟨r, hr, hx⟩)
theorem set_apart {R : RowD → RowD → Prop} : ∀ {rs : List RowD} {i : Nat} {r r' : RowD}, rs.Pairwise R → rs[i]? = some r → (∀ x, R x r → R x r') → (∀ x, R r x → R r' x) → (rs.set i r').Pairwise R
  | [], i, r, r', _, h, _, _ => by simp at h
  | x :: rs, 0, r, r', hp, h, h1, h2 => by
    simp only [List.getElem?_cons_zero, Option.some.injEq] at h
    subst h
    rw [List.pairwise_cons] at hp
    simp only [List.set_cons_zero, List.pairwise_cons]
    exact ⟨fun y hy => h2 y (hp.1 y hy), hp.2⟩
  | x :: rs, i + 1, r, r', hp, h, h1, h2 => by
    simp only [List.getElem?_cons_succ] at h
    rw [List.pairwise_cons] at hp
    simp only [List.set_cons_succ, List.pairwise_cons]
    refine ⟨fun y hy => ?_, set_apart hp.2 h h1 h2⟩
    rcases List.mem_or_eq_of_mem_set hy with hy | rfl
    · exact hp.1 y hy
    · exact h1 x (hp.1 r (List.mem_of_getElem? h))
theorem rows_le : ∀ {rs : List RowD} {j : Nat} {r : RowD}, rs.Pairwise RowD.apart → rs[j]? = some r → (∀ x ∈ rs, x.ok w) → Le (rb r.p) w w' → ∀ (k : Nat) (x : RowD), rs[k]? = some x → k ≠ j → x.ok w' := by
  intro rs j r hp hj hok hl k x hk hne
  refine Row.le (hok x (List.mem_of_getElem? hk)) hl fun b hb hb' => ?_
  obtain ⟨hk1, rfl⟩ := List.getElem?_eq_some_iff.1 hk
  obtain ⟨hj1, rfl⟩ := List.getElem?_eq_some_iff.1 hj
  rw [List.pairwise_iff_getElem] at hp
  rcases Nat.lt_or_ge k j with h | h
  · exact hp k j hk1 hj1 h b hb hb'
  · exact hp j k hj1 hk1 (by omega) b hb' hb
/-- one of the many written -/
theorem Sep.wrote (h : Sep w0 w cs) (i : Nat) (hi : cs[i]? = some (pMany rs)) (hj : rs[j]? = some r) (hp : r'.p = r.p) (hl : Le (rb r.p) w w') (hr : r'.ok w') : Sep w0 w' (cs.set i (pMany (rs.set j r'))) := by
  have hok := h.at (c := pMany rs) i hi
  have hfeet : ∀ x, x ∈ (pMany (rs.set j r')).foot → x ∈ (pMany rs).foot := by
    intro x hx
    obtain ⟨y, hy, hxy⟩ := List.mem_flatMap.1 hx
    rcases List.mem_or_eq_of_mem_set hy with hy | hy
    · exact List.mem_flatMap.2 ⟨y, hy, hxy⟩
    · exact List.mem_flatMap.2 ⟨r, List.mem_of_getElem? hj, by rw [← hp, ← hy]; exact hxy⟩
  refine h.upd i hi ⟨hl.mono fun x hx _ => List.mem_flatMap.2 ⟨r, List.mem_of_getElem? hj, hx⟩, fun x hx _ => hfeet x hx⟩ ⟨fun x hx => ?_, ?_⟩
  · obtain ⟨k, hk, rfl⟩ := List.mem_iff_getElem.1 hx
    rw [List.getElem_set]
    split
    · exact hr
    · rename_i hne
      refine rows_le hok.2 hj hok.1 hl k _ (List.getElem?_eq_getElem (by simpa using hk)) (fun e => hne e.symm)
  · exact set_apart hok.2 hj (fun x hx y hy => by rw [hp]; exact hx y hy) (fun x hx y hy => hx y (by rwa [hp] at hy))
/-- what lies in one of the many -/
theorem RowD.im (h : r.ok w) : Im [] w r.p r.xs := Row.im h (by simp)
end
section
variable {P : Program} {n : Nat} {ds : Ctx} {ops : Array Oper} {Q : Exit → Ctx → Env → World → Prop} {rest : List Oper} {σ : GE} {w0 w : World} {v : Value} {ty t : TypeId} {pos : String} {af : Array Edge} {x y : Operand} {zv : Value} {sz bytes : Nat} {k j : Nat} {cs : List Plot} {rs : List RowD} {r : RowD}
end
/-! ## []byte(s), by whatever guard -/
section
variable {P : Program} {n : Nat} {ds : Ctx} {ops : Array Oper} {Q : Exit → Ctx → Env → World → Prop} {rest : List Oper} {σ : GE} {w : World} {d : Nat} {ty t t' e : TypeId} {pos : String} {af : Array Edge} {x : Operand} {s : List UInt8} {j dj : Nat} {want b c : Bool}
end
end Go.Sv

/-
  Events: what they are, which may be, how they lie in memory.
-/
set_option linter.unusedSimpArgs false
set_option linter.unusedVariables false
set_option linter.unnecessarySimpa false
namespace Go.Proofs.YtmnnffenijjpcaaDoor
open Go Go.Sv Go.RowKit

structure Ev where
  kind : Int
  name : List UInt8
  text : List UInt8
  attrs : List At
  deriving DecidableEq
def Ev.cells (e : Ev) (p : Option Addr) (c : Nat) : List Value := [int e.kind, str e.name, str e.text, .slice p e.attrs.length c]
structure EvM where
  e : Ev
  p : Option Addr
  c : Nat
def EvM.cells (m : EvM) : List Value := m.e.cells m.p m.c
theorem EvM.len (m : EvM) : m.cells.length = 4 := rfl
theorem ev_one (e : Ev) (p : Option Addr) (c : Nat) : ∀ u ∈ e.cells p c, u.oneCell' = true := by simp [Ev.cells, Value.oneCell']
structure Ev.small (t : Ev) : Prop where
  name : t.name.length ≤ 1048576
  text : t.text.length ≤ 1048576
  attrs : t.attrs.length ≤ 1048576
  each : ∀ x ∈ t.attrs, x.small
def Ev.wt (t : Ev) : Nat := 4 + t.name.length + t.text.length + (t.attrs.map At.wt).sum
def evw (ms : List EvM) : Nat := (ms.map fun m => m.e.wt).sum
/-- a list of events that can be read -/
structure Evs (w : World) (p : Option Addr) (ms : List EvM) : Prop where
  im : Im [] w p (ms.flatMap EvM.cells)
  each : ∀ m ∈ ms, Im [] w m.p (m.e.attrs.flatMap At.cells)
theorem Evs.frm {w w' : World} {p : Option Addr} {ms : List EvM} (h : Evs w p ms) (hf : Frm w w') : Evs w' p ms := ⟨h.im.frm hf, fun m hm => (h.each m hm).frm hf⟩
/-- where an event's attributes lie, as a row -/
def EvM.row (m : EvM) : RowD := ⟨2, m.p, m.e.attrs.length, m.c, m.e.attrs.flatMap At.cells⟩
/-- a list of events in memory of one's own -/
def evP (q : Option Addr) (c : Nat) (ms : List EvM) : List Plot := [pRow 4 q ms.length c (ms.flatMap EvM.cells), pMany (ms.map EvM.row)]
theorem Sep.evs {w0 w : World} {cs : List Plot} {q : Option Addr} {n c : Nat} {ms : List EvM} (h : Sep w0 w cs) (i j : Nat) (hi : cs[i]? = some (pRow 4 q n c (ms.flatMap EvM.cells))) (hj : cs[j]? = some (pMany (ms.map EvM.row))) : Evs w q ms :=
  ⟨h.im i hi, fun m hm => RowD.im (h.many j hj m.row (List.mem_map_of_mem hm))⟩
def EvM.es (ms : List EvM) : List Ev := ms.map EvM.e

/-- the token that opens it -/
def Ev.start (e : Ev) : Tok := ⟨1, e.name, [], e.attrs, false, 0, 0, 0⟩
def Ev.close (e : Ev) : Tok := ⟨2, e.name, [], [], false, 0, 0, 0⟩
end Go.Proofs.YtmnnffenijjpcaaDoor

/-
  Packages names and sieveref04: classes of bytes, small letters. Blocks of bytes that []byte(s) made.
-/
set_option linter.unusedSimpArgs false
set_option linter.unusedVariables false
set_option linter.unnecessarySimpa false
namespace Go.Sv
open Go Go.RowKit
/-- a block that holds the bytes s and may be written there -/
def OwnB (w : World) (b : Nat) (s : List UInt8) : Prop := ∃ C ty lo hi, w.heap[b]? = some (.cells C ty (lo, hi)) ∧ C.toList.take s.length = bs s ∧ s.length ≤ lo
section
variable {P : Program} {w w' : World} {b i : Nat} {s : List UInt8}
theorem OwnB.lt (h : OwnB w b s) : b < w.heap.size := by
  obtain ⟨C, ty, lo, hi, h, _⟩ := h
  exact (Array.getElem?_eq_some_iff.1 h).1
theorem OwnB.le {M : List Nat} (h : OwnB w b s) (hl : Le M w w') (hb : b ∉ M) : OwnB w' b s := by
  have := h.lt
  obtain ⟨C, ty, lo, hi, h, h2⟩ := h
  exact ⟨C, ty, lo, hi, by rw [hl.block b this hb]; exact h, h2⟩
theorem OwnB.frm (h : OwnB w b s) (hl : Frm w w') : OwnB w' b s := h.le (M := []) hl.le (by simp)
theorem OwnB.sg (h : OwnB w b s) : Sg w (pb b) (bs s) := by
  obtain ⟨C, ty, lo, hi, h, h2, _⟩ := h
  refine .inr ⟨_, rfl, fun i hi' => ?_⟩
  have e : (⟨b, 0, none⟩ : Addr).add i = ⟨b, i, none⟩ := by unfold Addr.add; split <;> simp_all
  rw [e, cell_of_row w b i C ty _ h, ← h2]
  rw [List.getElem?_take_of_lt (by simpa using hi')]
  simp
theorem OwnB.im {M : List Nat} (h : OwnB w b s) (hb : b ∉ M) : Im M w (pb b) (bs s) := by
  rcases h.sg with hh | ⟨a, ha, h1⟩
  · exact .inl hh
  · obtain rfl := Option.some.inj ha
    exact .inr ⟨_, rfl, h1, h.lt, hb⟩
end
section
variable {P : Program} {n : Nat} {ds : Ctx} {ops : Array Oper} {Q : Exit → Ctx → Env → World → Prop} {rest : List Oper} {σ : GE} {w : World} {d : Nat} {ty t t' e : TypeId} {pos : String} {af : Array Edge} {x y : Operand} {zv : Value} {size bytes : Nat} {b i : Nat} {s : List UInt8}
end
end Go.Sv
namespace Go.Proofs.YtmnnffenijjpcaaDoor
open Go Go.Sv Go.RowKit

def upperR (c : Nat) : Bool := decide (65 ≤ c) && decide (c ≤ 90)
def letterR (c : Nat) : Bool := upperR c || (decide (97 ≤ c) && decide (c ≤ 122))
def digitR (c : Nat) : Bool := decide (48 ≤ c) && decide (c ≤ 57)
def valueR (c : Nat) : Int := if digitR c then (c : Int) - 48 else if 97 ≤ c ∧ c ≤ 102 then (c : Int) - 97 + 10 else if 65 ≤ c ∧ c ≤ 70 then (c : Int) - 65 + 10 else -1
def hexR (c : Nat) : Bool := decide (0 ≤ valueR c)
def lowN (c : Nat) : Nat := if upperR c then c + 32 else c
def lowR (l : List UInt8) : List UInt8 := l.map fun c => UInt8.ofNat (lowN c.toNat)




















































































































































/-- the first i bytes are small -/
def lowTo (l : List UInt8) (i : Nat) : List UInt8 := lowR (l.take i) ++ l.drop i
end Go.Proofs.YtmnnffenijjpcaaDoor

/-
  Texts mended: what that is; package sieveref01's Mend, walked.
-/
set_option linter.unusedSimpArgs false
set_option linter.unusedVariables false
set_option linter.unnecessarySimpa false
namespace Go.Proofs.YtmnnffenijjpcaaDoor
open Go Go.Sv Go.RowKit

/-- a rune that is a character -/
def Good (r : Nat) : Prop := r < 1114112 ∧ ¬ (55296 ≤ r ∧ r ≤ 57343)
def runesN (l : List UInt8) : List Nat := (piecesR l).map fun x => x.r.toNat
/-- a text mended -/
def mendR (l : List UInt8) : List UInt8 := (runesN l).flatMap encR
theorem pieceR_good (l : List UInt8) (h0 : 0 < l.length) : ∃ r : Nat, (pieceR l).1 = (r : Int) ∧ Good r := by
  cases hr : (pieceR l).2.2 with
  | true =>
    obtain ⟨r, h1, h2, h3, _⟩ := enc_right l h0 (right_of l hr)
    exact ⟨r, h1, h2, h3⟩
  | false =>
    refine ⟨65533, ?_, by decide, by decide⟩
    have : (goodR l).2 = false := hr
    simp [pieceR, this]
theorem piecesF_good : ∀ (f a : Nat) (l : List UInt8), ∀ x ∈ piecesF f a l, ∃ r : Nat, x.r = (r : Int) ∧ Good r
  | 0, _, _ => by simp [piecesF]
  | f + 1, a, l => by
    simp only [piecesF]
    split
    · simp
    · rename_i hne
      intro x hx
      rcases List.mem_cons.1 hx with rfl | hx
      · exact pieceR_good l (List.length_pos_iff.2 hne)
      · exact piecesF_good f _ _ x hx
theorem runesN_good (l : List UInt8) : ∀ r ∈ runesN l, Good r := by
  intro r hr
  unfold runesN at hr
  obtain ⟨x, hx, rfl⟩ := List.mem_map.1 hr
  obtain ⟨r, h, hg⟩ := piecesF_good _ _ _ x hx
  rw [h]; exact hg
theorem encN_len (r : Nat) : 1 ≤ (encN r).length ∧ (encN r).length ≤ 4 := by
  unfold encN
  repeat' split
  all_goals simp
theorem encR_len4 (r : Nat) : 1 ≤ (encR r).length ∧ (encR r).length ≤ 4 := by rw [encR_len]; exact encN_len r
theorem piecesF_r : ∀ (f f' a a' : Nat) (l : List UInt8), l.length ≤ f → l.length ≤ f' → (piecesF f a l).map (fun x => x.r.toNat) = (piecesF f' a' l).map fun x => x.r.toNat
  | 0, f', a, a', l, h, _ => by
    have : l = [] := List.eq_nil_of_length_eq_zero (by omega)
    subst this
    cases f' <;> simp [piecesF]
  | f + 1, 0, a, a', l, _, h => by
    have : l = [] := List.eq_nil_of_length_eq_zero (by omega)
    subst this
    simp [piecesF]
  | f + 1, f' + 1, a, a', l, h, h' => by
    simp only [piecesF]
    split
    · rfl
    · rename_i hne
      have := pieceR_rng l (List.length_pos_iff.2 hne)
      simp only [List.map_cons]
      rw [piecesF_r f f' _ (a' + (pieceR l).2.1) _ (by simp; omega) (by simp; omega)]
theorem runesN_cons (l : List UInt8) (h0 : 0 < l.length) : runesN l = (pieceR l).1.toNat :: runesN (l.drop (pieceR l).2.1) := by
  have hrg := pieceR_rng l h0
  unfold runesN piecesR
  obtain ⟨f, hf⟩ : ∃ f, l.length = f + 1 := ⟨l.length - 1, by omega⟩
  have hne : l ≠ [] := List.length_pos_iff.1 h0
  rw [hf, piecesF, if_neg hne, List.map_cons]
  congr 1
  exact piecesF_r f _ _ 0 _ (by simp; omega) (Nat.le_refl _)
theorem mendR_cons (l : List UInt8) (h0 : 0 < l.length) : mendR l = encR (pieceR l).1.toNat ++ mendR (l.drop (pieceR l).2.1) := by
  unfold mendR
  rw [runesN_cons l h0, List.flatMap_cons]
/-- what is right stays -/
theorem mendR_valid : ∀ (n : Nat) (l : List UInt8), l.length ≤ n → validR l = true → mendR l = l
  | 0, l, h, _ => by
    have : l = [] := List.eq_nil_of_length_eq_zero (by omega)
    subst this; rfl
  | n + 1, l, h, hv => by
    rcases Nat.eq_zero_or_pos l.length with h0 | h0
    · have : l = [] := List.eq_nil_of_length_eq_zero h0
      subst this; rfl
    · obtain ⟨hr, hv2⟩ := valid_step l h0 hv
      obtain ⟨r, h1, _, _, h4, _⟩ := enc_right l h0 hr
      have hrg := pieceR_rng l h0
      rw [mendR_cons l h0, mendR_valid n _ (by simp; omega) hv2, h1, Int.toNat_natCast, h4, List.take_append_drop]
theorem mendR_id {l : List UInt8} (hv : validR l = true) : mendR l = l := mendR_valid _ l (Nat.le_refl _) hv

def charR (r : Int) : Bool := decide (0 ≤ r ∧ r ≤ 1114111 ∧ (r < 55296 ∨ 57343 < r))
/-- a new slice of bytes -/
def NewB (w : World) (s : List UInt8) (v : Value) (w' : World) : Prop := Frm w w' ∧ ∃ q cc, v = .slice q s.length cc ∧ Row w' 1 q s.length cc (bs s) ∧ ∀ x ∈ rb q, w.heap.size ≤ x
end Go.Proofs.YtmnnffenijjpcaaDoor

/-
  Package sieveref01: Bytes, Text, Runes, Mend.
-/
set_option linter.unusedSimpArgs false
set_option linter.unusedVariables false
set_option linter.unnecessarySimpa false
namespace Go.Proofs.YtmnnffenijjpcaaDoor
open Go Go.Sv Go.RowKit

/-- runes as cells -/
def rs32 (rs : List Nat) : List Value := rs.map fun n : Nat => i32 n
/-- a new slice of runes -/
def NewR (w : World) (rs : List Nat) (v : Value) (w' : World) : Prop := Frm w w' ∧ ∃ q cc, v = .slice q rs.length cc ∧ Row w' 1 q rs.length cc (rs32 rs) ∧ ∀ x ∈ rb q, w.heap.size ≤ x







































































end Go.Proofs.YtmnnffenijjpcaaDoor

/-
  Loops over functions; calls of function values.
-/
set_option linter.unusedSimpArgs false
set_option linter.unusedVariables false
set_option linter.unnecessarySimpa false
namespace Go.Sv
open Go Go.RowKit

/-- a loop's record -/
def LoopAt (w : World) (l : Nat) (r : Loop) : Prop := w.heap[l]? = some (.loop r)
theorem LoopAt.lt {w : World} {l : Nat} {r : Loop} (h : LoopAt w l r) : l < w.heap.size := (Array.getElem?_eq_some_iff.1 h).1
theorem LoopAt.le {w w' : World} {M : List Nat} {l : Nat} {r : Loop} (h : LoopAt w l r) (hl : Le M w w') (hm : l ∉ M) : LoopAt w' l r := (hl.block l h.lt hm).trans h
theorem LoopAt.frm {w w' : World} {l : Nat} {r : Loop} (h : LoopAt w l r) (hl : Frm w w') : LoopAt w' l r := h.le (M := []) hl.le (by simp)
/-- the block of a loop's deferred calls: there are none -/
def NoDef (w : World) (D : Nat) : Prop := w.heap[D]? = some (.deferred (some []))
theorem NoDef.lt {w : World} {D : Nat} (h : NoDef w D) : D < w.heap.size := (Array.getElem?_eq_some_iff.1 h).1
theorem NoDef.le {w w' : World} {M : List Nat} {D : Nat} (h : NoDef w D) (hl : Le M w w') (hm : D ∉ M) : NoDef w' D := (hl.block D h.lt hm).trans h
theorem NoDef.frm {w w' : World} {D : Nat} (h : NoDef w D) (hl : Frm w w') : NoDef w' D := h.le (M := []) hl.le (by simp)
theorem le_putObj (w : World) (l : Nat) (o : Obj) : Le [l] w (w.putObj l o) := ⟨rfl, rfl, rfl, by simp, fun k _ hk => World.putObj_heap_other (by simpa using hk)⟩

/-- yield, called with 'args': it answers a bool, and R holds then -/
def Yld (P : Program) (l : Nat) (args : List Value) (w : World) (R : Bool → World → Prop) : Prop :=
  ∃ r, LoopAt w l r ∧ args.toArray.size = r.params.size ∧ RoundIn Fence.wide 0 P l r.fn ((r.params.zip args.toArray).foldl (fun tmps (t, a) => tmps.setIfInBounds t a) r.tmps) r.assign r.body w fun e w' => ∃ b, e = .returned (.bool b) ∧ R b w'
theorem Yld.mono {P : Program} {l : Nat} {args : List Value} {w : World} {R R' : Bool → World → Prop} (h : Yld P l args w R) (hr : ∀ b w', R b w' → R' b w') : Yld P l args w R' := by
  obtain ⟨r, h1, h2, h3⟩ := h
  exact ⟨r, h1, h2, h3.mono fun _ _ ⟨b, he, hb⟩ => ⟨b, he, hr _ _ hb⟩⟩

theorem roundIn_fen {ro : Option Nat} {m n : Nat} {P : Program} {l : Nat} {f : FuncId} {tmps : Array Value} {assign body : Code} {w : World} {R : Ending → World → Prop} (h : RoundIn Fence.wide m P l f tmps assign body w R) : RoundIn (fen ro) n P l f tmps assign body w R := by
  refine ⟨fen_fn ro f, fun c cs _ => ?_⟩
  obtain ⟨e, w', hR, hs⟩ := h.2 c cs (room_wide _)
  cases ro <;> exact ⟨e, w', hR, hs⟩

section
variable {P : Program} {n : Nat} {ds : Ctx} {ops : Array Oper} {Q : Exit → Ctx → Env → World → Prop} {rest : List Oper} {σ : GE} {w : World} {v : Value} {d : Nat} {ty : TypeId} {pos : String} {af : Array Edge} {l : Nat} {xs : List Operand} {ats : Array TypeId} {x : Operand}
theorem run_call_yield {σ : Env} {dd : Option Tmp} {g : Option (Nat × Bool)} {r : Loop} {args : List Value} (hx : evl σ x = .func (.yield l) #[] #[]) (ha : xs.map (evl σ) = args) (hl : LoopAt w l r) (hs : args.toArray.size = r.params.size) :
    (execOp (evl σ) ⟨dd, .call ⟨.value x, xs.toArray, ats⟩, ty, pos, af, g⟩).run P w = .ok (.round l r.fn ((r.params.zip args.toArray).foldl (fun tmps (t, a) => tmps.setIfInBounds t a) r.tmps) r.assign r.body) w := by
  subst ha
  simp only [execOp, resolve, hx, Deferred.ofValue]
  simp only [Sem.run_bind, Sem.run_pure, Result.andThen_ok, invoke]
  have := run_yield (P := P) hl hs
  simpa using this
/-- a call of yield -/
theorem wlyield {args : List Value} {R : Bool → World → Prop} (hy : Yld P l args w R) (h : ∀ b w', R b w' → WL P n ds ops Q rest (real (updG σ d ⟨.bool b, true⟩)) w')
    (hx : evl (real σ) x = .func (.yield l) #[] #[] := by rfl) (ha : xs.map (evl (real σ)) = args := by first | rfl | exact am1 rfl | exact am2 rfl rfl) :
    WL P n ds ops Q (⟨some d, .call ⟨.value x, xs.toArray, ats⟩, ty, pos, af, none⟩ :: rest) (real σ) w := by
  obtain ⟨r, h1, h2, h3⟩ := hy
  refine WL_upon (by simp [Region.wanted]) fun hin K hK _ => ?_
  have hd := operIn_dst hin
  rw [run_call_yield hx ha h1 h2, Oper.uponIn_round]
  refine ⟨fun hx => (by rw [fen_depth] at hx; cases hx), roundIn_fen (m := 0) (h3.mono ?_)⟩
  rintro e w' ⟨b, rfl, hb⟩
  show K _ _
  rw [act_put hd]
  have := h b w' hb
  rw [← real_upd] at this
  exact hK _ _ this
/-- a call of a function value -/
theorem run_call_fv {σ : Env} {dd : Option Tmp} {g : Option (Nat × Bool)} {f : FuncId} [hf : Fnc P f] {first cap args : List Value} (hx : evl σ x = .func (.func f) ⟨first⟩ ⟨cap⟩) (ha : xs.map (evl σ) = args) :
    (execOp (evl σ) ⟨dd, .call ⟨.value x, xs.toArray, ats⟩, ty, pos, af, g⟩).run P w = .ok (.enter f (first ++ args ++ cap).toArray) w := by
  subst ha
  simp only [execOp, resolve, hx, Deferred.ofValue]
  simp only [Sem.run_bind, Sem.run_pure, Result.andThen_ok, invoke]
  have := run_callFunc (P := P) (f := f) (first ++ xs.map (evl σ) ++ cap).toArray w
  simpa using this
theorem wlcallv {f : FuncId} [hf : Fnc P f] {first cap args : List Value} {R : Value → World → Prop} (hc : CallsR P f (first ++ args ++ cap).toArray w R) (h : ∀ v w', R v w' → WL P n ds ops Q rest (real (updG σ d ⟨v, true⟩)) w')
    (hx : evl (real σ) x = .func (.func f) ⟨first⟩ ⟨cap⟩ := by rfl) (ha : xs.map (evl (real σ)) = args := by first | rfl | exact am1 rfl | exact am2 rfl rfl) :
    WL P n ds ops Q (⟨some d, .call ⟨.value x, xs.toArray, ats⟩, ty, pos, af, none⟩ :: rest) (real σ) w :=
  WL_enter (S := fun _ _ => False) (by simp [Region.wanted]) (run_call_fv hx ha) (Calls.mono hc fun _ _ h => .inl h) (fun v w' hR => by have := h v w' hR; rw [← real_upd] at this; exact this) fun _ _ h => h.elim
end

/-! ## the statement -/
/-- what a round leaves of the record -/
def rndP (rec : LoopState → Option Code → Loop) (l : Nat) (R : Bool → World → Prop) : Exit → Ctx → Env → World → Prop
  | .normal, _, _, w => LoopAt w l (rec .busy none) ∧ ∀ w', Le [l] w w' → LoopAt w' l (rec .ready none) → R true w'
  | .ret, _, _, w => LoopAt w l (rec .busy none) ∧ ∀ w', Le [l] w w' → LoopAt w' l (rec .done (some .ret)) → R false w'
  | .exit id, _, _, w => LoopAt w l (rec .busy none) ∧ ∀ w', Le [l] w w' → LoopAt w' l (rec .done (some (.exit id))) → R false w'
  | _, _, _, _ => False
/-- what follows the loop, by what a round left it for -/
def aftP (P : Program) (Q : Exit → Ctx → Env → World → Prop) (c : Ctx) (σ : Env) (w : World) : Option Code → Prop
  | none => Q .normal c σ w
  | some .ret => Q .ret c σ w
  | some (.exit id) => Q (.exit id) c σ w
  | some _ => False
section
variable {P : Program} {n : Nat} {ds : Ctx} {Q : Exit → Ctx → Env → World → Prop} {σ : GE} {w : World} {l D : Nat} {assign body : Code} {ps : List Tmp}
/-- the frame's slots with yield's arguments -/
def updZ (σ : Env) : List Tmp → List Value → Env
  | p :: ps, v :: vs => updZ (upd σ p v) ps vs
  | _, _ => σ
theorem zip_put (dd : List Deferred) : ∀ (ps : List Tmp) (vs : List Value) (σ : Env), ps.all (fun t => Nat.blt t n) = true →
    (ps.toArray.zip vs.toArray).foldl (fun tmps (t, a) => tmps.setIfInBounds t a) (act n dd σ).tmps = (act n dd (updZ σ ps vs)).tmps := by
  intro ps vs σ h
  rw [← Array.foldl_toList]
  have e : (ps.toArray.zip vs.toArray).toList = ps.zip vs := by simp
  rw [e]
  clear e
  induction ps generalizing vs σ with
  | nil => simp [updZ]
  | cons p ps ih =>
    cases vs with
    | nil => simp [updZ]
    | cons v vs =>
      simp only [List.all_cons, Bool.and_eq_true] at h
      simp only [List.zip_cons_cons, List.foldl_cons, updZ]
      have := act_put (ds := dd) (σ := σ) (d := some p) (v := v) (n := n) h.1
      have e2 : (act n dd σ).tmps.setIfInBounds p v = (act n dd (upd σ p v)).tmps := congrArg Act.tmps this
      rw [e2]
      exact ih vs (upd σ p v) h.2
def updZG (σ : GE) : List Tmp → List Value → GE
  | p :: ps, v :: vs => updZG (updG σ p ⟨v, true⟩) ps vs
  | _, _ => σ
theorem updZ_real : ∀ (ps : List Tmp) (vs : List Value) (σ : GE), updZ (real σ) ps vs = real (updZG σ ps vs)
  | [], _, σ => by simp [updZ, updZG]
  | _ :: _, [], σ => by simp [updZ, updZG]
  | p :: ps, v :: vs, σ => by
    simp only [updZ, updZG]
    rw [show upd (real σ) p v = real (updG σ p ⟨v, true⟩) from real_upd σ p ⟨v, true⟩]
    exact updZ_real ps vs _

/-- what the record of a loop is, but for how it stands -/
def recOf (P : Program) (n : Nat) (fn : FuncId) (dd : List Deferred) (σ : GE) (ps : List Tmp) (assign body : Code) (D : Nat) (st : LoopState) (pe : Option Code) : Loop :=
  { state := st, pending := pe, fn, tmps := (act n dd (real σ)).tmps, params := ps.toArray, assign, body, defers := D }
/-- a round, out of its code -/
theorem yld_of {fn : FuncId} {dd : List Deferred} {args : List Value} {R : Bool → World → Prop} (hl : LoopAt w l (recOf P n fn dd σ ps assign body D .ready none)) (hlen : args.length = ps.length) (hin : (ps.all (fun t => Nat.blt t n) && codeIn n true assign && codeIn n true body) = true)
    (h : WC P n ⟨[], some l⟩ assign (fun e c σ' w1 => match e with | .normal => LoopAt w1 l (recOf P n fn dd σ ps assign body D .ready none) ∧ ∀ w2, Le [l] w1 w2 → LoopAt w2 l (recOf P n fn dd σ ps assign body D .busy none) → WC P n c body (rndP (recOf P n fn dd σ ps assign body D) l R) σ' w2 | _ => False) (real (updZG σ ps args)) w) :
    Yld P l args w R := by
  simp only [Bool.and_eq_true] at hin
  obtain ⟨⟨hin1, hin2⟩, hin3⟩ := hin
  refine ⟨_, hl, by simpa [recOf] using hlen, ?_⟩
  have ez := zip_put (n := n) dd ps args (real σ) hin1
  have e0 : (recOf P n fn dd σ ps assign body D .ready none).params = ps.toArray := rfl
  have e1 : (recOf P n fn dd σ ps assign body D .ready none).tmps = (act n dd (real σ)).tmps := rfl
  rw [e0, e1, ez, updZ_real]
  refine roundIn_of_wpIn (F := Fence.wide) (n := 0) trivial ?_
  unfold WC at h
  refine wpIn_mono (h hin2) ?_
  rintro e a1 w1 ⟨d1, σ1, rfl, hq⟩
  cases e <;> try exact hq.elim
  obtain ⟨hl1, hb⟩ := hq
  refine ⟨_, run_beginRound hl1 rfl, ?_⟩
  have hb2 := hb _ (le_putObj w1 l _) (World.putObj_heap_same hl1.lt)
  unfold WC at hb2
  refine wpIn_mono (hb2 hin3) ?_
  rintro e a2 w3 ⟨d2, σ2, rfl, hq⟩
  cases e with
  | normal => exact ⟨_, _, run_endRound none hq.1, _, rfl, hq.2 _ (le_putObj _ _ _) (World.putObj_heap_same hq.1.lt)⟩
  | ret => exact ⟨_, _, run_endRound (some .ret) hq.1, _, rfl, hq.2 _ (le_putObj _ _ _) (World.putObj_heap_same hq.1.lt)⟩
  | exit id => exact ⟨_, _, run_endRound (some (.exit id)) hq.1, _, rfl, hq.2 _ (le_putObj _ _ _) (World.putObj_heap_same hq.1.lt)⟩
  | goto t => exact hq.elim
  | panic ch => exact hq.elim
  | outgrown => exact hq.elim

/-- a loop over a function: an outermost one -/
theorem wcrangef {g : Operand} {gf : FuncId} [hf : Fnc P gf] {cap : List Value} (hg : evl (real σ) g = .func (.func gf) #[] ⟨cap⟩) (hro : ds.ro = none)
    (hcall : ∀ fn l D w1, w.heap.size ≤ D → w.heap.size ≤ l → l ≠ D → Frm w w1 → LoopAt w1 l (recOf P n fn ds.ds σ ps assign body D .ready none) → NoDef w1 D →
      CallsR P gf ((.func (.yield l) #[] #[]) :: cap).toArray w1 fun _ w2 => ∃ st pe, st ≠ .busy ∧ LoopAt w2 l (recOf P n fn ds.ds σ ps assign body D st pe) ∧
        ∀ w3, Le [l] w2 w3 → aftP P Q ⟨{ target := .collected D, args := #[] } :: ds.ds, none⟩ (real σ) w3 pe) :
    WC P n ds (.rangeFunc g ps.toArray assign body) Q (real σ) w := by
  obtain ⟨dd, ro⟩ := ds
  dsimp only at hro hcall
  subst hro
  unfold WC
  intro hin
  simp only [codeIn, Bool.and_eq_true] at hin
  have hgin := hin.1.1.1
  refine wpIn_rangeFunc ?_
  intro fn _
  let w1 := (w.alloc (.deferred (some []))).alloc (.loop (recOf P n fn dd σ ps assign body w.heap.size .ready none))
  have hL : LoopAt w1 (w.heap.size + 1) (recOf P n fn dd σ ps assign body w.heap.size .ready none) := by
    have := World.alloc_heap_new (w.alloc (.deferred (some []))) (.loop (recOf P n fn dd σ ps assign body w.heap.size .ready none))
    rw [World.size_alloc] at this
    exact this
  have hF : Frm w w1 := (frm_alloc w _).trans (frm_alloc _ _)
  have hD : NoDef w1 w.heap.size := by
    have h0 := World.alloc_heap_new w (.deferred (some []))
    exact (Below.heap_alloc (w.alloc (.deferred (some []))) _ w.heap.size (by simp)).trans h0
  have hc := hcall fn (w.heap.size + 1) w.heap.size w1 (Nat.le_refl _) (by omega) (by omega) hF hL hD
  refine ⟨w.heap.size + 1, [{ target := .collected w.heap.size, args := #[] }], w1, { target := .fn (.func gf) ⟨cap⟩, args := #[.func (.yield (w.heap.size + 1)) #[] #[]] }, w1, gf, ((.func (.yield (w.heap.size + 1)) #[] #[]) :: cap).toArray, w1, ?_, ?_, ?_, ?_, ?_, ?_⟩
  · exact run_enterLoop_outer fn _ _ _ _
  · have : (act n dd (real σ)).eval g = .func (.func gf) #[] ⟨cap⟩ := by rw [act_eval hgin, hg]
    simp only [resolve, this, Deferred.ofValue]
    simp [Act.eval]
  · intro f' _; trivial
  · have := run_callFunc (P := P) (f := gf) ((.func (.yield (w.heap.size + 1)) #[] #[]) :: cap).toArray w1
    simpa [invoke] using this
  · intro h; simp [fen, Fence.wide] at h
  · refine callsIn_wide.2 (Calls.mono hc ?_)
    rintro e w2 ⟨v, rfl, st, pe, hst, hl2, hq⟩
    refine ⟨pe, _, run_endLoop hl2 hst, ?_⟩
    have hq2 := hq _ (le_putObj w2 (w.heap.size + 1) (.loop { (recOf P n fn dd σ ps assign body w.heap.size st pe) with state := .exhausted }))
    cases pe with
    | none => exact ⟨_, _, rfl, hq2⟩
    | some c =>
      cases c <;> try exact hq2.elim
      · exact wpIn_exit ⟨_, _, rfl, hq2⟩
      · exact wpIn_ret ⟨_, _, rfl, hq2⟩
end
section
variable {P : Program} {Q : Exit → Ctx → Env → World → Prop} {c : Ctx} {σ : Env} {w : World} {rec : LoopState → Option Code → Loop} {l : Nat} {R : Bool → World → Prop} {i : Nat}
theorem rnd_normal (hl : LoopAt w l (rec .busy none)) (h : ∀ w', Le [l] w w' → LoopAt w' l (rec .ready none) → R true w') : rndP rec l R .normal c σ w := ⟨hl, h⟩
theorem rnd_ret (hl : LoopAt w l (rec .busy none)) (h : ∀ w', Le [l] w w' → LoopAt w' l (rec .done (some .ret)) → R false w') : rndP rec l R .ret c σ w := ⟨hl, h⟩
theorem aft_none (h : Q .normal c σ w) : aftP P Q c σ w none := h
theorem aft_ret (h : Q .ret c σ w) : aftP P Q c σ w (some .ret) := h
end
attribute [irreducible] rndP aftP
end Go.Sv

/-
  Package utf: All, Runes.
-/
set_option linter.unusedSimpArgs false
set_option linter.unusedVariables false
set_option linter.unnecessarySimpa false
namespace Go.Proofs.YtmnnffenijjpcaaDoor
open Go Go.Sv Go.RowKit









































































end Go.Proofs.YtmnnffenijjpcaaDoor

/-
  Package utf: Runes, Mend.
-/
set_option linter.unusedSimpArgs false
set_option linter.unusedVariables false
set_option linter.unnecessarySimpa false
namespace Go.Proofs.YtmnnffenijjpcaaDoor
open Go Go.Sv Go.RowKit

theorem Im.only {w : World} {p : Option Addr} {l : List Value} {M : List Nat} (h : Im [] w p l) (hM : ∀ b ∈ rb p, b < w.heap.size → b ∉ M) : Im M w p l := by
  rcases h with h | ⟨a, rfl, h1, h2, _⟩
  · exact .inl h
  · exact .inr ⟨a, rfl, h1, h2, hM _ (by simp [rb]) h2⟩


















































































































end Go.Proofs.YtmnnffenijjpcaaDoor

/-
  Package utf: Mend.
-/
set_option linter.unusedSimpArgs false
set_option linter.unusedVariables false
set_option linter.unnecessarySimpa false
namespace Go.Proofs.YtmnnffenijjpcaaDoor
open Go Go.Sv Go.RowKit

theorem sec_true (c d : Nat) (h : 128 ≤ d ∧ d ≤ 191 ∧ (c = 224 → 160 ≤ d) ∧ (c = 237 → d ≤ 159) ∧ (c = 240 → 144 ≤ d) ∧ (c = 244 → d ≤ 143)) : secondR c d = true := by
  unfold secondR
  repeat' split
  all_goals simp only [Bool.and_eq_true, decide_eq_true_eq]
  all_goals omega
theorem right1 (l : List UInt8) (h : at0 l 0 < 128) : (pieceR l).2.2 = true := by
  have hs : sizeR (at0 l 0) = 1 := by unfold sizeR; rw [if_pos (by omega)]
  show (goodR l).2 = true
  simp [goodR, hs, goodF]
theorem right2 (l : List UInt8) (hl : 1 < l.length) (h : 194 ≤ at0 l 0 ∧ at0 l 0 ≤ 223 ∧ 128 ≤ at0 l 1 ∧ at0 l 1 ≤ 191) : (pieceR l).2.2 = true := by
  have hs : sizeR (at0 l 0) = 2 := by unfold sizeR; rw [if_neg (by omega), if_pos (by omega)]
  have h2 := sec_true (at0 l 0) (at0 l 1) (by omega)
  show (goodR l).2 = true
  simp [goodR, hs, goodF, hl, h2]
theorem right3 (l : List UInt8) (hl : 2 < l.length) (h : 224 ≤ at0 l 0 ∧ at0 l 0 ≤ 239 ∧ 128 ≤ at0 l 1 ∧ at0 l 1 ≤ 191 ∧ (at0 l 0 = 224 → 160 ≤ at0 l 1) ∧ (at0 l 0 = 237 → at0 l 1 ≤ 159) ∧ 128 ≤ at0 l 2 ∧ at0 l 2 ≤ 191) : (pieceR l).2.2 = true := by
  have hs : sizeR (at0 l 0) = 3 := by unfold sizeR; rw [if_neg (by omega), if_neg (by omega), if_pos (by omega)]
  have h2 := sec_true (at0 l 0) (at0 l 1) (by omega)
  have h3 : ¬ (at0 l 2 < 128 ∨ 191 < at0 l 2) := by omega
  show (goodR l).2 = true
  simp [goodR, hs, goodF, hl, h2, h3, show 1 < l.length by omega]
  try omega
theorem right4 (l : List UInt8) (hl : 3 < l.length) (h : 240 ≤ at0 l 0 ∧ at0 l 0 ≤ 244 ∧ 128 ≤ at0 l 1 ∧ at0 l 1 ≤ 191 ∧ (at0 l 0 = 240 → 144 ≤ at0 l 1) ∧ (at0 l 0 = 244 → at0 l 1 ≤ 143) ∧ 128 ≤ at0 l 2 ∧ at0 l 2 ≤ 191 ∧ 128 ≤ at0 l 3 ∧ at0 l 3 ≤ 191) : (pieceR l).2.2 = true := by
  have hs : sizeR (at0 l 0) = 4 := by unfold sizeR; rw [if_neg (by omega), if_neg (by omega), if_neg (by omega), if_pos (by omega)]
  have h2 := sec_true (at0 l 0) (at0 l 1) (by omega)
  have h3 : ¬ (at0 l 2 < 128 ∨ 191 < at0 l 2) := by omega
  have h4 : ¬ (at0 l 3 < 128 ∨ 191 < at0 l 3) := by omega
  show (goodR l).2 = true
  simp [goodR, hs, goodF, hl, h2, h3, h4, show 1 < l.length by omega, show 2 < l.length by omega]
  try omega
theorem valid_back (l : List UInt8) (h0 : 0 < l.length) (hr : (pieceR l).2.2 = true) (h : validR (l.drop (pieceR l).2.1) = true) : validR l = true := by
  have hp := readS_piece l h0
  have hv := validS_cons l h0
  have hw := (whatR_zero l).2 hr
  rw [valid_eq, valid_eq, hp] at hv
  dsimp only at hv
  rw [if_neg (by simpa using hw)] at hv
  rw [hv]; exact h
section
variable {P : Program} {w : World} {ty t t' e : TypeId} {pos : String} {af : Array Edge} {x : Operand} {p : Option Addr} {c : Nat}
end
section
variable {P : Program} {n : Nat} {ds : Ctx} {ops : Array Oper} {Q : Exit → Ctx → Env → World → Prop} {rest : List Oper} {σ : GE} {w : World} {d : Nat} {ty t t' e : TypeId} {pos : String} {af : Array Edge} {x : Operand}
end
































































end Go.Proofs.YtmnnffenijjpcaaDoor

/-
  Runes as bytes, read again.
-/
set_option linter.unusedSimpArgs false
set_option linter.unusedVariables false
set_option linter.unnecessarySimpa false
namespace Go.Proofs.YtmnnffenijjpcaaDoor
open Go Go.Sv Go.RowKit

theorem piece_enc (r : Nat) (hg : Good r) (rest : List UInt8) : pieceR (encR r ++ rest) = ((r : Int), (encR r).length, true) := by
  obtain ⟨hg1, hg2⟩ := hg
  have fin : ∀ l : List UInt8, (pieceR l).2.2 = true → Right l := right_of
  unfold encR encN
  by_cases h1 : r < 128
  · rw [if_pos h1]
    generalize hl : (([r] : List Nat).map UInt8.ofNat ++ rest : List UInt8) = l
    have e0 : at0 l 0 = r := by subst hl; simp [at0]; omega
    have hr := fin l (right1 l (by omega))
    rcases hr with ⟨g1, hp⟩ | ⟨gl, g1, g2, g3, g4, hp⟩ | ⟨gl, g1, g2, g3, g4, g5, g6, g7, g8, hp⟩ | ⟨gl, g1, g2, g3, g4, g5, g6, g7, g8, g9, g10, hp⟩
    · rw [hp, e0]; rfl
    all_goals omega
  rw [if_neg h1]
  by_cases h2 : r < 2048
  · rw [if_pos h2]
    generalize hl : (([192 + r / 64, 128 + r % 64] : List Nat).map UInt8.ofNat ++ rest : List UInt8) = l
    have e0 : at0 l 0 = 192 + r / 64 := by subst hl; simp [at0]; omega
    have e1 : at0 l 1 = 128 + r % 64 := by subst hl; simp [at0]; omega
    have hr := fin l (right2 l (by subst hl; simp) (by omega))
    rcases hr with ⟨g1, hp⟩ | ⟨gl, g1, g2, g3, g4, hp⟩ | ⟨gl, g1, g2, g3, g4, g5, g6, g7, g8, hp⟩ | ⟨gl, g1, g2, g3, g4, g5, g6, g7, g8, g9, g10, hp⟩
    · omega
    · rw [hp, e0, e1]; simp; omega
    all_goals omega
  rw [if_neg h2]
  by_cases h3 : r < 65536
  · rw [if_pos h3]
    generalize hl : (([224 + r / 4096, 128 + r / 64 % 64, 128 + r % 64] : List Nat).map UInt8.ofNat ++ rest : List UInt8) = l
    have e0 : at0 l 0 = 224 + r / 4096 := by subst hl; simp [at0]; omega
    have e1 : at0 l 1 = 128 + r / 64 % 64 := by subst hl; simp [at0]; omega
    have e2 : at0 l 2 = 128 + r % 64 := by subst hl; simp [at0]; omega
    have hr := fin l (right3 l (by subst hl; simp) (by omega))
    rcases hr with ⟨g1, hp⟩ | ⟨gl, g1, g2, g3, g4, hp⟩ | ⟨gl, g1, g2, g3, g4, g5, g6, g7, g8, hp⟩ | ⟨gl, g1, g2, g3, g4, g5, g6, g7, g8, g9, g10, hp⟩
    · omega
    · omega
    · rw [hp, e0, e1, e2]; simp; omega
    · omega
  rw [if_neg h3]
  generalize hl : (([240 + r / 262144, 128 + r / 4096 % 64, 128 + r / 64 % 64, 128 + r % 64] : List Nat).map UInt8.ofNat ++ rest : List UInt8) = l
  have e0 : at0 l 0 = 240 + r / 262144 := by subst hl; simp [at0]; omega
  have e1 : at0 l 1 = 128 + r / 4096 % 64 := by subst hl; simp [at0]; omega
  have e2 : at0 l 2 = 128 + r / 64 % 64 := by subst hl; simp [at0]; omega
  have e3 : at0 l 3 = 128 + r % 64 := by subst hl; simp [at0]; omega
  have hr := fin l (right4 l (by subst hl; simp) (by omega))
  rcases hr with ⟨g1, hp⟩ | ⟨gl, g1, g2, g3, g4, hp⟩ | ⟨gl, g1, g2, g3, g4, g5, g6, g7, g8, hp⟩ | ⟨gl, g1, g2, g3, g4, g5, g6, g7, g8, g9, g10, hp⟩
  · omega
  · omega
  · omega
  · rw [hp, e0, e1, e2, e3]; simp; omega

theorem drop_enc (r : Nat) (rest : List UInt8) : (encR r ++ rest).drop (encR r).length = rest := List.drop_left
theorem valid_flat : ∀ rs : List Nat, (∀ r ∈ rs, Good r) → validR (rs.flatMap encR) = true
  | [], _ => rfl
  | r :: rs, h => by
    have h4 := encR_len4 r
    rw [List.flatMap_cons]
    refine valid_back _ (by simp; omega) ?_ ?_
    · rw [piece_enc r (h r List.mem_cons_self)]
    · rw [piece_enc r (h r List.mem_cons_self)]
      dsimp only
      rw [drop_enc]
      exact valid_flat rs fun x hx => h x (List.mem_cons_of_mem _ hx)
end Go.Proofs.YtmnnffenijjpcaaDoor

/-
  Package link: schemes; what is stripped.
-/
set_option linter.unusedSimpArgs false
set_option linter.unusedVariables false
set_option linter.unnecessarySimpa false
namespace Go.Sv
open Go Go.RowKit
section
variable {P : Program} {n : Nat} {ds : Ctx} {ops : Array Oper} {Q : Exit → Ctx → Env → World → Prop} {rest : List Oper} {σ : GE} {w : World} {d : Nat} {ty t e : TypeId} {pos : String} {af : Array Edge} {x y : Operand} {zv : Value} {size bytes c : Nat} {kl kc : IntKind}
end
end Go.Sv
namespace Go.Proofs.YtmnnffenijjpcaaDoor
open Go Go.Sv Go.RowKit

def schB (c : Nat) : Bool := letterR c || digitR c || decide (c = 43 ∨ c = 45 ∨ c = 46)













/-- a scheme's end, behind its first byte -/
def schF : List UInt8 → Nat → Nat × Bool
  | [], _ => (0, false)
  | c :: t, i => if c.toNat = 58 then (i, true) else if schB c.toNat then schF t (i + 1) else (0, false)
def schemeR (l : List UInt8) : Nat × Bool := if l = [] ∨ letterR (at0 l 0) = false then (0, false) else schF (l.drop 1) 1
/-- what is left of runes behind leading blanks and controls -/
def cutL (rs : List Nat) : List Nat := rs.dropWhile fun r => decide (r ≤ 32)
def cutT (rs : List Nat) : List Nat := (cutL rs.reverse).reverse
def keepN (rs : List Nat) : List Nat := rs.filter fun r => decide (r ≠ 9 ∧ r ≠ 10 ∧ r ≠ 13)
def stripN (rs : List Nat) : List Nat := keepN (cutT (cutL rs))
def stripR (l : List UInt8) : List UInt8 := (stripN (runesN l)).flatMap encR
end Go.Proofs.YtmnnffenijjpcaaDoor

/-
  Package link: Scheme, percent escapes.
-/
set_option linter.unusedSimpArgs false
set_option linter.unusedVariables false
set_option linter.unnecessarySimpa false
namespace Go.Sv
open Go Go.RowKit
end Go.Sv
namespace Go.Proofs.YtmnnffenijjpcaaDoor
open Go Go.Sv Go.RowKit

/-- two hexadecimal digits ahead? -/
def codedR (l : List UInt8) (i : Nat) : Bool := decide (i + 2 < l.length) && hexR (at0 l (i + 1)) && hexR (at0 l (i + 2))































def codedS (t : List UInt8) : Bool := decide (1 < t.length) && hexR (at0 t 0) && hexR (at0 t 1)
def badB : List UInt8 := [34, 60, 62, 92, 94, 96, 123, 124, 125]
def escB (c : Nat) (coded : Bool) : Bool := decide (c ≤ 32) || decide (127 ≤ c) || decide (UInt8.ofNat c ∈ badB) || (decide (c = 37) && !coded)
def digs : List UInt8 := [48, 49, 50, 51, 52, 53, 54, 55, 56, 57, 65, 66, 67, 68, 69, 70]
def pct (c : Nat) : List UInt8 := [37, digs[c / 16]?.getD 0, digs[c % 16]?.getD 0]
def encC (c : Nat) (coded : Bool) : List UInt8 := if escB c coded then pct c else [UInt8.ofNat c]
def encL : List UInt8 → List UInt8
  | [] => []
  | c :: t => encC c.toNat (codedS t) ++ encL t
def encodeR (s : List UInt8) : List UInt8 := encL (mendR s)
end Go.Proofs.YtmnnffenijjpcaaDoor

/-
  Package link: without percent escapes.
-/
set_option linter.unusedSimpArgs false
set_option linter.unusedVariables false
set_option linter.unnecessarySimpa false
namespace Go.Sv
open Go Go.RowKit
section
variable {P : Program} {σ : GE} {w0 : World} {d : Nat} {ty t e : TypeId} {pos : String} {af : Array Edge} {x : Operand} {zv v : Value} {bytes : Nat} {kk : IntKind} {a : Int} {K : Env → World → Prop}
end
end Go.Sv
namespace Go.Proofs.YtmnnffenijjpcaaDoor
open Go Go.Sv Go.RowKit

def valN (c : Nat) : Nat := (valueR c).toNat
def decL : List UInt8 → List UInt8
  | [] => []
  | c :: t => if c = 37 ∧ codedS t = true then UInt8.ofNat (16 * valN (at0 t 0) + valN (at0 t 1)) :: decL (t.drop 2) else c :: decL t
termination_by l => l.length
decreasing_by
  · simp; omega
  · simp
def decodeR (s : List UInt8) : List UInt8 := mendR (decL (mendR s))
end Go.Proofs.YtmnnffenijjpcaaDoor

/-
  Package sieveref12: Encode, Decode.
-/
set_option linter.unusedSimpArgs false
set_option linter.unusedVariables false
set_option linter.unnecessarySimpa false
namespace Go.Sv
open Go Go.RowKit
section
variable {P : Program} {n : Nat} {ds : Ctx} {ops : Array Oper} {Q : Exit → Ctx → Env → World → Prop} {rest : List Oper} {σ : GE} {w : World} {d : Nat} {ty t t' e : TypeId} {pos : String} {af : Array Edge} {x : Operand} {zv : Value} {bytes : Nat}
def enum (vs : List Value) (j : Nat) : List (Nat × Value) := (vs.zipIdx j).map fun p => (p.2, p.1)
theorem fill_enum : ∀ (vs : List Value) (j : Nat) (z : List Value), (∀ v ∈ vs, v.cells = #[v]) → j + vs.length ≤ z.length →
    Instr.fill (fun i => some (i * 1, 1)) z.toArray (enum vs j) = some (z.take j ++ vs ++ z.drop (j + vs.length)).toArray
  | [], j, z, _, _ => by simp [enum, Instr.fill]
  | v :: vs, j, z, hv, hj => by
    have h1 := hv v List.mem_cons_self
    simp only [List.length_cons] at hj
    have ih := fill_enum vs (j + 1) (z.set j v) (fun u hu => hv u (List.mem_cons_of_mem _ hu)) (by simp; omega)
    simp only [enum, List.zipIdx_cons, List.map_cons, Instr.fill]
    rw [h1]
    simp only [List.size_toArray, List.length_cons, List.length_nil, Nat.mul_one]
    rw [if_neg (by simp; omega)]
    have e : (#[v] : Array Value).zipIdx.foldl (fun cs (x : Value × Nat) => match x with | (c, k) => cs.setIfInBounds (j + k) c) z.toArray = (z.set j v).toArray := by
      simp
    rw [e]
    rw [enum] at ih
    simp only [Nat.mul_one] at ih
    rw [ih]
    congr 2
    have hjl : j < z.length := by omega
    rw [List.take_succ_eq_append_getElem (by simpa using hjl), List.take_set_of_le (Nat.le_refl _), List.drop_set_of_lt (by omega)]
    simp only [List.getElem_set_self, List.append_assoc, List.cons_append, List.nil_append, List.length_cons]
    rw [show j + 1 + vs.length = j + (vs.length + 1) from by omega]
/-- a slice written out, of values of one cell each -/
theorem wlbsn [hu : Und P t (.slice e)] [hi : Inf P e zv 1 bytes] {ps : List (Nat × Operand)} (vs : List Value) (k : Nat) (h : ∀ b w', w.heap.size ≤ b → Own w' b vs → Frm w w' → WL P n ds ops Q rest (real (updG σ d ⟨.slice (pb b) k k, true⟩)) w')
    (hps : ps.map (fun p => (p.1, evl (real σ) p.2)) = enum vs 0 := by rfl) (hk : vs.length = k := by rfl) (h1 : ∀ v ∈ vs, v.cells = #[v]) (hz : zv.cells.size = 1 := by rfl) (hk1 : k ≤ 16777216 := by decide) (hk0 : k ≠ 0 := by decide) :
    WL P n ds ops Q (⟨some d, .buildSlice t k ps.toArray, ty, pos, af, none⟩ :: rest) (real σ) w := by
  subst hk
  refine wl (h w.heap.size (w.alloc (.cells vs.toArray e)) (Nat.le_refl _) (by have := own_alloc w vs.toArray e; simpa using this) (frm_alloc _ _)) (Y.val ?_)
  have hf := fill_enum vs 0 ((Array.range (vs.length * 1)).map (zv.cells[· % zv.cells.size]!)).toList h1 (by simp)
  have hpa : (ps.toArray.map fun (x : Nat × Operand) => match x with | (i, x) => (i, evl (real σ) x)).toList = enum vs 0 := by rw [← hps]; simp
  simp only [execOp, Instr.buildSlice, Sem.run_bind, underlying, run_program, Result.andThen_ok, hu.ok, Sem.run_pure, run_sizeOf (P := P) (t := e), Nat.mul_one]
  rw [if_neg (by omega), if_neg hk0]
  simp only [Sem.run_bind, Sem.run_pure, Result.andThen_ok, run_zeroValue (P := P) (t := e)]
  rw [hpa]
  simp only [Array.toArray_toList, Nat.mul_one] at hf
  rw [hf]
  have hz0 : (vs ++ List.drop vs.length (List.map (fun x => zv.cells[x % zv.cells.size]!) (List.range vs.length))) = vs := by
    rw [List.drop_eq_nil_of_le (by simp), List.append_nil]
  simp [newRow, hz0]
end
end Go.Sv
namespace Go.Proofs.YtmnnffenijjpcaaDoor
open Go Go.Sv Go.RowKit

end Go.Proofs.YtmnnffenijjpcaaDoor

/-
  Slices written out of elements of many cells; regions that draw their order, by an invariant of the whole state.
-/
set_option linter.unusedSimpArgs false
set_option linter.unusedVariables false
set_option linter.unnecessarySimpa false
namespace Go.Sv
open Go Go.RowKit
theorem fill_rows (size : Nat) : ∀ (vs : List (List Value)) (j : Nat) (z : List Value), (∀ v ∈ vs, v.length = size) → (j + vs.length) * size ≤ z.length →
    Instr.fill (fun i => some (i * size, size)) z.toArray (enum (vs.map fun l => .agg l.toArray) j) = some (z.take (j * size) ++ vs.flatten ++ z.drop ((j + vs.length) * size)).toArray
  | [], j, z, _, _ => by simp [enum, Instr.fill]
  | v :: vs, j, z, hv, hj => by
    have h1 := hv v List.mem_cons_self
    simp only [List.length_cons] at hj
    have hj1 : (j + 1 + vs.length) * size ≤ z.length := by rw [show j + 1 + vs.length = j + (vs.length + 1) from by omega]; exact hj
    have hle : j * size + size ≤ z.length := by
      refine Nat.le_trans ?_ hj1
      rw [← Nat.succ_mul]
      exact Nat.mul_le_mul_right _ (by omega)
    have hlen : (setSeg z (j * size) v).length = z.length := by simp only [setSeg, List.length_append, List.length_take, List.length_drop, h1]; omega
    have ih := fill_rows size vs (j + 1) (setSeg z (j * size) v) (fun u hu => hv u (List.mem_cons_of_mem _ hu)) (by rw [hlen]; exact hj1)
    simp only [enum, List.map_cons, List.zipIdx_cons, Instr.fill]
    have hu : (Value.agg v.toArray).cells = v.toArray := rfl
    generalize Value.agg v.toArray = u at hu
    have hcond : ¬ ((u.cells.size ≠ size || j * size + u.cells.size > z.toArray.size) = true) := by simp [hu, h1]; omega
    simp only [hcond, if_false]
    have hf := foldl_setSeg (j * size) v 0 z.toArray (by simp [h1]; omega)
    have hf2 : u.cells.zipIdx.foldl (fun cs (x : Value × Nat) => cs.setIfInBounds (j * size + x.2) x.1) z.toArray = (setSeg z (j * size) v).toArray := by
      rw [hu, ← Array.foldl_toList]
      simpa [Array.toList_zipIdx] using hf
    rw [show (fun cs (x : Value × Nat) => match x with | (c, k) => cs.setIfInBounds (j * size + k) c) = (fun (cs : Array Value) (x : Value × Nat) => cs.setIfInBounds (j * size + x.2) x.1) from rfl, hf2]
    rw [enum] at ih
    rw [ih]
    congr 1
    have e1 : (setSeg z (j * size) v).take ((j + 1) * size) = z.take (j * size) ++ v := by
      simp only [setSeg]
      rw [Nat.succ_mul, List.take_left' (by simp only [List.length_append, List.length_take, h1]; omega)]
    have e2 : (setSeg z (j * size) v).drop ((j + 1 + vs.length) * size) = z.drop ((j + (vs.length + 1)) * size) := by
      simp only [setSeg, h1]
      rw [List.drop_append, List.drop_eq_nil_of_le (by simp only [List.length_append, List.length_take, h1]; rw [Nat.min_eq_left (by omega), ← Nat.succ_mul]; exact Nat.mul_le_mul_right _ (by omega)), List.nil_append, List.drop_drop]
      congr 1
      simp only [List.length_append, List.length_take, h1]
      have : (j + 1 + vs.length) * size = j * size + size + vs.length * size := by rw [Nat.add_mul, Nat.succ_mul]
      have h2 : (j + (vs.length + 1)) * size = j * size + size + vs.length * size := by rw [← Nat.add_assoc, Nat.add_mul, Nat.add_mul]; omega
      rw [Nat.min_eq_left (by omega), this, h2]
      omega
    rw [e1, e2]
    simp
section
variable {P : Program} {n : Nat} {ds : Ctx} {ops : Array Oper} {Q : Exit → Ctx → Env → World → Prop} {rest : List Oper} {σ : GE} {w : World} {d : Nat} {ty t t' e : TypeId} {pos : String} {af : Array Edge} {x : Operand} {zv : Value} {size bytes : Nat}
/-- a slice written out, of structs -/
theorem wlbsr [hu : Und P t (.slice e)] [hi : Inf P e zv size bytes] {ps : List (Nat × Operand)} (vs : List (List Value)) (k : Nat) (h : ∀ b w', w.heap.size ≤ b → Own w' b vs.flatten → Frm w w' → WL P n ds ops Q rest (real (updG σ d ⟨.slice (pb b) k k, true⟩)) w')
    (hps : ps.map (fun p => (p.1, evl (real σ) p.2)) = enum (vs.map fun l => .agg l.toArray) 0 := by rfl) (hk : vs.length = k := by rfl) (h1 : ∀ v ∈ vs, v.length = size := by simp) (hz : zv.cells.size = size := by rfl) (hk1 : k * size ≤ 16777216 := by decide) (hk0 : k * size ≠ 0 := by decide) :
    WL P n ds ops Q (⟨some d, .buildSlice t k ps.toArray, ty, pos, af, none⟩ :: rest) (real σ) w := by
  subst hk
  have hfl : ∀ l : List (List Value), (∀ v ∈ l, v.length = size) → l.flatten.length = l.length * size := by
    intro l
    induction l with
    | nil => simp
    | cons v l ih => intro h; simp only [List.flatten_cons, List.length_append, List.length_cons, Nat.succ_mul]; rw [h v List.mem_cons_self, ih fun u hu => h u (List.mem_cons_of_mem _ hu)]; omega
  refine wl (h w.heap.size (w.alloc (.cells vs.flatten.toArray e)) (Nat.le_refl _) (by have := own_alloc w vs.flatten.toArray e; simpa using this) (frm_alloc _ _)) (Y.val ?_)
  have hf := fill_rows size vs 0 ((Array.range (vs.length * size)).map (zv.cells[· % zv.cells.size]!)).toList h1 (by simp)
  have hpa : (ps.toArray.map fun (x : Nat × Operand) => match x with | (i, x) => (i, evl (real σ) x)).toList = enum (vs.map fun l => .agg l.toArray) 0 := by rw [← hps]; simp
  simp only [execOp, Instr.buildSlice, Sem.run_bind, underlying, run_program, Result.andThen_ok, hu.ok, Sem.run_pure, run_sizeOf (P := P) (t := e)]
  rw [if_neg (by omega), if_neg hk0]
  simp only [Sem.run_bind, Sem.run_pure, Result.andThen_ok, run_zeroValue (P := P) (t := e)]
  rw [hpa]
  simp only [Array.toArray_toList, Nat.zero_mul, Nat.zero_add] at hf
  rw [hf]
  have hz0 : List.drop (vs.length * size) (List.map (fun x => zv.cells[x % zv.cells.size]!) (List.range (vs.length * size))) = [] := List.drop_eq_nil_of_le (by simp)
  simp [newRow, hz0]
end

/-! ## Regions that draw their order, by an invariant -/
def fwdB (ops : Array Oper) : Bool := (List.range ops.size).all fun j => match ops[j]? with
  | some o => o.after.all fun e => !Region.binds .any e || decide (e.on < j)
  | none => true
theorem ready_of_fwd {ops : Array Oper} (hf : fwdB ops = true) {listed : Array Bool} (hsz : listed.size = ops.size) (hr : Region.ready .any ops listed = []) : ∀ k, k < ops.size → fl listed k = true := by
  intro k
  induction k using Nat.strongRecOn with
  | _ k ih =>
    intro hk
    cases hL : fl listed k with
    | true => rfl
    | false =>
      exfalso
      have hmem : k ∈ Region.ready .any ops listed := by
        refine mem_ready.2 ⟨?_, ops[k], by simp [hk], ?_⟩
        · simp only [fl, Array.getD_eq_getD_getElem?, show k < listed.size from by omega, Array.getElem?_eq_getElem, Option.getD_some] at hL ⊢
          exact hL
        · intro e he hb
          simp only [fwdB, List.all_eq_true, List.mem_range] at hf
          have h1 := hf k hk
          simp only [hk, Array.getElem?_eq_getElem] at h1
          have h2 := Array.all_eq_true_iff_forall_mem.1 h1 e he
          simp only [hb, Bool.not_true, Bool.false_or, decide_eq_true_eq] at h2
          exact ih e.on h2 (by omega)
      rw [hr] at hmem
      cases hmem
/-- what comes of an operation, whatever it yields -/
def comes (P : Program) (T : Value → World → Prop) : Result Next → Prop
  | .ok (.value u) w' => T u w'
  | .ok .skip w' => T undef w'
  | .ok (.enter f args) w' => Calls P f args w' (fun e w'' => ∃ v, e = .returned v ∧ T v w'')
  | _ => False
def StepI (P : Program) (ops : Array Oper) (S : (Nat → Bool) → Env → World → Prop) (k : Nat) (o : Oper) : Prop := ∀ L σ w, Up ops o k L → S L σ w →
  (Region.wanted o (yl ops σ) = true ∧ comes P (fun v w' => S (on L k) (updO σ o.dst v) w') ((execOp (evl σ) o).run P w)) ∨ (Region.wanted o (yl ops σ) = false ∧ S (on L k) (updO σ o.dst undef) w)
def StepsI (P : Program) (ops : Array Oper) (S : (Nat → Bool) → Env → World → Prop) : Nat → List Oper → Prop
  | _, [] => True
  | k, o :: l => StepI P ops S k o ∧ StepsI P ops S (k + 1) l
theorem stepsI_get {P : Program} {ops : Array Oper} {S : (Nat → Bool) → Env → World → Prop} : ∀ {l : List Oper} {k : Nat}, StepsI P ops S k l → ∀ j o, l[j]? = some o → StepI P ops S (k + j) o
  | [], _, _, j, o, h => by simp at h
  | x :: l, k, hs, 0, o, h => by simp only [List.getElem?_cons_zero, Option.some.injEq] at h; subst h; exact hs.1
  | x :: l, k, hs, j + 1, o, h => by
    have := stepsI_get hs.2 j o (by simpa using h)
    rwa [show k + 1 + j = k + (j + 1) from by omega] at this
section
variable {P : Program} {n : Nat} {ds : Ctx} {Q : Exit → Ctx → Env → World → Prop} {S : (Nat → Bool) → Env → World → Prop} {σ : Env} {w : World}
theorem comes_of_Y {o : Oper} {v : Value} {w w' : World} {T : Value → World → Prop} (hy : Y P σ o w v w') (hT : T v w') : comes P T ((execOp (evl σ) o).run P w) := by
  unfold Y at hy
  rcases hy with hy | ⟨hy, rfl⟩
  · rw [hy]; exact hT
  · rw [hy]; exact hT
end
end Go.Sv

/-
  Packages names and sieveref04: which names are in the set of void elements; texts parted by blanks.
-/
set_option linter.unusedSimpArgs false
set_option linter.unusedVariables false
set_option linter.unnecessarySimpa false
namespace Go.Proofs.YtmnnffenijjpcaaDoor
open Go Go.Sv Go.RowKit

def strs (l : List (List UInt8)) : List Value := l.map fun s => str s
theorem strs_len (l : List (List UInt8)) : (strs l).length = l.length := by simp [strs]
theorem strs_at {l : List (List UInt8)} {i : Nat} {x : List UInt8} (h : l[i]? = some x) : (strs l)[i]? = some (str x) := by simp [strs, h]
theorem strs_get {l : List (List UInt8)} {i : Nat} (h : i < l.length) : (strs l)[i]? = some (str l[i]) := by simp [strs, h]
theorem strs_app (l m : List (List UInt8)) : strs (l ++ m) = strs l ++ strs m := by simp [strs]
theorem strs_snoc (l : List (List UInt8)) (x : List UInt8) : strs l ++ [str x] = strs (l ++ [x]) := (strs_app l [x]).symm
theorem strs_one (l : List (List UInt8)) : ∀ u ∈ strs l, u.oneCell' = true := by
  intro u hu
  obtain ⟨x, _, rfl⟩ := List.mem_map.1 hu
  rfl

/-- the table of blanks holds what its initialiser lays -/
def Asc (w : World) : Prop := Lib.TabIs Tryd.prog w "strings.asciiSpace" .u8 Lib.asciiSpaceTab
theorem gAsc : Tryd.prog.globalNamed "strings.asciiSpace" = some 0 := by kernel_rfl
theorem Asc.frm {w w' : World} (h : Asc w) (hf : Frm w w') : Asc w' := by
  unfold Asc Lib.TabIs World.var? at h ⊢
  rw [gAsc] at h ⊢
  simp only [Option.bind_some] at h ⊢
  have hlt : 0 < w.heap.size := by
    rcases Nat.lt_or_ge 0 w.heap.size with h' | h'
    · exact h'
    · rw [Array.getElem?_eq_none h'] at h; cases h
  rw [hf.block _ hlt]
  exact h

/-! ## sieveref04: Fields -/
def blkR (c : UInt8) : Bool := decide (c = 9 ∨ c = 10 ∨ c = 12 ∨ c = 32)
def fgo : List UInt8 → List UInt8 → List (List UInt8)
  | cur, [] => if cur = [] then [] else [cur]
  | cur, b :: l => if blkR b then (if cur = [] then fgo [] l else cur :: fgo [] l) else fgo (cur ++ [b]) l
def fieldsR (s : List UInt8) : List (List UInt8) := fgo [] s

















/-! ## the sets -/
def voidL : List (List UInt8) := fieldsR [97, 114, 101, 97, 32, 98, 97, 115, 101, 32, 98, 114, 32, 99, 111, 108, 32, 101, 109, 98, 101, 100, 32, 104, 114, 32, 105, 109, 103, 32, 105, 110, 112, 117, 116, 32, 108, 105, 110, 107, 32, 109, 101, 116, 97, 32, 115, 111, 117, 114, 99, 101, 32, 116, 114, 97, 99, 107, 32, 119, 98, 114]
def voidT : List UInt8 := [97, 114, 101, 97, 32, 98, 97, 115, 101, 32, 98, 114, 32, 99, 111, 108, 32, 101, 109, 98, 101, 100, 32, 104, 114, 32, 105, 109, 103, 32, 105, 110, 112, 117, 116, 32, 108, 105, 110, 107, 32, 109, 101, 116, 97, 32, 115, 111, 117, 114, 99, 101, 32, 116, 114, 97, 99, 107, 32, 119, 98, 114]
/-- is a name a void element's? -/
def voidR (n : List UInt8) : Bool := decide (n ∈ voidL)
theorem isSet_ok (k : Nat) (hk : k < 16) (w : World) : PureC Tryd.prog 38 #[int k] w (.bool true) := by
  refine enter (l := [int k]) Tryd.func38 rfl Tryd.ntmps38 (by kernel_rfl) rfl ?_
  refine sgo ?_
  (first | refine fp1 (.inl rfl) rfl rfl ?_ | refine fp2 (.inl rfl) rfl rfl rfl ?_ | refine fp3 (.inl rfl) rfl rfl rfl rfl ?_ | refine fp0 (.inr rfl) rfl ?_ | refine fp0 (.inl rfl) rfl ?_ | refine fp1 (.inr rfl) rfl rfl ?_); refine ⟨?_, by (first | exact Frm.refl _ | assumption | exact Go.Sv.Sep.frm (by assumption) | (refine Frm.trans ?_ (by assumption); first | exact Frm.refl _ | assumption))⟩; (try simp only [realB, rv_true, Nat.reduceBEq, cond_true, cond_false, entG, real_lif, updGL])
  congr 1
  simp only [pkb_and, Bool.and_eq_true, decide_eq_true_eq]
  omega
end Go.Proofs.YtmnnffenijjpcaaDoor

/-
  Package names: the sets' names.
-/
set_option linter.unusedSimpArgs false
set_option linter.unusedVariables false
set_option linter.unnecessarySimpa false
namespace Go.Proofs.YtmnnffenijjpcaaDoor
open Go Go.Sv Go.RowKit
end Go.Proofs.YtmnnffenijjpcaaDoor

/-
  Packages names and sieveref04: In, of the void elements.
-/
set_option linter.unusedSimpArgs false
set_option linter.unusedVariables false
set_option linter.unnecessarySimpa false
namespace Go.Proofs.YtmnnffenijjpcaaDoor
open Go Go.Sv Go.RowKit

/-- strings.Fields, of ASCII -/
theorem strFields_ok (s : List UInt8) (hb : s.length ≤ 1048576) (ha : s.all (fun c => decide (c.toNat < 128)) = true) (w : World) (hA : Asc w) :
    CallsR Tryd.prog 39 #[str s] w fun v w' => ∃ b, v = .slice (pb b) (Lib.fields s).length (Lib.fields s).length ∧ Sep w w' [pOwn b (strs (Lib.fields s))] := by
  refine Calls.mono (Tryd.strings_Fields ⟨s.toArray⟩ w (by rw [ByteArray.size]; simp; omega) (fun j b hb => ?_) hA) ?_
  · have hm := List.mem_of_getElem? hb
    have := List.all_eq_true.1 ha b (by simpa using hm)
    simpa using this
  · rintro e w' ⟨rfl, rfl⟩
    refine ⟨_, rfl, w.heap.size, rfl, ?_⟩
    refine (Sep.start w).push (frm_alloc w _) (own_alloc w _ _) (by simp [pOwn])
theorem mem_at {α : Type} {l : List α} {x : α} (h : ∀ i : Nat, (hi : i < l.length) → l[i] ≠ x) : x ∉ l := by
  intro hm
  obtain ⟨i, hi, e⟩ := List.mem_iff_getElem.1 hm
  exact h i hi e
end Go.Proofs.YtmnnffenijjpcaaDoor

/-
  Package names: the sets' names, all of them; which names are in a set.
-/
set_option linter.unusedSimpArgs false
set_option linter.unusedVariables false
set_option linter.unnecessarySimpa false
namespace Go.Proofs.YtmnnffenijjpcaaDoor
open Go Go.Sv Go.RowKit

def setT0 : List UInt8 := [97, 114, 101, 97, 32, 98, 97, 115, 101, 32, 98, 114, 32, 99, 111, 108, 32, 101, 109, 98, 101, 100, 32, 104, 114, 32, 105, 109, 103, 32, 105, 110, 112, 117, 116, 32, 108, 105, 110, 107, 32, 109, 101, 116, 97, 32, 115, 111, 117, 114, 99, 101, 32, 116, 114, 97, 99, 107, 32, 119, 98, 114, 32]
def setT1 : List UInt8 := [97, 114, 101, 97, 32, 98, 97, 115, 101, 32, 98, 114, 32, 99, 111, 108, 32, 101, 109, 98, 101, 100, 32, 104, 114, 32, 105, 109, 103, 32, 105, 110, 112, 117, 116, 32, 108, 105, 110, 107, 32, 109, 101, 116, 97, 32, 115, 111, 117, 114, 99, 101, 32, 116, 114, 97, 99, 107, 32, 119, 98, 114, 32, 98, 97, 115, 101, 102, 111, 110, 116, 32, 98, 103, 115, 111, 117, 110, 100, 32, 102, 114, 97, 109, 101, 32, 107, 101, 121, 103, 101, 110, 32, 112, 97, 114, 97, 109]
def setT2 : List UInt8 := [116, 101, 120, 116, 97, 114, 101, 97, 32, 116, 105, 116, 108, 101]
def setT3 : List UInt8 := [105, 102, 114, 97, 109, 101, 32, 110, 111, 101, 109, 98, 101, 100, 32, 110, 111, 102, 114, 97, 109, 101, 115, 32, 110, 111, 115, 99, 114, 105, 112, 116, 32, 115, 116, 121, 108, 101, 32, 120, 109, 112]
def setT4 : List UInt8 := [97, 32, 98, 32, 98, 105, 103, 32, 99, 111, 100, 101, 32, 101, 109, 32, 102, 111, 110, 116, 32, 105, 32, 110, 111, 98, 114, 32, 115, 32, 115, 109, 97, 108, 108, 32, 115, 116, 114, 105, 107, 101, 32, 115, 116, 114, 111, 110, 103, 32, 116, 116, 32, 117]
def setT5 : List UInt8 := [104, 49, 32, 104, 50, 32, 104, 51, 32, 104, 52, 32, 104, 53, 32, 104, 54]
def setT6 : List UInt8 := [97, 100, 100, 114, 101, 115, 115, 32, 97, 114, 116, 105, 99, 108, 101, 32, 97, 115, 105, 100, 101, 32, 98, 108, 111, 99, 107, 113, 117, 111, 116, 101, 32, 99, 101, 110, 116, 101, 114, 32, 100, 100, 32, 100, 101, 116, 97, 105, 108, 115, 32, 100, 105, 97, 108, 111, 103, 32, 100, 105, 114, 32, 100, 105, 118, 32, 100, 108, 32, 100, 116, 32, 102, 105, 101, 108, 100, 115, 101, 116, 32, 102, 105, 103, 99, 97, 112, 116, 105, 111, 110, 32, 102, 105, 103, 117, 114, 101, 32, 102, 111, 111, 116, 101, 114, 32, 102, 111, 114, 109, 32, 104, 49, 32, 104, 50, 32, 104, 51, 32, 104, 52, 32, 104, 53, 32, 104, 54, 32, 104, 101, 97, 100, 101, 114, 32, 104, 103, 114, 111, 117, 112, 32, 104, 114, 32, 108, 105, 32, 108, 105, 115, 116, 105, 110, 103, 32, 109, 97, 105, 110, 32, 109, 101, 110, 117, 32, 110, 97, 118, 32, 111, 108, 32, 112, 32, 112, 108, 97, 105, 110, 116, 101, 120, 116, 32, 112, 114, 101, 32, 115, 101, 97, 114, 99, 104, 32, 115, 101, 99, 116, 105, 111, 110, 32, 115, 117, 109, 109, 97, 114, 121, 32, 116, 97, 98, 108, 101, 32, 117, 108, 32, 120, 109, 112]
def setT7 : List UInt8 := [100, 100, 32, 100, 116, 32, 108, 105, 32, 111, 112, 116, 103, 114, 111, 117, 112, 32, 111, 112, 116, 105, 111, 110, 32, 112, 32, 114, 98, 32, 114, 112, 32, 114, 116, 32, 114, 116, 99]
def setT8 : List UInt8 := [97, 112, 112, 108, 101, 116, 32, 99, 97, 112, 116, 105, 111, 110, 32, 104, 116, 109, 108, 32, 109, 97, 114, 113, 117, 101, 101, 32, 111, 98, 106, 101, 99, 116, 32, 116, 97, 98, 108, 101, 32, 116, 100, 32, 116, 101, 109, 112, 108, 97, 116, 101, 32, 116, 104, 32]
def setT9 : List UInt8 := [97, 112, 112, 108, 101, 116, 32, 99, 97, 112, 116, 105, 111, 110, 32, 104, 116, 109, 108, 32, 109, 97, 114, 113, 117, 101, 101, 32, 111, 98, 106, 101, 99, 116, 32, 116, 97, 98, 108, 101, 32, 116, 100, 32, 116, 101, 109, 112, 108, 97, 116, 101, 32, 116, 104, 32, 111, 108, 32, 117, 108]
def setT10 : List UInt8 := [97, 112, 112, 108, 101, 116, 32, 99, 97, 112, 116, 105, 111, 110, 32, 104, 116, 109, 108, 32, 109, 97, 114, 113, 117, 101, 101, 32, 111, 98, 106, 101, 99, 116, 32, 116, 97, 98, 108, 101, 32, 116, 100, 32, 116, 101, 109, 112, 108, 97, 116, 101, 32, 116, 104, 32, 98, 117, 116, 116, 111, 110]
def setT11 : List UInt8 := [104, 116, 109, 108, 32, 116, 97, 98, 108, 101, 32, 116, 101, 109, 112, 108, 97, 116, 101]
def setT12 : List UInt8 := [97, 100, 100, 114, 101, 115, 115, 32, 97, 112, 112, 108, 101, 116, 32, 97, 114, 101, 97, 32, 97, 114, 116, 105, 99, 108, 101, 32, 97, 115, 105, 100, 101, 32, 98, 97, 115, 101, 32, 98, 97, 115, 101, 102, 111, 110, 116, 32, 98, 103, 115, 111, 117, 110, 100, 32, 98, 108, 111, 99, 107, 113, 117, 111, 116, 101, 32, 98, 111, 100, 121, 32, 98, 114, 32, 98, 117, 116, 116, 111, 110, 32, 99, 97, 112, 116, 105, 111, 110, 32, 99, 101, 110, 116, 101, 114, 32, 99, 111, 108, 32, 99, 111, 108, 103, 114, 111, 117, 112, 32, 100, 100, 32, 100, 101, 116, 97, 105, 108, 115, 32, 100, 105, 114, 32, 100, 105, 118, 32, 100, 108, 32, 100, 116, 32, 101, 109, 98, 101, 100, 32, 102, 105, 101, 108, 100, 115, 101, 116, 32, 102, 105, 103, 99, 97, 112, 116, 105, 111, 110, 32, 102, 105, 103, 117, 114, 101, 32, 102, 111, 111, 116, 101, 114, 32, 102, 111, 114, 109, 32, 102, 114, 97, 109, 101, 32, 102, 114, 97, 109, 101, 115, 101, 116, 32, 104, 49, 32, 104, 50, 32, 104, 51, 32, 104, 52, 32, 104, 53, 32, 104, 54, 32, 104, 101, 97, 100, 32, 104, 101, 97, 100, 101, 114, 32, 104, 103, 114, 111, 117, 112, 32, 104, 114, 32, 104, 116, 109, 108, 32, 105, 102, 114, 97, 109, 101, 32, 105, 109, 103, 32, 105, 110, 112, 117, 116, 32, 107, 101, 121, 103, 101, 110, 32, 108, 105, 32, 108, 105, 110, 107, 32, 108, 105, 115, 116, 105, 110, 103, 32, 109, 97, 105, 110, 32, 109, 97, 114, 113, 117, 101, 101, 32, 109, 101, 110, 117, 32, 109, 101, 116, 97, 32, 110, 97, 118, 32, 110, 111, 101, 109, 98, 101, 100, 32, 110, 111, 102, 114, 97, 109, 101, 115, 32, 110, 111, 115, 99, 114, 105, 112, 116, 32, 111, 98, 106, 101, 99, 116, 32, 111, 108, 32, 112, 32, 112, 97, 114, 97, 109, 32, 112, 108, 97, 105, 110, 116, 101, 120, 116, 32, 112, 114, 101, 32, 115, 99, 114, 105, 112, 116, 32, 115, 101, 97, 114, 99, 104, 32, 115, 101, 99, 116, 105, 111, 110, 32, 115, 101, 108, 101, 99, 116, 32, 115, 111, 117, 114, 99, 101, 32, 115, 116, 121, 108, 101, 32, 115, 117, 109, 109, 97, 114, 121, 32, 116, 97, 98, 108, 101, 32, 116, 98, 111, 100, 121, 32, 116, 100, 32, 116, 101, 109, 112, 108, 97, 116, 101, 32, 116, 101, 120, 116, 97, 114, 101, 97, 32, 116, 102, 111, 111, 116, 32, 116, 104, 32, 116, 104, 101, 97, 100, 32, 116, 105, 116, 108, 101, 32, 116, 114, 32, 116, 114, 97, 99, 107, 32, 117, 108, 32, 119, 98, 114, 32, 120, 109, 112]
def setT13 : List UInt8 := [97, 112, 112, 108, 101, 116, 32, 99, 97, 112, 116, 105, 111, 110, 32, 109, 97, 114, 113, 117, 101, 101, 32, 111, 98, 106, 101, 99, 116, 32, 116, 100, 32, 116, 101, 109, 112, 108, 97, 116, 101, 32, 116, 104]
def setT14 : List UInt8 := [99, 97, 112, 116, 105, 111, 110, 32, 99, 111, 108, 32, 99, 111, 108, 103, 114, 111, 117, 112, 32, 116, 98, 111, 100, 121, 32, 116, 100, 32, 116, 102, 111, 111, 116, 32, 116, 104, 32, 116, 104, 101, 97, 100, 32, 116, 114]
def setT15 : List UInt8 := [97, 32, 97, 98, 98, 114, 32, 97, 100, 100, 114, 101, 115, 115, 32, 97, 114, 116, 105, 99, 108, 101, 32, 97, 115, 105, 100, 101, 32, 98, 32, 98, 100, 105, 32, 98, 100, 111, 32, 98, 108, 111, 99, 107, 113, 117, 111, 116, 101, 32, 98, 114, 32, 99, 97, 112, 116, 105, 111, 110, 32, 99, 101, 110, 116, 101, 114, 32, 99, 105, 116, 101, 32, 99, 111, 100, 101, 32, 99, 111, 108, 32, 99, 111, 108, 103, 114, 111, 117, 112, 32, 100, 97, 116, 97, 32, 100, 100, 32, 100, 101, 108, 32, 100, 101, 116, 97, 105, 108, 115, 32, 100, 102, 110, 32, 100, 105, 97, 108, 111, 103, 32, 100, 105, 118, 32, 100, 108, 32, 100, 116, 32, 101, 109, 32, 102, 105, 103, 99, 97, 112, 116, 105, 111, 110, 32, 102, 105, 103, 117, 114, 101, 32, 102, 111, 111, 116, 101, 114, 32, 104, 49, 32, 104, 50, 32, 104, 51, 32, 104, 52, 32, 104, 53, 32, 104, 54, 32, 104, 101, 97, 100, 101, 114, 32, 104, 103, 114, 111, 117, 112, 32, 104, 114, 32, 105, 32, 105, 109, 103, 32, 105, 110, 115, 32, 107, 98, 100, 32, 108, 97, 98, 101, 108, 32, 108, 105, 32, 109, 97, 105, 110, 32, 109, 97, 114, 107, 32, 109, 101, 110, 117, 32, 110, 97, 118, 32, 111, 108, 32, 112, 32, 112, 114, 101, 32, 113, 32, 115, 32, 115, 97, 109, 112, 32, 115, 101, 97, 114, 99, 104, 32, 115, 101, 99, 116, 105, 111, 110, 32, 115, 109, 97, 108, 108, 32, 115, 112, 97, 110, 32, 115, 116, 114, 111, 110, 103, 32, 115, 117, 98, 32, 115, 117, 109, 109, 97, 114, 121, 32, 115, 117, 112, 32, 116, 97, 98, 108, 101, 32, 116, 98, 111, 100, 121, 32, 116, 100, 32, 116, 101, 120, 116, 97, 114, 101, 97, 32, 116, 102, 111, 111, 116, 32, 116, 104, 32, 116, 104, 101, 97, 100, 32, 116, 105, 109, 101, 32, 116, 114, 32, 117, 32, 117, 108, 32, 118, 97, 114, 32, 119, 98, 114]
def setTexts : List (List UInt8) := [setT0, setT1, setT2, setT3, setT4, setT5, setT6, setT7, setT8, setT9, setT10, setT11, setT12, setT13, setT14, setT15]
set_option maxHeartbeats 4000000 in
set_option maxRecDepth 100000 in
/-- the sets' names -/
theorem listsAll_ok (w : World) : CallsR Tryd.prog 40 #[] w fun v w' => Frm w w' ∧ v = .agg ⟨strs setTexts⟩ := by
  refine enter (l := []) Tryd.func40 rfl Tryd.ntmps40 (by kernel_rfl) rfl ?_
  have hS := Sep.start w
  refine sgo ?_
  refine salloc hS fun b0 w0 hS => ?_
  refine sgo ?_
  refine salloc hS fun b1 w1 hS => ?_
  refine sgo ?_
  replace hS : Sep w w1 [pOwn b1 (strs (List.replicate 16 [])), pOwn b0 (strs (List.replicate 16 []))] := hS
  iterate 15 (refine sst_str hS 0 fun w2 hS => ?_; refine sgo ?_)
  refine sst_str hS 0 fun w2 hS => ?_
  obtain ⟨L, hL, hlen, h1, hS⟩ : ∃ L : List Value, L = strs setTexts ∧ L.length = 16 ∧ (L.all fun c => c.oneCell') = true ∧ Sep w w2 [pOwn b1 L, pOwn b0 (strs (List.replicate 16 []))] := ⟨strs setTexts, rfl, rfl, rfl, hS⟩
  refine sgo ?_
  refine ssta (vs := L) hS 1 (fun w3 hS => ?_) (hy := by rw [show (Value.agg ⟨L⟩) = .agg ⟨(L.drop 0).take 16⟩ from by rw [List.drop_zero, ← hlen, List.take_length]]; rfl) (hv := ⟨hlen, rfl⟩) (h1 := h1)
  refine sgo ?_
  have ho := hS.own 1 rfl
  refine fpc (l := L) (zv := .agg ⟨strs (List.replicate 16 [])⟩) (.inl rfl) rfl rfl rfl ho (hi := by rw [hlen]; infer_instance) ⟨hS.frm, by rw [hL]⟩
def setT (k : Nat) : List UInt8 := setTexts.getD k []
/-- is a name in the k-th set? -/
def inSet (k : Nat) (n : List UInt8) : Bool := decide (n ∈ Lib.fields (setT k))
theorem setT_facts : setTexts.length = 16 ∧ (setTexts.all fun t => decide (t.length ≤ 1048576) && decide ((Lib.fields t).length ≤ 1048576) && t.all fun c => decide (c.toNat < 128)) = true := by decide +kernel
theorem setT_fact {k : Nat} (hk : k < 16) : setTexts[k]? = some (setT k) ∧ ((setT k).length ≤ 1048576 ∧ (Lib.fields (setT k)).length ≤ 1048576) ∧ (setT k).all (fun c => decide (c.toNat < 128)) = true := by
  have h1 : setTexts[k]? = some setTexts[k] := List.getElem?_eq_getElem (by rw [setT_facts.1]; exact hk)
  have h2 : setT k = setTexts[k] := by unfold setT; rw [List.getD_eq_getElem?_getD, h1]; rfl
  have h3 := List.all_eq_true.1 setT_facts.2 setTexts[k] (List.getElem_mem _)
  rw [Bool.and_eq_true, Bool.and_eq_true, decide_eq_true_eq, decide_eq_true_eq] at h3
  rw [h2]
  exact ⟨h1, h3⟩
set_option maxHeartbeats 1000000 in
theorem inK_ok (k : Nat) (hk : k < 16) (n : List UInt8) (w : World) (hA : Asc w) : PureC Tryd.prog 26 #[str n, int k] w (.bool (inSet k n)) := by
  obtain ⟨ht1, ⟨ht2, htf⟩, ht3⟩ := setT_fact hk
  unfold inSet
  generalize setT k = T at *
  refine enter (l := [str n, int k]) Tryd.func26 rfl Tryd.ntmps26 (by kernel_rfl) rfl ?_
  refine sgo ?_
  refine wlpure (isSet_ok k hk _) fun w1 hf1 => ?_
  refine sgo ?_
  refine wlcall (listsAll_ok w1) ?_
  rintro _ w2 ⟨hf2, rfl⟩
  have hl16 : setTexts.length = 16 := setT_facts.1
  have hcell : (Array.mk (strs setTexts))[k]? = some (str T) := by simpa using strs_at ht1
  have hsl := strs_len setTexts
  generalize strs setTexts = L at *
  rw [hl16] at hsl
  clear hl16 ht1
  refine wlp ?_
  refine wl_idx ?_ (hy := y_aidx rfl rfl hk hcell)
  refine sgo ?_
  refine wlcall (strFields_ok T ht2 ht3 w2 ((hA.frm hf1).frm hf2)) ?_
  rintro _ w3 ⟨b, rfl, hS⟩
  generalize Lib.fields T = F at *
  have hf := hf1.trans hf2
  replace hS : Sep w w3 [pOwn b (strs F)] := ⟨hf.trans hS.frm, hS.ok, fun c hc x hx => Nat.le_trans hf.size (hS.low c hc x hx), hS.apart⟩
  refine sgo ?_
  refine wcloop (X := Nat) (fun i => [(0, str n), (13, .slice (pb b) F.length F.length), (14, int F.length), (15, int i)])
    (fun i wr => i ≤ F.length ∧ (∀ j, (hj : j < F.length) → j < i → F[j] ≠ n) ∧ wr = w3) (fun i => F.length - i) 0 ⟨rfl, rfl, rfl, rfl, trivial⟩ ⟨Nat.zero_le _, fun _ _ h => absurd h (by omega), rfl⟩ ?_
  rintro i wr ρ ⟨hil, hj, rfl⟩
  refine sgo ?_
  (show WC _ _ _ _ _ _ _; first | refine WC_dec rfl (fun hc => ?_) (fun hc => ?_) | refine WC_cond rfl (fun hc => ?_) (fun hc => ?_))
  · have hlt : i < F.length := by omega
    have hg := strs_get hlt
    generalize hx : F[i] = x at *
    clear hc
    refine sgo ?_
    (show WC _ _ _ _ _ _ _; first | refine WC_dec rfl (fun hc => ?_) (fun hc => ?_) | refine WC_cond rfl (fun hc => ?_) (fun hc => ?_))
    · refine sgo ?_
      (first | refine fp1 (.inl rfl) rfl rfl ?_ | refine fp2 (.inl rfl) rfl rfl rfl ?_ | refine fp3 (.inl rfl) rfl rfl rfl rfl ?_ | refine fp0 (.inr rfl) rfl ?_ | refine fp0 (.inl rfl) rfl ?_ | refine fp1 (.inr rfl) rfl rfl ?_); refine ⟨?_, by (first | exact Frm.refl _ | assumption | exact Go.Sv.Sep.frm (by assumption) | (refine Frm.trans ?_ (by assumption); first | exact Frm.refl _ | assumption))⟩; (try simp only [realB, rv_true, Nat.reduceBEq, cond_true, cond_false, entG, real_lif, updGL])
      rw [decide_eq_true]
      rw [← hc, ← hx]; exact List.getElem_mem hlt
    · refine sgo ?_
      refine ⟨i + 1, ⟨rfl, rfl, rfl, rfl, trivial⟩, ⟨hlt, fun j hj' hji => ?_, rfl⟩, (by (try dsimp only); omega)⟩
      rcases Nat.lt_or_ge j i with h | h
      · exact hj j hj' h
      · obtain rfl : j = i := by omega
        rw [hx]; exact hc
  · refine sgo ?_
    (first | refine fp1 (.inl rfl) rfl rfl ?_ | refine fp2 (.inl rfl) rfl rfl rfl ?_ | refine fp3 (.inl rfl) rfl rfl rfl rfl ?_ | refine fp0 (.inr rfl) rfl ?_ | refine fp0 (.inl rfl) rfl ?_ | refine fp1 (.inr rfl) rfl rfl ?_); refine ⟨?_, by (first | exact Frm.refl _ | assumption | exact Go.Sv.Sep.frm (by assumption) | (refine Frm.trans ?_ (by assumption); first | exact Frm.refl _ | assumption))⟩; (try simp only [realB, rv_true, Nat.reduceBEq, cond_true, cond_false, entG, real_lif, updGL])
    rw [decide_eq_false]
    exact mem_at fun j hj' => hj j hj' (by omega)
end Go.Proofs.YtmnnffenijjpcaaDoor

