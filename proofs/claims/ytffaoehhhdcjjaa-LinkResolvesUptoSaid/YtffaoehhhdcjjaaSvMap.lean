/-
  Maps with keys that are strings; lists of records in cells.
-/
import Derived.Test.YtffaoehhhdcjjaaSvGo
import Derived.MapKept
set_option linter.unusedSimpArgs false
set_option linter.unusedVariables false
set_option linter.unnecessarySimpa false
namespace Go.Sv
open Go Go.RowKit

/-! ## Lists of records -/
section
variable {α : Type} {f : α → List Value} {k : Nat}
theorem fm_len (h : ∀ x, (f x).length = k) (l : List α) : (l.flatMap f).length = l.length * k := by
  induction l with
  | nil => simp
  | cons x l ih => simp [List.flatMap_cons, ih, h, Nat.add_mul]; omega
theorem fm_get (h : ∀ x, (f x).length = k) (l : List α) : ∀ (i j : Nat), j < k → (l.flatMap f)[i * k + j]? = (l[i]?).bind fun x => (f x)[j]? := by
  induction l with
  | nil => intro i j _; simp
  | cons x l ih =>
    intro i j hj
    rw [List.flatMap_cons]
    cases i with
    | zero => simp only [Nat.zero_mul, Nat.zero_add]; rw [List.getElem?_append_left (by rw [h]; exact hj)]; simp
    | succ i =>
      rw [List.getElem?_append_right (by rw [h, Nat.succ_mul]; omega), h, show (i + 1) * k + j - k = i * k + j from by rw [Nat.succ_mul]; omega, ih i j hj]
      simp
theorem fm_seg (h : ∀ x, (f x).length = k) (l : List α) {i : Nat} {x : α} (hx : l[i]? = some x) : ((l.flatMap f).drop (i * k)).take k = f x := by
  apply List.ext_getElem?
  intro j
  rcases Nat.lt_or_ge j k with hj | hj
  · rw [List.getElem?_take_of_lt hj, List.getElem?_drop, fm_get h l i j hj, hx]; rfl
  · rw [List.getElem?_eq_none (by simp; omega), List.getElem?_eq_none (by rw [h]; exact hj)]
end

/-! ## Maps -/
def MMap (w : World) (m : Nat) (kv : List (List UInt8 × Value)) : Prop := ∃ es clock, w.heap[m]? = some (.map es clock) ∧ es.toList.map (fun e => (e.key, e.val)) = kv.map fun x => (str x.1, x.2)
/-- a map to true: a set -/
def MSet (w : World) (m : Nat) (ks : List (List UInt8)) : Prop := MMap w m (ks.map fun k => (k, .bool true))

section
variable {P : Program} {w w' : World} {m : Nat} {kv : List (List UInt8 × Value)} {ks : List (List UInt8)} {s : List UInt8}
theorem MMap.lt (h : MMap w m kv) : m < w.heap.size := by
  obtain ⟨es, cl, h, _⟩ := h
  exact (Array.getElem?_eq_some_iff.1 h).1
theorem MMap.le {M : List Nat} (h : MMap w m kv) (hl : Le M w w') (hm : m ∉ M) : MMap w' m kv := by
  have := h.lt
  obtain ⟨es, cl, h, h2⟩ := h
  exact ⟨es, cl, by rw [hl.block m this hm]; exact h, h2⟩
theorem MMap.frm (h : MMap w m kv) (hl : Frm w w') : MMap w' m kv := h.le (M := []) hl.le (by simp)
theorem MSet.lt (h : MSet w m ks) : m < w.heap.size := MMap.lt h
theorem MSet.le {M : List Nat} (h : MSet w m ks) (hl : Le M w w') (hm : m ∉ M) : MSet w' m ks := MMap.le h hl hm
theorem MSet.frm (h : MSet w m ks) (hl : Frm w w') : MSet w' m ks := MMap.frm h hl

theorem same_str (a b : List UInt8) : Instr.sameNow .string (str a) (str b) = some (decide (a = b)) := by
  simp only [Instr.sameNow]
  congr 1
  show (a.toArray == b.toArray) = decide (a = b)
  simp [lbeq]
theorem find_kv : ∀ (es : List MapEntry) (kv : List (List UInt8 × Value)) (i : Nat), es.map (fun e => (e.key, e.val)) = kv.map (fun x => (str x.1, x.2)) →
    ∃ r, Instr.findNow .string (str s) es i = some r ∧ r.map (·.2) = kv.lookup s
  | [], kv, i, h => by
    have : kv = [] := by simpa using h.symm
    subst this
    exact ⟨none, rfl, rfl⟩
  | e :: es, [], i, h => by simp at h
  | e :: es, x :: kv, i, h => by
    simp only [List.map_cons, List.cons.injEq, Prod.mk.injEq] at h
    obtain ⟨⟨h1, h2⟩, h3⟩ := h
    obtain ⟨r, hr, hr2⟩ := find_kv es kv (i + 1) h3
    simp only [Instr.findNow, h1, same_str]
    by_cases e1 : s = x.1
    · rw [decide_eq_true e1]
      refine ⟨some (i, e.val), rfl, ?_⟩
      subst e1
      simp [List.lookup, h2]
    · rw [decide_eq_false e1]
      refine ⟨r, hr, ?_⟩
      have : (s == x.1) = false := by simpa using e1
      rw [hr2]
      simp [List.lookup, this]
variable {σ : Env} {d : Option Tmp} {ty t t' kt vt : TypeId} {pos : String} {af : Array Edge} {g : Option (Nat × Bool)} {x y z : Operand} {zv : Value} {size bytes : Nat}
theorem y_lookup [hu : Und P t (.map kt vt)] [hk : Und P kt .string] [hi : Inf P vt zv size bytes] (hx : evl σ x = .map (some m)) (hy : evl σ y = str s) (hm : MMap w m kv) :
    Y P σ ⟨d, .lookup t x y false, ty, pos, af, g⟩ w ((kv.lookup s).getD zv) w := by
  refine Y.val ?_
  obtain ⟨es, cl, h1, h2⟩ := hm
  obtain ⟨r, hr, hr2⟩ := find_kv (s := s) es.toList kv 0 h2
  have hc := MapKept.run_checkKey (P := P) (w := w) (k := str s) hk.ok (by simp [MapKept.IsKey]) es.isEmpty 9999
  have hf := MapKept.run_findKey (P := P) (w := w) (kt := kt) hk.ok hr
  rw [← hr2]
  simp only [execOp, hx, hy, Instr.lookup, Sem.run_bind, underlying, run_program, Result.andThen_ok, hu.ok, Sem.run_pure, MapKept.run_getObj_map h1, hc, hf]
  cases r with
  | none => simp [run_zeroValue (P := P) (t := vt)]
  | some r => simp
theorem lookup_set (s : List UInt8) (ks : List (List UInt8)) : ((ks.map fun k => (k, Value.bool true)).lookup s).getD (.bool false) = .bool (decide (s ∈ ks)) := by
  induction ks with
  | nil => simp
  | cons k ks ih =>
    by_cases e : s = k
    · subst e; simp [List.lookup]
    · have : (s == k) = false := by simpa using e
      simp only [List.map_cons, List.lookup, this, ih]
      simp [e]
theorem y_lookset [hu : Und P t (.map kt vt)] [hk : Und P kt .string] [hi : Inf P vt (.bool false) 1 1] (hm : MSet w m ks) (hx : evl σ x = .map (some m)) (hy : evl σ y = str s) :
    Y P σ ⟨d, .lookup t x y false, ty, pos, af, g⟩ w (.bool (decide (s ∈ ks))) w := by
  have := y_lookup (P := P) (d := d) (ty := ty) (pos := pos) (af := af) (g := g) (t := t) hx hy hm
  rwa [lookup_set] at this
theorem run_mapnew [hu : Und P t (.map kt vt)] [hk : Und P kt .string] {v : Value} (hm : MMap w m kv) (hn : kv.lookup s = none) :
    ∃ w', (Instr.mapUpdate t (.map (some m)) (str s) v).run P w = .ok () w' ∧ MMap w' m (kv ++ [(s, v)]) ∧ Le [m] w w' := by
  obtain ⟨es, cl, h1, h2⟩ := hm
  obtain ⟨r, hr, hr2⟩ := find_kv (s := s) es.toList kv 0 h2
  obtain rfl : r = none := by rw [hn] at hr2; simpa using hr2
  have hc := MapKept.run_checkKey (P := P) (w := w) (k := str s) hk.ok (by simp [MapKept.IsKey]) false 9999
  have hf := MapKept.run_findKey (P := P) (w := w) (kt := kt) hk.ok hr
  have hs := MapKept.heap_set (o' := .map (es.push ⟨str s, v, cl⟩) (cl + 1)) h1
  refine ⟨{ w with heap := w.heap.setIfInBounds m (.map (es.push ⟨str s, v, cl⟩) (cl + 1)) }, ?_, ⟨_, _, hs.1, by simp [h2]⟩, ⟨rfl, rfl, rfl, by simp, fun k _ hkm => hs.2 k (by simpa using hkm)⟩⟩
  simp only [Instr.mapUpdate, Sem.run_bind, underlying, run_program, Result.andThen_ok, hu.ok, Sem.run_pure, MapKept.run_getObj_map h1, hc, hf, MapKept.run_setObj_map _ h1]
end
section
variable {P : Program} {n : Nat} {ds : Ctx} {ops : Array Oper} {Q : Exit → Ctx → Env → World → Prop} {rest : List Oper} {σ : GE} {w : World} {v : Value} {d : Nat} {ty t kt vt : TypeId} {pos : String} {af : Array Edge} {x y z : Operand} {m j dj : Nat} {b c want : Bool} {ks : List (List UInt8)} {s : List UInt8}
theorem wlmap (h : ∀ m w', w.heap.size ≤ m → MSet w' m [] → Frm w w' → WL P n ds ops Q rest (real (updG σ d ⟨.map (some m), true⟩)) w') :
    WL P n ds ops Q (⟨some d, .makeMap t none, ty, pos, af, none⟩ :: rest) (real σ) w := by
  refine wl (h w.heap.size (w.alloc (.map #[] 0)) (Nat.le_refl _) ⟨#[], 0, heap_alloc_new w _, rfl⟩ (frm_alloc _ _)) ?_
  refine Y.val ?_
  simp [execOp, Instr.makeMap, newObj]
  rfl
theorem wl_mset [hu : Und P t (.map kt vt)] [hk : Und P kt .string] [hi : Inf P vt (.bool false) 1 1] (hm : MSet w m ks) (h : WL P n ds ops Q rest (real (updG σ d ⟨.bool (decide (s ∈ ks)), true⟩)) w)
    (hx : evl (real σ) x = .map (some m) := by rfl) (hy : evl (real σ) y = str s := by rfl) :
    WL P n ds ops Q (⟨some d, .lookup t x y false, ty, pos, af, none⟩ :: rest) (real σ) w := wl h (y_lookset hm hx hy)
theorem wlg_mset [hu : Und P t (.map kt vt)] [hk : Und P kt .string] [hi : Inf P vt (.bool false) 1 1] (hm : MSet w m ks) (h : WL P n ds ops Q rest (real (updG σ d ⟨.bool (decide (s ∈ ks)), b && (c == want)⟩)) w)
    (hj : (ops[j]?).bind (·.dst) = some dj := by rfl) (hσ : σ dj = ⟨.bool c, b⟩ := by rfl)
    (hx : (b && (c == want)) = true → evl (real σ) x = .map (some m) := by
      intro hgd
      exact evG hgd)
    (hy : (b && (c == want)) = true → evl (real σ) y = str s := by
      intro hgd
      exact evG hgd) :
    WL P n ds ops Q (⟨some d, .lookup t x y false, ty, pos, af, some (j, want)⟩ :: rest) (real σ) w := wlg h hj hσ fun hg => y_lookset hm (hx hg) (hy hg)
theorem lookup_none {ks : List (List UInt8)} (h : s ∉ ks) : (ks.map fun k => (k, Value.bool true)).lookup s = none := by
  induction ks with
  | nil => rfl
  | cons k ks ih =>
    simp only [List.mem_cons, not_or] at h
    have : (s == k) = false := by simpa using h.1
    simp only [List.map_cons, List.lookup, this, ih h.2]
theorem wlmadd [hu : Und P t (.map kt vt)] [hk : Und P kt .string] (hm : MSet w m ks) (hn : s ∉ ks) (h : ∀ w', MSet w' m (ks ++ [s]) → Le [m] w w' → WL P n ds ops Q rest (real σ) w')
    (hx : evl (real σ) x = .map (some m) := by rfl) (hy : evl (real σ) y = str s := by rfl) (hz : evl (real σ) z = .bool true := by rfl) :
    WL P n ds ops Q (⟨none, .mapUpdate t x y z, ty, pos, af, none⟩ :: rest) (real σ) w := by
  obtain ⟨w', h1, h2, h3⟩ := run_mapnew (P := P) (t := t) (v := .bool true) hm (lookup_none hn)
  refine wl0 (h w' (by simpa [MSet] using h2) h3) (Y.skip ?_)
  simp only [execOp, hx, hy, hz]
  rw [Sem.run_bind, h1]
  rfl
end
end Go.Sv
