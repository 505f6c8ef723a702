/-
  Ranges over strings; an array's elements.
-/
import Derived.Test.YtffaoehhhdcjjaaSvBs
set_option linter.unusedSimpArgs false
set_option linter.unusedVariables false
set_option linter.unnecessarySimpa false
namespace Go.Sv
open Go Go.RowKit
/-- an iterator over l, at i -/
def It (w : World) (r : Nat) (l : List UInt8) (i : Nat) : Prop := w.heap[r]? = some (.stringIter ⟨l.toArray⟩ i)
section
variable {w w' : World} {r i b : Nat} {l : List UInt8} {M : List Nat} {T E : TypeId} {q : Option Addr} {s : List UInt8}
theorem It.lt (h : It w r l i) : r < w.heap.size := (Array.getElem?_eq_some_iff.1 h).1
theorem It.le (h : It w r l i) (hl : Le M w w') (hm : r ∉ M) : It w' r l i := (hl.block r h.lt hm).trans h
theorem It.frm (h : It w r l i) (hl : Frm w w') : It w' r l i := h.le (M := []) hl.le (by simp)
theorem It.bld (h : It w r l i) (hb : Bld T E w b q s) : r ∉ b :: rb q := by
  obtain ⟨pv, c, hb⟩ := hb
  have hr : w.heap[r]? = some (.stringIter ⟨l.toArray⟩ i) := h
  intro hm
  rcases List.mem_cons.1 hm with rfl | hm
  · rw [hb.cell] at hr; cases hr
  · rcases hb.row.2 with ⟨h1, _⟩ | ⟨g, cap, cur, hv, _, hg, _⟩
    · injection h1 with h1; subst h1; simp [rb] at hm
    · injection hv with h1; subst h1
      simp only [rb, List.mem_singleton] at hm
      subst hm
      rw [hg] at hr; cases hr
end
section
variable {P : Program} {n : Nat} {ds : Ctx} {ops : Array Oper} {Q : Exit → Ctx → Env → World → Prop} {rest : List Oper} {σ : GE} {w : World} {d : Nat} {ty t e : TypeId} {pos : String} {af : Array Edge} {x y : Operand} {l : List UInt8} {r i : Nat}
theorem wlallocT {zv : Value} {size bytes : Nat} [hi : Inf P e zv size bytes] (h : ∀ b w', w.heap.size ≤ b → w'.heap[b]? = some (.cells zv.cells e (0, 0)) → Frm w w' → WL P n ds ops Q rest (real (updG σ d ⟨ptrAt (pb b) 0, true⟩)) w') :
    WL P n ds ops Q (⟨some d, .alloc e, ty, pos, af, none⟩ :: rest) (real σ) w := by
  refine wl (h w.heap.size (w.alloc (.cells zv.cells e)) (Nat.le_refl _) (heap_alloc_new w _) (frm_alloc _ _)) ?_
  refine Y.val ?_
  simp [execOp, Instr.alloc, run_zeroValue (P := P) (t := e), newVar, newRow]
  rfl
theorem wlrange [hu : Und P t .string] (h : ∀ r w', w.heap.size ≤ r → It w' r l 0 → Frm w w' → WL P n ds ops Q rest (real (updG σ d ⟨.pointer (pb r), true⟩)) w') (hx : evl (real σ) x = str l := by rfl) :
    WL P n ds ops Q (⟨some d, .range t x, ty, pos, af, none⟩ :: rest) (real σ) w := by
  refine wl (h w.heap.size (w.alloc (.stringIter ⟨l.toArray⟩ 0)) (Nat.le_refl _) (heap_alloc_new w _) (frm_alloc _ _)) (Y.val ?_)
  simp only [execOp, hx, Instr.range, Sem.run_bind, underlying, run_program, Result.andThen_ok, hu.ok, Sem.run_pure]
  rfl
theorem run_getObj_it (h : It w r l i) : (getObj r).run P w = .ok (.stringIter ⟨l.toArray⟩ i) w := by
  have h : w.heap[r]? = _ := h
  simp [getObj, Sem.run, h]
theorem wlnext_yes (ht : It w r l i) (hi : i < l.length) (h : ∀ w', It w' r l (i + (Utf8.decode ⟨l.toArray⟩ i).2) → Le [r] w w' → WL P n ds ops Q rest (real (updG σ d ⟨.tuple #[.bool true, int i, i32 (Utf8.decode ⟨l.toArray⟩ i).1], true⟩)) w')
    (hx : evl (real σ) x = .pointer (pb r) := by rfl) :
    WL P n ds ops Q (⟨some d, .next x true, ty, pos, af, none⟩ :: rest) (real σ) w := by
  have hg := run_getObj_it (P := P) ht
  have ht : w.heap[r]? = _ := ht
  have hs := MapKept.heap_set (o' := .stringIter ⟨l.toArray⟩ (i + (Utf8.decode ⟨l.toArray⟩ i).2)) ht
  have hset : (setObj r (.stringIter ⟨l.toArray⟩ (i + (Utf8.decode ⟨l.toArray⟩ i).2))).run P w = .ok () { w with heap := w.heap.setIfInBounds r (.stringIter ⟨l.toArray⟩ (i + (Utf8.decode ⟨l.toArray⟩ i).2)) } := by
    simp [setObj, Sem.run, ht]
  refine wl (h { w with heap := w.heap.setIfInBounds r (.stringIter ⟨l.toArray⟩ (i + (Utf8.decode ⟨l.toArray⟩ i).2)) } hs.1 ⟨rfl, rfl, rfl, by simp, fun k _ hk => hs.2 k (by simpa using hk)⟩) (Y.val ?_)
  simp only [execOp, hx, Instr.next, Sem.run_bind, hg, Result.andThen_ok]
  rw [if_pos (by simpa [ByteArray.size] using hi)]
  simp only [Sem.run_bind, hset, Result.andThen_ok, Sem.run_pure]
  rfl
theorem wlnext_no (ht : It w r l i) (hi : l.length ≤ i) (h : WL P n ds ops Q rest (real (updG σ d ⟨.tuple #[.bool false], true⟩)) w)
    (hx : evl (real σ) x = .pointer (pb r) := by rfl) :
    WL P n ds ops Q (⟨some d, .next x true, ty, pos, af, none⟩ :: rest) (real σ) w := by
  have hg := run_getObj_it (P := P) ht
  refine wl h (Y.val ?_)
  simp only [execOp, hx, Instr.next, Sem.run_bind, hg, Result.andThen_ok]
  rw [if_neg (by simp [ByteArray.size]; omega)]
  simp only [Sem.run_bind, Result.andThen_ok, Sem.run_pure]
end
end Go.Sv
