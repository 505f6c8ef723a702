/-
  Slices written out, of two to four values of one cell each.
-/
import Derived.Test.YtffaoehhhdcjjaaSvBld
set_option linter.unusedSimpArgs false
set_option linter.unusedVariables false
set_option linter.unnecessarySimpa false
namespace Go.Sv
open Go Go.RowKit
section
variable {P : Program} {n : Nat} {ds : Ctx} {ops : Array Oper} {Q : Exit → Ctx → Env → World → Prop} {rest : List Oper} {σ : GE} {w : World} {d : Nat} {ty t e : TypeId} {pos : String} {af : Array Edge} {x1 x2 x3 x4 : Operand} {v1 v2 v3 v4 zv : Value} {bytes : Nat}
theorem run_bs2 [hu : Und P t (.slice e)] [hi : Inf P e zv 1 bytes] (hz : zv.cells.size = 1) (h1 : v1.cells = #[v1]) (h2 : v2.cells = #[v2]) (w : World) :
    (Instr.buildSlice t 2 #[(0, v1), (1, v2)]).run P w = .ok (.slice (some ⟨w.heap.size, 0, none⟩) 2 2) (w.alloc (.cells #[v1, v2] e)) := by
  have hf : Instr.fill (fun i => some (i * 1, 1)) ((Array.range (2 * 1)).map (zv.cells[· % zv.cells.size]!)) [(0, v1), (1, v2)] = some #[v1, v2] := by
    simp [Instr.fill, h1, h2, Array.range, Array.ofFn_succ, Array.zipIdx]
  simp only [Instr.buildSlice, Sem.run_bind, underlying, run_program, Result.andThen_ok, hu.ok, Sem.run_pure, run_sizeOf (P := P) (t := e), Nat.mul_one]
  rw [if_neg (by decide), if_neg (by decide)]
  simp only [Sem.run_bind, Sem.run_pure, Result.andThen_ok, run_zeroValue (P := P) (t := e)]
  simp only [Nat.mul_one] at hf
  rw [hf]
  simp [newRow]
theorem run_bs3 [hu : Und P t (.slice e)] [hi : Inf P e zv 1 bytes] (hz : zv.cells.size = 1) (h1 : v1.cells = #[v1]) (h2 : v2.cells = #[v2]) (h3 : v3.cells = #[v3]) (w : World) :
    (Instr.buildSlice t 3 #[(0, v1), (1, v2), (2, v3)]).run P w = .ok (.slice (some ⟨w.heap.size, 0, none⟩) 3 3) (w.alloc (.cells #[v1, v2, v3] e)) := by
  have hf : Instr.fill (fun i => some (i * 1, 1)) ((Array.range (3 * 1)).map (zv.cells[· % zv.cells.size]!)) [(0, v1), (1, v2), (2, v3)] = some #[v1, v2, v3] := by
    simp [Instr.fill, h1, h2, h3, Array.range, Array.ofFn_succ, Array.zipIdx]
  simp only [Instr.buildSlice, Sem.run_bind, underlying, run_program, Result.andThen_ok, hu.ok, Sem.run_pure, run_sizeOf (P := P) (t := e), Nat.mul_one]
  rw [if_neg (by decide), if_neg (by decide)]
  simp only [Sem.run_bind, Sem.run_pure, Result.andThen_ok, run_zeroValue (P := P) (t := e)]
  simp only [Nat.mul_one] at hf
  rw [hf]
  simp [newRow]
theorem run_bs4 [hu : Und P t (.slice e)] [hi : Inf P e zv 1 bytes] (hz : zv.cells.size = 1) (h1 : v1.cells = #[v1]) (h2 : v2.cells = #[v2]) (h3 : v3.cells = #[v3]) (h4 : v4.cells = #[v4]) (w : World) :
    (Instr.buildSlice t 4 #[(0, v1), (1, v2), (2, v3), (3, v4)]).run P w = .ok (.slice (some ⟨w.heap.size, 0, none⟩) 4 4) (w.alloc (.cells #[v1, v2, v3, v4] e)) := by
  have hf : Instr.fill (fun i => some (i * 1, 1)) ((Array.range (4 * 1)).map (zv.cells[· % zv.cells.size]!)) [(0, v1), (1, v2), (2, v3), (3, v4)] = some #[v1, v2, v3, v4] := by
    simp [Instr.fill, h1, h2, h3, h4, Array.range, Array.ofFn_succ, Array.zipIdx]
  simp only [Instr.buildSlice, Sem.run_bind, underlying, run_program, Result.andThen_ok, hu.ok, Sem.run_pure, run_sizeOf (P := P) (t := e), Nat.mul_one]
  rw [if_neg (by decide), if_neg (by decide)]
  simp only [Sem.run_bind, Sem.run_pure, Result.andThen_ok, run_zeroValue (P := P) (t := e)]
  simp only [Nat.mul_one] at hf
  rw [hf]
  simp [newRow]
theorem wlbs2 [hu : Und P t (.slice e)] [hi : Inf P e zv 1 bytes] (h : ∀ b w', w.heap.size ≤ b → Own w' b [v1, v2] → Frm w w' → WL P n ds ops Q rest (real (updG σ d ⟨.slice (pb b) 2 2, true⟩)) w')
    (hx1 : evl (real σ) x1 = v1 := by rfl) (hx2 : evl (real σ) x2 = v2 := by rfl) (h1 : v1.cells = #[v1] := by rfl) (h2 : v2.cells = #[v2] := by rfl) (hz : zv.cells.size = 1 := by rfl) :
    WL P n ds ops Q (⟨some d, .buildSlice t 2 #[(0, x1), (1, x2)], ty, pos, af, none⟩ :: rest) (real σ) w := by
  refine wl (h w.heap.size (w.alloc (.cells #[v1, v2] e)) (Nat.le_refl _) (own_alloc _ _ _) (frm_alloc _ _)) (Y.val ?_)
  simp only [execOp, List.map_toArray, List.map_cons, List.map_nil, hx1, hx2, Sem.run_bind]
  rw [run_bs2 (P := P) (t := t) (e := e) hz h1 h2]
  rfl
theorem wlbs3 [hu : Und P t (.slice e)] [hi : Inf P e zv 1 bytes] (h : ∀ b w', w.heap.size ≤ b → Own w' b [v1, v2, v3] → Frm w w' → WL P n ds ops Q rest (real (updG σ d ⟨.slice (pb b) 3 3, true⟩)) w')
    (hx1 : evl (real σ) x1 = v1 := by rfl) (hx2 : evl (real σ) x2 = v2 := by rfl) (hx3 : evl (real σ) x3 = v3 := by rfl) (h1 : v1.cells = #[v1] := by rfl) (h2 : v2.cells = #[v2] := by rfl) (h3 : v3.cells = #[v3] := by rfl) (hz : zv.cells.size = 1 := by rfl) :
    WL P n ds ops Q (⟨some d, .buildSlice t 3 #[(0, x1), (1, x2), (2, x3)], ty, pos, af, none⟩ :: rest) (real σ) w := by
  refine wl (h w.heap.size (w.alloc (.cells #[v1, v2, v3] e)) (Nat.le_refl _) (own_alloc _ _ _) (frm_alloc _ _)) (Y.val ?_)
  simp only [execOp, List.map_toArray, List.map_cons, List.map_nil, hx1, hx2, hx3, Sem.run_bind]
  rw [run_bs3 (P := P) (t := t) (e := e) hz h1 h2 h3]
  rfl
theorem wlbs4 [hu : Und P t (.slice e)] [hi : Inf P e zv 1 bytes] (h : ∀ b w', w.heap.size ≤ b → Own w' b [v1, v2, v3, v4] → Frm w w' → WL P n ds ops Q rest (real (updG σ d ⟨.slice (pb b) 4 4, true⟩)) w')
    (hx1 : evl (real σ) x1 = v1 := by rfl) (hx2 : evl (real σ) x2 = v2 := by rfl) (hx3 : evl (real σ) x3 = v3 := by rfl) (hx4 : evl (real σ) x4 = v4 := by rfl) (h1 : v1.cells = #[v1] := by rfl) (h2 : v2.cells = #[v2] := by rfl) (h3 : v3.cells = #[v3] := by rfl) (h4 : v4.cells = #[v4] := by rfl) (hz : zv.cells.size = 1 := by rfl) :
    WL P n ds ops Q (⟨some d, .buildSlice t 4 #[(0, x1), (1, x2), (2, x3), (3, x4)], ty, pos, af, none⟩ :: rest) (real σ) w := by
  refine wl (h w.heap.size (w.alloc (.cells #[v1, v2, v3, v4] e)) (Nat.le_refl _) (own_alloc _ _ _) (frm_alloc _ _)) (Y.val ?_)
  simp only [execOp, List.map_toArray, List.map_cons, List.map_nil, hx1, hx2, hx3, hx4, Sem.run_bind]
  rw [run_bs4 (P := P) (t := t) (e := e) hz h1 h2 h3 h4]
  rfl
end
end Go.Sv
