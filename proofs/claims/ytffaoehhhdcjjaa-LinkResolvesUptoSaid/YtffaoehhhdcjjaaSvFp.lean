/-
  Arrays written out; a function's end, where its result lies in a cell.
-/
import Derived.Test.YtffaoehhhdcjjaaSvGo
set_option linter.unusedSimpArgs false
set_option linter.unusedVariables false
set_option linter.unnecessarySimpa false
namespace Go.Sv
open Go Go.RowKit
section
variable {P : Program} {σ : Env} {w : World} {d : Option Tmp} {ty t e : TypeId} {pos : String} {af : Array Edge} {g : Option (Nat × Bool)} {x y : Operand} {v1 v2 v3 v4 v5 z1 z2 z3 z4 z5 zv : Value} {x1 x2 x3 x4 x5 : Operand} {bytes bytes' n i : Nat} {k : IntKind} {v : Value} {cs : Array Value}
theorem y_build5 [hu : Und P t (.array 5 e)] [hi : Inf P e zv 1 bytes] [hj : Inf P t (.agg #[z1, z2, z3, z4, z5]) 5 bytes'] (e1 : evl σ x1 = v1) (e2 : evl σ x2 = v2) (e3 : evl σ x3 = v3) (e4 : evl σ x4 = v4) (e5 : evl σ x5 = v5)
    (h1 : v1.cells = #[v1]) (h2 : v2.cells = #[v2]) (h3 : v3.cells = #[v3]) (h4 : v4.cells = #[v4]) (h5 : v5.cells = #[v5]) :
    Y P σ ⟨d, .build t #[(0, x1), (1, x2), (2, x3), (3, x4), (4, x5)], ty, pos, af, g⟩ w (.agg #[v1, v2, v3, v4, v5]) w := by
  refine Y.val ?_
  have hf : Instr.fill (fun i => some (i * 1, 1)) #[z1, z2, z3, z4, z5] [(0, v1), (1, v2), (2, v3), (3, v4), (4, v5)] = some #[v1, v2, v3, v4, v5] := by
    simp [Instr.fill, h1, h2, h3, h4, h5, Array.zipIdx]
  simp only [execOp, List.map_toArray, List.map_cons, List.map_nil, e1, e2, e3, e4, e5, Instr.build, Sem.run_bind, run_zeroValue (P := P) (t := t), Result.andThen_ok, underlying, run_program, hu.ok, Sem.run_pure, run_sizeOf (P := P) (t := e), Value.cells]
  rw [hf]
  rfl
theorem y_aidx [hu : Und P t (.array n e)] [ha : Agg P e false] [hi : Inf P e zv 1 bytes] (hx : evl σ x = .agg cs) (hy : evl σ y = .int k i) (hn : i < n) (hc : cs[i]? = some v) : Y P σ ⟨d, .index t x y, ty, pos, af, g⟩ w v w := by
  refine Y.val ?_
  simp only [execOp, hx, hy, Instr.index, asIntOf, Sem.run_bind, Sem.run_pure, Result.andThen_ok, underlying, run_program, hu.ok]
  have h1 : (0:Int) ≤ i ∧ (i:Int) < n := by omega
  simp [h1, hn, run_sizeOf (P := P) (t := e), part, run_isAgg (P := P) (t := e), hc]
end
theorem fpc {P : Program} {n : Nat} {fn : Func} {R : Value → World → Prop} {σ : Env} {w : World} {tt : Nat} {ty : TypeId} {ex : Exit} {b : Nat} {l : List Value} {zv : Value} {bytes : Nat} {ds : Ctx} (hex : ex = .ret ∨ ex = .normal) (hr : fn.results = #[.cell tt ty]) (ht : Nat.blt tt n = true) (hp : σ tt = .pointer (pb b)) (ho : Own w b l)
    [ha : Agg P ty true] [hi : Inf P ty zv l.length bytes] (h : R (.agg l.toArray) w) (hd : ds.ds = [] := by rfl) : fpost P n fn R ex ds σ w := by
  obtain ⟨T, ho⟩ := ho
  obtain ⟨dd, hd1, hd2⟩ := ha.ok
  obtain ⟨i, hi1, hi2, hi3, hi4⟩ := inf_size (P := P) (t := ty)
  exact fp_of hex hd (results_cell_row (P := P) hr (act n ds.ds σ).tmps w b T l.toArray (0, 0) dd (by rw [act_getD ht]; exact hp) ho hd1 (by revert hd2; cases dd <;> exact id) (by rw [hi1]; simp [hi3])) h
end Go.Sv
