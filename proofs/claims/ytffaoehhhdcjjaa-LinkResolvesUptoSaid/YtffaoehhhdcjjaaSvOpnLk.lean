/-
  Readings of links.
-/
import Derived.Test.YtffaoehhhdcjjaaSvOpn
import Derived.Test.YtffaoehhhdcjjaaSvLkJ
set_option linter.unusedSimpArgs false
set_option linter.unusedVariables false
set_option linter.unnecessarySimpa false
namespace Go.Proofs.Ytffaoehhhdcjjaa
open Go Go.Sv Go.RowKit Go.ChangeShapes Go.WideShapes Go.Deep

theorem c_str : Try.prog.cellsOf 9 = 1 := by kernel_rfl
theorem c_bool : Try.prog.cellsOf 4 = 1 := by kernel_rfl
theorem c_link : Try.prog.cellsOf 29 = 9 := by kernel_rfl
section
variable {H : Type} {enc : TypeId × Value → H} {w : World} {base : Nat} {spare : Nat → Bool} {held : Bool}
set_option maxRecDepth 100000 in
theorem open_link {fuel : Nat} {cs : List Value} {x : DataW H × List MemPlace} (h : DataW.trod enc Try.prog w base spare held fuel 29 cs = some x) : ∃ l : Lnk, cs = l.cells ∧ l.sm (Rows.uptoBulk x.1) := by
  obtain ⟨xs, n, _, rfl, hl, hlen, hf⟩ := DataW.trod_struct Try.underlying29 h
  rw [c_link] at hl
  have f0 := hf 0 _ rfl
  have f1 := hf 1 _ rfl
  have f2 := hf 2 _ rfl
  have f3 := hf 3 _ rfl
  have f4 := hf 4 _ rfl
  have f5 := hf 5 _ rfl
  have f6 := hf 6 _ rfl
  have f7 := hf 7 _ rfl
  have f8 := hf 8 _ rfl
  clear hf h
  match cs, hl with
  | [c0, c1, c2, c3, c4, c5, c6, c7, c8], _ =>
    match xs, hlen with
    | [y0, y1, y2, y3, y4, y5, y6, y7, y8], _ =>
      simp only [c_str, c_bool, List.drop_zero, List.drop_succ_cons, List.take_succ_cons, List.take_zero, List.getElem?_cons_zero, List.getElem?_cons_succ] at f0 f1 f2 f3 f4 f5 f6 f7 f8
      obtain ⟨l0, e0, b0⟩ := open_strc Try.underlying9 f0
      obtain ⟨l1, e1, b1⟩ := open_strc Try.underlying9 f1
      obtain ⟨l2, e2, b2⟩ := open_strc Try.underlying9 f2
      obtain ⟨l3, e3, b3⟩ := open_strc Try.underlying9 f3
      obtain ⟨l4, e4, b4⟩ := open_strc Try.underlying9 f4
      obtain ⟨l5, e5, b5⟩ := open_boolc Try.underlying4 f5
      obtain ⟨l6, e6, b6⟩ := open_boolc Try.underlying4 f6
      obtain ⟨l7, e7, b7⟩ := open_boolc Try.underlying4 f7
      obtain ⟨l8, e8, b8⟩ := open_boolc Try.underlying4 f8
      injection e0 with e0; injection e1 with e1; injection e2 with e2; injection e3 with e3; injection e4 with e4; injection e5 with e5; injection e6 with e6; injection e7 with e7; injection e8 with e8
      subst e0 e1 e2 e3 e4 e5 e6 e7 e8
      refine ⟨⟨l0, l1, l2, l3, l4, l5, l6, l7, l8⟩, rfl, ?_⟩
      rw [bulk_agg]
      simp only [List.map_cons, List.map_nil, List.sum_cons, List.sum_nil, b0, b1, b2, b3, b4, b5, b6, b7, b8]
      unfold Lnk.sm
      dsimp only
      omega
set_option maxRecDepth 100000 in
theorem open_link1 {v : Value} {d : DataW H} {ps : List MemPlace} {r : Reach} {b0 : Nat} (hv : Value.okWide Try.prog w r b0 29 v) (h : DataW.Trod enc Try.prog w base spare held 29 v d ps) :
    ∃ l : Lnk, v = l.v ∧ l.sm (Rows.uptoBulk d) := by
  obtain ⟨cs, rfl, _⟩ := okWide_struct Try.underlying29 hv
  obtain ⟨fuel, hf⟩ := h
  obtain ⟨l, e, hw⟩ := open_link hf
  refine ⟨l, ?_, hw⟩
  have e' : cs.toList = l.cells := by simpa [Value.cells] using e
  rw [Lnk.v, ← e']
end
end Go.Proofs.Ytffaoehhhdcjjaa
