/-
  Readings of attributes and tokens: what lies in memory.
-/
import Derived.Test.YtfomfplddncakaaSvOpen
import Derived.Test.YtfomfplddncakaaSvTokH
namespace Go.Proofs.Ytfomfplddncakaa
open Go Go.Sv Go.RowKit Go.ChangeShapes Go.WideShapes Go.Deep

theorem c_str : Try.prog.cellsOf 9 = 1 := by kernel_rfl
theorem c_bool : Try.prog.cellsOf 4 = 1 := by kernel_rfl
theorem c_int : Try.prog.cellsOf 3 = 1 := by kernel_rfl
theorem c_kind : Try.prog.cellsOf 24 = 1 := by kernel_rfl
theorem c_place : Try.prog.cellsOf 27 = 3 := by kernel_rfl
theorem c_attrs : Try.prog.cellsOf 25 = 1 := by kernel_rfl
theorem c_attr : Try.prog.cellsOf 42 = 2 := by kernel_rfl
theorem c_tok : Try.prog.cellsOf 29 = 8 := by kernel_rfl
section
variable {H : Type} {enc : TypeId × Value → H} {w : World} {base : Nat} {spare : Nat → Bool} {held : Bool}
set_option maxRecDepth 100000 in
theorem open_at {fuel : Nat} {cs : List Value} {x : DataW H × List MemPlace} (h : DataW.trod enc Try.prog w base spare held fuel 42 cs = some x) : ∃ r : At, cs = r.cells ∧ True ∧ r.wt ≤ Rows.uptoBulk x.1 := by
  obtain ⟨xs, n, _, rfl, hl, hlen, hf⟩ := DataW.trod_struct Try.underlying42 h
  rw [c_attr] at hl
  have f0 := hf 0 _ rfl
  have f1 := hf 1 _ rfl
  clear hf h
  match cs, hl with
  | [c0, c1], _ =>
    match xs, hlen with
    | [y0, y1], _ =>
      simp only [c_str, List.drop_zero, List.drop_succ_cons, List.take_succ_cons, List.take_zero, List.getElem?_cons_zero, List.getElem?_cons_succ] at f0 f1
      obtain ⟨l0, e0, b0⟩ := open_strc Try.underlying9 f0
      obtain ⟨l1, e1, b1⟩ := open_strc Try.underlying9 f1
      injection e0 with e0
      injection e1 with e1
      subst e0 e1
      refine ⟨⟨l0, l1⟩, rfl, trivial, ?_⟩
      rw [bulk_agg]
      simp only [List.map_cons, List.map_nil, List.sum_cons, List.sum_nil, b0, b1, At.wt]
      omega
set_option maxRecDepth 100000 in
theorem open_tok {fuel : Nat} {cs : List Value} {x : DataW H × List MemPlace} (h : DataW.trod enc Try.prog w base spare held fuel 29 cs = some x) : ∃ r : TokM, cs = r.cells ∧ Im [] w r.p (r.t.attrs.flatMap At.cells) ∧ r.t.wt ≤ Rows.uptoBulk x.1 := by
  obtain ⟨xs, n, _, rfl, hl, hlen, hf⟩ := DataW.trod_struct Try.underlying29 h
  rw [c_tok] at hl
  have f0 := hf 0 _ rfl
  have f1 := hf 1 _ rfl
  have f2 := hf 2 _ rfl
  have f3 := hf 3 _ rfl
  have f4 := hf 4 _ rfl
  have f5 := hf 5 _ rfl
  clear hf h
  match cs, hl with
  | [c0, c1, c2, c3, c4, c5, c6, c7], _ =>
    match xs, hlen with
    | [y0, y1, y2, y3, y4, y5], _ =>
      simp only [c_str, c_bool, c_kind, c_place, c_attrs, List.drop_zero, List.drop_succ_cons, List.take_succ_cons, List.take_zero, List.getElem?_cons_zero, List.getElem?_cons_succ] at f0 f1 f2 f3 f4 f5
      obtain ⟨k, e0, _, _, b0⟩ := open_intc Try.underlying24 f0
      obtain ⟨l1, e1, b1⟩ := open_strc Try.underlying9 f1
      obtain ⟨l2, e2, b2⟩ := open_strc Try.underlying9 f2
      obtain ⟨p, c, es, e3, _, _, him, _, b3⟩ := open_recs At.cells At.wt (fun _ => True) Try.underlying25 f3 (fun k cs' y _ hy => open_at hy)
      obtain ⟨b, e4, b4⟩ := open_boolc Try.underlying4 f4
      obtain ⟨zs, m, _, rfl, _, hzl, hz⟩ := DataW.trod_struct Try.underlying27 f5
      have g0 := hz 0 _ rfl
      have g1 := hz 1 _ rfl
      have g2 := hz 2 _ rfl
      clear hz
      match zs, hzl with
      | [z0, z1, z2], _ =>
        simp only [c_int, List.drop_zero, List.drop_succ_cons, List.take_succ_cons, List.take_zero, List.getElem?_cons_zero, List.getElem?_cons_succ] at g0 g1 g2
        obtain ⟨n0, e5, _, _, b5⟩ := open_intc Try.underlying3 g0
        obtain ⟨n1, e6, _, _, b6⟩ := open_intc Try.underlying3 g1
        obtain ⟨n2, e7, _, _, b7⟩ := open_intc Try.underlying3 g2
        injection e0 with e0; injection e1 with e1; injection e2 with e2; injection e3 with e3; injection e4 with e4; injection e5 with e5; injection e6 with e6; injection e7 with e7
        subst e0 e1 e2 e3 e4 e5 e6 e7
        refine ⟨⟨⟨k, l1, l2, es, b, n0, n1, n2⟩, p, c⟩, rfl, him, ?_⟩
        simp only [bulk_agg, List.map_cons, List.map_nil, List.sum_cons, List.sum_nil, b0, b1, b2, b4, b5, b6, b7]
        unfold Tok.wt
        dsimp only at b3 ⊢
        omega
set_option maxRecDepth 100000 in
theorem open_toks {v : Value} {d : DataW H} {ps : List MemPlace} {r : Reach} {b0 : Nat} (hv : Value.okWide Try.prog w r b0 23 v) (h : DataW.Trod enc Try.prog w base spare held 23 v d ps) :
    ∃ (p : Option Addr) (c : Nat) (ms : List TokM), v = .slice p ms.length c ∧ Toks w p ms ∧ wts ms + 1 ≤ Rows.uptoBulk d := by
  obtain ⟨a, n, cc, rfl⟩ := okWide_slice Try.underlying23 hv
  obtain ⟨fuel, hf⟩ := h
  obtain ⟨p, c, ms, e, _, _, him, hQ, hw⟩ := open_recs TokM.cells (fun m => m.t.wt) (fun m => Im [] w m.p (m.t.attrs.flatMap At.cells)) Try.underlying23 hf (fun k cs' y _ hy => open_tok hy)
  have e' : Value.slice a n cc = .slice p ms.length c := by simpa [Value.cells] using e
  exact ⟨p, c, ms, e', ⟨him, hQ⟩, hw⟩
set_option maxRecDepth 100000 in
theorem open_tok1 {v : Value} {d : DataW H} {ps : List MemPlace} {r : Reach} {b0 : Nat} (hv : Value.okWide Try.prog w r b0 29 v) (h : DataW.Trod enc Try.prog w base spare held 29 v d ps) :
    ∃ m : TokM, v = .agg ⟨m.cells⟩ ∧ Im [] w m.p (m.t.attrs.flatMap At.cells) ∧ m.t.wt ≤ Rows.uptoBulk d := by
  obtain ⟨cs, rfl, _⟩ := okWide_struct Try.underlying29 hv
  obtain ⟨fuel, hf⟩ := h
  obtain ⟨m, e, him, hw⟩ := open_tok hf
  refine ⟨m, ?_, him, hw⟩
  have e' : cs.toList = m.cells := by simpa [Value.cells] using e
  rw [← e']
set_option maxRecDepth 100000 in
theorem open_str1 {v : Value} {d : DataW H} {ps : List MemPlace} {r : Reach} {b0 : Nat} (hv : Value.okWide Try.prog w r b0 9 v) (h : DataW.Trod enc Try.prog w base spare held 9 v d ps) :
    ∃ l : List UInt8, v = str l ∧ l.length + 1 ≤ Rows.uptoBulk d := by
  obtain ⟨s, rfl⟩ := okWide_string Try.underlying9 hv
  obtain ⟨fuel, hf⟩ := h
  obtain ⟨l, e, hw⟩ := open_strc Try.underlying9 hf
  dsimp only at hw
  exact ⟨l, by simpa [Value.cells] using e, by omega⟩
end
end Go.Proofs.Ytfomfplddncakaa
