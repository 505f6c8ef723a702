/-
  Our texts SvOpn21, SvOpn, SvAsc, joined.
-/
import Derived.Test.YtcdogceabkpnmaaDoorMg5
import Derived.Lib.LaidTab
import Derived.Deep.DeepHandedRow
import Derived.Deep.DeepWitnessRowRef
/-
  Readings of lists of trees.
-/
set_option linter.unusedSimpArgs false
set_option linter.unusedVariables false
set_option linter.unnecessarySimpa false
namespace Go.Proofs.YtcdogceabkpnmaaDoor
open Go Go.Sv Go.RowKit Go.ChangeShapes Go.WideShapes Go.Deep
section
variable {P : Program} {H : Type} {enc : TypeId × Value → H} {w : World} {base : Nat} {spare : Nat → Bool} {held : Bool}
theorem open_recs2 {t e : TypeId} {fuel : Nat} {cs : List Value} {x : DataW H × List MemPlace} {α : Type} (cells : α → List Value) (wt : α → Nat) (Q : α → Prop) (ht : P.underlying t = some (.slice e))
    (h : DataW.trod enc P w base spare held fuel t cs = some x)
    (hrec : ∀ k cs' y, Rows.uptoBulk y.1 < Rows.uptoBulk x.1 → cs'.length = P.cellsOf e → DataW.trod enc P w base spare held k e cs' = some y → ∃ r, cs' = cells r ∧ Q r ∧ wt r ≤ Rows.uptoBulk y.1) :
    ∃ (p : Option Addr) (c : Nat) (rs : List α), cs = [.slice p rs.length c] ∧ rs.length ≤ c ∧ c ≤ maxLen ∧ Im [] w p (rs.flatMap cells) ∧ (∀ r ∈ rs, Q r) ∧ (rs.map wt).sum + 1 ≤ Rows.uptoBulk x.1 := by
  rcases open_slice ht h with ⟨rfl, rfl⟩ | ⟨a, len, cap, m, n, D, Pl, rfl, _, hl, hm, hmm, rfl, hi⟩
  · exact ⟨none, 0, [], rfl, Nat.le_refl _, Nat.zero_le _, .inl rfl, by simp, by simp [bulk_nil]⟩
  · have hlm : len ≤ m := by rw [hmm]; split <;> omega
    have key : ∀ n : Nat, n ≤ len → ∃ rs : List α, rs.length = n ∧ rs.flatMap cells = (List.range n).flatMap (fun i => (w.cells? base (a.add (i * P.cellsOf e)) (P.cellsOf e)).getD []) ∧ (∀ r ∈ rs, Q r) ∧ (rs.map wt).sum ≤ ((List.range n).map fun i => Rows.uptoBulk (D i)).sum := by
      intro n
      induction n with
      | zero => intro _; exact ⟨[], rfl, rfl, by simp, by simp⟩
      | succ n ih =>
        intro hn
        obtain ⟨rs, h1, h2, h3, h4⟩ := ih (by omega)
        obtain ⟨cs', h5, h6⟩ := hi n (by omega)
        obtain ⟨_, hcl, _⟩ := World.cells?_some h5
        have hbu : Rows.uptoBulk (D n) < Rows.uptoBulk (DataW.slice ((List.range len).map D) ((List.range (m - len)).map fun j => D (len + j))) := by
          rw [bulk_slice, List.map_map]
          have := sum_mem (Rows.uptoBulk ∘ D) (List.range len) (List.mem_range.2 (show n < len by omega))
          simp only [Function.comp] at this ⊢
          omega
        obtain ⟨r, h7, h8, h9⟩ := hrec _ _ _ hbu hcl h6
        refine ⟨rs ++ [r], by simp [h1], ?_, ?_, ?_⟩
        · rw [List.range_succ, List.flatMap_append, List.flatMap_append, h2]
          simp [h5, h7]
        · intro x hx
          rcases List.mem_append.1 hx with hx | hx
          · exact h3 x hx
          · rw [List.mem_singleton.1 hx]; exact h8
        · rw [List.range_succ, List.map_append, List.map_append, List.sum_append, List.sum_append]
          simp only [List.map_cons, List.map_nil, List.sum_cons, List.sum_nil]
          dsimp only at h9
          omega
    obtain ⟨rs, h1, h2, h3, h4⟩ := key len (Nat.le_refl _)
    refine ⟨some a, cap, rs, by rw [h1], by omega, hm, ?_, h3, ?_⟩
    · rw [h2]
      have hsr := seg_range (w := w) (a := a) (k := P.cellsOf e) (fun i => (w.cells? base (a.add (i * P.cellsOf e)) (P.cellsOf e)).getD []) len (fun i hil => by
        obtain ⟨cs', h5, _⟩ := hi i (by omega)
        obtain ⟨_, hcl, hat⟩ := World.cells?_some h5
        rw [h5]
        exact ⟨hcl, fun j hj => hat j (by simpa [hcl] using hj)⟩)
      generalize (List.range len).flatMap (fun i => (w.cells? base (a.add (i * P.cellsOf e)) (P.cellsOf e)).getD []) = L at *
      cases L with
      | nil => exact .inl rfl
      | cons v L =>
        refine .inr ⟨a, rfl, hsr.1, ?_, by simp⟩
        have := hsr.1 0 (by simp)
        have h0 : w.cell? (a.add 0) = some v := this
        have := cell_lt h0
        rwa [add_block] at this
    · rw [bulk_slice, List.map_map]
      have : ((List.range len).map (Rows.uptoBulk ∘ D)).sum = ((List.range len).map fun i => Rows.uptoBulk (D i)).sum := rfl
      omega
end
def ndw (r : NdM) : Nat := 4 + r.name.length + r.text.length + (r.attrs.map At.wt).sum + r.kids.wt
theorem wtOf (L : List NdM) : (FoM.of L).wt = (L.map ndw).sum := by
  induction L with
  | nil => rfl
  | cons m L ih => simp only [FoM.of, FoM.wt, ih, List.map_cons, List.sum_cons, ndw]
theorem ndsOf {w : World} {L : List NdM} (h : ∀ r ∈ L, Im [] w r.ap (r.attrs.flatMap At.cells) ∧ Tre w r.kp r.kids) : Nds w (FoM.of L) := by
  induction L with
  | nil => trivial
  | cons m L ih =>
    have h1 := h m List.mem_cons_self
    exact ⟨h1.1, h1.2.im, h1.2.nds, ih fun r hr => h r (List.mem_cons_of_mem _ hr)⟩
theorem lenOf (L : List NdM) : (FoM.of L).len = L.length := by rw [FoM.len, FoM.list_of]
theorem c_node : Tryd.prog.cellsOf 33 = 4 := by kernel_rfl
theorem c_nodes : Tryd.prog.cellsOf 22 = 1 := by kernel_rfl
section
variable {H : Type} {enc : TypeId × Value → H} {w : World} {base : Nat} {spare : Nat → Bool} {held : Bool}
set_option maxRecDepth 100000 in
theorem open_nd : ∀ (B fuel : Nat) (cs : List Value) (x : DataW H × List MemPlace), Rows.uptoBulk x.1 ≤ B → DataW.trod enc Tryd.prog w base spare held fuel 33 cs = some x → ∃ r : NdM, cs = r.cells ∧ (Im [] w r.ap (r.attrs.flatMap At.cells) ∧ Tre w r.kp r.kids) ∧ 4 + r.name.length + r.text.length + (r.attrs.map At.wt).sum + r.kids.wt ≤ Rows.uptoBulk x.1 := by
  intro B
  induction B with
  | zero =>
    intro fuel cs x hB h
    obtain ⟨xs, n, _, rfl, hl, hlen, hf⟩ := DataW.trod_struct Tryd.underlying33 h
    rw [bulk_agg] at hB; omega
  | succ B ih =>
    intro fuel cs x hB h
    obtain ⟨xs, n, _, rfl, hl, hlen, hf⟩ := DataW.trod_struct Tryd.underlying33 h
    rw [c_node] at hl
    have f0 := hf 0 _ rfl
    have f1 := hf 1 _ rfl
    have f2 := hf 2 _ rfl
    have f3 := hf 3 _ rfl
    clear hf h
    match cs, hl with
    | [c0, c1, c2, c3], _ =>
      match xs, hlen with
      | [y0, y1, y2, y3], _ =>
        simp only [c_str, c_nodes, c_attrs, List.drop_zero, List.drop_succ_cons, List.take_succ_cons, List.take_zero, List.getElem?_cons_zero, List.getElem?_cons_succ] at f0 f1 f2 f3
        simp only [bulk_agg, List.map_cons, List.map_nil, List.sum_cons, List.sum_nil] at hB ⊢
        obtain ⟨l0, e0, b0⟩ := open_strc Tryd.underlying9 f0
        obtain ⟨l1, e1, b1⟩ := open_strc Tryd.underlying9 f1
        obtain ⟨p, c, es, e2, _, _, him, _, b2⟩ := open_recs At.cells At.wt (fun _ => True) Tryd.underlying31 f2 (fun k cs' y _ hy => open_at hy)
        obtain ⟨kp, kc, L, e3, _, _, hkim, hkq, b3⟩ := open_recs2 NdM.cells (fun r => 4 + r.name.length + r.text.length + (r.attrs.map At.wt).sum + r.kids.wt) (fun r => Im [] w r.ap (r.attrs.flatMap At.cells) ∧ Tre w r.kp r.kids) Tryd.underlying22 f3 (fun k cs' y hbu _ hy => ih k cs' y (by omega) hy)
        injection e0 with e0; injection e1 with e1; injection e2 with e2; injection e3 with e3
        subst e0 e1 e2 e3
        refine ⟨⟨l0, l1, es, p, c, .of L, kp, kc⟩, ?_, ⟨him, ?_, ndsOf hkq⟩, ?_⟩
        · simp only [NdM.cells, lenOf]
        · dsimp only; rw [FoM.list_of]; exact hkim
        · dsimp only
          rw [wtOf]
          have hb3 : (L.map ndw).sum + 1 ≤ Rows.uptoBulk y3.1 := b3
          omega
set_option maxRecDepth 100000 in
/-- an argument []api.Node -/
theorem open_nodes {v : Value} {d : DataW H} {ps : List MemPlace} {r : Reach} {b0 : Nat} (hv : Value.okWide Tryd.prog w r b0 22 v) (h : DataW.Trod enc Tryd.prog w base spare held 22 v d ps) :
    ∃ (p : Option Addr) (c : Nat) (f : FoM), v = .slice p f.len c ∧ f.len ≤ c ∧ Tre w p f ∧ f.wt + 1 ≤ Rows.uptoBulk d := by
  obtain ⟨a, n, cc, rfl⟩ := okWide_slice Tryd.underlying22 hv
  obtain ⟨fuel, hf⟩ := h
  obtain ⟨p, c, L, e, hc, _, him, hQ, hw⟩ := open_recs2 NdM.cells ndw (fun r => Im [] w r.ap (r.attrs.flatMap At.cells) ∧ Tre w r.kp r.kids) Tryd.underlying22 hf (fun k cs' y _ _ hy => open_nd _ k cs' y (Nat.le_refl _) hy)
  have e' : Value.slice a n cc = .slice p L.length c := by simpa [Value.cells] using e
  exact ⟨p, c, .of L, by rw [e', lenOf], by rw [lenOf]; exact hc, ⟨by rw [FoM.list_of]; exact him, ndsOf hQ⟩, by rw [wtOf]; exact hw⟩
end
end Go.Proofs.YtcdogceabkpnmaaDoor

/-
  Readings of arguments of one cell: texts.
-/
set_option linter.unusedSimpArgs false
set_option linter.unusedVariables false
set_option linter.unnecessarySimpa false
namespace Go.Proofs.YtcdogceabkpnmaaDoor
open Go Go.Sv Go.RowKit Go.ChangeShapes Go.WideShapes Go.Deep
section
variable {H : Type} {enc : TypeId × Value → H} {w : World} {base : Nat} {spare : Nat → Bool} {held : Bool}
end
end Go.Proofs.YtcdogceabkpnmaaDoor

/-
  What a row's list says of the table of blanks; a world for the witness.
-/
set_option linter.unusedSimpArgs false
set_option linter.unusedVariables false
set_option linter.unnecessarySimpa false
namespace Go.Proofs.YtcdogceabkpnmaaDoor
open Go Go.Sv Go.RowKit Go.ChangeShapes Go.WideShapes Go.ChangeAt

theorem laid_at {P : Program} {W : World} {name : String} {d : DataW Unit} : ∀ {laid : List (String × DataW Unit)} {ps : List MemPlace}, DataW.LaidVars P W laid ps → (name, d) ∈ laid →
    ∃ g t cs fuel p, P.globalNamed name = some g ∧ (P.globals[g]?).map (·.type) = some t ∧ W.var? P name = some cs ∧ DataW.trod (fun _ => ()) P W 0 (fun _ => true) false fuel t cs.toList = some (d, p)
  | [], _, _, hm => by cases hm
  | x :: laid, ps, h, hm => by
    obtain ⟨g', t', cs, fuel, p, q, hg', ht', hvar, hd, hr, _⟩ := h
    rcases List.mem_cons.1 hm with rfl | hm
    · exact ⟨g', t', cs, fuel, p, hg', ht', hvar, hd⟩
    · exact laid_at hr hm
theorem gAscType : (Tryd.prog.globals[0]?).map (·.type) = some 161 := by kernel_rfl
set_option maxRecDepth 100000 in
theorem asc_of {W : World} {laid : List (String × DataW Unit)} (h : laidMet Tryd.prog laid W) (hm : ("strings.asciiSpace", Rows.laid_strings_asciiSpace) ∈ laid) : Asc W := by
  obtain ⟨ps, hL, _⟩ := h
  obtain ⟨g', t', cs, fuel, p, hg', ht', hvar, hd⟩ := laid_at hL hm
  obtain rfl := Option.some.inj (gAsc.symm.trans hg')
  obtain rfl := Option.some.inj (gAscType.symm.trans ht')
  have e : (Rows.laid_strings_asciiSpace : DataW Unit) = Lib.tabData .u8 Lib.asciiSpaceTab := by kernel_rfl
  rw [e] at hd
  unfold Asc Lib.TabIs
  rw [hvar, ← Lib.cells_of_tab Tryd.underlying161 Tryd.underlying5 (by kernel_rfl) (by kernel_rfl) hd]
/-- a world for the witness: the variables hold what their initialisers lay -/
noncomputable def ascHeap (h : Array Obj) : Array Obj :=
  (((h.modify 0 fun | .cells _ t f => .cells (Lib.asciiSpaceTab.map fun z => Value.int .u8 z).toArray t f | o => o).modify 1 fun
    | .cells _ t f => .cells #[.pointer (some ⟨h.size, 0, none⟩)] t f | o => o).push (.cells #[.slice (some ⟨h.size + 1, 0, none⟩) 7 7, .slice none 0 0, .int .i64 2] 172 (0, 0))).push
    (.cells (([9, 13, 1, 32, 133, 101, 160, 5760, 5600, 8192, 8202, 1, 8232, 8233, 1, 8239, 8287, 48, 12288, 12288, 1] : List Int).map fun z => Value.int .u16 z).toArray 175 (0, 0))
noncomputable def ascWorld (os : Os) : World := { World.holding Tryd.prog os ⟨#[], #[], []⟩ with heap := ascHeap (World.holding Tryd.prog os ⟨#[], #[], []⟩).heap }
end Go.Proofs.YtcdogceabkpnmaaDoor

