/-
  Memory: segments of cells that stay, blocks of one's own, and what the operations on memory yield.
-/
import Derived.Test.YtffaoehhhdcjjaaSvStep
set_option linter.unusedSimpArgs false
set_option linter.unusedVariables false
set_option linter.unnecessarySimpa false
namespace Go.Sv
open Go Go.RowKit

/-! ## Segments -/
/-- from 'p' on lie these cells -/
def seg (w : World) (p : Addr) (l : List Value) : Prop := ∀ i, i < l.length → w.cell? (p.add i) = l[i]?
/-- segments that stay: they lie in no block of 'M', the blocks that are still written -/
def Im (M : List Nat) (w : World) (p : Option Addr) (l : List Value) : Prop :=
  l = [] ∨ ∃ a, p = some a ∧ seg w a l ∧ a.block < w.heap.size ∧ a.block ∉ M
/-- all blocks but those of 'M' are as they were -/
structure Le (M : List Nat) (w w' : World) : Prop where
  os : w'.os = w.os
  tape : w'.tape = w.tape
  output : w'.output = w.output
  size : w.heap.size ≤ w'.heap.size
  block : ∀ k, k < w.heap.size → k ∉ M → w'.heap[k]? = w.heap[k]?

theorem Le.refl (M : List Nat) (w : World) : Le M w w := ⟨rfl, rfl, rfl, Nat.le_refl _, fun _ _ _ => rfl⟩
theorem Le.trans {M : List Nat} {a b c : World} (h : Le M a b) (k : Le M b c) : Le M a c :=
  ⟨k.os.trans h.os, k.tape.trans h.tape, k.output.trans h.output, Nat.le_trans h.size k.size, fun i hi hm => (k.block i (by have := h.size; omega) hm).trans (h.block i hi hm)⟩
theorem Frm.le {M : List Nat} {w w' : World} (h : Frm w w') : Le M w w' := ⟨h.os, h.tape, h.output, h.size, fun k hk _ => h.block k hk⟩
theorem Le.frm {w w' : World} (h : Le [] w w') : Frm w w' := ⟨h.os, h.tape, h.output, h.size, fun k hk => h.block k hk (by simp)⟩
theorem Frm.of_le {M : List Nat} {w w' : World} (h : Le M w w') (hM : ∀ b ∈ M, w.heap.size ≤ b) : Frm w w' :=
  ⟨h.os, h.tape, h.output, h.size, fun k hk => h.block k hk fun hm => by have := hM k hm; omega⟩
theorem Frm.size {w w' : World} (h : Frm w w') : w.heap.size ≤ w'.heap.size := Below.size h

theorem add_block (p : Addr) (n : Nat) : (p.add n).block = p.block := by unfold Addr.add; split <;> rfl
theorem add_add (p : Addr) (m n : Nat) : (p.add m).add n = p.add (m + n) := by
  unfold Addr.add
  by_cases hm : m = 0
  · subst hm; simp
  · by_cases hn : n = 0
    · subst hn; simp
    · simp [hm, hn, Nat.add_assoc]

theorem seg.mono {w w' : World} {p : Addr} {l : List Value} (h : seg w p l) (hb : w'.heap[p.block]? = w.heap[p.block]?) : seg w' p l := fun i hi => by
  rw [← h i hi]; exact World.cell?_of_block (by rw [add_block]; exact hb)
theorem Im.le {M : List Nat} {w w' : World} {p : Option Addr} {l : List Value} (h : Im M w p l) (hl : Le M w w') : Im M w' p l := by
  rcases h with h | ⟨a, rfl, h1, h2, h3⟩
  · exact .inl h
  · exact .inr ⟨a, rfl, h1.mono (hl.block _ h2 h3), Nat.lt_of_lt_of_le h2 hl.size, h3⟩
theorem Im.frm {M : List Nat} {w w' : World} {p : Option Addr} {l : List Value} (h : Im M w p l) (hl : Frm w w') : Im M w' p l := h.le hl.le
/-- a new block is written besides -/
theorem Im.fresh {M : List Nat} {w : World} {p : Option Addr} {l : List Value} (h : Im M w p l) {b : Nat} (hb : w.heap.size ≤ b) : Im (b :: M) w p l := by
  rcases h with h | ⟨a, rfl, h1, h2, h3⟩
  · exact .inl h
  · exact .inr ⟨a, rfl, h1, h2, by simp only [List.mem_cons, not_or]; exact ⟨by omega, h3⟩⟩
theorem Im.weak {M M' : List Nat} {w : World} {p : Option Addr} {l : List Value} (h : Im M w p l) (hm : ∀ b ∈ M', b ∈ M) : Im M' w p l := by
  rcases h with h | ⟨a, rfl, h1, h2, h3⟩
  · exact .inl h
  · exact .inr ⟨a, rfl, h1, h2, fun hh => h3 (hm _ hh)⟩
theorem Im.nil (M : List Nat) (w : World) (p : Option Addr) : Im M w p [] := .inl rfl
theorem Im.some {M : List Nat} {w : World} {p : Option Addr} {l : List Value} (h : Im M w p l) (hl : 0 < l.length) : ∃ a, p = some a := by
  rcases h with h | ⟨a, rfl, _⟩
  · subst h; simp at hl
  · exact ⟨a, rfl⟩
/-- a part of a segment -/
theorem seg.drop {w : World} {p : Addr} {l : List Value} (h : seg w p l) (k : Nat) : seg w (p.add k) (l.drop k) := fun i hi => by
  rw [add_add, h (k + i) (by simp at hi; omega)]; simp
theorem seg.take {w : World} {p : Addr} {l : List Value} (h : seg w p l) (k : Nat) : seg w p (l.take k) := fun i hi => by
  have h1 : i < l.length := by simp at hi; omega
  have h2 : i < k := by simp at hi; omega
  rw [h i h1]; simp [h2]
theorem Im.drop {M : List Nat} {w : World} {p : Option Addr} {l : List Value} (h : Im M w p l) (k : Nat) : Im M w (p.map (·.add k)) (l.drop k) := by
  rcases h with h | ⟨a, rfl, h1, h2, h3⟩
  · exact .inl (by simp [h])
  · exact .inr ⟨a.add k, rfl, h1.drop k, by rw [add_block]; exact h2, by rw [add_block]; exact h3⟩
theorem Im.take {M : List Nat} {w : World} {p : Option Addr} {l : List Value} (h : Im M w p l) (k : Nat) : Im M w p (l.take k) := by
  rcases h with h | ⟨a, rfl, h1, h2, h3⟩
  · exact .inl (by simp [h])
  · exact .inr ⟨a, rfl, h1.take k, h2, h3⟩
theorem seg.append {w : World} {p : Addr} {l l' : List Value} (h : seg w p (l ++ l')) : seg w p l ∧ seg w (p.add l.length) l' :=
  ⟨by have := h.take l.length; simpa using this, by have := h.drop l.length; simpa using this⟩

/-- a place in a segment -/
abbrev ptrAt (p : Option Addr) (k : Nat) : Value := .pointer (p.map (·.add k))

/-! ## Reading -/
section
variable {P : Program} {σ : Env} {w : World} {d : Option Tmp} {ty t t' e : TypeId} {pos : String} {af : Array Edge} {g : Option (Nat × Bool)} {x y z : Operand} {p : Option Addr} {n c i size bytes : Nat} {k : IntKind} {zv : Value} {M : List Nat} {l : List Value}

theorem inf_size [h : Inf P t zv size bytes] : ∃ i, P.info? t = some i ∧ i.zero = some zv ∧ i.size = size ∧ i.bytes = bytes := by
  obtain ⟨i, hi, hz⟩ := Option.map_eq_some_iff.1 h.ok
  simp only [Prod.mk.injEq] at hz
  exact ⟨i, hi, hz.1, hz.2.1, hz.2.2⟩
theorem run_sizeOf [h : Inf P t zv size bytes] (w : World) : (sizeOf t).run P w = .ok size w := by
  obtain ⟨i, h1, _, h3, _⟩ := inf_size (P := P) (t := t)
  simp [sizeOf, typeInfo, h1, h3]
theorem run_zeroValue [h : Inf P t zv size bytes] (w : World) : (zeroValue t).run P w = .ok zv w := by
  obtain ⟨i, h1, h2, _, _⟩ := inf_size (P := P) (t := t)
  simp [zeroValue, typeInfo, h1, h2]
theorem run_isAgg {b : Bool} [h : Agg P t b] (w : World) : (isAgg t).run P w = .ok b w := by
  obtain ⟨d, h1, h2⟩ := h.ok
  simp only [isAgg, underlying, Sem.run_bind, run_program, Result.andThen_ok, h1, Sem.run_pure]
  subst h2
  cases d <;> rfl

theorem y_idx [hu : Und P t (.slice e)] [hi : Inf P e zv size bytes] (hx : evl σ x = .slice p n c) (hy : evl σ y = .int k i) (h : i < n) (hp : ∃ a, p = some a) : Y P σ ⟨d, .indexAddr t x y, ty, pos, af, g⟩ w (ptrAt p (i * size)) w := by
  obtain ⟨a, rfl⟩ := hp
  refine Y.val ?_
  simp only [execOp, hx, hy, Instr.indexAt, asIntOf, Sem.run_bind, Sem.run_pure, Result.andThen_ok, underlying, run_program, hu.ok]
  have h1 : (0:Int) ≤ i ∧ (i:Int) < n := by omega
  simp [h1, h, run_sizeOf (P := P) (t := e)]
theorem y_idx1 [hu : Und P t (.slice e)] [hi : Inf P e zv 1 bytes] (hx : evl σ x = .slice p n c) (hy : evl σ y = .int k i) (h : i < n) (hp : ∃ a, p = some a) : Y P σ ⟨d, .indexAddr t x y, ty, pos, af, g⟩ w (ptrAt p i) w := by
  have := y_idx (P := P) (σ := σ) (w := w) (d := d) (ty := ty) (pos := pos) (af := af) (g := g) (t := t) (e := e) hx hy h hp
  rwa [Nat.mul_one] at this
theorem y_idx1I {i : Int} [hu : Und P t (.slice e)] [hi : Inf P e zv 1 bytes] (hx : evl σ x = .slice p n c) (hy : evl σ y = .int k i) (h : 0 ≤ i ∧ i < n) (hp : ∃ a, p = some a) : Y P σ ⟨d, .indexAddr t x y, ty, pos, af, g⟩ w (ptrAt p i.toNat) w := by
  obtain ⟨j, rfl⟩ := Int.eq_ofNat_of_zero_le h.1
  exact y_idx1 hx hy (by omega) hp
theorem y_idxI {i : Int} [hu : Und P t (.slice e)] [hi : Inf P e zv size bytes] (hx : evl σ x = .slice p n c) (hy : evl σ y = .int k i) (h : 0 ≤ i ∧ i < n) (hp : ∃ a, p = some a) : Y P σ ⟨d, .indexAddr t x y, ty, pos, af, g⟩ w (ptrAt p (i.toNat * size)) w := by
  obtain ⟨j, rfl⟩ := Int.eq_ofNat_of_zero_le h.1
  exact y_idx hx hy (by omega) hp
theorem y_nilcheckp {j : Nat} (hx : evl σ x = ptrAt p j) (hp : ∃ a, p = some a) : Y P σ ⟨d, .nilCheck x, ty, pos, af, g⟩ w (ptrAt p j) w := by
  obtain ⟨a, rfl⟩ := hp
  exact y_nilcheck hx
theorem y_field {off ft : Nat} [hf : Fld P t i off ft] [hi : Inf P ft zv size bytes] {j : Nat} (hx : evl σ x = ptrAt p j) (hp : ∃ a, p = some a) (hs : size ≠ 0) : Y P σ ⟨d, .fieldAddr t x i, ty, pos, af, g⟩ w (ptrAt p (j + off)) w := by
  obtain ⟨a, rfl⟩ := hp
  obtain ⟨fs, f, h1, h2, h3, h4⟩ := hf.ok
  have hx' : evl σ x = .pointer (some (a.add j)) := hx
  refine Y.val ?_
  simp only [execOp, hx', Instr.fieldAt, Sem.run_bind, underlying, run_program, Result.andThen_ok, h1, Sem.run_pure, Instr.sureAddr, h2, fieldPlace, h4, run_sizeOf (P := P) (t := ft)]
  simp [hs, h3, add_add]

/-! ### segments, whosever they are -/
def Sg (w : World) (p : Option Addr) (l : List Value) : Prop := l = [] ∨ ∃ a, p = some a ∧ seg w a l
theorem Sg.frm {w' : World} (h : Sg w p l) (hl : Frm w w') (hb : ∀ a, p = some a → a.block < w.heap.size := by intro a ha; cases ha; omega) : Sg w' p l := by
  rcases h with h | ⟨a, rfl, h1⟩
  · exact .inl h
  · exact .inr ⟨a, rfl, h1.mono (hl.block _ (hb a rfl))⟩
theorem Im.sg (h : Im M w p l) : Sg w p l := by
  rcases h with h | ⟨a, rfl, h1, _⟩
  · exact .inl h
  · exact .inr ⟨a, rfl, h1⟩
theorem Sg.some (h : Sg w p l) (hl : 0 < l.length) : ∃ a, p = some a := by
  rcases h with h | ⟨a, rfl, _⟩
  · subst h; simp at hl
  · exact ⟨a, rfl⟩
theorem Sg.drop (h : Sg w p l) (j : Nat) : Sg w (p.map (·.add j)) (l.drop j) := by
  rcases h with h | ⟨a, rfl, h1⟩
  · exact .inl (by simp [h])
  · exact .inr ⟨_, rfl, h1.drop j⟩
theorem y_load [ha : Agg P t false] {v : Value} (hx : evl σ x = ptrAt p i) (hs : Sg w p l) (hv : l[i]? = some v) : Y P σ ⟨d, .load t x, ty, pos, af, g⟩ w v w := by
  have hlt : i < l.length := by
    rcases Nat.lt_or_ge i l.length with h | h
    · exact h
    · rw [List.getElem?_eq_none h] at hv; cases hv
  rcases hs with rfl | ⟨a, rfl, h1⟩
  · simp at hv
  have hx' : evl σ x = .pointer (some (a.add i)) := hx
  refine Y.val ?_
  have hc := h1 i hlt
  rw [hv] at hc
  simp [execOp, hx', Instr.loadAt, Instr.sureAddr, loadVar, run_isAgg (P := P) (t := t), hc]
theorem y_loada [ha : Agg P t true] [hi : Inf P t zv size bytes] (hx : evl σ x = ptrAt p i) (hs : Sg w p l) (hv : i + size ≤ l.length) (hp : ∃ a, p = some a) : Y P σ ⟨d, .load t x, ty, pos, af, g⟩ w (.agg ((l.drop i).take size).toArray) w := by
  obtain ⟨a, rfl⟩ := hp
  have h1 : ∀ j v, ((l.drop i).take size)[j]? = some v → w.cell? ((a.add i).add j) = some v := by
    intro j v hj
    rcases hs with rfl | ⟨b, hb, h1⟩
    · simp at hj
    · obtain rfl := Option.some.inj hb
      have hjl : j < size := by
        rcases Nat.lt_or_ge j size with h | h
        · exact h
        · rw [List.getElem?_eq_none (by simp; omega)] at hj; cases hj
      rw [add_add, h1 (i + j) (by omega)]
      rw [List.getElem?_take_of_lt hjl, List.getElem?_drop] at hj
      exact hj
  refine Y.val ?_
  have hl := run_loadCells_list (P := P) w (a.add i) _ h1
  have e : ((l.drop i).take size).length = size := by simp; omega
  rw [e] at hl
  have hx' : evl σ x = .pointer (some (a.add i)) := hx
  simp [execOp, hx', Instr.loadAt, Instr.sureAddr, loadVar, run_isAgg (P := P) (t := t), run_sizeOf (P := P) (t := t), hl]
/-- slices of slices -/
def slp (c i : Nat) (p : Option Addr) (k : Nat) : Option Addr := if c = i then p else p.map (·.add k)
theorem slp_ne {c i : Nat} (h : c ≠ i) (p : Option Addr) (k : Nat) : slp c i p k = p.map (·.add k) := if_neg h
theorem y_rslice [hu : Und P t (.slice e)] [hi : Inf P e zv size bytes] {k' : IntKind} {i' j : Nat} {y' z' : Operand} (hx : evl σ x = .slice p n c) (hy : evl σ y' = .int k i') (hz : evl σ z' = .int k' j) (h : i' ≤ j ∧ j ≤ c) :
    Y P σ ⟨d, .slice t x (some y') (some z') none, ty, pos, af, g⟩ w (.slice (slp c i' p (i' * size)) (j - i') (c - i')) w := by
  refine Y.val ?_; simp only [execOp, hx, Option.map_some, Option.map_none, hy, hz]
  have h1 : (0:Int) ≤ i' ∧ (i':Int) ≤ (j:Nat) := by omega
  have h2 : (0:Int) ≤ j ∧ (j:Int) ≤ (c : Nat) := by omega
  have h3 := h.1
  have h4 := h.2
  simp only [Instr.sliceAt, Sem.run_bind, underlying, run_program, Result.andThen_ok, hu.ok, Sem.run_pure, Instr.slice, Instr.sliceBounds, Instr.sliceBound, asIntOf, Option.isSome]
  simp [h1, h2, h3, h4, run_sizeOf (P := P) (t := e), slp]
theorem y_rslice_to [hu : Und P t (.slice e)] [hi : Inf P e zv size bytes] {k' : IntKind} {j : Nat} {z' : Operand} (hx : evl σ x = .slice p n c) (hz : evl σ z' = .int k' j) (h : j ≤ c) :
    Y P σ ⟨d, .slice t x none (some z') none, ty, pos, af, g⟩ w (.slice p j c) w := by
  refine Y.val ?_; simp only [execOp, hx, Option.map_some, Option.map_none, hz]
  have h2 : (0:Int) ≤ j ∧ (j:Int) ≤ (c : Nat) := by omega
  simp only [Instr.sliceAt, Sem.run_bind, underlying, run_program, Result.andThen_ok, hu.ok, Sem.run_pure, Instr.slice, Instr.sliceBounds, Instr.sliceBound, asIntOf, Option.isSome]
  have e1 : (p.map fun a => a.add 0) = p := by cases p <;> simp [Addr.add]
  simp [h2, h, run_sizeOf (P := P) (t := e), e1]
theorem y_rslice_from [hu : Und P t (.slice e)] [hi : Inf P e zv size bytes] {i' : Nat} {y' : Operand} (hx : evl σ x = .slice p n c) (hy : evl σ y' = .int k i') (h : i' ≤ n ∧ n ≤ c) :
    Y P σ ⟨d, .slice t x (some y') none none, ty, pos, af, g⟩ w (.slice (slp c i' p (i' * size)) (n - i') (c - i')) w := by
  refine Y.val ?_; simp only [execOp, hx, Option.map_some, Option.map_none, hy]
  have h1 : (0:Int) ≤ i' ∧ (i':Int) ≤ (n:Nat) := by omega
  have h3 := h.1
  simp only [Instr.sliceAt, Sem.run_bind, underlying, run_program, Result.andThen_ok, hu.ok, Sem.run_pure, Instr.slice, Instr.sliceBounds, Instr.sliceBound, asIntOf, Option.isSome]
  simp [h1, h3, run_sizeOf (P := P) (t := e), slp]
theorem y_rslice3 [hu : Und P t (.slice e)] [hi : Inf P e zv size bytes] {k' : IntKind} {j m : Nat} {z' m' : Operand} (hx : evl σ x = .slice p n c) (hz : evl σ z' = .int k' j) (hm : evl σ m' = .int k m) (h : j ≤ m ∧ m ≤ c) :
    Y P σ ⟨d, .slice t x none (some z') (some m'), ty, pos, af, g⟩ w (.slice p j m) w := by
  refine Y.val ?_; simp only [execOp, hx, Option.map_some, Option.map_none, hz, hm]
  have h2 : (0:Int) ≤ j ∧ (j:Int) ≤ (m : Nat) := by omega
  have h4 : (0:Int) ≤ m ∧ (m:Int) ≤ (c : Nat) := by omega
  have h5 := h.1
  have h6 := h.2
  simp only [Instr.sliceAt, Sem.run_bind, underlying, run_program, Result.andThen_ok, hu.ok, Sem.run_pure, Instr.slice, Instr.sliceBounds, Instr.sliceBound, asIntOf, Option.isSome]
  have e1 : (p.map fun a => a.add 0) = p := by cases p <;> simp [Addr.add]
  simp [h2, h4, h5, h6, run_sizeOf (P := P) (t := e), e1]
/-- the part of a segment that a slice of a slice means -/
theorem Im.part {w : World} (h : Im M w p l) {c i' size : Nat} (hl : c = i' → l.drop (i' * size) = []) : Im M w (slp c i' p (i' * size)) (l.drop (i' * size)) := by
  unfold slp
  split
  · rename_i hc; exact .inl (hl hc)
  · exact h.drop _
theorem Im.part1 {w : World} (h : Im M w p l) {c i' : Nat} (hl : c = i' → l.drop i' = []) : Im M w (slp c i' p i') (l.drop i') := by
  have := h.part (c := c) (i' := i') (size := 1) (by simpa using hl)
  simpa using this
theorem y_rslice1 [hu : Und P t (.slice e)] [hi : Inf P e zv 1 bytes] {k' : IntKind} {i' j : Nat} {y' z' : Operand} (hx : evl σ x = .slice p n c) (hy : evl σ y' = .int k i') (hz : evl σ z' = .int k' j) (h : i' ≤ j ∧ j ≤ c) :
    Y P σ ⟨d, .slice t x (some y') (some z') none, ty, pos, af, g⟩ w (.slice (slp c i' p i') (j - i') (c - i')) w := by
  have := y_rslice (P := P) (σ := σ) (w := w) (d := d) (ty := ty) (pos := pos) (af := af) (g := g) (t := t) (e := e) hx hy hz h
  rwa [Nat.mul_one] at this
theorem y_rslice_from1 [hu : Und P t (.slice e)] [hi : Inf P e zv 1 bytes] {i' : Nat} {y' : Operand} (hx : evl σ x = .slice p n c) (hy : evl σ y' = .int k i') (h : i' ≤ n ∧ n ≤ c) :
    Y P σ ⟨d, .slice t x (some y') none none, ty, pos, af, g⟩ w (.slice (slp c i' p i') (n - i') (c - i')) w := by
  have := y_rslice_from (P := P) (σ := σ) (w := w) (d := d) (ty := ty) (pos := pos) (af := af) (g := g) (t := t) (e := e) hx hy h
  rwa [Nat.mul_one] at this

/-! ## Blocks of one's own -/
def Own (w : World) (b : Nat) (l : List Value) : Prop := ∃ ty, w.heap[b]? = some (.cells l.toArray ty (0, 0))
abbrev pb (b : Nat) : Option Addr := some ⟨b, 0, none⟩
theorem Own.sg {b : Nat} (h : Own w b l) : Sg w (pb b) l := by
  obtain ⟨ty, h⟩ := h
  refine .inr ⟨_, rfl, fun i hi => ?_⟩
  have e : (⟨b, 0, none⟩ : Addr).add i = ⟨b, i, none⟩ := by unfold Addr.add; split <;> simp_all
  rw [e, cell_of_row w b i l.toArray ty (0, 0) h]; simp
theorem Own.lt {b : Nat} (h : Own w b l) : b < w.heap.size := by
  obtain ⟨ty, h⟩ := h
  exact (Array.getElem?_eq_some_iff.1 h).1
theorem Own.le {b : Nat} {w' : World} (h : Own w b l) (hl : Le M w w') (hb : b ∉ M) : Own w' b l := by
  have := h.lt
  obtain ⟨ty, h⟩ := h
  exact ⟨ty, by rw [hl.block b this hb]; exact h⟩
theorem Own.frm {b : Nat} {w' : World} (h : Own w b l) (hl : Frm w w') : Own w' b l := h.le (M := []) hl.le (by simp)
/-- a block that is written no more -/
theorem Own.im {b : Nat} (h : Own w b l) (hb : b ∉ M) : Im M w (pb b) l := by
  rcases h.sg with hh | ⟨a, ha, h1⟩
  · exact .inl hh
  · obtain rfl := Option.some.inj ha
    exact .inr ⟨_, rfl, h1, h.lt, hb⟩
theorem Le.mono {M M' : List Nat} {w w' : World} (h : Le M w w') (hm : ∀ b ∈ M, b < w.heap.size → b ∈ M') : Le M' w w' :=
  ⟨h.os, h.tape, h.output, h.size, fun k hk hkm => h.block k hk fun hh => hkm (hm k hh hk)⟩
/-- from one world to the next: M is what may have been written, M' what is still written -/
def Lm (M : List Nat) (w : World) (M' : List Nat) (w' : World) : Prop := Le M w w' ∧ ∀ b ∈ M', b < w.heap.size → b ∈ M
theorem Im.lm {M' : List Nat} {w' : World} (h : Im M w p l) (hl : Lm M w M' w') : Im M' w' p l := by
  rcases h with h | ⟨a, rfl, h1, h2, h3⟩
  · exact .inl h
  · exact .inr ⟨a, rfl, h1.mono (hl.1.block _ h2 h3), Nat.lt_of_lt_of_le h2 hl.1.size, fun hm => h3 (hl.2 _ hm h2)⟩
theorem Frm.lm {w' : World} (h : Frm w w') : Lm M w M w' := ⟨h.le, fun _ hb _ => hb⟩
theorem Lm.trans {M' M'' : List Nat} {a b c : World} (h : Lm M a M' b) (k : Lm M' b M'' c) : Lm M a M'' c :=
  ⟨⟨k.1.os.trans h.1.os, k.1.tape.trans h.1.tape, k.1.output.trans h.1.output, Nat.le_trans h.1.size k.1.size, fun i hi hm =>
    (k.1.block i (Nat.lt_of_lt_of_le hi h.1.size) fun hh => hm (h.2 i hh hi)).trans (h.1.block i hi hm)⟩, fun b hb hlt => h.2 b (k.2 b hb (Nat.lt_of_lt_of_le hlt h.1.size)) hlt⟩
theorem Lm.refl : Lm M w M w := ⟨Le.refl _ _, fun _ h _ => h⟩
/-- nothing that was there before is among what was written -/
theorem Lm.frm {M' : List Nat} {w' : World} (h : Lm M w M' w') (hM : ∀ b ∈ M, w.heap.size ≤ b) : Frm w w' := Frm.of_le h.1 hM
end

theorem own_alloc (w : World) (c : Array Value) (ty : TypeId) : Own (w.alloc (.cells c ty)) w.heap.size c.toList := ⟨ty, by rw [heap_alloc_new]⟩
theorem frm_alloc (w : World) (o : Obj) : Frm w (w.alloc o) := Below.alloc (Below.refl _ _) (Nat.le_refl _) o
theorem frm_drew (w : World) : Frm w w.drew := ⟨rfl, rfl, rfl, Nat.le_refl _, fun _ _ => rfl⟩

section
variable {P : Program} {n : Nat} {ds : Ctx} {ops : Array Oper} {Q : Exit → Ctx → Env → World → Prop} {rest : List Oper} {σ : GE} {w : World} {v : Value} {d : Nat} {ty t t' e : TypeId} {pos : String} {af : Array Edge} {x y : Operand} {zv : Value} {size bytes : Nat} {p : Option Addr} {l : List Value} {b i : Nat} {k : IntKind}

theorem wlalloc [hi : Inf P e zv size bytes] (h : ∀ b w', w.heap.size ≤ b → Own w' b zv.cells.toList → Frm w w' → WL P n ds ops Q rest (real (updG σ d ⟨ptrAt (pb b) 0, true⟩)) w') :
    WL P n ds ops Q (⟨some d, .alloc e, ty, pos, af, none⟩ :: rest) (real σ) w := by
  refine wl (h w.heap.size (w.alloc (.cells zv.cells e)) (Nat.le_refl _) (own_alloc _ _ _) (frm_alloc _ _)) ?_
  refine Y.val ?_
  simp [execOp, Instr.alloc, run_zeroValue (P := P) (t := e), newVar, newRow]
  rfl
theorem wlbox (h : ∀ b w', w.heap.size ≤ b → Own w' b v.cells.toList → Frm w w' → WL P n ds ops Q rest (real (updG σ d ⟨ptrAt (pb b) 0, true⟩)) w') (hx : evl (real σ) x = v) :
    WL P n ds ops Q (⟨some d, .box e x, ty, pos, af, none⟩ :: rest) (real σ) w := by
  refine wl (h w.heap.size (w.alloc (.cells v.cells e)) (Nat.le_refl _) (own_alloc _ _ _) (frm_alloc _ _)) ?_
  refine Y.val ?_
  simp [execOp, Instr.box, hx, newVar, newRow]
  rfl

theorem le_setRow (w : World) (b : Nat) (cs : Array Value) : Le [b] w (w.setRow b cs) := ⟨rfl, rfl, rfl, by simp, fun k _ hk => setRow_other w b k cs (by simpa using hk)⟩

theorem run_store_own [hi : Inf P t zv size bytes] (ho : Own w b l) (hv : v.cells.size = size) (hk : i + size ≤ l.length) (h1 : ∀ u ∈ v.cells.toList, u.oneCell' = true) :
    ∃ w', (Instr.storeAt t (ptrAt (pb b) i) v).run P w = .ok () w' ∧ Own w' b (l.take i ++ v.cells.toList ++ l.drop (i + size)) ∧ Le [b] w w' := by
  obtain ⟨tt, ho⟩ := ho
  have e : (⟨b, 0, none⟩ : Addr).add i = ⟨b, i, none⟩ := by unfold Addr.add; split <;> simp_all
  have hs := run_storeCells_at P b i tt v.cells.toList 0 l.toArray w ho (by simp [hv]; omega) h1
  refine ⟨w.setRow b (l.take i ++ v.cells.toList ++ l.drop (i + size)).toArray, ?_, ⟨tt, ?_⟩, le_setRow w b _⟩
  · simp only [Instr.storeAt, show ptrAt (pb b) i = .pointer (some ⟨b, i, none⟩) from by simp [e], Instr.sureAddr, Sem.run_bind, Sem.run_pure, Result.andThen_ok, storeVar, run_sizeOf (P := P) (t := t)]
    rw [if_neg (by simp [hv])]
    simpa [hv] using hs
  · rw [setRow_heap w b l.toArray _ tt (0, 0) ho]

theorem wlstore [hi : Inf P t zv size bytes] (hx : evl (real σ) x = ptrAt (pb b) i) (hy : evl (real σ) y = v) (ho : Own w b l) (hv : v.cells.size = size) (hk : i + size ≤ l.length) (h1 : ∀ u ∈ v.cells.toList, u.oneCell' = true)
    (h : ∀ w', Own w' b (l.take i ++ v.cells.toList ++ l.drop (i + size)) → Le [b] w w' → WL P n ds ops Q rest (real σ) w') :
    WL P n ds ops Q (⟨none, .store t x y, ty, pos, af, none⟩ :: rest) (real σ) w := by
  obtain ⟨w', hr, h2, h3⟩ := run_store_own (P := P) (t := t) ho hv hk h1
  refine wl0 (h w' h2 h3) (Y.skip ?_)
  simp only [execOp, hx, hy]
  rw [Sem.run_bind, hr]
  rfl
end

/-! slices with bounds that are numbers of any kind -/
section
variable {P : Program} {σ : Env} {w : World} {d : Option Tmp} {ty t t' e : TypeId} {pos : String} {af : Array Edge} {g : Option (Nat × Bool)} {x y z : Operand} {p : Option Addr} {n c size bytes : Nat} {k k' : IntKind} {zv : Value} {l : List UInt8} {a b : Int}
theorem y_ssliceI [hu : Und P t .string] (hx : evl σ x = str l) (hy : evl σ y = .int k a) (hz : evl σ z = .int k' b) (h : 0 ≤ a ∧ a ≤ b ∧ b ≤ l.length) :
    Y P σ ⟨d, .slice t x (some y) (some z) none, ty, pos, af, g⟩ w (str ((l.drop a.toNat).take (b.toNat - a.toNat))) w := by
  obtain ⟨i, rfl⟩ := Int.eq_ofNat_of_zero_le h.1
  obtain ⟨j, rfl⟩ := Int.eq_ofNat_of_zero_le (show 0 ≤ b by omega)
  exact y_sslice hx hy hz (by omega)
theorem y_sslice_toI [hu : Und P t .string] (hx : evl σ x = str l) (hz : evl σ z = .int k b) (h : 0 ≤ b ∧ b ≤ l.length) :
    Y P σ ⟨d, .slice t x none (some z) none, ty, pos, af, g⟩ w (str (l.take b.toNat)) w := by
  obtain ⟨j, rfl⟩ := Int.eq_ofNat_of_zero_le h.1
  exact y_sslice_to hx hz (by omega)
theorem y_sslice_fromI [hu : Und P t .string] (hx : evl σ x = str l) (hy : evl σ y = .int k a) (h : 0 ≤ a ∧ a ≤ l.length) :
    Y P σ ⟨d, .slice t x (some y) none none, ty, pos, af, g⟩ w (str (l.drop a.toNat)) w := by
  obtain ⟨j, rfl⟩ := Int.eq_ofNat_of_zero_le h.1
  exact y_sslice_from hx hy (by omega)
theorem y_rslice_toI [hu : Und P t (.slice e)] [hi : Inf P e zv size bytes] (hx : evl σ x = .slice p n c) (hz : evl σ z = .int k b) (h : 0 ≤ b ∧ b ≤ c) :
    Y P σ ⟨d, .slice t x none (some z) none, ty, pos, af, g⟩ w (.slice p b.toNat c) w := by
  obtain ⟨j, rfl⟩ := Int.eq_ofNat_of_zero_le h.1
  exact y_rslice_to hx hz (by omega)
theorem y_rslice_fromI [hu : Und P t (.slice e)] [hi : Inf P e zv size bytes] (hx : evl σ x = .slice p n c) (hy : evl σ y = .int k a) (h : 0 ≤ a ∧ a ≤ n ∧ n ≤ c) :
    Y P σ ⟨d, .slice t x (some y) none none, ty, pos, af, g⟩ w (.slice (slp c a.toNat p (a.toNat * size)) (n - a.toNat) (c - a.toNat)) w := by
  obtain ⟨j, rfl⟩ := Int.eq_ofNat_of_zero_le h.1
  exact y_rslice_from hx hy (by omega)
end

/-- bytes as cells -/
def bs (l : List UInt8) : List Value := l.map fun c => byt c.toNat
theorem bs_get {l : List UInt8} {i : Nat} (h : i < l.length) : (bs l)[i]? = some (byt (l[i]?.getD 0).toNat) := by simp [bs, h]
@[simp] theorem bs_length (l : List UInt8) : (bs l).length = l.length := by simp [bs]
theorem bs_drop (l : List UInt8) (i : Nat) : (bs l).drop i = bs (l.drop i) := by simp [bs, List.map_drop]
theorem bs_take (l : List UInt8) (i : Nat) : (bs l).take i = bs (l.take i) := by simp [bs, List.map_take]
end Go.Sv
