/-
  Our texts SvMem, SvSep0, SvStep2, SvRow, SvCall, SvGo, SvUtfA, SvUtf, SvRef01, SvRef01b, SvRef01c, SvTokA, SvTokB, joined.
-/
import Derived.Test.YtmnnffenijjpcaaDoorMg1
import Derived.Deep.AppendSrc
/-
  Memory: segments of cells that stay, blocks of one's own, and what the operations on memory yield.
-/
set_option linter.unusedSimpArgs false
set_option linter.unusedVariables false
set_option linter.unnecessarySimpa false
namespace Go.Sv
open Go Go.RowKit

/-! ## Segments -/
/-- from 'p' on lie these cells -/
def seg (w : World) (p : Addr) (l : List Value) : Prop := ∀ i, i < l.length → w.cell? (p.add i) = l[i]?
/-- segments that stay: they lie in no block of 'M', the blocks that are still written -/
def Im (M : List Nat) (w : World) (p : Option Addr) (l : List Value) : Prop :=
  l = [] ∨ ∃ a, p = some a ∧ seg w a l ∧ a.block < w.heap.size ∧ a.block ∉ M
/-- all blocks but those of 'M' are as they were -/
structure Le (M : List Nat) (w w' : World) : Prop where
  os : w'.os = w.os
  tape : w'.tape = w.tape
  output : w'.output = w.output
  size : w.heap.size ≤ w'.heap.size
  block : ∀ k, k < w.heap.size → k ∉ M → w'.heap[k]? = w.heap[k]?

theorem Le.refl (M : List Nat) (w : World) : Le M w w := ⟨rfl, rfl, rfl, Nat.le_refl _, fun _ _ _ => rfl⟩
theorem Le.trans {M : List Nat} {a b c : World} (h : Le M a b) (k : Le M b c) : Le M a c :=
  ⟨k.os.trans h.os, k.tape.trans h.tape, k.output.trans h.output, Nat.le_trans h.size k.size, fun i hi hm => (k.block i (by have := h.size; omega) hm).trans (h.block i hi hm)⟩
theorem Frm.le {M : List Nat} {w w' : World} (h : Frm w w') : Le M w w' := ⟨h.os, h.tape, h.output, h.size, fun k hk _ => h.block k hk⟩
theorem Le.frm {w w' : World} (h : Le [] w w') : Frm w w' := ⟨h.os, h.tape, h.output, h.size, fun k hk => h.block k hk (by simp)⟩
theorem Frm.of_le {M : List Nat} {w w' : World} (h : Le M w w') (hM : ∀ b ∈ M, w.heap.size ≤ b) : Frm w w' :=
  ⟨h.os, h.tape, h.output, h.size, fun k hk => h.block k hk fun hm => by have := hM k hm; omega⟩
theorem Frm.size {w w' : World} (h : Frm w w') : w.heap.size ≤ w'.heap.size := Below.size h

theorem add_block (p : Addr) (n : Nat) : (p.add n).block = p.block := by unfold Addr.add; split <;> rfl
theorem add_add (p : Addr) (m n : Nat) : (p.add m).add n = p.add (m + n) := by
  unfold Addr.add
  by_cases hm : m = 0
  · subst hm; simp
  · by_cases hn : n = 0
    · subst hn; simp
    · simp [hm, hn, Nat.add_assoc]

theorem seg.mono {w w' : World} {p : Addr} {l : List Value} (h : seg w p l) (hb : w'.heap[p.block]? = w.heap[p.block]?) : seg w' p l := fun i hi => by
  rw [← h i hi]; exact World.cell?_of_block (by rw [add_block]; exact hb)
theorem Im.le {M : List Nat} {w w' : World} {p : Option Addr} {l : List Value} (h : Im M w p l) (hl : Le M w w') : Im M w' p l := by
  rcases h with h | ⟨a, rfl, h1, h2, h3⟩
  · exact .inl h
  · exact .inr ⟨a, rfl, h1.mono (hl.block _ h2 h3), Nat.lt_of_lt_of_le h2 hl.size, h3⟩
theorem Im.frm {M : List Nat} {w w' : World} {p : Option Addr} {l : List Value} (h : Im M w p l) (hl : Frm w w') : Im M w' p l := h.le hl.le
/-- a new block is written besides -/
theorem Im.fresh {M : List Nat} {w : World} {p : Option Addr} {l : List Value} (h : Im M w p l) {b : Nat} (hb : w.heap.size ≤ b) : Im (b :: M) w p l := by
  rcases h with h | ⟨a, rfl, h1, h2, h3⟩
  · exact .inl h
  · exact .inr ⟨a, rfl, h1, h2, by simp only [List.mem_cons, not_or]; exact ⟨by omega, h3⟩⟩
theorem Im.nil (M : List Nat) (w : World) (p : Option Addr) : Im M w p [] := .inl rfl
theorem Im.some {M : List Nat} {w : World} {p : Option Addr} {l : List Value} (h : Im M w p l) (hl : 0 < l.length) : ∃ a, p = some a := by
  rcases h with h | ⟨a, rfl, _⟩
  · subst h; simp at hl
  · exact ⟨a, rfl⟩
/-- a part of a segment -/
theorem seg.drop {w : World} {p : Addr} {l : List Value} (h : seg w p l) (k : Nat) : seg w (p.add k) (l.drop k) := fun i hi => by
  rw [add_add, h (k + i) (by simp at hi; omega)]; simp
theorem seg.take {w : World} {p : Addr} {l : List Value} (h : seg w p l) (k : Nat) : seg w p (l.take k) := fun i hi => by
  have h1 : i < l.length := by simp at hi; omega
  have h2 : i < k := by simp at hi; omega
  rw [h i h1]; simp [h2]
theorem Im.drop {M : List Nat} {w : World} {p : Option Addr} {l : List Value} (h : Im M w p l) (k : Nat) : Im M w (p.map (·.add k)) (l.drop k) := by
  rcases h with h | ⟨a, rfl, h1, h2, h3⟩
  · exact .inl (by simp [h])
  · exact .inr ⟨a.add k, rfl, h1.drop k, by rw [add_block]; exact h2, by rw [add_block]; exact h3⟩
theorem Im.take {M : List Nat} {w : World} {p : Option Addr} {l : List Value} (h : Im M w p l) (k : Nat) : Im M w p (l.take k) := by
  rcases h with h | ⟨a, rfl, h1, h2, h3⟩
  · exact .inl (by simp [h])
  · exact .inr ⟨a, rfl, h1.take k, h2, h3⟩
theorem seg.append {w : World} {p : Addr} {l l' : List Value} (h : seg w p (l ++ l')) : seg w p l ∧ seg w (p.add l.length) l' :=
  ⟨by have := h.take l.length; simpa using this, by have := h.drop l.length; simpa using this⟩

/-- a place in a segment -/
abbrev ptrAt (p : Option Addr) (k : Nat) : Value := .pointer (p.map (·.add k))

/-! ## Reading -/
section
variable {P : Program} {σ : Env} {w : World} {d : Option Tmp} {ty t t' e : TypeId} {pos : String} {af : Array Edge} {g : Option (Nat × Bool)} {x y z : Operand} {p : Option Addr} {n c i size bytes : Nat} {k : IntKind} {zv : Value} {M : List Nat} {l : List Value}

theorem inf_size [h : Inf P t zv size bytes] : ∃ i, P.info? t = some i ∧ i.zero = some zv ∧ i.size = size ∧ i.bytes = bytes := by
  obtain ⟨i, hi, hz⟩ := Option.map_eq_some_iff.1 h.ok
  simp only [Prod.mk.injEq] at hz
  exact ⟨i, hi, hz.1, hz.2.1, hz.2.2⟩
theorem run_sizeOf [h : Inf P t zv size bytes] (w : World) : (sizeOf t).run P w = .ok size w := by
  obtain ⟨i, h1, _, h3, _⟩ := inf_size (P := P) (t := t)
  simp [sizeOf, typeInfo, h1, h3]
theorem run_zeroValue [h : Inf P t zv size bytes] (w : World) : (zeroValue t).run P w = .ok zv w := by
  obtain ⟨i, h1, h2, _, _⟩ := inf_size (P := P) (t := t)
  simp [zeroValue, typeInfo, h1, h2]
theorem run_isAgg {b : Bool} [h : Agg P t b] (w : World) : (isAgg t).run P w = .ok b w := by
  obtain ⟨d, h1, h2⟩ := h.ok
  simp only [isAgg, underlying, Sem.run_bind, run_program, Result.andThen_ok, h1, Sem.run_pure]
  subst h2
  cases d <;> rfl

theorem y_idx [hu : Und P t (.slice e)] [hi : Inf P e zv size bytes] (hx : evl σ x = .slice p n c) (hy : evl σ y = .int k i) (h : i < n) (hp : ∃ a, p = some a) : Y P σ ⟨d, .indexAddr t x y, ty, pos, af, g⟩ w (ptrAt p (i * size)) w := by
  obtain ⟨a, rfl⟩ := hp
  refine Y.val ?_
  simp only [execOp, hx, hy, Instr.indexAt, asIntOf, Sem.run_bind, Sem.run_pure, Result.andThen_ok, underlying, run_program, hu.ok]
  have h1 : (0:Int) ≤ i ∧ (i:Int) < n := by omega
  simp [h1, h, run_sizeOf (P := P) (t := e)]
theorem y_idx1 [hu : Und P t (.slice e)] [hi : Inf P e zv 1 bytes] (hx : evl σ x = .slice p n c) (hy : evl σ y = .int k i) (h : i < n) (hp : ∃ a, p = some a) : Y P σ ⟨d, .indexAddr t x y, ty, pos, af, g⟩ w (ptrAt p i) w := by
  have := y_idx (P := P) (σ := σ) (w := w) (d := d) (ty := ty) (pos := pos) (af := af) (g := g) (t := t) (e := e) hx hy h hp
  rwa [Nat.mul_one] at this
theorem y_idx1I {i : Int} [hu : Und P t (.slice e)] [hi : Inf P e zv 1 bytes] (hx : evl σ x = .slice p n c) (hy : evl σ y = .int k i) (h : 0 ≤ i ∧ i < n) (hp : ∃ a, p = some a) : Y P σ ⟨d, .indexAddr t x y, ty, pos, af, g⟩ w (ptrAt p i.toNat) w := by
  obtain ⟨j, rfl⟩ := Int.eq_ofNat_of_zero_le h.1
  exact y_idx1 hx hy (by omega) hp
theorem y_idxI {i : Int} [hu : Und P t (.slice e)] [hi : Inf P e zv size bytes] (hx : evl σ x = .slice p n c) (hy : evl σ y = .int k i) (h : 0 ≤ i ∧ i < n) (hp : ∃ a, p = some a) : Y P σ ⟨d, .indexAddr t x y, ty, pos, af, g⟩ w (ptrAt p (i.toNat * size)) w := by
  obtain ⟨j, rfl⟩ := Int.eq_ofNat_of_zero_le h.1
  exact y_idx hx hy (by omega) hp
theorem y_nilcheckp {j : Nat} (hx : evl σ x = ptrAt p j) (hp : ∃ a, p = some a) : Y P σ ⟨d, .nilCheck x, ty, pos, af, g⟩ w (ptrAt p j) w := by
  obtain ⟨a, rfl⟩ := hp
  exact y_nilcheck hx
theorem y_aaddr {m j : Nat} [hu : Und P t (.array m e)] [hi : Inf P e zv size bytes] (hx : evl σ x = ptrAt p j) (hy : evl σ y = .int k i) (h : i < m) (hp : ∃ a, p = some a) : Y P σ ⟨d, .indexAddr t x y, ty, pos, af, g⟩ w (ptrAt p (j + i * size)) w := by
  obtain ⟨a, rfl⟩ := hp
  have hx' : evl σ x = .pointer (some (a.add j)) := hx
  refine Y.val ?_
  simp only [execOp, hx', hy, Instr.indexAt, Instr.sureAddr, asIntOf, Sem.run_bind, Sem.run_pure, Result.andThen_ok, underlying, run_program, hu.ok]
  have h1 : (0:Int) ≤ i ∧ (i:Int) < m := by omega
  simp [h1, h, run_sizeOf (P := P) (t := e), add_add]
theorem y_aaddr1 {m j : Nat} [hu : Und P t (.array m e)] [hi : Inf P e zv 1 bytes] (hx : evl σ x = ptrAt p j) (hy : evl σ y = .int k i) (h : i < m) (hp : ∃ a, p = some a) : Y P σ ⟨d, .indexAddr t x y, ty, pos, af, g⟩ w (ptrAt p (j + i)) w := by
  have := y_aaddr (P := P) (σ := σ) (w := w) (d := d) (ty := ty) (pos := pos) (af := af) (g := g) (t := t) (e := e) hx hy h hp
  rwa [Nat.mul_one] at this
theorem y_aaddrI {m j : Nat} {i : Int} [hu : Und P t (.array m e)] [hi : Inf P e zv size bytes] (hx : evl σ x = ptrAt p j) (hy : evl σ y = .int k i) (h : 0 ≤ i ∧ i < m) (hp : ∃ a, p = some a) : Y P σ ⟨d, .indexAddr t x y, ty, pos, af, g⟩ w (ptrAt p (j + i.toNat * size)) w := by
  obtain ⟨i', rfl⟩ := Int.eq_ofNat_of_zero_le h.1
  exact y_aaddr hx hy (by omega) hp
theorem y_aaddr1I {m j : Nat} {i : Int} [hu : Und P t (.array m e)] [hi : Inf P e zv 1 bytes] (hx : evl σ x = ptrAt p j) (hy : evl σ y = .int k i) (h : 0 ≤ i ∧ i < m) (hp : ∃ a, p = some a) : Y P σ ⟨d, .indexAddr t x y, ty, pos, af, g⟩ w (ptrAt p (j + i.toNat)) w := by
  obtain ⟨i', rfl⟩ := Int.eq_ofNat_of_zero_le h.1
  exact y_aaddr1 hx hy (by omega) hp
theorem y_aidx {v : Value} {cs : Array Value} [hu : Und P t (.array n e)] [ha : Agg P e false] [hi : Inf P e zv 1 bytes] (hx : evl σ x = .agg cs) (hy : evl σ y = .int k i) (hn : i < n) (hc : cs[i]? = some v) : Y P σ ⟨d, .index t x y, ty, pos, af, g⟩ w v w := by
  refine Y.val ?_
  simp only [execOp, hx, hy, Instr.index, asIntOf, Sem.run_bind, Sem.run_pure, Result.andThen_ok, underlying, run_program, hu.ok]
  have h1 : (0:Int) ≤ i ∧ (i:Int) < n := by omega
  simp [h1, hn, run_sizeOf (P := P) (t := e), part, run_isAgg (P := P) (t := e), hc]
theorem y_aidxI {v : Value} {cs : Array Value} {i : Int} [hu : Und P t (.array n e)] [ha : Agg P e false] [hi : Inf P e zv 1 bytes] (hx : evl σ x = .agg cs) (hy : evl σ y = .int k i) (hn : 0 ≤ i ∧ i < n) (hc : cs[i.toNat]? = some v) : Y P σ ⟨d, .index t x y, ty, pos, af, g⟩ w v w := by
  obtain ⟨i', rfl⟩ := Int.eq_ofNat_of_zero_le hn.1
  exact y_aidx hx hy (by omega) hc
theorem y_field {off ft : Nat} [hf : Fld P t i off ft] [hi : Inf P ft zv size bytes] {j : Nat} (hx : evl σ x = ptrAt p j) (hp : ∃ a, p = some a) (hs : size ≠ 0) : Y P σ ⟨d, .fieldAddr t x i, ty, pos, af, g⟩ w (ptrAt p (j + off)) w := by
  obtain ⟨a, rfl⟩ := hp
  obtain ⟨fs, f, h1, h2, h3, h4⟩ := hf.ok
  have hx' : evl σ x = .pointer (some (a.add j)) := hx
  refine Y.val ?_
  simp only [execOp, hx', Instr.fieldAt, Sem.run_bind, underlying, run_program, Result.andThen_ok, h1, Sem.run_pure, Instr.sureAddr, h2, fieldPlace, h4, run_sizeOf (P := P) (t := ft)]
  simp [hs, h3, add_add]

/-! ### segments, whosever they are -/
def Sg (w : World) (p : Option Addr) (l : List Value) : Prop := l = [] ∨ ∃ a, p = some a ∧ seg w a l
theorem Sg.frm {w' : World} (h : Sg w p l) (hl : Frm w w') (hb : ∀ a, p = some a → a.block < w.heap.size := by intro a ha; cases ha; omega) : Sg w' p l := by
  rcases h with h | ⟨a, rfl, h1⟩
  · exact .inl h
  · exact .inr ⟨a, rfl, h1.mono (hl.block _ (hb a rfl))⟩
theorem Im.sg (h : Im M w p l) : Sg w p l := by
  rcases h with h | ⟨a, rfl, h1, _⟩
  · exact .inl h
  · exact .inr ⟨a, rfl, h1⟩
theorem Sg.some (h : Sg w p l) (hl : 0 < l.length) : ∃ a, p = some a := by
  rcases h with h | ⟨a, rfl, _⟩
  · subst h; simp at hl
  · exact ⟨a, rfl⟩
theorem Sg.drop (h : Sg w p l) (j : Nat) : Sg w (p.map (·.add j)) (l.drop j) := by
  rcases h with h | ⟨a, rfl, h1⟩
  · exact .inl (by simp [h])
  · exact .inr ⟨_, rfl, h1.drop j⟩
theorem y_load [ha : Agg P t false] {v : Value} (hx : evl σ x = ptrAt p i) (hs : Sg w p l) (hv : l[i]? = some v) : Y P σ ⟨d, .load t x, ty, pos, af, g⟩ w v w := by
  have hlt : i < l.length := by
    rcases Nat.lt_or_ge i l.length with h | h
    · exact h
    · rw [List.getElem?_eq_none h] at hv; cases hv
  rcases hs with rfl | ⟨a, rfl, h1⟩
  · simp at hv
  have hx' : evl σ x = .pointer (some (a.add i)) := hx
  refine Y.val ?_
  have hc := h1 i hlt
  rw [hv] at hc
  simp [execOp, hx', Instr.loadAt, Instr.sureAddr, loadVar, run_isAgg (P := P) (t := t), hc]
theorem y_loada [ha : Agg P t true] [hi : Inf P t zv size bytes] (hx : evl σ x = ptrAt p i) (hs : Sg w p l) (hv : i + size ≤ l.length) (hp : ∃ a, p = some a) : Y P σ ⟨d, .load t x, ty, pos, af, g⟩ w (.agg ((l.drop i).take size).toArray) w := by
  obtain ⟨a, rfl⟩ := hp
  have h1 : ∀ j v, ((l.drop i).take size)[j]? = some v → w.cell? ((a.add i).add j) = some v := by
    intro j v hj
    rcases hs with rfl | ⟨b, hb, h1⟩
    · simp at hj
    · obtain rfl := Option.some.inj hb
      have hjl : j < size := by
        rcases Nat.lt_or_ge j size with h | h
        · exact h
        · rw [List.getElem?_eq_none (by simp; omega)] at hj; cases hj
      rw [add_add, h1 (i + j) (by omega)]
      rw [List.getElem?_take_of_lt hjl, List.getElem?_drop] at hj
      exact hj
  refine Y.val ?_
  have hl := run_loadCells_list (P := P) w (a.add i) _ h1
  have e : ((l.drop i).take size).length = size := by simp; omega
  rw [e] at hl
  have hx' : evl σ x = .pointer (some (a.add i)) := hx
  simp [execOp, hx', Instr.loadAt, Instr.sureAddr, loadVar, run_isAgg (P := P) (t := t), run_sizeOf (P := P) (t := t), hl]
/-- slices of slices -/
def slp (c i : Nat) (p : Option Addr) (k : Nat) : Option Addr := if c = i then p else p.map (·.add k)
theorem y_rslice [hu : Und P t (.slice e)] [hi : Inf P e zv size bytes] {k' : IntKind} {i' j : Nat} {y' z' : Operand} (hx : evl σ x = .slice p n c) (hy : evl σ y' = .int k i') (hz : evl σ z' = .int k' j) (h : i' ≤ j ∧ j ≤ c) :
    Y P σ ⟨d, .slice t x (some y') (some z') none, ty, pos, af, g⟩ w (.slice (slp c i' p (i' * size)) (j - i') (c - i')) w := by
  refine Y.val ?_; simp only [execOp, hx, Option.map_some, Option.map_none, hy, hz]
  have h1 : (0:Int) ≤ i' ∧ (i':Int) ≤ (j:Nat) := by omega
  have h2 : (0:Int) ≤ j ∧ (j:Int) ≤ (c : Nat) := by omega
  have h3 := h.1
  have h4 := h.2
  simp only [Instr.sliceAt, Sem.run_bind, underlying, run_program, Result.andThen_ok, hu.ok, Sem.run_pure, Instr.slice, Instr.sliceBounds, Instr.sliceBound, asIntOf, Option.isSome]
  simp [h1, h2, h3, h4, run_sizeOf (P := P) (t := e), slp]
theorem y_rslice_to [hu : Und P t (.slice e)] [hi : Inf P e zv size bytes] {k' : IntKind} {j : Nat} {z' : Operand} (hx : evl σ x = .slice p n c) (hz : evl σ z' = .int k' j) (h : j ≤ c) :
    Y P σ ⟨d, .slice t x none (some z') none, ty, pos, af, g⟩ w (.slice p j c) w := by
  refine Y.val ?_; simp only [execOp, hx, Option.map_some, Option.map_none, hz]
  have h2 : (0:Int) ≤ j ∧ (j:Int) ≤ (c : Nat) := by omega
  simp only [Instr.sliceAt, Sem.run_bind, underlying, run_program, Result.andThen_ok, hu.ok, Sem.run_pure, Instr.slice, Instr.sliceBounds, Instr.sliceBound, asIntOf, Option.isSome]
  have e1 : (p.map fun a => a.add 0) = p := by cases p <;> simp [Addr.add]
  simp [h2, h, run_sizeOf (P := P) (t := e), e1]
theorem y_rslice_from [hu : Und P t (.slice e)] [hi : Inf P e zv size bytes] {i' : Nat} {y' : Operand} (hx : evl σ x = .slice p n c) (hy : evl σ y' = .int k i') (h : i' ≤ n ∧ n ≤ c) :
    Y P σ ⟨d, .slice t x (some y') none none, ty, pos, af, g⟩ w (.slice (slp c i' p (i' * size)) (n - i') (c - i')) w := by
  refine Y.val ?_; simp only [execOp, hx, Option.map_some, Option.map_none, hy]
  have h1 : (0:Int) ≤ i' ∧ (i':Int) ≤ (n:Nat) := by omega
  have h3 := h.1
  simp only [Instr.sliceAt, Sem.run_bind, underlying, run_program, Result.andThen_ok, hu.ok, Sem.run_pure, Instr.slice, Instr.sliceBounds, Instr.sliceBound, asIntOf, Option.isSome]
  simp [h1, h3, run_sizeOf (P := P) (t := e), slp]
theorem y_rslice3 [hu : Und P t (.slice e)] [hi : Inf P e zv size bytes] {k' : IntKind} {j m : Nat} {z' m' : Operand} (hx : evl σ x = .slice p n c) (hz : evl σ z' = .int k' j) (hm : evl σ m' = .int k m) (h : j ≤ m ∧ m ≤ c) :
    Y P σ ⟨d, .slice t x none (some z') (some m'), ty, pos, af, g⟩ w (.slice p j m) w := by
  refine Y.val ?_; simp only [execOp, hx, Option.map_some, Option.map_none, hz, hm]
  have h2 : (0:Int) ≤ j ∧ (j:Int) ≤ (m : Nat) := by omega
  have h4 : (0:Int) ≤ m ∧ (m:Int) ≤ (c : Nat) := by omega
  have h5 := h.1
  have h6 := h.2
  simp only [Instr.sliceAt, Sem.run_bind, underlying, run_program, Result.andThen_ok, hu.ok, Sem.run_pure, Instr.slice, Instr.sliceBounds, Instr.sliceBound, asIntOf, Option.isSome]
  have e1 : (p.map fun a => a.add 0) = p := by cases p <;> simp [Addr.add]
  simp [h2, h4, h5, h6, run_sizeOf (P := P) (t := e), e1]
/-- the part of a segment that a slice of a slice means -/
theorem Im.part {w : World} (h : Im M w p l) {c i' size : Nat} (hl : c = i' → l.drop (i' * size) = []) : Im M w (slp c i' p (i' * size)) (l.drop (i' * size)) := by
  unfold slp
  split
  · rename_i hc; exact .inl (hl hc)
  · exact h.drop _
theorem Im.part1 {w : World} (h : Im M w p l) {c i' : Nat} (hl : c = i' → l.drop i' = []) : Im M w (slp c i' p i') (l.drop i') := by
  have := h.part (c := c) (i' := i') (size := 1) (by simpa using hl)
  simpa using this
theorem y_rslice1 [hu : Und P t (.slice e)] [hi : Inf P e zv 1 bytes] {k' : IntKind} {i' j : Nat} {y' z' : Operand} (hx : evl σ x = .slice p n c) (hy : evl σ y' = .int k i') (hz : evl σ z' = .int k' j) (h : i' ≤ j ∧ j ≤ c) :
    Y P σ ⟨d, .slice t x (some y') (some z') none, ty, pos, af, g⟩ w (.slice (slp c i' p i') (j - i') (c - i')) w := by
  have := y_rslice (P := P) (σ := σ) (w := w) (d := d) (ty := ty) (pos := pos) (af := af) (g := g) (t := t) (e := e) hx hy hz h
  rwa [Nat.mul_one] at this
theorem y_rslice_from1 [hu : Und P t (.slice e)] [hi : Inf P e zv 1 bytes] {i' : Nat} {y' : Operand} (hx : evl σ x = .slice p n c) (hy : evl σ y' = .int k i') (h : i' ≤ n ∧ n ≤ c) :
    Y P σ ⟨d, .slice t x (some y') none none, ty, pos, af, g⟩ w (.slice (slp c i' p i') (n - i') (c - i')) w := by
  have := y_rslice_from (P := P) (σ := σ) (w := w) (d := d) (ty := ty) (pos := pos) (af := af) (g := g) (t := t) (e := e) hx hy h
  rwa [Nat.mul_one] at this

/-! ## Blocks of one's own -/
def Own (w : World) (b : Nat) (l : List Value) : Prop := ∃ ty, w.heap[b]? = some (.cells l.toArray ty (0, 0))
abbrev pb (b : Nat) : Option Addr := some ⟨b, 0, none⟩
theorem Own.sg {b : Nat} (h : Own w b l) : Sg w (pb b) l := by
  obtain ⟨ty, h⟩ := h
  refine .inr ⟨_, rfl, fun i hi => ?_⟩
  have e : (⟨b, 0, none⟩ : Addr).add i = ⟨b, i, none⟩ := by unfold Addr.add; split <;> simp_all
  rw [e, cell_of_row w b i l.toArray ty (0, 0) h]; simp
theorem Own.lt {b : Nat} (h : Own w b l) : b < w.heap.size := by
  obtain ⟨ty, h⟩ := h
  exact (Array.getElem?_eq_some_iff.1 h).1
theorem Own.le {b : Nat} {w' : World} (h : Own w b l) (hl : Le M w w') (hb : b ∉ M) : Own w' b l := by
  have := h.lt
  obtain ⟨ty, h⟩ := h
  exact ⟨ty, by rw [hl.block b this hb]; exact h⟩
theorem Own.frm {b : Nat} {w' : World} (h : Own w b l) (hl : Frm w w') : Own w' b l := h.le (M := []) hl.le (by simp)
/-- a block that is written no more -/
theorem Own.im {b : Nat} (h : Own w b l) (hb : b ∉ M) : Im M w (pb b) l := by
  rcases h.sg with hh | ⟨a, ha, h1⟩
  · exact .inl hh
  · obtain rfl := Option.some.inj ha
    exact .inr ⟨_, rfl, h1, h.lt, hb⟩
theorem Le.mono {M M' : List Nat} {w w' : World} (h : Le M w w') (hm : ∀ b ∈ M, b < w.heap.size → b ∈ M') : Le M' w w' :=
  ⟨h.os, h.tape, h.output, h.size, fun k hk hkm => h.block k hk fun hh => hkm (hm k hh hk)⟩
/-- from one world to the next: M is what may have been written, M' what is still written -/
def Lm (M : List Nat) (w : World) (M' : List Nat) (w' : World) : Prop := Le M w w' ∧ ∀ b ∈ M', b < w.heap.size → b ∈ M
theorem Lm.trans {M' M'' : List Nat} {a b c : World} (h : Lm M a M' b) (k : Lm M' b M'' c) : Lm M a M'' c :=
  ⟨⟨k.1.os.trans h.1.os, k.1.tape.trans h.1.tape, k.1.output.trans h.1.output, Nat.le_trans h.1.size k.1.size, fun i hi hm =>
    (k.1.block i (Nat.lt_of_lt_of_le hi h.1.size) fun hh => hm (h.2 i hh hi)).trans (h.1.block i hi hm)⟩, fun b hb hlt => h.2 b (k.2 b hb (Nat.lt_of_lt_of_le hlt h.1.size)) hlt⟩
theorem Lm.refl : Lm M w M w := ⟨Le.refl _ _, fun _ h _ => h⟩
/-- nothing that was there before is among what was written -/
theorem Lm.frm {M' : List Nat} {w' : World} (h : Lm M w M' w') (hM : ∀ b ∈ M, w.heap.size ≤ b) : Frm w w' := Frm.of_le h.1 hM
end

theorem own_alloc (w : World) (c : Array Value) (ty : TypeId) : Own (w.alloc (.cells c ty)) w.heap.size c.toList := ⟨ty, by rw [heap_alloc_new]⟩
theorem frm_alloc (w : World) (o : Obj) : Frm w (w.alloc o) := Below.alloc (Below.refl _ _) (Nat.le_refl _) o
section
variable {P : Program} {n : Nat} {ds : Ctx} {ops : Array Oper} {Q : Exit → Ctx → Env → World → Prop} {rest : List Oper} {σ : GE} {w : World} {v : Value} {d : Nat} {ty t t' e : TypeId} {pos : String} {af : Array Edge} {x y : Operand} {zv : Value} {size bytes : Nat} {p : Option Addr} {l : List Value} {b i : Nat} {k : IntKind}

theorem wlalloc [hi : Inf P e zv size bytes] (h : ∀ b w', w.heap.size ≤ b → Own w' b zv.cells.toList → Frm w w' → WL P n ds ops Q rest (real (updG σ d ⟨ptrAt (pb b) 0, true⟩)) w') :
    WL P n ds ops Q (⟨some d, .alloc e, ty, pos, af, none⟩ :: rest) (real σ) w := by
  refine wl (h w.heap.size (w.alloc (.cells zv.cells e)) (Nat.le_refl _) (own_alloc _ _ _) (frm_alloc _ _)) ?_
  refine Y.val ?_
  simp [execOp, Instr.alloc, run_zeroValue (P := P) (t := e), newVar, newRow]
  rfl
theorem wlbox (h : ∀ b w', w.heap.size ≤ b → Own w' b v.cells.toList → Frm w w' → WL P n ds ops Q rest (real (updG σ d ⟨ptrAt (pb b) 0, true⟩)) w') (hx : evl (real σ) x = v) :
    WL P n ds ops Q (⟨some d, .box e x, ty, pos, af, none⟩ :: rest) (real σ) w := by
  refine wl (h w.heap.size (w.alloc (.cells v.cells e)) (Nat.le_refl _) (own_alloc _ _ _) (frm_alloc _ _)) ?_
  refine Y.val ?_
  simp [execOp, Instr.box, hx, newVar, newRow]
  rfl

theorem le_setRow (w : World) (b : Nat) (cs : Array Value) : Le [b] w (w.setRow b cs) := ⟨rfl, rfl, rfl, by simp, fun k _ hk => setRow_other w b k cs (by simpa using hk)⟩

theorem run_store_own [hi : Inf P t zv size bytes] (ho : Own w b l) (hv : v.cells.size = size) (hk : i + size ≤ l.length) (h1 : ∀ u ∈ v.cells.toList, u.oneCell' = true) :
    ∃ w', (Instr.storeAt t (ptrAt (pb b) i) v).run P w = .ok () w' ∧ Own w' b (l.take i ++ v.cells.toList ++ l.drop (i + size)) ∧ Le [b] w w' := by
  obtain ⟨tt, ho⟩ := ho
  have e : (⟨b, 0, none⟩ : Addr).add i = ⟨b, i, none⟩ := by unfold Addr.add; split <;> simp_all
  have hs := run_storeCells_at P b i tt v.cells.toList 0 l.toArray w ho (by simp [hv]; omega) h1
  refine ⟨w.setRow b (l.take i ++ v.cells.toList ++ l.drop (i + size)).toArray, ?_, ⟨tt, ?_⟩, le_setRow w b _⟩
  · simp only [Instr.storeAt, show ptrAt (pb b) i = .pointer (some ⟨b, i, none⟩) from by simp [e], Instr.sureAddr, Sem.run_bind, Sem.run_pure, Result.andThen_ok, storeVar, run_sizeOf (P := P) (t := t)]
    rw [if_neg (by simp [hv])]
    simpa [hv] using hs
  · rw [setRow_heap w b l.toArray _ tt (0, 0) ho]

theorem wlstore [hi : Inf P t zv size bytes] (hx : evl (real σ) x = ptrAt (pb b) i) (hy : evl (real σ) y = v) (ho : Own w b l) (hv : v.cells.size = size) (hk : i + size ≤ l.length) (h1 : ∀ u ∈ v.cells.toList, u.oneCell' = true)
    (h : ∀ w', Own w' b (l.take i ++ v.cells.toList ++ l.drop (i + size)) → Le [b] w w' → WL P n ds ops Q rest (real σ) w') :
    WL P n ds ops Q (⟨none, .store t x y, ty, pos, af, none⟩ :: rest) (real σ) w := by
  obtain ⟨w', hr, h2, h3⟩ := run_store_own (P := P) (t := t) ho hv hk h1
  refine wl0 (h w' h2 h3) (Y.skip ?_)
  simp only [execOp, hx, hy]
  rw [Sem.run_bind, hr]
  rfl
end

/-! slices with bounds that are numbers of any kind -/
section
variable {P : Program} {σ : Env} {w : World} {d : Option Tmp} {ty t t' e : TypeId} {pos : String} {af : Array Edge} {g : Option (Nat × Bool)} {x y z : Operand} {p : Option Addr} {n c size bytes : Nat} {k k' : IntKind} {zv : Value} {l : List UInt8} {a b : Int}
theorem y_ssliceI [hu : Und P t .string] (hx : evl σ x = str l) (hy : evl σ y = .int k a) (hz : evl σ z = .int k' b) (h : 0 ≤ a ∧ a ≤ b ∧ b ≤ l.length) :
    Y P σ ⟨d, .slice t x (some y) (some z) none, ty, pos, af, g⟩ w (str ((l.drop a.toNat).take (b.toNat - a.toNat))) w := by
  obtain ⟨i, rfl⟩ := Int.eq_ofNat_of_zero_le h.1
  obtain ⟨j, rfl⟩ := Int.eq_ofNat_of_zero_le (show 0 ≤ b by omega)
  exact y_sslice hx hy hz (by omega)
theorem y_sslice_toI [hu : Und P t .string] (hx : evl σ x = str l) (hz : evl σ z = .int k b) (h : 0 ≤ b ∧ b ≤ l.length) :
    Y P σ ⟨d, .slice t x none (some z) none, ty, pos, af, g⟩ w (str (l.take b.toNat)) w := by
  obtain ⟨j, rfl⟩ := Int.eq_ofNat_of_zero_le h.1
  exact y_sslice_to hx hz (by omega)
theorem y_sslice_fromI [hu : Und P t .string] (hx : evl σ x = str l) (hy : evl σ y = .int k a) (h : 0 ≤ a ∧ a ≤ l.length) :
    Y P σ ⟨d, .slice t x (some y) none none, ty, pos, af, g⟩ w (str (l.drop a.toNat)) w := by
  obtain ⟨j, rfl⟩ := Int.eq_ofNat_of_zero_le h.1
  exact y_sslice_from hx hy (by omega)
theorem y_rslice_toI [hu : Und P t (.slice e)] [hi : Inf P e zv size bytes] (hx : evl σ x = .slice p n c) (hz : evl σ z = .int k b) (h : 0 ≤ b ∧ b ≤ c) :
    Y P σ ⟨d, .slice t x none (some z) none, ty, pos, af, g⟩ w (.slice p b.toNat c) w := by
  obtain ⟨j, rfl⟩ := Int.eq_ofNat_of_zero_le h.1
  exact y_rslice_to hx hz (by omega)
theorem y_rslice_fromI [hu : Und P t (.slice e)] [hi : Inf P e zv size bytes] (hx : evl σ x = .slice p n c) (hy : evl σ y = .int k a) (h : 0 ≤ a ∧ a ≤ n ∧ n ≤ c) :
    Y P σ ⟨d, .slice t x (some y) none none, ty, pos, af, g⟩ w (.slice (slp c a.toNat p (a.toNat * size)) (n - a.toNat) (c - a.toNat)) w := by
  obtain ⟨j, rfl⟩ := Int.eq_ofNat_of_zero_le h.1
  exact y_rslice_from hx hy (by omega)
end

/-- bytes as cells -/
def bs (l : List UInt8) : List Value := l.map fun c => byt c.toNat
theorem bs_get {l : List UInt8} {i : Nat} (h : i < l.length) : (bs l)[i]? = some (byt (l[i]?.getD 0).toNat) := by simp [bs, h]
@[simp] theorem bs_length (l : List UInt8) : (bs l).length = l.length := by simp [bs]
theorem bs_drop (l : List UInt8) (i : Nat) : (bs l).drop i = bs (l.drop i) := by simp [bs, List.map_drop]
end Go.Sv

/-
  Memory of one's own in pieces that lie apart, carried along as one fact.
-/
set_option linter.unusedSimpArgs false
set_option linter.unusedVariables false
set_option linter.unnecessarySimpa false
namespace Go.Sv
open Go Go.RowKit

/-- a piece of memory: its blocks, what lies in it, and what of it can be read -/
structure Plot where
  foot : List Nat
  ok : World → Prop
  view : Option Addr × List Value
  loc : ∀ w w', ok w → (∀ b ∈ foot, w'.heap[b]? = w.heap[b]?) → ok w'
  lt : ∀ w, ok w → ∀ b ∈ foot, b < w.heap.size
  sg : ∀ w, ok w → Sg w view.1 view.2

structure Sep (w0 w : World) (cs : List Plot) : Prop where
  frm : Frm w0 w
  ok : ∀ c ∈ cs, c.ok w
  low : ∀ c ∈ cs, ∀ x ∈ c.foot, w0.heap.size ≤ x
  apart : cs.Pairwise fun a b => ∀ x ∈ a.foot, x ∉ b.foot

theorem Frm.step0 {a b c : World} {M : List Nat} (h : Frm a b) (k : Le M b c) (hM : ∀ x ∈ M, a.heap.size ≤ x) : Frm a c :=
  ⟨k.os.trans h.os, k.tape.trans h.tape, k.output.trans h.output, Nat.le_trans h.size k.size, fun i hi => by
    rw [k.block i (Nat.lt_of_lt_of_le hi h.size) (fun hm => by have := hM i hm; omega)]; exact h.block i hi⟩
theorem pair_set {R : Plot → Plot → Prop} {c' : Plot} : ∀ {cs : List Plot} {i : Nat} {c : Plot}, cs.Pairwise R → cs[i]? = some c → (∀ x ∈ cs, R x c → R x c') → (∀ x ∈ cs, R c x → R c' x) → (cs.set i c').Pairwise R
  | [], i, c, _, h, _, _ => by simp at h
  | x :: cs, 0, c, hp, h, h1, h2 => by
    simp only [List.getElem?_cons_zero, Option.some.injEq] at h
    subst h
    rw [List.pairwise_cons] at hp
    simp only [List.set_cons_zero, List.pairwise_cons]
    exact ⟨fun y hy => h2 y (List.mem_cons_of_mem _ hy) (hp.1 y hy), hp.2⟩
  | x :: cs, i + 1, c, hp, h, h1, h2 => by
    simp only [List.getElem?_cons_succ] at h
    rw [List.pairwise_cons] at hp
    simp only [List.set_cons_succ, List.pairwise_cons]
    refine ⟨fun y hy => ?_, pair_set hp.2 h (fun z hz => h1 z (List.mem_cons_of_mem _ hz)) fun z hz => h2 z (List.mem_cons_of_mem _ hz)⟩
    rcases List.mem_or_eq_of_mem_set hy with hy | rfl
    · exact hp.1 y hy
    · exact h1 x List.mem_cons_self (hp.1 c (List.mem_of_getElem? h))
theorem mem_set_cases {c' : Plot} : ∀ {cs : List Plot} {i : Nat} {c x : Plot}, cs.Pairwise (fun a b => ∀ y ∈ a.foot, y ∉ b.foot) → cs[i]? = some c → x ∈ cs.set i c' → x = c' ∨ (x ∈ cs ∧ ∀ y ∈ x.foot, y ∉ c.foot)
  | [], i, c, x, _, h, _ => by simp at h
  | y :: cs, 0, c, x, hp, h, hx => by
    simp only [List.getElem?_cons_zero, Option.some.injEq] at h
    subst h
    rw [List.pairwise_cons] at hp
    simp only [List.set_cons_zero, List.mem_cons] at hx
    rcases hx with rfl | hx
    · exact .inl rfl
    · exact .inr ⟨List.mem_cons_of_mem _ hx, fun z hz hz' => hp.1 x hx z hz' hz⟩
  | y :: cs, i + 1, c, x, hp, h, hx => by
    simp only [List.getElem?_cons_succ] at h
    rw [List.pairwise_cons] at hp
    simp only [List.set_cons_succ, List.mem_cons] at hx
    rcases hx with rfl | hx
    · exact .inr ⟨List.mem_cons_self, hp.1 c (List.mem_of_getElem? h)⟩
    · rcases mem_set_cases hp.2 h hx with h1 | ⟨h1, h2⟩
      · exact .inl h1
      · exact .inr ⟨List.mem_cons_of_mem _ h1, h2⟩

section
variable {w0 w w' : World} {cs ds es : List Plot} {c c' a b : Plot} {M : List Nat} {i j : Nat}
theorem Sep.start (w : World) : Sep w w [] := ⟨Frm.refl w, by simp, by simp, .nil⟩
theorem Sep.lt (h : Sep w0 w cs) (hc : c ∈ cs) : ∀ x ∈ c.foot, x < w.heap.size := c.lt w (h.ok c hc)
theorem Sep.le (h : Sep w0 w cs) (hl : Le M w w') (h1 : ∀ c ∈ cs, ∀ x ∈ c.foot, x ∉ M) (h2 : ∀ x ∈ M, w0.heap.size ≤ x) : Sep w0 w' cs :=
  ⟨h.frm.step0 hl h2, fun c hc => c.loc w w' (h.ok c hc) fun x hx => hl.block x (h.lt hc x hx) (h1 c hc x hx), h.low, h.apart⟩
theorem Sep.grow (h : Sep w0 w cs) (hf : Frm w w') : Sep w0 w' cs := h.le (M := []) hf.le (by simp) (by simp)
theorem Sep.push (h : Sep w0 w cs) (hf : Frm w w') (hc : c.ok w') (hlo : ∀ x ∈ c.foot, w.heap.size ≤ x) : Sep w0 w' (c :: cs) := by
  have h' := h.grow hf
  refine ⟨h'.frm, ?_, ?_, ?_⟩
  · intro x hx
    rcases List.mem_cons.1 hx with rfl | hx
    · exact hc
    · exact h'.ok x hx
  · intro x hx
    rcases List.mem_cons.1 hx with rfl | hx
    · intro y hy; exact Nat.le_trans h.frm.size (hlo y hy)
    · exact h'.low x hx
  · rw [List.pairwise_cons]
    refine ⟨fun x hx y hy hy' => ?_, h.apart⟩
    have := h.lt hx y hy'
    have := hlo y hy
    omega
theorem Sep.upd (h : Sep w0 w cs) (i : Nat) (hi : cs[i]? = some c) (hl : Lm c.foot w c'.foot w') (hc : c'.ok w') : Sep w0 w' (cs.set i c') := by
  have hmem := List.mem_of_getElem? hi
  have hnew : ∀ x ∈ c'.foot, x ∈ c.foot ∨ w.heap.size ≤ x := fun x hx => by
    rcases Nat.lt_or_ge x w.heap.size with h1 | h1
    · exact .inl (hl.2 x hx h1)
    · exact .inr h1
  refine ⟨h.frm.step0 hl.1 (h.low c hmem), fun x hx => ?_, fun x hx => ?_, ?_⟩
  · rcases mem_set_cases h.apart hi hx with rfl | ⟨h1, h2⟩
    · exact hc
    · exact x.loc w w' (h.ok x h1) fun y hy => hl.1.block y (h.lt h1 y hy) (h2 y hy)
  · rcases mem_set_cases h.apart hi hx with rfl | ⟨h1, h2⟩
    · intro y hy
      rcases hnew y hy with h3 | h3
      · exact h.low c hmem y h3
      · exact Nat.le_trans h.frm.size h3
    · exact h.low x h1
  · refine pair_set h.apart hi (fun x hx hR y hy hy' => ?_) (fun x hx hR y hy hy' => ?_)
    · rcases hnew y hy' with h3 | h3
      · exact hR y hy h3
      · have := h.lt hx y hy; omega
    · rcases hnew y hy with h3 | h3
      · exact hR y h3 hy'
      · have := h.lt hx y hy'; omega
/-- what is known of a piece, said otherwise -/
theorem Sep.turn (h : Sep w0 w cs) (i : Nat) (hi : cs[i]? = some c) (hc : c.ok w → c'.ok w) (hf : ∀ x ∈ c'.foot, x ∈ c.foot) : Sep w0 w (cs.set i c') :=
  h.upd i hi ⟨Le.refl _ _, fun x hx _ => hf x hx⟩ (hc (h.ok c (List.mem_of_getElem? hi)))
theorem Sep.seq (h : Sep w0 w cs) (h2 : Sep w w' ds) : Sep w0 w' (ds ++ cs) := by
  have h' := h.grow h2.frm
  refine ⟨h'.frm, ?_, ?_, ?_⟩
  · intro x hx
    rcases List.mem_append.1 hx with hx | hx
    · exact h2.ok x hx
    · exact h'.ok x hx
  · intro x hx
    rcases List.mem_append.1 hx with hx | hx
    · intro y hy; exact Nat.le_trans h.frm.size (h2.low x hx y hy)
    · exact h'.low x hx
  · rw [List.pairwise_append]
    refine ⟨h2.apart, h.apart, fun x hx y hy z hz hz' => ?_⟩
    have := h.lt hy z hz'
    have := h2.low x hx z hz
    omega
theorem Sep.sub (h : Sep w0 w cs) (hs : List.Sublist ds cs) : Sep w0 w ds :=
  ⟨h.frm, fun c hc => h.ok c (hs.subset hc), fun c hc => h.low c (hs.subset hc), h.apart.sublist hs⟩
theorem Sep.empty (h : Sep w0 w cs) : Sep w0 w [] := h.sub (List.nil_sublist _)
theorem Sep.tail (h : Sep w0 w (c :: cs)) : Sep w0 w cs := h.sub (List.sublist_cons_self _ _)
theorem Sep.at (h : Sep w0 w cs) (i : Nat) (hi : cs[i]? = some c) : c.ok w := h.ok c (List.mem_of_getElem? hi)
theorem Sep.drop (h : Sep w0 w cs) (i : Nat) (hd : cs.eraseIdx i = ds := by rfl) : Sep w0 w ds := by
  subst hd
  exact h.sub (List.eraseIdx_sublist cs i)
theorem pair_front {R : Plot → Plot → Prop} (hR : ∀ a b, R a b → R b a) : ∀ {cs : List Plot} {i : Nat} {c : Plot}, cs.Pairwise R → cs[i]? = some c → ∀ x ∈ cs.eraseIdx i, R c x
  | [], i, c, _, h, _, _ => by simp at h
  | y :: cs, 0, c, hp, h, x, hx => by
    simp only [List.getElem?_cons_zero, Option.some.injEq] at h
    subst h
    rw [List.pairwise_cons] at hp
    exact hp.1 x (by simpa using hx)
  | y :: cs, i + 1, c, hp, h, x, hx => by
    simp only [List.getElem?_cons_succ] at h
    rw [List.pairwise_cons] at hp
    simp only [List.eraseIdx_cons_succ, List.mem_cons] at hx
    rcases hx with rfl | hx
    · exact hR _ _ (hp.1 c (List.mem_of_getElem? h))
    · exact pair_front hR hp.2 h x hx
/-- a piece to the front -/
theorem Sep.front (h : Sep w0 w cs) (i : Nat) (hi : cs[i]? = some c) (hd : cs.eraseIdx i = ds := by rfl) : Sep w0 w (c :: ds) := by
  subst hd
  have hs := h.sub (List.eraseIdx_sublist cs i)
  have hm := List.mem_of_getElem? hi
  refine ⟨h.frm, ?_, ?_, ?_⟩
  · intro x hx
    rcases List.mem_cons.1 hx with rfl | hx
    · exact h.ok _ hm
    · exact hs.ok x hx
  · intro x hx
    rcases List.mem_cons.1 hx with rfl | hx
    · exact h.low _ hm
    · exact hs.low x hx
  · rw [List.pairwise_cons]
    exact ⟨pair_front (fun a b hab x hx hx' => hab x hx' hx) h.apart hi, hs.apart⟩
/-- two pieces as one -/
theorem Sep.join (h : Sep w0 w (a :: b :: cs)) (hc : a.ok w → b.ok w → (∀ x ∈ a.foot, x ∉ b.foot) → c.ok w) (hf : ∀ x ∈ c.foot, x ∈ a.foot ∨ x ∈ b.foot) : Sep w0 w (c :: cs) := by
  have hp := h.apart
  rw [List.pairwise_cons, List.pairwise_cons] at hp
  have ha := h.ok a (by simp)
  have hb := h.ok b (by simp)
  refine ⟨h.frm, ?_, ?_, ?_⟩
  · intro x hx
    rcases List.mem_cons.1 hx with rfl | hx
    · exact hc ha hb (hp.1 b (by simp))
    · exact h.ok x (by simp [hx])
  · intro x hx
    rcases List.mem_cons.1 hx with rfl | hx
    · intro y hy
      rcases hf y hy with h1 | h1
      · exact h.low a (by simp) y h1
      · exact h.low b (by simp) y h1
    · exact h.low x (by simp [hx])
  · rw [List.pairwise_cons]
    refine ⟨fun x hx y hy => ?_, hp.2.2⟩
    rcases hf y hy with h1 | h1
    · exact hp.1 x (by simp [hx]) y h1
    · exact hp.2.1 x hx y h1
/-- one piece as two -/
theorem Sep.part (h : Sep w0 w (c :: cs)) (ha : c.ok w → a.ok w ∧ b.ok w ∧ ∀ x ∈ a.foot, x ∉ b.foot) (h1 : ∀ x ∈ a.foot, x ∈ c.foot) (h2 : ∀ x ∈ b.foot, x ∈ c.foot) : Sep w0 w (a :: b :: cs) := by
  have hp := h.apart
  rw [List.pairwise_cons] at hp
  obtain ⟨k1, k2, k3⟩ := ha (h.ok c (by simp))
  refine ⟨h.frm, ?_, ?_, ?_⟩
  · intro x hx
    simp only [List.mem_cons] at hx
    rcases hx with rfl | rfl | hx
    · exact k1
    · exact k2
    · exact h.ok x (by simp [hx])
  · intro x hx
    simp only [List.mem_cons] at hx
    rcases hx with rfl | rfl | hx
    · intro y hy; exact h.low c (by simp) y (h1 y hy)
    · intro y hy; exact h.low c (by simp) y (h2 y hy)
    · exact h.low x (by simp [hx])
  · simp only [List.pairwise_cons]
    refine ⟨fun x hx y hy => ?_, fun x hx y hy => hp.1 x hx y (h2 y hy), hp.2⟩
    rcases List.mem_cons.1 hx with rfl | hx
    · exact k3 y hy
    · exact hp.1 x hx y (h1 y hy)
theorem Sep.sgv (h : Sep w0 w cs) (i : Nat) {p : Option Addr} {l : List Value} (hi : (cs[i]?).map Plot.view = some (p, l)) : Sg w p l := by
  cases hc : cs[i]? with
  | none => simp [hc] at hi
  | some c =>
    simp only [hc, Option.map_some, Option.some.injEq] at hi
    have := c.sg w (h.at i hc)
    rw [hi] at this
    exact this
/-- what was there ahead of it all can be read as it was -/
theorem Im.sep {p : Option Addr} {l : List Value} (h : Im [] w0 p l) (hS : Sep w0 w cs) : Im [] w p l := h.frm hS.frm
end
end Go.Sv

/-
  For each kind of operation, plain and guarded, in a region in order and in one that draws: a rule whose side conditions are found by trying.
-/
set_option linter.unusedSimpArgs false
set_option linter.unusedVariables false
set_option linter.unnecessarySimpa false
namespace Go.Sv
open Go Go.RowKit
section
/-- an operand that is there if the guard says so -/
theorem evG {σ : GE} {x : Operand} {v : Value} {g G : Bool} (hgd : G = true) (h : gvl σ x = ⟨v, g⟩ := by rfl)
    (hg : G = true → g = true := by first | with_reducible exact fun _ => rfl | with_reducible exact fun h => h | with_reducible exact fun h => and_l h | with_reducible exact fun h => and_l (and_l h) | with_reducible exact fun h => and_l (and_l (and_l h)) | (intro h; simp_all; done)) : evl (real σ) x = v := evr h (hg hgd)
variable {P : Program} {n : Nat} {ds : Ctx} {ops : Array Oper} {Q : Exit → Ctx → Env → World → Prop} {w0 : World} {QE : Env → Prop} {rest : List Oper} {σ : GE} {w w' : World} {v : Value} {d : Nat} {ty : TypeId} {pos : String} {af : Array Edge} {j : Nat} {want b c : Bool} {dj : Nat}

theorem wl_load {t : TypeId} {x : Operand} (h : WL P n ds ops Q rest (real (updG σ d ⟨v, true⟩)) w) (hy : Y P (real σ) ⟨some d, .load t x, ty, pos, af, none⟩ w v w := by
    first
    | exact y_load rfl (by first | exact Im.sg (by assumption) | exact Own.sg (by assumption) | assumption | exact Go.Sv.Sep.sgv (by assumption) 0 (by rfl) | exact Go.Sv.Sep.sgv (by assumption) 1 (by rfl) | exact Go.Sv.Sep.sgv (by assumption) 2 (by rfl) | exact Go.Sv.Sep.sgv (by assumption) 3 (by rfl) | exact Go.Sv.Sep.sgv (by assumption) 4 (by rfl) | exact Go.Sv.Sep.sgv (by assumption) 5 (by rfl) | exact Im.sg (Go.Sv.Im.sep (by assumption) (by assumption))) (by first | rfl | exact bs_get (by omega) | assumption | (simp; done))
    | exact y_loada rfl (by first | exact Im.sg (by assumption) | exact Own.sg (by assumption) | assumption | exact Go.Sv.Sep.sgv (by assumption) 0 (by rfl) | exact Go.Sv.Sep.sgv (by assumption) 1 (by rfl) | exact Go.Sv.Sep.sgv (by assumption) 2 (by rfl) | exact Go.Sv.Sep.sgv (by assumption) 3 (by rfl) | exact Go.Sv.Sep.sgv (by assumption) 4 (by rfl) | exact Go.Sv.Sep.sgv (by assumption) 5 (by rfl) | exact Im.sg (Go.Sv.Im.sep (by assumption) (by assumption))) (by first | decide | omega | (simp; done) | (simp; omega)) (by first | exact ⟨_, rfl⟩ | assumption | exact Im.some (by assumption) (by (try simp only [Go.Sv.bs_length]); omega) | exact Im.some (by assumption) (by simp; omega))) :
    WL P n ds ops Q (⟨some d, .load t x, ty, pos, af, none⟩ :: rest) (real σ) w := wl h hy
theorem wlg_load {t : TypeId} {x : Operand} (h : WL P n ds ops Q rest (real (updG σ d ⟨v, b && (c == want)⟩)) w) (hj : (ops[j]?).bind (·.dst) = some dj := by rfl) (hσ : σ dj = ⟨.bool c, b⟩ := by rfl) (hy : (b && (c == want)) = true → Y P (real σ) ⟨some d, .load t x, ty, pos, af, some (j, want)⟩ w v w := by
    intro hgd
    first
    | exact y_load (evG hgd) (by first | exact Im.sg (by assumption) | exact Own.sg (by assumption) | assumption | exact Go.Sv.Sep.sgv (by assumption) 0 (by rfl) | exact Go.Sv.Sep.sgv (by assumption) 1 (by rfl) | exact Go.Sv.Sep.sgv (by assumption) 2 (by rfl) | exact Go.Sv.Sep.sgv (by assumption) 3 (by rfl) | exact Go.Sv.Sep.sgv (by assumption) 4 (by rfl) | exact Go.Sv.Sep.sgv (by assumption) 5 (by rfl) | exact Im.sg (Go.Sv.Im.sep (by assumption) (by assumption))) (by first | rfl | exact bs_get (by first | omega | (simp_all; omega) | (simp_all; done)) | assumption | (simp; done))
    | exact y_loada (evG hgd) (by first | exact Im.sg (by assumption) | exact Own.sg (by assumption) | assumption | exact Go.Sv.Sep.sgv (by assumption) 0 (by rfl) | exact Go.Sv.Sep.sgv (by assumption) 1 (by rfl) | exact Go.Sv.Sep.sgv (by assumption) 2 (by rfl) | exact Go.Sv.Sep.sgv (by assumption) 3 (by rfl) | exact Go.Sv.Sep.sgv (by assumption) 4 (by rfl) | exact Go.Sv.Sep.sgv (by assumption) 5 (by rfl) | exact Im.sg (Go.Sv.Im.sep (by assumption) (by assumption))) (by first | decide | omega | (simp; done) | (simp; omega)) (by first | exact ⟨_, rfl⟩ | assumption | exact Im.some (by assumption) (by (try simp only [Go.Sv.bs_length]); omega) | exact Im.some (by assumption) (by simp; omega))) :
    WL P n ds ops Q (⟨some d, .load t x, ty, pos, af, some (j, want)⟩ :: rest) (real σ) w := wlg h hj hσ hy
theorem ql_load {t : TypeId} {x : Operand} (h : QL P n ds ops (Frm w0) QE rest (real (updG σ d ⟨v, true⟩))) (hy : ∀ w, Frm w0 w → Y P (real σ) ⟨some d, .load t x, ty, pos, af, none⟩ w v w := by
    intro wq hwq
    first
    | exact y_load rfl (by first | exact Im.sg (Go.Sv.Im.frm (by assumption) hwq) | exact Own.sg (Go.Sv.Own.frm (by assumption) hwq) | exact Sg.frm (by assumption) hwq | exact Go.Sv.Sep.sgv (Go.Sv.Sep.grow (by assumption) hwq) 0 (by rfl) | exact Go.Sv.Sep.sgv (Go.Sv.Sep.grow (by assumption) hwq) 1 (by rfl) | exact Go.Sv.Sep.sgv (Go.Sv.Sep.grow (by assumption) hwq) 2 (by rfl) | exact Go.Sv.Sep.sgv (Go.Sv.Sep.grow (by assumption) hwq) 3 (by rfl) | exact Go.Sv.Sep.sgv (Go.Sv.Sep.grow (by assumption) hwq) 4 (by rfl) | exact Go.Sv.Sep.sgv (Go.Sv.Sep.grow (by assumption) hwq) 5 (by rfl) | exact Im.sg (Go.Sv.Im.sep (by assumption) (Go.Sv.Sep.grow (by assumption) hwq))) (by first | rfl | exact bs_get (by omega) | assumption | (simp; done))
    | exact y_loada rfl (by first | exact Im.sg (Go.Sv.Im.frm (by assumption) hwq) | exact Own.sg (Go.Sv.Own.frm (by assumption) hwq) | exact Sg.frm (by assumption) hwq | exact Go.Sv.Sep.sgv (Go.Sv.Sep.grow (by assumption) hwq) 0 (by rfl) | exact Go.Sv.Sep.sgv (Go.Sv.Sep.grow (by assumption) hwq) 1 (by rfl) | exact Go.Sv.Sep.sgv (Go.Sv.Sep.grow (by assumption) hwq) 2 (by rfl) | exact Go.Sv.Sep.sgv (Go.Sv.Sep.grow (by assumption) hwq) 3 (by rfl) | exact Go.Sv.Sep.sgv (Go.Sv.Sep.grow (by assumption) hwq) 4 (by rfl) | exact Go.Sv.Sep.sgv (Go.Sv.Sep.grow (by assumption) hwq) 5 (by rfl) | exact Im.sg (Go.Sv.Im.sep (by assumption) (Go.Sv.Sep.grow (by assumption) hwq))) (by first | decide | omega | (simp; done) | (simp; omega)) (by first | exact ⟨_, rfl⟩ | assumption | exact Im.some (by assumption) (by (try simp only [Go.Sv.bs_length]); omega) | exact Im.some (by assumption) (by simp; omega))) :
    QL P n ds ops (Frm w0) QE (⟨some d, .load t x, ty, pos, af, none⟩ :: rest) (real σ) := ql h (YQ.ofY hy)
theorem qlg_load {t : TypeId} {x : Operand} (h : QL P n ds ops (Frm w0) QE rest (real (updG σ d ⟨v, b && (c == want)⟩))) (hj : (ops[j]?).bind (·.dst) = some dj := by rfl) (hσ : σ dj = ⟨.bool c, b⟩ := by rfl) (hy : (b && (c == want)) = true → ∀ w, Frm w0 w → Y P (real σ) ⟨some d, .load t x, ty, pos, af, some (j, want)⟩ w v w := by
    intro hgd wq hwq
    first
    | exact y_load (evG hgd) (by first | exact Im.sg (Go.Sv.Im.frm (by assumption) hwq) | exact Own.sg (Go.Sv.Own.frm (by assumption) hwq) | exact Sg.frm (by assumption) hwq | exact Go.Sv.Sep.sgv (Go.Sv.Sep.grow (by assumption) hwq) 0 (by rfl) | exact Go.Sv.Sep.sgv (Go.Sv.Sep.grow (by assumption) hwq) 1 (by rfl) | exact Go.Sv.Sep.sgv (Go.Sv.Sep.grow (by assumption) hwq) 2 (by rfl) | exact Go.Sv.Sep.sgv (Go.Sv.Sep.grow (by assumption) hwq) 3 (by rfl) | exact Go.Sv.Sep.sgv (Go.Sv.Sep.grow (by assumption) hwq) 4 (by rfl) | exact Go.Sv.Sep.sgv (Go.Sv.Sep.grow (by assumption) hwq) 5 (by rfl) | exact Im.sg (Go.Sv.Im.sep (by assumption) (Go.Sv.Sep.grow (by assumption) hwq))) (by first | rfl | exact bs_get (by first | omega | (simp_all; omega) | (simp_all; done)) | assumption | (simp; done))
    | exact y_loada (evG hgd) (by first | exact Im.sg (Go.Sv.Im.frm (by assumption) hwq) | exact Own.sg (Go.Sv.Own.frm (by assumption) hwq) | exact Sg.frm (by assumption) hwq | exact Go.Sv.Sep.sgv (Go.Sv.Sep.grow (by assumption) hwq) 0 (by rfl) | exact Go.Sv.Sep.sgv (Go.Sv.Sep.grow (by assumption) hwq) 1 (by rfl) | exact Go.Sv.Sep.sgv (Go.Sv.Sep.grow (by assumption) hwq) 2 (by rfl) | exact Go.Sv.Sep.sgv (Go.Sv.Sep.grow (by assumption) hwq) 3 (by rfl) | exact Go.Sv.Sep.sgv (Go.Sv.Sep.grow (by assumption) hwq) 4 (by rfl) | exact Go.Sv.Sep.sgv (Go.Sv.Sep.grow (by assumption) hwq) 5 (by rfl) | exact Im.sg (Go.Sv.Im.sep (by assumption) (Go.Sv.Sep.grow (by assumption) hwq))) (by first | decide | omega | (simp; done) | (simp; omega)) (by first | exact ⟨_, rfl⟩ | assumption | exact Im.some (by assumption) (by (try simp only [Go.Sv.bs_length]); omega) | exact Im.some (by assumption) (by simp; omega))) :
    QL P n ds ops (Frm w0) QE (⟨some d, .load t x, ty, pos, af, some (j, want)⟩ :: rest) (real σ) := qlg h hj hσ fun hh => YQ.ofY (hy hh)
theorem wl_idxa {t : TypeId} {x y : Operand} (h : WL P n ds ops Q rest (real (updG σ d ⟨v, true⟩)) w) (hy : Y P (real σ) ⟨some d, .indexAddr t x y, ty, pos, af, none⟩ w v w := by
    first
    | exact y_idx1 rfl rfl (by omega) (by first | exact ⟨_, rfl⟩ | assumption | exact Im.some (by assumption) (by (try simp only [Go.Sv.bs_length]); omega) | exact Im.some (by assumption) (by simp; omega))
    | exact y_idx1I rfl rfl (by omega) (by first | exact ⟨_, rfl⟩ | assumption | exact Im.some (by assumption) (by (try simp only [Go.Sv.bs_length]); omega) | exact Im.some (by assumption) (by simp; omega))
    | exact y_idx rfl rfl (by omega) (by first | exact ⟨_, rfl⟩ | assumption | exact Im.some (by assumption) (by (try simp only [Go.Sv.bs_length]); omega) | exact Im.some (by assumption) (by simp; omega))
    | exact y_idxI rfl rfl (by omega) (by first | exact ⟨_, rfl⟩ | assumption | exact Im.some (by assumption) (by (try simp only [Go.Sv.bs_length]); omega) | exact Im.some (by assumption) (by simp; omega))
    | exact y_aaddr1 rfl rfl (by omega) (by first | exact ⟨_, rfl⟩ | assumption | exact Im.some (by assumption) (by (try simp only [Go.Sv.bs_length]); omega) | exact Im.some (by assumption) (by simp; omega))
    | exact y_aaddr1I rfl rfl (by omega) (by first | exact ⟨_, rfl⟩ | assumption | exact Im.some (by assumption) (by (try simp only [Go.Sv.bs_length]); omega) | exact Im.some (by assumption) (by simp; omega))
    | exact y_aaddr rfl rfl (by omega) (by first | exact ⟨_, rfl⟩ | assumption | exact Im.some (by assumption) (by (try simp only [Go.Sv.bs_length]); omega) | exact Im.some (by assumption) (by simp; omega))
    | exact y_aaddrI rfl rfl (by omega) (by first | exact ⟨_, rfl⟩ | assumption | exact Im.some (by assumption) (by (try simp only [Go.Sv.bs_length]); omega) | exact Im.some (by assumption) (by simp; omega))) :
    WL P n ds ops Q (⟨some d, .indexAddr t x y, ty, pos, af, none⟩ :: rest) (real σ) w := wl h hy
theorem wlg_idxa {t : TypeId} {x y : Operand} (h : WL P n ds ops Q rest (real (updG σ d ⟨v, b && (c == want)⟩)) w) (hj : (ops[j]?).bind (·.dst) = some dj := by rfl) (hσ : σ dj = ⟨.bool c, b⟩ := by rfl) (hy : (b && (c == want)) = true → Y P (real σ) ⟨some d, .indexAddr t x y, ty, pos, af, some (j, want)⟩ w v w := by
    intro hgd
    first
    | exact y_idx1 (evG hgd) (evG hgd) (by first | omega | (simp_all; omega) | (simp_all; done)) (by first | exact ⟨_, rfl⟩ | assumption | exact Im.some (by assumption) (by (try simp only [Go.Sv.bs_length]); omega) | exact Im.some (by assumption) (by simp; omega))
    | exact y_idx1I (evG hgd) (evG hgd) (by first | omega | (simp_all; omega) | (simp_all; done)) (by first | exact ⟨_, rfl⟩ | assumption | exact Im.some (by assumption) (by (try simp only [Go.Sv.bs_length]); omega) | exact Im.some (by assumption) (by simp; omega))
    | exact y_idx (evG hgd) (evG hgd) (by first | omega | (simp_all; omega) | (simp_all; done)) (by first | exact ⟨_, rfl⟩ | assumption | exact Im.some (by assumption) (by (try simp only [Go.Sv.bs_length]); omega) | exact Im.some (by assumption) (by simp; omega))
    | exact y_idxI (evG hgd) (evG hgd) (by first | omega | (simp_all; omega) | (simp_all; done)) (by first | exact ⟨_, rfl⟩ | assumption | exact Im.some (by assumption) (by (try simp only [Go.Sv.bs_length]); omega) | exact Im.some (by assumption) (by simp; omega))
    | exact y_aaddr1 (evG hgd) (evG hgd) (by first | omega | (simp_all; omega) | (simp_all; done)) (by first | exact ⟨_, rfl⟩ | assumption | exact Im.some (by assumption) (by (try simp only [Go.Sv.bs_length]); omega) | exact Im.some (by assumption) (by simp; omega))
    | exact y_aaddr1I (evG hgd) (evG hgd) (by first | omega | (simp_all; omega) | (simp_all; done)) (by first | exact ⟨_, rfl⟩ | assumption | exact Im.some (by assumption) (by (try simp only [Go.Sv.bs_length]); omega) | exact Im.some (by assumption) (by simp; omega))
    | exact y_aaddr (evG hgd) (evG hgd) (by first | omega | (simp_all; omega) | (simp_all; done)) (by first | exact ⟨_, rfl⟩ | assumption | exact Im.some (by assumption) (by (try simp only [Go.Sv.bs_length]); omega) | exact Im.some (by assumption) (by simp; omega))
    | exact y_aaddrI (evG hgd) (evG hgd) (by first | omega | (simp_all; omega) | (simp_all; done)) (by first | exact ⟨_, rfl⟩ | assumption | exact Im.some (by assumption) (by (try simp only [Go.Sv.bs_length]); omega) | exact Im.some (by assumption) (by simp; omega))) :
    WL P n ds ops Q (⟨some d, .indexAddr t x y, ty, pos, af, some (j, want)⟩ :: rest) (real σ) w := wlg h hj hσ hy
theorem ql_idxa {t : TypeId} {x y : Operand} (h : QL P n ds ops (Frm w0) QE rest (real (updG σ d ⟨v, true⟩))) (hy : ∀ w, Frm w0 w → Y P (real σ) ⟨some d, .indexAddr t x y, ty, pos, af, none⟩ w v w := by
    intro wq hwq
    first
    | exact y_idx1 rfl rfl (by omega) (by first | exact ⟨_, rfl⟩ | assumption | exact Im.some (by assumption) (by (try simp only [Go.Sv.bs_length]); omega) | exact Im.some (by assumption) (by simp; omega))
    | exact y_idx1I rfl rfl (by omega) (by first | exact ⟨_, rfl⟩ | assumption | exact Im.some (by assumption) (by (try simp only [Go.Sv.bs_length]); omega) | exact Im.some (by assumption) (by simp; omega))
    | exact y_idx rfl rfl (by omega) (by first | exact ⟨_, rfl⟩ | assumption | exact Im.some (by assumption) (by (try simp only [Go.Sv.bs_length]); omega) | exact Im.some (by assumption) (by simp; omega))
    | exact y_idxI rfl rfl (by omega) (by first | exact ⟨_, rfl⟩ | assumption | exact Im.some (by assumption) (by (try simp only [Go.Sv.bs_length]); omega) | exact Im.some (by assumption) (by simp; omega))
    | exact y_aaddr1 rfl rfl (by omega) (by first | exact ⟨_, rfl⟩ | assumption | exact Im.some (by assumption) (by (try simp only [Go.Sv.bs_length]); omega) | exact Im.some (by assumption) (by simp; omega))
    | exact y_aaddr1I rfl rfl (by omega) (by first | exact ⟨_, rfl⟩ | assumption | exact Im.some (by assumption) (by (try simp only [Go.Sv.bs_length]); omega) | exact Im.some (by assumption) (by simp; omega))
    | exact y_aaddr rfl rfl (by omega) (by first | exact ⟨_, rfl⟩ | assumption | exact Im.some (by assumption) (by (try simp only [Go.Sv.bs_length]); omega) | exact Im.some (by assumption) (by simp; omega))
    | exact y_aaddrI rfl rfl (by omega) (by first | exact ⟨_, rfl⟩ | assumption | exact Im.some (by assumption) (by (try simp only [Go.Sv.bs_length]); omega) | exact Im.some (by assumption) (by simp; omega))) :
    QL P n ds ops (Frm w0) QE (⟨some d, .indexAddr t x y, ty, pos, af, none⟩ :: rest) (real σ) := ql h (YQ.ofY hy)
theorem qlg_idxa {t : TypeId} {x y : Operand} (h : QL P n ds ops (Frm w0) QE rest (real (updG σ d ⟨v, b && (c == want)⟩))) (hj : (ops[j]?).bind (·.dst) = some dj := by rfl) (hσ : σ dj = ⟨.bool c, b⟩ := by rfl) (hy : (b && (c == want)) = true → ∀ w, Frm w0 w → Y P (real σ) ⟨some d, .indexAddr t x y, ty, pos, af, some (j, want)⟩ w v w := by
    intro hgd wq hwq
    first
    | exact y_idx1 (evG hgd) (evG hgd) (by first | omega | (simp_all; omega) | (simp_all; done)) (by first | exact ⟨_, rfl⟩ | assumption | exact Im.some (by assumption) (by (try simp only [Go.Sv.bs_length]); omega) | exact Im.some (by assumption) (by simp; omega))
    | exact y_idx1I (evG hgd) (evG hgd) (by first | omega | (simp_all; omega) | (simp_all; done)) (by first | exact ⟨_, rfl⟩ | assumption | exact Im.some (by assumption) (by (try simp only [Go.Sv.bs_length]); omega) | exact Im.some (by assumption) (by simp; omega))
    | exact y_idx (evG hgd) (evG hgd) (by first | omega | (simp_all; omega) | (simp_all; done)) (by first | exact ⟨_, rfl⟩ | assumption | exact Im.some (by assumption) (by (try simp only [Go.Sv.bs_length]); omega) | exact Im.some (by assumption) (by simp; omega))
    | exact y_idxI (evG hgd) (evG hgd) (by first | omega | (simp_all; omega) | (simp_all; done)) (by first | exact ⟨_, rfl⟩ | assumption | exact Im.some (by assumption) (by (try simp only [Go.Sv.bs_length]); omega) | exact Im.some (by assumption) (by simp; omega))
    | exact y_aaddr1 (evG hgd) (evG hgd) (by first | omega | (simp_all; omega) | (simp_all; done)) (by first | exact ⟨_, rfl⟩ | assumption | exact Im.some (by assumption) (by (try simp only [Go.Sv.bs_length]); omega) | exact Im.some (by assumption) (by simp; omega))
    | exact y_aaddr1I (evG hgd) (evG hgd) (by first | omega | (simp_all; omega) | (simp_all; done)) (by first | exact ⟨_, rfl⟩ | assumption | exact Im.some (by assumption) (by (try simp only [Go.Sv.bs_length]); omega) | exact Im.some (by assumption) (by simp; omega))
    | exact y_aaddr (evG hgd) (evG hgd) (by first | omega | (simp_all; omega) | (simp_all; done)) (by first | exact ⟨_, rfl⟩ | assumption | exact Im.some (by assumption) (by (try simp only [Go.Sv.bs_length]); omega) | exact Im.some (by assumption) (by simp; omega))
    | exact y_aaddrI (evG hgd) (evG hgd) (by first | omega | (simp_all; omega) | (simp_all; done)) (by first | exact ⟨_, rfl⟩ | assumption | exact Im.some (by assumption) (by (try simp only [Go.Sv.bs_length]); omega) | exact Im.some (by assumption) (by simp; omega))) :
    QL P n ds ops (Frm w0) QE (⟨some d, .indexAddr t x y, ty, pos, af, some (j, want)⟩ :: rest) (real σ) := qlg h hj hσ fun hh => YQ.ofY (hy hh)
theorem wl_fld {t : TypeId} {x : Operand} {i : Nat} (h : WL P n ds ops Q rest (real (updG σ d ⟨v, true⟩)) w) (hy : Y P (real σ) ⟨some d, .fieldAddr t x i, ty, pos, af, none⟩ w v w := by
    first
    | exact y_field rfl (by first | exact ⟨_, rfl⟩ | assumption | exact Im.some (by assumption) (by (try simp only [Go.Sv.bs_length]); omega) | exact Im.some (by assumption) (by simp; omega)) (by decide)) :
    WL P n ds ops Q (⟨some d, .fieldAddr t x i, ty, pos, af, none⟩ :: rest) (real σ) w := wl h hy
theorem wlg_fld {t : TypeId} {x : Operand} {i : Nat} (h : WL P n ds ops Q rest (real (updG σ d ⟨v, b && (c == want)⟩)) w) (hj : (ops[j]?).bind (·.dst) = some dj := by rfl) (hσ : σ dj = ⟨.bool c, b⟩ := by rfl) (hy : (b && (c == want)) = true → Y P (real σ) ⟨some d, .fieldAddr t x i, ty, pos, af, some (j, want)⟩ w v w := by
    intro hgd
    first
    | exact y_field (evG hgd) (by first | exact ⟨_, rfl⟩ | assumption | exact Im.some (by assumption) (by (try simp only [Go.Sv.bs_length]); omega) | exact Im.some (by assumption) (by simp; omega)) (by decide)) :
    WL P n ds ops Q (⟨some d, .fieldAddr t x i, ty, pos, af, some (j, want)⟩ :: rest) (real σ) w := wlg h hj hσ hy
theorem ql_fld {t : TypeId} {x : Operand} {i : Nat} (h : QL P n ds ops (Frm w0) QE rest (real (updG σ d ⟨v, true⟩))) (hy : ∀ w, Frm w0 w → Y P (real σ) ⟨some d, .fieldAddr t x i, ty, pos, af, none⟩ w v w := by
    intro wq hwq
    first
    | exact y_field rfl (by first | exact ⟨_, rfl⟩ | assumption | exact Im.some (by assumption) (by (try simp only [Go.Sv.bs_length]); omega) | exact Im.some (by assumption) (by simp; omega)) (by decide)) :
    QL P n ds ops (Frm w0) QE (⟨some d, .fieldAddr t x i, ty, pos, af, none⟩ :: rest) (real σ) := ql h (YQ.ofY hy)
theorem qlg_fld {t : TypeId} {x : Operand} {i : Nat} (h : QL P n ds ops (Frm w0) QE rest (real (updG σ d ⟨v, b && (c == want)⟩))) (hj : (ops[j]?).bind (·.dst) = some dj := by rfl) (hσ : σ dj = ⟨.bool c, b⟩ := by rfl) (hy : (b && (c == want)) = true → ∀ w, Frm w0 w → Y P (real σ) ⟨some d, .fieldAddr t x i, ty, pos, af, some (j, want)⟩ w v w := by
    intro hgd wq hwq
    first
    | exact y_field (evG hgd) (by first | exact ⟨_, rfl⟩ | assumption | exact Im.some (by assumption) (by (try simp only [Go.Sv.bs_length]); omega) | exact Im.some (by assumption) (by simp; omega)) (by decide)) :
    QL P n ds ops (Frm w0) QE (⟨some d, .fieldAddr t x i, ty, pos, af, some (j, want)⟩ :: rest) (real σ) := qlg h hj hσ fun hh => YQ.ofY (hy hh)
theorem wl_slc {t : TypeId} {x : Operand} {lo hi mx : Option Operand} (h : WL P n ds ops Q rest (real (updG σ d ⟨v, true⟩)) w) (hy : Y P (real σ) ⟨some d, .slice t x lo hi mx, ty, pos, af, none⟩ w v w := by
    first
    | exact y_sslice_from rfl rfl (by omega)
    | exact y_sslice_to rfl rfl (by omega)
    | exact y_sslice rfl rfl rfl (by omega)
    | exact y_rslice_from1 rfl rfl (by omega)
    | exact y_rslice_from rfl rfl (by omega)
    | exact y_rslice_to rfl rfl (by omega)
    | exact y_rslice1 rfl rfl rfl (by omega)
    | exact y_rslice rfl rfl rfl (by omega)
    | exact y_rslice3 rfl rfl rfl (by omega)
    | exact y_sslice_fromI rfl rfl (by omega)
    | exact y_sslice_toI rfl rfl (by omega)
    | exact y_ssliceI rfl rfl rfl (by omega)
    | exact y_rslice_fromI rfl rfl (by omega)
    | exact y_rslice_toI rfl rfl (by omega)) :
    WL P n ds ops Q (⟨some d, .slice t x lo hi mx, ty, pos, af, none⟩ :: rest) (real σ) w := wl h hy
theorem wlg_slc {t : TypeId} {x : Operand} {lo hi mx : Option Operand} (h : WL P n ds ops Q rest (real (updG σ d ⟨v, b && (c == want)⟩)) w) (hj : (ops[j]?).bind (·.dst) = some dj := by rfl) (hσ : σ dj = ⟨.bool c, b⟩ := by rfl) (hy : (b && (c == want)) = true → Y P (real σ) ⟨some d, .slice t x lo hi mx, ty, pos, af, some (j, want)⟩ w v w := by
    intro hgd
    first
    | exact y_sslice_from (evG hgd) (evG hgd) (by first | omega | (simp_all; omega) | (simp_all; done))
    | exact y_sslice_to (evG hgd) (evG hgd) (by first | omega | (simp_all; omega) | (simp_all; done))
    | exact y_sslice (evG hgd) (evG hgd) (evG hgd) (by first | omega | (simp_all; omega) | (simp_all; done))
    | exact y_rslice_from1 (evG hgd) (evG hgd) (by first | omega | (simp_all; omega) | (simp_all; done))
    | exact y_rslice_from (evG hgd) (evG hgd) (by first | omega | (simp_all; omega) | (simp_all; done))
    | exact y_rslice_to (evG hgd) (evG hgd) (by first | omega | (simp_all; omega) | (simp_all; done))
    | exact y_rslice1 (evG hgd) (evG hgd) (evG hgd) (by first | omega | (simp_all; omega) | (simp_all; done))
    | exact y_rslice (evG hgd) (evG hgd) (evG hgd) (by first | omega | (simp_all; omega) | (simp_all; done))
    | exact y_rslice3 (evG hgd) (evG hgd) (evG hgd) (by first | omega | (simp_all; omega) | (simp_all; done))
    | exact y_sslice_fromI (evG hgd) (evG hgd) (by first | omega | (simp_all; omega) | (simp_all; done))
    | exact y_sslice_toI (evG hgd) (evG hgd) (by first | omega | (simp_all; omega) | (simp_all; done))
    | exact y_ssliceI (evG hgd) (evG hgd) (evG hgd) (by first | omega | (simp_all; omega) | (simp_all; done))
    | exact y_rslice_fromI (evG hgd) (evG hgd) (by first | omega | (simp_all; omega) | (simp_all; done))
    | exact y_rslice_toI (evG hgd) (evG hgd) (by first | omega | (simp_all; omega) | (simp_all; done))) :
    WL P n ds ops Q (⟨some d, .slice t x lo hi mx, ty, pos, af, some (j, want)⟩ :: rest) (real σ) w := wlg h hj hσ hy
theorem ql_slc {t : TypeId} {x : Operand} {lo hi mx : Option Operand} (h : QL P n ds ops (Frm w0) QE rest (real (updG σ d ⟨v, true⟩))) (hy : ∀ w, Frm w0 w → Y P (real σ) ⟨some d, .slice t x lo hi mx, ty, pos, af, none⟩ w v w := by
    intro wq hwq
    first
    | exact y_sslice_from rfl rfl (by omega)
    | exact y_sslice_to rfl rfl (by omega)
    | exact y_sslice rfl rfl rfl (by omega)
    | exact y_rslice_from1 rfl rfl (by omega)
    | exact y_rslice_from rfl rfl (by omega)
    | exact y_rslice_to rfl rfl (by omega)
    | exact y_rslice1 rfl rfl rfl (by omega)
    | exact y_rslice rfl rfl rfl (by omega)
    | exact y_rslice3 rfl rfl rfl (by omega)
    | exact y_sslice_fromI rfl rfl (by omega)
    | exact y_sslice_toI rfl rfl (by omega)
    | exact y_ssliceI rfl rfl rfl (by omega)
    | exact y_rslice_fromI rfl rfl (by omega)
    | exact y_rslice_toI rfl rfl (by omega)) :
    QL P n ds ops (Frm w0) QE (⟨some d, .slice t x lo hi mx, ty, pos, af, none⟩ :: rest) (real σ) := ql h (YQ.ofY hy)
theorem qlg_slc {t : TypeId} {x : Operand} {lo hi mx : Option Operand} (h : QL P n ds ops (Frm w0) QE rest (real (updG σ d ⟨v, b && (c == want)⟩))) (hj : (ops[j]?).bind (·.dst) = some dj := by rfl) (hσ : σ dj = ⟨.bool c, b⟩ := by rfl) (hy : (b && (c == want)) = true → ∀ w, Frm w0 w → Y P (real σ) ⟨some d, .slice t x lo hi mx, ty, pos, af, some (j, want)⟩ w v w := by
    intro hgd wq hwq
    first
    | exact y_sslice_from (evG hgd) (evG hgd) (by first | omega | (simp_all; omega) | (simp_all; done))
    | exact y_sslice_to (evG hgd) (evG hgd) (by first | omega | (simp_all; omega) | (simp_all; done))
    | exact y_sslice (evG hgd) (evG hgd) (evG hgd) (by first | omega | (simp_all; omega) | (simp_all; done))
    | exact y_rslice_from1 (evG hgd) (evG hgd) (by first | omega | (simp_all; omega) | (simp_all; done))
    | exact y_rslice_from (evG hgd) (evG hgd) (by first | omega | (simp_all; omega) | (simp_all; done))
    | exact y_rslice_to (evG hgd) (evG hgd) (by first | omega | (simp_all; omega) | (simp_all; done))
    | exact y_rslice1 (evG hgd) (evG hgd) (evG hgd) (by first | omega | (simp_all; omega) | (simp_all; done))
    | exact y_rslice (evG hgd) (evG hgd) (evG hgd) (by first | omega | (simp_all; omega) | (simp_all; done))
    | exact y_rslice3 (evG hgd) (evG hgd) (evG hgd) (by first | omega | (simp_all; omega) | (simp_all; done))
    | exact y_sslice_fromI (evG hgd) (evG hgd) (by first | omega | (simp_all; omega) | (simp_all; done))
    | exact y_sslice_toI (evG hgd) (evG hgd) (by first | omega | (simp_all; omega) | (simp_all; done))
    | exact y_ssliceI (evG hgd) (evG hgd) (evG hgd) (by first | omega | (simp_all; omega) | (simp_all; done))
    | exact y_rslice_fromI (evG hgd) (evG hgd) (by first | omega | (simp_all; omega) | (simp_all; done))
    | exact y_rslice_toI (evG hgd) (evG hgd) (by first | omega | (simp_all; omega) | (simp_all; done))) :
    QL P n ds ops (Frm w0) QE (⟨some d, .slice t x lo hi mx, ty, pos, af, some (j, want)⟩ :: rest) (real σ) := qlg h hj hσ fun hh => YQ.ofY (hy hh)
theorem wl_idx {t : TypeId} {x y : Operand} (h : WL P n ds ops Q rest (real (updG σ d ⟨v, true⟩)) w) (hy : Y P (real σ) ⟨some d, .index t x y, ty, pos, af, none⟩ w v w := by
    first
    | exact y_sindexN rfl rfl (by omega)
    | exact y_sindexI rfl rfl (by omega)
    | exact y_aidx rfl rfl (by omega) (by first | rfl | assumption)
    | exact y_aidxI rfl rfl (by omega) (by first | rfl | assumption)) :
    WL P n ds ops Q (⟨some d, .index t x y, ty, pos, af, none⟩ :: rest) (real σ) w := wl h hy
theorem wlg_idx {t : TypeId} {x y : Operand} (h : WL P n ds ops Q rest (real (updG σ d ⟨v, b && (c == want)⟩)) w) (hj : (ops[j]?).bind (·.dst) = some dj := by rfl) (hσ : σ dj = ⟨.bool c, b⟩ := by rfl) (hy : (b && (c == want)) = true → Y P (real σ) ⟨some d, .index t x y, ty, pos, af, some (j, want)⟩ w v w := by
    intro hgd
    first
    | exact y_sindexN (evG hgd) (evG hgd) (by first | omega | (simp_all; omega) | (simp_all; done))
    | exact y_sindexI (evG hgd) (evG hgd) (by first | omega | (simp_all; omega) | (simp_all; done))
    | exact y_aidx (evG hgd) (evG hgd) (by first | omega | (simp_all; omega) | (simp_all; done)) (by first | rfl | assumption)
    | exact y_aidxI (evG hgd) (evG hgd) (by first | omega | (simp_all; omega) | (simp_all; done)) (by first | rfl | assumption)) :
    WL P n ds ops Q (⟨some d, .index t x y, ty, pos, af, some (j, want)⟩ :: rest) (real σ) w := wlg h hj hσ hy
theorem ql_idx {t : TypeId} {x y : Operand} (h : QL P n ds ops (Frm w0) QE rest (real (updG σ d ⟨v, true⟩))) (hy : ∀ w, Frm w0 w → Y P (real σ) ⟨some d, .index t x y, ty, pos, af, none⟩ w v w := by
    intro wq hwq
    first
    | exact y_sindexN rfl rfl (by omega)
    | exact y_sindexI rfl rfl (by omega)
    | exact y_aidx rfl rfl (by omega) (by first | rfl | assumption)
    | exact y_aidxI rfl rfl (by omega) (by first | rfl | assumption)) :
    QL P n ds ops (Frm w0) QE (⟨some d, .index t x y, ty, pos, af, none⟩ :: rest) (real σ) := ql h (YQ.ofY hy)
theorem qlg_idx {t : TypeId} {x y : Operand} (h : QL P n ds ops (Frm w0) QE rest (real (updG σ d ⟨v, b && (c == want)⟩))) (hj : (ops[j]?).bind (·.dst) = some dj := by rfl) (hσ : σ dj = ⟨.bool c, b⟩ := by rfl) (hy : (b && (c == want)) = true → ∀ w, Frm w0 w → Y P (real σ) ⟨some d, .index t x y, ty, pos, af, some (j, want)⟩ w v w := by
    intro hgd wq hwq
    first
    | exact y_sindexN (evG hgd) (evG hgd) (by first | omega | (simp_all; omega) | (simp_all; done))
    | exact y_sindexI (evG hgd) (evG hgd) (by first | omega | (simp_all; omega) | (simp_all; done))
    | exact y_aidx (evG hgd) (evG hgd) (by first | omega | (simp_all; omega) | (simp_all; done)) (by first | rfl | assumption)
    | exact y_aidxI (evG hgd) (evG hgd) (by first | omega | (simp_all; omega) | (simp_all; done)) (by first | rfl | assumption)) :
    QL P n ds ops (Frm w0) QE (⟨some d, .index t x y, ty, pos, af, some (j, want)⟩ :: rest) (real σ) := qlg h hj hσ fun hh => YQ.ofY (hy hh)
theorem wl_bin {bop : BinOp} {t t2 : TypeId} {x y : Operand} (h : WL P n ds ops Q rest (real (updG σ d ⟨v, true⟩)) w) (hy : Y P (real σ) ⟨some d, .binOp bop t x y t2, ty, pos, af, none⟩ w v w := by
    first
    | exact y_add64 rfl rfl (by omega)
    | exact y_sub64 rfl rfl (by omega)
    | exact y_sadd rfl rfl (by (try simp only [List.length_append, List.length_cons, List.length_nil, List.length_take, List.length_drop]); omega)
    | exact y_and rfl rfl
    | exact y_or rfl rfl
    | exact y_shr rfl rfl (by omega)
    | exact y_shl rfl rfl (by omega)
    | exact y_add32 rfl rfl (by omega)
    | exact y_sub32 rfl rfl (by omega)
    | exact y_add8 rfl rfl (by omega)
    | exact y_sub8 rfl rfl (by omega)
    | exact y_mul64 rfl rfl (by omega)
    | exact y_mul32 rfl rfl (by omega)
    | exact y_rem rfl rfl (by omega)
    | exact y_quo rfl rfl (by simp only [Go.IntKind.max, Go.IntKind.signed, Go.IntKind.bits]; omega)
    | exact y_xor rfl rfl
    | exact y_beql rfl rfl
    | exact y_bneq rfl rfl) :
    WL P n ds ops Q (⟨some d, .binOp bop t x y t2, ty, pos, af, none⟩ :: rest) (real σ) w := wl h hy
theorem wlg_bin {bop : BinOp} {t t2 : TypeId} {x y : Operand} (h : WL P n ds ops Q rest (real (updG σ d ⟨v, b && (c == want)⟩)) w) (hj : (ops[j]?).bind (·.dst) = some dj := by rfl) (hσ : σ dj = ⟨.bool c, b⟩ := by rfl) (hy : (b && (c == want)) = true → Y P (real σ) ⟨some d, .binOp bop t x y t2, ty, pos, af, some (j, want)⟩ w v w := by
    intro hgd
    first
    | exact y_add64 (evG hgd) (evG hgd) (by first | omega | (simp_all; omega) | (simp_all; done))
    | exact y_sub64 (evG hgd) (evG hgd) (by first | omega | (simp_all; omega) | (simp_all; done))
    | exact y_sadd (evG hgd) (evG hgd) (by (try simp only [List.length_append, List.length_cons, List.length_nil, List.length_take, List.length_drop]); omega)
    | exact y_and (evG hgd) (evG hgd)
    | exact y_or (evG hgd) (evG hgd)
    | exact y_shr (evG hgd) (evG hgd) (by first | omega | (simp_all; omega) | (simp_all; done))
    | exact y_shl (evG hgd) (evG hgd) (by first | omega | (simp_all; omega) | (simp_all; done))
    | exact y_add32 (evG hgd) (evG hgd) (by first | omega | (simp_all; omega) | (simp_all; done))
    | exact y_sub32 (evG hgd) (evG hgd) (by first | omega | (simp_all; omega) | (simp_all; done))
    | exact y_add8 (evG hgd) (evG hgd) (by first | omega | (simp_all; omega) | (simp_all; done))
    | exact y_sub8 (evG hgd) (evG hgd) (by first | omega | (simp_all; omega) | (simp_all; done))
    | exact y_mul64 (evG hgd) (evG hgd) (by first | omega | (simp_all; omega) | (simp_all; done))
    | exact y_mul32 (evG hgd) (evG hgd) (by first | omega | (simp_all; omega) | (simp_all; done))
    | exact y_rem (evG hgd) (evG hgd) (by first | omega | (simp_all; omega) | (simp_all; done))
    | exact y_quo (evG hgd) (evG hgd) (by simp only [Go.IntKind.max, Go.IntKind.signed, Go.IntKind.bits]; omega)
    | exact y_xor (evG hgd) (evG hgd)
    | exact y_beql (evG hgd) (evG hgd)
    | exact y_bneq (evG hgd) (evG hgd)) :
    WL P n ds ops Q (⟨some d, .binOp bop t x y t2, ty, pos, af, some (j, want)⟩ :: rest) (real σ) w := wlg h hj hσ hy
theorem ql_bin {bop : BinOp} {t t2 : TypeId} {x y : Operand} (h : QL P n ds ops (Frm w0) QE rest (real (updG σ d ⟨v, true⟩))) (hy : ∀ w, Frm w0 w → Y P (real σ) ⟨some d, .binOp bop t x y t2, ty, pos, af, none⟩ w v w := by
    intro wq hwq
    first
    | exact y_add64 rfl rfl (by omega)
    | exact y_sub64 rfl rfl (by omega)
    | exact y_sadd rfl rfl (by (try simp only [List.length_append, List.length_cons, List.length_nil, List.length_take, List.length_drop]); omega)
    | exact y_and rfl rfl
    | exact y_or rfl rfl
    | exact y_shr rfl rfl (by omega)
    | exact y_shl rfl rfl (by omega)
    | exact y_add32 rfl rfl (by omega)
    | exact y_sub32 rfl rfl (by omega)
    | exact y_add8 rfl rfl (by omega)
    | exact y_sub8 rfl rfl (by omega)
    | exact y_mul64 rfl rfl (by omega)
    | exact y_mul32 rfl rfl (by omega)
    | exact y_rem rfl rfl (by omega)
    | exact y_quo rfl rfl (by simp only [Go.IntKind.max, Go.IntKind.signed, Go.IntKind.bits]; omega)
    | exact y_xor rfl rfl
    | exact y_beql rfl rfl
    | exact y_bneq rfl rfl) :
    QL P n ds ops (Frm w0) QE (⟨some d, .binOp bop t x y t2, ty, pos, af, none⟩ :: rest) (real σ) := ql h (YQ.ofY hy)
theorem qlg_bin {bop : BinOp} {t t2 : TypeId} {x y : Operand} (h : QL P n ds ops (Frm w0) QE rest (real (updG σ d ⟨v, b && (c == want)⟩))) (hj : (ops[j]?).bind (·.dst) = some dj := by rfl) (hσ : σ dj = ⟨.bool c, b⟩ := by rfl) (hy : (b && (c == want)) = true → ∀ w, Frm w0 w → Y P (real σ) ⟨some d, .binOp bop t x y t2, ty, pos, af, some (j, want)⟩ w v w := by
    intro hgd wq hwq
    first
    | exact y_add64 (evG hgd) (evG hgd) (by first | omega | (simp_all; omega) | (simp_all; done))
    | exact y_sub64 (evG hgd) (evG hgd) (by first | omega | (simp_all; omega) | (simp_all; done))
    | exact y_sadd (evG hgd) (evG hgd) (by (try simp only [List.length_append, List.length_cons, List.length_nil, List.length_take, List.length_drop]); omega)
    | exact y_and (evG hgd) (evG hgd)
    | exact y_or (evG hgd) (evG hgd)
    | exact y_shr (evG hgd) (evG hgd) (by first | omega | (simp_all; omega) | (simp_all; done))
    | exact y_shl (evG hgd) (evG hgd) (by first | omega | (simp_all; omega) | (simp_all; done))
    | exact y_add32 (evG hgd) (evG hgd) (by first | omega | (simp_all; omega) | (simp_all; done))
    | exact y_sub32 (evG hgd) (evG hgd) (by first | omega | (simp_all; omega) | (simp_all; done))
    | exact y_add8 (evG hgd) (evG hgd) (by first | omega | (simp_all; omega) | (simp_all; done))
    | exact y_sub8 (evG hgd) (evG hgd) (by first | omega | (simp_all; omega) | (simp_all; done))
    | exact y_mul64 (evG hgd) (evG hgd) (by first | omega | (simp_all; omega) | (simp_all; done))
    | exact y_mul32 (evG hgd) (evG hgd) (by first | omega | (simp_all; omega) | (simp_all; done))
    | exact y_rem (evG hgd) (evG hgd) (by first | omega | (simp_all; omega) | (simp_all; done))
    | exact y_quo (evG hgd) (evG hgd) (by simp only [Go.IntKind.max, Go.IntKind.signed, Go.IntKind.bits]; omega)
    | exact y_xor (evG hgd) (evG hgd)
    | exact y_beql (evG hgd) (evG hgd)
    | exact y_bneq (evG hgd) (evG hgd)) :
    QL P n ds ops (Frm w0) QE (⟨some d, .binOp bop t x y t2, ty, pos, af, some (j, want)⟩ :: rest) (real σ) := qlg h hj hσ fun hh => YQ.ofY (hy hh)
theorem wl_cnv {t t2 : TypeId} {x : Operand} (h : WL P n ds ops Q rest (real (updG σ d ⟨v, true⟩)) w) (hy : Y P (real σ) ⟨some d, .convert t t2 x, ty, pos, af, none⟩ w v w := by
    first
    | exact y_conv_b32 rfl
    | exact y_conv_b64 rfl
    | exact y_conv8_32 rfl (by omega)
    | exact y_conv8_64 rfl (by omega)
    | exact y_conv32_8 rfl (by omega)
    | exact y_conv64_8 rfl (by omega)
    | exact y_conv32_64 rfl (by omega)
    | exact y_conv64_64 rfl (by omega)
    | exact y_conv64_32 rfl (by omega)
    | exact y_conv32_32 rfl (by omega)
    | exact y_conv_str rfl
    | exact y_conv rfl) :
    WL P n ds ops Q (⟨some d, .convert t t2 x, ty, pos, af, none⟩ :: rest) (real σ) w := wl h hy
theorem wlg_cnv {t t2 : TypeId} {x : Operand} (h : WL P n ds ops Q rest (real (updG σ d ⟨v, b && (c == want)⟩)) w) (hj : (ops[j]?).bind (·.dst) = some dj := by rfl) (hσ : σ dj = ⟨.bool c, b⟩ := by rfl) (hy : (b && (c == want)) = true → Y P (real σ) ⟨some d, .convert t t2 x, ty, pos, af, some (j, want)⟩ w v w := by
    intro hgd
    first
    | exact y_conv_b32 (evG hgd)
    | exact y_conv_b64 (evG hgd)
    | exact y_conv8_32 (evG hgd) (by first | omega | (simp_all; omega) | (simp_all; done))
    | exact y_conv8_64 (evG hgd) (by first | omega | (simp_all; omega) | (simp_all; done))
    | exact y_conv32_8 (evG hgd) (by first | omega | (simp_all; omega) | (simp_all; done))
    | exact y_conv64_8 (evG hgd) (by first | omega | (simp_all; omega) | (simp_all; done))
    | exact y_conv32_64 (evG hgd) (by first | omega | (simp_all; omega) | (simp_all; done))
    | exact y_conv64_64 (evG hgd) (by first | omega | (simp_all; omega) | (simp_all; done))
    | exact y_conv64_32 (evG hgd) (by first | omega | (simp_all; omega) | (simp_all; done))
    | exact y_conv32_32 (evG hgd) (by first | omega | (simp_all; omega) | (simp_all; done))
    | exact y_conv_str (evG hgd)
    | exact y_conv (evG hgd)) :
    WL P n ds ops Q (⟨some d, .convert t t2 x, ty, pos, af, some (j, want)⟩ :: rest) (real σ) w := wlg h hj hσ hy
theorem ql_cnv {t t2 : TypeId} {x : Operand} (h : QL P n ds ops (Frm w0) QE rest (real (updG σ d ⟨v, true⟩))) (hy : ∀ w, Frm w0 w → Y P (real σ) ⟨some d, .convert t t2 x, ty, pos, af, none⟩ w v w := by
    intro wq hwq
    first
    | exact y_conv_b32 rfl
    | exact y_conv_b64 rfl
    | exact y_conv8_32 rfl (by omega)
    | exact y_conv8_64 rfl (by omega)
    | exact y_conv32_8 rfl (by omega)
    | exact y_conv64_8 rfl (by omega)
    | exact y_conv32_64 rfl (by omega)
    | exact y_conv64_64 rfl (by omega)
    | exact y_conv64_32 rfl (by omega)
    | exact y_conv32_32 rfl (by omega)
    | exact y_conv_str rfl
    | exact y_conv rfl) :
    QL P n ds ops (Frm w0) QE (⟨some d, .convert t t2 x, ty, pos, af, none⟩ :: rest) (real σ) := ql h (YQ.ofY hy)
theorem qlg_cnv {t t2 : TypeId} {x : Operand} (h : QL P n ds ops (Frm w0) QE rest (real (updG σ d ⟨v, b && (c == want)⟩))) (hj : (ops[j]?).bind (·.dst) = some dj := by rfl) (hσ : σ dj = ⟨.bool c, b⟩ := by rfl) (hy : (b && (c == want)) = true → ∀ w, Frm w0 w → Y P (real σ) ⟨some d, .convert t t2 x, ty, pos, af, some (j, want)⟩ w v w := by
    intro hgd wq hwq
    first
    | exact y_conv_b32 (evG hgd)
    | exact y_conv_b64 (evG hgd)
    | exact y_conv8_32 (evG hgd) (by first | omega | (simp_all; omega) | (simp_all; done))
    | exact y_conv8_64 (evG hgd) (by first | omega | (simp_all; omega) | (simp_all; done))
    | exact y_conv32_8 (evG hgd) (by first | omega | (simp_all; omega) | (simp_all; done))
    | exact y_conv64_8 (evG hgd) (by first | omega | (simp_all; omega) | (simp_all; done))
    | exact y_conv32_64 (evG hgd) (by first | omega | (simp_all; omega) | (simp_all; done))
    | exact y_conv64_64 (evG hgd) (by first | omega | (simp_all; omega) | (simp_all; done))
    | exact y_conv64_32 (evG hgd) (by first | omega | (simp_all; omega) | (simp_all; done))
    | exact y_conv32_32 (evG hgd) (by first | omega | (simp_all; omega) | (simp_all; done))
    | exact y_conv_str (evG hgd)
    | exact y_conv (evG hgd)) :
    QL P n ds ops (Frm w0) QE (⟨some d, .convert t t2 x, ty, pos, af, some (j, want)⟩ :: rest) (real σ) := qlg h hj hσ fun hh => YQ.ofY (hy hh)
theorem wl_len {args : Array Operand} {ats : Array TypeId} (h : WL P n ds ops Q rest (real (updG σ d ⟨v, true⟩)) w) (hy : Y P (real σ) ⟨some d, .call ⟨.builtin .len, args, ats⟩, ty, pos, af, none⟩ w v w := by
    first
    | exact y_slen rfl rfl
    | exact y_len rfl rfl) :
    WL P n ds ops Q (⟨some d, .call ⟨.builtin .len, args, ats⟩, ty, pos, af, none⟩ :: rest) (real σ) w := wl h hy
theorem wlg_len {args : Array Operand} {ats : Array TypeId} (h : WL P n ds ops Q rest (real (updG σ d ⟨v, b && (c == want)⟩)) w) (hj : (ops[j]?).bind (·.dst) = some dj := by rfl) (hσ : σ dj = ⟨.bool c, b⟩ := by rfl) (hy : (b && (c == want)) = true → Y P (real σ) ⟨some d, .call ⟨.builtin .len, args, ats⟩, ty, pos, af, some (j, want)⟩ w v w := by
    intro hgd
    first
    | exact y_slen (evG hgd) rfl
    | exact y_len (evG hgd) rfl) :
    WL P n ds ops Q (⟨some d, .call ⟨.builtin .len, args, ats⟩, ty, pos, af, some (j, want)⟩ :: rest) (real σ) w := wlg h hj hσ hy
theorem ql_len {args : Array Operand} {ats : Array TypeId} (h : QL P n ds ops (Frm w0) QE rest (real (updG σ d ⟨v, true⟩))) (hy : ∀ w, Frm w0 w → Y P (real σ) ⟨some d, .call ⟨.builtin .len, args, ats⟩, ty, pos, af, none⟩ w v w := by
    intro wq hwq
    first
    | exact y_slen rfl rfl
    | exact y_len rfl rfl) :
    QL P n ds ops (Frm w0) QE (⟨some d, .call ⟨.builtin .len, args, ats⟩, ty, pos, af, none⟩ :: rest) (real σ) := ql h (YQ.ofY hy)
theorem qlg_len {args : Array Operand} {ats : Array TypeId} (h : QL P n ds ops (Frm w0) QE rest (real (updG σ d ⟨v, b && (c == want)⟩))) (hj : (ops[j]?).bind (·.dst) = some dj := by rfl) (hσ : σ dj = ⟨.bool c, b⟩ := by rfl) (hy : (b && (c == want)) = true → ∀ w, Frm w0 w → Y P (real σ) ⟨some d, .call ⟨.builtin .len, args, ats⟩, ty, pos, af, some (j, want)⟩ w v w := by
    intro hgd wq hwq
    first
    | exact y_slen (evG hgd) rfl
    | exact y_len (evG hgd) rfl) :
    QL P n ds ops (Frm w0) QE (⟨some d, .call ⟨.builtin .len, args, ats⟩, ty, pos, af, some (j, want)⟩ :: rest) (real σ) := qlg h hj hσ fun hh => YQ.ofY (hy hh)
theorem wl_una {uop : UnOp} {t : TypeId} {x : Operand} (h : WL P n ds ops Q rest (real (updG σ d ⟨v, true⟩)) w) (hy : Y P (real σ) ⟨some d, .unOp uop t x, ty, pos, af, none⟩ w v w := by
    first
    | exact y_neg rfl) :
    WL P n ds ops Q (⟨some d, .unOp uop t x, ty, pos, af, none⟩ :: rest) (real σ) w := wl h hy
theorem wlg_una {uop : UnOp} {t : TypeId} {x : Operand} (h : WL P n ds ops Q rest (real (updG σ d ⟨v, b && (c == want)⟩)) w) (hj : (ops[j]?).bind (·.dst) = some dj := by rfl) (hσ : σ dj = ⟨.bool c, b⟩ := by rfl) (hy : (b && (c == want)) = true → Y P (real σ) ⟨some d, .unOp uop t x, ty, pos, af, some (j, want)⟩ w v w := by
    intro hgd
    first
    | exact y_neg (evG hgd)) :
    WL P n ds ops Q (⟨some d, .unOp uop t x, ty, pos, af, some (j, want)⟩ :: rest) (real σ) w := wlg h hj hσ hy
theorem ql_una {uop : UnOp} {t : TypeId} {x : Operand} (h : QL P n ds ops (Frm w0) QE rest (real (updG σ d ⟨v, true⟩))) (hy : ∀ w, Frm w0 w → Y P (real σ) ⟨some d, .unOp uop t x, ty, pos, af, none⟩ w v w := by
    intro wq hwq
    first
    | exact y_neg rfl) :
    QL P n ds ops (Frm w0) QE (⟨some d, .unOp uop t x, ty, pos, af, none⟩ :: rest) (real σ) := ql h (YQ.ofY hy)
theorem qlg_una {uop : UnOp} {t : TypeId} {x : Operand} (h : QL P n ds ops (Frm w0) QE rest (real (updG σ d ⟨v, b && (c == want)⟩))) (hj : (ops[j]?).bind (·.dst) = some dj := by rfl) (hσ : σ dj = ⟨.bool c, b⟩ := by rfl) (hy : (b && (c == want)) = true → ∀ w, Frm w0 w → Y P (real σ) ⟨some d, .unOp uop t x, ty, pos, af, some (j, want)⟩ w v w := by
    intro hgd wq hwq
    first
    | exact y_neg (evG hgd)) :
    QL P n ds ops (Frm w0) QE (⟨some d, .unOp uop t x, ty, pos, af, some (j, want)⟩ :: rest) (real σ) := qlg h hj hσ fun hh => YQ.ofY (hy hh)
theorem wl_mkf {fn : Fn} {first captured : Array Operand} (h : WL P n ds ops Q rest (real (updG σ d ⟨v, true⟩)) w) (hy : Y P (real σ) ⟨some d, .makeFunc fn first captured, ty, pos, af, none⟩ w v w := by
    first
    | exact y_makefuncL
    | exact y_makefunc) :
    WL P n ds ops Q (⟨some d, .makeFunc fn first captured, ty, pos, af, none⟩ :: rest) (real σ) w := wl h hy
theorem wlg_mkf {fn : Fn} {first captured : Array Operand} (h : WL P n ds ops Q rest (real (updG σ d ⟨v, b && (c == want)⟩)) w) (hj : (ops[j]?).bind (·.dst) = some dj := by rfl) (hσ : σ dj = ⟨.bool c, b⟩ := by rfl) (hy : (b && (c == want)) = true → Y P (real σ) ⟨some d, .makeFunc fn first captured, ty, pos, af, some (j, want)⟩ w v w := by
    intro hgd
    first
    | exact y_makefuncL
    | exact y_makefunc) :
    WL P n ds ops Q (⟨some d, .makeFunc fn first captured, ty, pos, af, some (j, want)⟩ :: rest) (real σ) w := wlg h hj hσ hy
theorem ql_mkf {fn : Fn} {first captured : Array Operand} (h : QL P n ds ops (Frm w0) QE rest (real (updG σ d ⟨v, true⟩))) (hy : ∀ w, Frm w0 w → Y P (real σ) ⟨some d, .makeFunc fn first captured, ty, pos, af, none⟩ w v w := by
    intro wq hwq
    first
    | exact y_makefuncL
    | exact y_makefunc) :
    QL P n ds ops (Frm w0) QE (⟨some d, .makeFunc fn first captured, ty, pos, af, none⟩ :: rest) (real σ) := ql h (YQ.ofY hy)
theorem qlg_mkf {fn : Fn} {first captured : Array Operand} (h : QL P n ds ops (Frm w0) QE rest (real (updG σ d ⟨v, b && (c == want)⟩))) (hj : (ops[j]?).bind (·.dst) = some dj := by rfl) (hσ : σ dj = ⟨.bool c, b⟩ := by rfl) (hy : (b && (c == want)) = true → ∀ w, Frm w0 w → Y P (real σ) ⟨some d, .makeFunc fn first captured, ty, pos, af, some (j, want)⟩ w v w := by
    intro hgd wq hwq
    first
    | exact y_makefuncL
    | exact y_makefunc) :
    QL P n ds ops (Frm w0) QE (⟨some d, .makeFunc fn first captured, ty, pos, af, some (j, want)⟩ :: rest) (real σ) := qlg h hj hσ fun hh => YQ.ofY (hy hh)
theorem wl_nilc {x : Operand} (h : WL P n ds ops Q rest (real (updG σ d ⟨v, true⟩)) w) (hy : Y P (real σ) ⟨some d, .nilCheck x, ty, pos, af, none⟩ w v w := by
    first
    | exact y_nilcheckp rfl (by first | exact ⟨_, rfl⟩ | assumption | exact Im.some (by assumption) (by (try simp only [Go.Sv.bs_length]); omega) | exact Im.some (by assumption) (by simp; omega))
    | exact y_nilcheck rfl) :
    WL P n ds ops Q (⟨some d, .nilCheck x, ty, pos, af, none⟩ :: rest) (real σ) w := wl h hy
theorem wlg_nilc {x : Operand} (h : WL P n ds ops Q rest (real (updG σ d ⟨v, b && (c == want)⟩)) w) (hj : (ops[j]?).bind (·.dst) = some dj := by rfl) (hσ : σ dj = ⟨.bool c, b⟩ := by rfl) (hy : (b && (c == want)) = true → Y P (real σ) ⟨some d, .nilCheck x, ty, pos, af, some (j, want)⟩ w v w := by
    intro hgd
    first
    | exact y_nilcheckp (evG hgd) (by first | exact ⟨_, rfl⟩ | assumption | exact Im.some (by assumption) (by (try simp only [Go.Sv.bs_length]); omega) | exact Im.some (by assumption) (by simp; omega))
    | exact y_nilcheck (evG hgd)) :
    WL P n ds ops Q (⟨some d, .nilCheck x, ty, pos, af, some (j, want)⟩ :: rest) (real σ) w := wlg h hj hσ hy
theorem ql_nilc {x : Operand} (h : QL P n ds ops (Frm w0) QE rest (real (updG σ d ⟨v, true⟩))) (hy : ∀ w, Frm w0 w → Y P (real σ) ⟨some d, .nilCheck x, ty, pos, af, none⟩ w v w := by
    intro wq hwq
    first
    | exact y_nilcheckp rfl (by first | exact ⟨_, rfl⟩ | assumption | exact Im.some (by assumption) (by (try simp only [Go.Sv.bs_length]); omega) | exact Im.some (by assumption) (by simp; omega))
    | exact y_nilcheck rfl) :
    QL P n ds ops (Frm w0) QE (⟨some d, .nilCheck x, ty, pos, af, none⟩ :: rest) (real σ) := ql h (YQ.ofY hy)
theorem qlg_nilc {x : Operand} (h : QL P n ds ops (Frm w0) QE rest (real (updG σ d ⟨v, b && (c == want)⟩))) (hj : (ops[j]?).bind (·.dst) = some dj := by rfl) (hσ : σ dj = ⟨.bool c, b⟩ := by rfl) (hy : (b && (c == want)) = true → ∀ w, Frm w0 w → Y P (real σ) ⟨some d, .nilCheck x, ty, pos, af, some (j, want)⟩ w v w := by
    intro hgd wq hwq
    first
    | exact y_nilcheckp (evG hgd) (by first | exact ⟨_, rfl⟩ | assumption | exact Im.some (by assumption) (by (try simp only [Go.Sv.bs_length]); omega) | exact Im.some (by assumption) (by simp; omega))
    | exact y_nilcheck (evG hgd)) :
    QL P n ds ops (Frm w0) QE (⟨some d, .nilCheck x, ty, pos, af, some (j, want)⟩ :: rest) (real σ) := qlg h hj hσ fun hh => YQ.ofY (hy hh)
end
end Go.Sv

/-
  Slices of one's own: append, stores into them; literals of structs and slices; conversions between strings and bytes.
-/
set_option linter.unusedSimpArgs false
set_option linter.unusedVariables false
set_option linter.unnecessarySimpa false
namespace Go.Sv
open Go Go.RowKit

/-- the block of an address -/
def rb : Option Addr → List Nat
  | none => []
  | some a => [a.block]
/-- a slice of one's own: n elements of 'size' cells, which are xs; nobody else has its block -/
def Row (w : World) (size : Nat) (p : Option Addr) (n c : Nat) (xs : List Value) : Prop :=
  xs.length = n * size ∧ ((p = none ∧ n = 0 ∧ c = 0) ∨
   ∃ b off cur e, p = some ⟨b, off, none⟩ ∧ w.heap[b]? = some (.cells cur e (0, 0)) ∧ n ≤ c ∧ c ≤ 9223372036854775807 ∧ off + c * size ≤ cur.size ∧ (cur.toList.drop off).take (n * size) = xs)

section
variable {P : Program} {w w' : World} {size n c m : Nat} {p : Option Addr} {xs news : List Value} {M M' : List Nat}
theorem Row.nil (w : World) (size : Nat) : Row w size none 0 0 [] := ⟨by simp, .inl ⟨rfl, rfl, rfl⟩⟩
theorem Row.len (h : Row w size p n c xs) : xs.length = n * size := h.1
theorem Row.le_cap (h : Row w size p n c xs) : n ≤ c ∧ c ≤ 9223372036854775807 := by
  rcases h.2 with ⟨_, rfl, rfl⟩ | ⟨b, off, cur, e, _, _, h1, h2, _⟩
  · omega
  · exact ⟨h1, h2⟩
theorem Row.lt (h : Row w size p n c xs) : ∀ b ∈ rb p, b < w.heap.size := by
  rcases h.2 with ⟨rfl, _⟩ | ⟨b, off, cur, e, rfl, h1, _⟩
  · simp [rb]
  · intro x hx
    simp only [rb, List.mem_singleton] at hx
    subst hx
    exact (Array.getElem?_eq_some_iff.1 h1).1
theorem Row.of_block (h : Row w size p n c xs) (hb : ∀ b ∈ rb p, w'.heap[b]? = w.heap[b]?) : Row w' size p n c xs := by
  refine ⟨h.1, ?_⟩
  rcases h.2 with h1 | ⟨b, off, cur, e, rfl, h1, h2⟩
  · exact .inl h1
  · exact .inr ⟨b, off, cur, e, rfl, by rw [hb b (by simp [rb])]; exact h1, h2⟩
theorem Row.le (h : Row w size p n c xs) (hl : Le M w w') (hb : ∀ b ∈ rb p, b ∉ M) : Row w' size p n c xs := h.of_block fun b hh => hl.block b (h.lt b hh) (hb b hh)
theorem Row.frm (h : Row w size p n c xs) (hl : Frm w w') : Row w' size p n c xs := h.le (M := []) hl.le (by simp)
theorem Row.seg (h : Row w size p n c xs) : xs = [] ∨ ∃ a, p = some a ∧ seg w a xs := by
  rcases h.2 with ⟨rfl, rfl, _⟩ | ⟨b, off, cur, e, rfl, h1, h2, h3, h4, h5⟩
  · exact .inl (List.eq_nil_of_length_eq_zero (by simpa using h.1))
  · refine .inr ⟨_, rfl, fun i hi => ?_⟩
    have e : (⟨b, off, none⟩ : Addr).add i = ⟨b, off + i, none⟩ := by unfold Addr.add; split <;> simp_all
    rw [e, cell_of_row w b (off + i) cur _ (0, 0) h1, ← h5]
    have hl : i < n * size := by rw [← h.1]; exact hi
    rw [List.getElem?_take_of_lt hl, List.getElem?_drop]; simp
theorem Row.sg (h : Row w size p n c xs) : Sg w p xs := h.seg
/-- a slice that is written no more -/
theorem Row.im (h : Row w size p n c xs) (hb : ∀ b ∈ rb p, b ∉ M) : Im M w p xs := by
  rcases h.seg with hh | ⟨a, rfl, h1⟩
  · exact .inl hh
  · exact .inr ⟨a, rfl, h1, h.lt _ (by simp [rb]), hb _ (by simp [rb])⟩
theorem Row.of_own {b : Nat} {l : List Value} (h : Own w b l) (hl : l.length = n * size) (hn : n ≤ 9223372036854775807) : Row w size (pb b) n n l := by
  obtain ⟨e, h⟩ := h
  refine ⟨hl, .inr ⟨b, 0, _, e, rfl, h, Nat.le_refl _, hn, by simp [hl], by simp [← hl]⟩⟩
/-- a shorter slice of the same memory -/
theorem Row.take (h : Row w size p n c xs) {j : Nat} (hj : j ≤ n) : Row w size p j c (xs.take (j * size)) := by
  have hle : j * size ≤ n * size := Nat.mul_le_mul_right _ hj
  refine ⟨by rw [List.length_take, h.1]; omega, ?_⟩
  rcases h.2 with ⟨rfl, rfl, rfl⟩ | ⟨b, off, cur, e, rfl, h1, h2, h3, h4, h5⟩
  · exact .inl ⟨rfl, by omega, rfl⟩
  · refine .inr ⟨b, off, cur, e, rfl, h1, by omega, h3, h4, ?_⟩
    rw [← h5, List.take_take, Nat.min_eq_left hle]
/-- with less room -/
theorem Row.cap (h : Row w size p n c xs) {j : Nat} (hj : n ≤ j) (hc : j ≤ c) : Row w size p n j xs := by
  refine ⟨h.1, ?_⟩
  rcases h.2 with ⟨rfl, rfl, rfl⟩ | ⟨b, off, cur, e, rfl, h1, h2, h3, h4, h5⟩
  · exact .inl ⟨rfl, rfl, by omega⟩
  · have : j * size ≤ c * size := Nat.mul_le_mul_right _ hc
    exact .inr ⟨b, off, cur, e, rfl, h1, hj, by omega, by omega, h5⟩

theorem Lm.app {A B : List Nat} (h : Lm A w B w') (M : List Nat) : Lm (A ++ M) w (B ++ M) w' :=
  ⟨h.1.mono fun b hb _ => List.mem_append_left _ hb, fun b hb hlt => by
    rcases List.mem_append.1 hb with h1 | h1
    · exact List.mem_append_left _ (h.2 b h1 hlt)
    · exact List.mem_append_right _ h1⟩

theorem src_of_sg {tx e' : TypeId} [hu : Und P tx (.slice e')] (hs : Sg w p news) (hl : news.length = m * size) (h1 : ∀ u ∈ news, u.oneCell' = true) : Src P size tx (.slice p m c) m news w := by
  rcases hs with rfl | ⟨a, rfl, hs⟩
  · have h0 : (Builtin.firstCells size m (.slice p m c)).run P w = .ok #[] w := by
      cases p with
      | none => exact run_firstCells_none w size m m c
      | some a => exact run_firstCells_some w size m a m c [] hl (by simp)
    have h0d : (Builtin.firstCells size m (.slice p m c)).run P w.drew = .ok #[] w.drew := by
      cases p with
      | none => exact run_firstCells_none w.drew size m m c
      | some a => exact run_firstCells_some w.drew size m a m c [] hl (by simp)
    exact ⟨.inl ⟨e', hu.ok⟩, fun _ => rfl, h0, h0d, hl, h1⟩
  · refine Src.ofSlice w hu.ok a m c news hl (fun j u hj => ?_) h1
    have hlt : j < news.length := by
      rcases Nat.lt_or_ge j news.length with h | h
      · exact h
      · rw [List.getElem?_eq_none h] at hj; cases hj
    rw [hs j hlt]; exact hj

theorem run_append_row {t tx ty e : TypeId} {z : Value} {bytes : Nat} {x : Value} [hu : Und P t (.slice e)] [hi : Inf P e z size bytes] (hz : z.cells.size = size) (hsz : 0 < size) (hr : Row w size p n c xs) (hs : Src P size tx x m news w)
    (h63 : n + m ≤ 9223372036854775807) (hb : (n + m) * bytes ≤ 140737488355328) :
    ∃ p' c' w', (Builtin.append_ #[t, tx] ty #[.slice p n c, x]).run P w = .ok (.slice p' (n + m) c') w' ∧ Row w' size p' (n + m) c' (xs ++ news) ∧ Lm (rb p) w (rb p') w' := by
  obtain ⟨i, hi1, hi2, hi3, hi4⟩ := inf_size (P := P) (t := e)
  subst hi3
  subst hi4
  have hlen : (xs ++ news).length = (n + m) * i.size := by rw [List.length_append, hr.1, hs.newsLen, Nat.add_mul]
  by_cases hroom : n + m ≤ c
  · rcases hr.2 with ⟨rfl, rfl, rfl⟩ | ⟨b, off, cur, e', rfl, h1, h2, h3, h4, h5⟩
    · have hm : m = 0 := by omega
      subst hm
      have hn : news = [] := List.eq_nil_of_length_eq_zero (by simpa using hs.newsLen)
      subst hn
      refine ⟨none, 0, w, ?_, by simpa using hr, ⟨Le.refl _ _, fun _ h _ => h⟩⟩
      rcases hs.kind with ⟨e', hk⟩ | hk <;> simp [Builtin.append_, run_underlying hu.ok, run_underlying hk, sizeOf, typeInfo, hi1, hs.len, hs.cells]
    · have hfit : off + (n * i.size) + news.length ≤ cur.size := by
        have : (n + m) * i.size ≤ c * i.size := Nat.mul_le_mul_right _ hroom
        rw [Nat.add_mul] at this
        rw [hs.newsLen]; omega
      have hst := run_storeCells_at P b (off + n * i.size) e' news 0 cur w h1 (by omega) hs.one
      simp only [Nat.add_zero] at hst
      have ha : (⟨b, off, none⟩ : Addr).add (n * i.size) = ⟨b, off + n * i.size, none⟩ := by unfold Addr.add; split <;> simp_all
      refine ⟨some ⟨b, off, none⟩, c, w.setRow b (cur.toList.take (off + n * i.size) ++ news ++ cur.toList.drop (off + n * i.size + news.length)).toArray, ?_, ⟨hlen, .inr ⟨b, off, _, e', rfl, setRow_heap w b cur _ e' (0, 0) h1, hroom, h3, ?_, ?_⟩⟩, ⟨le_setRow w b _, fun _ h _ => h⟩⟩
      · rcases hs.kind with ⟨e'', hk⟩ | hk <;> simp [Builtin.append_, run_underlying hu.ok, run_underlying hk, sizeOf, typeInfo, hi1, hs.len, hroom, hs.cells, ha, hst]
      · simp only [List.size_toArray, List.length_append, List.length_take, List.length_drop, Array.length_toList]; omega
      · have e1 : List.drop off (cur.toList.take (off + n * i.size)) = xs := by
          rw [List.drop_take, ← h5]; congr 1; omega
        have hl0 : off ≤ (cur.toList.take (off + n * i.size)).length := by simp; omega
        rw [List.append_assoc, List.drop_append_of_le_length hl0, e1, ← List.append_assoc, ← hlen, List.take_left]
  · have hold : (Builtin.firstCells i.size n (.slice p n c)).run P w.drew = .ok xs.toArray w.drew := by
      rcases hr.seg with h0 | ⟨a, rfl, h0⟩
      · subst h0
        have hn0 : n * i.size = 0 := by simpa using hr.1.symm
        cases p with
        | none => exact run_firstCells_none w.drew i.size n n c
        | some a => exact run_firstCells_some w.drew i.size n a n c [] (by simpa using hn0.symm) (by simp)
      · refine run_firstCells_some w.drew i.size n a n c xs hr.1 (fun j v hj => ?_)
        have hlt : j < xs.length := by
          rcases Nat.lt_or_ge j xs.length with h | h
          · exact h
          · rw [List.getElem?_eq_none h] at hj; cases hj
        have := h0 j hlt
        rw [World.cell?_drew, this]; exact hj
    have hrun := run_append_grow_src (P := P) w t tx ty e i z hu.ok hi1 hi2 p n c xs hold x m news hs (by omega) (by omega) (growslice_fits (by omega) hb)
    have hge := grownCap_ge w (n + m) c e
    have hcm := grownCap_le_maxLen w (n + m) c e (by unfold maxLen; omega)
    refine ⟨_, _, _, hrun, ⟨hlen, .inr ⟨w.heap.size, 0, _, e, rfl, heap_alloc_new w.drew _, hge, by unfold maxLen at hcm; omega, ?_, ?_⟩⟩, ⟨⟨rfl, rfl, rfl, by simp, fun k hk _ => Below.heap_alloc w.drew _ k hk⟩, fun b hb hlt => ?_⟩⟩
    · simp only [Array.size_append, List.size_toArray, hlen, size_zeroCells, hz, ← Nat.add_mul, Nat.zero_add]
      apply Nat.mul_le_mul_right; omega
    · simp only [List.drop_zero, Array.toList_append]
      rw [← hlen]; exact List.take_left
    · simp only [rb, List.mem_singleton] at hb
      omega
end

section
variable {P : Program} {n : Nat} {ds : Ctx} {ops : Array Oper} {Q : Exit → Ctx → Env → World → Prop} {rest : List Oper} {σ : GE} {w : World} {v : Value} {d : Nat} {ty t t' e e' : TypeId} {pos : String} {af : Array Edge} {x y : Operand} {zv : Value} {size bytes : Nat} {p q : Option Addr} {l xs news : List Value} {b i m k c c' : Nat} {M : List Nat}

theorem run_append_op {g : Option (Nat × Bool)} {dd : Option Nat} {u : Value} {w' : World} {σ : Env} (hx : evl σ x = v) (hy : evl σ y = u) (h : (Builtin.append_ #[t, t'] ty #[v, u]).run P w = .ok (.slice q m c) w') :
    Y P σ ⟨dd, .call ⟨.builtin .append, #[x, y], #[t, t']⟩, ty, pos, af, g⟩ w (.slice q m c) w' := by
  refine Y.val ?_
  simp only [execOp, resolve, Sem.run_bind, Sem.run_pure, Result.andThen_ok, invoke, builtin]
  simp [hx, hy, h]

/-- append(x, y...) to a slice of one's own -/
theorem wlappend [hu : Und P t (.slice e)] [hu' : Und P t' (.slice e')] [hi : Inf P e zv size bytes] (hx : evl (real σ) x = .slice p m c) (hr : Row w size p m c xs) (hy : evl (real σ) y = .slice q k c') (hs : Sg w q news) (hl : news.length = k * size)
    (h1 : ∀ u ∈ news, u.oneCell' = true) (hz : zv.cells.size = size) (hsz : 0 < size) (hb : (m + k) * bytes ≤ 140737488355328 ∧ m + k ≤ 9223372036854775807)
    (h : ∀ p' c' w', Row w' size p' (m + k) c' (xs ++ news) → Lm (rb p) w (rb p') w' → WL P n ds ops Q rest (real (updG σ d ⟨.slice p' (m + k) c', true⟩)) w') :
    WL P n ds ops Q (⟨some d, .call ⟨.builtin .append, #[x, y], #[t, t']⟩, ty, pos, af, none⟩ :: rest) (real σ) w := by
  obtain ⟨p', c2, w', h2, h3, h4⟩ := run_append_row (P := P) (t := t) (tx := t') (ty := ty) (e := e) hz hsz hr (src_of_sg (tx := t') (c := c') hs hl h1) hb.2 hb.1
  exact wl (h p' c2 w' h3 h4) (run_append_op hx hy h2)
/-- a slice written out, of one element -/
theorem run_buildSlice1 [hu : Und P t (.slice e)] [hi : Inf P e zv size bytes] (hz : zv.cells.size = size) (hv : v.cells.size = size) (hsz : 0 < size) (hm : size ≤ 16777216) (w : World) :
    (Instr.buildSlice t 1 #[(0, v)]).run P w = .ok (.slice (some ⟨w.heap.size, 0, none⟩) 1 1) (w.alloc (.cells v.cells e)) := by
  have h0 : ¬ (size = 0) := by omega
  have hg : ¬ (size > 2 ^ 24) := by omega
  have hf : Instr.fill (fun i => some (i * size, size)) ((Array.range (1 * size)).map (zv.cells[· % zv.cells.size]!)) [(0, v)] = some v.cells := by
    simp only [Instr.fill, hv, Nat.zero_mul, Nat.zero_add]
    rw [if_neg (by simp)]
    congr 1
    have key : ∀ (a z : Array Value), z.size = a.size → a.zipIdx.foldl (fun cs (c, j) => cs.setIfInBounds (0 + j) c) z = a := by
      intro a z haz
      have gen : ∀ (l : List Value) (k : Nat) (z : Array Value), k + l.length = z.size → (l.zipIdx k).foldl (fun cs (p : Value × Nat) => cs.setIfInBounds (0 + p.2) p.1) z = ((z.toList.take k) ++ l).toArray := by
        intro l
        induction l with
        | nil => intro k z hk; simp at hk ⊢; apply Array.ext'; simp only [hk]; rw [List.take_of_length_le (by simp)]
        | cons x l ih =>
          intro k z hk
          simp only [List.zipIdx_cons, List.foldl_cons, Nat.zero_add]
          have := ih (k + 1) (z.setIfInBounds k x) (by simp at hk ⊢; omega)
          simp only [Nat.zero_add] at this
          rw [this]
          congr 1
          simp only [Array.toList_setIfInBounds]
          have hkl : k < z.toList.length := by simp at hk ⊢; omega
          rw [List.take_succ_eq_append_getElem (by simpa using hkl)]
          rw [List.take_set_of_le (Nat.le_refl k)]
          simp
      have := gen a.toList 0 z (by simp [haz])
      rw [← Array.foldl_toList]
      simpa [Array.toList_zipIdx] using this
    have := key v.cells ((Array.range (1 * size)).map (zv.cells[· % zv.cells.size]!)) (by simp [hv])
    simpa using this
  simp only [Instr.buildSlice, Sem.run_bind, underlying, run_program, Result.andThen_ok, hu.ok, Sem.run_pure, run_sizeOf (P := P) (t := e), Nat.one_mul]
  rw [if_neg hg, if_neg h0]
  simp only [Sem.run_bind, Sem.run_pure, Result.andThen_ok, run_zeroValue (P := P) (t := e)]
  rw [Nat.one_mul] at hf
  rw [hf]
  simp [newRow]
theorem wlbuild1 [hu : Und P t (.slice e)] [hi : Inf P e zv size bytes] (hx : evl (real σ) x = v) (hv : v.cells.size = size) (hz : zv.cells.size = size) (hsz : 0 < size) (hm : size ≤ 16777216)
    (h : ∀ b w', w.heap.size ≤ b → Own w' b v.cells.toList → Frm w w' → WL P n ds ops Q rest (real (updG σ d ⟨.slice (pb b) 1 1, true⟩)) w') :
    WL P n ds ops Q (⟨some d, .buildSlice t 1 #[(0, x)], ty, pos, af, none⟩ :: rest) (real σ) w := by
  refine wl (h w.heap.size (w.alloc (.cells v.cells e)) (Nat.le_refl _) (own_alloc _ _ _) (frm_alloc _ _)) (Y.val ?_)
  simp only [execOp, List.map_toArray, List.map_cons, List.map_nil, hx, Sem.run_bind]
  rw [run_buildSlice1 (P := P) (t := t) (e := e) hz hv hsz hm]
  rfl

/-- []byte(s) -/
theorem wls2b [hu : Und P t .string] [hu' : Und P t' (.slice e)] [he : Und P e (.int .u8)] {s : List UInt8} (hx : evl (real σ) x = str s) (hs : s.length ≤ 9223372036854775807)
    (h : ∀ b c w', w.heap.size ≤ b → s.length ≤ c → c ≤ 9223372036854775807 → Im [] w' (pb b) (bs s) → Frm w w' → WL P n ds ops Q rest (real (updG σ d ⟨.slice (pb b) s.length c, true⟩)) w') :
    WL P n ds ops Q (⟨some d, .convert t t' x, ty, pos, af, none⟩ :: rest) (real σ) w := by
  let c := grownCap w s.length 0 e
  let C : Array Value := (s.toArray.map fun b => Value.int .u8 b.toNat) ++ Array.replicate (c - s.length) (.int .u8 0)
  have hge : s.length ≤ c := grownCap_ge w s.length 0 e
  have hcm : c ≤ maxLen := grownCap_le_maxLen w s.length 0 e (by unfold maxLen; omega)
  have hsz : C.size = c := by simp [C]; omega
  have hheap : (w.drew.alloc (.cells C e)).heap[w.heap.size]? = some (.cells C e) := heap_alloc_new w.drew _
  let w' := (w.drew.alloc (.cells C e)).freeze ⟨w.heap.size, C.size, none⟩ 1
  have hw' : w'.heap[w.heap.size]? = some (.cells C e (C.size, C.size + 1)) := by
    simp only [w', World.freeze, Nat.one_ne_zero, if_false, Array.getElem?_modify, if_true]
    rw [hheap]; simp
  have hother : ∀ k, k < w.heap.size → w'.heap[k]? = w.heap[k]? := by
    intro k hk
    simp only [w', World.freeze, Nat.one_ne_zero, if_false, Array.getElem?_modify]
    rw [if_neg (by omega)]
    exact Below.heap_alloc w.drew _ k hk
  refine wl (h w.heap.size c w' (Nat.le_refl _) hge (by unfold maxLen at hcm; omega) ?_ ?_) (Y.val ?_)
  · refine .inr ⟨_, rfl, fun i hi => ?_, (Array.getElem?_eq_some_iff.1 hw').1, by simp⟩
    have ea : (⟨w.heap.size, 0, none⟩ : Addr).add i = ⟨w.heap.size, i, none⟩ := by unfold Addr.add; split <;> simp_all
    rw [ea, cell_of_row w' _ i C e _ hw']
    have hi' : i < s.length := by simpa using hi
    have hlt : i < (s.toArray.map fun b => Value.int .u8 b.toNat).size := by simpa using hi'
    simp only [C]
    rw [Array.getElem?_append_left hlt]
    simp [bs, hi']
  · exact ⟨rfl, rfl, rfl, by simp [w', World.freeze], hother⟩
  · have e1 : (ByteArray.mk s.toArray).data = s.toArray := rfl
    simp only [execOp, hx, convert, underlying, Sem.run_bind, run_program, Result.andThen_ok, hu.ok, hu'.ok, he.ok, Sem.run_pure, Conv.stringToBytes, run_choose, Question.forced, size_str, newRow, run_newObj, markStringish, run_shape]
    have hshape : (w.drew.alloc (.cells C e)).shape? w.heap.size = some (e, C.size) := by simp only [World.shape?, hheap]
    have hr : (w.drew.heap.size) = w.heap.size := rfl
    simp only [Bool.false_eq_true, if_false, Result.andThen_ok, World.alloc_eq, e1]
    change (((Sem.run P (match (w.drew.alloc (.cells C e)).shape? w.heap.size with | some (_, n) => freeze { block := w.heap.size, off := n } 1 | _ => pure ()) (w.drew.alloc (.cells C e))).andThen _).andThen _) = _
    rw [hshape]
    simp only [run_freeze, Result.andThen_ok, Sem.run_pure]
    rfl
end

/-! ## Literals of structs -/
def setSeg (l : List Value) (off : Nat) (vs : List Value) : List Value := l.take off ++ vs ++ l.drop (off + vs.length)
def fillL (pl : List (Nat × Nat)) : List Value → List (Nat × Value) → Option (List Value)
  | cells, [] => some cells
  | cells, (i, v) :: rest => match pl[i]? with
    | none => none
    | some (off, size) => if v.cells.size = size ∧ off + size ≤ cells.length then fillL pl (setSeg cells off v.cells.toList) rest else none

theorem foldl_setSeg (off : Nat) : ∀ (l : List Value) (k : Nat) (z : Array Value), off + k + l.length ≤ z.size → (l.zipIdx k).foldl (fun cs (p : Value × Nat) => cs.setIfInBounds (off + p.2) p.1) z = (setSeg z.toList (off + k) l).toArray := by
  intro l
  induction l with
  | nil => intro k z hk; simp [setSeg]
  | cons x l ih =>
    intro k z hk
    simp only [List.zipIdx_cons, List.foldl_cons]
    have := ih (k + 1) (z.setIfInBounds (off + k) x) (by simp at hk ⊢; omega)
    rw [this]
    congr 1
    simp only [setSeg, Array.toList_setIfInBounds]
    have hkl : off + k < z.toList.length := by simp at hk ⊢; omega
    rw [show off + (k + 1) = off + k + 1 from by omega, List.take_succ_eq_append_getElem (by simpa using hkl), List.take_set_of_le (Nat.le_refl _), List.drop_set_of_lt (by omega)]
    simp only [List.getElem_set_self, List.append_assoc, List.cons_append, List.nil_append, List.length_cons]
    congr 4
    omega

theorem fill_fillL (pl : List (Nat × Nat)) : ∀ (parts : List (Nat × Value)) (cells r : List Value), fillL pl cells parts = some r → Instr.fill (pl.toArray[·]?) cells.toArray parts = some r.toArray
  | [], cells, r, h => by simp only [fillL, Option.some.injEq] at h; subst h; rfl
  | (i, v) :: rest, cells, r, h => by
    simp only [fillL] at h
    have e : pl.toArray[i]? = pl[i]? := by simp
    simp only [Instr.fill, e]
    split at h
    · cases h
    · rename_i off size hp
      rw [hp]
      split at h
      · rename_i hc
        have hcond : ¬ ((v.cells.size ≠ size || off + v.cells.size > cells.toArray.size) = true) := by
          obtain ⟨h1, h2⟩ := hc
          simp [h1]; omega
        simp only [hcond, if_false]
        have hf := foldl_setSeg off v.cells.toList 0 cells.toArray (by obtain ⟨h1, h2⟩ := hc; simp; omega)
        have hf2 : v.cells.zipIdx.foldl (fun cs (x : Value × Nat) => cs.setIfInBounds (off + x.2) x.1) cells.toArray = (setSeg cells off v.cells.toList).toArray := by
          rw [← Array.foldl_toList]
          simpa [Array.toList_zipIdx] using hf
        rw [show (fun cs (x : Value × Nat) => match x with | (c, j) => cs.setIfInBounds (off + j) c) = (fun (cs : Array Value) (x : Value × Nat) => cs.setIfInBounds (off + x.2) x.1) from rfl, hf2]
        exact fill_fillL pl rest _ r h
      · cases h

section
variable {P : Program} {n : Nat} {ds : Ctx} {ops : Array Oper} {Q : Exit → Ctx → Env → World → Prop} {rest : List Oper} {σ : GE} {w : World} {v : Value} {d : Nat} {ty t t' e e' : TypeId} {pos : String} {af : Array Edge} {x y : Operand} {zv : Value} {size bytes : Nat} {p q : Option Addr} {l xs news : List Value} {b i m k c c' : Nat} {M : List Nat}
theorem y_build {σ : Env} {d : Option Nat} {g : Option (Nat × Bool)} {pl : List (Nat × Nat)} {ps : List (Nat × Operand)} {cells : List Value} [hf : Flds P t pl] [hi : Inf P t zv size bytes] (h : fillL pl zv.cells.toList (ps.map fun p => (p.1, evl σ p.2)) = some cells) :
    Y P σ ⟨d, .build t ps.toArray, ty, pos, af, g⟩ w (.agg cells.toArray) w := by
  obtain ⟨fs, h1, h2⟩ := hf.ok
  have h3 := fill_fillL pl _ _ _ h
  refine Y.val ?_
  simp only [execOp, Instr.build, Sem.run_bind, run_zeroValue (P := P) (t := t), Result.andThen_ok, underlying, run_program, h1, Sem.run_pure, h2]
  have e1 : (ps.toArray.map fun (x : Nat × Operand) => match x with | (i, x) => (i, evl σ x)).toList = ps.map fun p => (p.1, evl σ p.2) := by simp
  rw [e1]
  have e2 : zv.cells.toList.toArray = zv.cells := by simp
  rw [e2] at h3
  rw [h3]
  rfl
theorem wlbuild {pl : List (Nat × Nat)} {ps : List (Nat × Operand)} {cells : List Value} [hf : Flds P t pl] [hi : Inf P t zv size bytes]
    (h : WL P n ds ops Q rest (real (updG σ d ⟨.agg cells.toArray, true⟩)) w)
    (hc : fillL pl zv.cells.toList (ps.map fun p => (p.1, evl (real σ) p.2)) = some cells := by
      simp only [List.map, Go.Sv.evl, Go.Sv.realB, Nat.reduceBEq, cond_true, cond_false, Go.Sv.rv_true, Go.Sv.entG, Go.Sv.updGL]
      simp [Go.Sv.fillL, Go.Sv.setSeg, Go.Value.cells]
      first | done | rfl) :
    WL P n ds ops Q (⟨some d, .build t ps.toArray, ty, pos, af, none⟩ :: rest) (real σ) w := wl h (y_build hc)

end
end Go.Sv

/-
  Calls by contract: in regions that draw, and guarded.
-/
set_option linter.unusedSimpArgs false
set_option linter.unusedVariables false
set_option linter.unnecessarySimpa false
namespace Go.Sv
open Go Go.RowKit

/-! ## Calls by contract -/
section
variable {P : Program} {n : Nat} {ds : Ctx} {ops : Array Oper} {Q : Exit → Ctx → Env → World → Prop} {QE : Env → Prop} {rest : List Oper} {σ : GE} {w w0 : World} {v : Value} {d : Nat} {ty : TypeId} {pos : String} {af : Array Edge} {j dj : Nat} {want b c : Bool}
theorem am1 {σ : Env} {x : Operand} {v : Value} (h : evl σ x = v) : [x].map (evl σ) = [v] := by simp [h]
theorem am2 {σ : Env} {x y : Operand} {v u : Value} (h : evl σ x = v) (h2 : evl σ y = u) : [x, y].map (evl σ) = [v, u] := by simp [h, h2]
theorem am3 {σ : Env} {x y z : Operand} {v u t : Value} (h : evl σ x = v) (h2 : evl σ y = u) (h3 : evl σ z = t) : [x, y, z].map (evl σ) = [v, u, t] := by simp [h, h2, h3]
theorem qlcallp {f : FuncId} [hf : Fnc P f] {args : List Operand} {ats : Array TypeId}
    (hc : ∀ w, Frm w0 w → PureC P f (args.map (evl (real σ))).toArray w v) (h : QL P n ds ops (Frm w0) QE rest (real (updG σ d ⟨v, true⟩))) :
    QL P n ds ops (Frm w0) QE (⟨some d, .call ⟨.value (.func f), args.toArray, ats⟩, ty, pos, af, none⟩ :: rest) (real σ) := qlcall h fun w hw => hc w hw
/-- a guarded call in a region in order: what it answers, and the world behind it, both ways -/
theorem wlcallgp {f : FuncId} [hf : Fnc P f] {args : List Operand} {ats : Array TypeId} {vals : List Value}
    (hc : (b && (c == want)) = true → PureC P f vals.toArray w v) (h : ∀ w', Frm w w' → WL P n ds ops Q rest (real (updG σ d ⟨v, b && (c == want)⟩)) w')
    (hj : (ops[j]?).bind (·.dst) = some dj := by rfl) (hσ : σ dj = ⟨.bool c, b⟩ := by rfl)
    (ha : (b && (c == want)) = true → args.map (evl (real σ)) = vals := by
    intro hgd
    first
    | exact Go.Sv.am1 (evG hgd)
    | exact Go.Sv.am2 (evG hgd) (evG hgd)
    | exact Go.Sv.am3 (evG hgd) (evG hgd) (evG hgd)) :
    WL P n ds ops Q (⟨some d, .call ⟨.value (.func f), args.toArray, ats⟩, ty, pos, af, some (j, want)⟩ :: rest) (real σ) w := by
  have hw := wanted_real (ops := ops) (o := ⟨some d, .call ⟨.value (.func f), args.toArray, ats⟩, ty, pos, af, some (j, want)⟩) rfl hj hσ
  cases hb : (b && (c == want)) with
  | true =>
    rw [hb] at hw
    refine WL_call_want (R := fun u w' => u = v ∧ Frm w w') hw ?_ ?_
    · have := hc hb
      rw [← ha hb] at this
      unfold PureC at this
      simpa using this
    · rintro u w' ⟨rfl, hf⟩
      have := h w' hf
      rw [hb] at this
      rw [← real_upd] at this
      exact this
  | false =>
    rw [hb] at hw
    refine WL_skip hw ?_
    have := h w (Frm.refl w)
    rw [hb] at this
    rw [← real_upd] at this
    exact this
end

theorem Frm.step {a b c : World} {M : List Nat} (h : Frm a b) (k : Le M b c) (hM : ∀ x ∈ M, a.heap.size ≤ x) : Frm a c :=
  ⟨k.os.trans h.os, k.tape.trans h.tape, k.output.trans h.output, Nat.le_trans h.size k.size, fun i hi => by
    rw [k.block i (Nat.lt_of_lt_of_le hi h.size) (fun hm => by have := hM i hm; omega)]; exact h.block i hi⟩
theorem Lm.fresh {M M' : List Nat} {a w w' : World} (h : Lm M w M' w') (hf : Frm a w) (hM : ∀ x ∈ M, a.heap.size ≤ x) : ∀ x ∈ M', a.heap.size ≤ x := fun x hx => by
  rcases Nat.lt_or_ge x w.heap.size with h1 | h1
  · exact hM x (h.2 x hx h1)
  · exact Nat.le_trans hf.size h1
/-! ## Stores -/
section
variable {P : Program} {n : Nat} {ds : Ctx} {ops : Array Oper} {Q : Exit → Ctx → Env → World → Prop} {rest : List Oper} {σ : GE} {w : World} {v : Value} {ty t : TypeId} {pos : String} {af : Array Edge} {x y : Operand} {zv : Value} {size bytes : Nat} {l vs : List Value} {b i : Nat}
/-- a whole struct into a block of one's own -/
theorem wlstorea0 [hi : Inf P t zv size bytes] (ho : Own w b l) (h : ∀ w', Own w' b vs → Le [b] w w' → WL P n ds ops Q rest (real σ) w')
    (hx : evl (real σ) x = ptrAt (pb b) 0 := by rfl) (hy : evl (real σ) y = .agg ⟨vs⟩ := by rfl) (hv : vs.length = size ∧ l.length = size := by first | exact ⟨rfl, rfl⟩ | (simp; done)) (h1 : ∀ u ∈ vs, u.oneCell' = true := by simp [Go.Value.oneCell']) :
    WL P n ds ops Q (⟨none, .store t x y, ty, pos, af, none⟩ :: rest) (real σ) w := by
  refine wlstore hx hy ho (by simpa [Value.cells] using hv.1) (by omega) (by simpa [Value.cells] using h1) fun w' h2 h3 => h w' ?_ h3
  simp only [Value.cells, List.take_zero, List.nil_append, Nat.zero_add] at h2
  rw [← hv.2, List.drop_length, List.append_nil] at h2
  exact h2
/-- one cell into a block of one's own -/
theorem wlstore1 [hi : Inf P t zv 1 bytes] (hx : evl (real σ) x = ptrAt (pb b) i) (hy : evl (real σ) y = v) (ho : Own w b l) (hc : v.cells = #[v]) (h1 : v.oneCell' = true) (hk : i < l.length)
    (h : ∀ w', Own w' b (l.set i v) → Le [b] w w' → WL P n ds ops Q rest (real σ) w') :
    WL P n ds ops Q (⟨none, .store t x y, ty, pos, af, none⟩ :: rest) (real σ) w := by
  refine wlstore hx hy ho (by simp [hc]) (by omega) (by simp [hc, h1]) fun w' h2 h3 => h w' ?_ h3
  rw [hc] at h2
  have e : l.take i ++ [v] ++ l.drop (i + 1) = l.set i v := by
    rw [List.set_eq_take_append_cons_drop, if_pos hk]; simp
  simpa [e] using h2
variable {k : IntKind} {a : Int} {s : List UInt8} {c : Bool} {p : Option Addr} {m cc : Nat}
end

/-! ## append, by what lies at hand -/
section
variable {P : Program} {n : Nat} {ds : Ctx} {ops : Array Oper} {Q : Exit → Ctx → Env → World → Prop} {rest : List Oper} {σ : GE} {w : World} {v : Value} {d : Nat} {ty t t' e e' : TypeId} {pos : String} {af : Array Edge} {x y : Operand} {zv : Value} {size bytes : Nat} {p q : Option Addr} {l xs news vs : List Value} {b i m k c c' : Nat}
theorem wlapp [hu : Und P t (.slice e)] [hu' : Und P t' (.slice e')] [hi : Inf P e zv size bytes] (hr : Row w size p m c xs) (hs : Sg w q news)
    (h : ∀ p' c' w', Row w' size p' (m + k) c' (xs ++ news) → Lm (rb p) w (rb p') w' → WL P n ds ops Q rest (real (updG σ d ⟨.slice p' (m + k) c', true⟩)) w')
    (hx : evl (real σ) x = .slice p m c := by rfl) (hy : evl (real σ) y = .slice q k c' := by rfl) (hl : news.length = k * size := by first | rfl | (simp; done))
    (h1 : ∀ u ∈ news, u.oneCell' = true := by simp [Go.Value.oneCell']) (hz : zv.cells.size = size := by rfl) (hsz : 0 < size := by decide) (hb : (m + k) * bytes ≤ 140737488355328 ∧ m + k ≤ 9223372036854775807 := by omega) :
    WL P n ds ops Q (⟨some d, .call ⟨.builtin .append, #[x, y], #[t, t']⟩, ty, pos, af, none⟩ :: rest) (real σ) w := wlappend hx hr hy hs hl h1 hz hsz hb h
theorem wlb1a [hu : Und P t (.slice e)] [hi : Inf P e zv size bytes] (h : ∀ b w', w.heap.size ≤ b → Own w' b vs → Frm w w' → WL P n ds ops Q rest (real (updG σ d ⟨.slice (pb b) 1 1, true⟩)) w')
    (hx : evl (real σ) x = .agg ⟨vs⟩ := by rfl) (hv : vs.length = size := by first | rfl | (simp; done)) (hz : zv.cells.size = size := by rfl) (hsz : 0 < size := by decide) (hm : size ≤ 16777216 := by decide) :
    WL P n ds ops Q (⟨some d, .buildSlice t 1 #[(0, x)], ty, pos, af, none⟩ :: rest) (real σ) w := wlbuild1 hx (by simpa [Value.cells] using hv) hz hsz hm (by simpa [Value.cells] using h)
theorem wlb1v [hu : Und P t (.slice e)] [hi : Inf P e zv 1 bytes] (hx : evl (real σ) x = v) (hv : v.cells = #[v]) (h : ∀ b w', w.heap.size ≤ b → Own w' b [v] → Frm w w' → WL P n ds ops Q rest (real (updG σ d ⟨.slice (pb b) 1 1, true⟩)) w') (hz : zv.cells.size = 1) :
    WL P n ds ops Q (⟨some d, .buildSlice t 1 #[(0, x)], ty, pos, af, none⟩ :: rest) (real σ) w := wlbuild1 hx (by simp [hv]) hz (by decide) (by decide) (by simpa [hv] using h)
variable {s : List UInt8} {kk : IntKind} {a : Int} {bb : Bool}
end
end Go.Sv

/-
  Many steps at once.
-/
set_option linter.unusedSimpArgs false
set_option linter.unusedVariables false
set_option linter.unnecessarySimpa false
namespace Go.Sv
open Go Go.RowKit
/-- what is left to show, behind a name -/
structure Wrap (B : Prop) : Prop where
  of : B
/-- straight on, as far as it goes -/
theorem sgo {A B : Prop} (h : B) (hs : Wrap B → A := by
    intro h0
    repeat (first | (show WL _ _ _ _ _ _ _ _; (first | refine wlp ?_ | refine WL_nil ?_ | (show WL _ _ _ _ _ (Go.Oper.mk _ _ _ _ _ none :: _) _ _; first | refine wlpk ?_ | refine wl_load ?_ | refine wl_idxa ?_ | refine wl_fld ?_ | refine wl_idx ?_ | refine wl_len ?_ | refine wl_bin ?_ | refine wl_cnv ?_ | refine wl_slc ?_ | refine wl_una ?_ | refine wl_nilc ?_ | refine wl_mkf ?_) | refine wlpg ?_ | refine wlg_load ?_ | refine wlg_idxa ?_ | refine wlg_fld ?_ | refine wlg_idx ?_ | refine wlg_len ?_ | refine wlg_bin ?_ | refine wlg_cnv ?_ | refine wlg_slc ?_ | refine wlg_una ?_ | refine wlg_nilc ?_ | refine wlg_mkf ?_)) | (show thn _ _ _ _ _ _; (first | refine thn_normal ?_ | refine thn_ret ?_ | refine thn_exit ?_)) | (show thl _ _ _ _ _ _ _; (first | refine thl_normal ?_ | refine thl_ret ?_ | refine thl_exit ?_)) | (show WC _ _ _ _ _ _ _; (first | refine WC_seq ?_ | refine WC_region ?_ | refine WC_ret ?_ | refine WC_skip ?_ | refine WC_block ?_ | refine WC_exit ?_ | refine WC_label ?_ | refine WC_scope rfl ?_ | refine wcyes ?_ | refine wcno ?_)) | (show blk _ _ _ _ _ _; (first | refine blk_ret ?_ | refine blk_here ?_ | refine blk_on rfl ?_ | refine blk_normal ?_)) | (show ngt _ _ _ _ _; (first | refine ngt_normal ?_ | refine ngt_ret ?_ | refine ngt_exit ?_)))
    exact h0.of) : A := hs ⟨h⟩
theorem qgo {A B : Prop} (h : B) (hs : Wrap B → A := by
    intro h0
    repeat (first | refine qlp ?_ | refine qlpg ?_ | refine qlpk ?_ | refine ql_load ?_ | refine ql_idxa ?_ | refine ql_fld ?_ | refine ql_idx ?_ | refine ql_len ?_ | refine ql_bin ?_ | refine ql_cnv ?_ | refine ql_slc ?_ | refine ql_una ?_ | refine ql_nilc ?_ | refine ql_mkf ?_ | refine qlg_load ?_ | refine qlg_idxa ?_ | refine qlg_fld ?_ | refine qlg_idx ?_ | refine qlg_len ?_ | refine qlg_bin ?_ | refine qlg_cnv ?_ | refine qlg_slc ?_ | refine qlg_una ?_ | refine qlg_nilc ?_ | refine qlg_mkf ?_)
    exact h0.of) : A := hs ⟨h⟩
end Go.Sv

/-
  Package utf: what 'bounds', 'read' and 'Valid' compute, and that they do.
-/
set_option linter.unusedSimpArgs false
set_option linter.unusedVariables false
set_option linter.unnecessarySimpa false
namespace Go.Proofs.YtmnnffenijjpcaaDoor
open Go Go.Sv Go.RowKit

def boundsS (c : Nat) : Int × Int × Int :=
  if c < 0x80 then (0, 0, 0) else if 0xc2 ≤ c ∧ c ≤ 0xdf then (1, 0x80, 0xbf) else if c = 0xe0 then (2, 0xa0, 0xbf) else if c = 0xed then (2, 0x80, 0x9f)
  else if 0xe1 ≤ c ∧ c ≤ 0xef then (2, 0x80, 0xbf) else if c = 0xf0 then (3, 0x90, 0xbf) else if 0xf1 ≤ c ∧ c ≤ 0xf3 then (3, 0x80, 0xbf) else if c = 0xf4 then (3, 0x80, 0x8f) else (-1, 0, 0)

set_option maxHeartbeats 2000000 in
theorem bounds_ok (c : Nat) (w : World) : PureC Tryd.prog 74 #[byt c] w (.tuple #[int (boundsS c).1, byt (boundsS c).2.1, byt (boundsS c).2.2]) := by
  refine enter (l := [byt c]) Tryd.func74 rfl Tryd.ntmps74 (by kernel_rfl) rfl ?_
  repeat' (first | (first | (show WL _ _ _ _ _ _ _ _; (first | refine wlp ?_ | refine WL_nil ?_ | (show WL _ _ _ _ _ (Go.Oper.mk _ _ _ _ _ none :: _) _ _; first | refine wlpk ?_ | refine wl_load ?_ | refine wl_idxa ?_ | refine wl_fld ?_ | refine wl_idx ?_ | refine wl_len ?_ | refine wl_bin ?_ | refine wl_cnv ?_ | refine wl_slc ?_ | refine wl_una ?_ | refine wl_nilc ?_ | refine wl_mkf ?_) | refine wlpg ?_ | refine wlg_load ?_ | refine wlg_idxa ?_ | refine wlg_fld ?_ | refine wlg_idx ?_ | refine wlg_len ?_ | refine wlg_bin ?_ | refine wlg_cnv ?_ | refine wlg_slc ?_ | refine wlg_una ?_ | refine wlg_nilc ?_ | refine wlg_mkf ?_)) | (show thn _ _ _ _ _ _; (first | refine thn_normal ?_ | refine thn_ret ?_ | refine thn_exit ?_)) | (show thl _ _ _ _ _ _ _; (first | refine thl_normal ?_ | refine thl_ret ?_ | refine thl_exit ?_)) | (show WC _ _ _ _ _ _ _; (first | refine WC_seq ?_ | refine WC_region ?_ | refine WC_ret ?_ | refine WC_skip ?_ | refine WC_block ?_ | refine WC_exit ?_ | refine WC_label ?_ | refine WC_scope rfl ?_ | refine wcyes ?_ | refine wcno ?_)) | (show blk _ _ _ _ _ _; (first | refine blk_ret ?_ | refine blk_here ?_ | refine blk_on rfl ?_ | refine blk_normal ?_)) | (show ngt _ _ _ _ _; (first | refine ngt_normal ?_ | refine ngt_ret ?_ | refine ngt_exit ?_))) | (show WC _ _ _ _ _ _ _; first | refine WC_dec rfl (fun hc => ?_) (fun hc => ?_) | refine WC_cond rfl (fun hc => ?_) (fun hc => ?_)))
  all_goals ((first | refine fp1 (.inl rfl) rfl rfl ?_ | refine fp2 (.inl rfl) rfl rfl rfl ?_ | refine fp3 (.inl rfl) rfl rfl rfl rfl ?_ | refine fp0 (.inr rfl) rfl ?_ | refine fp0 (.inl rfl) rfl ?_ | refine fp1 (.inr rfl) rfl rfl ?_); refine ⟨?_, by (first | exact Frm.refl _ | assumption | exact Go.Sv.Sep.frm (by assumption) | (refine Frm.trans ?_ (by assumption); first | exact Frm.refl _ | assumption))⟩)
  all_goals (show Value.tuple #[int _, byt _, byt _] = _)
  all_goals (try simp only [pkb_or, pkb_and, Bool.and_eq_true, Bool.or_eq_true, Bool.and_eq_false_iff, Bool.or_eq_false_iff, decide_eq_true_eq, decide_eq_false_iff_not, Bool.not_eq_true', Bool.not_eq_false'] at *)
  all_goals first
    | (rw [boundsS, if_pos (by omega)]; done)
    | (rw [boundsS, if_neg (by omega), if_pos (by omega)]; done)
    | (rw [boundsS, if_neg (by omega), if_neg (by omega), if_pos (by omega)]; done)
    | (rw [boundsS, if_neg (by omega), if_neg (by omega), if_neg (by omega), if_pos (by omega)]; done)
    | (rw [boundsS, if_neg (by omega), if_neg (by omega), if_neg (by omega), if_neg (by omega), if_pos (by omega)]; done)
    | (rw [boundsS, if_neg (by omega), if_neg (by omega), if_neg (by omega), if_neg (by omega), if_neg (by omega), if_pos (by omega)]; done)
    | (rw [boundsS, if_neg (by omega), if_neg (by omega), if_neg (by omega), if_neg (by omega), if_neg (by omega), if_neg (by omega), if_pos (by omega)]; done)
    | (rw [boundsS, if_neg (by omega), if_neg (by omega), if_neg (by omega), if_neg (by omega), if_neg (by omega), if_neg (by omega), if_neg (by omega), if_pos (by omega)]; done)
    | (rw [boundsS, if_neg (by omega), if_neg (by omega), if_neg (by omega), if_neg (by omega), if_neg (by omega), if_neg (by omega), if_neg (by omega), if_neg (by omega)]; done)

abbrev at0 (l : List UInt8) (i : Nat) : Nat := (l[i]?.getD 0).toNat
theorem at0_lt (l : List UInt8) (i : Nat) : at0 l i < 256 := UInt8.toNat_lt _

def rdLoop (l : List UInt8) (more : Nat) : Nat → Nat → Int → Int → Int → Int × Int × Int
  | 0, _, r, _, _ => (r, more + 1, 0)
  | f + 1, i, r, lo, hi => if i = l.length then (65533, i, 2) else if (at0 l i : Int) < lo ∨ hi < at0 l i then (65533, i, 1) else rdLoop l more f (i + 1) (r * 64 + (at0 l i % 64 : Nat)) 128 191
def readS (l : List UInt8) : Int × Int × Int :=
  if (boundsS (at0 l 0)).1 < 0 then (65533, 1, 1) else if (boundsS (at0 l 0)).1 = 0 then (at0 l 0, 1, 0)
  else rdLoop l (boundsS (at0 l 0)).1.toNat (boundsS (at0 l 0)).1.toNat 1 (at0 l 0 % 2 ^ (6 - (boundsS (at0 l 0)).1.toNat) : Nat) (boundsS (at0 l 0)).2.1 (boundsS (at0 l 0)).2.2

theorem boundsS_rng (c : Nat) : -1 ≤ (boundsS c).1 ∧ (boundsS c).1 ≤ 3 ∧ 0 ≤ (boundsS c).2.1 ∧ (boundsS c).2.1 ≤ 255 ∧ 0 ≤ (boundsS c).2.2 ∧ (boundsS c).2.2 ≤ 255 := by
  unfold boundsS; repeat' split
  all_goals simp

theorem mask_first (c m : Nat) (hc : c < 256) (h1 : 1 ≤ m) (h2 : m ≤ 3) : bitop .and .i32 (c : Int) ((63:Int).fdiv (2 ^ (min (m : Int).toNat IntKind.i32.bits))) = ((c % 2 ^ (6 - m) : Nat) : Int) := by
  have : m = 1 ∨ m = 2 ∨ m = 3 := by omega
  rcases this with rfl | rfl | rfl <;> · revert hc; revert c; decide +kernel
theorem mask6 (c : Nat) (hc : c < 256) : bitop .and .u8 (c : Int) 63 = ((c % 64 : Nat) : Int) := by revert hc; revert c; decide +kernel
theorem shl6 (r : Int) (h0 : 0 ≤ r) (h1 : r < 33554432) : IntKind.i32.wrap (r * 2 ^ (min (6 : Int).toNat IntKind.i32.bits)) = r * 64 := by
  have : (2 : Int) ^ (min (6 : Int).toNat IntKind.i32.bits) = 64 := by decide
  rw [this, wrap_in]
  simp [IntKind.min, IntKind.max, IntKind.signed, IntKind.bits]; omega
theorem or6 (r x : Nat) (h1 : r < 33554432) (hx : x < 64) : bitop .or .i32 ((r : Int) * 64) (x : Int) = (r : Int) * 64 + x := by
  have e : (r : Int) * 64 = ((r * 64 : Nat) : Int) := by simp
  rw [e]
  simp only [bitop]
  have h2 : (BitVec.ofInt IntKind.i32.bits ((r * 64 : Nat) : Int) ||| BitVec.ofInt IntKind.i32.bits (x : Int)).toNat = r * 64 + x := by
    rw [BitVec.ofInt_natCast, BitVec.ofInt_natCast, BitVec.toNat_or, BitVec.toNat_ofNat, BitVec.toNat_ofNat]
    have e1 : r * 64 % 2 ^ IntKind.i32.bits = r * 64 := Nat.mod_eq_of_lt (by show _ < 2 ^ 32; omega)
    have e2 : x % 2 ^ IntKind.i32.bits = x := Nat.mod_eq_of_lt (by show _ < 2 ^ 32; omega)
    rw [e1, e2, show r * 64 = 2 ^ 6 * r from by omega]
    exact (Nat.two_pow_add_eq_or_of_lt (i := 6) (by omega) r).symm
  rw [h2, wrap_in]
  · simp
  · simp [IntKind.min, IntKind.max, IntKind.signed, IntKind.bits]; omega

end Go.Proofs.YtmnnffenijjpcaaDoor

/-
  Package utf: 'read' and 'Valid'.
-/
set_option linter.unusedSimpArgs false
set_option linter.unusedVariables false
set_option linter.unnecessarySimpa false
namespace Go.Proofs.YtmnnffenijjpcaaDoor
open Go Go.Sv Go.RowKit
theorem or_step (r x : Nat) (h1 : r < 33554432) (hx : x < 256) : bitop .or .i32 (IntKind.i32.wrap ((r : Int) * 2 ^ (min (6 : Int).toNat IntKind.i32.bits))) (IntKind.i32.wrap (bitop .and .u8 (x : Int) 63)) = ((r * 64 + x % 64 : Nat) : Int) := by
  rw [shl6 r (by omega) (by omega), mask6 x hx, wrap_in (k := .i32) (n := ((x % 64 : Nat) : Int)) (by simp [IntKind.min, IntKind.max, IntKind.signed, IntKind.bits]; omega), or6 r (x % 64) h1 (by omega)]
  simp

set_option maxHeartbeats 1000000 in
theorem read_ok (l : List UInt8) (p : Option Addr) (c : Nat) (h0 : 0 < l.length) (hc : l.length ≤ c) (hb : l.length < 4611686018427387904) (M : List Nat) (w : World) (hi : Im M w p (bs l)) :
    PureC Tryd.prog 57 #[.slice p l.length c] w (.tuple #[i32 (readS l).1, int (readS l).2.1, int (readS l).2.2]) := by
  have hr := boundsS_rng (at0 l 0)
  refine enter (l := [.slice p l.length c]) Tryd.func57 rfl Tryd.ntmps57 (by kernel_rfl) rfl ?_
  refine sgo ?_
  refine wlpure (bounds_ok (at0 l 0) _) fun w1 hw1 => ?_
  replace hi := hi.frm hw1
  repeat' (first | (first | (show WL _ _ _ _ _ _ _ _; (first | refine wlp ?_ | refine WL_nil ?_ | (show WL _ _ _ _ _ (Go.Oper.mk _ _ _ _ _ none :: _) _ _; first | refine wlpk ?_ | refine wl_load ?_ | refine wl_idxa ?_ | refine wl_fld ?_ | refine wl_idx ?_ | refine wl_len ?_ | refine wl_bin ?_ | refine wl_cnv ?_ | refine wl_slc ?_ | refine wl_una ?_ | refine wl_nilc ?_ | refine wl_mkf ?_) | refine wlpg ?_ | refine wlg_load ?_ | refine wlg_idxa ?_ | refine wlg_fld ?_ | refine wlg_idx ?_ | refine wlg_len ?_ | refine wlg_bin ?_ | refine wlg_cnv ?_ | refine wlg_slc ?_ | refine wlg_una ?_ | refine wlg_nilc ?_ | refine wlg_mkf ?_)) | (show thn _ _ _ _ _ _; (first | refine thn_normal ?_ | refine thn_ret ?_ | refine thn_exit ?_)) | (show thl _ _ _ _ _ _ _; (first | refine thl_normal ?_ | refine thl_ret ?_ | refine thl_exit ?_)) | (show WC _ _ _ _ _ _ _; (first | refine WC_seq ?_ | refine WC_region ?_ | refine WC_ret ?_ | refine WC_skip ?_ | refine WC_block ?_ | refine WC_exit ?_ | refine WC_label ?_ | refine WC_scope rfl ?_ | refine wcyes ?_ | refine wcno ?_)) | (show blk _ _ _ _ _ _; (first | refine blk_ret ?_ | refine blk_here ?_ | refine blk_on rfl ?_ | refine blk_normal ?_)) | (show ngt _ _ _ _ _; (first | refine ngt_normal ?_ | refine ngt_ret ?_ | refine ngt_exit ?_))) | (show WC _ _ _ _ _ _ _; first | refine WC_dec rfl (fun hc => ?_) (fun hc => ?_) | refine WC_cond rfl (fun hc => ?_) (fun hc => ?_)))
  · (first | refine fp1 (.inl rfl) rfl rfl ?_ | refine fp2 (.inl rfl) rfl rfl rfl ?_ | refine fp3 (.inl rfl) rfl rfl rfl rfl ?_ | refine fp0 (.inr rfl) rfl ?_ | refine fp0 (.inl rfl) rfl ?_ | refine fp1 (.inr rfl) rfl rfl ?_); refine ⟨?_, by (first | exact Frm.refl _ | assumption | exact Go.Sv.Sep.frm (by assumption) | (refine Frm.trans ?_ (by assumption); first | exact Frm.refl _ | assumption))⟩; (try simp only [realB, rv_true, Nat.reduceBEq, cond_true, cond_false, entG, real_lif, updGL])
    simp only [readS]; rw [if_pos (by omega)]
  · (first | refine fp1 (.inl rfl) rfl rfl ?_ | refine fp2 (.inl rfl) rfl rfl rfl ?_ | refine fp3 (.inl rfl) rfl rfl rfl rfl ?_ | refine fp0 (.inr rfl) rfl ?_ | refine fp0 (.inl rfl) rfl ?_ | refine fp1 (.inr rfl) rfl rfl ?_); refine ⟨?_, by (first | exact Frm.refl _ | assumption | exact Go.Sv.Sep.frm (by assumption) | (refine Frm.trans ?_ (by assumption); first | exact Frm.refl _ | assumption))⟩; (try simp only [realB, rv_true, Nat.reduceBEq, cond_true, cond_false, entG, real_lif, updGL])
    simp only [readS]; rw [if_neg (by omega), if_pos (by omega)]
  · rename_i hc1 hc2
    (first | refine WC_seq ?_ | skip); refine wcdraw ?_
    refine qgo ?_
    refine QL_nil ?_; intro wd hwd
    replace hi := hi.frm hwd
    have hw2 : Frm w wd := hw1.trans hwd
    generalize hB : boundsS (at0 l 0) = B at *
    obtain ⟨more, lo, hi'⟩ := B
    simp only at *
    obtain ⟨m, rfl⟩ := Int.eq_ofNat_of_zero_le (a := more) (by omega)
    have hS : readS l = rdLoop l m m 1 (at0 l 0 % 2 ^ (6 - m) : Nat) lo hi' := by
      simp only [readS, hB]; rw [if_neg (by omega), if_neg (by omega)]; rfl
    have hr0 : at0 l 0 % 2 ^ (6 - m) < 32 := by
      have : m = 1 ∨ m = 2 ∨ m = 3 := by omega
      rcases this with rfl | rfl | rfl <;> simp <;> omega
    refine sgo ?_
    refine wcloop (X := Nat × Nat × Int × Int) (fun x => [(0, .slice p l.length c), (5, int m), (6, byt x.2.2.1), (7, byt x.2.2.2), (8, i32 x.2.1), (9, int x.1)])
      (fun x wr => 1 ≤ x.1 ∧ x.1 ≤ m + 1 ∧ x.1 ≤ l.length ∧ (x.1 ≤ 3 → x.2.1 < 32 * 64 ^ (x.1 - 1)) ∧ 0 ≤ x.2.2.1 ∧ x.2.2.1 ≤ 255 ∧ 0 ≤ x.2.2.2 ∧ x.2.2.2 ≤ 255 ∧ readS l = rdLoop l m (m + 1 - x.1) x.1 x.2.1 x.2.2.1 x.2.2.2 ∧ Frm w wr ∧ Im M wr p (bs l))
      (fun x => m + 1 - x.1) (1, at0 l 0 % 2 ^ (6 - m), lo, hi') ⟨rfl, rfl, rfl, rfl, ?_, rfl, trivial⟩ ?_ ?_
    · show i32 _ = i32 _
      exact congrArg i32 (mask_first (at0 l 0) m (at0_lt l 0) (by omega) (by omega))
    · dsimp only; exact ⟨Nat.le_refl _, by omega, by omega, by intro _; simpa using hr0, by omega, by omega, by omega, by omega, by simpa using hS, hw2, hi⟩
    · rintro ⟨i, r, lo2, hi2⟩ wr ρ ⟨hi1, him, hil, hr1, hl0, hl1, hh0, hh1, hSr, hfr, hIm⟩
      dsimp only at hi1 him hil hr1 hl0 hl1 hh0 hh1 hSr ⊢
      repeat' (first | (first | (show WL _ _ _ _ _ _ _ _; (first | refine wlp ?_ | refine WL_nil ?_ | (show WL _ _ _ _ _ (Go.Oper.mk _ _ _ _ _ none :: _) _ _; first | refine wlpk ?_ | refine wl_load ?_ | refine wl_idxa ?_ | refine wl_fld ?_ | refine wl_idx ?_ | refine wl_len ?_ | refine wl_bin ?_ | refine wl_cnv ?_ | refine wl_slc ?_ | refine wl_una ?_ | refine wl_nilc ?_ | refine wl_mkf ?_) | refine wlpg ?_ | refine wlg_load ?_ | refine wlg_idxa ?_ | refine wlg_fld ?_ | refine wlg_idx ?_ | refine wlg_len ?_ | refine wlg_bin ?_ | refine wlg_cnv ?_ | refine wlg_slc ?_ | refine wlg_una ?_ | refine wlg_nilc ?_ | refine wlg_mkf ?_)) | (show thn _ _ _ _ _ _; (first | refine thn_normal ?_ | refine thn_ret ?_ | refine thn_exit ?_)) | (show thl _ _ _ _ _ _ _; (first | refine thl_normal ?_ | refine thl_ret ?_ | refine thl_exit ?_)) | (show WC _ _ _ _ _ _ _; (first | refine WC_seq ?_ | refine WC_region ?_ | refine WC_ret ?_ | refine WC_skip ?_ | refine WC_block ?_ | refine WC_exit ?_ | refine WC_label ?_ | refine WC_scope rfl ?_ | refine wcyes ?_ | refine wcno ?_)) | (show blk _ _ _ _ _ _; (first | refine blk_ret ?_ | refine blk_here ?_ | refine blk_on rfl ?_ | refine blk_normal ?_)) | (show ngt _ _ _ _ _; (first | refine ngt_normal ?_ | refine ngt_ret ?_ | refine ngt_exit ?_))) | (show WC _ _ _ _ _ _ _; first | refine WC_dec rfl (fun hc => ?_) (fun hc => ?_) | refine WC_cond rfl (fun hc => ?_) (fun hc => ?_)))
      · -- the bytes end
        (first | refine fp1 (.inl rfl) rfl rfl ?_ | refine fp2 (.inl rfl) rfl rfl rfl ?_ | refine fp3 (.inl rfl) rfl rfl rfl rfl ?_ | refine fp0 (.inr rfl) rfl ?_ | refine fp0 (.inl rfl) rfl ?_ | refine fp1 (.inr rfl) rfl rfl ?_)
        refine ⟨?_, hfr⟩
        have e : m + 1 - i = (m - i) + 1 := by omega
        rw [hSr, e, rdLoop, if_pos (by omega)]; rfl
      · -- a byte that may not be there
        (first | refine fp1 (.inl rfl) rfl rfl ?_ | refine fp2 (.inl rfl) rfl rfl rfl ?_ | refine fp3 (.inl rfl) rfl rfl rfl rfl ?_ | refine fp0 (.inr rfl) rfl ?_ | refine fp0 (.inl rfl) rfl ?_ | refine fp1 (.inr rfl) rfl rfl ?_)
        refine ⟨?_, hfr⟩
        have e : m + 1 - i = (m - i) + 1 := by omega
        rw [pkb_or, Bool.or_eq_true, decide_eq_true_eq, decide_eq_true_eq] at hc
        rw [hSr, e, rdLoop, if_neg (by omega), if_pos hc]; rfl
      · -- on
        rw [pkb_or, Bool.or_eq_false_iff, decide_eq_false_iff_not, decide_eq_false_iff_not] at hc
        have hb6 : at0 l i < 256 := at0_lt l i
        have hr2 := hr1 (by omega)
        have hr3 : r < 131072 := by
          have : i = 1 ∨ i = 2 ∨ i = 3 := by omega
          rcases this with h | h | h <;> subst h <;> simp at hr2 <;> omega
        refine ⟨(i + 1, r * 64 + at0 l i % 64, 128, 191), ⟨rfl, rfl, rfl, rfl, ?_, ?_, trivial⟩, ⟨?_, ?_, ?_, ?_, ?_, ?_, ?_, ?_, ?_, hfr, hIm⟩, ?_⟩
        · exact congrArg i32 (or_step r (at0 l i) (by omega) hb6)
        · rfl
        all_goals dsimp only
        all_goals first | omega | skip
        · intro hi3
          have : i = 1 ∨ i = 2 ∨ i = 3 := by omega
          rcases this with h | h | h <;> subst h <;> simp at hr2 ⊢ <;> omega
        · have e : m + 1 - i = (m - i) + 1 := by omega
          rw [hSr, e, rdLoop, if_neg (by omega), if_neg (by simp only [at0]; omega)]
          have e2 : m + 1 - (i + 1) = m - i := by omega
          rw [e2]; simp
      · -- all are there
        (first | refine fp1 (.inl rfl) rfl rfl ?_ | refine fp2 (.inl rfl) rfl rfl rfl ?_ | refine fp3 (.inl rfl) rfl rfl rfl rfl ?_ | refine fp0 (.inr rfl) rfl ?_ | refine fp0 (.inl rfl) rfl ?_ | refine fp1 (.inr rfl) rfl rfl ?_)
        refine ⟨?_, hfr⟩
        have e : m + 1 - i = 0 := by omega
        rw [hSr, e, rdLoop]; rfl

theorem read_any (l : List UInt8) (p : Option Addr) (n c : Nat) (hn : n = l.length) (h0 : 0 < l.length) (hc : l.length ≤ c) (hb : l.length < 4611686018427387904) (M : List Nat) (w : World) (hi : Im M w p (bs l)) :
    PureC Tryd.prog 57 #[.slice p n c] w (.tuple #[i32 (readS l).1, int (readS l).2.1, int (readS l).2.2]) := by subst hn; exact read_ok l p c h0 hc hb M w hi

theorem rdLoop_rng (l : List UInt8) (more : Nat) : ∀ (f i : Nat) (r lo hi : Int), i + f = more + 1 → 1 ≤ i → i ≤ l.length →
    1 ≤ (rdLoop l more f i r lo hi).2.1 ∧ (rdLoop l more f i r lo hi).2.1 ≤ l.length ∧ 0 ≤ (rdLoop l more f i r lo hi).2.2 ∧ (rdLoop l more f i r lo hi).2.2 ≤ 2
  | 0, i, r, lo, hi, h, h1, h2 => by simp only [rdLoop]; omega
  | f + 1, i, r, lo, hi, h, h1, h2 => by
    simp only [rdLoop]
    split
    · simp only []; omega
    · split
      · simp only []; omega
      · exact rdLoop_rng l more f (i + 1) _ _ _ (by omega) (by omega) (by omega)
theorem readS_rng (l : List UInt8) (h0 : 0 < l.length) : 1 ≤ (readS l).2.1 ∧ (readS l).2.1 ≤ l.length ∧ 0 ≤ (readS l).2.2 ∧ (readS l).2.2 ≤ 2 := by
  have hr := boundsS_rng (at0 l 0)
  unfold readS
  split
  · simp only []; omega
  · split
    · simp only []; omega
    · exact rdLoop_rng l _ _ 1 _ _ _ (by omega) (by omega) (by omega)

def validF : Nat → List UInt8 → Bool
  | 0, _ => true
  | f + 1, l => if l = [] then true else if (readS l).2.2 ≠ 0 then false else validF f (l.drop (readS l).2.1.toNat)
def validS (l : List UInt8) : Bool := validF l.length l
theorem validF_more : ∀ (f f' : Nat) (l : List UInt8), l.length ≤ f → l.length ≤ f' → validF f l = validF f' l
  | 0, f', l, h, _ => by
    have : l = [] := List.eq_nil_of_length_eq_zero (by omega)
    subst this
    cases f' <;> simp [validF]
  | f + 1, 0, l, _, h => by
    have : l = [] := List.eq_nil_of_length_eq_zero (by omega)
    subst this
    simp [validF]
  | f + 1, f' + 1, l, h, h' => by
    simp only [validF]
    split
    · rfl
    · rename_i hne
      split
      · rfl
      · have hl : 0 < l.length := List.length_pos_iff.2 hne
        have := readS_rng l hl
        exact validF_more f f' _ (by simp; omega) (by simp; omega)
theorem validS_cons (l : List UInt8) (h0 : 0 < l.length) : validS l = if (readS l).2.2 ≠ 0 then false else validS (l.drop (readS l).2.1.toNat) := by
  have hne : l ≠ [] := List.length_pos_iff.1 h0
  have := readS_rng l h0
  unfold validS
  obtain ⟨k, hk⟩ : ∃ k, l.length = k + 1 := ⟨l.length - 1, by omega⟩
  rw [hk]
  simp only [validF]
  rw [if_neg hne]
  split
  · rfl
  · exact validF_more _ _ _ (by simp; omega) (Nat.le_refl _)
theorem validS_nil : validS [] = true := rfl

set_option maxHeartbeats 1000000 in
theorem valid_ok (l : List UInt8) (p : Option Addr) (n c : Nat) (hn : n = l.length) (hc : l.length ≤ c) (hb : l.length < 4611686018427387904) (M : List Nat) (w : World) (hi : Im M w p (bs l)) :
    PureC Tryd.prog 33 #[.slice p n c] w (.bool (validS l)) := by
  subst hn
  refine enter (l := [.slice p l.length c]) Tryd.func33 rfl Tryd.ntmps33 (by kernel_rfl) rfl ?_
  refine sgo ?_
  refine wcloop (X := Nat) (fun x => [(0, .slice p l.length c), (3, .bool true), (4, int x)])
    (fun x wr => x ≤ l.length ∧ validS l = validS (l.drop x) ∧ Frm w wr ∧ Im M wr p (bs l)) (fun x => l.length - x) 0 ⟨rfl, rfl, rfl, trivial⟩ ⟨by omega, by simp, Frm.refl _, hi⟩ ?_
  rintro i wr ρ ⟨hil, hv, hfr, hIm⟩
  try dsimp only
  repeat' (first | (first | (show WL _ _ _ _ _ _ _ _; (first | refine wlp ?_ | refine WL_nil ?_ | (show WL _ _ _ _ _ (Go.Oper.mk _ _ _ _ _ none :: _) _ _; first | refine wlpk ?_ | refine wl_load ?_ | refine wl_idxa ?_ | refine wl_fld ?_ | refine wl_idx ?_ | refine wl_len ?_ | refine wl_bin ?_ | refine wl_cnv ?_ | refine wl_slc ?_ | refine wl_una ?_ | refine wl_nilc ?_ | refine wl_mkf ?_) | refine wlpg ?_ | refine wlg_load ?_ | refine wlg_idxa ?_ | refine wlg_fld ?_ | refine wlg_idx ?_ | refine wlg_len ?_ | refine wlg_bin ?_ | refine wlg_cnv ?_ | refine wlg_slc ?_ | refine wlg_una ?_ | refine wlg_nilc ?_ | refine wlg_mkf ?_)) | (show thn _ _ _ _ _ _; (first | refine thn_normal ?_ | refine thn_ret ?_ | refine thn_exit ?_)) | (show thl _ _ _ _ _ _ _; (first | refine thl_normal ?_ | refine thl_ret ?_ | refine thl_exit ?_)) | (show WC _ _ _ _ _ _ _; (first | refine WC_seq ?_ | refine WC_region ?_ | refine WC_ret ?_ | refine WC_skip ?_ | refine WC_block ?_ | refine WC_exit ?_ | refine WC_label ?_ | refine WC_scope rfl ?_ | refine wcyes ?_ | refine wcno ?_)) | (show blk _ _ _ _ _ _; (first | refine blk_ret ?_ | refine blk_here ?_ | refine blk_on rfl ?_ | refine blk_normal ?_)) | (show ngt _ _ _ _ _; (first | refine ngt_normal ?_ | refine ngt_ret ?_ | refine ngt_exit ?_))) | (show WC _ _ _ _ _ _ _; first | refine WC_dec rfl (fun hc => ?_) (fun hc => ?_) | refine WC_cond rfl (fun hc => ?_) (fun hc => ?_)))
  · -- a rune
    have hcs : ¬ c = i := by omega
    have hlt : i < l.length := by omega
    have hdl : (l.drop i).length = l.length - i := by simp
    have hp := hIm.part1 (c := c) (i' := i) (by intro h; omega)
    rw [bs_drop] at hp
    refine wlpure (read_any (l.drop i) _ _ _ (by simp) (by omega) (by omega) (by omega) M _ hp) fun w1 hw1 => ?_
    have hrg := readS_rng (l.drop i) (by omega)
    have hvc := validS_cons (l.drop i) (by omega)
    replace hIm := hIm.frm hw1
    replace hfr := hfr.trans hw1
    repeat' (first | (first | (show WL _ _ _ _ _ _ _ _; (first | refine wlp ?_ | refine WL_nil ?_ | (show WL _ _ _ _ _ (Go.Oper.mk _ _ _ _ _ none :: _) _ _; first | refine wlpk ?_ | refine wl_load ?_ | refine wl_idxa ?_ | refine wl_fld ?_ | refine wl_idx ?_ | refine wl_len ?_ | refine wl_bin ?_ | refine wl_cnv ?_ | refine wl_slc ?_ | refine wl_una ?_ | refine wl_nilc ?_ | refine wl_mkf ?_) | refine wlpg ?_ | refine wlg_load ?_ | refine wlg_idxa ?_ | refine wlg_fld ?_ | refine wlg_idx ?_ | refine wlg_len ?_ | refine wlg_bin ?_ | refine wlg_cnv ?_ | refine wlg_slc ?_ | refine wlg_una ?_ | refine wlg_nilc ?_ | refine wlg_mkf ?_)) | (show thn _ _ _ _ _ _; (first | refine thn_normal ?_ | refine thn_ret ?_ | refine thn_exit ?_)) | (show thl _ _ _ _ _ _ _; (first | refine thl_normal ?_ | refine thl_ret ?_ | refine thl_exit ?_)) | (show WC _ _ _ _ _ _ _; (first | refine WC_seq ?_ | refine WC_region ?_ | refine WC_ret ?_ | refine WC_skip ?_ | refine WC_block ?_ | refine WC_exit ?_ | refine WC_label ?_ | refine WC_scope rfl ?_ | refine wcyes ?_ | refine wcno ?_)) | (show blk _ _ _ _ _ _; (first | refine blk_ret ?_ | refine blk_here ?_ | refine blk_on rfl ?_ | refine blk_normal ?_)) | (show ngt _ _ _ _ _; (first | refine ngt_normal ?_ | refine ngt_ret ?_ | refine ngt_exit ?_))) | (show WC _ _ _ _ _ _ _; first | refine WC_dec rfl (fun hc => ?_) (fun hc => ?_) | refine WC_cond rfl (fun hc => ?_) (fun hc => ?_)))
    · (first | refine fp1 (.inl rfl) rfl rfl ?_ | refine fp2 (.inl rfl) rfl rfl rfl ?_ | refine fp3 (.inl rfl) rfl rfl rfl rfl ?_ | refine fp0 (.inr rfl) rfl ?_ | refine fp0 (.inl rfl) rfl ?_ | refine fp1 (.inr rfl) rfl rfl ?_)
      refine ⟨?_, hfr⟩
      rw [hv, hvc, if_pos hc]; rfl
    · refine ⟨i + (readS (l.drop i)).2.1.toNat, ⟨rfl, rfl, ?_, trivial⟩, ⟨by omega, ?_, hfr, hIm⟩, by omega⟩
      · show int _ = int _
        exact congrArg int (by omega)
      · rw [hv, hvc, if_neg (by omega), List.drop_drop]
  · (first | refine fp1 (.inl rfl) rfl rfl ?_ | refine fp2 (.inl rfl) rfl rfl rfl ?_ | refine fp3 (.inl rfl) rfl rfl rfl rfl ?_ | refine fp0 (.inr rfl) rfl ?_ | refine fp0 (.inl rfl) rfl ?_ | refine fp1 (.inr rfl) rfl rfl ?_)
    refine ⟨?_, hfr⟩
    have : l.drop i = [] := List.drop_eq_nil_of_le (by omega)
    rw [hv, this, validS_nil]; rfl
end Go.Proofs.YtmnnffenijjpcaaDoor

/-
  Package sieveref01: what the reference of layer 1 computes: good, Pieces, Valid.
-/
set_option linter.unusedSimpArgs false
set_option linter.unusedVariables false
set_option linter.unnecessarySimpa false
namespace Go.Proofs.YtmnnffenijjpcaaDoor
open Go Go.Sv Go.RowKit

def sizeR (c : Nat) : Nat := if c < 0x80 then 1 else if 0xC2 ≤ c ∧ c ≤ 0xDF then 2 else if 0xE0 ≤ c ∧ c ≤ 0xEF then 3 else if 0xF0 ≤ c ∧ c ≤ 0xF4 then 4 else 0
def secondR (c d : Nat) : Bool :=
  if c = 0xE0 then decide (0xA0 ≤ d) && decide (d ≤ 0xBF) else if c = 0xED then decide (0x80 ≤ d) && decide (d ≤ 0x9F) else if c = 0xF0 then decide (0x90 ≤ d) && decide (d ≤ 0xBF)
  else if c = 0xF4 then decide (0x80 ≤ d) && decide (d ≤ 0x8F) else decide (0x80 ≤ d) && decide (d ≤ 0xBF)



























/-- how far it is good, from k on -/
def goodF (l : List UInt8) (n : Nat) : Nat → Nat → Nat
  | 0, k => k
  | f + 1, k => if k < n ∧ k < l.length then (if (k = 1 ∧ secondR (at0 l 0) (at0 l 1) = false) ∨ (1 < k ∧ (at0 l k < 0x80 ∨ 0xBF < at0 l k)) then k else goodF l n f (k + 1)) else k
def goodR (l : List UInt8) : Nat × Bool := if sizeR (at0 l 0) = 0 then (0, false) else (goodF l (sizeR (at0 l 0)) 4 1, decide (goodF l (sizeR (at0 l 0)) 4 1 = sizeR (at0 l 0)))

theorem sizeR_le (c : Nat) : sizeR c ≤ 4 := by unfold sizeR; repeat' split
                                               all_goals omega































































end Go.Proofs.YtmnnffenijjpcaaDoor

/-
  Package sieveref01: Pieces and Valid.
-/
set_option linter.unusedSimpArgs false
set_option linter.unusedVariables false
set_option linter.unnecessarySimpa false
namespace Go.Proofs.YtmnnffenijjpcaaDoor
open Go Go.Sv Go.RowKit

def accR (l : List UInt8) : Nat → Nat → Nat → Nat
  | 0, _, r => r
  | f + 1, i, r => accR l f (i + 1) (r * 64 + at0 l i % 64)
def firstR (c n : Nat) : Nat := if n = 2 then c % 32 else if n = 3 then c % 16 else if n = 4 then c % 8 else c
/-- the piece at the beginning: its rune, how many bytes, is it right -/
def pieceR (l : List UInt8) : Int × Nat × Bool :=
  (if (goodR l).2 then (accR l ((goodR l).1 - 1) 1 (firstR (at0 l 0) (goodR l).1) : Nat) else 65533, if (goodR l).1 = 0 then 1 else (goodR l).1, (goodR l).2)
structure Piece where
  r : Int
  at_ : Nat
  size : Nat
  right : Bool
def Piece.cells (x : Piece) : List Value := [i32 x.r, int x.at_, int x.size, .bool x.right]
def piecesF : Nat → Nat → List UInt8 → List Piece
  | 0, _, _ => []
  | f + 1, at_, l => if l = [] then [] else ⟨(pieceR l).1, at_, (pieceR l).2.1, (pieceR l).2.2⟩ :: piecesF f (at_ + (pieceR l).2.1) (l.drop (pieceR l).2.1)
def piecesR (l : List UInt8) : List Piece := piecesF l.length 0 l

theorem goodF_rng (l : List UInt8) (n : Nat) (h0 : 0 < l.length) : ∀ (f k : Nat), 1 ≤ k → k ≤ l.length → 1 ≤ goodF l n f k ∧ goodF l n f k ≤ l.length
  | 0, k, h1, h2 => ⟨h1, h2⟩
  | f + 1, k, h1, h2 => by
    simp only [goodF]
    repeat' split
    · exact ⟨h1, h2⟩
    · exact goodF_rng l n h0 f (k + 1) (by omega) (by omega)
    · exact ⟨h1, h2⟩
theorem goodR_rng (l : List UInt8) (h0 : 0 < l.length) : (goodR l).1 ≤ l.length ∧ ((goodR l).2 = true → (goodR l).1 = sizeR (at0 l 0) ∧ 1 ≤ (goodR l).1 ∧ (goodR l).1 ≤ 4) := by
  have h4 := sizeR_le (at0 l 0)
  unfold goodR
  split
  · exact ⟨by simp, by simp⟩
  · have := goodF_rng l (sizeR (at0 l 0)) h0 4 1 (by omega) (by omega)
    refine ⟨by simp only []; omega, fun h => ?_⟩
    simp only [decide_eq_true_eq] at h
    exact ⟨h, by simp only []; omega, by simp only []; omega⟩
theorem pieceR_rng (l : List UInt8) (h0 : 0 < l.length) : 1 ≤ (pieceR l).2.1 ∧ (pieceR l).2.1 ≤ l.length := by
  have := goodR_rng l h0
  simp only [pieceR]
  split <;> omega
end Go.Proofs.YtmnnffenijjpcaaDoor

/-
  Package sieveref01: Valid; and it says what utf.Valid says.
-/
set_option linter.unusedSimpArgs false
set_option linter.unusedVariables false
set_option linter.unnecessarySimpa false
namespace Go.Proofs.YtmnnffenijjpcaaDoor
open Go Go.Sv Go.RowKit

def validR (l : List UInt8) : Bool := (piecesR l).all (·.right)

/-! ## utf.read reads what the reference's piece is -/
theorem rd_good (l : List UInt8) (m : Nat) : ∀ (g f i r : Nat), i + g = m + 1 → 2 ≤ i → i ≤ l.length → g ≤ f →
    rdLoop l m g i r 128 191 = if goodF l (m + 1) f i = m + 1 then (((accR l g i r : Nat) : Int), (m : Int) + 1, 0) else (65533, (goodF l (m + 1) f i : Nat), if goodF l (m + 1) f i = l.length then 2 else 1)
  | 0, f, i, r, h, h2, hl, hf => by
    have e : goodF l (m + 1) f i = i := by cases f with | zero => rfl | succ f => rw [goodF, if_neg (by omega)]
    rw [e, if_pos (by omega), rdLoop, accR]
  | g + 1, 0, i, r, h, h2, hl, hf => by omega
  | g + 1, f + 1, i, r, h, h2, hl, hf => by
    rw [rdLoop]
    by_cases h1 : i = l.length
    · have eg : goodF l (m + 1) (f + 1) i = i := by rw [goodF, if_neg (show ¬ (i < m + 1 ∧ i < l.length) by omega)]
      rw [if_pos h1, eg, if_neg (by omega), if_pos h1]
    · rw [if_neg h1]
      by_cases h3 : (at0 l i : Int) < 128 ∨ 191 < (at0 l i : Int)
      · have eg : goodF l (m + 1) (f + 1) i = i := by rw [goodF, if_pos (show i < m + 1 ∧ i < l.length by omega), if_pos (.inr ⟨by omega, by omega⟩)]
        rw [if_pos h3, eg, if_neg (by omega), if_neg h1]
      · have eg : goodF l (m + 1) (f + 1) i = goodF l (m + 1) f (i + 1) := by rw [goodF, if_pos (show i < m + 1 ∧ i < l.length by omega), if_neg (by omega)]
        rw [if_neg h3, eg]
        have := rd_good l m g f (i + 1) (r * 64 + at0 l i % 64) (by omega) (by omega) (by omega) (by omega)
        have ea : accR l (g + 1) i r = accR l g (i + 1) (r * 64 + at0 l i % 64) := rfl
        rw [ea, ← this]; simp

theorem bsz (c : Nat) (h : 2 ≤ sizeR c) : ∃ lo hi : Nat, boundsS c = ((sizeR c : Int) - 1, (lo : Int), (hi : Int)) ∧ ∀ d, secondR c d = (decide (lo ≤ d) && decide (d ≤ hi)) := by
  have hc : 0xC2 ≤ c ∧ c ≤ 0xF4 := by
    unfold sizeR at h
    by_cases h1 : c < 0x80
    · rw [if_pos h1] at h; omega
    · by_cases h2 : 0xC2 ≤ c ∧ c ≤ 0xF4
      · exact h2
      · rw [if_neg h1, if_neg (by omega), if_neg (by omega), if_neg (by omega)] at h; omega
  by_cases e0 : c = 0xe0
  · subst e0; exact ⟨0xa0, 0xbf, rfl, fun d => rfl⟩
  by_cases e1 : c = 0xed
  · subst e1; exact ⟨0x80, 0x9f, rfl, fun d => rfl⟩
  by_cases e2 : c = 0xf0
  · subst e2; exact ⟨0x90, 0xbf, rfl, fun d => rfl⟩
  by_cases e3 : c = 0xf4
  · subst e3; exact ⟨0x80, 0x8f, rfl, fun d => rfl⟩
  refine ⟨0x80, 0xbf, ?_, fun d => by unfold secondR; rw [if_neg e0, if_neg e1, if_neg e2, if_neg e3]⟩
  unfold boundsS sizeR
  by_cases a : c ≤ 0xdf
  · rw [if_neg (by omega), if_pos (by omega), if_neg (by omega), if_pos (by omega)]; rfl
  · by_cases b : c ≤ 0xef
    · rw [if_neg (by omega), if_neg (by omega), if_neg e0, if_neg e1, if_pos (by omega), if_neg (by omega), if_neg (by omega), if_pos (by omega)]; rfl
    · rw [if_neg (by omega), if_neg (by omega), if_neg e0, if_neg e1, if_neg (by omega), if_neg e2, if_pos (by omega), if_neg (by omega), if_neg (by omega), if_neg (by omega), if_pos (by omega)]; rfl

/-- what it tells besides the piece: whole, wrong or only begun -/
def whatR (l : List UInt8) : Int := if (pieceR l).2.2 then 0 else if 0 < (goodR l).1 ∧ (goodR l).1 = l.length then 2 else 1

theorem readS_piece (l : List UInt8) (h0 : 0 < l.length) : readS l = ((pieceR l).1, ((pieceR l).2.1 : Int), whatR l) := by
  have hc := at0_lt l 0
  by_cases h1 : at0 l 0 < 0x80
  · have hb : boundsS (at0 l 0) = (0, 0, 0) := by unfold boundsS; rw [if_pos h1]
    have hs : sizeR (at0 l 0) = 1 := by unfold sizeR; rw [if_pos h1]
    have hg : goodR l = (1, true) := by
      have e : goodF l 1 4 1 = 1 := by rw [goodF, if_neg (by omega)]
      unfold goodR; rw [hs, if_neg (by omega), e]; rfl
    simp only [readS, whatR, pieceR, hg, hb, firstR]
    simp [accR]
  · by_cases h2 : 2 ≤ sizeR (at0 l 0)
    · obtain ⟨lo, hi, hb, hsec⟩ := bsz _ h2
      have h4 := sizeR_le (at0 l 0)
      obtain ⟨m, hm⟩ : ∃ m, sizeR (at0 l 0) = m + 1 := ⟨sizeR (at0 l 0) - 1, by omega⟩
      have hr : readS l = rdLoop l m m 1 (at0 l 0 % 2 ^ (6 - m) : Nat) lo hi := by
        simp only [readS, hb, hm]
        rw [if_neg (by omega), if_neg (by omega)]
        rw [show ((m + 1 : Nat) : Int) - 1 = (m : Int) from by omega, Int.toNat_natCast]
      have hf : firstR (at0 l 0) (m + 1) = at0 l 0 % 2 ^ (6 - m) := by
        have : m = 1 ∨ m = 2 ∨ m = 3 := by omega
        rcases this with rfl | rfl | rfl <;> simp [firstR]
      have hg : goodR l = (goodF l (m + 1) 4 1, decide (goodF l (m + 1) 4 1 = m + 1)) := by unfold goodR; rw [hm, if_neg (by omega)]
      have key : readS l = if goodF l (m + 1) 4 1 = m + 1 then (((accR l m 1 (firstR (at0 l 0) (m + 1)) : Nat) : Int), (m : Int) + 1, 0) else (65533, (goodF l (m + 1) 4 1 : Nat), if goodF l (m + 1) 4 1 = l.length then 2 else 1) := by
        obtain ⟨g, rfl⟩ : ∃ g, m = g + 1 := ⟨m - 1, by omega⟩
        rw [hr, hf, rdLoop]
        by_cases e1 : 1 = l.length
        · have eg : goodF l (g + 1 + 1) 4 1 = 1 := by rw [goodF, if_neg (show ¬ (1 < g + 1 + 1 ∧ 1 < l.length) by omega)]
          rw [if_pos e1, eg, if_neg (by omega), if_pos e1]
        · rw [if_neg e1]
          have hs1 : secondR (at0 l 0) (at0 l 1) = false ↔ ((at0 l 1 : Int) < lo ∨ (hi : Int) < at0 l 1) := by
            rw [hsec, Bool.and_eq_false_iff, decide_eq_false_iff_not, decide_eq_false_iff_not]; omega
          by_cases e2 : (at0 l 1 : Int) < lo ∨ (hi : Int) < at0 l 1
          · have eg : goodF l (g + 1 + 1) 4 1 = 1 := by rw [goodF, if_pos (show 1 < g + 1 + 1 ∧ 1 < l.length by omega), if_pos (.inl ⟨rfl, hs1.2 e2⟩)]
            rw [if_pos e2, eg, if_neg (by omega), if_neg e1]
          · have eg : goodF l (g + 1 + 1) 4 1 = goodF l (g + 1 + 1) 3 2 := by
              rw [goodF, if_pos (show 1 < g + 1 + 1 ∧ 1 < l.length by omega), if_neg]
              rintro (⟨_, h⟩ | ⟨h, _⟩)
              · exact e2 (hs1.1 h)
              · omega
            rw [if_neg e2, eg]
            have := rd_good l (g + 1) g 3 2 (at0 l 0 % 2 ^ (6 - (g + 1)) * 64 + at0 l 1 % 64) (by omega) (by omega) (by omega) (by omega)
            have ea : accR l (g + 1) 1 (at0 l 0 % 2 ^ (6 - (g + 1))) = accR l g 2 (at0 l 0 % 2 ^ (6 - (g + 1)) * 64 + at0 l 1 % 64) := rfl
            rw [ea, ← this]; simp
      rw [key]
      have hgr := goodF_rng l (m + 1) h0 4 1 (by omega) (by omega)
      by_cases e : goodF l (m + 1) 4 1 = m + 1
      · rw [if_pos e]
        simp only [whatR, pieceR, hg, e]
        simp
      · rw [if_neg e]
        simp only [whatR, pieceR, hg]
        simp only [e, decide_false, Bool.false_eq_true, if_false]
        rw [if_neg (show ¬ goodF l (m + 1) 4 1 = 0 by omega)]
        by_cases e3 : goodF l (m + 1) 4 1 = l.length
        · rw [if_pos e3, if_pos ⟨by omega, e3⟩]
        · rw [if_neg e3, if_neg (by omega)]
    · have hs : sizeR (at0 l 0) = 0 := by
        unfold sizeR at h2 ⊢
        rw [if_neg h1] at h2 ⊢
        repeat' split at h2
        all_goals first | omega | skip
        rw [if_neg (by assumption), if_neg (by assumption), if_neg (by assumption)]
      have hb : boundsS (at0 l 0) = (-1, 0, 0) := by
        have : ¬ (0xC2 ≤ at0 l 0 ∧ at0 l 0 ≤ 0xF4) := by
          intro hh
          unfold sizeR at hs
          rw [if_neg h1] at hs
          repeat' split at hs
          all_goals omega
        unfold boundsS
        rw [if_neg (by omega), if_neg (by omega), if_neg (by omega), if_neg (by omega), if_neg (by omega), if_neg (by omega), if_neg (by omega), if_neg (by omega)]
      have hg : goodR l = (0, false) := by unfold goodR; rw [if_pos hs]
      simp [readS, whatR, pieceR, hg, hb]

theorem whatR_zero (l : List UInt8) : whatR l = 0 ↔ (pieceR l).2.2 = true := by
  unfold whatR
  cases (pieceR l).2.2
  · simp only [Bool.false_eq_true, if_false]; split <;> simp
  · simp
theorem valid_eqF : ∀ (f a : Nat) (l : List UInt8), l.length ≤ f → validF f l = (piecesF f a l).all (·.right)
  | 0, a, l, _ => rfl
  | f + 1, a, l, h => by
    simp only [validF, piecesF]
    split
    · rfl
    · rename_i hne
      have hl : 0 < l.length := List.length_pos_iff.2 hne
      have hp := readS_piece l hl
      have hr := pieceR_rng l hl
      rw [List.all_cons, ← valid_eqF f _ _ (by simp; omega), hp]
      dsimp only
      by_cases hw : whatR l = 0
      · rw [if_neg (by simpa using hw), (whatR_zero l).1 hw]; simp
      · rw [if_pos hw]
        have : (pieceR l).2.2 = false := by
          cases h3 : (pieceR l).2.2 with
          | true => exact absurd ((whatR_zero l).2 h3) hw
          | false => rfl
        rw [this]; rfl
/-- the program's Valid is the reference's -/
theorem valid_eq (l : List UInt8) : validS l = validR l := valid_eqF _ _ _ (Nat.le_refl _)
end Go.Proofs.YtmnnffenijjpcaaDoor

/-
  Packages token and sieveref07: which texts and names may be.
-/
set_option linter.unusedSimpArgs false
set_option linter.unusedVariables false
set_option linter.unnecessarySimpa false
namespace Go.Proofs.YtmnnffenijjpcaaDoor
open Go Go.Sv Go.RowKit

def blankR (c : Nat) : Bool := decide (c = 9 ∨ c = 10 ∨ c = 12 ∨ c = 32)
def stopR (c : Nat) : Bool := decide (c = 0 ∨ c = 9 ∨ c = 10 ∨ c = 12 ∨ c = 32 ∨ c = 47 ∨ c = 62 ∨ (65 ≤ c ∧ c ≤ 90))
/-- a byte that may not stand at a name's place i -/
def badR (attr : Bool) (l : List UInt8) (i : Nat) : Bool := stopR (at0 l i) || (attr && (decide (0 < i) && decide (at0 l i = 61)))
/-- may a name be? -/
def nameR (attr : Bool) (l : List UInt8) : Bool :=
  validR l && !decide (l = []) && (attr || (decide (97 ≤ at0 l 0) && decide (at0 l 0 ≤ 122))) && (List.range l.length).all fun i => !badR attr l i

theorem nameR_bad {attr : Bool} {l : List UInt8} {i : Nat} (hi : i < l.length) (h : badR attr l i = true) : nameR attr l = false := by
  unfold nameR
  have : (List.range l.length).all (fun i => !badR attr l i) = false := by
    rw [List.all_eq_false]
    exact ⟨i, List.mem_range.2 hi, by simp [h]⟩
  rw [this, Bool.and_false]
theorem nameR_good {attr : Bool} {l : List UInt8} (hv : validR l = true) (hl : l ≠ []) (h0 : attr = false → 97 ≤ at0 l 0 ∧ at0 l 0 ≤ 122) (h : ∀ j, j < l.length → badR attr l j = false) : nameR attr l = true := by
  unfold nameR
  have : (List.range l.length).all (fun i => !badR attr l i) = true := by
    rw [List.all_eq_true]
    intro i hi
    rw [h i (List.mem_range.1 hi)]; rfl
  rw [this, hv]
  cases attr
  · have := h0 rfl
    simp [hl, this]
  · simp [hl]
theorem nameR_not {attr : Bool} {l : List UInt8} (h : validR l = false ∨ l = [] ∨ (attr = false ∧ ¬ (97 ≤ at0 l 0 ∧ at0 l 0 ≤ 122))) : nameR attr l = false := by
  unfold nameR
  rcases h with h | h | ⟨h, h'⟩
  · simp [h]
  · simp [h]
  · have : (decide (97 ≤ at0 l 0) && decide (at0 l 0 ≤ 122)) = false := by
      rw [← Bool.decide_and]; exact decide_eq_false h'
    simp [h, this]

theorem tokValid_ok (l : List UInt8) (hb : l.length ≤ 1048576) (w : World) : PureC Tryd.prog 21 #[str l] w (.bool (validR l)) := by
  refine enter (l := [str l]) Tryd.func21 rfl Tryd.ntmps21 (by kernel_rfl) rfl ?_
  refine sgo ?_
  refine wls2b rfl (by omega) fun b c w1 hb1 hc1 hc2 hI hf1 => ?_
  refine wlpure (valid_ok l _ _ _ rfl hc1 (by omega) [] _ hI) fun w2 hf2 => ?_
  rw [valid_eq]
  have hf := hf1.trans hf2
  refine sgo ?_
  (first | refine fp1 (.inl rfl) rfl rfl ?_ | refine fp2 (.inl rfl) rfl rfl rfl ?_ | refine fp3 (.inl rfl) rfl rfl rfl rfl ?_ | refine fp0 (.inr rfl) rfl ?_ | refine fp0 (.inl rfl) rfl ?_ | refine fp1 (.inr rfl) rfl rfl ?_); refine ⟨?_, by (first | exact Frm.refl _ | assumption | exact Go.Sv.Sep.frm (by assumption) | (refine Frm.trans ?_ (by assumption); first | exact Frm.refl _ | assumption))⟩; (try simp only [realB, rv_true, Nat.reduceBEq, cond_true, cond_false, entG, real_lif, updGL])








theorem blank_ok (c : Nat) (w : World) : PureC Tryd.prog 34 #[byt c] w (.bool (blankR c)) := by
  refine enter (l := [byt c]) Tryd.func34 rfl Tryd.ntmps34 (by kernel_rfl) rfl ?_
  refine sgo ?_
  (first | refine fp1 (.inl rfl) rfl rfl ?_ | refine fp2 (.inl rfl) rfl rfl rfl ?_ | refine fp3 (.inl rfl) rfl rfl rfl rfl ?_ | refine fp0 (.inr rfl) rfl ?_ | refine fp0 (.inl rfl) rfl ?_ | refine fp1 (.inr rfl) rfl rfl ?_); refine ⟨?_, by (first | exact Frm.refl _ | assumption | exact Go.Sv.Sep.frm (by assumption) | (refine Frm.trans ?_ (by assumption); first | exact Frm.refl _ | assumption))⟩; (try simp only [realB, rv_true, Nat.reduceBEq, cond_true, cond_false, entG, real_lif, updGL])
  refine congrArg Value.bool ?_
  unfold blankR
  rw [Bool.eq_iff_iff]
  simp only [pkb_or, pkb_and, Bool.or_eq_true, Bool.and_eq_true, decide_eq_true_eq]
  omega









theorem len_pos_of_ne {l : List UInt8} (h : l ≠ []) : 0 < l.length := List.length_pos_iff.2 h

theorem bad_name (attr : Bool) (l : List UInt8) (i : Nat) : (pkb (pkb (pkb (pkb (pkb (blankR (at0 l i)) true (decide ((at0 l i : Int) = 47))) true (decide ((at0 l i : Int) = 62))) true (pkb (decide ((65:Int) ≤ at0 l i)) (decide ((at0 l i : Int) ≤ 90)) false)) true (decide ((at0 l i : Int) = 0))) true
    (pkb (pkb attr (decide ((at0 l i : Int) = 61)) false) (decide ((0 : Int) < i)) false)) = badR attr l i := by
  unfold badR blankR stopR
  rw [Bool.eq_iff_iff]
  cases attr <;> simp only [pkb_or, pkb_and, Bool.or_eq_true, Bool.and_eq_true, decide_eq_true_eq, Bool.false_eq_true, true_and, false_and, or_false, false_or] <;> omega

theorem name_ok (l : List UInt8) (attr : Bool) (hb : l.length ≤ 1048576) (w : World) : PureC Tryd.prog 22 #[str l, .bool attr] w (.bool (nameR attr l)) := by
  by_cases hl : l = []
  · subst hl
    refine enter (l := [str [], .bool attr]) Tryd.func22 rfl Tryd.ntmps22 (by kernel_rfl) rfl ?_
    refine sgo ?_
    refine wlcallgp (vals := [str []]) (fun _ => tokValid_ok [] (by simp) _) fun w1 hf1 => ?_
    refine sgo ?_
    (show WC _ _ _ _ _ _ _; first | refine WC_dec rfl (fun hc => ?_) (fun hc => ?_) | refine WC_cond rfl (fun hc => ?_) (fun hc => ?_))
    · refine sgo ?_
      (first | refine fp1 (.inl rfl) rfl rfl ?_ | refine fp2 (.inl rfl) rfl rfl rfl ?_ | refine fp3 (.inl rfl) rfl rfl rfl rfl ?_ | refine fp0 (.inr rfl) rfl ?_ | refine fp0 (.inl rfl) rfl ?_ | refine fp1 (.inr rfl) rfl rfl ?_); refine ⟨?_, by (first | exact Frm.refl _ | assumption | exact Go.Sv.Sep.frm (by assumption) | (refine Frm.trans ?_ (by assumption); first | exact Frm.refl _ | assumption))⟩; (try simp only [realB, rv_true, Nat.reduceBEq, cond_true, cond_false, entG, real_lif, updGL])
      rw [nameR_not (.inr (.inl rfl))]
    · simp [pkb] at hc
  have hlen := len_pos_of_ne hl
  refine enter (l := [str l, .bool attr]) Tryd.func22 rfl Tryd.ntmps22 (by kernel_rfl) rfl ?_
  refine sgo ?_
  refine wlcallgp (fun _ => tokValid_ok l hb _) fun w1 hf1 => ?_
  refine sgo ?_
  (show WC _ _ _ _ _ _ _; first | refine WC_dec rfl (fun hc => ?_) (fun hc => ?_) | refine WC_cond rfl (fun hc => ?_) (fun hc => ?_))
  · refine sgo ?_
    (first | refine fp1 (.inl rfl) rfl rfl ?_ | refine fp2 (.inl rfl) rfl rfl rfl ?_ | refine fp3 (.inl rfl) rfl rfl rfl rfl ?_ | refine fp0 (.inr rfl) rfl ?_ | refine fp0 (.inl rfl) rfl ?_ | refine fp1 (.inr rfl) rfl rfl ?_); refine ⟨?_, by (first | exact Frm.refl _ | assumption | exact Go.Sv.Sep.frm (by assumption) | (refine Frm.trans ?_ (by assumption); first | exact Frm.refl _ | assumption))⟩; (try simp only [realB, rv_true, Nat.reduceBEq, cond_true, cond_false, entG, real_lif, updGL])
    rw [nameR_not ?_]
    simp only [pkb_or, pkb_and, Bool.or_eq_true, Bool.and_eq_true, decide_eq_true_eq, Bool.not_eq_true'] at hc
    rcases hc with (h | h) | ⟨h, h'⟩
    · exact absurd h hl
    · exact .inl h
    · exact .inr (.inr ⟨h, by simp only [at0]; omega⟩)
  · have hv : validR l = true ∧ (attr = false → 97 ≤ at0 l 0 ∧ at0 l 0 ≤ 122) := by
      simp only [pkb_or, pkb_and, Bool.or_eq_false_iff, Bool.and_eq_false_iff, decide_eq_false_iff_not, Bool.not_eq_false'] at hc
      refine ⟨hc.1.2, fun h => ?_⟩
      rcases hc.2 with h2 | h2
      · rw [h] at h2; cases h2
      · simp only [at0]; omega
    clear hc
    refine sgo ?_
    refine wcloop (X := Nat) (fun x => [(0, str l), (1, .bool attr), (29, int l.length), (30, int x)])
      (fun x wr => x ≤ l.length ∧ (∀ j, j < x → badR attr l j = false) ∧ Frm w wr) (fun x => l.length - x) 0 ⟨rfl, rfl, rfl, rfl, trivial⟩ ⟨by omega, by intro j hj; omega, hf1⟩ ?_
    rintro i wr ρ ⟨hi, hj, hfr⟩
    try dsimp only
    refine sgo ?_
    (show WC _ _ _ _ _ _ _; first | refine WC_dec rfl (fun hc => ?_) (fun hc => ?_) | refine WC_cond rfl (fun hc => ?_) (fun hc => ?_))
    · refine sgo ?_
      refine wlpure (blank_ok (at0 l i) _) fun w2 hf2 => ?_
      have hfr2 := hfr.trans hf2
      have hbad := bad_name attr l i
      refine sgo ?_
      (show WC _ _ _ _ _ _ _; first | refine WC_dec rfl (fun hc => ?_) (fun hc => ?_) | refine WC_cond rfl (fun hc => ?_) (fun hc => ?_))
      · rw [hbad] at hc
        refine sgo ?_
        (first | refine fp1 (.inl rfl) rfl rfl ?_ | refine fp2 (.inl rfl) rfl rfl rfl ?_ | refine fp3 (.inl rfl) rfl rfl rfl rfl ?_ | refine fp0 (.inr rfl) rfl ?_ | refine fp0 (.inl rfl) rfl ?_ | refine fp1 (.inr rfl) rfl rfl ?_); refine ⟨?_, by (first | exact Frm.refl _ | assumption | exact Go.Sv.Sep.frm (by assumption) | (refine Frm.trans ?_ (by assumption); first | exact Frm.refl _ | assumption))⟩; (try simp only [realB, rv_true, Nat.reduceBEq, cond_true, cond_false, entG, real_lif, updGL])
        rw [nameR_bad (i := i) (by omega) hc]
      · rw [hbad] at hc
        refine sgo ?_
        refine ⟨i + 1, ⟨rfl, rfl, rfl, rfl, trivial⟩, ⟨by omega, ?_, hfr2⟩, by omega⟩
        intro j hj'
        rcases Nat.lt_or_ge j i with h | h
        · exact hj j h
        · obtain rfl : j = i := by omega
          exact hc
    · refine sgo ?_
      (first | refine fp1 (.inl rfl) rfl rfl ?_ | refine fp2 (.inl rfl) rfl rfl rfl ?_ | refine fp3 (.inl rfl) rfl rfl rfl rfl ?_ | refine fp0 (.inr rfl) rfl ?_ | refine fp0 (.inl rfl) rfl ?_ | refine fp1 (.inr rfl) rfl rfl ?_); refine ⟨?_, by (first | exact Frm.refl _ | assumption | exact Go.Sv.Sep.frm (by assumption) | (refine Frm.trans ?_ (by assumption); first | exact Frm.refl _ | assumption))⟩; (try simp only [realB, rv_true, Nat.reduceBEq, cond_true, cond_false, entG, real_lif, updGL])
      obtain rfl : i = l.length := by omega
      rw [nameR_good hv.1 hl hv.2 hj]
end Go.Proofs.YtmnnffenijjpcaaDoor

/-
  Package sieveref07: names of tags and attributes.
-/
set_option linter.unusedSimpArgs false
set_option linter.unusedVariables false
set_option linter.unnecessarySimpa false
namespace Go.Proofs.YtmnnffenijjpcaaDoor
open Go Go.Sv Go.RowKit














































































































end Go.Proofs.YtmnnffenijjpcaaDoor

