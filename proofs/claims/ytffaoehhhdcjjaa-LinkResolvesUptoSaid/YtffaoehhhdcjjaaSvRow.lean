/-
  Slices of one's own: append, stores into them; literals of structs and slices; conversions between strings and bytes.
-/
import Derived.Test.YtffaoehhhdcjjaaSvStep2
import Derived.Deep.AppendSrc
set_option linter.unusedSimpArgs false
set_option linter.unusedVariables false
set_option linter.unnecessarySimpa false
namespace Go.Sv
open Go Go.RowKit

/-- the block of an address -/
def rb : Option Addr → List Nat
  | none => []
  | some a => [a.block]
/-- a slice of one's own: n elements of 'size' cells, which are xs; nobody else has its block -/
def Row (w : World) (size : Nat) (p : Option Addr) (n c : Nat) (xs : List Value) : Prop :=
  xs.length = n * size ∧ ((p = none ∧ n = 0 ∧ c = 0) ∨
   ∃ b off cur e, p = some ⟨b, off, none⟩ ∧ w.heap[b]? = some (.cells cur e (0, 0)) ∧ n ≤ c ∧ c ≤ 9223372036854775807 ∧ off + c * size ≤ cur.size ∧ (cur.toList.drop off).take (n * size) = xs)

section
variable {P : Program} {w w' : World} {size n c m : Nat} {p : Option Addr} {xs news : List Value} {M M' : List Nat}
theorem Row.nil (w : World) (size : Nat) : Row w size none 0 0 [] := ⟨by simp, .inl ⟨rfl, rfl, rfl⟩⟩
theorem Row.len (h : Row w size p n c xs) : xs.length = n * size := h.1
theorem Row.le_cap (h : Row w size p n c xs) : n ≤ c ∧ c ≤ 9223372036854775807 := by
  rcases h.2 with ⟨_, rfl, rfl⟩ | ⟨b, off, cur, e, _, _, h1, h2, _⟩
  · omega
  · exact ⟨h1, h2⟩
theorem Row.lt (h : Row w size p n c xs) : ∀ b ∈ rb p, b < w.heap.size := by
  rcases h.2 with ⟨rfl, _⟩ | ⟨b, off, cur, e, rfl, h1, _⟩
  · simp [rb]
  · intro x hx
    simp only [rb, List.mem_singleton] at hx
    subst hx
    exact (Array.getElem?_eq_some_iff.1 h1).1
theorem Row.of_block (h : Row w size p n c xs) (hb : ∀ b ∈ rb p, w'.heap[b]? = w.heap[b]?) : Row w' size p n c xs := by
  refine ⟨h.1, ?_⟩
  rcases h.2 with h1 | ⟨b, off, cur, e, rfl, h1, h2⟩
  · exact .inl h1
  · exact .inr ⟨b, off, cur, e, rfl, by rw [hb b (by simp [rb])]; exact h1, h2⟩
theorem Row.le (h : Row w size p n c xs) (hl : Le M w w') (hb : ∀ b ∈ rb p, b ∉ M) : Row w' size p n c xs := h.of_block fun b hh => hl.block b (h.lt b hh) (hb b hh)
theorem Row.frm (h : Row w size p n c xs) (hl : Frm w w') : Row w' size p n c xs := h.le (M := []) hl.le (by simp)
theorem Row.seg (h : Row w size p n c xs) : xs = [] ∨ ∃ a, p = some a ∧ seg w a xs := by
  rcases h.2 with ⟨rfl, rfl, _⟩ | ⟨b, off, cur, e, rfl, h1, h2, h3, h4, h5⟩
  · exact .inl (List.eq_nil_of_length_eq_zero (by simpa using h.1))
  · refine .inr ⟨_, rfl, fun i hi => ?_⟩
    have e : (⟨b, off, none⟩ : Addr).add i = ⟨b, off + i, none⟩ := by unfold Addr.add; split <;> simp_all
    rw [e, cell_of_row w b (off + i) cur _ (0, 0) h1, ← h5]
    have hl : i < n * size := by rw [← h.1]; exact hi
    rw [List.getElem?_take_of_lt hl, List.getElem?_drop]; simp
theorem Row.sg (h : Row w size p n c xs) : Sg w p xs := h.seg
/-- a slice that is written no more -/
theorem Row.im (h : Row w size p n c xs) (hb : ∀ b ∈ rb p, b ∉ M) : Im M w p xs := by
  rcases h.seg with hh | ⟨a, rfl, h1⟩
  · exact .inl hh
  · exact .inr ⟨a, rfl, h1, h.lt _ (by simp [rb]), hb _ (by simp [rb])⟩
theorem Row.of_own {b : Nat} {l : List Value} (h : Own w b l) (hl : l.length = n * size) (hn : n ≤ 9223372036854775807) : Row w size (pb b) n n l := by
  obtain ⟨e, h⟩ := h
  refine ⟨hl, .inr ⟨b, 0, _, e, rfl, h, Nat.le_refl _, hn, by simp [hl], by simp [← hl]⟩⟩
/-- a shorter slice of the same memory -/
theorem Row.take (h : Row w size p n c xs) {j : Nat} (hj : j ≤ n) : Row w size p j c (xs.take (j * size)) := by
  have hle : j * size ≤ n * size := Nat.mul_le_mul_right _ hj
  refine ⟨by rw [List.length_take, h.1]; omega, ?_⟩
  rcases h.2 with ⟨rfl, rfl, rfl⟩ | ⟨b, off, cur, e, rfl, h1, h2, h3, h4, h5⟩
  · exact .inl ⟨rfl, by omega, rfl⟩
  · refine .inr ⟨b, off, cur, e, rfl, h1, by omega, h3, h4, ?_⟩
    rw [← h5, List.take_take, Nat.min_eq_left hle]
/-- with less room -/
theorem Row.cap (h : Row w size p n c xs) {j : Nat} (hj : n ≤ j) (hc : j ≤ c) : Row w size p n j xs := by
  refine ⟨h.1, ?_⟩
  rcases h.2 with ⟨rfl, rfl, rfl⟩ | ⟨b, off, cur, e, rfl, h1, h2, h3, h4, h5⟩
  · exact .inl ⟨rfl, rfl, by omega⟩
  · have : j * size ≤ c * size := Nat.mul_le_mul_right _ hc
    exact .inr ⟨b, off, cur, e, rfl, h1, hj, by omega, by omega, h5⟩

theorem Lm.app {A B : List Nat} (h : Lm A w B w') (M : List Nat) : Lm (A ++ M) w (B ++ M) w' :=
  ⟨h.1.mono fun b hb _ => List.mem_append_left _ hb, fun b hb hlt => by
    rcases List.mem_append.1 hb with h1 | h1
    · exact List.mem_append_left _ (h.2 b h1 hlt)
    · exact List.mem_append_right _ h1⟩

theorem src_of_sg {tx e' : TypeId} [hu : Und P tx (.slice e')] (hs : Sg w p news) (hl : news.length = m * size) (h1 : ∀ u ∈ news, u.oneCell' = true) : Src P size tx (.slice p m c) m news w := by
  rcases hs with rfl | ⟨a, rfl, hs⟩
  · have h0 : (Builtin.firstCells size m (.slice p m c)).run P w = .ok #[] w := by
      cases p with
      | none => exact run_firstCells_none w size m m c
      | some a => exact run_firstCells_some w size m a m c [] hl (by simp)
    have h0d : (Builtin.firstCells size m (.slice p m c)).run P w.drew = .ok #[] w.drew := by
      cases p with
      | none => exact run_firstCells_none w.drew size m m c
      | some a => exact run_firstCells_some w.drew size m a m c [] hl (by simp)
    exact ⟨.inl ⟨e', hu.ok⟩, fun _ => rfl, h0, h0d, hl, h1⟩
  · refine Src.ofSlice w hu.ok a m c news hl (fun j u hj => ?_) h1
    have hlt : j < news.length := by
      rcases Nat.lt_or_ge j news.length with h | h
      · exact h
      · rw [List.getElem?_eq_none h] at hj; cases hj
    rw [hs j hlt]; exact hj

theorem run_append_row {t tx ty e : TypeId} {z : Value} {bytes : Nat} {x : Value} [hu : Und P t (.slice e)] [hi : Inf P e z size bytes] (hz : z.cells.size = size) (hsz : 0 < size) (hr : Row w size p n c xs) (hs : Src P size tx x m news w)
    (h63 : n + m ≤ 9223372036854775807) (hb : (n + m) * bytes ≤ 140737488355328) :
    ∃ p' c' w', (Builtin.append_ #[t, tx] ty #[.slice p n c, x]).run P w = .ok (.slice p' (n + m) c') w' ∧ Row w' size p' (n + m) c' (xs ++ news) ∧ Lm (rb p) w (rb p') w' := by
  obtain ⟨i, hi1, hi2, hi3, hi4⟩ := inf_size (P := P) (t := e)
  subst hi3
  subst hi4
  have hlen : (xs ++ news).length = (n + m) * i.size := by rw [List.length_append, hr.1, hs.newsLen, Nat.add_mul]
  by_cases hroom : n + m ≤ c
  · rcases hr.2 with ⟨rfl, rfl, rfl⟩ | ⟨b, off, cur, e', rfl, h1, h2, h3, h4, h5⟩
    · have hm : m = 0 := by omega
      subst hm
      have hn : news = [] := List.eq_nil_of_length_eq_zero (by simpa using hs.newsLen)
      subst hn
      refine ⟨none, 0, w, ?_, by simpa using hr, ⟨Le.refl _ _, fun _ h _ => h⟩⟩
      rcases hs.kind with ⟨e', hk⟩ | hk <;> simp [Builtin.append_, run_underlying hu.ok, run_underlying hk, sizeOf, typeInfo, hi1, hs.len, hs.cells]
    · have hfit : off + (n * i.size) + news.length ≤ cur.size := by
        have : (n + m) * i.size ≤ c * i.size := Nat.mul_le_mul_right _ hroom
        rw [Nat.add_mul] at this
        rw [hs.newsLen]; omega
      have hst := run_storeCells_at P b (off + n * i.size) e' news 0 cur w h1 (by omega) hs.one
      simp only [Nat.add_zero] at hst
      have ha : (⟨b, off, none⟩ : Addr).add (n * i.size) = ⟨b, off + n * i.size, none⟩ := by unfold Addr.add; split <;> simp_all
      refine ⟨some ⟨b, off, none⟩, c, w.setRow b (cur.toList.take (off + n * i.size) ++ news ++ cur.toList.drop (off + n * i.size + news.length)).toArray, ?_, ⟨hlen, .inr ⟨b, off, _, e', rfl, setRow_heap w b cur _ e' (0, 0) h1, hroom, h3, ?_, ?_⟩⟩, ⟨le_setRow w b _, fun _ h _ => h⟩⟩
      · rcases hs.kind with ⟨e'', hk⟩ | hk <;> simp [Builtin.append_, run_underlying hu.ok, run_underlying hk, sizeOf, typeInfo, hi1, hs.len, hroom, hs.cells, ha, hst]
      · simp only [List.size_toArray, List.length_append, List.length_take, List.length_drop, Array.length_toList]; omega
      · have e1 : List.drop off (cur.toList.take (off + n * i.size)) = xs := by
          rw [List.drop_take, ← h5]; congr 1; omega
        have hl0 : off ≤ (cur.toList.take (off + n * i.size)).length := by simp; omega
        rw [List.append_assoc, List.drop_append_of_le_length hl0, e1, ← List.append_assoc, ← hlen, List.take_left]
  · have hold : (Builtin.firstCells i.size n (.slice p n c)).run P w.drew = .ok xs.toArray w.drew := by
      rcases hr.seg with h0 | ⟨a, rfl, h0⟩
      · subst h0
        have hn0 : n * i.size = 0 := by simpa using hr.1.symm
        cases p with
        | none => exact run_firstCells_none w.drew i.size n n c
        | some a => exact run_firstCells_some w.drew i.size n a n c [] (by simpa using hn0.symm) (by simp)
      · refine run_firstCells_some w.drew i.size n a n c xs hr.1 (fun j v hj => ?_)
        have hlt : j < xs.length := by
          rcases Nat.lt_or_ge j xs.length with h | h
          · exact h
          · rw [List.getElem?_eq_none h] at hj; cases hj
        have := h0 j hlt
        rw [World.cell?_drew, this]; exact hj
    have hrun := run_append_grow_src (P := P) w t tx ty e i z hu.ok hi1 hi2 p n c xs hold x m news hs (by omega) (by omega) (growslice_fits (by omega) hb)
    have hge := grownCap_ge w (n + m) c e
    have hcm := grownCap_le_maxLen w (n + m) c e (by unfold maxLen; omega)
    refine ⟨_, _, _, hrun, ⟨hlen, .inr ⟨w.heap.size, 0, _, e, rfl, heap_alloc_new w.drew _, hge, by unfold maxLen at hcm; omega, ?_, ?_⟩⟩, ⟨⟨rfl, rfl, rfl, by simp, fun k hk _ => Below.heap_alloc w.drew _ k hk⟩, fun b hb hlt => ?_⟩⟩
    · simp only [Array.size_append, List.size_toArray, hlen, size_zeroCells, hz, ← Nat.add_mul, Nat.zero_add]
      apply Nat.mul_le_mul_right; omega
    · simp only [List.drop_zero, Array.toList_append]
      rw [← hlen]; exact List.take_left
    · simp only [rb, List.mem_singleton] at hb
      omega
end

section
variable {P : Program} {n : Nat} {ds : Ctx} {ops : Array Oper} {Q : Exit → Ctx → Env → World → Prop} {rest : List Oper} {σ : GE} {w : World} {v : Value} {d : Nat} {ty t t' e e' : TypeId} {pos : String} {af : Array Edge} {x y : Operand} {zv : Value} {size bytes : Nat} {p q : Option Addr} {l xs news : List Value} {b i m k c c' : Nat} {M : List Nat}

theorem run_append_op {g : Option (Nat × Bool)} {dd : Option Nat} {u : Value} {w' : World} {σ : Env} (hx : evl σ x = v) (hy : evl σ y = u) (h : (Builtin.append_ #[t, t'] ty #[v, u]).run P w = .ok (.slice q m c) w') :
    Y P σ ⟨dd, .call ⟨.builtin .append, #[x, y], #[t, t']⟩, ty, pos, af, g⟩ w (.slice q m c) w' := by
  refine Y.val ?_
  simp only [execOp, resolve, Sem.run_bind, Sem.run_pure, Result.andThen_ok, invoke, builtin]
  simp [hx, hy, h]

/-- append(x, y...) to a slice of one's own -/
theorem wlappend [hu : Und P t (.slice e)] [hu' : Und P t' (.slice e')] [hi : Inf P e zv size bytes] (hx : evl (real σ) x = .slice p m c) (hr : Row w size p m c xs) (hy : evl (real σ) y = .slice q k c') (hs : Sg w q news) (hl : news.length = k * size)
    (h1 : ∀ u ∈ news, u.oneCell' = true) (hz : zv.cells.size = size) (hsz : 0 < size) (hb : (m + k) * bytes ≤ 140737488355328 ∧ m + k ≤ 9223372036854775807)
    (h : ∀ p' c' w', Row w' size p' (m + k) c' (xs ++ news) → Lm (rb p) w (rb p') w' → WL P n ds ops Q rest (real (updG σ d ⟨.slice p' (m + k) c', true⟩)) w') :
    WL P n ds ops Q (⟨some d, .call ⟨.builtin .append, #[x, y], #[t, t']⟩, ty, pos, af, none⟩ :: rest) (real σ) w := by
  obtain ⟨p', c2, w', h2, h3, h4⟩ := run_append_row (P := P) (t := t) (tx := t') (ty := ty) (e := e) hz hsz hr (src_of_sg (tx := t') (c := c') hs hl h1) hb.2 hb.1
  exact wl (h p' c2 w' h3 h4) (run_append_op hx hy h2)
/-- append(b, s...) of a string -/
theorem wlappends [hu : Und P t (.slice e)] [hu' : Und P t' .string] [hi : Inf P e zv 1 bytes] {s : List UInt8} (hx : evl (real σ) x = .slice p m c) (hr : Row w 1 p m c xs) (hy : evl (real σ) y = str s) (hz : zv.cells.size = 1)
    (hb : (m + s.length) * bytes ≤ 140737488355328 ∧ m + s.length ≤ 9223372036854775807)
    (h : ∀ p' c' w', Row w' 1 p' (m + s.length) c' (xs ++ bs s) → Lm (rb p) w (rb p') w' → WL P n ds ops Q rest (real (updG σ d ⟨.slice p' (m + s.length) c', true⟩)) w') :
    WL P n ds ops Q (⟨some d, .call ⟨.builtin .append, #[x, y], #[t, t']⟩, ty, pos, af, none⟩ :: rest) (real σ) w := by
  have hsrc := Src.ofString (P := P) w hu'.ok ⟨s.toArray⟩
  rw [size_str] at hsrc
  have e1 : byteCells ⟨s.toArray⟩ = bs s := by simp [byteCells, bs]
  rw [e1] at hsrc
  obtain ⟨p', c2, w', h2, h3, h4⟩ := run_append_row (P := P) (t := t) (tx := t') (ty := ty) (e := e) hz (by omega) hr hsrc hb.2 hb.1
  exact wl (h p' c2 w' h3 h4) (run_append_op hx hy h2)

/-- a slice written out, of one element -/
theorem run_buildSlice1 [hu : Und P t (.slice e)] [hi : Inf P e zv size bytes] (hz : zv.cells.size = size) (hv : v.cells.size = size) (hsz : 0 < size) (hm : size ≤ 16777216) (w : World) :
    (Instr.buildSlice t 1 #[(0, v)]).run P w = .ok (.slice (some ⟨w.heap.size, 0, none⟩) 1 1) (w.alloc (.cells v.cells e)) := by
  have h0 : ¬ (size = 0) := by omega
  have hg : ¬ (size > 2 ^ 24) := by omega
  have hf : Instr.fill (fun i => some (i * size, size)) ((Array.range (1 * size)).map (zv.cells[· % zv.cells.size]!)) [(0, v)] = some v.cells := by
    simp only [Instr.fill, hv, Nat.zero_mul, Nat.zero_add]
    rw [if_neg (by simp)]
    congr 1
    have key : ∀ (a z : Array Value), z.size = a.size → a.zipIdx.foldl (fun cs (c, j) => cs.setIfInBounds (0 + j) c) z = a := by
      intro a z haz
      have gen : ∀ (l : List Value) (k : Nat) (z : Array Value), k + l.length = z.size → (l.zipIdx k).foldl (fun cs (p : Value × Nat) => cs.setIfInBounds (0 + p.2) p.1) z = ((z.toList.take k) ++ l).toArray := by
        intro l
        induction l with
        | nil => intro k z hk; simp at hk ⊢; apply Array.ext'; simp only [hk]; rw [List.take_of_length_le (by simp)]
        | cons x l ih =>
          intro k z hk
          simp only [List.zipIdx_cons, List.foldl_cons, Nat.zero_add]
          have := ih (k + 1) (z.setIfInBounds k x) (by simp at hk ⊢; omega)
          simp only [Nat.zero_add] at this
          rw [this]
          congr 1
          simp only [Array.toList_setIfInBounds]
          have hkl : k < z.toList.length := by simp at hk ⊢; omega
          rw [List.take_succ_eq_append_getElem (by simpa using hkl)]
          rw [List.take_set_of_le (Nat.le_refl k)]
          simp
      have := gen a.toList 0 z (by simp [haz])
      rw [← Array.foldl_toList]
      simpa [Array.toList_zipIdx] using this
    have := key v.cells ((Array.range (1 * size)).map (zv.cells[· % zv.cells.size]!)) (by simp [hv])
    simpa using this
  simp only [Instr.buildSlice, Sem.run_bind, underlying, run_program, Result.andThen_ok, hu.ok, Sem.run_pure, run_sizeOf (P := P) (t := e), Nat.one_mul]
  rw [if_neg hg, if_neg h0]
  simp only [Sem.run_bind, Sem.run_pure, Result.andThen_ok, run_zeroValue (P := P) (t := e)]
  rw [Nat.one_mul] at hf
  rw [hf]
  simp [newRow]
theorem wlbuild1 [hu : Und P t (.slice e)] [hi : Inf P e zv size bytes] (hx : evl (real σ) x = v) (hv : v.cells.size = size) (hz : zv.cells.size = size) (hsz : 0 < size) (hm : size ≤ 16777216)
    (h : ∀ b w', w.heap.size ≤ b → Own w' b v.cells.toList → Frm w w' → WL P n ds ops Q rest (real (updG σ d ⟨.slice (pb b) 1 1, true⟩)) w') :
    WL P n ds ops Q (⟨some d, .buildSlice t 1 #[(0, x)], ty, pos, af, none⟩ :: rest) (real σ) w := by
  refine wl (h w.heap.size (w.alloc (.cells v.cells e)) (Nat.le_refl _) (own_alloc _ _ _) (frm_alloc _ _)) (Y.val ?_)
  simp only [execOp, List.map_toArray, List.map_cons, List.map_nil, hx, Sem.run_bind]
  rw [run_buildSlice1 (P := P) (t := t) (e := e) hz hv hsz hm]
  rfl

/-- []byte(s) -/
theorem wls2b [hu : Und P t .string] [hu' : Und P t' (.slice e)] [he : Und P e (.int .u8)] {s : List UInt8} (hx : evl (real σ) x = str s) (hs : s.length ≤ 9223372036854775807)
    (h : ∀ b c w', w.heap.size ≤ b → s.length ≤ c → c ≤ 9223372036854775807 → Im [] w' (pb b) (bs s) → Frm w w' → WL P n ds ops Q rest (real (updG σ d ⟨.slice (pb b) s.length c, true⟩)) w') :
    WL P n ds ops Q (⟨some d, .convert t t' x, ty, pos, af, none⟩ :: rest) (real σ) w := by
  let c := grownCap w s.length 0 e
  let C : Array Value := (s.toArray.map fun b => Value.int .u8 b.toNat) ++ Array.replicate (c - s.length) (.int .u8 0)
  have hge : s.length ≤ c := grownCap_ge w s.length 0 e
  have hcm : c ≤ maxLen := grownCap_le_maxLen w s.length 0 e (by unfold maxLen; omega)
  have hsz : C.size = c := by simp [C]; omega
  have hheap : (w.drew.alloc (.cells C e)).heap[w.heap.size]? = some (.cells C e) := heap_alloc_new w.drew _
  let w' := (w.drew.alloc (.cells C e)).freeze ⟨w.heap.size, C.size, none⟩ 1
  have hw' : w'.heap[w.heap.size]? = some (.cells C e (C.size, C.size + 1)) := by
    simp only [w', World.freeze, Nat.one_ne_zero, if_false, Array.getElem?_modify, if_true]
    rw [hheap]; simp
  have hother : ∀ k, k < w.heap.size → w'.heap[k]? = w.heap[k]? := by
    intro k hk
    simp only [w', World.freeze, Nat.one_ne_zero, if_false, Array.getElem?_modify]
    rw [if_neg (by omega)]
    exact Below.heap_alloc w.drew _ k hk
  refine wl (h w.heap.size c w' (Nat.le_refl _) hge (by unfold maxLen at hcm; omega) ?_ ?_) (Y.val ?_)
  · refine .inr ⟨_, rfl, fun i hi => ?_, (Array.getElem?_eq_some_iff.1 hw').1, by simp⟩
    have ea : (⟨w.heap.size, 0, none⟩ : Addr).add i = ⟨w.heap.size, i, none⟩ := by unfold Addr.add; split <;> simp_all
    rw [ea, cell_of_row w' _ i C e _ hw']
    have hi' : i < s.length := by simpa using hi
    have hlt : i < (s.toArray.map fun b => Value.int .u8 b.toNat).size := by simpa using hi'
    simp only [C]
    rw [Array.getElem?_append_left hlt]
    simp [bs, hi']
  · exact ⟨rfl, rfl, rfl, by simp [w', World.freeze], hother⟩
  · have e1 : (ByteArray.mk s.toArray).data = s.toArray := rfl
    simp only [execOp, hx, convert, underlying, Sem.run_bind, run_program, Result.andThen_ok, hu.ok, hu'.ok, he.ok, Sem.run_pure, Conv.stringToBytes, run_choose, Question.forced, size_str, newRow, run_newObj, markStringish, run_shape]
    have hshape : (w.drew.alloc (.cells C e)).shape? w.heap.size = some (e, C.size) := by simp only [World.shape?, hheap]
    have hr : (w.drew.heap.size) = w.heap.size := rfl
    simp only [Bool.false_eq_true, if_false, Result.andThen_ok, World.alloc_eq, e1]
    change (((Sem.run P (match (w.drew.alloc (.cells C e)).shape? w.heap.size with | some (_, n) => freeze { block := w.heap.size, off := n } 1 | _ => pure ()) (w.drew.alloc (.cells C e))).andThen _).andThen _) = _
    rw [hshape]
    simp only [run_freeze, Result.andThen_ok, Sem.run_pure]
    rfl
end

/-! ## Literals of structs -/
def setSeg (l : List Value) (off : Nat) (vs : List Value) : List Value := l.take off ++ vs ++ l.drop (off + vs.length)
def fillL (pl : List (Nat × Nat)) : List Value → List (Nat × Value) → Option (List Value)
  | cells, [] => some cells
  | cells, (i, v) :: rest => match pl[i]? with
    | none => none
    | some (off, size) => if v.cells.size = size ∧ off + size ≤ cells.length then fillL pl (setSeg cells off v.cells.toList) rest else none

theorem foldl_setSeg (off : Nat) : ∀ (l : List Value) (k : Nat) (z : Array Value), off + k + l.length ≤ z.size → (l.zipIdx k).foldl (fun cs (p : Value × Nat) => cs.setIfInBounds (off + p.2) p.1) z = (setSeg z.toList (off + k) l).toArray := by
  intro l
  induction l with
  | nil => intro k z hk; simp [setSeg]
  | cons x l ih =>
    intro k z hk
    simp only [List.zipIdx_cons, List.foldl_cons]
    have := ih (k + 1) (z.setIfInBounds (off + k) x) (by simp at hk ⊢; omega)
    rw [this]
    congr 1
    simp only [setSeg, Array.toList_setIfInBounds]
    have hkl : off + k < z.toList.length := by simp at hk ⊢; omega
    rw [show off + (k + 1) = off + k + 1 from by omega, List.take_succ_eq_append_getElem (by simpa using hkl), List.take_set_of_le (Nat.le_refl _), List.drop_set_of_lt (by omega)]
    simp only [List.getElem_set_self, List.append_assoc, List.cons_append, List.nil_append, List.length_cons]
    congr 4
    omega

theorem fill_fillL (pl : List (Nat × Nat)) : ∀ (parts : List (Nat × Value)) (cells r : List Value), fillL pl cells parts = some r → Instr.fill (pl.toArray[·]?) cells.toArray parts = some r.toArray
  | [], cells, r, h => by simp only [fillL, Option.some.injEq] at h; subst h; rfl
  | (i, v) :: rest, cells, r, h => by
    simp only [fillL] at h
    have e : pl.toArray[i]? = pl[i]? := by simp
    simp only [Instr.fill, e]
    split at h
    · cases h
    · rename_i off size hp
      rw [hp]
      split at h
      · rename_i hc
        have hcond : ¬ ((v.cells.size ≠ size || off + v.cells.size > cells.toArray.size) = true) := by
          obtain ⟨h1, h2⟩ := hc
          simp [h1]; omega
        simp only [hcond, if_false]
        have hf := foldl_setSeg off v.cells.toList 0 cells.toArray (by obtain ⟨h1, h2⟩ := hc; simp; omega)
        have hf2 : v.cells.zipIdx.foldl (fun cs (x : Value × Nat) => cs.setIfInBounds (off + x.2) x.1) cells.toArray = (setSeg cells off v.cells.toList).toArray := by
          rw [← Array.foldl_toList]
          simpa [Array.toList_zipIdx] using hf
        rw [show (fun cs (x : Value × Nat) => match x with | (c, j) => cs.setIfInBounds (off + j) c) = (fun (cs : Array Value) (x : Value × Nat) => cs.setIfInBounds (off + x.2) x.1) from rfl, hf2]
        exact fill_fillL pl rest _ r h
      · cases h

section
variable {P : Program} {n : Nat} {ds : Ctx} {ops : Array Oper} {Q : Exit → Ctx → Env → World → Prop} {rest : List Oper} {σ : GE} {w : World} {v : Value} {d : Nat} {ty t t' e e' : TypeId} {pos : String} {af : Array Edge} {x y : Operand} {zv : Value} {size bytes : Nat} {p q : Option Addr} {l xs news : List Value} {b i m k c c' : Nat} {M : List Nat}
theorem y_build {σ : Env} {d : Option Nat} {g : Option (Nat × Bool)} {pl : List (Nat × Nat)} {ps : List (Nat × Operand)} {cells : List Value} [hf : Flds P t pl] [hi : Inf P t zv size bytes] (h : fillL pl zv.cells.toList (ps.map fun p => (p.1, evl σ p.2)) = some cells) :
    Y P σ ⟨d, .build t ps.toArray, ty, pos, af, g⟩ w (.agg cells.toArray) w := by
  obtain ⟨fs, h1, h2⟩ := hf.ok
  have h3 := fill_fillL pl _ _ _ h
  refine Y.val ?_
  simp only [execOp, Instr.build, Sem.run_bind, run_zeroValue (P := P) (t := t), Result.andThen_ok, underlying, run_program, h1, Sem.run_pure, h2]
  have e1 : (ps.toArray.map fun (x : Nat × Operand) => match x with | (i, x) => (i, evl σ x)).toList = ps.map fun p => (p.1, evl σ p.2) := by simp
  rw [e1]
  have e2 : zv.cells.toList.toArray = zv.cells := by simp
  rw [e2] at h3
  rw [h3]
  rfl
theorem wlbuild {pl : List (Nat × Nat)} {ps : List (Nat × Operand)} {cells : List Value} [hf : Flds P t pl] [hi : Inf P t zv size bytes]
    (h : WL P n ds ops Q rest (real (updG σ d ⟨.agg cells.toArray, true⟩)) w)
    (hc : fillL pl zv.cells.toList (ps.map fun p => (p.1, evl (real σ) p.2)) = some cells := by
      simp only [List.map, Go.Sv.evl, Go.Sv.realB, Nat.reduceBEq, cond_true, cond_false, Go.Sv.rv_true, Go.Sv.entG, Go.Sv.updGL]
      simp [Go.Sv.fillL, Go.Sv.setSeg, Go.Value.cells]
      first | done | rfl) :
    WL P n ds ops Q (⟨some d, .build t ps.toArray, ty, pos, af, none⟩ :: rest) (real σ) w := wl h (y_build hc)

/-- string(b) -/
theorem y_b2s {σ : Env} {d : Option Nat} {g : Option (Nat × Bool)} [hu : Und P t (.slice e)] [hu' : Und P t' .string] [he : Und P e (.int .u8)] {s : List UInt8} (hx : evl σ x = .slice p s.length c) (hs : Sg w p (bs s)) :
    Y P σ ⟨d, .convert t t' x, ty, pos, af, g⟩ w (str s) w := by
  refine Y.val ?_
  simp only [execOp, hx]
  rw [Sem.run_bind, run_convert_bytes_string w t t' e p s.length c hu.ok he.ok hu'.ok]
  rcases hs with h0 | ⟨a, rfl, h1⟩
  · have hs0 : s = [] := by simpa [bs] using h0
    subst hs0
    cases p with
    | none => simp [Conv.bytesToString]; rfl
    | some a => rw [List.length_nil, run_bytesToString w a 0 c [] (by simp [loadCells, loadCellsFrom])]; simp; rfl
  · have hl : (loadCells a s.length).run P w = .ok ((s.map fun c => (c.toNat : Int)).map (Value.int .u8)).toArray w := by
      have := run_loadCells_list (P := P) w a (bs s) (fun j v hj => by
        have hlt : j < (bs s).length := by
          rcases Nat.lt_or_ge j (bs s).length with h | h
          · exact h
          · rw [List.getElem?_eq_none h] at hj; cases hj
        rw [h1 j hlt]; exact hj)
      simpa [bs, Function.comp_def] using this
    rw [run_bytesToString w a s.length c _ hl, foldl_push_bytes]
    simp [ByteArray.empty, ByteArray.emptyWithCapacity, Function.comp_def]
    rfl
end
end Go.Sv
