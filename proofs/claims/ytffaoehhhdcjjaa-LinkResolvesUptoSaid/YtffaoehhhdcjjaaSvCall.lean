/-
  Calls by contract: in regions that draw, and guarded.
-/
import Derived.Test.YtffaoehhhdcjjaaSvRow
set_option linter.unusedSimpArgs false
set_option linter.unusedVariables false
set_option linter.unnecessarySimpa false
namespace Go.Sv
open Go Go.RowKit

/-! ## Calls by contract -/
section
variable {P : Program} {n : Nat} {ds : Ctx} {ops : Array Oper} {Q : Exit → Ctx → Env → World → Prop} {QE : Env → Prop} {rest : List Oper} {σ : GE} {w w0 : World} {v : Value} {d : Nat} {ty : TypeId} {pos : String} {af : Array Edge} {j dj : Nat} {want b c : Bool}
theorem am1 {σ : Env} {x : Operand} {v : Value} (h : evl σ x = v) : [x].map (evl σ) = [v] := by simp [h]
theorem am2 {σ : Env} {x y : Operand} {v u : Value} (h : evl σ x = v) (h2 : evl σ y = u) : [x, y].map (evl σ) = [v, u] := by simp [h, h2]
theorem am3 {σ : Env} {x y z : Operand} {v u t : Value} (h : evl σ x = v) (h2 : evl σ y = u) (h3 : evl σ z = t) : [x, y, z].map (evl σ) = [v, u, t] := by simp [h, h2, h3]
theorem qlcallp {f : FuncId} [hf : Fnc P f] {args : List Operand} {ats : Array TypeId}
    (hc : ∀ w, Frm w0 w → PureC P f (args.map (evl (real σ))).toArray w v) (h : QL P n ds ops (Frm w0) QE rest (real (updG σ d ⟨v, true⟩))) :
    QL P n ds ops (Frm w0) QE (⟨some d, .call ⟨.value (.func f), args.toArray, ats⟩, ty, pos, af, none⟩ :: rest) (real σ) := qlcall h fun w hw => hc w hw
theorem qlcallgp {f : FuncId} [hf : Fnc P f] {args : List Operand} {ats : Array TypeId} {vals : List Value}
    (hc : (b && (c == want)) = true → ∀ w, Frm w0 w → PureC P f vals.toArray w v) (h : QL P n ds ops (Frm w0) QE rest (real (updG σ d ⟨v, b && (c == want)⟩)))
    (hj : (ops[j]?).bind (·.dst) = some dj := by rfl) (hσ : σ dj = ⟨.bool c, b⟩ := by rfl)
    (ha : (b && (c == want)) = true → args.map (evl (real σ)) = vals := by
    intro hgd
    first
    | exact Go.Sv.am1 (evG hgd)
    | exact Go.Sv.am2 (evG hgd) (evG hgd)
    | exact Go.Sv.am3 (evG hgd) (evG hgd) (evG hgd)) :
    QL P n ds ops (Frm w0) QE (⟨some d, .call ⟨.value (.func f), args.toArray, ats⟩, ty, pos, af, some (j, want)⟩ :: rest) (real σ) :=
  qlcallg h (fun hg w hw => by rw [ha hg]; exact hc hg w hw) hj hσ
/-- a guarded call in a region in order: what it answers, and the world behind it, both ways -/
theorem wlcallgp {f : FuncId} [hf : Fnc P f] {args : List Operand} {ats : Array TypeId} {vals : List Value}
    (hc : (b && (c == want)) = true → PureC P f vals.toArray w v) (h : ∀ w', Frm w w' → WL P n ds ops Q rest (real (updG σ d ⟨v, b && (c == want)⟩)) w')
    (hj : (ops[j]?).bind (·.dst) = some dj := by rfl) (hσ : σ dj = ⟨.bool c, b⟩ := by rfl)
    (ha : (b && (c == want)) = true → args.map (evl (real σ)) = vals := by
    intro hgd
    first
    | exact Go.Sv.am1 (evG hgd)
    | exact Go.Sv.am2 (evG hgd) (evG hgd)
    | exact Go.Sv.am3 (evG hgd) (evG hgd) (evG hgd)) :
    WL P n ds ops Q (⟨some d, .call ⟨.value (.func f), args.toArray, ats⟩, ty, pos, af, some (j, want)⟩ :: rest) (real σ) w := by
  have hw := wanted_real (ops := ops) (o := ⟨some d, .call ⟨.value (.func f), args.toArray, ats⟩, ty, pos, af, some (j, want)⟩) rfl hj hσ
  cases hb : (b && (c == want)) with
  | true =>
    rw [hb] at hw
    refine WL_call_want (R := fun u w' => u = v ∧ Frm w w') hw ?_ ?_
    · have := hc hb
      rw [← ha hb] at this
      unfold PureC at this
      simpa using this
    · rintro u w' ⟨rfl, hf⟩
      have := h w' hf
      rw [hb] at this
      rw [← real_upd] at this
      exact this
  | false =>
    rw [hb] at hw
    refine WL_skip hw ?_
    have := h w (Frm.refl w)
    rw [hb] at this
    rw [← real_upd] at this
    exact this
end

/-! ## A cut between two pieces of code; more of frames -/
theorem wcut {P : Program} {n : Nat} {ds : Ctx} {Q : Exit → Ctx → Env → World → Prop} {σ : Env} {w : World} {a b : Code} {X : Type} (sl : X → List (Nat × Value)) (I : X → World → Prop)
    (ha : WC P n ds a (thl ds (fun σ w => ∃ x, Has σ (sl x) ∧ I x w) Q) σ w) (hb : ∀ x w (ρ : GE), I x w → WC P n ds b Q (real (updGL ρ (sl x))) w) : WC P n ds (.seq a b) Q σ w := by
  refine WC_seq (WC_mono ha ?_)
  intro e c' σ' w' h
  unfold thl at h
  unfold thn
  cases e <;> try exact h
  obtain ⟨rfl, x, h1, h2⟩ := h
  have := hb x w' (lif σ') h2
  rw [← real_updL, updL_has h1] at this
  exact this
theorem Frm.step {a b c : World} {M : List Nat} (h : Frm a b) (k : Le M b c) (hM : ∀ x ∈ M, a.heap.size ≤ x) : Frm a c :=
  ⟨k.os.trans h.os, k.tape.trans h.tape, k.output.trans h.output, Nat.le_trans h.size k.size, fun i hi => by
    rw [k.block i (Nat.lt_of_lt_of_le hi h.size) (fun hm => by have := hM i hm; omega)]; exact h.block i hi⟩
theorem Lm.fresh {M M' : List Nat} {a w w' : World} (h : Lm M w M' w') (hf : Frm a w) (hM : ∀ x ∈ M, a.heap.size ≤ x) : ∀ x ∈ M', a.heap.size ≤ x := fun x hx => by
  rcases Nat.lt_or_ge x w.heap.size with h1 | h1
  · exact hM x (h.2 x hx h1)
  · exact Nat.le_trans hf.size h1
theorem rb_nil (n : Nat) : ∀ x ∈ rb none, n ≤ x := by simp [rb]

/-! ## Stores -/
section
variable {P : Program} {n : Nat} {ds : Ctx} {ops : Array Oper} {Q : Exit → Ctx → Env → World → Prop} {rest : List Oper} {σ : GE} {w : World} {v : Value} {ty t : TypeId} {pos : String} {af : Array Edge} {x y : Operand} {zv : Value} {size bytes : Nat} {l vs : List Value} {b i : Nat}
/-- a whole struct into a block of one's own -/
theorem wlstorea0 [hi : Inf P t zv size bytes] (ho : Own w b l) (h : ∀ w', Own w' b vs → Le [b] w w' → WL P n ds ops Q rest (real σ) w')
    (hx : evl (real σ) x = ptrAt (pb b) 0 := by rfl) (hy : evl (real σ) y = .agg ⟨vs⟩ := by rfl) (hv : vs.length = size ∧ l.length = size := by first | exact ⟨rfl, rfl⟩ | (simp; done)) (h1 : ∀ u ∈ vs, u.oneCell' = true := by simp [Go.Value.oneCell']) :
    WL P n ds ops Q (⟨none, .store t x y, ty, pos, af, none⟩ :: rest) (real σ) w := by
  refine wlstore hx hy ho (by simpa [Value.cells] using hv.1) (by omega) (by simpa [Value.cells] using h1) fun w' h2 h3 => h w' ?_ h3
  simp only [Value.cells, List.take_zero, List.nil_append, Nat.zero_add] at h2
  rw [← hv.2, List.drop_length, List.append_nil] at h2
  exact h2
/-- one cell into a block of one's own -/
theorem wlstore1 [hi : Inf P t zv 1 bytes] (hx : evl (real σ) x = ptrAt (pb b) i) (hy : evl (real σ) y = v) (ho : Own w b l) (hc : v.cells = #[v]) (h1 : v.oneCell' = true) (hk : i < l.length)
    (h : ∀ w', Own w' b (l.set i v) → Le [b] w w' → WL P n ds ops Q rest (real σ) w') :
    WL P n ds ops Q (⟨none, .store t x y, ty, pos, af, none⟩ :: rest) (real σ) w := by
  refine wlstore hx hy ho (by simp [hc]) (by omega) (by simp [hc, h1]) fun w' h2 h3 => h w' ?_ h3
  rw [hc] at h2
  have e : l.take i ++ [v] ++ l.drop (i + 1) = l.set i v := by
    rw [List.set_eq_take_append_cons_drop, if_pos hk]; simp
  simpa [e] using h2
variable {k : IntKind} {a : Int} {s : List UInt8} {c : Bool} {p : Option Addr} {m cc : Nat}
theorem wlst_int [hi : Inf P t zv 1 bytes] (ho : Own w b l) (h : ∀ w', Own w' b (l.set i (.int k a)) → Le [b] w w' → WL P n ds ops Q rest (real σ) w') (hx : evl (real σ) x = ptrAt (pb b) i := by rfl) (hy : evl (real σ) y = .int k a := by rfl) (hk : i < l.length := by first | decide | (simp; done)) :
    WL P n ds ops Q (⟨none, .store t x y, ty, pos, af, none⟩ :: rest) (real σ) w := wlstore1 hx hy ho rfl rfl hk h
theorem wlst_str [hi : Inf P t zv 1 bytes] (ho : Own w b l) (h : ∀ w', Own w' b (l.set i (str s)) → Le [b] w w' → WL P n ds ops Q rest (real σ) w') (hx : evl (real σ) x = ptrAt (pb b) i := by rfl) (hy : evl (real σ) y = str s := by rfl) (hk : i < l.length := by first | decide | (simp; done)) :
    WL P n ds ops Q (⟨none, .store t x y, ty, pos, af, none⟩ :: rest) (real σ) w := wlstore1 hx hy ho rfl rfl hk h
theorem wlst_bool [hi : Inf P t zv 1 bytes] (ho : Own w b l) (h : ∀ w', Own w' b (l.set i (.bool c)) → Le [b] w w' → WL P n ds ops Q rest (real σ) w') (hx : evl (real σ) x = ptrAt (pb b) i := by rfl) (hy : evl (real σ) y = .bool c := by rfl) (hk : i < l.length := by first | decide | (simp; done)) :
    WL P n ds ops Q (⟨none, .store t x y, ty, pos, af, none⟩ :: rest) (real σ) w := wlstore1 hx hy ho rfl rfl hk h
theorem wlst_slice [hi : Inf P t zv 1 bytes] (ho : Own w b l) (h : ∀ w', Own w' b (l.set i (.slice p m cc)) → Le [b] w w' → WL P n ds ops Q rest (real σ) w') (hx : evl (real σ) x = ptrAt (pb b) i := by rfl) (hy : evl (real σ) y = .slice p m cc := by rfl) (hk : i < l.length := by first | decide | (simp; done)) :
    WL P n ds ops Q (⟨none, .store t x y, ty, pos, af, none⟩ :: rest) (real σ) w := wlstore1 hx hy ho rfl rfl hk h
theorem wlst_ptr [hi : Inf P t zv 1 bytes] (ho : Own w b l) (h : ∀ w', Own w' b (l.set i (.pointer p)) → Le [b] w w' → WL P n ds ops Q rest (real σ) w') (hx : evl (real σ) x = ptrAt (pb b) i := by rfl) (hy : evl (real σ) y = .pointer p := by rfl) (hk : i < l.length := by first | decide | (simp; done)) :
    WL P n ds ops Q (⟨none, .store t x y, ty, pos, af, none⟩ :: rest) (real σ) w := wlstore1 hx hy ho rfl rfl hk h
end

/-! ## append, by what lies at hand -/
section
variable {P : Program} {n : Nat} {ds : Ctx} {ops : Array Oper} {Q : Exit → Ctx → Env → World → Prop} {rest : List Oper} {σ : GE} {w : World} {v : Value} {d : Nat} {ty t t' e e' : TypeId} {pos : String} {af : Array Edge} {x y : Operand} {zv : Value} {size bytes : Nat} {p q : Option Addr} {l xs news vs : List Value} {b i m k c c' : Nat}
theorem wlapp [hu : Und P t (.slice e)] [hu' : Und P t' (.slice e')] [hi : Inf P e zv size bytes] (hr : Row w size p m c xs) (hs : Sg w q news)
    (h : ∀ p' c' w', Row w' size p' (m + k) c' (xs ++ news) → Lm (rb p) w (rb p') w' → WL P n ds ops Q rest (real (updG σ d ⟨.slice p' (m + k) c', true⟩)) w')
    (hx : evl (real σ) x = .slice p m c := by rfl) (hy : evl (real σ) y = .slice q k c' := by rfl) (hl : news.length = k * size := by first | rfl | (simp; done))
    (h1 : ∀ u ∈ news, u.oneCell' = true := by simp [Go.Value.oneCell']) (hz : zv.cells.size = size := by rfl) (hsz : 0 < size := by decide) (hb : (m + k) * bytes ≤ 140737488355328 ∧ m + k ≤ 9223372036854775807 := by omega) :
    WL P n ds ops Q (⟨some d, .call ⟨.builtin .append, #[x, y], #[t, t']⟩, ty, pos, af, none⟩ :: rest) (real σ) w := wlappend hx hr hy hs hl h1 hz hsz hb h
theorem wlapps [hu : Und P t (.slice e)] [hu' : Und P t' .string] [hi : Inf P e zv 1 bytes] {s : List UInt8} (hr : Row w 1 p m c xs)
    (h : ∀ p' c' w', Row w' 1 p' (m + s.length) c' (xs ++ bs s) → Lm (rb p) w (rb p') w' → WL P n ds ops Q rest (real (updG σ d ⟨.slice p' (m + s.length) c', true⟩)) w')
    (hx : evl (real σ) x = .slice p m c := by rfl) (hy : evl (real σ) y = str s := by rfl) (hz : zv.cells.size = 1 := by rfl) (hb : (m + s.length) * bytes ≤ 140737488355328 ∧ m + s.length ≤ 9223372036854775807 := by omega) :
    WL P n ds ops Q (⟨some d, .call ⟨.builtin .append, #[x, y], #[t, t']⟩, ty, pos, af, none⟩ :: rest) (real σ) w := wlappends hx hr hy hz hb h
theorem wlb1a [hu : Und P t (.slice e)] [hi : Inf P e zv size bytes] (h : ∀ b w', w.heap.size ≤ b → Own w' b vs → Frm w w' → WL P n ds ops Q rest (real (updG σ d ⟨.slice (pb b) 1 1, true⟩)) w')
    (hx : evl (real σ) x = .agg ⟨vs⟩ := by rfl) (hv : vs.length = size := by first | rfl | (simp; done)) (hz : zv.cells.size = size := by rfl) (hsz : 0 < size := by decide) (hm : size ≤ 16777216 := by decide) :
    WL P n ds ops Q (⟨some d, .buildSlice t 1 #[(0, x)], ty, pos, af, none⟩ :: rest) (real σ) w := wlbuild1 hx (by simpa [Value.cells] using hv) hz hsz hm (by simpa [Value.cells] using h)
theorem wlb1v [hu : Und P t (.slice e)] [hi : Inf P e zv 1 bytes] (hx : evl (real σ) x = v) (hv : v.cells = #[v]) (h : ∀ b w', w.heap.size ≤ b → Own w' b [v] → Frm w w' → WL P n ds ops Q rest (real (updG σ d ⟨.slice (pb b) 1 1, true⟩)) w') (hz : zv.cells.size = 1) :
    WL P n ds ops Q (⟨some d, .buildSlice t 1 #[(0, x)], ty, pos, af, none⟩ :: rest) (real σ) w := wlbuild1 hx (by simp [hv]) hz (by decide) (by decide) (by simpa [hv] using h)
variable {s : List UInt8} {kk : IntKind} {a : Int} {bb : Bool}
theorem wlb1_str [hu : Und P t (.slice e)] [hi : Inf P e zv 1 bytes] (h : ∀ b w', w.heap.size ≤ b → Own w' b [str s] → Frm w w' → WL P n ds ops Q rest (real (updG σ d ⟨.slice (pb b) 1 1, true⟩)) w') (hx : evl (real σ) x = str s := by rfl) (hz : zv.cells.size = 1 := by rfl) :
    WL P n ds ops Q (⟨some d, .buildSlice t 1 #[(0, x)], ty, pos, af, none⟩ :: rest) (real σ) w := wlb1v hx rfl h hz
theorem wlb1_int [hu : Und P t (.slice e)] [hi : Inf P e zv 1 bytes] (h : ∀ b w', w.heap.size ≤ b → Own w' b [.int kk a] → Frm w w' → WL P n ds ops Q rest (real (updG σ d ⟨.slice (pb b) 1 1, true⟩)) w') (hx : evl (real σ) x = .int kk a := by rfl) (hz : zv.cells.size = 1 := by rfl) :
    WL P n ds ops Q (⟨some d, .buildSlice t 1 #[(0, x)], ty, pos, af, none⟩ :: rest) (real σ) w := wlb1v hx rfl h hz
end
end Go.Sv
