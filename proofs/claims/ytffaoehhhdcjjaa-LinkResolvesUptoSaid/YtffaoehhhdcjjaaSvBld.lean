/-
  strings.Builder: a block of two cells and a row of bytes; pointers compared; pointers turned to unsafe ones and back; slices written out.
-/
import Derived.Test.YtffaoehhhdcjjaaSvMap
import Derived.Lib.Builder
import Derived.Lib.AppendStr
import Derived.Laws.Externs
set_option linter.unusedSimpArgs false
set_option linter.unusedVariables false
set_option linter.unnecessarySimpa false
namespace Go.Sv
open Go Go.RowKit

/-- a builder in block b: it holds s; its bytes lie at q -/
structure BuP (T E : TypeId) (w : World) (b : Nat) (pv q : Option Addr) (c : Nat) (s : List UInt8) : Prop where
  hp : pv = none ∨ pv = pb b
  cell : w.heap[b]? = some (.cells #[.pointer pv, .slice q s.length c] T (0, 0))
  row : w.ownsRow 0 E 1 (.slice q s.length c) s.length (bs s)
  ne : b ∉ rb q
def Bld (T E : TypeId) (w : World) (b : Nat) (q : Option Addr) (s : List UInt8) : Prop := ∃ pv c, BuP T E w b pv q c s

section
variable {P : Program} {T E : TypeId} {w w' : World} {b : Nat} {pv q : Option Addr} {c : Nat} {s : List UInt8} {M : List Nat}
theorem rb_own {q : Option Addr} {n c k : Nat} : (Value.slice q n c).ownBlock = some k ↔ k ∈ rb q := by
  cases q with
  | none => simp [Value.ownBlock, rb]
  | some a => simp only [Value.ownBlock, rb, Option.some.injEq, List.mem_singleton]; exact eq_comm
theorem rowT_lt {B n : Nat} {xs : List Value} (h : w.ownsRow B E 1 (.slice q n c) n xs) : ∀ k ∈ rb q, k < w.heap.size := fun k hk => (h.lt k (rb_own.2 hk)).2
theorem rowT_le {B n : Nat} {xs : List Value} (h : w.ownsRow B E 1 (.slice q n c) n xs) (hl : Le M w w') (hM : ∀ k ∈ rb q, k ∉ M) : w'.ownsRow B E 1 (.slice q n c) n xs := by
  refine ⟨h.1, ?_⟩
  have hlt := rowT_lt h
  rcases h.2 with h1 | ⟨g, cap, cur, hv, h2, h3, h4⟩
  · exact .inl h1
  · refine .inr ⟨g, cap, cur, hv, h2, ?_, h4⟩
    have hg : g ∈ rb q := rb_own.1 (by rw [hv]; rfl)
    rw [hl.block g (hlt g hg) (hM g hg)]; exact h3
theorem rowT_row {B n : Nat} {xs : List Value} (h : w.ownsRow B E 1 (.slice q n c) n xs) : Row w 1 q n c xs := by
  refine ⟨h.1, ?_⟩
  rcases h.2 with ⟨h1, h2⟩ | ⟨g, cap, cur, hv, h2, h3, h4, h5, h6, h7⟩
  · injection h1 with h1 h3 h4
    exact .inl ⟨h1, h2, h4⟩
  · injection hv with h1 h8 h9
    subst h9
    refine .inr ⟨g, 0, cur, E, h1, h3, h4, by simpa [maxLen] using h5, by omega, by simpa using h7⟩
theorem rowT_base {B n : Nat} {xs : List Value} (h : w.ownsRow 0 E 1 (.slice q n c) n xs) (hB : ∀ k ∈ rb q, B ≤ k) : w.ownsRow B E 1 (.slice q n c) n xs := by
  refine ⟨h.1, ?_⟩
  rcases h.2 with h1 | ⟨g, cap, cur, hv, h2, h3⟩
  · exact .inl h1
  · exact .inr ⟨g, cap, cur, hv, hB g (rb_own.1 (by rw [hv]; rfl)), h3⟩

theorem BuP.own (h : BuP T E w b pv q c s) : Own w b [.pointer pv, .slice q s.length c] := ⟨T, h.cell⟩
theorem BuP.le (h : BuP T E w b pv q c s) (hl : Le M w w') (hb : b ∉ M) (hM : ∀ k ∈ rb q, k ∉ M) : BuP T E w' b pv q c s :=
  ⟨h.hp, by rw [hl.block b h.own.lt hb]; exact h.cell, rowT_le h.row hl hM, h.ne⟩
theorem Bld.lt (h : Bld T E w b q s) : ∀ k ∈ b :: rb q, k < w.heap.size := by
  obtain ⟨pv, c, h⟩ := h
  intro k hk
  rcases List.mem_cons.1 hk with rfl | hk
  · exact h.own.lt
  · exact rowT_lt h.row k hk
theorem Bld.le (h : Bld T E w b q s) (hl : Le M w w') (hM : ∀ k ∈ b :: rb q, k ∉ M) : Bld T E w' b q s := by
  obtain ⟨pv, c, h⟩ := h
  exact ⟨pv, c, h.le hl (hM b List.mem_cons_self) fun k hk => hM k (List.mem_cons_of_mem _ hk)⟩
theorem Bld.frm (h : Bld T E w b q s) (hl : Frm w w') : Bld T E w' b q s := h.le (M := []) hl.le (by simp)
/-- a new one -/
theorem Bld.new (ho : w.heap[b]? = some (.cells #[.pointer none, .slice none 0 0] T (0, 0))) : Bld T E w b none [] :=
  ⟨none, 0, .inl rfl, ho, ⟨by simp [bs], .inl ⟨rfl, rfl⟩⟩, by simp [rb]⟩
/-- for the shelf -/
theorem Bld.shelf {B : Nat} (h : Bld T E w b q s) (hB : ∀ k ∈ b :: rb q, B ≤ k) : Lib.IsBuilder T E B b (bs s) w := by
  obtain ⟨pv, c, h⟩ := h
  have h1 : Lib.BuilderAt T E B b (.pointer pv) (bs s) w := by
    refine ⟨hB b List.mem_cons_self, _, h.cell, ?_, fun hh => h.ne (rb_own.1 hh)⟩
    have := rowT_base (B := B) h.row fun k hk => hB k (List.mem_cons_of_mem _ hk)
    simpa using this
  rcases h.hp with rfl | rfl
  · exact .inl h1
  · exact .inr h1

theorem rowT_slice {v : Value} {n : Nat} {xs : List Value} (h : w.ownsRow 0 E 1 v n xs) : ∃ q c, v = .slice q n c := by
  rcases h.2 with ⟨rfl, rfl⟩ | ⟨g, cap, cur, rfl, _⟩
  · exact ⟨_, _, rfl⟩
  · exact ⟨_, _, rfl⟩
/-- append to a row of bytes -/
theorem run_appT {t ty : TypeId} {zb : Nat} {n m cc : Nat} {a : Addr} {xs news : List Value} [hu : Und P t (.slice E)] [hi : Inf P E (.int .u8 0) 1 zb] (hr : w.ownsRow 0 E 1 (.slice q n c) n xs) (hs : seg w a news) (hl : news.length = m)
    (h1 : ∀ u ∈ news, u.oneCell' = true) (h63 : n + m ≤ 9223372036854775807) (hb : (n + m) * zb ≤ 140737488355328) :
    ∃ q' c' w', (Builtin.append_ #[t, t] ty #[.slice q n c, .slice (some a) m cc]).run P w = .ok (.slice q' (n + m) c') w' ∧ w'.ownsRow 0 E 1 (.slice q' (n + m) c') (n + m) (xs ++ news) ∧ Lm (rb q) w (rb q') w' := by
  obtain ⟨i, hi1, hi2, hi3, hi4⟩ := inf_size (P := P) (t := E)
  have hl1 : news.length = m * 1 := by omega
  obtain ⟨q', c', w', r1, r2, r3⟩ := run_append_row (P := P) (t := t) (tx := t) (ty := ty) (e := E) rfl (by decide) (rowT_row hr) (src_of_sg (tx := t) (c := cc) (.inr ⟨a, rfl, hs⟩) hl1 h1) h63 hb
  obtain ⟨v', w2, k1, k2, k3, k4⟩ := run_append_own (P := P) w 0 t ty E i (.int .u8 0) 1 zb hu.ok hi1 hi2 hi3 hi4 rfl (by decide) _ n xs hr a m cc news hl1
    (fun j u hj => by
      have hlt : j < news.length := by
        rcases Nat.lt_or_ge j news.length with h | h
        · exact h
        · rw [List.getElem?_eq_none h] at hj; cases hj
      rw [hs j hlt]; exact hj) h1 (by simpa [maxLen] using h63) hb (Nat.zero_le _)
  rw [r1] at k1
  injection k1 with k5 k6
  subst k6
  refine ⟨q', c', w', r1, ?_, r3⟩
  rw [k5]; exact k2
theorem run_appTs {t t' ty : TypeId} {n : Nat} {xs : List Value} [hu : Und P t (.slice E)] [hu' : Und P t' .string] [hi : Inf P E (.int .u8 0) 1 1] (hr : w.ownsRow 0 E 1 (.slice q n c) n xs)
    (h63 : n + s.length ≤ 9223372036854775807) (hb : n + s.length ≤ 140737488355328) :
    ∃ q' c' w', (Builtin.append_ #[t, t'] ty #[.slice q n c, str s]).run P w = .ok (.slice q' (n + s.length) c') w' ∧ w'.ownsRow 0 E 1 (.slice q' (n + s.length) c') (n + s.length) (xs ++ bs s) ∧ Lm (rb q) w (rb q') w' := by
  obtain ⟨i, hi1, hi2, hi3, hi4⟩ := inf_size (P := P) (t := E)
  have hsrc := Src.ofString (P := P) w hu'.ok ⟨s.toArray⟩
  rw [size_str] at hsrc
  have e1 : byteCells ⟨s.toArray⟩ = bs s := by simp [byteCells, bs]
  rw [e1] at hsrc
  obtain ⟨q', c', w', r1, r2, r3⟩ := run_append_row (P := P) (t := t) (tx := t') (ty := ty) (e := E) (size := 1) (z := .int .u8 0) rfl (by decide) (rowT_row hr) hsrc h63 (by omega)
  obtain ⟨v', w2, k1, k2, k3, k4⟩ := Lib.run_append_own_string (P := P) w 0 t t' ty E i hu.ok hu'.ok hi1 hi2 hi3 hi4 _ n xs hr ⟨s.toArray⟩ (by rw [size_str]; simpa [maxLen] using h63) (by rw [size_str]; exact hb) (Nat.zero_le _)
  rw [r1] at k1
  injection k1 with k5 k6
  subst k6
  rw [size_str] at k2
  refine ⟨q', c', w', r1, ?_, r3⟩
  rw [k5]
  have e2 : Lib.strCells ⟨s.toArray⟩ = bs s := by simp [Lib.strCells, bs]
  rw [← e2]; exact k2
end

/-! ## pointers -/
section
variable {P : Program} {σ : Env} {w : World} {d : Option Tmp} {ty t t' e : TypeId} {pos : String} {af : Array Edge} {g : Option (Nat × Bool)} {x y : Operand} {p : Option Addr}
theorem y_pnil [hu : Und P t (.pointer e)] (hx : evl σ x = .pointer p) (hy : evl σ y = .pointer none) : Y P σ ⟨d, .binOp .eql t x y t', ty, pos, af, g⟩ w (.bool p.isNone) w := by
  refine Y.val ?_
  have h : ∀ k : Nat, (Op.equalIn (k + 1) t (.pointer p) (.pointer none)).run P w = .ok p.isNone w := fun k => by
    cases p <;> simp [Op.equalIn, run_underlying hu.ok]
  simp only [execOp, hx, hy]
  simp [eqGuard, binOp, Op.equal, Op.maxDepth, h 9999]
theorem y_psame {a : Addr} {j : TypeInfo} [hu : Und P t (.pointer e)] (hx : evl σ x = .pointer (some a)) (hy : evl σ y = .pointer (some a)) (hj : P.info? e = some j) : Y P σ ⟨d, .binOp .neq t x y t', ty, pos, af, g⟩ w (.bool false) w := by
  refine Y.val ?_
  have h := Lib.run_neq_ptr_same (P := P) w (tp := t) a hu.ok hj
  simp only [execOp, hx, hy]
  rw [Sem.run_bind, Sem.run_bind, show (eqGuard .neq t x y (.pointer (some a)) (.pointer (some a))).run P w = .ok () w from by simp [eqGuard], Result.andThen_ok, h]
  rfl
theorem y_tou {a : Addr} {j : TypeInfo} {E : TypeId} {cells : Nat} [hu : Und P t (.pointer e)] [hu' : Und P t' .unsafePointer] (hx : evl σ x = .pointer (some a)) (ht : P.info? e = some j) (hj : j.size ≠ 0) (hsh : w.shape? a.block = some (E, cells)) (hoff : a.off < cells) :
    Y P σ ⟨d, .convert t t' x, ty, pos, af, g⟩ w (.pointer (some a)) w := by
  refine Y.val ?_
  simp only [execOp, hx]
  rw [Sem.run_bind, Lib.run_to_unsafe (P := P) w a hu.ok hu'.ok ht hj hsh hoff]
  rfl
theorem y_fromu {a : Addr} {j : TypeInfo} {E : TypeId} {cells : Nat} [hu : Und P t .unsafePointer] [hu' : Und P t' (.pointer e)] (hx : evl σ x = .pointer (some a)) (ht : P.info? e = some j) (hsh : w.shape? a.block = some (E, cells)) (hl : liesAt P P.depth E (cells / P.cellsOf E) a.off e 1 = true) :
    Y P σ ⟨d, .convert t t' x, ty, pos, af, g⟩ w (.pointer (some a)) w := by
  refine Y.val ?_
  simp only [execOp, hx]
  rw [Sem.run_bind, Lib.run_from_unsafe (P := P) w a hu.ok hu'.ok ht hsh hl]
  rfl
theorem y_noesc {f : FuncId} {fn : Func} {ats : Array TypeId} {v : Value} (hf : P.funcs[f]? = some fn) (h1 : (fn.name == "runtime.NumGoroutine") = false) (h2 : fn.body.isNone = true) (h3 : Extern.findNext fn = none) (h4 : Extern.find fn = some Extern.AbiNoEscape.same) (hx : evl σ x = v) :
    Y P σ ⟨d, .call ⟨.value (.func f), #[x], ats⟩, ty, pos, af, g⟩ w v w := by
  refine Y.val ?_
  simp only [execOp, resolve, evl, Deferred.ofValue]
  simp only [Sem.run_bind, Sem.run_pure, Result.andThen_ok, invoke]
  have h := run_callFunc_extern hf h1 h2 h3 h4 #[v] w
  rw [Lib.run_noEscape] at h
  simp only [Result.andThen] at h
  simpa [hx] using h
end

/-! ## stores that keep what kind of block it is; append of bytes -/
section
variable {P : Program} {n : Nat} {ds : Ctx} {ops : Array Oper} {Q : Exit → Ctx → Env → World → Prop} {rest : List Oper} {σ : GE} {w : World} {v : Value} {d : Nat} {ty t t' e T E : TypeId} {pos : String} {af : Array Edge} {x y : Operand} {zv : Value} {size bytes b i m c cc : Nat} {l xs news : List Value} {p q : Option Addr} {s : List UInt8}
theorem wlstT [hi : Inf P t zv 1 bytes] (ho : w.heap[b]? = some (.cells l.toArray T (0, 0))) (h : ∀ w', w'.heap[b]? = some (.cells (l.set i v).toArray T (0, 0)) → Le [b] w w' → WL P n ds ops Q rest (real σ) w')
    (hc : v.cells = #[v]) (h1 : v.oneCell' = true) (hx : evl (real σ) x = ptrAt (pb b) i := by rfl) (hy : evl (real σ) y = v := by rfl) (hk : i < l.length := by first | decide | (simp; done)) :
    WL P n ds ops Q (⟨none, .store t x y, ty, pos, af, none⟩ :: rest) (real σ) w := by
  have e : (⟨b, 0, none⟩ : Addr).add i = ⟨b, i, none⟩ := by unfold Addr.add; split <;> simp_all
  have hs := run_storeCells_at P b i T [v] 0 l.toArray w ho (by simp; omega) (by simp [h1])
  have e2 : l.take i ++ [v] ++ l.drop (i + 1) = l.set i v := by
    rw [List.set_eq_take_append_cons_drop, if_pos hk]; simp
  refine wl0 (h (w.setRow b (l.set i v).toArray) (by rw [setRow_heap w b l.toArray _ T (0, 0) ho]) (le_setRow w b _)) (Y.skip ?_)
  simp only [execOp, hx, hy]
  have hr : (Instr.storeAt t (ptrAt (pb b) i) v).run P w = .ok () (w.setRow b (l.set i v).toArray) := by
    simp only [Instr.storeAt, show ptrAt (pb b) i = .pointer (some ⟨b, i, none⟩) from by simp [e], Instr.sureAddr, Sem.run_bind, Sem.run_pure, Result.andThen_ok, storeVar, run_sizeOf (P := P) (t := t)]
    rw [if_neg (by simp [hc]), hc]
    simp only [List.length_singleton, Nat.add_zero, List.size_toArray] at hs
    rw [← e2]
    simpa using hs
  rw [Sem.run_bind, hr]
  rfl
theorem wlappT [hu : Und P t (.slice E)] [hi : Inf P E (.int .u8 0) 1 1] (hr : w.ownsRow 0 E 1 (.slice q m c) m xs) (hs : Sg w p news)
    (h : ∀ q' c' w', w'.ownsRow 0 E 1 (.slice q' (m + news.length) c') (m + news.length) (xs ++ news) → Lm (rb q) w (rb q') w' → WL P n ds ops Q rest (real (updG σ d ⟨.slice q' (m + news.length) c', true⟩)) w')
    (hx : evl (real σ) x = .slice q m c := by rfl) (hy : evl (real σ) y = .slice p news.length cc := by rfl) (hp : 0 < news.length := by first | decide | (simp; done))
    (h1 : ∀ u ∈ news, u.oneCell' = true := by simp [Go.Value.oneCell']) (hb : m + news.length ≤ 140737488355328 := by omega) :
    WL P n ds ops Q (⟨some d, .call ⟨.builtin .append, #[x, y], #[t, t]⟩, ty, pos, af, none⟩ :: rest) (real σ) w := by
  rcases hs with rfl | ⟨a, rfl, hs⟩
  · simp at hp
  obtain ⟨q', c', w', r1, r2, r3⟩ := run_appT (P := P) (t := t) (ty := ty) (cc := cc) hr hs rfl h1 (by omega) (by omega)
  exact wl (h q' c' w' r2 r3) (run_append_op hx hy r1)
theorem wlappTs [hu : Und P t (.slice E)] [hu' : Und P t' .string] [hi : Inf P E (.int .u8 0) 1 1] (hr : w.ownsRow 0 E 1 (.slice q m c) m xs)
    (h : ∀ q' c' w', w'.ownsRow 0 E 1 (.slice q' (m + s.length) c') (m + s.length) (xs ++ bs s) → Lm (rb q) w (rb q') w' → WL P n ds ops Q rest (real (updG σ d ⟨.slice q' (m + s.length) c', true⟩)) w')
    (hx : evl (real σ) x = .slice q m c := by rfl) (hy : evl (real σ) y = str s := by rfl) (hb : m + s.length ≤ 140737488355328 := by omega) :
    WL P n ds ops Q (⟨some d, .call ⟨.builtin .append, #[x, y], #[t, t']⟩, ty, pos, af, none⟩ :: rest) (real σ) w := by
  obtain ⟨q', c', w', r1, r2, r3⟩ := run_appTs (P := P) (t := t) (t' := t') (ty := ty) (s := s) hr (by omega) (by omega)
  exact wl (h q' c' w' r2 r3) (run_append_op hx hy r1)
end
end Go.Sv
