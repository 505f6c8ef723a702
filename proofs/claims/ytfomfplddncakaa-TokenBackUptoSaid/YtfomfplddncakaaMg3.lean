/-
  Our texts SvBld, SvStr, SvBs, SvRune, SvDec, SvRange, Shelf, SvQuote, SvFp, SvTokE, SvTokF, SvTokG, SvLives07, SvTokH, SvTpA, SvTpD, SvRec, SvDraw, SvDraw2, joined.
-/
import Derived.Test.YtfomfplddncakaaMg2
import Derived.Lib.Builder
import Derived.Lib.AppendStr
import Derived.Laws.Externs
import Derived.Shelf.Strings.Builder1
import Derived.Shelf.Small.Wraps
import Derived.Shelf.Strings.BuilderF
import Derived.Shelf.Strings.BuilderK
import Derived.Shelf.Strings.BuilderRune
import Derived.Shelf.Utf8.AppendRune
import Derived.Shelf.Utf8.AppendRunePlain
import Derived.Shelf.Strings.Search1
import Derived.Shelf.Strings.Search2
import Derived.Shelf.Strings.Cut
import Derived.Shelf.LaysM
import Derived.Shelf.Strings.Shaped
import Derived.Shelf.Strings.Prefix
import Derived.Test.YtfomfplddncakaaProg
import Derived.RecoverIn
import Derived.WalkSmall
import Derived.Laws.Build
/-
  strings.Builder: a block of two cells and a row of bytes; pointers compared; pointers turned to unsafe ones and back; slices written out.
-/
set_option linter.unusedSimpArgs false
set_option linter.unusedVariables false
set_option linter.unnecessarySimpa false
namespace Go.Sv
open Go Go.RowKit

/-- a builder in block b: it holds s; its bytes lie at q -/
structure BuP (T E : TypeId) (w : World) (b : Nat) (pv q : Option Addr) (c : Nat) (s : List UInt8) : Prop where
  hp : pv = none ∨ pv = pb b
  cell : w.heap[b]? = some (.cells #[.pointer pv, .slice q s.length c] T (0, 0))
  row : w.ownsRow 0 E 1 (.slice q s.length c) s.length (bs s)
  ne : b ∉ rb q
def Bld (T E : TypeId) (w : World) (b : Nat) (q : Option Addr) (s : List UInt8) : Prop := ∃ pv c, BuP T E w b pv q c s

section
variable {P : Program} {T E : TypeId} {w w' : World} {b : Nat} {pv q : Option Addr} {c : Nat} {s : List UInt8} {M : List Nat}
theorem rb_own {q : Option Addr} {n c k : Nat} : (Value.slice q n c).ownBlock = some k ↔ k ∈ rb q := by
  cases q with
  | none => simp [Value.ownBlock, rb]
  | some a => simp only [Value.ownBlock, rb, Option.some.injEq, List.mem_singleton]; exact eq_comm
theorem rowT_lt {B n : Nat} {xs : List Value} (h : w.ownsRow B E 1 (.slice q n c) n xs) : ∀ k ∈ rb q, k < w.heap.size := fun k hk => (h.lt k (rb_own.2 hk)).2
theorem rowT_le {B n : Nat} {xs : List Value} (h : w.ownsRow B E 1 (.slice q n c) n xs) (hl : Le M w w') (hM : ∀ k ∈ rb q, k ∉ M) : w'.ownsRow B E 1 (.slice q n c) n xs := by
  refine ⟨h.1, ?_⟩
  have hlt := rowT_lt h
  rcases h.2 with h1 | ⟨g, cap, cur, hv, h2, h3, h4⟩
  · exact .inl h1
  · refine .inr ⟨g, cap, cur, hv, h2, ?_, h4⟩
    have hg : g ∈ rb q := rb_own.1 (by rw [hv]; rfl)
    rw [hl.block g (hlt g hg) (hM g hg)]; exact h3
theorem rowT_row {B n : Nat} {xs : List Value} (h : w.ownsRow B E 1 (.slice q n c) n xs) : Row w 1 q n c xs := by
  refine ⟨h.1, ?_⟩
  rcases h.2 with ⟨h1, h2⟩ | ⟨g, cap, cur, hv, h2, h3, h4, h5, h6, h7⟩
  · injection h1 with h1 h3 h4
    exact .inl ⟨h1, h2, h4⟩
  · injection hv with h1 h8 h9
    subst h9
    refine .inr ⟨g, 0, cur, E, h1, h3, h4, by simpa [maxLen] using h5, by omega, by simpa using h7⟩
theorem rowT_base {B n : Nat} {xs : List Value} (h : w.ownsRow 0 E 1 (.slice q n c) n xs) (hB : ∀ k ∈ rb q, B ≤ k) : w.ownsRow B E 1 (.slice q n c) n xs := by
  refine ⟨h.1, ?_⟩
  rcases h.2 with h1 | ⟨g, cap, cur, hv, h2, h3⟩
  · exact .inl h1
  · exact .inr ⟨g, cap, cur, hv, hB g (rb_own.1 (by rw [hv]; rfl)), h3⟩

theorem BuP.own (h : BuP T E w b pv q c s) : Own w b [.pointer pv, .slice q s.length c] := ⟨T, h.cell⟩
theorem BuP.le (h : BuP T E w b pv q c s) (hl : Le M w w') (hb : b ∉ M) (hM : ∀ k ∈ rb q, k ∉ M) : BuP T E w' b pv q c s :=
  ⟨h.hp, by rw [hl.block b h.own.lt hb]; exact h.cell, rowT_le h.row hl hM, h.ne⟩
theorem Bld.lt (h : Bld T E w b q s) : ∀ k ∈ b :: rb q, k < w.heap.size := by
  obtain ⟨pv, c, h⟩ := h
  intro k hk
  rcases List.mem_cons.1 hk with rfl | hk
  · exact h.own.lt
  · exact rowT_lt h.row k hk
theorem Bld.le (h : Bld T E w b q s) (hl : Le M w w') (hM : ∀ k ∈ b :: rb q, k ∉ M) : Bld T E w' b q s := by
  obtain ⟨pv, c, h⟩ := h
  exact ⟨pv, c, h.le hl (hM b List.mem_cons_self) fun k hk => hM k (List.mem_cons_of_mem _ hk)⟩
theorem Bld.frm (h : Bld T E w b q s) (hl : Frm w w') : Bld T E w' b q s := h.le (M := []) hl.le (by simp)
/-- a new one -/
theorem Bld.new (ho : w.heap[b]? = some (.cells #[.pointer none, .slice none 0 0] T (0, 0))) : Bld T E w b none [] :=
  ⟨none, 0, .inl rfl, ho, ⟨by simp [bs], .inl ⟨rfl, rfl⟩⟩, by simp [rb]⟩
/-- for the shelf -/
theorem Bld.shelf {B : Nat} (h : Bld T E w b q s) (hB : ∀ k ∈ b :: rb q, B ≤ k) : Lib.IsBuilder T E B b (bs s) w := by
  obtain ⟨pv, c, h⟩ := h
  have h1 : Lib.BuilderAt T E B b (.pointer pv) (bs s) w := by
    refine ⟨hB b List.mem_cons_self, _, h.cell, ?_, fun hh => h.ne (rb_own.1 hh)⟩
    have := rowT_base (B := B) h.row fun k hk => hB k (List.mem_cons_of_mem _ hk)
    simpa using this
  rcases h.hp with rfl | rfl
  · exact .inl h1
  · exact .inr h1

/-- append to a row of bytes -/
theorem run_appT {t ty : TypeId} {zb : Nat} {n m cc : Nat} {a : Addr} {xs news : List Value} [hu : Und P t (.slice E)] [hi : Inf P E (.int .u8 0) 1 zb] (hr : w.ownsRow 0 E 1 (.slice q n c) n xs) (hs : seg w a news) (hl : news.length = m)
    (h1 : ∀ u ∈ news, u.oneCell' = true) (h63 : n + m ≤ 9223372036854775807) (hb : (n + m) * zb ≤ 140737488355328) :
    ∃ q' c' w', (Builtin.append_ #[t, t] ty #[.slice q n c, .slice (some a) m cc]).run P w = .ok (.slice q' (n + m) c') w' ∧ w'.ownsRow 0 E 1 (.slice q' (n + m) c') (n + m) (xs ++ news) ∧ Lm (rb q) w (rb q') w' := by
  obtain ⟨i, hi1, hi2, hi3, hi4⟩ := inf_size (P := P) (t := E)
  have hl1 : news.length = m * 1 := by omega
  obtain ⟨q', c', w', r1, r2, r3⟩ := run_append_row (P := P) (t := t) (tx := t) (ty := ty) (e := E) rfl (by decide) (rowT_row hr) (src_of_sg (tx := t) (c := cc) (.inr ⟨a, rfl, hs⟩) hl1 h1) h63 hb
  obtain ⟨v', w2, k1, k2, k3, k4⟩ := run_append_own (P := P) w 0 t ty E i (.int .u8 0) 1 zb hu.ok hi1 hi2 hi3 hi4 rfl (by decide) _ n xs hr a m cc news hl1
    (fun j u hj => by
      have hlt : j < news.length := by
        rcases Nat.lt_or_ge j news.length with h | h
        · exact h
        · rw [List.getElem?_eq_none h] at hj; cases hj
      rw [hs j hlt]; exact hj) h1 (by simpa [maxLen] using h63) hb (Nat.zero_le _)
  rw [r1] at k1
  injection k1 with k5 k6
  subst k6
  refine ⟨q', c', w', r1, ?_, r3⟩
  rw [k5]; exact k2
theorem run_appTs {t t' ty : TypeId} {n : Nat} {xs : List Value} [hu : Und P t (.slice E)] [hu' : Und P t' .string] [hi : Inf P E (.int .u8 0) 1 1] (hr : w.ownsRow 0 E 1 (.slice q n c) n xs)
    (h63 : n + s.length ≤ 9223372036854775807) (hb : n + s.length ≤ 140737488355328) :
    ∃ q' c' w', (Builtin.append_ #[t, t'] ty #[.slice q n c, str s]).run P w = .ok (.slice q' (n + s.length) c') w' ∧ w'.ownsRow 0 E 1 (.slice q' (n + s.length) c') (n + s.length) (xs ++ bs s) ∧ Lm (rb q) w (rb q') w' := by
  obtain ⟨i, hi1, hi2, hi3, hi4⟩ := inf_size (P := P) (t := E)
  have hsrc := Src.ofString (P := P) w hu'.ok ⟨s.toArray⟩
  rw [size_str] at hsrc
  have e1 : byteCells ⟨s.toArray⟩ = bs s := by simp [byteCells, bs]
  rw [e1] at hsrc
  obtain ⟨q', c', w', r1, r2, r3⟩ := run_append_row (P := P) (t := t) (tx := t') (ty := ty) (e := E) (size := 1) (z := .int .u8 0) rfl (by decide) (rowT_row hr) hsrc h63 (by omega)
  obtain ⟨v', w2, k1, k2, k3, k4⟩ := Lib.run_append_own_string (P := P) w 0 t t' ty E i hu.ok hu'.ok hi1 hi2 hi3 hi4 _ n xs hr ⟨s.toArray⟩ (by rw [size_str]; simpa [maxLen] using h63) (by rw [size_str]; exact hb) (Nat.zero_le _)
  rw [r1] at k1
  injection k1 with k5 k6
  subst k6
  rw [size_str] at k2
  refine ⟨q', c', w', r1, ?_, r3⟩
  rw [k5]
  have e2 : Lib.strCells ⟨s.toArray⟩ = bs s := by simp [Lib.strCells, bs]
  rw [← e2]; exact k2
end

/-! ## pointers -/
section
variable {P : Program} {σ : Env} {w : World} {d : Option Tmp} {ty t t' e : TypeId} {pos : String} {af : Array Edge} {g : Option (Nat × Bool)} {x y : Operand} {p : Option Addr}
theorem y_pnil [hu : Und P t (.pointer e)] (hx : evl σ x = .pointer p) (hy : evl σ y = .pointer none) : Y P σ ⟨d, .binOp .eql t x y t', ty, pos, af, g⟩ w (.bool p.isNone) w := by
  refine Y.val ?_
  have h : ∀ k : Nat, (Op.equalIn (k + 1) t (.pointer p) (.pointer none)).run P w = .ok p.isNone w := fun k => by
    cases p <;> simp [Op.equalIn, run_underlying hu.ok]
  simp only [execOp, hx, hy]
  simp [eqGuard, binOp, Op.equal, Op.maxDepth, h 9999]
theorem y_psame {a : Addr} {j : TypeInfo} [hu : Und P t (.pointer e)] (hx : evl σ x = .pointer (some a)) (hy : evl σ y = .pointer (some a)) (hj : P.info? e = some j) : Y P σ ⟨d, .binOp .neq t x y t', ty, pos, af, g⟩ w (.bool false) w := by
  refine Y.val ?_
  have h := Lib.run_neq_ptr_same (P := P) w (tp := t) a hu.ok hj
  simp only [execOp, hx, hy]
  rw [Sem.run_bind, Sem.run_bind, show (eqGuard .neq t x y (.pointer (some a)) (.pointer (some a))).run P w = .ok () w from by simp [eqGuard], Result.andThen_ok, h]
  rfl
theorem y_tou {a : Addr} {j : TypeInfo} {E : TypeId} {cells : Nat} [hu : Und P t (.pointer e)] [hu' : Und P t' .unsafePointer] (hx : evl σ x = .pointer (some a)) (ht : P.info? e = some j) (hj : j.size ≠ 0) (hsh : w.shape? a.block = some (E, cells)) (hoff : a.off < cells) :
    Y P σ ⟨d, .convert t t' x, ty, pos, af, g⟩ w (.pointer (some a)) w := by
  refine Y.val ?_
  simp only [execOp, hx]
  rw [Sem.run_bind, Lib.run_to_unsafe (P := P) w a hu.ok hu'.ok ht hj hsh hoff]
  rfl
theorem y_fromu {a : Addr} {j : TypeInfo} {E : TypeId} {cells : Nat} [hu : Und P t .unsafePointer] [hu' : Und P t' (.pointer e)] (hx : evl σ x = .pointer (some a)) (ht : P.info? e = some j) (hsh : w.shape? a.block = some (E, cells)) (hl : liesAt P P.depth E (cells / P.cellsOf E) a.off e 1 = true) :
    Y P σ ⟨d, .convert t t' x, ty, pos, af, g⟩ w (.pointer (some a)) w := by
  refine Y.val ?_
  simp only [execOp, hx]
  rw [Sem.run_bind, Lib.run_from_unsafe (P := P) w a hu.ok hu'.ok ht hsh hl]
  rfl
theorem y_noesc {f : FuncId} {fn : Func} {ats : Array TypeId} {v : Value} (hf : P.funcs[f]? = some fn) (h1 : (fn.name == "runtime.NumGoroutine") = false) (h2 : fn.body.isNone = true) (h3 : Extern.findNext fn = none) (h4 : Extern.find fn = some Extern.AbiNoEscape.same) (hx : evl σ x = v) :
    Y P σ ⟨d, .call ⟨.value (.func f), #[x], ats⟩, ty, pos, af, g⟩ w v w := by
  refine Y.val ?_
  simp only [execOp, resolve, evl, Deferred.ofValue]
  simp only [Sem.run_bind, Sem.run_pure, Result.andThen_ok, invoke]
  have h := run_callFunc_extern hf h1 h2 h3 h4 #[v] w
  rw [Lib.run_noEscape] at h
  simp only [Result.andThen] at h
  simpa [hx] using h
end

/-! ## stores that keep what kind of block it is; append of bytes -/
section
variable {P : Program} {n : Nat} {ds : Ctx} {ops : Array Oper} {Q : Exit → Ctx → Env → World → Prop} {rest : List Oper} {σ : GE} {w : World} {v : Value} {d : Nat} {ty t t' e T E : TypeId} {pos : String} {af : Array Edge} {x y : Operand} {zv : Value} {size bytes b i m c cc : Nat} {l xs news : List Value} {p q : Option Addr} {s : List UInt8}
theorem wlstT [hi : Inf P t zv 1 bytes] (ho : w.heap[b]? = some (.cells l.toArray T (0, 0))) (h : ∀ w', w'.heap[b]? = some (.cells (l.set i v).toArray T (0, 0)) → Le [b] w w' → WL P n ds ops Q rest (real σ) w')
    (hc : v.cells = #[v]) (h1 : v.oneCell' = true) (hx : evl (real σ) x = ptrAt (pb b) i := by rfl) (hy : evl (real σ) y = v := by rfl) (hk : i < l.length := by first | decide | (simp; done)) :
    WL P n ds ops Q (⟨none, .store t x y, ty, pos, af, none⟩ :: rest) (real σ) w := by
  have e : (⟨b, 0, none⟩ : Addr).add i = ⟨b, i, none⟩ := by unfold Addr.add; split <;> simp_all
  have hs := run_storeCells_at P b i T [v] 0 l.toArray w ho (by simp; omega) (by simp [h1])
  have e2 : l.take i ++ [v] ++ l.drop (i + 1) = l.set i v := by
    rw [List.set_eq_take_append_cons_drop, if_pos hk]; simp
  refine wl0 (h (w.setRow b (l.set i v).toArray) (by rw [setRow_heap w b l.toArray _ T (0, 0) ho]) (le_setRow w b _)) (Y.skip ?_)
  simp only [execOp, hx, hy]
  have hr : (Instr.storeAt t (ptrAt (pb b) i) v).run P w = .ok () (w.setRow b (l.set i v).toArray) := by
    simp only [Instr.storeAt, show ptrAt (pb b) i = .pointer (some ⟨b, i, none⟩) from by simp [e], Instr.sureAddr, Sem.run_bind, Sem.run_pure, Result.andThen_ok, storeVar, run_sizeOf (P := P) (t := t)]
    rw [if_neg (by simp [hc]), hc]
    simp only [List.length_singleton, Nat.add_zero, List.size_toArray] at hs
    rw [← e2]
    simpa using hs
  rw [Sem.run_bind, hr]
  rfl
theorem wlappT [hu : Und P t (.slice E)] [hi : Inf P E (.int .u8 0) 1 1] (hr : w.ownsRow 0 E 1 (.slice q m c) m xs) (hs : Sg w p news)
    (h : ∀ q' c' w', w'.ownsRow 0 E 1 (.slice q' (m + news.length) c') (m + news.length) (xs ++ news) → Lm (rb q) w (rb q') w' → WL P n ds ops Q rest (real (updG σ d ⟨.slice q' (m + news.length) c', true⟩)) w')
    (hx : evl (real σ) x = .slice q m c := by rfl) (hy : evl (real σ) y = .slice p news.length cc := by rfl) (hp : 0 < news.length := by first | decide | (simp; done))
    (h1 : ∀ u ∈ news, u.oneCell' = true := by simp [Go.Value.oneCell']) (hb : m + news.length ≤ 140737488355328 := by omega) :
    WL P n ds ops Q (⟨some d, .call ⟨.builtin .append, #[x, y], #[t, t]⟩, ty, pos, af, none⟩ :: rest) (real σ) w := by
  rcases hs with rfl | ⟨a, rfl, hs⟩
  · simp at hp
  obtain ⟨q', c', w', r1, r2, r3⟩ := run_appT (P := P) (t := t) (ty := ty) (cc := cc) hr hs rfl h1 (by omega) (by omega)
  exact wl (h q' c' w' r2 r3) (run_append_op hx hy r1)
theorem wlappTs [hu : Und P t (.slice E)] [hu' : Und P t' .string] [hi : Inf P E (.int .u8 0) 1 1] (hr : w.ownsRow 0 E 1 (.slice q m c) m xs)
    (h : ∀ q' c' w', w'.ownsRow 0 E 1 (.slice q' (m + s.length) c') (m + s.length) (xs ++ bs s) → Lm (rb q) w (rb q') w' → WL P n ds ops Q rest (real (updG σ d ⟨.slice q' (m + s.length) c', true⟩)) w')
    (hx : evl (real σ) x = .slice q m c := by rfl) (hy : evl (real σ) y = str s := by rfl) (hb : m + s.length ≤ 140737488355328 := by omega) :
    WL P n ds ops Q (⟨some d, .call ⟨.builtin .append, #[x, y], #[t, t']⟩, ty, pos, af, none⟩ :: rest) (real σ) w := by
  obtain ⟨q', c', w', r1, r2, r3⟩ := run_appTs (P := P) (t := t) (t' := t') (ty := ty) (s := s) hr (by omega) (by omega)
  exact wl (h q' c' w' r2 r3) (run_append_op hx hy r1)
end
end Go.Sv

/-
  strings.Builder, walked.
-/
set_option linter.unusedSimpArgs false
set_option linter.unusedVariables false
set_option linter.unnecessarySimpa false
namespace Go.Proofs.Ytfomfplddncakaa
open Go Go.Sv Go.RowKit

abbrev TB : Nat := 61
abbrev TY : Nat := 5
theorem bup_shape {w : World} {b : Nat} {pv q : Option Addr} {c : Nat} {s : List UInt8} (h : BuP TB TY w b pv q c s) : w.shape? b = some (TB, 2) := by
  have := h.cell
  simp [World.shape?, this]

theorem tb_info : ∃ j, Try.prog.info? TB = some j ∧ j.size ≠ 0 := by
  obtain ⟨j, hj1, hj2, hj3, hj4⟩ := inf_size (P := Try.prog) (t := TB)
  exact ⟨j, hj1, by rw [hj3]; decide⟩
theorem copyCheck_ok (b : Nat) (pv q : Option Addr) (c : Nat) (s : List UInt8) (w : World) (h : BuP TB TY w b pv q c s) :
    CallsR Try.prog 47 #[ptrAt (pb b) 0] w fun v w' => v = .tuple #[] ∧ BuP TB TY w' b (pb b) q c s ∧ Le [b] w w' := by
  have ho := h.own
  have hsh := bup_shape h
  rcases h.hp with rfl | rfl
  · refine enter (l := [ptrAt (pb b) 0]) Try.func47 rfl Try.ntmps47 (by kernel_rfl) rfl ?_
    refine sgo ?_
    refine wl (v := .bool true) ?_ (y_pnil (p := none) rfl rfl)
    refine sgo ?_
    obtain ⟨j, hj1, hj3⟩ := tb_info
    refine wl ?_ (y_tou (a := ⟨b, 0, none⟩) rfl hj1 hj3 hsh Nat.two_pos)
    refine wl ?_ (y_noesc (v := .pointer (some ⟨b, 0, none⟩)) Try.func57 (by kernel_rfl) (by kernel_rfl) (by kernel_rfl) (by kernel_rfl) rfl)
    refine wl ?_ (y_fromu (a := ⟨b, 0, none⟩) rfl hj1 hsh (by kernel_rfl))
    clear hj1 hj3
    refine sgo ?_
    refine wlstT (v := .pointer (pb b)) h.cell (fun w' h1 h2 => ?_) rfl rfl
    refine sgo ?_
    (first | refine fp1 (.inl rfl) rfl rfl ?_ | refine fp2 (.inl rfl) rfl rfl rfl ?_ | refine fp3 (.inl rfl) rfl rfl rfl rfl ?_ | refine fp0 (.inr rfl) rfl ?_ | refine fp0 (.inl rfl) rfl ?_ | refine fp1 (.inr rfl) rfl rfl ?_)
    exact ⟨rfl, ⟨.inr rfl, h1, rowT_le h.row h2 (by intro k hk hm; simp only [List.mem_singleton] at hm; subst hm; exact h.ne hk), h.ne⟩, h2⟩
  · refine enter (l := [ptrAt (pb b) 0]) Try.func47 rfl Try.ntmps47 (by kernel_rfl) rfl ?_
    refine sgo ?_
    refine wl (v := .bool false) ?_ (y_pnil (p := some ⟨b, 0, none⟩) rfl rfl)
    refine sgo ?_
    obtain ⟨j, hj1, hj3⟩ := tb_info
    refine wl ?_ (y_psame (a := ⟨b, 0, none⟩) rfl rfl hj1)
    clear hj1 hj3
    refine sgo ?_
    (first | refine fp1 (.inl rfl) rfl rfl ?_ | refine fp2 (.inl rfl) rfl rfl rfl ?_ | refine fp3 (.inl rfl) rfl rfl rfl rfl ?_ | refine fp0 (.inr rfl) rfl ?_ | refine fp0 (.inl rfl) rfl ?_ | refine fp1 (.inr rfl) rfl rfl ?_)
    exact ⟨rfl, h, Le.refl _ _⟩

theorem write_lm {w w1 w2 w3 : World} {b : Nat} {q q' : Option Addr} (h1 : Le [b] w w1) (h2 : Lm (rb q) w1 (rb q') w2) (h3 : Le [b] w2 w3) : Lm (b :: rb q) w (b :: rb q') w3 := by
  refine ⟨⟨h3.os.trans (h2.1.os.trans h1.os), h3.tape.trans (h2.1.tape.trans h1.tape), h3.output.trans (h2.1.output.trans h1.output), Nat.le_trans h1.size (Nat.le_trans h2.1.size h3.size), fun k hk hm => ?_⟩, ?_⟩
  · simp only [List.mem_cons, not_or] at hm
    have e1 := h1.block k hk (by simpa using hm.1)
    have e2 := h2.1.block k (Nat.lt_of_lt_of_le hk h1.size) hm.2
    have e3 := h3.block k (Nat.lt_of_lt_of_le hk (Nat.le_trans h1.size h2.1.size)) (by simpa using hm.1)
    rw [e3, e2, e1]
  · intro k hk hlt
    rcases List.mem_cons.1 hk with rfl | hk
    · exact List.mem_cons_self
    · exact List.mem_cons_of_mem _ (h2.2 k hk (Nat.lt_of_lt_of_le hlt h1.size))
theorem bld_put {w1 w2 w3 : World} {b : Nat} {q q' : Option Addr} {c c' : Nat} {s t : List UInt8} (h1 : BuP TB TY w1 b (pb b) q c s) (h2 : Lm (rb q) w1 (rb q') w2) (hr : w2.ownsRow 0 TY 1 (.slice q' (s.length + t.length) c') (s.length + t.length) (bs s ++ bs t))
    (h3 : w3.heap[b]? = some (.cells ([.pointer (pb b), .slice q s.length c].set 1 (.slice q' (s.length + t.length) c')).toArray TB (0, 0))) (h4 : Le [b] w2 w3) : Bld TB TY w3 b q' (s ++ t) := by
  have hne : b ∉ rb q' := fun hb => h1.ne (h2.2 b hb h1.own.lt)
  have e : bs s ++ bs t = bs (s ++ t) := by simp [bs]
  rw [e, ← List.length_append] at hr
  rw [← List.length_append] at h3
  exact ⟨pb b, c', .inr rfl, h3, rowT_le hr h4 (by intro k hk hm; simp only [List.mem_singleton] at hm; subst hm; exact hne hk), hne⟩

theorem writeString_ok (b : Nat) (q : Option Addr) (s t : List UInt8) (w : World) (h : Bld TB TY w b q s) (hb : s.length + t.length ≤ 140737488355328) :
    CallsR Try.prog 31 #[ptrAt (pb b) 0, str t] w fun v w' => v = .tuple #[int t.length, .nilIface] ∧ ∃ q', Bld TB TY w' b q' (s ++ t) ∧ Lm (b :: rb q) w (b :: rb q') w' := by
  obtain ⟨pv, c, h⟩ := h
  refine enter (l := [ptrAt (pb b) 0, str t]) Try.func31 rfl Try.ntmps31 (by kernel_rfl) rfl ?_
  refine sgo ?_
  refine wlcall (copyCheck_ok b pv q c s w h) ?_
  rintro v w1 ⟨rfl, h1, hl1⟩
  have ho := h1.own
  refine sgo ?_
  refine wlappTs h1.row fun q' c' w2 hr2 hl2 => ?_
  have hc2 : w2.heap[b]? = _ := (hl2.1.block b h1.own.lt h1.ne).trans h1.cell
  refine sgo ?_
  refine wlstT (v := .slice q' (s.length + t.length) c') hc2 (fun w3 h3 hl3 => ?_) rfl rfl
  refine sgo ?_
  (first | refine fp1 (.inl rfl) rfl rfl ?_ | refine fp2 (.inl rfl) rfl rfl rfl ?_ | refine fp3 (.inl rfl) rfl rfl rfl rfl ?_ | refine fp0 (.inr rfl) rfl ?_ | refine fp0 (.inl rfl) rfl ?_ | refine fp1 (.inr rfl) rfl rfl ?_)
  exact ⟨rfl, q', bld_put h1 hl2 hr2 h3 hl3, write_lm hl1 hl2 hl3⟩

theorem writeByte_ok (b : Nat) (q : Option Addr) (s : List UInt8) (x : UInt8) (w : World) (h : Bld TB TY w b q s) (hb : s.length + 1 ≤ 140737488355328) :
    CallsR Try.prog 42 #[ptrAt (pb b) 0, byt x.toNat] w fun v w' => v = .nilIface ∧ ∃ q', Bld TB TY w' b q' (s ++ [x]) ∧ Lm (b :: rb q) w (b :: rb q') w' := by
  obtain ⟨pv, c, h⟩ := h
  refine enter (l := [ptrAt (pb b) 0, byt x.toNat]) Try.func42 rfl Try.ntmps42 (by kernel_rfl) rfl ?_
  refine sgo ?_
  refine wlcall (copyCheck_ok b pv q c s w h) ?_
  rintro v w1 ⟨rfl, h1, hl1⟩
  have ho := h1.own
  refine sgo ?_
  refine wlb1_int fun b2 w2 hb2 ho2 hf2 => ?_
  refine wlappT (news := bs [x]) (rowT_le h1.row hf2.le (M := []) (by simp)) ho2.sg (fun q' c' w3 hr3 hl3 => ?_) (hp := Nat.one_pos) (h1 := by simp [bs, Value.oneCell']) (hb := by simpa using hb)
  have hl3' : Lm (rb q) w1 (rb q') w3 := ⟨(hf2.le).trans hl3.1, fun k hk hlt => hl3.2 k hk (Nat.lt_of_lt_of_le hlt hf2.size)⟩
  have hc3 : w3.heap[b]? = _ := (hl3'.1.block b h1.own.lt h1.ne).trans h1.cell
  refine sgo ?_
  refine wlstT (v := .slice q' (s.length + 1) c') hc3 (fun w4 h4 hl4 => ?_) rfl rfl
  refine sgo ?_
  (first | refine fp1 (.inl rfl) rfl rfl ?_ | refine fp2 (.inl rfl) rfl rfl rfl ?_ | refine fp3 (.inl rfl) rfl rfl rfl rfl ?_ | refine fp0 (.inr rfl) rfl ?_ | refine fp0 (.inl rfl) rfl ?_ | refine fp1 (.inr rfl) rfl rfl ?_)
  exact ⟨rfl, q', bld_put (t := [x]) h1 hl3' hr3 h4 hl4, write_lm hl1 hl3' hl4⟩
end Go.Proofs.Ytfomfplddncakaa

/-
  Slices written out, of two to four values of one cell each.
-/
set_option linter.unusedSimpArgs false
set_option linter.unusedVariables false
set_option linter.unnecessarySimpa false
namespace Go.Sv
open Go Go.RowKit
section
variable {P : Program} {n : Nat} {ds : Ctx} {ops : Array Oper} {Q : Exit → Ctx → Env → World → Prop} {rest : List Oper} {σ : GE} {w : World} {d : Nat} {ty t e : TypeId} {pos : String} {af : Array Edge} {x1 x2 x3 x4 : Operand} {v1 v2 v3 v4 zv : Value} {bytes : Nat}
theorem run_bs2 [hu : Und P t (.slice e)] [hi : Inf P e zv 1 bytes] (hz : zv.cells.size = 1) (h1 : v1.cells = #[v1]) (h2 : v2.cells = #[v2]) (w : World) :
    (Instr.buildSlice t 2 #[(0, v1), (1, v2)]).run P w = .ok (.slice (some ⟨w.heap.size, 0, none⟩) 2 2) (w.alloc (.cells #[v1, v2] e)) := by
  have hf : Instr.fill (fun i => some (i * 1, 1)) ((Array.range (2 * 1)).map (zv.cells[· % zv.cells.size]!)) [(0, v1), (1, v2)] = some #[v1, v2] := by
    simp [Instr.fill, h1, h2, Array.range, Array.ofFn_succ, Array.zipIdx]
  simp only [Instr.buildSlice, Sem.run_bind, underlying, run_program, Result.andThen_ok, hu.ok, Sem.run_pure, run_sizeOf (P := P) (t := e), Nat.mul_one]
  rw [if_neg (by decide), if_neg (by decide)]
  simp only [Sem.run_bind, Sem.run_pure, Result.andThen_ok, run_zeroValue (P := P) (t := e)]
  simp only [Nat.mul_one] at hf
  rw [hf]
  simp [newRow]
theorem run_bs3 [hu : Und P t (.slice e)] [hi : Inf P e zv 1 bytes] (hz : zv.cells.size = 1) (h1 : v1.cells = #[v1]) (h2 : v2.cells = #[v2]) (h3 : v3.cells = #[v3]) (w : World) :
    (Instr.buildSlice t 3 #[(0, v1), (1, v2), (2, v3)]).run P w = .ok (.slice (some ⟨w.heap.size, 0, none⟩) 3 3) (w.alloc (.cells #[v1, v2, v3] e)) := by
  have hf : Instr.fill (fun i => some (i * 1, 1)) ((Array.range (3 * 1)).map (zv.cells[· % zv.cells.size]!)) [(0, v1), (1, v2), (2, v3)] = some #[v1, v2, v3] := by
    simp [Instr.fill, h1, h2, h3, Array.range, Array.ofFn_succ, Array.zipIdx]
  simp only [Instr.buildSlice, Sem.run_bind, underlying, run_program, Result.andThen_ok, hu.ok, Sem.run_pure, run_sizeOf (P := P) (t := e), Nat.mul_one]
  rw [if_neg (by decide), if_neg (by decide)]
  simp only [Sem.run_bind, Sem.run_pure, Result.andThen_ok, run_zeroValue (P := P) (t := e)]
  simp only [Nat.mul_one] at hf
  rw [hf]
  simp [newRow]
theorem run_bs4 [hu : Und P t (.slice e)] [hi : Inf P e zv 1 bytes] (hz : zv.cells.size = 1) (h1 : v1.cells = #[v1]) (h2 : v2.cells = #[v2]) (h3 : v3.cells = #[v3]) (h4 : v4.cells = #[v4]) (w : World) :
    (Instr.buildSlice t 4 #[(0, v1), (1, v2), (2, v3), (3, v4)]).run P w = .ok (.slice (some ⟨w.heap.size, 0, none⟩) 4 4) (w.alloc (.cells #[v1, v2, v3, v4] e)) := by
  have hf : Instr.fill (fun i => some (i * 1, 1)) ((Array.range (4 * 1)).map (zv.cells[· % zv.cells.size]!)) [(0, v1), (1, v2), (2, v3), (3, v4)] = some #[v1, v2, v3, v4] := by
    simp [Instr.fill, h1, h2, h3, h4, Array.range, Array.ofFn_succ, Array.zipIdx]
  simp only [Instr.buildSlice, Sem.run_bind, underlying, run_program, Result.andThen_ok, hu.ok, Sem.run_pure, run_sizeOf (P := P) (t := e), Nat.mul_one]
  rw [if_neg (by decide), if_neg (by decide)]
  simp only [Sem.run_bind, Sem.run_pure, Result.andThen_ok, run_zeroValue (P := P) (t := e)]
  simp only [Nat.mul_one] at hf
  rw [hf]
  simp [newRow]
theorem wlbs2 [hu : Und P t (.slice e)] [hi : Inf P e zv 1 bytes] (h : ∀ b w', w.heap.size ≤ b → Own w' b [v1, v2] → Frm w w' → WL P n ds ops Q rest (real (updG σ d ⟨.slice (pb b) 2 2, true⟩)) w')
    (hx1 : evl (real σ) x1 = v1 := by rfl) (hx2 : evl (real σ) x2 = v2 := by rfl) (h1 : v1.cells = #[v1] := by rfl) (h2 : v2.cells = #[v2] := by rfl) (hz : zv.cells.size = 1 := by rfl) :
    WL P n ds ops Q (⟨some d, .buildSlice t 2 #[(0, x1), (1, x2)], ty, pos, af, none⟩ :: rest) (real σ) w := by
  refine wl (h w.heap.size (w.alloc (.cells #[v1, v2] e)) (Nat.le_refl _) (own_alloc _ _ _) (frm_alloc _ _)) (Y.val ?_)
  simp only [execOp, List.map_toArray, List.map_cons, List.map_nil, hx1, hx2, Sem.run_bind]
  rw [run_bs2 (P := P) (t := t) (e := e) hz h1 h2]
  rfl
theorem wlbs3 [hu : Und P t (.slice e)] [hi : Inf P e zv 1 bytes] (h : ∀ b w', w.heap.size ≤ b → Own w' b [v1, v2, v3] → Frm w w' → WL P n ds ops Q rest (real (updG σ d ⟨.slice (pb b) 3 3, true⟩)) w')
    (hx1 : evl (real σ) x1 = v1 := by rfl) (hx2 : evl (real σ) x2 = v2 := by rfl) (hx3 : evl (real σ) x3 = v3 := by rfl) (h1 : v1.cells = #[v1] := by rfl) (h2 : v2.cells = #[v2] := by rfl) (h3 : v3.cells = #[v3] := by rfl) (hz : zv.cells.size = 1 := by rfl) :
    WL P n ds ops Q (⟨some d, .buildSlice t 3 #[(0, x1), (1, x2), (2, x3)], ty, pos, af, none⟩ :: rest) (real σ) w := by
  refine wl (h w.heap.size (w.alloc (.cells #[v1, v2, v3] e)) (Nat.le_refl _) (own_alloc _ _ _) (frm_alloc _ _)) (Y.val ?_)
  simp only [execOp, List.map_toArray, List.map_cons, List.map_nil, hx1, hx2, hx3, Sem.run_bind]
  rw [run_bs3 (P := P) (t := t) (e := e) hz h1 h2 h3]
  rfl
theorem wlbs4 [hu : Und P t (.slice e)] [hi : Inf P e zv 1 bytes] (h : ∀ b w', w.heap.size ≤ b → Own w' b [v1, v2, v3, v4] → Frm w w' → WL P n ds ops Q rest (real (updG σ d ⟨.slice (pb b) 4 4, true⟩)) w')
    (hx1 : evl (real σ) x1 = v1 := by rfl) (hx2 : evl (real σ) x2 = v2 := by rfl) (hx3 : evl (real σ) x3 = v3 := by rfl) (hx4 : evl (real σ) x4 = v4 := by rfl) (h1 : v1.cells = #[v1] := by rfl) (h2 : v2.cells = #[v2] := by rfl) (h3 : v3.cells = #[v3] := by rfl) (h4 : v4.cells = #[v4] := by rfl) (hz : zv.cells.size = 1 := by rfl) :
    WL P n ds ops Q (⟨some d, .buildSlice t 4 #[(0, x1), (1, x2), (2, x3), (3, x4)], ty, pos, af, none⟩ :: rest) (real σ) w := by
  refine wl (h w.heap.size (w.alloc (.cells #[v1, v2, v3, v4] e)) (Nat.le_refl _) (own_alloc _ _ _) (frm_alloc _ _)) (Y.val ?_)
  simp only [execOp, List.map_toArray, List.map_cons, List.map_nil, hx1, hx2, hx3, hx4, Sem.run_bind]
  rw [run_bs4 (P := P) (t := t) (e := e) hz h1 h2 h3 h4]
  rfl
end
end Go.Sv

/-
  A rune's bytes: utf8.AppendRune, and the builder's WriteRune.
-/
set_option linter.unusedSimpArgs false
set_option linter.unusedVariables false
set_option linter.unnecessarySimpa false
namespace Go.Proofs.Ytfomfplddncakaa
open Go Go.Sv Go.RowKit

/-- a rune's bytes -/
def encN (r : Nat) : List Nat :=
  if r < 128 then [r]
  else if r < 2048 then [192 + r / 64, 128 + r % 64]
  else if r < 65536 then [224 + r / 4096, 128 + r / 64 % 64, 128 + r % 64]
  else [240 + r / 262144, 128 + r / 4096 % 64, 128 + r / 64 % 64, 128 + r % 64]
def encR (r : Nat) : List UInt8 := (encN r).map UInt8.ofNat
theorem bs_ofNat {l : List Nat} (h : ∀ x ∈ l, x < 256) : bs (l.map UInt8.ofNat) = l.map fun n : Nat => byt n := by
  unfold bs
  rw [List.map_map]
  refine List.map_congr_left fun x hx => ?_
  have := h x hx
  simp only [Function.comp]
  rw [UInt8.toNat_ofNat_of_lt' (by simpa using this)]
theorem encN_lt (r : Nat) (h : r < 1114112) : ∀ x ∈ encN r, x < 256 := by
  unfold encN
  intro x hx
  repeat' split at hx
  all_goals simp only [List.mem_cons, List.not_mem_nil, or_false] at hx
  all_goals omega
theorem bs_encR (r : Nat) (h : r < 1114112) : bs (encR r) = (encN r).map fun n : Nat => byt n := bs_ofNat (encN_lt r h)
theorem encR_len (r : Nat) : (encR r).length = (encN r).length := by simp [encR]

theorem wr8 (n : Nat) : IntKind.u8.wrap (n : Int) = ((n % 256 : Nat) : Int) := by simp [IntKind.wrap, IntKind.signed, IntKind.bits]
theorem wr32 (n : Nat) (h : n < 4294967296) : IntKind.u32.wrap (n : Int) = (n : Int) := wrap_in (by simp [IntKind.min, IntKind.max, IntKind.signed, IntKind.bits]; omega)
theorem fd (r k : Nat) (hk : 0 < k) : (r : Int).fdiv (k : Int) = ((r / k : Nat) : Int) := by
  rw [Int.fdiv_eq_ediv_of_nonneg _ (by omega)]; rfl
theorem sh6 (r : Nat) : (r : Int).fdiv (2 ^ (min (6 : Int).toNat IntKind.i32.bits)) = ((r / 64 : Nat) : Int) := fd r 64 (by decide)
theorem sh12 (r : Nat) : (r : Int).fdiv (2 ^ (min (12 : Int).toNat IntKind.i32.bits)) = ((r / 4096 : Nat) : Int) := fd r 4096 (by decide)
theorem sh18 (r : Nat) : (r : Int).fdiv (2 ^ (min (18 : Int).toNat IntKind.i32.bits)) = ((r / 262144 : Nat) : Int) := fd r 262144 (by decide)
theorem msk (c : Nat) (hc : c < 256) : bitop .and .u8 (c : Int) 63 = ((c % 64 : Nat) : Int) := by revert hc; revert c; decide +kernel
theorem o128 (c : Nat) (hc : c < 64) : bitop .or .u8 128 (c : Int) = ((128 + c : Nat) : Int) := by revert hc; revert c; decide +kernel
theorem o192 (c : Nat) (hc : c < 32) : bitop .or .u8 192 (c : Int) = ((192 + c : Nat) : Int) := by revert hc; revert c; decide +kernel
theorem o224 (c : Nat) (hc : c < 16) : bitop .or .u8 224 (c : Int) = ((224 + c : Nat) : Int) := by revert hc; revert c; decide +kernel
theorem o240 (c : Nat) (hc : c < 8) : bitop .or .u8 240 (c : Int) = ((240 + c : Nat) : Int) := by revert hc; revert c; decide +kernel
theorem cont (n : Nat) : bitop .or .u8 128 (bitop .and .u8 (IntKind.u8.wrap (n : Int)) 63) = ((128 + n % 64 : Nat) : Int) := by
  rw [wr8, msk _ (by omega), o128 _ (by omega)]
  congr 2
  omega

/-- the row behind the append -/
def AppR (q : Option Addr) (s : List UInt8) (t : List UInt8) (w : World) (v : Value) (w' : World) : Prop :=
  ∃ q' c', v = .slice q' (s.length + t.length) c' ∧ w'.ownsRow 0 TY 1 (.slice q' (s.length + t.length) c') (s.length + t.length) (bs s ++ bs t) ∧ Lm (rb q) w (rb q') w'

theorem lm_frm {A B : List Nat} {w w1 w2 : World} (hf : Frm w w1) (h : Lm A w1 B w2) : Lm A w B w2 := ⟨hf.le.trans h.1, fun k hk hlt => h.2 k hk (Nat.lt_of_lt_of_le hlt hf.size)⟩

set_option maxHeartbeats 2000000 in
theorem appendNA_ok (q : Option Addr) (c : Nat) (s : List UInt8) (r : Nat) (h1 : 128 ≤ r) (h2 : r < 1114112) (h3 : ¬ (55296 ≤ r ∧ r ≤ 57343)) (hb : s.length + 4 ≤ 140737488355328) (w : World) (hr : w.ownsRow 0 TY 1 (.slice q s.length c) s.length (bs s)) :
    CallsR Try.prog 64 #[.slice q s.length c, i32 r] w (AppR q s (encR r) w) := by
  have hw := wr32 r (by omega)
  refine enter (l := [.slice q s.length c, i32 r]) Try.func64 rfl Try.ntmps64 (by kernel_rfl) rfl ?_
  refine sgo ?_
  rw [hw]
  (show WC _ _ _ _ _ _ _; first | refine WC_dec rfl (fun hc => ?_) (fun hc => ?_) | refine WC_cond rfl (fun hc => ?_) (fun hc => ?_))
  · skip
    refine sgo ?_
    rw [sh6, cont, wr8, Nat.mod_eq_of_lt (show r / 64 < 256 by omega), o192 _ (by omega)]
    refine wlbs2 fun b w1 hb1 ho hf1 => ?_
    have e : bs (encR r) = [byt (192 + r / 64 : Nat), byt (128 + r % 64 : Nat)] := by
      rw [bs_encR r h2, encN, if_neg (by omega), if_pos (by omega)]; rfl
    refine wlappT (news := [byt (192 + r / 64 : Nat), byt (128 + r % 64 : Nat)]) (rowT_le hr hf1.le (M := []) (by simp)) ho.sg (fun q' c' w2 hr2 hl2 => ?_) (hb := by simp only [List.length_cons, List.length_nil]; omega)
    refine sgo ?_
    (first | refine fp1 (.inl rfl) rfl rfl ?_ | refine fp2 (.inl rfl) rfl rfl rfl ?_ | refine fp3 (.inl rfl) rfl rfl rfl rfl ?_ | refine fp0 (.inr rfl) rfl ?_ | refine fp0 (.inl rfl) rfl ?_ | refine fp1 (.inr rfl) rfl rfl ?_)
    have el : (encR r).length = 2 := by rw [← bs_length, e]; rfl
    refine ⟨q', c', by rw [el]; rfl, ?_, lm_frm hf1 hl2⟩
    rw [el, e]; exact hr2
  · have hc1 : 2048 ≤ r := by omega
    clear hc
    refine sgo ?_
    (show WC _ _ _ _ _ _ _; first | refine WC_dec rfl (fun hc => ?_) (fun hc => ?_) | refine WC_cond rfl (fun hc => ?_) (fun hc => ?_))
    · have hc2 : r < 55296 := by omega
      clear hc
      refine sgo ?_
      (show WC _ _ _ _ _ _ _; first | refine WC_dec rfl (fun hc => ?_) (fun hc => ?_) | refine WC_cond rfl (fun hc => ?_) (fun hc => ?_))
      · clear hc
        refine sgo ?_
        rw [sh12, sh6, cont, cont, wr8, Nat.mod_eq_of_lt (show r / 4096 < 256 by omega), o224 _ (by omega)]
        refine wlbs3 fun b w1 hb1 ho hf1 => ?_
        have e : bs (encR r) = [byt (224 + r / 4096 : Nat), byt (128 + r / 64 % 64 : Nat), byt (128 + r % 64 : Nat)] := by
          rw [bs_encR r h2, encN, if_neg (by omega), if_neg (by omega), if_pos (by omega)]; rfl
        refine wlappT (news := [byt (224 + r / 4096 : Nat), byt (128 + r / 64 % 64 : Nat), byt (128 + r % 64 : Nat)]) (rowT_le hr hf1.le (M := []) (by simp)) ho.sg (fun q' c' w2 hr2 hl2 => ?_) (hb := by simp only [List.length_cons, List.length_nil]; omega)
        refine sgo ?_
        (first | refine fp1 (.inl rfl) rfl rfl ?_ | refine fp2 (.inl rfl) rfl rfl rfl ?_ | refine fp3 (.inl rfl) rfl rfl rfl rfl ?_ | refine fp0 (.inr rfl) rfl ?_ | refine fp0 (.inl rfl) rfl ?_ | refine fp1 (.inr rfl) rfl rfl ?_)
        have el : (encR r).length = 3 := by rw [← bs_length, e]; rfl
        refine ⟨q', c', by rw [el]; rfl, ?_, lm_frm hf1 hl2⟩
        rw [el, e]; exact hr2
      · omega
    · have hc2 : 57343 < r := by omega
      clear hc
      refine sgo ?_
      (show WC _ _ _ _ _ _ _; first | refine WC_dec rfl (fun hc => ?_) (fun hc => ?_) | refine WC_cond rfl (fun hc => ?_) (fun hc => ?_))
      · have hc3 : r ≤ 65535 := by
          simp only [pkb_and, Bool.and_eq_true, decide_eq_true_eq] at hc
          omega
        clear hc
        refine sgo ?_
        rw [sh12, sh6, cont, cont, wr8, Nat.mod_eq_of_lt (show r / 4096 < 256 by omega), o224 _ (by omega)]
        refine wlbs3 fun b w1 hb1 ho hf1 => ?_
        have e : bs (encR r) = [byt (224 + r / 4096 : Nat), byt (128 + r / 64 % 64 : Nat), byt (128 + r % 64 : Nat)] := by
          rw [bs_encR r h2, encN, if_neg (by omega), if_neg (by omega), if_pos (by omega)]; rfl
        refine wlappT (news := [byt (224 + r / 4096 : Nat), byt (128 + r / 64 % 64 : Nat), byt (128 + r % 64 : Nat)]) (rowT_le hr hf1.le (M := []) (by simp)) ho.sg (fun q' c' w2 hr2 hl2 => ?_) (hb := by simp only [List.length_cons, List.length_nil]; omega)
        refine sgo ?_
        (first | refine fp1 (.inl rfl) rfl rfl ?_ | refine fp2 (.inl rfl) rfl rfl rfl ?_ | refine fp3 (.inl rfl) rfl rfl rfl rfl ?_ | refine fp0 (.inr rfl) rfl ?_ | refine fp0 (.inl rfl) rfl ?_ | refine fp1 (.inr rfl) rfl rfl ?_)
        have el : (encR r).length = 3 := by rw [← bs_length, e]; rfl
        refine ⟨q', c', by rw [el]; rfl, ?_, lm_frm hf1 hl2⟩
        rw [el, e]; exact hr2
      · have hc3 : 65535 < r := by
          simp only [pkb_and, Bool.and_eq_false_iff, decide_eq_false_iff_not] at hc
          omega
        clear hc
        refine sgo ?_
        (show WC _ _ _ _ _ _ _; first | refine WC_dec rfl (fun hc => ?_) (fun hc => ?_) | refine WC_cond rfl (fun hc => ?_) (fun hc => ?_))
        · clear hc
          refine sgo ?_
          rw [sh18, sh12, sh6, cont, cont, cont, wr8, Nat.mod_eq_of_lt (show r / 262144 < 256 by omega), o240 _ (by omega)]
          refine wlbs4 fun b w1 hb1 ho hf1 => ?_
          have e : bs (encR r) = [byt (240 + r / 262144 : Nat), byt (128 + r / 4096 % 64 : Nat), byt (128 + r / 64 % 64 : Nat), byt (128 + r % 64 : Nat)] := by
            rw [bs_encR r h2, encN, if_neg (by omega), if_neg (by omega), if_neg (by omega)]; rfl
          refine wlappT (news := [byt (240 + r / 262144 : Nat), byt (128 + r / 4096 % 64 : Nat), byt (128 + r / 64 % 64 : Nat), byt (128 + r % 64 : Nat)]) (rowT_le hr hf1.le (M := []) (by simp)) ho.sg (fun q' c' w2 hr2 hl2 => ?_) (hb := by simp only [List.length_cons, List.length_nil]; omega)
          refine sgo ?_
          (first | refine fp1 (.inl rfl) rfl rfl ?_ | refine fp2 (.inl rfl) rfl rfl rfl ?_ | refine fp3 (.inl rfl) rfl rfl rfl rfl ?_ | refine fp0 (.inr rfl) rfl ?_ | refine fp0 (.inl rfl) rfl ?_ | refine fp1 (.inr rfl) rfl rfl ?_)
          have el : (encR r).length = 4 := by rw [← bs_length, e]; rfl
          refine ⟨q', c', by rw [el]; rfl, ?_, lm_frm hf1 hl2⟩
          rw [el, e]; exact hr2
        · simp only [pkb_and, Bool.and_eq_false_iff, decide_eq_false_iff_not] at hc
          omega

set_option maxHeartbeats 1000000 in
theorem appendRune_ok (q : Option Addr) (c : Nat) (s : List UInt8) (r : Nat) (h2 : r < 1114112) (h3 : ¬ (55296 ≤ r ∧ r ≤ 57343)) (hb : s.length + 4 ≤ 140737488355328) (w : World) (hr : w.ownsRow 0 TY 1 (.slice q s.length c) s.length (bs s)) :
    CallsR Try.prog 55 #[.slice q s.length c, i32 r] w (AppR q s (encR r) w) := by
  have hw := wr32 r (by omega)
  refine enter (l := [.slice q s.length c, i32 r]) Try.func55 rfl Try.ntmps55 (by kernel_rfl) rfl ?_
  refine sgo ?_
  rw [hw]
  (show WC _ _ _ _ _ _ _; first | refine WC_dec rfl (fun hc => ?_) (fun hc => ?_) | refine WC_cond rfl (fun hc => ?_) (fun hc => ?_))
  · have hr1 : r < 128 := by omega
    clear hc
    refine sgo ?_
    refine wlb1_int fun b w1 hb1 ho hf1 => ?_
    have e : bs (encR r) = [byt (r : Nat)] := by
      rw [bs_encR r h2, encN, if_pos hr1]; rfl
    refine wlappT (news := [byt (r : Nat)]) (rowT_le hr hf1.le (M := []) (by simp)) ho.sg (fun q' c' w2 hr2 hl2 => ?_) (hb := by simp only [List.length_cons, List.length_nil]; omega)
    refine sgo ?_
    (first | refine fp1 (.inl rfl) rfl rfl ?_ | refine fp2 (.inl rfl) rfl rfl rfl ?_ | refine fp3 (.inl rfl) rfl rfl rfl rfl ?_ | refine fp0 (.inr rfl) rfl ?_ | refine fp0 (.inl rfl) rfl ?_ | refine fp1 (.inr rfl) rfl rfl ?_)
    have el : (encR r).length = 1 := by rw [← bs_length, e]; rfl
    refine ⟨q', c', by rw [el]; rfl, ?_, lm_frm hf1 hl2⟩
    rw [el, e]; exact hr2
  · have hr1 : 128 ≤ r := by omega
    clear hc
    refine sgo ?_
    refine wlcall (appendNA_ok q c s r hr1 h2 h3 hb w hr) ?_
    rintro v w1 ⟨q', c', rfl, hr2, hl2⟩
    refine sgo ?_
    (first | refine fp1 (.inl rfl) rfl rfl ?_ | refine fp2 (.inl rfl) rfl rfl rfl ?_ | refine fp3 (.inl rfl) rfl rfl rfl rfl ?_ | refine fp0 (.inr rfl) rfl ?_ | refine fp0 (.inl rfl) rfl ?_ | refine fp1 (.inr rfl) rfl rfl ?_)
    exact ⟨q', c', rfl, hr2, hl2⟩

set_option maxHeartbeats 1000000 in
theorem writeRune_ok (b : Nat) (q : Option Addr) (s : List UInt8) (r : Nat) (h2 : r < 1114112) (h3 : ¬ (55296 ≤ r ∧ r ≤ 57343)) (w : World) (h : Bld TB TY w b q s) (hb : s.length + 4 ≤ 140737488355328) :
    CallsR Try.prog 43 #[ptrAt (pb b) 0, i32 r] w fun v w' => v = .tuple #[int (encR r).length, .nilIface] ∧ ∃ q', Bld TB TY w' b q' (s ++ encR r) ∧ Lm (b :: rb q) w (b :: rb q') w' := by
  obtain ⟨pv, c, h⟩ := h
  refine enter (l := [ptrAt (pb b) 0, i32 r]) Try.func43 rfl Try.ntmps43 (by kernel_rfl) rfl ?_
  refine sgo ?_
  refine wlcall (copyCheck_ok b pv q c s w h) ?_
  rintro v w1 ⟨rfl, h1, hl1⟩
  have ho := h1.own
  refine sgo ?_
  refine wlcall (appendRune_ok q c s r h2 h3 hb w1 h1.row) ?_
  rintro v w2 ⟨q', c', rfl, hr2, hl2⟩
  have hc2 : w2.heap[b]? = _ := (hl2.1.block b h1.own.lt h1.ne).trans h1.cell
  have hle : (encR r).length ≤ 4 := by
    rw [encR_len]; unfold encN
    repeat' split
    all_goals simp
  refine sgo ?_
  refine wlstT (v := .slice q' (s.length + (encR r).length) c') hc2 (fun w3 h3 hl3 => ?_) rfl rfl
  clear ho
  have ho : Own w3 b [.pointer (pb b), .slice q' (s.length + (encR r).length) c'] := ⟨TB, h3⟩
  refine sgo ?_
  (first | refine fp1 (.inl rfl) rfl rfl ?_ | refine fp2 (.inl rfl) rfl rfl rfl ?_ | refine fp3 (.inl rfl) rfl rfl rfl rfl ?_ | refine fp0 (.inr rfl) rfl ?_ | refine fp0 (.inl rfl) rfl ?_ | refine fp1 (.inr rfl) rfl rfl ?_)
  refine ⟨?_, q', bld_put h1 hl2 hr2 h3 hl3, write_lm hl1 hl2 hl3⟩
  show Value.tuple #[int _, .nilIface] = Value.tuple #[int _, .nilIface]
  have : ((s.length + (encR r).length : Nat) : Int) - (s.length : Int) = ((encR r).length : Int) := by omega
  rw [← this]
end Go.Proofs.Ytfomfplddncakaa

/-
  What a right piece is: its bytes, its rune, how the language's range reads it, how the library writes it.
-/
set_option linter.unusedSimpArgs false
set_option linter.unusedVariables false
set_option linter.unnecessarySimpa false
namespace Go.Proofs.Ytfomfplddncakaa
open Go Go.Sv Go.RowKit

/-- the four kinds of right pieces -/
def Right (l : List UInt8) : Prop :=
  (at0 l 0 < 128 ∧ pieceR l = (((at0 l 0 : Nat) : Int), 1, true))
  ∨ (1 < l.length ∧ 194 ≤ at0 l 0 ∧ at0 l 0 ≤ 223 ∧ 128 ≤ at0 l 1 ∧ at0 l 1 ≤ 191 ∧ pieceR l = (((at0 l 0 % 32 * 64 + at0 l 1 % 64 : Nat) : Int), 2, true))
  ∨ (2 < l.length ∧ 224 ≤ at0 l 0 ∧ at0 l 0 ≤ 239 ∧ 128 ≤ at0 l 1 ∧ at0 l 1 ≤ 191 ∧ (at0 l 0 = 224 → 160 ≤ at0 l 1) ∧ (at0 l 0 = 237 → at0 l 1 ≤ 159) ∧ 128 ≤ at0 l 2 ∧ at0 l 2 ≤ 191 ∧ pieceR l = ((((at0 l 0 % 16 * 64 + at0 l 1 % 64) * 64 + at0 l 2 % 64 : Nat) : Int), 3, true))
  ∨ (3 < l.length ∧ 240 ≤ at0 l 0 ∧ at0 l 0 ≤ 244 ∧ 128 ≤ at0 l 1 ∧ at0 l 1 ≤ 191 ∧ (at0 l 0 = 240 → 144 ≤ at0 l 1) ∧ (at0 l 0 = 244 → at0 l 1 ≤ 143) ∧ 128 ≤ at0 l 2 ∧ at0 l 2 ≤ 191 ∧ 128 ≤ at0 l 3 ∧ at0 l 3 ≤ 191 ∧ pieceR l = (((((at0 l 0 % 8 * 64 + at0 l 1 % 64) * 64 + at0 l 2 % 64) * 64 + at0 l 3 % 64 : Nat) : Int), 4, true))

theorem secR (c d : Nat) (h : secondR c d = true) : 128 ≤ d ∧ d ≤ 191 ∧ (c = 224 → 160 ≤ d) ∧ (c = 237 → d ≤ 159) ∧ (c = 240 → 144 ≤ d) ∧ (c = 244 → d ≤ 143) := by
  unfold secondR at h
  repeat' split at h
  all_goals simp only [Bool.and_eq_true, decide_eq_true_eq] at h
  all_goals omega

theorem right_of (l : List UInt8) (h : (pieceR l).2.2 = true) : Right l := by
  have hg2 : (goodR l).2 = true := h
  have hs0 : ¬ sizeR (at0 l 0) = 0 := by
    intro h0
    unfold goodR at hg2; rw [if_pos h0] at hg2; cases hg2
  have hg : goodR l = (goodF l (sizeR (at0 l 0)) 4 1, decide (goodF l (sizeR (at0 l 0)) 4 1 = sizeR (at0 l 0))) := by unfold goodR; rw [if_neg hs0]
  have he : goodF l (sizeR (at0 l 0)) 4 1 = sizeR (at0 l 0) := by
    rw [hg] at hg2; simpa using hg2
  have hp : pieceR l = (((accR l (sizeR (at0 l 0) - 1) 1 (firstR (at0 l 0) (sizeR (at0 l 0))) : Nat) : Int), sizeR (at0 l 0), true) := by
    have hg' : goodR l = (sizeR (at0 l 0), true) := by rw [hg, he]; simp
    unfold pieceR
    rw [hg']
    simp [hs0]
  have hc := at0_lt l 0
  have hsz : (sizeR (at0 l 0) = 1 ∧ at0 l 0 < 128) ∨ (sizeR (at0 l 0) = 2 ∧ 194 ≤ at0 l 0 ∧ at0 l 0 ≤ 223) ∨ (sizeR (at0 l 0) = 3 ∧ 224 ≤ at0 l 0 ∧ at0 l 0 ≤ 239) ∨ (sizeR (at0 l 0) = 4 ∧ 240 ≤ at0 l 0 ∧ at0 l 0 ≤ 244) := by
    revert hs0
    unfold sizeR
    repeat' split
    all_goals omega
  rcases hsz with ⟨e, h1⟩ | ⟨e, h1, h2⟩ | ⟨e, h1, h2⟩ | ⟨e, h1, h2⟩
  · left
    refine ⟨h1, ?_⟩
    rw [hp, e]; rfl
  · right; left
    rw [e] at he hp
    rw [goodF] at he
    split at he
    · rename_i hk
      split at he
      · omega
      · rename_i hk2
        have hs : secondR (at0 l 0) (at0 l 1) = true := by
          cases hh : secondR (at0 l 0) (at0 l 1) with
          | true => rfl
          | false => exact absurd (.inl ⟨rfl, hh⟩) hk2
        have := secR _ _ hs
        exact ⟨hk.2, h1, h2, this.1, this.2.1, hp⟩
    · omega
  · right; right; left
    rw [e] at he hp
    rw [goodF] at he
    split at he
    · rename_i hk
      split at he
      · omega
      · rename_i hk2
        have hs : secondR (at0 l 0) (at0 l 1) = true := by
          cases hh : secondR (at0 l 0) (at0 l 1) with
          | true => rfl
          | false => exact absurd (.inl ⟨rfl, hh⟩) hk2
        have := secR _ _ hs
        rw [goodF] at he
        split at he
        · rename_i hk3
          split at he
          · omega
          · rename_i hk4
            simp only [Nat.reduceAdd] at hk4
            exact ⟨hk3.2, h1, h2, this.1, this.2.1, this.2.2.1, this.2.2.2.1, by omega, by omega, hp⟩
        · omega
    · omega
  · right; right; right
    rw [e] at he hp
    rw [goodF] at he
    split at he
    · rename_i hk
      split at he
      · omega
      · rename_i hk2
        have hs : secondR (at0 l 0) (at0 l 1) = true := by
          cases hh : secondR (at0 l 0) (at0 l 1) with
          | true => rfl
          | false => exact absurd (.inl ⟨rfl, hh⟩) hk2
        have := secR _ _ hs
        rw [goodF] at he
        split at he
        · rename_i hk3
          split at he
          · omega
          · rename_i hk4
            rw [goodF] at he
            split at he
            · rename_i hk5
              split at he
              · omega
              · rename_i hk6
                simp only [Nat.reduceAdd] at hk4 hk6
                exact ⟨hk5.2, h1, h2, this.1, this.2.1, this.2.2.2.2.1, this.2.2.2.2.2, by omega, by omega, by omega, by omega, hp⟩
            · omega
        · omega
    · omega

theorem get_at0 (l : List UInt8) (i k : Nat) : (ByteArray.get! ⟨l.toArray⟩ (i + k)).toNat = at0 (l.drop i) k := by
  simp only [at0, List.getElem?_drop, ByteArray.get!]
  congr 1
  simp [getElem!_def]
  cases l[i + k]? <;> rfl
theorem decode_right (l : List UInt8) (i : Nat) (hr : Right (l.drop i)) : Utf8.decode ⟨l.toArray⟩ i = ((pieceR (l.drop i)).1.toNat, (pieceR (l.drop i)).2.1) := by
  have hd : ∀ k, (k < (l.drop i).length) = (i + k < l.length) := fun k => by simp; omega
  unfold Utf8.decode
  simp only [get_at0, size_str]
  unfold Right at hr
  simp only [hd] at hr
  generalize at0 (l.drop i) 0 = b0 at *
  generalize at0 (l.drop i) 1 = b1 at *
  generalize at0 (l.drop i) 2 = b2 at *
  generalize at0 (l.drop i) 3 = b3 at *
  rcases hr with ⟨h1, hp⟩ | ⟨hl, h1, h2, h3, h4, hp⟩ | ⟨hl, h1, h2, h3, h4, h5, h6, h7, h8, hp⟩ | ⟨hl, h1, h2, h3, h4, h5, h6, h7, h8, h9, h10, hp⟩
  · rw [hp, if_pos h1]; rfl
  · have e1 : b0 / 32 = 6 := by omega
    have e2 : b1 / 64 = 2 := by omega
    rw [hp, if_neg (by omega), if_pos (by simp [e1, e2, hl]), if_pos (by omega)]; rfl
  · have e1 : ¬ b0 / 32 = 6 := by omega
    have e2 : b1 / 64 = 2 := by omega
    have e3 : b0 / 16 = 14 := by omega
    have e4 : b2 / 64 = 2 := by omega
    have hl1 : i + 1 < l.length := by omega
    have ec : b0 % 16 * 4096 + b1 % 64 * 64 + b2 % 64 = (b0 % 16 * 64 + b1 % 64) * 64 + b2 % 64 := by omega
    rw [hp, if_neg (by omega), if_neg (by simp [e1]), if_pos (by simp [e3, e2, e4, hl, hl1]), ec, if_pos]
    · rfl
    · simp only [Utf8.valid, Bool.and_eq_true, Bool.or_eq_true, decide_eq_true_eq]
      omega
  · have e1 : ¬ b0 / 32 = 6 := by omega
    have e2 : b1 / 64 = 2 := by omega
    have e3 : ¬ b0 / 16 = 14 := by omega
    have e4 : b2 / 64 = 2 := by omega
    have e5 : b0 / 8 = 30 := by omega
    have e6 : b3 / 64 = 2 := by omega
    have hl1 : i + 1 < l.length := by omega
    have hl2 : i + 2 < l.length := by omega
    have ec : b0 % 8 * 262144 + b1 % 64 * 4096 + b2 % 64 * 64 + b3 % 64 = ((b0 % 8 * 64 + b1 % 64) * 64 + b2 % 64) * 64 + b3 % 64 := by omega
    rw [hp, if_neg (by omega), if_neg (by simp [e1]), if_neg (by simp [e3]), if_pos (by simp [e5, e2, e4, e6, hl, hl1, hl2]), ec, if_pos]
    · rfl
    · simp only [Utf8.valid, Bool.and_eq_true, Bool.or_eq_true, decide_eq_true_eq]
      omega

theorem ofN (c : UInt8) (n : Nat) (h : n = c.toNat) : UInt8.ofNat n = c := by subst h; exact UInt8.ofNat_toNat
/-- a right piece's rune is written as the piece's bytes -/
theorem enc_right (l : List UInt8) (h0 : 0 < l.length) (hr : Right l) : ∃ r : Nat, (pieceR l).1 = (r : Int) ∧ r < 1114112 ∧ ¬ (55296 ≤ r ∧ r ≤ 57343) ∧ encR r = l.take (pieceR l).2.1 ∧ (r < 128 → (pieceR l).2.1 = 1 ∧ at0 l 0 = r) ∧ (128 ≤ r → ∀ k, k < (pieceR l).2.1 → 128 ≤ at0 l k) := by
  have hb0 := at0_lt l 0
  have hb1 := at0_lt l 1
  have hb2 := at0_lt l 2
  have hb3 := at0_lt l 3
  rcases hr with ⟨h1, hp⟩ | ⟨hl, h1, h2, h3, h4, hp⟩ | ⟨hl, h1, h2, h3, h4, h5, h6, h7, h8, hp⟩ | ⟨hl, h1, h2, h3, h4, h5, h6, h7, h8, h9, h10, hp⟩
  · obtain ⟨a, l', rfl⟩ : ∃ a l', l = a :: l' := by
      cases l with
      | nil => simp at h0
      | cons a l' => exact ⟨a, l', rfl⟩
    have ea : at0 (a :: l') 0 = a.toNat := rfl
    refine ⟨at0 (a :: l') 0, by rw [hp], by omega, by omega, ?_, fun _ => ⟨by rw [hp], rfl⟩, fun h => by omega⟩
    rw [hp, encR, encN, if_pos h1]
    simp only [List.map_cons, List.map_nil, List.take_succ_cons, List.take_zero]
    rw [ofN a _ ea]
  · obtain ⟨a, b, l', rfl⟩ : ∃ a b l', l = a :: b :: l' := by
      match l, hl with
      | a :: b :: l', _ => exact ⟨a, b, l', rfl⟩
    have ea : at0 (a :: b :: l') 0 = a.toNat := rfl
    have eb : at0 (a :: b :: l') 1 = b.toNat := rfl
    generalize hr : at0 (a :: b :: l') 0 % 32 * 64 + at0 (a :: b :: l') 1 % 64 = r at *
    refine ⟨r, by rw [hp], by omega, by omega, ?_, fun h => by omega, fun _ k hk => ?_⟩
    · rw [hp, encR, encN, if_neg (by omega), if_pos (by omega)]
      simp only [List.map_cons, List.map_nil, List.take_succ_cons, List.take_zero]
      rw [ofN a _ (by omega), ofN b _ (by omega)]
    · rw [hp] at hk
      have : k = 0 ∨ k = 1 := by simp only [] at hk; omega
      rcases this with rfl | rfl <;> omega
  · obtain ⟨a, b, c, l', rfl⟩ : ∃ a b c l', l = a :: b :: c :: l' := by
      match l, hl with
      | a :: b :: c :: l', _ => exact ⟨a, b, c, l', rfl⟩
    have ea : at0 (a :: b :: c :: l') 0 = a.toNat := rfl
    have eb : at0 (a :: b :: c :: l') 1 = b.toNat := rfl
    have ec : at0 (a :: b :: c :: l') 2 = c.toNat := rfl
    generalize hr : (at0 (a :: b :: c :: l') 0 % 16 * 64 + at0 (a :: b :: c :: l') 1 % 64) * 64 + at0 (a :: b :: c :: l') 2 % 64 = r at *
    refine ⟨r, by rw [hp], by omega, by omega, ?_, fun h => by omega, fun _ k hk => ?_⟩
    · rw [hp, encR, encN, if_neg (by omega), if_neg (by omega), if_pos (by omega)]
      simp only [List.map_cons, List.map_nil, List.take_succ_cons, List.take_zero]
      rw [ofN a _ (by omega), ofN b _ (by omega), ofN c _ (by omega)]
    · rw [hp] at hk
      have : k = 0 ∨ k = 1 ∨ k = 2 := by simp only [] at hk; omega
      rcases this with rfl | rfl | rfl <;> omega
  · obtain ⟨a, b, c, d, l', rfl⟩ : ∃ a b c d l', l = a :: b :: c :: d :: l' := by
      match l, hl with
      | a :: b :: c :: d :: l', _ => exact ⟨a, b, c, d, l', rfl⟩
    have ea : at0 (a :: b :: c :: d :: l') 0 = a.toNat := rfl
    have eb : at0 (a :: b :: c :: d :: l') 1 = b.toNat := rfl
    have ec : at0 (a :: b :: c :: d :: l') 2 = c.toNat := rfl
    have ed : at0 (a :: b :: c :: d :: l') 3 = d.toNat := rfl
    generalize hr : ((at0 (a :: b :: c :: d :: l') 0 % 8 * 64 + at0 (a :: b :: c :: d :: l') 1 % 64) * 64 + at0 (a :: b :: c :: d :: l') 2 % 64) * 64 + at0 (a :: b :: c :: d :: l') 3 % 64 = r at *
    refine ⟨r, by rw [hp], by omega, by omega, ?_, fun h => by omega, fun _ k hk => ?_⟩
    · rw [hp, encR, encN, if_neg (by omega), if_neg (by omega), if_neg (by omega)]
      simp only [List.map_cons, List.map_nil, List.take_succ_cons, List.take_zero]
      rw [ofN a _ (by omega), ofN b _ (by omega), ofN c _ (by omega), ofN d _ (by omega)]
    · rw [hp] at hk
      have : k = 0 ∨ k = 1 ∨ k = 2 ∨ k = 3 := by simp only [] at hk; omega
      rcases this with rfl | rfl | rfl | rfl <;> omega

/-- of a text that is right the first piece is, and the rest is right -/
theorem valid_step (l : List UInt8) (h0 : 0 < l.length) (h : validR l = true) : Right l ∧ validR (l.drop (pieceR l).2.1) = true := by
  have hp := readS_piece l h0
  have hv := validS_cons l h0
  rw [valid_eq, valid_eq, h, hp] at hv
  dsimp only at hv
  by_cases hw : whatR l = 0
  · rw [if_neg (by simpa using hw)] at hv
    exact ⟨right_of l ((whatR_zero l).1 hw), hv.symm⟩
  · rw [if_pos hw] at hv; cases hv
end Go.Proofs.Ytfomfplddncakaa

/-
  Ranges over strings; an array's elements.
-/
set_option linter.unusedSimpArgs false
set_option linter.unusedVariables false
set_option linter.unnecessarySimpa false
namespace Go.Sv
open Go Go.RowKit
/-- an iterator over l, at i -/
def It (w : World) (r : Nat) (l : List UInt8) (i : Nat) : Prop := w.heap[r]? = some (.stringIter ⟨l.toArray⟩ i)
section
variable {w w' : World} {r i b : Nat} {l : List UInt8} {M : List Nat} {T E : TypeId} {q : Option Addr} {s : List UInt8}
theorem It.lt (h : It w r l i) : r < w.heap.size := (Array.getElem?_eq_some_iff.1 h).1
theorem It.le (h : It w r l i) (hl : Le M w w') (hm : r ∉ M) : It w' r l i := (hl.block r h.lt hm).trans h
theorem It.frm (h : It w r l i) (hl : Frm w w') : It w' r l i := h.le (M := []) hl.le (by simp)
theorem It.bld (h : It w r l i) (hb : Bld T E w b q s) : r ∉ b :: rb q := by
  obtain ⟨pv, c, hb⟩ := hb
  have hr : w.heap[r]? = some (.stringIter ⟨l.toArray⟩ i) := h
  intro hm
  rcases List.mem_cons.1 hm with rfl | hm
  · rw [hb.cell] at hr; cases hr
  · rcases hb.row.2 with ⟨h1, _⟩ | ⟨g, cap, cur, hv, _, hg, _⟩
    · injection h1 with h1; subst h1; simp [rb] at hm
    · injection hv with h1; subst h1
      simp only [rb, List.mem_singleton] at hm
      subst hm
      rw [hg] at hr; cases hr
end
section
variable {P : Program} {n : Nat} {ds : Ctx} {ops : Array Oper} {Q : Exit → Ctx → Env → World → Prop} {rest : List Oper} {σ : GE} {w : World} {d : Nat} {ty t e : TypeId} {pos : String} {af : Array Edge} {x y : Operand} {l : List UInt8} {r i : Nat}
theorem wlallocT {zv : Value} {size bytes : Nat} [hi : Inf P e zv size bytes] (h : ∀ b w', w.heap.size ≤ b → w'.heap[b]? = some (.cells zv.cells e (0, 0)) → Frm w w' → WL P n ds ops Q rest (real (updG σ d ⟨ptrAt (pb b) 0, true⟩)) w') :
    WL P n ds ops Q (⟨some d, .alloc e, ty, pos, af, none⟩ :: rest) (real σ) w := by
  refine wl (h w.heap.size (w.alloc (.cells zv.cells e)) (Nat.le_refl _) (heap_alloc_new w _) (frm_alloc _ _)) ?_
  refine Y.val ?_
  simp [execOp, Instr.alloc, run_zeroValue (P := P) (t := e), newVar, newRow]
  rfl
theorem wlrange [hu : Und P t .string] (h : ∀ r w', w.heap.size ≤ r → It w' r l 0 → Frm w w' → WL P n ds ops Q rest (real (updG σ d ⟨.pointer (pb r), true⟩)) w') (hx : evl (real σ) x = str l := by rfl) :
    WL P n ds ops Q (⟨some d, .range t x, ty, pos, af, none⟩ :: rest) (real σ) w := by
  refine wl (h w.heap.size (w.alloc (.stringIter ⟨l.toArray⟩ 0)) (Nat.le_refl _) (heap_alloc_new w _) (frm_alloc _ _)) (Y.val ?_)
  simp only [execOp, hx, Instr.range, Sem.run_bind, underlying, run_program, Result.andThen_ok, hu.ok, Sem.run_pure]
  rfl
theorem run_getObj_it (h : It w r l i) : (getObj r).run P w = .ok (.stringIter ⟨l.toArray⟩ i) w := by
  have h : w.heap[r]? = _ := h
  simp [getObj, Sem.run, h]
theorem wlnext_yes (ht : It w r l i) (hi : i < l.length) (h : ∀ w', It w' r l (i + (Utf8.decode ⟨l.toArray⟩ i).2) → Le [r] w w' → WL P n ds ops Q rest (real (updG σ d ⟨.tuple #[.bool true, int i, i32 (Utf8.decode ⟨l.toArray⟩ i).1], true⟩)) w')
    (hx : evl (real σ) x = .pointer (pb r) := by rfl) :
    WL P n ds ops Q (⟨some d, .next x true, ty, pos, af, none⟩ :: rest) (real σ) w := by
  have hg := run_getObj_it (P := P) ht
  have ht : w.heap[r]? = _ := ht
  have hs := MapKept.heap_set (o' := .stringIter ⟨l.toArray⟩ (i + (Utf8.decode ⟨l.toArray⟩ i).2)) ht
  have hset : (setObj r (.stringIter ⟨l.toArray⟩ (i + (Utf8.decode ⟨l.toArray⟩ i).2))).run P w = .ok () { w with heap := w.heap.setIfInBounds r (.stringIter ⟨l.toArray⟩ (i + (Utf8.decode ⟨l.toArray⟩ i).2)) } := by
    simp [setObj, Sem.run, ht]
  refine wl (h { w with heap := w.heap.setIfInBounds r (.stringIter ⟨l.toArray⟩ (i + (Utf8.decode ⟨l.toArray⟩ i).2)) } hs.1 ⟨rfl, rfl, rfl, by simp, fun k _ hk => hs.2 k (by simpa using hk)⟩) (Y.val ?_)
  simp only [execOp, hx, Instr.next, Sem.run_bind, hg, Result.andThen_ok]
  rw [if_pos (by simpa [ByteArray.size] using hi)]
  simp only [Sem.run_bind, hset, Result.andThen_ok, Sem.run_pure]
  rfl
theorem wlnext_no (ht : It w r l i) (hi : l.length ≤ i) (h : WL P n ds ops Q rest (real (updG σ d ⟨.tuple #[.bool false], true⟩)) w)
    (hx : evl (real σ) x = .pointer (pb r) := by rfl) :
    WL P n ds ops Q (⟨some d, .next x true, ty, pos, af, none⟩ :: rest) (real σ) w := by
  have hg := run_getObj_it (P := P) ht
  refine wl h (Y.val ?_)
  simp only [execOp, hx, Instr.next, Sem.run_bind, hg, Result.andThen_ok]
  rw [if_neg (by simp [ByteArray.size]; omega)]
  simp only [Sem.run_bind, Result.andThen_ok, Sem.run_pure]
end
end Go.Sv

/-
  DERIVED: THE SHELF's CONTRACTS AT THIS DUMP, IN PLAIN WORDS (tools/lay-plain.mjs out of 'TryShelf.lean', which tools/lay-shelf.mjs wrote): THE SAME DECLARATIONS UNDER THE SAME NAMES: 'import', 'namespace', 'open', 'def', 'theorem' AND NOTHING ELSE: no command of the shelf's: FOR A HAND-IN. Each laying: the table of numbers ('.._ren') and one theorem, a field a fact of the dump's own or the kernel's comparison; each contract: ONE APPLICATION.
-/
namespace Go.Proofs
open Go.Shelf
def Try.lays169_ren : Go.Shelf.Ren := ⟨fun | 169 => 32 | n => n, fun | 70 => 58 | 9 => 9 | 0 => 0 | 72 => 61 | 37 => 59 | 127 => 81 | 3 => 3 | 5 => 5 | n => n, fun | n => n⟩
theorem Try.lays169 : Go.Proofs.Lays.n169 Try.prog Try.lays169_ren := {
  mixed := by kernel_rfl
  f169 := Try.func32.trans (congrArg some (by kernel_rfl))
  t0 := Try.underlying0
  a0 := Try.isAgg0
  z0 := Try.sizeOf0
  v0 := Try.zeroValue0
  t3 := Try.underlying3
  a3 := Try.isAgg3
  z3 := Try.sizeOf3
  v3 := Try.zeroValue3
  t9 := Try.underlying9
  a9 := Try.isAgg9
  z9 := Try.sizeOf9
  v9 := Try.zeroValue9
  t37 := Try.underlying59
  a37 := Try.isAgg59
  z37 := Try.sizeOf59
  v37 := Try.zeroValue59
  t70 := Try.underlying58
  a70 := Try.isAgg58
  z70 := Try.sizeOf58
  v70 := Try.zeroValue58
  t72 := Try.underlying61
  a72 := Try.isAgg61
  z72 := Try.sizeOf61
  v72 := Try.zeroValue61
  t127 := Try.underlying81
  a127 := Try.isAgg81
  z127 := Try.sizeOf81
  v127 := Try.zeroValue81 }
theorem Try.Builder_Extra_169 : Builder.Extra Try.prog Try.lays169_ren := {
  sizeBuilder := by kernel_rfl
  liesBuilder := by kernel_rfl
  t5 := Try.underlying5
  a5 := Try.isAgg5
  z5 := Try.sizeOf5
  v5 := Try.zeroValue5
  infoByte := by kernel_rfl
  cellsByte := by kernel_rfl
  sizeByte := by kernel_rfl
  neB5 := by decide }
open Go.RowKit in
/-- (*strings.Builder).String: "String returns the accumulated string.": WHATEVER THE BUILDER HOLDS. (LAID: no walk: one application.) -/
theorem Try.Builder_String_any (B b : Nat) (l : List UInt8) (w : World) (h : Lib.IsBuilder 61 5 B b (Lib.byteCells l) w) (hBw : B ≤ w.heap.size) :
    Calls Try.prog 32 #[.pointer (some ⟨b, 0, none⟩)] w fun e w' => e = .returned (.string ⟨l.toArray⟩) ∧ Below B w w' := Any.Builder_String_any Try.lays169 Try.Builder_Extra_169 B b l w h hBw
def Try.lays210_ren : Go.Shelf.Ren := ⟨fun | 210 => 71 | 206 => 72 | n => n, fun | 9 => 9 | 4 => 4 | 3 => 3 | n => n, fun | n => n⟩
def Try.lays103_ren : Go.Shelf.Ren := ⟨fun | 103 => 60 | 210 => 71 | 206 => 72 | n => n, fun | 9 => 9 | 4 => 4 | 24 => 39 | 3 => 3 | n => n, fun | n => n⟩
theorem Try.lays103 : Go.Proofs.Lays.n103 Try.prog Try.lays103_ren := {
  mixed := by kernel_rfl
  f103 := Try.func60.trans (congrArg some (by kernel_rfl))
  f206 := Try.func72.trans (congrArg some (by kernel_rfl))
  f210 := Try.func71.trans (congrArg some (by kernel_rfl))
  t3 := Try.underlying3
  a3 := Try.isAgg3
  z3 := Try.sizeOf3
  v3 := Try.zeroValue3
  t4 := Try.underlying4
  a4 := Try.isAgg4
  z4 := Try.sizeOf4
  v4 := Try.zeroValue4
  t9 := Try.underlying9
  a9 := Try.isAgg9
  z9 := Try.sizeOf9
  v9 := Try.zeroValue9
  t24 := Try.underlying39
  a24 := Try.isAgg39
  z24 := Try.sizeOf39
  v24 := Try.zeroValue39 }
open Go.RowKit in
/-- strings.CutPrefix: "CutPrefix returns s without the provided leading prefix string and reports whether it found the prefix. If s doesn't start with prefix, CutPrefix returns s, false. If prefix is the empty string, CutPrefix returns s, true.": IT RETURNS '(Lib.trimPrefix s p, Lib.hasPrefix s p)'; the world is as it was. (LAID: no walk: one application.) -/
theorem Try.strings_CutPrefix (s p : ByteArray) (w : World) :
    Calls Try.prog 60 #[.string s, .string p] w fun e w' => e = .returned (.tuple #[.string ⟨(Lib.trimPrefix s.data.toList p.data.toList).toArray⟩, .bool (Lib.hasPrefix s.data.toList p.data.toList)]) ∧ w' = w := Any.strings_CutPrefix Try.lays103 s p w
def Try.lays278_ren : Go.Shelf.Ren := ⟨fun | 278 => 64 | n => n, fun | 37 => 59 | 21 => 21 | 51 => 104 | 4 => 4 | 46 => 109 | 5 => 5 | n => n, fun | n => n⟩
def Try.lays242_ren : Go.Shelf.Ren := ⟨fun | 242 => 55 | 278 => 64 | n => n, fun | 37 => 59 | 21 => 21 | 51 => 104 | 4 => 4 | 5 => 5 | 46 => 109 | n => n, fun | n => n⟩
def Try.lays217_ren : Go.Shelf.Ren := ⟨fun | 217 => 67 | 266 => 75 | n => n, fun | 9 => 9 | 5 => 5 | 3 => 3 | n => n, fun | n => n⟩
def Try.lays224_ren : Go.Shelf.Ren := ⟨fun | 224 => 69 | n => n, fun | 3 => 3 | n => n, fun | n => n⟩
def Try.lays314_ren : Go.Shelf.Ren := ⟨fun | 314 => 76 | n => n, fun | 9 => 9 | 51 => 104 | 3 => 3 | 4 => 4 | 5 => 5 | 46 => 109 | n => n, fun | n => n⟩
def Try.lays267_ren : Go.Shelf.Ren := ⟨fun | 267 => 70 | 314 => 76 | n => n, fun | 9 => 9 | 3 => 3 | 146 => 114 | 51 => 104 | 4 => 4 | 5 => 5 | 46 => 109 | n => n, fun | n => n⟩
def Try.lays219_ren : Go.Shelf.Ren := ⟨fun | 219 => 59 | 217 => 67 | 225 => 68 | 224 => 69 | 267 => 70 | 266 => 75 | 314 => 76 | n => n, fun | 9 => 9 | 3 => 3 | 4 => 4 | 5 => 5 | 46 => 109 | 146 => 114 | 51 => 104 | n => n, fun | 1 => 0 | n => n⟩
theorem Try.lays219 : Go.Proofs.Lays.n219 Try.prog Try.lays219_ren := {
  mixed := by kernel_rfl
  f217 := Try.func67.trans (congrArg some (by kernel_rfl))
  f219 := Try.func59.trans (congrArg some (by kernel_rfl))
  f224 := Try.func69.trans (congrArg some (by kernel_rfl))
  f225 := Try.func68.trans (congrArg some (by kernel_rfl))
  f266 := Try.func75.trans (congrArg some (by kernel_rfl))
  f267 := Try.func70.trans (congrArg some (by kernel_rfl))
  f314 := Try.func76.trans (congrArg some (by kernel_rfl))
  t3 := Try.underlying3
  a3 := Try.isAgg3
  z3 := Try.sizeOf3
  v3 := Try.zeroValue3
  t4 := Try.underlying4
  a4 := Try.isAgg4
  z4 := Try.sizeOf4
  v4 := Try.zeroValue4
  t5 := Try.underlying5
  a5 := Try.isAgg5
  z5 := Try.sizeOf5
  v5 := Try.zeroValue5
  t9 := Try.underlying9
  a9 := Try.isAgg9
  z9 := Try.sizeOf9
  v9 := Try.zeroValue9
  t46 := Try.underlying109
  a46 := Try.isAgg109
  z46 := Try.sizeOf109
  v46 := Try.zeroValue109
  t51 := Try.underlying104
  a51 := Try.isAgg104
  z51 := Try.sizeOf104
  v51 := Try.zeroValue104
  t146 := Try.underlying114
  a146 := Try.isAgg114
  z146 := Try.sizeOf114
  v146 := Try.zeroValue114
  g1 := by kernel_rfl }
open Go.RowKit Go.Lib in
/-- internal/stringslite.Index (what strings.Index calls) AT A substr OF ONE BYTE c: IT RETURNS 'Lib.indexByte s c'; the world is as it was. (LAID: no walk: one application.) -/
theorem Try.stringslite_Index_one (s : ByteArray) (c : UInt8) (w : World) :
    Calls Try.prog 59 #[.string s, .string ⟨#[c]⟩] w fun e w' => e = .returned (.int .i64 (Lib.indexByte s.data.toList c)) ∧ w' = w := Any.stringslite_Index_one Try.lays219 s c w
def Try.lays220_ren : Go.Shelf.Ren := ⟨fun | 220 => 50 | 219 => 59 | 217 => 67 | 225 => 68 | 224 => 69 | 267 => 70 | 266 => 75 | 314 => 76 | n => n, fun | 9 => 9 | 4 => 4 | 3 => 3 | 5 => 5 | 46 => 109 | 146 => 114 | 51 => 104 | n => n, fun | 1 => 0 | n => n⟩
def Try.lays145_ren : Go.Shelf.Ren := ⟨fun | 145 => 38 | 220 => 50 | 219 => 59 | 217 => 67 | 225 => 68 | 224 => 69 | 267 => 70 | 266 => 75 | 314 => 76 | n => n, fun | 9 => 9 | 4 => 4 | 59 => 71 | 3 => 3 | 5 => 5 | 46 => 109 | 146 => 114 | 51 => 104 | n => n, fun | 1 => 0 | n => n⟩
def Try.laysM219_ren : Go.Shelf.Ren := ⟨fun | 219 => 59 | 217 => 67 | 225 => 68 | 224 => 69 | 267 => 70 | 266 => 75 | 314 => 76 | n => n, fun | 9 => 9 | 3 => 3 | 4 => 4 | 5 => 5 | 46 => 109 | 146 => 114 | 51 => 104 | n => n, fun | 1 => 0 | n => n⟩
def Try.laysM220_ren : Go.Shelf.Ren := ⟨fun | 220 => 50 | 219 => 59 | 217 => 67 | 225 => 68 | 224 => 69 | 267 => 70 | 266 => 75 | 314 => 76 | n => n, fun | 9 => 9 | 4 => 4 | 3 => 3 | 5 => 5 | 46 => 109 | 146 => 114 | 51 => 104 | n => n, fun | 1 => 0 | n => n⟩
def Try.laysM145_ren : Go.Shelf.Ren := ⟨fun | 145 => 38 | 220 => 50 | 219 => 59 | 217 => 67 | 225 => 68 | 224 => 69 | 267 => 70 | 266 => 75 | 314 => 76 | n => n, fun | 9 => 9 | 4 => 4 | 59 => 71 | 3 => 3 | 5 => 5 | 46 => 109 | 146 => 114 | 51 => 104 | n => n, fun | 1 => 0 | n => n⟩
def Try.lays206_ren : Go.Shelf.Ren := ⟨fun | 206 => 72 | n => n, fun | 9 => 9 | 4 => 4 | 3 => 3 | n => n, fun | n => n⟩
def Try.lays99_ren : Go.Shelf.Ren := ⟨fun | 99 => 63 | 206 => 72 | n => n, fun | 9 => 9 | 4 => 4 | 3 => 3 | n => n, fun | n => n⟩
theorem Try.lays99 : Go.Proofs.Lays.n99 Try.prog Try.lays99_ren := {
  mixed := by kernel_rfl
  f99 := Try.func63.trans (congrArg some (by kernel_rfl))
  f206 := Try.func72.trans (congrArg some (by kernel_rfl))
  t3 := Try.underlying3
  a3 := Try.isAgg3
  z3 := Try.sizeOf3
  v3 := Try.zeroValue3
  t4 := Try.underlying4
  a4 := Try.isAgg4
  z4 := Try.sizeOf4
  v4 := Try.zeroValue4
  t9 := Try.underlying9
  a9 := Try.isAgg9
  z9 := Try.sizeOf9
  v9 := Try.zeroValue9 }
open Go.RowKit Go.Lib in
/-- strings.HasPrefix: "HasPrefix reports whether the string s begins with prefix.": IT RETURNS 'Lib.hasPrefix s prefix'; the world is as it was. (LAID: no walk: one application.) -/
theorem Try.strings_HasPrefix (s p : ByteArray) (w : World) :
    Calls Try.prog 63 #[.string s, .string p] w fun e w' => e = .returned (.bool (Lib.hasPrefix s.data.toList p.data.toList)) ∧ w' = w := Any.strings_HasPrefix Try.lays99 s p w
end Go.Proofs

/-
  Package token: quoted texts; the kinds' words.
-/
set_option linter.unusedSimpArgs false
set_option linter.unusedVariables false
set_option linter.unnecessarySimpa false
namespace Go.Proofs.Ytfomfplddncakaa
open Go Go.Sv Go.RowKit

theorem string_ok (B b : Nat) (q : Option Addr) (s : List UInt8) (w : World) (h : Bld TB TY w b q s) (hB : ∀ k ∈ b :: rb q, B ≤ k) (hw : B ≤ w.heap.size) :
    CallsR Try.prog 32 #[ptrAt (pb b) 0] w fun v w' => v = str s ∧ Below B w w' := by
  refine Calls.mono (Try.Builder_String_any B b s w (h.shelf hB) hw) ?_
  rintro e w' ⟨rfl, hb⟩
  exact ⟨_, rfl, rfl, hb⟩

/-- a byte in a quoted text -/
def esc (c : UInt8) : List UInt8 := if c = 10 then [92, 110] else if c = 9 then [92, 116] else if c = 34 then [92, 34] else if c = 92 then [92, 92] else [c]
def quoteR (l : List UInt8) : List UInt8 := 34 :: l.flatMap esc ++ [34]
theorem esc_len (c : UInt8) : (esc c).length ≤ 2 := by
  unfold esc
  repeat' split
  all_goals simp
theorem escs_len (l : List UInt8) : (l.flatMap esc).length ≤ 2 * l.length := by
  induction l with
  | nil => simp
  | cons c l ih => have := esc_len c; simp only [List.flatMap_cons, List.length_append, List.length_cons]; omega
def escP (r : Nat) : List UInt8 := if r = 10 then [92, 110] else if r = 9 then [92, 116] else if r = 34 ∨ r = 92 then 92 :: encR r else encR r
theorem esc_big {l : List UInt8} (h : ∀ c ∈ l, 128 ≤ c.toNat) : l.flatMap esc = l := by
  induction l with
  | nil => rfl
  | cons c l ih =>
    have hc := h c List.mem_cons_self
    have h1 : ∀ n : UInt8, n.toNat < 128 → c ≠ n := fun n hn e => by subst e; omega
    have : esc c = [c] := by
      unfold esc
      rw [if_neg (h1 10 (by decide)), if_neg (h1 9 (by decide)), if_neg (h1 34 (by decide)), if_neg (h1 92 (by decide))]
    rw [List.flatMap_cons, this, ih fun c hc => h c (List.mem_cons_of_mem _ hc)]; rfl
theorem esc_piece (l : List UInt8) (h0 : 0 < l.length) (hr : Right l) : ∃ r : Nat, (pieceR l).1 = (r : Int) ∧ r < 1114112 ∧ ¬ (55296 ≤ r ∧ r ≤ 57343) ∧ (l.take (pieceR l).2.1).flatMap esc = escP r := by
  obtain ⟨r, h1, h2, h3, h4, h5, h6⟩ := enc_right l h0 hr
  refine ⟨r, h1, h2, h3, ?_⟩
  have hn := (pieceR_rng l h0).2
  rw [← h4]
  by_cases hs : r < 128
  · have e : encR r = [UInt8.ofNat r] := by rw [encR, encN, if_pos hs]; rfl
    unfold escP
    rw [e]
    have hi : ∀ n : Nat, n < 128 → (UInt8.ofNat r = UInt8.ofNat n ↔ r = n) := by
      intro n hn
      constructor
      · intro he
        have := congrArg UInt8.toNat he
        rw [UInt8.toNat_ofNat_of_lt' (show r < 256 by omega), UInt8.toNat_ofNat_of_lt' (show n < 256 by omega)] at this
        exact this
      · intro he; rw [he]
    have a10 := hi 10 (by decide)
    have a9 := hi 9 (by decide)
    have a34 := hi 34 (by decide)
    have a92 := hi 92 (by decide)
    simp only [List.flatMap_cons, List.flatMap_nil, List.append_nil, esc]
    change UInt8.ofNat r = 10 ↔ _ at a10
    change UInt8.ofNat r = 9 ↔ _ at a9
    change UInt8.ofNat r = 34 ↔ _ at a34
    change UInt8.ofNat r = 92 ↔ _ at a92
    by_cases c1 : r = 10
    · rw [if_pos (a10.2 c1), if_pos c1]
    · rw [if_neg (mt a10.1 c1), if_neg c1]
      by_cases c2 : r = 9
      · rw [if_pos (a9.2 c2), if_pos c2]
      · rw [if_neg (mt a9.1 c2), if_neg c2]
        by_cases c3 : r = 34
        · rw [if_pos (a34.2 c3), if_pos (.inl c3), a34.2 c3]
        · rw [if_neg (mt a34.1 c3)]
          by_cases c4 : r = 92
          · rw [if_pos (a92.2 c4), if_pos (.inr c4), a92.2 c4]
          · rw [if_neg (mt a92.1 c4), if_neg (by omega)]
  · have : ∀ c ∈ encR r, 128 ≤ c.toNat := by
      intro c hc
      rw [h4] at hc
      obtain ⟨k, hk⟩ := List.mem_iff_getElem?.1 hc
      have hkn : k < (pieceR l).2.1 := by
        rcases Nat.lt_or_ge k (pieceR l).2.1 with h | h
        · exact h
        · rw [List.getElem?_eq_none (by simp; omega)] at hk; cases hk
      have := h6 (by omega) k hkn
      rw [List.getElem?_take_of_lt hkn] at hk
      rw [at0, hk] at this
      exact this
    rw [esc_big this]
    unfold escP
    rw [if_neg (by omega), if_neg (by omega), if_neg (by omega)]

theorem esc_step (l : List UInt8) (i n : Nat) : (l.take (i + n)).flatMap esc = (l.take i).flatMap esc ++ ((l.drop i).take n).flatMap esc := by
  rw [List.take_add, List.flatMap_append]

set_option maxHeartbeats 4000000 in
theorem quoted_ok (l : List UInt8) (hv : validR l = true) (hb : l.length ≤ 1048576) (w : World) :
    PureC Try.prog 26 #[str l] w (str (quoteR l)) := by
  have hel := escs_len l
  refine enter (l := [str l]) Try.func26 rfl Try.ntmps26 (by kernel_rfl) rfl ?_
  refine sgo ?_
  refine wlallocT fun b w0 hbw ha0 hf0 => ?_
  have hB0 : Bld TB TY w0 b none [] := Bld.new ha0
  refine sgo ?_
  refine wlcall (writeByte_ok b none [] 34 w0 hB0 (by simp)) ?_
  rintro v w1 ⟨rfl, q1, hB1, hl1⟩
  have hq1 : ∀ x ∈ b :: rb q1, w.heap.size ≤ x := hl1.fresh hf0 (by intro x hx; simp [rb] at hx; omega)
  have hf1 := hf0.step hl1.1 (by intro x hx; simp [rb] at hx; omega)
  refine sgo ?_
  refine wlrange fun r w2 hr2 hI2 hf2 => ?_
  replace hB1 := hB1.frm hf2
  refine sgo ?_
  refine wcloop (X := Nat × Option Addr) (fun x => [(3, ptrAt (pb b) 0), (8, .pointer (pb r))])
    (fun x wr => x.1 ≤ l.length ∧ validR (l.drop x.1) = true ∧ It wr r l x.1 ∧ Bld TB TY wr b x.2 (34 :: (l.take x.1).flatMap esc) ∧ Frm w wr ∧ ∀ k ∈ b :: rb x.2, w.heap.size ≤ k)
    (fun x => l.length - x.1) (0, q1) ⟨rfl, rfl, trivial⟩ ⟨by omega, by simpa using hv, hI2, by simpa using hB1, hf1.trans hf2, hq1⟩ ?_
  rintro ⟨i, q⟩ wr ρ ⟨hil, hvi, hIt, hBl, hfr, hq⟩
  dsimp only at hil hvi hIt hBl hq ⊢
  have hrw : w.heap.size ≤ r := Nat.le_trans hf1.size hr2
  have hrb := hIt.bld hBl
  refine sgo ?_
  by_cases hi : i < l.length
  · refine wlnext_yes hIt hi fun w3 hIt3 hl3 => ?_
    have hd0 : 0 < (l.drop i).length := by simp; omega
    obtain ⟨hR, hv2⟩ := valid_step (l.drop i) hd0 hvi
    have hdec := decode_right l i hR
    obtain ⟨r0, hp1, hr1, hr2', hesc⟩ := esc_piece (l.drop i) hd0 hR
    have hrng := pieceR_rng (l.drop i) hd0
    simp only [hdec] at hIt3 ⊢
    have hp2 : (pieceR (l.drop i)).1.toNat = r0 := by rw [hp1]; rfl
    rw [hp2]
    generalize (pieceR (l.drop i)).2.1 = nn at *
    clear hdec hp1 hp2 hR
    have hB3 := hBl.le hl3 (by intro k hk hm; simp only [List.mem_singleton] at hm; subst hm; exact hrb hk)
    have hfr3 := hfr.step hl3 (by intro x hx; simp only [List.mem_singleton] at hx; subst hx; exact hrw)
    have hti := escs_len (l.take i)
    have hti2 : (l.take i).length ≤ 1048576 := by simp; omega
    have hlen : (34 :: (l.take i).flatMap esc).length ≤ 4000000 := by simp only [List.length_cons]; omega
    have hdl : (l.drop i).length = l.length - i := by simp
    have fin : ∀ q' w', Bld TB TY w' b q' ((34 :: (l.take i).flatMap esc) ++ escP r0) → Lm (b :: rb q) w3 (b :: rb q') w' →
        (i + nn ≤ l.length ∧ validR (l.drop (i + nn)) = true ∧ It w' r l (i + nn) ∧ Bld TB TY w' b q' (34 :: (l.take (i + nn)).flatMap esc) ∧ Frm w w' ∧ ∀ k ∈ b :: rb q', w.heap.size ≤ k) := by
      intro q' w' hB' hl'
      refine ⟨by omega, ?_, hIt3.le hl'.1 hrb, ?_, hfr3.step hl'.1 hq, hl'.fresh hfr3 hq⟩
      · rw [← List.drop_drop]; exact hv2
      · rw [esc_step, hesc]; exact hB'
    generalize hS : (34 :: (l.take i).flatMap esc) = S at *
    clear hIt hBl hIt3 hesc hv2 hvi hl3 hti hti2
    refine sgo ?_
    (show WC _ _ _ _ _ _ _; first | refine WC_dec rfl (fun hc => ?_) (fun hc => ?_) | refine WC_cond rfl (fun hc => ?_) (fun hc => ?_))
    · refine sgo ?_
      refine wlcall (writeString_ok b q _ [92, 110] _ hB3 (by simp only [List.length_cons, List.length_nil]; omega)) ?_
      rintro v w4 ⟨rfl, q4, hB4, hl4⟩
      refine sgo ?_
      refine ⟨(i + nn, q4), ⟨rfl, rfl, trivial⟩, fin q4 w4 ?_ hl4, by dsimp only; omega⟩
      have e : escP r0 = [92, 110] := by unfold escP; rw [if_pos (by omega)]
      rw [e]
      exact hB4
    · have hc10 : ¬ r0 = 10 := by omega
      clear hc
      refine sgo ?_
      (show WC _ _ _ _ _ _ _; first | refine WC_dec rfl (fun hc => ?_) (fun hc => ?_) | refine WC_cond rfl (fun hc => ?_) (fun hc => ?_))
      · refine sgo ?_
        refine wlcall (writeString_ok b q _ [92, 116] _ hB3 (by simp only [List.length_cons, List.length_nil]; omega)) ?_
        rintro v w4 ⟨rfl, q4, hB4, hl4⟩
        refine sgo ?_
        refine ⟨(i + nn, q4), ⟨rfl, rfl, trivial⟩, fin q4 w4 ?_ hl4, by dsimp only; omega⟩
        have e : escP r0 = [92, 116] := by unfold escP; rw [if_neg (by omega), if_pos (by omega)]
        rw [e]
        exact hB4
      · have hc9 : ¬ r0 = 9 := by omega
        clear hc
        refine sgo ?_
        (show WC _ _ _ _ _ _ _; first | refine WC_dec rfl (fun hc => ?_) (fun hc => ?_) | refine WC_cond rfl (fun hc => ?_) (fun hc => ?_))
        · have hc34 : r0 = 34 := by omega
          clear hc
          refine sgo ?_
          (show WC _ _ _ _ _ _ _; first | refine WC_dec rfl (fun hc => ?_) (fun hc => ?_) | refine WC_cond rfl (fun hc => ?_) (fun hc => ?_))
          · refine sgo ?_
            refine wlcall (writeByte_ok b q _ 92 _ hB3 (by omega)) ?_
            rintro v w4 ⟨rfl, q4, hB4, hl4⟩
            refine sgo ?_
            refine wlcall (writeRune_ok b q4 _ r0 hr1 hr2' _ hB4 (by simp only [List.length_append, List.length_singleton]; omega)) ?_
            rintro v w5 ⟨rfl, q5, hB5, hl5⟩
            refine sgo ?_
            refine ⟨(i + nn, q5), ⟨rfl, rfl, trivial⟩, fin q5 w5 ?_ (hl4.trans hl5), by dsimp only; omega⟩
            have e : escP r0 = 92 :: encR r0 := by unfold escP; rw [if_neg (by omega), if_neg (by omega), if_pos (by omega)]
            rw [e]
            rw [List.append_assoc] at hB5
            exact hB5
          · omega
        · have hc34 : ¬ r0 = 34 := by omega
          clear hc
          refine sgo ?_
          (show WC _ _ _ _ _ _ _; first | refine WC_dec rfl (fun hc => ?_) (fun hc => ?_) | refine WC_cond rfl (fun hc => ?_) (fun hc => ?_))
          · refine sgo ?_
            refine wlcall (writeByte_ok b q _ 92 _ hB3 (by omega)) ?_
            rintro v w4 ⟨rfl, q4, hB4, hl4⟩
            refine sgo ?_
            refine wlcall (writeRune_ok b q4 _ r0 hr1 hr2' _ hB4 (by simp only [List.length_append, List.length_singleton]; omega)) ?_
            rintro v w5 ⟨rfl, q5, hB5, hl5⟩
            refine sgo ?_
            refine ⟨(i + nn, q5), ⟨rfl, rfl, trivial⟩, fin q5 w5 ?_ (hl4.trans hl5), by dsimp only; omega⟩
            have e : escP r0 = 92 :: encR r0 := by unfold escP; rw [if_neg (by omega), if_neg (by omega), if_pos (by omega)]
            rw [e]
            rw [List.append_assoc] at hB5
            exact hB5
          · have hc92 : ¬ r0 = 92 := by omega
            clear hc
            refine sgo ?_
            refine wlcall (writeRune_ok b q _ r0 hr1 hr2' _ hB3 (by omega)) ?_
            rintro v w5 ⟨rfl, q5, hB5, hl5⟩
            refine sgo ?_
            refine ⟨(i + nn, q5), ⟨rfl, rfl, trivial⟩, fin q5 w5 ?_ hl5, by dsimp only; omega⟩
            have e : escP r0 = encR r0 := by unfold escP; rw [if_neg (by omega), if_neg (by omega), if_neg (by omega)]
            rw [e]
            exact hB5
  · refine wlnext_no hIt (by omega) ?_
    have hti : l.take i = l := List.take_of_length_le (by omega)
    rw [hti] at hBl
    refine sgo ?_
    refine wlcall (writeByte_ok b q _ 34 _ hBl (by simp only [List.length_cons]; omega)) ?_
    rintro v w4 ⟨rfl, q4, hB4, hl4⟩
    have hq4 := hl4.fresh hfr hq
    have hfr4 := hfr.step hl4.1 hq
    refine sgo ?_
    refine wlcall (string_ok w.heap.size b q4 _ _ hB4 hq4 hfr4.size) ?_
    rintro v w5 ⟨rfl, hb5⟩
    refine sgo ?_
    (first | refine fp1 (.inl rfl) rfl rfl ?_ | refine fp2 (.inl rfl) rfl rfl rfl ?_ | refine fp3 (.inl rfl) rfl rfl rfl rfl ?_ | refine fp0 (.inr rfl) rfl ?_ | refine fp0 (.inl rfl) rfl ?_ | refine fp1 (.inr rfl) rfl rfl ?_)
    refine ⟨rfl, ?_⟩
    exact Below.trans hfr4 hb5
end Go.Proofs.Ytfomfplddncakaa

/-
  Arrays written out; a function's end, where its result lies in a cell.
-/
set_option linter.unusedSimpArgs false
set_option linter.unusedVariables false
set_option linter.unnecessarySimpa false
namespace Go.Sv
open Go Go.RowKit
section
variable {P : Program} {σ : Env} {w : World} {d : Option Tmp} {ty t e : TypeId} {pos : String} {af : Array Edge} {g : Option (Nat × Bool)} {x y : Operand} {v1 v2 v3 v4 v5 z1 z2 z3 z4 z5 zv : Value} {x1 x2 x3 x4 x5 : Operand} {bytes bytes' n i : Nat} {k : IntKind} 
theorem y_build5 [hu : Und P t (.array 5 e)] [hi : Inf P e zv 1 bytes] [hj : Inf P t (.agg #[z1, z2, z3, z4, z5]) 5 bytes'] (e1 : evl σ x1 = v1) (e2 : evl σ x2 = v2) (e3 : evl σ x3 = v3) (e4 : evl σ x4 = v4) (e5 : evl σ x5 = v5)
    (h1 : v1.cells = #[v1]) (h2 : v2.cells = #[v2]) (h3 : v3.cells = #[v3]) (h4 : v4.cells = #[v4]) (h5 : v5.cells = #[v5]) :
    Y P σ ⟨d, .build t #[(0, x1), (1, x2), (2, x3), (3, x4), (4, x5)], ty, pos, af, g⟩ w (.agg #[v1, v2, v3, v4, v5]) w := by
  refine Y.val ?_
  have hf : Instr.fill (fun i => some (i * 1, 1)) #[z1, z2, z3, z4, z5] [(0, v1), (1, v2), (2, v3), (3, v4), (4, v5)] = some #[v1, v2, v3, v4, v5] := by
    simp [Instr.fill, h1, h2, h3, h4, h5, Array.zipIdx]
  simp only [execOp, List.map_toArray, List.map_cons, List.map_nil, e1, e2, e3, e4, e5, Instr.build, Sem.run_bind, run_zeroValue (P := P) (t := t), Result.andThen_ok, underlying, run_program, hu.ok, Sem.run_pure, run_sizeOf (P := P) (t := e), Value.cells]
  rw [hf]
  rfl
end
theorem fpc {P : Program} {n : Nat} {fn : Func} {R : Value → World → Prop} {σ : Env} {w : World} {tt : Nat} {ty : TypeId} {ex : Exit} {b : Nat} {l : List Value} {zv : Value} {bytes : Nat} {ds : Ctx} (hex : ex = .ret ∨ ex = .normal) (hr : fn.results = #[.cell tt ty]) (ht : Nat.blt tt n = true) (hp : σ tt = .pointer (pb b)) (ho : Own w b l)
    [ha : Agg P ty true] [hi : Inf P ty zv l.length bytes] (h : R (.agg l.toArray) w) (hd : ds.ds = [] := by rfl) : fpost P n fn R ex ds σ w := by
  obtain ⟨T, ho⟩ := ho
  obtain ⟨dd, hd1, hd2⟩ := ha.ok
  obtain ⟨i, hi1, hi2, hi3, hi4⟩ := inf_size (P := P) (t := ty)
  exact fp_of hex hd (results_cell_row (P := P) hr (act n ds.ds σ).tmps w b T l.toArray (0, 0) dd (by rw [act_getD ht]; exact hp) ho hd1 (by revert hd2; cases dd <;> exact id) (by rw [hi1]; simp [hi3])) h
end Go.Sv

/-
  Package token: Print.
-/
set_option linter.unusedSimpArgs false
set_option linter.unusedVariables false
set_option linter.unnecessarySimpa false
namespace Go.Proofs.Ytfomfplddncakaa
open Go Go.Sv Go.RowKit

def wText : List UInt8 := [116, 101, 120, 116]
def wStart : List UInt8 := [115, 116, 97, 114, 116]
def wEnd : List UInt8 := [101, 110, 100]
def wComment : List UInt8 := [99, 111, 109, 109, 101, 110, 116]
def wDoctype : List UInt8 := [100, 111, 99, 116, 121, 112, 101]
def wordsV : Value := .agg #[str wText, str wStart, str wEnd, str wComment, str wDoctype]
def wordR (k : Int) : List UInt8 := if k = 0 then wText else if k = 1 then wStart else if k = 2 then wEnd else if k = 3 then wComment else wDoctype

theorem words_ok (w : World) : PureC Try.prog 25 #[] w wordsV := by
  refine enter (l := []) Try.func25 rfl Try.ntmps25 (by kernel_rfl) rfl ?_
  refine sgo ?_
  refine wlalloc fun b w1 hb1 ho hf1 => ?_
  refine sgo ?_
  refine wl ?_ (y_build5 (v1 := str wText) (v2 := str wStart) (v3 := str wEnd) (v4 := str wComment) (v5 := str wDoctype) rfl rfl rfl rfl rfl rfl rfl rfl rfl rfl)
  refine wlstorea0 (vs := [str wText, str wStart, str wEnd, str wComment, str wDoctype]) ho fun w2 ho2 hl2 => ?_
  refine sgo ?_
  refine fpc (.inl rfl) rfl rfl rfl ho2 ⟨rfl, hf1.step hl2 (by simpa using hb1)⟩
end Go.Proofs.Ytfomfplddncakaa

/-
  Package token: Print.
-/
set_option linter.unusedSimpArgs false
set_option linter.unusedVariables false
set_option linter.unnecessarySimpa false
namespace Go.Proofs.Ytfomfplddncakaa
open Go Go.Sv Go.RowKit

def atLine (x : At) : List UInt8 := 32 :: quoteR x.n ++ [61] ++ quoteR x.v
/-- the line of a token that may be -/
def headR (t : Tok) : List UInt8 :=
  wordR t.kind ++ (if t.kind = 1 ∨ t.kind = 2 then 32 :: quoteR t.name else if t.kind = 0 ∨ t.kind = 3 then 32 :: quoteR t.text else [])
def lineR (t : Tok) : List UInt8 := headR t ++ t.attrs.flatMap atLine ++ (if t.self then [32, 47] else [])

theorem nameR_valid {attr : Bool} {l : List UInt8} (h : nameR attr l = true) : validR l = true := by
  unfold nameR at h
  simp only [Bool.and_eq_true] at h
  exact h.1.1.1
theorem attrsF_all : ∀ (es : List At) (seen : List (List UInt8)), attrsF seen es = true → ∀ x ∈ es, validR x.n = true ∧ validR x.v = true
  | [], _, _ => by simp
  | a :: es, seen, h => by
    simp only [attrsF, Bool.and_eq_true, atOk] at h
    intro x hx
    rcases List.mem_cons.1 hx with rfl | hx
    · exact ⟨nameR_valid h.1.1.1, h.1.1.2⟩
    · exact attrsF_all es _ h.2 x hx
structure MayF (t : Tok) : Prop where
  kind : 0 ≤ t.kind ∧ t.kind ≤ 4
  name : t.kind = 1 ∨ t.kind = 2 → validR t.name = true
  text : t.kind = 0 ∨ t.kind = 3 → validR t.text = true
  attrs : ∀ x ∈ t.attrs, validR x.n = true ∧ validR x.v = true
theorem may_facts (t : Tok) (h : mayR t = true) : MayF t := by
  unfold mayR at h
  have hnil : t.attrs.length = 0 → ∀ x ∈ t.attrs, validR x.n = true ∧ validR x.v = true := fun h0 x hx => by
    rw [List.eq_nil_of_length_eq_zero h0] at hx; cases hx
  split at h
  · rename_i hk
    simp only [bareR, Bool.and_eq_true, decide_eq_true_eq] at h
    exact ⟨by omega, by omega, fun _ => h.2.2, hnil h.1.2.1⟩
  split at h
  · rename_i hk
    simp only [Bool.and_eq_true, decide_eq_true_eq] at h
    exact ⟨by omega, fun _ => nameR_valid h.1, by omega, attrsF_all _ _ h.2.2⟩
  split at h
  · rename_i hk
    simp only [Bool.and_eq_true, decide_eq_true_eq] at h
    exact ⟨by omega, fun _ => nameR_valid h.1, by omega, hnil h.2.2.1⟩
  split at h
  · rename_i hk
    simp only [bareR, Bool.and_eq_true, decide_eq_true_eq] at h
    exact ⟨by omega, by omega, fun _ => h.2, hnil h.1.2.1⟩
  split at h
  · rename_i hk
    simp only [bareR, Bool.and_eq_true, decide_eq_true_eq] at h
    exact ⟨by omega, by omega, by omega, hnil h.1.2.1⟩
  · cases h

theorem quoteR_len (l : List UInt8) : (quoteR l).length ≤ 2 * l.length + 2 := by
  have := escs_len l
  simp only [quoteR, List.length_cons, List.length_append, List.length_nil]; omega
theorem wordR_len (k : Int) : (wordR k).length ≤ 7 := by
  unfold wordR
  repeat' split
  all_goals decide

theorem words_at (k : Nat) (h : (k : Int) ≤ 4) : (#[str wText, str wStart, str wEnd, str wComment, str wDoctype] : Array Value)[k]? = some (str (wordR k)) := by
  have : k = 0 ∨ k = 1 ∨ k = 2 ∨ k = 3 ∨ k = 4 := by omega
  rcases this with rfl | rfl | rfl | rfl | rfl <;> rfl
theorem atLine_len (x : At) (h : x.small) : (atLine x).length ≤ 5000000 := by
  have := quoteR_len x.n
  have := quoteR_len x.v
  have h1 := h.1
  have h2 := h.2
  simp only [atLine, List.length_cons, List.length_append, List.length_nil]; omega

set_option maxHeartbeats 8000000 in
theorem print_ok (t : Tok) (p : Option Addr) (c : Nat) (hs : t.small) (w : World) (hi : Im [] w p (t.attrs.flatMap At.cells)) :
    PureC Try.prog 10 #[.agg ⟨t.cells p c⟩] w (if mayR t then .tuple #[str (lineR t), int 0] else .tuple #[str [], int 70]) := by
  obtain ⟨k, nm, tx, es, sf, a, b, d⟩ := t
  have hmf := may_facts ⟨k, nm, tx, es, sf, a, b, d⟩
  have hck := fun w hi => check_ok ⟨k, nm, tx, es, sf, a, b, d⟩ p c hs w hi
  obtain ⟨h1, h2, h3, h4⟩ := hs
  dsimp only at h1 h2 h3 h4 hi hck
  generalize hln : lineR ⟨k, nm, tx, es, sf, a, b, d⟩ = ln
  generalize hhd : headR ⟨k, nm, tx, es, sf, a, b, d⟩ = hd
  have hfl := fm_len At.len es
  have hln' : ln = hd ++ es.flatMap atLine ++ (if sf then [32, 47] else []) := by rw [← hln, ← hhd]; rfl
  have hhd' : hd = wordR k ++ (if k = 1 ∨ k = 2 then 32 :: quoteR nm else if k = 0 ∨ k = 3 then 32 :: quoteR tx else []) := by rw [← hhd]; rfl
  clear hln hhd
  refine enter (l := [.agg ⟨Tok.cells ⟨k, nm, tx, es, sf, a, b, d⟩ p c⟩]) Try.func10 rfl Try.ntmps10 (by kernel_rfl) rfl ?_
  refine sgo ?_
  refine wlbox (v := .agg ⟨Tok.cells ⟨k, nm, tx, es, sf, a, b, d⟩ p c⟩) (hx := rfl) fun b1 w1 hb1 ho hf1 => ?_
  have hpc := hck w1 (hi.frm hf1)
  simp only [Tok.cells, Value.cells] at ho hpc
  clear hck
  refine sgo ?_
  refine wlpure hpc fun w2 hf2 => ?_
  replace ho := ho.frm hf2
  have hf := hf1.trans hf2
  clear hpc
  cases hm : mayR ⟨k, nm, tx, es, sf, a, b, d⟩
  · refine sgo ?_
    (first | refine fp1 (.inl rfl) rfl rfl ?_ | refine fp2 (.inl rfl) rfl rfl rfl ?_ | refine fp3 (.inl rfl) rfl rfl rfl rfl ?_ | refine fp0 (.inr rfl) rfl ?_ | refine fp0 (.inl rfl) rfl ?_ | refine fp1 (.inr rfl) rfl rfl ?_); refine ⟨?_, by (first | exact Frm.refl _ | assumption | exact Go.Sv.Sep.frm (by assumption) | (refine Frm.trans ?_ (by assumption); first | exact Frm.refl _ | assumption))⟩; (try simp only [realB, rv_true, Nat.reduceBEq, cond_true, cond_false, entG, real_lif, updGL])
    rfl
  · obtain ⟨hk, hvn, hvt, hva⟩ := hmf hm
    dsimp only at hk hvn hvt hva
    refine sgo ?_
    · clear hmf hm
      obtain ⟨kn, rfl⟩ := Int.eq_ofNat_of_zero_le hk.1
      have hk4 := hk.2
      have hwl := wordR_len kn
      refine sgo ?_
      (first | refine WC_seq ?_ | skip); refine wcdraw ?_
      refine qlcallp (fun w _ => words_ok w) ?_
      refine qgo ?_
      refine ql ?_ (YQ.ofY fun wq hwq => y_aidx rfl rfl (by omega) (words_at kn hk4))
      refine qgo ?_
      refine QL_nil ?_; intro wd hwd
      have hod := ho.frm hwd
      have hfd := hf.trans hwd
      clear ho
      refine Go.Sv.thn_normal ?_
      refine wcut (X := Unit) (fun _ => [(1, ptrAt (pb b1) 0), (5, str hd)]) (fun _ w' => Frm w w' ∧ Own w' b1 [int kn, str nm, str tx, Value.slice p es.length c, Value.bool sf, int a, int b, int d]) ?_ ?_
      · refine sgo ?_
        (show WC _ _ _ _ _ _ _; first | refine WC_dec rfl (fun hc => ?_) (fun hc => ?_) | refine WC_cond rfl (fun hc => ?_) (fun hc => ?_))
        · have hk1 : (kn : Int) = 1 := hc
          clear hc
          refine sgo ?_
          (show WC _ _ _ _ _ _ _; first | refine WC_dec rfl (fun hc => ?_) (fun hc => ?_) | refine WC_cond rfl (fun hc => ?_) (fun hc => ?_))
          · refine sgo ?_
            refine wlpure (quoted_ok nm (hvn (.inl hk1)) h1 _) fun w4 hf4 => ?_
            have hql := quoteR_len nm
            refine sgo ?_
            refine ⟨(), ⟨rfl, ?_, trivial⟩, hfd.trans hf4, hod.frm hf4⟩
            show str _ = str _
            refine congrArg (fun l => str l) ?_
            rw [hhd', if_pos (.inl hk1)]; rfl
          · omega
        · have hk1 : ¬ (kn : Int) = 1 := hc
          clear hc
          refine sgo ?_
          (show WC _ _ _ _ _ _ _; first | refine WC_dec rfl (fun hc => ?_) (fun hc => ?_) | refine WC_cond rfl (fun hc => ?_) (fun hc => ?_))
          · refine sgo ?_
            refine wlpure (quoted_ok nm (hvn (.inr hc)) h1 _) fun w4 hf4 => ?_
            have hql := quoteR_len nm
            refine sgo ?_
            refine ⟨(), ⟨rfl, ?_, trivial⟩, hfd.trans hf4, hod.frm hf4⟩
            show str _ = str _
            refine congrArg (fun l => str l) ?_
            rw [hhd', if_pos (.inr hc)]; rfl
          · have hk2 : ¬ (kn : Int) = 2 := hc
            clear hc
            refine sgo ?_
            (show WC _ _ _ _ _ _ _; first | refine WC_dec rfl (fun hc => ?_) (fun hc => ?_) | refine WC_cond rfl (fun hc => ?_) (fun hc => ?_))
            · have hk0 : (kn : Int) = 0 := hc
              clear hc
              refine sgo ?_
              (show WC _ _ _ _ _ _ _; first | refine WC_dec rfl (fun hc => ?_) (fun hc => ?_) | refine WC_cond rfl (fun hc => ?_) (fun hc => ?_))
              · refine sgo ?_
                refine wlpure (quoted_ok tx (hvt (.inl hk0)) h2 _) fun w4 hf4 => ?_
                have hql := quoteR_len tx
                refine sgo ?_
                refine ⟨(), ⟨rfl, ?_, trivial⟩, hfd.trans hf4, hod.frm hf4⟩
                show str _ = str _
                refine congrArg (fun l => str l) ?_
                rw [hhd', if_neg (by omega), if_pos (.inl hk0)]; rfl
              · omega
            · have hk0 : ¬ (kn : Int) = 0 := hc
              clear hc
              refine sgo ?_
              (show WC _ _ _ _ _ _ _; first | refine WC_dec rfl (fun hc => ?_) (fun hc => ?_) | refine WC_cond rfl (fun hc => ?_) (fun hc => ?_))
              · refine sgo ?_
                refine wlpure (quoted_ok tx (hvt (.inr hc)) h2 _) fun w4 hf4 => ?_
                have hql := quoteR_len tx
                refine sgo ?_
                refine ⟨(), ⟨rfl, ?_, trivial⟩, hfd.trans hf4, hod.frm hf4⟩
                show str _ = str _
                refine congrArg (fun l => str l) ?_
                rw [hhd', if_neg (by omega), if_pos (.inr hc)]; rfl
              · have hk3 : ¬ (kn : Int) = 3 := hc
                clear hc
                refine sgo ?_
                refine ⟨(), ⟨rfl, ?_, trivial⟩, hfd, hod⟩
                show str _ = str _
                refine congrArg (fun l => str l) ?_
                rw [hhd', if_neg (by omega), if_neg (by omega), List.append_nil]
      clear hod hfd
      rintro ⟨⟩ w5 ρ5 ⟨hf5, ho5⟩
      have hhl : hd.length ≤ 3000000 := by
        have h5 := quoteR_len nm
        have h6 := quoteR_len tx
        rw [hhd', List.length_append]
        split
        · simp only [List.length_cons]; omega
        · split
          · simp only [List.length_cons]; omega
          · simp only [List.length_nil]; omega
      clear hhd' hvn hvt
      refine sgo ?_
      refine wcloop (X := Nat × List UInt8) (fun x => [(1, ptrAt (pb b1) 0), (5, str x.2), (38, .slice p es.length c), (39, int es.length), (40, int x.1)])
        (fun x wr => x.1 ≤ es.length ∧ x.2 = hd ++ (es.take x.1).flatMap atLine ∧ x.2.length ≤ 3000000 + x.1 * 5000000 ∧ Frm w wr ∧ Own wr b1 [int kn, str nm, str tx, Value.slice p es.length c, Value.bool sf, int a, int b, int d])
        (fun x => es.length - x.1) (0, hd) ⟨rfl, rfl, rfl, rfl, rfl, trivial⟩ ⟨by omega, by simp, by simpa using hhl, hf5, ho5⟩ ?_
      clear ho5
      rintro ⟨i, acc⟩ wr ρ ⟨hil, hacc, hal, hfr, hor⟩
      dsimp only at hil hacc hal ⊢
      refine sgo ?_
      (show WC _ _ _ _ _ _ _; first | refine WC_dec rfl (fun hc => ?_) (fun hc => ?_) | refine WC_cond rfl (fun hc => ?_) (fun hc => ?_))
      · have hlt : i < es.length := by omega
        have hSg := (hi.frm hfr).sg
        have hx : es[i]? = some es[i] := List.getElem?_eq_getElem hlt
        have hseg := fm_seg At.len es hx
        have htk : (es.take (i + 1)).flatMap atLine = (es.take i).flatMap atLine ++ atLine es[i] := by rw [List.take_add_one, hx, List.flatMap_append]; simp
        have hsm := h4 es[i] (List.getElem_mem hlt)
        have hva1 := hva es[i] (List.getElem_mem hlt)
        generalize es[i] = x at *
        have hxl := atLine_len x hsm
        have hps : ∃ q, p = some q := hSg.some (by omega)
        refine sgo ?_
        refine wlalloc fun b2 w6 hb2 ho2 hf6 => ?_
        refine wlstorea0 (hv := by exact ⟨by rw [hseg]; rfl, rfl⟩) (h1 := by rw [hseg]; simp [At.cells, Value.oneCell']) ho2 fun w7 ho7 hl7 => ?_
        rw [hseg] at ho7
        have hb2w : w.heap.size ≤ b2 := Nat.le_trans hfr.size hb2
        have hfr7 := (hfr.trans hf6).step hl7 (by simpa using hb2w)
        have hne : b1 ≠ b2 := by have := hor.lt; omega
        have hor7 := (hor.frm hf6).le hl7 (by simpa using hne)
        simp only [At.cells] at ho7
        clear hseg hSg ho2 hor
        have hqn := quoteR_len x.n
        have hqv := quoteR_len x.v
        have hs1 := hsm.1
        have hs2 := hsm.2
        refine sgo ?_
        (first | refine WC_seq ?_ | skip); refine wcdraw ?_
        refine qgo ?_
        refine qlcallp (fun w _ => quoted_ok x.n hva1.1 hsm.1 w) ?_
        refine qgo ?_
        refine qlcallp (fun w _ => quoted_ok x.v hva1.2 hsm.2 w) ?_
        refine qgo ?_
        refine QL_nil ?_; intro wd hwd
        have hfr8 := hfr7.trans hwd
        have hor8 := hor7.frm hwd
        refine sgo ?_
        refine ⟨(i + 1, acc ++ atLine x), ⟨rfl, ?_, rfl, rfl, rfl, trivial⟩, ⟨by dsimp only; omega, ?_, ?_, hfr8, hor8⟩, by dsimp only; omega⟩
        · show str _ = str _
          refine congrArg (fun l => str l) ?_
          simp [atLine]
        · dsimp only
          rw [hacc, htk, List.append_assoc]
        · dsimp only
          rw [List.length_append]; omega
      · have htk : es.take i = es := List.take_of_length_le (by omega)
        rw [htk] at hacc
        refine sgo ?_
        (show WC _ _ _ _ _ _ _; first | refine WC_dec rfl (fun hc => ?_) (fun hc => ?_) | refine WC_cond rfl (fun hc => ?_) (fun hc => ?_))
        · refine sgo ?_
          (first | refine fp1 (.inl rfl) rfl rfl ?_ | refine fp2 (.inl rfl) rfl rfl rfl ?_ | refine fp3 (.inl rfl) rfl rfl rfl rfl ?_ | refine fp0 (.inr rfl) rfl ?_ | refine fp0 (.inl rfl) rfl ?_ | refine fp1 (.inr rfl) rfl rfl ?_); refine ⟨?_, by (first | exact Frm.refl _ | assumption | exact Go.Sv.Sep.frm (by assumption) | (refine Frm.trans ?_ (by assumption); first | exact Frm.refl _ | assumption))⟩; (try simp only [realB, rv_true, Nat.reduceBEq, cond_true, cond_false, entG, real_lif, updGL])
          rw [hln', ← hacc, hc]; rfl
        · refine sgo ?_
          (first | refine fp1 (.inl rfl) rfl rfl ?_ | refine fp2 (.inl rfl) rfl rfl rfl ?_ | refine fp3 (.inl rfl) rfl rfl rfl rfl ?_ | refine fp0 (.inr rfl) rfl ?_ | refine fp0 (.inl rfl) rfl ?_ | refine fp1 (.inr rfl) rfl rfl ?_); refine ⟨?_, by (first | exact Frm.refl _ | assumption | exact Go.Sv.Sep.frm (by assumption) | (refine Frm.trans ?_ (by assumption); first | exact Frm.refl _ | assumption))⟩; (try simp only [realB, rv_true, Nat.reduceBEq, cond_true, cond_false, entG, real_lif, updGL])
          rw [hln', ← hacc, hc]; simp
end Go.Proofs.Ytfomfplddncakaa

/-
  Package sieveref07: Quote and Line; package token: List.
-/
set_option linter.unusedSimpArgs false
set_option linter.unusedVariables false
set_option linter.unnecessarySimpa false
namespace Go.Proofs.Ytfomfplddncakaa
open Go Go.Sv Go.RowKit

end Go.Proofs.Ytfomfplddncakaa

/-
  sievelaw07: the document's examples.
-/
set_option linter.unusedSimpArgs false
set_option linter.unusedVariables false
set_option linter.unnecessarySimpa false
namespace Go.Sv
open Go Go.RowKit
theorem wlgbuild {P : Program} {n : Nat} {ds : Ctx} {ops : Array Oper} {Q : Exit → Ctx → Env → World → Prop} {rest : List Oper} {σ : GE} {w : World} {d : Nat} {ty t : TypeId} {pos : String} {af : Array Edge} {zv : Value} {size bytes j dj : Nat} {want b c : Bool} {pl : List (Nat × Nat)} {ps : List (Nat × Operand)} {cells : List Value} [hf : Flds P t pl] [hi : Inf P t zv size bytes]
    (h : WL P n ds ops Q rest (real (updG σ d ⟨.agg cells.toArray, b && (c == want)⟩)) w) (hj : (ops[j]?).bind (·.dst) = some dj := by rfl) (hσ : σ dj = ⟨.bool c, b⟩ := by rfl)
    (hc : fillL pl zv.cells.toList (ps.map fun p => (p.1, evl (real σ) p.2)) = some cells := by
      simp only [List.map, Go.Sv.evl, Go.Sv.realB, Nat.reduceBEq, cond_true, cond_false, Go.Sv.rv_true, Go.Sv.entG, Go.Sv.updGL]
      simp [Go.Sv.fillL, Go.Sv.setSeg, Go.Value.cells]
      first | done | rfl) :
    WL P n ds ops Q (⟨some d, .build t ps.toArray, ty, pos, af, some (j, want)⟩ :: rest) (real σ) w := wlg h hj hσ fun _ => y_build hc
end Go.Sv
namespace Go.Proofs.Ytfomfplddncakaa
open Go Go.Sv Go.RowKit

def exAt : At := ⟨[104, 114, 101, 102], [120, 34, 121]⟩
def exTok : Tok := ⟨1, [97], [], [exAt], false, 0, 0, 0⟩
def exBad : Tok := ⟨1, [65], [], [], false, 0, 0, 0⟩
def exLine : List UInt8 := [115, 116, 97, 114, 116, 32, 34, 97, 34, 32, 34, 104, 114, 101, 102, 34, 61, 34, 120, 92, 34, 121, 34]
theorem exTok_may : mayR exTok = true := by decide +kernel
theorem exTok_line : lineR exTok = exLine := by decide +kernel
theorem exBad_may : mayR exBad = false := by decide +kernel

set_option maxHeartbeats 2000000 in
theorem lives_ok (w : World) : PureC Try.prog 9 #[] w (.bool true) := by
  refine enter (l := []) Try.func9 rfl Try.ntmps9 (by kernel_rfl) rfl ?_
  refine sgo ?_
  refine wlbuild (cells := [str [104, 114, 101, 102], str [120, 34, 121]]) ?_
  refine wlb1a fun b w1 hb1 ho hf1 => ?_
  have hI := ho.im (M := []) (by simp)
  refine wlbuild (cells := [int 1, str [97], str [], .slice (pb b) 1 1, .bool false, int 0, int 0, int 0]) ?_
  have hp := print_ok exTok (pb b) 1 ⟨by decide, by decide, by decide, by intro x hx; simp [exTok] at hx; subst hx; exact ⟨by decide, by decide⟩⟩ w1 hI
  rw [exTok_may, exTok_line] at hp
  refine wlpure hp fun w2 hf2 => ?_
  have hf := hf1.trans hf2
  refine sgo ?_
  refine wlgbuild (cells := [int 1, str [65], str [], .slice none 0 0, .bool false, int 0, int 0, int 0]) ?_
  have hq := fun w => check_ok exBad none 0 ⟨by decide, by decide, by decide, by intro x hx; simp [exBad] at hx⟩ w (Im.nil _ _ _)
  rw [exBad_may] at hq
  refine wlcallgp (vals := [.agg ⟨[int 1, str [65], str [], .slice none 0 0, .bool false, int 0, int 0, int 0]⟩]) (v := int 70) (fun _ => hq _) fun w3 hf3 => ?_
  have hf3 := hf.trans hf3
  refine sgo ?_
  (first | refine fp1 (.inl rfl) rfl rfl ?_ | refine fp2 (.inl rfl) rfl rfl rfl ?_ | refine fp3 (.inl rfl) rfl rfl rfl rfl ?_ | refine fp0 (.inr rfl) rfl ?_ | refine fp0 (.inl rfl) rfl ?_ | refine fp1 (.inr rfl) rfl rfl ?_); refine ⟨?_, by (first | exact Frm.refl _ | assumption | exact Go.Sv.Sep.frm (by assumption) | (refine Frm.trans ?_ (by assumption); first | exact Frm.refl _ | assumption))⟩; (try simp only [realB, rv_true, Nat.reduceBEq, cond_true, cond_false, entG, real_lif, updGL])
  rfl

end Go.Proofs.Ytfomfplddncakaa

/-
  Lists of tokens in memory; package token: List; sievelaw07: TokenPrints.
-/
set_option linter.unusedSimpArgs false
set_option linter.unusedVariables false
set_option linter.unnecessarySimpa false
namespace Go.Proofs.Ytfomfplddncakaa
open Go Go.Sv Go.RowKit

/-- a token as it lies in memory: and where its attributes lie -/
structure TokM where
  t : Tok
  p : Option Addr
  c : Nat
def TokM.cells (m : TokM) : List Value := m.t.cells m.p m.c
theorem TokM.len (m : TokM) : m.cells.length = 8 := rfl
structure Toks (w : World) (p : Option Addr) (ms : List TokM) : Prop where
  im : Im [] w p (ms.flatMap TokM.cells)
  each : ∀ m ∈ ms, Im [] w m.p (m.t.attrs.flatMap At.cells)
theorem Toks.frm {w w' : World} {p : Option Addr} {ms : List TokM} (h : Toks w p ms) (hf : Frm w w') : Toks w' p ms := ⟨h.im.frm hf, fun m hm => (h.each m hm).frm hf⟩

def At.wt (x : At) : Nat := x.n.length + x.v.length + 3
def Tok.wt (t : Tok) : Nat := 8 + t.name.length + t.text.length + (t.attrs.map At.wt).sum
theorem sum_mem {α : Type} (f : α → Nat) (l : List α) {x : α} (h : x ∈ l) : f x ≤ (l.map f).sum := by
  induction l with
  | nil => cases h
  | cons y l ih =>
    simp only [List.map_cons, List.sum_cons]
    rcases List.mem_cons.1 h with rfl | h
    · omega
    · have := ih h; omega
theorem sum_len {α : Type} (f : α → Nat) (l : List α) (h : ∀ x ∈ l, 1 ≤ f x) : l.length ≤ (l.map f).sum := by
  induction l with
  | nil => simp
  | cons y l ih =>
    simp only [List.map_cons, List.sum_cons, List.length_cons]
    have := ih fun x hx => h x (List.mem_cons_of_mem _ hx)
    have := h y List.mem_cons_self
    omega
theorem sum_take {α : Type} (f : α → Nat) (l : List α) (i : Nat) : ((l.take i).map f).sum ≤ (l.map f).sum := by
  conv => rhs; rw [← List.take_append_drop i l, List.map_append, List.sum_append]
  omega
theorem len_flat {α β : Type} (f : α → List β) (g : α → Nat) (k : Nat) (l : List α) (h : ∀ x ∈ l, (f x).length ≤ k * g x) : (l.flatMap f).length ≤ k * (l.map g).sum := by
  induction l with
  | nil => simp
  | cons y l ih =>
    simp only [List.flatMap_cons, List.map_cons, List.sum_cons, List.length_append, Nat.mul_add]
    have := ih fun x hx => h x (List.mem_cons_of_mem _ hx)
    have := h y List.mem_cons_self
    omega
theorem small_of_wt {t : Tok} (h : t.wt ≤ 1048576) : t.small := by
  unfold Tok.wt at h
  refine ⟨by omega, by omega, ?_, fun x hx => ?_⟩
  · have := sum_len At.wt t.attrs (by intro x _; unfold At.wt; omega); omega
  · have h1 := sum_mem At.wt t.attrs hx
    have h2 : At.wt x = x.n.length + x.v.length + 3 := rfl
    exact ⟨by omega, by omega⟩
def lnR (t : Tok) : List UInt8 := lineR t ++ [10]
theorem lnR_len (t : Tok) : (lnR t).length ≤ 3 * t.wt := by
  have h1 := quoteR_len t.name
  have h2 := quoteR_len t.text
  have h3 := wordR_len t.kind
  have h4 : (headR t).length ≤ 10 + 2 * t.name.length + 2 * t.text.length := by
    unfold headR
    rw [List.length_append]
    split
    · simp only [List.length_cons]; omega
    · split
      · simp only [List.length_cons]; omega
      · simp only [List.length_nil]; omega
  have h5 : (t.attrs.flatMap atLine).length ≤ 2 * (t.attrs.map At.wt).sum := len_flat atLine At.wt 2 _ fun x _ => by
    have := quoteR_len x.n
    have := quoteR_len x.v
    simp only [atLine, List.length_cons, List.length_append, List.length_nil, At.wt]; omega
  have h6 : (if t.self then [32, 47] else [] : List UInt8).length ≤ 2 := by split <;> simp
  unfold lnR lineR Tok.wt
  simp only [List.length_append, List.length_cons, List.length_nil]
  omega
def wts (ms : List TokM) : Nat := (ms.map fun m => m.t.wt).sum
def lns (ms : List TokM) : List UInt8 := ms.flatMap fun m => lnR m.t
theorem lns_take (ms : List TokM) (i : Nat) : (lns (ms.take i)).length ≤ 3 * wts ms := by
  have h1 := len_flat (fun m : TokM => lnR m.t) (fun m => m.t.wt) 3 (ms.take i) fun m _ => lnR_len m.t
  have h2 := sum_take (fun m : TokM => m.t.wt) ms i
  unfold lns wts
  omega
def allMay (ms : List TokM) : Bool := ms.all fun m => mayR m.t
theorem allMay_take_succ {ms : List TokM} {i : Nat} {m : TokM} (hx : ms[i]? = some m) : allMay (ms.take (i + 1)) = (allMay (ms.take i) && mayR m.t) := by
  unfold allMay
  rw [List.take_add_one, hx, List.all_append]; simp
theorem lns_take_succ {ms : List TokM} {i : Nat} {m : TokM} (hx : ms[i]? = some m) : lns (ms.take (i + 1)) = lns (ms.take i) ++ lnR m.t := by
  unfold lns
  rw [List.take_add_one, hx, List.flatMap_append]; simp
theorem allMay_not {ms : List TokM} {m : TokM} (hm : m ∈ ms) (h : mayR m.t = false) : allMay ms = false := by
  unfold allMay
  rw [List.all_eq_false]
  exact ⟨m, hm, by simp [h]⟩

set_option maxHeartbeats 1000000 in
theorem list_ok (ms : List TokM) (p : Option Addr) (c : Nat) (hb : wts ms ≤ 1048576) (w : World) (hT : Toks w p ms) :
    PureC Try.prog 13 #[.slice p ms.length c] w (if allMay ms then .tuple #[str (lns ms), int 0] else .tuple #[str [], int 70]) := by
  have hnl : ms.length ≤ 1048576 := by
    have := sum_len (fun m : TokM => m.t.wt) ms (by intro m _; show 1 ≤ Tok.wt m.t; unfold Tok.wt; omega)
    unfold wts at hb; omega
  refine enter (l := [.slice p ms.length c]) Try.func13 rfl Try.ntmps13 (by kernel_rfl) rfl ?_
  refine sgo ?_
  refine wlallocT fun b w0 hbw ha0 hf0 => ?_
  have hB0 : Bld TB TY w0 b none [] := Bld.new ha0
  refine sgo ?_
  refine wcloop (X := Nat × Option Addr) (fun x => [(4, ptrAt (pb b) 0), (9, .slice p ms.length c), (10, int ms.length), (11, int x.1)])
    (fun x wr => x.1 ≤ ms.length ∧ allMay (ms.take x.1) = true ∧ Bld TB TY wr b x.2 (lns (ms.take x.1)) ∧ Frm w wr ∧ ∀ k ∈ b :: rb x.2, w.heap.size ≤ k)
    (fun x => ms.length - x.1) (0, none) ⟨rfl, rfl, rfl, rfl, trivial⟩ ⟨by omega, rfl, hB0, hf0, by intro x hx; simp [rb] at hx; omega⟩ ?_
  clear hB0
  rintro ⟨i, q⟩ wr ρ ⟨hil, hma, hBl, hfr, hq⟩
  dsimp only at hil hma hBl hq ⊢
  have hTr := hT.frm hfr
  have hlr := lns_take ms i
  refine sgo ?_
  (show WC _ _ _ _ _ _ _; first | refine WC_dec rfl (fun hc => ?_) (fun hc => ?_) | refine WC_cond rfl (fun hc => ?_) (fun hc => ?_))
  · have hlt : i < ms.length := by omega
    have hSg := hTr.im.sg
    have hx : ms[i]? = some ms[i] := List.getElem?_eq_getElem hlt
    have hseg := fm_seg TokM.len ms hx
    have hmem : ms[i] ∈ ms := List.getElem_mem hlt
    have hat := hTr.each _ hmem
    have hwt : ms[i].t.wt ≤ 1048576 := Nat.le_trans (sum_mem (fun m : TokM => m.t.wt) ms hmem) hb
    have hms := allMay_take_succ hx
    have hls := lns_take_succ hx
    have hl2 := lns_take ms (i + 1)
    generalize ms[i] = m at *
    have hps : ∃ q, p = some q := hSg.some (by have := fm_len TokM.len ms; omega)
    have hfl := fm_len TokM.len ms
    refine sgo ?_
    refine wlalloc fun b2 w2 hb2 ho hf2 => ?_
    refine wlstorea0 (hv := by exact ⟨by rw [hseg]; rfl, rfl⟩) (h1 := by rw [hseg]; simp [TokM.cells, Tok.cells, Value.oneCell']) ho fun w3 ho3 hl3 => ?_
    rw [hseg] at ho3
    have hb2w : w.heap.size ≤ b2 := Nat.le_trans hfr.size hb2
    have hfr3 := (hfr.trans hf2).step hl3 (by simpa using hb2w)
    have hB3 := (hBl.frm hf2).le hl3 (by intro k hk hm; simp only [List.mem_singleton] at hm; subst hm; have := hBl.lt k hk; omega)
    have hat3 : Im [] w3 m.p (m.t.attrs.flatMap At.cells) := ((hat.fresh (b := b2) hb2).frm hf2).le hl3 |>.weak (by simp)
    simp only [TokM.cells, Tok.cells] at ho3
    clear hseg hSg ho hat
    refine sgo ?_
    have hpr := print_ok m.t m.p m.c (small_of_wt hwt) w3 hat3
    by_cases hmm : mayR m.t = true
    · rw [if_pos hmm] at hpr
      refine wlpure hpr fun w4 hf4 => ?_
      have hB4 := hB3.frm hf4
      have hfr4 := hfr3.trans hf4
      have hll := lnR_len m.t
      have hll2 : (lineR m.t).length + 1 ≤ 3 * m.t.wt := by unfold lnR at hll; simpa using hll
      have hle : lnR m.t = lineR m.t ++ [10] := rfl
      rw [hle] at hls hll
      clear hle hpr
      generalize lineR m.t = L at *
      refine sgo ?_
      refine wlcall (writeString_ok b q _ (L ++ [10]) _ hB4 (by simp only [List.length_append, List.length_cons, List.length_nil]; omega)) ?_
      rintro v w5 ⟨rfl, q5, hB5, hl5⟩
      refine sgo ?_
      refine ⟨(i + 1, q5), ⟨rfl, rfl, rfl, rfl, trivial⟩, ⟨by dsimp only; omega, ?_, ?_, hfr4.step hl5.1 hq, hl5.fresh hfr4 hq⟩, by dsimp only; omega⟩
      · dsimp only; rw [hms, hma, hmm]; rfl
      · dsimp only; rw [hls]; exact hB5
    · have hmf : mayR m.t = false := by simpa using hmm
      rw [if_neg hmm] at hpr
      refine wlpure hpr fun w4 hf4 => ?_
      have hfr4 := hfr3.trans hf4
      refine sgo ?_
      (first | refine fp1 (.inl rfl) rfl rfl ?_ | refine fp2 (.inl rfl) rfl rfl rfl ?_ | refine fp3 (.inl rfl) rfl rfl rfl rfl ?_ | refine fp0 (.inr rfl) rfl ?_ | refine fp0 (.inl rfl) rfl ?_ | refine fp1 (.inr rfl) rfl rfl ?_); refine ⟨?_, by (first | exact Frm.refl _ | assumption | exact Go.Sv.Sep.frm (by assumption) | (refine Frm.trans ?_ (by assumption); first | exact Frm.refl _ | assumption))⟩; (try simp only [realB, rv_true, Nat.reduceBEq, cond_true, cond_false, entG, real_lif, updGL])
      rw [allMay_not hmem hmf]; rfl
  · have htk : ms.take i = ms := List.take_of_length_le (by omega)
    rw [htk] at hma hBl
    refine sgo ?_
    refine wlcall (string_ok w.heap.size b q _ _ hBl hq hfr.size) ?_
    rintro v w6 ⟨rfl, hf6⟩
    have hfr6 : Frm w w6 := Below.trans hfr hf6
    refine sgo ?_
    (first | refine fp1 (.inl rfl) rfl rfl ?_ | refine fp2 (.inl rfl) rfl rfl rfl ?_ | refine fp3 (.inl rfl) rfl rfl rfl rfl ?_ | refine fp0 (.inr rfl) rfl ?_ | refine fp0 (.inl rfl) rfl ?_ | refine fp1 (.inr rfl) rfl rfl ?_); refine ⟨?_, by (first | exact Frm.refl _ | assumption | exact Go.Sv.Sep.frm (by assumption) | (refine Frm.trans ?_ (by assumption); first | exact Frm.refl _ | assumption))⟩; (try simp only [realB, rv_true, Nat.reduceBEq, cond_true, cond_false, entG, real_lif, updGL])
    rw [hma]; rfl
end Go.Proofs.Ytfomfplddncakaa

/-
  Lines of tokens, read: plain laws.
-/
set_option linter.unusedSimpArgs false
set_option linter.unusedVariables false
set_option linter.unnecessarySimpa false
namespace Go.Proofs.Ytfomfplddncakaa
open Go Go.Sv Go.RowKit

/-- behind a first mark: the text up to the next, and the rest -/
def unqR : List UInt8 → List UInt8 → Option (List UInt8 × List UInt8)
  | [], _ => none
  | c :: l, acc =>
    if c.toNat = 34 then some (acc, l)
    else if c.toNat = 9 then none
    else if c.toNat = 92 then
      match l with
      | [] => none
      | d :: l' => if d.toNat = 110 then unqR l' (acc ++ [10]) else if d.toNat = 116 then unqR l' (acc ++ [9]) else if d.toNat = 34 ∨ d.toNat = 92 then unqR l' (acc ++ [d]) else none
    else unqR l (acc ++ [c])
theorem unqR_cons (c : UInt8) (l acc : List UInt8) : unqR (c :: l) acc =
    if c.toNat = 34 then some (acc, l)
    else if c.toNat = 9 then none
    else if c.toNat = 92 then
      match l with
      | [] => none
      | d :: l' => if d.toNat = 110 then unqR l' (acc ++ [10]) else if d.toNat = 116 then unqR l' (acc ++ [9]) else if d.toNat = 34 ∨ d.toNat = 92 then unqR l' (acc ++ [d]) else none
    else unqR l (acc ++ [c]) := by
  cases l <;> rfl
/-- a quoted text at the front -/
def textR : List UInt8 → Option (List UInt8 × List UInt8)
  | [] => none
  | c :: l => if c.toNat = 34 then unqR l [] else none
theorem unqR_suf : ∀ (n : Nat) (l acc : List UInt8) (t r : List UInt8), l.length ≤ n → unqR l acc = some (t, r) → r <:+ l ∧ r.length < l.length ∧ t.length + r.length + 1 ≤ acc.length + l.length
  | n, [], acc, t, r, hn, h => by simp [unqR] at h
  | 0, c :: l, acc, t, r, hn, h => by simp at hn
  | n + 1, c :: l, acc, t, r, hn, h => by
    simp only [List.length_cons] at hn
    rw [unqR_cons] at h
    split at h
    · injection h with h; injection h with h1 h2
      subst h1 h2
      exact ⟨List.suffix_cons _ _, by simp, by simp; omega⟩
    split at h
    · cases h
    split at h
    · cases l with
      | nil => cases h
      | cons d l' =>
        simp only [List.length_cons] at hn
        have key : ∀ x : UInt8, unqR l' (acc ++ [x]) = some (t, r) → r <:+ c :: d :: l' ∧ r.length < (c :: d :: l').length ∧ t.length + r.length + 1 ≤ acc.length + (c :: d :: l').length := fun x hx => by
          obtain ⟨h1, h2, h3⟩ := unqR_suf n l' _ t r (by omega) hx
          simp only [List.length_append, List.length_cons, List.length_nil] at h3 ⊢
          exact ⟨h1.trans ((List.suffix_cons d l').trans (List.suffix_cons c _)), by omega, by omega⟩
        dsimp only at h
        split at h
        · exact key _ h
        split at h
        · exact key _ h
        split at h
        · exact key _ h
        · cases h
    · obtain ⟨h1, h2, h3⟩ := unqR_suf n l _ t r (by omega) h
      simp only [List.length_append, List.length_cons, List.length_nil] at h3 ⊢
      exact ⟨h1.trans (List.suffix_cons c l), by omega, by omega⟩
theorem textR_suf {s t r : List UInt8} (h : textR s = some (t, r)) : r <:+ s ∧ r.length < s.length ∧ t.length + r.length + 2 ≤ s.length := by
  cases s with
  | nil => cases h
  | cons c l =>
    by_cases hc : c.toNat = 34
    · rw [textR, if_pos hc] at h
      obtain ⟨h1, h2, h3⟩ := unqR_suf l.length l [] t r (Nat.le_refl _) h
      simp only [List.length_nil, List.length_cons] at h3 ⊢
      exact ⟨h1.trans (List.suffix_cons c l), by omega, by omega⟩
    · rw [textR, if_neg hc] at h
      cases h
theorem drop_at {l : List UInt8} {i : Nat} {c : UInt8} (h : l[i]? = some c) : l.drop i = c :: l.drop (i + 1) := by
  obtain ⟨hi, rfl⟩ := List.getElem?_eq_some_iff.1 h
  exact List.drop_eq_getElem_cons hi
theorem unq_out {l acc : List UInt8} {i : Nat} (h : l.length ≤ i) : unqR (l.drop i) acc = none := by
  rw [List.drop_eq_nil_of_le h, unqR]
theorem unq_mark {l acc : List UInt8} {i : Nat} {c : UInt8} (h : l[i]? = some c) (hc : c.toNat = 34) : unqR (l.drop i) acc = some (acc, l.drop (i + 1)) := by
  rw [drop_at h, unqR_cons, if_pos hc]
theorem unq_tab {l acc : List UInt8} {i : Nat} {c : UInt8} (h : l[i]? = some c) (hc : c.toNat = 9) : unqR (l.drop i) acc = none := by
  rw [drop_at h, unqR_cons, if_neg (by omega), if_pos hc]
theorem unq_one {l acc : List UInt8} {i : Nat} {c : UInt8} (h : l[i]? = some c) (h1 : c.toNat ≠ 34) (h2 : c.toNat ≠ 9) (h3 : c.toNat ≠ 92) : unqR (l.drop i) acc = unqR (l.drop (i + 1)) (acc ++ [c]) := by
  rw [drop_at h, unqR_cons, if_neg h1, if_neg h2, if_neg h3]
theorem unq_esc_out {l acc : List UInt8} {i : Nat} {c : UInt8} (h : l[i]? = some c) (hc : c.toNat = 92) (ho : l.length ≤ i + 1) : unqR (l.drop i) acc = none := by
  rw [drop_at h, unqR_cons, if_neg (by omega), if_neg (by omega), if_pos hc, List.drop_eq_nil_of_le ho]
theorem unq_esc_at {l acc : List UInt8} {i : Nat} {c d : UInt8} (h : l[i]? = some c) (hc : c.toNat = 92) (hd : l[i + 1]? = some d) : unqR (l.drop i) acc =
    if d.toNat = 110 then unqR (l.drop (i + 2)) (acc ++ [10]) else if d.toNat = 116 then unqR (l.drop (i + 2)) (acc ++ [9]) else if d.toNat = 34 ∨ d.toNat = 92 then unqR (l.drop (i + 2)) (acc ++ [d]) else none := by
  rw [drop_at h, unqR_cons, if_neg (by omega), if_neg (by omega), if_pos hc, drop_at hd]
/-- one attribute at the front: a blank, its name, =, its value -/
def at1R (s : List UInt8) : Option (At × List UInt8) :=
  match textR (s.drop 1) with
  | none => none
  | some (n, r) => if r.take 1 = [61] then (match textR (r.drop 1) with | none => none | some (v, r2) => some (⟨n, v⟩, r2)) else none
theorem at1R_suf {s r : List UInt8} {a : At} (h : at1R s = some (a, r)) : r <:+ s ∧ r.length < s.length ∧ a.n.length + a.v.length + r.length + 4 ≤ s.length := by
  unfold at1R at h
  cases h1 : textR (s.drop 1) with
  | none => rw [h1] at h; cases h
  | some x =>
    obtain ⟨n, r1⟩ := x
    rw [h1] at h
    dsimp only at h
    split at h
    · cases h2 : textR (r1.drop 1) with
      | none => rw [h2] at h; cases h
      | some y =>
        obtain ⟨v, r2⟩ := y
        rw [h2] at h
        injection h with h; injection h with h3 h4
        subst h3 h4
        obtain ⟨a1, a2, a3⟩ := textR_suf h1
        obtain ⟨b1, b2, b3⟩ := textR_suf h2
        rw [List.length_drop] at a2 a3 b2 b3
        exact ⟨b1.trans ((List.drop_suffix 1 _).trans (a1.trans (List.drop_suffix 1 _))), by omega, by dsimp only; omega⟩
    · cases h
/-- attributes at the front, as many as there are -/
def atsR (s : List UInt8) (acc : List At) : Option (List At × List UInt8) :=
  if s.take 2 = [32, 34] then
    match h : at1R s with
    | none => none
    | some (a, r) =>
      have := (at1R_suf h).2.1
      atsR r (acc ++ [a])
  else some (acc, s)
termination_by s.length
theorem atsR_yes {s : List UInt8} {acc : List At} {a : At} {r : List UInt8} (h : s.take 2 = [32, 34]) (h1 : at1R s = some (a, r)) : atsR s acc = atsR r (acc ++ [a]) := by
  rw [atsR, if_pos h]
  split
  · rename_i h2; rw [h1] at h2; cases h2
  · rename_i a' r' h2; rw [h1] at h2; injection h2 with h2; injection h2 with h3 h4; subst h3 h4; rfl
theorem atsR_bad {s : List UInt8} {acc : List At} (h : s.take 2 = [32, 34]) (h1 : at1R s = none) : atsR s acc = none := by
  rw [atsR, if_pos h]
  split
  · rfl
  · rename_i a' r' h2; rw [h1] at h2; cases h2
theorem atsR_end {s : List UInt8} {acc : List At} (h : ¬ s.take 2 = [32, 34]) : atsR s acc = some (acc, s) := by rw [atsR, if_neg h]
/-- the name or the text that a kind has -/
def headT (k : Nat) (s : List UInt8) : Option (List UInt8 × List UInt8 × List UInt8) :=
  if k = 4 then some ([], [], s)
  else if s.take 1 = [32] then
    match textR (s.drop 1) with
    | none => none
    | some (x, r) => if k = 1 ∨ k = 2 then some (x, [], r) else some ([], x, r)
  else none
/-- behind the kind's word -/
def tokR (k : Nat) (s : List UInt8) : Option Tok :=
  match headT k s with
  | none => none
  | some (nm, tx, r) =>
    match atsR r [] with
    | none => none
    | some (es, r2) => if (r2 = [] ∨ r2 = [32, 47]) ∧ mayR ⟨k, nm, tx, es, decide (r2 = [32, 47]), 0, 0, 0⟩ = true then some ⟨k, nm, tx, es, decide (r2 = [32, 47]), 0, 0, 0⟩ else none
def wordsL : List (List UInt8) := [wText, wStart, wEnd, wComment, wDoctype]
def readF : Nat → List (List UInt8) → List UInt8 → Option Tok
  | _, [], _ => none
  | k, x :: ws, s => if x.isPrefixOf s = true then tokR k (s.drop x.length) else readF (k + 1) ws s
/-- a line, read -/
def readR (s : List UInt8) : Option Tok := readF 0 wordsL s
/-! ## lines -/
def linesG : List UInt8 → List UInt8 → List (List UInt8)
  | [], cur => if cur = [] then [] else [cur]
  | c :: l, cur => if c.toNat = 10 then cur :: linesG l [] else linesG l (cur ++ [c])
/-- a text's lines; a last one may lack its end -/
def linesR (s : List UInt8) : List (List UInt8) := linesG s []
/-- the tokens of lines, or the number of the first that is none -/
def parseF : Nat → List (List UInt8) → List Tok → List Tok × Nat
  | _, [], acc => (acc, 0)
  | n, x :: ls, acc => match readR x with | none => ([], n) | some t => parseF (n + 1) ls (acc ++ [t])
def parseR (s : List UInt8) : List Tok × Nat := parseF 1 (linesR s) []
end Go.Proofs.Ytfomfplddncakaa

/-
  Lines of tokens, read as the document does: plain laws.
-/
set_option linter.unusedSimpArgs false
set_option linter.unusedVariables false
set_option linter.unnecessarySimpa false
namespace Go.Proofs.Ytfomfplddncakaa
open Go Go.Sv Go.RowKit

theorem head_no {k : Nat} (hk : k ≠ 4) {s : List UInt8} (h : ¬ s.take 1 = [32]) : headT k s = none := by unfold headT; rw [if_neg hk, if_neg h]
theorem head_bad {k : Nat} (hk : k ≠ 4) {s : List UInt8} (h : s.take 1 = [32]) (h2 : textR (s.drop 1) = none) : headT k s = none := by unfold headT; rw [if_neg hk, if_pos h, h2]
theorem head_yes {k : Nat} (hk : k ≠ 4) {s x r : List UInt8} (h : s.take 1 = [32]) (h2 : textR (s.drop 1) = some (x, r)) : headT k s = some (if k = 1 ∨ k = 2 then (x, [], r) else ([], x, r)) := by
  unfold headT; rw [if_neg hk, if_pos h, h2]
  dsimp only
  split <;> rfl
theorem tok_none {k : Nat} {s : List UInt8} (h : headT k s = none) : tokR k s = none := by unfold tokR; rw [h]
/-- of the words just one can stand at the front -/
theorem read_at : ∀ (k : Nat) (x s : List UInt8), wordsL[k]? = some x → x.isPrefixOf s = true → readR s = tokR k (s.drop x.length) := by
  intro k x s hx hp
  obtain ⟨t, rfl⟩ := List.isPrefixOf_iff_prefix.1 hp
  have hk : k < 5 := (List.getElem?_eq_some_iff.1 hx).1
  match k, hk with
  | 0, _ => obtain rfl : wText = x := Option.some.inj hx; rfl
  | 1, _ => obtain rfl : wStart = x := Option.some.inj hx; rfl
  | 2, _ => obtain rfl : wEnd = x := Option.some.inj hx; rfl
  | 3, _ => obtain rfl : wComment = x := Option.some.inj hx; rfl
  | 4, _ => obtain rfl : wDoctype = x := Option.some.inj hx; rfl
end Go.Proofs.Ytfomfplddncakaa

/-
  Deferred functions that recover.
-/
set_option linter.unusedSimpArgs false
set_option linter.unusedVariables false
set_option linter.unnecessarySimpa false
namespace Go.Sv
open Go Go.RowKit

/-- what recover hands to a deferred function, by the mode of the frame below it, and how it leaves that mode -/
inductive Recov : FrameMode → Value → FrameMode → Prop
  | panicking (v : Value) (older : List PanicEntry) : Recov (.panicking ({ v := v, recovered := false } :: older)) v (.panicking ({ v := v, recovered := true } :: older))
  | returning : Recov .returning .nilIface .returning
/-- a deferred function's end, the frame below in a mode -/
def fpostD (P : Program) (n : Nat) (fn : Func) (u : FrameMode) (R : Ending → FrameMode → World → Prop) : Exit → Ctx → Env → World → Prop
  | .normal, c, σ, w | .ret, c, σ, w => c.ds = [] ∧ ∃ v, (results fn (act n c.ds σ).tmps).run P w = .ok v w ∧ R (.returned v) u w
  | .panic ch, c, _, w => c.ds = [] ∧ R (.panicked ch) u w
  | _, _, _, _ => False
section
variable {P : Program} {n : Nat} {fn : Func} {R : Ending → FrameMode → World → Prop} {u u' : FrameMode} {w : World}
theorem postS_of {c₀ : Frame} {cs : List Frame} {e : Exit} {a : Act} (h : lft n none (fpostD P n fn u' R) e a w) : bodyPostS P fn c₀ cs R e a ({ c₀ with mode := u' } :: cs) w := by
  obtain ⟨ds, σ, rfl, hq⟩ := h
  cases e with
  | normal => exact ⟨hq.1, u', rfl, hq.2⟩
  | ret => exact ⟨hq.1, u', rfl, hq.2⟩
  | panic ch => exact ⟨hq.1, u', rfl, hq.2⟩
  | exit id => exact hq.elim
  | goto l => exact hq.elim
  | outgrown => exact hq.elim
/-- the entry of a deferred function whose first operation is recover -/
theorem enterD {f : FuncId} {id : Nat} {o : Oper} {ops : List Oper} {rest : Code} {l : List Value} {v : Value}
    (hf : P.funcs[f]? = some fn) (hb : fn.body = some (.seq (.region id (o :: ops).toArray false) rest)) (hn : fn.ntmps = n)
    (hin : codeIn n false (.seq (.region id (o :: ops).toArray false) rest) = true) (hl : Nat.ble l.length n = true) (hg : o.guard = none)
    (hrun : (execOp (evl (ent l 0)) o).run P w = .ok .recover w) (hu : Recov u v u')
    (h : WL P n ⟨[], none⟩ (o :: ops).toArray (thn (fun c σ w => WC P n c rest (fpostD P n fn u' R) σ w) (fpostD P n fn u' R)) ops (updO (ent l 0) o.dst v) w) :
    CallsDIn Fence.wide 0 P f l.toArray u w R := by
  refine callsDIn_of_wpSIn hf hb trivial fun c₀ cs hm => ?_
  rw [ent_tmps hl hn]
  have hin0 := hin
  simp only [codeIn, Bool.and_eq_true] at hin0
  obtain ⟨hin1, hin2⟩ := hin0
  have hin3 : (o :: ops).all (operIn n false (o :: ops).toArray) = true := hin1
  rw [List.all_cons, Bool.and_eq_true] at hin3
  obtain ⟨hino, hinl⟩ := hin3
  refine wpSIn_seq ?_
  intro b k hb' hro hF hroom
  obtain ⟨cs', hrec, hlen⟩ : ∃ cs', ((recoverD (c₀ :: cs) = some (v, cs')) ∨ (recoverD (c₀ :: cs) = none ∧ v = .nilIface ∧ cs' = c₀ :: cs)) ∧ cs' = { c₀ with mode := u' } :: cs := by
    cases hu with
    | panicking v older => exact ⟨_, .inl (by simp only [recoverD, hm]), rfl⟩
    | returning => exact ⟨c₀ :: cs, .inr ⟨by simp only [recoverD, hm], rfl, rfl⟩, by rw [← hm]⟩
  have hroom' : (Fence.wide).room (cs'.length + 1 + 0) := by rw [hlen]; exact hroom
  have hro' : b.roundOf = (Fence.wide).round := hro
  unfold WL at h
  have hl1 := h hinl
  have hl2 : wpOpsIn Fence.wide 0 P (o :: ops).toArray (lft n none (thn (fun c σ w => WC P n c rest (fpostD P n fn u' R) σ w) (fpostD P n fn u' R))) (List.range' 1 ops.length) (act n [] (updO (ent l 0) o.dst v)) w := by
    rw [wpOpsIn_eq_wpListIn ops 1 (by intro j; rw [Nat.add_comm]; simp)]
    exact hl1
  obtain ⟨e, a', w', hq, harr⟩ := wp_opsIn _ _ _ hl2 b k cs' hro' hF hroom'
  have ho : (o :: ops).toArray[0]? = some o := by simp
  have habout : ∀ f, o.about P w (act n [] (ent l 0)).eval = some f → Fence.wide.fn f := fun _ _ => trivial
  have h0 : (lone (b.atR (act n [] (ent l 0)) (.inRegion (o :: ops).toArray (0 :: List.range' 1 ops.length) :: k)) (c₀ :: cs) w).fenced P Fence.wide := fenced_oper hF hroom ho habout
  have hw : Region.wanted o (yielded (o :: ops).toArray (act n [] (ent l 0)).tmps) = true := by simp [Region.wanted, hg]
  have hgo := stepGR_op (P := P) (b := b) (a := act n [] (ent l 0)) (k := k) (cs := c₀ :: cs) (w := w) (rest := List.range' 1 ops.length) ho hw
  rw [hro, Oper.semAt_none] at hgo
  have hfin : ∀ v, (b.atR (act n [] (ent l 0)) (.inRegion (o :: ops).toArray (0 :: List.range' 1 ops.length) :: k)).finish v = b.atR ((act n [] (ent l 0)).put o.dst v) (.inRegion (o :: ops).toArray (List.range' 1 ops.length) :: k) := by
    intro v; rw [Frame.finish_atR, ho]; rfl
  have hr : (execOp (act n [] (ent l 0)).eval o).run P w = .ok .recover w := by rw [act_exec hino]; exact hrun
  have hk : (b.atR (act n [] (ent l 0)) (.inRegion (o :: ops).toArray (0 :: List.range' 1 ops.length) :: k)).kind = .deferred := hb'
  have htr := tryRecover_deferred hk (c₀ :: cs)
  have hput : (act n [] (ent l 0)).put o.dst v = act n [] (updO (ent l 0) o.dst v) := act_put (operIn_dst hino)
  have hstep : ArrivesIn (Machine.fenced P Fence.wide) P (lone (b.atR (act n [] (ent l 0)) (.inRegion (o :: ops).toArray (0 :: List.range' 1 ops.length) :: k)) (c₀ :: cs) w) b k cs' e a' w' := by
    refine .of_steps (.one h0 (step_lone_go ?_)) harr
    rw [hgo, ← hput, ← hfin]
    simp only [Frame.atR, hro] at htr ⊢
    rcases hrec with hrec | ⟨hrec, hv, hcs⟩
    · simp [stepG.apply, hr, htr, hrec]
    · simp [stepG.apply, hr, htr, hrec, hv, hcs]
  refine ⟨e, a', cs', w', by rw [hlen]; rfl, ?_, .of_steps (.one (fenced_calm hF hroom rfl) stepR_region) ?_⟩
  · cases e with
    | normal =>
      obtain ⟨ds', σ', rfl, hq⟩ := hq
      unfold thn at hq
      dsimp only at hq
      refine wpSIn_of_wpIn rfl ?_
      unfold WC at hq
      refine wpIn_mono (hq hin2) fun e a w' h => ?_
      rw [hlen]
      exact postS_of h
    | ret =>
      obtain ⟨x, y, hx, hy⟩ := hq
      unfold thn at hy
      rw [hlen]
      exact postS_of (e := .ret) ⟨x, y, hx, hy⟩
    | panic ch =>
      obtain ⟨x, y, hx, hy⟩ := hq
      unfold thn at hy
      rw [hlen]
      exact postS_of (e := .panic ch) ⟨x, y, hx, hy⟩
    | exit id =>
      obtain ⟨x, y, hx, hy⟩ := hq
      unfold thn at hy
      exact False.elim hy
    | goto l =>
      obtain ⟨x, y, hx, hy⟩ := hq
      unfold thn at hy
      exact False.elim hy
    | outgrown =>
      obtain ⟨x, y, hx, hy⟩ := hq
      unfold thn at hy
      exact False.elim hy
  · have e2 : List.range (o :: ops).toArray.size = 0 :: List.range' 1 ops.length := by
      rw [List.range_eq_range']; simp [List.range'_succ]
    rw [e2]
    exact hstep
theorem enterDR {f : FuncId} {id : Nat} {o : Oper} {ops : List Oper} {rest : Code} {l : List Value} {v : Value} {d : Nat}
    (hf : P.funcs[f]? = some fn) (hb : fn.body = some (.seq (.region id (o :: ops).toArray false) rest)) (hn : fn.ntmps = n)
    (hin : codeIn n false (.seq (.region id (o :: ops).toArray false) rest) = true) (hl : Nat.ble l.length n = true) (hg : o.guard = none) (hd : o.dst = some d)
    (hrun : (execOp (evl (ent l 0)) o).run P w = .ok .recover w) (hu : Recov u v u')
    (h : WL P n ⟨[], none⟩ (o :: ops).toArray (thn (fun c σ w => WC P n c rest (fpostD P n fn u' R) σ w) (fpostD P n fn u' R)) ops (real (updG (entG l 0) d ⟨v, true⟩)) w) :
    CallsDIn Fence.wide 0 P f l.toArray u w R := by
  refine enterD hf hb hn hin hl hg hrun hu ?_
  rw [hd]
  unfold updO
  dsimp only
  rw [real_ent, show v = rv ⟨v, true⟩ from rfl, real_upd]
  exact h
theorem fpD0 {ex : Exit} {c : Ctx} {σ : Env} (hex : ex = .ret ∨ ex = .normal) (hr : fn.results = #[]) (h : R (.returned (.tuple #[])) u w) (hd : c.ds = [] := by rfl) : fpostD P n fn u R ex c σ w := by
  rcases hex with rfl | rfl
  · exact ⟨hd, _, results_none hr _ _ _, h⟩
  · exact ⟨hd, _, results_none hr _ _ _, h⟩
/-- at a function's end, a deferred function -/
theorem leave_fn {d : Deferred} {ds : List Deferred} {tmps : Array Value} {R : Ending → World → Prop} {fv : Fn} {cap : Array Value} {f : FuncId} {args : Array Value} (hu : u ≠ .run) (ht : d.target = .fn fv cap)
    (hi : (invoke d.target d.args).run P w = .ok (.enter f args) w)
    (h : CallsDIn Fence.wide 0 P f args u w fun
      | .returned _, u', w' => LeavesInM Fence.wide 0 P fn tmps R ds (settle u') w'
      | .panicked chain, u', w' => LeavesInM Fence.wide 0 P fn tmps R ds (raised u' chain) w'
      | .outgrown, _, w' => R .outgrown w') : LeavesInM Fence.wide 0 P fn tmps R (d :: ds) u w :=
  ⟨hu, .inr ⟨fun h => by simp [Fence.wide] at h, fv, cap, f, args, ht, hi, fun _ _ => trivial, h⟩⟩
end
/-- a call that returns, or panics -/
def CallsP (P : Program) (f : FuncId) (args : Array Value) (w : World) (R : Value → World → Prop) (S : List PanicEntry → World → Prop) : Prop :=
  Calls P f args w fun e w' => (∃ v, e = .returned v ∧ R v w') ∨ ∃ ch, e = .panicked ch ∧ S ch w'
section
variable {P : Program} {n : Nat} {ds : Ctx} {ops : Array Oper} {Q : Exit → Ctx → Env → World → Prop} {rest : List Oper} {σ : GE} {w : World} {v : Value} {d : Nat} {ty : TypeId} {pos : String} {af : Array Edge}
theorem wlcallP {f : FuncId} [hf : Fnc P f] {args : List Operand} {ats : Array TypeId} {R : Value → World → Prop} {S : List PanicEntry → World → Prop}
    (hc : CallsP P f (args.map (evl (real σ))).toArray w R S) (h : ∀ v w', R v w' → WL P n ds ops Q rest (real (updG σ d ⟨v, true⟩)) w') (hp : ∀ ch w', S ch w' → Q (.panic ch) ds (real σ) w') :
    WL P n ds ops Q (⟨some d, .call ⟨.value (.func f), args.toArray, ats⟩, ty, pos, af, none⟩ :: rest) (real σ) w :=
  WL_enter (R := R) (S := S) (by simp [Region.wanted]) (run_call_func (real σ) (some d) args.toArray ats ty pos af none w) (by simpa [CallsP] using hc) (fun v w' hr => by have := h v w' hr; rw [← real_upd] at this; exact this) hp
/-- an operation that panics -/
theorem wlpanic {o : Oper} {w' : World} (hg : o.guard = none) (hrun : (execOp (evl (real σ)) o).run P w = .halt (.panic v) w') (h : Q (.panic [{ v := v, recovered := false }]) ds (real σ) w') :
    WL P n ds ops Q (o :: rest) (real σ) w :=
  WL_upon (by simp [Region.wanted, hg]) fun _ K _ _ => by rw [hrun]; exact ⟨ds.ds, _, rfl, h⟩
theorem wlmki {t : TypeId} {x : Operand} (h : WL P n ds ops Q rest (real (updG σ d ⟨.iface t v, true⟩)) w) (hc : P.concrete t = true) (hx : evl (real σ) x = v := by rfl) :
    WL P n ds ops Q (⟨some d, .makeInterface t x, ty, pos, af, none⟩ :: rest) (real σ) w := by
  refine wl h (Y.val ?_)
  simp only [execOp, hx]
  rw [Sem.run_bind, run_makeInterface (P := P) (w := w) t v hc]
  rfl
/-- the text's own panic -/
theorem wlpan {t : TypeId} {x : Operand} {od : Option Nat} (h : Q (.panic [{ v := .iface t v, recovered := false }]) ds (real σ) w) (hx : evl (real σ) x = .iface t v := by rfl) :
    WL P n ds ops Q (⟨od, .panic x, ty, pos, af, none⟩ :: rest) (real σ) w := by
  refine wlpanic (v := .iface t v) (w' := w) rfl ?_ h
  simp only [execOp, hx]
  rfl
end
/-- the entry of a function that may panic, and defers nothing -/
theorem enterP {P : Program} {n : Nat} {fn : Func} {R : Value → World → Prop} {S : List PanicEntry → World → Prop} {w : World} {f : FuncId} {c : Code} {l : List Value} (hf : P.funcs[f]? = some fn) (hb : fn.body = some c) (hn : fn.ntmps = n) (hin : codeIn n false c = true) (hl : Nat.ble l.length n = true)
    (h : WC P n ⟨[], none⟩ c (fpostE P n fn fun e w' => (∃ v, e = .returned v ∧ R v w') ∨ ∃ ch, e = .panicked ch ∧ S ch w') (real (entG l 0)) w) : CallsP P f l.toArray w R S := enterE hf hb hn hin hl h
section
variable {P : Program} {n : Nat} {fn : Func} {R : Value → World → Prop} {S : List PanicEntry → World → Prop} {w : World} {σ : Env} {ds : Ctx}
theorem fpP {ex : Exit} {c : Ctx} (hex : ex = .ret ∨ ex = .normal) (h : fpost P n fn R ex c σ w) (hd : c.ds = []) : fpostE P n fn (fun e w' => (∃ v, e = .returned v ∧ R v w') ∨ ∃ ch, e = .panicked ch ∧ S ch w') ex c σ w := by
  obtain ⟨dd, ro⟩ := c
  dsimp only at hd
  subst hd
  rcases hex with rfl | rfl
  · obtain ⟨v, hv, hR⟩ := h; exact ⟨v, hv, .inl hR⟩
  · obtain ⟨v, hv, hR⟩ := h; exact ⟨v, hv, .inl hR⟩
theorem fpPan {c : Ctx} {ch : List PanicEntry} (h : S ch w) (hd : c.ds = []) : fpostE P n fn (fun e w' => (∃ v, e = .returned v ∧ R v w') ∨ ∃ ch, e = .panicked ch ∧ S ch w') (.panic ch) c σ w := by
  obtain ⟨dd, ro⟩ := c
  dsimp only at hd
  subst hd
  exact .inr ⟨ch, rfl, h⟩
end
theorem wcutr {P : Program} {n : Nat} {ds : Ctx} {K : Ctx → Env → World → Prop} {Q : Exit → Ctx → Env → World → Prop} {σ : Env} {w : World} {a : Code} {X : Type} (sl : X → List (Nat × Value)) (I : X → World → Prop)
    (ha : WC P n ds a (thl ds (fun σ w => ∃ x, Has σ (sl x) ∧ I x w) Q) σ w) (hb : ∀ x w (ρ : GE), I x w → K ds (real (updGL ρ (sl x))) w) : WC P n ds a (thn K Q) σ w := by
  refine WC_mono ha ?_
  intro e c' σ' w' h
  unfold thl at h
  unfold thn
  cases e <;> try exact h
  obtain ⟨rfl, x, h1, h2⟩ := h
  have := hb x w' (lif σ') h2
  rw [← real_updL, updL_has h1] at this
  exact this
section
variable {P : Program} {n : Nat} {ds : Ctx} {ops : Array Oper} {Q : Exit → Ctx → Env → World → Prop} {rest : List Oper} {σ : GE} {w : World} {ty : TypeId} {pos : String} {af : Array Edge}
/-- a statement 'defer' of a function value -/
theorem wldefer {f : FuncId} {cap : List Value} {x : Operand} (h : WL P n ⟨⟨.fn (.func f) ⟨cap⟩, #[]⟩ :: ds.ds, ds.ro⟩ ops Q rest (real σ) w) (hx : evl (real σ) x = .func (.func f) #[] ⟨cap⟩ := by rfl) :
    WL P n ds ops Q (⟨none, .defer ⟨.value x, #[], #[]⟩, ty, pos, af, none⟩ :: rest) (real σ) w := by
  refine WL_defer (o := ⟨none, .defer ⟨.value x, #[], #[]⟩, ty, pos, af, none⟩) (w' := w) rfl ?_ h
  simp only [execOp, resolve, hx, Deferred.ofValue]
  simp
/-- at a function's end, a deferred function value -/
theorem leave_fv {fn : Func} {tmps : Array Value} {R : Ending → World → Prop} {u : FrameMode} {dl : List Deferred} {f : FuncId} [hf : Fnc P f] {cap : List Value} (hu : u ≠ .run)
    (h : CallsDIn Fence.wide 0 P f cap.toArray u w fun
      | .returned _, u', w' => LeavesInM Fence.wide 0 P fn tmps R dl (settle u') w'
      | .panicked chain, u', w' => LeavesInM Fence.wide 0 P fn tmps R dl (raised u' chain) w'
      | .outgrown, _, w' => R .outgrown w') : LeavesInM Fence.wide 0 P fn tmps R (⟨.fn (.func f) ⟨cap⟩, #[]⟩ :: dl) u w := by
  refine leave_fn (fv := .func f) (cap := ⟨cap⟩) (args := cap.toArray) hu rfl ?_ h
  have := run_callFunc (P := P) (f := f) cap.toArray w
  simpa [invoke] using this
theorem fp_panic {fn : Func} {R : Value → World → Prop} {ch : List PanicEntry} {σ : Env} (h : LeavesInM Fence.wide 0 P fn (act n ds.ds σ).tmps (fun e w' => ∃ v, e = .returned v ∧ R v w') ds.ds (.panicking ch) w) : fpost P n fn R (.panic ch) ds σ w := h
theorem fp_leave {fn : Func} {R : Value → World → Prop} {ex : Exit} {σ : Env} (hex : ex = .ret ∨ ex = .normal) (h : LeavesInM Fence.wide 0 P fn (act n ds.ds σ).tmps (fun e w' => ∃ v, e = .returned v ∧ R v w') ds.ds .returning w) : fpost P n fn R ex ds σ w := by
  rcases hex with rfl | rfl <;> exact h
/-- two results that lie in cells, a struct and a value -/
theorem leave_two {fn : Func} {R : Value → World → Prop} {dl : List Deferred} {σ : Env} {t1 t2 : Nat} {y1 y2 : TypeId} {b1 b2 : Nat} {l : List Value} {v zv : Value} {bytes : Nat} (hr : fn.results = #[.cell t1 y1, .cell t2 y2])
    (ht : (Nat.blt t1 n && Nat.blt t2 n) = true) (hp : σ t1 = .pointer (pb b1) ∧ σ t2 = .pointer (pb b2)) (o1 : Own w b1 l) (o2 : Own w b2 [v])
    [h1 : Agg P y1 true] [hi : Inf P y1 zv l.length bytes] [h2 : Agg P y2 false] (h : R (.tuple #[.agg l.toArray, v]) w) :
    LeavesInM Fence.wide 0 P fn (act n dl σ).tmps (fun e w' => ∃ v, e = .returned v ∧ R v w') [] .returning w := by
  simp only [Bool.and_eq_true] at ht
  obtain ⟨ht1, ht2⟩ := ht
  obtain ⟨p1, p2⟩ := hp
  obtain ⟨T1, o1⟩ := o1
  obtain ⟨T2, o2⟩ := o2
  have g : ∀ {t b : Nat}, Nat.blt t n = true → σ t = .pointer (pb b) → (act n dl σ).tmps[t]?.getD undef = .pointer (pb b) := fun {t b} ht hp => by
    have : (act n dl σ).tmps.getD t undef = .pointer (pb b) := by rw [act_getD ht]; exact hp
    simpa using this
  have c2 : w.cell? ⟨b2, 0, none⟩ = some v := by rw [cell_of_row w b2 0 _ _ _ o2]; rfl
  obtain ⟨dd, hd1, hd2⟩ := h1.ok
  obtain ⟨i, hi1, hi2, hi3, hi4⟩ := inf_size (P := P) (t := y1)
  have c1 := run_loadVar_row (P := P) w b1 T1 y1 l.toArray (0, 0) dd o1 hd1 (by revert hd2; cases dd <;> exact id) (by rw [hi1]; simp [hi3])
  refine ⟨.tuple #[.agg l.toArray, v], ?_, _, rfl, h⟩
  have c3 : (loadVar y2 ⟨b2, 0, none⟩).run P w = .ok v w := by
    simp [loadVar, run_isAgg (P := P) (t := y2), c2]
  simp [results, hr, g ht1 p1, g ht2 p2, asAddr, pb, c1, c3]
end
end Go.Sv

/-
  Regions that draw their order and write: what stands in the world is told by what has been carried out.
-/
set_option linter.unusedSimpArgs false
set_option linter.unusedVariables false
set_option linter.unnecessarySimpa false
namespace Go.Sv
open Go Go.RowKit

def fl (b : Array Bool) : Nat → Bool := fun k => b.getD k false
def on (L : Nat → Bool) (i : Nat) : Nat → Bool := fun k => match Nat.beq k i with | true => true | false => L k
theorem on_same (L : Nat → Bool) (i : Nat) : on L i i = true := by simp [on, Nat.beq_refl]
theorem on_ne (L : Nat → Bool) {i k : Nat} (h : k ≠ i) : on L i k = L k := by
  have : Nat.beq k i = false := by
    cases hb : Nat.beq k i
    · rfl
    · exact absurd (Nat.eq_of_beq_eq_true hb) h
  simp [on, this]
theorem fl_set {b : Array Bool} {i : Nat} (hi : i < b.size) : fl (b.setIfInBounds i true) = on (fl b) i := by
  funext k
  by_cases e : k = i
  · subst e; rw [on_same]; simp [fl, hi]
  · rw [on_ne _ e]; exact getD_set_ne false (Ne.symm e)
def bindsOn (o : Oper) (j : Nat) : Bool := o.after.toList.any fun e => Region.binds .any e && e.on == j
theorem bindsOn_iff {o : Oper} {j : Nat} : bindsOn o j = true ↔ ∃ e ∈ o.after, Region.binds .any e = true ∧ e.on = j := by
  simp only [bindsOn, List.any_eq_true, Bool.and_eq_true, beq_iff_eq, Array.mem_toList_iff]
def Clo (ops : Array Oper) (L : Nat → Bool) : Prop := ∀ j oj, ops[j]? = some oj → L j = true → ∀ i, bindsOn oj i = true → L i = true
/-- what is known when operation k comes up: it stands behind what it waits for, ahead of what waits for it -/
structure Up (ops : Array Oper) (o : Oper) (k : Nat) (L : Nat → Bool) : Prop where
  now : L k = false
  did : ∀ j, bindsOn o j = true → L j = true
  ahead : ∀ j oj, ops[j]? = some oj → bindsOn oj k = true → L j = false
/-- an operation yields v, and behind it T holds -/
def sees (P : Program) (T : World → Prop) (v : Value) : Result Next → Prop
  | .ok (.value u) w' => u = v ∧ T w'
  | .ok .skip w' => v = undef ∧ T w'
  | .ok (.enter f args) w' => Calls P f args w' (fun e w'' => e = .returned v ∧ T w'')
  | _ => False

section
variable {P : Program} {ops : Array Oper} {S : (Nat → Bool) → World → Prop}
def YA (P : Program) (ops : Array Oper) (S : (Nat → Bool) → World → Prop) (o : Oper) (k : Nat) (v : Value) (ev : Operand → Value) : Prop :=
  ∀ L w, Up ops o k L → S L w → sees P (S (on L k)) v ((execOp ev o).run P w)
def ZA (P : Program) (ops : Array Oper) (S : (Nat → Bool) → World → Prop) (o : Oper) (k : Nat) (v : Value) (a : Act) : Prop :=
  (Region.wanted o (yielded ops a.tmps) = true ∧ ∀ L w, Up ops o k L → S L w → sees P (S (on L k)) v ((execOp a.eval o).run P w)) ∨
  (Region.wanted o (yielded ops a.tmps) = false ∧ v = undef ∧ ∀ L w, Up ops o k L → S L w → S (on L k) w)
def gOp (P : Program) (ops : Array Oper) (S : (Nat → Bool) → World → Prop) (i : Nat) (K : Act → Prop) (a : Act) : Prop := ∃ o v, ops[i]? = some o ∧ ZA P ops S o i v a ∧ K (a.put o.dst v)
def wpG (P : Program) (ops : Array Oper) (S : (Nat → Bool) → World → Prop) (Qf : Act → Prop) : Nat → Array Bool → Act → Prop
  | 0, listed, a => Region.ready .any ops listed = [] ∧ (∀ k, k < ops.size → fl listed k = true) ∧ Qf a
  | f + 1, listed, a => Region.ready .any ops listed ≠ [] ∧ ∀ i ∈ Region.ready .any ops listed, gOp P ops S i (fun a' => wpG P ops S Qf f (listed.setIfInBounds i true) a') a

theorem clo_on {L : Nat → Bool} {i : Nat} {o : Oper} (hc : Clo ops L) (hi : ops[i]? = some o) (hd : ∀ j, bindsOn o j = true → L j = true) : Clo ops (on L i) := by
  intro j oj hj hL k hk
  by_cases e : j = i
  · subst e
    rw [hi] at hj
    cases hj
    have := hd k hk
    by_cases e2 : k = j
    · subst e2; exact on_same _ _
    · rw [on_ne _ e2]; exact this
  · rw [on_ne _ e] at hL
    have := hc j oj hj hL k hk
    by_cases e2 : k = i
    · subst e2; exact on_same _ _
    · rw [on_ne _ e2]; exact this

theorem wpAny_of_G {Q : Exit → Act → World → Prop} {Qf : Act → Prop} (hQ : ∀ a L w, Qf a → (∀ k, k < ops.size → L k = true) → S L w → Q .normal a w) :
    ∀ (f : Nat) (listed : Array Bool) (a : Act) (w : World), listed.size = ops.size → Clo ops (fl listed) → S (fl listed) w → wpG P ops S Qf f listed a → wpAny P .any ops Q f listed a w
  | 0, listed, a, w, _, _, hS, h => ⟨h.1, hQ _ _ _ h.2.2 h.2.1 hS⟩
  | f + 1, listed, a, w, hsz, hc, hS, h => by
    refine ⟨fun h0 => absurd h0 h.1, fun i hi => ?_⟩
    obtain ⟨o, v, ho, hz, hK⟩ := h.2 i hi
    obtain ⟨h0, o', ho', hall⟩ := mem_ready.1 hi
    rw [ho] at ho'
    cases ho'
    have hlt : i < listed.size := by rw [hsz]; exact (Array.getElem?_eq_some_iff.1 ho).1
    have hup : Up ops o i (fl listed) := by
      refine ⟨?_, ?_, ?_⟩
      · show listed.getD i false = false
        simp only [Array.getD_eq_getD_getElem?, hlt, Array.getElem?_eq_getElem, Option.getD_some] at h0 ⊢
        exact h0
      · intro j hj
        obtain ⟨e, he, hb, rfl⟩ := bindsOn_iff.1 hj
        exact hall e he hb
      · intro j oj hj hb
        cases hL : fl listed j with
        | false => rfl
        | true =>
          have h1 := hc j oj hj hL i hb
          have h2 : fl listed i = true := h1
          simp only [fl, Array.getD_eq_getD_getElem?, hlt, Array.getElem?_eq_getElem, Option.getD_some] at h0 h2
          rw [h0] at h2
          cases h2
    have next : ∀ w', S (on (fl listed) i) w' → wpAny P .any ops Q f (listed.setIfInBounds i true) (a.put o.dst v) w' := fun w' hw' =>
      wpAny_of_G hQ f _ _ _ (by simpa using hsz) (by rw [fl_set hlt]; exact clo_on hc ho hup.did) (by rw [fl_set hlt]; exact hw') hK
    unfold wpOp
    simp only [ho]
    rcases hz with ⟨hw, hy⟩ | ⟨hw, rfl, hs⟩
    · rw [hw, if_pos rfl]
      refine .inl ?_
      unfold Oper.wp
      have hy := hy _ _ hup hS
      generalize (execOp a.eval o).run P w = r at *
      cases r with
      | ok x w' =>
        cases x <;> simp only [sees] at hy <;> simp only [Oper.upon]
        case value u =>
          obtain ⟨rfl, h2⟩ := hy
          exact next _ h2
        case skip =>
          obtain ⟨rfl, h2⟩ := hy
          exact next _ h2
        case enter g args =>
          refine Calls.mono hy ?_
          rintro e w'' ⟨rfl, h2⟩
          exact next _ h2
      | halt x w' => simp only [sees] at hy
    · rw [hw, if_neg Bool.false_ne_true]
      exact next _ (hs _ _ hup hS)

theorem ZA.of_same {o : Oper} {k : Nat} {v : Value} {a a' : Act} (hy : ZA P ops S o k v a) (he : execOp a'.eval o = execOp a.eval o)
    (hw : Region.wanted o (yielded ops a'.tmps) = Region.wanted o (yielded ops a.tmps)) : ZA P ops S o k v a' := by
  unfold ZA at *
  rw [he, hw]
  exact hy
theorem gOp_put {i j : Nat} {oi oj : Oper} {v : Value} (hj : ops[j]? = some oj) (hap : oi.apart ops oj = true)
    (hsi : ∀ cs b, oi.op ≠ .select cs b) (hsj : ∀ cs b, oj.op ≠ .select cs b) {K : Act → Prop} {a : Act}
    (hy : ZA P ops S oi i v a) (h : gOp P ops S j K (a.put oi.dst v)) : gOp P ops S j (fun a' => ZA P ops S oi i v a' ∧ K (a'.put oi.dst v)) a := by
  obtain ⟨h1, h2, h3⟩ := Oper.apart_spec hap
  obtain ⟨o, u, ho, hz, hK⟩ := h
  rw [hj] at ho
  cases ho
  refine ⟨oj, u, hj, hz.of_same (execOp_put oj hsj a oi.dst v h1).symm (wanted_put oj a oi.dst v h1).symm, hy.of_same (execOp_put oi hsi a oj.dst u h3) (wanted_put oi a oj.dst u h3), ?_⟩
  rw [← Act.put_comm a v u h2]
  exact hK
theorem gOp_mono {i : Nat} {K K' : Act → Prop} {a : Act} (h : ∀ a, K a → K' a) (hh : gOp P ops S i K a) : gOp P ops S i K' a := by
  obtain ⟨o, v, ho, hz, hK⟩ := hh
  exact ⟨o, v, ho, hz, h _ hK⟩
theorem wpG_first {Qf : Act → Prop} {i : Nat} {oi : Oper} {v : Value} (hi : ops[i]? = some oi) (hsel : ∀ (j : Nat) (o : Oper) cs b, ops[j]? = some o → o.op ≠ .select cs b) :
    ∀ (f : Nat) (listed : Array Bool) (a : Act),
      (∀ j oj, ops[j]? = some oj → j ≠ i → listed.getD j true = false → (∀ e ∈ oj.after, Region.binds .any e = true → e.on ≠ i) → oi.apart ops oj = true) →
      i ∈ Region.ready .any ops listed → ZA P ops S oi i v a →
      wpG P ops S Qf f (listed.setIfInBounds i true) (a.put oi.dst v) → wpG P ops S Qf (f + 1) listed a := by
  intro f
  induction f with
  | zero =>
    intro listed a _ hr hy H
    refine ⟨fun h => (by rw [h] at hr; cases hr), fun j hj => ?_⟩
    by_cases hji : j = i
    · subst hji; exact ⟨oi, v, hi, hy, H⟩
    · have := ready_mono hj hji
      rw [H.1] at this
      cases this
  | succ f ih =>
    intro listed a hfree hr hy H
    refine ⟨fun h => (by rw [h] at hr; cases hr), fun j hj => ?_⟩
    by_cases hji : j = i
    · subst hji; exact ⟨oi, v, hi, hy, H⟩
    · have h1 := H.2 j (ready_mono hj hji)
      obtain ⟨hjun, oj, hoj, hall⟩ := mem_ready.1 hj
      have hnot : ∀ e ∈ oj.after, Region.binds .any e = true → e.on ≠ i := fun e he hb heq => by
        have h1 := hall e he hb
        have h0 := (mem_ready.1 hr).1
        rw [heq] at h1
        rcases Nat.lt_or_ge i listed.size with h' | h'
        · simp [h'] at h0 h1; rw [h0] at h1; cases h1
        · simp [Array.getElem?_eq_none h'] at h1
      have h2 := gOp_put hoj (hfree j oj hoj hji hjun hnot) (fun cs b => hsel i oi cs b hi) (fun cs b => hsel j oj cs b hoj) hy h1
      have hfree' : ∀ k ok, ops[k]? = some ok → k ≠ i → (listed.setIfInBounds j true).getD k true = false →
          (∀ e ∈ ok.after, Region.binds .any e = true → e.on ≠ i) → oi.apart ops ok = true := fun k ok hk hki hun hno => by
        refine hfree k ok hk hki ?_ hno
        by_cases hjk : j = k
        · subst hjk; exact hjun
        · rw [getD_set_ne true hjk] at hun; exact hun
      refine gOp_mono (fun a' h3 => ih (listed.setIfInBounds j true) a' hfree' (ready_mono hr (Ne.symm hji)) h3.1 ?_) h2
      rw [Array.setIfInBounds_comm _ _ hji]
      exact h3.2

/-- the lexical walk -/
def QS (P : Program) (ops : Array Oper) (S : (Nat → Bool) → World → Prop) (Qf : Env → Prop) : Nat → List Oper → Env → Prop
  | _, [], σ => Qf σ
  | k, o :: l, σ => ∃ v, ((Region.wanted o (yl ops σ) = true ∧ YA P ops S o k v (evl σ)) ∨ (Region.wanted o (yl ops σ) = false ∧ v = undef ∧ ∀ L w, Up ops o k L → S L w → S (on L k) w)) ∧ QS P ops S Qf (k + 1) l (updO σ o.dst v)
theorem wpG_lex {n : Nat} {dd : List Deferred} {Qf : Env → Prop} (hs : Region.noSelect ops = true) : ∀ (l : List Oper) (k : Nat) (listed : Array Bool) (σ : Env), (∀ j, l[j]? = ops[k + j]?) → listed.size = ops.size → (∀ j, j < k → fl listed j = true) → k + l.length = ops.size →
    Region.lexFrom .any ops l.length k listed = true → l.all (operIn n false ops) = true → QS P ops S Qf k l σ → wpG P ops S (fun a => ∃ σ', a = act n dd σ' ∧ Qf σ') l.length listed (act n dd σ)
  | [], k, listed, σ, _, _, hd, hk, hB, _, h => ⟨by simpa [Region.lexFrom] using hB, fun j hj => hd j (by simp only [List.length_nil] at hk; omega), σ, rfl, h⟩
  | o :: l, k, listed, σ, hl, hsz, hd, hk, hB, hin, h => by
    have h0 : ops[k]? = some o := by simpa using (hl 0).symm
    have hlt : k < listed.size := by rw [hsz]; exact (Array.getElem?_eq_some_iff.1 h0).1
    simp only [List.length_cons, Region.lexFrom, Bool.and_eq_true] at hB
    obtain ⟨⟨hr, hf⟩, hB'⟩ := hB
    simp only [List.all_cons, Bool.and_eq_true] at hin
    obtain ⟨v, hy, hK⟩ := h
    refine wpG_first (v := v) h0 (Region.noSelect_spec hs) l.length listed _ (Region.free_spec h0 hf) (by simpa using hr) ?_ ?_
    · unfold ZA
      rw [act_yielded hin.1, act_exec hin.1]
      exact hy
    · rw [act_put (operIn_dst hin.1)]
      refine wpG_lex hs l (k + 1) _ _ (fun j => by have := hl (j + 1); simpa [Nat.add_assoc, Nat.add_comm 1 j] using this) (by simpa using hsz) (fun j hj => ?_) (by simp only [List.length_cons] at hk; omega) hB' hin.2 hK
      rw [fl_set hlt]
      by_cases e : j = k
      · subst e; exact on_same _ _
      · rw [on_ne _ e]; exact hd j (by omega)
end
section
variable {P : Program} {n : Nat} {ds : Ctx} {Q : Exit → Ctx → Env → World → Prop} {S : (Nat → Bool) → World → Prop} {σ : Env} {w : World}
theorem WC_drawS [hm : Mix P] {id : Nat} {ops : List Oper} (hro : ds.ro = none) (hB : Region.lexB .any ops.toArray = true) (h0 : ∀ wd, Frm w wd → S (fun _ => false) wd)
    (h : QS P ops.toArray S (fun σ' => ∀ L w', (∀ k, k < ops.length → L k = true) → S L w' → Q .normal ds σ' w') 0 ops σ) : WC P n ds (.region id ops.toArray true) Q σ w := by
  obtain ⟨dd, ro⟩ := ds
  dsimp only at hro
  subst hro
  unfold WC
  intro hin
  have hin' : ops.all (operIn n false ops.toArray) = true := by simpa [codeIn] using hin
  simp only [Region.lexB, Bool.and_eq_true] at hB
  refine wpIn_wide.2 (wp_region_any hm.ok ?_)
  have e0 : fl (Array.replicate ops.toArray.size false) = fun _ => false := by funext k; exact getD_replicate_false _ _
  refine wpAny_of_G (S := S) (Qf := fun a => ∃ σ', a = act n dd σ' ∧ ∀ L w', (∀ k, k < ops.length → L k = true) → S L w' → Q .normal ⟨dd, none⟩ σ' w') ?_ _ _ _ _ (by simp) ?_ ?_ ?_
  · rintro a L w' ⟨σ', rfl, hq⟩ hL hS
    exact ⟨dd, σ', rfl, hq L w' (by simpa using hL) hS⟩
  · rw [e0]; intro j oj _ hL; cases hL
  · rw [e0]; exact h0 _ (Frm.drawn (Frm.refl w))
  · have := wpG_lex (dd := dd) (n := n) hB.1 ops 0 (Array.replicate ops.toArray.size false) σ (by simp) (by simp) (by omega) (by simp) (by simpa using hB.2) hin' h
    simpa using this
end

/-! ## The rules as a script meets them -/
section
variable {P : Program} {n : Nat} {ds : Ctx} {ops : Array Oper} {Q : Exit → Ctx → Env → World → Prop} {S : (Nat → Bool) → World → Prop} {Qf : Env → Prop} {rest : List Oper} {σ : GE} {w : World} {v : Value} {d k : Nat} {op : Op} {ty : TypeId} {pos : String} {af : Array Edge} {nd : Bool}
theorem wcdraws [hm : Mix P] {id : Nat} {ops : List Oper} (S : (Nat → Bool) → World → Prop) (h0 : ∀ wd, Frm w wd → S (fun _ => false) wd)
    (h : QS P ops.toArray S (fun σ' => ∀ L w', (∀ k, k < ops.length → L k = true) → S L w' → Q .normal ds σ' w') 0 ops (real σ)) (hB : Region.lexB .any ops.toArray = true := by kernel_rfl) (hro : ds.ro = none := by rfl) : WC P n ds (.region id ops.toArray true) Q (real σ) w :=
  WC_drawS hro hB h0 h
theorem qs_nil (h : Qf (real σ)) : QS P ops S Qf k [] (real σ) := h
theorem sees_of_Y {ev : Env} {o : Oper} {w w' : World} {T : World → Prop} (hy : Y P ev o w v w') (hT : T w') : sees P T v ((execOp (evl ev) o).run P w) := by
  unfold Y at hy
  rcases hy with hy | ⟨hy, hv⟩
  · rw [hy]; exact ⟨rfl, hT⟩
  · rw [hy]; exact ⟨hv, hT⟩
/-- an operation that leaves the world alone -/
theorem qsy (h : QS P ops S Qf (k + 1) rest (real (updG σ d ⟨v, true⟩))) (hy : ∀ L w, Up ops ⟨some d, op, ty, pos, af, none⟩ k L → S L w → Y P (real σ) ⟨some d, op, ty, pos, af, none⟩ w v w) (hi : ∀ L w, S L w → S (on L k) w := by exact fun _ _ h => h) :
    QS P ops S Qf k (⟨some d, op, ty, pos, af, none⟩ :: rest) (real σ) :=
  ⟨v, .inl ⟨by simp [Region.wanted], fun L w hu hs => sees_of_Y (hy L w hu hs) (hi L w hs)⟩, by rw [← real_upd] at h; exact h⟩
theorem qsp (h : QS P ops S Qf (k + 1) rest (real (updG σ d ⟨v, true⟩))) (he : ev1 σ op = some ⟨v, nd⟩ := by rfl) (hn : nd = true := by first | with_reducible rfl | with_reducible exact Go.Sv.tt | with_reducible exact Go.Sv.pk_or _ | with_reducible exact Go.Sv.pk_and _ | with_reducible exact Go.Sv.pk_tt _) (hi : ∀ L w, S L w → S (on L k) w := by exact fun _ _ h => h) :
    QS P ops S Qf k (⟨some d, op, ty, pos, af, none⟩ :: rest) (real σ) := qsy h (fun _ _ _ _ => ev1_ok he hn) hi
/-- .. and yields the same in whatever world -/
theorem qsq (h : QS P ops S Qf (k + 1) rest (real (updG σ d ⟨v, true⟩))) (hy : ∀ w, Y P (real σ) ⟨some d, op, ty, pos, af, none⟩ w v w) (hi : ∀ L w, S L w → S (on L k) w := by exact fun _ _ h => h) :
    QS P ops S Qf k (⟨some d, op, ty, pos, af, none⟩ :: rest) (real σ) := qsy h (fun _ w _ _ => hy w) hi
theorem qs_fld {t : TypeId} {x : Operand} {i : Nat} (h : QS P ops S Qf (k + 1) rest (real (updG σ d ⟨v, true⟩))) (hy : ∀ w, Y P (real σ) ⟨some d, .fieldAddr t x i, ty, pos, af, none⟩ w v w := by
    intro wq
    exact y_field rfl (by first | exact ⟨_, rfl⟩ | assumption | exact Im.some (by assumption) (by (try simp only [Go.Sv.bs_length]); omega) | exact Im.some (by assumption) (by simp; omega)) (by decide)) (hi : ∀ L w, S L w → S (on L k) w := by exact fun _ _ h => h) :
    QS P ops S Qf k (⟨some d, .fieldAddr t x i, ty, pos, af, none⟩ :: rest) (real σ) := qsq h hy hi
/-- a load of one cell -/
theorem qs_load {t : TypeId} {x : Operand} {p : Option Addr} {i : Nat} [ha : Agg P t false] (l : (Nat → Bool) → List Value) (h : QS P ops S Qf (k + 1) rest (real (updG σ d ⟨v, true⟩)))
    (hs : ∀ L w, S L w → Sg w p (l L)) (hv : ∀ L, Up ops ⟨some d, .load t x, ty, pos, af, none⟩ k L → (l L)[i]? = some v := by intro L hu; rfl) (hx : evl (real σ) x = ptrAt p i := by rfl) (hi : ∀ L w, S L w → S (on L k) w := by exact fun _ _ h => h) :
    QS P ops S Qf k (⟨some d, .load t x, ty, pos, af, none⟩ :: rest) (real σ) := qsy h (fun L w hu hsw => y_load hx (hs L w hsw) (hv L hu)) hi
end
end Go.Sv
namespace Go.Sv
attribute [irreducible] QS
end Go.Sv

/-
  For each kind of operation that does not look at the world, a rule for regions that draw and write.
-/
set_option linter.unusedSimpArgs false
set_option linter.unusedVariables false
set_option linter.unnecessarySimpa false
namespace Go.Sv
open Go Go.RowKit
section
variable {P : Program} {ops : Array Oper} {S : (Nat → Bool) → World → Prop} {Qf : Env → Prop} {rest : List Oper} {σ : GE} {w : World} {v : Value} {d k : Nat} {ty : TypeId} {pos : String} {af : Array Edge}

theorem qs_idxa {t : TypeId} {x y : Operand} (h : QS P ops S Qf (k + 1) rest (real (updG σ d ⟨v, true⟩))) (hy : ∀ w, Y P (real σ) ⟨some d, .indexAddr t x y, ty, pos, af, none⟩ w v w := by
    intro wq
    first
    | exact y_idx1 rfl rfl (by omega) (by first | exact ⟨_, rfl⟩ | assumption | exact Im.some (by assumption) (by (try simp only [Go.Sv.bs_length]); omega) | exact Im.some (by assumption) (by simp; omega))
    | exact y_idx1I rfl rfl (by omega) (by first | exact ⟨_, rfl⟩ | assumption | exact Im.some (by assumption) (by (try simp only [Go.Sv.bs_length]); omega) | exact Im.some (by assumption) (by simp; omega))
    | exact y_idx rfl rfl (by omega) (by first | exact ⟨_, rfl⟩ | assumption | exact Im.some (by assumption) (by (try simp only [Go.Sv.bs_length]); omega) | exact Im.some (by assumption) (by simp; omega))
    | exact y_idxI rfl rfl (by omega) (by first | exact ⟨_, rfl⟩ | assumption | exact Im.some (by assumption) (by (try simp only [Go.Sv.bs_length]); omega) | exact Im.some (by assumption) (by simp; omega))) (hinv : ∀ L w, S L w → S (on L k) w := by exact fun _ _ h => h) :
    QS P ops S Qf k (⟨some d, .indexAddr t x y, ty, pos, af, none⟩ :: rest) (real σ) := qsq h hy hinv
theorem qs_slc {t : TypeId} {x : Operand} {lo hi mx : Option Operand} (h : QS P ops S Qf (k + 1) rest (real (updG σ d ⟨v, true⟩))) (hy : ∀ w, Y P (real σ) ⟨some d, .slice t x lo hi mx, ty, pos, af, none⟩ w v w := by
    intro wq
    first
    | exact y_sslice_from rfl rfl (by omega)
    | exact y_sslice_to rfl rfl (by omega)
    | exact y_sslice rfl rfl rfl (by omega)
    | exact y_rslice_from1 rfl rfl (by omega)
    | exact y_rslice_from rfl rfl (by omega)
    | exact y_rslice_to rfl rfl (by omega)
    | exact y_rslice1 rfl rfl rfl (by omega)
    | exact y_rslice rfl rfl rfl (by omega)
    | exact y_rslice3 rfl rfl rfl (by omega)
    | exact y_sslice_fromI rfl rfl (by omega)
    | exact y_sslice_toI rfl rfl (by omega)
    | exact y_ssliceI rfl rfl rfl (by omega)
    | exact y_rslice_fromI rfl rfl (by omega)
    | exact y_rslice_toI rfl rfl (by omega)) (hinv : ∀ L w, S L w → S (on L k) w := by exact fun _ _ h => h) :
    QS P ops S Qf k (⟨some d, .slice t x lo hi mx, ty, pos, af, none⟩ :: rest) (real σ) := qsq h hy hinv
theorem qs_idx {t : TypeId} {x y : Operand} (h : QS P ops S Qf (k + 1) rest (real (updG σ d ⟨v, true⟩))) (hy : ∀ w, Y P (real σ) ⟨some d, .index t x y, ty, pos, af, none⟩ w v w := by
    intro wq
    first
    | exact y_sindexN rfl rfl (by omega)
    | exact y_sindexI rfl rfl (by omega)) (hinv : ∀ L w, S L w → S (on L k) w := by exact fun _ _ h => h) :
    QS P ops S Qf k (⟨some d, .index t x y, ty, pos, af, none⟩ :: rest) (real σ) := qsq h hy hinv
theorem qs_bin {bop : BinOp} {t t2 : TypeId} {x y : Operand} (h : QS P ops S Qf (k + 1) rest (real (updG σ d ⟨v, true⟩))) (hy : ∀ w, Y P (real σ) ⟨some d, .binOp bop t x y t2, ty, pos, af, none⟩ w v w := by
    intro wq
    first
    | exact y_add64 rfl rfl (by omega)
    | exact y_sub64 rfl rfl (by omega)
    | exact y_sadd rfl rfl (by (try simp only [List.length_append, List.length_cons, List.length_nil, List.length_take, List.length_drop]); omega)
    | exact y_and rfl rfl
    | exact y_or rfl rfl
    | exact y_shr rfl rfl (by omega)
    | exact y_shl rfl rfl (by omega)
    | exact y_add32 rfl rfl (by omega)
    | exact y_sub32 rfl rfl (by omega)
    | exact y_add8 rfl rfl (by omega)
    | exact y_sub8 rfl rfl (by omega)
    | exact y_mul64 rfl rfl (by omega)
    | exact y_mul32 rfl rfl (by omega)
    | exact y_rem rfl rfl (by omega)
    | exact y_quo rfl rfl (by simp only [Go.IntKind.max, Go.IntKind.signed, Go.IntKind.bits]; omega)
    | exact y_xor rfl rfl
    | exact y_beql rfl rfl
    | exact y_bneq rfl rfl) (hinv : ∀ L w, S L w → S (on L k) w := by exact fun _ _ h => h) :
    QS P ops S Qf k (⟨some d, .binOp bop t x y t2, ty, pos, af, none⟩ :: rest) (real σ) := qsq h hy hinv
theorem qs_cnv {t t2 : TypeId} {x : Operand} (h : QS P ops S Qf (k + 1) rest (real (updG σ d ⟨v, true⟩))) (hy : ∀ w, Y P (real σ) ⟨some d, .convert t t2 x, ty, pos, af, none⟩ w v w := by
    intro wq
    first
    | exact y_conv_b32 rfl
    | exact y_conv_b64 rfl
    | exact y_conv8_32 rfl (by omega)
    | exact y_conv8_64 rfl (by omega)
    | exact y_conv32_8 rfl (by omega)
    | exact y_conv64_8 rfl (by omega)
    | exact y_conv32_64 rfl (by omega)
    | exact y_conv64_64 rfl (by omega)
    | exact y_conv64_32 rfl (by omega)
    | exact y_conv32_32 rfl (by omega)
    | exact y_conv_str rfl
    | exact y_conv rfl) (hinv : ∀ L w, S L w → S (on L k) w := by exact fun _ _ h => h) :
    QS P ops S Qf k (⟨some d, .convert t t2 x, ty, pos, af, none⟩ :: rest) (real σ) := qsq h hy hinv
theorem qs_len {args : Array Operand} {ats : Array TypeId} (h : QS P ops S Qf (k + 1) rest (real (updG σ d ⟨v, true⟩))) (hy : ∀ w, Y P (real σ) ⟨some d, .call ⟨.builtin .len, args, ats⟩, ty, pos, af, none⟩ w v w := by
    intro wq
    first
    | exact y_slen rfl rfl
    | exact y_len rfl rfl) (hinv : ∀ L w, S L w → S (on L k) w := by exact fun _ _ h => h) :
    QS P ops S Qf k (⟨some d, .call ⟨.builtin .len, args, ats⟩, ty, pos, af, none⟩ :: rest) (real σ) := qsq h hy hinv
theorem qs_una {uop : UnOp} {t : TypeId} {x : Operand} (h : QS P ops S Qf (k + 1) rest (real (updG σ d ⟨v, true⟩))) (hy : ∀ w, Y P (real σ) ⟨some d, .unOp uop t x, ty, pos, af, none⟩ w v w := by
    intro wq
    first
    | exact y_neg rfl) (hinv : ∀ L w, S L w → S (on L k) w := by exact fun _ _ h => h) :
    QS P ops S Qf k (⟨some d, .unOp uop t x, ty, pos, af, none⟩ :: rest) (real σ) := qsq h hy hinv
theorem qs_nilc {x : Operand} (h : QS P ops S Qf (k + 1) rest (real (updG σ d ⟨v, true⟩))) (hy : ∀ w, Y P (real σ) ⟨some d, .nilCheck x, ty, pos, af, none⟩ w v w := by
    intro wq
    first
    | exact y_nilcheckp rfl (by first | exact ⟨_, rfl⟩ | assumption | exact Im.some (by assumption) (by (try simp only [Go.Sv.bs_length]); omega) | exact Im.some (by assumption) (by simp; omega))
    | exact y_nilcheck rfl) (hinv : ∀ L w, S L w → S (on L k) w := by exact fun _ _ h => h) :
    QS P ops S Qf k (⟨some d, .nilCheck x, ty, pos, af, none⟩ :: rest) (real σ) := qsq h hy hinv
end
end Go.Sv

