/-
  The rules as a script meets them.
-/
import Derived.Test.YtffaoehhhdcjjaaSvOps
set_option linter.unusedSimpArgs false
set_option linter.unusedVariables false
set_option linter.unnecessarySimpa false
namespace Go.Sv
open Go Go.RowKit

/-- a function that answers one value and leaves what was there -/
def PureC (P : Program) (f : FuncId) (args : Array Value) (w : World) (v : Value) : Prop := CallsR P f args w fun u w' => u = v ∧ Frm w w'

section
variable {P : Program} {σ : Env} {w : World} {d : Option Tmp} {ty t t' : TypeId} {pos : String} {af : Array Edge} {g : Option (Nat × Bool)} {x y z : Operand} {a b : Int}
theorem y_add64 (hx : evl σ x = .int .i64 a) (hy : evl σ y = .int .i64 b) (h : -9223372036854775808 ≤ a + b ∧ a + b ≤ 9223372036854775807) : Y P σ ⟨d, .binOp .add t x y t', ty, pos, af, g⟩ w (.int .i64 (a + b)) w := y_add hx hy h
theorem y_sub64 (hx : evl σ x = .int .i64 a) (hy : evl σ y = .int .i64 b) (h : -9223372036854775808 ≤ a - b ∧ a - b ≤ 9223372036854775807) : Y P σ ⟨d, .binOp .sub t x y t', ty, pos, af, g⟩ w (.int .i64 (a - b)) w := y_sub hx hy h
theorem y_mul64 (hx : evl σ x = .int .i64 a) (hy : evl σ y = .int .i64 b) (h : -9223372036854775808 ≤ a * b ∧ a * b ≤ 9223372036854775807) : Y P σ ⟨d, .binOp .mul t x y t', ty, pos, af, g⟩ w (.int .i64 (a * b)) w := y_mul hx hy h
theorem y_add32 (hx : evl σ x = .int .i32 a) (hy : evl σ y = .int .i32 b) (h : -2147483648 ≤ a + b ∧ a + b ≤ 2147483647) : Y P σ ⟨d, .binOp .add t x y t', ty, pos, af, g⟩ w (.int .i32 (a + b)) w := y_add hx hy h
theorem y_sub32 (hx : evl σ x = .int .i32 a) (hy : evl σ y = .int .i32 b) (h : -2147483648 ≤ a - b ∧ a - b ≤ 2147483647) : Y P σ ⟨d, .binOp .sub t x y t', ty, pos, af, g⟩ w (.int .i32 (a - b)) w := y_sub hx hy h
theorem y_mul32 (hx : evl σ x = .int .i32 a) (hy : evl σ y = .int .i32 b) (h : -2147483648 ≤ a * b ∧ a * b ≤ 2147483647) : Y P σ ⟨d, .binOp .mul t x y t', ty, pos, af, g⟩ w (.int .i32 (a * b)) w := y_mul hx hy h
theorem y_add8 (hx : evl σ x = .int .u8 a) (hy : evl σ y = .int .u8 b) (h : 0 ≤ a + b ∧ a + b ≤ 255) : Y P σ ⟨d, .binOp .add t x y t', ty, pos, af, g⟩ w (.int .u8 (a + b)) w := y_add hx hy h
theorem y_sub8 (hx : evl σ x = .int .u8 a) (hy : evl σ y = .int .u8 b) (h : 0 ≤ a - b ∧ a - b ≤ 255) : Y P σ ⟨d, .binOp .sub t x y t', ty, pos, af, g⟩ w (.int .u8 (a - b)) w := y_sub hx hy h
theorem y_conv_b32 [hu : Und P t (.int .u8)] [hu' : Und P t' (.int .i32)] {c : UInt8} (hx : evl σ x = byt c.toNat) : Y P σ ⟨d, .convert t t' x, ty, pos, af, g⟩ w (i32 c.toNat) w :=
  y_conv_in hx (by have := UInt8.toNat_lt c; simp [IntKind.min, IntKind.max, IntKind.signed, IntKind.bits]; omega)
theorem y_conv_b64 [hu : Und P t (.int .u8)] [hu' : Und P t' (.int .i64)] {c : UInt8} (hx : evl σ x = byt c.toNat) : Y P σ ⟨d, .convert t t' x, ty, pos, af, g⟩ w (int c.toNat) w :=
  y_conv_in hx (by have := UInt8.toNat_lt c; simp [IntKind.min, IntKind.max, IntKind.signed, IntKind.bits]; omega)
theorem y_conv8_32 [hu : Und P t (.int .u8)] [hu' : Und P t' (.int .i32)] (hx : evl σ x = byt a) (h : 0 ≤ a ∧ a ≤ 255) : Y P σ ⟨d, .convert t t' x, ty, pos, af, g⟩ w (i32 a) w :=
  y_conv_in hx (by simp [IntKind.min, IntKind.max, IntKind.signed, IntKind.bits]; omega)
theorem y_conv8_64 [hu : Und P t (.int .u8)] [hu' : Und P t' (.int .i64)] (hx : evl σ x = byt a) (h : 0 ≤ a ∧ a ≤ 255) : Y P σ ⟨d, .convert t t' x, ty, pos, af, g⟩ w (int a) w :=
  y_conv_in hx (by simp [IntKind.min, IntKind.max, IntKind.signed, IntKind.bits]; omega)
theorem y_conv32_8 [hu : Und P t (.int .i32)] [hu' : Und P t' (.int .u8)] (hx : evl σ x = i32 a) (h : 0 ≤ a ∧ a ≤ 255) : Y P σ ⟨d, .convert t t' x, ty, pos, af, g⟩ w (byt a) w :=
  y_conv_in hx (by simp [IntKind.min, IntKind.max, IntKind.signed, IntKind.bits]; omega)
theorem y_conv64_8 [hu : Und P t (.int .i64)] [hu' : Und P t' (.int .u8)] (hx : evl σ x = int a) (h : 0 ≤ a ∧ a ≤ 255) : Y P σ ⟨d, .convert t t' x, ty, pos, af, g⟩ w (byt a) w :=
  y_conv_in hx (by simp [IntKind.min, IntKind.max, IntKind.signed, IntKind.bits]; omega)
theorem y_conv32_64 [hu : Und P t (.int .i32)] [hu' : Und P t' (.int .i64)] (hx : evl σ x = i32 a) (h : -2147483648 ≤ a ∧ a ≤ 2147483647) : Y P σ ⟨d, .convert t t' x, ty, pos, af, g⟩ w (int a) w :=
  y_conv_in hx (by simp [IntKind.min, IntKind.max, IntKind.signed, IntKind.bits]; omega)
theorem y_conv64_64 [hu : Und P t (.int .i64)] [hu' : Und P t' (.int .i64)] (hx : evl σ x = int a) (h : -9223372036854775808 ≤ a ∧ a ≤ 9223372036854775807) : Y P σ ⟨d, .convert t t' x, ty, pos, af, g⟩ w (int a) w :=
  y_conv_in hx (by simp [IntKind.min, IntKind.max, IntKind.signed, IntKind.bits]; omega)
theorem y_conv64_32 [hu : Und P t (.int .i64)] [hu' : Und P t' (.int .i32)] (hx : evl σ x = int a) (h : -2147483648 ≤ a ∧ a ≤ 2147483647) : Y P σ ⟨d, .convert t t' x, ty, pos, af, g⟩ w (i32 a) w :=
  y_conv_in hx (by simp [IntKind.min, IntKind.max, IntKind.signed, IntKind.bits]; omega)
theorem y_conv32_32 [hu : Und P t (.int .i32)] [hu' : Und P t' (.int .i32)] (hx : evl σ x = i32 a) (h : -2147483648 ≤ a ∧ a ≤ 2147483647) : Y P σ ⟨d, .convert t t' x, ty, pos, af, g⟩ w (i32 a) w :=
  y_conv_in hx (by simp [IntKind.min, IntKind.max, IntKind.signed, IntKind.bits]; omega)
theorem y_beql [hu : Und P t .bool] {u v : Bool} (hx : evl σ x = .bool u) (hy : evl σ y = .bool v) : Y P σ ⟨d, .binOp .eql t x y t', ty, pos, af, g⟩ w (.bool (decide (u = v))) w := by
  have h := run_equalIn_bool' (P := P) w 9999 t u v hu.ok
  refine Y.val ?_; simp only [execOp, hx, hy, eqGuard, Sem.run_bind, binOp, Op.equal, Op.maxDepth]
  rw [show (10000 : Nat) = 9999 + 1 from rfl]
  simp [h]; cases u <;> cases v <;> rfl
theorem y_bneq [hu : Und P t .bool] {u v : Bool} (hx : evl σ x = .bool u) (hy : evl σ y = .bool v) : Y P σ ⟨d, .binOp .neq t x y t', ty, pos, af, g⟩ w (.bool (decide (u ≠ v))) w := by
  have h := run_equalIn_bool' (P := P) w 9999 t u v hu.ok
  refine Y.val ?_; simp only [execOp, hx, hy, eqGuard, Sem.run_bind, binOp, Op.equal, Op.maxDepth]
  rw [show (10000 : Nat) = 9999 + 1 from rfl]
  simp [h]; cases u <;> cases v <;> rfl
theorem y_sindexI [hu : Und P t .string] {l : List UInt8} {k : IntKind} (hx : evl σ x = str l) (hy : evl σ y = .int k a) (h : 0 ≤ a ∧ a < l.length) : Y P σ ⟨d, .index t x y, ty, pos, af, g⟩ w (byt (l[a.toNat]?.getD 0).toNat) w := by
  obtain ⟨i, rfl⟩ := Int.eq_ofNat_of_zero_le h.1
  refine y_sindex hx hy ?_
  have : i < l.length := by omega
  simp [this]
theorem y_sindexN [hu : Und P t .string] {l : List UInt8} {i : Nat} {k : IntKind} (hx : evl σ x = str l) (hy : evl σ y = .int k i) (h : i < l.length) : Y P σ ⟨d, .index t x y, ty, pos, af, g⟩ w (byt (l[i]?.getD 0).toNat) w := by
  refine y_sindex hx hy ?_
  simp [h]
end

section
variable {P : Program} {n : Nat} {ds : Ctx} {ops : Array Oper} {Q : Exit → Ctx → Env → World → Prop} {C : World → Prop} {QE : Env → Prop} {rest : List Oper} {σ : GE} {w w' : World} {v : Value} {d : Nat} {op : Op} {ty : TypeId} {pos : String} {af : Array Edge} {j : Nat} {want b c nd : Bool} {dj : Nat}

theorem wl (h : WL P n ds ops Q rest (real (updG σ d ⟨v, true⟩)) w') (hy : Y P (real σ) ⟨some d, op, ty, pos, af, none⟩ w v w') : WL P n ds ops Q (⟨some d, op, ty, pos, af, none⟩ :: rest) (real σ) w :=
  WL_step rfl hy (by rw [← real_upd] at h; exact h)
theorem wl0 (h : WL P n ds ops Q rest (real σ) w') (hy : Y P (real σ) ⟨none, op, ty, pos, af, none⟩ w v w') : WL P n ds ops Q (⟨none, op, ty, pos, af, none⟩ :: rest) (real σ) w := WL_step rfl hy h
/-- an operation that only looks at its operands -/
theorem wlp (h : WL P n ds ops Q rest (real (updG σ d ⟨v, true⟩)) w) (he : ev1 σ op = some ⟨v, nd⟩ := by rfl) (hn : nd = true := by first | with_reducible rfl | with_reducible exact Go.Sv.tt | with_reducible exact Go.Sv.pk_or _ | with_reducible exact Go.Sv.pk_and _ | with_reducible exact Go.Sv.pk_tt _) : WL P n ds ops Q (⟨some d, op, ty, pos, af, none⟩ :: rest) (real σ) w :=
  wl h (ev1_ok he hn)

theorem wanted_real {o : Oper} {j dj : Nat} {want b c : Bool} (hgd : o.guard = some (j, want)) (hj : (ops[j]?).bind (·.dst) = some dj) (hσ : σ dj = ⟨.bool c, b⟩) :
    Region.wanted o (yl ops (real σ)) = (b && (c == want)) := by
  unfold Region.wanted yl
  rw [hgd]
  simp only [hj, real, hσ, rv]
  cases b <;> cases c <;> cases want <;> rfl
theorem rv_bif (b : Bool) (v : Value) : (bif b then v else undef) = rv ⟨v, b⟩ := by cases b <;> rfl

theorem wlg (h : WL P n ds ops Q rest (real (updG σ d ⟨v, b && (c == want)⟩)) w) (hj : (ops[j]?).bind (·.dst) = some dj) (hσ : σ dj = ⟨.bool c, b⟩) (hy : (b && (c == want)) = true → Y P (real σ) ⟨some d, op, ty, pos, af, some (j, want)⟩ w v w) :
    WL P n ds ops Q (⟨some d, op, ty, pos, af, some (j, want)⟩ :: rest) (real σ) w :=
  WL_guard (wanted_real rfl hj hσ) hy (by rw [rv_bif]; rw [← real_upd] at h; exact h)
theorem tt : (true && true) = true := rfl
theorem pk_tt (c : Bool) : (true && pkb c true true) = true := by cases c <;> rfl
theorem pk_or (c : Bool) : (true && pkb c true (true && (c == false))) = true := by cases c <;> rfl
theorem pk_and (c : Bool) : (true && pkb c (true && (c == true)) true) = true := by cases c <;> rfl
theorem pkg_or {G : Bool} (c : Bool) (h : G = true) : (G && pkb c true (G && (c == false))) = true := by subst h; cases c <;> rfl
theorem pkg_and {G : Bool} (c : Bool) (h : G = true) : (G && pkb c (G && (c == true)) true) = true := by subst h; cases c <;> rfl
theorem nd_same {G : Bool} (h : G = true) : (G && G) = true := by subst h; rfl
theorem nd_l {G : Bool} (h : G = true) : (G && true) = true := by subst h; rfl
theorem nd_r {G : Bool} (h : G = true) : (true && G) = true := by subst h; rfl
theorem wlpg (h : WL P n ds ops Q rest (real (updG σ d ⟨v, b && (c == want)⟩)) w) (hj : (ops[j]?).bind (·.dst) = some dj := by rfl) (hσ : σ dj = ⟨.bool c, b⟩ := by rfl) (he : ev1 σ op = some ⟨v, nd⟩ := by rfl)
    (hn : (b && (c == want)) = true → nd = true := by first | with_reducible exact fun _ => rfl | with_reducible exact fun _ => Go.Sv.tt | with_reducible exact fun h => h | with_reducible exact fun h => Go.Sv.nd_l h | with_reducible exact fun h => Go.Sv.nd_r h | with_reducible exact fun h => Go.Sv.nd_same h | with_reducible exact fun h => Go.Sv.pkg_or _ h | with_reducible exact fun h => Go.Sv.pkg_and _ h | with_reducible exact fun h => Go.Sv.and_l h | with_reducible exact fun h => Go.Sv.nd_l (Go.Sv.and_l h) | with_reducible exact fun h => Go.Sv.nd_r (Go.Sv.and_l h) | with_reducible exact fun h => Go.Sv.and_l (Go.Sv.and_l h) | with_reducible exact fun h => Go.Sv.nd_l (Go.Sv.and_l (Go.Sv.and_l h)) | (intro h; simp only [Bool.and_eq_true] at h ⊢; simp [h, Go.Sv.pkb]; done) | (intro h; simp_all [Go.Sv.pkb]; done) | (intro h; revert h; simp [Go.Sv.pkb]; done)) :
    WL P n ds ops Q (⟨some d, op, ty, pos, af, some (j, want)⟩ :: rest) (real σ) w := wlg h hj hσ fun hh => ev1_ok he (hn hh)
/-- a pick, whose parts may not be there -/
theorem wlpk (h : WL P n ds ops Q rest (real (updG σ d ⟨v, true⟩)) w) (he : ev1 σ op = some ⟨v, nd⟩ := by rfl) (hn : nd = true := by first | with_reducible rfl | with_reducible exact Go.Sv.tt | with_reducible exact Go.Sv.pk_or _ | with_reducible exact Go.Sv.pk_and _ | with_reducible exact Go.Sv.pk_tt _ | (simp [Go.Sv.pkb]; done) | (simp only [Go.Sv.pkb, Bool.and_eq_true]; simp_all; done)) : WL P n ds ops Q (⟨some d, op, ty, pos, af, none⟩ :: rest) (real σ) w :=
  wl h (ev1_ok he hn)

theorem wlcall {f : FuncId} [hf : Fnc P f] {args : List Operand} {ats : Array TypeId} {R : Value → World → Prop}
    (hc : CallsR P f (args.map (evl (real σ))).toArray w R) (h : ∀ v w', R v w' → WL P n ds ops Q rest (real (updG σ d ⟨v, true⟩)) w') :
    WL P n ds ops Q (⟨some d, .call ⟨.value (.func f), args.toArray, ats⟩, ty, pos, af, none⟩ :: rest) (real σ) w :=
  WL_call (R := R) (by simpa using hc) fun v w' hr => by have := h v w' hr; rw [← real_upd] at this; exact this
theorem wlcall0 {f : FuncId} [hf : Fnc P f] {args : List Operand} {ats : Array TypeId} {R : Value → World → Prop}
    (hc : CallsR P f (args.map (evl (real σ))).toArray w R) (h : ∀ v w', R v w' → WL P n ds ops Q rest (real σ) w') :
    WL P n ds ops Q (⟨none, .call ⟨.value (.func f), args.toArray, ats⟩, ty, pos, af, none⟩ :: rest) (real σ) w :=
  WL_call (R := R) (by simpa using hc) h
theorem wlpure {f : FuncId} [hf : Fnc P f] {args : List Operand} {ats : Array TypeId} (hc : PureC P f (args.map (evl (real σ))).toArray w v) (h : ∀ w', Frm w w' → WL P n ds ops Q rest (real (updG σ d ⟨v, true⟩)) w') :
    WL P n ds ops Q (⟨some d, .call ⟨.value (.func f), args.toArray, ats⟩, ty, pos, af, none⟩ :: rest) (real σ) w := by
  refine wlcall (R := fun u w' => u = v ∧ Frm w w') hc ?_
  rintro u w' ⟨rfl, hw⟩
  exact h w' hw

/-! regions that draw -/
theorem ql (h : QL P n ds ops C QE rest (real (updG σ d ⟨v, true⟩))) (hy : YQ P (real σ) ⟨some d, op, ty, pos, af, none⟩ C v) : QL P n ds ops C QE (⟨some d, op, ty, pos, af, none⟩ :: rest) (real σ) :=
  QL_step rfl hy (by rw [← real_upd] at h; exact h)
theorem qlp (h : QL P n ds ops C QE rest (real (updG σ d ⟨v, true⟩))) (he : ev1 σ op = some ⟨v, nd⟩ := by rfl) (hn : nd = true := by first | with_reducible rfl | with_reducible exact Go.Sv.tt | with_reducible exact Go.Sv.pk_or _ | with_reducible exact Go.Sv.pk_and _ | with_reducible exact Go.Sv.pk_tt _) : QL P n ds ops C QE (⟨some d, op, ty, pos, af, none⟩ :: rest) (real σ) :=
  ql h (YQ.ofY fun _ _ => ev1_ok he hn)
theorem qlpk (h : QL P n ds ops C QE rest (real (updG σ d ⟨v, true⟩))) (he : ev1 σ op = some ⟨v, nd⟩ := by rfl) (hn : nd = true := by first | with_reducible rfl | with_reducible exact Go.Sv.tt | with_reducible exact Go.Sv.pk_or _ | with_reducible exact Go.Sv.pk_and _ | with_reducible exact Go.Sv.pk_tt _ | (simp [Go.Sv.pkb]; done) | (simp only [Go.Sv.pkb, Bool.and_eq_true]; simp_all; done)) : QL P n ds ops C QE (⟨some d, op, ty, pos, af, none⟩ :: rest) (real σ) :=
  ql h (YQ.ofY fun _ _ => ev1_ok he hn)
theorem qlg (h : QL P n ds ops C QE rest (real (updG σ d ⟨v, b && (c == want)⟩))) (hj : (ops[j]?).bind (·.dst) = some dj) (hσ : σ dj = ⟨.bool c, b⟩) (hy : (b && (c == want)) = true → YQ P (real σ) ⟨some d, op, ty, pos, af, some (j, want)⟩ C v) :
    QL P n ds ops C QE (⟨some d, op, ty, pos, af, some (j, want)⟩ :: rest) (real σ) :=
  QL_guard (wanted_real rfl hj hσ) hy (by rw [rv_bif]; rw [← real_upd] at h; exact h)
theorem qlpg (h : QL P n ds ops C QE rest (real (updG σ d ⟨v, b && (c == want)⟩))) (hj : (ops[j]?).bind (·.dst) = some dj := by rfl) (hσ : σ dj = ⟨.bool c, b⟩ := by rfl) (he : ev1 σ op = some ⟨v, nd⟩ := by rfl)
    (hn : (b && (c == want)) = true → nd = true := by first | with_reducible exact fun _ => rfl | with_reducible exact fun _ => Go.Sv.tt | with_reducible exact fun h => h | with_reducible exact fun h => Go.Sv.nd_l h | with_reducible exact fun h => Go.Sv.nd_r h | with_reducible exact fun h => Go.Sv.nd_same h | with_reducible exact fun h => Go.Sv.pkg_or _ h | with_reducible exact fun h => Go.Sv.pkg_and _ h | with_reducible exact fun h => Go.Sv.and_l h | with_reducible exact fun h => Go.Sv.nd_l (Go.Sv.and_l h) | with_reducible exact fun h => Go.Sv.nd_r (Go.Sv.and_l h) | with_reducible exact fun h => Go.Sv.and_l (Go.Sv.and_l h) | with_reducible exact fun h => Go.Sv.nd_l (Go.Sv.and_l (Go.Sv.and_l h)) | (intro h; simp only [Bool.and_eq_true] at h ⊢; simp [h, Go.Sv.pkb]; done) | (intro h; simp_all [Go.Sv.pkb]; done) | (intro h; revert h; simp [Go.Sv.pkb]; done)) :
    QL P n ds ops C QE (⟨some d, op, ty, pos, af, some (j, want)⟩ :: rest) (real σ) := qlg h hj hσ fun hh => YQ.ofY fun _ _ => ev1_ok he (hn hh)
theorem qlcall {f : FuncId} [hf : Fnc P f] {args : List Operand} {ats : Array TypeId}
    (h : QL P n ds ops C QE rest (real (updG σ d ⟨v, true⟩))) (hc : ∀ w, C w → CallsR P f (args.map (evl (real σ))).toArray w fun u w' => u = v ∧ Frm w w') :
    QL P n ds ops C QE (⟨some d, .call ⟨.value (.func f), args.toArray, ats⟩, ty, pos, af, none⟩ :: rest) (real σ) := ql h (YQ.ofCall fun w hw => by simpa using hc w hw)
theorem qlcallg {f : FuncId} [hf : Fnc P f] {args : List Operand} {ats : Array TypeId}
    (h : QL P n ds ops C QE rest (real (updG σ d ⟨v, b && (c == want)⟩))) (hc : (b && (c == want)) = true → ∀ w, C w → CallsR P f (args.map (evl (real σ))).toArray w fun u w' => u = v ∧ Frm w w')
    (hj : (ops[j]?).bind (·.dst) = some dj := by rfl) (hσ : σ dj = ⟨.bool c, b⟩ := by rfl) :
    QL P n ds ops C QE (⟨some d, .call ⟨.value (.func f), args.toArray, ats⟩, ty, pos, af, some (j, want)⟩ :: rest) (real σ) := qlg h hj hσ fun hh => YQ.ofCall fun w hw => by simpa using hc hh w hw
theorem PureC.q {f : FuncId} {args : Array Value} {w w0 : World} (h : PureC P f args w v) (hw : Frm w0 w) : CallsR P f args w fun u w' => u = v ∧ Frm w0 w' :=
  CallsR.mono h fun _ _ ⟨hu, hf⟩ => ⟨hu, hw.trans hf⟩
end
section
variable {P : Program} {n : Nat} {ds : Ctx} {Q : Exit → Ctx → Env → World → Prop} {σ : Env} {w : World} {a b : Code} {x : Operand} {t : Bool}
theorem wcyes (h : WC P n ds a Q σ w) (hc : evl σ x = .bool t := by rfl) (ht : t = true := by first | with_reducible rfl | decide) : WC P n ds (.cond x a b) Q σ w := WC_yes (by rw [hc, ht]) h
theorem wcno (h : WC P n ds b Q σ w) (hc : evl σ x = .bool t := by rfl) (ht : t = false := by first | with_reducible rfl | decide) : WC P n ds (.cond x a b) Q σ w := WC_no (by rw [hc, ht]) h
theorem wcdraw [hm : Mix P] {id : Nat} {ops : List Oper} (h : QL P n ds ops.toArray (Frm w) (fun σ' => ∀ w', Frm w w' → Q .normal ds σ' w') ops σ) (hB : Region.lexB .any ops.toArray = true := by kernel_rfl) (hro : ds.ro = none := by rfl) : WC P n ds (.region id ops.toArray true) Q σ w :=
  WC_draw hro hB h
end
/-- a list's first n, the next, and the rest -/
def Parts (n : Nat) (ops l1 : List Oper) (x : Oper) (l2 : List Oper) : Prop := ops = l1 ++ x :: l2 ∧ l1.length = n
theorem Parts.zero {x : Oper} {l2 : List Oper} : Parts 0 (x :: l2) [] x l2 := ⟨rfl, rfl⟩
theorem Parts.step {n : Nat} {ops l1 l2 : List Oper} {o x : Oper} (h : Parts n ops l1 x l2) : Parts (n + 1) (o :: ops) (o :: l1) x l2 := ⟨by rw [h.1]; rfl, by rw [List.length_cons, h.2]⟩
section
variable {P : Program} {n : Nat} {ds : Ctx} {Q : Exit → Ctx → Env → World → Prop} {σ : Env} {w : World}
/-- a drawn region: n quiet operations, one that makes something, the rest in order -/
theorem wcdrawx [hm : Mix P] {id : Nat} {ops l1 l2 : List Oper} {x : Oper} (k : Nat)
    (h : QL P n ds ops.toArray (Frm w) (fun σ' => QX P w x σ' fun σ'' w' => WL P n ds ops.toArray Q l2 σ'' w') l1 σ)
    (hp : Parts k ops l1 x l2 := by repeat (first | exact Go.Sv.Parts.zero | apply Go.Sv.Parts.step)) (hB : Region.lexTailB .any ops.toArray (k + 1) = true := by kernel_rfl) (hx : x.guard = none := by rfl) (hro : ds.ro = none := by rfl) : WC P n ds (.region id ops.toArray true) Q σ w := by
  obtain ⟨rfl, rfl⟩ := hp
  exact WC_drawX hro hB hx h
/-- a drawn region: n quiet operations, the rest in order -/
theorem wcdrawt [hm : Mix P] {id : Nat} {ops l1 l2 : List Oper} {x : Oper} (k : Nat)
    (h : QL P n ds ops.toArray (Frm w) (fun σ' => ∀ w', Frm w w' → WL P n ds ops.toArray Q (x :: l2) σ' w') l1 σ)
    (hp : Parts k ops l1 x l2 := by repeat (first | exact Go.Sv.Parts.zero | apply Go.Sv.Parts.step)) (hB : Region.lexTailB .any ops.toArray k = true := by kernel_rfl) (hro : ds.ro = none := by rfl) : WC P n ds (.region id ops.toArray true) Q σ w := by
  obtain ⟨rfl, rfl⟩ := hp
  exact WC_drawT hro hB h
end
theorem enter {P : Program} {n : Nat} {fn : Func} {R : Value → World → Prop} {w : World} {f : FuncId} {c : Code} {l : List Value} (hf : P.funcs[f]? = some fn) (hb : fn.body = some c) (hn : fn.ntmps = n) (hin : codeIn n false c = true) (hl : Nat.ble l.length n = true)
    (h : WC P n ⟨[], none⟩ c (fpost P n fn R) (real (entG l 0)) w) : CallsR P f l.toArray w R := call_intro hf hb hn hin hl (by rw [real_ent]; exact h)
theorem enterE {P : Program} {n : Nat} {fn : Func} {R : Ending → World → Prop} {w : World} {f : FuncId} {c : Code} {l : List Value} (hf : P.funcs[f]? = some fn) (hb : fn.body = some c) (hn : fn.ntmps = n) (hin : codeIn n false c = true) (hl : Nat.ble l.length n = true)
    (h : WC P n ⟨[], none⟩ c (fpostE P n fn R) (real (entG l 0)) w) : Calls P f l.toArray w R := call_introE hf hb hn hin hl (by rw [real_ent]; exact h)
/-- a loop, from a frame of our kind -/
theorem wcloop {P : Program} {n : Nat} {ds : Ctx} {Q : Exit → Ctx → Env → World → Prop} {σ : Env} {w : World} {c : Code} {X : Type} (sl : X → List (Nat × Value)) (I : X → World → Prop) (μ : X → Nat) (x0 : X) (h0 : Has σ (sl x0)) (hI : I x0 w)
    (round : ∀ (x : X) (w : World) (ρ : GE), I x w → WC P n ds c (thl ds (fun σ' w' => ∃ x', Has σ' (sl x') ∧ I x' w' ∧ μ x' < μ x) Q) (real (updGL ρ (sl x))) w) : WC P n ds (.loop c) Q σ w :=
  WC_loop sl I μ x0 h0 hI fun x w ρ hi => by rw [real_updL]; exact round x w _ hi
end Go.Sv
