/-
  For each kind of operation that does not look at the world, a rule for regions that draw and write.
-/
import Derived.Test.YtffaoehhhdcjjaaSvDraw
set_option linter.unusedSimpArgs false
set_option linter.unusedVariables false
set_option linter.unnecessarySimpa false
namespace Go.Sv
open Go Go.RowKit
section
variable {P : Program} {ops : Array Oper} {S : (Nat → Bool) → World → Prop} {Qf : Env → Prop} {rest : List Oper} {σ : GE} {w : World} {v : Value} {d k : Nat} {ty : TypeId} {pos : String} {af : Array Edge}

theorem qs_idxa {t : TypeId} {x y : Operand} (h : QS P ops S Qf (k + 1) rest (real (updG σ d ⟨v, true⟩))) (hy : ∀ w, Y P (real σ) ⟨some d, .indexAddr t x y, ty, pos, af, none⟩ w v w := by
    intro wq
    first
    | exact y_idx1 rfl rfl (by omega) (by first | exact ⟨_, rfl⟩ | assumption | exact Im.some (by assumption) (by (try simp only [Go.Sv.bs_length]); omega) | exact Im.some (by assumption) (by simp; omega))
    | exact y_idx1I rfl rfl (by omega) (by first | exact ⟨_, rfl⟩ | assumption | exact Im.some (by assumption) (by (try simp only [Go.Sv.bs_length]); omega) | exact Im.some (by assumption) (by simp; omega))
    | exact y_idx rfl rfl (by omega) (by first | exact ⟨_, rfl⟩ | assumption | exact Im.some (by assumption) (by (try simp only [Go.Sv.bs_length]); omega) | exact Im.some (by assumption) (by simp; omega))
    | exact y_idxI rfl rfl (by omega) (by first | exact ⟨_, rfl⟩ | assumption | exact Im.some (by assumption) (by (try simp only [Go.Sv.bs_length]); omega) | exact Im.some (by assumption) (by simp; omega))) (hinv : ∀ L w, S L w → S (on L k) w := by exact fun _ _ h => h) :
    QS P ops S Qf k (⟨some d, .indexAddr t x y, ty, pos, af, none⟩ :: rest) (real σ) := qsq h hy hinv
theorem qs_slc {t : TypeId} {x : Operand} {lo hi mx : Option Operand} (h : QS P ops S Qf (k + 1) rest (real (updG σ d ⟨v, true⟩))) (hy : ∀ w, Y P (real σ) ⟨some d, .slice t x lo hi mx, ty, pos, af, none⟩ w v w := by
    intro wq
    first
    | exact y_sslice_from rfl rfl (by omega)
    | exact y_sslice_to rfl rfl (by omega)
    | exact y_sslice rfl rfl rfl (by omega)
    | exact y_rslice_from1 rfl rfl (by omega)
    | exact y_rslice_from rfl rfl (by omega)
    | exact y_rslice_to rfl rfl (by omega)
    | exact y_rslice1 rfl rfl rfl (by omega)
    | exact y_rslice rfl rfl rfl (by omega)
    | exact y_rslice3 rfl rfl rfl (by omega)
    | exact y_sslice_fromI rfl rfl (by omega)
    | exact y_sslice_toI rfl rfl (by omega)
    | exact y_ssliceI rfl rfl rfl (by omega)
    | exact y_rslice_fromI rfl rfl (by omega)
    | exact y_rslice_toI rfl rfl (by omega)) (hinv : ∀ L w, S L w → S (on L k) w := by exact fun _ _ h => h) :
    QS P ops S Qf k (⟨some d, .slice t x lo hi mx, ty, pos, af, none⟩ :: rest) (real σ) := qsq h hy hinv
theorem qs_idx {t : TypeId} {x y : Operand} (h : QS P ops S Qf (k + 1) rest (real (updG σ d ⟨v, true⟩))) (hy : ∀ w, Y P (real σ) ⟨some d, .index t x y, ty, pos, af, none⟩ w v w := by
    intro wq
    first
    | exact y_sindexN rfl rfl (by omega)
    | exact y_sindexI rfl rfl (by omega)) (hinv : ∀ L w, S L w → S (on L k) w := by exact fun _ _ h => h) :
    QS P ops S Qf k (⟨some d, .index t x y, ty, pos, af, none⟩ :: rest) (real σ) := qsq h hy hinv
theorem qs_bin {bop : BinOp} {t t2 : TypeId} {x y : Operand} (h : QS P ops S Qf (k + 1) rest (real (updG σ d ⟨v, true⟩))) (hy : ∀ w, Y P (real σ) ⟨some d, .binOp bop t x y t2, ty, pos, af, none⟩ w v w := by
    intro wq
    first
    | exact y_add64 rfl rfl (by omega)
    | exact y_sub64 rfl rfl (by omega)
    | exact y_sadd rfl rfl (by (try simp only [List.length_append, List.length_cons, List.length_nil, List.length_take, List.length_drop]); omega)
    | exact y_and rfl rfl
    | exact y_or rfl rfl
    | exact y_shr rfl rfl (by omega)
    | exact y_shl rfl rfl (by omega)
    | exact y_add32 rfl rfl (by omega)
    | exact y_sub32 rfl rfl (by omega)
    | exact y_add8 rfl rfl (by omega)
    | exact y_sub8 rfl rfl (by omega)
    | exact y_mul64 rfl rfl (by omega)
    | exact y_mul32 rfl rfl (by omega)
    | exact y_rem rfl rfl (by omega)
    | exact y_quo rfl rfl (by simp only [Go.IntKind.max, Go.IntKind.signed, Go.IntKind.bits]; omega)
    | exact y_xor rfl rfl
    | exact y_beql rfl rfl
    | exact y_bneq rfl rfl) (hinv : ∀ L w, S L w → S (on L k) w := by exact fun _ _ h => h) :
    QS P ops S Qf k (⟨some d, .binOp bop t x y t2, ty, pos, af, none⟩ :: rest) (real σ) := qsq h hy hinv
theorem qs_cnv {t t2 : TypeId} {x : Operand} (h : QS P ops S Qf (k + 1) rest (real (updG σ d ⟨v, true⟩))) (hy : ∀ w, Y P (real σ) ⟨some d, .convert t t2 x, ty, pos, af, none⟩ w v w := by
    intro wq
    first
    | exact y_conv_b32 rfl
    | exact y_conv_b64 rfl
    | exact y_conv8_32 rfl (by omega)
    | exact y_conv8_64 rfl (by omega)
    | exact y_conv32_8 rfl (by omega)
    | exact y_conv64_8 rfl (by omega)
    | exact y_conv32_64 rfl (by omega)
    | exact y_conv64_64 rfl (by omega)
    | exact y_conv64_32 rfl (by omega)
    | exact y_conv32_32 rfl (by omega)
    | exact y_conv_str rfl
    | exact y_conv rfl) (hinv : ∀ L w, S L w → S (on L k) w := by exact fun _ _ h => h) :
    QS P ops S Qf k (⟨some d, .convert t t2 x, ty, pos, af, none⟩ :: rest) (real σ) := qsq h hy hinv
theorem qs_len {args : Array Operand} {ats : Array TypeId} (h : QS P ops S Qf (k + 1) rest (real (updG σ d ⟨v, true⟩))) (hy : ∀ w, Y P (real σ) ⟨some d, .call ⟨.builtin .len, args, ats⟩, ty, pos, af, none⟩ w v w := by
    intro wq
    first
    | exact y_slen rfl rfl
    | exact y_len rfl rfl) (hinv : ∀ L w, S L w → S (on L k) w := by exact fun _ _ h => h) :
    QS P ops S Qf k (⟨some d, .call ⟨.builtin .len, args, ats⟩, ty, pos, af, none⟩ :: rest) (real σ) := qsq h hy hinv
theorem qs_una {uop : UnOp} {t : TypeId} {x : Operand} (h : QS P ops S Qf (k + 1) rest (real (updG σ d ⟨v, true⟩))) (hy : ∀ w, Y P (real σ) ⟨some d, .unOp uop t x, ty, pos, af, none⟩ w v w := by
    intro wq
    first
    | exact y_neg rfl) (hinv : ∀ L w, S L w → S (on L k) w := by exact fun _ _ h => h) :
    QS P ops S Qf k (⟨some d, .unOp uop t x, ty, pos, af, none⟩ :: rest) (real σ) := qsq h hy hinv
theorem qs_mkf {fn : Fn} {first captured : Array Operand} (h : QS P ops S Qf (k + 1) rest (real (updG σ d ⟨v, true⟩))) (hy : ∀ w, Y P (real σ) ⟨some d, .makeFunc fn first captured, ty, pos, af, none⟩ w v w := by
    intro wq
    first
    | exact y_makefuncL
    | exact y_makefunc) (hinv : ∀ L w, S L w → S (on L k) w := by exact fun _ _ h => h) :
    QS P ops S Qf k (⟨some d, .makeFunc fn first captured, ty, pos, af, none⟩ :: rest) (real σ) := qsq h hy hinv
theorem qs_nilc {x : Operand} (h : QS P ops S Qf (k + 1) rest (real (updG σ d ⟨v, true⟩))) (hy : ∀ w, Y P (real σ) ⟨some d, .nilCheck x, ty, pos, af, none⟩ w v w := by
    intro wq
    first
    | exact y_nilcheckp rfl (by first | exact ⟨_, rfl⟩ | assumption | exact Im.some (by assumption) (by (try simp only [Go.Sv.bs_length]); omega) | exact Im.some (by assumption) (by simp; omega))
    | exact y_nilcheck rfl) (hinv : ∀ L w, S L w → S (on L k) w := by exact fun _ _ h => h) :
    QS P ops S Qf k (⟨some d, .nilCheck x, ty, pos, af, none⟩ :: rest) (real σ) := qsq h hy hinv
/-- a load of a struct -/
theorem qs_loada {t : TypeId} {x : Operand} {p : Option Addr} {zv : Value} {size bytes : Nat} {i : Nat} [ha : Agg P t true] [hz : Inf P t zv size bytes] (l : (Nat → Bool) → List Value) (vs : List Value) (h : QS P ops S Qf (k + 1) rest (real (updG σ d ⟨.agg ⟨vs⟩, true⟩)))
    (hs : ∀ L w, S L w → Sg w p (l L)) (hv : ∀ L, Up ops ⟨some d, .load t x, ty, pos, af, none⟩ k L → ((l L).drop i).take size = vs ∧ i + size ≤ (l L).length) (hx : evl (real σ) x = ptrAt p i := by rfl) (hp : ∃ a, p = some a := by exact ⟨_, rfl⟩) (hi : ∀ L w, S L w → S (on L k) w := by exact fun _ _ h => h) :
    QS P ops S Qf k (⟨some d, .load t x, ty, pos, af, none⟩ :: rest) (real σ) := qsy h (fun L w hu hsw => by
      obtain ⟨h1, h2⟩ := hv L hu
      have := y_loada (P := P) (d := some d) (ty := ty) (pos := pos) (af := af) (g := none) (t := t) hx (hs L w hsw) h2 hp
      rw [h1] at this
      exact this) hi
end
end Go.Sv
