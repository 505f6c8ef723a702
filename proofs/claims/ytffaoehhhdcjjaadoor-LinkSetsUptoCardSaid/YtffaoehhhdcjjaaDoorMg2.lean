/-
  Our texts SvStep2, SvRow, SvCall, SvGo, SvUtfA, SvUtf, SvRef01, SvRef01b, SvRef01c, SvMap, SvBld, joined.
-/
import Derived.Test.YtffaoehhhdcjjaaDoorMg1
import Derived.Deep.AppendSrc
import Derived.MapKept
import Derived.Lib.Builder
import Derived.Lib.AppendStr
import Derived.Laws.Externs
/-
  For each kind of operation, plain and guarded, in a region in order and in one that draws: a rule whose side conditions are found by trying.
-/
set_option linter.unusedSimpArgs false
set_option linter.unusedVariables false
set_option linter.unnecessarySimpa false
namespace Go.Sv
open Go Go.RowKit
section
/-- an operand that is there if the guard says so -/
theorem evG {σ : GE} {x : Operand} {v : Value} {g G : Bool} (hgd : G = true) (h : gvl σ x = ⟨v, g⟩ := by rfl)
    (hg : G = true → g = true := by first | with_reducible exact fun _ => rfl | with_reducible exact fun h => h | with_reducible exact fun h => and_l h | with_reducible exact fun h => and_l (and_l h) | with_reducible exact fun h => and_l (and_l (and_l h)) | (intro h; simp_all; done)) : evl (real σ) x = v := evr h (hg hgd)
variable {P : Program} {n : Nat} {ds : Ctx} {ops : Array Oper} {Q : Exit → Ctx → Env → World → Prop} {w0 : World} {QE : Env → Prop} {rest : List Oper} {σ : GE} {w w' : World} {v : Value} {d : Nat} {ty : TypeId} {pos : String} {af : Array Edge} {j : Nat} {want b c : Bool} {dj : Nat}

theorem wl_load {t : TypeId} {x : Operand} (h : WL P n ds ops Q rest (real (updG σ d ⟨v, true⟩)) w) (hy : Y P (real σ) ⟨some d, .load t x, ty, pos, af, none⟩ w v w := by
    first
    | exact y_load rfl (by first | exact Im.sg (by assumption) | exact Own.sg (by assumption) | assumption | exact Go.Sv.Sep.sgv (by assumption) 0 (by rfl) | exact Go.Sv.Sep.sgv (by assumption) 1 (by rfl) | exact Go.Sv.Sep.sgv (by assumption) 2 (by rfl) | exact Go.Sv.Sep.sgv (by assumption) 3 (by rfl) | exact Go.Sv.Sep.sgv (by assumption) 4 (by rfl) | exact Go.Sv.Sep.sgv (by assumption) 5 (by rfl) | exact Im.sg (Go.Sv.Im.sep (by assumption) (by assumption))) (by first | rfl | exact bs_get (by omega) | assumption | (simp; done))
    | exact y_loada rfl (by first | exact Im.sg (by assumption) | exact Own.sg (by assumption) | assumption | exact Go.Sv.Sep.sgv (by assumption) 0 (by rfl) | exact Go.Sv.Sep.sgv (by assumption) 1 (by rfl) | exact Go.Sv.Sep.sgv (by assumption) 2 (by rfl) | exact Go.Sv.Sep.sgv (by assumption) 3 (by rfl) | exact Go.Sv.Sep.sgv (by assumption) 4 (by rfl) | exact Go.Sv.Sep.sgv (by assumption) 5 (by rfl) | exact Im.sg (Go.Sv.Im.sep (by assumption) (by assumption))) (by first | decide | omega | (simp; done) | (simp; omega)) (by first | exact ⟨_, rfl⟩ | assumption | exact Im.some (by assumption) (by (try simp only [Go.Sv.bs_length]); omega) | exact Im.some (by assumption) (by simp; omega))) :
    WL P n ds ops Q (⟨some d, .load t x, ty, pos, af, none⟩ :: rest) (real σ) w := wl h hy
theorem wlg_load {t : TypeId} {x : Operand} (h : WL P n ds ops Q rest (real (updG σ d ⟨v, b && (c == want)⟩)) w) (hj : (ops[j]?).bind (·.dst) = some dj := by rfl) (hσ : σ dj = ⟨.bool c, b⟩ := by rfl) (hy : (b && (c == want)) = true → Y P (real σ) ⟨some d, .load t x, ty, pos, af, some (j, want)⟩ w v w := by
    intro hgd
    first
    | exact y_load (evG hgd) (by first | exact Im.sg (by assumption) | exact Own.sg (by assumption) | assumption | exact Go.Sv.Sep.sgv (by assumption) 0 (by rfl) | exact Go.Sv.Sep.sgv (by assumption) 1 (by rfl) | exact Go.Sv.Sep.sgv (by assumption) 2 (by rfl) | exact Go.Sv.Sep.sgv (by assumption) 3 (by rfl) | exact Go.Sv.Sep.sgv (by assumption) 4 (by rfl) | exact Go.Sv.Sep.sgv (by assumption) 5 (by rfl) | exact Im.sg (Go.Sv.Im.sep (by assumption) (by assumption))) (by first | rfl | exact bs_get (by first | omega | (simp_all; omega) | (simp_all; done)) | assumption | (simp; done))
    | exact y_loada (evG hgd) (by first | exact Im.sg (by assumption) | exact Own.sg (by assumption) | assumption | exact Go.Sv.Sep.sgv (by assumption) 0 (by rfl) | exact Go.Sv.Sep.sgv (by assumption) 1 (by rfl) | exact Go.Sv.Sep.sgv (by assumption) 2 (by rfl) | exact Go.Sv.Sep.sgv (by assumption) 3 (by rfl) | exact Go.Sv.Sep.sgv (by assumption) 4 (by rfl) | exact Go.Sv.Sep.sgv (by assumption) 5 (by rfl) | exact Im.sg (Go.Sv.Im.sep (by assumption) (by assumption))) (by first | decide | omega | (simp; done) | (simp; omega)) (by first | exact ⟨_, rfl⟩ | assumption | exact Im.some (by assumption) (by (try simp only [Go.Sv.bs_length]); omega) | exact Im.some (by assumption) (by simp; omega))) :
    WL P n ds ops Q (⟨some d, .load t x, ty, pos, af, some (j, want)⟩ :: rest) (real σ) w := wlg h hj hσ hy
theorem ql_load {t : TypeId} {x : Operand} (h : QL P n ds ops (Frm w0) QE rest (real (updG σ d ⟨v, true⟩))) (hy : ∀ w, Frm w0 w → Y P (real σ) ⟨some d, .load t x, ty, pos, af, none⟩ w v w := by
    intro wq hwq
    first
    | exact y_load rfl (by first | exact Im.sg (Go.Sv.Im.frm (by assumption) hwq) | exact Own.sg (Go.Sv.Own.frm (by assumption) hwq) | exact Sg.frm (by assumption) hwq | exact Go.Sv.Sep.sgv (Go.Sv.Sep.grow (by assumption) hwq) 0 (by rfl) | exact Go.Sv.Sep.sgv (Go.Sv.Sep.grow (by assumption) hwq) 1 (by rfl) | exact Go.Sv.Sep.sgv (Go.Sv.Sep.grow (by assumption) hwq) 2 (by rfl) | exact Go.Sv.Sep.sgv (Go.Sv.Sep.grow (by assumption) hwq) 3 (by rfl) | exact Go.Sv.Sep.sgv (Go.Sv.Sep.grow (by assumption) hwq) 4 (by rfl) | exact Go.Sv.Sep.sgv (Go.Sv.Sep.grow (by assumption) hwq) 5 (by rfl) | exact Im.sg (Go.Sv.Im.sep (by assumption) (Go.Sv.Sep.grow (by assumption) hwq))) (by first | rfl | exact bs_get (by omega) | assumption | (simp; done))
    | exact y_loada rfl (by first | exact Im.sg (Go.Sv.Im.frm (by assumption) hwq) | exact Own.sg (Go.Sv.Own.frm (by assumption) hwq) | exact Sg.frm (by assumption) hwq | exact Go.Sv.Sep.sgv (Go.Sv.Sep.grow (by assumption) hwq) 0 (by rfl) | exact Go.Sv.Sep.sgv (Go.Sv.Sep.grow (by assumption) hwq) 1 (by rfl) | exact Go.Sv.Sep.sgv (Go.Sv.Sep.grow (by assumption) hwq) 2 (by rfl) | exact Go.Sv.Sep.sgv (Go.Sv.Sep.grow (by assumption) hwq) 3 (by rfl) | exact Go.Sv.Sep.sgv (Go.Sv.Sep.grow (by assumption) hwq) 4 (by rfl) | exact Go.Sv.Sep.sgv (Go.Sv.Sep.grow (by assumption) hwq) 5 (by rfl) | exact Im.sg (Go.Sv.Im.sep (by assumption) (Go.Sv.Sep.grow (by assumption) hwq))) (by first | decide | omega | (simp; done) | (simp; omega)) (by first | exact ⟨_, rfl⟩ | assumption | exact Im.some (by assumption) (by (try simp only [Go.Sv.bs_length]); omega) | exact Im.some (by assumption) (by simp; omega))) :
    QL P n ds ops (Frm w0) QE (⟨some d, .load t x, ty, pos, af, none⟩ :: rest) (real σ) := ql h (YQ.ofY hy)
theorem qlg_load {t : TypeId} {x : Operand} (h : QL P n ds ops (Frm w0) QE rest (real (updG σ d ⟨v, b && (c == want)⟩))) (hj : (ops[j]?).bind (·.dst) = some dj := by rfl) (hσ : σ dj = ⟨.bool c, b⟩ := by rfl) (hy : (b && (c == want)) = true → ∀ w, Frm w0 w → Y P (real σ) ⟨some d, .load t x, ty, pos, af, some (j, want)⟩ w v w := by
    intro hgd wq hwq
    first
    | exact y_load (evG hgd) (by first | exact Im.sg (Go.Sv.Im.frm (by assumption) hwq) | exact Own.sg (Go.Sv.Own.frm (by assumption) hwq) | exact Sg.frm (by assumption) hwq | exact Go.Sv.Sep.sgv (Go.Sv.Sep.grow (by assumption) hwq) 0 (by rfl) | exact Go.Sv.Sep.sgv (Go.Sv.Sep.grow (by assumption) hwq) 1 (by rfl) | exact Go.Sv.Sep.sgv (Go.Sv.Sep.grow (by assumption) hwq) 2 (by rfl) | exact Go.Sv.Sep.sgv (Go.Sv.Sep.grow (by assumption) hwq) 3 (by rfl) | exact Go.Sv.Sep.sgv (Go.Sv.Sep.grow (by assumption) hwq) 4 (by rfl) | exact Go.Sv.Sep.sgv (Go.Sv.Sep.grow (by assumption) hwq) 5 (by rfl) | exact Im.sg (Go.Sv.Im.sep (by assumption) (Go.Sv.Sep.grow (by assumption) hwq))) (by first | rfl | exact bs_get (by first | omega | (simp_all; omega) | (simp_all; done)) | assumption | (simp; done))
    | exact y_loada (evG hgd) (by first | exact Im.sg (Go.Sv.Im.frm (by assumption) hwq) | exact Own.sg (Go.Sv.Own.frm (by assumption) hwq) | exact Sg.frm (by assumption) hwq | exact Go.Sv.Sep.sgv (Go.Sv.Sep.grow (by assumption) hwq) 0 (by rfl) | exact Go.Sv.Sep.sgv (Go.Sv.Sep.grow (by assumption) hwq) 1 (by rfl) | exact Go.Sv.Sep.sgv (Go.Sv.Sep.grow (by assumption) hwq) 2 (by rfl) | exact Go.Sv.Sep.sgv (Go.Sv.Sep.grow (by assumption) hwq) 3 (by rfl) | exact Go.Sv.Sep.sgv (Go.Sv.Sep.grow (by assumption) hwq) 4 (by rfl) | exact Go.Sv.Sep.sgv (Go.Sv.Sep.grow (by assumption) hwq) 5 (by rfl) | exact Im.sg (Go.Sv.Im.sep (by assumption) (Go.Sv.Sep.grow (by assumption) hwq))) (by first | decide | omega | (simp; done) | (simp; omega)) (by first | exact ⟨_, rfl⟩ | assumption | exact Im.some (by assumption) (by (try simp only [Go.Sv.bs_length]); omega) | exact Im.some (by assumption) (by simp; omega))) :
    QL P n ds ops (Frm w0) QE (⟨some d, .load t x, ty, pos, af, some (j, want)⟩ :: rest) (real σ) := qlg h hj hσ fun hh => YQ.ofY (hy hh)
theorem wl_idxa {t : TypeId} {x y : Operand} (h : WL P n ds ops Q rest (real (updG σ d ⟨v, true⟩)) w) (hy : Y P (real σ) ⟨some d, .indexAddr t x y, ty, pos, af, none⟩ w v w := by
    first
    | exact y_idx1 rfl rfl (by omega) (by first | exact ⟨_, rfl⟩ | assumption | exact Im.some (by assumption) (by (try simp only [Go.Sv.bs_length]); omega) | exact Im.some (by assumption) (by simp; omega))
    | exact y_idx1I rfl rfl (by omega) (by first | exact ⟨_, rfl⟩ | assumption | exact Im.some (by assumption) (by (try simp only [Go.Sv.bs_length]); omega) | exact Im.some (by assumption) (by simp; omega))
    | exact y_idx rfl rfl (by omega) (by first | exact ⟨_, rfl⟩ | assumption | exact Im.some (by assumption) (by (try simp only [Go.Sv.bs_length]); omega) | exact Im.some (by assumption) (by simp; omega))
    | exact y_idxI rfl rfl (by omega) (by first | exact ⟨_, rfl⟩ | assumption | exact Im.some (by assumption) (by (try simp only [Go.Sv.bs_length]); omega) | exact Im.some (by assumption) (by simp; omega))
    | exact y_aaddr1 rfl rfl (by omega) (by first | exact ⟨_, rfl⟩ | assumption | exact Im.some (by assumption) (by (try simp only [Go.Sv.bs_length]); omega) | exact Im.some (by assumption) (by simp; omega))
    | exact y_aaddr1I rfl rfl (by omega) (by first | exact ⟨_, rfl⟩ | assumption | exact Im.some (by assumption) (by (try simp only [Go.Sv.bs_length]); omega) | exact Im.some (by assumption) (by simp; omega))
    | exact y_aaddr rfl rfl (by omega) (by first | exact ⟨_, rfl⟩ | assumption | exact Im.some (by assumption) (by (try simp only [Go.Sv.bs_length]); omega) | exact Im.some (by assumption) (by simp; omega))
    | exact y_aaddrI rfl rfl (by omega) (by first | exact ⟨_, rfl⟩ | assumption | exact Im.some (by assumption) (by (try simp only [Go.Sv.bs_length]); omega) | exact Im.some (by assumption) (by simp; omega))) :
    WL P n ds ops Q (⟨some d, .indexAddr t x y, ty, pos, af, none⟩ :: rest) (real σ) w := wl h hy
theorem wlg_idxa {t : TypeId} {x y : Operand} (h : WL P n ds ops Q rest (real (updG σ d ⟨v, b && (c == want)⟩)) w) (hj : (ops[j]?).bind (·.dst) = some dj := by rfl) (hσ : σ dj = ⟨.bool c, b⟩ := by rfl) (hy : (b && (c == want)) = true → Y P (real σ) ⟨some d, .indexAddr t x y, ty, pos, af, some (j, want)⟩ w v w := by
    intro hgd
    first
    | exact y_idx1 (evG hgd) (evG hgd) (by first | omega | (simp_all; omega) | (simp_all; done)) (by first | exact ⟨_, rfl⟩ | assumption | exact Im.some (by assumption) (by (try simp only [Go.Sv.bs_length]); omega) | exact Im.some (by assumption) (by simp; omega))
    | exact y_idx1I (evG hgd) (evG hgd) (by first | omega | (simp_all; omega) | (simp_all; done)) (by first | exact ⟨_, rfl⟩ | assumption | exact Im.some (by assumption) (by (try simp only [Go.Sv.bs_length]); omega) | exact Im.some (by assumption) (by simp; omega))
    | exact y_idx (evG hgd) (evG hgd) (by first | omega | (simp_all; omega) | (simp_all; done)) (by first | exact ⟨_, rfl⟩ | assumption | exact Im.some (by assumption) (by (try simp only [Go.Sv.bs_length]); omega) | exact Im.some (by assumption) (by simp; omega))
    | exact y_idxI (evG hgd) (evG hgd) (by first | omega | (simp_all; omega) | (simp_all; done)) (by first | exact ⟨_, rfl⟩ | assumption | exact Im.some (by assumption) (by (try simp only [Go.Sv.bs_length]); omega) | exact Im.some (by assumption) (by simp; omega))
    | exact y_aaddr1 (evG hgd) (evG hgd) (by first | omega | (simp_all; omega) | (simp_all; done)) (by first | exact ⟨_, rfl⟩ | assumption | exact Im.some (by assumption) (by (try simp only [Go.Sv.bs_length]); omega) | exact Im.some (by assumption) (by simp; omega))
    | exact y_aaddr1I (evG hgd) (evG hgd) (by first | omega | (simp_all; omega) | (simp_all; done)) (by first | exact ⟨_, rfl⟩ | assumption | exact Im.some (by assumption) (by (try simp only [Go.Sv.bs_length]); omega) | exact Im.some (by assumption) (by simp; omega))
    | exact y_aaddr (evG hgd) (evG hgd) (by first | omega | (simp_all; omega) | (simp_all; done)) (by first | exact ⟨_, rfl⟩ | assumption | exact Im.some (by assumption) (by (try simp only [Go.Sv.bs_length]); omega) | exact Im.some (by assumption) (by simp; omega))
    | exact y_aaddrI (evG hgd) (evG hgd) (by first | omega | (simp_all; omega) | (simp_all; done)) (by first | exact ⟨_, rfl⟩ | assumption | exact Im.some (by assumption) (by (try simp only [Go.Sv.bs_length]); omega) | exact Im.some (by assumption) (by simp; omega))) :
    WL P n ds ops Q (⟨some d, .indexAddr t x y, ty, pos, af, some (j, want)⟩ :: rest) (real σ) w := wlg h hj hσ hy
theorem ql_idxa {t : TypeId} {x y : Operand} (h : QL P n ds ops (Frm w0) QE rest (real (updG σ d ⟨v, true⟩))) (hy : ∀ w, Frm w0 w → Y P (real σ) ⟨some d, .indexAddr t x y, ty, pos, af, none⟩ w v w := by
    intro wq hwq
    first
    | exact y_idx1 rfl rfl (by omega) (by first | exact ⟨_, rfl⟩ | assumption | exact Im.some (by assumption) (by (try simp only [Go.Sv.bs_length]); omega) | exact Im.some (by assumption) (by simp; omega))
    | exact y_idx1I rfl rfl (by omega) (by first | exact ⟨_, rfl⟩ | assumption | exact Im.some (by assumption) (by (try simp only [Go.Sv.bs_length]); omega) | exact Im.some (by assumption) (by simp; omega))
    | exact y_idx rfl rfl (by omega) (by first | exact ⟨_, rfl⟩ | assumption | exact Im.some (by assumption) (by (try simp only [Go.Sv.bs_length]); omega) | exact Im.some (by assumption) (by simp; omega))
    | exact y_idxI rfl rfl (by omega) (by first | exact ⟨_, rfl⟩ | assumption | exact Im.some (by assumption) (by (try simp only [Go.Sv.bs_length]); omega) | exact Im.some (by assumption) (by simp; omega))
    | exact y_aaddr1 rfl rfl (by omega) (by first | exact ⟨_, rfl⟩ | assumption | exact Im.some (by assumption) (by (try simp only [Go.Sv.bs_length]); omega) | exact Im.some (by assumption) (by simp; omega))
    | exact y_aaddr1I rfl rfl (by omega) (by first | exact ⟨_, rfl⟩ | assumption | exact Im.some (by assumption) (by (try simp only [Go.Sv.bs_length]); omega) | exact Im.some (by assumption) (by simp; omega))
    | exact y_aaddr rfl rfl (by omega) (by first | exact ⟨_, rfl⟩ | assumption | exact Im.some (by assumption) (by (try simp only [Go.Sv.bs_length]); omega) | exact Im.some (by assumption) (by simp; omega))
    | exact y_aaddrI rfl rfl (by omega) (by first | exact ⟨_, rfl⟩ | assumption | exact Im.some (by assumption) (by (try simp only [Go.Sv.bs_length]); omega) | exact Im.some (by assumption) (by simp; omega))) :
    QL P n ds ops (Frm w0) QE (⟨some d, .indexAddr t x y, ty, pos, af, none⟩ :: rest) (real σ) := ql h (YQ.ofY hy)
theorem qlg_idxa {t : TypeId} {x y : Operand} (h : QL P n ds ops (Frm w0) QE rest (real (updG σ d ⟨v, b && (c == want)⟩))) (hj : (ops[j]?).bind (·.dst) = some dj := by rfl) (hσ : σ dj = ⟨.bool c, b⟩ := by rfl) (hy : (b && (c == want)) = true → ∀ w, Frm w0 w → Y P (real σ) ⟨some d, .indexAddr t x y, ty, pos, af, some (j, want)⟩ w v w := by
    intro hgd wq hwq
    first
    | exact y_idx1 (evG hgd) (evG hgd) (by first | omega | (simp_all; omega) | (simp_all; done)) (by first | exact ⟨_, rfl⟩ | assumption | exact Im.some (by assumption) (by (try simp only [Go.Sv.bs_length]); omega) | exact Im.some (by assumption) (by simp; omega))
    | exact y_idx1I (evG hgd) (evG hgd) (by first | omega | (simp_all; omega) | (simp_all; done)) (by first | exact ⟨_, rfl⟩ | assumption | exact Im.some (by assumption) (by (try simp only [Go.Sv.bs_length]); omega) | exact Im.some (by assumption) (by simp; omega))
    | exact y_idx (evG hgd) (evG hgd) (by first | omega | (simp_all; omega) | (simp_all; done)) (by first | exact ⟨_, rfl⟩ | assumption | exact Im.some (by assumption) (by (try simp only [Go.Sv.bs_length]); omega) | exact Im.some (by assumption) (by simp; omega))
    | exact y_idxI (evG hgd) (evG hgd) (by first | omega | (simp_all; omega) | (simp_all; done)) (by first | exact ⟨_, rfl⟩ | assumption | exact Im.some (by assumption) (by (try simp only [Go.Sv.bs_length]); omega) | exact Im.some (by assumption) (by simp; omega))
    | exact y_aaddr1 (evG hgd) (evG hgd) (by first | omega | (simp_all; omega) | (simp_all; done)) (by first | exact ⟨_, rfl⟩ | assumption | exact Im.some (by assumption) (by (try simp only [Go.Sv.bs_length]); omega) | exact Im.some (by assumption) (by simp; omega))
    | exact y_aaddr1I (evG hgd) (evG hgd) (by first | omega | (simp_all; omega) | (simp_all; done)) (by first | exact ⟨_, rfl⟩ | assumption | exact Im.some (by assumption) (by (try simp only [Go.Sv.bs_length]); omega) | exact Im.some (by assumption) (by simp; omega))
    | exact y_aaddr (evG hgd) (evG hgd) (by first | omega | (simp_all; omega) | (simp_all; done)) (by first | exact ⟨_, rfl⟩ | assumption | exact Im.some (by assumption) (by (try simp only [Go.Sv.bs_length]); omega) | exact Im.some (by assumption) (by simp; omega))
    | exact y_aaddrI (evG hgd) (evG hgd) (by first | omega | (simp_all; omega) | (simp_all; done)) (by first | exact ⟨_, rfl⟩ | assumption | exact Im.some (by assumption) (by (try simp only [Go.Sv.bs_length]); omega) | exact Im.some (by assumption) (by simp; omega))) :
    QL P n ds ops (Frm w0) QE (⟨some d, .indexAddr t x y, ty, pos, af, some (j, want)⟩ :: rest) (real σ) := qlg h hj hσ fun hh => YQ.ofY (hy hh)
theorem wl_fld {t : TypeId} {x : Operand} {i : Nat} (h : WL P n ds ops Q rest (real (updG σ d ⟨v, true⟩)) w) (hy : Y P (real σ) ⟨some d, .fieldAddr t x i, ty, pos, af, none⟩ w v w := by
    first
    | exact y_field rfl (by first | exact ⟨_, rfl⟩ | assumption | exact Im.some (by assumption) (by (try simp only [Go.Sv.bs_length]); omega) | exact Im.some (by assumption) (by simp; omega)) (by decide)) :
    WL P n ds ops Q (⟨some d, .fieldAddr t x i, ty, pos, af, none⟩ :: rest) (real σ) w := wl h hy
theorem wlg_fld {t : TypeId} {x : Operand} {i : Nat} (h : WL P n ds ops Q rest (real (updG σ d ⟨v, b && (c == want)⟩)) w) (hj : (ops[j]?).bind (·.dst) = some dj := by rfl) (hσ : σ dj = ⟨.bool c, b⟩ := by rfl) (hy : (b && (c == want)) = true → Y P (real σ) ⟨some d, .fieldAddr t x i, ty, pos, af, some (j, want)⟩ w v w := by
    intro hgd
    first
    | exact y_field (evG hgd) (by first | exact ⟨_, rfl⟩ | assumption | exact Im.some (by assumption) (by (try simp only [Go.Sv.bs_length]); omega) | exact Im.some (by assumption) (by simp; omega)) (by decide)) :
    WL P n ds ops Q (⟨some d, .fieldAddr t x i, ty, pos, af, some (j, want)⟩ :: rest) (real σ) w := wlg h hj hσ hy
theorem ql_fld {t : TypeId} {x : Operand} {i : Nat} (h : QL P n ds ops (Frm w0) QE rest (real (updG σ d ⟨v, true⟩))) (hy : ∀ w, Frm w0 w → Y P (real σ) ⟨some d, .fieldAddr t x i, ty, pos, af, none⟩ w v w := by
    intro wq hwq
    first
    | exact y_field rfl (by first | exact ⟨_, rfl⟩ | assumption | exact Im.some (by assumption) (by (try simp only [Go.Sv.bs_length]); omega) | exact Im.some (by assumption) (by simp; omega)) (by decide)) :
    QL P n ds ops (Frm w0) QE (⟨some d, .fieldAddr t x i, ty, pos, af, none⟩ :: rest) (real σ) := ql h (YQ.ofY hy)
theorem qlg_fld {t : TypeId} {x : Operand} {i : Nat} (h : QL P n ds ops (Frm w0) QE rest (real (updG σ d ⟨v, b && (c == want)⟩))) (hj : (ops[j]?).bind (·.dst) = some dj := by rfl) (hσ : σ dj = ⟨.bool c, b⟩ := by rfl) (hy : (b && (c == want)) = true → ∀ w, Frm w0 w → Y P (real σ) ⟨some d, .fieldAddr t x i, ty, pos, af, some (j, want)⟩ w v w := by
    intro hgd wq hwq
    first
    | exact y_field (evG hgd) (by first | exact ⟨_, rfl⟩ | assumption | exact Im.some (by assumption) (by (try simp only [Go.Sv.bs_length]); omega) | exact Im.some (by assumption) (by simp; omega)) (by decide)) :
    QL P n ds ops (Frm w0) QE (⟨some d, .fieldAddr t x i, ty, pos, af, some (j, want)⟩ :: rest) (real σ) := qlg h hj hσ fun hh => YQ.ofY (hy hh)
theorem wl_slc {t : TypeId} {x : Operand} {lo hi mx : Option Operand} (h : WL P n ds ops Q rest (real (updG σ d ⟨v, true⟩)) w) (hy : Y P (real σ) ⟨some d, .slice t x lo hi mx, ty, pos, af, none⟩ w v w := by
    first
    | exact y_sslice_from rfl rfl (by omega)
    | exact y_sslice_to rfl rfl (by omega)
    | exact y_sslice rfl rfl rfl (by omega)
    | exact y_rslice_from1 rfl rfl (by omega)
    | exact y_rslice_from rfl rfl (by omega)
    | exact y_rslice_to rfl rfl (by omega)
    | exact y_rslice1 rfl rfl rfl (by omega)
    | exact y_rslice rfl rfl rfl (by omega)
    | exact y_rslice3 rfl rfl rfl (by omega)
    | exact y_sslice_fromI rfl rfl (by omega)
    | exact y_sslice_toI rfl rfl (by omega)
    | exact y_ssliceI rfl rfl rfl (by omega)
    | exact y_rslice_fromI rfl rfl (by omega)
    | exact y_rslice_toI rfl rfl (by omega)) :
    WL P n ds ops Q (⟨some d, .slice t x lo hi mx, ty, pos, af, none⟩ :: rest) (real σ) w := wl h hy
theorem wlg_slc {t : TypeId} {x : Operand} {lo hi mx : Option Operand} (h : WL P n ds ops Q rest (real (updG σ d ⟨v, b && (c == want)⟩)) w) (hj : (ops[j]?).bind (·.dst) = some dj := by rfl) (hσ : σ dj = ⟨.bool c, b⟩ := by rfl) (hy : (b && (c == want)) = true → Y P (real σ) ⟨some d, .slice t x lo hi mx, ty, pos, af, some (j, want)⟩ w v w := by
    intro hgd
    first
    | exact y_sslice_from (evG hgd) (evG hgd) (by first | omega | (simp_all; omega) | (simp_all; done))
    | exact y_sslice_to (evG hgd) (evG hgd) (by first | omega | (simp_all; omega) | (simp_all; done))
    | exact y_sslice (evG hgd) (evG hgd) (evG hgd) (by first | omega | (simp_all; omega) | (simp_all; done))
    | exact y_rslice_from1 (evG hgd) (evG hgd) (by first | omega | (simp_all; omega) | (simp_all; done))
    | exact y_rslice_from (evG hgd) (evG hgd) (by first | omega | (simp_all; omega) | (simp_all; done))
    | exact y_rslice_to (evG hgd) (evG hgd) (by first | omega | (simp_all; omega) | (simp_all; done))
    | exact y_rslice1 (evG hgd) (evG hgd) (evG hgd) (by first | omega | (simp_all; omega) | (simp_all; done))
    | exact y_rslice (evG hgd) (evG hgd) (evG hgd) (by first | omega | (simp_all; omega) | (simp_all; done))
    | exact y_rslice3 (evG hgd) (evG hgd) (evG hgd) (by first | omega | (simp_all; omega) | (simp_all; done))
    | exact y_sslice_fromI (evG hgd) (evG hgd) (by first | omega | (simp_all; omega) | (simp_all; done))
    | exact y_sslice_toI (evG hgd) (evG hgd) (by first | omega | (simp_all; omega) | (simp_all; done))
    | exact y_ssliceI (evG hgd) (evG hgd) (evG hgd) (by first | omega | (simp_all; omega) | (simp_all; done))
    | exact y_rslice_fromI (evG hgd) (evG hgd) (by first | omega | (simp_all; omega) | (simp_all; done))
    | exact y_rslice_toI (evG hgd) (evG hgd) (by first | omega | (simp_all; omega) | (simp_all; done))) :
    WL P n ds ops Q (⟨some d, .slice t x lo hi mx, ty, pos, af, some (j, want)⟩ :: rest) (real σ) w := wlg h hj hσ hy
theorem ql_slc {t : TypeId} {x : Operand} {lo hi mx : Option Operand} (h : QL P n ds ops (Frm w0) QE rest (real (updG σ d ⟨v, true⟩))) (hy : ∀ w, Frm w0 w → Y P (real σ) ⟨some d, .slice t x lo hi mx, ty, pos, af, none⟩ w v w := by
    intro wq hwq
    first
    | exact y_sslice_from rfl rfl (by omega)
    | exact y_sslice_to rfl rfl (by omega)
    | exact y_sslice rfl rfl rfl (by omega)
    | exact y_rslice_from1 rfl rfl (by omega)
    | exact y_rslice_from rfl rfl (by omega)
    | exact y_rslice_to rfl rfl (by omega)
    | exact y_rslice1 rfl rfl rfl (by omega)
    | exact y_rslice rfl rfl rfl (by omega)
    | exact y_rslice3 rfl rfl rfl (by omega)
    | exact y_sslice_fromI rfl rfl (by omega)
    | exact y_sslice_toI rfl rfl (by omega)
    | exact y_ssliceI rfl rfl rfl (by omega)
    | exact y_rslice_fromI rfl rfl (by omega)
    | exact y_rslice_toI rfl rfl (by omega)) :
    QL P n ds ops (Frm w0) QE (⟨some d, .slice t x lo hi mx, ty, pos, af, none⟩ :: rest) (real σ) := ql h (YQ.ofY hy)
theorem qlg_slc {t : TypeId} {x : Operand} {lo hi mx : Option Operand} (h : QL P n ds ops (Frm w0) QE rest (real (updG σ d ⟨v, b && (c == want)⟩))) (hj : (ops[j]?).bind (·.dst) = some dj := by rfl) (hσ : σ dj = ⟨.bool c, b⟩ := by rfl) (hy : (b && (c == want)) = true → ∀ w, Frm w0 w → Y P (real σ) ⟨some d, .slice t x lo hi mx, ty, pos, af, some (j, want)⟩ w v w := by
    intro hgd wq hwq
    first
    | exact y_sslice_from (evG hgd) (evG hgd) (by first | omega | (simp_all; omega) | (simp_all; done))
    | exact y_sslice_to (evG hgd) (evG hgd) (by first | omega | (simp_all; omega) | (simp_all; done))
    | exact y_sslice (evG hgd) (evG hgd) (evG hgd) (by first | omega | (simp_all; omega) | (simp_all; done))
    | exact y_rslice_from1 (evG hgd) (evG hgd) (by first | omega | (simp_all; omega) | (simp_all; done))
    | exact y_rslice_from (evG hgd) (evG hgd) (by first | omega | (simp_all; omega) | (simp_all; done))
    | exact y_rslice_to (evG hgd) (evG hgd) (by first | omega | (simp_all; omega) | (simp_all; done))
    | exact y_rslice1 (evG hgd) (evG hgd) (evG hgd) (by first | omega | (simp_all; omega) | (simp_all; done))
    | exact y_rslice (evG hgd) (evG hgd) (evG hgd) (by first | omega | (simp_all; omega) | (simp_all; done))
    | exact y_rslice3 (evG hgd) (evG hgd) (evG hgd) (by first | omega | (simp_all; omega) | (simp_all; done))
    | exact y_sslice_fromI (evG hgd) (evG hgd) (by first | omega | (simp_all; omega) | (simp_all; done))
    | exact y_sslice_toI (evG hgd) (evG hgd) (by first | omega | (simp_all; omega) | (simp_all; done))
    | exact y_ssliceI (evG hgd) (evG hgd) (evG hgd) (by first | omega | (simp_all; omega) | (simp_all; done))
    | exact y_rslice_fromI (evG hgd) (evG hgd) (by first | omega | (simp_all; omega) | (simp_all; done))
    | exact y_rslice_toI (evG hgd) (evG hgd) (by first | omega | (simp_all; omega) | (simp_all; done))) :
    QL P n ds ops (Frm w0) QE (⟨some d, .slice t x lo hi mx, ty, pos, af, some (j, want)⟩ :: rest) (real σ) := qlg h hj hσ fun hh => YQ.ofY (hy hh)
theorem wl_idx {t : TypeId} {x y : Operand} (h : WL P n ds ops Q rest (real (updG σ d ⟨v, true⟩)) w) (hy : Y P (real σ) ⟨some d, .index t x y, ty, pos, af, none⟩ w v w := by
    first
    | exact y_sindexN rfl rfl (by omega)
    | exact y_sindexI rfl rfl (by omega)
    | exact y_aidx rfl rfl (by omega) (by first | rfl | assumption)
    | exact y_aidxI rfl rfl (by omega) (by first | rfl | assumption)) :
    WL P n ds ops Q (⟨some d, .index t x y, ty, pos, af, none⟩ :: rest) (real σ) w := wl h hy
theorem wlg_idx {t : TypeId} {x y : Operand} (h : WL P n ds ops Q rest (real (updG σ d ⟨v, b && (c == want)⟩)) w) (hj : (ops[j]?).bind (·.dst) = some dj := by rfl) (hσ : σ dj = ⟨.bool c, b⟩ := by rfl) (hy : (b && (c == want)) = true → Y P (real σ) ⟨some d, .index t x y, ty, pos, af, some (j, want)⟩ w v w := by
    intro hgd
    first
    | exact y_sindexN (evG hgd) (evG hgd) (by first | omega | (simp_all; omega) | (simp_all; done))
    | exact y_sindexI (evG hgd) (evG hgd) (by first | omega | (simp_all; omega) | (simp_all; done))
    | exact y_aidx (evG hgd) (evG hgd) (by first | omega | (simp_all; omega) | (simp_all; done)) (by first | rfl | assumption)
    | exact y_aidxI (evG hgd) (evG hgd) (by first | omega | (simp_all; omega) | (simp_all; done)) (by first | rfl | assumption)) :
    WL P n ds ops Q (⟨some d, .index t x y, ty, pos, af, some (j, want)⟩ :: rest) (real σ) w := wlg h hj hσ hy
theorem ql_idx {t : TypeId} {x y : Operand} (h : QL P n ds ops (Frm w0) QE rest (real (updG σ d ⟨v, true⟩))) (hy : ∀ w, Frm w0 w → Y P (real σ) ⟨some d, .index t x y, ty, pos, af, none⟩ w v w := by
    intro wq hwq
    first
    | exact y_sindexN rfl rfl (by omega)
    | exact y_sindexI rfl rfl (by omega)
    | exact y_aidx rfl rfl (by omega) (by first | rfl | assumption)
    | exact y_aidxI rfl rfl (by omega) (by first | rfl | assumption)) :
    QL P n ds ops (Frm w0) QE (⟨some d, .index t x y, ty, pos, af, none⟩ :: rest) (real σ) := ql h (YQ.ofY hy)
theorem qlg_idx {t : TypeId} {x y : Operand} (h : QL P n ds ops (Frm w0) QE rest (real (updG σ d ⟨v, b && (c == want)⟩))) (hj : (ops[j]?).bind (·.dst) = some dj := by rfl) (hσ : σ dj = ⟨.bool c, b⟩ := by rfl) (hy : (b && (c == want)) = true → ∀ w, Frm w0 w → Y P (real σ) ⟨some d, .index t x y, ty, pos, af, some (j, want)⟩ w v w := by
    intro hgd wq hwq
    first
    | exact y_sindexN (evG hgd) (evG hgd) (by first | omega | (simp_all; omega) | (simp_all; done))
    | exact y_sindexI (evG hgd) (evG hgd) (by first | omega | (simp_all; omega) | (simp_all; done))
    | exact y_aidx (evG hgd) (evG hgd) (by first | omega | (simp_all; omega) | (simp_all; done)) (by first | rfl | assumption)
    | exact y_aidxI (evG hgd) (evG hgd) (by first | omega | (simp_all; omega) | (simp_all; done)) (by first | rfl | assumption)) :
    QL P n ds ops (Frm w0) QE (⟨some d, .index t x y, ty, pos, af, some (j, want)⟩ :: rest) (real σ) := qlg h hj hσ fun hh => YQ.ofY (hy hh)
theorem wl_bin {bop : BinOp} {t t2 : TypeId} {x y : Operand} (h : WL P n ds ops Q rest (real (updG σ d ⟨v, true⟩)) w) (hy : Y P (real σ) ⟨some d, .binOp bop t x y t2, ty, pos, af, none⟩ w v w := by
    first
    | exact y_add64 rfl rfl (by omega)
    | exact y_sub64 rfl rfl (by omega)
    | exact y_sadd rfl rfl (by (try simp only [List.length_append, List.length_cons, List.length_nil, List.length_take, List.length_drop]); omega)
    | exact y_and rfl rfl
    | exact y_or rfl rfl
    | exact y_shr rfl rfl (by omega)
    | exact y_shl rfl rfl (by omega)
    | exact y_add32 rfl rfl (by omega)
    | exact y_sub32 rfl rfl (by omega)
    | exact y_add8 rfl rfl (by omega)
    | exact y_sub8 rfl rfl (by omega)
    | exact y_mul64 rfl rfl (by omega)
    | exact y_mul32 rfl rfl (by omega)
    | exact y_rem rfl rfl (by omega)
    | exact y_quo rfl rfl (by simp only [Go.IntKind.max, Go.IntKind.signed, Go.IntKind.bits]; omega)
    | exact y_xor rfl rfl
    | exact y_beql rfl rfl
    | exact y_bneq rfl rfl) :
    WL P n ds ops Q (⟨some d, .binOp bop t x y t2, ty, pos, af, none⟩ :: rest) (real σ) w := wl h hy
theorem wlg_bin {bop : BinOp} {t t2 : TypeId} {x y : Operand} (h : WL P n ds ops Q rest (real (updG σ d ⟨v, b && (c == want)⟩)) w) (hj : (ops[j]?).bind (·.dst) = some dj := by rfl) (hσ : σ dj = ⟨.bool c, b⟩ := by rfl) (hy : (b && (c == want)) = true → Y P (real σ) ⟨some d, .binOp bop t x y t2, ty, pos, af, some (j, want)⟩ w v w := by
    intro hgd
    first
    | exact y_add64 (evG hgd) (evG hgd) (by first | omega | (simp_all; omega) | (simp_all; done))
    | exact y_sub64 (evG hgd) (evG hgd) (by first | omega | (simp_all; omega) | (simp_all; done))
    | exact y_sadd (evG hgd) (evG hgd) (by (try simp only [List.length_append, List.length_cons, List.length_nil, List.length_take, List.length_drop]); omega)
    | exact y_and (evG hgd) (evG hgd)
    | exact y_or (evG hgd) (evG hgd)
    | exact y_shr (evG hgd) (evG hgd) (by first | omega | (simp_all; omega) | (simp_all; done))
    | exact y_shl (evG hgd) (evG hgd) (by first | omega | (simp_all; omega) | (simp_all; done))
    | exact y_add32 (evG hgd) (evG hgd) (by first | omega | (simp_all; omega) | (simp_all; done))
    | exact y_sub32 (evG hgd) (evG hgd) (by first | omega | (simp_all; omega) | (simp_all; done))
    | exact y_add8 (evG hgd) (evG hgd) (by first | omega | (simp_all; omega) | (simp_all; done))
    | exact y_sub8 (evG hgd) (evG hgd) (by first | omega | (simp_all; omega) | (simp_all; done))
    | exact y_mul64 (evG hgd) (evG hgd) (by first | omega | (simp_all; omega) | (simp_all; done))
    | exact y_mul32 (evG hgd) (evG hgd) (by first | omega | (simp_all; omega) | (simp_all; done))
    | exact y_rem (evG hgd) (evG hgd) (by first | omega | (simp_all; omega) | (simp_all; done))
    | exact y_quo (evG hgd) (evG hgd) (by simp only [Go.IntKind.max, Go.IntKind.signed, Go.IntKind.bits]; omega)
    | exact y_xor (evG hgd) (evG hgd)
    | exact y_beql (evG hgd) (evG hgd)
    | exact y_bneq (evG hgd) (evG hgd)) :
    WL P n ds ops Q (⟨some d, .binOp bop t x y t2, ty, pos, af, some (j, want)⟩ :: rest) (real σ) w := wlg h hj hσ hy
theorem ql_bin {bop : BinOp} {t t2 : TypeId} {x y : Operand} (h : QL P n ds ops (Frm w0) QE rest (real (updG σ d ⟨v, true⟩))) (hy : ∀ w, Frm w0 w → Y P (real σ) ⟨some d, .binOp bop t x y t2, ty, pos, af, none⟩ w v w := by
    intro wq hwq
    first
    | exact y_add64 rfl rfl (by omega)
    | exact y_sub64 rfl rfl (by omega)
    | exact y_sadd rfl rfl (by (try simp only [List.length_append, List.length_cons, List.length_nil, List.length_take, List.length_drop]); omega)
    | exact y_and rfl rfl
    | exact y_or rfl rfl
    | exact y_shr rfl rfl (by omega)
    | exact y_shl rfl rfl (by omega)
    | exact y_add32 rfl rfl (by omega)
    | exact y_sub32 rfl rfl (by omega)
    | exact y_add8 rfl rfl (by omega)
    | exact y_sub8 rfl rfl (by omega)
    | exact y_mul64 rfl rfl (by omega)
    | exact y_mul32 rfl rfl (by omega)
    | exact y_rem rfl rfl (by omega)
    | exact y_quo rfl rfl (by simp only [Go.IntKind.max, Go.IntKind.signed, Go.IntKind.bits]; omega)
    | exact y_xor rfl rfl
    | exact y_beql rfl rfl
    | exact y_bneq rfl rfl) :
    QL P n ds ops (Frm w0) QE (⟨some d, .binOp bop t x y t2, ty, pos, af, none⟩ :: rest) (real σ) := ql h (YQ.ofY hy)
theorem qlg_bin {bop : BinOp} {t t2 : TypeId} {x y : Operand} (h : QL P n ds ops (Frm w0) QE rest (real (updG σ d ⟨v, b && (c == want)⟩))) (hj : (ops[j]?).bind (·.dst) = some dj := by rfl) (hσ : σ dj = ⟨.bool c, b⟩ := by rfl) (hy : (b && (c == want)) = true → ∀ w, Frm w0 w → Y P (real σ) ⟨some d, .binOp bop t x y t2, ty, pos, af, some (j, want)⟩ w v w := by
    intro hgd wq hwq
    first
    | exact y_add64 (evG hgd) (evG hgd) (by first | omega | (simp_all; omega) | (simp_all; done))
    | exact y_sub64 (evG hgd) (evG hgd) (by first | omega | (simp_all; omega) | (simp_all; done))
    | exact y_sadd (evG hgd) (evG hgd) (by (try simp only [List.length_append, List.length_cons, List.length_nil, List.length_take, List.length_drop]); omega)
    | exact y_and (evG hgd) (evG hgd)
    | exact y_or (evG hgd) (evG hgd)
    | exact y_shr (evG hgd) (evG hgd) (by first | omega | (simp_all; omega) | (simp_all; done))
    | exact y_shl (evG hgd) (evG hgd) (by first | omega | (simp_all; omega) | (simp_all; done))
    | exact y_add32 (evG hgd) (evG hgd) (by first | omega | (simp_all; omega) | (simp_all; done))
    | exact y_sub32 (evG hgd) (evG hgd) (by first | omega | (simp_all; omega) | (simp_all; done))
    | exact y_add8 (evG hgd) (evG hgd) (by first | omega | (simp_all; omega) | (simp_all; done))
    | exact y_sub8 (evG hgd) (evG hgd) (by first | omega | (simp_all; omega) | (simp_all; done))
    | exact y_mul64 (evG hgd) (evG hgd) (by first | omega | (simp_all; omega) | (simp_all; done))
    | exact y_mul32 (evG hgd) (evG hgd) (by first | omega | (simp_all; omega) | (simp_all; done))
    | exact y_rem (evG hgd) (evG hgd) (by first | omega | (simp_all; omega) | (simp_all; done))
    | exact y_quo (evG hgd) (evG hgd) (by simp only [Go.IntKind.max, Go.IntKind.signed, Go.IntKind.bits]; omega)
    | exact y_xor (evG hgd) (evG hgd)
    | exact y_beql (evG hgd) (evG hgd)
    | exact y_bneq (evG hgd) (evG hgd)) :
    QL P n ds ops (Frm w0) QE (⟨some d, .binOp bop t x y t2, ty, pos, af, some (j, want)⟩ :: rest) (real σ) := qlg h hj hσ fun hh => YQ.ofY (hy hh)
theorem wl_cnv {t t2 : TypeId} {x : Operand} (h : WL P n ds ops Q rest (real (updG σ d ⟨v, true⟩)) w) (hy : Y P (real σ) ⟨some d, .convert t t2 x, ty, pos, af, none⟩ w v w := by
    first
    | exact y_conv_b32 rfl
    | exact y_conv_b64 rfl
    | exact y_conv8_32 rfl (by omega)
    | exact y_conv8_64 rfl (by omega)
    | exact y_conv32_8 rfl (by omega)
    | exact y_conv64_8 rfl (by omega)
    | exact y_conv32_64 rfl (by omega)
    | exact y_conv64_64 rfl (by omega)
    | exact y_conv64_32 rfl (by omega)
    | exact y_conv32_32 rfl (by omega)
    | exact y_conv_str rfl
    | exact y_conv rfl) :
    WL P n ds ops Q (⟨some d, .convert t t2 x, ty, pos, af, none⟩ :: rest) (real σ) w := wl h hy
theorem wlg_cnv {t t2 : TypeId} {x : Operand} (h : WL P n ds ops Q rest (real (updG σ d ⟨v, b && (c == want)⟩)) w) (hj : (ops[j]?).bind (·.dst) = some dj := by rfl) (hσ : σ dj = ⟨.bool c, b⟩ := by rfl) (hy : (b && (c == want)) = true → Y P (real σ) ⟨some d, .convert t t2 x, ty, pos, af, some (j, want)⟩ w v w := by
    intro hgd
    first
    | exact y_conv_b32 (evG hgd)
    | exact y_conv_b64 (evG hgd)
    | exact y_conv8_32 (evG hgd) (by first | omega | (simp_all; omega) | (simp_all; done))
    | exact y_conv8_64 (evG hgd) (by first | omega | (simp_all; omega) | (simp_all; done))
    | exact y_conv32_8 (evG hgd) (by first | omega | (simp_all; omega) | (simp_all; done))
    | exact y_conv64_8 (evG hgd) (by first | omega | (simp_all; omega) | (simp_all; done))
    | exact y_conv32_64 (evG hgd) (by first | omega | (simp_all; omega) | (simp_all; done))
    | exact y_conv64_64 (evG hgd) (by first | omega | (simp_all; omega) | (simp_all; done))
    | exact y_conv64_32 (evG hgd) (by first | omega | (simp_all; omega) | (simp_all; done))
    | exact y_conv32_32 (evG hgd) (by first | omega | (simp_all; omega) | (simp_all; done))
    | exact y_conv_str (evG hgd)
    | exact y_conv (evG hgd)) :
    WL P n ds ops Q (⟨some d, .convert t t2 x, ty, pos, af, some (j, want)⟩ :: rest) (real σ) w := wlg h hj hσ hy
theorem ql_cnv {t t2 : TypeId} {x : Operand} (h : QL P n ds ops (Frm w0) QE rest (real (updG σ d ⟨v, true⟩))) (hy : ∀ w, Frm w0 w → Y P (real σ) ⟨some d, .convert t t2 x, ty, pos, af, none⟩ w v w := by
    intro wq hwq
    first
    | exact y_conv_b32 rfl
    | exact y_conv_b64 rfl
    | exact y_conv8_32 rfl (by omega)
    | exact y_conv8_64 rfl (by omega)
    | exact y_conv32_8 rfl (by omega)
    | exact y_conv64_8 rfl (by omega)
    | exact y_conv32_64 rfl (by omega)
    | exact y_conv64_64 rfl (by omega)
    | exact y_conv64_32 rfl (by omega)
    | exact y_conv32_32 rfl (by omega)
    | exact y_conv_str rfl
    | exact y_conv rfl) :
    QL P n ds ops (Frm w0) QE (⟨some d, .convert t t2 x, ty, pos, af, none⟩ :: rest) (real σ) := ql h (YQ.ofY hy)
theorem qlg_cnv {t t2 : TypeId} {x : Operand} (h : QL P n ds ops (Frm w0) QE rest (real (updG σ d ⟨v, b && (c == want)⟩))) (hj : (ops[j]?).bind (·.dst) = some dj := by rfl) (hσ : σ dj = ⟨.bool c, b⟩ := by rfl) (hy : (b && (c == want)) = true → ∀ w, Frm w0 w → Y P (real σ) ⟨some d, .convert t t2 x, ty, pos, af, some (j, want)⟩ w v w := by
    intro hgd wq hwq
    first
    | exact y_conv_b32 (evG hgd)
    | exact y_conv_b64 (evG hgd)
    | exact y_conv8_32 (evG hgd) (by first | omega | (simp_all; omega) | (simp_all; done))
    | exact y_conv8_64 (evG hgd) (by first | omega | (simp_all; omega) | (simp_all; done))
    | exact y_conv32_8 (evG hgd) (by first | omega | (simp_all; omega) | (simp_all; done))
    | exact y_conv64_8 (evG hgd) (by first | omega | (simp_all; omega) | (simp_all; done))
    | exact y_conv32_64 (evG hgd) (by first | omega | (simp_all; omega) | (simp_all; done))
    | exact y_conv64_64 (evG hgd) (by first | omega | (simp_all; omega) | (simp_all; done))
    | exact y_conv64_32 (evG hgd) (by first | omega | (simp_all; omega) | (simp_all; done))
    | exact y_conv32_32 (evG hgd) (by first | omega | (simp_all; omega) | (simp_all; done))
    | exact y_conv_str (evG hgd)
    | exact y_conv (evG hgd)) :
    QL P n ds ops (Frm w0) QE (⟨some d, .convert t t2 x, ty, pos, af, some (j, want)⟩ :: rest) (real σ) := qlg h hj hσ fun hh => YQ.ofY (hy hh)
theorem wl_len {args : Array Operand} {ats : Array TypeId} (h : WL P n ds ops Q rest (real (updG σ d ⟨v, true⟩)) w) (hy : Y P (real σ) ⟨some d, .call ⟨.builtin .len, args, ats⟩, ty, pos, af, none⟩ w v w := by
    first
    | exact y_slen rfl rfl
    | exact y_len rfl rfl) :
    WL P n ds ops Q (⟨some d, .call ⟨.builtin .len, args, ats⟩, ty, pos, af, none⟩ :: rest) (real σ) w := wl h hy
theorem wlg_len {args : Array Operand} {ats : Array TypeId} (h : WL P n ds ops Q rest (real (updG σ d ⟨v, b && (c == want)⟩)) w) (hj : (ops[j]?).bind (·.dst) = some dj := by rfl) (hσ : σ dj = ⟨.bool c, b⟩ := by rfl) (hy : (b && (c == want)) = true → Y P (real σ) ⟨some d, .call ⟨.builtin .len, args, ats⟩, ty, pos, af, some (j, want)⟩ w v w := by
    intro hgd
    first
    | exact y_slen (evG hgd) rfl
    | exact y_len (evG hgd) rfl) :
    WL P n ds ops Q (⟨some d, .call ⟨.builtin .len, args, ats⟩, ty, pos, af, some (j, want)⟩ :: rest) (real σ) w := wlg h hj hσ hy
theorem ql_len {args : Array Operand} {ats : Array TypeId} (h : QL P n ds ops (Frm w0) QE rest (real (updG σ d ⟨v, true⟩))) (hy : ∀ w, Frm w0 w → Y P (real σ) ⟨some d, .call ⟨.builtin .len, args, ats⟩, ty, pos, af, none⟩ w v w := by
    intro wq hwq
    first
    | exact y_slen rfl rfl
    | exact y_len rfl rfl) :
    QL P n ds ops (Frm w0) QE (⟨some d, .call ⟨.builtin .len, args, ats⟩, ty, pos, af, none⟩ :: rest) (real σ) := ql h (YQ.ofY hy)
theorem qlg_len {args : Array Operand} {ats : Array TypeId} (h : QL P n ds ops (Frm w0) QE rest (real (updG σ d ⟨v, b && (c == want)⟩))) (hj : (ops[j]?).bind (·.dst) = some dj := by rfl) (hσ : σ dj = ⟨.bool c, b⟩ := by rfl) (hy : (b && (c == want)) = true → ∀ w, Frm w0 w → Y P (real σ) ⟨some d, .call ⟨.builtin .len, args, ats⟩, ty, pos, af, some (j, want)⟩ w v w := by
    intro hgd wq hwq
    first
    | exact y_slen (evG hgd) rfl
    | exact y_len (evG hgd) rfl) :
    QL P n ds ops (Frm w0) QE (⟨some d, .call ⟨.builtin .len, args, ats⟩, ty, pos, af, some (j, want)⟩ :: rest) (real σ) := qlg h hj hσ fun hh => YQ.ofY (hy hh)
theorem wl_una {uop : UnOp} {t : TypeId} {x : Operand} (h : WL P n ds ops Q rest (real (updG σ d ⟨v, true⟩)) w) (hy : Y P (real σ) ⟨some d, .unOp uop t x, ty, pos, af, none⟩ w v w := by
    first
    | exact y_neg rfl) :
    WL P n ds ops Q (⟨some d, .unOp uop t x, ty, pos, af, none⟩ :: rest) (real σ) w := wl h hy
theorem wlg_una {uop : UnOp} {t : TypeId} {x : Operand} (h : WL P n ds ops Q rest (real (updG σ d ⟨v, b && (c == want)⟩)) w) (hj : (ops[j]?).bind (·.dst) = some dj := by rfl) (hσ : σ dj = ⟨.bool c, b⟩ := by rfl) (hy : (b && (c == want)) = true → Y P (real σ) ⟨some d, .unOp uop t x, ty, pos, af, some (j, want)⟩ w v w := by
    intro hgd
    first
    | exact y_neg (evG hgd)) :
    WL P n ds ops Q (⟨some d, .unOp uop t x, ty, pos, af, some (j, want)⟩ :: rest) (real σ) w := wlg h hj hσ hy
theorem ql_una {uop : UnOp} {t : TypeId} {x : Operand} (h : QL P n ds ops (Frm w0) QE rest (real (updG σ d ⟨v, true⟩))) (hy : ∀ w, Frm w0 w → Y P (real σ) ⟨some d, .unOp uop t x, ty, pos, af, none⟩ w v w := by
    intro wq hwq
    first
    | exact y_neg rfl) :
    QL P n ds ops (Frm w0) QE (⟨some d, .unOp uop t x, ty, pos, af, none⟩ :: rest) (real σ) := ql h (YQ.ofY hy)
theorem qlg_una {uop : UnOp} {t : TypeId} {x : Operand} (h : QL P n ds ops (Frm w0) QE rest (real (updG σ d ⟨v, b && (c == want)⟩))) (hj : (ops[j]?).bind (·.dst) = some dj := by rfl) (hσ : σ dj = ⟨.bool c, b⟩ := by rfl) (hy : (b && (c == want)) = true → ∀ w, Frm w0 w → Y P (real σ) ⟨some d, .unOp uop t x, ty, pos, af, some (j, want)⟩ w v w := by
    intro hgd wq hwq
    first
    | exact y_neg (evG hgd)) :
    QL P n ds ops (Frm w0) QE (⟨some d, .unOp uop t x, ty, pos, af, some (j, want)⟩ :: rest) (real σ) := qlg h hj hσ fun hh => YQ.ofY (hy hh)
theorem wl_mkf {fn : Fn} {first captured : Array Operand} (h : WL P n ds ops Q rest (real (updG σ d ⟨v, true⟩)) w) (hy : Y P (real σ) ⟨some d, .makeFunc fn first captured, ty, pos, af, none⟩ w v w := by
    first
    | exact y_makefuncL
    | exact y_makefunc) :
    WL P n ds ops Q (⟨some d, .makeFunc fn first captured, ty, pos, af, none⟩ :: rest) (real σ) w := wl h hy
theorem wlg_mkf {fn : Fn} {first captured : Array Operand} (h : WL P n ds ops Q rest (real (updG σ d ⟨v, b && (c == want)⟩)) w) (hj : (ops[j]?).bind (·.dst) = some dj := by rfl) (hσ : σ dj = ⟨.bool c, b⟩ := by rfl) (hy : (b && (c == want)) = true → Y P (real σ) ⟨some d, .makeFunc fn first captured, ty, pos, af, some (j, want)⟩ w v w := by
    intro hgd
    first
    | exact y_makefuncL
    | exact y_makefunc) :
    WL P n ds ops Q (⟨some d, .makeFunc fn first captured, ty, pos, af, some (j, want)⟩ :: rest) (real σ) w := wlg h hj hσ hy
theorem ql_mkf {fn : Fn} {first captured : Array Operand} (h : QL P n ds ops (Frm w0) QE rest (real (updG σ d ⟨v, true⟩))) (hy : ∀ w, Frm w0 w → Y P (real σ) ⟨some d, .makeFunc fn first captured, ty, pos, af, none⟩ w v w := by
    intro wq hwq
    first
    | exact y_makefuncL
    | exact y_makefunc) :
    QL P n ds ops (Frm w0) QE (⟨some d, .makeFunc fn first captured, ty, pos, af, none⟩ :: rest) (real σ) := ql h (YQ.ofY hy)
theorem qlg_mkf {fn : Fn} {first captured : Array Operand} (h : QL P n ds ops (Frm w0) QE rest (real (updG σ d ⟨v, b && (c == want)⟩))) (hj : (ops[j]?).bind (·.dst) = some dj := by rfl) (hσ : σ dj = ⟨.bool c, b⟩ := by rfl) (hy : (b && (c == want)) = true → ∀ w, Frm w0 w → Y P (real σ) ⟨some d, .makeFunc fn first captured, ty, pos, af, some (j, want)⟩ w v w := by
    intro hgd wq hwq
    first
    | exact y_makefuncL
    | exact y_makefunc) :
    QL P n ds ops (Frm w0) QE (⟨some d, .makeFunc fn first captured, ty, pos, af, some (j, want)⟩ :: rest) (real σ) := qlg h hj hσ fun hh => YQ.ofY (hy hh)
theorem wl_nilc {x : Operand} (h : WL P n ds ops Q rest (real (updG σ d ⟨v, true⟩)) w) (hy : Y P (real σ) ⟨some d, .nilCheck x, ty, pos, af, none⟩ w v w := by
    first
    | exact y_nilcheckp rfl (by first | exact ⟨_, rfl⟩ | assumption | exact Im.some (by assumption) (by (try simp only [Go.Sv.bs_length]); omega) | exact Im.some (by assumption) (by simp; omega))
    | exact y_nilcheck rfl) :
    WL P n ds ops Q (⟨some d, .nilCheck x, ty, pos, af, none⟩ :: rest) (real σ) w := wl h hy
theorem wlg_nilc {x : Operand} (h : WL P n ds ops Q rest (real (updG σ d ⟨v, b && (c == want)⟩)) w) (hj : (ops[j]?).bind (·.dst) = some dj := by rfl) (hσ : σ dj = ⟨.bool c, b⟩ := by rfl) (hy : (b && (c == want)) = true → Y P (real σ) ⟨some d, .nilCheck x, ty, pos, af, some (j, want)⟩ w v w := by
    intro hgd
    first
    | exact y_nilcheckp (evG hgd) (by first | exact ⟨_, rfl⟩ | assumption | exact Im.some (by assumption) (by (try simp only [Go.Sv.bs_length]); omega) | exact Im.some (by assumption) (by simp; omega))
    | exact y_nilcheck (evG hgd)) :
    WL P n ds ops Q (⟨some d, .nilCheck x, ty, pos, af, some (j, want)⟩ :: rest) (real σ) w := wlg h hj hσ hy
theorem ql_nilc {x : Operand} (h : QL P n ds ops (Frm w0) QE rest (real (updG σ d ⟨v, true⟩))) (hy : ∀ w, Frm w0 w → Y P (real σ) ⟨some d, .nilCheck x, ty, pos, af, none⟩ w v w := by
    intro wq hwq
    first
    | exact y_nilcheckp rfl (by first | exact ⟨_, rfl⟩ | assumption | exact Im.some (by assumption) (by (try simp only [Go.Sv.bs_length]); omega) | exact Im.some (by assumption) (by simp; omega))
    | exact y_nilcheck rfl) :
    QL P n ds ops (Frm w0) QE (⟨some d, .nilCheck x, ty, pos, af, none⟩ :: rest) (real σ) := ql h (YQ.ofY hy)
theorem qlg_nilc {x : Operand} (h : QL P n ds ops (Frm w0) QE rest (real (updG σ d ⟨v, b && (c == want)⟩))) (hj : (ops[j]?).bind (·.dst) = some dj := by rfl) (hσ : σ dj = ⟨.bool c, b⟩ := by rfl) (hy : (b && (c == want)) = true → ∀ w, Frm w0 w → Y P (real σ) ⟨some d, .nilCheck x, ty, pos, af, some (j, want)⟩ w v w := by
    intro hgd wq hwq
    first
    | exact y_nilcheckp (evG hgd) (by first | exact ⟨_, rfl⟩ | assumption | exact Im.some (by assumption) (by (try simp only [Go.Sv.bs_length]); omega) | exact Im.some (by assumption) (by simp; omega))
    | exact y_nilcheck (evG hgd)) :
    QL P n ds ops (Frm w0) QE (⟨some d, .nilCheck x, ty, pos, af, some (j, want)⟩ :: rest) (real σ) := qlg h hj hσ fun hh => YQ.ofY (hy hh)
end
end Go.Sv

/-
  Slices of one's own: append, stores into them; literals of structs and slices; conversions between strings and bytes.
-/
set_option linter.unusedSimpArgs false
set_option linter.unusedVariables false
set_option linter.unnecessarySimpa false
namespace Go.Sv
open Go Go.RowKit

/-- the block of an address -/
def rb : Option Addr → List Nat
  | none => []
  | some a => [a.block]
/-- a slice of one's own: n elements of 'size' cells, which are xs; nobody else has its block -/
def Row (w : World) (size : Nat) (p : Option Addr) (n c : Nat) (xs : List Value) : Prop :=
  xs.length = n * size ∧ ((p = none ∧ n = 0 ∧ c = 0) ∨
   ∃ b off cur e, p = some ⟨b, off, none⟩ ∧ w.heap[b]? = some (.cells cur e (0, 0)) ∧ n ≤ c ∧ c ≤ 9223372036854775807 ∧ off + c * size ≤ cur.size ∧ (cur.toList.drop off).take (n * size) = xs)

section
variable {P : Program} {w w' : World} {size n c m : Nat} {p : Option Addr} {xs news : List Value} {M M' : List Nat}
theorem Row.nil (w : World) (size : Nat) : Row w size none 0 0 [] := ⟨by simp, .inl ⟨rfl, rfl, rfl⟩⟩
theorem Row.len (h : Row w size p n c xs) : xs.length = n * size := h.1
theorem Row.le_cap (h : Row w size p n c xs) : n ≤ c ∧ c ≤ 9223372036854775807 := by
  rcases h.2 with ⟨_, rfl, rfl⟩ | ⟨b, off, cur, e, _, _, h1, h2, _⟩
  · omega
  · exact ⟨h1, h2⟩
theorem Row.lt (h : Row w size p n c xs) : ∀ b ∈ rb p, b < w.heap.size := by
  rcases h.2 with ⟨rfl, _⟩ | ⟨b, off, cur, e, rfl, h1, _⟩
  · simp [rb]
  · intro x hx
    simp only [rb, List.mem_singleton] at hx
    subst hx
    exact (Array.getElem?_eq_some_iff.1 h1).1
theorem Row.of_block (h : Row w size p n c xs) (hb : ∀ b ∈ rb p, w'.heap[b]? = w.heap[b]?) : Row w' size p n c xs := by
  refine ⟨h.1, ?_⟩
  rcases h.2 with h1 | ⟨b, off, cur, e, rfl, h1, h2⟩
  · exact .inl h1
  · exact .inr ⟨b, off, cur, e, rfl, by rw [hb b (by simp [rb])]; exact h1, h2⟩
theorem Row.le (h : Row w size p n c xs) (hl : Le M w w') (hb : ∀ b ∈ rb p, b ∉ M) : Row w' size p n c xs := h.of_block fun b hh => hl.block b (h.lt b hh) (hb b hh)
theorem Row.frm (h : Row w size p n c xs) (hl : Frm w w') : Row w' size p n c xs := h.le (M := []) hl.le (by simp)
theorem Row.seg (h : Row w size p n c xs) : xs = [] ∨ ∃ a, p = some a ∧ seg w a xs := by
  rcases h.2 with ⟨rfl, rfl, _⟩ | ⟨b, off, cur, e, rfl, h1, h2, h3, h4, h5⟩
  · exact .inl (List.eq_nil_of_length_eq_zero (by simpa using h.1))
  · refine .inr ⟨_, rfl, fun i hi => ?_⟩
    have e : (⟨b, off, none⟩ : Addr).add i = ⟨b, off + i, none⟩ := by unfold Addr.add; split <;> simp_all
    rw [e, cell_of_row w b (off + i) cur _ (0, 0) h1, ← h5]
    have hl : i < n * size := by rw [← h.1]; exact hi
    rw [List.getElem?_take_of_lt hl, List.getElem?_drop]; simp
theorem Row.sg (h : Row w size p n c xs) : Sg w p xs := h.seg
/-- a slice that is written no more -/
theorem Row.im (h : Row w size p n c xs) (hb : ∀ b ∈ rb p, b ∉ M) : Im M w p xs := by
  rcases h.seg with hh | ⟨a, rfl, h1⟩
  · exact .inl hh
  · exact .inr ⟨a, rfl, h1, h.lt _ (by simp [rb]), hb _ (by simp [rb])⟩
theorem Row.of_own {b : Nat} {l : List Value} (h : Own w b l) (hl : l.length = n * size) (hn : n ≤ 9223372036854775807) : Row w size (pb b) n n l := by
  obtain ⟨e, h⟩ := h
  refine ⟨hl, .inr ⟨b, 0, _, e, rfl, h, Nat.le_refl _, hn, by simp [hl], by simp [← hl]⟩⟩
/-- a shorter slice of the same memory -/
theorem Row.take (h : Row w size p n c xs) {j : Nat} (hj : j ≤ n) : Row w size p j c (xs.take (j * size)) := by
  have hle : j * size ≤ n * size := Nat.mul_le_mul_right _ hj
  refine ⟨by rw [List.length_take, h.1]; omega, ?_⟩
  rcases h.2 with ⟨rfl, rfl, rfl⟩ | ⟨b, off, cur, e, rfl, h1, h2, h3, h4, h5⟩
  · exact .inl ⟨rfl, by omega, rfl⟩
  · refine .inr ⟨b, off, cur, e, rfl, h1, by omega, h3, h4, ?_⟩
    rw [← h5, List.take_take, Nat.min_eq_left hle]
/-- with less room -/
theorem Row.cap (h : Row w size p n c xs) {j : Nat} (hj : n ≤ j) (hc : j ≤ c) : Row w size p n j xs := by
  refine ⟨h.1, ?_⟩
  rcases h.2 with ⟨rfl, rfl, rfl⟩ | ⟨b, off, cur, e, rfl, h1, h2, h3, h4, h5⟩
  · exact .inl ⟨rfl, rfl, by omega⟩
  · have : j * size ≤ c * size := Nat.mul_le_mul_right _ hc
    exact .inr ⟨b, off, cur, e, rfl, h1, hj, by omega, by omega, h5⟩

theorem src_of_sg {tx e' : TypeId} [hu : Und P tx (.slice e')] (hs : Sg w p news) (hl : news.length = m * size) (h1 : ∀ u ∈ news, u.oneCell' = true) : Src P size tx (.slice p m c) m news w := by
  rcases hs with rfl | ⟨a, rfl, hs⟩
  · have h0 : (Builtin.firstCells size m (.slice p m c)).run P w = .ok #[] w := by
      cases p with
      | none => exact run_firstCells_none w size m m c
      | some a => exact run_firstCells_some w size m a m c [] hl (by simp)
    have h0d : (Builtin.firstCells size m (.slice p m c)).run P w.drew = .ok #[] w.drew := by
      cases p with
      | none => exact run_firstCells_none w.drew size m m c
      | some a => exact run_firstCells_some w.drew size m a m c [] hl (by simp)
    exact ⟨.inl ⟨e', hu.ok⟩, fun _ => rfl, h0, h0d, hl, h1⟩
  · refine Src.ofSlice w hu.ok a m c news hl (fun j u hj => ?_) h1
    have hlt : j < news.length := by
      rcases Nat.lt_or_ge j news.length with h | h
      · exact h
      · rw [List.getElem?_eq_none h] at hj; cases hj
    rw [hs j hlt]; exact hj

theorem run_append_row {t tx ty e : TypeId} {z : Value} {bytes : Nat} {x : Value} [hu : Und P t (.slice e)] [hi : Inf P e z size bytes] (hz : z.cells.size = size) (hsz : 0 < size) (hr : Row w size p n c xs) (hs : Src P size tx x m news w)
    (h63 : n + m ≤ 9223372036854775807) (hb : (n + m) * bytes ≤ 140737488355328) :
    ∃ p' c' w', (Builtin.append_ #[t, tx] ty #[.slice p n c, x]).run P w = .ok (.slice p' (n + m) c') w' ∧ Row w' size p' (n + m) c' (xs ++ news) ∧ Lm (rb p) w (rb p') w' := by
  obtain ⟨i, hi1, hi2, hi3, hi4⟩ := inf_size (P := P) (t := e)
  subst hi3
  subst hi4
  have hlen : (xs ++ news).length = (n + m) * i.size := by rw [List.length_append, hr.1, hs.newsLen, Nat.add_mul]
  by_cases hroom : n + m ≤ c
  · rcases hr.2 with ⟨rfl, rfl, rfl⟩ | ⟨b, off, cur, e', rfl, h1, h2, h3, h4, h5⟩
    · have hm : m = 0 := by omega
      subst hm
      have hn : news = [] := List.eq_nil_of_length_eq_zero (by simpa using hs.newsLen)
      subst hn
      refine ⟨none, 0, w, ?_, by simpa using hr, ⟨Le.refl _ _, fun _ h _ => h⟩⟩
      rcases hs.kind with ⟨e', hk⟩ | hk <;> simp [Builtin.append_, run_underlying hu.ok, run_underlying hk, sizeOf, typeInfo, hi1, hs.len, hs.cells]
    · have hfit : off + (n * i.size) + news.length ≤ cur.size := by
        have : (n + m) * i.size ≤ c * i.size := Nat.mul_le_mul_right _ hroom
        rw [Nat.add_mul] at this
        rw [hs.newsLen]; omega
      have hst := run_storeCells_at P b (off + n * i.size) e' news 0 cur w h1 (by omega) hs.one
      simp only [Nat.add_zero] at hst
      have ha : (⟨b, off, none⟩ : Addr).add (n * i.size) = ⟨b, off + n * i.size, none⟩ := by unfold Addr.add; split <;> simp_all
      refine ⟨some ⟨b, off, none⟩, c, w.setRow b (cur.toList.take (off + n * i.size) ++ news ++ cur.toList.drop (off + n * i.size + news.length)).toArray, ?_, ⟨hlen, .inr ⟨b, off, _, e', rfl, setRow_heap w b cur _ e' (0, 0) h1, hroom, h3, ?_, ?_⟩⟩, ⟨le_setRow w b _, fun _ h _ => h⟩⟩
      · rcases hs.kind with ⟨e'', hk⟩ | hk <;> simp [Builtin.append_, run_underlying hu.ok, run_underlying hk, sizeOf, typeInfo, hi1, hs.len, hroom, hs.cells, ha, hst]
      · simp only [List.size_toArray, List.length_append, List.length_take, List.length_drop, Array.length_toList]; omega
      · have e1 : List.drop off (cur.toList.take (off + n * i.size)) = xs := by
          rw [List.drop_take, ← h5]; congr 1; omega
        have hl0 : off ≤ (cur.toList.take (off + n * i.size)).length := by simp; omega
        rw [List.append_assoc, List.drop_append_of_le_length hl0, e1, ← List.append_assoc, ← hlen, List.take_left]
  · have hold : (Builtin.firstCells i.size n (.slice p n c)).run P w.drew = .ok xs.toArray w.drew := by
      rcases hr.seg with h0 | ⟨a, rfl, h0⟩
      · subst h0
        have hn0 : n * i.size = 0 := by simpa using hr.1.symm
        cases p with
        | none => exact run_firstCells_none w.drew i.size n n c
        | some a => exact run_firstCells_some w.drew i.size n a n c [] (by simpa using hn0.symm) (by simp)
      · refine run_firstCells_some w.drew i.size n a n c xs hr.1 (fun j v hj => ?_)
        have hlt : j < xs.length := by
          rcases Nat.lt_or_ge j xs.length with h | h
          · exact h
          · rw [List.getElem?_eq_none h] at hj; cases hj
        have := h0 j hlt
        rw [World.cell?_drew, this]; exact hj
    have hrun := run_append_grow_src (P := P) w t tx ty e i z hu.ok hi1 hi2 p n c xs hold x m news hs (by omega) (by omega) (growslice_fits (by omega) hb)
    have hge := grownCap_ge w (n + m) c e
    have hcm := grownCap_le_maxLen w (n + m) c e (by unfold maxLen; omega)
    refine ⟨_, _, _, hrun, ⟨hlen, .inr ⟨w.heap.size, 0, _, e, rfl, heap_alloc_new w.drew _, hge, by unfold maxLen at hcm; omega, ?_, ?_⟩⟩, ⟨⟨rfl, rfl, rfl, by simp, fun k hk _ => Below.heap_alloc w.drew _ k hk⟩, fun b hb hlt => ?_⟩⟩
    · simp only [Array.size_append, List.size_toArray, hlen, size_zeroCells, hz, ← Nat.add_mul, Nat.zero_add]
      apply Nat.mul_le_mul_right; omega
    · simp only [List.drop_zero, Array.toList_append]
      rw [← hlen]; exact List.take_left
    · simp only [rb, List.mem_singleton] at hb
      omega
end

section
variable {P : Program} {n : Nat} {ds : Ctx} {ops : Array Oper} {Q : Exit → Ctx → Env → World → Prop} {rest : List Oper} {σ : GE} {w : World} {v : Value} {d : Nat} {ty t t' e e' : TypeId} {pos : String} {af : Array Edge} {x y : Operand} {zv : Value} {size bytes : Nat} {p q : Option Addr} {l xs news : List Value} {b i m k c c' : Nat} {M : List Nat}

theorem run_append_op {g : Option (Nat × Bool)} {dd : Option Nat} {u : Value} {w' : World} {σ : Env} (hx : evl σ x = v) (hy : evl σ y = u) (h : (Builtin.append_ #[t, t'] ty #[v, u]).run P w = .ok (.slice q m c) w') :
    Y P σ ⟨dd, .call ⟨.builtin .append, #[x, y], #[t, t']⟩, ty, pos, af, g⟩ w (.slice q m c) w' := by
  refine Y.val ?_
  simp only [execOp, resolve, Sem.run_bind, Sem.run_pure, Result.andThen_ok, invoke, builtin]
  simp [hx, hy, h]

/-- append(x, y...) to a slice of one's own -/
theorem wlappend [hu : Und P t (.slice e)] [hu' : Und P t' (.slice e')] [hi : Inf P e zv size bytes] (hx : evl (real σ) x = .slice p m c) (hr : Row w size p m c xs) (hy : evl (real σ) y = .slice q k c') (hs : Sg w q news) (hl : news.length = k * size)
    (h1 : ∀ u ∈ news, u.oneCell' = true) (hz : zv.cells.size = size) (hsz : 0 < size) (hb : (m + k) * bytes ≤ 140737488355328 ∧ m + k ≤ 9223372036854775807)
    (h : ∀ p' c' w', Row w' size p' (m + k) c' (xs ++ news) → Lm (rb p) w (rb p') w' → WL P n ds ops Q rest (real (updG σ d ⟨.slice p' (m + k) c', true⟩)) w') :
    WL P n ds ops Q (⟨some d, .call ⟨.builtin .append, #[x, y], #[t, t']⟩, ty, pos, af, none⟩ :: rest) (real σ) w := by
  obtain ⟨p', c2, w', h2, h3, h4⟩ := run_append_row (P := P) (t := t) (tx := t') (ty := ty) (e := e) hz hsz hr (src_of_sg (tx := t') (c := c') hs hl h1) hb.2 hb.1
  exact wl (h p' c2 w' h3 h4) (run_append_op hx hy h2)
/-- a slice written out, of one element -/
theorem run_buildSlice1 [hu : Und P t (.slice e)] [hi : Inf P e zv size bytes] (hz : zv.cells.size = size) (hv : v.cells.size = size) (hsz : 0 < size) (hm : size ≤ 16777216) (w : World) :
    (Instr.buildSlice t 1 #[(0, v)]).run P w = .ok (.slice (some ⟨w.heap.size, 0, none⟩) 1 1) (w.alloc (.cells v.cells e)) := by
  have h0 : ¬ (size = 0) := by omega
  have hg : ¬ (size > 2 ^ 24) := by omega
  have hf : Instr.fill (fun i => some (i * size, size)) ((Array.range (1 * size)).map (zv.cells[· % zv.cells.size]!)) [(0, v)] = some v.cells := by
    simp only [Instr.fill, hv, Nat.zero_mul, Nat.zero_add]
    rw [if_neg (by simp)]
    congr 1
    have key : ∀ (a z : Array Value), z.size = a.size → a.zipIdx.foldl (fun cs (c, j) => cs.setIfInBounds (0 + j) c) z = a := by
      intro a z haz
      have gen : ∀ (l : List Value) (k : Nat) (z : Array Value), k + l.length = z.size → (l.zipIdx k).foldl (fun cs (p : Value × Nat) => cs.setIfInBounds (0 + p.2) p.1) z = ((z.toList.take k) ++ l).toArray := by
        intro l
        induction l with
        | nil => intro k z hk; simp at hk ⊢; apply Array.ext'; simp only [hk]; rw [List.take_of_length_le (by simp)]
        | cons x l ih =>
          intro k z hk
          simp only [List.zipIdx_cons, List.foldl_cons, Nat.zero_add]
          have := ih (k + 1) (z.setIfInBounds k x) (by simp at hk ⊢; omega)
          simp only [Nat.zero_add] at this
          rw [this]
          congr 1
          simp only [Array.toList_setIfInBounds]
          have hkl : k < z.toList.length := by simp at hk ⊢; omega
          rw [List.take_succ_eq_append_getElem (by simpa using hkl)]
          rw [List.take_set_of_le (Nat.le_refl k)]
          simp
      have := gen a.toList 0 z (by simp [haz])
      rw [← Array.foldl_toList]
      simpa [Array.toList_zipIdx] using this
    have := key v.cells ((Array.range (1 * size)).map (zv.cells[· % zv.cells.size]!)) (by simp [hv])
    simpa using this
  simp only [Instr.buildSlice, Sem.run_bind, underlying, run_program, Result.andThen_ok, hu.ok, Sem.run_pure, run_sizeOf (P := P) (t := e), Nat.one_mul]
  rw [if_neg hg, if_neg h0]
  simp only [Sem.run_bind, Sem.run_pure, Result.andThen_ok, run_zeroValue (P := P) (t := e)]
  rw [Nat.one_mul] at hf
  rw [hf]
  simp [newRow]
theorem wlbuild1 [hu : Und P t (.slice e)] [hi : Inf P e zv size bytes] (hx : evl (real σ) x = v) (hv : v.cells.size = size) (hz : zv.cells.size = size) (hsz : 0 < size) (hm : size ≤ 16777216)
    (h : ∀ b w', w.heap.size ≤ b → Own w' b v.cells.toList → Frm w w' → WL P n ds ops Q rest (real (updG σ d ⟨.slice (pb b) 1 1, true⟩)) w') :
    WL P n ds ops Q (⟨some d, .buildSlice t 1 #[(0, x)], ty, pos, af, none⟩ :: rest) (real σ) w := by
  refine wl (h w.heap.size (w.alloc (.cells v.cells e)) (Nat.le_refl _) (own_alloc _ _ _) (frm_alloc _ _)) (Y.val ?_)
  simp only [execOp, List.map_toArray, List.map_cons, List.map_nil, hx, Sem.run_bind]
  rw [run_buildSlice1 (P := P) (t := t) (e := e) hz hv hsz hm]
  rfl

/-- []byte(s) -/
theorem wls2b [hu : Und P t .string] [hu' : Und P t' (.slice e)] [he : Und P e (.int .u8)] {s : List UInt8} (hx : evl (real σ) x = str s) (hs : s.length ≤ 9223372036854775807)
    (h : ∀ b c w', w.heap.size ≤ b → s.length ≤ c → c ≤ 9223372036854775807 → Im [] w' (pb b) (bs s) → Frm w w' → WL P n ds ops Q rest (real (updG σ d ⟨.slice (pb b) s.length c, true⟩)) w') :
    WL P n ds ops Q (⟨some d, .convert t t' x, ty, pos, af, none⟩ :: rest) (real σ) w := by
  let c := grownCap w s.length 0 e
  let C : Array Value := (s.toArray.map fun b => Value.int .u8 b.toNat) ++ Array.replicate (c - s.length) (.int .u8 0)
  have hge : s.length ≤ c := grownCap_ge w s.length 0 e
  have hcm : c ≤ maxLen := grownCap_le_maxLen w s.length 0 e (by unfold maxLen; omega)
  have hsz : C.size = c := by simp [C]; omega
  have hheap : (w.drew.alloc (.cells C e)).heap[w.heap.size]? = some (.cells C e) := heap_alloc_new w.drew _
  let w' := (w.drew.alloc (.cells C e)).freeze ⟨w.heap.size, C.size, none⟩ 1
  have hw' : w'.heap[w.heap.size]? = some (.cells C e (C.size, C.size + 1)) := by
    simp only [w', World.freeze, Nat.one_ne_zero, if_false, Array.getElem?_modify, if_true]
    rw [hheap]; simp
  have hother : ∀ k, k < w.heap.size → w'.heap[k]? = w.heap[k]? := by
    intro k hk
    simp only [w', World.freeze, Nat.one_ne_zero, if_false, Array.getElem?_modify]
    rw [if_neg (by omega)]
    exact Below.heap_alloc w.drew _ k hk
  refine wl (h w.heap.size c w' (Nat.le_refl _) hge (by unfold maxLen at hcm; omega) ?_ ?_) (Y.val ?_)
  · refine .inr ⟨_, rfl, fun i hi => ?_, (Array.getElem?_eq_some_iff.1 hw').1, by simp⟩
    have ea : (⟨w.heap.size, 0, none⟩ : Addr).add i = ⟨w.heap.size, i, none⟩ := by unfold Addr.add; split <;> simp_all
    rw [ea, cell_of_row w' _ i C e _ hw']
    have hi' : i < s.length := by simpa using hi
    have hlt : i < (s.toArray.map fun b => Value.int .u8 b.toNat).size := by simpa using hi'
    simp only [C]
    rw [Array.getElem?_append_left hlt]
    simp [bs, hi']
  · exact ⟨rfl, rfl, rfl, by simp [w', World.freeze], hother⟩
  · have e1 : (ByteArray.mk s.toArray).data = s.toArray := rfl
    simp only [execOp, hx, convert, underlying, Sem.run_bind, run_program, Result.andThen_ok, hu.ok, hu'.ok, he.ok, Sem.run_pure, Conv.stringToBytes, run_choose, Question.forced, size_str, newRow, run_newObj, markStringish, run_shape]
    have hshape : (w.drew.alloc (.cells C e)).shape? w.heap.size = some (e, C.size) := by simp only [World.shape?, hheap]
    have hr : (w.drew.heap.size) = w.heap.size := rfl
    simp only [Bool.false_eq_true, if_false, Result.andThen_ok, World.alloc_eq, e1]
    change (((Sem.run P (match (w.drew.alloc (.cells C e)).shape? w.heap.size with | some (_, n) => freeze { block := w.heap.size, off := n } 1 | _ => pure ()) (w.drew.alloc (.cells C e))).andThen _).andThen _) = _
    rw [hshape]
    simp only [run_freeze, Result.andThen_ok, Sem.run_pure]
    rfl
end

/-! ## Literals of structs -/
def setSeg (l : List Value) (off : Nat) (vs : List Value) : List Value := l.take off ++ vs ++ l.drop (off + vs.length)
def fillL (pl : List (Nat × Nat)) : List Value → List (Nat × Value) → Option (List Value)
  | cells, [] => some cells
  | cells, (i, v) :: rest => match pl[i]? with
    | none => none
    | some (off, size) => if v.cells.size = size ∧ off + size ≤ cells.length then fillL pl (setSeg cells off v.cells.toList) rest else none

theorem foldl_setSeg (off : Nat) : ∀ (l : List Value) (k : Nat) (z : Array Value), off + k + l.length ≤ z.size → (l.zipIdx k).foldl (fun cs (p : Value × Nat) => cs.setIfInBounds (off + p.2) p.1) z = (setSeg z.toList (off + k) l).toArray := by
  intro l
  induction l with
  | nil => intro k z hk; simp [setSeg]
  | cons x l ih =>
    intro k z hk
    simp only [List.zipIdx_cons, List.foldl_cons]
    have := ih (k + 1) (z.setIfInBounds (off + k) x) (by simp at hk ⊢; omega)
    rw [this]
    congr 1
    simp only [setSeg, Array.toList_setIfInBounds]
    have hkl : off + k < z.toList.length := by simp at hk ⊢; omega
    rw [show off + (k + 1) = off + k + 1 from by omega, List.take_succ_eq_append_getElem (by simpa using hkl), List.take_set_of_le (Nat.le_refl _), List.drop_set_of_lt (by omega)]
    simp only [List.getElem_set_self, List.append_assoc, List.cons_append, List.nil_append, List.length_cons]
    congr 4
    omega

theorem fill_fillL (pl : List (Nat × Nat)) : ∀ (parts : List (Nat × Value)) (cells r : List Value), fillL pl cells parts = some r → Instr.fill (pl.toArray[·]?) cells.toArray parts = some r.toArray
  | [], cells, r, h => by simp only [fillL, Option.some.injEq] at h; subst h; rfl
  | (i, v) :: rest, cells, r, h => by
    simp only [fillL] at h
    have e : pl.toArray[i]? = pl[i]? := by simp
    simp only [Instr.fill, e]
    split at h
    · cases h
    · rename_i off size hp
      rw [hp]
      split at h
      · rename_i hc
        have hcond : ¬ ((v.cells.size ≠ size || off + v.cells.size > cells.toArray.size) = true) := by
          obtain ⟨h1, h2⟩ := hc
          simp [h1]; omega
        simp only [hcond, if_false]
        have hf := foldl_setSeg off v.cells.toList 0 cells.toArray (by obtain ⟨h1, h2⟩ := hc; simp; omega)
        have hf2 : v.cells.zipIdx.foldl (fun cs (x : Value × Nat) => cs.setIfInBounds (off + x.2) x.1) cells.toArray = (setSeg cells off v.cells.toList).toArray := by
          rw [← Array.foldl_toList]
          simpa [Array.toList_zipIdx] using hf
        rw [show (fun cs (x : Value × Nat) => match x with | (c, j) => cs.setIfInBounds (off + j) c) = (fun (cs : Array Value) (x : Value × Nat) => cs.setIfInBounds (off + x.2) x.1) from rfl, hf2]
        exact fill_fillL pl rest _ r h
      · cases h

section
variable {P : Program} {n : Nat} {ds : Ctx} {ops : Array Oper} {Q : Exit → Ctx → Env → World → Prop} {rest : List Oper} {σ : GE} {w : World} {v : Value} {d : Nat} {ty t t' e e' : TypeId} {pos : String} {af : Array Edge} {x y : Operand} {zv : Value} {size bytes : Nat} {p q : Option Addr} {l xs news : List Value} {b i m k c c' : Nat} {M : List Nat}
theorem y_build {σ : Env} {d : Option Nat} {g : Option (Nat × Bool)} {pl : List (Nat × Nat)} {ps : List (Nat × Operand)} {cells : List Value} [hf : Flds P t pl] [hi : Inf P t zv size bytes] (h : fillL pl zv.cells.toList (ps.map fun p => (p.1, evl σ p.2)) = some cells) :
    Y P σ ⟨d, .build t ps.toArray, ty, pos, af, g⟩ w (.agg cells.toArray) w := by
  obtain ⟨fs, h1, h2⟩ := hf.ok
  have h3 := fill_fillL pl _ _ _ h
  refine Y.val ?_
  simp only [execOp, Instr.build, Sem.run_bind, run_zeroValue (P := P) (t := t), Result.andThen_ok, underlying, run_program, h1, Sem.run_pure, h2]
  have e1 : (ps.toArray.map fun (x : Nat × Operand) => match x with | (i, x) => (i, evl σ x)).toList = ps.map fun p => (p.1, evl σ p.2) := by simp
  rw [e1]
  have e2 : zv.cells.toList.toArray = zv.cells := by simp
  rw [e2] at h3
  rw [h3]
  rfl
theorem wlbuild {pl : List (Nat × Nat)} {ps : List (Nat × Operand)} {cells : List Value} [hf : Flds P t pl] [hi : Inf P t zv size bytes]
    (h : WL P n ds ops Q rest (real (updG σ d ⟨.agg cells.toArray, true⟩)) w)
    (hc : fillL pl zv.cells.toList (ps.map fun p => (p.1, evl (real σ) p.2)) = some cells := by
      simp only [List.map, Go.Sv.evl, Go.Sv.realB, Nat.reduceBEq, cond_true, cond_false, Go.Sv.rv_true, Go.Sv.entG, Go.Sv.updGL]
      simp [Go.Sv.fillL, Go.Sv.setSeg, Go.Value.cells]
      first | done | rfl) :
    WL P n ds ops Q (⟨some d, .build t ps.toArray, ty, pos, af, none⟩ :: rest) (real σ) w := wl h (y_build hc)

/-- string(b) -/
theorem y_b2s {σ : Env} {d : Option Nat} {g : Option (Nat × Bool)} [hu : Und P t (.slice e)] [hu' : Und P t' .string] [he : Und P e (.int .u8)] {s : List UInt8} (hx : evl σ x = .slice p s.length c) (hs : Sg w p (bs s)) :
    Y P σ ⟨d, .convert t t' x, ty, pos, af, g⟩ w (str s) w := by
  refine Y.val ?_
  simp only [execOp, hx]
  rw [Sem.run_bind, run_convert_bytes_string w t t' e p s.length c hu.ok he.ok hu'.ok]
  rcases hs with h0 | ⟨a, rfl, h1⟩
  · have hs0 : s = [] := by simpa [bs] using h0
    subst hs0
    cases p with
    | none => simp [Conv.bytesToString]; rfl
    | some a => rw [List.length_nil, run_bytesToString w a 0 c [] (by simp [loadCells, loadCellsFrom])]; simp; rfl
  · have hl : (loadCells a s.length).run P w = .ok ((s.map fun c => (c.toNat : Int)).map (Value.int .u8)).toArray w := by
      have := run_loadCells_list (P := P) w a (bs s) (fun j v hj => by
        have hlt : j < (bs s).length := by
          rcases Nat.lt_or_ge j (bs s).length with h | h
          · exact h
          · rw [List.getElem?_eq_none h] at hj; cases hj
        rw [h1 j hlt]; exact hj)
      simpa [bs, Function.comp_def] using this
    rw [run_bytesToString w a s.length c _ hl, foldl_push_bytes]
    simp [ByteArray.empty, ByteArray.emptyWithCapacity, Function.comp_def]
    rfl
end
end Go.Sv

/-
  Calls by contract: in regions that draw, and guarded.
-/
set_option linter.unusedSimpArgs false
set_option linter.unusedVariables false
set_option linter.unnecessarySimpa false
namespace Go.Sv
open Go Go.RowKit

/-! ## Calls by contract -/
section
variable {P : Program} {n : Nat} {ds : Ctx} {ops : Array Oper} {Q : Exit → Ctx → Env → World → Prop} {QE : Env → Prop} {rest : List Oper} {σ : GE} {w w0 : World} {v : Value} {d : Nat} {ty : TypeId} {pos : String} {af : Array Edge} {j dj : Nat} {want b c : Bool}
theorem am1 {σ : Env} {x : Operand} {v : Value} (h : evl σ x = v) : [x].map (evl σ) = [v] := by simp [h]
theorem am2 {σ : Env} {x y : Operand} {v u : Value} (h : evl σ x = v) (h2 : evl σ y = u) : [x, y].map (evl σ) = [v, u] := by simp [h, h2]
theorem am3 {σ : Env} {x y z : Operand} {v u t : Value} (h : evl σ x = v) (h2 : evl σ y = u) (h3 : evl σ z = t) : [x, y, z].map (evl σ) = [v, u, t] := by simp [h, h2, h3]
theorem qlcallp {f : FuncId} [hf : Fnc P f] {args : List Operand} {ats : Array TypeId}
    (hc : ∀ w, Frm w0 w → PureC P f (args.map (evl (real σ))).toArray w v) (h : QL P n ds ops (Frm w0) QE rest (real (updG σ d ⟨v, true⟩))) :
    QL P n ds ops (Frm w0) QE (⟨some d, .call ⟨.value (.func f), args.toArray, ats⟩, ty, pos, af, none⟩ :: rest) (real σ) := qlcall h fun w hw => hc w hw
theorem qlcallgp {f : FuncId} [hf : Fnc P f] {args : List Operand} {ats : Array TypeId} {vals : List Value}
    (hc : (b && (c == want)) = true → ∀ w, Frm w0 w → PureC P f vals.toArray w v) (h : QL P n ds ops (Frm w0) QE rest (real (updG σ d ⟨v, b && (c == want)⟩)))
    (hj : (ops[j]?).bind (·.dst) = some dj := by rfl) (hσ : σ dj = ⟨.bool c, b⟩ := by rfl)
    (ha : (b && (c == want)) = true → args.map (evl (real σ)) = vals := by
    intro hgd
    first
    | exact Go.Sv.am1 (evG hgd)
    | exact Go.Sv.am2 (evG hgd) (evG hgd)
    | exact Go.Sv.am3 (evG hgd) (evG hgd) (evG hgd)) :
    QL P n ds ops (Frm w0) QE (⟨some d, .call ⟨.value (.func f), args.toArray, ats⟩, ty, pos, af, some (j, want)⟩ :: rest) (real σ) :=
  qlcallg h (fun hg w hw => by rw [ha hg]; exact hc hg w hw) hj hσ
/-- a guarded call in a region in order: what it answers, and the world behind it, both ways -/
theorem wlcallgp {f : FuncId} [hf : Fnc P f] {args : List Operand} {ats : Array TypeId} {vals : List Value}
    (hc : (b && (c == want)) = true → PureC P f vals.toArray w v) (h : ∀ w', Frm w w' → WL P n ds ops Q rest (real (updG σ d ⟨v, b && (c == want)⟩)) w')
    (hj : (ops[j]?).bind (·.dst) = some dj := by rfl) (hσ : σ dj = ⟨.bool c, b⟩ := by rfl)
    (ha : (b && (c == want)) = true → args.map (evl (real σ)) = vals := by
    intro hgd
    first
    | exact Go.Sv.am1 (evG hgd)
    | exact Go.Sv.am2 (evG hgd) (evG hgd)
    | exact Go.Sv.am3 (evG hgd) (evG hgd) (evG hgd)) :
    WL P n ds ops Q (⟨some d, .call ⟨.value (.func f), args.toArray, ats⟩, ty, pos, af, some (j, want)⟩ :: rest) (real σ) w := by
  have hw := wanted_real (ops := ops) (o := ⟨some d, .call ⟨.value (.func f), args.toArray, ats⟩, ty, pos, af, some (j, want)⟩) rfl hj hσ
  cases hb : (b && (c == want)) with
  | true =>
    rw [hb] at hw
    refine WL_call_want (R := fun u w' => u = v ∧ Frm w w') hw ?_ ?_
    · have := hc hb
      rw [← ha hb] at this
      unfold PureC at this
      simpa using this
    · rintro u w' ⟨rfl, hf⟩
      have := h w' hf
      rw [hb] at this
      rw [← real_upd] at this
      exact this
  | false =>
    rw [hb] at hw
    refine WL_skip hw ?_
    have := h w (Frm.refl w)
    rw [hb] at this
    rw [← real_upd] at this
    exact this
end

/-! ## A cut between two pieces of code; more of frames -/
theorem wcut {P : Program} {n : Nat} {ds : Ctx} {Q : Exit → Ctx → Env → World → Prop} {σ : Env} {w : World} {a b : Code} {X : Type} (sl : X → List (Nat × Value)) (I : X → World → Prop)
    (ha : WC P n ds a (thl ds (fun σ w => ∃ x, Has σ (sl x) ∧ I x w) Q) σ w) (hb : ∀ x w (ρ : GE), I x w → WC P n ds b Q (real (updGL ρ (sl x))) w) : WC P n ds (.seq a b) Q σ w := by
  refine WC_seq (WC_mono ha ?_)
  intro e c' σ' w' h
  unfold thl at h
  unfold thn
  cases e <;> try exact h
  obtain ⟨rfl, x, h1, h2⟩ := h
  have := hb x w' (lif σ') h2
  rw [← real_updL, updL_has h1] at this
  exact this
theorem Frm.step {a b c : World} {M : List Nat} (h : Frm a b) (k : Le M b c) (hM : ∀ x ∈ M, a.heap.size ≤ x) : Frm a c :=
  ⟨k.os.trans h.os, k.tape.trans h.tape, k.output.trans h.output, Nat.le_trans h.size k.size, fun i hi => by
    rw [k.block i (Nat.lt_of_lt_of_le hi h.size) (fun hm => by have := hM i hm; omega)]; exact h.block i hi⟩
theorem Lm.fresh {M M' : List Nat} {a w w' : World} (h : Lm M w M' w') (hf : Frm a w) (hM : ∀ x ∈ M, a.heap.size ≤ x) : ∀ x ∈ M', a.heap.size ≤ x := fun x hx => by
  rcases Nat.lt_or_ge x w.heap.size with h1 | h1
  · exact hM x (h.2 x hx h1)
  · exact Nat.le_trans hf.size h1
theorem rb_nil (n : Nat) : ∀ x ∈ rb none, n ≤ x := by simp [rb]

/-! ## Stores -/
section
variable {P : Program} {n : Nat} {ds : Ctx} {ops : Array Oper} {Q : Exit → Ctx → Env → World → Prop} {rest : List Oper} {σ : GE} {w : World} {v : Value} {ty t : TypeId} {pos : String} {af : Array Edge} {x y : Operand} {zv : Value} {size bytes : Nat} {l vs : List Value} {b i : Nat}
/-- a whole struct into a block of one's own -/
theorem wlstorea0 [hi : Inf P t zv size bytes] (ho : Own w b l) (h : ∀ w', Own w' b vs → Le [b] w w' → WL P n ds ops Q rest (real σ) w')
    (hx : evl (real σ) x = ptrAt (pb b) 0 := by rfl) (hy : evl (real σ) y = .agg ⟨vs⟩ := by rfl) (hv : vs.length = size ∧ l.length = size := by first | exact ⟨rfl, rfl⟩ | (simp; done)) (h1 : ∀ u ∈ vs, u.oneCell' = true := by simp [Go.Value.oneCell']) :
    WL P n ds ops Q (⟨none, .store t x y, ty, pos, af, none⟩ :: rest) (real σ) w := by
  refine wlstore hx hy ho (by simpa [Value.cells] using hv.1) (by omega) (by simpa [Value.cells] using h1) fun w' h2 h3 => h w' ?_ h3
  simp only [Value.cells, List.take_zero, List.nil_append, Nat.zero_add] at h2
  rw [← hv.2, List.drop_length, List.append_nil] at h2
  exact h2
/-- one cell into a block of one's own -/
theorem wlstore1 [hi : Inf P t zv 1 bytes] (hx : evl (real σ) x = ptrAt (pb b) i) (hy : evl (real σ) y = v) (ho : Own w b l) (hc : v.cells = #[v]) (h1 : v.oneCell' = true) (hk : i < l.length)
    (h : ∀ w', Own w' b (l.set i v) → Le [b] w w' → WL P n ds ops Q rest (real σ) w') :
    WL P n ds ops Q (⟨none, .store t x y, ty, pos, af, none⟩ :: rest) (real σ) w := by
  refine wlstore hx hy ho (by simp [hc]) (by omega) (by simp [hc, h1]) fun w' h2 h3 => h w' ?_ h3
  rw [hc] at h2
  have e : l.take i ++ [v] ++ l.drop (i + 1) = l.set i v := by
    rw [List.set_eq_take_append_cons_drop, if_pos hk]; simp
  simpa [e] using h2
variable {k : IntKind} {a : Int} {s : List UInt8} {c : Bool} {p : Option Addr} {m cc : Nat}
theorem wlst_int [hi : Inf P t zv 1 bytes] (ho : Own w b l) (h : ∀ w', Own w' b (l.set i (.int k a)) → Le [b] w w' → WL P n ds ops Q rest (real σ) w') (hx : evl (real σ) x = ptrAt (pb b) i := by rfl) (hy : evl (real σ) y = .int k a := by rfl) (hk : i < l.length := by first | decide | (simp; done)) :
    WL P n ds ops Q (⟨none, .store t x y, ty, pos, af, none⟩ :: rest) (real σ) w := wlstore1 hx hy ho rfl rfl hk h
theorem wlst_slice [hi : Inf P t zv 1 bytes] (ho : Own w b l) (h : ∀ w', Own w' b (l.set i (.slice p m cc)) → Le [b] w w' → WL P n ds ops Q rest (real σ) w') (hx : evl (real σ) x = ptrAt (pb b) i := by rfl) (hy : evl (real σ) y = .slice p m cc := by rfl) (hk : i < l.length := by first | decide | (simp; done)) :
    WL P n ds ops Q (⟨none, .store t x y, ty, pos, af, none⟩ :: rest) (real σ) w := wlstore1 hx hy ho rfl rfl hk h
end

/-! ## append, by what lies at hand -/
section
variable {P : Program} {n : Nat} {ds : Ctx} {ops : Array Oper} {Q : Exit → Ctx → Env → World → Prop} {rest : List Oper} {σ : GE} {w : World} {v : Value} {d : Nat} {ty t t' e e' : TypeId} {pos : String} {af : Array Edge} {x y : Operand} {zv : Value} {size bytes : Nat} {p q : Option Addr} {l xs news vs : List Value} {b i m k c c' : Nat}
theorem wlapp [hu : Und P t (.slice e)] [hu' : Und P t' (.slice e')] [hi : Inf P e zv size bytes] (hr : Row w size p m c xs) (hs : Sg w q news)
    (h : ∀ p' c' w', Row w' size p' (m + k) c' (xs ++ news) → Lm (rb p) w (rb p') w' → WL P n ds ops Q rest (real (updG σ d ⟨.slice p' (m + k) c', true⟩)) w')
    (hx : evl (real σ) x = .slice p m c := by rfl) (hy : evl (real σ) y = .slice q k c' := by rfl) (hl : news.length = k * size := by first | rfl | (simp; done))
    (h1 : ∀ u ∈ news, u.oneCell' = true := by simp [Go.Value.oneCell']) (hz : zv.cells.size = size := by rfl) (hsz : 0 < size := by decide) (hb : (m + k) * bytes ≤ 140737488355328 ∧ m + k ≤ 9223372036854775807 := by omega) :
    WL P n ds ops Q (⟨some d, .call ⟨.builtin .append, #[x, y], #[t, t']⟩, ty, pos, af, none⟩ :: rest) (real σ) w := wlappend hx hr hy hs hl h1 hz hsz hb h
theorem wlb1a [hu : Und P t (.slice e)] [hi : Inf P e zv size bytes] (h : ∀ b w', w.heap.size ≤ b → Own w' b vs → Frm w w' → WL P n ds ops Q rest (real (updG σ d ⟨.slice (pb b) 1 1, true⟩)) w')
    (hx : evl (real σ) x = .agg ⟨vs⟩ := by rfl) (hv : vs.length = size := by first | rfl | (simp; done)) (hz : zv.cells.size = size := by rfl) (hsz : 0 < size := by decide) (hm : size ≤ 16777216 := by decide) :
    WL P n ds ops Q (⟨some d, .buildSlice t 1 #[(0, x)], ty, pos, af, none⟩ :: rest) (real σ) w := wlbuild1 hx (by simpa [Value.cells] using hv) hz hsz hm (by simpa [Value.cells] using h)
theorem wlb1v [hu : Und P t (.slice e)] [hi : Inf P e zv 1 bytes] (hx : evl (real σ) x = v) (hv : v.cells = #[v]) (h : ∀ b w', w.heap.size ≤ b → Own w' b [v] → Frm w w' → WL P n ds ops Q rest (real (updG σ d ⟨.slice (pb b) 1 1, true⟩)) w') (hz : zv.cells.size = 1) :
    WL P n ds ops Q (⟨some d, .buildSlice t 1 #[(0, x)], ty, pos, af, none⟩ :: rest) (real σ) w := wlbuild1 hx (by simp [hv]) hz (by decide) (by decide) (by simpa [hv] using h)
variable {s : List UInt8} {kk : IntKind} {a : Int} {bb : Bool}
theorem wlb1_int [hu : Und P t (.slice e)] [hi : Inf P e zv 1 bytes] (h : ∀ b w', w.heap.size ≤ b → Own w' b [.int kk a] → Frm w w' → WL P n ds ops Q rest (real (updG σ d ⟨.slice (pb b) 1 1, true⟩)) w') (hx : evl (real σ) x = .int kk a := by rfl) (hz : zv.cells.size = 1 := by rfl) :
    WL P n ds ops Q (⟨some d, .buildSlice t 1 #[(0, x)], ty, pos, af, none⟩ :: rest) (real σ) w := wlb1v hx rfl h hz
end
end Go.Sv

/-
  Many steps at once.
-/
set_option linter.unusedSimpArgs false
set_option linter.unusedVariables false
set_option linter.unnecessarySimpa false
namespace Go.Sv
open Go Go.RowKit
/-- what is left to show, behind a name -/
structure Wrap (B : Prop) : Prop where
  of : B
/-- straight on, as far as it goes -/
theorem sgo {A B : Prop} (h : B) (hs : Wrap B → A := by
    intro h0
    repeat (first | (show WL _ _ _ _ _ _ _ _; (first | refine wlp ?_ | refine WL_nil ?_ | (show WL _ _ _ _ _ (Go.Oper.mk _ _ _ _ _ none :: _) _ _; first | refine wlpk ?_ | refine wl_load ?_ | refine wl_idxa ?_ | refine wl_fld ?_ | refine wl_idx ?_ | refine wl_len ?_ | refine wl_bin ?_ | refine wl_cnv ?_ | refine wl_slc ?_ | refine wl_una ?_ | refine wl_nilc ?_ | refine wl_mkf ?_) | refine wlpg ?_ | refine wlg_load ?_ | refine wlg_idxa ?_ | refine wlg_fld ?_ | refine wlg_idx ?_ | refine wlg_len ?_ | refine wlg_bin ?_ | refine wlg_cnv ?_ | refine wlg_slc ?_ | refine wlg_una ?_ | refine wlg_nilc ?_ | refine wlg_mkf ?_)) | (show thn _ _ _ _ _ _; (first | refine thn_normal ?_ | refine thn_ret ?_ | refine thn_exit ?_)) | (show thl _ _ _ _ _ _ _; (first | refine thl_normal ?_ | refine thl_ret ?_ | refine thl_exit ?_)) | (show WC _ _ _ _ _ _ _; (first | refine WC_seq ?_ | refine WC_region ?_ | refine WC_ret ?_ | refine WC_skip ?_ | refine WC_block ?_ | refine WC_exit ?_ | refine WC_label ?_ | refine WC_scope rfl ?_ | refine wcyes ?_ | refine wcno ?_)) | (show blk _ _ _ _ _ _; (first | refine blk_ret ?_ | refine blk_here ?_ | refine blk_on rfl ?_ | refine blk_normal ?_)) | (show ngt _ _ _ _ _; (first | refine ngt_normal ?_ | refine ngt_ret ?_ | refine ngt_exit ?_)))
    exact h0.of) : A := hs ⟨h⟩
theorem qgo {A B : Prop} (h : B) (hs : Wrap B → A := by
    intro h0
    repeat (first | refine qlp ?_ | refine qlpg ?_ | refine qlpk ?_ | refine ql_load ?_ | refine ql_idxa ?_ | refine ql_fld ?_ | refine ql_idx ?_ | refine ql_len ?_ | refine ql_bin ?_ | refine ql_cnv ?_ | refine ql_slc ?_ | refine ql_una ?_ | refine ql_nilc ?_ | refine ql_mkf ?_ | refine qlg_load ?_ | refine qlg_idxa ?_ | refine qlg_fld ?_ | refine qlg_idx ?_ | refine qlg_len ?_ | refine qlg_bin ?_ | refine qlg_cnv ?_ | refine qlg_slc ?_ | refine qlg_una ?_ | refine qlg_nilc ?_ | refine qlg_mkf ?_)
    exact h0.of) : A := hs ⟨h⟩
end Go.Sv

/-
  Package utf: what 'bounds', 'read' and 'Valid' compute, and that they do.
-/
set_option linter.unusedSimpArgs false
set_option linter.unusedVariables false
set_option linter.unnecessarySimpa false
namespace Go.Proofs.YtffaoehhhdcjjaaDoor
open Go Go.Sv Go.RowKit

def boundsS (c : Nat) : Int × Int × Int :=
  if c < 0x80 then (0, 0, 0) else if 0xc2 ≤ c ∧ c ≤ 0xdf then (1, 0x80, 0xbf) else if c = 0xe0 then (2, 0xa0, 0xbf) else if c = 0xed then (2, 0x80, 0x9f)
  else if 0xe1 ≤ c ∧ c ≤ 0xef then (2, 0x80, 0xbf) else if c = 0xf0 then (3, 0x90, 0xbf) else if 0xf1 ≤ c ∧ c ≤ 0xf3 then (3, 0x80, 0xbf) else if c = 0xf4 then (3, 0x80, 0x8f) else (-1, 0, 0)

set_option maxHeartbeats 2000000 in
theorem bounds_ok (c : Nat) (w : World) : PureC Tryd.prog 137 #[byt c] w (.tuple #[int (boundsS c).1, byt (boundsS c).2.1, byt (boundsS c).2.2]) := by
  refine enter (l := [byt c]) Tryd.func137 rfl Tryd.ntmps137 (by kernel_rfl) rfl ?_
  repeat' (first | (first | (show WL _ _ _ _ _ _ _ _; (first | refine wlp ?_ | refine WL_nil ?_ | (show WL _ _ _ _ _ (Go.Oper.mk _ _ _ _ _ none :: _) _ _; first | refine wlpk ?_ | refine wl_load ?_ | refine wl_idxa ?_ | refine wl_fld ?_ | refine wl_idx ?_ | refine wl_len ?_ | refine wl_bin ?_ | refine wl_cnv ?_ | refine wl_slc ?_ | refine wl_una ?_ | refine wl_nilc ?_ | refine wl_mkf ?_) | refine wlpg ?_ | refine wlg_load ?_ | refine wlg_idxa ?_ | refine wlg_fld ?_ | refine wlg_idx ?_ | refine wlg_len ?_ | refine wlg_bin ?_ | refine wlg_cnv ?_ | refine wlg_slc ?_ | refine wlg_una ?_ | refine wlg_nilc ?_ | refine wlg_mkf ?_)) | (show thn _ _ _ _ _ _; (first | refine thn_normal ?_ | refine thn_ret ?_ | refine thn_exit ?_)) | (show thl _ _ _ _ _ _ _; (first | refine thl_normal ?_ | refine thl_ret ?_ | refine thl_exit ?_)) | (show WC _ _ _ _ _ _ _; (first | refine WC_seq ?_ | refine WC_region ?_ | refine WC_ret ?_ | refine WC_skip ?_ | refine WC_block ?_ | refine WC_exit ?_ | refine WC_label ?_ | refine WC_scope rfl ?_ | refine wcyes ?_ | refine wcno ?_)) | (show blk _ _ _ _ _ _; (first | refine blk_ret ?_ | refine blk_here ?_ | refine blk_on rfl ?_ | refine blk_normal ?_)) | (show ngt _ _ _ _ _; (first | refine ngt_normal ?_ | refine ngt_ret ?_ | refine ngt_exit ?_))) | (show WC _ _ _ _ _ _ _; first | refine WC_dec rfl (fun hc => ?_) (fun hc => ?_) | refine WC_cond rfl (fun hc => ?_) (fun hc => ?_)))
  all_goals ((first | refine fp1 (.inl rfl) rfl rfl ?_ | refine fp2 (.inl rfl) rfl rfl rfl ?_ | refine fp3 (.inl rfl) rfl rfl rfl rfl ?_ | refine fp0 (.inr rfl) rfl ?_ | refine fp0 (.inl rfl) rfl ?_ | refine fp1 (.inr rfl) rfl rfl ?_); refine ⟨?_, by (first | exact Frm.refl _ | assumption | exact Go.Sv.Sep.frm (by assumption) | (refine Frm.trans ?_ (by assumption); first | exact Frm.refl _ | assumption))⟩)
  all_goals (show Value.tuple #[int _, byt _, byt _] = _)
  all_goals (try simp only [pkb_or, pkb_and, Bool.and_eq_true, Bool.or_eq_true, Bool.and_eq_false_iff, Bool.or_eq_false_iff, decide_eq_true_eq, decide_eq_false_iff_not, Bool.not_eq_true', Bool.not_eq_false'] at *)
  all_goals first
    | (rw [boundsS, if_pos (by omega)]; done)
    | (rw [boundsS, if_neg (by omega), if_pos (by omega)]; done)
    | (rw [boundsS, if_neg (by omega), if_neg (by omega), if_pos (by omega)]; done)
    | (rw [boundsS, if_neg (by omega), if_neg (by omega), if_neg (by omega), if_pos (by omega)]; done)
    | (rw [boundsS, if_neg (by omega), if_neg (by omega), if_neg (by omega), if_neg (by omega), if_pos (by omega)]; done)
    | (rw [boundsS, if_neg (by omega), if_neg (by omega), if_neg (by omega), if_neg (by omega), if_neg (by omega), if_pos (by omega)]; done)
    | (rw [boundsS, if_neg (by omega), if_neg (by omega), if_neg (by omega), if_neg (by omega), if_neg (by omega), if_neg (by omega), if_pos (by omega)]; done)
    | (rw [boundsS, if_neg (by omega), if_neg (by omega), if_neg (by omega), if_neg (by omega), if_neg (by omega), if_neg (by omega), if_neg (by omega), if_pos (by omega)]; done)
    | (rw [boundsS, if_neg (by omega), if_neg (by omega), if_neg (by omega), if_neg (by omega), if_neg (by omega), if_neg (by omega), if_neg (by omega), if_neg (by omega)]; done)

abbrev at0 (l : List UInt8) (i : Nat) : Nat := (l[i]?.getD 0).toNat
theorem at0_lt (l : List UInt8) (i : Nat) : at0 l i < 256 := UInt8.toNat_lt _

def rdLoop (l : List UInt8) (more : Nat) : Nat → Nat → Int → Int → Int → Int × Int × Int
  | 0, _, r, _, _ => (r, more + 1, 0)
  | f + 1, i, r, lo, hi => if i = l.length then (65533, i, 2) else if (at0 l i : Int) < lo ∨ hi < at0 l i then (65533, i, 1) else rdLoop l more f (i + 1) (r * 64 + (at0 l i % 64 : Nat)) 128 191
def readS (l : List UInt8) : Int × Int × Int :=
  if (boundsS (at0 l 0)).1 < 0 then (65533, 1, 1) else if (boundsS (at0 l 0)).1 = 0 then (at0 l 0, 1, 0)
  else rdLoop l (boundsS (at0 l 0)).1.toNat (boundsS (at0 l 0)).1.toNat 1 (at0 l 0 % 2 ^ (6 - (boundsS (at0 l 0)).1.toNat) : Nat) (boundsS (at0 l 0)).2.1 (boundsS (at0 l 0)).2.2

theorem boundsS_rng (c : Nat) : -1 ≤ (boundsS c).1 ∧ (boundsS c).1 ≤ 3 ∧ 0 ≤ (boundsS c).2.1 ∧ (boundsS c).2.1 ≤ 255 ∧ 0 ≤ (boundsS c).2.2 ∧ (boundsS c).2.2 ≤ 255 := by
  unfold boundsS; repeat' split
  all_goals simp

theorem mask_first (c m : Nat) (hc : c < 256) (h1 : 1 ≤ m) (h2 : m ≤ 3) : bitop .and .i32 (c : Int) ((63:Int).fdiv (2 ^ (min (m : Int).toNat IntKind.i32.bits))) = ((c % 2 ^ (6 - m) : Nat) : Int) := by
  have : m = 1 ∨ m = 2 ∨ m = 3 := by omega
  rcases this with rfl | rfl | rfl <;> · revert hc; revert c; decide +kernel
theorem mask6 (c : Nat) (hc : c < 256) : bitop .and .u8 (c : Int) 63 = ((c % 64 : Nat) : Int) := by revert hc; revert c; decide +kernel
theorem shl6 (r : Int) (h0 : 0 ≤ r) (h1 : r < 33554432) : IntKind.i32.wrap (r * 2 ^ (min (6 : Int).toNat IntKind.i32.bits)) = r * 64 := by
  have : (2 : Int) ^ (min (6 : Int).toNat IntKind.i32.bits) = 64 := by decide
  rw [this, wrap_in]
  simp [IntKind.min, IntKind.max, IntKind.signed, IntKind.bits]; omega
theorem or6 (r x : Nat) (h1 : r < 33554432) (hx : x < 64) : bitop .or .i32 ((r : Int) * 64) (x : Int) = (r : Int) * 64 + x := by
  have e : (r : Int) * 64 = ((r * 64 : Nat) : Int) := by simp
  rw [e]
  simp only [bitop]
  have h2 : (BitVec.ofInt IntKind.i32.bits ((r * 64 : Nat) : Int) ||| BitVec.ofInt IntKind.i32.bits (x : Int)).toNat = r * 64 + x := by
    rw [BitVec.ofInt_natCast, BitVec.ofInt_natCast, BitVec.toNat_or, BitVec.toNat_ofNat, BitVec.toNat_ofNat]
    have e1 : r * 64 % 2 ^ IntKind.i32.bits = r * 64 := Nat.mod_eq_of_lt (by show _ < 2 ^ 32; omega)
    have e2 : x % 2 ^ IntKind.i32.bits = x := Nat.mod_eq_of_lt (by show _ < 2 ^ 32; omega)
    rw [e1, e2, show r * 64 = 2 ^ 6 * r from by omega]
    exact (Nat.two_pow_add_eq_or_of_lt (i := 6) (by omega) r).symm
  rw [h2, wrap_in]
  · simp
  · simp [IntKind.min, IntKind.max, IntKind.signed, IntKind.bits]; omega

end Go.Proofs.YtffaoehhhdcjjaaDoor

/-
  Package utf: 'read' and 'Valid'.
-/
set_option linter.unusedSimpArgs false
set_option linter.unusedVariables false
set_option linter.unnecessarySimpa false
namespace Go.Proofs.YtffaoehhhdcjjaaDoor
open Go Go.Sv Go.RowKit
theorem or_step (r x : Nat) (h1 : r < 33554432) (hx : x < 256) : bitop .or .i32 (IntKind.i32.wrap ((r : Int) * 2 ^ (min (6 : Int).toNat IntKind.i32.bits))) (IntKind.i32.wrap (bitop .and .u8 (x : Int) 63)) = ((r * 64 + x % 64 : Nat) : Int) := by
  rw [shl6 r (by omega) (by omega), mask6 x hx, wrap_in (k := .i32) (n := ((x % 64 : Nat) : Int)) (by simp [IntKind.min, IntKind.max, IntKind.signed, IntKind.bits]; omega), or6 r (x % 64) h1 (by omega)]
  simp

set_option maxHeartbeats 1000000 in
theorem read_ok (l : List UInt8) (p : Option Addr) (c : Nat) (h0 : 0 < l.length) (hc : l.length ≤ c) (hb : l.length < 4611686018427387904) (M : List Nat) (w : World) (hi : Im M w p (bs l)) :
    PureC Tryd.prog 120 #[.slice p l.length c] w (.tuple #[i32 (readS l).1, int (readS l).2.1, int (readS l).2.2]) := by
  have hr := boundsS_rng (at0 l 0)
  refine enter (l := [.slice p l.length c]) Tryd.func120 rfl Tryd.ntmps120 (by kernel_rfl) rfl ?_
  refine sgo ?_
  refine wlpure (bounds_ok (at0 l 0) _) fun w1 hw1 => ?_
  replace hi := hi.frm hw1
  repeat' (first | (first | (show WL _ _ _ _ _ _ _ _; (first | refine wlp ?_ | refine WL_nil ?_ | (show WL _ _ _ _ _ (Go.Oper.mk _ _ _ _ _ none :: _) _ _; first | refine wlpk ?_ | refine wl_load ?_ | refine wl_idxa ?_ | refine wl_fld ?_ | refine wl_idx ?_ | refine wl_len ?_ | refine wl_bin ?_ | refine wl_cnv ?_ | refine wl_slc ?_ | refine wl_una ?_ | refine wl_nilc ?_ | refine wl_mkf ?_) | refine wlpg ?_ | refine wlg_load ?_ | refine wlg_idxa ?_ | refine wlg_fld ?_ | refine wlg_idx ?_ | refine wlg_len ?_ | refine wlg_bin ?_ | refine wlg_cnv ?_ | refine wlg_slc ?_ | refine wlg_una ?_ | refine wlg_nilc ?_ | refine wlg_mkf ?_)) | (show thn _ _ _ _ _ _; (first | refine thn_normal ?_ | refine thn_ret ?_ | refine thn_exit ?_)) | (show thl _ _ _ _ _ _ _; (first | refine thl_normal ?_ | refine thl_ret ?_ | refine thl_exit ?_)) | (show WC _ _ _ _ _ _ _; (first | refine WC_seq ?_ | refine WC_region ?_ | refine WC_ret ?_ | refine WC_skip ?_ | refine WC_block ?_ | refine WC_exit ?_ | refine WC_label ?_ | refine WC_scope rfl ?_ | refine wcyes ?_ | refine wcno ?_)) | (show blk _ _ _ _ _ _; (first | refine blk_ret ?_ | refine blk_here ?_ | refine blk_on rfl ?_ | refine blk_normal ?_)) | (show ngt _ _ _ _ _; (first | refine ngt_normal ?_ | refine ngt_ret ?_ | refine ngt_exit ?_))) | (show WC _ _ _ _ _ _ _; first | refine WC_dec rfl (fun hc => ?_) (fun hc => ?_) | refine WC_cond rfl (fun hc => ?_) (fun hc => ?_)))
  · (first | refine fp1 (.inl rfl) rfl rfl ?_ | refine fp2 (.inl rfl) rfl rfl rfl ?_ | refine fp3 (.inl rfl) rfl rfl rfl rfl ?_ | refine fp0 (.inr rfl) rfl ?_ | refine fp0 (.inl rfl) rfl ?_ | refine fp1 (.inr rfl) rfl rfl ?_); refine ⟨?_, by (first | exact Frm.refl _ | assumption | exact Go.Sv.Sep.frm (by assumption) | (refine Frm.trans ?_ (by assumption); first | exact Frm.refl _ | assumption))⟩; (try simp only [realB, rv_true, Nat.reduceBEq, cond_true, cond_false, entG, real_lif, updGL])
    simp only [readS]; rw [if_pos (by omega)]
  · (first | refine fp1 (.inl rfl) rfl rfl ?_ | refine fp2 (.inl rfl) rfl rfl rfl ?_ | refine fp3 (.inl rfl) rfl rfl rfl rfl ?_ | refine fp0 (.inr rfl) rfl ?_ | refine fp0 (.inl rfl) rfl ?_ | refine fp1 (.inr rfl) rfl rfl ?_); refine ⟨?_, by (first | exact Frm.refl _ | assumption | exact Go.Sv.Sep.frm (by assumption) | (refine Frm.trans ?_ (by assumption); first | exact Frm.refl _ | assumption))⟩; (try simp only [realB, rv_true, Nat.reduceBEq, cond_true, cond_false, entG, real_lif, updGL])
    simp only [readS]; rw [if_neg (by omega), if_pos (by omega)]
  · rename_i hc1 hc2
    (first | refine WC_seq ?_ | skip); refine wcdraw ?_
    refine qgo ?_
    refine QL_nil ?_; intro wd hwd
    replace hi := hi.frm hwd
    have hw2 : Frm w wd := hw1.trans hwd
    generalize hB : boundsS (at0 l 0) = B at *
    obtain ⟨more, lo, hi'⟩ := B
    simp only at *
    obtain ⟨m, rfl⟩ := Int.eq_ofNat_of_zero_le (a := more) (by omega)
    have hS : readS l = rdLoop l m m 1 (at0 l 0 % 2 ^ (6 - m) : Nat) lo hi' := by
      simp only [readS, hB]; rw [if_neg (by omega), if_neg (by omega)]; rfl
    have hr0 : at0 l 0 % 2 ^ (6 - m) < 32 := by
      have : m = 1 ∨ m = 2 ∨ m = 3 := by omega
      rcases this with rfl | rfl | rfl <;> simp <;> omega
    refine sgo ?_
    refine wcloop (X := Nat × Nat × Int × Int) (fun x => [(0, .slice p l.length c), (5, int m), (6, byt x.2.2.1), (7, byt x.2.2.2), (8, i32 x.2.1), (9, int x.1)])
      (fun x wr => 1 ≤ x.1 ∧ x.1 ≤ m + 1 ∧ x.1 ≤ l.length ∧ (x.1 ≤ 3 → x.2.1 < 32 * 64 ^ (x.1 - 1)) ∧ 0 ≤ x.2.2.1 ∧ x.2.2.1 ≤ 255 ∧ 0 ≤ x.2.2.2 ∧ x.2.2.2 ≤ 255 ∧ readS l = rdLoop l m (m + 1 - x.1) x.1 x.2.1 x.2.2.1 x.2.2.2 ∧ Frm w wr ∧ Im M wr p (bs l))
      (fun x => m + 1 - x.1) (1, at0 l 0 % 2 ^ (6 - m), lo, hi') ⟨rfl, rfl, rfl, rfl, ?_, rfl, trivial⟩ ?_ ?_
    · show i32 _ = i32 _
      exact congrArg i32 (mask_first (at0 l 0) m (at0_lt l 0) (by omega) (by omega))
    · dsimp only; exact ⟨Nat.le_refl _, by omega, by omega, by intro _; simpa using hr0, by omega, by omega, by omega, by omega, by simpa using hS, hw2, hi⟩
    · rintro ⟨i, r, lo2, hi2⟩ wr ρ ⟨hi1, him, hil, hr1, hl0, hl1, hh0, hh1, hSr, hfr, hIm⟩
      dsimp only at hi1 him hil hr1 hl0 hl1 hh0 hh1 hSr ⊢
      repeat' (first | (first | (show WL _ _ _ _ _ _ _ _; (first | refine wlp ?_ | refine WL_nil ?_ | (show WL _ _ _ _ _ (Go.Oper.mk _ _ _ _ _ none :: _) _ _; first | refine wlpk ?_ | refine wl_load ?_ | refine wl_idxa ?_ | refine wl_fld ?_ | refine wl_idx ?_ | refine wl_len ?_ | refine wl_bin ?_ | refine wl_cnv ?_ | refine wl_slc ?_ | refine wl_una ?_ | refine wl_nilc ?_ | refine wl_mkf ?_) | refine wlpg ?_ | refine wlg_load ?_ | refine wlg_idxa ?_ | refine wlg_fld ?_ | refine wlg_idx ?_ | refine wlg_len ?_ | refine wlg_bin ?_ | refine wlg_cnv ?_ | refine wlg_slc ?_ | refine wlg_una ?_ | refine wlg_nilc ?_ | refine wlg_mkf ?_)) | (show thn _ _ _ _ _ _; (first | refine thn_normal ?_ | refine thn_ret ?_ | refine thn_exit ?_)) | (show thl _ _ _ _ _ _ _; (first | refine thl_normal ?_ | refine thl_ret ?_ | refine thl_exit ?_)) | (show WC _ _ _ _ _ _ _; (first | refine WC_seq ?_ | refine WC_region ?_ | refine WC_ret ?_ | refine WC_skip ?_ | refine WC_block ?_ | refine WC_exit ?_ | refine WC_label ?_ | refine WC_scope rfl ?_ | refine wcyes ?_ | refine wcno ?_)) | (show blk _ _ _ _ _ _; (first | refine blk_ret ?_ | refine blk_here ?_ | refine blk_on rfl ?_ | refine blk_normal ?_)) | (show ngt _ _ _ _ _; (first | refine ngt_normal ?_ | refine ngt_ret ?_ | refine ngt_exit ?_))) | (show WC _ _ _ _ _ _ _; first | refine WC_dec rfl (fun hc => ?_) (fun hc => ?_) | refine WC_cond rfl (fun hc => ?_) (fun hc => ?_)))
      · -- the bytes end
        (first | refine fp1 (.inl rfl) rfl rfl ?_ | refine fp2 (.inl rfl) rfl rfl rfl ?_ | refine fp3 (.inl rfl) rfl rfl rfl rfl ?_ | refine fp0 (.inr rfl) rfl ?_ | refine fp0 (.inl rfl) rfl ?_ | refine fp1 (.inr rfl) rfl rfl ?_)
        refine ⟨?_, hfr⟩
        have e : m + 1 - i = (m - i) + 1 := by omega
        rw [hSr, e, rdLoop, if_pos (by omega)]; rfl
      · -- a byte that may not be there
        (first | refine fp1 (.inl rfl) rfl rfl ?_ | refine fp2 (.inl rfl) rfl rfl rfl ?_ | refine fp3 (.inl rfl) rfl rfl rfl rfl ?_ | refine fp0 (.inr rfl) rfl ?_ | refine fp0 (.inl rfl) rfl ?_ | refine fp1 (.inr rfl) rfl rfl ?_)
        refine ⟨?_, hfr⟩
        have e : m + 1 - i = (m - i) + 1 := by omega
        rw [pkb_or, Bool.or_eq_true, decide_eq_true_eq, decide_eq_true_eq] at hc
        rw [hSr, e, rdLoop, if_neg (by omega), if_pos hc]; rfl
      · -- on
        rw [pkb_or, Bool.or_eq_false_iff, decide_eq_false_iff_not, decide_eq_false_iff_not] at hc
        have hb6 : at0 l i < 256 := at0_lt l i
        have hr2 := hr1 (by omega)
        have hr3 : r < 131072 := by
          have : i = 1 ∨ i = 2 ∨ i = 3 := by omega
          rcases this with h | h | h <;> subst h <;> simp at hr2 <;> omega
        refine ⟨(i + 1, r * 64 + at0 l i % 64, 128, 191), ⟨rfl, rfl, rfl, rfl, ?_, ?_, trivial⟩, ⟨?_, ?_, ?_, ?_, ?_, ?_, ?_, ?_, ?_, hfr, hIm⟩, ?_⟩
        · exact congrArg i32 (or_step r (at0 l i) (by omega) hb6)
        · rfl
        all_goals dsimp only
        all_goals first | omega | skip
        · intro hi3
          have : i = 1 ∨ i = 2 ∨ i = 3 := by omega
          rcases this with h | h | h <;> subst h <;> simp at hr2 ⊢ <;> omega
        · have e : m + 1 - i = (m - i) + 1 := by omega
          rw [hSr, e, rdLoop, if_neg (by omega), if_neg (by simp only [at0]; omega)]
          have e2 : m + 1 - (i + 1) = m - i := by omega
          rw [e2]; simp
      · -- all are there
        (first | refine fp1 (.inl rfl) rfl rfl ?_ | refine fp2 (.inl rfl) rfl rfl rfl ?_ | refine fp3 (.inl rfl) rfl rfl rfl rfl ?_ | refine fp0 (.inr rfl) rfl ?_ | refine fp0 (.inl rfl) rfl ?_ | refine fp1 (.inr rfl) rfl rfl ?_)
        refine ⟨?_, hfr⟩
        have e : m + 1 - i = 0 := by omega
        rw [hSr, e, rdLoop]; rfl

theorem read_any (l : List UInt8) (p : Option Addr) (n c : Nat) (hn : n = l.length) (h0 : 0 < l.length) (hc : l.length ≤ c) (hb : l.length < 4611686018427387904) (M : List Nat) (w : World) (hi : Im M w p (bs l)) :
    PureC Tryd.prog 120 #[.slice p n c] w (.tuple #[i32 (readS l).1, int (readS l).2.1, int (readS l).2.2]) := by subst hn; exact read_ok l p c h0 hc hb M w hi

theorem rdLoop_rng (l : List UInt8) (more : Nat) : ∀ (f i : Nat) (r lo hi : Int), i + f = more + 1 → 1 ≤ i → i ≤ l.length →
    1 ≤ (rdLoop l more f i r lo hi).2.1 ∧ (rdLoop l more f i r lo hi).2.1 ≤ l.length ∧ 0 ≤ (rdLoop l more f i r lo hi).2.2 ∧ (rdLoop l more f i r lo hi).2.2 ≤ 2
  | 0, i, r, lo, hi, h, h1, h2 => by simp only [rdLoop]; omega
  | f + 1, i, r, lo, hi, h, h1, h2 => by
    simp only [rdLoop]
    split
    · simp only []; omega
    · split
      · simp only []; omega
      · exact rdLoop_rng l more f (i + 1) _ _ _ (by omega) (by omega) (by omega)
theorem readS_rng (l : List UInt8) (h0 : 0 < l.length) : 1 ≤ (readS l).2.1 ∧ (readS l).2.1 ≤ l.length ∧ 0 ≤ (readS l).2.2 ∧ (readS l).2.2 ≤ 2 := by
  have hr := boundsS_rng (at0 l 0)
  unfold readS
  split
  · simp only []; omega
  · split
    · simp only []; omega
    · exact rdLoop_rng l _ _ 1 _ _ _ (by omega) (by omega) (by omega)

def validF : Nat → List UInt8 → Bool
  | 0, _ => true
  | f + 1, l => if l = [] then true else if (readS l).2.2 ≠ 0 then false else validF f (l.drop (readS l).2.1.toNat)
def validS (l : List UInt8) : Bool := validF l.length l
theorem validF_more : ∀ (f f' : Nat) (l : List UInt8), l.length ≤ f → l.length ≤ f' → validF f l = validF f' l
  | 0, f', l, h, _ => by
    have : l = [] := List.eq_nil_of_length_eq_zero (by omega)
    subst this
    cases f' <;> simp [validF]
  | f + 1, 0, l, _, h => by
    have : l = [] := List.eq_nil_of_length_eq_zero (by omega)
    subst this
    simp [validF]
  | f + 1, f' + 1, l, h, h' => by
    simp only [validF]
    split
    · rfl
    · rename_i hne
      split
      · rfl
      · have hl : 0 < l.length := List.length_pos_iff.2 hne
        have := readS_rng l hl
        exact validF_more f f' _ (by simp; omega) (by simp; omega)
theorem validS_cons (l : List UInt8) (h0 : 0 < l.length) : validS l = if (readS l).2.2 ≠ 0 then false else validS (l.drop (readS l).2.1.toNat) := by
  have hne : l ≠ [] := List.length_pos_iff.1 h0
  have := readS_rng l h0
  unfold validS
  obtain ⟨k, hk⟩ : ∃ k, l.length = k + 1 := ⟨l.length - 1, by omega⟩
  rw [hk]
  simp only [validF]
  rw [if_neg hne]
  split
  · rfl
  · exact validF_more _ _ _ (by simp; omega) (Nat.le_refl _)
end Go.Proofs.YtffaoehhhdcjjaaDoor

/-
  Package sieveref01: what the reference of layer 1 computes: good, Pieces, Valid.
-/
set_option linter.unusedSimpArgs false
set_option linter.unusedVariables false
set_option linter.unnecessarySimpa false
namespace Go.Proofs.YtffaoehhhdcjjaaDoor
open Go Go.Sv Go.RowKit

def sizeR (c : Nat) : Nat := if c < 0x80 then 1 else if 0xC2 ≤ c ∧ c ≤ 0xDF then 2 else if 0xE0 ≤ c ∧ c ≤ 0xEF then 3 else if 0xF0 ≤ c ∧ c ≤ 0xF4 then 4 else 0
def secondR (c d : Nat) : Bool :=
  if c = 0xE0 then decide (0xA0 ≤ d) && decide (d ≤ 0xBF) else if c = 0xED then decide (0x80 ≤ d) && decide (d ≤ 0x9F) else if c = 0xF0 then decide (0x90 ≤ d) && decide (d ≤ 0xBF)
  else if c = 0xF4 then decide (0x80 ≤ d) && decide (d ≤ 0x8F) else decide (0x80 ≤ d) && decide (d ≤ 0xBF)

theorem size_ok (c : Nat) (w : World) : PureC Tryd.prog 125 #[byt c] w (int (sizeR c)) := by
  refine enter (l := [byt c]) Tryd.func125 rfl Tryd.ntmps125 (by kernel_rfl) rfl ?_
  repeat' (first | (first | (show WL _ _ _ _ _ _ _ _; (first | refine wlp ?_ | refine WL_nil ?_ | (show WL _ _ _ _ _ (Go.Oper.mk _ _ _ _ _ none :: _) _ _; first | refine wlpk ?_ | refine wl_load ?_ | refine wl_idxa ?_ | refine wl_fld ?_ | refine wl_idx ?_ | refine wl_len ?_ | refine wl_bin ?_ | refine wl_cnv ?_ | refine wl_slc ?_ | refine wl_una ?_ | refine wl_nilc ?_ | refine wl_mkf ?_) | refine wlpg ?_ | refine wlg_load ?_ | refine wlg_idxa ?_ | refine wlg_fld ?_ | refine wlg_idx ?_ | refine wlg_len ?_ | refine wlg_bin ?_ | refine wlg_cnv ?_ | refine wlg_slc ?_ | refine wlg_una ?_ | refine wlg_nilc ?_ | refine wlg_mkf ?_)) | (show thn _ _ _ _ _ _; (first | refine thn_normal ?_ | refine thn_ret ?_ | refine thn_exit ?_)) | (show thl _ _ _ _ _ _ _; (first | refine thl_normal ?_ | refine thl_ret ?_ | refine thl_exit ?_)) | (show WC _ _ _ _ _ _ _; (first | refine WC_seq ?_ | refine WC_region ?_ | refine WC_ret ?_ | refine WC_skip ?_ | refine WC_block ?_ | refine WC_exit ?_ | refine WC_label ?_ | refine WC_scope rfl ?_ | refine wcyes ?_ | refine wcno ?_)) | (show blk _ _ _ _ _ _; (first | refine blk_ret ?_ | refine blk_here ?_ | refine blk_on rfl ?_ | refine blk_normal ?_)) | (show ngt _ _ _ _ _; (first | refine ngt_normal ?_ | refine ngt_ret ?_ | refine ngt_exit ?_))) | (show WC _ _ _ _ _ _ _; first | refine WC_dec rfl (fun hc => ?_) (fun hc => ?_) | refine WC_cond rfl (fun hc => ?_) (fun hc => ?_)))
  all_goals ((first | refine fp1 (.inl rfl) rfl rfl ?_ | refine fp2 (.inl rfl) rfl rfl rfl ?_ | refine fp3 (.inl rfl) rfl rfl rfl rfl ?_ | refine fp0 (.inr rfl) rfl ?_ | refine fp0 (.inl rfl) rfl ?_ | refine fp1 (.inr rfl) rfl rfl ?_); refine ⟨?_, by (first | exact Frm.refl _ | assumption | exact Go.Sv.Sep.frm (by assumption) | (refine Frm.trans ?_ (by assumption); first | exact Frm.refl _ | assumption))⟩)
  all_goals (show int _ = _)
  all_goals (try simp only [pkb_or, pkb_and, Bool.and_eq_true, Bool.or_eq_true, Bool.and_eq_false_iff, Bool.or_eq_false_iff, decide_eq_true_eq, decide_eq_false_iff_not, Bool.not_eq_true', Bool.not_eq_false'] at *)
  all_goals unfold sizeR
  all_goals first
    | (rw [if_pos (by omega)]; rfl)
    | (rw [if_neg (by omega), if_pos (by omega)]; rfl)
    | (rw [if_neg (by omega), if_neg (by omega), if_pos (by omega)]; rfl)
    | (rw [if_neg (by omega), if_neg (by omega), if_neg (by omega), if_pos (by omega)]; rfl)
    | (rw [if_neg (by omega), if_neg (by omega), if_neg (by omega), if_neg (by omega)]; rfl)

theorem second_ok (c d : Nat) (w : World) : PureC Tryd.prog 126 #[byt c, byt d] w (.bool (secondR c d)) := by
  refine enter (l := [byt c, byt d]) Tryd.func126 rfl Tryd.ntmps126 (by kernel_rfl) rfl ?_
  repeat' (first | (first | (show WL _ _ _ _ _ _ _ _; (first | refine wlp ?_ | refine WL_nil ?_ | (show WL _ _ _ _ _ (Go.Oper.mk _ _ _ _ _ none :: _) _ _; first | refine wlpk ?_ | refine wl_load ?_ | refine wl_idxa ?_ | refine wl_fld ?_ | refine wl_idx ?_ | refine wl_len ?_ | refine wl_bin ?_ | refine wl_cnv ?_ | refine wl_slc ?_ | refine wl_una ?_ | refine wl_nilc ?_ | refine wl_mkf ?_) | refine wlpg ?_ | refine wlg_load ?_ | refine wlg_idxa ?_ | refine wlg_fld ?_ | refine wlg_idx ?_ | refine wlg_len ?_ | refine wlg_bin ?_ | refine wlg_cnv ?_ | refine wlg_slc ?_ | refine wlg_una ?_ | refine wlg_nilc ?_ | refine wlg_mkf ?_)) | (show thn _ _ _ _ _ _; (first | refine thn_normal ?_ | refine thn_ret ?_ | refine thn_exit ?_)) | (show thl _ _ _ _ _ _ _; (first | refine thl_normal ?_ | refine thl_ret ?_ | refine thl_exit ?_)) | (show WC _ _ _ _ _ _ _; (first | refine WC_seq ?_ | refine WC_region ?_ | refine WC_ret ?_ | refine WC_skip ?_ | refine WC_block ?_ | refine WC_exit ?_ | refine WC_label ?_ | refine WC_scope rfl ?_ | refine wcyes ?_ | refine wcno ?_)) | (show blk _ _ _ _ _ _; (first | refine blk_ret ?_ | refine blk_here ?_ | refine blk_on rfl ?_ | refine blk_normal ?_)) | (show ngt _ _ _ _ _; (first | refine ngt_normal ?_ | refine ngt_ret ?_ | refine ngt_exit ?_))) | (show WC _ _ _ _ _ _ _; first | refine WC_dec rfl (fun hc => ?_) (fun hc => ?_) | refine WC_cond rfl (fun hc => ?_) (fun hc => ?_)))
  all_goals ((first | refine fp1 (.inl rfl) rfl rfl ?_ | refine fp2 (.inl rfl) rfl rfl rfl ?_ | refine fp3 (.inl rfl) rfl rfl rfl rfl ?_ | refine fp0 (.inr rfl) rfl ?_ | refine fp0 (.inl rfl) rfl ?_ | refine fp1 (.inr rfl) rfl rfl ?_); refine ⟨?_, by (first | exact Frm.refl _ | assumption | exact Go.Sv.Sep.frm (by assumption) | (refine Frm.trans ?_ (by assumption); first | exact Frm.refl _ | assumption))⟩)
  all_goals (show Value.bool _ = _)
  all_goals rw [pkb_and]
  all_goals unfold secondR
  all_goals (repeat' split)
  all_goals first
    | (exfalso; omega)
    | (congr 2 <;> (rw [decide_eq_decide]; omega))

theorem tup_ib {k : Int} {a b : Bool} (h : a = b) : Value.tuple #[int k, .bool a] = .tuple #[int k, .bool b] := by rw [h]

/-- how far it is good, from k on -/
def goodF (l : List UInt8) (n : Nat) : Nat → Nat → Nat
  | 0, k => k
  | f + 1, k => if k < n ∧ k < l.length then (if (k = 1 ∧ secondR (at0 l 0) (at0 l 1) = false) ∨ (1 < k ∧ (at0 l k < 0x80 ∨ 0xBF < at0 l k)) then k else goodF l n f (k + 1)) else k
def goodR (l : List UInt8) : Nat × Bool := if sizeR (at0 l 0) = 0 then (0, false) else (goodF l (sizeR (at0 l 0)) 4 1, decide (goodF l (sizeR (at0 l 0)) 4 1 = sizeR (at0 l 0)))

theorem sizeR_le (c : Nat) : sizeR c ≤ 4 := by unfold sizeR; repeat' split
                                               all_goals omega

set_option maxHeartbeats 1000000 in
theorem good_ok (l : List UInt8) (p : Option Addr) (n c : Nat) (hn : n = l.length) (h0 : 0 < l.length) (hc : l.length ≤ c) (hb : l.length < 4611686018427387904) (M : List Nat) (w : World) (hi : Im M w p (bs l)) :
    PureC Tryd.prog 105 #[.slice p n c] w (.tuple #[int (goodR l).1, .bool (goodR l).2]) := by
  subst hn
  have hs4 := sizeR_le (at0 l 0)
  refine enter (l := [.slice p l.length c]) Tryd.func105 rfl Tryd.ntmps105 (by kernel_rfl) rfl ?_
  refine sgo ?_
  refine wlpure (size_ok (at0 l 0) _) fun w1 hw1 => ?_
  replace hi := hi.frm hw1
  repeat' (first | (first | (show WL _ _ _ _ _ _ _ _; (first | refine wlp ?_ | refine WL_nil ?_ | (show WL _ _ _ _ _ (Go.Oper.mk _ _ _ _ _ none :: _) _ _; first | refine wlpk ?_ | refine wl_load ?_ | refine wl_idxa ?_ | refine wl_fld ?_ | refine wl_idx ?_ | refine wl_len ?_ | refine wl_bin ?_ | refine wl_cnv ?_ | refine wl_slc ?_ | refine wl_una ?_ | refine wl_nilc ?_ | refine wl_mkf ?_) | refine wlpg ?_ | refine wlg_load ?_ | refine wlg_idxa ?_ | refine wlg_fld ?_ | refine wlg_idx ?_ | refine wlg_len ?_ | refine wlg_bin ?_ | refine wlg_cnv ?_ | refine wlg_slc ?_ | refine wlg_una ?_ | refine wlg_nilc ?_ | refine wlg_mkf ?_)) | (show thn _ _ _ _ _ _; (first | refine thn_normal ?_ | refine thn_ret ?_ | refine thn_exit ?_)) | (show thl _ _ _ _ _ _ _; (first | refine thl_normal ?_ | refine thl_ret ?_ | refine thl_exit ?_)) | (show WC _ _ _ _ _ _ _; (first | refine WC_seq ?_ | refine WC_region ?_ | refine WC_ret ?_ | refine WC_skip ?_ | refine WC_block ?_ | refine WC_exit ?_ | refine WC_label ?_ | refine WC_scope rfl ?_ | refine wcyes ?_ | refine wcno ?_)) | (show blk _ _ _ _ _ _; (first | refine blk_ret ?_ | refine blk_here ?_ | refine blk_on rfl ?_ | refine blk_normal ?_)) | (show ngt _ _ _ _ _; (first | refine ngt_normal ?_ | refine ngt_ret ?_ | refine ngt_exit ?_))) | (show WC _ _ _ _ _ _ _; first | refine WC_dec rfl (fun hc => ?_) (fun hc => ?_) | refine WC_cond rfl (fun hc => ?_) (fun hc => ?_)))
  · (first | refine fp1 (.inl rfl) rfl rfl ?_ | refine fp2 (.inl rfl) rfl rfl rfl ?_ | refine fp3 (.inl rfl) rfl rfl rfl rfl ?_ | refine fp0 (.inr rfl) rfl ?_ | refine fp0 (.inl rfl) rfl ?_ | refine fp1 (.inr rfl) rfl rfl ?_)
    refine ⟨?_, hw1⟩
    unfold goodR; rw [if_pos (by omega)]; rfl
  rename_i hz
  have hgd : goodR l = (goodF l (sizeR (at0 l 0)) 4 1, decide (goodF l (sizeR (at0 l 0)) 4 1 = sizeR (at0 l 0))) := by unfold goodR; rw [if_neg (by omega)]
  refine wcloop (X := Nat) (fun x => [(0, .slice p l.length c), (4, int (sizeR (at0 l 0))), (5, int x)])
    (fun x wr => 1 ≤ x ∧ x ≤ sizeR (at0 l 0) ∧ goodF l (sizeR (at0 l 0)) 4 1 = goodF l (sizeR (at0 l 0)) (5 - x) x ∧ Frm w wr ∧ Im M wr p (bs l)) (fun x => 5 - x) 1 ⟨rfl, rfl, rfl, trivial⟩ ⟨by omega, by omega, rfl, hw1, hi⟩ ?_
  rintro k wr ρ ⟨hk1, hk4, hg, hfr, hIm⟩
  try dsimp only
  repeat' (first | (first | (show WL _ _ _ _ _ _ _ _; (first | refine wlp ?_ | refine WL_nil ?_ | (show WL _ _ _ _ _ (Go.Oper.mk _ _ _ _ _ none :: _) _ _; first | refine wlpk ?_ | refine wl_load ?_ | refine wl_idxa ?_ | refine wl_fld ?_ | refine wl_idx ?_ | refine wl_len ?_ | refine wl_bin ?_ | refine wl_cnv ?_ | refine wl_slc ?_ | refine wl_una ?_ | refine wl_nilc ?_ | refine wl_mkf ?_) | refine wlpg ?_ | refine wlg_load ?_ | refine wlg_idxa ?_ | refine wlg_fld ?_ | refine wlg_idx ?_ | refine wlg_len ?_ | refine wlg_bin ?_ | refine wlg_cnv ?_ | refine wlg_slc ?_ | refine wlg_una ?_ | refine wlg_nilc ?_ | refine wlg_mkf ?_)) | (show thn _ _ _ _ _ _; (first | refine thn_normal ?_ | refine thn_ret ?_ | refine thn_exit ?_)) | (show thl _ _ _ _ _ _ _; (first | refine thl_normal ?_ | refine thl_ret ?_ | refine thl_exit ?_)) | (show WC _ _ _ _ _ _ _; (first | refine WC_seq ?_ | refine WC_region ?_ | refine WC_ret ?_ | refine WC_skip ?_ | refine WC_block ?_ | refine WC_exit ?_ | refine WC_label ?_ | refine WC_scope rfl ?_ | refine wcyes ?_ | refine wcno ?_)) | (show blk _ _ _ _ _ _; (first | refine blk_ret ?_ | refine blk_here ?_ | refine blk_on rfl ?_ | refine blk_normal ?_)) | (show ngt _ _ _ _ _; (first | refine ngt_normal ?_ | refine ngt_ret ?_ | refine ngt_exit ?_))) | (show WC _ _ _ _ _ _ _; first | refine WC_dec rfl (fun hc => ?_) (fun hc => ?_) | refine WC_cond rfl (fun hc => ?_) (fun hc => ?_)))
  · -- one byte more?
    rw [pkb_and, Bool.and_eq_true, decide_eq_true_eq, decide_eq_true_eq] at hc
    (first | refine WC_seq ?_ | skip); refine wcdraw ?_
    refine qgo ?_
    refine qlcallgp (fun _ w _ => second_ok (at0 l 0) (at0 l 1) w) ?_
    refine qgo ?_
    refine QL_nil ?_; intro wd hwd
    replace hfr := hfr.trans hwd
    replace hIm := hIm.frm hwd
    have hgk : goodF l (sizeR (at0 l 0)) (5 - k) k = if (k = 1 ∧ secondR (at0 l 0) (at0 l 1) = false) ∨ (1 < k ∧ (at0 l k < 0x80 ∨ 0xBF < at0 l k)) then k else goodF l (sizeR (at0 l 0)) (4 - k) (k + 1) := by
      rw [show 5 - k = (4 - k) + 1 from by omega, goodF, if_pos ⟨by omega, by omega⟩]
    repeat' (first | (first | (show WL _ _ _ _ _ _ _ _; (first | refine wlp ?_ | refine WL_nil ?_ | (show WL _ _ _ _ _ (Go.Oper.mk _ _ _ _ _ none :: _) _ _; first | refine wlpk ?_ | refine wl_load ?_ | refine wl_idxa ?_ | refine wl_fld ?_ | refine wl_idx ?_ | refine wl_len ?_ | refine wl_bin ?_ | refine wl_cnv ?_ | refine wl_slc ?_ | refine wl_una ?_ | refine wl_nilc ?_ | refine wl_mkf ?_) | refine wlpg ?_ | refine wlg_load ?_ | refine wlg_idxa ?_ | refine wlg_fld ?_ | refine wlg_idx ?_ | refine wlg_len ?_ | refine wlg_bin ?_ | refine wlg_cnv ?_ | refine wlg_slc ?_ | refine wlg_una ?_ | refine wlg_nilc ?_ | refine wlg_mkf ?_)) | (show thn _ _ _ _ _ _; (first | refine thn_normal ?_ | refine thn_ret ?_ | refine thn_exit ?_)) | (show thl _ _ _ _ _ _ _; (first | refine thl_normal ?_ | refine thl_ret ?_ | refine thl_exit ?_)) | (show WC _ _ _ _ _ _ _; (first | refine WC_seq ?_ | refine WC_region ?_ | refine WC_ret ?_ | refine WC_skip ?_ | refine WC_block ?_ | refine WC_exit ?_ | refine WC_label ?_ | refine WC_scope rfl ?_ | refine wcyes ?_ | refine wcno ?_)) | (show blk _ _ _ _ _ _; (first | refine blk_ret ?_ | refine blk_here ?_ | refine blk_on rfl ?_ | refine blk_normal ?_)) | (show ngt _ _ _ _ _; (first | refine ngt_normal ?_ | refine ngt_ret ?_ | refine ngt_exit ?_))) | (show WC _ _ _ _ _ _ _; first | refine WC_dec rfl (fun hc => ?_) (fun hc => ?_) | refine WC_cond rfl (fun hc => ?_) (fun hc => ?_)))
    · (first | refine fp1 (.inl rfl) rfl rfl ?_ | refine fp2 (.inl rfl) rfl rfl rfl ?_ | refine fp3 (.inl rfl) rfl rfl rfl rfl ?_ | refine fp0 (.inr rfl) rfl ?_ | refine fp0 (.inl rfl) rfl ?_ | refine fp1 (.inr rfl) rfl rfl ?_)
      refine ⟨?_, hfr⟩
      rename_i hk hc2
      simp only [pkb_or, pkb_and, Bool.or_eq_true, Bool.and_eq_true, decide_eq_true_eq, Bool.not_eq_true'] at hc
      have hpos : (k = 1 ∧ secondR (at0 l 0) (at0 l 1) = false) ∨ (1 < k ∧ (at0 l k < 0x80 ∨ 0xBF < at0 l k)) := by
        rcases hc with ⟨h1, h2⟩ | ⟨h1, h2⟩
        · exact .inl ⟨by omega, h2⟩
        · exact .inr ⟨by omega, by simp only [at0]; omega⟩
      rw [if_pos hpos] at hgk
      rw [hgd, hg, hgk]
      exact tup_ib (by rw [decide_eq_decide]; omega)
    · simp only [pkb_or, pkb_and, Bool.or_eq_false_iff, Bool.and_eq_false_iff, decide_eq_false_iff_not, Bool.not_eq_false'] at hc
      have hneg : ¬ ((k = 1 ∧ secondR (at0 l 0) (at0 l 1) = false) ∨ (1 < k ∧ (at0 l k < 0x80 ∨ 0xBF < at0 l k))) := by
        intro h
        rcases h with ⟨h1, h2⟩ | h
        · rcases hc.1 with h3 | h3
          · omega
          · rw [h2] at h3; cases h3
        · simp only [at0] at h; omega
      rw [if_neg hneg] at hgk
      refine ⟨k + 1, ⟨rfl, rfl, rfl, trivial⟩, ⟨by omega, by omega, ?_, hfr, hIm⟩, by omega⟩
      rw [hg, hgk]; congr 1; omega
  · -- no more
    simp only [pkb_and, Bool.and_eq_false_iff, decide_eq_false_iff_not] at hc
    (first | refine fp1 (.inl rfl) rfl rfl ?_ | refine fp2 (.inl rfl) rfl rfl rfl ?_ | refine fp3 (.inl rfl) rfl rfl rfl rfl ?_ | refine fp0 (.inr rfl) rfl ?_ | refine fp0 (.inl rfl) rfl ?_ | refine fp1 (.inr rfl) rfl rfl ?_)
    refine ⟨?_, hfr⟩
    have hgk : goodF l (sizeR (at0 l 0)) (5 - k) k = k := by
      rw [show 5 - k = (4 - k) + 1 from by omega, goodF, if_neg (by omega)]
    rw [hgd, hg, hgk]
    exact tup_ib (by rw [decide_eq_decide]; omega)
end Go.Proofs.YtffaoehhhdcjjaaDoor

/-
  Package sieveref01: Pieces and Valid.
-/
set_option linter.unusedSimpArgs false
set_option linter.unusedVariables false
set_option linter.unnecessarySimpa false
namespace Go.Proofs.YtffaoehhhdcjjaaDoor
open Go Go.Sv Go.RowKit

def accR (l : List UInt8) : Nat → Nat → Nat → Nat
  | 0, _, r => r
  | f + 1, i, r => accR l f (i + 1) (r * 64 + at0 l i % 64)
def firstR (c n : Nat) : Nat := if n = 2 then c % 32 else if n = 3 then c % 16 else if n = 4 then c % 8 else c
/-- the piece at the beginning: its rune, how many bytes, is it right -/
def pieceR (l : List UInt8) : Int × Nat × Bool :=
  (if (goodR l).2 then (accR l ((goodR l).1 - 1) 1 (firstR (at0 l 0) (goodR l).1) : Nat) else 65533, if (goodR l).1 = 0 then 1 else (goodR l).1, (goodR l).2)
structure Piece where
  r : Int
  at_ : Nat
  size : Nat
  right : Bool
def Piece.cells (x : Piece) : List Value := [i32 x.r, int x.at_, int x.size, .bool x.right]
def piecesF : Nat → Nat → List UInt8 → List Piece
  | 0, _, _ => []
  | f + 1, at_, l => if l = [] then [] else ⟨(pieceR l).1, at_, (pieceR l).2.1, (pieceR l).2.2⟩ :: piecesF f (at_ + (pieceR l).2.1) (l.drop (pieceR l).2.1)
def piecesR (l : List UInt8) : List Piece := piecesF l.length 0 l

theorem goodF_rng (l : List UInt8) (n : Nat) (h0 : 0 < l.length) : ∀ (f k : Nat), 1 ≤ k → k ≤ l.length → 1 ≤ goodF l n f k ∧ goodF l n f k ≤ l.length
  | 0, k, h1, h2 => ⟨h1, h2⟩
  | f + 1, k, h1, h2 => by
    simp only [goodF]
    repeat' split
    · exact ⟨h1, h2⟩
    · exact goodF_rng l n h0 f (k + 1) (by omega) (by omega)
    · exact ⟨h1, h2⟩
theorem goodR_rng (l : List UInt8) (h0 : 0 < l.length) : (goodR l).1 ≤ l.length ∧ ((goodR l).2 = true → (goodR l).1 = sizeR (at0 l 0) ∧ 1 ≤ (goodR l).1 ∧ (goodR l).1 ≤ 4) := by
  have h4 := sizeR_le (at0 l 0)
  unfold goodR
  split
  · exact ⟨by simp, by simp⟩
  · have := goodF_rng l (sizeR (at0 l 0)) h0 4 1 (by omega) (by omega)
    refine ⟨by simp only []; omega, fun h => ?_⟩
    simp only [decide_eq_true_eq] at h
    exact ⟨h, by simp only []; omega, by simp only []; omega⟩
theorem pieceR_rng (l : List UInt8) (h0 : 0 < l.length) : 1 ≤ (pieceR l).2.1 ∧ (pieceR l).2.1 ≤ l.length := by
  have := goodR_rng l h0
  simp only [pieceR]
  split <;> omega
theorem piecesF_more : ∀ (f f' a : Nat) (l : List UInt8), l.length ≤ f → l.length ≤ f' → piecesF f a l = piecesF f' a l
  | 0, f', a, l, h, _ => by
    have : l = [] := List.eq_nil_of_length_eq_zero (by omega)
    subst this
    cases f' <;> simp [piecesF]
  | f + 1, 0, a, l, _, h => by
    have : l = [] := List.eq_nil_of_length_eq_zero (by omega)
    subst this
    simp [piecesF]
  | f + 1, f' + 1, a, l, h, h' => by
    simp only [piecesF]
    split
    · rfl
    · rename_i hne
      have hl : 0 < l.length := List.length_pos_iff.2 hne
      have := pieceR_rng l hl
      rw [piecesF_more f f' _ _ (by simp; omega) (by simp; omega)]

set_option maxHeartbeats 4000000 in
theorem pieces_ok (l : List UInt8) (p : Option Addr) (n c : Nat) (hn : n = l.length) (hc : l.length ≤ c) (hb : l.length ≤ 1073741824) (w : World) (hi : Im [] w p (bs l)) :
    CallsR Tryd.prog 80 #[.slice p n c] w fun v w' => Frm w w' ∧ ∃ q cc, v = .slice q (piecesR l).length cc ∧ Row w' 4 q (piecesR l).length cc ((piecesR l).flatMap Piece.cells) ∧ ∀ x ∈ rb q, w.heap.size ≤ x := by
  subst hn
  refine enter (l := [.slice p l.length c]) Tryd.func80 rfl Tryd.ntmps80 (by kernel_rfl) rfl ?_
  refine sgo ?_
  refine wcloop (X := Nat × List Piece × Option Addr × Nat) (fun x => [(0, .slice p l.length c), (3, .slice x.2.2.1 x.2.1.length x.2.2.2), (4, int x.1)])
    (fun x wr => x.1 ≤ l.length ∧ x.2.1.length ≤ x.1 ∧ piecesR l = x.2.1 ++ piecesF (l.length - x.1) x.1 (l.drop x.1) ∧ Frm w wr ∧ Row wr 4 x.2.2.1 x.2.1.length x.2.2.2 (x.2.1.flatMap Piece.cells) ∧ ∀ b ∈ rb x.2.2.1, w.heap.size ≤ b)
    (fun x => l.length - x.1) (0, [], none, 0) ⟨rfl, rfl, rfl, trivial⟩ ⟨by omega, by simp, by simp [piecesR], Frm.refl _, Row.nil _ _, rb_nil _⟩ ?_
  rintro ⟨at_, acc, q, cc⟩ wr ρ ⟨hat, hacc, hP, hfr, hR, hq⟩
  dsimp only at hat hacc hP hR hq ⊢
  repeat' (first | (first | (show WL _ _ _ _ _ _ _ _; (first | refine wlp ?_ | refine WL_nil ?_ | (show WL _ _ _ _ _ (Go.Oper.mk _ _ _ _ _ none :: _) _ _; first | refine wlpk ?_ | refine wl_load ?_ | refine wl_idxa ?_ | refine wl_fld ?_ | refine wl_idx ?_ | refine wl_len ?_ | refine wl_bin ?_ | refine wl_cnv ?_ | refine wl_slc ?_ | refine wl_una ?_ | refine wl_nilc ?_ | refine wl_mkf ?_) | refine wlpg ?_ | refine wlg_load ?_ | refine wlg_idxa ?_ | refine wlg_fld ?_ | refine wlg_idx ?_ | refine wlg_len ?_ | refine wlg_bin ?_ | refine wlg_cnv ?_ | refine wlg_slc ?_ | refine wlg_una ?_ | refine wlg_nilc ?_ | refine wlg_mkf ?_)) | (show thn _ _ _ _ _ _; (first | refine thn_normal ?_ | refine thn_ret ?_ | refine thn_exit ?_)) | (show thl _ _ _ _ _ _ _; (first | refine thl_normal ?_ | refine thl_ret ?_ | refine thl_exit ?_)) | (show WC _ _ _ _ _ _ _; (first | refine WC_seq ?_ | refine WC_region ?_ | refine WC_ret ?_ | refine WC_skip ?_ | refine WC_block ?_ | refine WC_exit ?_ | refine WC_label ?_ | refine WC_scope rfl ?_ | refine wcyes ?_ | refine wcno ?_)) | (show blk _ _ _ _ _ _; (first | refine blk_ret ?_ | refine blk_here ?_ | refine blk_on rfl ?_ | refine blk_normal ?_)) | (show ngt _ _ _ _ _; (first | refine ngt_normal ?_ | refine ngt_ret ?_ | refine ngt_exit ?_))) | (show WC _ _ _ _ _ _ _; first | refine WC_dec rfl (fun hc => ?_) (fun hc => ?_) | refine WC_cond rfl (fun hc => ?_) (fun hc => ?_)))
  · have hcs : ¬ c = at_ := by omega
    have hlt : at_ < l.length := by omega
    have hdl : (l.drop at_).length = l.length - at_ := by simp
    have hIm := hi.frm hfr
    have hp := hIm.part1 (c := c) (i' := at_) (by intro h; omega)
    rw [bs_drop] at hp
    refine wlpure (good_ok (l.drop at_) _ _ _ (by simp) (by omega) (by omega) (by omega) [] _ hp) fun w1 hw1 => ?_
    have hrg := goodR_rng (l.drop at_) (by omega)
    have hpr := pieceR_rng (l.drop at_) (by omega)
    have hfr1 := hfr.trans hw1
    replace hR := hR.frm hw1
    clear hIm hp
    generalize hG : goodR (l.drop at_) = G at *
    obtain ⟨k, all⟩ := G
    dsimp only at hrg ⊢
    refine sgo ?_
    refine wlbuild ?_
    refine wlalloc fun b w2 hb1 ho hf2 => ?_
    have hbw : w.heap.size ≤ b := Nat.le_trans hfr1.size hb1
    have hqb : ∀ x ∈ rb q, x ≠ b := fun x hx => by have := hR.lt x hx; omega
    have hfr2 := hfr1.trans hf2
    replace hR := hR.frm hf2
    refine wlstorea0 ho fun w3 ho3 hl3 => ?_
    have hfr3 := hfr2.step hl3 (by simpa using hbw)
    replace hR := hR.le hl3 (by simpa using hqb)
    refine WL_nil ?_; refine thn_normal ?_
    -- the bytes of a wrong one
    refine wcut (X := Unit) (fun _ => [(0, .slice p l.length c), (3, .slice q acc.length cc), (4, int at_), (5, int k), (6, .bool all), (7, ptrAt (pb b) 0)])
      (fun _ w4 => Frm w w4 ∧ Row w4 4 q acc.length cc (acc.flatMap Piece.cells) ∧ Own w4 b [i32 65533, int at_, int (if k = 0 then 1 else k : Nat), .bool all]) ?_ ?_
    · repeat' (first | (first | (show WL _ _ _ _ _ _ _ _; (first | refine wlp ?_ | refine WL_nil ?_ | (show WL _ _ _ _ _ (Go.Oper.mk _ _ _ _ _ none :: _) _ _; first | refine wlpk ?_ | refine wl_load ?_ | refine wl_idxa ?_ | refine wl_fld ?_ | refine wl_idx ?_ | refine wl_len ?_ | refine wl_bin ?_ | refine wl_cnv ?_ | refine wl_slc ?_ | refine wl_una ?_ | refine wl_nilc ?_ | refine wl_mkf ?_) | refine wlpg ?_ | refine wlg_load ?_ | refine wlg_idxa ?_ | refine wlg_fld ?_ | refine wlg_idx ?_ | refine wlg_len ?_ | refine wlg_bin ?_ | refine wlg_cnv ?_ | refine wlg_slc ?_ | refine wlg_una ?_ | refine wlg_nilc ?_ | refine wlg_mkf ?_)) | (show thn _ _ _ _ _ _; (first | refine thn_normal ?_ | refine thn_ret ?_ | refine thn_exit ?_)) | (show thl _ _ _ _ _ _ _; (first | refine thl_normal ?_ | refine thl_ret ?_ | refine thl_exit ?_)) | (show WC _ _ _ _ _ _ _; (first | refine WC_seq ?_ | refine WC_region ?_ | refine WC_ret ?_ | refine WC_skip ?_ | refine WC_block ?_ | refine WC_exit ?_ | refine WC_label ?_ | refine WC_scope rfl ?_ | refine wcyes ?_ | refine wcno ?_)) | (show blk _ _ _ _ _ _; (first | refine blk_ret ?_ | refine blk_here ?_ | refine blk_on rfl ?_ | refine blk_normal ?_)) | (show ngt _ _ _ _ _; (first | refine ngt_normal ?_ | refine ngt_ret ?_ | refine ngt_exit ?_))) | (show WC _ _ _ _ _ _ _; first | refine WC_dec rfl (fun hc => ?_) (fun hc => ?_) | refine WC_cond rfl (fun hc => ?_) (fun hc => ?_)))
      · refine wlst_int ho3 fun w4 ho4 hl4 => ?_
        refine sgo ?_
        refine ⟨(), ⟨rfl, rfl, rfl, rfl, rfl, rfl, trivial⟩, hfr3.step hl4 (by simpa using hbw), hR.le hl4 (by simpa using hqb), ?_⟩
        rw [if_pos (by omega)]; exact ho4
      · refine ⟨(), ⟨rfl, rfl, rfl, rfl, rfl, rfl, trivial⟩, hfr3, hR, ?_⟩
        rw [if_neg (by omega)]; exact ho3
    clear hR ho3 ho
    rintro ⟨⟩ w4 ρ4 ⟨hfr4, hR4, ho4⟩
    have hpc : pieceR (l.drop at_) = ((if all then (accR (l.drop at_) (k - 1) 1 (firstR (at0 (l.drop at_) 0) k) : Nat) else 65533 : Int), if k = 0 then 1 else k, all) := by simp only [pieceR, hG]
    rw [hpc] at hpr
    dsimp only at hpr
    generalize hsz : (if k = 0 then 1 else k) = sz at *
    -- the rune of a right one
    refine wcut (X := Int) (fun _ => [(0, .slice p l.length c), (3, .slice q acc.length cc), (4, int at_), (7, ptrAt (pb b) 0)])
      (fun r w5 => r = (if all then (accR (l.drop at_) (k - 1) 1 (firstR (at0 (l.drop at_) 0) k) : Nat) else 65533 : Int) ∧ Frm w w5 ∧ Row w5 4 q acc.length cc (acc.flatMap Piece.cells) ∧ Own w5 b [i32 r, int at_, int sz, .bool all]) ?_ ?_
    · have hIm4 := hi.frm hfr4
      refine sgo ?_
      (show WC _ _ _ _ _ _ _; first | refine WC_dec rfl (fun hc => ?_) (fun hc => ?_) | refine WC_cond rfl (fun hc => ?_) (fun hc => ?_))
      · have hall := hc
        have hk4 := hrg.2 hc
        -- the first byte
        refine WC_seq ?_; refine WC_region ?_; (repeat (first | refine wlp ?_ | refine WL_nil ?_ | (show WL _ _ _ _ _ (Go.Oper.mk _ _ _ _ _ none :: _) _ _; first | refine wlpk ?_ | refine wl_load ?_ | refine wl_idxa ?_ | refine wl_fld ?_ | refine wl_idx ?_ | refine wl_len ?_ | refine wl_bin ?_ | refine wl_cnv ?_ | refine wl_slc ?_ | refine wl_una ?_ | refine wl_nilc ?_ | refine wl_mkf ?_) | refine wlpg ?_ | refine wlg_load ?_ | refine wlg_idxa ?_ | refine wlg_fld ?_ | refine wlg_idx ?_ | refine wlg_len ?_ | refine wlg_bin ?_ | refine wlg_cnv ?_ | refine wlg_slc ?_ | refine wlg_una ?_ | refine wlg_nilc ?_ | refine wlg_mkf ?_)); refine thn_normal ?_
        refine wcut (X := Nat) (fun r => [(0, .slice p l.length c), (3, .slice q acc.length cc), (4, int at_), (5, int k), (7, ptrAt (pb b) 0), (8, i32 r)])
          (fun r w5 => r = firstR (at0 (l.drop at_) 0) k ∧ w5 = w4) ?_ ?_
        · have hat0 : at0 (l.drop at_) 0 = at0 l at_ := by simp [at0]
          rw [hat0]
          have hbt := at0_lt l at_
          repeat' (first | (first | (show WL _ _ _ _ _ _ _ _; (first | refine wlp ?_ | refine WL_nil ?_ | (show WL _ _ _ _ _ (Go.Oper.mk _ _ _ _ _ none :: _) _ _; first | refine wlpk ?_ | refine wl_load ?_ | refine wl_idxa ?_ | refine wl_fld ?_ | refine wl_idx ?_ | refine wl_len ?_ | refine wl_bin ?_ | refine wl_cnv ?_ | refine wl_slc ?_ | refine wl_una ?_ | refine wl_nilc ?_ | refine wl_mkf ?_) | refine wlpg ?_ | refine wlg_load ?_ | refine wlg_idxa ?_ | refine wlg_fld ?_ | refine wlg_idx ?_ | refine wlg_len ?_ | refine wlg_bin ?_ | refine wlg_cnv ?_ | refine wlg_slc ?_ | refine wlg_una ?_ | refine wlg_nilc ?_ | refine wlg_mkf ?_)) | (show thn _ _ _ _ _ _; (first | refine thn_normal ?_ | refine thn_ret ?_ | refine thn_exit ?_)) | (show thl _ _ _ _ _ _ _; (first | refine thl_normal ?_ | refine thl_ret ?_ | refine thl_exit ?_)) | (show WC _ _ _ _ _ _ _; (first | refine WC_seq ?_ | refine WC_region ?_ | refine WC_ret ?_ | refine WC_skip ?_ | refine WC_block ?_ | refine WC_exit ?_ | refine WC_label ?_ | refine WC_scope rfl ?_ | refine wcyes ?_ | refine wcno ?_)) | (show blk _ _ _ _ _ _; (first | refine blk_ret ?_ | refine blk_here ?_ | refine blk_on rfl ?_ | refine blk_normal ?_)) | (show ngt _ _ _ _ _; (first | refine ngt_normal ?_ | refine ngt_ret ?_ | refine ngt_exit ?_))) | (show WC _ _ _ _ _ _ _; first | refine WC_dec rfl (fun hc => ?_) (fun hc => ?_) | refine WC_cond rfl (fun hc => ?_) (fun hc => ?_)))
          · refine ⟨at0 l at_ % 32, ⟨rfl, rfl, rfl, rfl, rfl, ?_, trivial⟩, ?_, rfl⟩
            · show i32 _ = i32 _
              exact congrArg i32 (by simp only [at0]; omega)
            · rw [firstR, if_pos (by omega)]
          · refine ⟨at0 l at_ % 16, ⟨rfl, rfl, rfl, rfl, rfl, ?_, trivial⟩, ?_, rfl⟩
            · show i32 _ = i32 _
              exact congrArg i32 (by simp only [at0]; omega)
            · rw [firstR, if_neg (by omega), if_pos (by omega)]
          · refine ⟨at0 l at_ % 8, ⟨rfl, rfl, rfl, rfl, rfl, ?_, trivial⟩, ?_, rfl⟩
            · show i32 _ = i32 _
              exact congrArg i32 (by simp only [at0]; omega)
            · rw [firstR, if_neg (by omega), if_neg (by omega), if_pos (by omega)]
          · refine ⟨at0 l at_, ⟨rfl, rfl, rfl, rfl, rfl, rfl, trivial⟩, ?_, rfl⟩
            rw [firstR, if_neg (by omega), if_neg (by omega), if_neg (by omega)]
        · rintro r0 w5 ρ5 ⟨rfl, rfl⟩
          have hf32 : k ≠ 1 → firstR (at0 (l.drop at_) 0) k < 32 * 64 ^ 0 := by
            intro hk1
            have hbt := at0_lt (l.drop at_) 0
            unfold firstR
            repeat' split
            all_goals omega
          refine sgo ?_
          generalize hF : firstR (at0 (l.drop at_) 0) k = r0 at *
          refine wcloop (X := Nat × Nat) (fun x => [(0, .slice p l.length c), (3, .slice q acc.length cc), (4, int at_), (5, int k), (7, ptrAt (pb b) 0), (8, i32 x.2), (9, int x.1)])
            (fun x wx => wx = w5 ∧ 1 ≤ x.1 ∧ x.1 ≤ k ∧ (k ≠ 1 → x.2 < 32 * 64 ^ (x.1 - 1)) ∧ accR (l.drop at_) (k - 1) 1 r0 = accR (l.drop at_) (k - x.1) x.1 x.2)
            (fun x => k - x.1) (1, r0) ⟨rfl, rfl, rfl, rfl, rfl, rfl, rfl, trivial⟩ ⟨rfl, by omega, by omega, hf32, rfl⟩ ?_
          rintro ⟨i, r⟩ wx ρx ⟨rfl, hi1, hik, hr, hacr⟩
          dsimp only at hi1 hik hr hacr ⊢
          have hk3 := hk4.2.2
          have hr3 : i < k → r < 131072 := by
            intro hlt2
            have hr := hr (by omega)
            have hpw : i = 1 ∨ i = 2 ∨ i = 3 := by omega
            rcases hpw with h | h | h <;> subst h <;> simp at hr <;> omega
          refine sgo ?_
          (show WC _ _ _ _ _ _ _; first | refine WC_dec rfl (fun hc => ?_) (fun hc => ?_) | refine WC_cond rfl (fun hc => ?_) (fun hc => ?_))
          · have hr4 := hr3 (by omega)
            have hbt := at0_lt l (at_ + i)
            refine sgo ?_
            refine ⟨(i + 1, r * 64 + at0 (l.drop at_) i % 64), ⟨rfl, rfl, rfl, rfl, rfl, ?_, rfl, trivial⟩, ⟨rfl, by omega, by omega, ?_, ?_⟩, by omega⟩
            · show i32 _ = i32 _
              exact congrArg i32 (by simp only [at0, List.getElem?_drop]; omega)
            · intro hk1
              have hr := hr hk1
              have hpw : i = 1 ∨ i = 2 ∨ i = 3 := by omega
              rcases hpw with h | h | h <;> subst h <;> simp at hr ⊢ <;> omega
            · rw [hacr, show k - i = (k - (i + 1)) + 1 from by omega, accR]
          · refine sgo ?_
            refine wlst_int ho4 fun w6 ho6 hl6 => ?_
            refine sgo ?_
            refine ⟨r, ⟨rfl, rfl, rfl, rfl, trivial⟩, ?_, hfr4.step hl6 (by simpa using hbw), hR4.le hl6 (by simpa using hqb), ho6⟩
            rw [hall]
            have hki : k - i = 0 := by omega
            rw [hacr, hki, accR]; simp
      · refine sgo ?_
        refine ⟨65533, ⟨rfl, rfl, rfl, rfl, trivial⟩, ?_, hfr4, hR4, ho4⟩
        rw [hc]; rfl
    clear hR4 ho4
    rintro r w5 ρ5 ⟨hr, hfr5, hR5, ho5⟩
    refine sgo ?_
    refine wlb1a fun b2 w6 hb2 ho6 hf6 => ?_
    refine wlapp (hR5.frm hf6) ho6.sg fun q' cc' w7 hR7 hl7 => ?_
    have hfr6 := hfr5.trans hf6
    have hq' := hl7.fresh hfr6 hq
    have hfr7 := hfr6.step hl7.1 hq
    have ho7 : Own w7 b [i32 r, int at_, int sz, .bool all] := (ho5.frm hf6).le hl7.1 (fun hm => hqb b hm rfl)
    repeat' (first | (first | (show WL _ _ _ _ _ _ _ _; (first | refine wlp ?_ | refine WL_nil ?_ | (show WL _ _ _ _ _ (Go.Oper.mk _ _ _ _ _ none :: _) _ _; first | refine wlpk ?_ | refine wl_load ?_ | refine wl_idxa ?_ | refine wl_fld ?_ | refine wl_idx ?_ | refine wl_len ?_ | refine wl_bin ?_ | refine wl_cnv ?_ | refine wl_slc ?_ | refine wl_una ?_ | refine wl_nilc ?_ | refine wl_mkf ?_) | refine wlpg ?_ | refine wlg_load ?_ | refine wlg_idxa ?_ | refine wlg_fld ?_ | refine wlg_idx ?_ | refine wlg_len ?_ | refine wlg_bin ?_ | refine wlg_cnv ?_ | refine wlg_slc ?_ | refine wlg_una ?_ | refine wlg_nilc ?_ | refine wlg_mkf ?_)) | (show thn _ _ _ _ _ _; (first | refine thn_normal ?_ | refine thn_ret ?_ | refine thn_exit ?_)) | (show thl _ _ _ _ _ _ _; (first | refine thl_normal ?_ | refine thl_ret ?_ | refine thl_exit ?_)) | (show WC _ _ _ _ _ _ _; (first | refine WC_seq ?_ | refine WC_region ?_ | refine WC_ret ?_ | refine WC_skip ?_ | refine WC_block ?_ | refine WC_exit ?_ | refine WC_label ?_ | refine WC_scope rfl ?_ | refine wcyes ?_ | refine wcno ?_)) | (show blk _ _ _ _ _ _; (first | refine blk_ret ?_ | refine blk_here ?_ | refine blk_on rfl ?_ | refine blk_normal ?_)) | (show ngt _ _ _ _ _; (first | refine ngt_normal ?_ | refine ngt_ret ?_ | refine ngt_exit ?_))) | (show WC _ _ _ _ _ _ _; first | refine WC_dec rfl (fun hc => ?_) (fun hc => ?_) | refine WC_cond rfl (fun hc => ?_) (fun hc => ?_)))
    refine ⟨(at_ + sz, acc ++ [⟨r, at_, sz, all⟩], q', cc'), ⟨rfl, ?_, rfl, trivial⟩, ⟨by dsimp only; omega, by simp; omega, ?_, hfr7, ?_, hq'⟩, by dsimp only; omega⟩
    · simp only [List.length_append, List.length_singleton]; rfl
    · dsimp only
      rw [hP, show l.length - at_ = (l.length - at_ - 1) + 1 from by omega, piecesF, if_neg (by rw [← List.length_eq_zero_iff]; omega), hpc, List.append_assoc]
      dsimp only
      rw [List.drop_drop, hr]
      congr 1
      rw [List.singleton_append]
      congr 1
      refine piecesF_more _ _ _ _ ?_ ?_ <;> simp <;> omega
    · simpa [Piece.cells, List.flatMap_append] using hR7
  · (first | refine fp1 (.inl rfl) rfl rfl ?_ | refine fp2 (.inl rfl) rfl rfl rfl ?_ | refine fp3 (.inl rfl) rfl rfl rfl rfl ?_ | refine fp0 (.inr rfl) rfl ?_ | refine fp0 (.inl rfl) rfl ?_ | refine fp1 (.inr rfl) rfl rfl ?_)
    refine ⟨hfr, q, cc, ?_, ?_, hq⟩
    · have e0 : l.length - at_ = 0 := by omega
      rw [hP, e0, piecesF, List.append_nil]; rfl
    · have e0 : l.length - at_ = 0 := by omega
      rw [hP, e0, piecesF, List.append_nil]; exact hR
end Go.Proofs.YtffaoehhhdcjjaaDoor

/-
  Package sieveref01: Valid; and it says what utf.Valid says.
-/
set_option linter.unusedSimpArgs false
set_option linter.unusedVariables false
set_option linter.unnecessarySimpa false
namespace Go.Proofs.YtffaoehhhdcjjaaDoor
open Go Go.Sv Go.RowKit

def validR (l : List UInt8) : Bool := (piecesR l).all (·.right)

theorem piecesF_len : ∀ (f a : Nat) (l : List UInt8), (piecesF f a l).length ≤ l.length
  | 0, a, l => by simp [piecesF]
  | f + 1, a, l => by
    simp only [piecesF]
    split
    · simp
    · rename_i hne
      have hl : 0 < l.length := List.length_pos_iff.2 hne
      have := pieceR_rng l hl
      have ih := piecesF_len f (a + (pieceR l).2.1) (l.drop (pieceR l).2.1)
      simp only [List.length_cons, List.length_drop] at ih ⊢
      omega
theorem flatMap_cells_drop (l : List Piece) : ∀ (i j : Nat), j < 4 → (l.flatMap Piece.cells)[i * 4 + j]? = (l[i]?).bind fun x => x.cells[j]? := by
  induction l with
  | nil => intro i j _; simp
  | cons x l ih =>
    intro i j hj
    rw [List.flatMap_cons]
    cases i with
    | zero => simp only [Nat.zero_mul, Nat.zero_add]; rw [List.getElem?_append_left (by simpa [Piece.cells] using hj)]; simp
    | succ i =>
      rw [List.getElem?_append_right (by simp [Piece.cells]; omega)]
      have := ih i j hj
      simp only [Piece.cells, List.length_cons, List.length_nil] at this ⊢
      rw [show (i + 1) * 4 + j - (0 + 1 + 1 + 1 + 1) = i * 4 + j from by omega, this]; simp
theorem flatMap_cells_seg (l : List Piece) (i : Nat) (x : Piece) (hx : l[i]? = some x) : ((l.flatMap Piece.cells).drop (i * 4)).take 4 = x.cells := by
  apply List.ext_getElem?
  intro j
  rcases Nat.lt_or_ge j 4 with h | h
  · rw [List.getElem?_take_of_lt h, List.getElem?_drop, flatMap_cells_drop l i j h, hx]; rfl
  · rw [List.getElem?_eq_none (by simp; omega), List.getElem?_eq_none (by simpa [Piece.cells] using h)]
theorem flatMap_cells_len (l : List Piece) : (l.flatMap Piece.cells).length = l.length * 4 := by
  induction l with
  | nil => rfl
  | cons x l ih => simp [List.flatMap_cons, Piece.cells, ih]; omega


















































/-! ## utf.read reads what the reference's piece is -/
theorem rd_good (l : List UInt8) (m : Nat) : ∀ (g f i r : Nat), i + g = m + 1 → 2 ≤ i → i ≤ l.length → g ≤ f →
    rdLoop l m g i r 128 191 = if goodF l (m + 1) f i = m + 1 then (((accR l g i r : Nat) : Int), (m : Int) + 1, 0) else (65533, (goodF l (m + 1) f i : Nat), if goodF l (m + 1) f i = l.length then 2 else 1)
  | 0, f, i, r, h, h2, hl, hf => by
    have e : goodF l (m + 1) f i = i := by cases f with | zero => rfl | succ f => rw [goodF, if_neg (by omega)]
    rw [e, if_pos (by omega), rdLoop, accR]
  | g + 1, 0, i, r, h, h2, hl, hf => by omega
  | g + 1, f + 1, i, r, h, h2, hl, hf => by
    rw [rdLoop]
    by_cases h1 : i = l.length
    · have eg : goodF l (m + 1) (f + 1) i = i := by rw [goodF, if_neg (show ¬ (i < m + 1 ∧ i < l.length) by omega)]
      rw [if_pos h1, eg, if_neg (by omega), if_pos h1]
    · rw [if_neg h1]
      by_cases h3 : (at0 l i : Int) < 128 ∨ 191 < (at0 l i : Int)
      · have eg : goodF l (m + 1) (f + 1) i = i := by rw [goodF, if_pos (show i < m + 1 ∧ i < l.length by omega), if_pos (.inr ⟨by omega, by omega⟩)]
        rw [if_pos h3, eg, if_neg (by omega), if_neg h1]
      · have eg : goodF l (m + 1) (f + 1) i = goodF l (m + 1) f (i + 1) := by rw [goodF, if_pos (show i < m + 1 ∧ i < l.length by omega), if_neg (by omega)]
        rw [if_neg h3, eg]
        have := rd_good l m g f (i + 1) (r * 64 + at0 l i % 64) (by omega) (by omega) (by omega) (by omega)
        have ea : accR l (g + 1) i r = accR l g (i + 1) (r * 64 + at0 l i % 64) := rfl
        rw [ea, ← this]; simp

theorem bsz (c : Nat) (h : 2 ≤ sizeR c) : ∃ lo hi : Nat, boundsS c = ((sizeR c : Int) - 1, (lo : Int), (hi : Int)) ∧ ∀ d, secondR c d = (decide (lo ≤ d) && decide (d ≤ hi)) := by
  have hc : 0xC2 ≤ c ∧ c ≤ 0xF4 := by
    unfold sizeR at h
    by_cases h1 : c < 0x80
    · rw [if_pos h1] at h; omega
    · by_cases h2 : 0xC2 ≤ c ∧ c ≤ 0xF4
      · exact h2
      · rw [if_neg h1, if_neg (by omega), if_neg (by omega), if_neg (by omega)] at h; omega
  by_cases e0 : c = 0xe0
  · subst e0; exact ⟨0xa0, 0xbf, rfl, fun d => rfl⟩
  by_cases e1 : c = 0xed
  · subst e1; exact ⟨0x80, 0x9f, rfl, fun d => rfl⟩
  by_cases e2 : c = 0xf0
  · subst e2; exact ⟨0x90, 0xbf, rfl, fun d => rfl⟩
  by_cases e3 : c = 0xf4
  · subst e3; exact ⟨0x80, 0x8f, rfl, fun d => rfl⟩
  refine ⟨0x80, 0xbf, ?_, fun d => by unfold secondR; rw [if_neg e0, if_neg e1, if_neg e2, if_neg e3]⟩
  unfold boundsS sizeR
  by_cases a : c ≤ 0xdf
  · rw [if_neg (by omega), if_pos (by omega), if_neg (by omega), if_pos (by omega)]; rfl
  · by_cases b : c ≤ 0xef
    · rw [if_neg (by omega), if_neg (by omega), if_neg e0, if_neg e1, if_pos (by omega), if_neg (by omega), if_neg (by omega), if_pos (by omega)]; rfl
    · rw [if_neg (by omega), if_neg (by omega), if_neg e0, if_neg e1, if_neg (by omega), if_neg e2, if_pos (by omega), if_neg (by omega), if_neg (by omega), if_neg (by omega), if_pos (by omega)]; rfl

/-- what it tells besides the piece: whole, wrong or only begun -/
def whatR (l : List UInt8) : Int := if (pieceR l).2.2 then 0 else if 0 < (goodR l).1 ∧ (goodR l).1 = l.length then 2 else 1

theorem readS_piece (l : List UInt8) (h0 : 0 < l.length) : readS l = ((pieceR l).1, ((pieceR l).2.1 : Int), whatR l) := by
  have hc := at0_lt l 0
  by_cases h1 : at0 l 0 < 0x80
  · have hb : boundsS (at0 l 0) = (0, 0, 0) := by unfold boundsS; rw [if_pos h1]
    have hs : sizeR (at0 l 0) = 1 := by unfold sizeR; rw [if_pos h1]
    have hg : goodR l = (1, true) := by
      have e : goodF l 1 4 1 = 1 := by rw [goodF, if_neg (by omega)]
      unfold goodR; rw [hs, if_neg (by omega), e]; rfl
    simp only [readS, whatR, pieceR, hg, hb, firstR]
    simp [accR]
  · by_cases h2 : 2 ≤ sizeR (at0 l 0)
    · obtain ⟨lo, hi, hb, hsec⟩ := bsz _ h2
      have h4 := sizeR_le (at0 l 0)
      obtain ⟨m, hm⟩ : ∃ m, sizeR (at0 l 0) = m + 1 := ⟨sizeR (at0 l 0) - 1, by omega⟩
      have hr : readS l = rdLoop l m m 1 (at0 l 0 % 2 ^ (6 - m) : Nat) lo hi := by
        simp only [readS, hb, hm]
        rw [if_neg (by omega), if_neg (by omega)]
        rw [show ((m + 1 : Nat) : Int) - 1 = (m : Int) from by omega, Int.toNat_natCast]
      have hf : firstR (at0 l 0) (m + 1) = at0 l 0 % 2 ^ (6 - m) := by
        have : m = 1 ∨ m = 2 ∨ m = 3 := by omega
        rcases this with rfl | rfl | rfl <;> simp [firstR]
      have hg : goodR l = (goodF l (m + 1) 4 1, decide (goodF l (m + 1) 4 1 = m + 1)) := by unfold goodR; rw [hm, if_neg (by omega)]
      have key : readS l = if goodF l (m + 1) 4 1 = m + 1 then (((accR l m 1 (firstR (at0 l 0) (m + 1)) : Nat) : Int), (m : Int) + 1, 0) else (65533, (goodF l (m + 1) 4 1 : Nat), if goodF l (m + 1) 4 1 = l.length then 2 else 1) := by
        obtain ⟨g, rfl⟩ : ∃ g, m = g + 1 := ⟨m - 1, by omega⟩
        rw [hr, hf, rdLoop]
        by_cases e1 : 1 = l.length
        · have eg : goodF l (g + 1 + 1) 4 1 = 1 := by rw [goodF, if_neg (show ¬ (1 < g + 1 + 1 ∧ 1 < l.length) by omega)]
          rw [if_pos e1, eg, if_neg (by omega), if_pos e1]
        · rw [if_neg e1]
          have hs1 : secondR (at0 l 0) (at0 l 1) = false ↔ ((at0 l 1 : Int) < lo ∨ (hi : Int) < at0 l 1) := by
            rw [hsec, Bool.and_eq_false_iff, decide_eq_false_iff_not, decide_eq_false_iff_not]; omega
          by_cases e2 : (at0 l 1 : Int) < lo ∨ (hi : Int) < at0 l 1
          · have eg : goodF l (g + 1 + 1) 4 1 = 1 := by rw [goodF, if_pos (show 1 < g + 1 + 1 ∧ 1 < l.length by omega), if_pos (.inl ⟨rfl, hs1.2 e2⟩)]
            rw [if_pos e2, eg, if_neg (by omega), if_neg e1]
          · have eg : goodF l (g + 1 + 1) 4 1 = goodF l (g + 1 + 1) 3 2 := by
              rw [goodF, if_pos (show 1 < g + 1 + 1 ∧ 1 < l.length by omega), if_neg]
              rintro (⟨_, h⟩ | ⟨h, _⟩)
              · exact e2 (hs1.1 h)
              · omega
            rw [if_neg e2, eg]
            have := rd_good l (g + 1) g 3 2 (at0 l 0 % 2 ^ (6 - (g + 1)) * 64 + at0 l 1 % 64) (by omega) (by omega) (by omega) (by omega)
            have ea : accR l (g + 1) 1 (at0 l 0 % 2 ^ (6 - (g + 1))) = accR l g 2 (at0 l 0 % 2 ^ (6 - (g + 1)) * 64 + at0 l 1 % 64) := rfl
            rw [ea, ← this]; simp
      rw [key]
      have hgr := goodF_rng l (m + 1) h0 4 1 (by omega) (by omega)
      by_cases e : goodF l (m + 1) 4 1 = m + 1
      · rw [if_pos e]
        simp only [whatR, pieceR, hg, e]
        simp
      · rw [if_neg e]
        simp only [whatR, pieceR, hg]
        simp only [e, decide_false, Bool.false_eq_true, if_false]
        rw [if_neg (show ¬ goodF l (m + 1) 4 1 = 0 by omega)]
        by_cases e3 : goodF l (m + 1) 4 1 = l.length
        · rw [if_pos e3, if_pos ⟨by omega, e3⟩]
        · rw [if_neg e3, if_neg (by omega)]
    · have hs : sizeR (at0 l 0) = 0 := by
        unfold sizeR at h2 ⊢
        rw [if_neg h1] at h2 ⊢
        repeat' split at h2
        all_goals first | omega | skip
        rw [if_neg (by assumption), if_neg (by assumption), if_neg (by assumption)]
      have hb : boundsS (at0 l 0) = (-1, 0, 0) := by
        have : ¬ (0xC2 ≤ at0 l 0 ∧ at0 l 0 ≤ 0xF4) := by
          intro hh
          unfold sizeR at hs
          rw [if_neg h1] at hs
          repeat' split at hs
          all_goals omega
        unfold boundsS
        rw [if_neg (by omega), if_neg (by omega), if_neg (by omega), if_neg (by omega), if_neg (by omega), if_neg (by omega), if_neg (by omega), if_neg (by omega)]
      have hg : goodR l = (0, false) := by unfold goodR; rw [if_pos hs]
      simp [readS, whatR, pieceR, hg, hb]

theorem whatR_zero (l : List UInt8) : whatR l = 0 ↔ (pieceR l).2.2 = true := by
  unfold whatR
  cases (pieceR l).2.2
  · simp only [Bool.false_eq_true, if_false]; split <;> simp
  · simp
theorem valid_eqF : ∀ (f a : Nat) (l : List UInt8), l.length ≤ f → validF f l = (piecesF f a l).all (·.right)
  | 0, a, l, _ => rfl
  | f + 1, a, l, h => by
    simp only [validF, piecesF]
    split
    · rfl
    · rename_i hne
      have hl : 0 < l.length := List.length_pos_iff.2 hne
      have hp := readS_piece l hl
      have hr := pieceR_rng l hl
      rw [List.all_cons, ← valid_eqF f _ _ (by simp; omega), hp]
      dsimp only
      by_cases hw : whatR l = 0
      · rw [if_neg (by simpa using hw), (whatR_zero l).1 hw]; simp
      · rw [if_pos hw]
        have : (pieceR l).2.2 = false := by
          cases h3 : (pieceR l).2.2 with
          | true => exact absurd ((whatR_zero l).2 h3) hw
          | false => rfl
        rw [this]; rfl
/-- the program's Valid is the reference's -/
theorem valid_eq (l : List UInt8) : validS l = validR l := valid_eqF _ _ _ (Nat.le_refl _)
end Go.Proofs.YtffaoehhhdcjjaaDoor

/-
  Maps with keys that are strings; lists of records in cells.
-/
set_option linter.unusedSimpArgs false
set_option linter.unusedVariables false
set_option linter.unnecessarySimpa false
namespace Go.Sv
open Go Go.RowKit

/-! ## Lists of records -/
section
variable {α : Type} {f : α → List Value} {k : Nat}
theorem fm_len (h : ∀ x, (f x).length = k) (l : List α) : (l.flatMap f).length = l.length * k := by
  induction l with
  | nil => simp
  | cons x l ih => simp [List.flatMap_cons, ih, h, Nat.add_mul]; omega
theorem fm_get (h : ∀ x, (f x).length = k) (l : List α) : ∀ (i j : Nat), j < k → (l.flatMap f)[i * k + j]? = (l[i]?).bind fun x => (f x)[j]? := by
  induction l with
  | nil => intro i j _; simp
  | cons x l ih =>
    intro i j hj
    rw [List.flatMap_cons]
    cases i with
    | zero => simp only [Nat.zero_mul, Nat.zero_add]; rw [List.getElem?_append_left (by rw [h]; exact hj)]; simp
    | succ i =>
      rw [List.getElem?_append_right (by rw [h, Nat.succ_mul]; omega), h, show (i + 1) * k + j - k = i * k + j from by rw [Nat.succ_mul]; omega, ih i j hj]
      simp
theorem fm_seg (h : ∀ x, (f x).length = k) (l : List α) {i : Nat} {x : α} (hx : l[i]? = some x) : ((l.flatMap f).drop (i * k)).take k = f x := by
  apply List.ext_getElem?
  intro j
  rcases Nat.lt_or_ge j k with hj | hj
  · rw [List.getElem?_take_of_lt hj, List.getElem?_drop, fm_get h l i j hj, hx]; rfl
  · rw [List.getElem?_eq_none (by simp; omega), List.getElem?_eq_none (by rw [h]; exact hj)]
end

/-! ## Maps -/
def MMap (w : World) (m : Nat) (kv : List (List UInt8 × Value)) : Prop := ∃ es clock, w.heap[m]? = some (.map es clock) ∧ es.toList.map (fun e => (e.key, e.val)) = kv.map fun x => (str x.1, x.2)
/-- a map to true: a set -/
def MSet (w : World) (m : Nat) (ks : List (List UInt8)) : Prop := MMap w m (ks.map fun k => (k, .bool true))

section
variable {P : Program} {w w' : World} {m : Nat} {kv : List (List UInt8 × Value)} {ks : List (List UInt8)} {s : List UInt8}
theorem MMap.lt (h : MMap w m kv) : m < w.heap.size := by
  obtain ⟨es, cl, h, _⟩ := h
  exact (Array.getElem?_eq_some_iff.1 h).1
theorem MMap.le {M : List Nat} (h : MMap w m kv) (hl : Le M w w') (hm : m ∉ M) : MMap w' m kv := by
  have := h.lt
  obtain ⟨es, cl, h, h2⟩ := h
  exact ⟨es, cl, by rw [hl.block m this hm]; exact h, h2⟩
theorem MMap.frm (h : MMap w m kv) (hl : Frm w w') : MMap w' m kv := h.le (M := []) hl.le (by simp)
theorem MSet.lt (h : MSet w m ks) : m < w.heap.size := MMap.lt h
theorem MSet.le {M : List Nat} (h : MSet w m ks) (hl : Le M w w') (hm : m ∉ M) : MSet w' m ks := MMap.le h hl hm
theorem MSet.frm (h : MSet w m ks) (hl : Frm w w') : MSet w' m ks := MMap.frm h hl

variable {σ : Env} {d : Option Tmp} {ty t t' kt vt : TypeId} {pos : String} {af : Array Edge} {g : Option (Nat × Bool)} {x y z : Operand} {zv : Value} {size bytes : Nat}
end
section
variable {P : Program} {n : Nat} {ds : Ctx} {ops : Array Oper} {Q : Exit → Ctx → Env → World → Prop} {rest : List Oper} {σ : GE} {w : World} {v : Value} {d : Nat} {ty t kt vt : TypeId} {pos : String} {af : Array Edge} {x y z : Operand} {m j dj : Nat} {b c want : Bool} {ks : List (List UInt8)} {s : List UInt8}
end
end Go.Sv

/-
  strings.Builder: a block of two cells and a row of bytes; pointers compared; pointers turned to unsafe ones and back; slices written out.
-/
set_option linter.unusedSimpArgs false
set_option linter.unusedVariables false
set_option linter.unnecessarySimpa false
namespace Go.Sv
open Go Go.RowKit

/-- a builder in block b: it holds s; its bytes lie at q -/
structure BuP (T E : TypeId) (w : World) (b : Nat) (pv q : Option Addr) (c : Nat) (s : List UInt8) : Prop where
  hp : pv = none ∨ pv = pb b
  cell : w.heap[b]? = some (.cells #[.pointer pv, .slice q s.length c] T (0, 0))
  row : w.ownsRow 0 E 1 (.slice q s.length c) s.length (bs s)
  ne : b ∉ rb q
def Bld (T E : TypeId) (w : World) (b : Nat) (q : Option Addr) (s : List UInt8) : Prop := ∃ pv c, BuP T E w b pv q c s

section
variable {P : Program} {T E : TypeId} {w w' : World} {b : Nat} {pv q : Option Addr} {c : Nat} {s : List UInt8} {M : List Nat}
theorem rb_own {q : Option Addr} {n c k : Nat} : (Value.slice q n c).ownBlock = some k ↔ k ∈ rb q := by
  cases q with
  | none => simp [Value.ownBlock, rb]
  | some a => simp only [Value.ownBlock, rb, Option.some.injEq, List.mem_singleton]; exact eq_comm
theorem rowT_lt {B n : Nat} {xs : List Value} (h : w.ownsRow B E 1 (.slice q n c) n xs) : ∀ k ∈ rb q, k < w.heap.size := fun k hk => (h.lt k (rb_own.2 hk)).2
theorem rowT_le {B n : Nat} {xs : List Value} (h : w.ownsRow B E 1 (.slice q n c) n xs) (hl : Le M w w') (hM : ∀ k ∈ rb q, k ∉ M) : w'.ownsRow B E 1 (.slice q n c) n xs := by
  refine ⟨h.1, ?_⟩
  have hlt := rowT_lt h
  rcases h.2 with h1 | ⟨g, cap, cur, hv, h2, h3, h4⟩
  · exact .inl h1
  · refine .inr ⟨g, cap, cur, hv, h2, ?_, h4⟩
    have hg : g ∈ rb q := rb_own.1 (by rw [hv]; rfl)
    rw [hl.block g (hlt g hg) (hM g hg)]; exact h3
theorem rowT_row {B n : Nat} {xs : List Value} (h : w.ownsRow B E 1 (.slice q n c) n xs) : Row w 1 q n c xs := by
  refine ⟨h.1, ?_⟩
  rcases h.2 with ⟨h1, h2⟩ | ⟨g, cap, cur, hv, h2, h3, h4, h5, h6, h7⟩
  · injection h1 with h1 h3 h4
    exact .inl ⟨h1, h2, h4⟩
  · injection hv with h1 h8 h9
    subst h9
    refine .inr ⟨g, 0, cur, E, h1, h3, h4, by simpa [maxLen] using h5, by omega, by simpa using h7⟩
theorem rowT_base {B n : Nat} {xs : List Value} (h : w.ownsRow 0 E 1 (.slice q n c) n xs) (hB : ∀ k ∈ rb q, B ≤ k) : w.ownsRow B E 1 (.slice q n c) n xs := by
  refine ⟨h.1, ?_⟩
  rcases h.2 with h1 | ⟨g, cap, cur, hv, h2, h3⟩
  · exact .inl h1
  · exact .inr ⟨g, cap, cur, hv, hB g (rb_own.1 (by rw [hv]; rfl)), h3⟩

theorem BuP.own (h : BuP T E w b pv q c s) : Own w b [.pointer pv, .slice q s.length c] := ⟨T, h.cell⟩
theorem BuP.le (h : BuP T E w b pv q c s) (hl : Le M w w') (hb : b ∉ M) (hM : ∀ k ∈ rb q, k ∉ M) : BuP T E w' b pv q c s :=
  ⟨h.hp, by rw [hl.block b h.own.lt hb]; exact h.cell, rowT_le h.row hl hM, h.ne⟩
theorem Bld.lt (h : Bld T E w b q s) : ∀ k ∈ b :: rb q, k < w.heap.size := by
  obtain ⟨pv, c, h⟩ := h
  intro k hk
  rcases List.mem_cons.1 hk with rfl | hk
  · exact h.own.lt
  · exact rowT_lt h.row k hk
theorem Bld.le (h : Bld T E w b q s) (hl : Le M w w') (hM : ∀ k ∈ b :: rb q, k ∉ M) : Bld T E w' b q s := by
  obtain ⟨pv, c, h⟩ := h
  exact ⟨pv, c, h.le hl (hM b List.mem_cons_self) fun k hk => hM k (List.mem_cons_of_mem _ hk)⟩
theorem Bld.frm (h : Bld T E w b q s) (hl : Frm w w') : Bld T E w' b q s := h.le (M := []) hl.le (by simp)
/-- a new one -/
theorem Bld.new (ho : w.heap[b]? = some (.cells #[.pointer none, .slice none 0 0] T (0, 0))) : Bld T E w b none [] :=
  ⟨none, 0, .inl rfl, ho, ⟨by simp [bs], .inl ⟨rfl, rfl⟩⟩, by simp [rb]⟩
/-- for the shelf -/
theorem Bld.shelf {B : Nat} (h : Bld T E w b q s) (hB : ∀ k ∈ b :: rb q, B ≤ k) : Lib.IsBuilder T E B b (bs s) w := by
  obtain ⟨pv, c, h⟩ := h
  have h1 : Lib.BuilderAt T E B b (.pointer pv) (bs s) w := by
    refine ⟨hB b List.mem_cons_self, _, h.cell, ?_, fun hh => h.ne (rb_own.1 hh)⟩
    have := rowT_base (B := B) h.row fun k hk => hB k (List.mem_cons_of_mem _ hk)
    simpa using this
  rcases h.hp with rfl | rfl
  · exact .inl h1
  · exact .inr h1

/-- append to a row of bytes -/
theorem run_appT {t ty : TypeId} {zb : Nat} {n m cc : Nat} {a : Addr} {xs news : List Value} [hu : Und P t (.slice E)] [hi : Inf P E (.int .u8 0) 1 zb] (hr : w.ownsRow 0 E 1 (.slice q n c) n xs) (hs : seg w a news) (hl : news.length = m)
    (h1 : ∀ u ∈ news, u.oneCell' = true) (h63 : n + m ≤ 9223372036854775807) (hb : (n + m) * zb ≤ 140737488355328) :
    ∃ q' c' w', (Builtin.append_ #[t, t] ty #[.slice q n c, .slice (some a) m cc]).run P w = .ok (.slice q' (n + m) c') w' ∧ w'.ownsRow 0 E 1 (.slice q' (n + m) c') (n + m) (xs ++ news) ∧ Lm (rb q) w (rb q') w' := by
  obtain ⟨i, hi1, hi2, hi3, hi4⟩ := inf_size (P := P) (t := E)
  have hl1 : news.length = m * 1 := by omega
  obtain ⟨q', c', w', r1, r2, r3⟩ := run_append_row (P := P) (t := t) (tx := t) (ty := ty) (e := E) rfl (by decide) (rowT_row hr) (src_of_sg (tx := t) (c := cc) (.inr ⟨a, rfl, hs⟩) hl1 h1) h63 hb
  obtain ⟨v', w2, k1, k2, k3, k4⟩ := run_append_own (P := P) w 0 t ty E i (.int .u8 0) 1 zb hu.ok hi1 hi2 hi3 hi4 rfl (by decide) _ n xs hr a m cc news hl1
    (fun j u hj => by
      have hlt : j < news.length := by
        rcases Nat.lt_or_ge j news.length with h | h
        · exact h
        · rw [List.getElem?_eq_none h] at hj; cases hj
      rw [hs j hlt]; exact hj) h1 (by simpa [maxLen] using h63) hb (Nat.zero_le _)
  rw [r1] at k1
  injection k1 with k5 k6
  subst k6
  refine ⟨q', c', w', r1, ?_, r3⟩
  rw [k5]; exact k2
theorem run_appTs {t t' ty : TypeId} {n : Nat} {xs : List Value} [hu : Und P t (.slice E)] [hu' : Und P t' .string] [hi : Inf P E (.int .u8 0) 1 1] (hr : w.ownsRow 0 E 1 (.slice q n c) n xs)
    (h63 : n + s.length ≤ 9223372036854775807) (hb : n + s.length ≤ 140737488355328) :
    ∃ q' c' w', (Builtin.append_ #[t, t'] ty #[.slice q n c, str s]).run P w = .ok (.slice q' (n + s.length) c') w' ∧ w'.ownsRow 0 E 1 (.slice q' (n + s.length) c') (n + s.length) (xs ++ bs s) ∧ Lm (rb q) w (rb q') w' := by
  obtain ⟨i, hi1, hi2, hi3, hi4⟩ := inf_size (P := P) (t := E)
  have hsrc := Src.ofString (P := P) w hu'.ok ⟨s.toArray⟩
  rw [size_str] at hsrc
  have e1 : byteCells ⟨s.toArray⟩ = bs s := by simp [byteCells, bs]
  rw [e1] at hsrc
  obtain ⟨q', c', w', r1, r2, r3⟩ := run_append_row (P := P) (t := t) (tx := t') (ty := ty) (e := E) (size := 1) (z := .int .u8 0) rfl (by decide) (rowT_row hr) hsrc h63 (by omega)
  obtain ⟨v', w2, k1, k2, k3, k4⟩ := Lib.run_append_own_string (P := P) w 0 t t' ty E i hu.ok hu'.ok hi1 hi2 hi3 hi4 _ n xs hr ⟨s.toArray⟩ (by rw [size_str]; simpa [maxLen] using h63) (by rw [size_str]; exact hb) (Nat.zero_le _)
  rw [r1] at k1
  injection k1 with k5 k6
  subst k6
  rw [size_str] at k2
  refine ⟨q', c', w', r1, ?_, r3⟩
  rw [k5]
  have e2 : Lib.strCells ⟨s.toArray⟩ = bs s := by simp [Lib.strCells, bs]
  rw [← e2]; exact k2
end

/-! ## pointers -/
section
variable {P : Program} {σ : Env} {w : World} {d : Option Tmp} {ty t t' e : TypeId} {pos : String} {af : Array Edge} {g : Option (Nat × Bool)} {x y : Operand} {p : Option Addr}
theorem y_pnil [hu : Und P t (.pointer e)] (hx : evl σ x = .pointer p) (hy : evl σ y = .pointer none) : Y P σ ⟨d, .binOp .eql t x y t', ty, pos, af, g⟩ w (.bool p.isNone) w := by
  refine Y.val ?_
  have h : ∀ k : Nat, (Op.equalIn (k + 1) t (.pointer p) (.pointer none)).run P w = .ok p.isNone w := fun k => by
    cases p <;> simp [Op.equalIn, run_underlying hu.ok]
  simp only [execOp, hx, hy]
  simp [eqGuard, binOp, Op.equal, Op.maxDepth, h 9999]
theorem y_psame {a : Addr} {j : TypeInfo} [hu : Und P t (.pointer e)] (hx : evl σ x = .pointer (some a)) (hy : evl σ y = .pointer (some a)) (hj : P.info? e = some j) : Y P σ ⟨d, .binOp .neq t x y t', ty, pos, af, g⟩ w (.bool false) w := by
  refine Y.val ?_
  have h := Lib.run_neq_ptr_same (P := P) w (tp := t) a hu.ok hj
  simp only [execOp, hx, hy]
  rw [Sem.run_bind, Sem.run_bind, show (eqGuard .neq t x y (.pointer (some a)) (.pointer (some a))).run P w = .ok () w from by simp [eqGuard], Result.andThen_ok, h]
  rfl
theorem y_tou {a : Addr} {j : TypeInfo} {E : TypeId} {cells : Nat} [hu : Und P t (.pointer e)] [hu' : Und P t' .unsafePointer] (hx : evl σ x = .pointer (some a)) (ht : P.info? e = some j) (hj : j.size ≠ 0) (hsh : w.shape? a.block = some (E, cells)) (hoff : a.off < cells) :
    Y P σ ⟨d, .convert t t' x, ty, pos, af, g⟩ w (.pointer (some a)) w := by
  refine Y.val ?_
  simp only [execOp, hx]
  rw [Sem.run_bind, Lib.run_to_unsafe (P := P) w a hu.ok hu'.ok ht hj hsh hoff]
  rfl
theorem y_fromu {a : Addr} {j : TypeInfo} {E : TypeId} {cells : Nat} [hu : Und P t .unsafePointer] [hu' : Und P t' (.pointer e)] (hx : evl σ x = .pointer (some a)) (ht : P.info? e = some j) (hsh : w.shape? a.block = some (E, cells)) (hl : liesAt P P.depth E (cells / P.cellsOf E) a.off e 1 = true) :
    Y P σ ⟨d, .convert t t' x, ty, pos, af, g⟩ w (.pointer (some a)) w := by
  refine Y.val ?_
  simp only [execOp, hx]
  rw [Sem.run_bind, Lib.run_from_unsafe (P := P) w a hu.ok hu'.ok ht hsh hl]
  rfl
theorem y_noesc {f : FuncId} {fn : Func} {ats : Array TypeId} {v : Value} (hf : P.funcs[f]? = some fn) (h1 : (fn.name == "runtime.NumGoroutine") = false) (h2 : fn.body.isNone = true) (h3 : Extern.findNext fn = none) (h4 : Extern.find fn = some Extern.AbiNoEscape.same) (hx : evl σ x = v) :
    Y P σ ⟨d, .call ⟨.value (.func f), #[x], ats⟩, ty, pos, af, g⟩ w v w := by
  refine Y.val ?_
  simp only [execOp, resolve, evl, Deferred.ofValue]
  simp only [Sem.run_bind, Sem.run_pure, Result.andThen_ok, invoke]
  have h := run_callFunc_extern hf h1 h2 h3 h4 #[v] w
  rw [Lib.run_noEscape] at h
  simp only [Result.andThen] at h
  simpa [hx] using h
end

/-! ## stores that keep what kind of block it is; append of bytes -/
section
variable {P : Program} {n : Nat} {ds : Ctx} {ops : Array Oper} {Q : Exit → Ctx → Env → World → Prop} {rest : List Oper} {σ : GE} {w : World} {v : Value} {d : Nat} {ty t t' e T E : TypeId} {pos : String} {af : Array Edge} {x y : Operand} {zv : Value} {size bytes b i m c cc : Nat} {l xs news : List Value} {p q : Option Addr} {s : List UInt8}
theorem wlstT [hi : Inf P t zv 1 bytes] (ho : w.heap[b]? = some (.cells l.toArray T (0, 0))) (h : ∀ w', w'.heap[b]? = some (.cells (l.set i v).toArray T (0, 0)) → Le [b] w w' → WL P n ds ops Q rest (real σ) w')
    (hc : v.cells = #[v]) (h1 : v.oneCell' = true) (hx : evl (real σ) x = ptrAt (pb b) i := by rfl) (hy : evl (real σ) y = v := by rfl) (hk : i < l.length := by first | decide | (simp; done)) :
    WL P n ds ops Q (⟨none, .store t x y, ty, pos, af, none⟩ :: rest) (real σ) w := by
  have e : (⟨b, 0, none⟩ : Addr).add i = ⟨b, i, none⟩ := by unfold Addr.add; split <;> simp_all
  have hs := run_storeCells_at P b i T [v] 0 l.toArray w ho (by simp; omega) (by simp [h1])
  have e2 : l.take i ++ [v] ++ l.drop (i + 1) = l.set i v := by
    rw [List.set_eq_take_append_cons_drop, if_pos hk]; simp
  refine wl0 (h (w.setRow b (l.set i v).toArray) (by rw [setRow_heap w b l.toArray _ T (0, 0) ho]) (le_setRow w b _)) (Y.skip ?_)
  simp only [execOp, hx, hy]
  have hr : (Instr.storeAt t (ptrAt (pb b) i) v).run P w = .ok () (w.setRow b (l.set i v).toArray) := by
    simp only [Instr.storeAt, show ptrAt (pb b) i = .pointer (some ⟨b, i, none⟩) from by simp [e], Instr.sureAddr, Sem.run_bind, Sem.run_pure, Result.andThen_ok, storeVar, run_sizeOf (P := P) (t := t)]
    rw [if_neg (by simp [hc]), hc]
    simp only [List.length_singleton, Nat.add_zero, List.size_toArray] at hs
    rw [← e2]
    simpa using hs
  rw [Sem.run_bind, hr]
  rfl
theorem wlappT [hu : Und P t (.slice E)] [hi : Inf P E (.int .u8 0) 1 1] (hr : w.ownsRow 0 E 1 (.slice q m c) m xs) (hs : Sg w p news)
    (h : ∀ q' c' w', w'.ownsRow 0 E 1 (.slice q' (m + news.length) c') (m + news.length) (xs ++ news) → Lm (rb q) w (rb q') w' → WL P n ds ops Q rest (real (updG σ d ⟨.slice q' (m + news.length) c', true⟩)) w')
    (hx : evl (real σ) x = .slice q m c := by rfl) (hy : evl (real σ) y = .slice p news.length cc := by rfl) (hp : 0 < news.length := by first | decide | (simp; done))
    (h1 : ∀ u ∈ news, u.oneCell' = true := by simp [Go.Value.oneCell']) (hb : m + news.length ≤ 140737488355328 := by omega) :
    WL P n ds ops Q (⟨some d, .call ⟨.builtin .append, #[x, y], #[t, t]⟩, ty, pos, af, none⟩ :: rest) (real σ) w := by
  rcases hs with rfl | ⟨a, rfl, hs⟩
  · simp at hp
  obtain ⟨q', c', w', r1, r2, r3⟩ := run_appT (P := P) (t := t) (ty := ty) (cc := cc) hr hs rfl h1 (by omega) (by omega)
  exact wl (h q' c' w' r2 r3) (run_append_op hx hy r1)
theorem wlappTs [hu : Und P t (.slice E)] [hu' : Und P t' .string] [hi : Inf P E (.int .u8 0) 1 1] (hr : w.ownsRow 0 E 1 (.slice q m c) m xs)
    (h : ∀ q' c' w', w'.ownsRow 0 E 1 (.slice q' (m + s.length) c') (m + s.length) (xs ++ bs s) → Lm (rb q) w (rb q') w' → WL P n ds ops Q rest (real (updG σ d ⟨.slice q' (m + s.length) c', true⟩)) w')
    (hx : evl (real σ) x = .slice q m c := by rfl) (hy : evl (real σ) y = str s := by rfl) (hb : m + s.length ≤ 140737488355328 := by omega) :
    WL P n ds ops Q (⟨some d, .call ⟨.builtin .append, #[x, y], #[t, t']⟩, ty, pos, af, none⟩ :: rest) (real σ) w := by
  obtain ⟨q', c', w', r1, r2, r3⟩ := run_appTs (P := P) (t := t) (t' := t') (ty := ty) (s := s) hr (by omega) (by omega)
  exact wl (h q' c' w' r2 r3) (run_append_op hx hy r1)
end
end Go.Sv

