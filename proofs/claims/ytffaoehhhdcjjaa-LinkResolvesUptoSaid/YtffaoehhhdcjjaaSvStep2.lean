/-
  For each kind of operation, plain and guarded, in a region in order and in one that draws: a rule whose side conditions are found by trying.
-/
import Derived.Test.YtffaoehhhdcjjaaSvMem
set_option linter.unusedSimpArgs false
set_option linter.unusedVariables false
set_option linter.unnecessarySimpa false
namespace Go.Sv
open Go Go.RowKit
section
/-- an operand that is there if the guard says so -/
theorem evG {σ : GE} {x : Operand} {v : Value} {g G : Bool} (hgd : G = true) (h : gvl σ x = ⟨v, g⟩ := by rfl)
    (hg : G = true → g = true := by first | with_reducible exact fun _ => rfl | with_reducible exact fun h => h | with_reducible exact fun h => and_l h | with_reducible exact fun h => and_l (and_l h) | with_reducible exact fun h => and_l (and_l (and_l h)) | (intro h; simp_all; done)) : evl (real σ) x = v := evr h (hg hgd)
variable {P : Program} {n : Nat} {ds : Ctx} {ops : Array Oper} {Q : Exit → Ctx → Env → World → Prop} {w0 : World} {QE : Env → Prop} {rest : List Oper} {σ : GE} {w w' : World} {v : Value} {d : Nat} {ty : TypeId} {pos : String} {af : Array Edge} {j : Nat} {want b c : Bool} {dj : Nat}

theorem wl_load {t : TypeId} {x : Operand} (h : WL P n ds ops Q rest (real (updG σ d ⟨v, true⟩)) w) (hy : Y P (real σ) ⟨some d, .load t x, ty, pos, af, none⟩ w v w := by
    first
    | exact y_load rfl (by first | exact Im.sg (by assumption) | exact Own.sg (by assumption) | assumption) (by first | rfl | exact bs_get (by omega) | assumption | (simp; done))
    | exact y_loada rfl (by first | exact Im.sg (by assumption) | exact Own.sg (by assumption) | assumption) (by first | decide | omega | (simp; done) | (simp; omega)) (by first | exact ⟨_, rfl⟩ | assumption | exact Im.some (by assumption) (by (try simp only [Go.Sv.bs_length]); omega) | exact Im.some (by assumption) (by simp; omega))) :
    WL P n ds ops Q (⟨some d, .load t x, ty, pos, af, none⟩ :: rest) (real σ) w := wl h hy
theorem wlg_load {t : TypeId} {x : Operand} (h : WL P n ds ops Q rest (real (updG σ d ⟨v, b && (c == want)⟩)) w) (hj : (ops[j]?).bind (·.dst) = some dj := by rfl) (hσ : σ dj = ⟨.bool c, b⟩ := by rfl) (hy : (b && (c == want)) = true → Y P (real σ) ⟨some d, .load t x, ty, pos, af, some (j, want)⟩ w v w := by
    intro hgd
    first
    | exact y_load (evG hgd) (by first | exact Im.sg (by assumption) | exact Own.sg (by assumption) | assumption) (by first | rfl | exact bs_get (by first | omega | (simp_all; omega) | (simp_all; done)) | assumption | (simp; done))
    | exact y_loada (evG hgd) (by first | exact Im.sg (by assumption) | exact Own.sg (by assumption) | assumption) (by first | decide | omega | (simp; done) | (simp; omega)) (by first | exact ⟨_, rfl⟩ | assumption | exact Im.some (by assumption) (by (try simp only [Go.Sv.bs_length]); omega) | exact Im.some (by assumption) (by simp; omega))) :
    WL P n ds ops Q (⟨some d, .load t x, ty, pos, af, some (j, want)⟩ :: rest) (real σ) w := wlg h hj hσ hy
theorem ql_load {t : TypeId} {x : Operand} (h : QL P n ds ops (Frm w0) QE rest (real (updG σ d ⟨v, true⟩))) (hy : ∀ w, Frm w0 w → Y P (real σ) ⟨some d, .load t x, ty, pos, af, none⟩ w v w := by
    intro wq hwq
    first
    | exact y_load rfl (by first | exact Im.sg (Go.Sv.Im.frm (by assumption) hwq) | exact Own.sg (Go.Sv.Own.frm (by assumption) hwq) | exact Sg.frm (by assumption) hwq) (by first | rfl | exact bs_get (by omega) | assumption | (simp; done))
    | exact y_loada rfl (by first | exact Im.sg (Go.Sv.Im.frm (by assumption) hwq) | exact Own.sg (Go.Sv.Own.frm (by assumption) hwq) | exact Sg.frm (by assumption) hwq) (by first | decide | omega | (simp; done) | (simp; omega)) (by first | exact ⟨_, rfl⟩ | assumption | exact Im.some (by assumption) (by (try simp only [Go.Sv.bs_length]); omega) | exact Im.some (by assumption) (by simp; omega))) :
    QL P n ds ops (Frm w0) QE (⟨some d, .load t x, ty, pos, af, none⟩ :: rest) (real σ) := ql h (YQ.ofY hy)
theorem qlg_load {t : TypeId} {x : Operand} (h : QL P n ds ops (Frm w0) QE rest (real (updG σ d ⟨v, b && (c == want)⟩))) (hj : (ops[j]?).bind (·.dst) = some dj := by rfl) (hσ : σ dj = ⟨.bool c, b⟩ := by rfl) (hy : (b && (c == want)) = true → ∀ w, Frm w0 w → Y P (real σ) ⟨some d, .load t x, ty, pos, af, some (j, want)⟩ w v w := by
    intro hgd wq hwq
    first
    | exact y_load (evG hgd) (by first | exact Im.sg (Go.Sv.Im.frm (by assumption) hwq) | exact Own.sg (Go.Sv.Own.frm (by assumption) hwq) | exact Sg.frm (by assumption) hwq) (by first | rfl | exact bs_get (by first | omega | (simp_all; omega) | (simp_all; done)) | assumption | (simp; done))
    | exact y_loada (evG hgd) (by first | exact Im.sg (Go.Sv.Im.frm (by assumption) hwq) | exact Own.sg (Go.Sv.Own.frm (by assumption) hwq) | exact Sg.frm (by assumption) hwq) (by first | decide | omega | (simp; done) | (simp; omega)) (by first | exact ⟨_, rfl⟩ | assumption | exact Im.some (by assumption) (by (try simp only [Go.Sv.bs_length]); omega) | exact Im.some (by assumption) (by simp; omega))) :
    QL P n ds ops (Frm w0) QE (⟨some d, .load t x, ty, pos, af, some (j, want)⟩ :: rest) (real σ) := qlg h hj hσ fun hh => YQ.ofY (hy hh)
theorem wl_idxa {t : TypeId} {x y : Operand} (h : WL P n ds ops Q rest (real (updG σ d ⟨v, true⟩)) w) (hy : Y P (real σ) ⟨some d, .indexAddr t x y, ty, pos, af, none⟩ w v w := by
    first
    | exact y_idx1 rfl rfl (by omega) (by first | exact ⟨_, rfl⟩ | assumption | exact Im.some (by assumption) (by (try simp only [Go.Sv.bs_length]); omega) | exact Im.some (by assumption) (by simp; omega))
    | exact y_idx1I rfl rfl (by omega) (by first | exact ⟨_, rfl⟩ | assumption | exact Im.some (by assumption) (by (try simp only [Go.Sv.bs_length]); omega) | exact Im.some (by assumption) (by simp; omega))
    | exact y_idx rfl rfl (by omega) (by first | exact ⟨_, rfl⟩ | assumption | exact Im.some (by assumption) (by (try simp only [Go.Sv.bs_length]); omega) | exact Im.some (by assumption) (by simp; omega))
    | exact y_idxI rfl rfl (by omega) (by first | exact ⟨_, rfl⟩ | assumption | exact Im.some (by assumption) (by (try simp only [Go.Sv.bs_length]); omega) | exact Im.some (by assumption) (by simp; omega))) :
    WL P n ds ops Q (⟨some d, .indexAddr t x y, ty, pos, af, none⟩ :: rest) (real σ) w := wl h hy
theorem wlg_idxa {t : TypeId} {x y : Operand} (h : WL P n ds ops Q rest (real (updG σ d ⟨v, b && (c == want)⟩)) w) (hj : (ops[j]?).bind (·.dst) = some dj := by rfl) (hσ : σ dj = ⟨.bool c, b⟩ := by rfl) (hy : (b && (c == want)) = true → Y P (real σ) ⟨some d, .indexAddr t x y, ty, pos, af, some (j, want)⟩ w v w := by
    intro hgd
    first
    | exact y_idx1 (evG hgd) (evG hgd) (by first | omega | (simp_all; omega) | (simp_all; done)) (by first | exact ⟨_, rfl⟩ | assumption | exact Im.some (by assumption) (by (try simp only [Go.Sv.bs_length]); omega) | exact Im.some (by assumption) (by simp; omega))
    | exact y_idx1I (evG hgd) (evG hgd) (by first | omega | (simp_all; omega) | (simp_all; done)) (by first | exact ⟨_, rfl⟩ | assumption | exact Im.some (by assumption) (by (try simp only [Go.Sv.bs_length]); omega) | exact Im.some (by assumption) (by simp; omega))
    | exact y_idx (evG hgd) (evG hgd) (by first | omega | (simp_all; omega) | (simp_all; done)) (by first | exact ⟨_, rfl⟩ | assumption | exact Im.some (by assumption) (by (try simp only [Go.Sv.bs_length]); omega) | exact Im.some (by assumption) (by simp; omega))
    | exact y_idxI (evG hgd) (evG hgd) (by first | omega | (simp_all; omega) | (simp_all; done)) (by first | exact ⟨_, rfl⟩ | assumption | exact Im.some (by assumption) (by (try simp only [Go.Sv.bs_length]); omega) | exact Im.some (by assumption) (by simp; omega))) :
    WL P n ds ops Q (⟨some d, .indexAddr t x y, ty, pos, af, some (j, want)⟩ :: rest) (real σ) w := wlg h hj hσ hy
theorem ql_idxa {t : TypeId} {x y : Operand} (h : QL P n ds ops (Frm w0) QE rest (real (updG σ d ⟨v, true⟩))) (hy : ∀ w, Frm w0 w → Y P (real σ) ⟨some d, .indexAddr t x y, ty, pos, af, none⟩ w v w := by
    intro wq hwq
    first
    | exact y_idx1 rfl rfl (by omega) (by first | exact ⟨_, rfl⟩ | assumption | exact Im.some (by assumption) (by (try simp only [Go.Sv.bs_length]); omega) | exact Im.some (by assumption) (by simp; omega))
    | exact y_idx1I rfl rfl (by omega) (by first | exact ⟨_, rfl⟩ | assumption | exact Im.some (by assumption) (by (try simp only [Go.Sv.bs_length]); omega) | exact Im.some (by assumption) (by simp; omega))
    | exact y_idx rfl rfl (by omega) (by first | exact ⟨_, rfl⟩ | assumption | exact Im.some (by assumption) (by (try simp only [Go.Sv.bs_length]); omega) | exact Im.some (by assumption) (by simp; omega))
    | exact y_idxI rfl rfl (by omega) (by first | exact ⟨_, rfl⟩ | assumption | exact Im.some (by assumption) (by (try simp only [Go.Sv.bs_length]); omega) | exact Im.some (by assumption) (by simp; omega))) :
    QL P n ds ops (Frm w0) QE (⟨some d, .indexAddr t x y, ty, pos, af, none⟩ :: rest) (real σ) := ql h (YQ.ofY hy)
theorem qlg_idxa {t : TypeId} {x y : Operand} (h : QL P n ds ops (Frm w0) QE rest (real (updG σ d ⟨v, b && (c == want)⟩))) (hj : (ops[j]?).bind (·.dst) = some dj := by rfl) (hσ : σ dj = ⟨.bool c, b⟩ := by rfl) (hy : (b && (c == want)) = true → ∀ w, Frm w0 w → Y P (real σ) ⟨some d, .indexAddr t x y, ty, pos, af, some (j, want)⟩ w v w := by
    intro hgd wq hwq
    first
    | exact y_idx1 (evG hgd) (evG hgd) (by first | omega | (simp_all; omega) | (simp_all; done)) (by first | exact ⟨_, rfl⟩ | assumption | exact Im.some (by assumption) (by (try simp only [Go.Sv.bs_length]); omega) | exact Im.some (by assumption) (by simp; omega))
    | exact y_idx1I (evG hgd) (evG hgd) (by first | omega | (simp_all; omega) | (simp_all; done)) (by first | exact ⟨_, rfl⟩ | assumption | exact Im.some (by assumption) (by (try simp only [Go.Sv.bs_length]); omega) | exact Im.some (by assumption) (by simp; omega))
    | exact y_idx (evG hgd) (evG hgd) (by first | omega | (simp_all; omega) | (simp_all; done)) (by first | exact ⟨_, rfl⟩ | assumption | exact Im.some (by assumption) (by (try simp only [Go.Sv.bs_length]); omega) | exact Im.some (by assumption) (by simp; omega))
    | exact y_idxI (evG hgd) (evG hgd) (by first | omega | (simp_all; omega) | (simp_all; done)) (by first | exact ⟨_, rfl⟩ | assumption | exact Im.some (by assumption) (by (try simp only [Go.Sv.bs_length]); omega) | exact Im.some (by assumption) (by simp; omega))) :
    QL P n ds ops (Frm w0) QE (⟨some d, .indexAddr t x y, ty, pos, af, some (j, want)⟩ :: rest) (real σ) := qlg h hj hσ fun hh => YQ.ofY (hy hh)
theorem wl_fld {t : TypeId} {x : Operand} {i : Nat} (h : WL P n ds ops Q rest (real (updG σ d ⟨v, true⟩)) w) (hy : Y P (real σ) ⟨some d, .fieldAddr t x i, ty, pos, af, none⟩ w v w := by
    first
    | exact y_field rfl (by first | exact ⟨_, rfl⟩ | assumption | exact Im.some (by assumption) (by (try simp only [Go.Sv.bs_length]); omega) | exact Im.some (by assumption) (by simp; omega)) (by decide)) :
    WL P n ds ops Q (⟨some d, .fieldAddr t x i, ty, pos, af, none⟩ :: rest) (real σ) w := wl h hy
theorem wlg_fld {t : TypeId} {x : Operand} {i : Nat} (h : WL P n ds ops Q rest (real (updG σ d ⟨v, b && (c == want)⟩)) w) (hj : (ops[j]?).bind (·.dst) = some dj := by rfl) (hσ : σ dj = ⟨.bool c, b⟩ := by rfl) (hy : (b && (c == want)) = true → Y P (real σ) ⟨some d, .fieldAddr t x i, ty, pos, af, some (j, want)⟩ w v w := by
    intro hgd
    first
    | exact y_field (evG hgd) (by first | exact ⟨_, rfl⟩ | assumption | exact Im.some (by assumption) (by (try simp only [Go.Sv.bs_length]); omega) | exact Im.some (by assumption) (by simp; omega)) (by decide)) :
    WL P n ds ops Q (⟨some d, .fieldAddr t x i, ty, pos, af, some (j, want)⟩ :: rest) (real σ) w := wlg h hj hσ hy
theorem ql_fld {t : TypeId} {x : Operand} {i : Nat} (h : QL P n ds ops (Frm w0) QE rest (real (updG σ d ⟨v, true⟩))) (hy : ∀ w, Frm w0 w → Y P (real σ) ⟨some d, .fieldAddr t x i, ty, pos, af, none⟩ w v w := by
    intro wq hwq
    first
    | exact y_field rfl (by first | exact ⟨_, rfl⟩ | assumption | exact Im.some (by assumption) (by (try simp only [Go.Sv.bs_length]); omega) | exact Im.some (by assumption) (by simp; omega)) (by decide)) :
    QL P n ds ops (Frm w0) QE (⟨some d, .fieldAddr t x i, ty, pos, af, none⟩ :: rest) (real σ) := ql h (YQ.ofY hy)
theorem qlg_fld {t : TypeId} {x : Operand} {i : Nat} (h : QL P n ds ops (Frm w0) QE rest (real (updG σ d ⟨v, b && (c == want)⟩))) (hj : (ops[j]?).bind (·.dst) = some dj := by rfl) (hσ : σ dj = ⟨.bool c, b⟩ := by rfl) (hy : (b && (c == want)) = true → ∀ w, Frm w0 w → Y P (real σ) ⟨some d, .fieldAddr t x i, ty, pos, af, some (j, want)⟩ w v w := by
    intro hgd wq hwq
    first
    | exact y_field (evG hgd) (by first | exact ⟨_, rfl⟩ | assumption | exact Im.some (by assumption) (by (try simp only [Go.Sv.bs_length]); omega) | exact Im.some (by assumption) (by simp; omega)) (by decide)) :
    QL P n ds ops (Frm w0) QE (⟨some d, .fieldAddr t x i, ty, pos, af, some (j, want)⟩ :: rest) (real σ) := qlg h hj hσ fun hh => YQ.ofY (hy hh)
theorem wl_slc {t : TypeId} {x : Operand} {lo hi mx : Option Operand} (h : WL P n ds ops Q rest (real (updG σ d ⟨v, true⟩)) w) (hy : Y P (real σ) ⟨some d, .slice t x lo hi mx, ty, pos, af, none⟩ w v w := by
    first
    | exact y_sslice_from rfl rfl (by omega)
    | exact y_sslice_to rfl rfl (by omega)
    | exact y_sslice rfl rfl rfl (by omega)
    | exact y_rslice_from1 rfl rfl (by omega)
    | exact y_rslice_from rfl rfl (by omega)
    | exact y_rslice_to rfl rfl (by omega)
    | exact y_rslice1 rfl rfl rfl (by omega)
    | exact y_rslice rfl rfl rfl (by omega)
    | exact y_rslice3 rfl rfl rfl (by omega)
    | exact y_sslice_fromI rfl rfl (by omega)
    | exact y_sslice_toI rfl rfl (by omega)
    | exact y_ssliceI rfl rfl rfl (by omega)
    | exact y_rslice_fromI rfl rfl (by omega)
    | exact y_rslice_toI rfl rfl (by omega)) :
    WL P n ds ops Q (⟨some d, .slice t x lo hi mx, ty, pos, af, none⟩ :: rest) (real σ) w := wl h hy
theorem wlg_slc {t : TypeId} {x : Operand} {lo hi mx : Option Operand} (h : WL P n ds ops Q rest (real (updG σ d ⟨v, b && (c == want)⟩)) w) (hj : (ops[j]?).bind (·.dst) = some dj := by rfl) (hσ : σ dj = ⟨.bool c, b⟩ := by rfl) (hy : (b && (c == want)) = true → Y P (real σ) ⟨some d, .slice t x lo hi mx, ty, pos, af, some (j, want)⟩ w v w := by
    intro hgd
    first
    | exact y_sslice_from (evG hgd) (evG hgd) (by first | omega | (simp_all; omega) | (simp_all; done))
    | exact y_sslice_to (evG hgd) (evG hgd) (by first | omega | (simp_all; omega) | (simp_all; done))
    | exact y_sslice (evG hgd) (evG hgd) (evG hgd) (by first | omega | (simp_all; omega) | (simp_all; done))
    | exact y_rslice_from1 (evG hgd) (evG hgd) (by first | omega | (simp_all; omega) | (simp_all; done))
    | exact y_rslice_from (evG hgd) (evG hgd) (by first | omega | (simp_all; omega) | (simp_all; done))
    | exact y_rslice_to (evG hgd) (evG hgd) (by first | omega | (simp_all; omega) | (simp_all; done))
    | exact y_rslice1 (evG hgd) (evG hgd) (evG hgd) (by first | omega | (simp_all; omega) | (simp_all; done))
    | exact y_rslice (evG hgd) (evG hgd) (evG hgd) (by first | omega | (simp_all; omega) | (simp_all; done))
    | exact y_rslice3 (evG hgd) (evG hgd) (evG hgd) (by first | omega | (simp_all; omega) | (simp_all; done))
    | exact y_sslice_fromI (evG hgd) (evG hgd) (by first | omega | (simp_all; omega) | (simp_all; done))
    | exact y_sslice_toI (evG hgd) (evG hgd) (by first | omega | (simp_all; omega) | (simp_all; done))
    | exact y_ssliceI (evG hgd) (evG hgd) (evG hgd) (by first | omega | (simp_all; omega) | (simp_all; done))
    | exact y_rslice_fromI (evG hgd) (evG hgd) (by first | omega | (simp_all; omega) | (simp_all; done))
    | exact y_rslice_toI (evG hgd) (evG hgd) (by first | omega | (simp_all; omega) | (simp_all; done))) :
    WL P n ds ops Q (⟨some d, .slice t x lo hi mx, ty, pos, af, some (j, want)⟩ :: rest) (real σ) w := wlg h hj hσ hy
theorem ql_slc {t : TypeId} {x : Operand} {lo hi mx : Option Operand} (h : QL P n ds ops (Frm w0) QE rest (real (updG σ d ⟨v, true⟩))) (hy : ∀ w, Frm w0 w → Y P (real σ) ⟨some d, .slice t x lo hi mx, ty, pos, af, none⟩ w v w := by
    intro wq hwq
    first
    | exact y_sslice_from rfl rfl (by omega)
    | exact y_sslice_to rfl rfl (by omega)
    | exact y_sslice rfl rfl rfl (by omega)
    | exact y_rslice_from1 rfl rfl (by omega)
    | exact y_rslice_from rfl rfl (by omega)
    | exact y_rslice_to rfl rfl (by omega)
    | exact y_rslice1 rfl rfl rfl (by omega)
    | exact y_rslice rfl rfl rfl (by omega)
    | exact y_rslice3 rfl rfl rfl (by omega)
    | exact y_sslice_fromI rfl rfl (by omega)
    | exact y_sslice_toI rfl rfl (by omega)
    | exact y_ssliceI rfl rfl rfl (by omega)
    | exact y_rslice_fromI rfl rfl (by omega)
    | exact y_rslice_toI rfl rfl (by omega)) :
    QL P n ds ops (Frm w0) QE (⟨some d, .slice t x lo hi mx, ty, pos, af, none⟩ :: rest) (real σ) := ql h (YQ.ofY hy)
theorem qlg_slc {t : TypeId} {x : Operand} {lo hi mx : Option Operand} (h : QL P n ds ops (Frm w0) QE rest (real (updG σ d ⟨v, b && (c == want)⟩))) (hj : (ops[j]?).bind (·.dst) = some dj := by rfl) (hσ : σ dj = ⟨.bool c, b⟩ := by rfl) (hy : (b && (c == want)) = true → ∀ w, Frm w0 w → Y P (real σ) ⟨some d, .slice t x lo hi mx, ty, pos, af, some (j, want)⟩ w v w := by
    intro hgd wq hwq
    first
    | exact y_sslice_from (evG hgd) (evG hgd) (by first | omega | (simp_all; omega) | (simp_all; done))
    | exact y_sslice_to (evG hgd) (evG hgd) (by first | omega | (simp_all; omega) | (simp_all; done))
    | exact y_sslice (evG hgd) (evG hgd) (evG hgd) (by first | omega | (simp_all; omega) | (simp_all; done))
    | exact y_rslice_from1 (evG hgd) (evG hgd) (by first | omega | (simp_all; omega) | (simp_all; done))
    | exact y_rslice_from (evG hgd) (evG hgd) (by first | omega | (simp_all; omega) | (simp_all; done))
    | exact y_rslice_to (evG hgd) (evG hgd) (by first | omega | (simp_all; omega) | (simp_all; done))
    | exact y_rslice1 (evG hgd) (evG hgd) (evG hgd) (by first | omega | (simp_all; omega) | (simp_all; done))
    | exact y_rslice (evG hgd) (evG hgd) (evG hgd) (by first | omega | (simp_all; omega) | (simp_all; done))
    | exact y_rslice3 (evG hgd) (evG hgd) (evG hgd) (by first | omega | (simp_all; omega) | (simp_all; done))
    | exact y_sslice_fromI (evG hgd) (evG hgd) (by first | omega | (simp_all; omega) | (simp_all; done))
    | exact y_sslice_toI (evG hgd) (evG hgd) (by first | omega | (simp_all; omega) | (simp_all; done))
    | exact y_ssliceI (evG hgd) (evG hgd) (evG hgd) (by first | omega | (simp_all; omega) | (simp_all; done))
    | exact y_rslice_fromI (evG hgd) (evG hgd) (by first | omega | (simp_all; omega) | (simp_all; done))
    | exact y_rslice_toI (evG hgd) (evG hgd) (by first | omega | (simp_all; omega) | (simp_all; done))) :
    QL P n ds ops (Frm w0) QE (⟨some d, .slice t x lo hi mx, ty, pos, af, some (j, want)⟩ :: rest) (real σ) := qlg h hj hσ fun hh => YQ.ofY (hy hh)
theorem wl_idx {t : TypeId} {x y : Operand} (h : WL P n ds ops Q rest (real (updG σ d ⟨v, true⟩)) w) (hy : Y P (real σ) ⟨some d, .index t x y, ty, pos, af, none⟩ w v w := by
    first
    | exact y_sindexN rfl rfl (by omega)
    | exact y_sindexI rfl rfl (by omega)) :
    WL P n ds ops Q (⟨some d, .index t x y, ty, pos, af, none⟩ :: rest) (real σ) w := wl h hy
theorem wlg_idx {t : TypeId} {x y : Operand} (h : WL P n ds ops Q rest (real (updG σ d ⟨v, b && (c == want)⟩)) w) (hj : (ops[j]?).bind (·.dst) = some dj := by rfl) (hσ : σ dj = ⟨.bool c, b⟩ := by rfl) (hy : (b && (c == want)) = true → Y P (real σ) ⟨some d, .index t x y, ty, pos, af, some (j, want)⟩ w v w := by
    intro hgd
    first
    | exact y_sindexN (evG hgd) (evG hgd) (by first | omega | (simp_all; omega) | (simp_all; done))
    | exact y_sindexI (evG hgd) (evG hgd) (by first | omega | (simp_all; omega) | (simp_all; done))) :
    WL P n ds ops Q (⟨some d, .index t x y, ty, pos, af, some (j, want)⟩ :: rest) (real σ) w := wlg h hj hσ hy
theorem ql_idx {t : TypeId} {x y : Operand} (h : QL P n ds ops (Frm w0) QE rest (real (updG σ d ⟨v, true⟩))) (hy : ∀ w, Frm w0 w → Y P (real σ) ⟨some d, .index t x y, ty, pos, af, none⟩ w v w := by
    intro wq hwq
    first
    | exact y_sindexN rfl rfl (by omega)
    | exact y_sindexI rfl rfl (by omega)) :
    QL P n ds ops (Frm w0) QE (⟨some d, .index t x y, ty, pos, af, none⟩ :: rest) (real σ) := ql h (YQ.ofY hy)
theorem qlg_idx {t : TypeId} {x y : Operand} (h : QL P n ds ops (Frm w0) QE rest (real (updG σ d ⟨v, b && (c == want)⟩))) (hj : (ops[j]?).bind (·.dst) = some dj := by rfl) (hσ : σ dj = ⟨.bool c, b⟩ := by rfl) (hy : (b && (c == want)) = true → ∀ w, Frm w0 w → Y P (real σ) ⟨some d, .index t x y, ty, pos, af, some (j, want)⟩ w v w := by
    intro hgd wq hwq
    first
    | exact y_sindexN (evG hgd) (evG hgd) (by first | omega | (simp_all; omega) | (simp_all; done))
    | exact y_sindexI (evG hgd) (evG hgd) (by first | omega | (simp_all; omega) | (simp_all; done))) :
    QL P n ds ops (Frm w0) QE (⟨some d, .index t x y, ty, pos, af, some (j, want)⟩ :: rest) (real σ) := qlg h hj hσ fun hh => YQ.ofY (hy hh)
theorem wl_bin {bop : BinOp} {t t2 : TypeId} {x y : Operand} (h : WL P n ds ops Q rest (real (updG σ d ⟨v, true⟩)) w) (hy : Y P (real σ) ⟨some d, .binOp bop t x y t2, ty, pos, af, none⟩ w v w := by
    first
    | exact y_add64 rfl rfl (by omega)
    | exact y_sub64 rfl rfl (by omega)
    | exact y_sadd rfl rfl (by (try simp only [List.length_append, List.length_cons, List.length_nil, List.length_take, List.length_drop]); omega)
    | exact y_and rfl rfl
    | exact y_or rfl rfl
    | exact y_shr rfl rfl (by omega)
    | exact y_shl rfl rfl (by omega)
    | exact y_add32 rfl rfl (by omega)
    | exact y_sub32 rfl rfl (by omega)
    | exact y_add8 rfl rfl (by omega)
    | exact y_sub8 rfl rfl (by omega)
    | exact y_mul64 rfl rfl (by omega)
    | exact y_mul32 rfl rfl (by omega)
    | exact y_rem rfl rfl (by omega)
    | exact y_quo rfl rfl (by simp only [Go.IntKind.max, Go.IntKind.signed, Go.IntKind.bits]; omega)
    | exact y_xor rfl rfl
    | exact y_beql rfl rfl
    | exact y_bneq rfl rfl) :
    WL P n ds ops Q (⟨some d, .binOp bop t x y t2, ty, pos, af, none⟩ :: rest) (real σ) w := wl h hy
theorem wlg_bin {bop : BinOp} {t t2 : TypeId} {x y : Operand} (h : WL P n ds ops Q rest (real (updG σ d ⟨v, b && (c == want)⟩)) w) (hj : (ops[j]?).bind (·.dst) = some dj := by rfl) (hσ : σ dj = ⟨.bool c, b⟩ := by rfl) (hy : (b && (c == want)) = true → Y P (real σ) ⟨some d, .binOp bop t x y t2, ty, pos, af, some (j, want)⟩ w v w := by
    intro hgd
    first
    | exact y_add64 (evG hgd) (evG hgd) (by first | omega | (simp_all; omega) | (simp_all; done))
    | exact y_sub64 (evG hgd) (evG hgd) (by first | omega | (simp_all; omega) | (simp_all; done))
    | exact y_sadd (evG hgd) (evG hgd) (by (try simp only [List.length_append, List.length_cons, List.length_nil, List.length_take, List.length_drop]); omega)
    | exact y_and (evG hgd) (evG hgd)
    | exact y_or (evG hgd) (evG hgd)
    | exact y_shr (evG hgd) (evG hgd) (by first | omega | (simp_all; omega) | (simp_all; done))
    | exact y_shl (evG hgd) (evG hgd) (by first | omega | (simp_all; omega) | (simp_all; done))
    | exact y_add32 (evG hgd) (evG hgd) (by first | omega | (simp_all; omega) | (simp_all; done))
    | exact y_sub32 (evG hgd) (evG hgd) (by first | omega | (simp_all; omega) | (simp_all; done))
    | exact y_add8 (evG hgd) (evG hgd) (by first | omega | (simp_all; omega) | (simp_all; done))
    | exact y_sub8 (evG hgd) (evG hgd) (by first | omega | (simp_all; omega) | (simp_all; done))
    | exact y_mul64 (evG hgd) (evG hgd) (by first | omega | (simp_all; omega) | (simp_all; done))
    | exact y_mul32 (evG hgd) (evG hgd) (by first | omega | (simp_all; omega) | (simp_all; done))
    | exact y_rem (evG hgd) (evG hgd) (by first | omega | (simp_all; omega) | (simp_all; done))
    | exact y_quo (evG hgd) (evG hgd) (by simp only [Go.IntKind.max, Go.IntKind.signed, Go.IntKind.bits]; omega)
    | exact y_xor (evG hgd) (evG hgd)
    | exact y_beql (evG hgd) (evG hgd)
    | exact y_bneq (evG hgd) (evG hgd)) :
    WL P n ds ops Q (⟨some d, .binOp bop t x y t2, ty, pos, af, some (j, want)⟩ :: rest) (real σ) w := wlg h hj hσ hy
theorem ql_bin {bop : BinOp} {t t2 : TypeId} {x y : Operand} (h : QL P n ds ops (Frm w0) QE rest (real (updG σ d ⟨v, true⟩))) (hy : ∀ w, Frm w0 w → Y P (real σ) ⟨some d, .binOp bop t x y t2, ty, pos, af, none⟩ w v w := by
    intro wq hwq
    first
    | exact y_add64 rfl rfl (by omega)
    | exact y_sub64 rfl rfl (by omega)
    | exact y_sadd rfl rfl (by (try simp only [List.length_append, List.length_cons, List.length_nil, List.length_take, List.length_drop]); omega)
    | exact y_and rfl rfl
    | exact y_or rfl rfl
    | exact y_shr rfl rfl (by omega)
    | exact y_shl rfl rfl (by omega)
    | exact y_add32 rfl rfl (by omega)
    | exact y_sub32 rfl rfl (by omega)
    | exact y_add8 rfl rfl (by omega)
    | exact y_sub8 rfl rfl (by omega)
    | exact y_mul64 rfl rfl (by omega)
    | exact y_mul32 rfl rfl (by omega)
    | exact y_rem rfl rfl (by omega)
    | exact y_quo rfl rfl (by simp only [Go.IntKind.max, Go.IntKind.signed, Go.IntKind.bits]; omega)
    | exact y_xor rfl rfl
    | exact y_beql rfl rfl
    | exact y_bneq rfl rfl) :
    QL P n ds ops (Frm w0) QE (⟨some d, .binOp bop t x y t2, ty, pos, af, none⟩ :: rest) (real σ) := ql h (YQ.ofY hy)
theorem qlg_bin {bop : BinOp} {t t2 : TypeId} {x y : Operand} (h : QL P n ds ops (Frm w0) QE rest (real (updG σ d ⟨v, b && (c == want)⟩))) (hj : (ops[j]?).bind (·.dst) = some dj := by rfl) (hσ : σ dj = ⟨.bool c, b⟩ := by rfl) (hy : (b && (c == want)) = true → ∀ w, Frm w0 w → Y P (real σ) ⟨some d, .binOp bop t x y t2, ty, pos, af, some (j, want)⟩ w v w := by
    intro hgd wq hwq
    first
    | exact y_add64 (evG hgd) (evG hgd) (by first | omega | (simp_all; omega) | (simp_all; done))
    | exact y_sub64 (evG hgd) (evG hgd) (by first | omega | (simp_all; omega) | (simp_all; done))
    | exact y_sadd (evG hgd) (evG hgd) (by (try simp only [List.length_append, List.length_cons, List.length_nil, List.length_take, List.length_drop]); omega)
    | exact y_and (evG hgd) (evG hgd)
    | exact y_or (evG hgd) (evG hgd)
    | exact y_shr (evG hgd) (evG hgd) (by first | omega | (simp_all; omega) | (simp_all; done))
    | exact y_shl (evG hgd) (evG hgd) (by first | omega | (simp_all; omega) | (simp_all; done))
    | exact y_add32 (evG hgd) (evG hgd) (by first | omega | (simp_all; omega) | (simp_all; done))
    | exact y_sub32 (evG hgd) (evG hgd) (by first | omega | (simp_all; omega) | (simp_all; done))
    | exact y_add8 (evG hgd) (evG hgd) (by first | omega | (simp_all; omega) | (simp_all; done))
    | exact y_sub8 (evG hgd) (evG hgd) (by first | omega | (simp_all; omega) | (simp_all; done))
    | exact y_mul64 (evG hgd) (evG hgd) (by first | omega | (simp_all; omega) | (simp_all; done))
    | exact y_mul32 (evG hgd) (evG hgd) (by first | omega | (simp_all; omega) | (simp_all; done))
    | exact y_rem (evG hgd) (evG hgd) (by first | omega | (simp_all; omega) | (simp_all; done))
    | exact y_quo (evG hgd) (evG hgd) (by simp only [Go.IntKind.max, Go.IntKind.signed, Go.IntKind.bits]; omega)
    | exact y_xor (evG hgd) (evG hgd)
    | exact y_beql (evG hgd) (evG hgd)
    | exact y_bneq (evG hgd) (evG hgd)) :
    QL P n ds ops (Frm w0) QE (⟨some d, .binOp bop t x y t2, ty, pos, af, some (j, want)⟩ :: rest) (real σ) := qlg h hj hσ fun hh => YQ.ofY (hy hh)
theorem wl_cnv {t t2 : TypeId} {x : Operand} (h : WL P n ds ops Q rest (real (updG σ d ⟨v, true⟩)) w) (hy : Y P (real σ) ⟨some d, .convert t t2 x, ty, pos, af, none⟩ w v w := by
    first
    | exact y_conv_b32 rfl
    | exact y_conv_b64 rfl
    | exact y_conv8_32 rfl (by omega)
    | exact y_conv8_64 rfl (by omega)
    | exact y_conv32_8 rfl (by omega)
    | exact y_conv64_8 rfl (by omega)
    | exact y_conv32_64 rfl (by omega)
    | exact y_conv64_64 rfl (by omega)
    | exact y_conv64_32 rfl (by omega)
    | exact y_conv32_32 rfl (by omega)
    | exact y_conv_str rfl
    | exact y_conv rfl) :
    WL P n ds ops Q (⟨some d, .convert t t2 x, ty, pos, af, none⟩ :: rest) (real σ) w := wl h hy
theorem wlg_cnv {t t2 : TypeId} {x : Operand} (h : WL P n ds ops Q rest (real (updG σ d ⟨v, b && (c == want)⟩)) w) (hj : (ops[j]?).bind (·.dst) = some dj := by rfl) (hσ : σ dj = ⟨.bool c, b⟩ := by rfl) (hy : (b && (c == want)) = true → Y P (real σ) ⟨some d, .convert t t2 x, ty, pos, af, some (j, want)⟩ w v w := by
    intro hgd
    first
    | exact y_conv_b32 (evG hgd)
    | exact y_conv_b64 (evG hgd)
    | exact y_conv8_32 (evG hgd) (by first | omega | (simp_all; omega) | (simp_all; done))
    | exact y_conv8_64 (evG hgd) (by first | omega | (simp_all; omega) | (simp_all; done))
    | exact y_conv32_8 (evG hgd) (by first | omega | (simp_all; omega) | (simp_all; done))
    | exact y_conv64_8 (evG hgd) (by first | omega | (simp_all; omega) | (simp_all; done))
    | exact y_conv32_64 (evG hgd) (by first | omega | (simp_all; omega) | (simp_all; done))
    | exact y_conv64_64 (evG hgd) (by first | omega | (simp_all; omega) | (simp_all; done))
    | exact y_conv64_32 (evG hgd) (by first | omega | (simp_all; omega) | (simp_all; done))
    | exact y_conv32_32 (evG hgd) (by first | omega | (simp_all; omega) | (simp_all; done))
    | exact y_conv_str (evG hgd)
    | exact y_conv (evG hgd)) :
    WL P n ds ops Q (⟨some d, .convert t t2 x, ty, pos, af, some (j, want)⟩ :: rest) (real σ) w := wlg h hj hσ hy
theorem ql_cnv {t t2 : TypeId} {x : Operand} (h : QL P n ds ops (Frm w0) QE rest (real (updG σ d ⟨v, true⟩))) (hy : ∀ w, Frm w0 w → Y P (real σ) ⟨some d, .convert t t2 x, ty, pos, af, none⟩ w v w := by
    intro wq hwq
    first
    | exact y_conv_b32 rfl
    | exact y_conv_b64 rfl
    | exact y_conv8_32 rfl (by omega)
    | exact y_conv8_64 rfl (by omega)
    | exact y_conv32_8 rfl (by omega)
    | exact y_conv64_8 rfl (by omega)
    | exact y_conv32_64 rfl (by omega)
    | exact y_conv64_64 rfl (by omega)
    | exact y_conv64_32 rfl (by omega)
    | exact y_conv32_32 rfl (by omega)
    | exact y_conv_str rfl
    | exact y_conv rfl) :
    QL P n ds ops (Frm w0) QE (⟨some d, .convert t t2 x, ty, pos, af, none⟩ :: rest) (real σ) := ql h (YQ.ofY hy)
theorem qlg_cnv {t t2 : TypeId} {x : Operand} (h : QL P n ds ops (Frm w0) QE rest (real (updG σ d ⟨v, b && (c == want)⟩))) (hj : (ops[j]?).bind (·.dst) = some dj := by rfl) (hσ : σ dj = ⟨.bool c, b⟩ := by rfl) (hy : (b && (c == want)) = true → ∀ w, Frm w0 w → Y P (real σ) ⟨some d, .convert t t2 x, ty, pos, af, some (j, want)⟩ w v w := by
    intro hgd wq hwq
    first
    | exact y_conv_b32 (evG hgd)
    | exact y_conv_b64 (evG hgd)
    | exact y_conv8_32 (evG hgd) (by first | omega | (simp_all; omega) | (simp_all; done))
    | exact y_conv8_64 (evG hgd) (by first | omega | (simp_all; omega) | (simp_all; done))
    | exact y_conv32_8 (evG hgd) (by first | omega | (simp_all; omega) | (simp_all; done))
    | exact y_conv64_8 (evG hgd) (by first | omega | (simp_all; omega) | (simp_all; done))
    | exact y_conv32_64 (evG hgd) (by first | omega | (simp_all; omega) | (simp_all; done))
    | exact y_conv64_64 (evG hgd) (by first | omega | (simp_all; omega) | (simp_all; done))
    | exact y_conv64_32 (evG hgd) (by first | omega | (simp_all; omega) | (simp_all; done))
    | exact y_conv32_32 (evG hgd) (by first | omega | (simp_all; omega) | (simp_all; done))
    | exact y_conv_str (evG hgd)
    | exact y_conv (evG hgd)) :
    QL P n ds ops (Frm w0) QE (⟨some d, .convert t t2 x, ty, pos, af, some (j, want)⟩ :: rest) (real σ) := qlg h hj hσ fun hh => YQ.ofY (hy hh)
theorem wl_len {args : Array Operand} {ats : Array TypeId} (h : WL P n ds ops Q rest (real (updG σ d ⟨v, true⟩)) w) (hy : Y P (real σ) ⟨some d, .call ⟨.builtin .len, args, ats⟩, ty, pos, af, none⟩ w v w := by
    first
    | exact y_slen rfl rfl
    | exact y_len rfl rfl) :
    WL P n ds ops Q (⟨some d, .call ⟨.builtin .len, args, ats⟩, ty, pos, af, none⟩ :: rest) (real σ) w := wl h hy
theorem wlg_len {args : Array Operand} {ats : Array TypeId} (h : WL P n ds ops Q rest (real (updG σ d ⟨v, b && (c == want)⟩)) w) (hj : (ops[j]?).bind (·.dst) = some dj := by rfl) (hσ : σ dj = ⟨.bool c, b⟩ := by rfl) (hy : (b && (c == want)) = true → Y P (real σ) ⟨some d, .call ⟨.builtin .len, args, ats⟩, ty, pos, af, some (j, want)⟩ w v w := by
    intro hgd
    first
    | exact y_slen (evG hgd) rfl
    | exact y_len (evG hgd) rfl) :
    WL P n ds ops Q (⟨some d, .call ⟨.builtin .len, args, ats⟩, ty, pos, af, some (j, want)⟩ :: rest) (real σ) w := wlg h hj hσ hy
theorem ql_len {args : Array Operand} {ats : Array TypeId} (h : QL P n ds ops (Frm w0) QE rest (real (updG σ d ⟨v, true⟩))) (hy : ∀ w, Frm w0 w → Y P (real σ) ⟨some d, .call ⟨.builtin .len, args, ats⟩, ty, pos, af, none⟩ w v w := by
    intro wq hwq
    first
    | exact y_slen rfl rfl
    | exact y_len rfl rfl) :
    QL P n ds ops (Frm w0) QE (⟨some d, .call ⟨.builtin .len, args, ats⟩, ty, pos, af, none⟩ :: rest) (real σ) := ql h (YQ.ofY hy)
theorem qlg_len {args : Array Operand} {ats : Array TypeId} (h : QL P n ds ops (Frm w0) QE rest (real (updG σ d ⟨v, b && (c == want)⟩))) (hj : (ops[j]?).bind (·.dst) = some dj := by rfl) (hσ : σ dj = ⟨.bool c, b⟩ := by rfl) (hy : (b && (c == want)) = true → ∀ w, Frm w0 w → Y P (real σ) ⟨some d, .call ⟨.builtin .len, args, ats⟩, ty, pos, af, some (j, want)⟩ w v w := by
    intro hgd wq hwq
    first
    | exact y_slen (evG hgd) rfl
    | exact y_len (evG hgd) rfl) :
    QL P n ds ops (Frm w0) QE (⟨some d, .call ⟨.builtin .len, args, ats⟩, ty, pos, af, some (j, want)⟩ :: rest) (real σ) := qlg h hj hσ fun hh => YQ.ofY (hy hh)
theorem wl_una {uop : UnOp} {t : TypeId} {x : Operand} (h : WL P n ds ops Q rest (real (updG σ d ⟨v, true⟩)) w) (hy : Y P (real σ) ⟨some d, .unOp uop t x, ty, pos, af, none⟩ w v w := by
    first
    | exact y_neg rfl) :
    WL P n ds ops Q (⟨some d, .unOp uop t x, ty, pos, af, none⟩ :: rest) (real σ) w := wl h hy
theorem wlg_una {uop : UnOp} {t : TypeId} {x : Operand} (h : WL P n ds ops Q rest (real (updG σ d ⟨v, b && (c == want)⟩)) w) (hj : (ops[j]?).bind (·.dst) = some dj := by rfl) (hσ : σ dj = ⟨.bool c, b⟩ := by rfl) (hy : (b && (c == want)) = true → Y P (real σ) ⟨some d, .unOp uop t x, ty, pos, af, some (j, want)⟩ w v w := by
    intro hgd
    first
    | exact y_neg (evG hgd)) :
    WL P n ds ops Q (⟨some d, .unOp uop t x, ty, pos, af, some (j, want)⟩ :: rest) (real σ) w := wlg h hj hσ hy
theorem ql_una {uop : UnOp} {t : TypeId} {x : Operand} (h : QL P n ds ops (Frm w0) QE rest (real (updG σ d ⟨v, true⟩))) (hy : ∀ w, Frm w0 w → Y P (real σ) ⟨some d, .unOp uop t x, ty, pos, af, none⟩ w v w := by
    intro wq hwq
    first
    | exact y_neg rfl) :
    QL P n ds ops (Frm w0) QE (⟨some d, .unOp uop t x, ty, pos, af, none⟩ :: rest) (real σ) := ql h (YQ.ofY hy)
theorem qlg_una {uop : UnOp} {t : TypeId} {x : Operand} (h : QL P n ds ops (Frm w0) QE rest (real (updG σ d ⟨v, b && (c == want)⟩))) (hj : (ops[j]?).bind (·.dst) = some dj := by rfl) (hσ : σ dj = ⟨.bool c, b⟩ := by rfl) (hy : (b && (c == want)) = true → ∀ w, Frm w0 w → Y P (real σ) ⟨some d, .unOp uop t x, ty, pos, af, some (j, want)⟩ w v w := by
    intro hgd wq hwq
    first
    | exact y_neg (evG hgd)) :
    QL P n ds ops (Frm w0) QE (⟨some d, .unOp uop t x, ty, pos, af, some (j, want)⟩ :: rest) (real σ) := qlg h hj hσ fun hh => YQ.ofY (hy hh)
theorem wl_mkf {fn : Fn} {first captured : Array Operand} (h : WL P n ds ops Q rest (real (updG σ d ⟨v, true⟩)) w) (hy : Y P (real σ) ⟨some d, .makeFunc fn first captured, ty, pos, af, none⟩ w v w := by
    first
    | exact y_makefuncL
    | exact y_makefunc) :
    WL P n ds ops Q (⟨some d, .makeFunc fn first captured, ty, pos, af, none⟩ :: rest) (real σ) w := wl h hy
theorem wlg_mkf {fn : Fn} {first captured : Array Operand} (h : WL P n ds ops Q rest (real (updG σ d ⟨v, b && (c == want)⟩)) w) (hj : (ops[j]?).bind (·.dst) = some dj := by rfl) (hσ : σ dj = ⟨.bool c, b⟩ := by rfl) (hy : (b && (c == want)) = true → Y P (real σ) ⟨some d, .makeFunc fn first captured, ty, pos, af, some (j, want)⟩ w v w := by
    intro hgd
    first
    | exact y_makefuncL
    | exact y_makefunc) :
    WL P n ds ops Q (⟨some d, .makeFunc fn first captured, ty, pos, af, some (j, want)⟩ :: rest) (real σ) w := wlg h hj hσ hy
theorem ql_mkf {fn : Fn} {first captured : Array Operand} (h : QL P n ds ops (Frm w0) QE rest (real (updG σ d ⟨v, true⟩))) (hy : ∀ w, Frm w0 w → Y P (real σ) ⟨some d, .makeFunc fn first captured, ty, pos, af, none⟩ w v w := by
    intro wq hwq
    first
    | exact y_makefuncL
    | exact y_makefunc) :
    QL P n ds ops (Frm w0) QE (⟨some d, .makeFunc fn first captured, ty, pos, af, none⟩ :: rest) (real σ) := ql h (YQ.ofY hy)
theorem qlg_mkf {fn : Fn} {first captured : Array Operand} (h : QL P n ds ops (Frm w0) QE rest (real (updG σ d ⟨v, b && (c == want)⟩))) (hj : (ops[j]?).bind (·.dst) = some dj := by rfl) (hσ : σ dj = ⟨.bool c, b⟩ := by rfl) (hy : (b && (c == want)) = true → ∀ w, Frm w0 w → Y P (real σ) ⟨some d, .makeFunc fn first captured, ty, pos, af, some (j, want)⟩ w v w := by
    intro hgd wq hwq
    first
    | exact y_makefuncL
    | exact y_makefunc) :
    QL P n ds ops (Frm w0) QE (⟨some d, .makeFunc fn first captured, ty, pos, af, some (j, want)⟩ :: rest) (real σ) := qlg h hj hσ fun hh => YQ.ofY (hy hh)
theorem wl_nilc {x : Operand} (h : WL P n ds ops Q rest (real (updG σ d ⟨v, true⟩)) w) (hy : Y P (real σ) ⟨some d, .nilCheck x, ty, pos, af, none⟩ w v w := by
    first
    | exact y_nilcheckp rfl (by first | exact ⟨_, rfl⟩ | assumption | exact Im.some (by assumption) (by (try simp only [Go.Sv.bs_length]); omega) | exact Im.some (by assumption) (by simp; omega))
    | exact y_nilcheck rfl) :
    WL P n ds ops Q (⟨some d, .nilCheck x, ty, pos, af, none⟩ :: rest) (real σ) w := wl h hy
theorem wlg_nilc {x : Operand} (h : WL P n ds ops Q rest (real (updG σ d ⟨v, b && (c == want)⟩)) w) (hj : (ops[j]?).bind (·.dst) = some dj := by rfl) (hσ : σ dj = ⟨.bool c, b⟩ := by rfl) (hy : (b && (c == want)) = true → Y P (real σ) ⟨some d, .nilCheck x, ty, pos, af, some (j, want)⟩ w v w := by
    intro hgd
    first
    | exact y_nilcheckp (evG hgd) (by first | exact ⟨_, rfl⟩ | assumption | exact Im.some (by assumption) (by (try simp only [Go.Sv.bs_length]); omega) | exact Im.some (by assumption) (by simp; omega))
    | exact y_nilcheck (evG hgd)) :
    WL P n ds ops Q (⟨some d, .nilCheck x, ty, pos, af, some (j, want)⟩ :: rest) (real σ) w := wlg h hj hσ hy
theorem ql_nilc {x : Operand} (h : QL P n ds ops (Frm w0) QE rest (real (updG σ d ⟨v, true⟩))) (hy : ∀ w, Frm w0 w → Y P (real σ) ⟨some d, .nilCheck x, ty, pos, af, none⟩ w v w := by
    intro wq hwq
    first
    | exact y_nilcheckp rfl (by first | exact ⟨_, rfl⟩ | assumption | exact Im.some (by assumption) (by (try simp only [Go.Sv.bs_length]); omega) | exact Im.some (by assumption) (by simp; omega))
    | exact y_nilcheck rfl) :
    QL P n ds ops (Frm w0) QE (⟨some d, .nilCheck x, ty, pos, af, none⟩ :: rest) (real σ) := ql h (YQ.ofY hy)
theorem qlg_nilc {x : Operand} (h : QL P n ds ops (Frm w0) QE rest (real (updG σ d ⟨v, b && (c == want)⟩))) (hj : (ops[j]?).bind (·.dst) = some dj := by rfl) (hσ : σ dj = ⟨.bool c, b⟩ := by rfl) (hy : (b && (c == want)) = true → ∀ w, Frm w0 w → Y P (real σ) ⟨some d, .nilCheck x, ty, pos, af, some (j, want)⟩ w v w := by
    intro hgd wq hwq
    first
    | exact y_nilcheckp (evG hgd) (by first | exact ⟨_, rfl⟩ | assumption | exact Im.some (by assumption) (by (try simp only [Go.Sv.bs_length]); omega) | exact Im.some (by assumption) (by simp; omega))
    | exact y_nilcheck (evG hgd)) :
    QL P n ds ops (Frm w0) QE (⟨some d, .nilCheck x, ty, pos, af, some (j, want)⟩ :: rest) (real σ) := qlg h hj hσ fun hh => YQ.ofY (hy hh)
end
end Go.Sv
