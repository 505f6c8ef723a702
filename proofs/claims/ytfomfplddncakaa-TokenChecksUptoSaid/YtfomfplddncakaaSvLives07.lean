/-
  sievelaw07: the document's examples.
-/
import Derived.Test.YtfomfplddncakaaSvTokF
namespace Go.Sv
open Go Go.RowKit
theorem wlgbuild {P : Program} {n : Nat} {ds : List Deferred} {ops : Array Oper} {Q : Exit → Env → World → Prop} {rest : List Oper} {σ : GE} {w : World} {d : Nat} {ty t : TypeId} {pos : String} {af : Array Edge} {zv : Value} {size bytes j dj : Nat} {want b c : Bool} {pl : List (Nat × Nat)} {ps : List (Nat × Operand)} {cells : List Value} [hf : Flds P t pl] [hi : Inf P t zv size bytes]
    (h : WL P n ds ops Q rest (real (updG σ d ⟨.agg cells.toArray, b && (c == want)⟩)) w) (hj : (ops[j]?).bind (·.dst) = some dj := by rfl) (hσ : σ dj = ⟨.bool c, b⟩ := by rfl)
    (hc : fillL pl zv.cells.toList (ps.map fun p => (p.1, evl (real σ) p.2)) = some cells := by
      simp only [List.map, Go.Sv.evl, Go.Sv.realB, Nat.reduceBEq, cond_true, cond_false, Go.Sv.rv_true, Go.Sv.entG, Go.Sv.updGL]
      simp [Go.Sv.fillL, Go.Sv.setSeg, Go.Value.cells]
      first | done | rfl) :
    WL P n ds ops Q (⟨some d, .build t ps.toArray, ty, pos, af, some (j, want)⟩ :: rest) (real σ) w := wlg h hj hσ fun _ => y_build hc
end Go.Sv
namespace Go.Proofs.Ytfomfplddncakaa
open Go Go.Sv Go.RowKit

def exAt : At := ⟨[104, 114, 101, 102], [120, 34, 121]⟩
def exTok : Tok := ⟨1, [97], [], [exAt], false, 0, 0, 0⟩
def exBad : Tok := ⟨1, [65], [], [], false, 0, 0, 0⟩
def exLine : List UInt8 := [115, 116, 97, 114, 116, 32, 34, 97, 34, 32, 34, 104, 114, 101, 102, 34, 61, 34, 120, 92, 34, 121, 34]
theorem exTok_may : mayR exTok = true := by decide +kernel
theorem exTok_line : lineR exTok = exLine := by decide +kernel
theorem exBad_may : mayR exBad = false := by decide +kernel

set_option maxHeartbeats 2000000 in
theorem lives_ok (w : World) : PureC Try.prog 9 #[] w (.bool true) := by
  refine enter (l := []) Try.func9 rfl Try.ntmps9 (by kernel_rfl) rfl ?_
  refine sgo ?_
  refine wlbuild (cells := [str [104, 114, 101, 102], str [120, 34, 121]]) ?_
  refine wlb1a fun b w1 hb1 ho hf1 => ?_
  have hI := ho.im (M := []) (by simp)
  refine wlbuild (cells := [int 1, str [97], str [], .slice (pb b) 1 1, .bool false, int 0, int 0, int 0]) ?_
  have hp := print_ok exTok (pb b) 1 ⟨by decide, by decide, by decide, by intro x hx; simp [exTok] at hx; subst hx; exact ⟨by decide, by decide⟩⟩ w1 hI
  rw [exTok_may, exTok_line] at hp
  refine wlpure hp fun w2 hf2 => ?_
  have hf := hf1.trans hf2
  refine sgo ?_
  refine wlgbuild (cells := [int 1, str [65], str [], .slice none 0 0, .bool false, int 0, int 0, int 0]) ?_
  have hq := fun w => check_ok exBad none 0 ⟨by decide, by decide, by decide, by intro x hx; simp [exBad] at hx⟩ w (Im.nil _ _ _)
  rw [exBad_may] at hq
  refine wlcallgp (vals := [.agg ⟨[int 1, str [65], str [], .slice none 0 0, .bool false, int 0, int 0, int 0]⟩]) (v := int 70) (fun _ => hq _) fun w3 hf3 => ?_
  have hf3 := hf.trans hf3
  refine sgo ?_
  (first | refine fp1 (.inl rfl) rfl rfl ?_ | refine fp2 (.inl rfl) rfl rfl rfl ?_ | refine fp3 (.inl rfl) rfl rfl rfl rfl ?_ | refine fp0 (.inr rfl) rfl ?_ | refine fp0 (.inl rfl) rfl ?_ | refine fp1 (.inr rfl) rfl rfl ?_); refine ⟨?_, by (first | exact Frm.refl _ | assumption | (refine Frm.trans ?_ (by assumption); first | exact Frm.refl _ | assumption))⟩; (try simp only [realB, rv_true, Nat.reduceBEq, cond_true, cond_false, entG, real_lif, updGL])
  rfl

theorem tokenNames_ok (w : World) : PureC Try.prog 3 #[] w (.bool true) := by
  refine enter (l := []) Try.func3 rfl Try.ntmps3 (by kernel_rfl) rfl ?_
  refine sgo ?_
  refine wlcallgp (vals := []) (fun _ => lives_ok _) (fun w1 hf1 => ?_) (ha := fun _ => rfl)
  refine sgo ?_
  (first | refine fp1 (.inl rfl) rfl rfl ?_ | refine fp2 (.inl rfl) rfl rfl rfl ?_ | refine fp3 (.inl rfl) rfl rfl rfl rfl ?_ | refine fp0 (.inr rfl) rfl ?_ | refine fp0 (.inl rfl) rfl ?_ | refine fp1 (.inr rfl) rfl rfl ?_); refine ⟨?_, by (first | exact Frm.refl _ | assumption | (refine Frm.trans ?_ (by assumption); first | exact Frm.refl _ | assumption))⟩; (try simp only [realB, rv_true, Nat.reduceBEq, cond_true, cond_false, entG, real_lif, updGL])
  rfl
end Go.Proofs.Ytfomfplddncakaa
