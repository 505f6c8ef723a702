/-
  Our texts SvStr, SvBs, SvRune, SvDec, SvMend, SvMendB, SvIter, SvRunes, SvRange, SvRunesB, SvMendC, SvPl1, SvVal, SvDraw, SvDraw2, SvRowS, SvFp, SvSep, SvIt, SvJmp, SvCln, SvClnB, SvTokA, SvTokB, SvTokC, SvTokD, Shelf, SvQuote, SvTokE, SvTokF, SvTokG, SvLives07, joined.
-/
import Derived.Test.YtjpnhaaneaikbaaDoorMg2
import Derived.Laws.Cover4
import Derived.ScopeJumps
import Derived.Shelf.Strings.Builder1
import Derived.Shelf.Strings.Builder2
import Derived.Shelf.Strings.OnBuilder
import Derived.Shelf.Small.Wraps
import Derived.Shelf.Strings.BuilderF
import Derived.Shelf.Strings.BuilderK
import Derived.Shelf.Utf8.RuneCount
import Derived.Shelf.Strings.Builder2Cap
import Derived.Shelf.Strings.Search1
import Derived.Shelf.Strings.Search2
import Derived.Shelf.Strings.Search3
import Derived.Shelf.Strings.Count
import Derived.Shelf.LaysM
import Derived.Shelf.Strings.Shaped
import Derived.Shelf.Strings.Prefix
import Derived.Shelf.Strings.Split
import Derived.Shelf.Strings.SplitShaped
import Derived.Shelf.Unicode.Decode
import Derived.Shelf.Strings.RuneCount
import Derived.Shelf.Strings.Explode
import Derived.Shelf.Unicode.DecodeSlow
import Derived.Shelf.Unicode.DecodeAny
import Derived.Test.YtjpnhaaneaikbaaDoorProg
/-
  strings.Builder, walked.
-/
set_option linter.unusedSimpArgs false
set_option linter.unusedVariables false
set_option linter.unnecessarySimpa false
namespace Go.Proofs.YtjpnhaaneaikbaaDoor
open Go Go.Sv Go.RowKit

abbrev TB : Nat := 85
abbrev TY : Nat := 5
theorem bup_shape {w : World} {b : Nat} {pv q : Option Addr} {c : Nat} {s : List UInt8} (h : BuP TB TY w b pv q c s) : w.shape? b = some (TB, 2) := by
  have := h.cell
  simp [World.shape?, this]

theorem tb_info : ∃ j, Tryd.prog.info? TB = some j ∧ j.size ≠ 0 := by
  obtain ⟨j, hj1, hj2, hj3, hj4⟩ := inf_size (P := Tryd.prog) (t := TB)
  exact ⟨j, hj1, by rw [hj3]; decide⟩
theorem copyCheck_ok (b : Nat) (pv q : Option Addr) (c : Nat) (s : List UInt8) (w : World) (h : BuP TB TY w b pv q c s) :
    CallsR Tryd.prog 73 #[ptrAt (pb b) 0] w fun v w' => v = .tuple #[] ∧ BuP TB TY w' b (pb b) q c s ∧ Le [b] w w' := by
  have ho := h.own
  have hsh := bup_shape h
  rcases h.hp with rfl | rfl
  · refine enter (l := [ptrAt (pb b) 0]) Tryd.func73 rfl Tryd.ntmps73 (by kernel_rfl) rfl ?_
    refine sgo ?_
    refine wl (v := .bool true) ?_ (y_pnil (p := none) rfl rfl)
    refine sgo ?_
    obtain ⟨j, hj1, hj3⟩ := tb_info
    refine wl ?_ (y_tou (a := ⟨b, 0, none⟩) rfl hj1 hj3 hsh Nat.two_pos)
    refine wl ?_ (y_noesc (v := .pointer (some ⟨b, 0, none⟩)) Tryd.func83 (by kernel_rfl) (by kernel_rfl) (by kernel_rfl) (by kernel_rfl) rfl)
    refine wl ?_ (y_fromu (a := ⟨b, 0, none⟩) rfl hj1 hsh (by kernel_rfl))
    clear hj1 hj3
    refine sgo ?_
    refine wlstT (v := .pointer (pb b)) h.cell (fun w' h1 h2 => ?_) rfl rfl
    refine sgo ?_
    (first | refine fp1 (.inl rfl) rfl rfl ?_ | refine fp2 (.inl rfl) rfl rfl rfl ?_ | refine fp3 (.inl rfl) rfl rfl rfl rfl ?_ | refine fp0 (.inr rfl) rfl ?_ | refine fp0 (.inl rfl) rfl ?_ | refine fp1 (.inr rfl) rfl rfl ?_)
    exact ⟨rfl, ⟨.inr rfl, h1, rowT_le h.row h2 (by intro k hk hm; simp only [List.mem_singleton] at hm; subst hm; exact h.ne hk), h.ne⟩, h2⟩
  · refine enter (l := [ptrAt (pb b) 0]) Tryd.func73 rfl Tryd.ntmps73 (by kernel_rfl) rfl ?_
    refine sgo ?_
    refine wl (v := .bool false) ?_ (y_pnil (p := some ⟨b, 0, none⟩) rfl rfl)
    refine sgo ?_
    obtain ⟨j, hj1, hj3⟩ := tb_info
    refine wl ?_ (y_psame (a := ⟨b, 0, none⟩) rfl rfl hj1)
    clear hj1 hj3
    refine sgo ?_
    (first | refine fp1 (.inl rfl) rfl rfl ?_ | refine fp2 (.inl rfl) rfl rfl rfl ?_ | refine fp3 (.inl rfl) rfl rfl rfl rfl ?_ | refine fp0 (.inr rfl) rfl ?_ | refine fp0 (.inl rfl) rfl ?_ | refine fp1 (.inr rfl) rfl rfl ?_)
    exact ⟨rfl, h, Le.refl _ _⟩

theorem write_lm {w w1 w2 w3 : World} {b : Nat} {q q' : Option Addr} (h1 : Le [b] w w1) (h2 : Lm (rb q) w1 (rb q') w2) (h3 : Le [b] w2 w3) : Lm (b :: rb q) w (b :: rb q') w3 := by
  refine ⟨⟨h3.os.trans (h2.1.os.trans h1.os), h3.tape.trans (h2.1.tape.trans h1.tape), h3.output.trans (h2.1.output.trans h1.output), Nat.le_trans h1.size (Nat.le_trans h2.1.size h3.size), fun k hk hm => ?_⟩, ?_⟩
  · simp only [List.mem_cons, not_or] at hm
    have e1 := h1.block k hk (by simpa using hm.1)
    have e2 := h2.1.block k (Nat.lt_of_lt_of_le hk h1.size) hm.2
    have e3 := h3.block k (Nat.lt_of_lt_of_le hk (Nat.le_trans h1.size h2.1.size)) (by simpa using hm.1)
    rw [e3, e2, e1]
  · intro k hk hlt
    rcases List.mem_cons.1 hk with rfl | hk
    · exact List.mem_cons_self
    · exact List.mem_cons_of_mem _ (h2.2 k hk (Nat.lt_of_lt_of_le hlt h1.size))
theorem bld_put {w1 w2 w3 : World} {b : Nat} {q q' : Option Addr} {c c' : Nat} {s t : List UInt8} (h1 : BuP TB TY w1 b (pb b) q c s) (h2 : Lm (rb q) w1 (rb q') w2) (hr : w2.ownsRow 0 TY 1 (.slice q' (s.length + t.length) c') (s.length + t.length) (bs s ++ bs t))
    (h3 : w3.heap[b]? = some (.cells ([.pointer (pb b), .slice q s.length c].set 1 (.slice q' (s.length + t.length) c')).toArray TB (0, 0))) (h4 : Le [b] w2 w3) : Bld TB TY w3 b q' (s ++ t) := by
  have hne : b ∉ rb q' := fun hb => h1.ne (h2.2 b hb h1.own.lt)
  have e : bs s ++ bs t = bs (s ++ t) := by simp [bs]
  rw [e, ← List.length_append] at hr
  rw [← List.length_append] at h3
  exact ⟨pb b, c', .inr rfl, h3, rowT_le hr h4 (by intro k hk hm; simp only [List.mem_singleton] at hm; subst hm; exact hne hk), hne⟩

theorem writeString_ok (b : Nat) (q : Option Addr) (s t : List UInt8) (w : World) (h : Bld TB TY w b q s) (hb : s.length + t.length ≤ 140737488355328) :
    CallsR Tryd.prog 63 #[ptrAt (pb b) 0, str t] w fun v w' => v = .tuple #[int t.length, .nilIface] ∧ ∃ q', Bld TB TY w' b q' (s ++ t) ∧ Lm (b :: rb q) w (b :: rb q') w' := by
  obtain ⟨pv, c, h⟩ := h
  refine enter (l := [ptrAt (pb b) 0, str t]) Tryd.func63 rfl Tryd.ntmps63 (by kernel_rfl) rfl ?_
  refine sgo ?_
  refine wlcall (copyCheck_ok b pv q c s w h) ?_
  rintro v w1 ⟨rfl, h1, hl1⟩
  have ho := h1.own
  refine sgo ?_
  refine wlappTs h1.row fun q' c' w2 hr2 hl2 => ?_
  have hc2 : w2.heap[b]? = _ := (hl2.1.block b h1.own.lt h1.ne).trans h1.cell
  refine sgo ?_
  refine wlstT (v := .slice q' (s.length + t.length) c') hc2 (fun w3 h3 hl3 => ?_) rfl rfl
  refine sgo ?_
  (first | refine fp1 (.inl rfl) rfl rfl ?_ | refine fp2 (.inl rfl) rfl rfl rfl ?_ | refine fp3 (.inl rfl) rfl rfl rfl rfl ?_ | refine fp0 (.inr rfl) rfl ?_ | refine fp0 (.inl rfl) rfl ?_ | refine fp1 (.inr rfl) rfl rfl ?_)
  exact ⟨rfl, q', bld_put h1 hl2 hr2 h3 hl3, write_lm hl1 hl2 hl3⟩



















end Go.Proofs.YtjpnhaaneaikbaaDoor

/-
  Slices written out, of two to four values of one cell each.
-/
set_option linter.unusedSimpArgs false
set_option linter.unusedVariables false
set_option linter.unnecessarySimpa false
namespace Go.Sv
open Go Go.RowKit
section
variable {P : Program} {n : Nat} {ds : Ctx} {ops : Array Oper} {Q : Exit → Ctx → Env → World → Prop} {rest : List Oper} {σ : GE} {w : World} {d : Nat} {ty t e : TypeId} {pos : String} {af : Array Edge} {x1 x2 x3 x4 : Operand} {v1 v2 v3 v4 zv : Value} {bytes : Nat}
theorem run_bs2 [hu : Und P t (.slice e)] [hi : Inf P e zv 1 bytes] (hz : zv.cells.size = 1) (h1 : v1.cells = #[v1]) (h2 : v2.cells = #[v2]) (w : World) :
    (Instr.buildSlice t 2 #[(0, v1), (1, v2)]).run P w = .ok (.slice (some ⟨w.heap.size, 0, none⟩) 2 2) (w.alloc (.cells #[v1, v2] e)) := by
  have hf : Instr.fill (fun i => some (i * 1, 1)) ((Array.range (2 * 1)).map (zv.cells[· % zv.cells.size]!)) [(0, v1), (1, v2)] = some #[v1, v2] := by
    simp [Instr.fill, h1, h2, Array.range, Array.ofFn_succ, Array.zipIdx]
  simp only [Instr.buildSlice, Sem.run_bind, underlying, run_program, Result.andThen_ok, hu.ok, Sem.run_pure, run_sizeOf (P := P) (t := e), Nat.mul_one]
  rw [if_neg (by decide), if_neg (by decide)]
  simp only [Sem.run_bind, Sem.run_pure, Result.andThen_ok, run_zeroValue (P := P) (t := e)]
  simp only [Nat.mul_one] at hf
  rw [hf]
  simp [newRow]
theorem run_bs3 [hu : Und P t (.slice e)] [hi : Inf P e zv 1 bytes] (hz : zv.cells.size = 1) (h1 : v1.cells = #[v1]) (h2 : v2.cells = #[v2]) (h3 : v3.cells = #[v3]) (w : World) :
    (Instr.buildSlice t 3 #[(0, v1), (1, v2), (2, v3)]).run P w = .ok (.slice (some ⟨w.heap.size, 0, none⟩) 3 3) (w.alloc (.cells #[v1, v2, v3] e)) := by
  have hf : Instr.fill (fun i => some (i * 1, 1)) ((Array.range (3 * 1)).map (zv.cells[· % zv.cells.size]!)) [(0, v1), (1, v2), (2, v3)] = some #[v1, v2, v3] := by
    simp [Instr.fill, h1, h2, h3, Array.range, Array.ofFn_succ, Array.zipIdx]
  simp only [Instr.buildSlice, Sem.run_bind, underlying, run_program, Result.andThen_ok, hu.ok, Sem.run_pure, run_sizeOf (P := P) (t := e), Nat.mul_one]
  rw [if_neg (by decide), if_neg (by decide)]
  simp only [Sem.run_bind, Sem.run_pure, Result.andThen_ok, run_zeroValue (P := P) (t := e)]
  simp only [Nat.mul_one] at hf
  rw [hf]
  simp [newRow]
theorem run_bs4 [hu : Und P t (.slice e)] [hi : Inf P e zv 1 bytes] (hz : zv.cells.size = 1) (h1 : v1.cells = #[v1]) (h2 : v2.cells = #[v2]) (h3 : v3.cells = #[v3]) (h4 : v4.cells = #[v4]) (w : World) :
    (Instr.buildSlice t 4 #[(0, v1), (1, v2), (2, v3), (3, v4)]).run P w = .ok (.slice (some ⟨w.heap.size, 0, none⟩) 4 4) (w.alloc (.cells #[v1, v2, v3, v4] e)) := by
  have hf : Instr.fill (fun i => some (i * 1, 1)) ((Array.range (4 * 1)).map (zv.cells[· % zv.cells.size]!)) [(0, v1), (1, v2), (2, v3), (3, v4)] = some #[v1, v2, v3, v4] := by
    simp [Instr.fill, h1, h2, h3, h4, Array.range, Array.ofFn_succ, Array.zipIdx]
  simp only [Instr.buildSlice, Sem.run_bind, underlying, run_program, Result.andThen_ok, hu.ok, Sem.run_pure, run_sizeOf (P := P) (t := e), Nat.mul_one]
  rw [if_neg (by decide), if_neg (by decide)]
  simp only [Sem.run_bind, Sem.run_pure, Result.andThen_ok, run_zeroValue (P := P) (t := e)]
  simp only [Nat.mul_one] at hf
  rw [hf]
  simp [newRow]
theorem wlbs2 [hu : Und P t (.slice e)] [hi : Inf P e zv 1 bytes] (h : ∀ b w', w.heap.size ≤ b → Own w' b [v1, v2] → Frm w w' → WL P n ds ops Q rest (real (updG σ d ⟨.slice (pb b) 2 2, true⟩)) w')
    (hx1 : evl (real σ) x1 = v1 := by rfl) (hx2 : evl (real σ) x2 = v2 := by rfl) (h1 : v1.cells = #[v1] := by rfl) (h2 : v2.cells = #[v2] := by rfl) (hz : zv.cells.size = 1 := by rfl) :
    WL P n ds ops Q (⟨some d, .buildSlice t 2 #[(0, x1), (1, x2)], ty, pos, af, none⟩ :: rest) (real σ) w := by
  refine wl (h w.heap.size (w.alloc (.cells #[v1, v2] e)) (Nat.le_refl _) (own_alloc _ _ _) (frm_alloc _ _)) (Y.val ?_)
  simp only [execOp, List.map_toArray, List.map_cons, List.map_nil, hx1, hx2, Sem.run_bind]
  rw [run_bs2 (P := P) (t := t) (e := e) hz h1 h2]
  rfl
theorem wlbs3 [hu : Und P t (.slice e)] [hi : Inf P e zv 1 bytes] (h : ∀ b w', w.heap.size ≤ b → Own w' b [v1, v2, v3] → Frm w w' → WL P n ds ops Q rest (real (updG σ d ⟨.slice (pb b) 3 3, true⟩)) w')
    (hx1 : evl (real σ) x1 = v1 := by rfl) (hx2 : evl (real σ) x2 = v2 := by rfl) (hx3 : evl (real σ) x3 = v3 := by rfl) (h1 : v1.cells = #[v1] := by rfl) (h2 : v2.cells = #[v2] := by rfl) (h3 : v3.cells = #[v3] := by rfl) (hz : zv.cells.size = 1 := by rfl) :
    WL P n ds ops Q (⟨some d, .buildSlice t 3 #[(0, x1), (1, x2), (2, x3)], ty, pos, af, none⟩ :: rest) (real σ) w := by
  refine wl (h w.heap.size (w.alloc (.cells #[v1, v2, v3] e)) (Nat.le_refl _) (own_alloc _ _ _) (frm_alloc _ _)) (Y.val ?_)
  simp only [execOp, List.map_toArray, List.map_cons, List.map_nil, hx1, hx2, hx3, Sem.run_bind]
  rw [run_bs3 (P := P) (t := t) (e := e) hz h1 h2 h3]
  rfl
theorem wlbs4 [hu : Und P t (.slice e)] [hi : Inf P e zv 1 bytes] (h : ∀ b w', w.heap.size ≤ b → Own w' b [v1, v2, v3, v4] → Frm w w' → WL P n ds ops Q rest (real (updG σ d ⟨.slice (pb b) 4 4, true⟩)) w')
    (hx1 : evl (real σ) x1 = v1 := by rfl) (hx2 : evl (real σ) x2 = v2 := by rfl) (hx3 : evl (real σ) x3 = v3 := by rfl) (hx4 : evl (real σ) x4 = v4 := by rfl) (h1 : v1.cells = #[v1] := by rfl) (h2 : v2.cells = #[v2] := by rfl) (h3 : v3.cells = #[v3] := by rfl) (h4 : v4.cells = #[v4] := by rfl) (hz : zv.cells.size = 1 := by rfl) :
    WL P n ds ops Q (⟨some d, .buildSlice t 4 #[(0, x1), (1, x2), (2, x3), (3, x4)], ty, pos, af, none⟩ :: rest) (real σ) w := by
  refine wl (h w.heap.size (w.alloc (.cells #[v1, v2, v3, v4] e)) (Nat.le_refl _) (own_alloc _ _ _) (frm_alloc _ _)) (Y.val ?_)
  simp only [execOp, List.map_toArray, List.map_cons, List.map_nil, hx1, hx2, hx3, hx4, Sem.run_bind]
  rw [run_bs4 (P := P) (t := t) (e := e) hz h1 h2 h3 h4]
  rfl
end
end Go.Sv

/-
  A rune's bytes: utf8.AppendRune, and the builder's WriteRune.
-/
set_option linter.unusedSimpArgs false
set_option linter.unusedVariables false
set_option linter.unnecessarySimpa false
namespace Go.Proofs.YtjpnhaaneaikbaaDoor
open Go Go.Sv Go.RowKit

/-- a rune's bytes -/
def encN (r : Nat) : List Nat :=
  if r < 128 then [r]
  else if r < 2048 then [192 + r / 64, 128 + r % 64]
  else if r < 65536 then [224 + r / 4096, 128 + r / 64 % 64, 128 + r % 64]
  else [240 + r / 262144, 128 + r / 4096 % 64, 128 + r / 64 % 64, 128 + r % 64]
def encR (r : Nat) : List UInt8 := (encN r).map UInt8.ofNat
theorem bs_ofNat {l : List Nat} (h : ∀ x ∈ l, x < 256) : bs (l.map UInt8.ofNat) = l.map fun n : Nat => byt n := by
  unfold bs
  rw [List.map_map]
  refine List.map_congr_left fun x hx => ?_
  have := h x hx
  simp only [Function.comp]
  rw [UInt8.toNat_ofNat_of_lt' (by simpa using this)]
theorem encN_lt (r : Nat) (h : r < 1114112) : ∀ x ∈ encN r, x < 256 := by
  unfold encN
  intro x hx
  repeat' split at hx
  all_goals simp only [List.mem_cons, List.not_mem_nil, or_false] at hx
  all_goals omega
theorem bs_encR (r : Nat) (h : r < 1114112) : bs (encR r) = (encN r).map fun n : Nat => byt n := bs_ofNat (encN_lt r h)
theorem encR_len (r : Nat) : (encR r).length = (encN r).length := by simp [encR]

/-- the row behind the append -/
def AppR (q : Option Addr) (s : List UInt8) (t : List UInt8) (w : World) (v : Value) (w' : World) : Prop :=
  ∃ q' c', v = .slice q' (s.length + t.length) c' ∧ w'.ownsRow 0 TY 1 (.slice q' (s.length + t.length) c') (s.length + t.length) (bs s ++ bs t) ∧ Lm (rb q) w (rb q') w'

end Go.Proofs.YtjpnhaaneaikbaaDoor

/-
  What a right piece is: its bytes, its rune, how the language's range reads it, how the library writes it.
-/
set_option linter.unusedSimpArgs false
set_option linter.unusedVariables false
set_option linter.unnecessarySimpa false
namespace Go.Proofs.YtjpnhaaneaikbaaDoor
open Go Go.Sv Go.RowKit

/-- the four kinds of right pieces -/
def Right (l : List UInt8) : Prop :=
  (at0 l 0 < 128 ∧ pieceR l = (((at0 l 0 : Nat) : Int), 1, true))
  ∨ (1 < l.length ∧ 194 ≤ at0 l 0 ∧ at0 l 0 ≤ 223 ∧ 128 ≤ at0 l 1 ∧ at0 l 1 ≤ 191 ∧ pieceR l = (((at0 l 0 % 32 * 64 + at0 l 1 % 64 : Nat) : Int), 2, true))
  ∨ (2 < l.length ∧ 224 ≤ at0 l 0 ∧ at0 l 0 ≤ 239 ∧ 128 ≤ at0 l 1 ∧ at0 l 1 ≤ 191 ∧ (at0 l 0 = 224 → 160 ≤ at0 l 1) ∧ (at0 l 0 = 237 → at0 l 1 ≤ 159) ∧ 128 ≤ at0 l 2 ∧ at0 l 2 ≤ 191 ∧ pieceR l = ((((at0 l 0 % 16 * 64 + at0 l 1 % 64) * 64 + at0 l 2 % 64 : Nat) : Int), 3, true))
  ∨ (3 < l.length ∧ 240 ≤ at0 l 0 ∧ at0 l 0 ≤ 244 ∧ 128 ≤ at0 l 1 ∧ at0 l 1 ≤ 191 ∧ (at0 l 0 = 240 → 144 ≤ at0 l 1) ∧ (at0 l 0 = 244 → at0 l 1 ≤ 143) ∧ 128 ≤ at0 l 2 ∧ at0 l 2 ≤ 191 ∧ 128 ≤ at0 l 3 ∧ at0 l 3 ≤ 191 ∧ pieceR l = (((((at0 l 0 % 8 * 64 + at0 l 1 % 64) * 64 + at0 l 2 % 64) * 64 + at0 l 3 % 64 : Nat) : Int), 4, true))

theorem secR (c d : Nat) (h : secondR c d = true) : 128 ≤ d ∧ d ≤ 191 ∧ (c = 224 → 160 ≤ d) ∧ (c = 237 → d ≤ 159) ∧ (c = 240 → 144 ≤ d) ∧ (c = 244 → d ≤ 143) := by
  unfold secondR at h
  repeat' split at h
  all_goals simp only [Bool.and_eq_true, decide_eq_true_eq] at h
  all_goals omega

theorem right_of (l : List UInt8) (h : (pieceR l).2.2 = true) : Right l := by
  have hg2 : (goodR l).2 = true := h
  have hs0 : ¬ sizeR (at0 l 0) = 0 := by
    intro h0
    unfold goodR at hg2; rw [if_pos h0] at hg2; cases hg2
  have hg : goodR l = (goodF l (sizeR (at0 l 0)) 4 1, decide (goodF l (sizeR (at0 l 0)) 4 1 = sizeR (at0 l 0))) := by unfold goodR; rw [if_neg hs0]
  have he : goodF l (sizeR (at0 l 0)) 4 1 = sizeR (at0 l 0) := by
    rw [hg] at hg2; simpa using hg2
  have hp : pieceR l = (((accR l (sizeR (at0 l 0) - 1) 1 (firstR (at0 l 0) (sizeR (at0 l 0))) : Nat) : Int), sizeR (at0 l 0), true) := by
    have hg' : goodR l = (sizeR (at0 l 0), true) := by rw [hg, he]; simp
    unfold pieceR
    rw [hg']
    simp [hs0]
  have hc := at0_lt l 0
  have hsz : (sizeR (at0 l 0) = 1 ∧ at0 l 0 < 128) ∨ (sizeR (at0 l 0) = 2 ∧ 194 ≤ at0 l 0 ∧ at0 l 0 ≤ 223) ∨ (sizeR (at0 l 0) = 3 ∧ 224 ≤ at0 l 0 ∧ at0 l 0 ≤ 239) ∨ (sizeR (at0 l 0) = 4 ∧ 240 ≤ at0 l 0 ∧ at0 l 0 ≤ 244) := by
    revert hs0
    unfold sizeR
    repeat' split
    all_goals omega
  rcases hsz with ⟨e, h1⟩ | ⟨e, h1, h2⟩ | ⟨e, h1, h2⟩ | ⟨e, h1, h2⟩
  · left
    refine ⟨h1, ?_⟩
    rw [hp, e]; rfl
  · right; left
    rw [e] at he hp
    rw [goodF] at he
    split at he
    · rename_i hk
      split at he
      · omega
      · rename_i hk2
        have hs : secondR (at0 l 0) (at0 l 1) = true := by
          cases hh : secondR (at0 l 0) (at0 l 1) with
          | true => rfl
          | false => exact absurd (.inl ⟨rfl, hh⟩) hk2
        have := secR _ _ hs
        exact ⟨hk.2, h1, h2, this.1, this.2.1, hp⟩
    · omega
  · right; right; left
    rw [e] at he hp
    rw [goodF] at he
    split at he
    · rename_i hk
      split at he
      · omega
      · rename_i hk2
        have hs : secondR (at0 l 0) (at0 l 1) = true := by
          cases hh : secondR (at0 l 0) (at0 l 1) with
          | true => rfl
          | false => exact absurd (.inl ⟨rfl, hh⟩) hk2
        have := secR _ _ hs
        rw [goodF] at he
        split at he
        · rename_i hk3
          split at he
          · omega
          · rename_i hk4
            simp only [Nat.reduceAdd] at hk4
            exact ⟨hk3.2, h1, h2, this.1, this.2.1, this.2.2.1, this.2.2.2.1, by omega, by omega, hp⟩
        · omega
    · omega
  · right; right; right
    rw [e] at he hp
    rw [goodF] at he
    split at he
    · rename_i hk
      split at he
      · omega
      · rename_i hk2
        have hs : secondR (at0 l 0) (at0 l 1) = true := by
          cases hh : secondR (at0 l 0) (at0 l 1) with
          | true => rfl
          | false => exact absurd (.inl ⟨rfl, hh⟩) hk2
        have := secR _ _ hs
        rw [goodF] at he
        split at he
        · rename_i hk3
          split at he
          · omega
          · rename_i hk4
            rw [goodF] at he
            split at he
            · rename_i hk5
              split at he
              · omega
              · rename_i hk6
                simp only [Nat.reduceAdd] at hk4 hk6
                exact ⟨hk5.2, h1, h2, this.1, this.2.1, this.2.2.2.2.1, this.2.2.2.2.2, by omega, by omega, by omega, by omega, hp⟩
            · omega
        · omega
    · omega

theorem get_at0 (l : List UInt8) (i k : Nat) : (ByteArray.get! ⟨l.toArray⟩ (i + k)).toNat = at0 (l.drop i) k := by
  simp only [at0, List.getElem?_drop, ByteArray.get!]
  congr 1
  simp [getElem!_def]
  cases l[i + k]? <;> rfl
theorem decode_right (l : List UInt8) (i : Nat) (hr : Right (l.drop i)) : Utf8.decode ⟨l.toArray⟩ i = ((pieceR (l.drop i)).1.toNat, (pieceR (l.drop i)).2.1) := by
  have hd : ∀ k, (k < (l.drop i).length) = (i + k < l.length) := fun k => by simp; omega
  unfold Utf8.decode
  simp only [get_at0, size_str]
  unfold Right at hr
  simp only [hd] at hr
  generalize at0 (l.drop i) 0 = b0 at *
  generalize at0 (l.drop i) 1 = b1 at *
  generalize at0 (l.drop i) 2 = b2 at *
  generalize at0 (l.drop i) 3 = b3 at *
  rcases hr with ⟨h1, hp⟩ | ⟨hl, h1, h2, h3, h4, hp⟩ | ⟨hl, h1, h2, h3, h4, h5, h6, h7, h8, hp⟩ | ⟨hl, h1, h2, h3, h4, h5, h6, h7, h8, h9, h10, hp⟩
  · rw [hp, if_pos h1]; rfl
  · have e1 : b0 / 32 = 6 := by omega
    have e2 : b1 / 64 = 2 := by omega
    rw [hp, if_neg (by omega), if_pos (by simp [e1, e2, hl]), if_pos (by omega)]; rfl
  · have e1 : ¬ b0 / 32 = 6 := by omega
    have e2 : b1 / 64 = 2 := by omega
    have e3 : b0 / 16 = 14 := by omega
    have e4 : b2 / 64 = 2 := by omega
    have hl1 : i + 1 < l.length := by omega
    have ec : b0 % 16 * 4096 + b1 % 64 * 64 + b2 % 64 = (b0 % 16 * 64 + b1 % 64) * 64 + b2 % 64 := by omega
    rw [hp, if_neg (by omega), if_neg (by simp [e1]), if_pos (by simp [e3, e2, e4, hl, hl1]), ec, if_pos]
    · rfl
    · simp only [Utf8.valid, Bool.and_eq_true, Bool.or_eq_true, decide_eq_true_eq]
      omega
  · have e1 : ¬ b0 / 32 = 6 := by omega
    have e2 : b1 / 64 = 2 := by omega
    have e3 : ¬ b0 / 16 = 14 := by omega
    have e4 : b2 / 64 = 2 := by omega
    have e5 : b0 / 8 = 30 := by omega
    have e6 : b3 / 64 = 2 := by omega
    have hl1 : i + 1 < l.length := by omega
    have hl2 : i + 2 < l.length := by omega
    have ec : b0 % 8 * 262144 + b1 % 64 * 4096 + b2 % 64 * 64 + b3 % 64 = ((b0 % 8 * 64 + b1 % 64) * 64 + b2 % 64) * 64 + b3 % 64 := by omega
    rw [hp, if_neg (by omega), if_neg (by simp [e1]), if_neg (by simp [e3]), if_pos (by simp [e5, e2, e4, e6, hl, hl1, hl2]), ec, if_pos]
    · rfl
    · simp only [Utf8.valid, Bool.and_eq_true, Bool.or_eq_true, decide_eq_true_eq]
      omega

theorem ofN (c : UInt8) (n : Nat) (h : n = c.toNat) : UInt8.ofNat n = c := by subst h; exact UInt8.ofNat_toNat
/-- a right piece's rune is written as the piece's bytes -/
theorem enc_right (l : List UInt8) (h0 : 0 < l.length) (hr : Right l) : ∃ r : Nat, (pieceR l).1 = (r : Int) ∧ r < 1114112 ∧ ¬ (55296 ≤ r ∧ r ≤ 57343) ∧ encR r = l.take (pieceR l).2.1 ∧ (r < 128 → (pieceR l).2.1 = 1 ∧ at0 l 0 = r) ∧ (128 ≤ r → ∀ k, k < (pieceR l).2.1 → 128 ≤ at0 l k) := by
  have hb0 := at0_lt l 0
  have hb1 := at0_lt l 1
  have hb2 := at0_lt l 2
  have hb3 := at0_lt l 3
  rcases hr with ⟨h1, hp⟩ | ⟨hl, h1, h2, h3, h4, hp⟩ | ⟨hl, h1, h2, h3, h4, h5, h6, h7, h8, hp⟩ | ⟨hl, h1, h2, h3, h4, h5, h6, h7, h8, h9, h10, hp⟩
  · obtain ⟨a, l', rfl⟩ : ∃ a l', l = a :: l' := by
      cases l with
      | nil => simp at h0
      | cons a l' => exact ⟨a, l', rfl⟩
    have ea : at0 (a :: l') 0 = a.toNat := rfl
    refine ⟨at0 (a :: l') 0, by rw [hp], by omega, by omega, ?_, fun _ => ⟨by rw [hp], rfl⟩, fun h => by omega⟩
    rw [hp, encR, encN, if_pos h1]
    simp only [List.map_cons, List.map_nil, List.take_succ_cons, List.take_zero]
    rw [ofN a _ ea]
  · obtain ⟨a, b, l', rfl⟩ : ∃ a b l', l = a :: b :: l' := by
      match l, hl with
      | a :: b :: l', _ => exact ⟨a, b, l', rfl⟩
    have ea : at0 (a :: b :: l') 0 = a.toNat := rfl
    have eb : at0 (a :: b :: l') 1 = b.toNat := rfl
    generalize hr : at0 (a :: b :: l') 0 % 32 * 64 + at0 (a :: b :: l') 1 % 64 = r at *
    refine ⟨r, by rw [hp], by omega, by omega, ?_, fun h => by omega, fun _ k hk => ?_⟩
    · rw [hp, encR, encN, if_neg (by omega), if_pos (by omega)]
      simp only [List.map_cons, List.map_nil, List.take_succ_cons, List.take_zero]
      rw [ofN a _ (by omega), ofN b _ (by omega)]
    · rw [hp] at hk
      have : k = 0 ∨ k = 1 := by simp only [] at hk; omega
      rcases this with rfl | rfl <;> omega
  · obtain ⟨a, b, c, l', rfl⟩ : ∃ a b c l', l = a :: b :: c :: l' := by
      match l, hl with
      | a :: b :: c :: l', _ => exact ⟨a, b, c, l', rfl⟩
    have ea : at0 (a :: b :: c :: l') 0 = a.toNat := rfl
    have eb : at0 (a :: b :: c :: l') 1 = b.toNat := rfl
    have ec : at0 (a :: b :: c :: l') 2 = c.toNat := rfl
    generalize hr : (at0 (a :: b :: c :: l') 0 % 16 * 64 + at0 (a :: b :: c :: l') 1 % 64) * 64 + at0 (a :: b :: c :: l') 2 % 64 = r at *
    refine ⟨r, by rw [hp], by omega, by omega, ?_, fun h => by omega, fun _ k hk => ?_⟩
    · rw [hp, encR, encN, if_neg (by omega), if_neg (by omega), if_pos (by omega)]
      simp only [List.map_cons, List.map_nil, List.take_succ_cons, List.take_zero]
      rw [ofN a _ (by omega), ofN b _ (by omega), ofN c _ (by omega)]
    · rw [hp] at hk
      have : k = 0 ∨ k = 1 ∨ k = 2 := by simp only [] at hk; omega
      rcases this with rfl | rfl | rfl <;> omega
  · obtain ⟨a, b, c, d, l', rfl⟩ : ∃ a b c d l', l = a :: b :: c :: d :: l' := by
      match l, hl with
      | a :: b :: c :: d :: l', _ => exact ⟨a, b, c, d, l', rfl⟩
    have ea : at0 (a :: b :: c :: d :: l') 0 = a.toNat := rfl
    have eb : at0 (a :: b :: c :: d :: l') 1 = b.toNat := rfl
    have ec : at0 (a :: b :: c :: d :: l') 2 = c.toNat := rfl
    have ed : at0 (a :: b :: c :: d :: l') 3 = d.toNat := rfl
    generalize hr : ((at0 (a :: b :: c :: d :: l') 0 % 8 * 64 + at0 (a :: b :: c :: d :: l') 1 % 64) * 64 + at0 (a :: b :: c :: d :: l') 2 % 64) * 64 + at0 (a :: b :: c :: d :: l') 3 % 64 = r at *
    refine ⟨r, by rw [hp], by omega, by omega, ?_, fun h => by omega, fun _ k hk => ?_⟩
    · rw [hp, encR, encN, if_neg (by omega), if_neg (by omega), if_neg (by omega)]
      simp only [List.map_cons, List.map_nil, List.take_succ_cons, List.take_zero]
      rw [ofN a _ (by omega), ofN b _ (by omega), ofN c _ (by omega), ofN d _ (by omega)]
    · rw [hp] at hk
      have : k = 0 ∨ k = 1 ∨ k = 2 ∨ k = 3 := by simp only [] at hk; omega
      rcases this with rfl | rfl | rfl | rfl <;> omega

/-- of a text that is right the first piece is, and the rest is right -/
theorem valid_step (l : List UInt8) (h0 : 0 < l.length) (h : validR l = true) : Right l ∧ validR (l.drop (pieceR l).2.1) = true := by
  have hp := readS_piece l h0
  have hv := validS_cons l h0
  rw [valid_eq, valid_eq, h, hp] at hv
  dsimp only at hv
  by_cases hw : whatR l = 0
  · rw [if_neg (by simpa using hw)] at hv
    exact ⟨right_of l ((whatR_zero l).1 hw), hv.symm⟩
  · rw [if_pos hw] at hv; cases hv
end Go.Proofs.YtjpnhaaneaikbaaDoor

/-
  Texts mended: what that is; package sieveref01's Mend, walked.
-/
set_option linter.unusedSimpArgs false
set_option linter.unusedVariables false
set_option linter.unnecessarySimpa false
namespace Go.Proofs.YtjpnhaaneaikbaaDoor
open Go Go.Sv Go.RowKit

/-- a rune that is a character -/
def Good (r : Nat) : Prop := r < 1114112 ∧ ¬ (55296 ≤ r ∧ r ≤ 57343)
def runesN (l : List UInt8) : List Nat := (piecesR l).map fun x => x.r.toNat
/-- a text mended -/
def mendR (l : List UInt8) : List UInt8 := (runesN l).flatMap encR
theorem pieceR_good (l : List UInt8) (h0 : 0 < l.length) : ∃ r : Nat, (pieceR l).1 = (r : Int) ∧ Good r := by
  cases hr : (pieceR l).2.2 with
  | true =>
    obtain ⟨r, h1, h2, h3, _⟩ := enc_right l h0 (right_of l hr)
    exact ⟨r, h1, h2, h3⟩
  | false =>
    refine ⟨65533, ?_, by decide, by decide⟩
    have : (goodR l).2 = false := hr
    simp [pieceR, this]
theorem piecesF_good : ∀ (f a : Nat) (l : List UInt8), ∀ x ∈ piecesF f a l, ∃ r : Nat, x.r = (r : Int) ∧ Good r
  | 0, _, _ => by simp [piecesF]
  | f + 1, a, l => by
    simp only [piecesF]
    split
    · simp
    · rename_i hne
      intro x hx
      rcases List.mem_cons.1 hx with rfl | hx
      · exact pieceR_good l (List.length_pos_iff.2 hne)
      · exact piecesF_good f _ _ x hx
theorem pieces_r (l : List UInt8) : (piecesR l).map (fun x => i32 x.r) = (runesN l).map fun n : Nat => i32 n := by
  unfold runesN
  rw [List.map_map]
  refine List.map_congr_left fun x hx => ?_
  obtain ⟨r, h, _⟩ := piecesF_good _ _ _ x hx
  simp [h]
theorem runesN_good (l : List UInt8) : ∀ r ∈ runesN l, Good r := by
  intro r hr
  unfold runesN at hr
  obtain ⟨x, hx, rfl⟩ := List.mem_map.1 hr
  obtain ⟨r, h, hg⟩ := piecesF_good _ _ _ x hx
  rw [h]; exact hg
theorem encN_len (r : Nat) : 1 ≤ (encN r).length ∧ (encN r).length ≤ 4 := by
  unfold encN
  repeat' split
  all_goals simp
theorem encR_len4 (r : Nat) : 1 ≤ (encR r).length ∧ (encR r).length ≤ 4 := by rw [encR_len]; exact encN_len r
theorem encR_flat (rs : List Nat) : (rs.flatMap encR).length ≤ 4 * rs.length := by
  induction rs with
  | nil => simp
  | cons r rs ih => have := encR_len4 r; simp only [List.flatMap_cons, List.length_append, List.length_cons]; omega
theorem runesN_len (l : List UInt8) : (runesN l).length ≤ l.length := by
  unfold runesN
  rw [List.length_map]; exact piecesF_len _ _ _
theorem mendR_len (l : List UInt8) : (mendR l).length ≤ 4 * l.length := by
  have := encR_flat (runesN l)
  have := runesN_len l
  unfold mendR; omega
/-- pieces one by one -/
theorem runesN_nil : runesN [] = [] := rfl
theorem piecesF_r : ∀ (f f' a a' : Nat) (l : List UInt8), l.length ≤ f → l.length ≤ f' → (piecesF f a l).map (fun x => x.r.toNat) = (piecesF f' a' l).map fun x => x.r.toNat
  | 0, f', a, a', l, h, _ => by
    have : l = [] := List.eq_nil_of_length_eq_zero (by omega)
    subst this
    cases f' <;> simp [piecesF]
  | f + 1, 0, a, a', l, _, h => by
    have : l = [] := List.eq_nil_of_length_eq_zero (by omega)
    subst this
    simp [piecesF]
  | f + 1, f' + 1, a, a', l, h, h' => by
    simp only [piecesF]
    split
    · rfl
    · rename_i hne
      have := pieceR_rng l (List.length_pos_iff.2 hne)
      simp only [List.map_cons]
      rw [piecesF_r f f' _ (a' + (pieceR l).2.1) _ (by simp; omega) (by simp; omega)]
theorem runesN_cons (l : List UInt8) (h0 : 0 < l.length) : runesN l = (pieceR l).1.toNat :: runesN (l.drop (pieceR l).2.1) := by
  have hrg := pieceR_rng l h0
  unfold runesN piecesR
  obtain ⟨f, hf⟩ : ∃ f, l.length = f + 1 := ⟨l.length - 1, by omega⟩
  have hne : l ≠ [] := List.length_pos_iff.1 h0
  rw [hf, piecesF, if_neg hne, List.map_cons]
  congr 1
  exact piecesF_r f _ _ 0 _ (by simp; omega) (Nat.le_refl _)
theorem mendR_cons (l : List UInt8) (h0 : 0 < l.length) : mendR l = encR (pieceR l).1.toNat ++ mendR (l.drop (pieceR l).2.1) := by
  unfold mendR
  rw [runesN_cons l h0, List.flatMap_cons]
/-- what is right stays -/
theorem mendR_valid : ∀ (n : Nat) (l : List UInt8), l.length ≤ n → validR l = true → mendR l = l
  | 0, l, h, _ => by
    have : l = [] := List.eq_nil_of_length_eq_zero (by omega)
    subst this; rfl
  | n + 1, l, h, hv => by
    rcases Nat.eq_zero_or_pos l.length with h0 | h0
    · have : l = [] := List.eq_nil_of_length_eq_zero h0
      subst this; rfl
    · obtain ⟨hr, hv2⟩ := valid_step l h0 hv
      obtain ⟨r, h1, _, _, h4, _⟩ := enc_right l h0 hr
      have hrg := pieceR_rng l h0
      rw [mendR_cons l h0, mendR_valid n _ (by simp; omega) hv2, h1, Int.toNat_natCast, h4, List.take_append_drop]
theorem mendR_id {l : List UInt8} (hv : validR l = true) : mendR l = l := mendR_valid _ l (Nat.le_refl _) hv

def charR (r : Int) : Bool := decide (0 ≤ r ∧ r ≤ 1114111 ∧ (r < 55296 ∨ 57343 < r))
theorem charR_good {r : Nat} (h : Good r) : charR r = true := decide_eq_true (by unfold Good at h; omega)
theorem refChar_ok (r : Int) (w : World) : PureC Tryd.prog 48 #[i32 r] w (.bool (charR r)) := by
  refine enter (l := [i32 r]) Tryd.func48 rfl Tryd.ntmps48 (by kernel_rfl) rfl ?_
  refine sgo ?_
  (first | refine fp1 (.inl rfl) rfl rfl ?_ | refine fp2 (.inl rfl) rfl rfl rfl ?_ | refine fp3 (.inl rfl) rfl rfl rfl rfl ?_ | refine fp0 (.inr rfl) rfl ?_ | refine fp0 (.inl rfl) rfl ?_ | refine fp1 (.inr rfl) rfl rfl ?_); refine ⟨?_, by (first | exact Frm.refl _ | assumption | exact Go.Sv.Sep.frm (by assumption) | (refine Frm.trans ?_ (by assumption); first | exact Frm.refl _ | assumption))⟩; (try simp only [realB, rv_true, Nat.reduceBEq, cond_true, cond_false, entG, real_lif, updGL])
  refine congrArg Value.bool ?_
  unfold charR
  rw [Bool.eq_iff_iff]
  simp only [pkb_or, pkb_and, Bool.or_eq_true, Bool.and_eq_true, decide_eq_true_eq]
  omega
theorem refWidth_ok (r : Nat) (hg : Good r) (w : World) : PureC Tryd.prog 70 #[i32 r] w (int (encN r).length) := by
  have hch := charR_good hg
  have hgg := hg
  unfold Good at hgg
  refine enter (l := [i32 r]) Tryd.func70 rfl Tryd.ntmps70 (by kernel_rfl) rfl ?_
  refine sgo ?_
  have hc0 := refChar_ok r w
  rw [hch] at hc0
  refine wlpure hc0 fun w1 hf => ?_
  refine sgo ?_
  (show WC _ _ _ _ _ _ _; first | refine WC_dec rfl (fun hc => ?_) (fun hc => ?_) | refine WC_cond rfl (fun hc => ?_) (fun hc => ?_))
  · have e : encN r = [r] := if_pos (by omega)
    refine sgo ?_
    (first | refine fp1 (.inl rfl) rfl rfl ?_ | refine fp2 (.inl rfl) rfl rfl rfl ?_ | refine fp3 (.inl rfl) rfl rfl rfl rfl ?_ | refine fp0 (.inr rfl) rfl ?_ | refine fp0 (.inl rfl) rfl ?_ | refine fp1 (.inr rfl) rfl rfl ?_); refine ⟨?_, by (first | exact Frm.refl _ | assumption | exact Go.Sv.Sep.frm (by assumption) | (refine Frm.trans ?_ (by assumption); first | exact Frm.refl _ | assumption))⟩; (try simp only [realB, rv_true, Nat.reduceBEq, cond_true, cond_false, entG, real_lif, updGL])
    rw [e]; rfl
  have n1 := hc; clear hc
  refine sgo ?_
  (show WC _ _ _ _ _ _ _; first | refine WC_dec rfl (fun hc => ?_) (fun hc => ?_) | refine WC_cond rfl (fun hc => ?_) (fun hc => ?_))
  · have e : encN r = [192 + r / 64, 128 + r % 64] := by rw [encN, if_neg (by omega), if_pos (by omega)]
    refine sgo ?_
    (first | refine fp1 (.inl rfl) rfl rfl ?_ | refine fp2 (.inl rfl) rfl rfl rfl ?_ | refine fp3 (.inl rfl) rfl rfl rfl rfl ?_ | refine fp0 (.inr rfl) rfl ?_ | refine fp0 (.inl rfl) rfl ?_ | refine fp1 (.inr rfl) rfl rfl ?_); refine ⟨?_, by (first | exact Frm.refl _ | assumption | exact Go.Sv.Sep.frm (by assumption) | (refine Frm.trans ?_ (by assumption); first | exact Frm.refl _ | assumption))⟩; (try simp only [realB, rv_true, Nat.reduceBEq, cond_true, cond_false, entG, real_lif, updGL])
    rw [e]; rfl
  have n2 := hc; clear hc
  refine sgo ?_
  (show WC _ _ _ _ _ _ _; first | refine WC_dec rfl (fun hc => ?_) (fun hc => ?_) | refine WC_cond rfl (fun hc => ?_) (fun hc => ?_))
  · have e : encN r = [224 + r / 4096, 128 + r / 64 % 64, 128 + r % 64] := by rw [encN, if_neg (by omega), if_neg (by omega), if_pos (by omega)]
    refine sgo ?_
    (first | refine fp1 (.inl rfl) rfl rfl ?_ | refine fp2 (.inl rfl) rfl rfl rfl ?_ | refine fp3 (.inl rfl) rfl rfl rfl rfl ?_ | refine fp0 (.inr rfl) rfl ?_ | refine fp0 (.inl rfl) rfl ?_ | refine fp1 (.inr rfl) rfl rfl ?_); refine ⟨?_, by (first | exact Frm.refl _ | assumption | exact Go.Sv.Sep.frm (by assumption) | (refine Frm.trans ?_ (by assumption); first | exact Frm.refl _ | assumption))⟩; (try simp only [realB, rv_true, Nat.reduceBEq, cond_true, cond_false, entG, real_lif, updGL])
    rw [e]; rfl
  have n3 := hc; clear hc
  have e : encN r = [240 + r / 262144, 128 + r / 4096 % 64, 128 + r / 64 % 64, 128 + r % 64] := by rw [encN, if_neg (by omega), if_neg (by omega), if_neg (by omega)]
  refine sgo ?_
  (first | refine fp1 (.inl rfl) rfl rfl ?_ | refine fp2 (.inl rfl) rfl rfl rfl ?_ | refine fp3 (.inl rfl) rfl rfl rfl rfl ?_ | refine fp0 (.inr rfl) rfl ?_ | refine fp0 (.inl rfl) rfl ?_ | refine fp1 (.inr rfl) rfl rfl ?_); refine ⟨?_, by (first | exact Frm.refl _ | assumption | exact Go.Sv.Sep.frm (by assumption) | (refine Frm.trans ?_ (by assumption); first | exact Frm.refl _ | assumption))⟩; (try simp only [realB, rv_true, Nat.reduceBEq, cond_true, cond_false, entG, real_lif, updGL])
  rw [e]; rfl

/-- a new slice of bytes -/
def NewB (w : World) (s : List UInt8) (v : Value) (w' : World) : Prop := Frm w w' ∧ ∃ q cc, v = .slice q s.length cc ∧ Row w' 1 q s.length cc (bs s) ∧ ∀ x ∈ rb q, w.heap.size ≤ x
theorem newB_own {w w1 w2 : World} {b n : Nat} {s : List UInt8} {L : List Value} (hf : Frm w w1) (hb : w1.heap.size ≤ b) (ho : Own w2 b L) (hf2 : Frm w1 w2) (hn : n = s.length) (hn2 : n ≤ 4) (hL : L = bs s) : NewB w s (.slice (pb b) n n) w2 := by
  subst hn hL
  refine ⟨hf.trans hf2, pb b, s.length, rfl, Row.of_own ho (by simp) (by omega), ?_⟩
  intro x hx
  simp only [rb, List.mem_singleton] at hx
  subst hx
  exact Nat.le_trans hf.size hb
set_option maxHeartbeats 2000000 in
theorem refBytesOf_ok (r : Nat) (hg : Good r) (w : World) : CallsR Tryd.prog 60 #[i32 r] w (NewB w (encR r)) := by
  have hch := charR_good hg
  have hbe := bs_encR r hg.1
  have hel := encR_len r
  have hgg := hg
  unfold Good at hgg
  refine enter (l := [i32 r]) Tryd.func60 rfl Tryd.ntmps60 (by kernel_rfl) rfl ?_
  refine sgo ?_
  have hc0 := refChar_ok r w
  rw [hch] at hc0
  refine wlpure hc0 fun w1 hf => ?_
  refine sgo ?_
  have hw := fun w => refWidth_ok r hg w
  by_cases n1 : r < 128
  · have e : encN r = [r] := if_pos (by omega)
    rw [e] at hbe hel hw
    replace hw : ∀ w, PureC Tryd.prog 70 #[i32 r] w (int 1) := hw
    refine wlpure (hw _) fun w2 hf2 => ?_
    replace hf := hf.trans hf2
    refine sgo ?_
    refine wlb1_int fun b w3 hb ho hf3 => ?_
    refine sgo ?_
    (first | refine fp1 (.inl rfl) rfl rfl ?_ | refine fp2 (.inl rfl) rfl rfl rfl ?_ | refine fp3 (.inl rfl) rfl rfl rfl rfl ?_ | refine fp0 (.inr rfl) rfl ?_ | refine fp0 (.inl rfl) rfl ?_ | refine fp1 (.inr rfl) rfl rfl ?_)
    refine newB_own hf hb ho hf3 hel.symm (by decide) (by rw [hbe]; rfl)
  by_cases n2 : r < 2048
  · have e : encN r = [192 + r / 64, 128 + r % 64] := by rw [encN, if_neg (by omega), if_pos (by omega)]
    rw [e] at hbe hel hw
    replace hw : ∀ w, PureC Tryd.prog 70 #[i32 r] w (int 2) := hw
    refine wlpure (hw _) fun w2 hf2 => ?_
    replace hf := hf.trans hf2
    refine sgo ?_
    refine wlbs2 fun b w3 hb ho hf3 => ?_
    refine sgo ?_
    (first | refine fp1 (.inl rfl) rfl rfl ?_ | refine fp2 (.inl rfl) rfl rfl rfl ?_ | refine fp3 (.inl rfl) rfl rfl rfl rfl ?_ | refine fp0 (.inr rfl) rfl ?_ | refine fp0 (.inl rfl) rfl ?_ | refine fp1 (.inr rfl) rfl rfl ?_)
    refine newB_own hf hb ho hf3 hel.symm (by decide) (by rw [hbe]; rfl)
  by_cases n3 : r < 65536
  · have e : encN r = [224 + r / 4096, 128 + r / 64 % 64, 128 + r % 64] := by rw [encN, if_neg (by omega), if_neg (by omega), if_pos (by omega)]
    rw [e] at hbe hel hw
    replace hw : ∀ w, PureC Tryd.prog 70 #[i32 r] w (int 3) := hw
    refine wlpure (hw _) fun w2 hf2 => ?_
    replace hf := hf.trans hf2
    refine sgo ?_
    refine wlbs3 fun b w3 hb ho hf3 => ?_
    refine sgo ?_
    (first | refine fp1 (.inl rfl) rfl rfl ?_ | refine fp2 (.inl rfl) rfl rfl rfl ?_ | refine fp3 (.inl rfl) rfl rfl rfl rfl ?_ | refine fp0 (.inr rfl) rfl ?_ | refine fp0 (.inl rfl) rfl ?_ | refine fp1 (.inr rfl) rfl rfl ?_)
    refine newB_own hf hb ho hf3 hel.symm (by decide) (by rw [hbe]; rfl)
  · have e : encN r = [240 + r / 262144, 128 + r / 4096 % 64, 128 + r / 64 % 64, 128 + r % 64] := by rw [encN, if_neg (by omega), if_neg (by omega), if_neg (by omega)]
    rw [e] at hbe hel hw
    replace hw : ∀ w, PureC Tryd.prog 70 #[i32 r] w (int 4) := hw
    refine wlpure (hw _) fun w2 hf2 => ?_
    replace hf := hf.trans hf2
    refine sgo ?_
    refine wlbs4 fun b w3 hb ho hf3 => ?_
    refine sgo ?_
    (first | refine fp1 (.inl rfl) rfl rfl ?_ | refine fp2 (.inl rfl) rfl rfl rfl ?_ | refine fp3 (.inl rfl) rfl rfl rfl rfl ?_ | refine fp0 (.inr rfl) rfl ?_ | refine fp0 (.inl rfl) rfl ?_ | refine fp1 (.inr rfl) rfl rfl ?_)
    refine newB_own hf hb ho hf3 hel.symm (by decide) (by rw [hbe]; rfl)
end Go.Proofs.YtjpnhaaneaikbaaDoor

/-
  Package sieveref01: Bytes, Text, Runes, Mend.
-/
set_option linter.unusedSimpArgs false
set_option linter.unusedVariables false
set_option linter.unnecessarySimpa false
namespace Go.Proofs.YtjpnhaaneaikbaaDoor
open Go Go.Sv Go.RowKit

/-- runes as cells -/
def rs32 (rs : List Nat) : List Value := rs.map fun n : Nat => i32 n
theorem rs32_length (rs : List Nat) : (rs32 rs).length = rs.length := by simp [rs32]
theorem rs32_get {rs : List Nat} {i r : Nat} (h : rs[i]? = some r) : (rs32 rs)[i]? = some (i32 r) := by simp [rs32, h]
theorem bs_app (a b : List UInt8) : bs a ++ bs b = bs (a ++ b) := by simp [bs]
theorem one_bs (a : List UInt8) : ∀ u ∈ bs a, u.oneCell' = true := by
  intro u hu
  unfold bs at hu
  obtain ⟨c, _, rfl⟩ := List.mem_map.1 hu
  rfl
set_option maxHeartbeats 2000000 in
theorem refBytes_ok (rs : List Nat) (p : Option Addr) (c : Nat) (hb : rs.length ≤ 1073741824) (hg : ∀ r ∈ rs, Good r) (w : World) (hi : Im [] w p (rs32 rs)) :
    CallsR Tryd.prog 49 #[.slice p rs.length c] w (NewB w (rs.flatMap encR)) := by
  have hl32 := rs32_length rs
  refine enter (l := [.slice p rs.length c]) Tryd.func49 rfl Tryd.ntmps49 (by kernel_rfl) rfl ?_
  refine sgo ?_
  refine wcloop (X := Nat × Option Addr × Nat) (fun x => [(3, .slice x.2.1 ((rs.take x.1).flatMap encR).length x.2.2), (6, .slice p rs.length c), (7, int rs.length), (8, int x.1)])
    (fun x wr => x.1 ≤ rs.length ∧ Frm w wr ∧ Row wr 1 x.2.1 ((rs.take x.1).flatMap encR).length x.2.2 (bs ((rs.take x.1).flatMap encR)) ∧ ∀ b ∈ rb x.2.1, w.heap.size ≤ b)
    (fun x => rs.length - x.1) (0, none, 0) ⟨rfl, rfl, rfl, rfl, trivial⟩ ⟨by omega, Frm.refl _, Row.nil _ _, rb_nil _⟩ ?_
  rintro ⟨i, q, cc⟩ wr ρ ⟨hil, hfr, hR, hq⟩
  dsimp only at hil hR hq ⊢
  have hfl := encR_flat (rs.take i)
  have htl : (rs.take i).length ≤ rs.length := by simp; omega
  refine sgo ?_
  (show WC _ _ _ _ _ _ _; first | refine WC_dec rfl (fun hc => ?_) (fun hc => ?_) | refine WC_cond rfl (fun hc => ?_) (fun hc => ?_))
  · have hlt : i < rs.length := by omega
    have hx : rs[i]? = some rs[i] := List.getElem?_eq_getElem hlt
    have hgr := hg rs[i] (List.getElem_mem hlt)
    have htk : (rs.take (i + 1)).flatMap encR = (rs.take i).flatMap encR ++ encR rs[i] := by rw [List.take_add_one, hx, List.flatMap_append]; simp
    generalize rs[i] = r at *
    have hcell := rs32_get hx
    have hIr := hi.frm hfr
    have he4 := encR_len4 r
    generalize (rs.take i).flatMap encR = S at *
    refine sgo ?_
    refine wlcall (refBytesOf_ok r hgr _) ?_
    rintro v w1 ⟨hf1, q1, c1, rfl, hR1, hq1⟩
    have hfr1 := hfr.trans hf1
    refine wlapp (hR.frm hf1) hR1.sg (fun q' c' w2 hR2 hl2 => ?_) (hl := by simp) (h1 := one_bs _)
    rw [bs_app, ← List.length_append, ← htk] at hR2
    rw [← List.length_append, ← htk]
    refine sgo ?_
    refine ⟨(i + 1, q', c'), ⟨rfl, rfl, rfl, rfl, trivial⟩, ⟨by dsimp only; omega, ?_, hR2, ?_⟩, by dsimp only; omega⟩
    · exact hfr1.step hl2.1 hq
    · exact hl2.fresh hfr1 hq
  · rw [List.take_of_length_le (by omega)] at hR ⊢
    refine sgo ?_
    (first | refine fp1 (.inl rfl) rfl rfl ?_ | refine fp2 (.inl rfl) rfl rfl rfl ?_ | refine fp3 (.inl rfl) rfl rfl rfl rfl ?_ | refine fp0 (.inr rfl) rfl ?_ | refine fp0 (.inl rfl) rfl ?_ | refine fp1 (.inr rfl) rfl rfl ?_)
    exact ⟨hfr, q, cc, rfl, hR, hq⟩

theorem refText_ok (rs : List Nat) (p : Option Addr) (c : Nat) (hb : rs.length ≤ 1073741824) (hg : ∀ r ∈ rs, Good r) (w : World) (hi : Im [] w p (rs32 rs)) :
    PureC Tryd.prog 32 #[.slice p rs.length c] w (str (rs.flatMap encR)) := by
  refine enter (l := [.slice p rs.length c]) Tryd.func32 rfl Tryd.ntmps32 (by kernel_rfl) rfl ?_
  refine sgo ?_
  refine wlcall (refBytes_ok rs p c hb hg w hi) ?_
  rintro v w1 ⟨hf1, q1, c1, rfl, hR1, hq1⟩
  refine wl ?_ (y_b2s rfl hR1.sg)
  refine sgo ?_
  (first | refine fp1 (.inl rfl) rfl rfl ?_ | refine fp2 (.inl rfl) rfl rfl rfl ?_ | refine fp3 (.inl rfl) rfl rfl rfl rfl ?_ | refine fp0 (.inr rfl) rfl ?_ | refine fp0 (.inl rfl) rfl ?_ | refine fp1 (.inr rfl) rfl rfl ?_); refine ⟨?_, by (first | exact Frm.refl _ | assumption | exact Go.Sv.Sep.frm (by assumption) | (refine Frm.trans ?_ (by assumption); first | exact Frm.refl _ | assumption))⟩; (try simp only [realB, rv_true, Nat.reduceBEq, cond_true, cond_false, entG, real_lif, updGL])

/-- a new slice of runes -/
def NewR (w : World) (rs : List Nat) (v : Value) (w' : World) : Prop := Frm w w' ∧ ∃ q cc, v = .slice q rs.length cc ∧ Row w' 1 q rs.length cc (rs32 rs) ∧ ∀ x ∈ rb q, w.heap.size ≤ x
set_option maxHeartbeats 2000000 in
theorem refRunes_ok (l : List UInt8) (p : Option Addr) (n c : Nat) (hn : n = l.length) (hc : l.length ≤ c) (hb : l.length ≤ 1073741824) (w : World) (hi : Im [] w p (bs l)) :
    CallsR Tryd.prog 30 #[.slice p n c] w (NewR w (runesN l)) := by
  refine enter (l := [.slice p n c]) Tryd.func30 rfl Tryd.ntmps30 (by kernel_rfl) rfl ?_
  refine sgo ?_
  refine wlcall (pieces_ok l p n c hn hc hb w hi) ?_
  rintro v w1 ⟨hfr, q, cc, rfl, hR, hq⟩
  have hl := piecesF_len l.length 0 l
  change (piecesR l).length ≤ l.length at hl
  have hfl := flatMap_cells_len (piecesR l)
  have hpr := pieces_r l
  have hrl : (runesN l).length = (piecesR l).length := by simp [runesN]
  generalize runesN l = rs at *
  generalize hPs : piecesR l = Ps at *
  refine sgo ?_
  refine wcloop (X := Nat × Option Addr × Nat) (fun x => [(3, .slice x.2.1 x.1 x.2.2), (7, .slice q Ps.length cc), (8, int Ps.length), (9, int x.1)])
    (fun x wr => x.1 ≤ Ps.length ∧ Frm w1 wr ∧ Row wr 1 x.2.1 x.1 x.2.2 (rs32 (rs.take x.1)) ∧ ∀ b ∈ rb x.2.1, w1.heap.size ≤ b)
    (fun x => Ps.length - x.1) (0, none, 0) ⟨rfl, rfl, rfl, rfl, trivial⟩ ⟨by omega, Frm.refl _, Row.nil _ _, rb_nil _⟩ ?_
  rintro ⟨i, q2, c2⟩ wr ρ ⟨hil, hf2, hR2, hq2⟩
  dsimp only at hil hR2 hq2 ⊢
  refine sgo ?_
  (show WC _ _ _ _ _ _ _; first | refine WC_dec rfl (fun hc => ?_) (fun hc => ?_) | refine WC_cond rfl (fun hc => ?_) (fun hc => ?_))
  · have hlt : i < Ps.length := by omega
    have hSg := (hR.frm hf2).sg
    have hx : Ps[i]? = some Ps[i] := List.getElem?_eq_getElem hlt
    have hseg := flatMap_cells_seg Ps i _ hx
    have hri : rs[i]? = some rs[i] := List.getElem?_eq_getElem (by omega)
    have hrr : i32 Ps[i].r = i32 rs[i] := by
      have := congrArg (·[i]?) hpr
      simpa [hx, hri] using this
    have htk : rs32 (rs.take (i + 1)) = rs32 (rs.take i) ++ [i32 rs[i]] := by rw [List.take_add_one, hri]; unfold rs32; rw [List.map_append]; rfl
    generalize Ps[i] = x at *
    generalize rs[i] = r at *
    have hps : ∃ a, q = some a := hSg.some (by omega)
    refine sgo ?_
    refine wlalloc fun b w2 hb1 ho hf3 => ?_
    refine wlstorea0 (hv := by exact ⟨by rw [hseg]; rfl, rfl⟩) (h1 := by rw [hseg]; simp [Piece.cells, Value.oneCell']) ho fun w3 ho3 hl3 => ?_
    rw [hseg] at ho3
    simp only [Piece.cells] at ho3
    rw [hrr] at ho3
    have hb2 : w1.heap.size ≤ b := Nat.le_trans hf2.size hb1
    have hf4 := (hf2.trans hf3).step hl3 (by simpa using hb2)
    have hR3 := (hR2.frm hf3).le hl3 (by intro y hy hm; simp only [List.mem_singleton] at hm; subst hm; have := hR2.lt y hy; omega)
    clear hseg hSg ho
    refine sgo ?_
    refine wlb1_int fun b5 w5 hb5 ho5 hf5 => ?_
    refine wlapp (hR3.frm hf5) ho5.sg (fun q' c' w6 hR6 hl6 => ?_)
    rw [← htk] at hR6
    have hf6 := hf4.trans hf5
    refine sgo ?_
    exact ⟨(i + 1, q', c'), ⟨rfl, rfl, rfl, rfl, trivial⟩, ⟨by dsimp only; omega, hf6.step hl6.1 hq2, hR6, hl6.fresh hf6 hq2⟩, by dsimp only; omega⟩
  · have hii : i = Ps.length := by omega
    have htk : rs.take i = rs := List.take_of_length_le (by omega)
    rw [htk, show i = rs.length by omega] at hR2
    rw [show i = rs.length by omega]
    refine sgo ?_
    (first | refine fp1 (.inl rfl) rfl rfl ?_ | refine fp2 (.inl rfl) rfl rfl rfl ?_ | refine fp3 (.inl rfl) rfl rfl rfl rfl ?_ | refine fp0 (.inr rfl) rfl ?_ | refine fp0 (.inl rfl) rfl ?_ | refine fp1 (.inr rfl) rfl rfl ?_)
    exact ⟨hfr.trans hf2, q2, c2, rfl, hR2, fun x hx => Nat.le_trans hfr.size (hq2 x hx)⟩













end Go.Proofs.YtjpnhaaneaikbaaDoor

/-
  Loops over functions; calls of function values.
-/
set_option linter.unusedSimpArgs false
set_option linter.unusedVariables false
set_option linter.unnecessarySimpa false
namespace Go.Sv
open Go Go.RowKit

/-- a loop's record -/
def LoopAt (w : World) (l : Nat) (r : Loop) : Prop := w.heap[l]? = some (.loop r)
theorem LoopAt.lt {w : World} {l : Nat} {r : Loop} (h : LoopAt w l r) : l < w.heap.size := (Array.getElem?_eq_some_iff.1 h).1
theorem LoopAt.le {w w' : World} {M : List Nat} {l : Nat} {r : Loop} (h : LoopAt w l r) (hl : Le M w w') (hm : l ∉ M) : LoopAt w' l r := (hl.block l h.lt hm).trans h
theorem LoopAt.frm {w w' : World} {l : Nat} {r : Loop} (h : LoopAt w l r) (hl : Frm w w') : LoopAt w' l r := h.le (M := []) hl.le (by simp)
/-- the block of a loop's deferred calls: there are none -/
def NoDef (w : World) (D : Nat) : Prop := w.heap[D]? = some (.deferred (some []))
theorem NoDef.lt {w : World} {D : Nat} (h : NoDef w D) : D < w.heap.size := (Array.getElem?_eq_some_iff.1 h).1
theorem NoDef.le {w w' : World} {M : List Nat} {D : Nat} (h : NoDef w D) (hl : Le M w w') (hm : D ∉ M) : NoDef w' D := (hl.block D h.lt hm).trans h
theorem NoDef.frm {w w' : World} {D : Nat} (h : NoDef w D) (hl : Frm w w') : NoDef w' D := h.le (M := []) hl.le (by simp)
theorem le_putObj (w : World) (l : Nat) (o : Obj) : Le [l] w (w.putObj l o) := ⟨rfl, rfl, rfl, by simp, fun k _ hk => World.putObj_heap_other (by simpa using hk)⟩

/-- yield, called with 'args': it answers a bool, and R holds then -/
def Yld (P : Program) (l : Nat) (args : List Value) (w : World) (R : Bool → World → Prop) : Prop :=
  ∃ r, LoopAt w l r ∧ args.toArray.size = r.params.size ∧ RoundIn Fence.wide 0 P l r.fn ((r.params.zip args.toArray).foldl (fun tmps (t, a) => tmps.setIfInBounds t a) r.tmps) r.assign r.body w fun e w' => ∃ b, e = .returned (.bool b) ∧ R b w'
theorem Yld.mono {P : Program} {l : Nat} {args : List Value} {w : World} {R R' : Bool → World → Prop} (h : Yld P l args w R) (hr : ∀ b w', R b w' → R' b w') : Yld P l args w R' := by
  obtain ⟨r, h1, h2, h3⟩ := h
  exact ⟨r, h1, h2, h3.mono fun _ _ ⟨b, he, hb⟩ => ⟨b, he, hr _ _ hb⟩⟩

theorem roundIn_fen {ro : Option Nat} {m n : Nat} {P : Program} {l : Nat} {f : FuncId} {tmps : Array Value} {assign body : Code} {w : World} {R : Ending → World → Prop} (h : RoundIn Fence.wide m P l f tmps assign body w R) : RoundIn (fen ro) n P l f tmps assign body w R := by
  refine ⟨fen_fn ro f, fun c cs _ => ?_⟩
  obtain ⟨e, w', hR, hs⟩ := h.2 c cs (room_wide _)
  cases ro <;> exact ⟨e, w', hR, hs⟩

section
variable {P : Program} {n : Nat} {ds : Ctx} {ops : Array Oper} {Q : Exit → Ctx → Env → World → Prop} {rest : List Oper} {σ : GE} {w : World} {v : Value} {d : Nat} {ty : TypeId} {pos : String} {af : Array Edge} {l : Nat} {xs : List Operand} {ats : Array TypeId} {x : Operand}
theorem run_call_yield {σ : Env} {dd : Option Tmp} {g : Option (Nat × Bool)} {r : Loop} {args : List Value} (hx : evl σ x = .func (.yield l) #[] #[]) (ha : xs.map (evl σ) = args) (hl : LoopAt w l r) (hs : args.toArray.size = r.params.size) :
    (execOp (evl σ) ⟨dd, .call ⟨.value x, xs.toArray, ats⟩, ty, pos, af, g⟩).run P w = .ok (.round l r.fn ((r.params.zip args.toArray).foldl (fun tmps (t, a) => tmps.setIfInBounds t a) r.tmps) r.assign r.body) w := by
  subst ha
  simp only [execOp, resolve, hx, Deferred.ofValue]
  simp only [Sem.run_bind, Sem.run_pure, Result.andThen_ok, invoke]
  have := run_yield (P := P) hl hs
  simpa using this
/-- a call of yield -/
theorem wlyield {args : List Value} {R : Bool → World → Prop} (hy : Yld P l args w R) (h : ∀ b w', R b w' → WL P n ds ops Q rest (real (updG σ d ⟨.bool b, true⟩)) w')
    (hx : evl (real σ) x = .func (.yield l) #[] #[] := by rfl) (ha : xs.map (evl (real σ)) = args := by first | rfl | exact am1 rfl | exact am2 rfl rfl) :
    WL P n ds ops Q (⟨some d, .call ⟨.value x, xs.toArray, ats⟩, ty, pos, af, none⟩ :: rest) (real σ) w := by
  obtain ⟨r, h1, h2, h3⟩ := hy
  refine WL_upon (by simp [Region.wanted]) fun hin K hK _ => ?_
  have hd := operIn_dst hin
  rw [run_call_yield hx ha h1 h2, Oper.uponIn_round]
  refine ⟨fun hx => (by rw [fen_depth] at hx; cases hx), roundIn_fen (m := 0) (h3.mono ?_)⟩
  rintro e w' ⟨b, rfl, hb⟩
  show K _ _
  rw [act_put hd]
  have := h b w' hb
  rw [← real_upd] at this
  exact hK _ _ this
/-- a call of a function value -/
theorem run_call_fv {σ : Env} {dd : Option Tmp} {g : Option (Nat × Bool)} {f : FuncId} [hf : Fnc P f] {first cap args : List Value} (hx : evl σ x = .func (.func f) ⟨first⟩ ⟨cap⟩) (ha : xs.map (evl σ) = args) :
    (execOp (evl σ) ⟨dd, .call ⟨.value x, xs.toArray, ats⟩, ty, pos, af, g⟩).run P w = .ok (.enter f (first ++ args ++ cap).toArray) w := by
  subst ha
  simp only [execOp, resolve, hx, Deferred.ofValue]
  simp only [Sem.run_bind, Sem.run_pure, Result.andThen_ok, invoke]
  have := run_callFunc (P := P) (f := f) (first ++ xs.map (evl σ) ++ cap).toArray w
  simpa using this
theorem wlcallv {f : FuncId} [hf : Fnc P f] {first cap args : List Value} {R : Value → World → Prop} (hc : CallsR P f (first ++ args ++ cap).toArray w R) (h : ∀ v w', R v w' → WL P n ds ops Q rest (real (updG σ d ⟨v, true⟩)) w')
    (hx : evl (real σ) x = .func (.func f) ⟨first⟩ ⟨cap⟩ := by rfl) (ha : xs.map (evl (real σ)) = args := by first | rfl | exact am1 rfl | exact am2 rfl rfl) :
    WL P n ds ops Q (⟨some d, .call ⟨.value x, xs.toArray, ats⟩, ty, pos, af, none⟩ :: rest) (real σ) w :=
  WL_enter (S := fun _ _ => False) (by simp [Region.wanted]) (run_call_fv hx ha) (Calls.mono hc fun _ _ h => .inl h) (fun v w' hR => by have := h v w' hR; rw [← real_upd] at this; exact this) fun _ _ h => h.elim
end

/-! ## the statement -/
/-- what a round leaves of the record -/
def rndP (rec : LoopState → Option Code → Loop) (l : Nat) (R : Bool → World → Prop) : Exit → Ctx → Env → World → Prop
  | .normal, _, _, w => LoopAt w l (rec .busy none) ∧ ∀ w', Le [l] w w' → LoopAt w' l (rec .ready none) → R true w'
  | .ret, _, _, w => LoopAt w l (rec .busy none) ∧ ∀ w', Le [l] w w' → LoopAt w' l (rec .done (some .ret)) → R false w'
  | .exit id, _, _, w => LoopAt w l (rec .busy none) ∧ ∀ w', Le [l] w w' → LoopAt w' l (rec .done (some (.exit id))) → R false w'
  | _, _, _, _ => False
/-- what follows the loop, by what a round left it for -/
def aftP (P : Program) (Q : Exit → Ctx → Env → World → Prop) (c : Ctx) (σ : Env) (w : World) : Option Code → Prop
  | none => Q .normal c σ w
  | some .ret => Q .ret c σ w
  | some (.exit id) => Q (.exit id) c σ w
  | some _ => False
section
variable {P : Program} {n : Nat} {ds : Ctx} {Q : Exit → Ctx → Env → World → Prop} {σ : GE} {w : World} {l D : Nat} {assign body : Code} {ps : List Tmp}
/-- the frame's slots with yield's arguments -/
def updZ (σ : Env) : List Tmp → List Value → Env
  | p :: ps, v :: vs => updZ (upd σ p v) ps vs
  | _, _ => σ
theorem zip_put (dd : List Deferred) : ∀ (ps : List Tmp) (vs : List Value) (σ : Env), ps.all (fun t => Nat.blt t n) = true →
    (ps.toArray.zip vs.toArray).foldl (fun tmps (t, a) => tmps.setIfInBounds t a) (act n dd σ).tmps = (act n dd (updZ σ ps vs)).tmps := by
  intro ps vs σ h
  rw [← Array.foldl_toList]
  have e : (ps.toArray.zip vs.toArray).toList = ps.zip vs := by simp
  rw [e]
  clear e
  induction ps generalizing vs σ with
  | nil => simp [updZ]
  | cons p ps ih =>
    cases vs with
    | nil => simp [updZ]
    | cons v vs =>
      simp only [List.all_cons, Bool.and_eq_true] at h
      simp only [List.zip_cons_cons, List.foldl_cons, updZ]
      have := act_put (ds := dd) (σ := σ) (d := some p) (v := v) (n := n) h.1
      have e2 : (act n dd σ).tmps.setIfInBounds p v = (act n dd (upd σ p v)).tmps := congrArg Act.tmps this
      rw [e2]
      exact ih vs (upd σ p v) h.2
def updZG (σ : GE) : List Tmp → List Value → GE
  | p :: ps, v :: vs => updZG (updG σ p ⟨v, true⟩) ps vs
  | _, _ => σ
theorem updZ_real : ∀ (ps : List Tmp) (vs : List Value) (σ : GE), updZ (real σ) ps vs = real (updZG σ ps vs)
  | [], _, σ => by simp [updZ, updZG]
  | _ :: _, [], σ => by simp [updZ, updZG]
  | p :: ps, v :: vs, σ => by
    simp only [updZ, updZG]
    rw [show upd (real σ) p v = real (updG σ p ⟨v, true⟩) from real_upd σ p ⟨v, true⟩]
    exact updZ_real ps vs _

/-- what the record of a loop is, but for how it stands -/
def recOf (P : Program) (n : Nat) (fn : FuncId) (dd : List Deferred) (σ : GE) (ps : List Tmp) (assign body : Code) (D : Nat) (st : LoopState) (pe : Option Code) : Loop :=
  { state := st, pending := pe, fn, tmps := (act n dd (real σ)).tmps, params := ps.toArray, assign, body, defers := D }
/-- a round, out of its code -/
theorem yld_of {fn : FuncId} {dd : List Deferred} {args : List Value} {R : Bool → World → Prop} (hl : LoopAt w l (recOf P n fn dd σ ps assign body D .ready none)) (hlen : args.length = ps.length) (hin : (ps.all (fun t => Nat.blt t n) && codeIn n true assign && codeIn n true body) = true)
    (h : WC P n ⟨[], some l⟩ assign (fun e c σ' w1 => match e with | .normal => LoopAt w1 l (recOf P n fn dd σ ps assign body D .ready none) ∧ ∀ w2, Le [l] w1 w2 → LoopAt w2 l (recOf P n fn dd σ ps assign body D .busy none) → WC P n c body (rndP (recOf P n fn dd σ ps assign body D) l R) σ' w2 | _ => False) (real (updZG σ ps args)) w) :
    Yld P l args w R := by
  simp only [Bool.and_eq_true] at hin
  obtain ⟨⟨hin1, hin2⟩, hin3⟩ := hin
  refine ⟨_, hl, by simpa [recOf] using hlen, ?_⟩
  have ez := zip_put (n := n) dd ps args (real σ) hin1
  have e0 : (recOf P n fn dd σ ps assign body D .ready none).params = ps.toArray := rfl
  have e1 : (recOf P n fn dd σ ps assign body D .ready none).tmps = (act n dd (real σ)).tmps := rfl
  rw [e0, e1, ez, updZ_real]
  refine roundIn_of_wpIn (F := Fence.wide) (n := 0) trivial ?_
  unfold WC at h
  refine wpIn_mono (h hin2) ?_
  rintro e a1 w1 ⟨d1, σ1, rfl, hq⟩
  cases e <;> try exact hq.elim
  obtain ⟨hl1, hb⟩ := hq
  refine ⟨_, run_beginRound hl1 rfl, ?_⟩
  have hb2 := hb _ (le_putObj w1 l _) (World.putObj_heap_same hl1.lt)
  unfold WC at hb2
  refine wpIn_mono (hb2 hin3) ?_
  rintro e a2 w3 ⟨d2, σ2, rfl, hq⟩
  cases e with
  | normal => exact ⟨_, _, run_endRound none hq.1, _, rfl, hq.2 _ (le_putObj _ _ _) (World.putObj_heap_same hq.1.lt)⟩
  | ret => exact ⟨_, _, run_endRound (some .ret) hq.1, _, rfl, hq.2 _ (le_putObj _ _ _) (World.putObj_heap_same hq.1.lt)⟩
  | exit id => exact ⟨_, _, run_endRound (some (.exit id)) hq.1, _, rfl, hq.2 _ (le_putObj _ _ _) (World.putObj_heap_same hq.1.lt)⟩
  | goto t => exact hq.elim
  | panic ch => exact hq.elim
  | outgrown => exact hq.elim

/-- a loop over a function: an outermost one -/
theorem wcrangef {g : Operand} {gf : FuncId} [hf : Fnc P gf] {cap : List Value} (hg : evl (real σ) g = .func (.func gf) #[] ⟨cap⟩) (hro : ds.ro = none)
    (hcall : ∀ fn l D w1, w.heap.size ≤ D → w.heap.size ≤ l → l ≠ D → Frm w w1 → LoopAt w1 l (recOf P n fn ds.ds σ ps assign body D .ready none) → NoDef w1 D →
      CallsR P gf ((.func (.yield l) #[] #[]) :: cap).toArray w1 fun _ w2 => ∃ st pe, st ≠ .busy ∧ LoopAt w2 l (recOf P n fn ds.ds σ ps assign body D st pe) ∧
        ∀ w3, Le [l] w2 w3 → aftP P Q ⟨{ target := .collected D, args := #[] } :: ds.ds, none⟩ (real σ) w3 pe) :
    WC P n ds (.rangeFunc g ps.toArray assign body) Q (real σ) w := by
  obtain ⟨dd, ro⟩ := ds
  dsimp only at hro hcall
  subst hro
  unfold WC
  intro hin
  simp only [codeIn, Bool.and_eq_true] at hin
  have hgin := hin.1.1.1
  refine wpIn_rangeFunc ?_
  intro fn _
  let w1 := (w.alloc (.deferred (some []))).alloc (.loop (recOf P n fn dd σ ps assign body w.heap.size .ready none))
  have hL : LoopAt w1 (w.heap.size + 1) (recOf P n fn dd σ ps assign body w.heap.size .ready none) := by
    have := World.alloc_heap_new (w.alloc (.deferred (some []))) (.loop (recOf P n fn dd σ ps assign body w.heap.size .ready none))
    rw [World.size_alloc] at this
    exact this
  have hF : Frm w w1 := (frm_alloc w _).trans (frm_alloc _ _)
  have hD : NoDef w1 w.heap.size := by
    have h0 := World.alloc_heap_new w (.deferred (some []))
    exact (Below.heap_alloc (w.alloc (.deferred (some []))) _ w.heap.size (by simp)).trans h0
  have hc := hcall fn (w.heap.size + 1) w.heap.size w1 (Nat.le_refl _) (by omega) (by omega) hF hL hD
  refine ⟨w.heap.size + 1, [{ target := .collected w.heap.size, args := #[] }], w1, { target := .fn (.func gf) ⟨cap⟩, args := #[.func (.yield (w.heap.size + 1)) #[] #[]] }, w1, gf, ((.func (.yield (w.heap.size + 1)) #[] #[]) :: cap).toArray, w1, ?_, ?_, ?_, ?_, ?_, ?_⟩
  · exact run_enterLoop_outer fn _ _ _ _
  · have : (act n dd (real σ)).eval g = .func (.func gf) #[] ⟨cap⟩ := by rw [act_eval hgin, hg]
    simp only [resolve, this, Deferred.ofValue]
    simp [Act.eval]
  · intro f' _; trivial
  · have := run_callFunc (P := P) (f := gf) ((.func (.yield (w.heap.size + 1)) #[] #[]) :: cap).toArray w1
    simpa [invoke] using this
  · intro h; simp [fen, Fence.wide] at h
  · refine callsIn_wide.2 (Calls.mono hc ?_)
    rintro e w2 ⟨v, rfl, st, pe, hst, hl2, hq⟩
    refine ⟨pe, _, run_endLoop hl2 hst, ?_⟩
    have hq2 := hq _ (le_putObj w2 (w.heap.size + 1) (.loop { (recOf P n fn dd σ ps assign body w.heap.size st pe) with state := .exhausted }))
    cases pe with
    | none => exact ⟨_, _, rfl, hq2⟩
    | some c =>
      cases c <;> try exact hq2.elim
      · exact wpIn_exit ⟨_, _, rfl, hq2⟩
      · exact wpIn_ret ⟨_, _, rfl, hq2⟩
end
section
variable {P : Program} {Q : Exit → Ctx → Env → World → Prop} {c : Ctx} {σ : Env} {w : World} {rec : LoopState → Option Code → Loop} {l : Nat} {R : Bool → World → Prop} {i : Nat}
theorem rnd_normal (hl : LoopAt w l (rec .busy none)) (h : ∀ w', Le [l] w w' → LoopAt w' l (rec .ready none) → R true w') : rndP rec l R .normal c σ w := ⟨hl, h⟩
theorem aft_none (h : Q .normal c σ w) : aftP P Q c σ w none := h
end
attribute [irreducible] rndP aftP
end Go.Sv

/-
  Package utf: All, Runes.
-/
set_option linter.unusedSimpArgs false
set_option linter.unusedVariables false
set_option linter.unnecessarySimpa false
namespace Go.Proofs.YtjpnhaaneaikbaaDoor
open Go Go.Sv Go.RowKit

/-- what All answers -/
def AllV (w : World) (l : List UInt8) (v : Value) (w' : World) : Prop :=
  Frm w w' ∧ ∃ b q c, v = .func (.func 71) #[] #[ptrAt (pb b) 0] ∧ Own w' b [.slice q l.length c] ∧ Im [] w' q (bs l) ∧ l.length ≤ c ∧ w.heap.size ≤ b ∧ ∀ x ∈ rb q, w.heap.size ≤ x
theorem all_ok (l : List UInt8) (p : Option Addr) (n c : Nat) (hn : n = l.length) (hb : l.length ≤ 1073741824) (w : World) (hi : Im [] w p (bs l)) : CallsR Tryd.prog 61 #[.slice p n c] w (AllV w l) := by
  subst hn
  refine enter (l := [.slice p l.length c]) Tryd.func61 rfl Tryd.ntmps61 (by kernel_rfl) rfl ?_
  refine sgo ?_
  refine wlbox (v := .slice p l.length c) (hx := rfl) fun b w1 hb1 ho hf1 => ?_
  have ho1 : Own w1 b [.slice p l.length c] := ho
  refine sgo ?_
  refine wlapp (Row.nil w1 1) (hi.frm hf1).sg (fun q c2 w2 hR hl => ?_) (hl := by simp) (h1 := one_bs _)
  simp only [Nat.zero_add, List.nil_append] at hR ⊢
  have ho2 := ho1.le hl.1 (by simp [rb])
  have hq : ∀ x ∈ rb q, w1.heap.size ≤ x := fun x hx => by
    rcases Nat.lt_or_ge x w1.heap.size with h | h
    · have := hl.2 x hx h; simp [rb] at this
    · exact h
  have hbq : ∀ x ∈ rb q, x ∉ [b] := by
    intro x hx hm
    simp only [List.mem_singleton] at hm
    subst hm
    have := hq x hx
    have := ho1.lt
    omega
  refine wlst_slice ho2 fun w3 ho3 hl3 => ?_
  refine sgo ?_
  (first | refine fp1 (.inl rfl) rfl rfl ?_ | refine fp2 (.inl rfl) rfl rfl rfl ?_ | refine fp3 (.inl rfl) rfl rfl rfl rfl ?_ | refine fp0 (.inr rfl) rfl ?_ | refine fp0 (.inl rfl) rfl ?_ | refine fp1 (.inr rfl) rfl rfl ?_)
  have hf2 : Frm w w2 := hf1.step hl.1 (by simp [rb])
  refine ⟨hf2.step hl3 (by simpa using hb1), b, q, c2, ?_, ho3, (hR.le hl3 hbq).im (by simp), hR.le_cap.1, hb1, fun x hx => Nat.le_trans hf1.size (hq x hx)⟩
  rfl

set_option maxHeartbeats 1000000 in
/-- the iterator, over whatever a round does -/
theorem all1_ok (lr b : Nat) (l : List UInt8) (q : Option Addr) (c : Nat) (hc : l.length ≤ c) (hb : l.length ≤ 1073741824) (J Jx : Nat → World → Prop)
    (hres : ∀ i w, J i w → Own w b [.slice q l.length c] ∧ Im [] w q (bs l)) (hfr : ∀ i w w', J i w → Frm w w' → J i w')
    (hY : ∀ i w, J i w → i < l.length → Yld Tryd.prog lr [int i, i32 (pieceR (l.drop i)).1] w fun bb w' => if bb then J (i + (pieceR (l.drop i)).2.1) w' else Jx i w')
    (w : World) (h0 : J 0 w) :
    CallsR Tryd.prog 71 #[.func (.yield lr) #[] #[], ptrAt (pb b) 0] w fun _ w' => J l.length w' ∨ ∃ i, i < l.length ∧ Jx i w' := by
  refine enter (l := [.func (.yield lr) #[] #[], ptrAt (pb b) 0]) Tryd.func71 rfl Tryd.ntmps71 (by kernel_rfl) rfl ?_
  refine sgo ?_
  refine wcloop (X := Nat) (fun i => [(0, .func (.yield lr) #[] #[]), (1, ptrAt (pb b) 0), (3, int i)])
    (fun i wr => i ≤ l.length ∧ J i wr) (fun i => l.length - i) 0 ⟨rfl, rfl, rfl, trivial⟩ ⟨by omega, h0⟩ ?_
  rintro i wr ρ ⟨hil, hJ⟩
  obtain ⟨ho, hi⟩ := hres i wr hJ
  refine sgo ?_
  (show WC _ _ _ _ _ _ _; first | refine WC_dec rfl (fun hc => ?_) (fun hc => ?_) | refine WC_cond rfl (fun hc => ?_) (fun hc => ?_))
  · have hlt : i < l.length := by omega
    have hpr := pieceR_rng (l.drop i) (by simp; omega)
    have hrd := readS_piece (l.drop i) (by simp; omega)
    have hdl : (l.drop i).length = l.length - i := by simp
    have hp := hi.part1 (c := c) (i' := i) (by intro h; omega)
    rw [bs_drop] at hp
    have hy := fun w hJ => hY i w hJ hlt
    refine sgo ?_
    refine wlpure (read_any (l.drop i) _ _ _ (by simp) (by omega) (by omega) (by omega) [] _ hp) fun w1 hf1 => ?_
    have hJ1 := hfr _ _ _ hJ hf1
    rw [hrd]
    dsimp only
    generalize (pieceR (l.drop i)).1 = r at *
    generalize (pieceR (l.drop i)).2.1 = m at *
    refine sgo ?_
    refine wlyield (hy w1 hJ1) fun bb w2 h2 => ?_
    cases bb
    · refine sgo ?_
      (first | refine fp1 (.inl rfl) rfl rfl ?_ | refine fp2 (.inl rfl) rfl rfl rfl ?_ | refine fp3 (.inl rfl) rfl rfl rfl rfl ?_ | refine fp0 (.inr rfl) rfl ?_ | refine fp0 (.inl rfl) rfl ?_ | refine fp1 (.inr rfl) rfl rfl ?_)
      exact .inr ⟨i, hlt, h2⟩
    · refine sgo ?_
      exact ⟨i + m, ⟨rfl, rfl, rfl, trivial⟩, ⟨by omega, h2⟩, by omega⟩
  · refine sgo ?_
    (first | refine fp1 (.inl rfl) rfl rfl ?_ | refine fp2 (.inl rfl) rfl rfl rfl ?_ | refine fp3 (.inl rfl) rfl rfl rfl rfl ?_ | refine fp0 (.inr rfl) rfl ?_ | refine fp0 (.inl rfl) rfl ?_ | refine fp1 (.inr rfl) rfl rfl ?_)
    rw [show i = l.length by omega] at hJ
    exact .inl hJ
end Go.Proofs.YtjpnhaaneaikbaaDoor

/-
  Ranges over strings; an array's elements.
-/
set_option linter.unusedSimpArgs false
set_option linter.unusedVariables false
set_option linter.unnecessarySimpa false
namespace Go.Sv
open Go Go.RowKit
/-- an iterator over l, at i -/
def It (w : World) (r : Nat) (l : List UInt8) (i : Nat) : Prop := w.heap[r]? = some (.stringIter ⟨l.toArray⟩ i)
section
variable {w w' : World} {r i b : Nat} {l : List UInt8} {M : List Nat} {T E : TypeId} {q : Option Addr} {s : List UInt8}
theorem It.lt (h : It w r l i) : r < w.heap.size := (Array.getElem?_eq_some_iff.1 h).1
theorem It.le (h : It w r l i) (hl : Le M w w') (hm : r ∉ M) : It w' r l i := (hl.block r h.lt hm).trans h
theorem It.frm (h : It w r l i) (hl : Frm w w') : It w' r l i := h.le (M := []) hl.le (by simp)
end
section
variable {P : Program} {n : Nat} {ds : Ctx} {ops : Array Oper} {Q : Exit → Ctx → Env → World → Prop} {rest : List Oper} {σ : GE} {w : World} {d : Nat} {ty t e : TypeId} {pos : String} {af : Array Edge} {x y : Operand} {l : List UInt8} {r i : Nat}
theorem wlallocT {zv : Value} {size bytes : Nat} [hi : Inf P e zv size bytes] (h : ∀ b w', w.heap.size ≤ b → w'.heap[b]? = some (.cells zv.cells e (0, 0)) → Frm w w' → WL P n ds ops Q rest (real (updG σ d ⟨ptrAt (pb b) 0, true⟩)) w') :
    WL P n ds ops Q (⟨some d, .alloc e, ty, pos, af, none⟩ :: rest) (real σ) w := by
  refine wl (h w.heap.size (w.alloc (.cells zv.cells e)) (Nat.le_refl _) (heap_alloc_new w _) (frm_alloc _ _)) ?_
  refine Y.val ?_
  simp [execOp, Instr.alloc, run_zeroValue (P := P) (t := e), newVar, newRow]
  rfl
theorem wlrange [hu : Und P t .string] (h : ∀ r w', w.heap.size ≤ r → It w' r l 0 → Frm w w' → WL P n ds ops Q rest (real (updG σ d ⟨.pointer (pb r), true⟩)) w') (hx : evl (real σ) x = str l := by rfl) :
    WL P n ds ops Q (⟨some d, .range t x, ty, pos, af, none⟩ :: rest) (real σ) w := by
  refine wl (h w.heap.size (w.alloc (.stringIter ⟨l.toArray⟩ 0)) (Nat.le_refl _) (heap_alloc_new w _) (frm_alloc _ _)) (Y.val ?_)
  simp only [execOp, hx, Instr.range, Sem.run_bind, underlying, run_program, Result.andThen_ok, hu.ok, Sem.run_pure]
  rfl
theorem run_getObj_it (h : It w r l i) : (getObj r).run P w = .ok (.stringIter ⟨l.toArray⟩ i) w := by
  have h : w.heap[r]? = _ := h
  simp [getObj, Sem.run, h]
theorem wlnext_yes (ht : It w r l i) (hi : i < l.length) (h : ∀ w', It w' r l (i + (Utf8.decode ⟨l.toArray⟩ i).2) → Le [r] w w' → WL P n ds ops Q rest (real (updG σ d ⟨.tuple #[.bool true, int i, i32 (Utf8.decode ⟨l.toArray⟩ i).1], true⟩)) w')
    (hx : evl (real σ) x = .pointer (pb r) := by rfl) :
    WL P n ds ops Q (⟨some d, .next x true, ty, pos, af, none⟩ :: rest) (real σ) w := by
  have hg := run_getObj_it (P := P) ht
  have ht : w.heap[r]? = _ := ht
  have hs := MapKept.heap_set (o' := .stringIter ⟨l.toArray⟩ (i + (Utf8.decode ⟨l.toArray⟩ i).2)) ht
  have hset : (setObj r (.stringIter ⟨l.toArray⟩ (i + (Utf8.decode ⟨l.toArray⟩ i).2))).run P w = .ok () { w with heap := w.heap.setIfInBounds r (.stringIter ⟨l.toArray⟩ (i + (Utf8.decode ⟨l.toArray⟩ i).2)) } := by
    simp [setObj, Sem.run, ht]
  refine wl (h { w with heap := w.heap.setIfInBounds r (.stringIter ⟨l.toArray⟩ (i + (Utf8.decode ⟨l.toArray⟩ i).2)) } hs.1 ⟨rfl, rfl, rfl, by simp, fun k _ hk => hs.2 k (by simpa using hk)⟩) (Y.val ?_)
  simp only [execOp, hx, Instr.next, Sem.run_bind, hg, Result.andThen_ok]
  rw [if_pos (by simpa [ByteArray.size] using hi)]
  simp only [Sem.run_bind, hset, Result.andThen_ok, Sem.run_pure]
  rfl
theorem wlnext_no (ht : It w r l i) (hi : l.length ≤ i) (h : WL P n ds ops Q rest (real (updG σ d ⟨.tuple #[.bool false], true⟩)) w)
    (hx : evl (real σ) x = .pointer (pb r) := by rfl) :
    WL P n ds ops Q (⟨some d, .next x true, ty, pos, af, none⟩ :: rest) (real σ) w := by
  have hg := run_getObj_it (P := P) ht
  refine wl h (Y.val ?_)
  simp only [execOp, hx, Instr.next, Sem.run_bind, hg, Result.andThen_ok]
  rw [if_neg (by simp [ByteArray.size]; omega)]
  simp only [Sem.run_bind, Result.andThen_ok, Sem.run_pure]
end
end Go.Sv

/-
  Package utf: Runes, Mend.
-/
set_option linter.unusedSimpArgs false
set_option linter.unusedVariables false
set_option linter.unnecessarySimpa false
namespace Go.Proofs.YtjpnhaaneaikbaaDoor
open Go Go.Sv Go.RowKit

theorem Im.only {w : World} {p : Option Addr} {l : List Value} {M : List Nat} (h : Im [] w p l) (hM : ∀ b ∈ rb p, b < w.heap.size → b ∉ M) : Im M w p l := by
  rcases h with h | ⟨a, rfl, h1, h2, _⟩
  · exact .inl h
  · exact .inr ⟨a, rfl, h1, h2, hM _ (by simp [rb]) h2⟩

set_option maxHeartbeats 2000000 in
theorem runes_ok (l : List UInt8) (p : Option Addr) (n c : Nat) (hn : n = l.length) (hb : l.length ≤ 1073741824) (w : World) (hi : Im [] w p (bs l)) : CallsR Tryd.prog 50 #[.slice p n c] w (NewR w (runesN l)) := by
  refine enter (l := [.slice p n c]) Tryd.func50 rfl Tryd.ntmps50 (by kernel_rfl) rfl ?_
  refine sgo ?_
  refine wlalloc fun b3 w1 hb3 ho3 hf1 => ?_
  have hb31 := ho3.lt
  refine sgo ?_
  refine wlcall (all_ok l p n c hn hb w1 (hi.frm hf1)) ?_
  rintro v w2 ⟨hf2, b, q, c2, rfl, ho, hI, hc2, hbb, hqq⟩
  replace ho3 := ho3.frm hf2
  have hfw := hf1.trans hf2
  have hb32 := ho3.lt
  have hb2 := ho.lt
  refine sgo ?_
  refine wcrangef (cap := [ptrAt (pb b) 0]) rfl rfl ?_
  intro fn lr D w3 hD hlr hne hf3 hL hN
  replace ho3 := ho3.frm hf3
  replace ho := ho.frm hf3
  have hI2 : Im [b3, lr] w2 q (bs l) := Im.only hI (by
    intro x hx hlt hm
    have := hqq x hx
    rcases List.mem_cons.1 hm with rfl | hm
    · omega
    · simp only [List.mem_singleton] at hm; omega)
  replace hI := hI2.frm hf3
  have hfw3 := hfw.trans hf3
  have hlr3 := hL.lt
  have hD3 := hN.lt
  have hs23 := hf3.size
  refine CallsR.mono (all1_ok lr b l q c2 hc2 hb
    (fun i w' => i ≤ l.length ∧ ∃ rs q3 c3, runesN l = rs ++ runesN (l.drop i) ∧ Le [b3, lr] w3 w' ∧ Own w' b3 [.slice q3 rs.length c3] ∧ Row w' 1 q3 rs.length c3 (rs32 rs) ∧ (∀ x ∈ rb q3, w3.heap.size ≤ x) ∧ w'.heap[lr]? = w3.heap[lr]?)
    (fun _ _ => False) ?_ ?_ ?_ w3 ⟨by omega, [], none, 0, by simp, Le.refl _ _, ho3, Row.nil _ _, rb_nil _, rfl⟩) ?_
  · rintro i w' ⟨_, rs, q3, c3, _, hle, _⟩
    refine ⟨ho.le hle ?_, (hI.le hle).weak (by simp)⟩
    intro hm
    rcases List.mem_cons.1 hm with rfl | hm
    · omega
    · simp only [List.mem_singleton] at hm; omega
  · rintro i w' w'' ⟨h1, rs, q3, c3, h2, h3, h4, h5, h6, h7⟩ hf
    exact ⟨h1, rs, q3, c3, h2, h3.trans hf.le, h4.frm hf, h5.frm hf, h6, (hf.block lr (Nat.lt_of_lt_of_le hlr3 h3.size)).trans h7⟩
  · rintro i w' ⟨h1, rs, q3, c3, h2, h3, h4, h5, h6, h7⟩ hlt
    have hLw := h7.trans hL
    have hpos : 0 < (l.drop i).length := by simp; omega
    obtain ⟨r, hr, hg⟩ := pieceR_good (l.drop i) hpos
    have hrc := runesN_cons (l.drop i) hpos
    rw [List.drop_drop] at hrc
    have hpr := pieceR_rng (l.drop i) hpos
    have hdl : (l.drop i).length = l.length - i := by simp
    rw [hr] at hrc ⊢
    rw [Int.toNat_natCast] at hrc
    generalize (pieceR (l.drop i)).2.1 = m at *
    have hrl := runesN_len l
    have hrs : rs.length ≤ 1073741824 := by rw [h2, List.length_append] at hrl; omega
    have h3s := h3.size
    refine yld_of hLw rfl (by kernel_rfl) ?_
    refine sgo ?_
    refine ⟨hLw, fun w5 hl5 hL5 => ?_⟩
    have ho5 := h4.le hl5 (by simp; omega)
    have hR5 := h5.le hl5 (by intro x hx hm; simp only [List.mem_singleton] at hm; subst hm; have := h6 x hx; omega)
    refine sgo ?_
    refine wlb1_int fun b6 w6 hb6 ho6 hf6 => ?_
    refine wlapp (hR5.frm hf6) ho6.sg (fun q' c' w7 hR7 hl7 => ?_)
    have ho7 := (ho5.frm hf6).le hl7.1 (by intro hm; have := h6 _ hm; omega)
    have hL7 : LoopAt w7 lr _ := (hL5.frm hf6).le hl7.1 (by intro hm; have := h6 _ hm; omega)
    have hq7 : ∀ x ∈ rb q', w3.heap.size ≤ x := by
      intro x hx
      rcases Nat.lt_or_ge x w6.heap.size with h | h
      · exact h6 x (hl7.2 x hx h)
      · have := hf6.size; have := hl5.size; omega
    refine wlst_slice ho7 fun w8 ho8 hl8 => ?_
    have hR8 := hR7.le hl8 (by intro x hx hm; simp only [List.mem_singleton] at hm; subst hm; have := hq7 x hx; omega)
    have hL8 := hL7.le hl8 (by simp; omega)
    refine sgo ?_
    refine rnd_normal hL8 fun w9 hl9 hL9 => ?_
    have e1 : rs32 rs ++ [i32 r] = rs32 (rs ++ [r]) := by simp [rs32]
    have e2 : rs.length + 1 = (rs ++ [r]).length := by simp
    rw [e1, e2] at hR8
    have hle9 : Le [b3, lr] w3 w9 := by
      refine ⟨hl9.os.trans (hl8.os.trans (hl7.1.os.trans (hf6.os.trans (hl5.os.trans h3.os)))), hl9.tape.trans (hl8.tape.trans (hl7.1.tape.trans (hf6.tape.trans (hl5.tape.trans h3.tape)))), hl9.output.trans (hl8.output.trans (hl7.1.output.trans (hf6.output.trans (hl5.output.trans h3.output)))), ?_, fun k hk hm => ?_⟩
      · have := hl9.size; have := hl8.size; have := hl7.1.size; have := hf6.size; have := hl5.size; omega
      · have a3 := h3.block k hk hm
        simp only [List.mem_cons, List.not_mem_nil, or_false, not_or] at hm
        have a5 := hl5.block k (by omega) (by simpa using hm.2)
        have s5 := hl5.size
        have a6 := hf6.block k (by omega)
        have s6 := hf6.size
        have a7 := hl7.1.block k (by omega) (by intro h; have := h6 k h; omega)
        have s7 := hl7.1.size
        have a8 := hl8.block k (by omega) (by simpa using hm.1)
        have s8 := hl8.size
        have a9 := hl9.block k (by omega) (by simpa using hm.2)
        rw [a9, a8, a7, a6, a5, a3]
    refine ⟨by omega, rs ++ [r], q', c', by rw [h2, hrc]; simp, hle9, ?_, hR8.le hl9 (by intro x hx hm; simp only [List.mem_singleton] at hm; subst hm; have := hq7 x hx; omega), hq7, ?_⟩
    · rw [← e2]
      exact ho8.le hl9 (by simp; omega)
    · exact hL9.trans hL.symm
  · rintro v w4 hor
    obtain ⟨_, rs, q3, c3, h2, h3, h4, h5, h6, h7⟩ := hor.resolve_right fun ⟨_, _, h⟩ => h
    rw [List.drop_length, runesN_nil, List.append_nil] at h2
    refine ⟨.ready, none, by simp, h7.trans hL, fun w5 hl5 => aft_none ?_⟩
    have ho5 := h4.le hl5 (by simp; omega)
    have hR5 := h5.le hl5 (by intro x hx hm; simp only [List.mem_singleton] at hm; subst hm; have := h6 x hx; omega)
    have hN5 := (hN.le h3 (by simp; omega)).le hl5 (by simp; omega)
    refine sgo ?_
    refine fp_mark (.inl rfl) hN5 ?_
    (first | refine fp1 (.inl rfl) rfl rfl ?_ | refine fp2 (.inl rfl) rfl rfl rfl ?_ | refine fp3 (.inl rfl) rfl rfl rfl rfl ?_ | refine fp0 (.inr rfl) rfl ?_ | refine fp0 (.inl rfl) rfl ?_ | refine fp1 (.inr rfl) rfl rfl ?_)
    have hlD := le_putObj w5 D (.deferred none)
    have hfw4 := hfw3.step h3 (by intro x hx; simp only [List.mem_cons, List.not_mem_nil, or_false] at hx; have := hfw.size; omega)
    have hfw5 := hfw4.step hl5 (by intro x hx; simp only [List.mem_singleton] at hx; have := hfw.size; omega)
    refine ⟨hfw5.step hlD (by intro x hx; simp only [List.mem_singleton] at hx; have := hfw.size; omega), q3, c3, ?_, ?_, fun x hx => Nat.le_trans hfw3.size (h6 x hx)⟩
    · rw [h2]; rfl
    · rw [h2]
      exact hR5.le hlD (by intro x hx hm; simp only [List.mem_singleton] at hm; subst hm; have := h6 x hx; omega)
end Go.Proofs.YtjpnhaaneaikbaaDoor

/-
  Package utf: Mend.
-/
set_option linter.unusedSimpArgs false
set_option linter.unusedVariables false
set_option linter.unnecessarySimpa false
namespace Go.Proofs.YtjpnhaaneaikbaaDoor
open Go Go.Sv Go.RowKit

theorem sec_true (c d : Nat) (h : 128 ≤ d ∧ d ≤ 191 ∧ (c = 224 → 160 ≤ d) ∧ (c = 237 → d ≤ 159) ∧ (c = 240 → 144 ≤ d) ∧ (c = 244 → d ≤ 143)) : secondR c d = true := by
  unfold secondR
  repeat' split
  all_goals simp only [Bool.and_eq_true, decide_eq_true_eq]
  all_goals omega
theorem right1 (l : List UInt8) (h : at0 l 0 < 128) : (pieceR l).2.2 = true := by
  have hs : sizeR (at0 l 0) = 1 := by unfold sizeR; rw [if_pos (by omega)]
  show (goodR l).2 = true
  simp [goodR, hs, goodF]
theorem right2 (l : List UInt8) (hl : 1 < l.length) (h : 194 ≤ at0 l 0 ∧ at0 l 0 ≤ 223 ∧ 128 ≤ at0 l 1 ∧ at0 l 1 ≤ 191) : (pieceR l).2.2 = true := by
  have hs : sizeR (at0 l 0) = 2 := by unfold sizeR; rw [if_neg (by omega), if_pos (by omega)]
  have h2 := sec_true (at0 l 0) (at0 l 1) (by omega)
  show (goodR l).2 = true
  simp [goodR, hs, goodF, hl, h2]
theorem right3 (l : List UInt8) (hl : 2 < l.length) (h : 224 ≤ at0 l 0 ∧ at0 l 0 ≤ 239 ∧ 128 ≤ at0 l 1 ∧ at0 l 1 ≤ 191 ∧ (at0 l 0 = 224 → 160 ≤ at0 l 1) ∧ (at0 l 0 = 237 → at0 l 1 ≤ 159) ∧ 128 ≤ at0 l 2 ∧ at0 l 2 ≤ 191) : (pieceR l).2.2 = true := by
  have hs : sizeR (at0 l 0) = 3 := by unfold sizeR; rw [if_neg (by omega), if_neg (by omega), if_pos (by omega)]
  have h2 := sec_true (at0 l 0) (at0 l 1) (by omega)
  have h3 : ¬ (at0 l 2 < 128 ∨ 191 < at0 l 2) := by omega
  show (goodR l).2 = true
  simp [goodR, hs, goodF, hl, h2, h3, show 1 < l.length by omega]
  try omega
theorem right4 (l : List UInt8) (hl : 3 < l.length) (h : 240 ≤ at0 l 0 ∧ at0 l 0 ≤ 244 ∧ 128 ≤ at0 l 1 ∧ at0 l 1 ≤ 191 ∧ (at0 l 0 = 240 → 144 ≤ at0 l 1) ∧ (at0 l 0 = 244 → at0 l 1 ≤ 143) ∧ 128 ≤ at0 l 2 ∧ at0 l 2 ≤ 191 ∧ 128 ≤ at0 l 3 ∧ at0 l 3 ≤ 191) : (pieceR l).2.2 = true := by
  have hs : sizeR (at0 l 0) = 4 := by unfold sizeR; rw [if_neg (by omega), if_neg (by omega), if_neg (by omega), if_pos (by omega)]
  have h2 := sec_true (at0 l 0) (at0 l 1) (by omega)
  have h3 : ¬ (at0 l 2 < 128 ∨ 191 < at0 l 2) := by omega
  have h4 : ¬ (at0 l 3 < 128 ∨ 191 < at0 l 3) := by omega
  show (goodR l).2 = true
  simp [goodR, hs, goodF, hl, h2, h3, h4, show 1 < l.length by omega, show 2 < l.length by omega]
  try omega
theorem decode_wrong (l : List UInt8) (i : Nat) (hw : (pieceR (l.drop i)).2.2 = false) : Utf8.decode ⟨l.toArray⟩ i = (65533, 1) := by
  have hd : ∀ k, (k < (l.drop i).length) = (i + k < l.length) := fun k => by simp; omega
  have no : ∀ {p : Prop}, (p → (pieceR (l.drop i)).2.2 = true) → ¬ p := fun h hp => by rw [h hp] at hw; cases hw
  have r1 := no (right1 (l.drop i))
  have r2 := no (fun h : _ ∧ _ => right2 (l.drop i) h.1 h.2)
  have r3 := no (fun h : _ ∧ _ => right3 (l.drop i) h.1 h.2)
  have r4 := no (fun h : _ ∧ _ => right4 (l.drop i) h.1 h.2)
  rw [hd] at r2 r3 r4
  unfold Utf8.decode
  simp only [get_at0, size_str]
  have hb0 := at0_lt (l.drop i) 0
  have hb1 := at0_lt (l.drop i) 1
  have hb2 := at0_lt (l.drop i) 2
  have hb3 := at0_lt (l.drop i) 3
  clear hd no hw
  generalize at0 (l.drop i) 0 = b0 at *
  generalize at0 (l.drop i) 1 = b1 at *
  generalize at0 (l.drop i) 2 = b2 at *
  generalize at0 (l.drop i) 3 = b3 at *
  rw [if_neg r1]
  split
  · rename_i h
    simp only [Bool.and_eq_true, beq_iff_eq, decide_eq_true_eq] at h
    rw [if_neg (by omega)]; rfl
  split
  · rename_i h
    simp only [Bool.and_eq_true, beq_iff_eq, decide_eq_true_eq] at h
    rw [if_neg]
    · rfl
    · simp only [Utf8.valid, Bool.and_eq_true, Bool.or_eq_true, decide_eq_true_eq]
      omega
  split
  · rename_i h
    simp only [Bool.and_eq_true, beq_iff_eq, decide_eq_true_eq] at h
    rw [if_neg]
    · rfl
    · simp only [Utf8.valid, Bool.and_eq_true, Bool.or_eq_true, decide_eq_true_eq]
      omega
  · rfl
theorem valid_back (l : List UInt8) (h0 : 0 < l.length) (hr : (pieceR l).2.2 = true) (h : validR (l.drop (pieceR l).2.1) = true) : validR l = true := by
  have hp := readS_piece l h0
  have hv := validS_cons l h0
  have hw := (whatR_zero l).2 hr
  rw [valid_eq, valid_eq, hp] at hv
  dsimp only at hv
  rw [if_neg (by simpa using hw)] at hv
  rw [hv]; exact h
/-- the bytes of U+FFFD are right -/
theorem fffd_right (l : List UInt8) (h : l.take 3 = [239, 191, 189]) : (pieceR l).2.2 = true := by
  match l, h with
  | a :: b :: c :: l', h =>
    simp only [List.take_succ_cons, List.take_zero, List.cons.injEq, and_true] at h
    obtain ⟨rfl, rfl, rfl⟩ := h
    have e0 : at0 (239 :: 191 :: 189 :: l') 0 = 239 := rfl
    have e1 : at0 (239 :: 191 :: 189 :: l') 1 = 191 := rfl
    have e2 : at0 (239 :: 191 :: 189 :: l') 2 = 189 := rfl
    exact right3 _ (by simp) (by omega)

/-! ## runes and texts -/
theorem encode_good {r : Nat} (hg : Good r) : Utf8.encode (r : Int) = ⟨(encR r).toArray⟩ := by
  have hv : Utf8.valid (r : Int) = true := by
    unfold Good at hg
    simp only [Utf8.valid, Bool.and_eq_true, Bool.or_eq_true, decide_eq_true_eq]
    omega
  unfold Utf8.encode
  rw [if_pos hv]
  simp only [Int.toNat_natCast]
  unfold encR encN
  split
  · rfl
  · split
    · rfl
    · split
      · rfl
      · rfl
theorem runesBytes_good : ∀ (rs : List Nat) (acc : List UInt8), (∀ r ∈ rs, Good r) → (rs.map fun n : Nat => (n : Int)).foldl (fun r n => r ++ Utf8.encode n) ⟨acc.toArray⟩ = ⟨(acc ++ rs.flatMap encR).toArray⟩
  | [], acc, _ => by simp
  | r :: rs, acc, h => by
    simp only [List.map_cons, List.foldl_cons, List.flatMap_cons]
    rw [encode_good (h r List.mem_cons_self)]
    have e : (ByteArray.mk acc.toArray ++ ByteArray.mk (encR r).toArray) = ⟨(acc ++ encR r).toArray⟩ := by
      apply ByteArray.ext
      simp
    rw [e, runesBytes_good rs (acc ++ encR r) fun x hx => h x (List.mem_cons_of_mem _ hx), List.append_assoc]
section
variable {P : Program} {w : World} {ty t t' e : TypeId} {pos : String} {af : Array Edge} {x : Operand} {p : Option Addr} {c : Nat}
theorem y_r2s {σ : Env} {d : Option Tmp} {g : Option (Nat × Bool)} {rs : List Nat} [hu : Und P t (.slice e)] [hu' : Und P t' .string] [he : Und P e (.int .i32)] (hg : ∀ r ∈ rs, Good r) (hs : Sg w p (rs32 rs)) (hx : evl σ x = .slice p rs.length c) :
    Y P σ ⟨d, .convert t t' x, ty, pos, af, g⟩ w (str (rs.flatMap encR)) w := by
  refine Y.val ?_
  simp only [execOp, hx]
  rw [Sem.run_bind]
  have e0 : (ByteArray.empty : ByteArray) = ⟨([] : List UInt8).toArray⟩ := rfl
  rcases hs with h0 | ⟨a, rfl, h1⟩
  · have hs0 : rs = [] := by simpa [rs32] using h0
    subst hs0
    cases p with
    | none => rw [run_convert_runes_nil w t t' e _ _ hu.ok he.ok hu'.ok]; rfl
    | some a =>
      rw [run_convert_runes w t t' e a _ _ [] (by simp) hu.ok he.ok hu'.ok (by simp)]
      rfl
  · have hc := run_convert_runes (P := P) w t t' e a rs.length c (rs.map fun n : Nat => (n : Int)) (by simp) hu.ok he.ok hu'.ok (fun j hj => by
      have hj' : j < rs.length := by simpa using hj
      rw [h1 j (by simpa [rs32] using hj')]
      simp [rs32, hj', List.getD])
    rw [hc]
    have e1 : (rs.map fun n : Nat => (n : Int)).take rs.length = rs.map fun n : Nat => (n : Int) := List.take_of_length_le (by simp)
    rw [e1]
    have := runesBytes_good rs [] hg
    unfold runesBytes
    rw [e0, this]
    rfl
end
/-- the runes of a right text, as the language has them -/
theorem runesFrom_valid (l : List UInt8) : ∀ (k i : Nat) (acc : Array Value), l.length ≤ i + k → i ≤ l.length → validR (l.drop i) = true → Conv.runesFrom ⟨l.toArray⟩ k i acc = acc ++ (rs32 (runesN (l.drop i))).toArray
  | 0, i, acc, h1, h2, _ => by
    have : l.drop i = [] := List.drop_eq_nil_of_le (by omega)
    rw [this]
    simp [Conv.runesFrom, runesN_nil, rs32]
  | k + 1, i, acc, h1, h2, hv => by
    unfold Conv.runesFrom
    rw [size_str]
    by_cases hi : i < l.length
    · have hpos : 0 < (l.drop i).length := by simp; omega
      obtain ⟨hr, hv2⟩ := valid_step (l.drop i) hpos hv
      have hpr := pieceR_rng (l.drop i) hpos
      have hdl : (l.drop i).length = l.length - i := by simp
      rw [if_pos hi]
      simp only [decode_right l i hr]
      rw [List.drop_drop] at hv2
      rw [runesFrom_valid l k _ _ (by omega) (by omega) hv2, runesN_cons (l.drop i) hpos, List.drop_drop]
      simp [rs32]
    · have : l.drop i = [] := List.drop_eq_nil_of_le (by omega)
      rw [if_neg hi, this]
      simp [runesN_nil, rs32]
section
variable {P : Program} {n : Nat} {ds : Ctx} {ops : Array Oper} {Q : Exit → Ctx → Env → World → Prop} {rest : List Oper} {σ : GE} {w : World} {d : Nat} {ty t t' e : TypeId} {pos : String} {af : Array Edge} {x : Operand}
/-- []rune(s), of a right text -/
theorem wls2r [hu : Und P t .string] [hu' : Und P t' (.slice e)] [he : Und P e (.int .i32)] {s : List UInt8} (hv : validR s = true) (hs : s.length ≤ 4611686018427387904)
    (h : ∀ b c w', w.heap.size ≤ b → Row w' 1 (pb b) (runesN s).length c (rs32 (runesN s)) → Frm w w' → WL P n ds ops Q rest (real (updG σ d ⟨.slice (pb b) (runesN s).length c, true⟩)) w') (hx : evl (real σ) x = str s := by rfl) :
    WL P n ds ops Q (⟨some d, .convert t t' x, ty, pos, af, none⟩ :: rest) (real σ) w := by
  have hel : Conv.runesFrom ⟨s.toArray⟩ s.length 0 #[] = (rs32 (runesN s)).toArray := by
    have := runesFrom_valid s s.length 0 #[] (by omega) (by omega) (by simpa using hv)
    simpa using this
  have hlen : (rs32 (runesN s)).length = (runesN s).length := by simp [rs32]
  have hrl := runesN_len s
  let c := grownCap w (runesN s).length 0 e
  let C : Array Value := (rs32 (runesN s)).toArray ++ Array.replicate (c - (runesN s).length) (.int .i32 0)
  have hge : (runesN s).length ≤ c := grownCap_ge w _ 0 e
  have hcm : c ≤ maxLen := grownCap_le_maxLen w _ 0 e (by unfold maxLen; omega)
  have hsz : C.size = c := by simp [C, hlen]; omega
  refine wl (h w.heap.size c (w.drew.alloc (.cells C e)) (Nat.le_refl _) ?_ ((frm_drew w).trans (frm_alloc w.drew _))) (Y.val ?_)
  · refine ⟨by rw [hlen]; omega, .inr ⟨w.heap.size, 0, C, e, rfl, heap_alloc_new w.drew _, hge, by unfold maxLen at hcm; omega, by omega, ?_⟩⟩
    simp only [List.drop_zero, Nat.mul_one, C, Array.toList_append]
    rw [← hlen]
    exact List.take_left
  · have e1 : (ByteArray.mk s.toArray).size = s.length := size_str s
    simp only [execOp, hx, convert, underlying, Sem.run_bind, run_program, Result.andThen_ok, hu.ok, hu'.ok, he.ok, Sem.run_pure, Conv.stringToRunes, e1, hel, run_choose, Question.forced, newRow, run_newObj]
    simp only [List.size_toArray, hlen]
    rfl
end

set_option maxHeartbeats 2000000 in
theorem mend_ok (l : List UInt8) (hb : l.length ≤ 1073741824) (w : World) : PureC Tryd.prog 36 #[str l] w (str (mendR l)) := by
  refine enter (l := [str l]) Tryd.func36 rfl Tryd.ntmps36 (by kernel_rfl) rfl ?_
  refine sgo ?_
  refine wlrange fun r w1 hr1 hI1 hf1 => ?_
  refine sgo ?_
  refine wcloop (X := Nat × Bool) (fun x => [(0, str l), (3, .bool x.2), (7, .pointer (pb r))])
    (fun x wr => x.1 ≤ l.length ∧ It wr r l x.1 ∧ Frm w wr ∧ (x.2 = true → validR (l.drop x.1) = true → validR l = true)) (fun x => l.length - x.1) (0, true) ⟨rfl, rfl, rfl, trivial⟩ ⟨by omega, hI1, hf1, fun _ h => h⟩ ?_
  rintro ⟨i, v⟩ wr ρ ⟨hil, hIt, hfr, hv⟩
  dsimp only at hil hIt hv ⊢
  refine sgo ?_
  by_cases hi : i < l.length
  · refine wlnext_yes hIt hi fun w2 hI2 hl2 => ?_
    have hfr2 := hfr.step hl2 (by intro x hx; simp only [List.mem_singleton] at hx; subst hx; exact hr1)
    have hpos : 0 < (l.drop i).length := by simp; omega
    have hpr := pieceR_rng (l.drop i) hpos
    have hdl : (l.drop i).length = l.length - i := by simp
    cases hp : (pieceR (l.drop i)).2.2 with
    | true =>
      have hd := decode_right l i (right_of _ hp)
      have hvb := valid_back (l.drop i) hpos hp
      rw [List.drop_drop] at hvb
      simp only [hd] at hI2 ⊢
      generalize (pieceR (l.drop i)).2.1 = m at *
      generalize (pieceR (l.drop i)).1.toNat = rr at *
      refine sgo ?_
      (show WC _ _ _ _ _ _ _; first | refine WC_dec rfl (fun hc => ?_) (fun hc => ?_) | refine WC_cond rfl (fun hc => ?_) (fun hc => ?_))
      · refine sgo ?_
        exact ⟨(i + m, false), ⟨rfl, rfl, rfl, trivial⟩, ⟨by dsimp only; omega, hI2, hfr2, fun h => by cases h⟩, by dsimp only; omega⟩
      · refine sgo ?_
        exact ⟨(i + m, v), ⟨rfl, rfl, rfl, trivial⟩, ⟨by dsimp only; omega, hI2, hfr2, fun h1 h2 => hv h1 (hvb h2)⟩, by dsimp only; omega⟩
    | false =>
      have hd := decode_wrong l i hp
      simp only [hd] at hI2 ⊢
      refine sgo ?_
      (show WC _ _ _ _ _ _ _; first | refine WC_dec rfl (fun hc => ?_) (fun hc => ?_) | refine WC_cond rfl (fun hc => ?_) (fun hc => ?_))
      · refine sgo ?_
        exact ⟨(i + 1, false), ⟨rfl, rfl, rfl, trivial⟩, ⟨by dsimp only; omega, hI2, hfr2, fun h => by cases h⟩, by dsimp only; omega⟩
      · exfalso
        simp only [pkb_and, pkb_or, Bool.and_eq_false_iff, Bool.or_eq_false_iff, decide_eq_false_iff_not] at hc
        rcases hc with hc | ⟨h1, h2⟩
        · exact hc rfl
        · have h3 : (l.drop i).take 3 = [239, 191, 189] := by
            have := Decidable.not_not.1 h2
            rwa [show i + 3 - i = 3 by omega] at this
          rw [fffd_right _ h3] at hp
          cases hp
  · refine wlnext_no hIt (by omega) ?_
    rw [List.drop_eq_nil_of_le (by omega)] at hv
    refine sgo ?_
    cases v
    · refine sgo ?_
      refine wls2b rfl (by omega) fun b c w3 hb3 hc1 hc2 hI3 hf3 => ?_
      refine wlcall (runes_ok l _ _ _ rfl hb _ hI3) ?_
      rintro v w4 ⟨hf4, q, cc, rfl, hR, hq⟩
      have hf := (hfr.trans hf3).trans hf4
      refine wl ?_ (y_r2s (runesN_good l) hR.sg rfl)
      refine sgo ?_
      (first | refine fp1 (.inl rfl) rfl rfl ?_ | refine fp2 (.inl rfl) rfl rfl rfl ?_ | refine fp3 (.inl rfl) rfl rfl rfl rfl ?_ | refine fp0 (.inr rfl) rfl ?_ | refine fp0 (.inl rfl) rfl ?_ | refine fp1 (.inr rfl) rfl rfl ?_); refine ⟨?_, by (first | exact Frm.refl _ | assumption | exact Go.Sv.Sep.frm (by assumption) | (refine Frm.trans ?_ (by assumption); first | exact Frm.refl _ | assumption))⟩; (try simp only [realB, rv_true, Nat.reduceBEq, cond_true, cond_false, entG, real_lif, updGL])
      rfl
    · refine sgo ?_
      (first | refine fp1 (.inl rfl) rfl rfl ?_ | refine fp2 (.inl rfl) rfl rfl rfl ?_ | refine fp3 (.inl rfl) rfl rfl rfl rfl ?_ | refine fp0 (.inr rfl) rfl ?_ | refine fp0 (.inl rfl) rfl ?_ | refine fp1 (.inr rfl) rfl rfl ?_); refine ⟨?_, by (first | exact Frm.refl _ | assumption | exact Go.Sv.Sep.frm (by assumption) | (refine Frm.trans ?_ (by assumption); first | exact Frm.refl _ | assumption))⟩; (try simp only [realB, rv_true, Nat.reduceBEq, cond_true, cond_false, entG, real_lif, updGL])
      rw [mendR_id (hv rfl rfl)]
end Go.Proofs.YtjpnhaaneaikbaaDoor

/-
  Runes as bytes, read again.
-/
set_option linter.unusedSimpArgs false
set_option linter.unusedVariables false
set_option linter.unnecessarySimpa false
namespace Go.Proofs.YtjpnhaaneaikbaaDoor
open Go Go.Sv Go.RowKit

theorem piece_enc (r : Nat) (hg : Good r) (rest : List UInt8) : pieceR (encR r ++ rest) = ((r : Int), (encR r).length, true) := by
  obtain ⟨hg1, hg2⟩ := hg
  have fin : ∀ l : List UInt8, (pieceR l).2.2 = true → Right l := right_of
  unfold encR encN
  by_cases h1 : r < 128
  · rw [if_pos h1]
    generalize hl : (([r] : List Nat).map UInt8.ofNat ++ rest : List UInt8) = l
    have e0 : at0 l 0 = r := by subst hl; simp [at0]; omega
    have hr := fin l (right1 l (by omega))
    rcases hr with ⟨g1, hp⟩ | ⟨gl, g1, g2, g3, g4, hp⟩ | ⟨gl, g1, g2, g3, g4, g5, g6, g7, g8, hp⟩ | ⟨gl, g1, g2, g3, g4, g5, g6, g7, g8, g9, g10, hp⟩
    · rw [hp, e0]; rfl
    all_goals omega
  rw [if_neg h1]
  by_cases h2 : r < 2048
  · rw [if_pos h2]
    generalize hl : (([192 + r / 64, 128 + r % 64] : List Nat).map UInt8.ofNat ++ rest : List UInt8) = l
    have e0 : at0 l 0 = 192 + r / 64 := by subst hl; simp [at0]; omega
    have e1 : at0 l 1 = 128 + r % 64 := by subst hl; simp [at0]; omega
    have hr := fin l (right2 l (by subst hl; simp) (by omega))
    rcases hr with ⟨g1, hp⟩ | ⟨gl, g1, g2, g3, g4, hp⟩ | ⟨gl, g1, g2, g3, g4, g5, g6, g7, g8, hp⟩ | ⟨gl, g1, g2, g3, g4, g5, g6, g7, g8, g9, g10, hp⟩
    · omega
    · rw [hp, e0, e1]; simp; omega
    all_goals omega
  rw [if_neg h2]
  by_cases h3 : r < 65536
  · rw [if_pos h3]
    generalize hl : (([224 + r / 4096, 128 + r / 64 % 64, 128 + r % 64] : List Nat).map UInt8.ofNat ++ rest : List UInt8) = l
    have e0 : at0 l 0 = 224 + r / 4096 := by subst hl; simp [at0]; omega
    have e1 : at0 l 1 = 128 + r / 64 % 64 := by subst hl; simp [at0]; omega
    have e2 : at0 l 2 = 128 + r % 64 := by subst hl; simp [at0]; omega
    have hr := fin l (right3 l (by subst hl; simp) (by omega))
    rcases hr with ⟨g1, hp⟩ | ⟨gl, g1, g2, g3, g4, hp⟩ | ⟨gl, g1, g2, g3, g4, g5, g6, g7, g8, hp⟩ | ⟨gl, g1, g2, g3, g4, g5, g6, g7, g8, g9, g10, hp⟩
    · omega
    · omega
    · rw [hp, e0, e1, e2]; simp; omega
    · omega
  rw [if_neg h3]
  generalize hl : (([240 + r / 262144, 128 + r / 4096 % 64, 128 + r / 64 % 64, 128 + r % 64] : List Nat).map UInt8.ofNat ++ rest : List UInt8) = l
  have e0 : at0 l 0 = 240 + r / 262144 := by subst hl; simp [at0]; omega
  have e1 : at0 l 1 = 128 + r / 4096 % 64 := by subst hl; simp [at0]; omega
  have e2 : at0 l 2 = 128 + r / 64 % 64 := by subst hl; simp [at0]; omega
  have e3 : at0 l 3 = 128 + r % 64 := by subst hl; simp [at0]; omega
  have hr := fin l (right4 l (by subst hl; simp) (by omega))
  rcases hr with ⟨g1, hp⟩ | ⟨gl, g1, g2, g3, g4, hp⟩ | ⟨gl, g1, g2, g3, g4, g5, g6, g7, g8, hp⟩ | ⟨gl, g1, g2, g3, g4, g5, g6, g7, g8, g9, g10, hp⟩
  · omega
  · omega
  · omega
  · rw [hp, e0, e1, e2, e3]; simp; omega

theorem drop_enc (r : Nat) (rest : List UInt8) : (encR r ++ rest).drop (encR r).length = rest := List.drop_left
theorem runesN_flat : ∀ rs : List Nat, (∀ r ∈ rs, Good r) → runesN (rs.flatMap encR) = rs
  | [], _ => rfl
  | r :: rs, h => by
    have h4 := encR_len4 r
    rw [List.flatMap_cons, runesN_cons _ (by simp; omega), piece_enc r (h r List.mem_cons_self)]
    dsimp only
    rw [drop_enc, runesN_flat rs fun x hx => h x (List.mem_cons_of_mem _ hx), Int.toNat_natCast]
theorem valid_flat : ∀ rs : List Nat, (∀ r ∈ rs, Good r) → validR (rs.flatMap encR) = true
  | [], _ => rfl
  | r :: rs, h => by
    have h4 := encR_len4 r
    rw [List.flatMap_cons]
    refine valid_back _ (by simp; omega) ?_ ?_
    · rw [piece_enc r (h r List.mem_cons_self)]
    · rw [piece_enc r (h r List.mem_cons_self)]
      dsimp only
      rw [drop_enc]
      exact valid_flat rs fun x hx => h x (List.mem_cons_of_mem _ hx)
theorem valid_mend (l : List UInt8) : validR (mendR l) = true := valid_flat _ (runesN_good l)
theorem runesN_mend (l : List UInt8) : runesN (mendR l) = runesN l := runesN_flat _ (runesN_good l)
end Go.Proofs.YtjpnhaaneaikbaaDoor

/-
  Texts cut and joined: what is valid stays so.
-/
set_option linter.unusedSimpArgs false
set_option linter.unusedVariables false
set_option linter.unnecessarySimpa false
namespace Go.Proofs.YtjpnhaaneaikbaaDoor
open Go Go.Sv Go.RowKit
theorem valid_runes {l : List UInt8} (h : validR l = true) : ∃ rs : List Nat, (∀ r ∈ rs, Good r) ∧ l = rs.flatMap encR := ⟨runesN l, runesN_good l, (mendR_id h).symm⟩
theorem enc_hi (r : Nat) (h1 : 128 ≤ r) (h2 : r < 1114112) : ∀ i, i < (encR r).length → 128 ≤ at0 (encR r) i := by
  intro i hi
  have hlt := encN_lt r h2
  have hi' : i < (encN r).length := by rwa [encR_len] at hi
  have e : at0 (encR r) i = (encN r)[i] := by
    have := hlt _ (List.getElem_mem hi')
    simp only [at0, encR, List.getElem?_map, List.getElem?_eq_getElem hi', Option.map_some, Option.getD_some]
    exact UInt8.toNat_ofNat_of_lt' (by simpa using this)
  rw [e]
  have hm : ∀ x ∈ encN r, 128 ≤ x := by
    intro x hx
    unfold encN at hx
    repeat' split at hx
    all_goals simp only [List.mem_cons, List.not_mem_nil, or_false] at hx
    all_goals omega
  exact hm _ (List.getElem_mem hi')
theorem valid_app {a b : List UInt8} (ha : validR a = true) (hb : validR b = true) : validR (a ++ b) = true := by
  obtain ⟨ra, ga, rfl⟩ := valid_runes ha
  obtain ⟨rb, gb, rfl⟩ := valid_runes hb
  rw [← List.flatMap_append]
  exact valid_flat _ fun r hr => by rcases List.mem_append.1 hr with h | h; exact ga r h; exact gb r h
theorem valid_one (c : Nat) (hc : c < 128) : validR [UInt8.ofNat c] = true := by
  have e : [UInt8.ofNat c] = [c].flatMap encR := by simp [encR, encN, hc]
  rw [e]
  exact valid_flat _ fun r hr => by simp only [List.mem_singleton] at hr; subst hr; unfold Good; omega
end Go.Proofs.YtjpnhaaneaikbaaDoor

/-
  Regions that draw their order and write: what stands in the world is told by what has been carried out.
-/
set_option linter.unusedSimpArgs false
set_option linter.unusedVariables false
set_option linter.unnecessarySimpa false
namespace Go.Sv
open Go Go.RowKit

def fl (b : Array Bool) : Nat → Bool := fun k => b.getD k false
def on (L : Nat → Bool) (i : Nat) : Nat → Bool := fun k => match Nat.beq k i with | true => true | false => L k
def bindsOn (o : Oper) (j : Nat) : Bool := o.after.toList.any fun e => Region.binds .any e && e.on == j
def Clo (ops : Array Oper) (L : Nat → Bool) : Prop := ∀ j oj, ops[j]? = some oj → L j = true → ∀ i, bindsOn oj i = true → L i = true
/-- what is known when operation k comes up: it stands behind what it waits for, ahead of what waits for it -/
structure Up (ops : Array Oper) (o : Oper) (k : Nat) (L : Nat → Bool) : Prop where
  now : L k = false
  did : ∀ j, bindsOn o j = true → L j = true
  ahead : ∀ j oj, ops[j]? = some oj → bindsOn oj k = true → L j = false
/-- an operation yields v, and behind it T holds -/
def sees (P : Program) (T : World → Prop) (v : Value) : Result Next → Prop
  | .ok (.value u) w' => u = v ∧ T w'
  | .ok .skip w' => v = undef ∧ T w'
  | .ok (.enter f args) w' => Calls P f args w' (fun e w'' => e = .returned v ∧ T w'')
  | _ => False

section
variable {P : Program} {ops : Array Oper} {S : (Nat → Bool) → World → Prop}
def YA (P : Program) (ops : Array Oper) (S : (Nat → Bool) → World → Prop) (o : Oper) (k : Nat) (v : Value) (ev : Operand → Value) : Prop :=
  ∀ L w, Up ops o k L → S L w → sees P (S (on L k)) v ((execOp ev o).run P w)
def ZA (P : Program) (ops : Array Oper) (S : (Nat → Bool) → World → Prop) (o : Oper) (k : Nat) (v : Value) (a : Act) : Prop :=
  (Region.wanted o (yielded ops a.tmps) = true ∧ ∀ L w, Up ops o k L → S L w → sees P (S (on L k)) v ((execOp a.eval o).run P w)) ∨
  (Region.wanted o (yielded ops a.tmps) = false ∧ v = undef ∧ ∀ L w, Up ops o k L → S L w → S (on L k) w)
def gOp (P : Program) (ops : Array Oper) (S : (Nat → Bool) → World → Prop) (i : Nat) (K : Act → Prop) (a : Act) : Prop := ∃ o v, ops[i]? = some o ∧ ZA P ops S o i v a ∧ K (a.put o.dst v)
def wpG (P : Program) (ops : Array Oper) (S : (Nat → Bool) → World → Prop) (Qf : Act → Prop) : Nat → Array Bool → Act → Prop
  | 0, listed, a => Region.ready .any ops listed = [] ∧ (∀ k, k < ops.size → fl listed k = true) ∧ Qf a
  | f + 1, listed, a => Region.ready .any ops listed ≠ [] ∧ ∀ i ∈ Region.ready .any ops listed, gOp P ops S i (fun a' => wpG P ops S Qf f (listed.setIfInBounds i true) a') a

/-- the lexical walk -/
def QS (P : Program) (ops : Array Oper) (S : (Nat → Bool) → World → Prop) (Qf : Env → Prop) : Nat → List Oper → Env → Prop
  | _, [], σ => Qf σ
  | k, o :: l, σ => ∃ v, ((Region.wanted o (yl ops σ) = true ∧ YA P ops S o k v (evl σ)) ∨ (Region.wanted o (yl ops σ) = false ∧ v = undef ∧ ∀ L w, Up ops o k L → S L w → S (on L k) w)) ∧ QS P ops S Qf (k + 1) l (updO σ o.dst v)
end
section
variable {P : Program} {n : Nat} {ds : Ctx} {Q : Exit → Ctx → Env → World → Prop} {S : (Nat → Bool) → World → Prop} {σ : Env} {w : World}
end

/-! ## The rules as a script meets them -/
section
variable {P : Program} {n : Nat} {ds : Ctx} {ops : Array Oper} {Q : Exit → Ctx → Env → World → Prop} {S : (Nat → Bool) → World → Prop} {Qf : Env → Prop} {rest : List Oper} {σ : GE} {w : World} {v : Value} {d k : Nat} {op : Op} {ty : TypeId} {pos : String} {af : Array Edge} {nd : Bool}
end
end Go.Sv
namespace Go.Sv
attribute [irreducible] QS
end Go.Sv

/-
  For each kind of operation that does not look at the world, a rule for regions that draw and write.
-/
set_option linter.unusedSimpArgs false
set_option linter.unusedVariables false
set_option linter.unnecessarySimpa false
namespace Go.Sv
open Go Go.RowKit
section
variable {P : Program} {ops : Array Oper} {S : (Nat → Bool) → World → Prop} {Qf : Env → Prop} {rest : List Oper} {σ : GE} {w : World} {v : Value} {d k : Nat} {ty : TypeId} {pos : String} {af : Array Edge}

end
end Go.Sv

/-
  Stores into slices of one's own; lists of records.
-/
set_option linter.unusedSimpArgs false
set_option linter.unusedVariables false
set_option linter.unnecessarySimpa false
namespace Go.Sv
open Go Go.RowKit
section
variable {P : Program} {n : Nat} {ds : Ctx} {ops : Array Oper} {Q : Exit → Ctx → Env → World → Prop} {rest : List Oper} {σ : GE} {w : World} {v : Value} {d : Nat} {ty t e : TypeId} {pos : String} {af : Array Edge} {x y : Operand} {zv : Value} {size sz bytes m c i k : Nat} {p : Option Addr} {xs : List Value} {S : (Nat → Bool) → World → Prop} {Qf : Env → Prop}
end
section
variable {α : Type} {f : α → List Value} {k : Nat}
end
end Go.Sv
/-! ## append where there is room: in place -/
namespace Go.Sv
open Go Go.RowKit
section
variable {P : Program} {n : Nat} {ds : Ctx} {ops : Array Oper} {Q : Exit → Ctx → Env → World → Prop} {rest : List Oper} {σ : GE} {w : World} {v : Value} {d : Nat} {ty t t' e e' : TypeId} {pos : String} {af : Array Edge} {x y : Operand} {zv : Value} {size bytes m c c' i k j : Nat} {p q : Option Addr} {xs news : List Value}
end
end Go.Sv

/-
  Arrays written out; a function's end, where its result lies in a cell.
-/
set_option linter.unusedSimpArgs false
set_option linter.unusedVariables false
set_option linter.unnecessarySimpa false
namespace Go.Sv
open Go Go.RowKit
section
variable {P : Program} {σ : Env} {w : World} {d : Option Tmp} {ty t e : TypeId} {pos : String} {af : Array Edge} {g : Option (Nat × Bool)} {x y : Operand} {v1 v2 v3 v4 v5 z1 z2 z3 z4 z5 zv : Value} {x1 x2 x3 x4 x5 : Operand} {bytes bytes' n i : Nat} {k : IntKind} 
end
theorem fpc {P : Program} {n : Nat} {fn : Func} {R : Value → World → Prop} {σ : Env} {w : World} {tt : Nat} {ty : TypeId} {ex : Exit} {b : Nat} {l : List Value} {zv : Value} {bytes : Nat} {ds : Ctx} (hex : ex = .ret ∨ ex = .normal) (hr : fn.results = #[.cell tt ty]) (ht : Nat.blt tt n = true) (hp : σ tt = .pointer (pb b)) (ho : Own w b l)
    [ha : Agg P ty true] [hi : Inf P ty zv l.length bytes] (h : R (.agg l.toArray) w) (hd : ds.ds = [] := by rfl) : fpost P n fn R ex ds σ w := by
  obtain ⟨T, ho⟩ := ho
  obtain ⟨dd, hd1, hd2⟩ := ha.ok
  obtain ⟨i, hi1, hi2, hi3, hi4⟩ := inf_size (P := P) (t := ty)
  exact fp_of hex hd (results_cell_row (P := P) hr (act n ds.ds σ).tmps w b T l.toArray (0, 0) dd (by rw [act_getD ht]; exact hp) ho hd1 (by revert hd2; cases dd <;> exact id) (by rw [hi1]; simp [hi3])) h
end Go.Sv

/-
  Memory of one's own in pieces that lie apart, carried along as one fact.
-/
set_option linter.unusedSimpArgs false
set_option linter.unusedVariables false
set_option linter.unnecessarySimpa false
namespace Go.Sv
open Go Go.RowKit

theorem Own.of_block {w w' : World} {b : Nat} {l : List Value} (h : Own w b l) (hb : w'.heap[b]? = w.heap[b]?) : Own w' b l := by
  obtain ⟨t, h⟩ := h
  exact ⟨t, hb.trans h⟩
def pOwn (b : Nat) (l : List Value) : Plot where
  foot := [b]
  ok w := Own w b l
  view := (pb b, l)
  loc _ _ h hb := h.of_block (hb b (by simp))
  lt _ h x hx := by rw [List.mem_singleton.1 hx]; exact h.lt
  sg _ h := h.sg
def pRow (size : Nat) (p : Option Addr) (n c : Nat) (xs : List Value) : Plot where
  foot := rb p
  ok w := Row w size p n c xs
  view := (p, xs)
  loc _ _ h hb := h.of_block hb
  lt _ h := h.lt
  sg _ h := h.sg

section
variable {w0 w w' : World} {cs ds es : List Plot} {c c' a b : Plot} {M : List Nat} {i j : Nat}
theorem Sep.own {b : Nat} {l : List Value} (h : Sep w0 w cs) (i : Nat) (hi : cs[i]? = some (pOwn b l)) : Own w b l := h.at (c := pOwn b l) i hi
theorem Sep.row {s n c : Nat} {p : Option Addr} {l : List Value} (h : Sep w0 w cs) (i : Nat) (hi : cs[i]? = some (pRow s p n c l)) : Row w s p n c l := h.at (c := pRow s p n c l) i hi
/-- a piece that is written no more -/
theorem Sep.im {s n c : Nat} {p : Option Addr} {l : List Value} (h : Sep w0 w cs) (i : Nat) (hi : cs[i]? = some (pRow s p n c l)) : Im [] w p l := (h.row i hi).im (by simp)
end

/-! ## Operations on pieces -/
section
variable {P : Program} {n : Nat} {ds : Ctx} {ops : Array Oper} {Q : Exit → Ctx → Env → World → Prop} {rest : List Oper} {σ : GE} {w0 w : World} {v : Value} {d : Nat} {ty t t' e e' : TypeId} {pos : String} {af : Array Edge} {x y : Operand} {zv : Value} {size sz bytes : Nat} {p q : Option Addr} {l xs news vs : List Value} {b i m k c c' j : Nat} {cs : List Plot}
theorem salloc [hi : Inf P e zv size bytes] (hS : Sep w0 w cs) (h : ∀ b w', Sep w0 w' (pOwn b zv.cells.toList :: cs) → WL P n ds ops Q rest (real (updG σ d ⟨ptrAt (pb b) 0, true⟩)) w') :
    WL P n ds ops Q (⟨some d, .alloc e, ty, pos, af, none⟩ :: rest) (real σ) w :=
  wlalloc fun b w' hb ho hf => h b w' (hS.push hf ho (by simpa [pOwn] using hb))
theorem sbox (hS : Sep w0 w cs) (h : ∀ b w', Sep w0 w' (pOwn b v.cells.toList :: cs) → WL P n ds ops Q rest (real (updG σ d ⟨ptrAt (pb b) 0, true⟩)) w') (hx : evl (real σ) x = v := by rfl) :
    WL P n ds ops Q (⟨some d, .box e x, ty, pos, af, none⟩ :: rest) (real σ) w :=
  wlbox (fun b w' hb ho hf => h b w' (hS.push hf ho (by simpa [pOwn] using hb))) hx
theorem lm_own {b : Nat} {w w' : World} (h : Le [b] w w') : Lm [b] w [b] w' := ⟨h, fun _ hx _ => hx⟩
/-- a whole struct into the i-th piece -/
theorem ssta [hi : Inf P t zv size bytes] (hS : Sep w0 w cs) (i : Nat) (h : ∀ w', Sep w0 w' (cs.set i (pOwn b vs)) → WL P n ds ops Q rest (real σ) w') (hc : cs[i]? = some (pOwn b l) := by rfl)
    (hx : evl (real σ) x = ptrAt (pb b) 0 := by rfl) (hy : evl (real σ) y = .agg ⟨vs⟩ := by rfl) (hv : vs.length = size ∧ l.length = size := by first | exact ⟨rfl, rfl⟩ | (simp; done)) (h1 : (vs.all fun c => c.oneCell') = true := by rfl) :
    WL P n ds ops Q (⟨none, .store t x y, ty, pos, af, none⟩ :: rest) (real σ) w :=
  wlstorea0 (hS.own i hc) (fun w' ho hl => h w' (hS.upd i hc (lm_own hl) ho)) hx hy hv (List.all_eq_true.1 h1)
theorem sapp [hu : Und P t (.slice e)] [hu' : Und P t' (.slice e')] [hi : Inf P e zv size bytes] (hS : Sep w0 w cs) (i : Nat) (hs : Sg w q news)
    (h : ∀ p' c' w', Sep w0 w' (cs.set i (pRow size p' (m + k) c' (xs ++ news))) → WL P n ds ops Q rest (real (updG σ d ⟨.slice p' (m + k) c', true⟩)) w') (hc : cs[i]? = some (pRow size p m c xs) := by rfl)
    (hx : evl (real σ) x = .slice p m c := by rfl) (hy : evl (real σ) y = .slice q k c' := by rfl) (hl : news.length = k * size := by first | rfl | (simp; done))
    (h1 : ∀ u ∈ news, u.oneCell' = true := by simp [Go.Value.oneCell']) (hz : zv.cells.size = size := by rfl) (hsz : 0 < size := by decide) (hb : (m + k) * bytes ≤ 140737488355328 ∧ m + k ≤ 9223372036854775807 := by omega) :
    WL P n ds ops Q (⟨some d, .call ⟨.builtin .append, #[x, y], #[t, t']⟩, ty, pos, af, none⟩ :: rest) (real σ) w :=
  wlapp (hS.row i hc) hs (fun p' c' w' hr hl => h p' c' w' (hS.upd i hc hl hr)) hx hy hl h1 hz hsz hb
/-- .. of one cell -/
theorem sb1 [hu : Und P t (.slice e)] [hi : Inf P e zv 1 bytes] (hS : Sep w0 w cs) (h : ∀ b w', Sep w0 w' (pOwn b [v] :: cs) → WL P n ds ops Q rest (real (updG σ d ⟨.slice (pb b) 1 1, true⟩)) w')
    (hx : evl (real σ) x = v := by rfl) (hv : v.cells = #[v] := by rfl) (hz : zv.cells.size = 1 := by rfl) :
    WL P n ds ops Q (⟨some d, .buildSlice t 1 #[(0, x)], ty, pos, af, none⟩ :: rest) (real σ) w :=
  wlb1v hx hv (fun b w' hb ho hf => h b w' (hS.push hf ho (by simpa [pOwn] using hb))) hz
theorem sb1s {s : List UInt8} [hu : Und P t (.slice e)] [hi : Inf P e zv 1 bytes] (hS : Sep w0 w cs) (h : ∀ b w', Sep w0 w' (pOwn b [str s] :: cs) → WL P n ds ops Q rest (real (updG σ d ⟨.slice (pb b) 1 1, true⟩)) w')
    (hx : evl (real σ) x = str s := by rfl) (hz : zv.cells.size = 1 := by rfl) :
    WL P n ds ops Q (⟨some d, .buildSlice t 1 #[(0, x)], ty, pos, af, none⟩ :: rest) (real σ) w := sb1 hS h hx rfl hz
theorem sb1i {kk : IntKind} {a : Int} [hu : Und P t (.slice e)] [hi : Inf P e zv 1 bytes] (hS : Sep w0 w cs) (h : ∀ b w', Sep w0 w' (pOwn b [.int kk a] :: cs) → WL P n ds ops Q rest (real (updG σ d ⟨.slice (pb b) 1 1, true⟩)) w')
    (hx : evl (real σ) x = .int kk a := by rfl) (hz : zv.cells.size = 1 := by rfl) :
    WL P n ds ops Q (⟨some d, .buildSlice t 1 #[(0, x)], ty, pos, af, none⟩ :: rest) (real σ) w := sb1 hS h hx rfl hz
end
/-! ## Many rows in one piece -/
structure RowD where
  size : Nat
  p : Option Addr
  n : Nat
  c : Nat
  xs : List Value
def RowD.ok (w : World) (r : RowD) : Prop := Row w r.size r.p r.n r.c r.xs
def RowD.apart (a b : RowD) : Prop := ∀ x ∈ rb a.p, x ∉ rb b.p
def pMany (rs : List RowD) : Plot where
  foot := rs.flatMap fun r => rb r.p
  ok w := (∀ r ∈ rs, r.ok w) ∧ rs.Pairwise RowD.apart
  view := (none, [])
  loc _ _ h hb := ⟨fun r hr => (h.1 r hr).of_block fun b hh => hb b (List.mem_flatMap.2 ⟨r, hr, hh⟩), h.2⟩
  lt _ h x hx := by
    obtain ⟨r, hr, hx⟩ := List.mem_flatMap.1 hx
    exact (h.1 r hr).lt x hx
  sg _ _ := .inl rfl
theorem many_nil (w : World) : (pMany []).ok w := ⟨by simp, .nil⟩
section
variable {w0 w w' : World} {cs ds : List Plot} {rs : List RowD} {r r' : RowD} {s n c i j : Nat} {p : Option Addr} {xs : List Value}
theorem Sep.zero (h : Sep w0 w cs) : Sep w0 w (pMany [] :: cs) := h.push (Frm.refl w) (many_nil w) (by simp [pMany])
theorem Sep.many (h : Sep w0 w cs) (i : Nat) (hi : cs[i]? = some (pMany rs)) : ∀ r ∈ rs, r.ok w := (h.at (c := pMany rs) i hi).1
/-- a row more among the many -/
theorem Sep.more (h : Sep w0 w (pRow s p n c xs :: pMany rs :: cs)) : Sep w0 w (pMany (rs ++ [⟨s, p, n, c, xs⟩]) :: cs) := by
  refine h.join (fun h1 h2 h3 => ⟨fun r hr => ?_, ?_⟩) (fun x hx => ?_)
  · rcases List.mem_append.1 hr with hr | hr
    · exact h2.1 r hr
    · rw [List.mem_singleton.1 hr]; exact h1
  · rw [List.pairwise_append]
    refine ⟨h2.2, List.pairwise_singleton _ _, fun a ha b hb x hx hx' => ?_⟩
    rw [List.mem_singleton.1 hb] at hx'
    exact h3 x hx' (List.mem_flatMap.2 ⟨a, ha, hx⟩)
  · obtain ⟨r, hr, hx⟩ := List.mem_flatMap.1 hx
    rcases List.mem_append.1 hr with hr | hr
    · exact .inr (List.mem_flatMap.2 ⟨r, hr, hx⟩)
    · rw [List.mem_singleton.1 hr] at hx; exact .inl hx
/-- two times many -/
theorem Sep.both {rs' : List RowD} (h : Sep w0 w (pMany rs :: pMany rs' :: cs)) : Sep w0 w (pMany (rs' ++ rs) :: cs) := by
  refine h.join (fun h1 h2 h3 => ⟨fun r hr => ?_, ?_⟩) (fun x hx => ?_)
  · rcases List.mem_append.1 hr with hr | hr
    · exact h2.1 r hr
    · exact h1.1 r hr
  · rw [List.pairwise_append]
    exact ⟨h2.2, h1.2, fun a ha b hb x hx hx' => h3 x (List.mem_flatMap.2 ⟨b, hb, hx'⟩) (List.mem_flatMap.2 ⟨a, ha, hx⟩)⟩
  · obtain ⟨r, hr, hx⟩ := List.mem_flatMap.1 hx
    rcases List.mem_append.1 hr with hr | hr
    · exact .inr (List.mem_flatMap.2 ⟨r, hr, hx⟩)
    · exact .inl (List.mem_flatMap.2 ⟨r, hr, hx⟩)
theorem set_apart {R : RowD → RowD → Prop} : ∀ {rs : List RowD} {i : Nat} {r r' : RowD}, rs.Pairwise R → rs[i]? = some r → (∀ x, R x r → R x r') → (∀ x, R r x → R r' x) → (rs.set i r').Pairwise R
  | [], i, r, r', _, h, _, _ => by simp at h
  | x :: rs, 0, r, r', hp, h, h1, h2 => by
    simp only [List.getElem?_cons_zero, Option.some.injEq] at h
    subst h
    rw [List.pairwise_cons] at hp
    simp only [List.set_cons_zero, List.pairwise_cons]
    exact ⟨fun y hy => h2 y (hp.1 y hy), hp.2⟩
  | x :: rs, i + 1, r, r', hp, h, h1, h2 => by
    simp only [List.getElem?_cons_succ] at h
    rw [List.pairwise_cons] at hp
    simp only [List.set_cons_succ, List.pairwise_cons]
    refine ⟨fun y hy => ?_, set_apart hp.2 h h1 h2⟩
    rcases List.mem_or_eq_of_mem_set hy with hy | rfl
    · exact hp.1 y hy
    · exact h1 x (hp.1 r (List.mem_of_getElem? h))
theorem rows_le : ∀ {rs : List RowD} {j : Nat} {r : RowD}, rs.Pairwise RowD.apart → rs[j]? = some r → (∀ x ∈ rs, x.ok w) → Le (rb r.p) w w' → ∀ (k : Nat) (x : RowD), rs[k]? = some x → k ≠ j → x.ok w' := by
  intro rs j r hp hj hok hl k x hk hne
  refine Row.le (hok x (List.mem_of_getElem? hk)) hl fun b hb hb' => ?_
  obtain ⟨hk1, rfl⟩ := List.getElem?_eq_some_iff.1 hk
  obtain ⟨hj1, rfl⟩ := List.getElem?_eq_some_iff.1 hj
  rw [List.pairwise_iff_getElem] at hp
  rcases Nat.lt_or_ge k j with h | h
  · exact hp k j hk1 hj1 h b hb hb'
  · exact hp j k hj1 hk1 (by omega) b hb' hb
/-- one of the many written -/
theorem Sep.wrote (h : Sep w0 w cs) (i : Nat) (hi : cs[i]? = some (pMany rs)) (hj : rs[j]? = some r) (hp : r'.p = r.p) (hl : Le (rb r.p) w w') (hr : r'.ok w') : Sep w0 w' (cs.set i (pMany (rs.set j r'))) := by
  have hok := h.at (c := pMany rs) i hi
  have hfeet : ∀ x, x ∈ (pMany (rs.set j r')).foot → x ∈ (pMany rs).foot := by
    intro x hx
    obtain ⟨y, hy, hxy⟩ := List.mem_flatMap.1 hx
    rcases List.mem_or_eq_of_mem_set hy with hy | hy
    · exact List.mem_flatMap.2 ⟨y, hy, hxy⟩
    · exact List.mem_flatMap.2 ⟨r, List.mem_of_getElem? hj, by rw [← hp, ← hy]; exact hxy⟩
  refine h.upd i hi ⟨hl.mono fun x hx _ => List.mem_flatMap.2 ⟨r, List.mem_of_getElem? hj, hx⟩, fun x hx _ => hfeet x hx⟩ ⟨fun x hx => ?_, ?_⟩
  · obtain ⟨k, hk, rfl⟩ := List.mem_iff_getElem.1 hx
    rw [List.getElem_set]
    split
    · exact hr
    · rename_i hne
      refine rows_le hok.2 hj hok.1 hl k _ (List.getElem?_eq_getElem (by simpa using hk)) (fun e => hne e.symm)
  · exact set_apart hok.2 hj (fun x hx y hy => by rw [hp]; exact hx y hy) (fun x hx y hy => hx y (by rwa [hp] at hy))
/-- what lies in one of the many -/
theorem RowD.im (h : r.ok w) : Im [] w r.p r.xs := Row.im h (by simp)
end
section
variable {P : Program} {n : Nat} {ds : Ctx} {ops : Array Oper} {Q : Exit → Ctx → Env → World → Prop} {rest : List Oper} {σ : GE} {w0 w : World} {v : Value} {ty t : TypeId} {pos : String} {af : Array Edge} {x y : Operand} {zv : Value} {sz bytes : Nat} {k j : Nat} {cs : List Plot} {rs : List RowD} {r : RowD}
end
/-! ## []byte(s), by whatever guard -/
section
variable {P : Program} {n : Nat} {ds : Ctx} {ops : Array Oper} {Q : Exit → Ctx → Env → World → Prop} {rest : List Oper} {σ : GE} {w : World} {d : Nat} {ty t t' e : TypeId} {pos : String} {af : Array Edge} {x : Operand} {s : List UInt8} {j dj : Nat} {want b c : Bool}
theorem y_s2b [hu : Und P t .string] [hu' : Und P t' (.slice e)] [he : Und P e (.int .u8)] {σ : Env} {dd : Option Nat} {g : Option (Nat × Bool)} (hx : evl σ x = str s) (hs : s.length ≤ 9223372036854775807) :
    ∃ b c w', w.heap.size ≤ b ∧ s.length ≤ c ∧ c ≤ 9223372036854775807 ∧ Im [] w' (pb b) (bs s) ∧ Frm w w' ∧ Y P σ ⟨dd, .convert t t' x, ty, pos, af, g⟩ w (.slice (pb b) s.length c) w' := by
  let c := grownCap w s.length 0 e
  let C : Array Value := (s.toArray.map fun b => Value.int .u8 b.toNat) ++ Array.replicate (c - s.length) (.int .u8 0)
  have hge : s.length ≤ c := grownCap_ge w s.length 0 e
  have hcm : c ≤ maxLen := grownCap_le_maxLen w s.length 0 e (by unfold maxLen; omega)
  have hsz : C.size = c := by simp [C]; omega
  have hheap : (w.drew.alloc (.cells C e)).heap[w.heap.size]? = some (.cells C e) := heap_alloc_new w.drew _
  let w' := (w.drew.alloc (.cells C e)).freeze ⟨w.heap.size, C.size, none⟩ 1
  have hw' : w'.heap[w.heap.size]? = some (.cells C e (C.size, C.size + 1)) := by
    simp only [w', World.freeze, Nat.one_ne_zero, if_false, Array.getElem?_modify, if_true]
    rw [hheap]; simp
  have hother : ∀ k, k < w.heap.size → w'.heap[k]? = w.heap[k]? := by
    intro k hk
    simp only [w', World.freeze, Nat.one_ne_zero, if_false, Array.getElem?_modify]
    rw [if_neg (by omega)]
    exact Below.heap_alloc w.drew _ k hk
  refine ⟨w.heap.size, c, w', Nat.le_refl _, hge, (by unfold maxLen at hcm; omega), ?_, ?_, Y.val ?_⟩
  · refine .inr ⟨_, rfl, fun i hi => ?_, (Array.getElem?_eq_some_iff.1 hw').1, by simp⟩
    have ea : (⟨w.heap.size, 0, none⟩ : Addr).add i = ⟨w.heap.size, i, none⟩ := by unfold Addr.add; split <;> simp_all
    rw [ea, cell_of_row w' _ i C e _ hw']
    have hi' : i < s.length := by simpa using hi
    have hlt : i < (s.toArray.map fun b => Value.int .u8 b.toNat).size := by simpa using hi'
    simp only [C]
    rw [Array.getElem?_append_left hlt]
    simp [bs, hi']
  · exact ⟨rfl, rfl, rfl, by simp [w', World.freeze], hother⟩
  · have e1 : (ByteArray.mk s.toArray).data = s.toArray := rfl
    simp only [execOp, hx, convert, underlying, Sem.run_bind, run_program, Result.andThen_ok, hu.ok, hu'.ok, he.ok, Sem.run_pure, Conv.stringToBytes, run_choose, Question.forced, size_str, newRow, run_newObj, markStringish, run_shape]
    have hshape : (w.drew.alloc (.cells C e)).shape? w.heap.size = some (e, C.size) := by simp only [World.shape?, hheap]
    have hr : (w.drew.heap.size) = w.heap.size := rfl
    simp only [Bool.false_eq_true, if_false, Result.andThen_ok, World.alloc_eq, e1]
    change (((Sem.run P (match (w.drew.alloc (.cells C e)).shape? w.heap.size with | some (_, n) => freeze { block := w.heap.size, off := n } 1 | _ => pure ()) (w.drew.alloc (.cells C e))).andThen _).andThen _) = _
    rw [hshape]
    simp only [run_freeze, Result.andThen_ok, Sem.run_pure]
    rfl
theorem wls2bg [hu : Und P t .string] [hu' : Und P t' (.slice e)] [he : Und P e (.int .u8)] (hs : s.length ≤ 9223372036854775807)
    (h : ∀ q cc w', ((b && (c == want)) = true → s.length ≤ cc ∧ cc ≤ 9223372036854775807 ∧ Im [] w' (pb q) (bs s)) → Frm w w' → WL P n ds ops Q rest (real (updG σ d ⟨.slice (pb q) s.length cc, b && (c == want)⟩)) w')
    (hj : (ops[j]?).bind (·.dst) = some dj := by rfl) (hσ : σ dj = ⟨.bool c, b⟩ := by rfl) (hx : (b && (c == want)) = true → evl (real σ) x = str s := by exact fun hgd => evG hgd) :
    WL P n ds ops Q (⟨some d, .convert t t' x, ty, pos, af, some (j, want)⟩ :: rest) (real σ) w := by
  have hw := wanted_real (ops := ops) (o := ⟨some d, .convert t t' x, ty, pos, af, some (j, want)⟩) rfl hj hσ
  cases hb : (b && (c == want)) with
  | true =>
    rw [hb] at hw
    obtain ⟨q, cc, w', h1, h2, h3, h4, h5, hy⟩ := y_s2b (P := P) (w := w) (dd := some d) (ty := ty) (pos := pos) (af := af) (t := t) (t' := t') (g := some (j, want)) (hx hb) hs
    refine WL_want hw hy ?_
    have := h q cc w' (fun _ => ⟨h2, h3, h4⟩) h5
    rw [hb] at this
    rw [← real_upd] at this
    exact this
  | false =>
    rw [hb] at hw
    refine WL_skip hw ?_
    have := h 0 0 w (fun h => by rw [hb] at h; cases h) (Frm.refl w)
    rw [hb] at this
    rw [← real_upd] at this
    exact this
end
end Go.Sv

/-
  A loop over a text, with memory in pieces.
-/
set_option linter.unusedSimpArgs false
set_option linter.unusedVariables false
set_option linter.unnecessarySimpa false
namespace Go.Sv
open Go Go.RowKit
def pIt (r : Nat) (l : List UInt8) (i : Nat) : Plot where
  foot := [r]
  ok w := It w r l i
  view := (none, [])
  loc _ _ h hb := (hb r (by simp)).trans h
  lt _ h x hx := by rw [List.mem_singleton.1 hx]; exact h.lt
  sg _ _ := .inl rfl
section
variable {w0 w w' : World} {cs : List Plot} {r i j : Nat} {l : List UInt8}
theorem Sep.it (h : Sep w0 w cs) (k : Nat) (hi : cs[k]? = some (pIt r l i)) : It w r l i := h.at (c := pIt r l i) k hi
theorem Sep.pushIt (h : Sep w0 w cs) (hf : Frm w w') (hI : It w' r l i) (hr : w.heap.size ≤ r) : Sep w0 w' (pIt r l i :: cs) := h.push hf hI (by simpa [pIt] using hr)
theorem Sep.nextIt (h : Sep w0 w cs) (k : Nat) (hi : cs[k]? = some (pIt r l i)) (hl : Le [r] w w') (hI : It w' r l j) : Sep w0 w' (cs.set k (pIt r l j)) := h.upd k hi (lm_own hl) hI
end
end Go.Sv

/-
  A scope in which the run jumps back to its label, once.
-/
set_option linter.unusedSimpArgs false
set_option linter.unusedVariables false
set_option linter.unnecessarySimpa false
namespace Go.Sv
open Go Go.RowKit
/-- what a jump leaves -/
def jmpq (l : Nat) (c : Ctx) (K : Env → World → Prop) (Q : Exit → Ctx → Env → World → Prop) : Exit → Ctx → Env → World → Prop
  | .goto l', c', σ, w => l' = l ∧ c' = c ∧ K σ w
  | e, c', σ, w => Q e c' σ w
section
variable {P : Program} {n l : Nat} {ds : Ctx} {Q : Exit → Ctx → Env → World → Prop} {K : Ctx → Env → World → Prop} {L : Env → World → Prop} {σ : Env} {w : World} {c rest : Code}
end
/-- a cut behind a piece of code that stands in a block -/
theorem wcutj {P : Program} {n i : Nat} {ds : Ctx} {K : Ctx → Env → World → Prop} {Q : Exit → Ctx → Env → World → Prop} {σ : Env} {w : World} {a : Code} {X : Type} (sl : X → List (Nat × Value)) (I : X → World → Prop)
    (ha : WC P n ds a (blk i (thl ds (fun σ w => ∃ x, Has σ (sl x) ∧ I x w) Q)) σ w) (hb : ∀ x w (ρ : GE), I x w → K ds (real (updGL ρ (sl x))) w) : WC P n ds a (blk i (thn K Q)) σ w := by
  refine WC_mono ha ?_
  have hn : ∀ c' σ' w', thl ds (fun σ w => ∃ x, Has σ (sl x) ∧ I x w) Q .normal c' σ' w' → thn K Q .normal c' σ' w' := by
    intro c' σ' w' h
    unfold thl at h
    unfold thn
    obtain ⟨rfl, x, h1, h2⟩ := h
    have := hb x w' (lif σ') h2
    rw [← real_updL, updL_has h1] at this
    exact this
  intro e c' σ' w' h
  unfold blk at h ⊢
  cases e with
  | normal => exact hn _ _ _ h
  | exit j =>
    dsimp only at h ⊢
    cases hj : Nat.beq j i with
    | true => rw [hj] at h; exact hn _ _ _ h
    | false => rw [hj] at h; unfold thl at h; unfold thn; exact h
  | _ => unfold thl at h; unfold thn; exact h
theorem Sep.nilRow {w0 w : World} {cs : List Plot} (h : Sep w0 w cs) (size : Nat) : Sep w0 w (pRow size none 0 0 [] :: cs) := h.push (Frm.refl w) (Row.nil w size) (by simp [pRow, rb])
attribute [irreducible] jmpq
end Go.Sv

/-
  Packages input and sieveref03: plain runes, clean texts.
-/
set_option linter.unusedSimpArgs false
set_option linter.unusedVariables false
set_option linter.unnecessarySimpa false
namespace Go.Proofs.YtjpnhaaneaikbaaDoor
open Go Go.Sv Go.RowKit

theorem rs32_app1 (l : List Nat) (r : Nat) : rs32 l ++ [i32 r] = rs32 (l ++ [r]) := by simp [rs32]
theorem and_65534 (r : Nat) : r &&& 65534 = 2 * ((r / 2) % 32768) := by
  refine Nat.eq_of_testBit_eq fun i => ?_
  rw [Nat.testBit_and]
  cases i with
  | zero =>
    rw [show Nat.testBit 65534 0 = false from by decide, Bool.and_false]
    simp [Nat.testBit_zero]
  | succ i =>
    rw [Nat.testBit_succ, Nat.testBit_succ, Nat.testBit_succ, show 65534 / 2 = 2 ^ 15 - 1 from rfl, Nat.testBit_two_pow_sub_one, Nat.mul_div_cancel_left _ (by decide : 0 < 2), show (32768 : Nat) = 2 ^ 15 from rfl, Nat.testBit_mod_two_pow, Bool.and_comm]
theorem last_two (r : Nat) : (r &&& 65534 = 65534) ↔ 65534 ≤ r % 65536 := by
  rw [and_65534]; omega
/-- the rune that stands for a rune -/
def plainR (r : Nat) : Nat := if r = 13 then 10 else if r = 9 ∨ r = 10 ∨ r = 12 then r else if r < 32 ∨ (127 ≤ r ∧ r ≤ 159) ∨ (64976 ≤ r ∧ r ≤ 65007) ∨ 65534 ≤ r % 65536 then 65533 else r
def cleanR (l : List UInt8) : List UInt8 := ((runesN l).map plainR).flatMap encR
theorem plainR_good {r : Nat} (h : Good r) : Good (plainR r) := by
  unfold plainR
  split
  · exact ⟨by decide, by decide⟩
  · split
    · exact h
    · split
      · exact ⟨by decide, by decide⟩
      · exact h
theorem plainR_good_all (l : List UInt8) : ∀ r ∈ (runesN l).map plainR, Good r := by
  intro r hr
  obtain ⟨x, hx, rfl⟩ := List.mem_map.1 hr
  exact plainR_good (runesN_good l x hx)
theorem cleanR_valid (l : List UInt8) : validR (cleanR l) = true := valid_flat _ (plainR_good_all l)
theorem cleanR_len (l : List UInt8) : (cleanR l).length ≤ 4 * l.length := by
  have h1 := encR_flat ((runesN l).map plainR)
  have h2 := runesN_len l
  rw [List.length_map] at h1
  unfold cleanR; omega
theorem bitand_nat (a b : Nat) (ha : a < 2147483648) (hb : b < 2147483648) : bitop .and .i32 (a : Int) (b : Int) = ((a &&& b : Nat) : Int) := by
  simp only [bitop]
  have hle : a &&& b < 2147483648 := Nat.lt_of_le_of_lt Nat.and_le_left ha
  have h2 : (BitVec.ofInt IntKind.i32.bits (a : Int) &&& BitVec.ofInt IntKind.i32.bits (b : Int)).toNat = a &&& b := by
    rw [BitVec.ofInt_natCast, BitVec.ofInt_natCast, BitVec.toNat_and, BitVec.toNat_ofNat, BitVec.toNat_ofNat]
    have e1 : a % 2 ^ IntKind.i32.bits = a := Nat.mod_eq_of_lt (by show _ < 2 ^ 32; omega)
    have e2 : b % 2 ^ IntKind.i32.bits = b := Nat.mod_eq_of_lt (by show _ < 2 ^ 32; omega)
    rw [e1, e2]
  rw [h2, wrap_in]
  simp [IntKind.min, IntKind.max, IntKind.signed, IntKind.bits]; omega
set_option maxHeartbeats 2000000 in
theorem inPlain_ok (r : Nat) (hg : Good r) (w : World) : PureC Tryd.prog 37 #[i32 r] w (i32 (plainR r)) := by
  have h1 := hg.1
  have h2 := hg.2
  have hb := bitand_nat r 65534 (by omega) (by decide)
  have hl := last_two r
  rw [show ((65534 : Nat) : Int) = 65534 from rfl] at hb
  refine enter (l := [i32 r]) Tryd.func37 rfl Tryd.ntmps37 (by kernel_rfl) rfl ?_
  repeat' (first | (first | (show WL _ _ _ _ _ _ _ _; (first | refine wlp ?_ | refine WL_nil ?_ | (show WL _ _ _ _ _ (Go.Oper.mk _ _ _ _ _ none :: _) _ _; first | refine wlpk ?_ | refine wl_load ?_ | refine wl_idxa ?_ | refine wl_fld ?_ | refine wl_idx ?_ | refine wl_len ?_ | refine wl_bin ?_ | refine wl_cnv ?_ | refine wl_slc ?_ | refine wl_una ?_ | refine wl_nilc ?_ | refine wl_mkf ?_) | refine wlpg ?_ | refine wlg_load ?_ | refine wlg_idxa ?_ | refine wlg_fld ?_ | refine wlg_idx ?_ | refine wlg_len ?_ | refine wlg_bin ?_ | refine wlg_cnv ?_ | refine wlg_slc ?_ | refine wlg_una ?_ | refine wlg_nilc ?_ | refine wlg_mkf ?_)) | (show thn _ _ _ _ _ _; (first | refine thn_normal ?_ | refine thn_ret ?_ | refine thn_exit ?_)) | (show thl _ _ _ _ _ _ _; (first | refine thl_normal ?_ | refine thl_ret ?_ | refine thl_exit ?_)) | (show WC _ _ _ _ _ _ _; (first | refine WC_seq ?_ | refine WC_region ?_ | refine WC_ret ?_ | refine WC_skip ?_ | refine WC_block ?_ | refine WC_exit ?_ | refine WC_label ?_ | refine WC_scope rfl ?_ | refine wcyes ?_ | refine wcno ?_)) | (show blk _ _ _ _ _ _; (first | refine blk_ret ?_ | refine blk_here ?_ | refine blk_on rfl ?_ | refine blk_normal ?_)) | (show ngt _ _ _ _ _; (first | refine ngt_normal ?_ | refine ngt_ret ?_ | refine ngt_exit ?_))) | (show WC _ _ _ _ _ _ _; refine WC_cond rfl (fun hc => ?_) (fun hc => ?_)))
  all_goals ((first | refine fp1 (.inl rfl) rfl rfl ?_ | refine fp2 (.inl rfl) rfl rfl rfl ?_ | refine fp3 (.inl rfl) rfl rfl rfl rfl ?_ | refine fp0 (.inr rfl) rfl ?_ | refine fp0 (.inl rfl) rfl ?_ | refine fp1 (.inr rfl) rfl rfl ?_); refine ⟨?_, by (first | exact Frm.refl _ | assumption | exact Go.Sv.Sep.frm (by assumption) | (refine Frm.trans ?_ (by assumption); first | exact Frm.refl _ | assumption))⟩)
  all_goals (try simp only [hb] at *)
  all_goals generalize r &&& 65534 = x at *
  all_goals (try simp only [pkb_or, pkb_and, Bool.and_eq_true, Bool.or_eq_true, Bool.and_eq_false_iff, Bool.or_eq_false_iff, decide_eq_true_eq, decide_eq_false_iff_not, Bool.not_eq_true', Bool.not_eq_false'] at *)
  all_goals (show Value.int .i32 _ = .int .i32 _)
  all_goals congr 1
  all_goals unfold plainR
  all_goals (repeat' split)
  all_goals omega
end Go.Proofs.YtjpnhaaneaikbaaDoor

/-
  Packages input and sieveref03: Clean.
-/
set_option linter.unusedSimpArgs false
set_option linter.unusedVariables false
set_option linter.unnecessarySimpa false
namespace Go.Proofs.YtjpnhaaneaikbaaDoor
open Go Go.Sv Go.RowKit

set_option maxHeartbeats 2000000 in
theorem refPlain_ok (r : Nat) (hg : Good r) (w : World) : PureC Tryd.prog 31 #[i32 r] w (i32 (plainR r)) := by
  have h1 := hg.1
  have h2 := hg.2
  have hch := charR_good hg
  refine enter (l := [i32 r]) Tryd.func31 rfl Tryd.ntmps31 (by kernel_rfl) rfl ?_
  refine sgo ?_
  refine WC_cond rfl (fun hc => ?_) (fun hc => ?_)
  · refine sgo ?_
    (first | refine fp1 (.inl rfl) rfl rfl ?_ | refine fp2 (.inl rfl) rfl rfl rfl ?_ | refine fp3 (.inl rfl) rfl rfl rfl rfl ?_ | refine fp0 (.inr rfl) rfl ?_ | refine fp0 (.inl rfl) rfl ?_ | refine fp1 (.inr rfl) rfl rfl ?_); refine ⟨?_, by (first | exact Frm.refl _ | assumption | exact Go.Sv.Sep.frm (by assumption) | (refine Frm.trans ?_ (by assumption); first | exact Frm.refl _ | assumption))⟩; (try simp only [realB, rv_true, Nat.reduceBEq, cond_true, cond_false, entG, real_lif, updGL])
    (try simp only [pkb_or, pkb_and, Bool.and_eq_true, Bool.or_eq_true, Bool.and_eq_false_iff, Bool.or_eq_false_iff, decide_eq_true_eq, decide_eq_false_iff_not, Bool.not_eq_true', Bool.not_eq_false'] at *)
    rw [plainR, if_pos (by omega)]; rfl
  have h13 : ¬ r = 13 := by simp only [decide_eq_false_iff_not] at hc; omega
  clear hc
  refine sgo ?_
  refine wlpure (refChar_ok r _) fun w1 hf1 => ?_
  rw [hch]
  repeat' (first | (first | (show WL _ _ _ _ _ _ _ _; (first | refine wlp ?_ | refine WL_nil ?_ | (show WL _ _ _ _ _ (Go.Oper.mk _ _ _ _ _ none :: _) _ _; first | refine wlpk ?_ | refine wl_load ?_ | refine wl_idxa ?_ | refine wl_fld ?_ | refine wl_idx ?_ | refine wl_len ?_ | refine wl_bin ?_ | refine wl_cnv ?_ | refine wl_slc ?_ | refine wl_una ?_ | refine wl_nilc ?_ | refine wl_mkf ?_) | refine wlpg ?_ | refine wlg_load ?_ | refine wlg_idxa ?_ | refine wlg_fld ?_ | refine wlg_idx ?_ | refine wlg_len ?_ | refine wlg_bin ?_ | refine wlg_cnv ?_ | refine wlg_slc ?_ | refine wlg_una ?_ | refine wlg_nilc ?_ | refine wlg_mkf ?_)) | (show thn _ _ _ _ _ _; (first | refine thn_normal ?_ | refine thn_ret ?_ | refine thn_exit ?_)) | (show thl _ _ _ _ _ _ _; (first | refine thl_normal ?_ | refine thl_ret ?_ | refine thl_exit ?_)) | (show WC _ _ _ _ _ _ _; (first | refine WC_seq ?_ | refine WC_region ?_ | refine WC_ret ?_ | refine WC_skip ?_ | refine WC_block ?_ | refine WC_exit ?_ | refine WC_label ?_ | refine WC_scope rfl ?_ | refine wcyes ?_ | refine wcno ?_)) | (show blk _ _ _ _ _ _; (first | refine blk_ret ?_ | refine blk_here ?_ | refine blk_on rfl ?_ | refine blk_normal ?_)) | (show ngt _ _ _ _ _; (first | refine ngt_normal ?_ | refine ngt_ret ?_ | refine ngt_exit ?_))) | (show WC _ _ _ _ _ _ _; refine WC_cond rfl (fun hc => ?_) (fun hc => ?_)))
  all_goals ((first | refine fp1 (.inl rfl) rfl rfl ?_ | refine fp2 (.inl rfl) rfl rfl rfl ?_ | refine fp3 (.inl rfl) rfl rfl rfl rfl ?_ | refine fp0 (.inr rfl) rfl ?_ | refine fp0 (.inl rfl) rfl ?_ | refine fp1 (.inr rfl) rfl rfl ?_); refine ⟨?_, by (first | exact Frm.refl _ | assumption | exact Go.Sv.Sep.frm (by assumption) | (refine Frm.trans ?_ (by assumption); first | exact Frm.refl _ | assumption))⟩)
  all_goals (try simp only [pkb_or, pkb_and, Bool.and_eq_true, Bool.or_eq_true, Bool.and_eq_false_iff, Bool.or_eq_false_iff, decide_eq_true_eq, decide_eq_false_iff_not, Bool.not_eq_true', Bool.not_eq_false'] at *)
  all_goals (show Value.int .i32 _ = .int .i32 _)
  all_goals congr 1
  all_goals unfold plainR
  all_goals (repeat' split)
  all_goals omega
set_option maxHeartbeats 2000000 in
theorem inClean_ok (s : List UInt8) (hb : s.length ≤ 200000000) (w : World) : PureC Tryd.prog 24 #[str s] w (str (cleanR s)) := by
  have hml := mendR_len s
  have hv0 := valid_mend s
  have hrm := runesN_mend s
  have hS := Sep.start w
  have hm := mend_ok s (by omega)
  unfold cleanR
  rw [← hrm]
  clear hrm
  refine enter (l := [str s]) Tryd.func24 rfl Tryd.ntmps24 (by kernel_rfl) rfl ?_
  refine sgo ?_
  refine wlpure (hm _) fun w1 hf1 => ?_
  generalize mendR s = t at *
  replace hS := hS.grow hf1
  refine wlrange fun r w6 hr6 hI6 hf6 => ?_
  replace hS := (hS.pushIt hf6 hI6 hr6).nilRow 1
  clear hI6 hf6 hr6
  have hgd := runesN_good t
  have hgp : ∀ r ∈ (runesN t).map plainR, Good r := plainR_good_all t
  have htl := runesN_len t
  refine sgo ?_
  refine wcutj (X := Option Addr × Nat) (fun x => [(3, .slice x.1 ((runesN t).map plainR).length x.2)]) (fun x w' => Sep w w' [pRow 1 x.1 ((runesN t).map plainR).length x.2 (rs32 ((runesN t).map plainR))]) ?_ ?_
  · refine wcloop (X := Nat × List Nat × Option Addr × Nat) (fun x => [(3, .slice x.2.2.1 x.2.1.length x.2.2.2), (8, .pointer (pb r))])
      (fun x w' => x.1 ≤ t.length ∧ validR (t.drop x.1) = true ∧ (runesN t).map plainR = x.2.1 ++ (runesN (t.drop x.1)).map plainR ∧ Sep w w' [pRow 1 x.2.2.1 x.2.1.length x.2.2.2 (rs32 x.2.1), pIt r t x.1]) (fun x => t.length - x.1) (0, [], none, 0) ⟨rfl, rfl, trivial⟩ ⟨Nat.zero_le _, hv0, rfl, hS⟩ ?_
    clear hS
    rintro ⟨i, out, q, c⟩ wr ρ ⟨hil, hv, hrs, hS⟩
    dsimp only at hil hv hrs hS ⊢
    have hol : out.length ≤ t.length := by
      have := congrArg List.length hrs
      simp only [List.length_append, List.length_map] at this
      omega
    have hIt := hS.it 1 rfl
    iterate 2 (first | (show WL _ _ _ _ _ _ _ _; (first | refine wlp ?_ | refine WL_nil ?_ | (show WL _ _ _ _ _ (Go.Oper.mk _ _ _ _ _ none :: _) _ _; first | refine wlpk ?_ | refine wl_load ?_ | refine wl_idxa ?_ | refine wl_fld ?_ | refine wl_idx ?_ | refine wl_len ?_ | refine wl_bin ?_ | refine wl_cnv ?_ | refine wl_slc ?_ | refine wl_una ?_ | refine wl_nilc ?_ | refine wl_mkf ?_) | refine wlpg ?_ | refine wlg_load ?_ | refine wlg_idxa ?_ | refine wlg_fld ?_ | refine wlg_idx ?_ | refine wlg_len ?_ | refine wlg_bin ?_ | refine wlg_cnv ?_ | refine wlg_slc ?_ | refine wlg_una ?_ | refine wlg_nilc ?_ | refine wlg_mkf ?_)) | (show thn _ _ _ _ _ _; (first | refine thn_normal ?_ | refine thn_ret ?_ | refine thn_exit ?_)) | (show thl _ _ _ _ _ _ _; (first | refine thl_normal ?_ | refine thl_ret ?_ | refine thl_exit ?_)) | (show WC _ _ _ _ _ _ _; (first | refine WC_seq ?_ | refine WC_region ?_ | refine WC_ret ?_ | refine WC_skip ?_ | refine WC_block ?_ | refine WC_exit ?_ | refine WC_label ?_ | refine WC_scope rfl ?_ | refine wcyes ?_ | refine wcno ?_)) | (show blk _ _ _ _ _ _; (first | refine blk_ret ?_ | refine blk_here ?_ | refine blk_on rfl ?_ | refine blk_normal ?_)) | (show ngt _ _ _ _ _; (first | refine ngt_normal ?_ | refine ngt_ret ?_ | refine ngt_exit ?_)))
    by_cases hi : i < t.length
    · have hpos : 0 < (t.drop i).length := by simp; omega
      obtain ⟨hr, hv2⟩ := valid_step (t.drop i) hpos hv
      obtain ⟨x, hx, hgx⟩ := pieceR_good (t.drop i) hpos
      have hpr := pieceR_rng (t.drop i) hpos
      have hdl : (t.drop i).length = t.length - i := by simp
      have hcons := runesN_cons (t.drop i) hpos
      rw [List.drop_drop] at hv2 hcons
      rw [hcons, hx, Int.toNat_natCast, List.map_cons] at hrs
      refine wlnext_yes hIt hi fun w7 hI7 hl7 => ?_
      rw [decode_right t i hr, hx, Int.toNat_natCast] at hI7 ⊢
      dsimp only at hI7 ⊢
      generalize (pieceR (t.drop i)).2.1 = m at *
      replace hS := hS.nextIt 1 rfl hl7 hI7
      replace hS : Sep w w7 [pRow 1 q out.length c (rs32 out), pIt r t (i + m)] := hS
      clear hIt hI7 hl7
      refine sgo ?_
      refine wlpure (inPlain_ok x hgx _) fun w8 hf8 => ?_
      replace hS := hS.grow hf8
      refine sgo ?_
      refine sb1i hS fun b2 w9 hS => ?_
      refine sgo ?_
      refine sapp hS 1 (hS.own 0 rfl).sg fun p' c' w10 hS => ?_
      replace hS := hS.tail
      rw [rs32_app1] at hS
      have hn' : out.length + 1 = (out ++ [plainR x]).length := by simp
      rw [hn'] at hS ⊢
      refine sgo ?_
      refine ⟨(i + m, out ++ [plainR x], p', c'), ⟨rfl, rfl, trivial⟩, ⟨by dsimp only; omega, hv2, by rw [hrs]; simp, hS⟩, by dsimp only; omega⟩
    · obtain rfl : i = t.length := by omega
      rw [List.drop_length, runesN_nil, List.map_nil, List.append_nil] at hrs
      refine wlnext_no hIt (by omega) ?_
      refine sgo ?_
      rw [hrs]
      exact ⟨(q, c), ⟨rfl, trivial⟩, hS.sub (List.Sublist.cons_cons _ (List.nil_sublist _))⟩
  · clear hS
    rintro ⟨q, c⟩ w7 ρ hS
    dsimp only at hS ⊢
    generalize (runesN t).map plainR = L at *
    refine sgo ?_
    refine wl ?_ (y_r2s (rs := L) hgp (hS.row 0 rfl).sg rfl)
    refine sgo ?_
    have hf := hS.frm
    (first | refine fp1 (.inl rfl) rfl rfl ?_ | refine fp2 (.inl rfl) rfl rfl rfl ?_ | refine fp3 (.inl rfl) rfl rfl rfl rfl ?_ | refine fp0 (.inr rfl) rfl ?_ | refine fp0 (.inl rfl) rfl ?_ | refine fp1 (.inr rfl) rfl rfl ?_); refine ⟨?_, by (first | exact Frm.refl _ | assumption | exact Go.Sv.Sep.frm (by assumption) | (refine Frm.trans ?_ (by assumption); first | exact Frm.refl _ | assumption))⟩; (try simp only [realB, rv_true, Nat.reduceBEq, cond_true, cond_false, entG, real_lif, updGL])
    all_goals rfl
set_option maxHeartbeats 2000000 in
theorem refClean_ok (s : List UInt8) (hb : s.length ≤ 200000000) (w : World) : PureC Tryd.prog 17 #[str s] w (str (cleanR s)) := by
  have hgp : ∀ r ∈ (runesN s).map plainR, Good r := plainR_good_all s
  have hgd := runesN_good s
  have htl := runesN_len s
  unfold cleanR
  refine enter (l := [str s]) Tryd.func17 rfl Tryd.ntmps17 (by kernel_rfl) rfl ?_
  refine sgo ?_
  refine wls2b rfl (by omega) fun b c w1 hb1 hc1 hc2 hI hf1 => ?_
  refine wlcall (refRunes_ok s _ _ _ rfl hc1 (by omega) _ hI) ?_
  rintro v w2 ⟨hf2, q, cc, rfl, hR, hq⟩
  have hS : Sep w w2 [pRow 1 q (runesN s).length cc (rs32 (runesN s))] := ((Sep.start w).grow hf1).push hf2 hR (by simpa [pRow] using hq)
  replace hS := (hS.nilRow 1)
  clear hI hR hf1 hf2
  generalize runesN s = R at *
  refine sgo ?_
  refine wcloop (X := Nat × Option Addr × Nat) (fun x => [(3, .slice x.2.1 ((R.take x.1).map plainR).length x.2.2), (8, .slice q R.length cc), (9, int R.length), (10, int x.1)])
    (fun x w' => x.1 ≤ R.length ∧ Sep w w' [pRow 1 x.2.1 ((R.take x.1).map plainR).length x.2.2 (rs32 ((R.take x.1).map plainR)), pRow 1 q R.length cc (rs32 R)]) (fun x => R.length - x.1) (0, none, 0) ⟨rfl, rfl, rfl, rfl, trivial⟩ ⟨Nat.zero_le _, hS⟩ ?_
  clear hS
  rintro ⟨i, p, c0⟩ wr ρ ⟨hil, hS⟩
  dsimp only at hil hS ⊢
  have hol : ((R.take i).map plainR).length ≤ R.length := by simp; omega
  have hrl := rs32_length R
  refine sgo ?_
  (show WC _ _ _ _ _ _ _; first | refine WC_dec rfl (fun hc => ?_) (fun hc => ?_) | refine WC_cond rfl (fun hc => ?_) (fun hc => ?_))
  · have hlt : i < R.length := by omega
    have hx : R[i]? = some R[i] := List.getElem?_eq_getElem hlt
    have hcell := rs32_get hx
    have hgx := hgd _ (List.getElem_mem hlt)
    have hqs : ∃ a, q = some a := (hS.row 1 rfl).sg.some (by omega)
    have htk : (R.take (i + 1)).map plainR = (R.take i).map plainR ++ [plainR R[i]] := by rw [List.take_add_one, hx, List.map_append]; rfl
    generalize R[i] = x at *
    generalize (R.take i).map plainR = out at *
    clear hc
    refine sgo ?_
    refine wlpure (refPlain_ok x hgx _) fun w8 hf8 => ?_
    replace hS := hS.grow hf8
    refine sgo ?_
    refine sb1i hS fun b2 w9 hS => ?_
    refine sgo ?_
    refine sapp hS 1 (hS.own 0 rfl).sg fun p' c' w10 hS => ?_
    replace hS := hS.tail
    rw [rs32_app1] at hS
    have hn' : out.length + 1 = (out ++ [plainR x]).length := by simp
    rw [hn', ← htk] at hS ⊢
    refine sgo ?_
    exact ⟨(i + 1, p', c'), ⟨rfl, rfl, rfl, rfl, trivial⟩, ⟨by dsimp only; omega, hS⟩, by dsimp only; omega⟩
  · obtain rfl : i = R.length := by omega
    rw [List.take_length] at hS ⊢
    have hl : (R.map plainR).length ≤ 1073741824 := by simp; omega
    generalize R.map plainR = L at *
    refine sgo ?_
    refine wlpure (refText_ok L p c0 hl hgp _ (hS.im 0 rfl)) fun w8 hf8 => ?_
    refine sgo ?_
    have hf := hS.frm.trans hf8
    clear hf8
    (first | refine fp1 (.inl rfl) rfl rfl ?_ | refine fp2 (.inl rfl) rfl rfl rfl ?_ | refine fp3 (.inl rfl) rfl rfl rfl rfl ?_ | refine fp0 (.inr rfl) rfl ?_ | refine fp0 (.inl rfl) rfl ?_ | refine fp1 (.inr rfl) rfl rfl ?_); refine ⟨?_, by (first | exact Frm.refl _ | assumption | exact Go.Sv.Sep.frm (by assumption) | (refine Frm.trans ?_ (by assumption); first | exact Frm.refl _ | assumption))⟩; (try simp only [realB, rv_true, Nat.reduceBEq, cond_true, cond_false, entG, real_lif, updGL])
    all_goals rfl
end Go.Proofs.YtjpnhaaneaikbaaDoor

/-
  Packages token and sieveref07: which texts and names may be.
-/
set_option linter.unusedSimpArgs false
set_option linter.unusedVariables false
set_option linter.unnecessarySimpa false
namespace Go.Proofs.YtjpnhaaneaikbaaDoor
open Go Go.Sv Go.RowKit

def blankR (c : Nat) : Bool := decide (c = 9 ∨ c = 10 ∨ c = 12 ∨ c = 32)
def stopR (c : Nat) : Bool := decide (c = 0 ∨ c = 9 ∨ c = 10 ∨ c = 12 ∨ c = 32 ∨ c = 47 ∨ c = 62 ∨ (65 ≤ c ∧ c ≤ 90))
/-- a byte that may not stand at a name's place i -/
def badR (attr : Bool) (l : List UInt8) (i : Nat) : Bool := stopR (at0 l i) || (attr && (decide (0 < i) && decide (at0 l i = 61)))
/-- may a name be? -/
def nameR (attr : Bool) (l : List UInt8) : Bool :=
  validR l && !decide (l = []) && (attr || (decide (97 ≤ at0 l 0) && decide (at0 l 0 ≤ 122))) && (List.range l.length).all fun i => !badR attr l i

end Go.Proofs.YtjpnhaaneaikbaaDoor

/-
  Package sieveref07: names of tags and attributes.
-/
set_option linter.unusedSimpArgs false
set_option linter.unusedVariables false
set_option linter.unnecessarySimpa false
namespace Go.Proofs.YtjpnhaaneaikbaaDoor
open Go Go.Sv Go.RowKit














































































































end Go.Proofs.YtjpnhaaneaikbaaDoor

/-
  Attributes: which may be.
-/
set_option linter.unusedSimpArgs false
set_option linter.unusedVariables false
set_option linter.unnecessarySimpa false
namespace Go.Proofs.YtjpnhaaneaikbaaDoor
open Go Go.Sv Go.RowKit

structure At where
  n : List UInt8
  v : List UInt8
  deriving DecidableEq
def At.cells (x : At) : List Value := [str x.n, str x.v]
theorem At.len (x : At) : x.cells.length = 2 := rfl
def At.small (x : At) : Prop := x.n.length ≤ 1048576 ∧ x.v.length ≤ 1048576
def atOk (x : At) : Bool := nameR true x.n && validR x.v
def attrsF : List (List UInt8) → List At → Bool
  | _, [] => true
  | seen, a :: es => (atOk a && !decide (a.n ∈ seen)) && attrsF (seen ++ [a.n]) es
/-- may attributes be? -/
def attrsR (l : List At) : Bool := attrsF [] l

















































































































































































end Go.Proofs.YtjpnhaaneaikbaaDoor

/-
  Tokens: which may be.
-/
set_option linter.unusedSimpArgs false
set_option linter.unusedVariables false
set_option linter.unnecessarySimpa false
namespace Go.Proofs.YtjpnhaaneaikbaaDoor
open Go Go.Sv Go.RowKit

structure Tok where
  kind : Int
  name : List UInt8
  text : List UInt8
  attrs : List At
  self : Bool
  a : Int
  b : Int
  d : Int
  deriving DecidableEq
def Tok.cells (t : Tok) (p : Option Addr) (c : Nat) : List Value := [int t.kind, str t.name, str t.text, .slice p t.attrs.length c, .bool t.self, int t.a, int t.b, int t.d]
structure Tok.small (t : Tok) : Prop where
  name : t.name.length ≤ 1048576
  text : t.text.length ≤ 1048576
  attrs : t.attrs.length ≤ 1048576
  each : ∀ x ∈ t.attrs, x.small
def bareR (t : Tok) : Bool := decide (t.name = []) && (decide (t.attrs.length = 0) && !t.self)
/-- may a token be? -/
def mayR (t : Tok) : Bool :=
  if t.kind = 0 then bareR t && (!decide (t.text = []) && validR t.text)
  else if t.kind = 1 then nameR false t.name && (decide (t.text = []) && attrsR t.attrs)
  else if t.kind = 2 then nameR false t.name && (decide (t.text = []) && (decide (t.attrs.length = 0) && !t.self))
  else if t.kind = 3 then bareR t && validR t.text
  else if t.kind = 4 then bareR t && decide (t.text = [])
  else false













































































































































































































































end Go.Proofs.YtjpnhaaneaikbaaDoor

/-
  DERIVED: THE SHELF's CONTRACTS AT THIS DUMP, IN PLAIN WORDS (tools/lay-plain.mjs out of 'TrydShelf.lean', which tools/lay-shelf.mjs wrote): THE SAME DECLARATIONS UNDER THE SAME NAMES: 'import', 'namespace', 'open', 'def', 'theorem' AND NOTHING ELSE: no command of the shelf's: FOR A HAND-IN. Each laying: the table of numbers ('.._ren') and one theorem, a field a fact of the dump's own or the kernel's comparison; each contract: ONE APPLICATION.
-/
namespace Go.Proofs
open Go.Shelf
def Tryd.lays169_ren : Go.Shelf.Ren := ⟨fun | 169 => 64 | n => n, fun | 70 => 83 | 9 => 9 | 0 => 0 | 72 => 85 | 37 => 39 | 127 => 99 | 3 => 3 | 5 => 5 | n => n, fun | n => n⟩
theorem Tryd.lays169 : Go.Proofs.Lays.n169 Tryd.prog Tryd.lays169_ren := {
  mixed := by kernel_rfl
  f169 := Tryd.func64.trans (congrArg some (by kernel_rfl))
  t0 := Tryd.underlying0
  a0 := Tryd.isAgg0
  z0 := Tryd.sizeOf0
  v0 := Tryd.zeroValue0
  t3 := Tryd.underlying3
  a3 := Tryd.isAgg3
  z3 := Tryd.sizeOf3
  v3 := Tryd.zeroValue3
  t9 := Tryd.underlying9
  a9 := Tryd.isAgg9
  z9 := Tryd.sizeOf9
  v9 := Tryd.zeroValue9
  t37 := Tryd.underlying39
  a37 := Tryd.isAgg39
  z37 := Tryd.sizeOf39
  v37 := Tryd.zeroValue39
  t70 := Tryd.underlying83
  a70 := Tryd.isAgg83
  z70 := Tryd.sizeOf83
  v70 := Tryd.zeroValue83
  t72 := Tryd.underlying85
  a72 := Tryd.isAgg85
  z72 := Tryd.sizeOf85
  v72 := Tryd.zeroValue85
  t127 := Tryd.underlying99
  a127 := Tryd.isAgg99
  z127 := Tryd.sizeOf99
  v127 := Tryd.zeroValue99 }
theorem Tryd.Builder_Extra_169 : Builder.Extra Tryd.prog Tryd.lays169_ren := {
  sizeBuilder := by kernel_rfl
  liesBuilder := by kernel_rfl
  t5 := Tryd.underlying5
  a5 := Tryd.isAgg5
  z5 := Tryd.sizeOf5
  v5 := Tryd.zeroValue5
  infoByte := by kernel_rfl
  cellsByte := by kernel_rfl
  sizeByte := by kernel_rfl
  neB5 := by decide }
open Go.RowKit in
/-- (*strings.Builder).String: "String returns the accumulated string.": WHATEVER THE BUILDER HOLDS. (LAID: no walk: one application.) -/
theorem Tryd.Builder_String_any (B b : Nat) (l : List UInt8) (w : World) (h : Lib.IsBuilder 85 5 B b (Lib.byteCells l) w) (hBw : B ≤ w.heap.size) :
    Calls Tryd.prog 64 #[.pointer (some ⟨b, 0, none⟩)] w fun e w' => e = .returned (.string ⟨l.toArray⟩) ∧ Below B w w' := Any.Builder_String_any Tryd.lays169 Tryd.Builder_Extra_169 B b l w h hBw
def Tryd.lays241_ren : Go.Shelf.Ren := ⟨fun | 241 => 74 | 277 => 84 | n => n, fun | 70 => 83 | 3 => 3 | 0 => 0 | 72 => 85 | 37 => 39 | 5 => 5 | n => n, fun | n => n⟩
theorem Tryd.lays241 : Go.Proofs.Lays.n241 Tryd.prog Tryd.lays241_ren := {
  mixed := by kernel_rfl
  f241 := Tryd.func74.trans (congrArg some (by kernel_rfl))
  f277 := Tryd.func84.trans (congrArg some (by kernel_rfl))
  t0 := Tryd.underlying0
  a0 := Tryd.isAgg0
  z0 := Tryd.sizeOf0
  v0 := Tryd.zeroValue0
  t3 := Tryd.underlying3
  a3 := Tryd.isAgg3
  z3 := Tryd.sizeOf3
  v3 := Tryd.zeroValue3
  t37 := Tryd.underlying39
  a37 := Tryd.isAgg39
  z37 := Tryd.sizeOf39
  v37 := Tryd.zeroValue39
  t70 := Tryd.underlying83
  a70 := Tryd.isAgg83
  z70 := Tryd.sizeOf83
  v70 := Tryd.zeroValue83
  t72 := Tryd.underlying85
  a72 := Tryd.isAgg85
  z72 := Tryd.sizeOf85
  v72 := Tryd.zeroValue85 }
theorem Tryd.Builder_Extra_241 : Builder.Extra Tryd.prog Tryd.lays241_ren := {
  sizeBuilder := by kernel_rfl
  liesBuilder := by kernel_rfl
  t5 := Tryd.underlying5
  a5 := Tryd.isAgg5
  z5 := Tryd.sizeOf5
  v5 := Tryd.zeroValue5
  infoByte := by kernel_rfl
  cellsByte := by kernel_rfl
  sizeByte := by kernel_rfl
  neB5 := by decide }
open Go.RowKit in
/-- (*strings.Builder).grow (no doc but "grow copies the buffer to a new, larger buffer so that there are at least n bytes of capacity beyond len(b.buf)."): AT A BUILDER WITHOUT A BUFFER: a new row of whatever bytes for its buffer, none of them its own yet. Three draws. (LAID: no walk: one application.) -/
theorem Tryd.Builder_grow_fresh (B b n : Nat) (w : World) (hB : B ≤ b) (hbk : w.heap[b]? = some (.cells #[.pointer (some ⟨b, 0, none⟩), .slice none 0 0] 85 (0, 0))) (hBw : B ≤ w.heap.size) (hn : n ≤ 281474976710656) :
    Calls Tryd.prog 74 #[.pointer (some ⟨b, 0, none⟩), .int .i64 n] w fun e w' => e = .returned (.tuple #[]) ∧ (Lib.BuilderAt 85 5 B b (.pointer (some ⟨b, 0, none⟩)) [] w' ∧ Below B w w') := Any.Builder_grow_fresh Tryd.lays241 Tryd.Builder_Extra_241 B b n w hB hbk hBw hn
def Tryd.lays165_ren : Go.Shelf.Ren := ⟨fun | 165 => 62 | 240 => 73 | 241 => 74 | 276 => 83 | 277 => 84 | n => n, fun | 70 => 83 | 3 => 3 | 0 => 0 | 4 => 4 | 9 => 9 | 20 => 20 | 72 => 85 | 37 => 39 | 164 => 106 | 5 => 5 | n => n, fun | n => n⟩
def Tryd.lays156_ren : Go.Shelf.Ren := ⟨fun | 156 => 51 | 165 => 62 | 166 => 63 | 169 => 64 | 240 => 73 | 241 => 74 | 276 => 83 | 277 => 84 | n => n, fun | 31 => 23 | 9 => 9 | 3 => 3 | 4 => 4 | 0 => 0 | 20 => 20 | 72 => 85 | 76 => 89 | 70 => 83 | 37 => 39 | 75 => 88 | 127 => 99 | 164 => 106 | 5 => 5 | 80 => 91 | n => n, fun | n => n⟩
def Tryd.lays211_ren : Go.Shelf.Ren := ⟨fun | 211 => 65 | 207 => 75 | n => n, fun | 9 => 9 | 4 => 4 | 3 => 3 | n => n, fun | n => n⟩
def Tryd.lays104_ren : Go.Shelf.Ren := ⟨fun | 104 => 53 | 211 => 65 | 207 => 75 | n => n, fun | 9 => 9 | 4 => 4 | 24 => 54 | 3 => 3 | n => n, fun | n => n⟩
theorem Tryd.lays104 : Go.Proofs.Lays.n104 Tryd.prog Tryd.lays104_ren := {
  mixed := by kernel_rfl
  f104 := Tryd.func53.trans (congrArg some (by kernel_rfl))
  f207 := Tryd.func75.trans (congrArg some (by kernel_rfl))
  f211 := Tryd.func65.trans (congrArg some (by kernel_rfl))
  t3 := Tryd.underlying3
  a3 := Tryd.isAgg3
  z3 := Tryd.sizeOf3
  v3 := Tryd.zeroValue3
  t4 := Tryd.underlying4
  a4 := Tryd.isAgg4
  z4 := Tryd.sizeOf4
  v4 := Tryd.zeroValue4
  t9 := Tryd.underlying9
  a9 := Tryd.isAgg9
  z9 := Tryd.sizeOf9
  v9 := Tryd.zeroValue9
  t24 := Tryd.underlying54
  a24 := Tryd.isAgg54
  z24 := Tryd.sizeOf54
  v24 := Tryd.zeroValue54 }
open Go.RowKit in
/-- strings.CutSuffix: "CutSuffix returns s without the provided ending suffix string and reports whether it found the suffix. If s doesn't end with suffix, CutSuffix returns s, false. If suffix is the empty string, CutSuffix returns s, true.": IT RETURNS '(Lib.trimSuffix s p, Lib.hasSuffix s p)'; the world is as it was. (LAID: no walk: one application.) -/
theorem Tryd.strings_CutSuffix (s p : ByteArray) (w : World) (hs : s.size ≤ 9223372036854775807) :
    Calls Tryd.prog 53 #[.string s, .string p] w fun e w' => e = .returned (.tuple #[.string ⟨(Lib.trimSuffix s.data.toList p.data.toList).toArray⟩, .bool (Lib.hasSuffix s.data.toList p.data.toList)]) ∧ w' = w := Any.strings_CutSuffix Tryd.lays104 s p w hs
def Tryd.lays195_ren : Go.Shelf.Ren := ⟨fun | 195 => 87 | n => n, fun | 9 => 9 | 3 => 3 | 0 => 0 | 4 => 4 | n => n, fun | n => n⟩
def Tryd.lays217_ren : Go.Shelf.Ren := ⟨fun | 217 => 93 | 266 => 97 | n => n, fun | 9 => 9 | 5 => 5 | 3 => 3 | n => n, fun | n => n⟩
def Tryd.lays224_ren : Go.Shelf.Ren := ⟨fun | 224 => 95 | n => n, fun | 3 => 3 | n => n, fun | n => n⟩
def Tryd.lays314_ren : Go.Shelf.Ren := ⟨fun | 314 => 98 | n => n, fun | 9 => 9 | 51 => 47 | 3 => 3 | 4 => 4 | 5 => 5 | 46 => 42 | n => n, fun | n => n⟩
def Tryd.lays267_ren : Go.Shelf.Ren := ⟨fun | 267 => 96 | 314 => 98 | n => n, fun | 9 => 9 | 3 => 3 | 146 => 118 | 51 => 47 | 4 => 4 | 5 => 5 | 46 => 42 | n => n, fun | n => n⟩
def Tryd.lays219_ren : Go.Shelf.Ren := ⟨fun | 219 => 90 | 217 => 93 | 225 => 94 | 224 => 95 | 267 => 96 | 266 => 97 | 314 => 98 | n => n, fun | 9 => 9 | 3 => 3 | 4 => 4 | 5 => 5 | 46 => 42 | 146 => 118 | 51 => 47 | n => n, fun | 1 => 1 | n => n⟩
def Tryd.lays143_ren : Go.Shelf.Ren := ⟨fun | 143 => 81 | 219 => 90 | 217 => 93 | 225 => 94 | 224 => 95 | 267 => 96 | 266 => 97 | 314 => 98 | n => n, fun | 9 => 9 | 3 => 3 | 4 => 4 | 5 => 5 | 46 => 42 | 146 => 118 | 51 => 47 | n => n, fun | 1 => 1 | n => n⟩
def Tryd.lays138_ren : Go.Shelf.Ren := ⟨fun | 138 => 80 | 195 => 87 | 218 => 89 | 143 => 81 | 219 => 90 | 217 => 93 | 225 => 94 | 224 => 95 | 267 => 96 | 266 => 97 | 314 => 98 | n => n, fun | 9 => 9 | 3 => 3 | 4 => 4 | 5 => 5 | 0 => 0 | 46 => 42 | 146 => 118 | 51 => 47 | n => n, fun | 1 => 1 | n => n⟩
def Tryd.laysM219_ren : Go.Shelf.Ren := ⟨fun | 219 => 90 | 217 => 93 | 225 => 94 | 224 => 95 | 267 => 96 | 266 => 97 | 314 => 98 | n => n, fun | 9 => 9 | 3 => 3 | 4 => 4 | 5 => 5 | 46 => 42 | 146 => 118 | 51 => 47 | n => n, fun | 1 => 1 | n => n⟩
def Tryd.laysM143_ren : Go.Shelf.Ren := ⟨fun | 143 => 81 | 219 => 90 | 217 => 93 | 225 => 94 | 224 => 95 | 267 => 96 | 266 => 97 | 314 => 98 | n => n, fun | 9 => 9 | 3 => 3 | 4 => 4 | 5 => 5 | 46 => 42 | 146 => 118 | 51 => 47 | n => n, fun | 1 => 1 | n => n⟩
def Tryd.laysM138_ren : Go.Shelf.Ren := ⟨fun | 138 => 80 | 195 => 87 | 218 => 89 | 143 => 81 | 219 => 90 | 217 => 93 | 225 => 94 | 224 => 95 | 267 => 96 | 266 => 97 | 314 => 98 | n => n, fun | 9 => 9 | 3 => 3 | 4 => 4 | 5 => 5 | 0 => 0 | 46 => 42 | 146 => 118 | 51 => 47 | n => n, fun | 1 => 1 | n => n⟩
def Tryd.lays207_ren : Go.Shelf.Ren := ⟨fun | 207 => 75 | n => n, fun | 9 => 9 | 4 => 4 | 3 => 3 | n => n, fun | n => n⟩
def Tryd.lays221_ren : Go.Shelf.Ren := ⟨fun | 221 => 69 | 268 => 79 | 138 => 80 | 143 => 81 | 195 => 87 | 197 => 88 | 218 => 89 | 219 => 90 | 260 => 92 | 217 => 93 | 225 => 94 | 224 => 95 | 267 => 96 | 266 => 97 | 314 => 98 | n => n, fun | 9 => 9 | 3 => 3 | 31 => 23 | 4 => 4 | 0 => 0 | 105 => 110 | 21 => 21 | 5 => 5 | 46 => 42 | 119 => 114 | 139 => 117 | 138 => 116 | 146 => 118 | 51 => 47 | n => n, fun | 1 => 1 | 3 => 2 | 4 => 3 | n => n⟩
def Tryd.lays146_ren : Go.Shelf.Ren := ⟨fun | 146 => 56 | 221 => 69 | 268 => 79 | 138 => 80 | 143 => 81 | 195 => 87 | 197 => 88 | 218 => 89 | 219 => 90 | 260 => 92 | 217 => 93 | 225 => 94 | 224 => 95 | 267 => 96 | 266 => 97 | 314 => 98 | n => n, fun | 9 => 9 | 31 => 23 | 3 => 3 | 4 => 4 | 0 => 0 | 105 => 110 | 21 => 21 | 5 => 5 | 46 => 42 | 119 => 114 | 139 => 117 | 138 => 116 | 146 => 118 | 51 => 47 | n => n, fun | 1 => 1 | 3 => 2 | 4 => 3 | n => n⟩
theorem Tryd.lays146 : Go.Proofs.Lays.n146 Tryd.prog Tryd.lays146_ren := {
  mixed := by kernel_rfl
  f138 := Tryd.func80.trans (congrArg some (by kernel_rfl))
  f143 := Tryd.func81.trans (congrArg some (by kernel_rfl))
  f146 := Tryd.func56.trans (congrArg some (by kernel_rfl))
  f195 := Tryd.func87.trans (congrArg some (by kernel_rfl))
  f197 := Tryd.func88.trans (congrArg some (by kernel_rfl))
  f217 := Tryd.func93.trans (congrArg some (by kernel_rfl))
  f218 := Tryd.func89.trans (congrArg some (by kernel_rfl))
  f219 := Tryd.func90.trans (congrArg some (by kernel_rfl))
  f221 := Tryd.func69.trans (congrArg some (by kernel_rfl))
  f224 := Tryd.func95.trans (congrArg some (by kernel_rfl))
  f225 := Tryd.func94.trans (congrArg some (by kernel_rfl))
  f260 := Tryd.func92.trans (congrArg some (by kernel_rfl))
  f266 := Tryd.func97.trans (congrArg some (by kernel_rfl))
  f267 := Tryd.func96.trans (congrArg some (by kernel_rfl))
  f268 := Tryd.func79.trans (congrArg some (by kernel_rfl))
  f314 := Tryd.func98.trans (congrArg some (by kernel_rfl))
  t0 := Tryd.underlying0
  a0 := Tryd.isAgg0
  z0 := Tryd.sizeOf0
  v0 := Tryd.zeroValue0
  t3 := Tryd.underlying3
  a3 := Tryd.isAgg3
  z3 := Tryd.sizeOf3
  v3 := Tryd.zeroValue3
  t4 := Tryd.underlying4
  a4 := Tryd.isAgg4
  z4 := Tryd.sizeOf4
  v4 := Tryd.zeroValue4
  t5 := Tryd.underlying5
  a5 := Tryd.isAgg5
  z5 := Tryd.sizeOf5
  v5 := Tryd.zeroValue5
  t9 := Tryd.underlying9
  a9 := Tryd.isAgg9
  z9 := Tryd.sizeOf9
  v9 := Tryd.zeroValue9
  t21 := Tryd.underlying21
  a21 := Tryd.isAgg21
  z21 := Tryd.sizeOf21
  v21 := Tryd.zeroValue21
  t31 := Tryd.underlying23
  a31 := Tryd.isAgg23
  z31 := Tryd.sizeOf23
  v31 := Tryd.zeroValue23
  t46 := Tryd.underlying42
  a46 := Tryd.isAgg42
  z46 := Tryd.sizeOf42
  v46 := Tryd.zeroValue42
  t51 := Tryd.underlying47
  a51 := Tryd.isAgg47
  z51 := Tryd.sizeOf47
  v51 := Tryd.zeroValue47
  t105 := Tryd.underlying110
  a105 := Tryd.isAgg110
  z105 := Tryd.sizeOf110
  v105 := Tryd.zeroValue110
  t119 := Tryd.underlying114
  a119 := Tryd.isAgg114
  z119 := Tryd.sizeOf114
  t138 := Tryd.underlying116
  a138 := Tryd.isAgg116
  z138 := Tryd.sizeOf116
  v138 := Tryd.zeroValue116
  t139 := Tryd.underlying117
  a139 := Tryd.isAgg117
  z139 := Tryd.sizeOf117
  v139 := Tryd.zeroValue117
  t146 := Tryd.underlying118
  a146 := Tryd.isAgg118
  z146 := Tryd.sizeOf118
  v146 := Tryd.zeroValue118
  g1 := by kernel_rfl
  g3 := by kernel_rfl
  g4 := by kernel_rfl }
open Go.RowKit Go.Lib in
/-- strings.Split. (LAID: no walk: one application.) -/
theorem Tryd.strings_Split (s sep : ByteArray) (m : Int) (w : World) (hs : s.size < 4294967281) (hm : w.cell? ⟨1, 0, none⟩ = some (.int .i64 m)) (h1 : 1 ≤ sep.size) :
    Calls Tryd.prog 56 #[.string s, .string sep] w fun e w' =>
      e = .returned (.slice (some ⟨w.heap.size, 0, none⟩) (Lib.countB s sep + 1) (Lib.countB s sep + 1)) ∧ w' = w.alloc (.cells ((Lib.splitB sep 0 (Lib.countB s sep) s).map Value.string).toArray 9) := Any.strings_Split Tryd.lays146 (by kernel_rfl) s sep m w hs hm h1
def Tryd.laysM146_ren : Go.Shelf.Ren := ⟨fun | 146 => 56 | 221 => 69 | 268 => 79 | 138 => 80 | 143 => 81 | 195 => 87 | 197 => 88 | 218 => 89 | 219 => 90 | 260 => 92 | 217 => 93 | 225 => 94 | 224 => 95 | 267 => 96 | 266 => 97 | 314 => 98 | n => n, fun | 9 => 9 | 31 => 23 | 3 => 3 | 4 => 4 | 0 => 0 | 105 => 110 | 21 => 21 | 5 => 5 | 46 => 42 | 119 => 114 | 139 => 117 | 138 => 116 | 146 => 118 | 51 => 47 | n => n, fun | 1 => 1 | 3 => 2 | 4 => 3 | n => n⟩
theorem Tryd.laysM146 : Go.Proofs.LaysM.n146 Tryd.prog Tryd.laysM146_ren := {
  mixed := by kernel_rfl
  f138 := Tryd.func80.trans (congrArg some (by kernel_rfl))
  f143 := Tryd.func81.trans (congrArg some (by kernel_rfl))
  f146 := Tryd.func56.trans (congrArg some (by kernel_rfl))
  f195 := Tryd.func87.trans (congrArg some (by kernel_rfl))
  f197 := Tryd.func88.trans (congrArg some (by kernel_rfl))
  f217 := Tryd.func93.trans (congrArg some (by kernel_rfl))
  f218 := Tryd.func89.trans (congrArg some (by kernel_rfl))
  f219 := Tryd.func90.trans (congrArg some (by kernel_rfl))
  f221 := Tryd.func69.trans (congrArg some (by kernel_rfl))
  f224 := Tryd.func95.trans (congrArg some (by kernel_rfl))
  f225 := Tryd.func94.trans (congrArg some (by kernel_rfl))
  f260 := Tryd.func92.trans (congrArg some (by kernel_rfl))
  f266 := Tryd.func97.trans (congrArg some (by kernel_rfl))
  f267 := Tryd.func96.trans (congrArg some (by kernel_rfl))
  f268 := Tryd.func79.trans (congrArg some (by kernel_rfl))
  f314 := Tryd.func98.trans (congrArg some (by kernel_rfl))
  t0 := Tryd.underlying0
  a0 := Tryd.isAgg0
  z0 := Tryd.sizeOf0
  v0 := Tryd.zeroValue0
  t3 := Tryd.underlying3
  a3 := Tryd.isAgg3
  z3 := Tryd.sizeOf3
  v3 := Tryd.zeroValue3
  t4 := Tryd.underlying4
  a4 := Tryd.isAgg4
  z4 := Tryd.sizeOf4
  v4 := Tryd.zeroValue4
  t5 := Tryd.underlying5
  a5 := Tryd.isAgg5
  z5 := Tryd.sizeOf5
  v5 := Tryd.zeroValue5
  t9 := Tryd.underlying9
  a9 := Tryd.isAgg9
  z9 := Tryd.sizeOf9
  v9 := Tryd.zeroValue9
  t21 := Tryd.underlying21
  a21 := Tryd.isAgg21
  z21 := Tryd.sizeOf21
  v21 := Tryd.zeroValue21
  t31 := Tryd.underlying23
  a31 := Tryd.isAgg23
  z31 := Tryd.sizeOf23
  v31 := Tryd.zeroValue23
  t46 := Tryd.underlying42
  a46 := Tryd.isAgg42
  z46 := Tryd.sizeOf42
  v46 := Tryd.zeroValue42
  t51 := Tryd.underlying47
  a51 := Tryd.isAgg47
  z51 := Tryd.sizeOf47
  v51 := Tryd.zeroValue47
  t105 := Tryd.underlying110
  a105 := Tryd.isAgg110
  z105 := Tryd.sizeOf110
  v105 := Tryd.zeroValue110
  t119 := Tryd.underlying114
  a119 := Tryd.isAgg114
  z119 := Tryd.sizeOf114
  t138 := Tryd.underlying116
  a138 := Tryd.isAgg116
  z138 := Tryd.sizeOf116
  v138 := Tryd.zeroValue116
  t139 := Tryd.underlying117
  a139 := Tryd.isAgg117
  z139 := Tryd.sizeOf117
  v139 := Tryd.zeroValue117
  t146 := Tryd.underlying118
  a146 := Tryd.isAgg118
  z146 := Tryd.sizeOf118
  v146 := Tryd.zeroValue118
  g1 := by kernel_rfl
  g3 := by kernel_rfl
  g4 := by kernel_rfl
  i0 := by kernel_rfl
  i3 := by kernel_rfl
  i4 := by kernel_rfl
  i5 := by kernel_rfl
  i9 := by kernel_rfl
  i21 := by kernel_rfl
  i31 := by kernel_rfl
  i46 := by kernel_rfl
  i51 := by kernel_rfl
  i105 := by kernel_rfl
  i138 := by kernel_rfl
  i139 := by kernel_rfl
  i146 := by kernel_rfl
  m1 := by kernel_rfl
  s1_3 := fun w h => Go.Proofs.cell_of_shapedOpen_int (zero := #[.int .i64 0]) (t := 3) h (of_decide_eq_true (by kernel_rfl)) (by kernel_rfl) rfl (by kernel_rfl) (by kernel_rfl) Tryd.underlying3
  m3 := by kernel_rfl
  m4 := by kernel_rfl }
def Tryd.lays197_ren : Go.Shelf.Ren := ⟨fun | 197 => 88 | 260 => 92 | n => n, fun | 9 => 9 | 21 => 21 | 3 => 3 | 4 => 4 | 5 => 5 | 105 => 110 | 119 => 114 | 0 => 0 | 46 => 42 | 139 => 117 | 138 => 116 | n => n, fun | 3 => 2 | 4 => 3 | n => n⟩
def Tryd.lays268_ren : Go.Shelf.Ren := ⟨fun | 268 => 79 | 195 => 87 | 197 => 88 | 260 => 92 | n => n, fun | 9 => 9 | 3 => 3 | 31 => 23 | 4 => 4 | 105 => 110 | 21 => 21 | 0 => 0 | 5 => 5 | 119 => 114 | 46 => 42 | 139 => 117 | 138 => 116 | n => n, fun | 3 => 2 | 4 => 3 | n => n⟩
def Tryd.lays260_ren : Go.Shelf.Ren := ⟨fun | 260 => 92 | n => n, fun | 9 => 9 | 21 => 21 | 3 => 3 | 4 => 4 | 5 => 5 | 119 => 114 | 0 => 0 | 46 => 42 | 139 => 117 | 138 => 116 | n => n, fun | 3 => 2 | 4 => 3 | n => n⟩
end Go.Proofs

/-
  Package token: quoted texts; the kinds' words.
-/
set_option linter.unusedSimpArgs false
set_option linter.unusedVariables false
set_option linter.unnecessarySimpa false
namespace Go.Proofs.YtjpnhaaneaikbaaDoor
open Go Go.Sv Go.RowKit

theorem string_ok (B b : Nat) (q : Option Addr) (s : List UInt8) (w : World) (h : Bld TB TY w b q s) (hB : ∀ k ∈ b :: rb q, B ≤ k) (hw : B ≤ w.heap.size) :
    CallsR Tryd.prog 64 #[ptrAt (pb b) 0] w fun v w' => v = str s ∧ Below B w w' := by
  refine Calls.mono (Tryd.Builder_String_any B b s w (h.shelf hB) hw) ?_
  rintro e w' ⟨rfl, hb⟩
  exact ⟨_, rfl, rfl, hb⟩

/-- a byte in a quoted text -/
def esc (c : UInt8) : List UInt8 := if c = 10 then [92, 110] else if c = 9 then [92, 116] else if c = 34 then [92, 34] else if c = 92 then [92, 92] else [c]
def quoteR (l : List UInt8) : List UInt8 := 34 :: l.flatMap esc ++ [34]
def escP (r : Nat) : List UInt8 := if r = 10 then [92, 110] else if r = 9 then [92, 116] else if r = 34 ∨ r = 92 then 92 :: encR r else encR r
end Go.Proofs.YtjpnhaaneaikbaaDoor

/-
  Package token: Print.
-/
set_option linter.unusedSimpArgs false
set_option linter.unusedVariables false
set_option linter.unnecessarySimpa false
namespace Go.Proofs.YtjpnhaaneaikbaaDoor
open Go Go.Sv Go.RowKit

def wText : List UInt8 := [116, 101, 120, 116]
def wStart : List UInt8 := [115, 116, 97, 114, 116]
def wEnd : List UInt8 := [101, 110, 100]
def wComment : List UInt8 := [99, 111, 109, 109, 101, 110, 116]
def wDoctype : List UInt8 := [100, 111, 99, 116, 121, 112, 101]
def wordsV : Value := .agg #[str wText, str wStart, str wEnd, str wComment, str wDoctype]
def wordR (k : Int) : List UInt8 := if k = 0 then wText else if k = 1 then wStart else if k = 2 then wEnd else if k = 3 then wComment else wDoctype










end Go.Proofs.YtjpnhaaneaikbaaDoor

/-
  Package token: Print.
-/
set_option linter.unusedSimpArgs false
set_option linter.unusedVariables false
set_option linter.unnecessarySimpa false
namespace Go.Proofs.YtjpnhaaneaikbaaDoor
open Go Go.Sv Go.RowKit

def atLine (x : At) : List UInt8 := 32 :: quoteR x.n ++ [61] ++ quoteR x.v
/-- the line of a token that may be -/
def headR (t : Tok) : List UInt8 :=
  wordR t.kind ++ (if t.kind = 1 ∨ t.kind = 2 then 32 :: quoteR t.name else if t.kind = 0 ∨ t.kind = 3 then 32 :: quoteR t.text else [])
def lineR (t : Tok) : List UInt8 := headR t ++ t.attrs.flatMap atLine ++ (if t.self then [32, 47] else [])

structure MayF (t : Tok) : Prop where
  kind : 0 ≤ t.kind ∧ t.kind ≤ 4
  name : t.kind = 1 ∨ t.kind = 2 → validR t.name = true
  text : t.kind = 0 ∨ t.kind = 3 → validR t.text = true
  attrs : ∀ x ∈ t.attrs, validR x.n = true ∧ validR x.v = true
end Go.Proofs.YtjpnhaaneaikbaaDoor

/-
  Package sieveref07: Quote and Line; package token: List.
-/
set_option linter.unusedSimpArgs false
set_option linter.unusedVariables false
set_option linter.unnecessarySimpa false
namespace Go.Proofs.YtjpnhaaneaikbaaDoor
open Go Go.Sv Go.RowKit

end Go.Proofs.YtjpnhaaneaikbaaDoor

/-
  sievelaw07: the document's examples.
-/
set_option linter.unusedSimpArgs false
set_option linter.unusedVariables false
set_option linter.unnecessarySimpa false
namespace Go.Sv
open Go Go.RowKit
end Go.Sv
namespace Go.Proofs.YtjpnhaaneaikbaaDoor
open Go Go.Sv Go.RowKit

def exAt : At := ⟨[104, 114, 101, 102], [120, 34, 121]⟩
def exTok : Tok := ⟨1, [97], [], [exAt], false, 0, 0, 0⟩
def exBad : Tok := ⟨1, [65], [], [], false, 0, 0, 0⟩
def exLine : List UInt8 := [115, 116, 97, 114, 116, 32, 34, 97, 34, 32, 34, 104, 114, 101, 102, 34, 61, 34, 120, 92, 34, 121, 34]
end Go.Proofs.YtjpnhaaneaikbaaDoor

