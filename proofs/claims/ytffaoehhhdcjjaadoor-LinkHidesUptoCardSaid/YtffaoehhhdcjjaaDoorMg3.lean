/-
  Our texts SvRef01c, SvMap, SvBld, SvStr, SvBs, SvRune, SvDec, SvRange, joined.
-/
import Derived.Test.YtffaoehhhdcjjaaDoorMg2
import Derived.MapKept
import Derived.Lib.Builder
import Derived.Lib.AppendStr
import Derived.Laws.Externs
/-
  Package sieveref01: Valid; and it says what utf.Valid says.
-/
set_option linter.unusedSimpArgs false
set_option linter.unusedVariables false
set_option linter.unnecessarySimpa false
namespace Go.Proofs.YtffaoehhhdcjjaaDoor
open Go Go.Sv Go.RowKit

def validR (l : List UInt8) : Bool := (piecesR l).all (·.right)

theorem piecesF_len : ∀ (f a : Nat) (l : List UInt8), (piecesF f a l).length ≤ l.length
  | 0, a, l => by simp [piecesF]
  | f + 1, a, l => by
    simp only [piecesF]
    split
    · simp
    · rename_i hne
      have hl : 0 < l.length := List.length_pos_iff.2 hne
      have := pieceR_rng l hl
      have ih := piecesF_len f (a + (pieceR l).2.1) (l.drop (pieceR l).2.1)
      simp only [List.length_cons, List.length_drop] at ih ⊢
      omega
theorem flatMap_cells_drop (l : List Piece) : ∀ (i j : Nat), j < 4 → (l.flatMap Piece.cells)[i * 4 + j]? = (l[i]?).bind fun x => x.cells[j]? := by
  induction l with
  | nil => intro i j _; simp
  | cons x l ih =>
    intro i j hj
    rw [List.flatMap_cons]
    cases i with
    | zero => simp only [Nat.zero_mul, Nat.zero_add]; rw [List.getElem?_append_left (by simpa [Piece.cells] using hj)]; simp
    | succ i =>
      rw [List.getElem?_append_right (by simp [Piece.cells]; omega)]
      have := ih i j hj
      simp only [Piece.cells, List.length_cons, List.length_nil] at this ⊢
      rw [show (i + 1) * 4 + j - (0 + 1 + 1 + 1 + 1) = i * 4 + j from by omega, this]; simp
theorem flatMap_cells_seg (l : List Piece) (i : Nat) (x : Piece) (hx : l[i]? = some x) : ((l.flatMap Piece.cells).drop (i * 4)).take 4 = x.cells := by
  apply List.ext_getElem?
  intro j
  rcases Nat.lt_or_ge j 4 with h | h
  · rw [List.getElem?_take_of_lt h, List.getElem?_drop, flatMap_cells_drop l i j h, hx]; rfl
  · rw [List.getElem?_eq_none (by simp; omega), List.getElem?_eq_none (by simpa [Piece.cells] using h)]
theorem flatMap_cells_len (l : List Piece) : (l.flatMap Piece.cells).length = l.length * 4 := by
  induction l with
  | nil => rfl
  | cons x l ih => simp [List.flatMap_cons, Piece.cells, ih]; omega


















































/-! ## utf.read reads what the reference's piece is -/
theorem rd_good (l : List UInt8) (m : Nat) : ∀ (g f i r : Nat), i + g = m + 1 → 2 ≤ i → i ≤ l.length → g ≤ f →
    rdLoop l m g i r 128 191 = if goodF l (m + 1) f i = m + 1 then (((accR l g i r : Nat) : Int), (m : Int) + 1, 0) else (65533, (goodF l (m + 1) f i : Nat), if goodF l (m + 1) f i = l.length then 2 else 1)
  | 0, f, i, r, h, h2, hl, hf => by
    have e : goodF l (m + 1) f i = i := by cases f with | zero => rfl | succ f => rw [goodF, if_neg (by omega)]
    rw [e, if_pos (by omega), rdLoop, accR]
  | g + 1, 0, i, r, h, h2, hl, hf => by omega
  | g + 1, f + 1, i, r, h, h2, hl, hf => by
    rw [rdLoop]
    by_cases h1 : i = l.length
    · have eg : goodF l (m + 1) (f + 1) i = i := by rw [goodF, if_neg (show ¬ (i < m + 1 ∧ i < l.length) by omega)]
      rw [if_pos h1, eg, if_neg (by omega), if_pos h1]
    · rw [if_neg h1]
      by_cases h3 : (at0 l i : Int) < 128 ∨ 191 < (at0 l i : Int)
      · have eg : goodF l (m + 1) (f + 1) i = i := by rw [goodF, if_pos (show i < m + 1 ∧ i < l.length by omega), if_pos (.inr ⟨by omega, by omega⟩)]
        rw [if_pos h3, eg, if_neg (by omega), if_neg h1]
      · have eg : goodF l (m + 1) (f + 1) i = goodF l (m + 1) f (i + 1) := by rw [goodF, if_pos (show i < m + 1 ∧ i < l.length by omega), if_neg (by omega)]
        rw [if_neg h3, eg]
        have := rd_good l m g f (i + 1) (r * 64 + at0 l i % 64) (by omega) (by omega) (by omega) (by omega)
        have ea : accR l (g + 1) i r = accR l g (i + 1) (r * 64 + at0 l i % 64) := rfl
        rw [ea, ← this]; simp

theorem bsz (c : Nat) (h : 2 ≤ sizeR c) : ∃ lo hi : Nat, boundsS c = ((sizeR c : Int) - 1, (lo : Int), (hi : Int)) ∧ ∀ d, secondR c d = (decide (lo ≤ d) && decide (d ≤ hi)) := by
  have hc : 0xC2 ≤ c ∧ c ≤ 0xF4 := by
    unfold sizeR at h
    by_cases h1 : c < 0x80
    · rw [if_pos h1] at h; omega
    · by_cases h2 : 0xC2 ≤ c ∧ c ≤ 0xF4
      · exact h2
      · rw [if_neg h1, if_neg (by omega), if_neg (by omega), if_neg (by omega)] at h; omega
  by_cases e0 : c = 0xe0
  · subst e0; exact ⟨0xa0, 0xbf, rfl, fun d => rfl⟩
  by_cases e1 : c = 0xed
  · subst e1; exact ⟨0x80, 0x9f, rfl, fun d => rfl⟩
  by_cases e2 : c = 0xf0
  · subst e2; exact ⟨0x90, 0xbf, rfl, fun d => rfl⟩
  by_cases e3 : c = 0xf4
  · subst e3; exact ⟨0x80, 0x8f, rfl, fun d => rfl⟩
  refine ⟨0x80, 0xbf, ?_, fun d => by unfold secondR; rw [if_neg e0, if_neg e1, if_neg e2, if_neg e3]⟩
  unfold boundsS sizeR
  by_cases a : c ≤ 0xdf
  · rw [if_neg (by omega), if_pos (by omega), if_neg (by omega), if_pos (by omega)]; rfl
  · by_cases b : c ≤ 0xef
    · rw [if_neg (by omega), if_neg (by omega), if_neg e0, if_neg e1, if_pos (by omega), if_neg (by omega), if_neg (by omega), if_pos (by omega)]; rfl
    · rw [if_neg (by omega), if_neg (by omega), if_neg e0, if_neg e1, if_neg (by omega), if_neg e2, if_pos (by omega), if_neg (by omega), if_neg (by omega), if_neg (by omega), if_pos (by omega)]; rfl

/-- what it tells besides the piece: whole, wrong or only begun -/
def whatR (l : List UInt8) : Int := if (pieceR l).2.2 then 0 else if 0 < (goodR l).1 ∧ (goodR l).1 = l.length then 2 else 1

theorem readS_piece (l : List UInt8) (h0 : 0 < l.length) : readS l = ((pieceR l).1, ((pieceR l).2.1 : Int), whatR l) := by
  have hc := at0_lt l 0
  by_cases h1 : at0 l 0 < 0x80
  · have hb : boundsS (at0 l 0) = (0, 0, 0) := by unfold boundsS; rw [if_pos h1]
    have hs : sizeR (at0 l 0) = 1 := by unfold sizeR; rw [if_pos h1]
    have hg : goodR l = (1, true) := by
      have e : goodF l 1 4 1 = 1 := by rw [goodF, if_neg (by omega)]
      unfold goodR; rw [hs, if_neg (by omega), e]; rfl
    simp only [readS, whatR, pieceR, hg, hb, firstR]
    simp [accR]
  · by_cases h2 : 2 ≤ sizeR (at0 l 0)
    · obtain ⟨lo, hi, hb, hsec⟩ := bsz _ h2
      have h4 := sizeR_le (at0 l 0)
      obtain ⟨m, hm⟩ : ∃ m, sizeR (at0 l 0) = m + 1 := ⟨sizeR (at0 l 0) - 1, by omega⟩
      have hr : readS l = rdLoop l m m 1 (at0 l 0 % 2 ^ (6 - m) : Nat) lo hi := by
        simp only [readS, hb, hm]
        rw [if_neg (by omega), if_neg (by omega)]
        rw [show ((m + 1 : Nat) : Int) - 1 = (m : Int) from by omega, Int.toNat_natCast]
      have hf : firstR (at0 l 0) (m + 1) = at0 l 0 % 2 ^ (6 - m) := by
        have : m = 1 ∨ m = 2 ∨ m = 3 := by omega
        rcases this with rfl | rfl | rfl <;> simp [firstR]
      have hg : goodR l = (goodF l (m + 1) 4 1, decide (goodF l (m + 1) 4 1 = m + 1)) := by unfold goodR; rw [hm, if_neg (by omega)]
      have key : readS l = if goodF l (m + 1) 4 1 = m + 1 then (((accR l m 1 (firstR (at0 l 0) (m + 1)) : Nat) : Int), (m : Int) + 1, 0) else (65533, (goodF l (m + 1) 4 1 : Nat), if goodF l (m + 1) 4 1 = l.length then 2 else 1) := by
        obtain ⟨g, rfl⟩ : ∃ g, m = g + 1 := ⟨m - 1, by omega⟩
        rw [hr, hf, rdLoop]
        by_cases e1 : 1 = l.length
        · have eg : goodF l (g + 1 + 1) 4 1 = 1 := by rw [goodF, if_neg (show ¬ (1 < g + 1 + 1 ∧ 1 < l.length) by omega)]
          rw [if_pos e1, eg, if_neg (by omega), if_pos e1]
        · rw [if_neg e1]
          have hs1 : secondR (at0 l 0) (at0 l 1) = false ↔ ((at0 l 1 : Int) < lo ∨ (hi : Int) < at0 l 1) := by
            rw [hsec, Bool.and_eq_false_iff, decide_eq_false_iff_not, decide_eq_false_iff_not]; omega
          by_cases e2 : (at0 l 1 : Int) < lo ∨ (hi : Int) < at0 l 1
          · have eg : goodF l (g + 1 + 1) 4 1 = 1 := by rw [goodF, if_pos (show 1 < g + 1 + 1 ∧ 1 < l.length by omega), if_pos (.inl ⟨rfl, hs1.2 e2⟩)]
            rw [if_pos e2, eg, if_neg (by omega), if_neg e1]
          · have eg : goodF l (g + 1 + 1) 4 1 = goodF l (g + 1 + 1) 3 2 := by
              rw [goodF, if_pos (show 1 < g + 1 + 1 ∧ 1 < l.length by omega), if_neg]
              rintro (⟨_, h⟩ | ⟨h, _⟩)
              · exact e2 (hs1.1 h)
              · omega
            rw [if_neg e2, eg]
            have := rd_good l (g + 1) g 3 2 (at0 l 0 % 2 ^ (6 - (g + 1)) * 64 + at0 l 1 % 64) (by omega) (by omega) (by omega) (by omega)
            have ea : accR l (g + 1) 1 (at0 l 0 % 2 ^ (6 - (g + 1))) = accR l g 2 (at0 l 0 % 2 ^ (6 - (g + 1)) * 64 + at0 l 1 % 64) := rfl
            rw [ea, ← this]; simp
      rw [key]
      have hgr := goodF_rng l (m + 1) h0 4 1 (by omega) (by omega)
      by_cases e : goodF l (m + 1) 4 1 = m + 1
      · rw [if_pos e]
        simp only [whatR, pieceR, hg, e]
        simp
      · rw [if_neg e]
        simp only [whatR, pieceR, hg]
        simp only [e, decide_false, Bool.false_eq_true, if_false]
        rw [if_neg (show ¬ goodF l (m + 1) 4 1 = 0 by omega)]
        by_cases e3 : goodF l (m + 1) 4 1 = l.length
        · rw [if_pos e3, if_pos ⟨by omega, e3⟩]
        · rw [if_neg e3, if_neg (by omega)]
    · have hs : sizeR (at0 l 0) = 0 := by
        unfold sizeR at h2 ⊢
        rw [if_neg h1] at h2 ⊢
        repeat' split at h2
        all_goals first | omega | skip
        rw [if_neg (by assumption), if_neg (by assumption), if_neg (by assumption)]
      have hb : boundsS (at0 l 0) = (-1, 0, 0) := by
        have : ¬ (0xC2 ≤ at0 l 0 ∧ at0 l 0 ≤ 0xF4) := by
          intro hh
          unfold sizeR at hs
          rw [if_neg h1] at hs
          repeat' split at hs
          all_goals omega
        unfold boundsS
        rw [if_neg (by omega), if_neg (by omega), if_neg (by omega), if_neg (by omega), if_neg (by omega), if_neg (by omega), if_neg (by omega), if_neg (by omega)]
      have hg : goodR l = (0, false) := by unfold goodR; rw [if_pos hs]
      simp [readS, whatR, pieceR, hg, hb]

theorem whatR_zero (l : List UInt8) : whatR l = 0 ↔ (pieceR l).2.2 = true := by
  unfold whatR
  cases (pieceR l).2.2
  · simp only [Bool.false_eq_true, if_false]; split <;> simp
  · simp
theorem valid_eqF : ∀ (f a : Nat) (l : List UInt8), l.length ≤ f → validF f l = (piecesF f a l).all (·.right)
  | 0, a, l, _ => rfl
  | f + 1, a, l, h => by
    simp only [validF, piecesF]
    split
    · rfl
    · rename_i hne
      have hl : 0 < l.length := List.length_pos_iff.2 hne
      have hp := readS_piece l hl
      have hr := pieceR_rng l hl
      rw [List.all_cons, ← valid_eqF f _ _ (by simp; omega), hp]
      dsimp only
      by_cases hw : whatR l = 0
      · rw [if_neg (by simpa using hw), (whatR_zero l).1 hw]; simp
      · rw [if_pos hw]
        have : (pieceR l).2.2 = false := by
          cases h3 : (pieceR l).2.2 with
          | true => exact absurd ((whatR_zero l).2 h3) hw
          | false => rfl
        rw [this]; rfl
/-- the program's Valid is the reference's -/
theorem valid_eq (l : List UInt8) : validS l = validR l := valid_eqF _ _ _ (Nat.le_refl _)
end Go.Proofs.YtffaoehhhdcjjaaDoor

/-
  Maps with keys that are strings; lists of records in cells.
-/
set_option linter.unusedSimpArgs false
set_option linter.unusedVariables false
set_option linter.unnecessarySimpa false
namespace Go.Sv
open Go Go.RowKit

/-! ## Lists of records -/
section
variable {α : Type} {f : α → List Value} {k : Nat}
theorem fm_len (h : ∀ x, (f x).length = k) (l : List α) : (l.flatMap f).length = l.length * k := by
  induction l with
  | nil => simp
  | cons x l ih => simp [List.flatMap_cons, ih, h, Nat.add_mul]; omega
theorem fm_get (h : ∀ x, (f x).length = k) (l : List α) : ∀ (i j : Nat), j < k → (l.flatMap f)[i * k + j]? = (l[i]?).bind fun x => (f x)[j]? := by
  induction l with
  | nil => intro i j _; simp
  | cons x l ih =>
    intro i j hj
    rw [List.flatMap_cons]
    cases i with
    | zero => simp only [Nat.zero_mul, Nat.zero_add]; rw [List.getElem?_append_left (by rw [h]; exact hj)]; simp
    | succ i =>
      rw [List.getElem?_append_right (by rw [h, Nat.succ_mul]; omega), h, show (i + 1) * k + j - k = i * k + j from by rw [Nat.succ_mul]; omega, ih i j hj]
      simp
theorem fm_seg (h : ∀ x, (f x).length = k) (l : List α) {i : Nat} {x : α} (hx : l[i]? = some x) : ((l.flatMap f).drop (i * k)).take k = f x := by
  apply List.ext_getElem?
  intro j
  rcases Nat.lt_or_ge j k with hj | hj
  · rw [List.getElem?_take_of_lt hj, List.getElem?_drop, fm_get h l i j hj, hx]; rfl
  · rw [List.getElem?_eq_none (by simp; omega), List.getElem?_eq_none (by rw [h]; exact hj)]
end

/-! ## Maps -/
def MMap (w : World) (m : Nat) (kv : List (List UInt8 × Value)) : Prop := ∃ es clock, w.heap[m]? = some (.map es clock) ∧ es.toList.map (fun e => (e.key, e.val)) = kv.map fun x => (str x.1, x.2)
/-- a map to true: a set -/
def MSet (w : World) (m : Nat) (ks : List (List UInt8)) : Prop := MMap w m (ks.map fun k => (k, .bool true))

section
variable {P : Program} {w w' : World} {m : Nat} {kv : List (List UInt8 × Value)} {ks : List (List UInt8)} {s : List UInt8}
theorem MMap.lt (h : MMap w m kv) : m < w.heap.size := by
  obtain ⟨es, cl, h, _⟩ := h
  exact (Array.getElem?_eq_some_iff.1 h).1
theorem MMap.le {M : List Nat} (h : MMap w m kv) (hl : Le M w w') (hm : m ∉ M) : MMap w' m kv := by
  have := h.lt
  obtain ⟨es, cl, h, h2⟩ := h
  exact ⟨es, cl, by rw [hl.block m this hm]; exact h, h2⟩
theorem MMap.frm (h : MMap w m kv) (hl : Frm w w') : MMap w' m kv := h.le (M := []) hl.le (by simp)
theorem MSet.lt (h : MSet w m ks) : m < w.heap.size := MMap.lt h
theorem MSet.le {M : List Nat} (h : MSet w m ks) (hl : Le M w w') (hm : m ∉ M) : MSet w' m ks := MMap.le h hl hm
theorem MSet.frm (h : MSet w m ks) (hl : Frm w w') : MSet w' m ks := MMap.frm h hl

theorem same_str (a b : List UInt8) : Instr.sameNow .string (str a) (str b) = some (decide (a = b)) := by
  simp only [Instr.sameNow]
  congr 1
  show (a.toArray == b.toArray) = decide (a = b)
  simp [lbeq]
theorem find_kv : ∀ (es : List MapEntry) (kv : List (List UInt8 × Value)) (i : Nat), es.map (fun e => (e.key, e.val)) = kv.map (fun x => (str x.1, x.2)) →
    ∃ r, Instr.findNow .string (str s) es i = some r ∧ r.map (·.2) = kv.lookup s
  | [], kv, i, h => by
    have : kv = [] := by simpa using h.symm
    subst this
    exact ⟨none, rfl, rfl⟩
  | e :: es, [], i, h => by simp at h
  | e :: es, x :: kv, i, h => by
    simp only [List.map_cons, List.cons.injEq, Prod.mk.injEq] at h
    obtain ⟨⟨h1, h2⟩, h3⟩ := h
    obtain ⟨r, hr, hr2⟩ := find_kv es kv (i + 1) h3
    simp only [Instr.findNow, h1, same_str]
    by_cases e1 : s = x.1
    · rw [decide_eq_true e1]
      refine ⟨some (i, e.val), rfl, ?_⟩
      subst e1
      simp [List.lookup, h2]
    · rw [decide_eq_false e1]
      refine ⟨r, hr, ?_⟩
      have : (s == x.1) = false := by simpa using e1
      rw [hr2]
      simp [List.lookup, this]
variable {σ : Env} {d : Option Tmp} {ty t t' kt vt : TypeId} {pos : String} {af : Array Edge} {g : Option (Nat × Bool)} {x y z : Operand} {zv : Value} {size bytes : Nat}
theorem y_lookup [hu : Und P t (.map kt vt)] [hk : Und P kt .string] [hi : Inf P vt zv size bytes] (hx : evl σ x = .map (some m)) (hy : evl σ y = str s) (hm : MMap w m kv) :
    Y P σ ⟨d, .lookup t x y false, ty, pos, af, g⟩ w ((kv.lookup s).getD zv) w := by
  refine Y.val ?_
  obtain ⟨es, cl, h1, h2⟩ := hm
  obtain ⟨r, hr, hr2⟩ := find_kv (s := s) es.toList kv 0 h2
  have hc := MapKept.run_checkKey (P := P) (w := w) (k := str s) hk.ok (by simp [MapKept.IsKey]) es.isEmpty 9999
  have hf := MapKept.run_findKey (P := P) (w := w) (kt := kt) hk.ok hr
  rw [← hr2]
  simp only [execOp, hx, hy, Instr.lookup, Sem.run_bind, underlying, run_program, Result.andThen_ok, hu.ok, Sem.run_pure, MapKept.run_getObj_map h1, hc, hf]
  cases r with
  | none => simp [run_zeroValue (P := P) (t := vt)]
  | some r => simp
theorem lookup_set (s : List UInt8) (ks : List (List UInt8)) : ((ks.map fun k => (k, Value.bool true)).lookup s).getD (.bool false) = .bool (decide (s ∈ ks)) := by
  induction ks with
  | nil => simp
  | cons k ks ih =>
    by_cases e : s = k
    · subst e; simp [List.lookup]
    · have : (s == k) = false := by simpa using e
      simp only [List.map_cons, List.lookup, this, ih]
      simp [e]
theorem y_lookset [hu : Und P t (.map kt vt)] [hk : Und P kt .string] [hi : Inf P vt (.bool false) 1 1] (hm : MSet w m ks) (hx : evl σ x = .map (some m)) (hy : evl σ y = str s) :
    Y P σ ⟨d, .lookup t x y false, ty, pos, af, g⟩ w (.bool (decide (s ∈ ks))) w := by
  have := y_lookup (P := P) (d := d) (ty := ty) (pos := pos) (af := af) (g := g) (t := t) hx hy hm
  rwa [lookup_set] at this
theorem run_mapnew [hu : Und P t (.map kt vt)] [hk : Und P kt .string] {v : Value} (hm : MMap w m kv) (hn : kv.lookup s = none) :
    ∃ w', (Instr.mapUpdate t (.map (some m)) (str s) v).run P w = .ok () w' ∧ MMap w' m (kv ++ [(s, v)]) ∧ Le [m] w w' := by
  obtain ⟨es, cl, h1, h2⟩ := hm
  obtain ⟨r, hr, hr2⟩ := find_kv (s := s) es.toList kv 0 h2
  obtain rfl : r = none := by rw [hn] at hr2; simpa using hr2
  have hc := MapKept.run_checkKey (P := P) (w := w) (k := str s) hk.ok (by simp [MapKept.IsKey]) false 9999
  have hf := MapKept.run_findKey (P := P) (w := w) (kt := kt) hk.ok hr
  have hs := MapKept.heap_set (o' := .map (es.push ⟨str s, v, cl⟩) (cl + 1)) h1
  refine ⟨{ w with heap := w.heap.setIfInBounds m (.map (es.push ⟨str s, v, cl⟩) (cl + 1)) }, ?_, ⟨_, _, hs.1, by simp [h2]⟩, ⟨rfl, rfl, rfl, by simp, fun k _ hkm => hs.2 k (by simpa using hkm)⟩⟩
  simp only [Instr.mapUpdate, Sem.run_bind, underlying, run_program, Result.andThen_ok, hu.ok, Sem.run_pure, MapKept.run_getObj_map h1, hc, hf, MapKept.run_setObj_map _ h1]
end
section
variable {P : Program} {n : Nat} {ds : Ctx} {ops : Array Oper} {Q : Exit → Ctx → Env → World → Prop} {rest : List Oper} {σ : GE} {w : World} {v : Value} {d : Nat} {ty t kt vt : TypeId} {pos : String} {af : Array Edge} {x y z : Operand} {m j dj : Nat} {b c want : Bool} {ks : List (List UInt8)} {s : List UInt8}
theorem wlmap (h : ∀ m w', w.heap.size ≤ m → MSet w' m [] → Frm w w' → WL P n ds ops Q rest (real (updG σ d ⟨.map (some m), true⟩)) w') :
    WL P n ds ops Q (⟨some d, .makeMap t none, ty, pos, af, none⟩ :: rest) (real σ) w := by
  refine wl (h w.heap.size (w.alloc (.map #[] 0)) (Nat.le_refl _) ⟨#[], 0, heap_alloc_new w _, rfl⟩ (frm_alloc _ _)) ?_
  refine Y.val ?_
  simp [execOp, Instr.makeMap, newObj]
  rfl
theorem wl_mset [hu : Und P t (.map kt vt)] [hk : Und P kt .string] [hi : Inf P vt (.bool false) 1 1] (hm : MSet w m ks) (h : WL P n ds ops Q rest (real (updG σ d ⟨.bool (decide (s ∈ ks)), true⟩)) w)
    (hx : evl (real σ) x = .map (some m) := by rfl) (hy : evl (real σ) y = str s := by rfl) :
    WL P n ds ops Q (⟨some d, .lookup t x y false, ty, pos, af, none⟩ :: rest) (real σ) w := wl h (y_lookset hm hx hy)
theorem wlg_mset [hu : Und P t (.map kt vt)] [hk : Und P kt .string] [hi : Inf P vt (.bool false) 1 1] (hm : MSet w m ks) (h : WL P n ds ops Q rest (real (updG σ d ⟨.bool (decide (s ∈ ks)), b && (c == want)⟩)) w)
    (hj : (ops[j]?).bind (·.dst) = some dj := by rfl) (hσ : σ dj = ⟨.bool c, b⟩ := by rfl)
    (hx : (b && (c == want)) = true → evl (real σ) x = .map (some m) := by
      intro hgd
      exact evG hgd)
    (hy : (b && (c == want)) = true → evl (real σ) y = str s := by
      intro hgd
      exact evG hgd) :
    WL P n ds ops Q (⟨some d, .lookup t x y false, ty, pos, af, some (j, want)⟩ :: rest) (real σ) w := wlg h hj hσ fun hg => y_lookset hm (hx hg) (hy hg)
theorem lookup_none {ks : List (List UInt8)} (h : s ∉ ks) : (ks.map fun k => (k, Value.bool true)).lookup s = none := by
  induction ks with
  | nil => rfl
  | cons k ks ih =>
    simp only [List.mem_cons, not_or] at h
    have : (s == k) = false := by simpa using h.1
    simp only [List.map_cons, List.lookup, this, ih h.2]
theorem wlmadd [hu : Und P t (.map kt vt)] [hk : Und P kt .string] (hm : MSet w m ks) (hn : s ∉ ks) (h : ∀ w', MSet w' m (ks ++ [s]) → Le [m] w w' → WL P n ds ops Q rest (real σ) w')
    (hx : evl (real σ) x = .map (some m) := by rfl) (hy : evl (real σ) y = str s := by rfl) (hz : evl (real σ) z = .bool true := by rfl) :
    WL P n ds ops Q (⟨none, .mapUpdate t x y z, ty, pos, af, none⟩ :: rest) (real σ) w := by
  obtain ⟨w', h1, h2, h3⟩ := run_mapnew (P := P) (t := t) (v := .bool true) hm (lookup_none hn)
  refine wl0 (h w' (by simpa [MSet] using h2) h3) (Y.skip ?_)
  simp only [execOp, hx, hy, hz]
  rw [Sem.run_bind, h1]
  rfl
end
end Go.Sv

/-
  strings.Builder: a block of two cells and a row of bytes; pointers compared; pointers turned to unsafe ones and back; slices written out.
-/
set_option linter.unusedSimpArgs false
set_option linter.unusedVariables false
set_option linter.unnecessarySimpa false
namespace Go.Sv
open Go Go.RowKit

/-- a builder in block b: it holds s; its bytes lie at q -/
structure BuP (T E : TypeId) (w : World) (b : Nat) (pv q : Option Addr) (c : Nat) (s : List UInt8) : Prop where
  hp : pv = none ∨ pv = pb b
  cell : w.heap[b]? = some (.cells #[.pointer pv, .slice q s.length c] T (0, 0))
  row : w.ownsRow 0 E 1 (.slice q s.length c) s.length (bs s)
  ne : b ∉ rb q
def Bld (T E : TypeId) (w : World) (b : Nat) (q : Option Addr) (s : List UInt8) : Prop := ∃ pv c, BuP T E w b pv q c s

section
variable {P : Program} {T E : TypeId} {w w' : World} {b : Nat} {pv q : Option Addr} {c : Nat} {s : List UInt8} {M : List Nat}
theorem rb_own {q : Option Addr} {n c k : Nat} : (Value.slice q n c).ownBlock = some k ↔ k ∈ rb q := by
  cases q with
  | none => simp [Value.ownBlock, rb]
  | some a => simp only [Value.ownBlock, rb, Option.some.injEq, List.mem_singleton]; exact eq_comm
theorem rowT_lt {B n : Nat} {xs : List Value} (h : w.ownsRow B E 1 (.slice q n c) n xs) : ∀ k ∈ rb q, k < w.heap.size := fun k hk => (h.lt k (rb_own.2 hk)).2
theorem rowT_le {B n : Nat} {xs : List Value} (h : w.ownsRow B E 1 (.slice q n c) n xs) (hl : Le M w w') (hM : ∀ k ∈ rb q, k ∉ M) : w'.ownsRow B E 1 (.slice q n c) n xs := by
  refine ⟨h.1, ?_⟩
  have hlt := rowT_lt h
  rcases h.2 with h1 | ⟨g, cap, cur, hv, h2, h3, h4⟩
  · exact .inl h1
  · refine .inr ⟨g, cap, cur, hv, h2, ?_, h4⟩
    have hg : g ∈ rb q := rb_own.1 (by rw [hv]; rfl)
    rw [hl.block g (hlt g hg) (hM g hg)]; exact h3
theorem rowT_row {B n : Nat} {xs : List Value} (h : w.ownsRow B E 1 (.slice q n c) n xs) : Row w 1 q n c xs := by
  refine ⟨h.1, ?_⟩
  rcases h.2 with ⟨h1, h2⟩ | ⟨g, cap, cur, hv, h2, h3, h4, h5, h6, h7⟩
  · injection h1 with h1 h3 h4
    exact .inl ⟨h1, h2, h4⟩
  · injection hv with h1 h8 h9
    subst h9
    refine .inr ⟨g, 0, cur, E, h1, h3, h4, by simpa [maxLen] using h5, by omega, by simpa using h7⟩
theorem rowT_base {B n : Nat} {xs : List Value} (h : w.ownsRow 0 E 1 (.slice q n c) n xs) (hB : ∀ k ∈ rb q, B ≤ k) : w.ownsRow B E 1 (.slice q n c) n xs := by
  refine ⟨h.1, ?_⟩
  rcases h.2 with h1 | ⟨g, cap, cur, hv, h2, h3⟩
  · exact .inl h1
  · exact .inr ⟨g, cap, cur, hv, hB g (rb_own.1 (by rw [hv]; rfl)), h3⟩

theorem BuP.own (h : BuP T E w b pv q c s) : Own w b [.pointer pv, .slice q s.length c] := ⟨T, h.cell⟩
theorem BuP.le (h : BuP T E w b pv q c s) (hl : Le M w w') (hb : b ∉ M) (hM : ∀ k ∈ rb q, k ∉ M) : BuP T E w' b pv q c s :=
  ⟨h.hp, by rw [hl.block b h.own.lt hb]; exact h.cell, rowT_le h.row hl hM, h.ne⟩
theorem Bld.lt (h : Bld T E w b q s) : ∀ k ∈ b :: rb q, k < w.heap.size := by
  obtain ⟨pv, c, h⟩ := h
  intro k hk
  rcases List.mem_cons.1 hk with rfl | hk
  · exact h.own.lt
  · exact rowT_lt h.row k hk
theorem Bld.le (h : Bld T E w b q s) (hl : Le M w w') (hM : ∀ k ∈ b :: rb q, k ∉ M) : Bld T E w' b q s := by
  obtain ⟨pv, c, h⟩ := h
  exact ⟨pv, c, h.le hl (hM b List.mem_cons_self) fun k hk => hM k (List.mem_cons_of_mem _ hk)⟩
theorem Bld.frm (h : Bld T E w b q s) (hl : Frm w w') : Bld T E w' b q s := h.le (M := []) hl.le (by simp)
/-- a new one -/
theorem Bld.new (ho : w.heap[b]? = some (.cells #[.pointer none, .slice none 0 0] T (0, 0))) : Bld T E w b none [] :=
  ⟨none, 0, .inl rfl, ho, ⟨by simp [bs], .inl ⟨rfl, rfl⟩⟩, by simp [rb]⟩
/-- for the shelf -/
theorem Bld.shelf {B : Nat} (h : Bld T E w b q s) (hB : ∀ k ∈ b :: rb q, B ≤ k) : Lib.IsBuilder T E B b (bs s) w := by
  obtain ⟨pv, c, h⟩ := h
  have h1 : Lib.BuilderAt T E B b (.pointer pv) (bs s) w := by
    refine ⟨hB b List.mem_cons_self, _, h.cell, ?_, fun hh => h.ne (rb_own.1 hh)⟩
    have := rowT_base (B := B) h.row fun k hk => hB k (List.mem_cons_of_mem _ hk)
    simpa using this
  rcases h.hp with rfl | rfl
  · exact .inl h1
  · exact .inr h1

theorem rowT_slice {v : Value} {n : Nat} {xs : List Value} (h : w.ownsRow 0 E 1 v n xs) : ∃ q c, v = .slice q n c := by
  rcases h.2 with ⟨rfl, rfl⟩ | ⟨g, cap, cur, rfl, _⟩
  · exact ⟨_, _, rfl⟩
  · exact ⟨_, _, rfl⟩
/-- append to a row of bytes -/
theorem run_appT {t ty : TypeId} {zb : Nat} {n m cc : Nat} {a : Addr} {xs news : List Value} [hu : Und P t (.slice E)] [hi : Inf P E (.int .u8 0) 1 zb] (hr : w.ownsRow 0 E 1 (.slice q n c) n xs) (hs : seg w a news) (hl : news.length = m)
    (h1 : ∀ u ∈ news, u.oneCell' = true) (h63 : n + m ≤ 9223372036854775807) (hb : (n + m) * zb ≤ 140737488355328) :
    ∃ q' c' w', (Builtin.append_ #[t, t] ty #[.slice q n c, .slice (some a) m cc]).run P w = .ok (.slice q' (n + m) c') w' ∧ w'.ownsRow 0 E 1 (.slice q' (n + m) c') (n + m) (xs ++ news) ∧ Lm (rb q) w (rb q') w' := by
  obtain ⟨i, hi1, hi2, hi3, hi4⟩ := inf_size (P := P) (t := E)
  have hl1 : news.length = m * 1 := by omega
  obtain ⟨q', c', w', r1, r2, r3⟩ := run_append_row (P := P) (t := t) (tx := t) (ty := ty) (e := E) rfl (by decide) (rowT_row hr) (src_of_sg (tx := t) (c := cc) (.inr ⟨a, rfl, hs⟩) hl1 h1) h63 hb
  obtain ⟨v', w2, k1, k2, k3, k4⟩ := run_append_own (P := P) w 0 t ty E i (.int .u8 0) 1 zb hu.ok hi1 hi2 hi3 hi4 rfl (by decide) _ n xs hr a m cc news hl1
    (fun j u hj => by
      have hlt : j < news.length := by
        rcases Nat.lt_or_ge j news.length with h | h
        · exact h
        · rw [List.getElem?_eq_none h] at hj; cases hj
      rw [hs j hlt]; exact hj) h1 (by simpa [maxLen] using h63) hb (Nat.zero_le _)
  rw [r1] at k1
  injection k1 with k5 k6
  subst k6
  refine ⟨q', c', w', r1, ?_, r3⟩
  rw [k5]; exact k2
theorem run_appTs {t t' ty : TypeId} {n : Nat} {xs : List Value} [hu : Und P t (.slice E)] [hu' : Und P t' .string] [hi : Inf P E (.int .u8 0) 1 1] (hr : w.ownsRow 0 E 1 (.slice q n c) n xs)
    (h63 : n + s.length ≤ 9223372036854775807) (hb : n + s.length ≤ 140737488355328) :
    ∃ q' c' w', (Builtin.append_ #[t, t'] ty #[.slice q n c, str s]).run P w = .ok (.slice q' (n + s.length) c') w' ∧ w'.ownsRow 0 E 1 (.slice q' (n + s.length) c') (n + s.length) (xs ++ bs s) ∧ Lm (rb q) w (rb q') w' := by
  obtain ⟨i, hi1, hi2, hi3, hi4⟩ := inf_size (P := P) (t := E)
  have hsrc := Src.ofString (P := P) w hu'.ok ⟨s.toArray⟩
  rw [size_str] at hsrc
  have e1 : byteCells ⟨s.toArray⟩ = bs s := by simp [byteCells, bs]
  rw [e1] at hsrc
  obtain ⟨q', c', w', r1, r2, r3⟩ := run_append_row (P := P) (t := t) (tx := t') (ty := ty) (e := E) (size := 1) (z := .int .u8 0) rfl (by decide) (rowT_row hr) hsrc h63 (by omega)
  obtain ⟨v', w2, k1, k2, k3, k4⟩ := Lib.run_append_own_string (P := P) w 0 t t' ty E i hu.ok hu'.ok hi1 hi2 hi3 hi4 _ n xs hr ⟨s.toArray⟩ (by rw [size_str]; simpa [maxLen] using h63) (by rw [size_str]; exact hb) (Nat.zero_le _)
  rw [r1] at k1
  injection k1 with k5 k6
  subst k6
  rw [size_str] at k2
  refine ⟨q', c', w', r1, ?_, r3⟩
  rw [k5]
  have e2 : Lib.strCells ⟨s.toArray⟩ = bs s := by simp [Lib.strCells, bs]
  rw [← e2]; exact k2
end

/-! ## pointers -/
section
variable {P : Program} {σ : Env} {w : World} {d : Option Tmp} {ty t t' e : TypeId} {pos : String} {af : Array Edge} {g : Option (Nat × Bool)} {x y : Operand} {p : Option Addr}
theorem y_pnil [hu : Und P t (.pointer e)] (hx : evl σ x = .pointer p) (hy : evl σ y = .pointer none) : Y P σ ⟨d, .binOp .eql t x y t', ty, pos, af, g⟩ w (.bool p.isNone) w := by
  refine Y.val ?_
  have h : ∀ k : Nat, (Op.equalIn (k + 1) t (.pointer p) (.pointer none)).run P w = .ok p.isNone w := fun k => by
    cases p <;> simp [Op.equalIn, run_underlying hu.ok]
  simp only [execOp, hx, hy]
  simp [eqGuard, binOp, Op.equal, Op.maxDepth, h 9999]
theorem y_psame {a : Addr} {j : TypeInfo} [hu : Und P t (.pointer e)] (hx : evl σ x = .pointer (some a)) (hy : evl σ y = .pointer (some a)) (hj : P.info? e = some j) : Y P σ ⟨d, .binOp .neq t x y t', ty, pos, af, g⟩ w (.bool false) w := by
  refine Y.val ?_
  have h := Lib.run_neq_ptr_same (P := P) w (tp := t) a hu.ok hj
  simp only [execOp, hx, hy]
  rw [Sem.run_bind, Sem.run_bind, show (eqGuard .neq t x y (.pointer (some a)) (.pointer (some a))).run P w = .ok () w from by simp [eqGuard], Result.andThen_ok, h]
  rfl
theorem y_tou {a : Addr} {j : TypeInfo} {E : TypeId} {cells : Nat} [hu : Und P t (.pointer e)] [hu' : Und P t' .unsafePointer] (hx : evl σ x = .pointer (some a)) (ht : P.info? e = some j) (hj : j.size ≠ 0) (hsh : w.shape? a.block = some (E, cells)) (hoff : a.off < cells) :
    Y P σ ⟨d, .convert t t' x, ty, pos, af, g⟩ w (.pointer (some a)) w := by
  refine Y.val ?_
  simp only [execOp, hx]
  rw [Sem.run_bind, Lib.run_to_unsafe (P := P) w a hu.ok hu'.ok ht hj hsh hoff]
  rfl
theorem y_fromu {a : Addr} {j : TypeInfo} {E : TypeId} {cells : Nat} [hu : Und P t .unsafePointer] [hu' : Und P t' (.pointer e)] (hx : evl σ x = .pointer (some a)) (ht : P.info? e = some j) (hsh : w.shape? a.block = some (E, cells)) (hl : liesAt P P.depth E (cells / P.cellsOf E) a.off e 1 = true) :
    Y P σ ⟨d, .convert t t' x, ty, pos, af, g⟩ w (.pointer (some a)) w := by
  refine Y.val ?_
  simp only [execOp, hx]
  rw [Sem.run_bind, Lib.run_from_unsafe (P := P) w a hu.ok hu'.ok ht hsh hl]
  rfl
theorem y_noesc {f : FuncId} {fn : Func} {ats : Array TypeId} {v : Value} (hf : P.funcs[f]? = some fn) (h1 : (fn.name == "runtime.NumGoroutine") = false) (h2 : fn.body.isNone = true) (h3 : Extern.findNext fn = none) (h4 : Extern.find fn = some Extern.AbiNoEscape.same) (hx : evl σ x = v) :
    Y P σ ⟨d, .call ⟨.value (.func f), #[x], ats⟩, ty, pos, af, g⟩ w v w := by
  refine Y.val ?_
  simp only [execOp, resolve, evl, Deferred.ofValue]
  simp only [Sem.run_bind, Sem.run_pure, Result.andThen_ok, invoke]
  have h := run_callFunc_extern hf h1 h2 h3 h4 #[v] w
  rw [Lib.run_noEscape] at h
  simp only [Result.andThen] at h
  simpa [hx] using h
end

/-! ## stores that keep what kind of block it is; append of bytes -/
section
variable {P : Program} {n : Nat} {ds : Ctx} {ops : Array Oper} {Q : Exit → Ctx → Env → World → Prop} {rest : List Oper} {σ : GE} {w : World} {v : Value} {d : Nat} {ty t t' e T E : TypeId} {pos : String} {af : Array Edge} {x y : Operand} {zv : Value} {size bytes b i m c cc : Nat} {l xs news : List Value} {p q : Option Addr} {s : List UInt8}
theorem wlstT [hi : Inf P t zv 1 bytes] (ho : w.heap[b]? = some (.cells l.toArray T (0, 0))) (h : ∀ w', w'.heap[b]? = some (.cells (l.set i v).toArray T (0, 0)) → Le [b] w w' → WL P n ds ops Q rest (real σ) w')
    (hc : v.cells = #[v]) (h1 : v.oneCell' = true) (hx : evl (real σ) x = ptrAt (pb b) i := by rfl) (hy : evl (real σ) y = v := by rfl) (hk : i < l.length := by first | decide | (simp; done)) :
    WL P n ds ops Q (⟨none, .store t x y, ty, pos, af, none⟩ :: rest) (real σ) w := by
  have e : (⟨b, 0, none⟩ : Addr).add i = ⟨b, i, none⟩ := by unfold Addr.add; split <;> simp_all
  have hs := run_storeCells_at P b i T [v] 0 l.toArray w ho (by simp; omega) (by simp [h1])
  have e2 : l.take i ++ [v] ++ l.drop (i + 1) = l.set i v := by
    rw [List.set_eq_take_append_cons_drop, if_pos hk]; simp
  refine wl0 (h (w.setRow b (l.set i v).toArray) (by rw [setRow_heap w b l.toArray _ T (0, 0) ho]) (le_setRow w b _)) (Y.skip ?_)
  simp only [execOp, hx, hy]
  have hr : (Instr.storeAt t (ptrAt (pb b) i) v).run P w = .ok () (w.setRow b (l.set i v).toArray) := by
    simp only [Instr.storeAt, show ptrAt (pb b) i = .pointer (some ⟨b, i, none⟩) from by simp [e], Instr.sureAddr, Sem.run_bind, Sem.run_pure, Result.andThen_ok, storeVar, run_sizeOf (P := P) (t := t)]
    rw [if_neg (by simp [hc]), hc]
    simp only [List.length_singleton, Nat.add_zero, List.size_toArray] at hs
    rw [← e2]
    simpa using hs
  rw [Sem.run_bind, hr]
  rfl
theorem wlappT [hu : Und P t (.slice E)] [hi : Inf P E (.int .u8 0) 1 1] (hr : w.ownsRow 0 E 1 (.slice q m c) m xs) (hs : Sg w p news)
    (h : ∀ q' c' w', w'.ownsRow 0 E 1 (.slice q' (m + news.length) c') (m + news.length) (xs ++ news) → Lm (rb q) w (rb q') w' → WL P n ds ops Q rest (real (updG σ d ⟨.slice q' (m + news.length) c', true⟩)) w')
    (hx : evl (real σ) x = .slice q m c := by rfl) (hy : evl (real σ) y = .slice p news.length cc := by rfl) (hp : 0 < news.length := by first | decide | (simp; done))
    (h1 : ∀ u ∈ news, u.oneCell' = true := by simp [Go.Value.oneCell']) (hb : m + news.length ≤ 140737488355328 := by omega) :
    WL P n ds ops Q (⟨some d, .call ⟨.builtin .append, #[x, y], #[t, t]⟩, ty, pos, af, none⟩ :: rest) (real σ) w := by
  rcases hs with rfl | ⟨a, rfl, hs⟩
  · simp at hp
  obtain ⟨q', c', w', r1, r2, r3⟩ := run_appT (P := P) (t := t) (ty := ty) (cc := cc) hr hs rfl h1 (by omega) (by omega)
  exact wl (h q' c' w' r2 r3) (run_append_op hx hy r1)
theorem wlappTs [hu : Und P t (.slice E)] [hu' : Und P t' .string] [hi : Inf P E (.int .u8 0) 1 1] (hr : w.ownsRow 0 E 1 (.slice q m c) m xs)
    (h : ∀ q' c' w', w'.ownsRow 0 E 1 (.slice q' (m + s.length) c') (m + s.length) (xs ++ bs s) → Lm (rb q) w (rb q') w' → WL P n ds ops Q rest (real (updG σ d ⟨.slice q' (m + s.length) c', true⟩)) w')
    (hx : evl (real σ) x = .slice q m c := by rfl) (hy : evl (real σ) y = str s := by rfl) (hb : m + s.length ≤ 140737488355328 := by omega) :
    WL P n ds ops Q (⟨some d, .call ⟨.builtin .append, #[x, y], #[t, t']⟩, ty, pos, af, none⟩ :: rest) (real σ) w := by
  obtain ⟨q', c', w', r1, r2, r3⟩ := run_appTs (P := P) (t := t) (t' := t') (ty := ty) (s := s) hr (by omega) (by omega)
  exact wl (h q' c' w' r2 r3) (run_append_op hx hy r1)
end
end Go.Sv

/-
  strings.Builder, walked.
-/
set_option linter.unusedSimpArgs false
set_option linter.unusedVariables false
set_option linter.unnecessarySimpa false
namespace Go.Proofs.YtffaoehhhdcjjaaDoor
open Go Go.Sv Go.RowKit

abbrev TB : Nat := 82
abbrev TY : Nat := 5
theorem bup_shape {w : World} {b : Nat} {pv q : Option Addr} {c : Nat} {s : List UInt8} (h : BuP TB TY w b pv q c s) : w.shape? b = some (TB, 2) := by
  have := h.cell
  simp [World.shape?, this]

theorem tb_info : ∃ j, Tryd.prog.info? TB = some j ∧ j.size ≠ 0 := by
  obtain ⟨j, hj1, hj2, hj3, hj4⟩ := inf_size (P := Tryd.prog) (t := TB)
  exact ⟨j, hj1, by rw [hj3]; decide⟩
theorem copyCheck_ok (b : Nat) (pv q : Option Addr) (c : Nat) (s : List UInt8) (w : World) (h : BuP TB TY w b pv q c s) :
    CallsR Tryd.prog 102 #[ptrAt (pb b) 0] w fun v w' => v = .tuple #[] ∧ BuP TB TY w' b (pb b) q c s ∧ Le [b] w w' := by
  have ho := h.own
  have hsh := bup_shape h
  rcases h.hp with rfl | rfl
  · refine enter (l := [ptrAt (pb b) 0]) Tryd.func102 rfl Tryd.ntmps102 (by kernel_rfl) rfl ?_
    refine sgo ?_
    refine wl (v := .bool true) ?_ (y_pnil (p := none) rfl rfl)
    refine sgo ?_
    obtain ⟨j, hj1, hj3⟩ := tb_info
    refine wl ?_ (y_tou (a := ⟨b, 0, none⟩) rfl hj1 hj3 hsh Nat.two_pos)
    refine wl ?_ (y_noesc (v := .pointer (some ⟨b, 0, none⟩)) Tryd.func122 (by kernel_rfl) (by kernel_rfl) (by kernel_rfl) (by kernel_rfl) rfl)
    refine wl ?_ (y_fromu (a := ⟨b, 0, none⟩) rfl hj1 hsh (by kernel_rfl))
    clear hj1 hj3
    refine sgo ?_
    refine wlstT (v := .pointer (pb b)) h.cell (fun w' h1 h2 => ?_) rfl rfl
    refine sgo ?_
    (first | refine fp1 (.inl rfl) rfl rfl ?_ | refine fp2 (.inl rfl) rfl rfl rfl ?_ | refine fp3 (.inl rfl) rfl rfl rfl rfl ?_ | refine fp0 (.inr rfl) rfl ?_ | refine fp0 (.inl rfl) rfl ?_ | refine fp1 (.inr rfl) rfl rfl ?_)
    exact ⟨rfl, ⟨.inr rfl, h1, rowT_le h.row h2 (by intro k hk hm; simp only [List.mem_singleton] at hm; subst hm; exact h.ne hk), h.ne⟩, h2⟩
  · refine enter (l := [ptrAt (pb b) 0]) Tryd.func102 rfl Tryd.ntmps102 (by kernel_rfl) rfl ?_
    refine sgo ?_
    refine wl (v := .bool false) ?_ (y_pnil (p := some ⟨b, 0, none⟩) rfl rfl)
    refine sgo ?_
    obtain ⟨j, hj1, hj3⟩ := tb_info
    refine wl ?_ (y_psame (a := ⟨b, 0, none⟩) rfl rfl hj1)
    clear hj1 hj3
    refine sgo ?_
    (first | refine fp1 (.inl rfl) rfl rfl ?_ | refine fp2 (.inl rfl) rfl rfl rfl ?_ | refine fp3 (.inl rfl) rfl rfl rfl rfl ?_ | refine fp0 (.inr rfl) rfl ?_ | refine fp0 (.inl rfl) rfl ?_ | refine fp1 (.inr rfl) rfl rfl ?_)
    exact ⟨rfl, h, Le.refl _ _⟩

theorem write_lm {w w1 w2 w3 : World} {b : Nat} {q q' : Option Addr} (h1 : Le [b] w w1) (h2 : Lm (rb q) w1 (rb q') w2) (h3 : Le [b] w2 w3) : Lm (b :: rb q) w (b :: rb q') w3 := by
  refine ⟨⟨h3.os.trans (h2.1.os.trans h1.os), h3.tape.trans (h2.1.tape.trans h1.tape), h3.output.trans (h2.1.output.trans h1.output), Nat.le_trans h1.size (Nat.le_trans h2.1.size h3.size), fun k hk hm => ?_⟩, ?_⟩
  · simp only [List.mem_cons, not_or] at hm
    have e1 := h1.block k hk (by simpa using hm.1)
    have e2 := h2.1.block k (Nat.lt_of_lt_of_le hk h1.size) hm.2
    have e3 := h3.block k (Nat.lt_of_lt_of_le hk (Nat.le_trans h1.size h2.1.size)) (by simpa using hm.1)
    rw [e3, e2, e1]
  · intro k hk hlt
    rcases List.mem_cons.1 hk with rfl | hk
    · exact List.mem_cons_self
    · exact List.mem_cons_of_mem _ (h2.2 k hk (Nat.lt_of_lt_of_le hlt h1.size))
theorem bld_put {w1 w2 w3 : World} {b : Nat} {q q' : Option Addr} {c c' : Nat} {s t : List UInt8} (h1 : BuP TB TY w1 b (pb b) q c s) (h2 : Lm (rb q) w1 (rb q') w2) (hr : w2.ownsRow 0 TY 1 (.slice q' (s.length + t.length) c') (s.length + t.length) (bs s ++ bs t))
    (h3 : w3.heap[b]? = some (.cells ([.pointer (pb b), .slice q s.length c].set 1 (.slice q' (s.length + t.length) c')).toArray TB (0, 0))) (h4 : Le [b] w2 w3) : Bld TB TY w3 b q' (s ++ t) := by
  have hne : b ∉ rb q' := fun hb => h1.ne (h2.2 b hb h1.own.lt)
  have e : bs s ++ bs t = bs (s ++ t) := by simp [bs]
  rw [e, ← List.length_append] at hr
  rw [← List.length_append] at h3
  exact ⟨pb b, c', .inr rfl, h3, rowT_le hr h4 (by intro k hk hm; simp only [List.mem_singleton] at hm; subst hm; exact hne hk), hne⟩

theorem writeString_ok (b : Nat) (q : Option Addr) (s t : List UInt8) (w : World) (h : Bld TB TY w b q s) (hb : s.length + t.length ≤ 140737488355328) :
    CallsR Tryd.prog 88 #[ptrAt (pb b) 0, str t] w fun v w' => v = .tuple #[int t.length, .nilIface] ∧ ∃ q', Bld TB TY w' b q' (s ++ t) ∧ Lm (b :: rb q) w (b :: rb q') w' := by
  obtain ⟨pv, c, h⟩ := h
  refine enter (l := [ptrAt (pb b) 0, str t]) Tryd.func88 rfl Tryd.ntmps88 (by kernel_rfl) rfl ?_
  refine sgo ?_
  refine wlcall (copyCheck_ok b pv q c s w h) ?_
  rintro v w1 ⟨rfl, h1, hl1⟩
  have ho := h1.own
  refine sgo ?_
  refine wlappTs h1.row fun q' c' w2 hr2 hl2 => ?_
  have hc2 : w2.heap[b]? = _ := (hl2.1.block b h1.own.lt h1.ne).trans h1.cell
  refine sgo ?_
  refine wlstT (v := .slice q' (s.length + t.length) c') hc2 (fun w3 h3 hl3 => ?_) rfl rfl
  refine sgo ?_
  (first | refine fp1 (.inl rfl) rfl rfl ?_ | refine fp2 (.inl rfl) rfl rfl rfl ?_ | refine fp3 (.inl rfl) rfl rfl rfl rfl ?_ | refine fp0 (.inr rfl) rfl ?_ | refine fp0 (.inl rfl) rfl ?_ | refine fp1 (.inr rfl) rfl rfl ?_)
  exact ⟨rfl, q', bld_put h1 hl2 hr2 h3 hl3, write_lm hl1 hl2 hl3⟩

theorem writeByte_ok (b : Nat) (q : Option Addr) (s : List UInt8) (x : UInt8) (w : World) (h : Bld TB TY w b q s) (hb : s.length + 1 ≤ 140737488355328) :
    CallsR Tryd.prog 75 #[ptrAt (pb b) 0, byt x.toNat] w fun v w' => v = .nilIface ∧ ∃ q', Bld TB TY w' b q' (s ++ [x]) ∧ Lm (b :: rb q) w (b :: rb q') w' := by
  obtain ⟨pv, c, h⟩ := h
  refine enter (l := [ptrAt (pb b) 0, byt x.toNat]) Tryd.func75 rfl Tryd.ntmps75 (by kernel_rfl) rfl ?_
  refine sgo ?_
  refine wlcall (copyCheck_ok b pv q c s w h) ?_
  rintro v w1 ⟨rfl, h1, hl1⟩
  have ho := h1.own
  refine sgo ?_
  refine wlb1_int fun b2 w2 hb2 ho2 hf2 => ?_
  refine wlappT (news := bs [x]) (rowT_le h1.row hf2.le (M := []) (by simp)) ho2.sg (fun q' c' w3 hr3 hl3 => ?_) (hp := Nat.one_pos) (h1 := by simp [bs, Value.oneCell']) (hb := by simpa using hb)
  have hl3' : Lm (rb q) w1 (rb q') w3 := ⟨(hf2.le).trans hl3.1, fun k hk hlt => hl3.2 k hk (Nat.lt_of_lt_of_le hlt hf2.size)⟩
  have hc3 : w3.heap[b]? = _ := (hl3'.1.block b h1.own.lt h1.ne).trans h1.cell
  refine sgo ?_
  refine wlstT (v := .slice q' (s.length + 1) c') hc3 (fun w4 h4 hl4 => ?_) rfl rfl
  refine sgo ?_
  (first | refine fp1 (.inl rfl) rfl rfl ?_ | refine fp2 (.inl rfl) rfl rfl rfl ?_ | refine fp3 (.inl rfl) rfl rfl rfl rfl ?_ | refine fp0 (.inr rfl) rfl ?_ | refine fp0 (.inl rfl) rfl ?_ | refine fp1 (.inr rfl) rfl rfl ?_)
  exact ⟨rfl, q', bld_put (t := [x]) h1 hl3' hr3 h4 hl4, write_lm hl1 hl3' hl4⟩
end Go.Proofs.YtffaoehhhdcjjaaDoor

/-
  Slices written out, of two to four values of one cell each.
-/
set_option linter.unusedSimpArgs false
set_option linter.unusedVariables false
set_option linter.unnecessarySimpa false
namespace Go.Sv
open Go Go.RowKit
section
variable {P : Program} {n : Nat} {ds : Ctx} {ops : Array Oper} {Q : Exit → Ctx → Env → World → Prop} {rest : List Oper} {σ : GE} {w : World} {d : Nat} {ty t e : TypeId} {pos : String} {af : Array Edge} {x1 x2 x3 x4 : Operand} {v1 v2 v3 v4 zv : Value} {bytes : Nat}
theorem run_bs2 [hu : Und P t (.slice e)] [hi : Inf P e zv 1 bytes] (hz : zv.cells.size = 1) (h1 : v1.cells = #[v1]) (h2 : v2.cells = #[v2]) (w : World) :
    (Instr.buildSlice t 2 #[(0, v1), (1, v2)]).run P w = .ok (.slice (some ⟨w.heap.size, 0, none⟩) 2 2) (w.alloc (.cells #[v1, v2] e)) := by
  have hf : Instr.fill (fun i => some (i * 1, 1)) ((Array.range (2 * 1)).map (zv.cells[· % zv.cells.size]!)) [(0, v1), (1, v2)] = some #[v1, v2] := by
    simp [Instr.fill, h1, h2, Array.range, Array.ofFn_succ, Array.zipIdx]
  simp only [Instr.buildSlice, Sem.run_bind, underlying, run_program, Result.andThen_ok, hu.ok, Sem.run_pure, run_sizeOf (P := P) (t := e), Nat.mul_one]
  rw [if_neg (by decide), if_neg (by decide)]
  simp only [Sem.run_bind, Sem.run_pure, Result.andThen_ok, run_zeroValue (P := P) (t := e)]
  simp only [Nat.mul_one] at hf
  rw [hf]
  simp [newRow]
theorem run_bs3 [hu : Und P t (.slice e)] [hi : Inf P e zv 1 bytes] (hz : zv.cells.size = 1) (h1 : v1.cells = #[v1]) (h2 : v2.cells = #[v2]) (h3 : v3.cells = #[v3]) (w : World) :
    (Instr.buildSlice t 3 #[(0, v1), (1, v2), (2, v3)]).run P w = .ok (.slice (some ⟨w.heap.size, 0, none⟩) 3 3) (w.alloc (.cells #[v1, v2, v3] e)) := by
  have hf : Instr.fill (fun i => some (i * 1, 1)) ((Array.range (3 * 1)).map (zv.cells[· % zv.cells.size]!)) [(0, v1), (1, v2), (2, v3)] = some #[v1, v2, v3] := by
    simp [Instr.fill, h1, h2, h3, Array.range, Array.ofFn_succ, Array.zipIdx]
  simp only [Instr.buildSlice, Sem.run_bind, underlying, run_program, Result.andThen_ok, hu.ok, Sem.run_pure, run_sizeOf (P := P) (t := e), Nat.mul_one]
  rw [if_neg (by decide), if_neg (by decide)]
  simp only [Sem.run_bind, Sem.run_pure, Result.andThen_ok, run_zeroValue (P := P) (t := e)]
  simp only [Nat.mul_one] at hf
  rw [hf]
  simp [newRow]
theorem run_bs4 [hu : Und P t (.slice e)] [hi : Inf P e zv 1 bytes] (hz : zv.cells.size = 1) (h1 : v1.cells = #[v1]) (h2 : v2.cells = #[v2]) (h3 : v3.cells = #[v3]) (h4 : v4.cells = #[v4]) (w : World) :
    (Instr.buildSlice t 4 #[(0, v1), (1, v2), (2, v3), (3, v4)]).run P w = .ok (.slice (some ⟨w.heap.size, 0, none⟩) 4 4) (w.alloc (.cells #[v1, v2, v3, v4] e)) := by
  have hf : Instr.fill (fun i => some (i * 1, 1)) ((Array.range (4 * 1)).map (zv.cells[· % zv.cells.size]!)) [(0, v1), (1, v2), (2, v3), (3, v4)] = some #[v1, v2, v3, v4] := by
    simp [Instr.fill, h1, h2, h3, h4, Array.range, Array.ofFn_succ, Array.zipIdx]
  simp only [Instr.buildSlice, Sem.run_bind, underlying, run_program, Result.andThen_ok, hu.ok, Sem.run_pure, run_sizeOf (P := P) (t := e), Nat.mul_one]
  rw [if_neg (by decide), if_neg (by decide)]
  simp only [Sem.run_bind, Sem.run_pure, Result.andThen_ok, run_zeroValue (P := P) (t := e)]
  simp only [Nat.mul_one] at hf
  rw [hf]
  simp [newRow]
theorem wlbs2 [hu : Und P t (.slice e)] [hi : Inf P e zv 1 bytes] (h : ∀ b w', w.heap.size ≤ b → Own w' b [v1, v2] → Frm w w' → WL P n ds ops Q rest (real (updG σ d ⟨.slice (pb b) 2 2, true⟩)) w')
    (hx1 : evl (real σ) x1 = v1 := by rfl) (hx2 : evl (real σ) x2 = v2 := by rfl) (h1 : v1.cells = #[v1] := by rfl) (h2 : v2.cells = #[v2] := by rfl) (hz : zv.cells.size = 1 := by rfl) :
    WL P n ds ops Q (⟨some d, .buildSlice t 2 #[(0, x1), (1, x2)], ty, pos, af, none⟩ :: rest) (real σ) w := by
  refine wl (h w.heap.size (w.alloc (.cells #[v1, v2] e)) (Nat.le_refl _) (own_alloc _ _ _) (frm_alloc _ _)) (Y.val ?_)
  simp only [execOp, List.map_toArray, List.map_cons, List.map_nil, hx1, hx2, Sem.run_bind]
  rw [run_bs2 (P := P) (t := t) (e := e) hz h1 h2]
  rfl
theorem wlbs3 [hu : Und P t (.slice e)] [hi : Inf P e zv 1 bytes] (h : ∀ b w', w.heap.size ≤ b → Own w' b [v1, v2, v3] → Frm w w' → WL P n ds ops Q rest (real (updG σ d ⟨.slice (pb b) 3 3, true⟩)) w')
    (hx1 : evl (real σ) x1 = v1 := by rfl) (hx2 : evl (real σ) x2 = v2 := by rfl) (hx3 : evl (real σ) x3 = v3 := by rfl) (h1 : v1.cells = #[v1] := by rfl) (h2 : v2.cells = #[v2] := by rfl) (h3 : v3.cells = #[v3] := by rfl) (hz : zv.cells.size = 1 := by rfl) :
    WL P n ds ops Q (⟨some d, .buildSlice t 3 #[(0, x1), (1, x2), (2, x3)], ty, pos, af, none⟩ :: rest) (real σ) w := by
  refine wl (h w.heap.size (w.alloc (.cells #[v1, v2, v3] e)) (Nat.le_refl _) (own_alloc _ _ _) (frm_alloc _ _)) (Y.val ?_)
  simp only [execOp, List.map_toArray, List.map_cons, List.map_nil, hx1, hx2, hx3, Sem.run_bind]
  rw [run_bs3 (P := P) (t := t) (e := e) hz h1 h2 h3]
  rfl
theorem wlbs4 [hu : Und P t (.slice e)] [hi : Inf P e zv 1 bytes] (h : ∀ b w', w.heap.size ≤ b → Own w' b [v1, v2, v3, v4] → Frm w w' → WL P n ds ops Q rest (real (updG σ d ⟨.slice (pb b) 4 4, true⟩)) w')
    (hx1 : evl (real σ) x1 = v1 := by rfl) (hx2 : evl (real σ) x2 = v2 := by rfl) (hx3 : evl (real σ) x3 = v3 := by rfl) (hx4 : evl (real σ) x4 = v4 := by rfl) (h1 : v1.cells = #[v1] := by rfl) (h2 : v2.cells = #[v2] := by rfl) (h3 : v3.cells = #[v3] := by rfl) (h4 : v4.cells = #[v4] := by rfl) (hz : zv.cells.size = 1 := by rfl) :
    WL P n ds ops Q (⟨some d, .buildSlice t 4 #[(0, x1), (1, x2), (2, x3), (3, x4)], ty, pos, af, none⟩ :: rest) (real σ) w := by
  refine wl (h w.heap.size (w.alloc (.cells #[v1, v2, v3, v4] e)) (Nat.le_refl _) (own_alloc _ _ _) (frm_alloc _ _)) (Y.val ?_)
  simp only [execOp, List.map_toArray, List.map_cons, List.map_nil, hx1, hx2, hx3, hx4, Sem.run_bind]
  rw [run_bs4 (P := P) (t := t) (e := e) hz h1 h2 h3 h4]
  rfl
end
end Go.Sv

/-
  A rune's bytes: utf8.AppendRune, and the builder's WriteRune.
-/
set_option linter.unusedSimpArgs false
set_option linter.unusedVariables false
set_option linter.unnecessarySimpa false
namespace Go.Proofs.YtffaoehhhdcjjaaDoor
open Go Go.Sv Go.RowKit

/-- a rune's bytes -/
def encN (r : Nat) : List Nat :=
  if r < 128 then [r]
  else if r < 2048 then [192 + r / 64, 128 + r % 64]
  else if r < 65536 then [224 + r / 4096, 128 + r / 64 % 64, 128 + r % 64]
  else [240 + r / 262144, 128 + r / 4096 % 64, 128 + r / 64 % 64, 128 + r % 64]
def encR (r : Nat) : List UInt8 := (encN r).map UInt8.ofNat
theorem bs_ofNat {l : List Nat} (h : ∀ x ∈ l, x < 256) : bs (l.map UInt8.ofNat) = l.map fun n : Nat => byt n := by
  unfold bs
  rw [List.map_map]
  refine List.map_congr_left fun x hx => ?_
  have := h x hx
  simp only [Function.comp]
  rw [UInt8.toNat_ofNat_of_lt' (by simpa using this)]
theorem encN_lt (r : Nat) (h : r < 1114112) : ∀ x ∈ encN r, x < 256 := by
  unfold encN
  intro x hx
  repeat' split at hx
  all_goals simp only [List.mem_cons, List.not_mem_nil, or_false] at hx
  all_goals omega
theorem bs_encR (r : Nat) (h : r < 1114112) : bs (encR r) = (encN r).map fun n : Nat => byt n := bs_ofNat (encN_lt r h)
theorem encR_len (r : Nat) : (encR r).length = (encN r).length := by simp [encR]

theorem wr8 (n : Nat) : IntKind.u8.wrap (n : Int) = ((n % 256 : Nat) : Int) := by simp [IntKind.wrap, IntKind.signed, IntKind.bits]
theorem wr32 (n : Nat) (h : n < 4294967296) : IntKind.u32.wrap (n : Int) = (n : Int) := wrap_in (by simp [IntKind.min, IntKind.max, IntKind.signed, IntKind.bits]; omega)
theorem fd (r k : Nat) (hk : 0 < k) : (r : Int).fdiv (k : Int) = ((r / k : Nat) : Int) := by
  rw [Int.fdiv_eq_ediv_of_nonneg _ (by omega)]; rfl
theorem sh6 (r : Nat) : (r : Int).fdiv (2 ^ (min (6 : Int).toNat IntKind.i32.bits)) = ((r / 64 : Nat) : Int) := fd r 64 (by decide)
theorem sh12 (r : Nat) : (r : Int).fdiv (2 ^ (min (12 : Int).toNat IntKind.i32.bits)) = ((r / 4096 : Nat) : Int) := fd r 4096 (by decide)
theorem sh18 (r : Nat) : (r : Int).fdiv (2 ^ (min (18 : Int).toNat IntKind.i32.bits)) = ((r / 262144 : Nat) : Int) := fd r 262144 (by decide)
theorem msk (c : Nat) (hc : c < 256) : bitop .and .u8 (c : Int) 63 = ((c % 64 : Nat) : Int) := by revert hc; revert c; decide +kernel
theorem o128 (c : Nat) (hc : c < 64) : bitop .or .u8 128 (c : Int) = ((128 + c : Nat) : Int) := by revert hc; revert c; decide +kernel
theorem o192 (c : Nat) (hc : c < 32) : bitop .or .u8 192 (c : Int) = ((192 + c : Nat) : Int) := by revert hc; revert c; decide +kernel
theorem o224 (c : Nat) (hc : c < 16) : bitop .or .u8 224 (c : Int) = ((224 + c : Nat) : Int) := by revert hc; revert c; decide +kernel
theorem o240 (c : Nat) (hc : c < 8) : bitop .or .u8 240 (c : Int) = ((240 + c : Nat) : Int) := by revert hc; revert c; decide +kernel
theorem cont (n : Nat) : bitop .or .u8 128 (bitop .and .u8 (IntKind.u8.wrap (n : Int)) 63) = ((128 + n % 64 : Nat) : Int) := by
  rw [wr8, msk _ (by omega), o128 _ (by omega)]
  congr 2
  omega

/-- the row behind the append -/
def AppR (q : Option Addr) (s : List UInt8) (t : List UInt8) (w : World) (v : Value) (w' : World) : Prop :=
  ∃ q' c', v = .slice q' (s.length + t.length) c' ∧ w'.ownsRow 0 TY 1 (.slice q' (s.length + t.length) c') (s.length + t.length) (bs s ++ bs t) ∧ Lm (rb q) w (rb q') w'

theorem lm_frm {A B : List Nat} {w w1 w2 : World} (hf : Frm w w1) (h : Lm A w1 B w2) : Lm A w B w2 := ⟨hf.le.trans h.1, fun k hk hlt => h.2 k hk (Nat.lt_of_lt_of_le hlt hf.size)⟩










































































































































end Go.Proofs.YtffaoehhhdcjjaaDoor

/-
  What a right piece is: its bytes, its rune, how the language's range reads it, how the library writes it.
-/
set_option linter.unusedSimpArgs false
set_option linter.unusedVariables false
set_option linter.unnecessarySimpa false
namespace Go.Proofs.YtffaoehhhdcjjaaDoor
open Go Go.Sv Go.RowKit

/-- the four kinds of right pieces -/
def Right (l : List UInt8) : Prop :=
  (at0 l 0 < 128 ∧ pieceR l = (((at0 l 0 : Nat) : Int), 1, true))
  ∨ (1 < l.length ∧ 194 ≤ at0 l 0 ∧ at0 l 0 ≤ 223 ∧ 128 ≤ at0 l 1 ∧ at0 l 1 ≤ 191 ∧ pieceR l = (((at0 l 0 % 32 * 64 + at0 l 1 % 64 : Nat) : Int), 2, true))
  ∨ (2 < l.length ∧ 224 ≤ at0 l 0 ∧ at0 l 0 ≤ 239 ∧ 128 ≤ at0 l 1 ∧ at0 l 1 ≤ 191 ∧ (at0 l 0 = 224 → 160 ≤ at0 l 1) ∧ (at0 l 0 = 237 → at0 l 1 ≤ 159) ∧ 128 ≤ at0 l 2 ∧ at0 l 2 ≤ 191 ∧ pieceR l = ((((at0 l 0 % 16 * 64 + at0 l 1 % 64) * 64 + at0 l 2 % 64 : Nat) : Int), 3, true))
  ∨ (3 < l.length ∧ 240 ≤ at0 l 0 ∧ at0 l 0 ≤ 244 ∧ 128 ≤ at0 l 1 ∧ at0 l 1 ≤ 191 ∧ (at0 l 0 = 240 → 144 ≤ at0 l 1) ∧ (at0 l 0 = 244 → at0 l 1 ≤ 143) ∧ 128 ≤ at0 l 2 ∧ at0 l 2 ≤ 191 ∧ 128 ≤ at0 l 3 ∧ at0 l 3 ≤ 191 ∧ pieceR l = (((((at0 l 0 % 8 * 64 + at0 l 1 % 64) * 64 + at0 l 2 % 64) * 64 + at0 l 3 % 64 : Nat) : Int), 4, true))

theorem secR (c d : Nat) (h : secondR c d = true) : 128 ≤ d ∧ d ≤ 191 ∧ (c = 224 → 160 ≤ d) ∧ (c = 237 → d ≤ 159) ∧ (c = 240 → 144 ≤ d) ∧ (c = 244 → d ≤ 143) := by
  unfold secondR at h
  repeat' split at h
  all_goals simp only [Bool.and_eq_true, decide_eq_true_eq] at h
  all_goals omega

theorem right_of (l : List UInt8) (h : (pieceR l).2.2 = true) : Right l := by
  have hg2 : (goodR l).2 = true := h
  have hs0 : ¬ sizeR (at0 l 0) = 0 := by
    intro h0
    unfold goodR at hg2; rw [if_pos h0] at hg2; cases hg2
  have hg : goodR l = (goodF l (sizeR (at0 l 0)) 4 1, decide (goodF l (sizeR (at0 l 0)) 4 1 = sizeR (at0 l 0))) := by unfold goodR; rw [if_neg hs0]
  have he : goodF l (sizeR (at0 l 0)) 4 1 = sizeR (at0 l 0) := by
    rw [hg] at hg2; simpa using hg2
  have hp : pieceR l = (((accR l (sizeR (at0 l 0) - 1) 1 (firstR (at0 l 0) (sizeR (at0 l 0))) : Nat) : Int), sizeR (at0 l 0), true) := by
    have hg' : goodR l = (sizeR (at0 l 0), true) := by rw [hg, he]; simp
    unfold pieceR
    rw [hg']
    simp [hs0]
  have hc := at0_lt l 0
  have hsz : (sizeR (at0 l 0) = 1 ∧ at0 l 0 < 128) ∨ (sizeR (at0 l 0) = 2 ∧ 194 ≤ at0 l 0 ∧ at0 l 0 ≤ 223) ∨ (sizeR (at0 l 0) = 3 ∧ 224 ≤ at0 l 0 ∧ at0 l 0 ≤ 239) ∨ (sizeR (at0 l 0) = 4 ∧ 240 ≤ at0 l 0 ∧ at0 l 0 ≤ 244) := by
    revert hs0
    unfold sizeR
    repeat' split
    all_goals omega
  rcases hsz with ⟨e, h1⟩ | ⟨e, h1, h2⟩ | ⟨e, h1, h2⟩ | ⟨e, h1, h2⟩
  · left
    refine ⟨h1, ?_⟩
    rw [hp, e]; rfl
  · right; left
    rw [e] at he hp
    rw [goodF] at he
    split at he
    · rename_i hk
      split at he
      · omega
      · rename_i hk2
        have hs : secondR (at0 l 0) (at0 l 1) = true := by
          cases hh : secondR (at0 l 0) (at0 l 1) with
          | true => rfl
          | false => exact absurd (.inl ⟨rfl, hh⟩) hk2
        have := secR _ _ hs
        exact ⟨hk.2, h1, h2, this.1, this.2.1, hp⟩
    · omega
  · right; right; left
    rw [e] at he hp
    rw [goodF] at he
    split at he
    · rename_i hk
      split at he
      · omega
      · rename_i hk2
        have hs : secondR (at0 l 0) (at0 l 1) = true := by
          cases hh : secondR (at0 l 0) (at0 l 1) with
          | true => rfl
          | false => exact absurd (.inl ⟨rfl, hh⟩) hk2
        have := secR _ _ hs
        rw [goodF] at he
        split at he
        · rename_i hk3
          split at he
          · omega
          · rename_i hk4
            simp only [Nat.reduceAdd] at hk4
            exact ⟨hk3.2, h1, h2, this.1, this.2.1, this.2.2.1, this.2.2.2.1, by omega, by omega, hp⟩
        · omega
    · omega
  · right; right; right
    rw [e] at he hp
    rw [goodF] at he
    split at he
    · rename_i hk
      split at he
      · omega
      · rename_i hk2
        have hs : secondR (at0 l 0) (at0 l 1) = true := by
          cases hh : secondR (at0 l 0) (at0 l 1) with
          | true => rfl
          | false => exact absurd (.inl ⟨rfl, hh⟩) hk2
        have := secR _ _ hs
        rw [goodF] at he
        split at he
        · rename_i hk3
          split at he
          · omega
          · rename_i hk4
            rw [goodF] at he
            split at he
            · rename_i hk5
              split at he
              · omega
              · rename_i hk6
                simp only [Nat.reduceAdd] at hk4 hk6
                exact ⟨hk5.2, h1, h2, this.1, this.2.1, this.2.2.2.2.1, this.2.2.2.2.2, by omega, by omega, by omega, by omega, hp⟩
            · omega
        · omega
    · omega

theorem get_at0 (l : List UInt8) (i k : Nat) : (ByteArray.get! ⟨l.toArray⟩ (i + k)).toNat = at0 (l.drop i) k := by
  simp only [at0, List.getElem?_drop, ByteArray.get!]
  congr 1
  simp [getElem!_def]
  cases l[i + k]? <;> rfl
theorem decode_right (l : List UInt8) (i : Nat) (hr : Right (l.drop i)) : Utf8.decode ⟨l.toArray⟩ i = ((pieceR (l.drop i)).1.toNat, (pieceR (l.drop i)).2.1) := by
  have hd : ∀ k, (k < (l.drop i).length) = (i + k < l.length) := fun k => by simp; omega
  unfold Utf8.decode
  simp only [get_at0, size_str]
  unfold Right at hr
  simp only [hd] at hr
  generalize at0 (l.drop i) 0 = b0 at *
  generalize at0 (l.drop i) 1 = b1 at *
  generalize at0 (l.drop i) 2 = b2 at *
  generalize at0 (l.drop i) 3 = b3 at *
  rcases hr with ⟨h1, hp⟩ | ⟨hl, h1, h2, h3, h4, hp⟩ | ⟨hl, h1, h2, h3, h4, h5, h6, h7, h8, hp⟩ | ⟨hl, h1, h2, h3, h4, h5, h6, h7, h8, h9, h10, hp⟩
  · rw [hp, if_pos h1]; rfl
  · have e1 : b0 / 32 = 6 := by omega
    have e2 : b1 / 64 = 2 := by omega
    rw [hp, if_neg (by omega), if_pos (by simp [e1, e2, hl]), if_pos (by omega)]; rfl
  · have e1 : ¬ b0 / 32 = 6 := by omega
    have e2 : b1 / 64 = 2 := by omega
    have e3 : b0 / 16 = 14 := by omega
    have e4 : b2 / 64 = 2 := by omega
    have hl1 : i + 1 < l.length := by omega
    have ec : b0 % 16 * 4096 + b1 % 64 * 64 + b2 % 64 = (b0 % 16 * 64 + b1 % 64) * 64 + b2 % 64 := by omega
    rw [hp, if_neg (by omega), if_neg (by simp [e1]), if_pos (by simp [e3, e2, e4, hl, hl1]), ec, if_pos]
    · rfl
    · simp only [Utf8.valid, Bool.and_eq_true, Bool.or_eq_true, decide_eq_true_eq]
      omega
  · have e1 : ¬ b0 / 32 = 6 := by omega
    have e2 : b1 / 64 = 2 := by omega
    have e3 : ¬ b0 / 16 = 14 := by omega
    have e4 : b2 / 64 = 2 := by omega
    have e5 : b0 / 8 = 30 := by omega
    have e6 : b3 / 64 = 2 := by omega
    have hl1 : i + 1 < l.length := by omega
    have hl2 : i + 2 < l.length := by omega
    have ec : b0 % 8 * 262144 + b1 % 64 * 4096 + b2 % 64 * 64 + b3 % 64 = ((b0 % 8 * 64 + b1 % 64) * 64 + b2 % 64) * 64 + b3 % 64 := by omega
    rw [hp, if_neg (by omega), if_neg (by simp [e1]), if_neg (by simp [e3]), if_pos (by simp [e5, e2, e4, e6, hl, hl1, hl2]), ec, if_pos]
    · rfl
    · simp only [Utf8.valid, Bool.and_eq_true, Bool.or_eq_true, decide_eq_true_eq]
      omega

theorem ofN (c : UInt8) (n : Nat) (h : n = c.toNat) : UInt8.ofNat n = c := by subst h; exact UInt8.ofNat_toNat
/-- a right piece's rune is written as the piece's bytes -/
theorem enc_right (l : List UInt8) (h0 : 0 < l.length) (hr : Right l) : ∃ r : Nat, (pieceR l).1 = (r : Int) ∧ r < 1114112 ∧ ¬ (55296 ≤ r ∧ r ≤ 57343) ∧ encR r = l.take (pieceR l).2.1 ∧ (r < 128 → (pieceR l).2.1 = 1 ∧ at0 l 0 = r) ∧ (128 ≤ r → ∀ k, k < (pieceR l).2.1 → 128 ≤ at0 l k) := by
  have hb0 := at0_lt l 0
  have hb1 := at0_lt l 1
  have hb2 := at0_lt l 2
  have hb3 := at0_lt l 3
  rcases hr with ⟨h1, hp⟩ | ⟨hl, h1, h2, h3, h4, hp⟩ | ⟨hl, h1, h2, h3, h4, h5, h6, h7, h8, hp⟩ | ⟨hl, h1, h2, h3, h4, h5, h6, h7, h8, h9, h10, hp⟩
  · obtain ⟨a, l', rfl⟩ : ∃ a l', l = a :: l' := by
      cases l with
      | nil => simp at h0
      | cons a l' => exact ⟨a, l', rfl⟩
    have ea : at0 (a :: l') 0 = a.toNat := rfl
    refine ⟨at0 (a :: l') 0, by rw [hp], by omega, by omega, ?_, fun _ => ⟨by rw [hp], rfl⟩, fun h => by omega⟩
    rw [hp, encR, encN, if_pos h1]
    simp only [List.map_cons, List.map_nil, List.take_succ_cons, List.take_zero]
    rw [ofN a _ ea]
  · obtain ⟨a, b, l', rfl⟩ : ∃ a b l', l = a :: b :: l' := by
      match l, hl with
      | a :: b :: l', _ => exact ⟨a, b, l', rfl⟩
    have ea : at0 (a :: b :: l') 0 = a.toNat := rfl
    have eb : at0 (a :: b :: l') 1 = b.toNat := rfl
    generalize hr : at0 (a :: b :: l') 0 % 32 * 64 + at0 (a :: b :: l') 1 % 64 = r at *
    refine ⟨r, by rw [hp], by omega, by omega, ?_, fun h => by omega, fun _ k hk => ?_⟩
    · rw [hp, encR, encN, if_neg (by omega), if_pos (by omega)]
      simp only [List.map_cons, List.map_nil, List.take_succ_cons, List.take_zero]
      rw [ofN a _ (by omega), ofN b _ (by omega)]
    · rw [hp] at hk
      have : k = 0 ∨ k = 1 := by simp only [] at hk; omega
      rcases this with rfl | rfl <;> omega
  · obtain ⟨a, b, c, l', rfl⟩ : ∃ a b c l', l = a :: b :: c :: l' := by
      match l, hl with
      | a :: b :: c :: l', _ => exact ⟨a, b, c, l', rfl⟩
    have ea : at0 (a :: b :: c :: l') 0 = a.toNat := rfl
    have eb : at0 (a :: b :: c :: l') 1 = b.toNat := rfl
    have ec : at0 (a :: b :: c :: l') 2 = c.toNat := rfl
    generalize hr : (at0 (a :: b :: c :: l') 0 % 16 * 64 + at0 (a :: b :: c :: l') 1 % 64) * 64 + at0 (a :: b :: c :: l') 2 % 64 = r at *
    refine ⟨r, by rw [hp], by omega, by omega, ?_, fun h => by omega, fun _ k hk => ?_⟩
    · rw [hp, encR, encN, if_neg (by omega), if_neg (by omega), if_pos (by omega)]
      simp only [List.map_cons, List.map_nil, List.take_succ_cons, List.take_zero]
      rw [ofN a _ (by omega), ofN b _ (by omega), ofN c _ (by omega)]
    · rw [hp] at hk
      have : k = 0 ∨ k = 1 ∨ k = 2 := by simp only [] at hk; omega
      rcases this with rfl | rfl | rfl <;> omega
  · obtain ⟨a, b, c, d, l', rfl⟩ : ∃ a b c d l', l = a :: b :: c :: d :: l' := by
      match l, hl with
      | a :: b :: c :: d :: l', _ => exact ⟨a, b, c, d, l', rfl⟩
    have ea : at0 (a :: b :: c :: d :: l') 0 = a.toNat := rfl
    have eb : at0 (a :: b :: c :: d :: l') 1 = b.toNat := rfl
    have ec : at0 (a :: b :: c :: d :: l') 2 = c.toNat := rfl
    have ed : at0 (a :: b :: c :: d :: l') 3 = d.toNat := rfl
    generalize hr : ((at0 (a :: b :: c :: d :: l') 0 % 8 * 64 + at0 (a :: b :: c :: d :: l') 1 % 64) * 64 + at0 (a :: b :: c :: d :: l') 2 % 64) * 64 + at0 (a :: b :: c :: d :: l') 3 % 64 = r at *
    refine ⟨r, by rw [hp], by omega, by omega, ?_, fun h => by omega, fun _ k hk => ?_⟩
    · rw [hp, encR, encN, if_neg (by omega), if_neg (by omega), if_neg (by omega)]
      simp only [List.map_cons, List.map_nil, List.take_succ_cons, List.take_zero]
      rw [ofN a _ (by omega), ofN b _ (by omega), ofN c _ (by omega), ofN d _ (by omega)]
    · rw [hp] at hk
      have : k = 0 ∨ k = 1 ∨ k = 2 ∨ k = 3 := by simp only [] at hk; omega
      rcases this with rfl | rfl | rfl | rfl <;> omega

/-- of a text that is right the first piece is, and the rest is right -/
theorem valid_step (l : List UInt8) (h0 : 0 < l.length) (h : validR l = true) : Right l ∧ validR (l.drop (pieceR l).2.1) = true := by
  have hp := readS_piece l h0
  have hv := validS_cons l h0
  rw [valid_eq, valid_eq, h, hp] at hv
  dsimp only at hv
  by_cases hw : whatR l = 0
  · rw [if_neg (by simpa using hw)] at hv
    exact ⟨right_of l ((whatR_zero l).1 hw), hv.symm⟩
  · rw [if_pos hw] at hv; cases hv
end Go.Proofs.YtffaoehhhdcjjaaDoor

/-
  Ranges over strings; an array's elements.
-/
set_option linter.unusedSimpArgs false
set_option linter.unusedVariables false
set_option linter.unnecessarySimpa false
namespace Go.Sv
open Go Go.RowKit
/-- an iterator over l, at i -/
def It (w : World) (r : Nat) (l : List UInt8) (i : Nat) : Prop := w.heap[r]? = some (.stringIter ⟨l.toArray⟩ i)
section
variable {w w' : World} {r i b : Nat} {l : List UInt8} {M : List Nat} {T E : TypeId} {q : Option Addr} {s : List UInt8}
theorem It.lt (h : It w r l i) : r < w.heap.size := (Array.getElem?_eq_some_iff.1 h).1
theorem It.le (h : It w r l i) (hl : Le M w w') (hm : r ∉ M) : It w' r l i := (hl.block r h.lt hm).trans h
theorem It.frm (h : It w r l i) (hl : Frm w w') : It w' r l i := h.le (M := []) hl.le (by simp)
theorem It.bld (h : It w r l i) (hb : Bld T E w b q s) : r ∉ b :: rb q := by
  obtain ⟨pv, c, hb⟩ := hb
  have hr : w.heap[r]? = some (.stringIter ⟨l.toArray⟩ i) := h
  intro hm
  rcases List.mem_cons.1 hm with rfl | hm
  · rw [hb.cell] at hr; cases hr
  · rcases hb.row.2 with ⟨h1, _⟩ | ⟨g, cap, cur, hv, _, hg, _⟩
    · injection h1 with h1; subst h1; simp [rb] at hm
    · injection hv with h1; subst h1
      simp only [rb, List.mem_singleton] at hm
      subst hm
      rw [hg] at hr; cases hr
end
section
variable {P : Program} {n : Nat} {ds : Ctx} {ops : Array Oper} {Q : Exit → Ctx → Env → World → Prop} {rest : List Oper} {σ : GE} {w : World} {d : Nat} {ty t e : TypeId} {pos : String} {af : Array Edge} {x y : Operand} {l : List UInt8} {r i : Nat}
theorem wlallocT {zv : Value} {size bytes : Nat} [hi : Inf P e zv size bytes] (h : ∀ b w', w.heap.size ≤ b → w'.heap[b]? = some (.cells zv.cells e (0, 0)) → Frm w w' → WL P n ds ops Q rest (real (updG σ d ⟨ptrAt (pb b) 0, true⟩)) w') :
    WL P n ds ops Q (⟨some d, .alloc e, ty, pos, af, none⟩ :: rest) (real σ) w := by
  refine wl (h w.heap.size (w.alloc (.cells zv.cells e)) (Nat.le_refl _) (heap_alloc_new w _) (frm_alloc _ _)) ?_
  refine Y.val ?_
  simp [execOp, Instr.alloc, run_zeroValue (P := P) (t := e), newVar, newRow]
  rfl
theorem wlrange [hu : Und P t .string] (h : ∀ r w', w.heap.size ≤ r → It w' r l 0 → Frm w w' → WL P n ds ops Q rest (real (updG σ d ⟨.pointer (pb r), true⟩)) w') (hx : evl (real σ) x = str l := by rfl) :
    WL P n ds ops Q (⟨some d, .range t x, ty, pos, af, none⟩ :: rest) (real σ) w := by
  refine wl (h w.heap.size (w.alloc (.stringIter ⟨l.toArray⟩ 0)) (Nat.le_refl _) (heap_alloc_new w _) (frm_alloc _ _)) (Y.val ?_)
  simp only [execOp, hx, Instr.range, Sem.run_bind, underlying, run_program, Result.andThen_ok, hu.ok, Sem.run_pure]
  rfl
theorem run_getObj_it (h : It w r l i) : (getObj r).run P w = .ok (.stringIter ⟨l.toArray⟩ i) w := by
  have h : w.heap[r]? = _ := h
  simp [getObj, Sem.run, h]
theorem wlnext_yes (ht : It w r l i) (hi : i < l.length) (h : ∀ w', It w' r l (i + (Utf8.decode ⟨l.toArray⟩ i).2) → Le [r] w w' → WL P n ds ops Q rest (real (updG σ d ⟨.tuple #[.bool true, int i, i32 (Utf8.decode ⟨l.toArray⟩ i).1], true⟩)) w')
    (hx : evl (real σ) x = .pointer (pb r) := by rfl) :
    WL P n ds ops Q (⟨some d, .next x true, ty, pos, af, none⟩ :: rest) (real σ) w := by
  have hg := run_getObj_it (P := P) ht
  have ht : w.heap[r]? = _ := ht
  have hs := MapKept.heap_set (o' := .stringIter ⟨l.toArray⟩ (i + (Utf8.decode ⟨l.toArray⟩ i).2)) ht
  have hset : (setObj r (.stringIter ⟨l.toArray⟩ (i + (Utf8.decode ⟨l.toArray⟩ i).2))).run P w = .ok () { w with heap := w.heap.setIfInBounds r (.stringIter ⟨l.toArray⟩ (i + (Utf8.decode ⟨l.toArray⟩ i).2)) } := by
    simp [setObj, Sem.run, ht]
  refine wl (h { w with heap := w.heap.setIfInBounds r (.stringIter ⟨l.toArray⟩ (i + (Utf8.decode ⟨l.toArray⟩ i).2)) } hs.1 ⟨rfl, rfl, rfl, by simp, fun k _ hk => hs.2 k (by simpa using hk)⟩) (Y.val ?_)
  simp only [execOp, hx, Instr.next, Sem.run_bind, hg, Result.andThen_ok]
  rw [if_pos (by simpa [ByteArray.size] using hi)]
  simp only [Sem.run_bind, hset, Result.andThen_ok, Sem.run_pure]
  rfl
theorem wlnext_no (ht : It w r l i) (hi : l.length ≤ i) (h : WL P n ds ops Q rest (real (updG σ d ⟨.tuple #[.bool false], true⟩)) w)
    (hx : evl (real σ) x = .pointer (pb r) := by rfl) :
    WL P n ds ops Q (⟨some d, .next x true, ty, pos, af, none⟩ :: rest) (real σ) w := by
  have hg := run_getObj_it (P := P) ht
  refine wl h (Y.val ?_)
  simp only [execOp, hx, Instr.next, Sem.run_bind, hg, Result.andThen_ok]
  rw [if_neg (by simp [ByteArray.size]; omega)]
  simp only [Sem.run_bind, Result.andThen_ok, Sem.run_pure]
end
end Go.Sv

