/-
  Package sieveref01: Valid; and it says what utf.Valid says.
-/
import Derived.Test.YtffaoehhhdcjjaaSvRef01b
set_option linter.unusedSimpArgs false
set_option linter.unusedVariables false
set_option linter.unnecessarySimpa false
namespace Go.Proofs.Ytffaoehhhdcjjaa
open Go Go.Sv Go.RowKit

def validR (l : List UInt8) : Bool := (piecesR l).all (·.right)

theorem piecesF_len : ∀ (f a : Nat) (l : List UInt8), (piecesF f a l).length ≤ l.length
  | 0, a, l => by simp [piecesF]
  | f + 1, a, l => by
    simp only [piecesF]
    split
    · simp
    · rename_i hne
      have hl : 0 < l.length := List.length_pos_iff.2 hne
      have := pieceR_rng l hl
      have ih := piecesF_len f (a + (pieceR l).2.1) (l.drop (pieceR l).2.1)
      simp only [List.length_cons, List.length_drop] at ih ⊢
      omega
theorem flatMap_cells_drop (l : List Piece) : ∀ (i j : Nat), j < 4 → (l.flatMap Piece.cells)[i * 4 + j]? = (l[i]?).bind fun x => x.cells[j]? := by
  induction l with
  | nil => intro i j _; simp
  | cons x l ih =>
    intro i j hj
    rw [List.flatMap_cons]
    cases i with
    | zero => simp only [Nat.zero_mul, Nat.zero_add]; rw [List.getElem?_append_left (by simpa [Piece.cells] using hj)]; simp
    | succ i =>
      rw [List.getElem?_append_right (by simp [Piece.cells]; omega)]
      have := ih i j hj
      simp only [Piece.cells, List.length_cons, List.length_nil] at this ⊢
      rw [show (i + 1) * 4 + j - (0 + 1 + 1 + 1 + 1) = i * 4 + j from by omega, this]; simp
theorem flatMap_cells_seg (l : List Piece) (i : Nat) (x : Piece) (hx : l[i]? = some x) : ((l.flatMap Piece.cells).drop (i * 4)).take 4 = x.cells := by
  apply List.ext_getElem?
  intro j
  rcases Nat.lt_or_ge j 4 with h | h
  · rw [List.getElem?_take_of_lt h, List.getElem?_drop, flatMap_cells_drop l i j h, hx]; rfl
  · rw [List.getElem?_eq_none (by simp; omega), List.getElem?_eq_none (by simpa [Piece.cells] using h)]
theorem flatMap_cells_len (l : List Piece) : (l.flatMap Piece.cells).length = l.length * 4 := by
  induction l with
  | nil => rfl
  | cons x l ih => simp [List.flatMap_cons, Piece.cells, ih]; omega


















































/-! ## utf.read reads what the reference's piece is -/
theorem rd_good (l : List UInt8) (m : Nat) : ∀ (g f i r : Nat), i + g = m + 1 → 2 ≤ i → i ≤ l.length → g ≤ f →
    rdLoop l m g i r 128 191 = if goodF l (m + 1) f i = m + 1 then (((accR l g i r : Nat) : Int), (m : Int) + 1, 0) else (65533, (goodF l (m + 1) f i : Nat), if goodF l (m + 1) f i = l.length then 2 else 1)
  | 0, f, i, r, h, h2, hl, hf => by
    have e : goodF l (m + 1) f i = i := by cases f with | zero => rfl | succ f => rw [goodF, if_neg (by omega)]
    rw [e, if_pos (by omega), rdLoop, accR]
  | g + 1, 0, i, r, h, h2, hl, hf => by omega
  | g + 1, f + 1, i, r, h, h2, hl, hf => by
    rw [rdLoop]
    by_cases h1 : i = l.length
    · have eg : goodF l (m + 1) (f + 1) i = i := by rw [goodF, if_neg (show ¬ (i < m + 1 ∧ i < l.length) by omega)]
      rw [if_pos h1, eg, if_neg (by omega), if_pos h1]
    · rw [if_neg h1]
      by_cases h3 : (at0 l i : Int) < 128 ∨ 191 < (at0 l i : Int)
      · have eg : goodF l (m + 1) (f + 1) i = i := by rw [goodF, if_pos (show i < m + 1 ∧ i < l.length by omega), if_pos (.inr ⟨by omega, by omega⟩)]
        rw [if_pos h3, eg, if_neg (by omega), if_neg h1]
      · have eg : goodF l (m + 1) (f + 1) i = goodF l (m + 1) f (i + 1) := by rw [goodF, if_pos (show i < m + 1 ∧ i < l.length by omega), if_neg (by omega)]
        rw [if_neg h3, eg]
        have := rd_good l m g f (i + 1) (r * 64 + at0 l i % 64) (by omega) (by omega) (by omega) (by omega)
        have ea : accR l (g + 1) i r = accR l g (i + 1) (r * 64 + at0 l i % 64) := rfl
        rw [ea, ← this]; simp

theorem bsz (c : Nat) (h : 2 ≤ sizeR c) : ∃ lo hi : Nat, boundsS c = ((sizeR c : Int) - 1, (lo : Int), (hi : Int)) ∧ ∀ d, secondR c d = (decide (lo ≤ d) && decide (d ≤ hi)) := by
  have hc : 0xC2 ≤ c ∧ c ≤ 0xF4 := by
    unfold sizeR at h
    by_cases h1 : c < 0x80
    · rw [if_pos h1] at h; omega
    · by_cases h2 : 0xC2 ≤ c ∧ c ≤ 0xF4
      · exact h2
      · rw [if_neg h1, if_neg (by omega), if_neg (by omega), if_neg (by omega)] at h; omega
  by_cases e0 : c = 0xe0
  · subst e0; exact ⟨0xa0, 0xbf, rfl, fun d => rfl⟩
  by_cases e1 : c = 0xed
  · subst e1; exact ⟨0x80, 0x9f, rfl, fun d => rfl⟩
  by_cases e2 : c = 0xf0
  · subst e2; exact ⟨0x90, 0xbf, rfl, fun d => rfl⟩
  by_cases e3 : c = 0xf4
  · subst e3; exact ⟨0x80, 0x8f, rfl, fun d => rfl⟩
  refine ⟨0x80, 0xbf, ?_, fun d => by unfold secondR; rw [if_neg e0, if_neg e1, if_neg e2, if_neg e3]⟩
  unfold boundsS sizeR
  by_cases a : c ≤ 0xdf
  · rw [if_neg (by omega), if_pos (by omega), if_neg (by omega), if_pos (by omega)]; rfl
  · by_cases b : c ≤ 0xef
    · rw [if_neg (by omega), if_neg (by omega), if_neg e0, if_neg e1, if_pos (by omega), if_neg (by omega), if_neg (by omega), if_pos (by omega)]; rfl
    · rw [if_neg (by omega), if_neg (by omega), if_neg e0, if_neg e1, if_neg (by omega), if_neg e2, if_pos (by omega), if_neg (by omega), if_neg (by omega), if_neg (by omega), if_pos (by omega)]; rfl

/-- what it tells besides the piece: whole, wrong or only begun -/
def whatR (l : List UInt8) : Int := if (pieceR l).2.2 then 0 else if 0 < (goodR l).1 ∧ (goodR l).1 = l.length then 2 else 1

theorem readS_piece (l : List UInt8) (h0 : 0 < l.length) : readS l = ((pieceR l).1, ((pieceR l).2.1 : Int), whatR l) := by
  have hc := at0_lt l 0
  by_cases h1 : at0 l 0 < 0x80
  · have hb : boundsS (at0 l 0) = (0, 0, 0) := by unfold boundsS; rw [if_pos h1]
    have hs : sizeR (at0 l 0) = 1 := by unfold sizeR; rw [if_pos h1]
    have hg : goodR l = (1, true) := by
      have e : goodF l 1 4 1 = 1 := by rw [goodF, if_neg (by omega)]
      unfold goodR; rw [hs, if_neg (by omega), e]; rfl
    simp only [readS, whatR, pieceR, hg, hb, firstR]
    simp [accR]
  · by_cases h2 : 2 ≤ sizeR (at0 l 0)
    · obtain ⟨lo, hi, hb, hsec⟩ := bsz _ h2
      have h4 := sizeR_le (at0 l 0)
      obtain ⟨m, hm⟩ : ∃ m, sizeR (at0 l 0) = m + 1 := ⟨sizeR (at0 l 0) - 1, by omega⟩
      have hr : readS l = rdLoop l m m 1 (at0 l 0 % 2 ^ (6 - m) : Nat) lo hi := by
        simp only [readS, hb, hm]
        rw [if_neg (by omega), if_neg (by omega)]
        rw [show ((m + 1 : Nat) : Int) - 1 = (m : Int) from by omega, Int.toNat_natCast]
      have hf : firstR (at0 l 0) (m + 1) = at0 l 0 % 2 ^ (6 - m) := by
        have : m = 1 ∨ m = 2 ∨ m = 3 := by omega
        rcases this with rfl | rfl | rfl <;> simp [firstR]
      have hg : goodR l = (goodF l (m + 1) 4 1, decide (goodF l (m + 1) 4 1 = m + 1)) := by unfold goodR; rw [hm, if_neg (by omega)]
      have key : readS l = if goodF l (m + 1) 4 1 = m + 1 then (((accR l m 1 (firstR (at0 l 0) (m + 1)) : Nat) : Int), (m : Int) + 1, 0) else (65533, (goodF l (m + 1) 4 1 : Nat), if goodF l (m + 1) 4 1 = l.length then 2 else 1) := by
        obtain ⟨g, rfl⟩ : ∃ g, m = g + 1 := ⟨m - 1, by omega⟩
        rw [hr, hf, rdLoop]
        by_cases e1 : 1 = l.length
        · have eg : goodF l (g + 1 + 1) 4 1 = 1 := by rw [goodF, if_neg (show ¬ (1 < g + 1 + 1 ∧ 1 < l.length) by omega)]
          rw [if_pos e1, eg, if_neg (by omega), if_pos e1]
        · rw [if_neg e1]
          have hs1 : secondR (at0 l 0) (at0 l 1) = false ↔ ((at0 l 1 : Int) < lo ∨ (hi : Int) < at0 l 1) := by
            rw [hsec, Bool.and_eq_false_iff, decide_eq_false_iff_not, decide_eq_false_iff_not]; omega
          by_cases e2 : (at0 l 1 : Int) < lo ∨ (hi : Int) < at0 l 1
          · have eg : goodF l (g + 1 + 1) 4 1 = 1 := by rw [goodF, if_pos (show 1 < g + 1 + 1 ∧ 1 < l.length by omega), if_pos (.inl ⟨rfl, hs1.2 e2⟩)]
            rw [if_pos e2, eg, if_neg (by omega), if_neg e1]
          · have eg : goodF l (g + 1 + 1) 4 1 = goodF l (g + 1 + 1) 3 2 := by
              rw [goodF, if_pos (show 1 < g + 1 + 1 ∧ 1 < l.length by omega), if_neg]
              rintro (⟨_, h⟩ | ⟨h, _⟩)
              · exact e2 (hs1.1 h)
              · omega
            rw [if_neg e2, eg]
            have := rd_good l (g + 1) g 3 2 (at0 l 0 % 2 ^ (6 - (g + 1)) * 64 + at0 l 1 % 64) (by omega) (by omega) (by omega) (by omega)
            have ea : accR l (g + 1) 1 (at0 l 0 % 2 ^ (6 - (g + 1))) = accR l g 2 (at0 l 0 % 2 ^ (6 - (g + 1)) * 64 + at0 l 1 % 64) := rfl
            rw [ea, ← this]; simp
      rw [key]
      have hgr := goodF_rng l (m + 1) h0 4 1 (by omega) (by omega)
      by_cases e : goodF l (m + 1) 4 1 = m + 1
      · rw [if_pos e]
        simp only [whatR, pieceR, hg, e]
        simp
      · rw [if_neg e]
        simp only [whatR, pieceR, hg]
        simp only [e, decide_false, Bool.false_eq_true, if_false]
        rw [if_neg (show ¬ goodF l (m + 1) 4 1 = 0 by omega)]
        by_cases e3 : goodF l (m + 1) 4 1 = l.length
        · rw [if_pos e3, if_pos ⟨by omega, e3⟩]
        · rw [if_neg e3, if_neg (by omega)]
    · have hs : sizeR (at0 l 0) = 0 := by
        unfold sizeR at h2 ⊢
        rw [if_neg h1] at h2 ⊢
        repeat' split at h2
        all_goals first | omega | skip
        rw [if_neg (by assumption), if_neg (by assumption), if_neg (by assumption)]
      have hb : boundsS (at0 l 0) = (-1, 0, 0) := by
        have : ¬ (0xC2 ≤ at0 l 0 ∧ at0 l 0 ≤ 0xF4) := by
          intro hh
          unfold sizeR at hs
          rw [if_neg h1] at hs
          repeat' split at hs
          all_goals omega
        unfold boundsS
        rw [if_neg (by omega), if_neg (by omega), if_neg (by omega), if_neg (by omega), if_neg (by omega), if_neg (by omega), if_neg (by omega), if_neg (by omega)]
      have hg : goodR l = (0, false) := by unfold goodR; rw [if_pos hs]
      simp [readS, whatR, pieceR, hg, hb]

theorem whatR_zero (l : List UInt8) : whatR l = 0 ↔ (pieceR l).2.2 = true := by
  unfold whatR
  cases (pieceR l).2.2
  · simp only [Bool.false_eq_true, if_false]; split <;> simp
  · simp
theorem valid_eqF : ∀ (f a : Nat) (l : List UInt8), l.length ≤ f → validF f l = (piecesF f a l).all (·.right)
  | 0, a, l, _ => rfl
  | f + 1, a, l, h => by
    simp only [validF, piecesF]
    split
    · rfl
    · rename_i hne
      have hl : 0 < l.length := List.length_pos_iff.2 hne
      have hp := readS_piece l hl
      have hr := pieceR_rng l hl
      rw [List.all_cons, ← valid_eqF f _ _ (by simp; omega), hp]
      dsimp only
      by_cases hw : whatR l = 0
      · rw [if_neg (by simpa using hw), (whatR_zero l).1 hw]; simp
      · rw [if_pos hw]
        have : (pieceR l).2.2 = false := by
          cases h3 : (pieceR l).2.2 with
          | true => exact absurd ((whatR_zero l).2 h3) hw
          | false => rfl
        rw [this]; rfl
/-- the program's Valid is the reference's -/
theorem valid_eq (l : List UInt8) : validS l = validR l := valid_eqF _ _ _ (Nat.le_refl _)
end Go.Proofs.Ytffaoehhhdcjjaa
