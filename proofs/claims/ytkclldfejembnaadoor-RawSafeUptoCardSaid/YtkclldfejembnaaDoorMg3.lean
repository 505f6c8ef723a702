/-
  Our texts SvDec, SvMend, SvMendB, SvIter, SvRunes, SvRange, SvRunesB, SvMendC, SvPl1, SvVal, SvCut, Shelf, SvQuote, SvNm, SvRwA, SvTokA, SvTokB, SvTokC, SvTokD, SvFp, SvTokE, SvTokF, SvTokG, SvLives07, SvTokH, SvDraw, SvDraw2, SvRowS, SvSep, SvEvA, SvLkA, SvLkB, SvLkC, SvLkD, joined.
-/
import Derived.Test.YtkclldfejembnaaDoorMg2
import Derived.Laws.Cover4
import Derived.Shelf.Small.Utf8
import Derived.Shelf.Strings.Fields
import Derived.Shelf.LaysM
import Derived.Shelf.Strings.SplitShaped
import Derived.Shelf.Unicode.Latin
import Derived.Shelf.Unicode.Is16White
import Derived.Shelf.Unicode.IsSpaceAny
import Derived.Shelf.Unicode.Is16WhiteD
import Derived.Shelf.Unicode.IsSpaceAnyD
import Derived.Shelf.Unicode.Is16Any
import Derived.Shelf.Unicode.Is32Any
import Derived.Shelf.Unicode.ExclAny
import Derived.Test.YtkclldfejembnaaDoorProg
import Derived.Laws.MakeOwn
/-
  What a right piece is: its bytes, its rune, how the language's range reads it, how the library writes it.
-/
set_option linter.unusedSimpArgs false
set_option linter.unusedVariables false
set_option linter.unnecessarySimpa false
namespace Go.Proofs.YtkclldfejembnaaDoor
open Go Go.Sv Go.RowKit

/-- the four kinds of right pieces -/
def Right (l : List UInt8) : Prop :=
  (at0 l 0 < 128 ∧ pieceR l = (((at0 l 0 : Nat) : Int), 1, true))
  ∨ (1 < l.length ∧ 194 ≤ at0 l 0 ∧ at0 l 0 ≤ 223 ∧ 128 ≤ at0 l 1 ∧ at0 l 1 ≤ 191 ∧ pieceR l = (((at0 l 0 % 32 * 64 + at0 l 1 % 64 : Nat) : Int), 2, true))
  ∨ (2 < l.length ∧ 224 ≤ at0 l 0 ∧ at0 l 0 ≤ 239 ∧ 128 ≤ at0 l 1 ∧ at0 l 1 ≤ 191 ∧ (at0 l 0 = 224 → 160 ≤ at0 l 1) ∧ (at0 l 0 = 237 → at0 l 1 ≤ 159) ∧ 128 ≤ at0 l 2 ∧ at0 l 2 ≤ 191 ∧ pieceR l = ((((at0 l 0 % 16 * 64 + at0 l 1 % 64) * 64 + at0 l 2 % 64 : Nat) : Int), 3, true))
  ∨ (3 < l.length ∧ 240 ≤ at0 l 0 ∧ at0 l 0 ≤ 244 ∧ 128 ≤ at0 l 1 ∧ at0 l 1 ≤ 191 ∧ (at0 l 0 = 240 → 144 ≤ at0 l 1) ∧ (at0 l 0 = 244 → at0 l 1 ≤ 143) ∧ 128 ≤ at0 l 2 ∧ at0 l 2 ≤ 191 ∧ 128 ≤ at0 l 3 ∧ at0 l 3 ≤ 191 ∧ pieceR l = (((((at0 l 0 % 8 * 64 + at0 l 1 % 64) * 64 + at0 l 2 % 64) * 64 + at0 l 3 % 64 : Nat) : Int), 4, true))

theorem secR (c d : Nat) (h : secondR c d = true) : 128 ≤ d ∧ d ≤ 191 ∧ (c = 224 → 160 ≤ d) ∧ (c = 237 → d ≤ 159) ∧ (c = 240 → 144 ≤ d) ∧ (c = 244 → d ≤ 143) := by
  unfold secondR at h
  repeat' split at h
  all_goals simp only [Bool.and_eq_true, decide_eq_true_eq] at h
  all_goals omega

theorem right_of (l : List UInt8) (h : (pieceR l).2.2 = true) : Right l := by
  have hg2 : (goodR l).2 = true := h
  have hs0 : ¬ sizeR (at0 l 0) = 0 := by
    intro h0
    unfold goodR at hg2; rw [if_pos h0] at hg2; cases hg2
  have hg : goodR l = (goodF l (sizeR (at0 l 0)) 4 1, decide (goodF l (sizeR (at0 l 0)) 4 1 = sizeR (at0 l 0))) := by unfold goodR; rw [if_neg hs0]
  have he : goodF l (sizeR (at0 l 0)) 4 1 = sizeR (at0 l 0) := by
    rw [hg] at hg2; simpa using hg2
  have hp : pieceR l = (((accR l (sizeR (at0 l 0) - 1) 1 (firstR (at0 l 0) (sizeR (at0 l 0))) : Nat) : Int), sizeR (at0 l 0), true) := by
    have hg' : goodR l = (sizeR (at0 l 0), true) := by rw [hg, he]; simp
    unfold pieceR
    rw [hg']
    simp [hs0]
  have hc := at0_lt l 0
  have hsz : (sizeR (at0 l 0) = 1 ∧ at0 l 0 < 128) ∨ (sizeR (at0 l 0) = 2 ∧ 194 ≤ at0 l 0 ∧ at0 l 0 ≤ 223) ∨ (sizeR (at0 l 0) = 3 ∧ 224 ≤ at0 l 0 ∧ at0 l 0 ≤ 239) ∨ (sizeR (at0 l 0) = 4 ∧ 240 ≤ at0 l 0 ∧ at0 l 0 ≤ 244) := by
    revert hs0
    unfold sizeR
    repeat' split
    all_goals omega
  rcases hsz with ⟨e, h1⟩ | ⟨e, h1, h2⟩ | ⟨e, h1, h2⟩ | ⟨e, h1, h2⟩
  · left
    refine ⟨h1, ?_⟩
    rw [hp, e]; rfl
  · right; left
    rw [e] at he hp
    rw [goodF] at he
    split at he
    · rename_i hk
      split at he
      · omega
      · rename_i hk2
        have hs : secondR (at0 l 0) (at0 l 1) = true := by
          cases hh : secondR (at0 l 0) (at0 l 1) with
          | true => rfl
          | false => exact absurd (.inl ⟨rfl, hh⟩) hk2
        have := secR _ _ hs
        exact ⟨hk.2, h1, h2, this.1, this.2.1, hp⟩
    · omega
  · right; right; left
    rw [e] at he hp
    rw [goodF] at he
    split at he
    · rename_i hk
      split at he
      · omega
      · rename_i hk2
        have hs : secondR (at0 l 0) (at0 l 1) = true := by
          cases hh : secondR (at0 l 0) (at0 l 1) with
          | true => rfl
          | false => exact absurd (.inl ⟨rfl, hh⟩) hk2
        have := secR _ _ hs
        rw [goodF] at he
        split at he
        · rename_i hk3
          split at he
          · omega
          · rename_i hk4
            simp only [Nat.reduceAdd] at hk4
            exact ⟨hk3.2, h1, h2, this.1, this.2.1, this.2.2.1, this.2.2.2.1, by omega, by omega, hp⟩
        · omega
    · omega
  · right; right; right
    rw [e] at he hp
    rw [goodF] at he
    split at he
    · rename_i hk
      split at he
      · omega
      · rename_i hk2
        have hs : secondR (at0 l 0) (at0 l 1) = true := by
          cases hh : secondR (at0 l 0) (at0 l 1) with
          | true => rfl
          | false => exact absurd (.inl ⟨rfl, hh⟩) hk2
        have := secR _ _ hs
        rw [goodF] at he
        split at he
        · rename_i hk3
          split at he
          · omega
          · rename_i hk4
            rw [goodF] at he
            split at he
            · rename_i hk5
              split at he
              · omega
              · rename_i hk6
                simp only [Nat.reduceAdd] at hk4 hk6
                exact ⟨hk5.2, h1, h2, this.1, this.2.1, this.2.2.2.2.1, this.2.2.2.2.2, by omega, by omega, by omega, by omega, hp⟩
            · omega
        · omega
    · omega

theorem get_at0 (l : List UInt8) (i k : Nat) : (ByteArray.get! ⟨l.toArray⟩ (i + k)).toNat = at0 (l.drop i) k := by
  simp only [at0, List.getElem?_drop, ByteArray.get!]
  congr 1
  simp [getElem!_def]
  cases l[i + k]? <;> rfl
theorem decode_right (l : List UInt8) (i : Nat) (hr : Right (l.drop i)) : Utf8.decode ⟨l.toArray⟩ i = ((pieceR (l.drop i)).1.toNat, (pieceR (l.drop i)).2.1) := by
  have hd : ∀ k, (k < (l.drop i).length) = (i + k < l.length) := fun k => by simp; omega
  unfold Utf8.decode
  simp only [get_at0, size_str]
  unfold Right at hr
  simp only [hd] at hr
  generalize at0 (l.drop i) 0 = b0 at *
  generalize at0 (l.drop i) 1 = b1 at *
  generalize at0 (l.drop i) 2 = b2 at *
  generalize at0 (l.drop i) 3 = b3 at *
  rcases hr with ⟨h1, hp⟩ | ⟨hl, h1, h2, h3, h4, hp⟩ | ⟨hl, h1, h2, h3, h4, h5, h6, h7, h8, hp⟩ | ⟨hl, h1, h2, h3, h4, h5, h6, h7, h8, h9, h10, hp⟩
  · rw [hp, if_pos h1]; rfl
  · have e1 : b0 / 32 = 6 := by omega
    have e2 : b1 / 64 = 2 := by omega
    rw [hp, if_neg (by omega), if_pos (by simp [e1, e2, hl]), if_pos (by omega)]; rfl
  · have e1 : ¬ b0 / 32 = 6 := by omega
    have e2 : b1 / 64 = 2 := by omega
    have e3 : b0 / 16 = 14 := by omega
    have e4 : b2 / 64 = 2 := by omega
    have hl1 : i + 1 < l.length := by omega
    have ec : b0 % 16 * 4096 + b1 % 64 * 64 + b2 % 64 = (b0 % 16 * 64 + b1 % 64) * 64 + b2 % 64 := by omega
    rw [hp, if_neg (by omega), if_neg (by simp [e1]), if_pos (by simp [e3, e2, e4, hl, hl1]), ec, if_pos]
    · rfl
    · simp only [Utf8.valid, Bool.and_eq_true, Bool.or_eq_true, decide_eq_true_eq]
      omega
  · have e1 : ¬ b0 / 32 = 6 := by omega
    have e2 : b1 / 64 = 2 := by omega
    have e3 : ¬ b0 / 16 = 14 := by omega
    have e4 : b2 / 64 = 2 := by omega
    have e5 : b0 / 8 = 30 := by omega
    have e6 : b3 / 64 = 2 := by omega
    have hl1 : i + 1 < l.length := by omega
    have hl2 : i + 2 < l.length := by omega
    have ec : b0 % 8 * 262144 + b1 % 64 * 4096 + b2 % 64 * 64 + b3 % 64 = ((b0 % 8 * 64 + b1 % 64) * 64 + b2 % 64) * 64 + b3 % 64 := by omega
    rw [hp, if_neg (by omega), if_neg (by simp [e1]), if_neg (by simp [e3]), if_pos (by simp [e5, e2, e4, e6, hl, hl1, hl2]), ec, if_pos]
    · rfl
    · simp only [Utf8.valid, Bool.and_eq_true, Bool.or_eq_true, decide_eq_true_eq]
      omega

theorem ofN (c : UInt8) (n : Nat) (h : n = c.toNat) : UInt8.ofNat n = c := by subst h; exact UInt8.ofNat_toNat
/-- a right piece's rune is written as the piece's bytes -/
theorem enc_right (l : List UInt8) (h0 : 0 < l.length) (hr : Right l) : ∃ r : Nat, (pieceR l).1 = (r : Int) ∧ r < 1114112 ∧ ¬ (55296 ≤ r ∧ r ≤ 57343) ∧ encR r = l.take (pieceR l).2.1 ∧ (r < 128 → (pieceR l).2.1 = 1 ∧ at0 l 0 = r) ∧ (128 ≤ r → ∀ k, k < (pieceR l).2.1 → 128 ≤ at0 l k) := by
  have hb0 := at0_lt l 0
  have hb1 := at0_lt l 1
  have hb2 := at0_lt l 2
  have hb3 := at0_lt l 3
  rcases hr with ⟨h1, hp⟩ | ⟨hl, h1, h2, h3, h4, hp⟩ | ⟨hl, h1, h2, h3, h4, h5, h6, h7, h8, hp⟩ | ⟨hl, h1, h2, h3, h4, h5, h6, h7, h8, h9, h10, hp⟩
  · obtain ⟨a, l', rfl⟩ : ∃ a l', l = a :: l' := by
      cases l with
      | nil => simp at h0
      | cons a l' => exact ⟨a, l', rfl⟩
    have ea : at0 (a :: l') 0 = a.toNat := rfl
    refine ⟨at0 (a :: l') 0, by rw [hp], by omega, by omega, ?_, fun _ => ⟨by rw [hp], rfl⟩, fun h => by omega⟩
    rw [hp, encR, encN, if_pos h1]
    simp only [List.map_cons, List.map_nil, List.take_succ_cons, List.take_zero]
    rw [ofN a _ ea]
  · obtain ⟨a, b, l', rfl⟩ : ∃ a b l', l = a :: b :: l' := by
      match l, hl with
      | a :: b :: l', _ => exact ⟨a, b, l', rfl⟩
    have ea : at0 (a :: b :: l') 0 = a.toNat := rfl
    have eb : at0 (a :: b :: l') 1 = b.toNat := rfl
    generalize hr : at0 (a :: b :: l') 0 % 32 * 64 + at0 (a :: b :: l') 1 % 64 = r at *
    refine ⟨r, by rw [hp], by omega, by omega, ?_, fun h => by omega, fun _ k hk => ?_⟩
    · rw [hp, encR, encN, if_neg (by omega), if_pos (by omega)]
      simp only [List.map_cons, List.map_nil, List.take_succ_cons, List.take_zero]
      rw [ofN a _ (by omega), ofN b _ (by omega)]
    · rw [hp] at hk
      have : k = 0 ∨ k = 1 := by simp only [] at hk; omega
      rcases this with rfl | rfl <;> omega
  · obtain ⟨a, b, c, l', rfl⟩ : ∃ a b c l', l = a :: b :: c :: l' := by
      match l, hl with
      | a :: b :: c :: l', _ => exact ⟨a, b, c, l', rfl⟩
    have ea : at0 (a :: b :: c :: l') 0 = a.toNat := rfl
    have eb : at0 (a :: b :: c :: l') 1 = b.toNat := rfl
    have ec : at0 (a :: b :: c :: l') 2 = c.toNat := rfl
    generalize hr : (at0 (a :: b :: c :: l') 0 % 16 * 64 + at0 (a :: b :: c :: l') 1 % 64) * 64 + at0 (a :: b :: c :: l') 2 % 64 = r at *
    refine ⟨r, by rw [hp], by omega, by omega, ?_, fun h => by omega, fun _ k hk => ?_⟩
    · rw [hp, encR, encN, if_neg (by omega), if_neg (by omega), if_pos (by omega)]
      simp only [List.map_cons, List.map_nil, List.take_succ_cons, List.take_zero]
      rw [ofN a _ (by omega), ofN b _ (by omega), ofN c _ (by omega)]
    · rw [hp] at hk
      have : k = 0 ∨ k = 1 ∨ k = 2 := by simp only [] at hk; omega
      rcases this with rfl | rfl | rfl <;> omega
  · obtain ⟨a, b, c, d, l', rfl⟩ : ∃ a b c d l', l = a :: b :: c :: d :: l' := by
      match l, hl with
      | a :: b :: c :: d :: l', _ => exact ⟨a, b, c, d, l', rfl⟩
    have ea : at0 (a :: b :: c :: d :: l') 0 = a.toNat := rfl
    have eb : at0 (a :: b :: c :: d :: l') 1 = b.toNat := rfl
    have ec : at0 (a :: b :: c :: d :: l') 2 = c.toNat := rfl
    have ed : at0 (a :: b :: c :: d :: l') 3 = d.toNat := rfl
    generalize hr : ((at0 (a :: b :: c :: d :: l') 0 % 8 * 64 + at0 (a :: b :: c :: d :: l') 1 % 64) * 64 + at0 (a :: b :: c :: d :: l') 2 % 64) * 64 + at0 (a :: b :: c :: d :: l') 3 % 64 = r at *
    refine ⟨r, by rw [hp], by omega, by omega, ?_, fun h => by omega, fun _ k hk => ?_⟩
    · rw [hp, encR, encN, if_neg (by omega), if_neg (by omega), if_neg (by omega)]
      simp only [List.map_cons, List.map_nil, List.take_succ_cons, List.take_zero]
      rw [ofN a _ (by omega), ofN b _ (by omega), ofN c _ (by omega), ofN d _ (by omega)]
    · rw [hp] at hk
      have : k = 0 ∨ k = 1 ∨ k = 2 ∨ k = 3 := by simp only [] at hk; omega
      rcases this with rfl | rfl | rfl | rfl <;> omega

/-- of a text that is right the first piece is, and the rest is right -/
theorem valid_step (l : List UInt8) (h0 : 0 < l.length) (h : validR l = true) : Right l ∧ validR (l.drop (pieceR l).2.1) = true := by
  have hp := readS_piece l h0
  have hv := validS_cons l h0
  rw [valid_eq, valid_eq, h, hp] at hv
  dsimp only at hv
  by_cases hw : whatR l = 0
  · rw [if_neg (by simpa using hw)] at hv
    exact ⟨right_of l ((whatR_zero l).1 hw), hv.symm⟩
  · rw [if_pos hw] at hv; cases hv
end Go.Proofs.YtkclldfejembnaaDoor

/-
  Texts mended: what that is; package sieveref01's Mend, walked.
-/
set_option linter.unusedSimpArgs false
set_option linter.unusedVariables false
set_option linter.unnecessarySimpa false
namespace Go.Proofs.YtkclldfejembnaaDoor
open Go Go.Sv Go.RowKit

/-- a rune that is a character -/
def Good (r : Nat) : Prop := r < 1114112 ∧ ¬ (55296 ≤ r ∧ r ≤ 57343)
def runesN (l : List UInt8) : List Nat := (piecesR l).map fun x => x.r.toNat
/-- a text mended -/
def mendR (l : List UInt8) : List UInt8 := (runesN l).flatMap encR
theorem pieceR_good (l : List UInt8) (h0 : 0 < l.length) : ∃ r : Nat, (pieceR l).1 = (r : Int) ∧ Good r := by
  cases hr : (pieceR l).2.2 with
  | true =>
    obtain ⟨r, h1, h2, h3, _⟩ := enc_right l h0 (right_of l hr)
    exact ⟨r, h1, h2, h3⟩
  | false =>
    refine ⟨65533, ?_, by decide, by decide⟩
    have : (goodR l).2 = false := hr
    simp [pieceR, this]
theorem piecesF_good : ∀ (f a : Nat) (l : List UInt8), ∀ x ∈ piecesF f a l, ∃ r : Nat, x.r = (r : Int) ∧ Good r
  | 0, _, _ => by simp [piecesF]
  | f + 1, a, l => by
    simp only [piecesF]
    split
    · simp
    · rename_i hne
      intro x hx
      rcases List.mem_cons.1 hx with rfl | hx
      · exact pieceR_good l (List.length_pos_iff.2 hne)
      · exact piecesF_good f _ _ x hx
theorem pieces_r (l : List UInt8) : (piecesR l).map (fun x => i32 x.r) = (runesN l).map fun n : Nat => i32 n := by
  unfold runesN
  rw [List.map_map]
  refine List.map_congr_left fun x hx => ?_
  obtain ⟨r, h, _⟩ := piecesF_good _ _ _ x hx
  simp [h]
theorem runesN_good (l : List UInt8) : ∀ r ∈ runesN l, Good r := by
  intro r hr
  unfold runesN at hr
  obtain ⟨x, hx, rfl⟩ := List.mem_map.1 hr
  obtain ⟨r, h, hg⟩ := piecesF_good _ _ _ x hx
  rw [h]; exact hg
theorem encN_len (r : Nat) : 1 ≤ (encN r).length ∧ (encN r).length ≤ 4 := by
  unfold encN
  repeat' split
  all_goals simp
theorem encR_len4 (r : Nat) : 1 ≤ (encR r).length ∧ (encR r).length ≤ 4 := by rw [encR_len]; exact encN_len r
theorem encR_flat (rs : List Nat) : (rs.flatMap encR).length ≤ 4 * rs.length := by
  induction rs with
  | nil => simp
  | cons r rs ih => have := encR_len4 r; simp only [List.flatMap_cons, List.length_append, List.length_cons]; omega
theorem runesN_len (l : List UInt8) : (runesN l).length ≤ l.length := by
  unfold runesN
  rw [List.length_map]; exact piecesF_len _ _ _
theorem mendR_len (l : List UInt8) : (mendR l).length ≤ 4 * l.length := by
  have := encR_flat (runesN l)
  have := runesN_len l
  unfold mendR; omega
/-- pieces one by one -/
theorem runesN_nil : runesN [] = [] := rfl
theorem piecesF_r : ∀ (f f' a a' : Nat) (l : List UInt8), l.length ≤ f → l.length ≤ f' → (piecesF f a l).map (fun x => x.r.toNat) = (piecesF f' a' l).map fun x => x.r.toNat
  | 0, f', a, a', l, h, _ => by
    have : l = [] := List.eq_nil_of_length_eq_zero (by omega)
    subst this
    cases f' <;> simp [piecesF]
  | f + 1, 0, a, a', l, _, h => by
    have : l = [] := List.eq_nil_of_length_eq_zero (by omega)
    subst this
    simp [piecesF]
  | f + 1, f' + 1, a, a', l, h, h' => by
    simp only [piecesF]
    split
    · rfl
    · rename_i hne
      have := pieceR_rng l (List.length_pos_iff.2 hne)
      simp only [List.map_cons]
      rw [piecesF_r f f' _ (a' + (pieceR l).2.1) _ (by simp; omega) (by simp; omega)]
theorem runesN_cons (l : List UInt8) (h0 : 0 < l.length) : runesN l = (pieceR l).1.toNat :: runesN (l.drop (pieceR l).2.1) := by
  have hrg := pieceR_rng l h0
  unfold runesN piecesR
  obtain ⟨f, hf⟩ : ∃ f, l.length = f + 1 := ⟨l.length - 1, by omega⟩
  have hne : l ≠ [] := List.length_pos_iff.1 h0
  rw [hf, piecesF, if_neg hne, List.map_cons]
  congr 1
  exact piecesF_r f _ _ 0 _ (by simp; omega) (Nat.le_refl _)
theorem mendR_cons (l : List UInt8) (h0 : 0 < l.length) : mendR l = encR (pieceR l).1.toNat ++ mendR (l.drop (pieceR l).2.1) := by
  unfold mendR
  rw [runesN_cons l h0, List.flatMap_cons]
/-- what is right stays -/
theorem mendR_valid : ∀ (n : Nat) (l : List UInt8), l.length ≤ n → validR l = true → mendR l = l
  | 0, l, h, _ => by
    have : l = [] := List.eq_nil_of_length_eq_zero (by omega)
    subst this; rfl
  | n + 1, l, h, hv => by
    rcases Nat.eq_zero_or_pos l.length with h0 | h0
    · have : l = [] := List.eq_nil_of_length_eq_zero h0
      subst this; rfl
    · obtain ⟨hr, hv2⟩ := valid_step l h0 hv
      obtain ⟨r, h1, _, _, h4, _⟩ := enc_right l h0 hr
      have hrg := pieceR_rng l h0
      rw [mendR_cons l h0, mendR_valid n _ (by simp; omega) hv2, h1, Int.toNat_natCast, h4, List.take_append_drop]
theorem mendR_id {l : List UInt8} (hv : validR l = true) : mendR l = l := mendR_valid _ l (Nat.le_refl _) hv

def charR (r : Int) : Bool := decide (0 ≤ r ∧ r ≤ 1114111 ∧ (r < 55296 ∨ 57343 < r))
theorem charR_good {r : Nat} (h : Good r) : charR r = true := decide_eq_true (by unfold Good at h; omega)
theorem refChar_ok (r : Int) (w : World) : PureC Tryd.prog 51 #[i32 r] w (.bool (charR r)) := by
  refine enter (l := [i32 r]) Tryd.func51 rfl Tryd.ntmps51 (by kernel_rfl) rfl ?_
  refine sgo ?_
  (first | refine fp1 (.inl rfl) rfl rfl ?_ | refine fp2 (.inl rfl) rfl rfl rfl ?_ | refine fp3 (.inl rfl) rfl rfl rfl rfl ?_ | refine fp0 (.inr rfl) rfl ?_ | refine fp0 (.inl rfl) rfl ?_ | refine fp1 (.inr rfl) rfl rfl ?_); refine ⟨?_, by (first | exact Frm.refl _ | assumption | exact Go.Sv.Sep.frm (by assumption) | (refine Frm.trans ?_ (by assumption); first | exact Frm.refl _ | assumption))⟩; (try simp only [realB, rv_true, Nat.reduceBEq, cond_true, cond_false, entG, real_lif, updGL])
  refine congrArg Value.bool ?_
  unfold charR
  rw [Bool.eq_iff_iff]
  simp only [pkb_or, pkb_and, Bool.or_eq_true, Bool.and_eq_true, decide_eq_true_eq]
  omega
theorem refWidth_ok (r : Nat) (hg : Good r) (w : World) : PureC Tryd.prog 52 #[i32 r] w (int (encN r).length) := by
  have hch := charR_good hg
  have hgg := hg
  unfold Good at hgg
  refine enter (l := [i32 r]) Tryd.func52 rfl Tryd.ntmps52 (by kernel_rfl) rfl ?_
  refine sgo ?_
  have hc0 := refChar_ok r w
  rw [hch] at hc0
  refine wlpure hc0 fun w1 hf => ?_
  refine sgo ?_
  (show WC _ _ _ _ _ _ _; first | refine WC_dec rfl (fun hc => ?_) (fun hc => ?_) | refine WC_cond rfl (fun hc => ?_) (fun hc => ?_))
  · have e : encN r = [r] := if_pos (by omega)
    refine sgo ?_
    (first | refine fp1 (.inl rfl) rfl rfl ?_ | refine fp2 (.inl rfl) rfl rfl rfl ?_ | refine fp3 (.inl rfl) rfl rfl rfl rfl ?_ | refine fp0 (.inr rfl) rfl ?_ | refine fp0 (.inl rfl) rfl ?_ | refine fp1 (.inr rfl) rfl rfl ?_); refine ⟨?_, by (first | exact Frm.refl _ | assumption | exact Go.Sv.Sep.frm (by assumption) | (refine Frm.trans ?_ (by assumption); first | exact Frm.refl _ | assumption))⟩; (try simp only [realB, rv_true, Nat.reduceBEq, cond_true, cond_false, entG, real_lif, updGL])
    rw [e]; rfl
  have n1 := hc; clear hc
  refine sgo ?_
  (show WC _ _ _ _ _ _ _; first | refine WC_dec rfl (fun hc => ?_) (fun hc => ?_) | refine WC_cond rfl (fun hc => ?_) (fun hc => ?_))
  · have e : encN r = [192 + r / 64, 128 + r % 64] := by rw [encN, if_neg (by omega), if_pos (by omega)]
    refine sgo ?_
    (first | refine fp1 (.inl rfl) rfl rfl ?_ | refine fp2 (.inl rfl) rfl rfl rfl ?_ | refine fp3 (.inl rfl) rfl rfl rfl rfl ?_ | refine fp0 (.inr rfl) rfl ?_ | refine fp0 (.inl rfl) rfl ?_ | refine fp1 (.inr rfl) rfl rfl ?_); refine ⟨?_, by (first | exact Frm.refl _ | assumption | exact Go.Sv.Sep.frm (by assumption) | (refine Frm.trans ?_ (by assumption); first | exact Frm.refl _ | assumption))⟩; (try simp only [realB, rv_true, Nat.reduceBEq, cond_true, cond_false, entG, real_lif, updGL])
    rw [e]; rfl
  have n2 := hc; clear hc
  refine sgo ?_
  (show WC _ _ _ _ _ _ _; first | refine WC_dec rfl (fun hc => ?_) (fun hc => ?_) | refine WC_cond rfl (fun hc => ?_) (fun hc => ?_))
  · have e : encN r = [224 + r / 4096, 128 + r / 64 % 64, 128 + r % 64] := by rw [encN, if_neg (by omega), if_neg (by omega), if_pos (by omega)]
    refine sgo ?_
    (first | refine fp1 (.inl rfl) rfl rfl ?_ | refine fp2 (.inl rfl) rfl rfl rfl ?_ | refine fp3 (.inl rfl) rfl rfl rfl rfl ?_ | refine fp0 (.inr rfl) rfl ?_ | refine fp0 (.inl rfl) rfl ?_ | refine fp1 (.inr rfl) rfl rfl ?_); refine ⟨?_, by (first | exact Frm.refl _ | assumption | exact Go.Sv.Sep.frm (by assumption) | (refine Frm.trans ?_ (by assumption); first | exact Frm.refl _ | assumption))⟩; (try simp only [realB, rv_true, Nat.reduceBEq, cond_true, cond_false, entG, real_lif, updGL])
    rw [e]; rfl
  have n3 := hc; clear hc
  have e : encN r = [240 + r / 262144, 128 + r / 4096 % 64, 128 + r / 64 % 64, 128 + r % 64] := by rw [encN, if_neg (by omega), if_neg (by omega), if_neg (by omega)]
  refine sgo ?_
  (first | refine fp1 (.inl rfl) rfl rfl ?_ | refine fp2 (.inl rfl) rfl rfl rfl ?_ | refine fp3 (.inl rfl) rfl rfl rfl rfl ?_ | refine fp0 (.inr rfl) rfl ?_ | refine fp0 (.inl rfl) rfl ?_ | refine fp1 (.inr rfl) rfl rfl ?_); refine ⟨?_, by (first | exact Frm.refl _ | assumption | exact Go.Sv.Sep.frm (by assumption) | (refine Frm.trans ?_ (by assumption); first | exact Frm.refl _ | assumption))⟩; (try simp only [realB, rv_true, Nat.reduceBEq, cond_true, cond_false, entG, real_lif, updGL])
  rw [e]; rfl

/-- a new slice of bytes -/
def NewB (w : World) (s : List UInt8) (v : Value) (w' : World) : Prop := Frm w w' ∧ ∃ q cc, v = .slice q s.length cc ∧ Row w' 1 q s.length cc (bs s) ∧ ∀ x ∈ rb q, w.heap.size ≤ x
theorem newB_own {w w1 w2 : World} {b n : Nat} {s : List UInt8} {L : List Value} (hf : Frm w w1) (hb : w1.heap.size ≤ b) (ho : Own w2 b L) (hf2 : Frm w1 w2) (hn : n = s.length) (hn2 : n ≤ 4) (hL : L = bs s) : NewB w s (.slice (pb b) n n) w2 := by
  subst hn hL
  refine ⟨hf.trans hf2, pb b, s.length, rfl, Row.of_own ho (by simp) (by omega), ?_⟩
  intro x hx
  simp only [rb, List.mem_singleton] at hx
  subst hx
  exact Nat.le_trans hf.size hb
set_option maxHeartbeats 2000000 in
theorem refBytesOf_ok (r : Nat) (hg : Good r) (w : World) : CallsR Tryd.prog 44 #[i32 r] w (NewB w (encR r)) := by
  have hch := charR_good hg
  have hbe := bs_encR r hg.1
  have hel := encR_len r
  have hgg := hg
  unfold Good at hgg
  refine enter (l := [i32 r]) Tryd.func44 rfl Tryd.ntmps44 (by kernel_rfl) rfl ?_
  refine sgo ?_
  have hc0 := refChar_ok r w
  rw [hch] at hc0
  refine wlpure hc0 fun w1 hf => ?_
  refine sgo ?_
  have hw := fun w => refWidth_ok r hg w
  by_cases n1 : r < 128
  · have e : encN r = [r] := if_pos (by omega)
    rw [e] at hbe hel hw
    replace hw : ∀ w, PureC Tryd.prog 52 #[i32 r] w (int 1) := hw
    refine wlpure (hw _) fun w2 hf2 => ?_
    replace hf := hf.trans hf2
    refine sgo ?_
    refine wlb1_int fun b w3 hb ho hf3 => ?_
    refine sgo ?_
    (first | refine fp1 (.inl rfl) rfl rfl ?_ | refine fp2 (.inl rfl) rfl rfl rfl ?_ | refine fp3 (.inl rfl) rfl rfl rfl rfl ?_ | refine fp0 (.inr rfl) rfl ?_ | refine fp0 (.inl rfl) rfl ?_ | refine fp1 (.inr rfl) rfl rfl ?_)
    refine newB_own hf hb ho hf3 hel.symm (by decide) (by rw [hbe]; rfl)
  by_cases n2 : r < 2048
  · have e : encN r = [192 + r / 64, 128 + r % 64] := by rw [encN, if_neg (by omega), if_pos (by omega)]
    rw [e] at hbe hel hw
    replace hw : ∀ w, PureC Tryd.prog 52 #[i32 r] w (int 2) := hw
    refine wlpure (hw _) fun w2 hf2 => ?_
    replace hf := hf.trans hf2
    refine sgo ?_
    refine wlbs2 fun b w3 hb ho hf3 => ?_
    refine sgo ?_
    (first | refine fp1 (.inl rfl) rfl rfl ?_ | refine fp2 (.inl rfl) rfl rfl rfl ?_ | refine fp3 (.inl rfl) rfl rfl rfl rfl ?_ | refine fp0 (.inr rfl) rfl ?_ | refine fp0 (.inl rfl) rfl ?_ | refine fp1 (.inr rfl) rfl rfl ?_)
    refine newB_own hf hb ho hf3 hel.symm (by decide) (by rw [hbe]; rfl)
  by_cases n3 : r < 65536
  · have e : encN r = [224 + r / 4096, 128 + r / 64 % 64, 128 + r % 64] := by rw [encN, if_neg (by omega), if_neg (by omega), if_pos (by omega)]
    rw [e] at hbe hel hw
    replace hw : ∀ w, PureC Tryd.prog 52 #[i32 r] w (int 3) := hw
    refine wlpure (hw _) fun w2 hf2 => ?_
    replace hf := hf.trans hf2
    refine sgo ?_
    refine wlbs3 fun b w3 hb ho hf3 => ?_
    refine sgo ?_
    (first | refine fp1 (.inl rfl) rfl rfl ?_ | refine fp2 (.inl rfl) rfl rfl rfl ?_ | refine fp3 (.inl rfl) rfl rfl rfl rfl ?_ | refine fp0 (.inr rfl) rfl ?_ | refine fp0 (.inl rfl) rfl ?_ | refine fp1 (.inr rfl) rfl rfl ?_)
    refine newB_own hf hb ho hf3 hel.symm (by decide) (by rw [hbe]; rfl)
  · have e : encN r = [240 + r / 262144, 128 + r / 4096 % 64, 128 + r / 64 % 64, 128 + r % 64] := by rw [encN, if_neg (by omega), if_neg (by omega), if_neg (by omega)]
    rw [e] at hbe hel hw
    replace hw : ∀ w, PureC Tryd.prog 52 #[i32 r] w (int 4) := hw
    refine wlpure (hw _) fun w2 hf2 => ?_
    replace hf := hf.trans hf2
    refine sgo ?_
    refine wlbs4 fun b w3 hb ho hf3 => ?_
    refine sgo ?_
    (first | refine fp1 (.inl rfl) rfl rfl ?_ | refine fp2 (.inl rfl) rfl rfl rfl ?_ | refine fp3 (.inl rfl) rfl rfl rfl rfl ?_ | refine fp0 (.inr rfl) rfl ?_ | refine fp0 (.inl rfl) rfl ?_ | refine fp1 (.inr rfl) rfl rfl ?_)
    refine newB_own hf hb ho hf3 hel.symm (by decide) (by rw [hbe]; rfl)
end Go.Proofs.YtkclldfejembnaaDoor

/-
  Package sieveref01: Bytes, Text, Runes, Mend.
-/
set_option linter.unusedSimpArgs false
set_option linter.unusedVariables false
set_option linter.unnecessarySimpa false
namespace Go.Proofs.YtkclldfejembnaaDoor
open Go Go.Sv Go.RowKit

/-- runes as cells -/
def rs32 (rs : List Nat) : List Value := rs.map fun n : Nat => i32 n
theorem rs32_length (rs : List Nat) : (rs32 rs).length = rs.length := by simp [rs32]
theorem rs32_get {rs : List Nat} {i r : Nat} (h : rs[i]? = some r) : (rs32 rs)[i]? = some (i32 r) := by simp [rs32, h]
theorem bs_app (a b : List UInt8) : bs a ++ bs b = bs (a ++ b) := by simp [bs]
theorem one_bs (a : List UInt8) : ∀ u ∈ bs a, u.oneCell' = true := by
  intro u hu
  unfold bs at hu
  obtain ⟨c, _, rfl⟩ := List.mem_map.1 hu
  rfl
theorem one_rs (a : List Nat) : ∀ u ∈ rs32 a, u.oneCell' = true := by
  intro u hu
  unfold rs32 at hu
  obtain ⟨c, _, rfl⟩ := List.mem_map.1 hu
  rfl

set_option maxHeartbeats 2000000 in
theorem refBytes_ok (rs : List Nat) (p : Option Addr) (c : Nat) (hb : rs.length ≤ 1073741824) (hg : ∀ r ∈ rs, Good r) (w : World) (hi : Im [] w p (rs32 rs)) :
    CallsR Tryd.prog 35 #[.slice p rs.length c] w (NewB w (rs.flatMap encR)) := by
  have hl32 := rs32_length rs
  refine enter (l := [.slice p rs.length c]) Tryd.func35 rfl Tryd.ntmps35 (by kernel_rfl) rfl ?_
  refine sgo ?_
  refine wcloop (X := Nat × Option Addr × Nat) (fun x => [(3, .slice x.2.1 ((rs.take x.1).flatMap encR).length x.2.2), (6, .slice p rs.length c), (7, int rs.length), (8, int x.1)])
    (fun x wr => x.1 ≤ rs.length ∧ Frm w wr ∧ Row wr 1 x.2.1 ((rs.take x.1).flatMap encR).length x.2.2 (bs ((rs.take x.1).flatMap encR)) ∧ ∀ b ∈ rb x.2.1, w.heap.size ≤ b)
    (fun x => rs.length - x.1) (0, none, 0) ⟨rfl, rfl, rfl, rfl, trivial⟩ ⟨by omega, Frm.refl _, Row.nil _ _, rb_nil _⟩ ?_
  rintro ⟨i, q, cc⟩ wr ρ ⟨hil, hfr, hR, hq⟩
  dsimp only at hil hR hq ⊢
  have hfl := encR_flat (rs.take i)
  have htl : (rs.take i).length ≤ rs.length := by simp; omega
  refine sgo ?_
  (show WC _ _ _ _ _ _ _; first | refine WC_dec rfl (fun hc => ?_) (fun hc => ?_) | refine WC_cond rfl (fun hc => ?_) (fun hc => ?_))
  · have hlt : i < rs.length := by omega
    have hx : rs[i]? = some rs[i] := List.getElem?_eq_getElem hlt
    have hgr := hg rs[i] (List.getElem_mem hlt)
    have htk : (rs.take (i + 1)).flatMap encR = (rs.take i).flatMap encR ++ encR rs[i] := by rw [List.take_add_one, hx, List.flatMap_append]; simp
    generalize rs[i] = r at *
    have hcell := rs32_get hx
    have hIr := hi.frm hfr
    have he4 := encR_len4 r
    generalize (rs.take i).flatMap encR = S at *
    refine sgo ?_
    refine wlcall (refBytesOf_ok r hgr _) ?_
    rintro v w1 ⟨hf1, q1, c1, rfl, hR1, hq1⟩
    have hfr1 := hfr.trans hf1
    refine wlapp (hR.frm hf1) hR1.sg (fun q' c' w2 hR2 hl2 => ?_) (hl := by simp) (h1 := one_bs _)
    rw [bs_app, ← List.length_append, ← htk] at hR2
    rw [← List.length_append, ← htk]
    refine sgo ?_
    refine ⟨(i + 1, q', c'), ⟨rfl, rfl, rfl, rfl, trivial⟩, ⟨by dsimp only; omega, ?_, hR2, ?_⟩, by dsimp only; omega⟩
    · exact hfr1.step hl2.1 hq
    · exact hl2.fresh hfr1 hq
  · rw [List.take_of_length_le (by omega)] at hR ⊢
    refine sgo ?_
    (first | refine fp1 (.inl rfl) rfl rfl ?_ | refine fp2 (.inl rfl) rfl rfl rfl ?_ | refine fp3 (.inl rfl) rfl rfl rfl rfl ?_ | refine fp0 (.inr rfl) rfl ?_ | refine fp0 (.inl rfl) rfl ?_ | refine fp1 (.inr rfl) rfl rfl ?_)
    exact ⟨hfr, q, cc, rfl, hR, hq⟩

theorem refText_ok (rs : List Nat) (p : Option Addr) (c : Nat) (hb : rs.length ≤ 1073741824) (hg : ∀ r ∈ rs, Good r) (w : World) (hi : Im [] w p (rs32 rs)) :
    PureC Tryd.prog 23 #[.slice p rs.length c] w (str (rs.flatMap encR)) := by
  refine enter (l := [.slice p rs.length c]) Tryd.func23 rfl Tryd.ntmps23 (by kernel_rfl) rfl ?_
  refine sgo ?_
  refine wlcall (refBytes_ok rs p c hb hg w hi) ?_
  rintro v w1 ⟨hf1, q1, c1, rfl, hR1, hq1⟩
  refine wl ?_ (y_b2s rfl hR1.sg)
  refine sgo ?_
  (first | refine fp1 (.inl rfl) rfl rfl ?_ | refine fp2 (.inl rfl) rfl rfl rfl ?_ | refine fp3 (.inl rfl) rfl rfl rfl rfl ?_ | refine fp0 (.inr rfl) rfl ?_ | refine fp0 (.inl rfl) rfl ?_ | refine fp1 (.inr rfl) rfl rfl ?_); refine ⟨?_, by (first | exact Frm.refl _ | assumption | exact Go.Sv.Sep.frm (by assumption) | (refine Frm.trans ?_ (by assumption); first | exact Frm.refl _ | assumption))⟩; (try simp only [realB, rv_true, Nat.reduceBEq, cond_true, cond_false, entG, real_lif, updGL])

/-- a new slice of runes -/
def NewR (w : World) (rs : List Nat) (v : Value) (w' : World) : Prop := Frm w w' ∧ ∃ q cc, v = .slice q rs.length cc ∧ Row w' 1 q rs.length cc (rs32 rs) ∧ ∀ x ∈ rb q, w.heap.size ≤ x
set_option maxHeartbeats 2000000 in
theorem refRunes_ok (l : List UInt8) (p : Option Addr) (n c : Nat) (hn : n = l.length) (hc : l.length ≤ c) (hb : l.length ≤ 1073741824) (w : World) (hi : Im [] w p (bs l)) :
    CallsR Tryd.prog 24 #[.slice p n c] w (NewR w (runesN l)) := by
  refine enter (l := [.slice p n c]) Tryd.func24 rfl Tryd.ntmps24 (by kernel_rfl) rfl ?_
  refine sgo ?_
  refine wlcall (pieces_ok l p n c hn hc hb w hi) ?_
  rintro v w1 ⟨hfr, q, cc, rfl, hR, hq⟩
  have hl := piecesF_len l.length 0 l
  change (piecesR l).length ≤ l.length at hl
  have hfl := flatMap_cells_len (piecesR l)
  have hpr := pieces_r l
  have hrl : (runesN l).length = (piecesR l).length := by simp [runesN]
  generalize runesN l = rs at *
  generalize hPs : piecesR l = Ps at *
  refine sgo ?_
  refine wcloop (X := Nat × Option Addr × Nat) (fun x => [(3, .slice x.2.1 x.1 x.2.2), (7, .slice q Ps.length cc), (8, int Ps.length), (9, int x.1)])
    (fun x wr => x.1 ≤ Ps.length ∧ Frm w1 wr ∧ Row wr 1 x.2.1 x.1 x.2.2 (rs32 (rs.take x.1)) ∧ ∀ b ∈ rb x.2.1, w1.heap.size ≤ b)
    (fun x => Ps.length - x.1) (0, none, 0) ⟨rfl, rfl, rfl, rfl, trivial⟩ ⟨by omega, Frm.refl _, Row.nil _ _, rb_nil _⟩ ?_
  rintro ⟨i, q2, c2⟩ wr ρ ⟨hil, hf2, hR2, hq2⟩
  dsimp only at hil hR2 hq2 ⊢
  refine sgo ?_
  (show WC _ _ _ _ _ _ _; first | refine WC_dec rfl (fun hc => ?_) (fun hc => ?_) | refine WC_cond rfl (fun hc => ?_) (fun hc => ?_))
  · have hlt : i < Ps.length := by omega
    have hSg := (hR.frm hf2).sg
    have hx : Ps[i]? = some Ps[i] := List.getElem?_eq_getElem hlt
    have hseg := flatMap_cells_seg Ps i _ hx
    have hri : rs[i]? = some rs[i] := List.getElem?_eq_getElem (by omega)
    have hrr : i32 Ps[i].r = i32 rs[i] := by
      have := congrArg (·[i]?) hpr
      simpa [hx, hri] using this
    have htk : rs32 (rs.take (i + 1)) = rs32 (rs.take i) ++ [i32 rs[i]] := by rw [List.take_add_one, hri]; unfold rs32; rw [List.map_append]; rfl
    generalize Ps[i] = x at *
    generalize rs[i] = r at *
    have hps : ∃ a, q = some a := hSg.some (by omega)
    refine sgo ?_
    refine wlalloc fun b w2 hb1 ho hf3 => ?_
    refine wlstorea0 (hv := by exact ⟨by rw [hseg]; rfl, rfl⟩) (h1 := by rw [hseg]; simp [Piece.cells, Value.oneCell']) ho fun w3 ho3 hl3 => ?_
    rw [hseg] at ho3
    simp only [Piece.cells] at ho3
    rw [hrr] at ho3
    have hb2 : w1.heap.size ≤ b := Nat.le_trans hf2.size hb1
    have hf4 := (hf2.trans hf3).step hl3 (by simpa using hb2)
    have hR3 := (hR2.frm hf3).le hl3 (by intro y hy hm; simp only [List.mem_singleton] at hm; subst hm; have := hR2.lt y hy; omega)
    clear hseg hSg ho
    refine sgo ?_
    refine wlb1_int fun b5 w5 hb5 ho5 hf5 => ?_
    refine wlapp (hR3.frm hf5) ho5.sg (fun q' c' w6 hR6 hl6 => ?_)
    rw [← htk] at hR6
    have hf6 := hf4.trans hf5
    refine sgo ?_
    exact ⟨(i + 1, q', c'), ⟨rfl, rfl, rfl, rfl, trivial⟩, ⟨by dsimp only; omega, hf6.step hl6.1 hq2, hR6, hl6.fresh hf6 hq2⟩, by dsimp only; omega⟩
  · have hii : i = Ps.length := by omega
    have htk : rs.take i = rs := List.take_of_length_le (by omega)
    rw [htk, show i = rs.length by omega] at hR2
    rw [show i = rs.length by omega]
    refine sgo ?_
    (first | refine fp1 (.inl rfl) rfl rfl ?_ | refine fp2 (.inl rfl) rfl rfl rfl ?_ | refine fp3 (.inl rfl) rfl rfl rfl rfl ?_ | refine fp0 (.inr rfl) rfl ?_ | refine fp0 (.inl rfl) rfl ?_ | refine fp1 (.inr rfl) rfl rfl ?_)
    exact ⟨hfr.trans hf2, q2, c2, rfl, hR2, fun x hx => Nat.le_trans hfr.size (hq2 x hx)⟩

theorem refMend_ok (l : List UInt8) (hb : l.length ≤ 1073741824) (w : World) : PureC Tryd.prog 12 #[str l] w (str (mendR l)) := by
  refine enter (l := [str l]) Tryd.func12 rfl Tryd.ntmps12 (by kernel_rfl) rfl ?_
  refine sgo ?_
  refine wls2b rfl (by omega) fun b c w1 hb1 hc1 hc2 hI hf1 => ?_
  refine wlcall (refRunes_ok l _ _ _ rfl hc1 hb _ hI) ?_
  rintro v w2 ⟨hf2, q, cc, rfl, hR, hq⟩
  have hlen := runesN_len l
  refine wlpure (refText_ok (runesN l) q cc (by omega) (runesN_good l) w2 (hR.im (by simp))) fun w3 hf3 => ?_
  have hf := (hf1.trans hf2).trans hf3
  refine sgo ?_
  (first | refine fp1 (.inl rfl) rfl rfl ?_ | refine fp2 (.inl rfl) rfl rfl rfl ?_ | refine fp3 (.inl rfl) rfl rfl rfl rfl ?_ | refine fp0 (.inr rfl) rfl ?_ | refine fp0 (.inl rfl) rfl ?_ | refine fp1 (.inr rfl) rfl rfl ?_); refine ⟨?_, by (first | exact Frm.refl _ | assumption | exact Go.Sv.Sep.frm (by assumption) | (refine Frm.trans ?_ (by assumption); first | exact Frm.refl _ | assumption))⟩; (try simp only [realB, rv_true, Nat.reduceBEq, cond_true, cond_false, entG, real_lif, updGL])
  rfl
end Go.Proofs.YtkclldfejembnaaDoor

/-
  Loops over functions; calls of function values.
-/
set_option linter.unusedSimpArgs false
set_option linter.unusedVariables false
set_option linter.unnecessarySimpa false
namespace Go.Sv
open Go Go.RowKit

/-- a loop's record -/
def LoopAt (w : World) (l : Nat) (r : Loop) : Prop := w.heap[l]? = some (.loop r)
theorem LoopAt.lt {w : World} {l : Nat} {r : Loop} (h : LoopAt w l r) : l < w.heap.size := (Array.getElem?_eq_some_iff.1 h).1
theorem LoopAt.le {w w' : World} {M : List Nat} {l : Nat} {r : Loop} (h : LoopAt w l r) (hl : Le M w w') (hm : l ∉ M) : LoopAt w' l r := (hl.block l h.lt hm).trans h
theorem LoopAt.frm {w w' : World} {l : Nat} {r : Loop} (h : LoopAt w l r) (hl : Frm w w') : LoopAt w' l r := h.le (M := []) hl.le (by simp)
/-- the block of a loop's deferred calls: there are none -/
def NoDef (w : World) (D : Nat) : Prop := w.heap[D]? = some (.deferred (some []))
theorem NoDef.lt {w : World} {D : Nat} (h : NoDef w D) : D < w.heap.size := (Array.getElem?_eq_some_iff.1 h).1
theorem NoDef.le {w w' : World} {M : List Nat} {D : Nat} (h : NoDef w D) (hl : Le M w w') (hm : D ∉ M) : NoDef w' D := (hl.block D h.lt hm).trans h
theorem NoDef.frm {w w' : World} {D : Nat} (h : NoDef w D) (hl : Frm w w') : NoDef w' D := h.le (M := []) hl.le (by simp)
theorem le_putObj (w : World) (l : Nat) (o : Obj) : Le [l] w (w.putObj l o) := ⟨rfl, rfl, rfl, by simp, fun k _ hk => World.putObj_heap_other (by simpa using hk)⟩

/-- yield, called with 'args': it answers a bool, and R holds then -/
def Yld (P : Program) (l : Nat) (args : List Value) (w : World) (R : Bool → World → Prop) : Prop :=
  ∃ r, LoopAt w l r ∧ args.toArray.size = r.params.size ∧ RoundIn Fence.wide 0 P l r.fn ((r.params.zip args.toArray).foldl (fun tmps (t, a) => tmps.setIfInBounds t a) r.tmps) r.assign r.body w fun e w' => ∃ b, e = .returned (.bool b) ∧ R b w'
theorem Yld.mono {P : Program} {l : Nat} {args : List Value} {w : World} {R R' : Bool → World → Prop} (h : Yld P l args w R) (hr : ∀ b w', R b w' → R' b w') : Yld P l args w R' := by
  obtain ⟨r, h1, h2, h3⟩ := h
  exact ⟨r, h1, h2, h3.mono fun _ _ ⟨b, he, hb⟩ => ⟨b, he, hr _ _ hb⟩⟩

theorem roundIn_fen {ro : Option Nat} {m n : Nat} {P : Program} {l : Nat} {f : FuncId} {tmps : Array Value} {assign body : Code} {w : World} {R : Ending → World → Prop} (h : RoundIn Fence.wide m P l f tmps assign body w R) : RoundIn (fen ro) n P l f tmps assign body w R := by
  refine ⟨fen_fn ro f, fun c cs _ => ?_⟩
  obtain ⟨e, w', hR, hs⟩ := h.2 c cs (room_wide _)
  cases ro <;> exact ⟨e, w', hR, hs⟩

section
variable {P : Program} {n : Nat} {ds : Ctx} {ops : Array Oper} {Q : Exit → Ctx → Env → World → Prop} {rest : List Oper} {σ : GE} {w : World} {v : Value} {d : Nat} {ty : TypeId} {pos : String} {af : Array Edge} {l : Nat} {xs : List Operand} {ats : Array TypeId} {x : Operand}
theorem run_call_yield {σ : Env} {dd : Option Tmp} {g : Option (Nat × Bool)} {r : Loop} {args : List Value} (hx : evl σ x = .func (.yield l) #[] #[]) (ha : xs.map (evl σ) = args) (hl : LoopAt w l r) (hs : args.toArray.size = r.params.size) :
    (execOp (evl σ) ⟨dd, .call ⟨.value x, xs.toArray, ats⟩, ty, pos, af, g⟩).run P w = .ok (.round l r.fn ((r.params.zip args.toArray).foldl (fun tmps (t, a) => tmps.setIfInBounds t a) r.tmps) r.assign r.body) w := by
  subst ha
  simp only [execOp, resolve, hx, Deferred.ofValue]
  simp only [Sem.run_bind, Sem.run_pure, Result.andThen_ok, invoke]
  have := run_yield (P := P) hl hs
  simpa using this
/-- a call of yield -/
theorem wlyield {args : List Value} {R : Bool → World → Prop} (hy : Yld P l args w R) (h : ∀ b w', R b w' → WL P n ds ops Q rest (real (updG σ d ⟨.bool b, true⟩)) w')
    (hx : evl (real σ) x = .func (.yield l) #[] #[] := by rfl) (ha : xs.map (evl (real σ)) = args := by first | rfl | exact am1 rfl | exact am2 rfl rfl) :
    WL P n ds ops Q (⟨some d, .call ⟨.value x, xs.toArray, ats⟩, ty, pos, af, none⟩ :: rest) (real σ) w := by
  obtain ⟨r, h1, h2, h3⟩ := hy
  refine WL_upon (by simp [Region.wanted]) fun hin K hK _ => ?_
  have hd := operIn_dst hin
  rw [run_call_yield hx ha h1 h2, Oper.uponIn_round]
  refine ⟨fun hx => (by rw [fen_depth] at hx; cases hx), roundIn_fen (m := 0) (h3.mono ?_)⟩
  rintro e w' ⟨b, rfl, hb⟩
  show K _ _
  rw [act_put hd]
  have := h b w' hb
  rw [← real_upd] at this
  exact hK _ _ this
end

/-! ## the statement -/
/-- what a round leaves of the record -/
def rndP (rec : LoopState → Option Code → Loop) (l : Nat) (R : Bool → World → Prop) : Exit → Ctx → Env → World → Prop
  | .normal, _, _, w => LoopAt w l (rec .busy none) ∧ ∀ w', Le [l] w w' → LoopAt w' l (rec .ready none) → R true w'
  | .ret, _, _, w => LoopAt w l (rec .busy none) ∧ ∀ w', Le [l] w w' → LoopAt w' l (rec .done (some .ret)) → R false w'
  | .exit id, _, _, w => LoopAt w l (rec .busy none) ∧ ∀ w', Le [l] w w' → LoopAt w' l (rec .done (some (.exit id))) → R false w'
  | _, _, _, _ => False
/-- what follows the loop, by what a round left it for -/
def aftP (P : Program) (Q : Exit → Ctx → Env → World → Prop) (c : Ctx) (σ : Env) (w : World) : Option Code → Prop
  | none => Q .normal c σ w
  | some .ret => Q .ret c σ w
  | some (.exit id) => Q (.exit id) c σ w
  | some _ => False
section
variable {P : Program} {n : Nat} {ds : Ctx} {Q : Exit → Ctx → Env → World → Prop} {σ : GE} {w : World} {l D : Nat} {assign body : Code} {ps : List Tmp}
/-- the frame's slots with yield's arguments -/
def updZ (σ : Env) : List Tmp → List Value → Env
  | p :: ps, v :: vs => updZ (upd σ p v) ps vs
  | _, _ => σ
theorem zip_put (dd : List Deferred) : ∀ (ps : List Tmp) (vs : List Value) (σ : Env), ps.all (fun t => Nat.blt t n) = true →
    (ps.toArray.zip vs.toArray).foldl (fun tmps (t, a) => tmps.setIfInBounds t a) (act n dd σ).tmps = (act n dd (updZ σ ps vs)).tmps := by
  intro ps vs σ h
  rw [← Array.foldl_toList]
  have e : (ps.toArray.zip vs.toArray).toList = ps.zip vs := by simp
  rw [e]
  clear e
  induction ps generalizing vs σ with
  | nil => simp [updZ]
  | cons p ps ih =>
    cases vs with
    | nil => simp [updZ]
    | cons v vs =>
      simp only [List.all_cons, Bool.and_eq_true] at h
      simp only [List.zip_cons_cons, List.foldl_cons, updZ]
      have := act_put (ds := dd) (σ := σ) (d := some p) (v := v) (n := n) h.1
      have e2 : (act n dd σ).tmps.setIfInBounds p v = (act n dd (upd σ p v)).tmps := congrArg Act.tmps this
      rw [e2]
      exact ih vs (upd σ p v) h.2
def updZG (σ : GE) : List Tmp → List Value → GE
  | p :: ps, v :: vs => updZG (updG σ p ⟨v, true⟩) ps vs
  | _, _ => σ
theorem updZ_real : ∀ (ps : List Tmp) (vs : List Value) (σ : GE), updZ (real σ) ps vs = real (updZG σ ps vs)
  | [], _, σ => by simp [updZ, updZG]
  | _ :: _, [], σ => by simp [updZ, updZG]
  | p :: ps, v :: vs, σ => by
    simp only [updZ, updZG]
    rw [show upd (real σ) p v = real (updG σ p ⟨v, true⟩) from real_upd σ p ⟨v, true⟩]
    exact updZ_real ps vs _

/-- what the record of a loop is, but for how it stands -/
def recOf (P : Program) (n : Nat) (fn : FuncId) (dd : List Deferred) (σ : GE) (ps : List Tmp) (assign body : Code) (D : Nat) (st : LoopState) (pe : Option Code) : Loop :=
  { state := st, pending := pe, fn, tmps := (act n dd (real σ)).tmps, params := ps.toArray, assign, body, defers := D }
/-- a round, out of its code -/
theorem yld_of {fn : FuncId} {dd : List Deferred} {args : List Value} {R : Bool → World → Prop} (hl : LoopAt w l (recOf P n fn dd σ ps assign body D .ready none)) (hlen : args.length = ps.length) (hin : (ps.all (fun t => Nat.blt t n) && codeIn n true assign && codeIn n true body) = true)
    (h : WC P n ⟨[], some l⟩ assign (fun e c σ' w1 => match e with | .normal => LoopAt w1 l (recOf P n fn dd σ ps assign body D .ready none) ∧ ∀ w2, Le [l] w1 w2 → LoopAt w2 l (recOf P n fn dd σ ps assign body D .busy none) → WC P n c body (rndP (recOf P n fn dd σ ps assign body D) l R) σ' w2 | _ => False) (real (updZG σ ps args)) w) :
    Yld P l args w R := by
  simp only [Bool.and_eq_true] at hin
  obtain ⟨⟨hin1, hin2⟩, hin3⟩ := hin
  refine ⟨_, hl, by simpa [recOf] using hlen, ?_⟩
  have ez := zip_put (n := n) dd ps args (real σ) hin1
  have e0 : (recOf P n fn dd σ ps assign body D .ready none).params = ps.toArray := rfl
  have e1 : (recOf P n fn dd σ ps assign body D .ready none).tmps = (act n dd (real σ)).tmps := rfl
  rw [e0, e1, ez, updZ_real]
  refine roundIn_of_wpIn (F := Fence.wide) (n := 0) trivial ?_
  unfold WC at h
  refine wpIn_mono (h hin2) ?_
  rintro e a1 w1 ⟨d1, σ1, rfl, hq⟩
  cases e <;> try exact hq.elim
  obtain ⟨hl1, hb⟩ := hq
  refine ⟨_, run_beginRound hl1 rfl, ?_⟩
  have hb2 := hb _ (le_putObj w1 l _) (World.putObj_heap_same hl1.lt)
  unfold WC at hb2
  refine wpIn_mono (hb2 hin3) ?_
  rintro e a2 w3 ⟨d2, σ2, rfl, hq⟩
  cases e with
  | normal => exact ⟨_, _, run_endRound none hq.1, _, rfl, hq.2 _ (le_putObj _ _ _) (World.putObj_heap_same hq.1.lt)⟩
  | ret => exact ⟨_, _, run_endRound (some .ret) hq.1, _, rfl, hq.2 _ (le_putObj _ _ _) (World.putObj_heap_same hq.1.lt)⟩
  | exit id => exact ⟨_, _, run_endRound (some (.exit id)) hq.1, _, rfl, hq.2 _ (le_putObj _ _ _) (World.putObj_heap_same hq.1.lt)⟩
  | goto t => exact hq.elim
  | panic ch => exact hq.elim
  | outgrown => exact hq.elim

/-- a loop over a function: an outermost one -/
theorem wcrangef {g : Operand} {gf : FuncId} [hf : Fnc P gf] {cap : List Value} (hg : evl (real σ) g = .func (.func gf) #[] ⟨cap⟩) (hro : ds.ro = none)
    (hcall : ∀ fn l D w1, w.heap.size ≤ D → w.heap.size ≤ l → l ≠ D → Frm w w1 → LoopAt w1 l (recOf P n fn ds.ds σ ps assign body D .ready none) → NoDef w1 D →
      CallsR P gf ((.func (.yield l) #[] #[]) :: cap).toArray w1 fun _ w2 => ∃ st pe, st ≠ .busy ∧ LoopAt w2 l (recOf P n fn ds.ds σ ps assign body D st pe) ∧
        ∀ w3, Le [l] w2 w3 → aftP P Q ⟨{ target := .collected D, args := #[] } :: ds.ds, none⟩ (real σ) w3 pe) :
    WC P n ds (.rangeFunc g ps.toArray assign body) Q (real σ) w := by
  obtain ⟨dd, ro⟩ := ds
  dsimp only at hro hcall
  subst hro
  unfold WC
  intro hin
  simp only [codeIn, Bool.and_eq_true] at hin
  have hgin := hin.1.1.1
  refine wpIn_rangeFunc ?_
  intro fn _
  let w1 := (w.alloc (.deferred (some []))).alloc (.loop (recOf P n fn dd σ ps assign body w.heap.size .ready none))
  have hL : LoopAt w1 (w.heap.size + 1) (recOf P n fn dd σ ps assign body w.heap.size .ready none) := by
    have := World.alloc_heap_new (w.alloc (.deferred (some []))) (.loop (recOf P n fn dd σ ps assign body w.heap.size .ready none))
    rw [World.size_alloc] at this
    exact this
  have hF : Frm w w1 := (frm_alloc w _).trans (frm_alloc _ _)
  have hD : NoDef w1 w.heap.size := by
    have h0 := World.alloc_heap_new w (.deferred (some []))
    exact (Below.heap_alloc (w.alloc (.deferred (some []))) _ w.heap.size (by simp)).trans h0
  have hc := hcall fn (w.heap.size + 1) w.heap.size w1 (Nat.le_refl _) (by omega) (by omega) hF hL hD
  refine ⟨w.heap.size + 1, [{ target := .collected w.heap.size, args := #[] }], w1, { target := .fn (.func gf) ⟨cap⟩, args := #[.func (.yield (w.heap.size + 1)) #[] #[]] }, w1, gf, ((.func (.yield (w.heap.size + 1)) #[] #[]) :: cap).toArray, w1, ?_, ?_, ?_, ?_, ?_, ?_⟩
  · exact run_enterLoop_outer fn _ _ _ _
  · have : (act n dd (real σ)).eval g = .func (.func gf) #[] ⟨cap⟩ := by rw [act_eval hgin, hg]
    simp only [resolve, this, Deferred.ofValue]
    simp [Act.eval]
  · intro f' _; trivial
  · have := run_callFunc (P := P) (f := gf) ((.func (.yield (w.heap.size + 1)) #[] #[]) :: cap).toArray w1
    simpa [invoke] using this
  · intro h; simp [fen, Fence.wide] at h
  · refine callsIn_wide.2 (Calls.mono hc ?_)
    rintro e w2 ⟨v, rfl, st, pe, hst, hl2, hq⟩
    refine ⟨pe, _, run_endLoop hl2 hst, ?_⟩
    have hq2 := hq _ (le_putObj w2 (w.heap.size + 1) (.loop { (recOf P n fn dd σ ps assign body w.heap.size st pe) with state := .exhausted }))
    cases pe with
    | none => exact ⟨_, _, rfl, hq2⟩
    | some c =>
      cases c <;> try exact hq2.elim
      · exact wpIn_exit ⟨_, _, rfl, hq2⟩
      · exact wpIn_ret ⟨_, _, rfl, hq2⟩
end
section
variable {P : Program} {Q : Exit → Ctx → Env → World → Prop} {c : Ctx} {σ : Env} {w : World} {rec : LoopState → Option Code → Loop} {l : Nat} {R : Bool → World → Prop} {i : Nat}
theorem rnd_normal (hl : LoopAt w l (rec .busy none)) (h : ∀ w', Le [l] w w' → LoopAt w' l (rec .ready none) → R true w') : rndP rec l R .normal c σ w := ⟨hl, h⟩
theorem rnd_ret (hl : LoopAt w l (rec .busy none)) (h : ∀ w', Le [l] w w' → LoopAt w' l (rec .done (some .ret)) → R false w') : rndP rec l R .ret c σ w := ⟨hl, h⟩
theorem aft_none (h : Q .normal c σ w) : aftP P Q c σ w none := h
theorem aft_ret (h : Q .ret c σ w) : aftP P Q c σ w (some .ret) := h
end
attribute [irreducible] rndP aftP
end Go.Sv

/-
  Package utf: All, Runes.
-/
set_option linter.unusedSimpArgs false
set_option linter.unusedVariables false
set_option linter.unnecessarySimpa false
namespace Go.Proofs.YtkclldfejembnaaDoor
open Go Go.Sv Go.RowKit

/-- what All answers -/
def AllV (w : World) (l : List UInt8) (v : Value) (w' : World) : Prop :=
  Frm w w' ∧ ∃ b q c, v = .func (.func 33) #[] #[ptrAt (pb b) 0] ∧ Own w' b [.slice q l.length c] ∧ Im [] w' q (bs l) ∧ l.length ≤ c ∧ w.heap.size ≤ b ∧ ∀ x ∈ rb q, w.heap.size ≤ x
theorem all_ok (l : List UInt8) (p : Option Addr) (n c : Nat) (hn : n = l.length) (hb : l.length ≤ 1073741824) (w : World) (hi : Im [] w p (bs l)) : CallsR Tryd.prog 22 #[.slice p n c] w (AllV w l) := by
  subst hn
  refine enter (l := [.slice p l.length c]) Tryd.func22 rfl Tryd.ntmps22 (by kernel_rfl) rfl ?_
  refine sgo ?_
  refine wlbox (v := .slice p l.length c) (hx := rfl) fun b w1 hb1 ho hf1 => ?_
  have ho1 : Own w1 b [.slice p l.length c] := ho
  refine sgo ?_
  refine wlapp (Row.nil w1 1) (hi.frm hf1).sg (fun q c2 w2 hR hl => ?_) (hl := by simp) (h1 := one_bs _)
  simp only [Nat.zero_add, List.nil_append] at hR ⊢
  have ho2 := ho1.le hl.1 (by simp [rb])
  have hq : ∀ x ∈ rb q, w1.heap.size ≤ x := fun x hx => by
    rcases Nat.lt_or_ge x w1.heap.size with h | h
    · have := hl.2 x hx h; simp [rb] at this
    · exact h
  have hbq : ∀ x ∈ rb q, x ∉ [b] := by
    intro x hx hm
    simp only [List.mem_singleton] at hm
    subst hm
    have := hq x hx
    have := ho1.lt
    omega
  refine wlst_slice ho2 fun w3 ho3 hl3 => ?_
  refine sgo ?_
  (first | refine fp1 (.inl rfl) rfl rfl ?_ | refine fp2 (.inl rfl) rfl rfl rfl ?_ | refine fp3 (.inl rfl) rfl rfl rfl rfl ?_ | refine fp0 (.inr rfl) rfl ?_ | refine fp0 (.inl rfl) rfl ?_ | refine fp1 (.inr rfl) rfl rfl ?_)
  have hf2 : Frm w w2 := hf1.step hl.1 (by simp [rb])
  refine ⟨hf2.step hl3 (by simpa using hb1), b, q, c2, ?_, ho3, (hR.le hl3 hbq).im (by simp), hR.le_cap.1, hb1, fun x hx => Nat.le_trans hf1.size (hq x hx)⟩
  rfl

set_option maxHeartbeats 1000000 in
/-- the iterator, over whatever a round does -/
theorem all1_ok (lr b : Nat) (l : List UInt8) (q : Option Addr) (c : Nat) (hc : l.length ≤ c) (hb : l.length ≤ 1073741824) (J Jx : Nat → World → Prop)
    (hres : ∀ i w, J i w → Own w b [.slice q l.length c] ∧ Im [] w q (bs l)) (hfr : ∀ i w w', J i w → Frm w w' → J i w')
    (hY : ∀ i w, J i w → i < l.length → Yld Tryd.prog lr [int i, i32 (pieceR (l.drop i)).1] w fun bb w' => if bb then J (i + (pieceR (l.drop i)).2.1) w' else Jx i w')
    (w : World) (h0 : J 0 w) :
    CallsR Tryd.prog 33 #[.func (.yield lr) #[] #[], ptrAt (pb b) 0] w fun _ w' => J l.length w' ∨ ∃ i, i < l.length ∧ Jx i w' := by
  refine enter (l := [.func (.yield lr) #[] #[], ptrAt (pb b) 0]) Tryd.func33 rfl Tryd.ntmps33 (by kernel_rfl) rfl ?_
  refine sgo ?_
  refine wcloop (X := Nat) (fun i => [(0, .func (.yield lr) #[] #[]), (1, ptrAt (pb b) 0), (3, int i)])
    (fun i wr => i ≤ l.length ∧ J i wr) (fun i => l.length - i) 0 ⟨rfl, rfl, rfl, trivial⟩ ⟨by omega, h0⟩ ?_
  rintro i wr ρ ⟨hil, hJ⟩
  obtain ⟨ho, hi⟩ := hres i wr hJ
  refine sgo ?_
  (show WC _ _ _ _ _ _ _; first | refine WC_dec rfl (fun hc => ?_) (fun hc => ?_) | refine WC_cond rfl (fun hc => ?_) (fun hc => ?_))
  · have hlt : i < l.length := by omega
    have hpr := pieceR_rng (l.drop i) (by simp; omega)
    have hrd := readS_piece (l.drop i) (by simp; omega)
    have hdl : (l.drop i).length = l.length - i := by simp
    have hp := hi.part1 (c := c) (i' := i) (by intro h; omega)
    rw [bs_drop] at hp
    have hy := fun w hJ => hY i w hJ hlt
    refine sgo ?_
    refine wlpure (read_any (l.drop i) _ _ _ (by simp) (by omega) (by omega) (by omega) [] _ hp) fun w1 hf1 => ?_
    have hJ1 := hfr _ _ _ hJ hf1
    rw [hrd]
    dsimp only
    generalize (pieceR (l.drop i)).1 = r at *
    generalize (pieceR (l.drop i)).2.1 = m at *
    refine sgo ?_
    refine wlyield (hy w1 hJ1) fun bb w2 h2 => ?_
    cases bb
    · refine sgo ?_
      (first | refine fp1 (.inl rfl) rfl rfl ?_ | refine fp2 (.inl rfl) rfl rfl rfl ?_ | refine fp3 (.inl rfl) rfl rfl rfl rfl ?_ | refine fp0 (.inr rfl) rfl ?_ | refine fp0 (.inl rfl) rfl ?_ | refine fp1 (.inr rfl) rfl rfl ?_)
      exact .inr ⟨i, hlt, h2⟩
    · refine sgo ?_
      exact ⟨i + m, ⟨rfl, rfl, rfl, trivial⟩, ⟨by omega, h2⟩, by omega⟩
  · refine sgo ?_
    (first | refine fp1 (.inl rfl) rfl rfl ?_ | refine fp2 (.inl rfl) rfl rfl rfl ?_ | refine fp3 (.inl rfl) rfl rfl rfl rfl ?_ | refine fp0 (.inr rfl) rfl ?_ | refine fp0 (.inl rfl) rfl ?_ | refine fp1 (.inr rfl) rfl rfl ?_)
    rw [show i = l.length by omega] at hJ
    exact .inl hJ
end Go.Proofs.YtkclldfejembnaaDoor

/-
  Ranges over strings; an array's elements.
-/
set_option linter.unusedSimpArgs false
set_option linter.unusedVariables false
set_option linter.unnecessarySimpa false
namespace Go.Sv
open Go Go.RowKit
/-- an iterator over l, at i -/
def It (w : World) (r : Nat) (l : List UInt8) (i : Nat) : Prop := w.heap[r]? = some (.stringIter ⟨l.toArray⟩ i)
section
variable {w w' : World} {r i b : Nat} {l : List UInt8} {M : List Nat} {T E : TypeId} {q : Option Addr} {s : List UInt8}
theorem It.lt (h : It w r l i) : r < w.heap.size := (Array.getElem?_eq_some_iff.1 h).1
theorem It.le (h : It w r l i) (hl : Le M w w') (hm : r ∉ M) : It w' r l i := (hl.block r h.lt hm).trans h
theorem It.frm (h : It w r l i) (hl : Frm w w') : It w' r l i := h.le (M := []) hl.le (by simp)
end
section
variable {P : Program} {n : Nat} {ds : Ctx} {ops : Array Oper} {Q : Exit → Ctx → Env → World → Prop} {rest : List Oper} {σ : GE} {w : World} {d : Nat} {ty t e : TypeId} {pos : String} {af : Array Edge} {x y : Operand} {l : List UInt8} {r i : Nat}
theorem wlrange [hu : Und P t .string] (h : ∀ r w', w.heap.size ≤ r → It w' r l 0 → Frm w w' → WL P n ds ops Q rest (real (updG σ d ⟨.pointer (pb r), true⟩)) w') (hx : evl (real σ) x = str l := by rfl) :
    WL P n ds ops Q (⟨some d, .range t x, ty, pos, af, none⟩ :: rest) (real σ) w := by
  refine wl (h w.heap.size (w.alloc (.stringIter ⟨l.toArray⟩ 0)) (Nat.le_refl _) (heap_alloc_new w _) (frm_alloc _ _)) (Y.val ?_)
  simp only [execOp, hx, Instr.range, Sem.run_bind, underlying, run_program, Result.andThen_ok, hu.ok, Sem.run_pure]
  rfl
theorem run_getObj_it (h : It w r l i) : (getObj r).run P w = .ok (.stringIter ⟨l.toArray⟩ i) w := by
  have h : w.heap[r]? = _ := h
  simp [getObj, Sem.run, h]
theorem wlnext_yes (ht : It w r l i) (hi : i < l.length) (h : ∀ w', It w' r l (i + (Utf8.decode ⟨l.toArray⟩ i).2) → Le [r] w w' → WL P n ds ops Q rest (real (updG σ d ⟨.tuple #[.bool true, int i, i32 (Utf8.decode ⟨l.toArray⟩ i).1], true⟩)) w')
    (hx : evl (real σ) x = .pointer (pb r) := by rfl) :
    WL P n ds ops Q (⟨some d, .next x true, ty, pos, af, none⟩ :: rest) (real σ) w := by
  have hg := run_getObj_it (P := P) ht
  have ht : w.heap[r]? = _ := ht
  have hs := MapKept.heap_set (o' := .stringIter ⟨l.toArray⟩ (i + (Utf8.decode ⟨l.toArray⟩ i).2)) ht
  have hset : (setObj r (.stringIter ⟨l.toArray⟩ (i + (Utf8.decode ⟨l.toArray⟩ i).2))).run P w = .ok () { w with heap := w.heap.setIfInBounds r (.stringIter ⟨l.toArray⟩ (i + (Utf8.decode ⟨l.toArray⟩ i).2)) } := by
    simp [setObj, Sem.run, ht]
  refine wl (h { w with heap := w.heap.setIfInBounds r (.stringIter ⟨l.toArray⟩ (i + (Utf8.decode ⟨l.toArray⟩ i).2)) } hs.1 ⟨rfl, rfl, rfl, by simp, fun k _ hk => hs.2 k (by simpa using hk)⟩) (Y.val ?_)
  simp only [execOp, hx, Instr.next, Sem.run_bind, hg, Result.andThen_ok]
  rw [if_pos (by simpa [ByteArray.size] using hi)]
  simp only [Sem.run_bind, hset, Result.andThen_ok, Sem.run_pure]
  rfl
theorem wlnext_no (ht : It w r l i) (hi : l.length ≤ i) (h : WL P n ds ops Q rest (real (updG σ d ⟨.tuple #[.bool false], true⟩)) w)
    (hx : evl (real σ) x = .pointer (pb r) := by rfl) :
    WL P n ds ops Q (⟨some d, .next x true, ty, pos, af, none⟩ :: rest) (real σ) w := by
  have hg := run_getObj_it (P := P) ht
  refine wl h (Y.val ?_)
  simp only [execOp, hx, Instr.next, Sem.run_bind, hg, Result.andThen_ok]
  rw [if_neg (by simp [ByteArray.size]; omega)]
  simp only [Sem.run_bind, Result.andThen_ok, Sem.run_pure]
end
end Go.Sv

/-
  Package utf: Runes, Mend.
-/
set_option linter.unusedSimpArgs false
set_option linter.unusedVariables false
set_option linter.unnecessarySimpa false
namespace Go.Proofs.YtkclldfejembnaaDoor
open Go Go.Sv Go.RowKit

theorem Im.only {w : World} {p : Option Addr} {l : List Value} {M : List Nat} (h : Im [] w p l) (hM : ∀ b ∈ rb p, b < w.heap.size → b ∉ M) : Im M w p l := by
  rcases h with h | ⟨a, rfl, h1, h2, _⟩
  · exact .inl h
  · exact .inr ⟨a, rfl, h1, h2, hM _ (by simp [rb]) h2⟩

set_option maxHeartbeats 2000000 in
theorem runes_ok (l : List UInt8) (p : Option Addr) (n c : Nat) (hn : n = l.length) (hb : l.length ≤ 1073741824) (w : World) (hi : Im [] w p (bs l)) : CallsR Tryd.prog 42 #[.slice p n c] w (NewR w (runesN l)) := by
  refine enter (l := [.slice p n c]) Tryd.func42 rfl Tryd.ntmps42 (by kernel_rfl) rfl ?_
  refine sgo ?_
  refine wlalloc fun b3 w1 hb3 ho3 hf1 => ?_
  have hb31 := ho3.lt
  refine sgo ?_
  refine wlcall (all_ok l p n c hn hb w1 (hi.frm hf1)) ?_
  rintro v w2 ⟨hf2, b, q, c2, rfl, ho, hI, hc2, hbb, hqq⟩
  replace ho3 := ho3.frm hf2
  have hfw := hf1.trans hf2
  have hb32 := ho3.lt
  have hb2 := ho.lt
  refine sgo ?_
  refine wcrangef (cap := [ptrAt (pb b) 0]) rfl rfl ?_
  intro fn lr D w3 hD hlr hne hf3 hL hN
  replace ho3 := ho3.frm hf3
  replace ho := ho.frm hf3
  have hI2 : Im [b3, lr] w2 q (bs l) := Im.only hI (by
    intro x hx hlt hm
    have := hqq x hx
    rcases List.mem_cons.1 hm with rfl | hm
    · omega
    · simp only [List.mem_singleton] at hm; omega)
  replace hI := hI2.frm hf3
  have hfw3 := hfw.trans hf3
  have hlr3 := hL.lt
  have hD3 := hN.lt
  have hs23 := hf3.size
  refine CallsR.mono (all1_ok lr b l q c2 hc2 hb
    (fun i w' => i ≤ l.length ∧ ∃ rs q3 c3, runesN l = rs ++ runesN (l.drop i) ∧ Le [b3, lr] w3 w' ∧ Own w' b3 [.slice q3 rs.length c3] ∧ Row w' 1 q3 rs.length c3 (rs32 rs) ∧ (∀ x ∈ rb q3, w3.heap.size ≤ x) ∧ w'.heap[lr]? = w3.heap[lr]?)
    (fun _ _ => False) ?_ ?_ ?_ w3 ⟨by omega, [], none, 0, by simp, Le.refl _ _, ho3, Row.nil _ _, rb_nil _, rfl⟩) ?_
  · rintro i w' ⟨_, rs, q3, c3, _, hle, _⟩
    refine ⟨ho.le hle ?_, (hI.le hle).weak (by simp)⟩
    intro hm
    rcases List.mem_cons.1 hm with rfl | hm
    · omega
    · simp only [List.mem_singleton] at hm; omega
  · rintro i w' w'' ⟨h1, rs, q3, c3, h2, h3, h4, h5, h6, h7⟩ hf
    exact ⟨h1, rs, q3, c3, h2, h3.trans hf.le, h4.frm hf, h5.frm hf, h6, (hf.block lr (Nat.lt_of_lt_of_le hlr3 h3.size)).trans h7⟩
  · rintro i w' ⟨h1, rs, q3, c3, h2, h3, h4, h5, h6, h7⟩ hlt
    have hLw := h7.trans hL
    have hpos : 0 < (l.drop i).length := by simp; omega
    obtain ⟨r, hr, hg⟩ := pieceR_good (l.drop i) hpos
    have hrc := runesN_cons (l.drop i) hpos
    rw [List.drop_drop] at hrc
    have hpr := pieceR_rng (l.drop i) hpos
    have hdl : (l.drop i).length = l.length - i := by simp
    rw [hr] at hrc ⊢
    rw [Int.toNat_natCast] at hrc
    generalize (pieceR (l.drop i)).2.1 = m at *
    have hrl := runesN_len l
    have hrs : rs.length ≤ 1073741824 := by rw [h2, List.length_append] at hrl; omega
    have h3s := h3.size
    refine yld_of hLw rfl (by kernel_rfl) ?_
    refine sgo ?_
    refine ⟨hLw, fun w5 hl5 hL5 => ?_⟩
    have ho5 := h4.le hl5 (by simp; omega)
    have hR5 := h5.le hl5 (by intro x hx hm; simp only [List.mem_singleton] at hm; subst hm; have := h6 x hx; omega)
    refine sgo ?_
    refine wlb1_int fun b6 w6 hb6 ho6 hf6 => ?_
    refine wlapp (hR5.frm hf6) ho6.sg (fun q' c' w7 hR7 hl7 => ?_)
    have ho7 := (ho5.frm hf6).le hl7.1 (by intro hm; have := h6 _ hm; omega)
    have hL7 : LoopAt w7 lr _ := (hL5.frm hf6).le hl7.1 (by intro hm; have := h6 _ hm; omega)
    have hq7 : ∀ x ∈ rb q', w3.heap.size ≤ x := by
      intro x hx
      rcases Nat.lt_or_ge x w6.heap.size with h | h
      · exact h6 x (hl7.2 x hx h)
      · have := hf6.size; have := hl5.size; omega
    refine wlst_slice ho7 fun w8 ho8 hl8 => ?_
    have hR8 := hR7.le hl8 (by intro x hx hm; simp only [List.mem_singleton] at hm; subst hm; have := hq7 x hx; omega)
    have hL8 := hL7.le hl8 (by simp; omega)
    refine sgo ?_
    refine rnd_normal hL8 fun w9 hl9 hL9 => ?_
    have e1 : rs32 rs ++ [i32 r] = rs32 (rs ++ [r]) := by simp [rs32]
    have e2 : rs.length + 1 = (rs ++ [r]).length := by simp
    rw [e1, e2] at hR8
    have hle9 : Le [b3, lr] w3 w9 := by
      refine ⟨hl9.os.trans (hl8.os.trans (hl7.1.os.trans (hf6.os.trans (hl5.os.trans h3.os)))), hl9.tape.trans (hl8.tape.trans (hl7.1.tape.trans (hf6.tape.trans (hl5.tape.trans h3.tape)))), hl9.output.trans (hl8.output.trans (hl7.1.output.trans (hf6.output.trans (hl5.output.trans h3.output)))), ?_, fun k hk hm => ?_⟩
      · have := hl9.size; have := hl8.size; have := hl7.1.size; have := hf6.size; have := hl5.size; omega
      · have a3 := h3.block k hk hm
        simp only [List.mem_cons, List.not_mem_nil, or_false, not_or] at hm
        have a5 := hl5.block k (by omega) (by simpa using hm.2)
        have s5 := hl5.size
        have a6 := hf6.block k (by omega)
        have s6 := hf6.size
        have a7 := hl7.1.block k (by omega) (by intro h; have := h6 k h; omega)
        have s7 := hl7.1.size
        have a8 := hl8.block k (by omega) (by simpa using hm.1)
        have s8 := hl8.size
        have a9 := hl9.block k (by omega) (by simpa using hm.2)
        rw [a9, a8, a7, a6, a5, a3]
    refine ⟨by omega, rs ++ [r], q', c', by rw [h2, hrc]; simp, hle9, ?_, hR8.le hl9 (by intro x hx hm; simp only [List.mem_singleton] at hm; subst hm; have := hq7 x hx; omega), hq7, ?_⟩
    · rw [← e2]
      exact ho8.le hl9 (by simp; omega)
    · exact hL9.trans hL.symm
  · rintro v w4 hor
    obtain ⟨_, rs, q3, c3, h2, h3, h4, h5, h6, h7⟩ := hor.resolve_right fun ⟨_, _, h⟩ => h
    rw [List.drop_length, runesN_nil, List.append_nil] at h2
    refine ⟨.ready, none, by simp, h7.trans hL, fun w5 hl5 => aft_none ?_⟩
    have ho5 := h4.le hl5 (by simp; omega)
    have hR5 := h5.le hl5 (by intro x hx hm; simp only [List.mem_singleton] at hm; subst hm; have := h6 x hx; omega)
    have hN5 := (hN.le h3 (by simp; omega)).le hl5 (by simp; omega)
    refine sgo ?_
    refine fp_mark (.inl rfl) hN5 ?_
    (first | refine fp1 (.inl rfl) rfl rfl ?_ | refine fp2 (.inl rfl) rfl rfl rfl ?_ | refine fp3 (.inl rfl) rfl rfl rfl rfl ?_ | refine fp0 (.inr rfl) rfl ?_ | refine fp0 (.inl rfl) rfl ?_ | refine fp1 (.inr rfl) rfl rfl ?_)
    have hlD := le_putObj w5 D (.deferred none)
    have hfw4 := hfw3.step h3 (by intro x hx; simp only [List.mem_cons, List.not_mem_nil, or_false] at hx; have := hfw.size; omega)
    have hfw5 := hfw4.step hl5 (by intro x hx; simp only [List.mem_singleton] at hx; have := hfw.size; omega)
    refine ⟨hfw5.step hlD (by intro x hx; simp only [List.mem_singleton] at hx; have := hfw.size; omega), q3, c3, ?_, ?_, fun x hx => Nat.le_trans hfw3.size (h6 x hx)⟩
    · rw [h2]; rfl
    · rw [h2]
      exact hR5.le hlD (by intro x hx hm; simp only [List.mem_singleton] at hm; subst hm; have := h6 x hx; omega)
end Go.Proofs.YtkclldfejembnaaDoor

/-
  Package utf: Mend.
-/
set_option linter.unusedSimpArgs false
set_option linter.unusedVariables false
set_option linter.unnecessarySimpa false
namespace Go.Proofs.YtkclldfejembnaaDoor
open Go Go.Sv Go.RowKit

theorem sec_true (c d : Nat) (h : 128 ≤ d ∧ d ≤ 191 ∧ (c = 224 → 160 ≤ d) ∧ (c = 237 → d ≤ 159) ∧ (c = 240 → 144 ≤ d) ∧ (c = 244 → d ≤ 143)) : secondR c d = true := by
  unfold secondR
  repeat' split
  all_goals simp only [Bool.and_eq_true, decide_eq_true_eq]
  all_goals omega
theorem right1 (l : List UInt8) (h : at0 l 0 < 128) : (pieceR l).2.2 = true := by
  have hs : sizeR (at0 l 0) = 1 := by unfold sizeR; rw [if_pos (by omega)]
  show (goodR l).2 = true
  simp [goodR, hs, goodF]
theorem right2 (l : List UInt8) (hl : 1 < l.length) (h : 194 ≤ at0 l 0 ∧ at0 l 0 ≤ 223 ∧ 128 ≤ at0 l 1 ∧ at0 l 1 ≤ 191) : (pieceR l).2.2 = true := by
  have hs : sizeR (at0 l 0) = 2 := by unfold sizeR; rw [if_neg (by omega), if_pos (by omega)]
  have h2 := sec_true (at0 l 0) (at0 l 1) (by omega)
  show (goodR l).2 = true
  simp [goodR, hs, goodF, hl, h2]
theorem right3 (l : List UInt8) (hl : 2 < l.length) (h : 224 ≤ at0 l 0 ∧ at0 l 0 ≤ 239 ∧ 128 ≤ at0 l 1 ∧ at0 l 1 ≤ 191 ∧ (at0 l 0 = 224 → 160 ≤ at0 l 1) ∧ (at0 l 0 = 237 → at0 l 1 ≤ 159) ∧ 128 ≤ at0 l 2 ∧ at0 l 2 ≤ 191) : (pieceR l).2.2 = true := by
  have hs : sizeR (at0 l 0) = 3 := by unfold sizeR; rw [if_neg (by omega), if_neg (by omega), if_pos (by omega)]
  have h2 := sec_true (at0 l 0) (at0 l 1) (by omega)
  have h3 : ¬ (at0 l 2 < 128 ∨ 191 < at0 l 2) := by omega
  show (goodR l).2 = true
  simp [goodR, hs, goodF, hl, h2, h3, show 1 < l.length by omega]
  try omega
theorem right4 (l : List UInt8) (hl : 3 < l.length) (h : 240 ≤ at0 l 0 ∧ at0 l 0 ≤ 244 ∧ 128 ≤ at0 l 1 ∧ at0 l 1 ≤ 191 ∧ (at0 l 0 = 240 → 144 ≤ at0 l 1) ∧ (at0 l 0 = 244 → at0 l 1 ≤ 143) ∧ 128 ≤ at0 l 2 ∧ at0 l 2 ≤ 191 ∧ 128 ≤ at0 l 3 ∧ at0 l 3 ≤ 191) : (pieceR l).2.2 = true := by
  have hs : sizeR (at0 l 0) = 4 := by unfold sizeR; rw [if_neg (by omega), if_neg (by omega), if_neg (by omega), if_pos (by omega)]
  have h2 := sec_true (at0 l 0) (at0 l 1) (by omega)
  have h3 : ¬ (at0 l 2 < 128 ∨ 191 < at0 l 2) := by omega
  have h4 : ¬ (at0 l 3 < 128 ∨ 191 < at0 l 3) := by omega
  show (goodR l).2 = true
  simp [goodR, hs, goodF, hl, h2, h3, h4, show 1 < l.length by omega, show 2 < l.length by omega]
  try omega
theorem decode_wrong (l : List UInt8) (i : Nat) (hw : (pieceR (l.drop i)).2.2 = false) : Utf8.decode ⟨l.toArray⟩ i = (65533, 1) := by
  have hd : ∀ k, (k < (l.drop i).length) = (i + k < l.length) := fun k => by simp; omega
  have no : ∀ {p : Prop}, (p → (pieceR (l.drop i)).2.2 = true) → ¬ p := fun h hp => by rw [h hp] at hw; cases hw
  have r1 := no (right1 (l.drop i))
  have r2 := no (fun h : _ ∧ _ => right2 (l.drop i) h.1 h.2)
  have r3 := no (fun h : _ ∧ _ => right3 (l.drop i) h.1 h.2)
  have r4 := no (fun h : _ ∧ _ => right4 (l.drop i) h.1 h.2)
  rw [hd] at r2 r3 r4
  unfold Utf8.decode
  simp only [get_at0, size_str]
  have hb0 := at0_lt (l.drop i) 0
  have hb1 := at0_lt (l.drop i) 1
  have hb2 := at0_lt (l.drop i) 2
  have hb3 := at0_lt (l.drop i) 3
  clear hd no hw
  generalize at0 (l.drop i) 0 = b0 at *
  generalize at0 (l.drop i) 1 = b1 at *
  generalize at0 (l.drop i) 2 = b2 at *
  generalize at0 (l.drop i) 3 = b3 at *
  rw [if_neg r1]
  split
  · rename_i h
    simp only [Bool.and_eq_true, beq_iff_eq, decide_eq_true_eq] at h
    rw [if_neg (by omega)]; rfl
  split
  · rename_i h
    simp only [Bool.and_eq_true, beq_iff_eq, decide_eq_true_eq] at h
    rw [if_neg]
    · rfl
    · simp only [Utf8.valid, Bool.and_eq_true, Bool.or_eq_true, decide_eq_true_eq]
      omega
  split
  · rename_i h
    simp only [Bool.and_eq_true, beq_iff_eq, decide_eq_true_eq] at h
    rw [if_neg]
    · rfl
    · simp only [Utf8.valid, Bool.and_eq_true, Bool.or_eq_true, decide_eq_true_eq]
      omega
  · rfl
theorem valid_back (l : List UInt8) (h0 : 0 < l.length) (hr : (pieceR l).2.2 = true) (h : validR (l.drop (pieceR l).2.1) = true) : validR l = true := by
  have hp := readS_piece l h0
  have hv := validS_cons l h0
  have hw := (whatR_zero l).2 hr
  rw [valid_eq, valid_eq, hp] at hv
  dsimp only at hv
  rw [if_neg (by simpa using hw)] at hv
  rw [hv]; exact h
/-- the bytes of U+FFFD are right -/
theorem fffd_right (l : List UInt8) (h : l.take 3 = [239, 191, 189]) : (pieceR l).2.2 = true := by
  match l, h with
  | a :: b :: c :: l', h =>
    simp only [List.take_succ_cons, List.take_zero, List.cons.injEq, and_true] at h
    obtain ⟨rfl, rfl, rfl⟩ := h
    have e0 : at0 (239 :: 191 :: 189 :: l') 0 = 239 := rfl
    have e1 : at0 (239 :: 191 :: 189 :: l') 1 = 191 := rfl
    have e2 : at0 (239 :: 191 :: 189 :: l') 2 = 189 := rfl
    exact right3 _ (by simp) (by omega)

/-! ## runes and texts -/
theorem encode_good {r : Nat} (hg : Good r) : Utf8.encode (r : Int) = ⟨(encR r).toArray⟩ := by
  have hv : Utf8.valid (r : Int) = true := by
    unfold Good at hg
    simp only [Utf8.valid, Bool.and_eq_true, Bool.or_eq_true, decide_eq_true_eq]
    omega
  unfold Utf8.encode
  rw [if_pos hv]
  simp only [Int.toNat_natCast]
  unfold encR encN
  split
  · rfl
  · split
    · rfl
    · split
      · rfl
      · rfl
theorem runesBytes_good : ∀ (rs : List Nat) (acc : List UInt8), (∀ r ∈ rs, Good r) → (rs.map fun n : Nat => (n : Int)).foldl (fun r n => r ++ Utf8.encode n) ⟨acc.toArray⟩ = ⟨(acc ++ rs.flatMap encR).toArray⟩
  | [], acc, _ => by simp
  | r :: rs, acc, h => by
    simp only [List.map_cons, List.foldl_cons, List.flatMap_cons]
    rw [encode_good (h r List.mem_cons_self)]
    have e : (ByteArray.mk acc.toArray ++ ByteArray.mk (encR r).toArray) = ⟨(acc ++ encR r).toArray⟩ := by
      apply ByteArray.ext
      simp
    rw [e, runesBytes_good rs (acc ++ encR r) fun x hx => h x (List.mem_cons_of_mem _ hx), List.append_assoc]
section
variable {P : Program} {w : World} {ty t t' e : TypeId} {pos : String} {af : Array Edge} {x : Operand} {p : Option Addr} {c : Nat}
theorem y_r2s {σ : Env} {d : Option Tmp} {g : Option (Nat × Bool)} {rs : List Nat} [hu : Und P t (.slice e)] [hu' : Und P t' .string] [he : Und P e (.int .i32)] (hg : ∀ r ∈ rs, Good r) (hs : Sg w p (rs32 rs)) (hx : evl σ x = .slice p rs.length c) :
    Y P σ ⟨d, .convert t t' x, ty, pos, af, g⟩ w (str (rs.flatMap encR)) w := by
  refine Y.val ?_
  simp only [execOp, hx]
  rw [Sem.run_bind]
  have e0 : (ByteArray.empty : ByteArray) = ⟨([] : List UInt8).toArray⟩ := rfl
  rcases hs with h0 | ⟨a, rfl, h1⟩
  · have hs0 : rs = [] := by simpa [rs32] using h0
    subst hs0
    cases p with
    | none => rw [run_convert_runes_nil w t t' e _ _ hu.ok he.ok hu'.ok]; rfl
    | some a =>
      rw [run_convert_runes w t t' e a _ _ [] (by simp) hu.ok he.ok hu'.ok (by simp)]
      rfl
  · have hc := run_convert_runes (P := P) w t t' e a rs.length c (rs.map fun n : Nat => (n : Int)) (by simp) hu.ok he.ok hu'.ok (fun j hj => by
      have hj' : j < rs.length := by simpa using hj
      rw [h1 j (by simpa [rs32] using hj')]
      simp [rs32, hj', List.getD])
    rw [hc]
    have e1 : (rs.map fun n : Nat => (n : Int)).take rs.length = rs.map fun n : Nat => (n : Int) := List.take_of_length_le (by simp)
    rw [e1]
    have := runesBytes_good rs [] hg
    unfold runesBytes
    rw [e0, this]
    rfl
end
section
variable {P : Program} {n : Nat} {ds : Ctx} {ops : Array Oper} {Q : Exit → Ctx → Env → World → Prop} {rest : List Oper} {σ : GE} {w : World} {d : Nat} {ty t t' e : TypeId} {pos : String} {af : Array Edge} {x : Operand}
end

set_option maxHeartbeats 2000000 in
theorem mend_ok (l : List UInt8) (hb : l.length ≤ 1073741824) (w : World) : PureC Tryd.prog 32 #[str l] w (str (mendR l)) := by
  refine enter (l := [str l]) Tryd.func32 rfl Tryd.ntmps32 (by kernel_rfl) rfl ?_
  refine sgo ?_
  refine wlrange fun r w1 hr1 hI1 hf1 => ?_
  refine sgo ?_
  refine wcloop (X := Nat × Bool) (fun x => [(0, str l), (3, .bool x.2), (7, .pointer (pb r))])
    (fun x wr => x.1 ≤ l.length ∧ It wr r l x.1 ∧ Frm w wr ∧ (x.2 = true → validR (l.drop x.1) = true → validR l = true)) (fun x => l.length - x.1) (0, true) ⟨rfl, rfl, rfl, trivial⟩ ⟨by omega, hI1, hf1, fun _ h => h⟩ ?_
  rintro ⟨i, v⟩ wr ρ ⟨hil, hIt, hfr, hv⟩
  dsimp only at hil hIt hv ⊢
  refine sgo ?_
  by_cases hi : i < l.length
  · refine wlnext_yes hIt hi fun w2 hI2 hl2 => ?_
    have hfr2 := hfr.step hl2 (by intro x hx; simp only [List.mem_singleton] at hx; subst hx; exact hr1)
    have hpos : 0 < (l.drop i).length := by simp; omega
    have hpr := pieceR_rng (l.drop i) hpos
    have hdl : (l.drop i).length = l.length - i := by simp
    cases hp : (pieceR (l.drop i)).2.2 with
    | true =>
      have hd := decode_right l i (right_of _ hp)
      have hvb := valid_back (l.drop i) hpos hp
      rw [List.drop_drop] at hvb
      simp only [hd] at hI2 ⊢
      generalize (pieceR (l.drop i)).2.1 = m at *
      generalize (pieceR (l.drop i)).1.toNat = rr at *
      refine sgo ?_
      (show WC _ _ _ _ _ _ _; first | refine WC_dec rfl (fun hc => ?_) (fun hc => ?_) | refine WC_cond rfl (fun hc => ?_) (fun hc => ?_))
      · refine sgo ?_
        exact ⟨(i + m, false), ⟨rfl, rfl, rfl, trivial⟩, ⟨by dsimp only; omega, hI2, hfr2, fun h => by cases h⟩, by dsimp only; omega⟩
      · refine sgo ?_
        exact ⟨(i + m, v), ⟨rfl, rfl, rfl, trivial⟩, ⟨by dsimp only; omega, hI2, hfr2, fun h1 h2 => hv h1 (hvb h2)⟩, by dsimp only; omega⟩
    | false =>
      have hd := decode_wrong l i hp
      simp only [hd] at hI2 ⊢
      refine sgo ?_
      (show WC _ _ _ _ _ _ _; first | refine WC_dec rfl (fun hc => ?_) (fun hc => ?_) | refine WC_cond rfl (fun hc => ?_) (fun hc => ?_))
      · refine sgo ?_
        exact ⟨(i + 1, false), ⟨rfl, rfl, rfl, trivial⟩, ⟨by dsimp only; omega, hI2, hfr2, fun h => by cases h⟩, by dsimp only; omega⟩
      · exfalso
        simp only [pkb_and, pkb_or, Bool.and_eq_false_iff, Bool.or_eq_false_iff, decide_eq_false_iff_not] at hc
        rcases hc with hc | ⟨h1, h2⟩
        · exact hc rfl
        · have h3 : (l.drop i).take 3 = [239, 191, 189] := by
            have := Decidable.not_not.1 h2
            rwa [show i + 3 - i = 3 by omega] at this
          rw [fffd_right _ h3] at hp
          cases hp
  · refine wlnext_no hIt (by omega) ?_
    rw [List.drop_eq_nil_of_le (by omega)] at hv
    refine sgo ?_
    cases v
    · refine sgo ?_
      refine wls2b rfl (by omega) fun b c w3 hb3 hc1 hc2 hI3 hf3 => ?_
      refine wlcall (runes_ok l _ _ _ rfl hb _ hI3) ?_
      rintro v w4 ⟨hf4, q, cc, rfl, hR, hq⟩
      have hf := (hfr.trans hf3).trans hf4
      refine wl ?_ (y_r2s (runesN_good l) hR.sg rfl)
      refine sgo ?_
      (first | refine fp1 (.inl rfl) rfl rfl ?_ | refine fp2 (.inl rfl) rfl rfl rfl ?_ | refine fp3 (.inl rfl) rfl rfl rfl rfl ?_ | refine fp0 (.inr rfl) rfl ?_ | refine fp0 (.inl rfl) rfl ?_ | refine fp1 (.inr rfl) rfl rfl ?_); refine ⟨?_, by (first | exact Frm.refl _ | assumption | exact Go.Sv.Sep.frm (by assumption) | (refine Frm.trans ?_ (by assumption); first | exact Frm.refl _ | assumption))⟩; (try simp only [realB, rv_true, Nat.reduceBEq, cond_true, cond_false, entG, real_lif, updGL])
      rfl
    · refine sgo ?_
      (first | refine fp1 (.inl rfl) rfl rfl ?_ | refine fp2 (.inl rfl) rfl rfl rfl ?_ | refine fp3 (.inl rfl) rfl rfl rfl rfl ?_ | refine fp0 (.inr rfl) rfl ?_ | refine fp0 (.inl rfl) rfl ?_ | refine fp1 (.inr rfl) rfl rfl ?_); refine ⟨?_, by (first | exact Frm.refl _ | assumption | exact Go.Sv.Sep.frm (by assumption) | (refine Frm.trans ?_ (by assumption); first | exact Frm.refl _ | assumption))⟩; (try simp only [realB, rv_true, Nat.reduceBEq, cond_true, cond_false, entG, real_lif, updGL])
      rw [mendR_id (hv rfl rfl)]
end Go.Proofs.YtkclldfejembnaaDoor

/-
  Runes as bytes, read again.
-/
set_option linter.unusedSimpArgs false
set_option linter.unusedVariables false
set_option linter.unnecessarySimpa false
namespace Go.Proofs.YtkclldfejembnaaDoor
open Go Go.Sv Go.RowKit

theorem piece_enc (r : Nat) (hg : Good r) (rest : List UInt8) : pieceR (encR r ++ rest) = ((r : Int), (encR r).length, true) := by
  obtain ⟨hg1, hg2⟩ := hg
  have fin : ∀ l : List UInt8, (pieceR l).2.2 = true → Right l := right_of
  unfold encR encN
  by_cases h1 : r < 128
  · rw [if_pos h1]
    generalize hl : (([r] : List Nat).map UInt8.ofNat ++ rest : List UInt8) = l
    have e0 : at0 l 0 = r := by subst hl; simp [at0]; omega
    have hr := fin l (right1 l (by omega))
    rcases hr with ⟨g1, hp⟩ | ⟨gl, g1, g2, g3, g4, hp⟩ | ⟨gl, g1, g2, g3, g4, g5, g6, g7, g8, hp⟩ | ⟨gl, g1, g2, g3, g4, g5, g6, g7, g8, g9, g10, hp⟩
    · rw [hp, e0]; rfl
    all_goals omega
  rw [if_neg h1]
  by_cases h2 : r < 2048
  · rw [if_pos h2]
    generalize hl : (([192 + r / 64, 128 + r % 64] : List Nat).map UInt8.ofNat ++ rest : List UInt8) = l
    have e0 : at0 l 0 = 192 + r / 64 := by subst hl; simp [at0]; omega
    have e1 : at0 l 1 = 128 + r % 64 := by subst hl; simp [at0]; omega
    have hr := fin l (right2 l (by subst hl; simp) (by omega))
    rcases hr with ⟨g1, hp⟩ | ⟨gl, g1, g2, g3, g4, hp⟩ | ⟨gl, g1, g2, g3, g4, g5, g6, g7, g8, hp⟩ | ⟨gl, g1, g2, g3, g4, g5, g6, g7, g8, g9, g10, hp⟩
    · omega
    · rw [hp, e0, e1]; simp; omega
    all_goals omega
  rw [if_neg h2]
  by_cases h3 : r < 65536
  · rw [if_pos h3]
    generalize hl : (([224 + r / 4096, 128 + r / 64 % 64, 128 + r % 64] : List Nat).map UInt8.ofNat ++ rest : List UInt8) = l
    have e0 : at0 l 0 = 224 + r / 4096 := by subst hl; simp [at0]; omega
    have e1 : at0 l 1 = 128 + r / 64 % 64 := by subst hl; simp [at0]; omega
    have e2 : at0 l 2 = 128 + r % 64 := by subst hl; simp [at0]; omega
    have hr := fin l (right3 l (by subst hl; simp) (by omega))
    rcases hr with ⟨g1, hp⟩ | ⟨gl, g1, g2, g3, g4, hp⟩ | ⟨gl, g1, g2, g3, g4, g5, g6, g7, g8, hp⟩ | ⟨gl, g1, g2, g3, g4, g5, g6, g7, g8, g9, g10, hp⟩
    · omega
    · omega
    · rw [hp, e0, e1, e2]; simp; omega
    · omega
  rw [if_neg h3]
  generalize hl : (([240 + r / 262144, 128 + r / 4096 % 64, 128 + r / 64 % 64, 128 + r % 64] : List Nat).map UInt8.ofNat ++ rest : List UInt8) = l
  have e0 : at0 l 0 = 240 + r / 262144 := by subst hl; simp [at0]; omega
  have e1 : at0 l 1 = 128 + r / 4096 % 64 := by subst hl; simp [at0]; omega
  have e2 : at0 l 2 = 128 + r / 64 % 64 := by subst hl; simp [at0]; omega
  have e3 : at0 l 3 = 128 + r % 64 := by subst hl; simp [at0]; omega
  have hr := fin l (right4 l (by subst hl; simp) (by omega))
  rcases hr with ⟨g1, hp⟩ | ⟨gl, g1, g2, g3, g4, hp⟩ | ⟨gl, g1, g2, g3, g4, g5, g6, g7, g8, hp⟩ | ⟨gl, g1, g2, g3, g4, g5, g6, g7, g8, g9, g10, hp⟩
  · omega
  · omega
  · omega
  · rw [hp, e0, e1, e2, e3]; simp; omega

theorem drop_enc (r : Nat) (rest : List UInt8) : (encR r ++ rest).drop (encR r).length = rest := List.drop_left
theorem runesN_flat : ∀ rs : List Nat, (∀ r ∈ rs, Good r) → runesN (rs.flatMap encR) = rs
  | [], _ => rfl
  | r :: rs, h => by
    have h4 := encR_len4 r
    rw [List.flatMap_cons, runesN_cons _ (by simp; omega), piece_enc r (h r List.mem_cons_self)]
    dsimp only
    rw [drop_enc, runesN_flat rs fun x hx => h x (List.mem_cons_of_mem _ hx), Int.toNat_natCast]
theorem valid_flat : ∀ rs : List Nat, (∀ r ∈ rs, Good r) → validR (rs.flatMap encR) = true
  | [], _ => rfl
  | r :: rs, h => by
    have h4 := encR_len4 r
    rw [List.flatMap_cons]
    refine valid_back _ (by simp; omega) ?_ ?_
    · rw [piece_enc r (h r List.mem_cons_self)]
    · rw [piece_enc r (h r List.mem_cons_self)]
      dsimp only
      rw [drop_enc]
      exact valid_flat rs fun x hx => h x (List.mem_cons_of_mem _ hx)
theorem valid_mend (l : List UInt8) : validR (mendR l) = true := valid_flat _ (runesN_good l)
theorem runesN_mend (l : List UInt8) : runesN (mendR l) = runesN l := runesN_flat _ (runesN_good l)
theorem mend_flat {rs : List Nat} (h : ∀ r ∈ rs, Good r) : mendR (rs.flatMap encR) = rs.flatMap encR := mendR_id (valid_flat rs h)
theorem mend_mend (l : List UInt8) : mendR (mendR l) = mendR l := mendR_id (valid_mend l)
end Go.Proofs.YtkclldfejembnaaDoor

/-
  Texts cut and joined: what is valid stays so.
-/
set_option linter.unusedSimpArgs false
set_option linter.unusedVariables false
set_option linter.unnecessarySimpa false
namespace Go.Proofs.YtkclldfejembnaaDoor
open Go Go.Sv Go.RowKit
theorem at_app_l {a b : List UInt8} {i : Nat} (h : i < a.length) : at0 (a ++ b) i = at0 a i := by simp only [at0, List.getElem?_append_left h]
theorem at_app_r {a b : List UInt8} {i : Nat} (h : a.length ≤ i) : at0 (a ++ b) i = at0 b (i - a.length) := by simp only [at0, List.getElem?_append_right h]
end Go.Proofs.YtkclldfejembnaaDoor

/-
  Texts parted at an ASCII byte: their runes.
-/
set_option linter.unusedSimpArgs false
set_option linter.unusedVariables false
set_option linter.unnecessarySimpa false
namespace Go.Proofs.YtkclldfejembnaaDoor
open Go Go.Sv Go.RowKit

theorem at_cut0 (a b : List UInt8) (c : UInt8) : at0 (a ++ c :: b) a.length = c.toNat := by rw [at_app_r (Nat.le_refl _)]; simp [at0]
theorem second_low (c d : Nat) (h : d < 128) : secondR c d = false := by
  unfold secondR
  repeat' split
  all_goals (simp only [Bool.and_eq_false_iff, decide_eq_false_iff_not]; left; omega)
theorem goodF_cut (a b : List UInt8) (c : UInt8) (hc : c.toNat < 128) (n : Nat) : ∀ (f k : Nat), 1 ≤ k → k ≤ a.length → goodF (a ++ c :: b) n f k = goodF a n f k
  | 0, k, _, _ => rfl
  | f + 1, k, h1, h2 => by
    simp only [goodF]
    by_cases hkn : k < n
    · by_cases hka : k < a.length
      · have hl : k < (a ++ c :: b).length := by simp; omega
        rw [if_pos (show k < n ∧ k < (a ++ c :: b).length from ⟨hkn, hl⟩), if_pos (show k < n ∧ k < a.length from ⟨hkn, hka⟩), at_app_l hka, at_app_l (show 0 < a.length by omega)]
        by_cases hk1 : k = 1
        · subst hk1
          rw [at_app_l hka, goodF_cut a b c hc n f 2 (by omega) (by omega)]
        · by_cases h1' : 1 < a.length
          · rw [at_app_l h1', goodF_cut a b c hc n f (k + 1) (by omega) (by omega)]
          · omega
      · obtain rfl : k = a.length := by omega
        have hl : a.length < (a ++ c :: b).length := by simp
        rw [if_pos (show a.length < n ∧ a.length < (a ++ c :: b).length from ⟨hkn, hl⟩), if_neg (by omega : ¬ (a.length < n ∧ a.length < a.length)), at_cut0, if_pos]
        by_cases hk1 : a.length = 1
        · left
          refine ⟨hk1, ?_⟩
          have := at_cut0 a b c
          rw [hk1] at this
          rw [this, second_low _ _ hc]
        · right
          exact ⟨by omega, .inl hc⟩
    · rw [if_neg (by omega), if_neg (by omega)]
theorem goodR_cut (a b : List UInt8) (c : UInt8) (hc : c.toNat < 128) (h0 : 0 < a.length) : goodR (a ++ c :: b) = goodR a := by
  unfold goodR
  rw [at_app_l h0, goodF_cut a b c hc _ 4 1 (by omega) h0]
theorem accR_cut (a b : List UInt8) : ∀ (f i r : Nat), i + f ≤ a.length → accR (a ++ b) f i r = accR a f i r
  | 0, i, r, _ => rfl
  | f + 1, i, r, h => by
    simp only [accR]
    rw [at_app_l (by omega), accR_cut a b f (i + 1) _ (by omega)]
theorem pieceR_cut (a b : List UInt8) (c : UInt8) (hc : c.toNat < 128) (h0 : 0 < a.length) : pieceR (a ++ c :: b) = pieceR a := by
  have hr := goodR_rng a h0
  unfold pieceR
  rw [goodR_cut a b c hc h0, at_app_l h0]
  cases hg : (goodR a).2 with
  | false => rfl
  | true =>
    have h2 := hr.2 hg
    simp only [if_true]
    rw [accR_cut a (c :: b) _ _ _ (by omega)]
theorem pieceR_low (c : UInt8) (b : List UInt8) (hc : c.toNat < 128) : pieceR (c :: b) = ((c.toNat : Int), 1, true) := by
  have h : (c :: b) = encR c.toNat ++ b := by
    have : encR c.toNat = [c] := by
      unfold encR encN
      rw [if_pos (by omega)]
      simp
    rw [this]; rfl
  rw [h, piece_enc c.toNat ⟨by omega, by omega⟩ b]
  have : (encR c.toNat).length = 1 := by
    rw [encR_len]
    unfold encN
    rw [if_pos (by omega)]; rfl
  rw [this]
/-- a text around an ASCII byte -/
theorem runes_cut (c : UInt8) (hc : c.toNat < 128) (b : List UInt8) : ∀ (n : Nat) (a : List UInt8), a.length ≤ n → runesN (a ++ c :: b) = runesN a ++ c.toNat :: runesN b
  | n, [], _ => by
    rw [List.nil_append, runesN_cons _ (by simp), pieceR_low c b hc]
    rfl
  | 0, x :: a, h => by simp at h
  | n + 1, x :: a, h => by
    have h0 : 0 < (x :: a).length := by simp
    have hr := pieceR_rng (x :: a) h0
    rw [runesN_cons ((x :: a) ++ c :: b) (by simp), pieceR_cut (x :: a) b c hc h0, runesN_cons (x :: a) h0, List.drop_append_of_le_length hr.2,
      runes_cut c hc b n _ (by simp only [List.length_drop]; simp only [List.length_cons] at h ⊢; omega)]
    rfl
theorem runes_at (c : UInt8) (hc : c.toNat < 128) (a b : List UInt8) : runesN (a ++ c :: b) = runesN a ++ c.toNat :: runesN b := runes_cut c hc b _ a (Nat.le_refl _)
/-- .. and back -/
theorem runes_back (c : Nat) (hc : c < 128) (l2 : List Nat) : ∀ (l1 : List Nat) (l : List UInt8), runesN l = l1 ++ c :: l2 → ∃ a b, l = a ++ UInt8.ofNat c :: b ∧ runesN a = l1 ∧ runesN b = l2
  | [], l, h => by
    have h0 : 0 < l.length := by
      rcases Nat.eq_zero_or_pos l.length with h' | h'
      · rw [List.eq_nil_of_length_eq_zero h', runesN_nil] at h; cases h
      · exact h'
    rw [runesN_cons l h0, List.nil_append] at h
    injection h with h1 h2
    have hr : (pieceR l).2.2 = true := by
      cases hp : (pieceR l).2.2 with
      | true => rfl
      | false =>
        have : (goodR l).2 = false := hp
        have e : (pieceR l).1 = 65533 := by simp [pieceR, this]
        rw [e] at h1
        simp at h1; omega
    obtain ⟨r, g1, g2, g3, g4, g5, g6⟩ := enc_right l h0 (right_of l hr)
    rw [g1, Int.toNat_natCast] at h1
    subst h1
    obtain ⟨k1, k2⟩ := g5 hc
    rw [k1] at h2
    cases l with
    | nil => simp at h0
    | cons x l =>
      refine ⟨[], l, ?_, rfl, by simpa using h2⟩
      have : x.toNat = r := by simpa [at0] using k2
      rw [← this, UInt8.ofNat_toNat]; rfl
  | x :: l1, l, h => by
    have h0 : 0 < l.length := by
      rcases Nat.eq_zero_or_pos l.length with h' | h'
      · rw [List.eq_nil_of_length_eq_zero h', runesN_nil] at h; cases h
      · exact h'
    have hrg := pieceR_rng l h0
    rw [runesN_cons l h0, List.cons_append] at h
    injection h with h1 h2
    obtain ⟨a, b, e, ha, hb⟩ := runes_back c hc l2 l1 _ h2
    have hc8 : (UInt8.ofNat c).toNat = c := UInt8.toNat_ofNat_of_lt' (Nat.lt_trans hc (by decide))
    have hl : l = (l.take (pieceR l).2.1 ++ a) ++ UInt8.ofNat c :: b := by
      rw [List.append_assoc, ← e, List.take_append_drop]
    refine ⟨l.take (pieceR l).2.1 ++ a, b, hl, ?_, hb⟩
    have hlen : (l.take (pieceR l).2.1).length = (pieceR l).2.1 := by simp; omega
    have hp : pieceR l = pieceR (l.take (pieceR l).2.1 ++ a) := by
      conv => lhs; rw [hl]
      exact pieceR_cut _ b _ (by omega) (by simp only [List.length_append]; omega)
    rw [runesN_cons _ (by simp only [List.length_append]; omega), ← hp, h1]
    have hd : (l.take (pieceR l).2.1 ++ a).drop (pieceR l).2.1 = a := by
      rw [List.drop_append_of_le_length (by omega), List.drop_eq_nil_of_le (by omega)]; rfl
    rw [hd, ha]
/-- ASCII runes -/
theorem runes_ascii : ∀ (l : List UInt8), (∀ c ∈ l, c.toNat < 128) → runesN l = l.map UInt8.toNat
  | [], _ => rfl
  | c :: l, h => by
    have := runes_at c (h c (by simp)) [] l
    rw [List.nil_append] at this
    rw [this, runes_ascii l fun x hx => h x (List.mem_cons_of_mem _ hx)]
    rfl
end Go.Proofs.YtkclldfejembnaaDoor

/-
  DERIVED: THE SHELF's CONTRACTS AT THIS DUMP, IN PLAIN WORDS (tools/lay-plain.mjs out of 'TrydShelf.lean', which tools/lay-shelf.mjs wrote): THE SAME DECLARATIONS UNDER THE SAME NAMES: 'import', 'namespace', 'open', 'def', 'theorem' AND NOTHING ELSE: no command of the shelf's: FOR A HAND-IN. Each laying: the table of numbers ('.._ren') and one theorem, a field a fact of the dump's own or the kernel's comparison; each contract: ONE APPLICATION.
-/
namespace Go.Proofs
open Go.Shelf
def Tryd.lays119_ren : Go.Shelf.Ren := ⟨fun | 119 => 30 | n => n, fun | 21 => 21 | 4 => 4 | n => n, fun | n => n⟩
def Tryd.lays157_ren : Go.Shelf.Ren := ⟨fun | 157 => 26 | 229 => 37 | 199 => 38 | 261 => 46 | 311 => 55 | 312 => 56 | n => n, fun | 9 => 9 | 31 => 56 | 3 => 3 | 5 => 5 | 4 => 4 | 119 => 70 | 0 => 0 | 40 => 46 | 152 => 78 | 21 => 21 | 154 => 80 | 51 => 81 | 141 => 83 | 196 => 91 | 193 => 88 | 198 => 94 | 49 => 92 | 194 => 89 | 201 => 97 | 226 => 99 | 46 => 74 | 227 => 100 | n => n, fun | 0 => 0 | 6 => 1 | n => n⟩
theorem Tryd.lays157 : Go.Proofs.Lays.n157 Tryd.prog Tryd.lays157_ren := {
  mixed := by kernel_rfl
  f157 := Tryd.func26.trans (congrArg some (by kernel_rfl))
  f199 := Tryd.func38.trans (congrArg some (by kernel_rfl))
  f229 := Tryd.func37.trans (congrArg some (by kernel_rfl))
  f261 := Tryd.func46.trans (congrArg some (by kernel_rfl))
  f311 := Tryd.func55.trans (congrArg some (by kernel_rfl))
  f312 := Tryd.func56.trans (congrArg some (by kernel_rfl))
  t0 := Tryd.underlying0
  a0 := Tryd.isAgg0
  z0 := Tryd.sizeOf0
  v0 := Tryd.zeroValue0
  t3 := Tryd.underlying3
  a3 := Tryd.isAgg3
  z3 := Tryd.sizeOf3
  v3 := Tryd.zeroValue3
  t4 := Tryd.underlying4
  a4 := Tryd.isAgg4
  z4 := Tryd.sizeOf4
  v4 := Tryd.zeroValue4
  t5 := Tryd.underlying5
  a5 := Tryd.isAgg5
  z5 := Tryd.sizeOf5
  v5 := Tryd.zeroValue5
  t9 := Tryd.underlying9
  a9 := Tryd.isAgg9
  z9 := Tryd.sizeOf9
  v9 := Tryd.zeroValue9
  t21 := Tryd.underlying21
  a21 := Tryd.isAgg21
  z21 := Tryd.sizeOf21
  v21 := Tryd.zeroValue21
  t31 := Tryd.underlying56
  a31 := Tryd.isAgg56
  z31 := Tryd.sizeOf56
  v31 := Tryd.zeroValue56
  t40 := Tryd.underlying46
  a40 := Tryd.isAgg46
  z40 := Tryd.sizeOf46
  v40 := Tryd.zeroValue46
  t46 := Tryd.underlying74
  a46 := Tryd.isAgg74
  z46 := Tryd.sizeOf74
  v46 := Tryd.zeroValue74
  t49 := Tryd.underlying92
  a49 := Tryd.isAgg92
  z49 := Tryd.sizeOf92
  v49 := Tryd.zeroValue92
  t51 := Tryd.underlying81
  a51 := Tryd.isAgg81
  z51 := Tryd.sizeOf81
  v51 := Tryd.zeroValue81
  t119 := Tryd.underlying70
  a119 := Tryd.isAgg70
  z119 := Tryd.sizeOf70
  t141 := Tryd.underlying83
  a141 := Tryd.isAgg83
  z141 := Tryd.sizeOf83
  v141 := Tryd.zeroValue83
  t152 := Tryd.underlying78
  a152 := Tryd.isAgg78
  z152 := Tryd.sizeOf78
  v152 := Tryd.zeroValue78
  t154 := Tryd.underlying80
  a154 := Tryd.isAgg80
  z154 := Tryd.sizeOf80
  v154 := Tryd.zeroValue80
  t193 := Tryd.underlying88
  a193 := Tryd.isAgg88
  z193 := Tryd.sizeOf88
  v193 := Tryd.zeroValue88
  t194 := Tryd.underlying89
  a194 := Tryd.isAgg89
  z194 := Tryd.sizeOf89
  v194 := Tryd.zeroValue89
  t196 := Tryd.underlying91
  a196 := Tryd.isAgg91
  z196 := Tryd.sizeOf91
  v196 := Tryd.zeroValue91
  t198 := Tryd.underlying94
  a198 := Tryd.isAgg94
  z198 := Tryd.sizeOf94
  v198 := Tryd.zeroValue94
  t201 := Tryd.underlying97
  a201 := Tryd.isAgg97
  z201 := Tryd.sizeOf97
  v201 := Tryd.zeroValue97
  t226 := Tryd.underlying99
  a226 := Tryd.isAgg99
  z226 := Tryd.sizeOf99
  v226 := Tryd.zeroValue99
  t227 := Tryd.underlying100
  a227 := Tryd.isAgg100
  z227 := Tryd.sizeOf100
  v227 := Tryd.zeroValue100
  g0 := by kernel_rfl
  g6 := by kernel_rfl }
open Go.RowKit Go.Lib in
/-- strings.Fields, the table by 'Lib.TabIs' (as strings.TrimSpace's contract). 'hg': the table's number, by its name: at a dump 'by kernel_rfl'. (LAID: no walk: one application.) -/
theorem Tryd.strings_Fields (s : ByteArray) (w : World) (hs : s.size < 4294967281) (hascii : ∀ (j : Nat) b, s.data.toList[j]? = some b → b.toNat < 128) (htab : Lib.TabIs Tryd.prog w "strings.asciiSpace" .u8 Lib.asciiSpaceTab) :
    Calls Tryd.prog 26 #[.string s] w fun e w' =>
      e = .returned (.slice (some ⟨w.heap.size, 0, none⟩) (Lib.fields s.data.toList).length (Lib.fields s.data.toList).length) ∧ w' = w.alloc (.cells ((Lib.fields s.data.toList).map fun l => Value.string ⟨l.toArray⟩).toArray 9) := Any.strings_Fields Tryd.lays157 (by kernel_rfl) (by kernel_rfl) s w hs hascii htab
def Tryd.laysM157_ren : Go.Shelf.Ren := ⟨fun | 157 => 26 | 229 => 37 | 199 => 38 | 261 => 46 | 311 => 55 | 312 => 56 | n => n, fun | 9 => 9 | 31 => 56 | 3 => 3 | 5 => 5 | 4 => 4 | 119 => 70 | 0 => 0 | 40 => 46 | 152 => 78 | 21 => 21 | 154 => 80 | 51 => 81 | 141 => 83 | 196 => 91 | 193 => 88 | 198 => 94 | 49 => 92 | 194 => 89 | 201 => 97 | 226 => 99 | 46 => 74 | 227 => 100 | n => n, fun | 0 => 0 | 6 => 1 | n => n⟩
def Tryd.lays199_ren : Go.Shelf.Ren := ⟨fun | 199 => 38 | 261 => 46 | 311 => 55 | 312 => 56 | n => n, fun | 21 => 21 | 4 => 4 | 51 => 81 | 141 => 83 | 0 => 0 | 196 => 91 | 193 => 88 | 3 => 3 | 198 => 94 | 49 => 92 | 194 => 89 | 201 => 97 | 226 => 99 | 46 => 74 | 227 => 100 | n => n, fun | 6 => 1 | n => n⟩
def Tryd.lays311_ren : Go.Shelf.Ren := ⟨fun | 311 => 55 | n => n, fun | 193 => 88 | 49 => 92 | 4 => 4 | 3 => 3 | 0 => 0 | 226 => 99 | 198 => 94 | 46 => 74 | n => n, fun | n => n⟩
def Tryd.lays261_ren : Go.Shelf.Ren := ⟨fun | 261 => 46 | 311 => 55 | 312 => 56 | n => n, fun | 141 => 83 | 21 => 21 | 4 => 4 | 0 => 0 | 196 => 91 | 193 => 88 | 3 => 3 | 51 => 81 | 198 => 94 | 49 => 92 | 194 => 89 | 201 => 97 | 226 => 99 | 46 => 74 | 227 => 100 | n => n, fun | n => n⟩
def Tryd.lays312_ren : Go.Shelf.Ren := ⟨fun | 312 => 56 | n => n, fun | 194 => 89 | 51 => 81 | 4 => 4 | 3 => 3 | 0 => 0 | 227 => 100 | 201 => 97 | 46 => 74 | n => n, fun | n => n⟩
end Go.Proofs

/-
  Package token: quoted texts; the kinds' words.
-/
set_option linter.unusedSimpArgs false
set_option linter.unusedVariables false
set_option linter.unnecessarySimpa false
namespace Go.Proofs.YtkclldfejembnaaDoor
open Go Go.Sv Go.RowKit







/-- a byte in a quoted text -/
def esc (c : UInt8) : List UInt8 := if c = 10 then [92, 110] else if c = 9 then [92, 116] else if c = 34 then [92, 34] else if c = 92 then [92, 92] else [c]
def quoteR (l : List UInt8) : List UInt8 := 34 :: l.flatMap esc ++ [34]
def escP (r : Nat) : List UInt8 := if r = 10 then [92, 110] else if r = 9 then [92, 116] else if r = 34 ∨ r = 92 then 92 :: encR r else encR r
end Go.Proofs.YtkclldfejembnaaDoor

/-
  Packages names and sieveref04: classes of bytes, small letters. Blocks of bytes that []byte(s) made.
-/
set_option linter.unusedSimpArgs false
set_option linter.unusedVariables false
set_option linter.unnecessarySimpa false
namespace Go.Sv
open Go Go.RowKit
/-- a block that holds the bytes s and may be written there -/
def OwnB (w : World) (b : Nat) (s : List UInt8) : Prop := ∃ C ty lo hi, w.heap[b]? = some (.cells C ty (lo, hi)) ∧ C.toList.take s.length = bs s ∧ s.length ≤ lo
section
variable {P : Program} {w w' : World} {b i : Nat} {s : List UInt8}
theorem OwnB.lt (h : OwnB w b s) : b < w.heap.size := by
  obtain ⟨C, ty, lo, hi, h, _⟩ := h
  exact (Array.getElem?_eq_some_iff.1 h).1
theorem OwnB.le {M : List Nat} (h : OwnB w b s) (hl : Le M w w') (hb : b ∉ M) : OwnB w' b s := by
  have := h.lt
  obtain ⟨C, ty, lo, hi, h, h2⟩ := h
  exact ⟨C, ty, lo, hi, by rw [hl.block b this hb]; exact h, h2⟩
theorem OwnB.frm (h : OwnB w b s) (hl : Frm w w') : OwnB w' b s := h.le (M := []) hl.le (by simp)
theorem OwnB.sg (h : OwnB w b s) : Sg w (pb b) (bs s) := by
  obtain ⟨C, ty, lo, hi, h, h2, _⟩ := h
  refine .inr ⟨_, rfl, fun i hi' => ?_⟩
  have e : (⟨b, 0, none⟩ : Addr).add i = ⟨b, i, none⟩ := by unfold Addr.add; split <;> simp_all
  rw [e, cell_of_row w b i C ty _ h, ← h2]
  rw [List.getElem?_take_of_lt (by simpa using hi')]
  simp
theorem OwnB.im {M : List Nat} (h : OwnB w b s) (hb : b ∉ M) : Im M w (pb b) (bs s) := by
  rcases h.sg with hh | ⟨a, ha, h1⟩
  · exact .inl hh
  · obtain rfl := Option.some.inj ha
    exact .inr ⟨_, rfl, h1, h.lt, hb⟩
theorem bs_set (s : List UInt8) (i : Nat) (x : UInt8) : bs (s.set i x) = (bs s).set i (byt x.toNat) := by simp [bs, List.map_set]
end
section
variable {P : Program} {n : Nat} {ds : Ctx} {ops : Array Oper} {Q : Exit → Ctx → Env → World → Prop} {rest : List Oper} {σ : GE} {w : World} {d : Nat} {ty t t' e : TypeId} {pos : String} {af : Array Edge} {x y : Operand} {zv : Value} {size bytes : Nat} {b i : Nat} {s : List UInt8}
/-- []byte(s), to be written -/
theorem wls2bo [hu : Und P t .string] [hu' : Und P t' (.slice e)] [he : Und P e (.int .u8)] (hx : evl (real σ) x = str s) (hs : s.length ≤ 9223372036854775807)
    (h : ∀ b c w', w.heap.size ≤ b → s.length ≤ c → c ≤ 9223372036854775807 → OwnB w' b s → Frm w w' → WL P n ds ops Q rest (real (updG σ d ⟨.slice (pb b) s.length c, true⟩)) w') :
    WL P n ds ops Q (⟨some d, .convert t t' x, ty, pos, af, none⟩ :: rest) (real σ) w := by
  let c := grownCap w s.length 0 e
  let C : Array Value := (s.toArray.map fun b => Value.int .u8 b.toNat) ++ Array.replicate (c - s.length) (.int .u8 0)
  have hge : s.length ≤ c := grownCap_ge w s.length 0 e
  have hcm : c ≤ maxLen := grownCap_le_maxLen w s.length 0 e (by unfold maxLen; omega)
  have hsz : C.size = c := by simp [C]; omega
  have hheap : (w.drew.alloc (.cells C e)).heap[w.heap.size]? = some (.cells C e) := heap_alloc_new w.drew _
  let w' := (w.drew.alloc (.cells C e)).freeze ⟨w.heap.size, C.size, none⟩ 1
  have hw' : w'.heap[w.heap.size]? = some (.cells C e (C.size, C.size + 1)) := by
    simp only [w', World.freeze, Nat.one_ne_zero, if_false, Array.getElem?_modify, if_true]
    rw [hheap]; simp
  have hother : ∀ k, k < w.heap.size → w'.heap[k]? = w.heap[k]? := by
    intro k hk
    simp only [w', World.freeze, Nat.one_ne_zero, if_false, Array.getElem?_modify]
    rw [if_neg (by omega)]
    exact Below.heap_alloc w.drew _ k hk
  refine wl (h w.heap.size c w' (Nat.le_refl _) hge (by unfold maxLen at hcm; omega) ?_ ?_) (Y.val ?_)
  · refine ⟨C, e, _, _, hw', ?_, by omega⟩
    have hl : s.length = (s.map fun b => Value.int .u8 b.toNat).length := by simp
    simp only [C, Array.toList_append, Array.toList_map]
    rw [hl, List.take_left' rfl]
    rfl
  · exact ⟨rfl, rfl, rfl, by simp [w', World.freeze], hother⟩
  · have e1 : (ByteArray.mk s.toArray).data = s.toArray := rfl
    simp only [execOp, hx, convert, underlying, Sem.run_bind, run_program, Result.andThen_ok, hu.ok, hu'.ok, he.ok, Sem.run_pure, Conv.stringToBytes, run_choose, Question.forced, size_str, newRow, run_newObj, markStringish, run_shape]
    have hshape : (w.drew.alloc (.cells C e)).shape? w.heap.size = some (e, C.size) := by simp only [World.shape?, hheap]
    have hr : (w.drew.heap.size) = w.heap.size := rfl
    simp only [Bool.false_eq_true, if_false, Result.andThen_ok, World.alloc_eq, e1]
    change (((Sem.run P (match (w.drew.alloc (.cells C e)).shape? w.heap.size with | some (_, n) => freeze { block := w.heap.size, off := n } 1 | _ => pure ()) (w.drew.alloc (.cells C e))).andThen _).andThen _) = _
    rw [hshape]
    simp only [run_freeze, Result.andThen_ok, Sem.run_pure]
    rfl
/-- a byte stored there -/
theorem wlstoreb [hi : Inf P t zv 1 bytes] {v : Nat} (hx : evl (real σ) x = ptrAt (pb b) i) (hy : evl (real σ) y = byt v) (ho : OwnB w b s) (hk : i < s.length) (hv : v < 256)
    (h : ∀ w', OwnB w' b (s.set i (UInt8.ofNat v)) → Le [b] w w' → WL P n ds ops Q rest (real σ) w') :
    WL P n ds ops Q (⟨none, .store t x y, ty, pos, af, none⟩ :: rest) (real σ) w := by
  obtain ⟨C, tt, lo, hi', ho, h2, h3⟩ := ho
  have e : (⟨b, 0, none⟩ : Addr).add i = ⟨b, i, none⟩ := by unfold Addr.add; split <;> simp_all
  have hlen : s.length ≤ C.size := by
    have := congrArg List.length h2
    simp [bs] at this; omega
  have hcell : w.cell? ⟨b, i, none⟩ = some C[i] := by simp [World.cell?, ho, show i < C.size from by omega]
  have hfro : w.frozen? ⟨b, i, none⟩ = false := by
    simp only [World.frozen?, ho, Bool.and_eq_false_iff, decide_eq_false_iff_not]
    left; omega
  have hst : (store (⟨b, i, none⟩ : Addr) (byt v)).run P w = .ok () (w.setRow b (C.setIfInBounds i (byt v))) := by
    rw [run_store P w _ (byt v) _ rfl, hcell]
    simp [hfro, setCell_eq_setRow w b i C tt _ (byt v) ho]
  refine wl0 (h (w.setRow b (C.setIfInBounds i (byt v))) ⟨_, tt, lo, hi', setRow_heap w b C _ tt _ ho, ?_, by simpa using h3⟩ (le_setRow w b _)) (Y.skip ?_)
  · rw [Array.toList_setIfInBounds, List.length_set, List.take_set, h2, bs_set]
    congr 2
    rw [UInt8.toNat_ofNat_of_lt' (by simpa using hv)]
  · simp only [execOp, hx, hy, Instr.storeAt, show ptrAt (pb b) i = .pointer (some ⟨b, i, none⟩) from by simp [e], Instr.sureAddr, Sem.run_bind, Sem.run_pure, Result.andThen_ok, storeVar, run_sizeOf (P := P) (t := t)]
    have e0 : (⟨b, i, none⟩ : Addr).add 0 = ⟨b, i, none⟩ := by unfold Addr.add; simp
    simp [storeCells, Value.cells, Sem.run_bind, e0, hst]
end
end Go.Sv
namespace Go.Proofs.YtkclldfejembnaaDoor
open Go Go.Sv Go.RowKit

def upperR (c : Nat) : Bool := decide (65 ≤ c) && decide (c ≤ 90)
def letterR (c : Nat) : Bool := upperR c || (decide (97 ≤ c) && decide (c ≤ 122))
def digitR (c : Nat) : Bool := decide (48 ≤ c) && decide (c ≤ 57)
def valueR (c : Nat) : Int := if digitR c then (c : Int) - 48 else if 97 ≤ c ∧ c ≤ 102 then (c : Int) - 97 + 10 else if 65 ≤ c ∧ c ≤ 70 then (c : Int) - 65 + 10 else -1
def hexR (c : Nat) : Bool := decide (0 ≤ valueR c)
def lowN (c : Nat) : Nat := if upperR c then c + 32 else c
def lowR (l : List UInt8) : List UInt8 := l.map fun c => UInt8.ofNat (lowN c.toNat)

theorem upper_ok (c : Nat) (w : World) : PureC Tryd.prog 57 #[i32 c] w (.bool (upperR c)) := by
  refine enter (l := [i32 c]) Tryd.func57 rfl Tryd.ntmps57 (by kernel_rfl) rfl ?_
  refine sgo ?_
  (first | refine fp1 (.inl rfl) rfl rfl ?_ | refine fp2 (.inl rfl) rfl rfl rfl ?_ | refine fp3 (.inl rfl) rfl rfl rfl rfl ?_ | refine fp0 (.inr rfl) rfl ?_ | refine fp0 (.inl rfl) rfl ?_ | refine fp1 (.inr rfl) rfl rfl ?_); refine ⟨?_, by (first | exact Frm.refl _ | assumption | exact Go.Sv.Sep.frm (by assumption) | (refine Frm.trans ?_ (by assumption); first | exact Frm.refl _ | assumption))⟩; (try simp only [realB, rv_true, Nat.reduceBEq, cond_true, cond_false, entG, real_lif, updGL])
  refine congrArg Value.bool ?_
  unfold upperR
  rw [Bool.eq_iff_iff]
  simp only [pkb_or, pkb_and, Bool.or_eq_true, Bool.and_eq_true, decide_eq_true_eq]
  omega










































































































































theorem at_lt (l : List UInt8) (i : Nat) : at0 l i < 256 := by simp only [at0]; exact UInt8.toNat_lt _
/-- the first i bytes are small -/
def lowTo (l : List UInt8) (i : Nat) : List UInt8 := lowR (l.take i) ++ l.drop i
theorem lowTo_len (l : List UInt8) (i : Nat) : (lowTo l i).length = l.length := by simp [lowTo, lowR]; omega
theorem lowTo_zero (l : List UInt8) : lowTo l 0 = l := by simp [lowTo, lowR]
theorem lowTo_all (l : List UInt8) : lowTo l l.length = lowR l := by simp [lowTo]
theorem lowTo_at (l : List UInt8) (i : Nat) : at0 (lowTo l i) i = at0 l i := by
  simp only [at0, lowTo]
  rw [List.getElem?_append]
  by_cases h : i < l.length
  · simp [lowR, Nat.min_eq_left (Nat.le_of_lt h)]
  · rw [if_neg (by simp [lowR]; omega), List.getElem?_eq_none (by simp; omega), List.getElem?_eq_none (by omega)]
theorem lowTo_succ (l : List UInt8) (i : Nat) (h : i < l.length) : lowTo l (i + 1) = (lowTo l i).set i (UInt8.ofNat (lowN (at0 l i))) := by
  have e : at0 l i = l[i].toNat := by simp [at0, h]
  simp only [lowTo, e]
  rw [List.set_append_right _ _ (by simp [lowR]; omega)]
  simp only [lowR, List.length_map, List.length_take, Nat.min_eq_left (Nat.le_of_lt h), Nat.sub_self]
  rw [List.drop_eq_getElem_cons h, List.set_cons_zero, List.take_succ_eq_append_getElem h, List.map_append]
  simp only [List.map_cons, List.map_nil, List.append_assoc, List.cons_append, List.nil_append]
theorem lowTo_keep (l : List UInt8) (i : Nat) (h : i < l.length) (hu : upperR (at0 l i) = false) : lowTo l (i + 1) = lowTo l i := by
  rw [lowTo_succ l i h, lowN, hu, ← lowTo_at l i]
  have hl : i < (lowTo l i).length := by rw [lowTo_len]; exact h
  have : UInt8.ofNat (at0 (lowTo l i) i) = (lowTo l i)[i] := by simp [at0, hl]
  simp only [Bool.false_eq_true, if_false]
  rw [this, List.set_getElem_self]
set_option maxHeartbeats 1000000 in
theorem lower_ok (l : List UInt8) (hb : l.length ≤ 4611686018427387904) (w : World) : PureC Tryd.prog 11 #[str l] w (str (lowR l)) := by
  refine enter (l := [str l]) Tryd.func11 rfl Tryd.ntmps11 (by kernel_rfl) rfl ?_
  refine sgo ?_
  refine wls2bo rfl (by omega) fun b c w1 hb1 hc1 hc2 ho hf1 => ?_
  refine sgo ?_
  refine wcloop (X := Nat) (fun x => [(3, .slice (pb b) l.length c), (8, .slice (pb b) l.length c), (9, int l.length), (10, int x)])
    (fun x wr => x ≤ l.length ∧ OwnB wr b (lowTo l x) ∧ Frm w wr) (fun x => l.length - x) 0 ⟨rfl, rfl, rfl, rfl, trivial⟩ ⟨by omega, by rw [lowTo_zero]; exact ho, hf1⟩ ?_
  rintro i wr ρ ⟨hi, ho, hfr⟩
  refine sgo ?_
  (show WC _ _ _ _ _ _ _; first | refine WC_dec rfl (fun hc => ?_) (fun hc => ?_) | refine WC_cond rfl (fun hc => ?_) (fun hc => ?_))
  · have hil : i < l.length := by omega
    have hll := lowTo_len l i
    have hld : (bs (lowTo l i))[i]? = some (byt (at0 l i)) := by
      rw [bs_get (by omega)]
      exact congrArg (fun n : Nat => some (byt n)) (lowTo_at l i)
    have h256 := at_lt l i
    refine sgo ?_
    refine wl ?_ (y_load (i := i) rfl ho.sg hld)
    have hup := lowTo_succ l i hil
    have hkp := lowTo_keep l i hil
    generalize at0 l i = a at *
    refine sgo ?_
    (show WC _ _ _ _ _ _ _; first | refine WC_dec rfl (fun hc => ?_) (fun hc => ?_) | refine WC_cond rfl (fun hc => ?_) (fun hc => ?_))
    · simp only [pkb_and, Bool.and_eq_true, decide_eq_true_eq] at hc
      have h65 : 65 ≤ a ∧ a ≤ 90 := by omega
      rw [lowN, show upperR a = true from by simp [upperR, h65], if_pos rfl] at hup
      refine sgo ?_
      have e : ((a : Int) + 97 - 65) = ((a + 32 : Nat) : Int) := by omega
      refine wlstoreb (v := a + 32) rfl (congrArg byt e) ho (by omega) (by omega) fun w2 ho2 hl2 => ?_
      have hfr2 := hfr.step hl2 (by intro x hx; simp only [List.mem_singleton] at hx; subst hx; exact hb1)
      refine sgo ?_
      exact ⟨i + 1, ⟨rfl, rfl, rfl, rfl, trivial⟩, ⟨by omega, by rw [hup]; exact ho2, hfr2⟩, by omega⟩
    · simp only [pkb_and, Bool.and_eq_false_iff, decide_eq_false_iff_not] at hc
      have h65 : ¬ (65 ≤ a ∧ a ≤ 90) := by omega
      replace hkp := hkp (by simp only [upperR, ← Bool.decide_and]; exact decide_eq_false h65)
      refine sgo ?_
      exact ⟨i + 1, ⟨rfl, rfl, rfl, rfl, trivial⟩, ⟨by omega, by rw [hkp]; exact ho, hfr⟩, by omega⟩
  · obtain rfl : i = l.length := by omega
    have hll := lowTo_len l l.length
    rw [lowTo_all] at ho hll
    refine sgo ?_
    refine wl ?_ (y_b2s (s := lowR l) (by rw [hll]; rfl) ho.sg)
    refine sgo ?_
    (first | refine fp1 (.inl rfl) rfl rfl ?_ | refine fp2 (.inl rfl) rfl rfl rfl ?_ | refine fp3 (.inl rfl) rfl rfl rfl rfl ?_ | refine fp0 (.inr rfl) rfl ?_ | refine fp0 (.inl rfl) rfl ?_ | refine fp1 (.inr rfl) rfl rfl ?_); refine ⟨?_, by (first | exact Frm.refl _ | assumption | exact Go.Sv.Sep.frm (by assumption) | (refine Frm.trans ?_ (by assumption); first | exact Frm.refl _ | assumption))⟩; (try simp only [realB, rv_true, Nat.reduceBEq, cond_true, cond_false, entG, real_lif, updGL])
end Go.Proofs.YtkclldfejembnaaDoor

/-
  Package raw, in plain terms: what a scanner is, and what it makes of runes.
-/
set_option linter.unusedSimpArgs false
set_option linter.unusedVariables false
set_option linter.unnecessarySimpa false
namespace Go.Proofs.YtkclldfejembnaaDoor
open Go Go.Sv Go.RowKit

structure Sc where
  sure : List Nat
  held : List Nat
  tail : List Nat
  part : Nat
  dash : Nat
  last : Nat
  over : Bool
  ended : Bool
def sc0 : Sc := ⟨[], [], [], 0, 0, 0, false, false⟩
def gapN (r : Nat) : Bool := decide (r = 9) || (decide (r = 10) || (decide (r = 12) || decide (r = 32)))
def stopN (r : Nat) : Bool := gapN r || (decide (r = 47) || decide (r = 62))
theorem stopN_lt {r : Nat} (h : stopN r = true) : r < 128 := by
  simp only [stopN, gapN, Bool.or_eq_true, decide_eq_true_eq] at h
  omega
/-- <script, </script -/
def wScr : List UInt8 := [60, 115, 99, 114, 105, 112, 116]
def wScrEnd : List UInt8 := [60, 47, 115, 99, 114, 105, 112, 116]
def begN : List Nat := [60, 33, 45, 45]
def turnP (part : Nat) (tail : List Nat) (r : Nat) : Nat :=
  if stopN r = true then (if part = 1 ∧ lowR (tail.flatMap encR) = wScr then 2 else if part = 2 ∧ lowR (tail.flatMap encR) = wScrEnd then 1 else part) else part
def turnT (tail : List Nat) (r : Nat) : List Nat := if r = 60 then [60] else if 0 < tail.length ∧ tail.length < 9 then tail ++ [r] else tail
def opensD (dash r : Nat) : Nat := if begN.getD dash 0 = r then dash + 1 else if r = 60 then 1 else 0
def opensP (dash r : Nat) : Nat × Nat := if opensD dash r = 4 then (1, 2) else (0, opensD dash r)
def partD (part dash r : Nat) : Nat × Nat := if part = 0 then opensP dash r else if r = 45 then (part, dash + 1) else if r = 62 ∧ 2 ≤ dash then (0, 0) else (part, 0)
def contR (wh : Nat) (s : Sc) (r : Nat) : Sc :=
  if wh = 3 then { s with sure := s.sure ++ [r], tail := turnT s.tail r, part := (partD (turnP s.part s.tail r) s.dash r).1, dash := (partD (turnP s.part s.tail r) s.dash r).2 }
  else { s with sure := s.sure ++ [r] }
def goesR (name : List UInt8) (s : Sc) (r : Nat) : Bool := decide (s.held.length < name.length + 2) && decide (lowN r = at0 ([60, 47] ++ name) s.held.length)
/-- nothing is held -/
def firstS (wh : Nat) (s : Sc) (r : Nat) : Sc := if r = 60 ∧ wh ≠ 4 ∧ s.part ≠ 2 then { s with held := [r] } else contR wh s r
def putR (name : List UInt8) (wh : Nat) (s : Sc) (r : Nat) : Sc :=
  if s.held = [] then firstS wh s r
  else if goesR name s r = true then { s with held := s.held ++ [r] }
  else if s.held.length = name.length + 2 ∧ stopN r = true then { s with held := [], last := r, over := true, ended := true }
  else firstS wh (s.held.foldl (contR wh) { s with held := [] }) r
def scanR (name : List UInt8) (wh : Nat) (s : Sc) (rs : List Nat) : Sc := rs.foldl (fun s r => if s.over = true then s else putR name wh s r) s

/-! ## What stays -/
theorem cont_sure (wh : Nat) (s : Sc) (r : Nat) : (contR wh s r).sure = s.sure ++ [r] := by unfold contR; split <;> rfl
theorem cont_held (wh : Nat) (s : Sc) (r : Nat) : (contR wh s r).held = s.held := by unfold contR; split <;> rfl
theorem cont_over (wh : Nat) (s : Sc) (r : Nat) : (contR wh s r).over = s.over := by unfold contR; split <;> rfl
theorem cont_ended (wh : Nat) (s : Sc) (r : Nat) : (contR wh s r).ended = s.ended := by unfold contR; split <;> rfl
theorem cont_last (wh : Nat) (s : Sc) (r : Nat) : (contR wh s r).last = s.last := by unfold contR; split <;> rfl
theorem conts_keep (wh : Nat) : ∀ (l : List Nat) (s : Sc), (l.foldl (contR wh) s).sure = s.sure ++ l ∧ (l.foldl (contR wh) s).held = s.held ∧ (l.foldl (contR wh) s).over = s.over ∧ (l.foldl (contR wh) s).ended = s.ended ∧ (l.foldl (contR wh) s).last = s.last
  | [], s => ⟨(List.append_nil _).symm, rfl, rfl, rfl, rfl⟩
  | r :: l, s => by
    obtain ⟨h1, h2, h3, h4, h5⟩ := conts_keep wh l (contR wh s r)
    simp only [List.foldl_cons]
    rw [h1, h2, h3, h4, h5, cont_sure, cont_held, cont_over, cont_ended, cont_last, List.append_assoc]
    exact ⟨rfl, rfl, rfl, rfl, rfl⟩
theorem first_keep (wh : Nat) (s : Sc) (r : Nat) (h : s.held = []) : (firstS wh s r).sure ++ (firstS wh s r).held = s.sure ++ [r] ∧ (firstS wh s r).over = s.over ∧ (firstS wh s r).held.length ≤ 1 := by
  unfold firstS
  split
  · exact ⟨rfl, rfl, Nat.le_refl 1⟩
  · rw [cont_sure, cont_held, cont_over, h]
    exact ⟨by simp, rfl, Nat.zero_le _⟩
/-- what a rune does: it is content or held, or it ends all -/
theorem put_keep (name : List UInt8) (wh : Nat) (s : Sc) (r : Nat) (ho : s.over = false) :
    ((putR name wh s r).over = false ∧ (putR name wh s r).sure ++ (putR name wh s r).held = s.sure ++ s.held ++ [r] ∧ (s.held.length ≤ name.length + 2 → (putR name wh s r).held.length ≤ name.length + 2)) ∨
    (putR name wh s r = { s with held := [], last := r, over := true, ended := true } ∧ s.held ≠ [] ∧ s.held.length = name.length + 2 ∧ stopN r = true ∧ goesR name s r = false) := by
  unfold putR
  by_cases h1 : s.held = []
  · rw [if_pos h1]
    obtain ⟨k1, k2, k3⟩ := first_keep wh s r h1
    left
    refine ⟨by rw [k2, ho], by rw [k1, h1, List.append_nil], fun _ => by omega⟩
  · rw [if_neg h1]
    cases h2 : goesR name s r with
    | true =>
      rw [if_pos rfl]
      left
      refine ⟨ho, by rw [List.append_assoc], fun _ => ?_⟩
      simp only [goesR, Bool.and_eq_true, decide_eq_true_eq] at h2
      simp only [List.length_append, List.length_singleton]
      omega
    | false =>
      rw [if_neg (by simp)]
      by_cases h3 : s.held.length = name.length + 2 ∧ stopN r = true
      · rw [if_pos h3]
        exact .inr ⟨rfl, h1, h3.1, h3.2, rfl⟩
      · rw [if_neg h3]
        obtain ⟨c1, c2, c3, c4, c5⟩ := conts_keep wh s.held { s with held := [] }
        obtain ⟨k1, k2, k3⟩ := first_keep wh _ r c2
        left
        refine ⟨by rw [k2, c3]; exact ho, by rw [k1, c1], fun _ => by omega⟩
theorem scan_nil (name : List UInt8) (wh : Nat) (s : Sc) : scanR name wh s [] = s := rfl
theorem scan_over {name : List UInt8} {wh : Nat} {s : Sc} (h : s.over = true) : ∀ l, scanR name wh s l = s
  | [] => rfl
  | r :: l => by
    unfold scanR
    rw [List.foldl_cons, if_pos h]
    exact scan_over h l
theorem scan_app (name : List UInt8) (wh : Nat) (s : Sc) (l m : List Nat) : scanR name wh s (l ++ m) = scanR name wh (scanR name wh s l) m := by unfold scanR; rw [List.foldl_append]
theorem scan_cons {name : List UInt8} {wh : Nat} {s : Sc} (h : s.over = false) (r : Nat) (l : List Nat) : scanR name wh s (r :: l) = scanR name wh (putR name wh s r) l := by
  unfold scanR
  rw [List.foldl_cons, if_neg (by simp [h])]
theorem scan_snoc {name : List UInt8} {wh : Nat} {s : Sc} {l : List Nat} (h : (scanR name wh s l).over = false) (r : Nat) : scanR name wh s (l ++ [r]) = putR name wh (scanR name wh s l) r := by
  rw [scan_app, scan_cons h]; rfl
theorem scan_pre {name : List UInt8} {wh : Nat} {s : Sc} {l m : List Nat} (h : (scanR name wh s (l ++ m)).over = false) : (scanR name wh s l).over = false := by
  cases hs : (scanR name wh s l).over with
  | false => rfl
  | true => rw [scan_app, scan_over hs, hs] at h; cases h
theorem scan_keep (name : List UInt8) (wh : Nat) : ∀ (l : List Nat) (s : Sc), (scanR name wh s l).over = false →
    (scanR name wh s l).sure ++ (scanR name wh s l).held = s.sure ++ s.held ++ l ∧ (s.held.length ≤ name.length + 2 → (scanR name wh s l).held.length ≤ name.length + 2)
  | [], s, _ => ⟨by simp [scan_nil], fun h => h⟩
  | r :: l, s, h => by
    have ho : s.over = false := by
      cases hs : s.over with
      | false => rfl
      | true => rw [scan_over hs, hs] at h; cases h
    rw [scan_cons ho] at h ⊢
    obtain ⟨h1, h2⟩ := scan_keep name wh l _ h
    rcases put_keep name wh s r ho with ⟨k1, k2, k3⟩ | ⟨k1, _⟩
    · rw [h1, k2, List.append_assoc, List.singleton_append]
      exact ⟨rfl, fun hh => h2 (k3 hh)⟩
    · rw [k1] at h
      rw [scan_over rfl] at h
      cases h

/-! ## A whole text -/
def wholeF (name : List UInt8) (wh : Nat) : Nat → Nat → Sc → List UInt8 → Sc × Nat
  | 0, a, s, _ => (s, a)
  | f + 1, a, s, l => if l = [] then (s, a) else if (putR name wh s (pieceR l).1.toNat).over = true then (putR name wh s (pieceR l).1.toNat, a + 1) else wholeF name wh f (a + (pieceR l).2.1) (putR name wh s (pieceR l).1.toNat) (l.drop (pieceR l).2.1)
theorem wholeF_cons {name : List UInt8} {wh f a : Nat} {s : Sc} {l : List UInt8} (h0 : 0 < l.length) (hf : l.length ≤ f) : wholeF name wh f a s l =
    if (putR name wh s (pieceR l).1.toNat).over = true then (putR name wh s (pieceR l).1.toNat, a + 1) else wholeF name wh (f - (pieceR l).2.1) (a + (pieceR l).2.1) (putR name wh s (pieceR l).1.toNat) (l.drop (pieceR l).2.1) := by
  have more : ∀ (f f' a : Nat) (s : Sc) (l : List UInt8), l.length ≤ f → l.length ≤ f' → wholeF name wh f a s l = wholeF name wh f' a s l := by
    intro f
    induction f with
    | zero =>
      intro f' a s l h h'
      have : l = [] := List.eq_nil_of_length_eq_zero (by omega)
      subst this
      cases f' <;> simp [wholeF]
    | succ f ih =>
      intro f' a s l h h'
      cases f' with
      | zero =>
        have : l = [] := List.eq_nil_of_length_eq_zero (by omega)
        subst this
        simp [wholeF]
      | succ f' =>
        simp only [wholeF]
        by_cases hl : l = []
        · rw [if_pos hl, if_pos hl]
        · have := pieceR_rng l (List.length_pos_iff.2 hl)
          rw [if_neg hl, if_neg hl, ih f' _ _ _ (by simp; omega) (by simp; omega)]
  have hr := pieceR_rng l h0
  obtain ⟨f, rfl⟩ : ∃ g, f = g + 1 := ⟨f - 1, by omega⟩
  rw [wholeF, if_neg (List.length_pos_iff.1 h0)]
  split
  · rfl
  · exact more _ _ _ _ _ (by simp; omega) (by simp; omega)
theorem whole_yes {name : List UInt8} {wh : Nat} {c : UInt8} {b : List UInt8} (hc : c.toNat < 128) : ∀ (n : Nat) (a : List UInt8) (k f : Nat) (s : Sc), a.length ≤ n → (a ++ c :: b).length ≤ f → s.over = false → (scanR name wh s (runesN a)).over = false → (putR name wh (scanR name wh s (runesN a)) c.toNat).over = true →
    wholeF name wh f k s (a ++ c :: b) = (putR name wh (scanR name wh s (runesN a)) c.toNat, k + a.length + 1)
  | n, [], k, f, s, _, hf, ho, h1, h2 => by
    rw [List.nil_append] at hf ⊢
    rw [wholeF_cons (by simp) hf, pieceR_low c b hc]
    rw [runesN_nil, scan_nil] at h2 ⊢
    rw [Int.toNat_natCast, if_pos h2]
    rfl
  | 0, x :: a, k, f, s, h, _, _, _, _ => by simp at h
  | n + 1, x :: a, k, f, s, h, hf, ho, h1, h2 => by
    have h0 : 0 < (x :: a).length := by simp
    have hr := pieceR_rng (x :: a) h0
    have hcons := runesN_cons (x :: a) h0
    rw [hcons, scan_cons ho] at h1 h2 ⊢
    have hno : (putR name wh s (pieceR (x :: a)).1.toNat).over = false := scan_pre (l := []) (m := runesN ((x :: a).drop (pieceR (x :: a)).2.1)) h1
    rw [wholeF_cons (by simp) hf, pieceR_cut (x :: a) b c hc h0, if_neg (by simp [hno]), List.drop_append_of_le_length hr.2]
    rw [whole_yes hc n _ _ _ _ (by simp only [List.length_drop]; omega) (by simp only [List.length_append, List.length_drop, List.length_cons] at hf hr ⊢; omega) hno h1 h2]
    congr 1
    simp only [List.length_drop]
    omega
theorem whole_cases {name : List UInt8} {wh : Nat} : ∀ (n : Nat) (l : List UInt8) (k f : Nat) (s : Sc), l.length ≤ n → l.length ≤ f → s.over = false →
    (∃ a c b, l = a ++ c :: b ∧ stopN c.toNat = true ∧ (scanR name wh s (runesN a)).over = false ∧ (putR name wh (scanR name wh s (runesN a)) c.toNat).over = true ∧ wholeF name wh f k s l = (putR name wh (scanR name wh s (runesN a)) c.toNat, k + a.length + 1)) ∨
    ((scanR name wh s (runesN l)).over = false ∧ wholeF name wh f k s l = (scanR name wh s (runesN l), k + l.length))
  | n, [], k, f, s, _, _, ho => .inr ⟨ho, by cases f <;> simp [wholeF, runesN_nil, scan_nil]⟩
  | 0, x :: l, k, f, s, h, _, _ => by simp at h
  | n + 1, x :: l, k, f, s, h, hf, ho => by
    have h0 : 0 < (x :: l).length := by simp
    have hr := pieceR_rng (x :: l) h0
    have hcons := runesN_cons (x :: l) h0
    rw [wholeF_cons h0 hf]
    cases hp : (putR name wh s (pieceR (x :: l)).1.toNat).over with
    | true =>
      left
      have hst : stopN (pieceR (x :: l)).1.toNat = true := by
        rcases put_keep name wh s (pieceR (x :: l)).1.toNat ho with ⟨k1, _⟩ | ⟨_, _, _, k4, _⟩
        · rw [k1] at hp; cases hp
        · exact k4
      obtain ⟨a, b, e, ha, hb⟩ := runes_back _ (stopN_lt hst) _ [] (x :: l) hcons
      have hlt := stopN_lt hst
      have hc8 : (UInt8.ofNat (pieceR (x :: l)).1.toNat).toNat = (pieceR (x :: l)).1.toNat := UInt8.toNat_ofNat_of_lt' (Nat.lt_trans hlt (by decide))
      have ha0 : a = [] := by
        cases a with
        | nil => rfl
        | cons y a => rw [runesN_cons _ (by simp)] at ha; cases ha
      subst ha0
      refine ⟨[], _, b, e, by rw [hc8]; exact hst, ho, by rw [hc8]; exact hp, ?_⟩
      rw [if_pos rfl, hc8]
      rfl
    | false =>
      rw [if_neg (by simp)]
      rcases whole_cases n _ (k + (pieceR (x :: l)).2.1) (f - (pieceR (x :: l)).2.1) _ (show ((x :: l).drop (pieceR (x :: l)).2.1).length ≤ n by simp only [List.length_drop]; omega) (by simp only [List.length_drop]; omega) hp with ⟨a, c, b, e, h1, h2, h3, h4⟩ | ⟨h1, h2⟩
      · left
        have hl : x :: l = ((x :: l).take (pieceR (x :: l)).2.1 ++ a) ++ c :: b := by rw [List.append_assoc, ← e, List.take_append_drop]
        have hlen : ((x :: l).take (pieceR (x :: l)).2.1).length = (pieceR (x :: l)).2.1 := by rw [List.length_take]; omega
        have hpp : pieceR (x :: l) = pieceR ((x :: l).take (pieceR (x :: l)).2.1 ++ a) := by
          conv => lhs; rw [hl]
          exact pieceR_cut _ b _ (stopN_lt h1) (by simp only [List.length_append]; omega)
        have hd : ((x :: l).take (pieceR (x :: l)).2.1 ++ a).drop (pieceR (x :: l)).2.1 = a := by
          rw [List.drop_append_of_le_length (by omega), List.drop_eq_nil_of_le (by omega)]; rfl
        have hrun : runesN ((x :: l).take (pieceR (x :: l)).2.1 ++ a) = (pieceR (x :: l)).1.toNat :: runesN a := by
          rw [runesN_cons _ (by simp only [List.length_append]; omega), ← hpp, hd]
        refine ⟨_, c, b, hl, h1, ?_, ?_, ?_⟩
        · rw [hrun, scan_cons ho]; exact h2
        · rw [hrun, scan_cons ho]; exact h3
        · rw [hrun, scan_cons ho, h4]
          congr 1
          rw [List.length_append, hlen]; omega
      · right
        rw [hcons, scan_cons ho]
        refine ⟨h1, ?_⟩
        rw [h2]
        congr 1
        rw [List.length_drop]; omega
/-- of a text: the content, how many bytes, has it ended -/
def wholeR (name : List UInt8) (wh : Nat) (l : List UInt8) : List UInt8 × Nat × Bool :=
  let r := wholeF name wh l.length 0 sc0 l
  (((r.1).sure ++ (r.1).held).flatMap encR, r.2, (r.1).over)
theorem whole_split (name : List UInt8) (wh : Nat) (l : List UInt8) :
    (∃ a c b, l = a ++ c :: b ∧ stopN c.toNat = true ∧ (scanR name wh sc0 (runesN a)).over = false ∧ (putR name wh (scanR name wh sc0 (runesN a)) c.toNat).over = true ∧ wholeR name wh l = ((scanR name wh sc0 (runesN a)).sure.flatMap encR, a.length + 1, true)) ∨
    ((scanR name wh sc0 (runesN l)).over = false ∧ wholeR name wh l = (mendR l, l.length, false)) := by
  rcases whole_cases (name := name) (wh := wh) _ l 0 l.length sc0 (Nat.le_refl _) (Nat.le_refl _) rfl with ⟨a, c, b, h1, h2, h3, h4, h5⟩ | ⟨h1, h2⟩
  · left
    refine ⟨a, c, b, h1, h2, h3, h4, ?_⟩
    unfold wholeR
    rw [h5]
    rcases put_keep name wh (scanR name wh sc0 (runesN a)) c.toNat h3 with ⟨k1, _⟩ | ⟨k1, _⟩
    · rw [k1] at h4; cases h4
    · rw [k1]
      simp
  · right
    refine ⟨h1, ?_⟩
    unfold wholeR
    rw [h2]
    have := (scan_keep name wh (runesN l) sc0 h1).1
    dsimp only
    rw [this, h1, Nat.zero_add]
    rfl
theorem whole_at {name : List UInt8} {wh : Nat} {a b : List UInt8} {c : UInt8} (hc : c.toNat < 128) (h1 : (scanR name wh sc0 (runesN a)).over = false) (h2 : (putR name wh (scanR name wh sc0 (runesN a)) c.toNat).over = true) :
    wholeR name wh (a ++ c :: b) = ((scanR name wh sc0 (runesN a)).sure.flatMap encR, a.length + 1, true) := by
  unfold wholeR
  rw [whole_yes hc _ a 0 _ sc0 (Nat.le_refl _) (Nat.le_refl _) rfl h1 h2]
  rcases put_keep name wh (scanR name wh sc0 (runesN a)) c.toNat h1 with ⟨k1, _⟩ | ⟨k1, _⟩
  · rw [k1] at h2; cases h2
  · rw [k1]
    simp
theorem whole_none {name : List UInt8} {wh : Nat} {l : List UInt8} (h : (scanR name wh sc0 (runesN l)).over = false) : wholeR name wh l = (mendR l, l.length, false) := by
  rcases whole_split name wh l with ⟨a, c, b, h1, h2, h3, h4, h5⟩ | ⟨_, h2⟩
  · rw [h1, runes_at c (stopN_lt h2), scan_app, scan_cons h3, scan_over h4, h4] at h
    cases h
  · exact h2
end Go.Proofs.YtkclldfejembnaaDoor

/-
  Packages token and sieveref07: which texts and names may be.
-/
set_option linter.unusedSimpArgs false
set_option linter.unusedVariables false
set_option linter.unnecessarySimpa false
namespace Go.Proofs.YtkclldfejembnaaDoor
open Go Go.Sv Go.RowKit

def blankR (c : Nat) : Bool := decide (c = 9 ∨ c = 10 ∨ c = 12 ∨ c = 32)
def stopR (c : Nat) : Bool := decide (c = 0 ∨ c = 9 ∨ c = 10 ∨ c = 12 ∨ c = 32 ∨ c = 47 ∨ c = 62 ∨ (65 ≤ c ∧ c ≤ 90))
/-- a byte that may not stand at a name's place i -/
def badR (attr : Bool) (l : List UInt8) (i : Nat) : Bool := stopR (at0 l i) || (attr && (decide (0 < i) && decide (at0 l i = 61)))
/-- may a name be? -/
def nameR (attr : Bool) (l : List UInt8) : Bool :=
  validR l && !decide (l = []) && (attr || (decide (97 ≤ at0 l 0) && decide (at0 l 0 ≤ 122))) && (List.range l.length).all fun i => !badR attr l i

end Go.Proofs.YtkclldfejembnaaDoor

/-
  Package sieveref07: names of tags and attributes.
-/
set_option linter.unusedSimpArgs false
set_option linter.unusedVariables false
set_option linter.unnecessarySimpa false
namespace Go.Proofs.YtkclldfejembnaaDoor
open Go Go.Sv Go.RowKit














































































































end Go.Proofs.YtkclldfejembnaaDoor

/-
  Attributes: which may be.
-/
set_option linter.unusedSimpArgs false
set_option linter.unusedVariables false
set_option linter.unnecessarySimpa false
namespace Go.Proofs.YtkclldfejembnaaDoor
open Go Go.Sv Go.RowKit

structure At where
  n : List UInt8
  v : List UInt8
  deriving DecidableEq
def At.cells (x : At) : List Value := [str x.n, str x.v]
theorem At.len (x : At) : x.cells.length = 2 := rfl
def At.small (x : At) : Prop := x.n.length ≤ 1048576 ∧ x.v.length ≤ 1048576
def atOk (x : At) : Bool := nameR true x.n && validR x.v
def attrsF : List (List UInt8) → List At → Bool
  | _, [] => true
  | seen, a :: es => (atOk a && !decide (a.n ∈ seen)) && attrsF (seen ++ [a.n]) es
/-- may attributes be? -/
def attrsR (l : List At) : Bool := attrsF [] l

















































































































































































end Go.Proofs.YtkclldfejembnaaDoor

/-
  Tokens: which may be.
-/
set_option linter.unusedSimpArgs false
set_option linter.unusedVariables false
set_option linter.unnecessarySimpa false
namespace Go.Proofs.YtkclldfejembnaaDoor
open Go Go.Sv Go.RowKit

structure Tok where
  kind : Int
  name : List UInt8
  text : List UInt8
  attrs : List At
  self : Bool
  a : Int
  b : Int
  d : Int
  deriving DecidableEq
def Tok.cells (t : Tok) (p : Option Addr) (c : Nat) : List Value := [int t.kind, str t.name, str t.text, .slice p t.attrs.length c, .bool t.self, int t.a, int t.b, int t.d]
structure Tok.small (t : Tok) : Prop where
  name : t.name.length ≤ 1048576
  text : t.text.length ≤ 1048576
  attrs : t.attrs.length ≤ 1048576
  each : ∀ x ∈ t.attrs, x.small
def bareR (t : Tok) : Bool := decide (t.name = []) && (decide (t.attrs.length = 0) && !t.self)
/-- may a token be? -/
def mayR (t : Tok) : Bool :=
  if t.kind = 0 then bareR t && (!decide (t.text = []) && validR t.text)
  else if t.kind = 1 then nameR false t.name && (decide (t.text = []) && attrsR t.attrs)
  else if t.kind = 2 then nameR false t.name && (decide (t.text = []) && (decide (t.attrs.length = 0) && !t.self))
  else if t.kind = 3 then bareR t && validR t.text
  else if t.kind = 4 then bareR t && decide (t.text = [])
  else false













































































































































































































































end Go.Proofs.YtkclldfejembnaaDoor

/-
  Arrays written out; a function's end, where its result lies in a cell.
-/
set_option linter.unusedSimpArgs false
set_option linter.unusedVariables false
set_option linter.unnecessarySimpa false
namespace Go.Sv
open Go Go.RowKit
section
variable {P : Program} {σ : Env} {w : World} {d : Option Tmp} {ty t e : TypeId} {pos : String} {af : Array Edge} {g : Option (Nat × Bool)} {x y : Operand} {v1 v2 v3 v4 v5 z1 z2 z3 z4 z5 zv : Value} {x1 x2 x3 x4 x5 : Operand} {bytes bytes' n i : Nat} {k : IntKind} 
end
theorem fpc {P : Program} {n : Nat} {fn : Func} {R : Value → World → Prop} {σ : Env} {w : World} {tt : Nat} {ty : TypeId} {ex : Exit} {b : Nat} {l : List Value} {zv : Value} {bytes : Nat} {ds : Ctx} (hex : ex = .ret ∨ ex = .normal) (hr : fn.results = #[.cell tt ty]) (ht : Nat.blt tt n = true) (hp : σ tt = .pointer (pb b)) (ho : Own w b l)
    [ha : Agg P ty true] [hi : Inf P ty zv l.length bytes] (h : R (.agg l.toArray) w) (hd : ds.ds = [] := by rfl) : fpost P n fn R ex ds σ w := by
  obtain ⟨T, ho⟩ := ho
  obtain ⟨dd, hd1, hd2⟩ := ha.ok
  obtain ⟨i, hi1, hi2, hi3, hi4⟩ := inf_size (P := P) (t := ty)
  exact fp_of hex hd (results_cell_row (P := P) hr (act n ds.ds σ).tmps w b T l.toArray (0, 0) dd (by rw [act_getD ht]; exact hp) ho hd1 (by revert hd2; cases dd <;> exact id) (by rw [hi1]; simp [hi3])) h
end Go.Sv

/-
  Package token: Print.
-/
set_option linter.unusedSimpArgs false
set_option linter.unusedVariables false
set_option linter.unnecessarySimpa false
namespace Go.Proofs.YtkclldfejembnaaDoor
open Go Go.Sv Go.RowKit

def wText : List UInt8 := [116, 101, 120, 116]
def wStart : List UInt8 := [115, 116, 97, 114, 116]
def wEnd : List UInt8 := [101, 110, 100]
def wComment : List UInt8 := [99, 111, 109, 109, 101, 110, 116]
def wDoctype : List UInt8 := [100, 111, 99, 116, 121, 112, 101]
def wordsV : Value := .agg #[str wText, str wStart, str wEnd, str wComment, str wDoctype]
def wordR (k : Int) : List UInt8 := if k = 0 then wText else if k = 1 then wStart else if k = 2 then wEnd else if k = 3 then wComment else wDoctype










end Go.Proofs.YtkclldfejembnaaDoor

/-
  Package token: Print.
-/
set_option linter.unusedSimpArgs false
set_option linter.unusedVariables false
set_option linter.unnecessarySimpa false
namespace Go.Proofs.YtkclldfejembnaaDoor
open Go Go.Sv Go.RowKit

def atLine (x : At) : List UInt8 := 32 :: quoteR x.n ++ [61] ++ quoteR x.v
/-- the line of a token that may be -/
def headR (t : Tok) : List UInt8 :=
  wordR t.kind ++ (if t.kind = 1 ∨ t.kind = 2 then 32 :: quoteR t.name else if t.kind = 0 ∨ t.kind = 3 then 32 :: quoteR t.text else [])
def lineR (t : Tok) : List UInt8 := headR t ++ t.attrs.flatMap atLine ++ (if t.self then [32, 47] else [])

structure MayF (t : Tok) : Prop where
  kind : 0 ≤ t.kind ∧ t.kind ≤ 4
  name : t.kind = 1 ∨ t.kind = 2 → validR t.name = true
  text : t.kind = 0 ∨ t.kind = 3 → validR t.text = true
  attrs : ∀ x ∈ t.attrs, validR x.n = true ∧ validR x.v = true
end Go.Proofs.YtkclldfejembnaaDoor

/-
  Package sieveref07: Quote and Line; package token: List.
-/
set_option linter.unusedSimpArgs false
set_option linter.unusedVariables false
set_option linter.unnecessarySimpa false
namespace Go.Proofs.YtkclldfejembnaaDoor
open Go Go.Sv Go.RowKit

end Go.Proofs.YtkclldfejembnaaDoor

/-
  sievelaw07: the document's examples.
-/
set_option linter.unusedSimpArgs false
set_option linter.unusedVariables false
set_option linter.unnecessarySimpa false
namespace Go.Sv
open Go Go.RowKit
end Go.Sv
namespace Go.Proofs.YtkclldfejembnaaDoor
open Go Go.Sv Go.RowKit

def exAt : At := ⟨[104, 114, 101, 102], [120, 34, 121]⟩
def exTok : Tok := ⟨1, [97], [], [exAt], false, 0, 0, 0⟩
def exBad : Tok := ⟨1, [65], [], [], false, 0, 0, 0⟩
def exLine : List UInt8 := [115, 116, 97, 114, 116, 32, 34, 97, 34, 32, 34, 104, 114, 101, 102, 34, 61, 34, 120, 92, 34, 121, 34]
end Go.Proofs.YtkclldfejembnaaDoor

/-
  Lists of tokens in memory; package token: List; sievelaw07: TokenPrints.
-/
set_option linter.unusedSimpArgs false
set_option linter.unusedVariables false
set_option linter.unnecessarySimpa false
namespace Go.Proofs.YtkclldfejembnaaDoor
open Go Go.Sv Go.RowKit

/-- a token as it lies in memory: and where its attributes lie -/
structure TokM where
  t : Tok
  p : Option Addr
  c : Nat
def TokM.cells (m : TokM) : List Value := m.t.cells m.p m.c
theorem TokM.len (m : TokM) : m.cells.length = 8 := rfl
structure Toks (w : World) (p : Option Addr) (ms : List TokM) : Prop where
  im : Im [] w p (ms.flatMap TokM.cells)
  each : ∀ m ∈ ms, Im [] w m.p (m.t.attrs.flatMap At.cells)
theorem Toks.frm {w w' : World} {p : Option Addr} {ms : List TokM} (h : Toks w p ms) (hf : Frm w w') : Toks w' p ms := ⟨h.im.frm hf, fun m hm => (h.each m hm).frm hf⟩

def At.wt (x : At) : Nat := x.n.length + x.v.length + 3
def Tok.wt (t : Tok) : Nat := 8 + t.name.length + t.text.length + (t.attrs.map At.wt).sum
def lnR (t : Tok) : List UInt8 := lineR t ++ [10]
def wts (ms : List TokM) : Nat := (ms.map fun m => m.t.wt).sum
def lns (ms : List TokM) : List UInt8 := ms.flatMap fun m => lnR m.t
def allMay (ms : List TokM) : Bool := ms.all fun m => mayR m.t
end Go.Proofs.YtkclldfejembnaaDoor

/-
  Regions that draw their order and write: what stands in the world is told by what has been carried out.
-/
set_option linter.unusedSimpArgs false
set_option linter.unusedVariables false
set_option linter.unnecessarySimpa false
namespace Go.Sv
open Go Go.RowKit

def fl (b : Array Bool) : Nat → Bool := fun k => b.getD k false
def on (L : Nat → Bool) (i : Nat) : Nat → Bool := fun k => match Nat.beq k i with | true => true | false => L k
theorem on_same (L : Nat → Bool) (i : Nat) : on L i i = true := by simp [on, Nat.beq_refl]
theorem on_ne (L : Nat → Bool) {i k : Nat} (h : k ≠ i) : on L i k = L k := by
  have : Nat.beq k i = false := by
    cases hb : Nat.beq k i
    · rfl
    · exact absurd (Nat.eq_of_beq_eq_true hb) h
  simp [on, this]
theorem fl_set {b : Array Bool} {i : Nat} (hi : i < b.size) : fl (b.setIfInBounds i true) = on (fl b) i := by
  funext k
  by_cases e : k = i
  · subst e; rw [on_same]; simp [fl, hi]
  · rw [on_ne _ e]; exact getD_set_ne false (Ne.symm e)
def bindsOn (o : Oper) (j : Nat) : Bool := o.after.toList.any fun e => Region.binds .any e && e.on == j
theorem bindsOn_iff {o : Oper} {j : Nat} : bindsOn o j = true ↔ ∃ e ∈ o.after, Region.binds .any e = true ∧ e.on = j := by
  simp only [bindsOn, List.any_eq_true, Bool.and_eq_true, beq_iff_eq, Array.mem_toList_iff]
def Clo (ops : Array Oper) (L : Nat → Bool) : Prop := ∀ j oj, ops[j]? = some oj → L j = true → ∀ i, bindsOn oj i = true → L i = true
/-- what is known when operation k comes up: it stands behind what it waits for, ahead of what waits for it -/
structure Up (ops : Array Oper) (o : Oper) (k : Nat) (L : Nat → Bool) : Prop where
  now : L k = false
  did : ∀ j, bindsOn o j = true → L j = true
  ahead : ∀ j oj, ops[j]? = some oj → bindsOn oj k = true → L j = false
/-- an operation yields v, and behind it T holds -/
def sees (P : Program) (T : World → Prop) (v : Value) : Result Next → Prop
  | .ok (.value u) w' => u = v ∧ T w'
  | .ok .skip w' => v = undef ∧ T w'
  | .ok (.enter f args) w' => Calls P f args w' (fun e w'' => e = .returned v ∧ T w'')
  | _ => False

section
variable {P : Program} {ops : Array Oper} {S : (Nat → Bool) → World → Prop}
def YA (P : Program) (ops : Array Oper) (S : (Nat → Bool) → World → Prop) (o : Oper) (k : Nat) (v : Value) (ev : Operand → Value) : Prop :=
  ∀ L w, Up ops o k L → S L w → sees P (S (on L k)) v ((execOp ev o).run P w)
def ZA (P : Program) (ops : Array Oper) (S : (Nat → Bool) → World → Prop) (o : Oper) (k : Nat) (v : Value) (a : Act) : Prop :=
  (Region.wanted o (yielded ops a.tmps) = true ∧ ∀ L w, Up ops o k L → S L w → sees P (S (on L k)) v ((execOp a.eval o).run P w)) ∨
  (Region.wanted o (yielded ops a.tmps) = false ∧ v = undef ∧ ∀ L w, Up ops o k L → S L w → S (on L k) w)
def gOp (P : Program) (ops : Array Oper) (S : (Nat → Bool) → World → Prop) (i : Nat) (K : Act → Prop) (a : Act) : Prop := ∃ o v, ops[i]? = some o ∧ ZA P ops S o i v a ∧ K (a.put o.dst v)
def wpG (P : Program) (ops : Array Oper) (S : (Nat → Bool) → World → Prop) (Qf : Act → Prop) : Nat → Array Bool → Act → Prop
  | 0, listed, a => Region.ready .any ops listed = [] ∧ (∀ k, k < ops.size → fl listed k = true) ∧ Qf a
  | f + 1, listed, a => Region.ready .any ops listed ≠ [] ∧ ∀ i ∈ Region.ready .any ops listed, gOp P ops S i (fun a' => wpG P ops S Qf f (listed.setIfInBounds i true) a') a

theorem clo_on {L : Nat → Bool} {i : Nat} {o : Oper} (hc : Clo ops L) (hi : ops[i]? = some o) (hd : ∀ j, bindsOn o j = true → L j = true) : Clo ops (on L i) := by
  intro j oj hj hL k hk
  by_cases e : j = i
  · subst e
    rw [hi] at hj
    cases hj
    have := hd k hk
    by_cases e2 : k = j
    · subst e2; exact on_same _ _
    · rw [on_ne _ e2]; exact this
  · rw [on_ne _ e] at hL
    have := hc j oj hj hL k hk
    by_cases e2 : k = i
    · subst e2; exact on_same _ _
    · rw [on_ne _ e2]; exact this

/-- the lexical walk -/
def QS (P : Program) (ops : Array Oper) (S : (Nat → Bool) → World → Prop) (Qf : Env → Prop) : Nat → List Oper → Env → Prop
  | _, [], σ => Qf σ
  | k, o :: l, σ => ∃ v, ((Region.wanted o (yl ops σ) = true ∧ YA P ops S o k v (evl σ)) ∨ (Region.wanted o (yl ops σ) = false ∧ v = undef ∧ ∀ L w, Up ops o k L → S L w → S (on L k) w)) ∧ QS P ops S Qf (k + 1) l (updO σ o.dst v)
end
section
variable {P : Program} {n : Nat} {ds : Ctx} {Q : Exit → Ctx → Env → World → Prop} {S : (Nat → Bool) → World → Prop} {σ : Env} {w : World}
end

/-! ## The rules as a script meets them -/
section
variable {P : Program} {n : Nat} {ds : Ctx} {ops : Array Oper} {Q : Exit → Ctx → Env → World → Prop} {S : (Nat → Bool) → World → Prop} {Qf : Env → Prop} {rest : List Oper} {σ : GE} {w : World} {v : Value} {d k : Nat} {op : Op} {ty : TypeId} {pos : String} {af : Array Edge} {nd : Bool}
end
end Go.Sv
namespace Go.Sv
attribute [irreducible] QS
end Go.Sv

/-
  For each kind of operation that does not look at the world, a rule for regions that draw and write.
-/
set_option linter.unusedSimpArgs false
set_option linter.unusedVariables false
set_option linter.unnecessarySimpa false
namespace Go.Sv
open Go Go.RowKit
section
variable {P : Program} {ops : Array Oper} {S : (Nat → Bool) → World → Prop} {Qf : Env → Prop} {rest : List Oper} {σ : GE} {w : World} {v : Value} {d k : Nat} {ty : TypeId} {pos : String} {af : Array Edge}

end
end Go.Sv

/-
  Stores into slices of one's own; lists of records.
-/
set_option linter.unusedSimpArgs false
set_option linter.unusedVariables false
set_option linter.unnecessarySimpa false
namespace Go.Sv
open Go Go.RowKit
section
variable {P : Program} {n : Nat} {ds : Ctx} {ops : Array Oper} {Q : Exit → Ctx → Env → World → Prop} {rest : List Oper} {σ : GE} {w : World} {v : Value} {d : Nat} {ty t e : TypeId} {pos : String} {af : Array Edge} {x y : Operand} {zv : Value} {size sz bytes m c i k : Nat} {p : Option Addr} {xs : List Value} {S : (Nat → Bool) → World → Prop} {Qf : Env → Prop}
end
section
variable {α : Type} {f : α → List Value} {k : Nat}
end
end Go.Sv
/-! ## append where there is room: in place -/
namespace Go.Sv
open Go Go.RowKit
section
variable {P : Program} {n : Nat} {ds : Ctx} {ops : Array Oper} {Q : Exit → Ctx → Env → World → Prop} {rest : List Oper} {σ : GE} {w : World} {v : Value} {d : Nat} {ty t t' e e' : TypeId} {pos : String} {af : Array Edge} {x y : Operand} {zv : Value} {size bytes m c c' i k j : Nat} {p q : Option Addr} {xs news : List Value}
end
end Go.Sv

/-
  Memory of one's own in pieces that lie apart, carried along as one fact.
-/
set_option linter.unusedSimpArgs false
set_option linter.unusedVariables false
set_option linter.unnecessarySimpa false
namespace Go.Sv
open Go Go.RowKit

theorem Own.of_block {w w' : World} {b : Nat} {l : List Value} (h : Own w b l) (hb : w'.heap[b]? = w.heap[b]?) : Own w' b l := by
  obtain ⟨t, h⟩ := h
  exact ⟨t, hb.trans h⟩
def pOwn (b : Nat) (l : List Value) : Plot where
  foot := [b]
  ok w := Own w b l
  view := (pb b, l)
  loc _ _ h hb := h.of_block (hb b (by simp))
  lt _ h x hx := by rw [List.mem_singleton.1 hx]; exact h.lt
  sg _ h := h.sg
def pRow (size : Nat) (p : Option Addr) (n c : Nat) (xs : List Value) : Plot where
  foot := rb p
  ok w := Row w size p n c xs
  view := (p, xs)
  loc _ _ h hb := h.of_block hb
  lt _ h := h.lt
  sg _ h := h.sg

section
variable {w0 w w' : World} {cs ds es : List Plot} {c c' a b : Plot} {M : List Nat} {i j : Nat}
theorem Sep.own {b : Nat} {l : List Value} (h : Sep w0 w cs) (i : Nat) (hi : cs[i]? = some (pOwn b l)) : Own w b l := h.at (c := pOwn b l) i hi
theorem Sep.row {s n c : Nat} {p : Option Addr} {l : List Value} (h : Sep w0 w cs) (i : Nat) (hi : cs[i]? = some (pRow s p n c l)) : Row w s p n c l := h.at (c := pRow s p n c l) i hi
/-- a piece that is written no more -/
theorem Sep.im {s n c : Nat} {p : Option Addr} {l : List Value} (h : Sep w0 w cs) (i : Nat) (hi : cs[i]? = some (pRow s p n c l)) : Im [] w p l := (h.row i hi).im (by simp)
end

/-! ## Operations on pieces -/
section
variable {P : Program} {n : Nat} {ds : Ctx} {ops : Array Oper} {Q : Exit → Ctx → Env → World → Prop} {rest : List Oper} {σ : GE} {w0 w : World} {v : Value} {d : Nat} {ty t t' e e' : TypeId} {pos : String} {af : Array Edge} {x y : Operand} {zv : Value} {size sz bytes : Nat} {p q : Option Addr} {l xs news vs : List Value} {b i m k c c' j : Nat} {cs : List Plot}
theorem salloc [hi : Inf P e zv size bytes] (hS : Sep w0 w cs) (h : ∀ b w', Sep w0 w' (pOwn b zv.cells.toList :: cs) → WL P n ds ops Q rest (real (updG σ d ⟨ptrAt (pb b) 0, true⟩)) w') :
    WL P n ds ops Q (⟨some d, .alloc e, ty, pos, af, none⟩ :: rest) (real σ) w :=
  wlalloc fun b w' hb ho hf => h b w' (hS.push hf ho (by simpa [pOwn] using hb))
theorem sbox (hS : Sep w0 w cs) (h : ∀ b w', Sep w0 w' (pOwn b v.cells.toList :: cs) → WL P n ds ops Q rest (real (updG σ d ⟨ptrAt (pb b) 0, true⟩)) w') (hx : evl (real σ) x = v := by rfl) :
    WL P n ds ops Q (⟨some d, .box e x, ty, pos, af, none⟩ :: rest) (real σ) w :=
  wlbox (fun b w' hb ho hf => h b w' (hS.push hf ho (by simpa [pOwn] using hb))) hx
theorem lm_own {b : Nat} {w w' : World} (h : Le [b] w w') : Lm [b] w [b] w' := ⟨h, fun _ hx _ => hx⟩
/-- a whole struct into the i-th piece -/
theorem ssta [hi : Inf P t zv size bytes] (hS : Sep w0 w cs) (i : Nat) (h : ∀ w', Sep w0 w' (cs.set i (pOwn b vs)) → WL P n ds ops Q rest (real σ) w') (hc : cs[i]? = some (pOwn b l) := by rfl)
    (hx : evl (real σ) x = ptrAt (pb b) 0 := by rfl) (hy : evl (real σ) y = .agg ⟨vs⟩ := by rfl) (hv : vs.length = size ∧ l.length = size := by first | exact ⟨rfl, rfl⟩ | (simp; done)) (h1 : (vs.all fun c => c.oneCell') = true := by rfl) :
    WL P n ds ops Q (⟨none, .store t x y, ty, pos, af, none⟩ :: rest) (real σ) w :=
  wlstorea0 (hS.own i hc) (fun w' ho hl => h w' (hS.upd i hc (lm_own hl) ho)) hx hy hv (List.all_eq_true.1 h1)
/-- one cell into the i-th piece -/
theorem sst1 [hi : Inf P t zv 1 bytes] (hS : Sep w0 w cs) (i : Nat) (h : ∀ w', Sep w0 w' (cs.set i (pOwn b (l.set j v))) → WL P n ds ops Q rest (real σ) w') (hc : cs[i]? = some (pOwn b l) := by rfl)
    (hx : evl (real σ) x = ptrAt (pb b) j := by rfl) (hy : evl (real σ) y = v := by rfl) (hv : v.cells = #[v] := by rfl) (h1 : v.oneCell' = true := by rfl) (hk : j < l.length := by first | decide | (simp; done)) :
    WL P n ds ops Q (⟨none, .store t x y, ty, pos, af, none⟩ :: rest) (real σ) w :=
  wlstore1 hx hy (hS.own i hc) hv h1 hk fun w' ho hl => h w' (hS.upd i hc (lm_own hl) ho)
theorem sapp [hu : Und P t (.slice e)] [hu' : Und P t' (.slice e')] [hi : Inf P e zv size bytes] (hS : Sep w0 w cs) (i : Nat) (hs : Sg w q news)
    (h : ∀ p' c' w', Sep w0 w' (cs.set i (pRow size p' (m + k) c' (xs ++ news))) → WL P n ds ops Q rest (real (updG σ d ⟨.slice p' (m + k) c', true⟩)) w') (hc : cs[i]? = some (pRow size p m c xs) := by rfl)
    (hx : evl (real σ) x = .slice p m c := by rfl) (hy : evl (real σ) y = .slice q k c' := by rfl) (hl : news.length = k * size := by first | rfl | (simp; done))
    (h1 : ∀ u ∈ news, u.oneCell' = true := by simp [Go.Value.oneCell']) (hz : zv.cells.size = size := by rfl) (hsz : 0 < size := by decide) (hb : (m + k) * bytes ≤ 140737488355328 ∧ m + k ≤ 9223372036854775807 := by omega) :
    WL P n ds ops Q (⟨some d, .call ⟨.builtin .append, #[x, y], #[t, t']⟩, ty, pos, af, none⟩ :: rest) (real σ) w :=
  wlapp (hS.row i hc) hs (fun p' c' w' hr hl => h p' c' w' (hS.upd i hc hl hr)) hx hy hl h1 hz hsz hb
/-- append to nothing: a new piece -/
theorem sapp0 [hu : Und P t (.slice e)] [hu' : Und P t' (.slice e')] [hi : Inf P e zv size bytes] (hS : Sep w0 w cs) (hs : Sg w q news)
    (h : ∀ p' c' w', Sep w0 w' (pRow size p' k c' news :: cs) → WL P n ds ops Q rest (real (updG σ d ⟨.slice p' k c', true⟩)) w')
    (hx : evl (real σ) x = .slice none 0 0 := by rfl) (hy : evl (real σ) y = .slice q k c' := by rfl) (hl : news.length = k * size := by first | rfl | (simp; done))
    (h1 : ∀ u ∈ news, u.oneCell' = true := by simp [Go.Value.oneCell']) (hz : zv.cells.size = size := by rfl) (hsz : 0 < size := by decide) (hb : k * bytes ≤ 140737488355328 ∧ k ≤ 9223372036854775807 := by omega) :
    WL P n ds ops Q (⟨some d, .call ⟨.builtin .append, #[x, y], #[t, t']⟩, ty, pos, af, none⟩ :: rest) (real σ) w :=
  wlapp (Row.nil w size) hs (fun p' c' w' hr hl => by
    rw [Nat.zero_add]
    have := h p' c' w'
    rw [List.nil_append, Nat.zero_add] at hr
    refine this (hS.push (hl.frm (by simp [rb])) hr ?_)
    exact hl.fresh (Frm.refl w) (by simp [rb])) hx hy hl h1 hz hsz (by rw [Nat.zero_add]; exact hb)
/-- .. of one cell -/
theorem sb1 [hu : Und P t (.slice e)] [hi : Inf P e zv 1 bytes] (hS : Sep w0 w cs) (h : ∀ b w', Sep w0 w' (pOwn b [v] :: cs) → WL P n ds ops Q rest (real (updG σ d ⟨.slice (pb b) 1 1, true⟩)) w')
    (hx : evl (real σ) x = v := by rfl) (hv : v.cells = #[v] := by rfl) (hz : zv.cells.size = 1 := by rfl) :
    WL P n ds ops Q (⟨some d, .buildSlice t 1 #[(0, x)], ty, pos, af, none⟩ :: rest) (real σ) w :=
  wlb1v hx hv (fun b w' hb ho hf => h b w' (hS.push hf ho (by simpa [pOwn] using hb))) hz
theorem sb1i {kk : IntKind} {a : Int} [hu : Und P t (.slice e)] [hi : Inf P e zv 1 bytes] (hS : Sep w0 w cs) (h : ∀ b w', Sep w0 w' (pOwn b [.int kk a] :: cs) → WL P n ds ops Q rest (real (updG σ d ⟨.slice (pb b) 1 1, true⟩)) w')
    (hx : evl (real σ) x = .int kk a := by rfl) (hz : zv.cells.size = 1 := by rfl) :
    WL P n ds ops Q (⟨some d, .buildSlice t 1 #[(0, x)], ty, pos, af, none⟩ :: rest) (real σ) w := sb1 hS h hx rfl hz
theorem sst_str {s : List UInt8} [hi : Inf P t zv 1 bytes] (hS : Sep w0 w cs) (i : Nat) (h : ∀ w', Sep w0 w' (cs.set i (pOwn b (l.set j (str s)))) → WL P n ds ops Q rest (real σ) w') (hc : cs[i]? = some (pOwn b l) := by rfl)
    (hx : evl (real σ) x = ptrAt (pb b) j := by rfl) (hy : evl (real σ) y = str s := by rfl) (hk : j < l.length := by first | decide | (simp; done)) :
    WL P n ds ops Q (⟨none, .store t x y, ty, pos, af, none⟩ :: rest) (real σ) w := sst1 hS i h hc hx hy rfl rfl hk
theorem sst_int {kk : IntKind} {a : Int} [hi : Inf P t zv 1 bytes] (hS : Sep w0 w cs) (i : Nat) (h : ∀ w', Sep w0 w' (cs.set i (pOwn b (l.set j (.int kk a)))) → WL P n ds ops Q rest (real σ) w') (hc : cs[i]? = some (pOwn b l) := by rfl)
    (hx : evl (real σ) x = ptrAt (pb b) j := by rfl) (hy : evl (real σ) y = .int kk a := by rfl) (hk : j < l.length := by first | decide | (simp; done)) :
    WL P n ds ops Q (⟨none, .store t x y, ty, pos, af, none⟩ :: rest) (real σ) w := sst1 hS i h hc hx hy rfl rfl hk
theorem sst_bool {a : Bool} [hi : Inf P t zv 1 bytes] (hS : Sep w0 w cs) (i : Nat) (h : ∀ w', Sep w0 w' (cs.set i (pOwn b (l.set j (.bool a)))) → WL P n ds ops Q rest (real σ) w') (hc : cs[i]? = some (pOwn b l) := by rfl)
    (hx : evl (real σ) x = ptrAt (pb b) j := by rfl) (hy : evl (real σ) y = .bool a := by rfl) (hk : j < l.length := by first | decide | (simp; done)) :
    WL P n ds ops Q (⟨none, .store t x y, ty, pos, af, none⟩ :: rest) (real σ) w := sst1 hS i h hc hx hy rfl rfl hk
theorem sst_slice {a : Option Addr} {m1 m2 : Nat} [hi : Inf P t zv 1 bytes] (hS : Sep w0 w cs) (i : Nat) (h : ∀ w', Sep w0 w' (cs.set i (pOwn b (l.set j (.slice a m1 m2)))) → WL P n ds ops Q rest (real σ) w') (hc : cs[i]? = some (pOwn b l) := by rfl)
    (hx : evl (real σ) x = ptrAt (pb b) j := by rfl) (hy : evl (real σ) y = .slice a m1 m2 := by rfl) (hk : j < l.length := by first | decide | (simp; done)) :
    WL P n ds ops Q (⟨none, .store t x y, ty, pos, af, none⟩ :: rest) (real σ) w := sst1 hS i h hc hx hy rfl rfl hk
theorem sst_ptr {a : Option Addr} [hi : Inf P t zv 1 bytes] (hS : Sep w0 w cs) (i : Nat) (h : ∀ w', Sep w0 w' (cs.set i (pOwn b (l.set j (.pointer a)))) → WL P n ds ops Q rest (real σ) w') (hc : cs[i]? = some (pOwn b l) := by rfl)
    (hx : evl (real σ) x = ptrAt (pb b) j := by rfl) (hy : evl (real σ) y = .pointer a := by rfl) (hk : j < l.length := by first | decide | (simp; done)) :
    WL P n ds ops Q (⟨none, .store t x y, ty, pos, af, none⟩ :: rest) (real σ) w := sst1 hS i h hc hx hy rfl rfl hk
end
/-! ## Many rows in one piece -/
structure RowD where
  size : Nat
  p : Option Addr
  n : Nat
  c : Nat
  xs : List Value
def RowD.ok (w : World) (r : RowD) : Prop := Row w r.size r.p r.n r.c r.xs
def RowD.apart (a b : RowD) : Prop := ∀ x ∈ rb a.p, x ∉ rb b.p
def pMany (rs : List RowD) : Plot where
  foot := rs.flatMap fun r => rb r.p
  ok w := (∀ r ∈ rs, r.ok w) ∧ rs.Pairwise RowD.apart
  view := (none, [])
  loc _ _ h hb := ⟨fun r hr => (h.1 r hr).of_block fun b hh => hb b (List.mem_flatMap.2 ⟨r, hr, hh⟩), h.2⟩
  lt _ h x hx := by
    obtain ⟨r, hr, hx⟩ := List.mem_flatMap.1 hx
    exact (h.1 r hr).lt x hx
  sg _ _ := .inl rfl
theorem many_nil (w : World) : (pMany []).ok w := ⟨by simp, .nil⟩
section
variable {w0 w w' : World} {cs ds : List Plot} {rs : List RowD} {r r' : RowD} {s n c i j : Nat} {p : Option Addr} {xs : List Value}
theorem Sep.zero (h : Sep w0 w cs) : Sep w0 w (pMany [] :: cs) := h.push (Frm.refl w) (many_nil w) (by simp [pMany])
theorem Sep.many (h : Sep w0 w cs) (i : Nat) (hi : cs[i]? = some (pMany rs)) : ∀ r ∈ rs, r.ok w := (h.at (c := pMany rs) i hi).1
/-- a row more among the many -/
theorem Sep.more (h : Sep w0 w (pRow s p n c xs :: pMany rs :: cs)) : Sep w0 w (pMany (rs ++ [⟨s, p, n, c, xs⟩]) :: cs) := by
  refine h.join (fun h1 h2 h3 => ⟨fun r hr => ?_, ?_⟩) (fun x hx => ?_)
  · rcases List.mem_append.1 hr with hr | hr
    · exact h2.1 r hr
    · rw [List.mem_singleton.1 hr]; exact h1
  · rw [List.pairwise_append]
    refine ⟨h2.2, List.pairwise_singleton _ _, fun a ha b hb x hx hx' => ?_⟩
    rw [List.mem_singleton.1 hb] at hx'
    exact h3 x hx' (List.mem_flatMap.2 ⟨a, ha, hx⟩)
  · obtain ⟨r, hr, hx⟩ := List.mem_flatMap.1 hx
    rcases List.mem_append.1 hr with hr | hr
    · exact .inr (List.mem_flatMap.2 ⟨r, hr, hx⟩)
    · rw [List.mem_singleton.1 hr] at hx; exact .inl hx
/-- two times many -/
theorem Sep.both {rs' : List RowD} (h : Sep w0 w (pMany rs :: pMany rs' :: cs)) : Sep w0 w (pMany (rs' ++ rs) :: cs) := by
  refine h.join (fun h1 h2 h3 => ⟨fun r hr => ?_, ?_⟩) (fun x hx => ?_)
  · rcases List.mem_append.1 hr with hr | hr
    · exact h2.1 r hr
    · exact h1.1 r hr
  · rw [List.pairwise_append]
    exact ⟨h2.2, h1.2, fun a ha b hb x hx hx' => h3 x (List.mem_flatMap.2 ⟨b, hb, hx'⟩) (List.mem_flatMap.2 ⟨a, ha, hx⟩)⟩
  · obtain ⟨r, hr, hx⟩ := List.mem_flatMap.1 hx
    rcases List.mem_append.1 hr with hr | hr
    · exact .inr (List.mem_flatMap.2 ⟨r, hr, hx⟩)
    · exact .inl (List.mem_flatMap.2 ⟨r, hr, hx⟩)
theorem set_apart {R : RowD → RowD → Prop} : ∀ {rs : List RowD} {i : Nat} {r r' : RowD}, rs.Pairwise R → rs[i]? = some r → (∀ x, R x r → R x r') → (∀ x, R r x → R r' x) → (rs.set i r').Pairwise R
  | [], i, r, r', _, h, _, _ => by simp at h
  | x :: rs, 0, r, r', hp, h, h1, h2 => by
    simp only [List.getElem?_cons_zero, Option.some.injEq] at h
    subst h
    rw [List.pairwise_cons] at hp
    simp only [List.set_cons_zero, List.pairwise_cons]
    exact ⟨fun y hy => h2 y (hp.1 y hy), hp.2⟩
  | x :: rs, i + 1, r, r', hp, h, h1, h2 => by
    simp only [List.getElem?_cons_succ] at h
    rw [List.pairwise_cons] at hp
    simp only [List.set_cons_succ, List.pairwise_cons]
    refine ⟨fun y hy => ?_, set_apart hp.2 h h1 h2⟩
    rcases List.mem_or_eq_of_mem_set hy with hy | rfl
    · exact hp.1 y hy
    · exact h1 x (hp.1 r (List.mem_of_getElem? h))
theorem rows_le : ∀ {rs : List RowD} {j : Nat} {r : RowD}, rs.Pairwise RowD.apart → rs[j]? = some r → (∀ x ∈ rs, x.ok w) → Le (rb r.p) w w' → ∀ (k : Nat) (x : RowD), rs[k]? = some x → k ≠ j → x.ok w' := by
  intro rs j r hp hj hok hl k x hk hne
  refine Row.le (hok x (List.mem_of_getElem? hk)) hl fun b hb hb' => ?_
  obtain ⟨hk1, rfl⟩ := List.getElem?_eq_some_iff.1 hk
  obtain ⟨hj1, rfl⟩ := List.getElem?_eq_some_iff.1 hj
  rw [List.pairwise_iff_getElem] at hp
  rcases Nat.lt_or_ge k j with h | h
  · exact hp k j hk1 hj1 h b hb hb'
  · exact hp j k hj1 hk1 (by omega) b hb' hb
/-- one of the many written -/
theorem Sep.wrote (h : Sep w0 w cs) (i : Nat) (hi : cs[i]? = some (pMany rs)) (hj : rs[j]? = some r) (hp : r'.p = r.p) (hl : Le (rb r.p) w w') (hr : r'.ok w') : Sep w0 w' (cs.set i (pMany (rs.set j r'))) := by
  have hok := h.at (c := pMany rs) i hi
  have hfeet : ∀ x, x ∈ (pMany (rs.set j r')).foot → x ∈ (pMany rs).foot := by
    intro x hx
    obtain ⟨y, hy, hxy⟩ := List.mem_flatMap.1 hx
    rcases List.mem_or_eq_of_mem_set hy with hy | hy
    · exact List.mem_flatMap.2 ⟨y, hy, hxy⟩
    · exact List.mem_flatMap.2 ⟨r, List.mem_of_getElem? hj, by rw [← hp, ← hy]; exact hxy⟩
  refine h.upd i hi ⟨hl.mono fun x hx _ => List.mem_flatMap.2 ⟨r, List.mem_of_getElem? hj, hx⟩, fun x hx _ => hfeet x hx⟩ ⟨fun x hx => ?_, ?_⟩
  · obtain ⟨k, hk, rfl⟩ := List.mem_iff_getElem.1 hx
    rw [List.getElem_set]
    split
    · exact hr
    · rename_i hne
      refine rows_le hok.2 hj hok.1 hl k _ (List.getElem?_eq_getElem (by simpa using hk)) (fun e => hne e.symm)
  · exact set_apart hok.2 hj (fun x hx y hy => by rw [hp]; exact hx y hy) (fun x hx y hy => hx y (by rwa [hp] at hy))
/-- what lies in one of the many -/
theorem RowD.im (h : r.ok w) : Im [] w r.p r.xs := Row.im h (by simp)
end
section
variable {P : Program} {n : Nat} {ds : Ctx} {ops : Array Oper} {Q : Exit → Ctx → Env → World → Prop} {rest : List Oper} {σ : GE} {w0 w : World} {v : Value} {ty t : TypeId} {pos : String} {af : Array Edge} {x y : Operand} {zv : Value} {sz bytes : Nat} {k j : Nat} {cs : List Plot} {rs : List RowD} {r : RowD}
end
/-! ## []byte(s), by whatever guard -/
section
variable {P : Program} {n : Nat} {ds : Ctx} {ops : Array Oper} {Q : Exit → Ctx → Env → World → Prop} {rest : List Oper} {σ : GE} {w : World} {d : Nat} {ty t t' e : TypeId} {pos : String} {af : Array Edge} {x : Operand} {s : List UInt8} {j dj : Nat} {want b c : Bool}
end
end Go.Sv

/-
  Events: what they are, which may be, how they lie in memory.
-/
set_option linter.unusedSimpArgs false
set_option linter.unusedVariables false
set_option linter.unnecessarySimpa false
namespace Go.Proofs.YtkclldfejembnaaDoor
open Go Go.Sv Go.RowKit

structure Ev where
  kind : Int
  name : List UInt8
  text : List UInt8
  attrs : List At
  deriving DecidableEq
def Ev.cells (e : Ev) (p : Option Addr) (c : Nat) : List Value := [int e.kind, str e.name, str e.text, .slice p e.attrs.length c]
structure EvM where
  e : Ev
  p : Option Addr
  c : Nat
def EvM.cells (m : EvM) : List Value := m.e.cells m.p m.c
theorem EvM.len (m : EvM) : m.cells.length = 4 := rfl
structure Ev.small (t : Ev) : Prop where
  name : t.name.length ≤ 1048576
  text : t.text.length ≤ 1048576
  attrs : t.attrs.length ≤ 1048576
  each : ∀ x ∈ t.attrs, x.small
def Ev.wt (t : Ev) : Nat := 4 + t.name.length + t.text.length + (t.attrs.map At.wt).sum
def evw (ms : List EvM) : Nat := (ms.map fun m => m.e.wt).sum
/-- a list of events that can be read -/
structure Evs (w : World) (p : Option Addr) (ms : List EvM) : Prop where
  im : Im [] w p (ms.flatMap EvM.cells)
  each : ∀ m ∈ ms, Im [] w m.p (m.e.attrs.flatMap At.cells)
theorem Evs.frm {w w' : World} {p : Option Addr} {ms : List EvM} (h : Evs w p ms) (hf : Frm w w') : Evs w' p ms := ⟨h.im.frm hf, fun m hm => (h.each m hm).frm hf⟩
/-- where an event's attributes lie, as a row -/
def EvM.row (m : EvM) : RowD := ⟨2, m.p, m.e.attrs.length, m.c, m.e.attrs.flatMap At.cells⟩
/-- a list of events in memory of one's own -/
def evP (q : Option Addr) (c : Nat) (ms : List EvM) : List Plot := [pRow 4 q ms.length c (ms.flatMap EvM.cells), pMany (ms.map EvM.row)]
theorem Sep.evs {w0 w : World} {cs : List Plot} {q : Option Addr} {n c : Nat} {ms : List EvM} (h : Sep w0 w cs) (i j : Nat) (hi : cs[i]? = some (pRow 4 q n c (ms.flatMap EvM.cells))) (hj : cs[j]? = some (pMany (ms.map EvM.row))) : Evs w q ms :=
  ⟨h.im i hi, fun m hm => RowD.im (h.many j hj m.row (List.mem_map_of_mem hm))⟩
def EvM.es (ms : List EvM) : List Ev := ms.map EvM.e

/-- the token that opens it -/
def Ev.start (e : Ev) : Tok := ⟨1, e.name, [], e.attrs, false, 0, 0, 0⟩
def Ev.close (e : Ev) : Tok := ⟨2, e.name, [], [], false, 0, 0, 0⟩
end Go.Proofs.YtkclldfejembnaaDoor

/-
  Package link: schemes; what is stripped.
-/
set_option linter.unusedSimpArgs false
set_option linter.unusedVariables false
set_option linter.unnecessarySimpa false
namespace Go.Sv
open Go Go.RowKit
section
variable {P : Program} {n : Nat} {ds : Ctx} {ops : Array Oper} {Q : Exit → Ctx → Env → World → Prop} {rest : List Oper} {σ : GE} {w : World} {d : Nat} {ty t e : TypeId} {pos : String} {af : Array Edge} {x y : Operand} {zv : Value} {size bytes c : Nat} {kl kc : IntKind}
end
end Go.Sv
namespace Go.Proofs.YtkclldfejembnaaDoor
open Go Go.Sv Go.RowKit

def schB (c : Nat) : Bool := letterR c || digitR c || decide (c = 43 ∨ c = 45 ∨ c = 46)













/-- a scheme's end, behind its first byte -/
def schF : List UInt8 → Nat → Nat × Bool
  | [], _ => (0, false)
  | c :: t, i => if c.toNat = 58 then (i, true) else if schB c.toNat then schF t (i + 1) else (0, false)
def schemeR (l : List UInt8) : Nat × Bool := if l = [] ∨ letterR (at0 l 0) = false then (0, false) else schF (l.drop 1) 1
/-- what is left of runes behind leading blanks and controls -/
def cutL (rs : List Nat) : List Nat := rs.dropWhile fun r => decide (r ≤ 32)
def cutT (rs : List Nat) : List Nat := (cutL rs.reverse).reverse
def keepN (rs : List Nat) : List Nat := rs.filter fun r => decide (r ≠ 9 ∧ r ≠ 10 ∧ r ≠ 13)
def stripN (rs : List Nat) : List Nat := keepN (cutT (cutL rs))
def stripR (l : List UInt8) : List UInt8 := (stripN (runesN l)).flatMap encR
end Go.Proofs.YtkclldfejembnaaDoor

/-
  Package link: Scheme, percent escapes.
-/
set_option linter.unusedSimpArgs false
set_option linter.unusedVariables false
set_option linter.unnecessarySimpa false
namespace Go.Sv
open Go Go.RowKit
end Go.Sv
namespace Go.Proofs.YtkclldfejembnaaDoor
open Go Go.Sv Go.RowKit

/-- two hexadecimal digits ahead? -/
def codedR (l : List UInt8) (i : Nat) : Bool := decide (i + 2 < l.length) && hexR (at0 l (i + 1)) && hexR (at0 l (i + 2))































def codedS (t : List UInt8) : Bool := decide (1 < t.length) && hexR (at0 t 0) && hexR (at0 t 1)
def badB : List UInt8 := [34, 60, 62, 92, 94, 96, 123, 124, 125]
def escB (c : Nat) (coded : Bool) : Bool := decide (c ≤ 32) || decide (127 ≤ c) || decide (UInt8.ofNat c ∈ badB) || (decide (c = 37) && !coded)
def digs : List UInt8 := [48, 49, 50, 51, 52, 53, 54, 55, 56, 57, 65, 66, 67, 68, 69, 70]
def pct (c : Nat) : List UInt8 := [37, digs[c / 16]?.getD 0, digs[c % 16]?.getD 0]
def encC (c : Nat) (coded : Bool) : List UInt8 := if escB c coded then pct c else [UInt8.ofNat c]
def encL : List UInt8 → List UInt8
  | [] => []
  | c :: t => encC c.toNat (codedS t) ++ encL t
def encodeR (s : List UInt8) : List UInt8 := encL (mendR s)
end Go.Proofs.YtkclldfejembnaaDoor

/-
  Package link: without percent escapes.
-/
set_option linter.unusedSimpArgs false
set_option linter.unusedVariables false
set_option linter.unnecessarySimpa false
namespace Go.Sv
open Go Go.RowKit
section
variable {P : Program} {σ : GE} {w0 : World} {d : Nat} {ty t e : TypeId} {pos : String} {af : Array Edge} {x : Operand} {zv v : Value} {bytes : Nat} {kk : IntKind} {a : Int} {K : Env → World → Prop}
end
end Go.Sv
namespace Go.Proofs.YtkclldfejembnaaDoor
open Go Go.Sv Go.RowKit

def valN (c : Nat) : Nat := (valueR c).toNat
def decL : List UInt8 → List UInt8
  | [] => []
  | c :: t => if c = 37 ∧ codedS t = true then UInt8.ofNat (16 * valN (at0 t 0) + valN (at0 t 1)) :: decL (t.drop 2) else c :: decL t
termination_by l => l.length
decreasing_by
  · simp; omega
  · simp
def decodeR (s : List UInt8) : List UInt8 := mendR (decL (mendR s))
end Go.Proofs.YtkclldfejembnaaDoor

/-
  Package sieveref12: Encode, Decode.
-/
set_option linter.unusedSimpArgs false
set_option linter.unusedVariables false
set_option linter.unnecessarySimpa false
namespace Go.Sv
open Go Go.RowKit
section
variable {P : Program} {n : Nat} {ds : Ctx} {ops : Array Oper} {Q : Exit → Ctx → Env → World → Prop} {rest : List Oper} {σ : GE} {w : World} {d : Nat} {ty t t' e : TypeId} {pos : String} {af : Array Edge} {x : Operand} {zv : Value} {bytes : Nat}
def enum (vs : List Value) (j : Nat) : List (Nat × Value) := (vs.zipIdx j).map fun p => (p.2, p.1)
theorem fill_enum : ∀ (vs : List Value) (j : Nat) (z : List Value), (∀ v ∈ vs, v.cells = #[v]) → j + vs.length ≤ z.length →
    Instr.fill (fun i => some (i * 1, 1)) z.toArray (enum vs j) = some (z.take j ++ vs ++ z.drop (j + vs.length)).toArray
  | [], j, z, _, _ => by simp [enum, Instr.fill]
  | v :: vs, j, z, hv, hj => by
    have h1 := hv v List.mem_cons_self
    simp only [List.length_cons] at hj
    have ih := fill_enum vs (j + 1) (z.set j v) (fun u hu => hv u (List.mem_cons_of_mem _ hu)) (by simp; omega)
    simp only [enum, List.zipIdx_cons, List.map_cons, Instr.fill]
    rw [h1]
    simp only [List.size_toArray, List.length_cons, List.length_nil, Nat.mul_one]
    rw [if_neg (by simp; omega)]
    have e : (#[v] : Array Value).zipIdx.foldl (fun cs (x : Value × Nat) => match x with | (c, k) => cs.setIfInBounds (j + k) c) z.toArray = (z.set j v).toArray := by
      simp
    rw [e]
    rw [enum] at ih
    simp only [Nat.mul_one] at ih
    rw [ih]
    congr 2
    have hjl : j < z.length := by omega
    rw [List.take_succ_eq_append_getElem (by simpa using hjl), List.take_set_of_le (Nat.le_refl _), List.drop_set_of_lt (by omega)]
    simp only [List.getElem_set_self, List.append_assoc, List.cons_append, List.nil_append, List.length_cons]
    rw [show j + 1 + vs.length = j + (vs.length + 1) from by omega]
/-- a slice written out, of values of one cell each -/
theorem wlbsn [hu : Und P t (.slice e)] [hi : Inf P e zv 1 bytes] {ps : List (Nat × Operand)} (vs : List Value) (k : Nat) (h : ∀ b w', w.heap.size ≤ b → Own w' b vs → Frm w w' → WL P n ds ops Q rest (real (updG σ d ⟨.slice (pb b) k k, true⟩)) w')
    (hps : ps.map (fun p => (p.1, evl (real σ) p.2)) = enum vs 0 := by rfl) (hk : vs.length = k := by rfl) (h1 : ∀ v ∈ vs, v.cells = #[v]) (hz : zv.cells.size = 1 := by rfl) (hk1 : k ≤ 16777216 := by decide) (hk0 : k ≠ 0 := by decide) :
    WL P n ds ops Q (⟨some d, .buildSlice t k ps.toArray, ty, pos, af, none⟩ :: rest) (real σ) w := by
  subst hk
  refine wl (h w.heap.size (w.alloc (.cells vs.toArray e)) (Nat.le_refl _) (by have := own_alloc w vs.toArray e; simpa using this) (frm_alloc _ _)) (Y.val ?_)
  have hf := fill_enum vs 0 ((Array.range (vs.length * 1)).map (zv.cells[· % zv.cells.size]!)).toList h1 (by simp)
  have hpa : (ps.toArray.map fun (x : Nat × Operand) => match x with | (i, x) => (i, evl (real σ) x)).toList = enum vs 0 := by rw [← hps]; simp
  simp only [execOp, Instr.buildSlice, Sem.run_bind, underlying, run_program, Result.andThen_ok, hu.ok, Sem.run_pure, run_sizeOf (P := P) (t := e), Nat.mul_one]
  rw [if_neg (by omega), if_neg hk0]
  simp only [Sem.run_bind, Sem.run_pure, Result.andThen_ok, run_zeroValue (P := P) (t := e)]
  rw [hpa]
  simp only [Array.toArray_toList, Nat.mul_one] at hf
  rw [hf]
  have hz0 : (vs ++ List.drop vs.length (List.map (fun x => zv.cells[x % zv.cells.size]!) (List.range vs.length))) = vs := by
    rw [List.drop_eq_nil_of_le (by simp), List.append_nil]
  simp [newRow, hz0]
end
end Go.Sv
namespace Go.Proofs.YtkclldfejembnaaDoor
open Go Go.Sv Go.RowKit

end Go.Proofs.YtkclldfejembnaaDoor

