/-
  What a right piece is: its bytes, its rune, how the language's range reads it, how the library writes it.
-/
import Derived.Test.YtffaoehhhdcjjaaSvRef01c
import Derived.Test.YtffaoehhhdcjjaaSvRune
set_option linter.unusedSimpArgs false
set_option linter.unusedVariables false
set_option linter.unnecessarySimpa false
namespace Go.Proofs.Ytffaoehhhdcjjaa
open Go Go.Sv Go.RowKit

/-- the four kinds of right pieces -/
def Right (l : List UInt8) : Prop :=
  (at0 l 0 < 128 ∧ pieceR l = (((at0 l 0 : Nat) : Int), 1, true))
  ∨ (1 < l.length ∧ 194 ≤ at0 l 0 ∧ at0 l 0 ≤ 223 ∧ 128 ≤ at0 l 1 ∧ at0 l 1 ≤ 191 ∧ pieceR l = (((at0 l 0 % 32 * 64 + at0 l 1 % 64 : Nat) : Int), 2, true))
  ∨ (2 < l.length ∧ 224 ≤ at0 l 0 ∧ at0 l 0 ≤ 239 ∧ 128 ≤ at0 l 1 ∧ at0 l 1 ≤ 191 ∧ (at0 l 0 = 224 → 160 ≤ at0 l 1) ∧ (at0 l 0 = 237 → at0 l 1 ≤ 159) ∧ 128 ≤ at0 l 2 ∧ at0 l 2 ≤ 191 ∧ pieceR l = ((((at0 l 0 % 16 * 64 + at0 l 1 % 64) * 64 + at0 l 2 % 64 : Nat) : Int), 3, true))
  ∨ (3 < l.length ∧ 240 ≤ at0 l 0 ∧ at0 l 0 ≤ 244 ∧ 128 ≤ at0 l 1 ∧ at0 l 1 ≤ 191 ∧ (at0 l 0 = 240 → 144 ≤ at0 l 1) ∧ (at0 l 0 = 244 → at0 l 1 ≤ 143) ∧ 128 ≤ at0 l 2 ∧ at0 l 2 ≤ 191 ∧ 128 ≤ at0 l 3 ∧ at0 l 3 ≤ 191 ∧ pieceR l = (((((at0 l 0 % 8 * 64 + at0 l 1 % 64) * 64 + at0 l 2 % 64) * 64 + at0 l 3 % 64 : Nat) : Int), 4, true))

theorem secR (c d : Nat) (h : secondR c d = true) : 128 ≤ d ∧ d ≤ 191 ∧ (c = 224 → 160 ≤ d) ∧ (c = 237 → d ≤ 159) ∧ (c = 240 → 144 ≤ d) ∧ (c = 244 → d ≤ 143) := by
  unfold secondR at h
  repeat' split at h
  all_goals simp only [Bool.and_eq_true, decide_eq_true_eq] at h
  all_goals omega

theorem right_of (l : List UInt8) (h : (pieceR l).2.2 = true) : Right l := by
  have hg2 : (goodR l).2 = true := h
  have hs0 : ¬ sizeR (at0 l 0) = 0 := by
    intro h0
    unfold goodR at hg2; rw [if_pos h0] at hg2; cases hg2
  have hg : goodR l = (goodF l (sizeR (at0 l 0)) 4 1, decide (goodF l (sizeR (at0 l 0)) 4 1 = sizeR (at0 l 0))) := by unfold goodR; rw [if_neg hs0]
  have he : goodF l (sizeR (at0 l 0)) 4 1 = sizeR (at0 l 0) := by
    rw [hg] at hg2; simpa using hg2
  have hp : pieceR l = (((accR l (sizeR (at0 l 0) - 1) 1 (firstR (at0 l 0) (sizeR (at0 l 0))) : Nat) : Int), sizeR (at0 l 0), true) := by
    have hg' : goodR l = (sizeR (at0 l 0), true) := by rw [hg, he]; simp
    unfold pieceR
    rw [hg']
    simp [hs0]
  have hc := at0_lt l 0
  have hsz : (sizeR (at0 l 0) = 1 ∧ at0 l 0 < 128) ∨ (sizeR (at0 l 0) = 2 ∧ 194 ≤ at0 l 0 ∧ at0 l 0 ≤ 223) ∨ (sizeR (at0 l 0) = 3 ∧ 224 ≤ at0 l 0 ∧ at0 l 0 ≤ 239) ∨ (sizeR (at0 l 0) = 4 ∧ 240 ≤ at0 l 0 ∧ at0 l 0 ≤ 244) := by
    revert hs0
    unfold sizeR
    repeat' split
    all_goals omega
  rcases hsz with ⟨e, h1⟩ | ⟨e, h1, h2⟩ | ⟨e, h1, h2⟩ | ⟨e, h1, h2⟩
  · left
    refine ⟨h1, ?_⟩
    rw [hp, e]; rfl
  · right; left
    rw [e] at he hp
    rw [goodF] at he
    split at he
    · rename_i hk
      split at he
      · omega
      · rename_i hk2
        have hs : secondR (at0 l 0) (at0 l 1) = true := by
          cases hh : secondR (at0 l 0) (at0 l 1) with
          | true => rfl
          | false => exact absurd (.inl ⟨rfl, hh⟩) hk2
        have := secR _ _ hs
        exact ⟨hk.2, h1, h2, this.1, this.2.1, hp⟩
    · omega
  · right; right; left
    rw [e] at he hp
    rw [goodF] at he
    split at he
    · rename_i hk
      split at he
      · omega
      · rename_i hk2
        have hs : secondR (at0 l 0) (at0 l 1) = true := by
          cases hh : secondR (at0 l 0) (at0 l 1) with
          | true => rfl
          | false => exact absurd (.inl ⟨rfl, hh⟩) hk2
        have := secR _ _ hs
        rw [goodF] at he
        split at he
        · rename_i hk3
          split at he
          · omega
          · rename_i hk4
            simp only [Nat.reduceAdd] at hk4
            exact ⟨hk3.2, h1, h2, this.1, this.2.1, this.2.2.1, this.2.2.2.1, by omega, by omega, hp⟩
        · omega
    · omega
  · right; right; right
    rw [e] at he hp
    rw [goodF] at he
    split at he
    · rename_i hk
      split at he
      · omega
      · rename_i hk2
        have hs : secondR (at0 l 0) (at0 l 1) = true := by
          cases hh : secondR (at0 l 0) (at0 l 1) with
          | true => rfl
          | false => exact absurd (.inl ⟨rfl, hh⟩) hk2
        have := secR _ _ hs
        rw [goodF] at he
        split at he
        · rename_i hk3
          split at he
          · omega
          · rename_i hk4
            rw [goodF] at he
            split at he
            · rename_i hk5
              split at he
              · omega
              · rename_i hk6
                simp only [Nat.reduceAdd] at hk4 hk6
                exact ⟨hk5.2, h1, h2, this.1, this.2.1, this.2.2.2.2.1, this.2.2.2.2.2, by omega, by omega, by omega, by omega, hp⟩
            · omega
        · omega
    · omega

theorem get_at0 (l : List UInt8) (i k : Nat) : (ByteArray.get! ⟨l.toArray⟩ (i + k)).toNat = at0 (l.drop i) k := by
  simp only [at0, List.getElem?_drop, ByteArray.get!]
  congr 1
  simp [getElem!_def]
  cases l[i + k]? <;> rfl
theorem decode_right (l : List UInt8) (i : Nat) (hr : Right (l.drop i)) : Utf8.decode ⟨l.toArray⟩ i = ((pieceR (l.drop i)).1.toNat, (pieceR (l.drop i)).2.1) := by
  have hd : ∀ k, (k < (l.drop i).length) = (i + k < l.length) := fun k => by simp; omega
  unfold Utf8.decode
  simp only [get_at0, size_str]
  unfold Right at hr
  simp only [hd] at hr
  generalize at0 (l.drop i) 0 = b0 at *
  generalize at0 (l.drop i) 1 = b1 at *
  generalize at0 (l.drop i) 2 = b2 at *
  generalize at0 (l.drop i) 3 = b3 at *
  rcases hr with ⟨h1, hp⟩ | ⟨hl, h1, h2, h3, h4, hp⟩ | ⟨hl, h1, h2, h3, h4, h5, h6, h7, h8, hp⟩ | ⟨hl, h1, h2, h3, h4, h5, h6, h7, h8, h9, h10, hp⟩
  · rw [hp, if_pos h1]; rfl
  · have e1 : b0 / 32 = 6 := by omega
    have e2 : b1 / 64 = 2 := by omega
    rw [hp, if_neg (by omega), if_pos (by simp [e1, e2, hl]), if_pos (by omega)]; rfl
  · have e1 : ¬ b0 / 32 = 6 := by omega
    have e2 : b1 / 64 = 2 := by omega
    have e3 : b0 / 16 = 14 := by omega
    have e4 : b2 / 64 = 2 := by omega
    have hl1 : i + 1 < l.length := by omega
    have ec : b0 % 16 * 4096 + b1 % 64 * 64 + b2 % 64 = (b0 % 16 * 64 + b1 % 64) * 64 + b2 % 64 := by omega
    rw [hp, if_neg (by omega), if_neg (by simp [e1]), if_pos (by simp [e3, e2, e4, hl, hl1]), ec, if_pos]
    · rfl
    · simp only [Utf8.valid, Bool.and_eq_true, Bool.or_eq_true, decide_eq_true_eq]
      omega
  · have e1 : ¬ b0 / 32 = 6 := by omega
    have e2 : b1 / 64 = 2 := by omega
    have e3 : ¬ b0 / 16 = 14 := by omega
    have e4 : b2 / 64 = 2 := by omega
    have e5 : b0 / 8 = 30 := by omega
    have e6 : b3 / 64 = 2 := by omega
    have hl1 : i + 1 < l.length := by omega
    have hl2 : i + 2 < l.length := by omega
    have ec : b0 % 8 * 262144 + b1 % 64 * 4096 + b2 % 64 * 64 + b3 % 64 = ((b0 % 8 * 64 + b1 % 64) * 64 + b2 % 64) * 64 + b3 % 64 := by omega
    rw [hp, if_neg (by omega), if_neg (by simp [e1]), if_neg (by simp [e3]), if_pos (by simp [e5, e2, e4, e6, hl, hl1, hl2]), ec, if_pos]
    · rfl
    · simp only [Utf8.valid, Bool.and_eq_true, Bool.or_eq_true, decide_eq_true_eq]
      omega

theorem ofN (c : UInt8) (n : Nat) (h : n = c.toNat) : UInt8.ofNat n = c := by subst h; exact UInt8.ofNat_toNat
/-- a right piece's rune is written as the piece's bytes -/
theorem enc_right (l : List UInt8) (h0 : 0 < l.length) (hr : Right l) : ∃ r : Nat, (pieceR l).1 = (r : Int) ∧ r < 1114112 ∧ ¬ (55296 ≤ r ∧ r ≤ 57343) ∧ encR r = l.take (pieceR l).2.1 ∧ (r < 128 → (pieceR l).2.1 = 1 ∧ at0 l 0 = r) ∧ (128 ≤ r → ∀ k, k < (pieceR l).2.1 → 128 ≤ at0 l k) := by
  have hb0 := at0_lt l 0
  have hb1 := at0_lt l 1
  have hb2 := at0_lt l 2
  have hb3 := at0_lt l 3
  rcases hr with ⟨h1, hp⟩ | ⟨hl, h1, h2, h3, h4, hp⟩ | ⟨hl, h1, h2, h3, h4, h5, h6, h7, h8, hp⟩ | ⟨hl, h1, h2, h3, h4, h5, h6, h7, h8, h9, h10, hp⟩
  · obtain ⟨a, l', rfl⟩ : ∃ a l', l = a :: l' := by
      cases l with
      | nil => simp at h0
      | cons a l' => exact ⟨a, l', rfl⟩
    have ea : at0 (a :: l') 0 = a.toNat := rfl
    refine ⟨at0 (a :: l') 0, by rw [hp], by omega, by omega, ?_, fun _ => ⟨by rw [hp], rfl⟩, fun h => by omega⟩
    rw [hp, encR, encN, if_pos h1]
    simp only [List.map_cons, List.map_nil, List.take_succ_cons, List.take_zero]
    rw [ofN a _ ea]
  · obtain ⟨a, b, l', rfl⟩ : ∃ a b l', l = a :: b :: l' := by
      match l, hl with
      | a :: b :: l', _ => exact ⟨a, b, l', rfl⟩
    have ea : at0 (a :: b :: l') 0 = a.toNat := rfl
    have eb : at0 (a :: b :: l') 1 = b.toNat := rfl
    generalize hr : at0 (a :: b :: l') 0 % 32 * 64 + at0 (a :: b :: l') 1 % 64 = r at *
    refine ⟨r, by rw [hp], by omega, by omega, ?_, fun h => by omega, fun _ k hk => ?_⟩
    · rw [hp, encR, encN, if_neg (by omega), if_pos (by omega)]
      simp only [List.map_cons, List.map_nil, List.take_succ_cons, List.take_zero]
      rw [ofN a _ (by omega), ofN b _ (by omega)]
    · rw [hp] at hk
      have : k = 0 ∨ k = 1 := by simp only [] at hk; omega
      rcases this with rfl | rfl <;> omega
  · obtain ⟨a, b, c, l', rfl⟩ : ∃ a b c l', l = a :: b :: c :: l' := by
      match l, hl with
      | a :: b :: c :: l', _ => exact ⟨a, b, c, l', rfl⟩
    have ea : at0 (a :: b :: c :: l') 0 = a.toNat := rfl
    have eb : at0 (a :: b :: c :: l') 1 = b.toNat := rfl
    have ec : at0 (a :: b :: c :: l') 2 = c.toNat := rfl
    generalize hr : (at0 (a :: b :: c :: l') 0 % 16 * 64 + at0 (a :: b :: c :: l') 1 % 64) * 64 + at0 (a :: b :: c :: l') 2 % 64 = r at *
    refine ⟨r, by rw [hp], by omega, by omega, ?_, fun h => by omega, fun _ k hk => ?_⟩
    · rw [hp, encR, encN, if_neg (by omega), if_neg (by omega), if_pos (by omega)]
      simp only [List.map_cons, List.map_nil, List.take_succ_cons, List.take_zero]
      rw [ofN a _ (by omega), ofN b _ (by omega), ofN c _ (by omega)]
    · rw [hp] at hk
      have : k = 0 ∨ k = 1 ∨ k = 2 := by simp only [] at hk; omega
      rcases this with rfl | rfl | rfl <;> omega
  · obtain ⟨a, b, c, d, l', rfl⟩ : ∃ a b c d l', l = a :: b :: c :: d :: l' := by
      match l, hl with
      | a :: b :: c :: d :: l', _ => exact ⟨a, b, c, d, l', rfl⟩
    have ea : at0 (a :: b :: c :: d :: l') 0 = a.toNat := rfl
    have eb : at0 (a :: b :: c :: d :: l') 1 = b.toNat := rfl
    have ec : at0 (a :: b :: c :: d :: l') 2 = c.toNat := rfl
    have ed : at0 (a :: b :: c :: d :: l') 3 = d.toNat := rfl
    generalize hr : ((at0 (a :: b :: c :: d :: l') 0 % 8 * 64 + at0 (a :: b :: c :: d :: l') 1 % 64) * 64 + at0 (a :: b :: c :: d :: l') 2 % 64) * 64 + at0 (a :: b :: c :: d :: l') 3 % 64 = r at *
    refine ⟨r, by rw [hp], by omega, by omega, ?_, fun h => by omega, fun _ k hk => ?_⟩
    · rw [hp, encR, encN, if_neg (by omega), if_neg (by omega), if_neg (by omega)]
      simp only [List.map_cons, List.map_nil, List.take_succ_cons, List.take_zero]
      rw [ofN a _ (by omega), ofN b _ (by omega), ofN c _ (by omega), ofN d _ (by omega)]
    · rw [hp] at hk
      have : k = 0 ∨ k = 1 ∨ k = 2 ∨ k = 3 := by simp only [] at hk; omega
      rcases this with rfl | rfl | rfl | rfl <;> omega

/-- of a text that is right the first piece is, and the rest is right -/
theorem valid_step (l : List UInt8) (h0 : 0 < l.length) (h : validR l = true) : Right l ∧ validR (l.drop (pieceR l).2.1) = true := by
  have hp := readS_piece l h0
  have hv := validS_cons l h0
  rw [valid_eq, valid_eq, h, hp] at hv
  dsimp only at hv
  by_cases hw : whatR l = 0
  · rw [if_neg (by simpa using hw)] at hv
    exact ⟨right_of l ((whatR_zero l).1 hw), hv.symm⟩
  · rw [if_pos hw] at hv; cases hv
end Go.Proofs.Ytffaoehhhdcjjaa
