/-
  Texts cut and joined: what is valid stays so.
-/
import Derived.Test.YtffaoehhhdcjjaaSvPl1
set_option linter.unusedSimpArgs false
set_option linter.unusedVariables false
set_option linter.unnecessarySimpa false
namespace Go.Proofs.Ytffaoehhhdcjjaa
open Go Go.Sv Go.RowKit
theorem valid_runes {l : List UInt8} (h : validR l = true) : ∃ rs : List Nat, (∀ r ∈ rs, Good r) ∧ l = rs.flatMap encR := ⟨runesN l, runesN_good l, (mendR_id h).symm⟩
theorem at_app_l {a b : List UInt8} {i : Nat} (h : i < a.length) : at0 (a ++ b) i = at0 a i := by simp only [at0, List.getElem?_append_left h]
theorem at_app_r {a b : List UInt8} {i : Nat} (h : a.length ≤ i) : at0 (a ++ b) i = at0 b (i - a.length) := by simp only [at0, List.getElem?_append_right h]
theorem enc_hi (r : Nat) (h1 : 128 ≤ r) (h2 : r < 1114112) : ∀ i, i < (encR r).length → 128 ≤ at0 (encR r) i := by
  intro i hi
  have hlt := encN_lt r h2
  have hi' : i < (encN r).length := by rwa [encR_len] at hi
  have e : at0 (encR r) i = (encN r)[i] := by
    have := hlt _ (List.getElem_mem hi')
    simp only [at0, encR, List.getElem?_map, List.getElem?_eq_getElem hi', Option.map_some, Option.getD_some]
    exact UInt8.toNat_ofNat_of_lt' (by simpa using this)
  rw [e]
  have hm : ∀ x ∈ encN r, 128 ≤ x := by
    intro x hx
    unfold encN at hx
    repeat' split at hx
    all_goals simp only [List.mem_cons, List.not_mem_nil, or_false] at hx
    all_goals omega
  exact hm _ (List.getElem_mem hi')
theorem flat_cut : ∀ (rs : List Nat), (∀ r ∈ rs, Good r) → ∀ n : Nat, n ≤ (rs.flatMap encR).length → (n = 0 ∨ at0 (rs.flatMap encR) (n - 1) < 128) →
    ∃ ra rb : List Nat, rs = ra ++ rb ∧ (rs.flatMap encR).take n = ra.flatMap encR ∧ (rs.flatMap encR).drop n = rb.flatMap encR
  | [], _, n, hn, _ => ⟨[], [], rfl, by simp, by simp⟩
  | r :: rs, hg, n, hn, ha => by
    have hr := hg r List.mem_cons_self
    rcases Nat.eq_zero_or_pos n with rfl | hpos
    · exact ⟨[], r :: rs, rfl, by simp, by simp⟩
    · have ha' : at0 ((r :: rs).flatMap encR) (n - 1) < 128 := by rcases ha with h | h; omega; exact h
      simp only [List.flatMap_cons] at hn ha' ⊢
      have hl1 := encR_len4 r
      rcases Nat.lt_or_ge (encR r).length n with h | h
      · rw [at_app_r (by omega)] at ha'
        obtain ⟨ra, rb, h1, h2, h3⟩ := flat_cut rs (fun x hx => hg x (List.mem_cons_of_mem _ hx)) (n - (encR r).length) (by simp only [List.length_append] at hn; omega) (.inr (by rwa [show n - (encR r).length - 1 = n - 1 - (encR r).length from by omega]))
        refine ⟨r :: ra, rb, by rw [h1]; rfl, ?_, ?_⟩
        · rw [List.take_append, List.take_of_length_le (by omega), h2, List.flatMap_cons]
        · rw [List.drop_append, List.drop_eq_nil_of_le (by omega), h3, List.nil_append]
      · rw [at_app_l (by omega)] at ha'
        have hr128 : r < 128 := by
          rcases Nat.lt_or_ge r 128 with h1 | h1
          · exact h1
          · have := enc_hi r h1 hr.1 (n - 1) (by omega)
            omega
        have hlen : (encR r).length = 1 := by rw [encR_len]; unfold encN; rw [if_pos hr128]; rfl
        obtain rfl : n = 1 := by omega
        refine ⟨[r], rs, rfl, ?_, ?_⟩
        · rw [List.take_append, List.take_of_length_le (by omega), hlen]; simp
        · rw [List.drop_append, List.drop_eq_nil_of_le (by omega), hlen]; simp
theorem valid_cut {l : List UInt8} (h : validR l = true) (n : Nat) (hn : n ≤ l.length) (ha : n = 0 ∨ at0 l (n - 1) < 128) : validR (l.take n) = true ∧ validR (l.drop n) = true := by
  obtain ⟨rs, hg, rfl⟩ := valid_runes h
  obtain ⟨ra, rb, h1, h2, h3⟩ := flat_cut rs hg n hn ha
  rw [h2, h3]
  exact ⟨valid_flat _ fun r hr => hg r (by rw [h1]; exact List.mem_append_left _ hr), valid_flat _ fun r hr => hg r (by rw [h1]; exact List.mem_append_right _ hr)⟩
theorem valid_app {a b : List UInt8} (ha : validR a = true) (hb : validR b = true) : validR (a ++ b) = true := by
  obtain ⟨ra, ga, rfl⟩ := valid_runes ha
  obtain ⟨rb, gb, rfl⟩ := valid_runes hb
  rw [← List.flatMap_append]
  exact valid_flat _ fun r hr => by rcases List.mem_append.1 hr with h | h; exact ga r h; exact gb r h
theorem valid_one (c : Nat) (hc : c < 128) : validR [UInt8.ofNat c] = true := by
  have e : [UInt8.ofNat c] = [c].flatMap encR := by simp [encR, encN, hc]
  rw [e]
  exact valid_flat _ fun r hr => by simp only [List.mem_singleton] at hr; subst hr; unfold Good; omega
end Go.Proofs.Ytffaoehhhdcjjaa
