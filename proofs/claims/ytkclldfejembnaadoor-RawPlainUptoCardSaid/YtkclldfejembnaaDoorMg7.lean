/-
  Our texts SvRwB, SvRwL, joined.
-/
import Derived.Test.YtkclldfejembnaaDoorMg6
/-
  Package raw, in plain terms: a script without <!-- ; what is content stays content.
-/
set_option linter.unusedSimpArgs false
set_option linter.unusedVariables false
set_option linter.unnecessarySimpa false
namespace Go.Proofs.YtkclldfejembnaaDoor
open Go Go.Sv Go.RowKit

def scriptN : List UInt8 := [115, 99, 114, 105, 112, 116]
def patN : List Nat := [60, 47, 115, 99, 114, 105, 112, 116]
def MatchAt (L : List Nat) (i : Nat) : Prop := (∀ j, j < 8 → (L[i + j]?).map lowN = patN[j]?) ∧ ∃ c, L[i + 8]? = some c ∧ stopN c = true
def Dead (L : List Nat) (i : Nat) : Prop := ∀ ext, ¬ MatchAt (L ++ ext) i
def NoB (L : List Nat) : Prop := ∀ pre post, L ≠ pre ++ begN ++ post
theorem Dead.more {L : List Nat} {i : Nat} (h : Dead L i) (m : List Nat) : Dead (L ++ m) i := fun ext => by rw [List.append_assoc]; exact h _
theorem NoB.pre {L m : List Nat} (h : NoB (L ++ m)) : NoB L := fun p q e => h p (q ++ m) (by rw [e, List.append_assoc])
structure CP (s : Sc) : Prop where
  part : s.part = 0
  dash : s.dash ≤ 3
  suf : ∃ pre, s.sure = pre ++ begN.take s.dash
theorem turnP_zero (t : List Nat) (r : Nat) : turnP 0 t r = 0 := by
  unfold turnP
  split
  · rw [if_neg (by omega), if_neg (by omega)]
  · rfl
theorem cont_cp {s : Sc} {r : Nat} (h : CP s) (hno : NoB (s.sure ++ [r])) : CP (contR 3 s r) := by
  obtain ⟨h1, h2, pre, h3⟩ := h
  have e : contR 3 s r = { s with sure := s.sure ++ [r], tail := turnT s.tail r, part := (opensP s.dash r).1, dash := (opensP s.dash r).2 } := by
    unfold contR
    rw [if_pos rfl, h1, turnP_zero]
    rfl
  have key : (opensP s.dash r).1 = 0 ∧ (opensP s.dash r).2 ≤ 3 ∧ ∃ pre', s.sure ++ [r] = pre' ++ begN.take (opensP s.dash r).2 := by
    unfold opensP
    by_cases hd : begN.getD s.dash 0 = r
    · have e1 : opensD s.dash r = s.dash + 1 := by unfold opensD; rw [if_pos hd]
      rw [e1]
      have h4 : s.dash = 0 ∨ s.dash = 1 ∨ s.dash = 2 ∨ s.dash = 3 := by omega
      rcases h4 with h4 | h4 | h4 | h4 <;> rw [h4] at hd h3 ⊢ <;> subst hd
      · exact ⟨rfl, by decide, s.sure, rfl⟩
      · exact ⟨rfl, by decide, pre, by rw [h3, List.append_assoc]; rfl⟩
      · exact ⟨rfl, by decide, pre, by rw [h3, List.append_assoc]; rfl⟩
      · refine absurd (show s.sure ++ [begN.getD 3 0] = pre ++ begN ++ [] from ?_) (hno pre [])
        rw [h3, List.append_assoc, List.append_nil]; rfl
    · by_cases h6 : r = 60
      · have e1 : opensD s.dash r = 1 := by unfold opensD; rw [if_neg hd, if_pos h6]
        rw [e1, h6]
        exact ⟨rfl, by decide, s.sure, rfl⟩
      · have e1 : opensD s.dash r = 0 := by unfold opensD; rw [if_neg hd, if_neg h6]
        rw [e1]
        exact ⟨rfl, by decide, s.sure ++ [r], (List.append_nil _).symm⟩
  rw [e]
  exact ⟨key.1, key.2.1, key.2.2⟩
theorem conts_cp : ∀ (l : List Nat) (s : Sc), CP s → NoB (s.sure ++ l) → CP (l.foldl (contR 3) s)
  | [], s, h, _ => h
  | r :: l, s, h, hno => by
    rw [List.foldl_cons]
    have hno' : NoB ((s.sure ++ [r]) ++ l) := by rw [List.append_assoc]; exact hno
    exact conts_cp l _ (cont_cp h hno'.pre) (by rw [cont_sure]; exact hno')
structure InvP (s : Sc) (L : List Nat) : Prop where
  all : s.sure ++ s.held = L
  cp : CP s
  held : s.held.length ≤ 8 ∧ s.held.map lowN = patN.take s.held.length
  dead : ∀ i, i < s.sure.length → Dead L i
theorem low60 {r : Nat} : lowN r = 60 ↔ r = 60 := by
  unfold lowN upperR
  split
  · rename_i h
    simp only [Bool.and_eq_true, decide_eq_true_eq] at h
    omega
  · exact Iff.rfl
theorem goes_iff (s : Sc) (r : Nat) : goesR scriptN s r = true ↔ s.held.length < 8 ∧ patN[s.held.length]? = some (lowN r) := by
  unfold goesR
  simp only [Bool.and_eq_true, decide_eq_true_eq]
  constructor
  · rintro ⟨h1, h2⟩
    have h1' : s.held.length < 8 := h1
    refine ⟨h1', ?_⟩
    rw [h2]
    generalize s.held.length = k at *
    have h4 : k = 0 ∨ k = 1 ∨ k = 2 ∨ k = 3 ∨ k = 4 ∨ k = 5 ∨ k = 6 ∨ k = 7 := by omega
    rcases h4 with rfl | rfl | rfl | rfl | rfl | rfl | rfl | rfl <;> rfl
  · rintro ⟨h1, h2⟩
    refine ⟨h1, ?_⟩
    generalize s.held.length = k at *
    have h4 : k = 0 ∨ k = 1 ∨ k = 2 ∨ k = 3 ∨ k = 4 ∨ k = 5 ∨ k = 6 ∨ k = 7 := by omega
    rcases h4 with rfl | rfl | rfl | rfl | rfl | rfl | rfl | rfl <;> exact (Option.some.inj h2).symm
theorem pat_zero {j : Nat} (h : patN[j]? = some 60) : j = 0 := by
  have h8 : j < 8 := (List.getElem?_eq_some_iff.1 h).1
  have h4 : j = 0 ∨ j = 1 ∨ j = 2 ∨ j = 3 ∨ j = 4 ∨ j = 5 ∨ j = 6 ∨ j = 7 := by omega
  rcases h4 with rfl | rfl | rfl | rfl | rfl | rfl | rfl | rfl <;> first | rfl | (exfalso; revert h; decide)
theorem dead_head {L : List Nat} {i x : Nat} (h : L[i]? = some x) (hx : lowN x ≠ 60) : Dead L i := by
  intro ext hm
  have := hm.1 0 (by decide)
  rw [Nat.add_zero, List.getElem?_append_left (List.getElem?_eq_some_iff.1 h).1, h] at this
  exact hx (Option.some.inj this)
theorem held_at {s : Sc} (h : s.held.map lowN = patN.take s.held.length) {j : Nat} {x : Nat} (hx : s.held[j]? = some x) : patN[j]? = some (lowN x) := by
  have hj := (List.getElem?_eq_some_iff.1 hx).1
  have := congrArg (·[j]?) h
  simp only [List.getElem?_map, hx, List.getElem?_take, if_pos hj] at this
  exact this.symm
theorem inv_first {s : Sc} {L : List Nat} {r : Nat} (h1 : s.sure = L) (h2 : s.held = []) (hc : CP s) (hd : ∀ i, i < L.length → Dead (L ++ [r]) i) (hno : NoB (L ++ [r])) : InvP (firstS 3 s r) (L ++ [r]) := by
  unfold firstS
  by_cases h6 : r = 60 ∧ (3 : Nat) ≠ 4 ∧ s.part ≠ 2
  · rw [if_pos h6]
    refine ⟨by rw [← h1], ⟨hc.part, hc.dash, hc.suf⟩, ⟨by simp, ?_⟩, fun i hi => hd i (h1 ▸ hi)⟩
    rw [h6.1]; rfl
  · rw [if_neg h6]
    have hne : r ≠ 60 := fun e => h6 ⟨e, by decide, by rw [hc.part]; decide⟩
    refine ⟨by rw [cont_sure, cont_held, h1, h2, List.append_nil], cont_cp hc (by rw [h1]; exact hno), by rw [cont_held, h2]; exact ⟨by simp, rfl⟩, fun i hi => ?_⟩
    rw [cont_sure, h1, List.length_append, List.length_singleton] at hi
    rcases Nat.lt_or_ge i L.length with h | h
    · exact hd i h
    · obtain rfl : i = L.length := by omega
      exact dead_head (x := r) (by simp) (fun e => hne (low60.1 e))
theorem inv_put {s : Sc} {L : List Nat} {r : Nat} (h : InvP s L) (ho : s.over = false) (hno : NoB (L ++ [r])) (h' : (putR scriptN 3 s r).over = false) : InvP (putR scriptN 3 s r) (L ++ [r]) := by
  obtain ⟨hall, hcp, ⟨hl8, hpat⟩, hdead⟩ := h
  revert h'
  unfold putR
  by_cases h1 : s.held = []
  · rw [if_pos h1]
    intro _
    rw [h1, List.append_nil] at hall
    exact inv_first hall h1 hcp (fun i hi => (hdead i (hall ▸ hi)).more _) hno
  · rw [if_neg h1]
    have hpos : 0 < s.held.length := List.length_pos_iff.2 h1
    cases h2 : goesR scriptN s r with
    | true =>
      rw [if_pos rfl]
      intro _
      obtain ⟨k1, k2⟩ := (goes_iff s r).1 h2
      refine ⟨by rw [← hall, List.append_assoc], ⟨hcp.part, hcp.dash, hcp.suf⟩, ⟨by simp; omega, ?_⟩, fun i hi => (hdead i hi).more _⟩
      simp only [List.map_append, List.length_append, List.length_singleton, List.map_cons, List.map_nil]
      rw [List.take_add_one, k2, hpat]
      rfl
    | false =>
      rw [if_neg (by simp)]
      have hngo : ¬ (s.held.length < 8 ∧ patN[s.held.length]? = some (lowN r)) := fun hh => by rw [(goes_iff s r).2 hh] at h2; cases h2
      by_cases h3 : s.held.length = scriptN.length + 2 ∧ stopN r = true
      · rw [if_pos h3]
        intro h'; cases h'
      · rw [if_neg h3]
        intro _
        have h3' : ¬ (s.held.length = 8 ∧ stopN r = true) := h3
        obtain ⟨c1, c2, -⟩ := conts_keep 3 s.held { s with held := [] }
        have hcp' := conts_cp s.held { s with held := [] } ⟨hcp.part, hcp.dash, hcp.suf⟩ (by rw [hall]; exact hno.pre)
        refine inv_first (by rw [c1]; exact hall) c2 hcp' (fun i hi => ?_) hno
        rcases Nat.lt_or_ge i s.sure.length with hlt | hge
        · exact (hdead i hlt).more _
        · obtain ⟨j, rfl⟩ : ∃ j, i = s.sure.length + j := ⟨i - s.sure.length, by omega⟩
          have hj : j < s.held.length := by rw [← hall, List.length_append] at hi; omega
          have hLj : L[s.sure.length + j]? = some s.held[j] := by rw [← hall, List.getElem?_append_right (by omega), Nat.add_sub_cancel_left, List.getElem?_eq_getElem hj]
          have hpj := held_at hpat (List.getElem?_eq_getElem hj)
          rcases Nat.eq_zero_or_pos j with rfl | hj0
          · intro ext hm
            have hLn : (L ++ [r] ++ ext)[s.sure.length + 0 + s.held.length]? = some r := by
              have : s.sure.length + 0 + s.held.length = L.length := by rw [← hall, List.length_append]; omega
              rw [this]; simp
            rcases Nat.lt_or_ge s.held.length 8 with h8 | h8
            · have := hm.1 _ h8
              rw [hLn] at this
              exact hngo ⟨h8, this.symm⟩
            · have e8 : s.held.length = 8 := by omega
              obtain ⟨c, hc1, hc2⟩ := hm.2
              rw [e8] at hLn
              rw [hLn] at hc1
              obtain rfl := Option.some.inj hc1
              exact h3' ⟨e8, hc2⟩
          · refine Dead.more (dead_head hLj fun e => ?_) _
            rw [e] at hpj
            have := pat_zero hpj
            omega
theorem inv_over {s : Sc} {L : List Nat} {r : Nat} (h : InvP s L) (ho : s.over = false) (h' : (putR scriptN 3 s r).over = true) : s.held.length = 8 ∧ stopN r = true ∧ s.held.map lowN = patN := by
  rcases put_keep scriptN 3 s r ho with ⟨k1, _⟩ | ⟨_, _, k3, k4, _⟩
  · rw [k1] at h'; cases h'
  · have k3' : s.held.length = 8 := k3
    refine ⟨k3', k4, ?_⟩
    have := h.held.2
    rw [k3'] at this
    exact this
theorem inv_scan : ∀ (n : Nat) (L : List Nat), L.length ≤ n → NoB L → (scanR scriptN 3 sc0 L).over = false → InvP (scanR scriptN 3 sc0 L) L
  | n, [], _, _, _ => ⟨rfl, ⟨rfl, by decide, [], rfl⟩, ⟨by decide, rfl⟩, fun i hi => absurd hi (Nat.not_lt_zero _)⟩
  | 0, x :: L, h, _, _ => by simp at h
  | n + 1, x :: L, h, hno, ho => by
    obtain ⟨M, r, e⟩ : ∃ M r, x :: L = M ++ [r] := ⟨(x :: L).dropLast, (x :: L).getLast (by simp), (List.dropLast_concat_getLast (by simp)).symm⟩
    rw [e] at hno ho ⊢
    have ho' := scan_pre ho
    have hlen : M.length ≤ n := by have := congrArg List.length e; simp at this h; omega
    have ih := inv_scan n M hlen hno.pre ho'
    rw [scan_snoc ho'] at ho ⊢
    exact inv_put ih ho' hno ho

/-! ## Bytes -/
theorem runes_app (a x : List UInt8) (h : ∀ c ∈ x, c.toNat < 128) : runesN (a ++ x) = runesN a ++ x.map UInt8.toNat := by
  cases x with
  | nil => simp
  | cons c x =>
    rw [runes_at c (h c (by simp)), runes_ascii x fun y hy => h y (List.mem_cons_of_mem _ hy)]
    rfl
theorem runes_none {l : List UInt8} (h : runesN l = []) : l = [] := by
  cases l with
  | nil => rfl
  | cons x l => rw [runesN_cons _ (by simp)] at h; cases h
theorem ascii_back : ∀ (rs : List Nat) (l : List UInt8), (∀ r ∈ rs, r < 128) → runesN l = rs → l = rs.map UInt8.ofNat
  | [], l, _, h => runes_none h
  | r :: rs, l, hr, h => by
    obtain ⟨a, b, e, ha, hb⟩ := runes_back r (hr r (by simp)) rs [] l h
    have ha0 := runes_none ha
    have hb0 := ascii_back rs b (fun x hx => hr x (List.mem_cons_of_mem _ hx)) hb
    rw [e, ha0, hb0]
    rfl
/-- </script and a stop stand at the place i of bytes -/
def ByteAt (s : List UInt8) (i : Nat) : Prop := ∃ a x c b, s = a ++ (x ++ c :: b) ∧ a.length = i ∧ x.length = 8 ∧ lowR x = wScrEnd ∧ stopN c.toNat = true
theorem lowN_lt {r : Nat} (h : lowN r < 128) : r < 128 := by
  unfold lowN at h
  split at h <;> omega
theorem low_ascii {x : List UInt8} (h : lowR x = wScrEnd) : ∀ c ∈ x, c.toNat < 128 := by
  intro c hc
  have hm : UInt8.ofNat (lowN c.toNat) ∈ lowR x := List.mem_map.2 ⟨c, hc, rfl⟩
  rw [h] at hm
  have h2 : (UInt8.ofNat (lowN c.toNat)).toNat < 128 := by
    revert hm
    generalize UInt8.ofNat (lowN c.toNat) = y
    intro hm
    simp only [wScrEnd, List.mem_cons, List.not_mem_nil, or_false] at hm
    rcases hm with rfl | rfl | rfl | rfl | rfl | rfl | rfl | rfl <;> decide
  have h3 : lowN c.toNat < 256 := by
    have := c.toNat_lt
    unfold lowN upperR
    split
    · rename_i hh; simp only [Bool.and_eq_true, decide_eq_true_eq] at hh; omega
    · omega
  rw [UInt8.toNat_ofNat_of_lt' (by simpa using h3)] at h2
  exact lowN_lt h2
theorem low_pat {x : List UInt8} (h : lowR x = wScrEnd) : (x.map UInt8.toNat).map lowN = patN := by
  have h3 : ∀ c : UInt8, lowN c.toNat < 256 := fun c => by
    have := c.toNat_lt
    unfold lowN upperR
    split
    · rename_i hh; simp only [Bool.and_eq_true, decide_eq_true_eq] at hh; omega
    · omega
  have e : (lowR x).map UInt8.toNat = (x.map UInt8.toNat).map lowN := by
    unfold lowR
    rw [List.map_map, List.map_map]
    refine List.map_congr_left fun c _ => ?_
    exact UInt8.toNat_ofNat_of_lt' (by simpa using h3 c)
  rw [← e, h]
  rfl
theorem match_of_byte {s a x b : List UInt8} {c : UInt8} (e : s = a ++ (x ++ c :: b)) (hx : x.length = 8) (hl : lowR x = wScrEnd) (hc : stopN c.toNat = true) : MatchAt (runesN s) (runesN a).length := by
  have hr : runesN s = runesN a ++ (x.map UInt8.toNat ++ c.toNat :: runesN b) := by
    rw [e, ← List.append_assoc, runes_at c (stopN_lt hc), runes_app a x (low_ascii hl), List.append_assoc]
  have hp := low_pat hl
  have hxl : (x.map UInt8.toNat).length = 8 := by simp [hx]
  generalize x.map UInt8.toNat = X at *
  rw [hr]
  refine ⟨fun j hj => ?_, c.toNat, ?_, hc⟩
  · rw [List.getElem?_append_right (by omega), Nat.add_sub_cancel_left, List.getElem?_append_left (by omega), ← hp, List.getElem?_map]
  · rw [List.getElem?_append_right (by omega), Nat.add_sub_cancel_left, List.getElem?_append_right (by omega), hxl]
    rfl
theorem nob_of_bytes {s : List UInt8} (h : ∀ a b, s ≠ a ++ [60, 33, 45, 45] ++ b) : NoB (runesN s) := by
  intro pre post e
  have e2 : runesN s = pre ++ 60 :: ([33, 45, 45] ++ post) := by rw [e]; simp [begN]
  obtain ⟨a, b, e3, ha, hb⟩ := runes_back 60 (by decide) _ pre s e2
  obtain ⟨a1, b1, e4, ha1, hb1⟩ := runes_back 33 (by decide) (45 :: 45 :: post) [] b hb
  obtain ⟨a2, b2, e5, ha2, hb2⟩ := runes_back 45 (by decide) (45 :: post) [] b1 hb1
  obtain ⟨a3, b3, e6, ha3, hb3⟩ := runes_back 45 (by decide) post [] b2 hb2
  have z1 := runes_none ha1
  have z2 := runes_none ha2
  have z3 := runes_none ha3
  subst z1 z2 z3
  refine h a b3 ?_
  rw [e3, e4, e5, e6]
  simp
/-- a script without <!-- -/
theorem plain_whole {s : List UInt8} (hno : ∀ a b, s ≠ a ++ [60, 33, 45, 45] ++ b) :
    ((∀ i, ¬ ByteAt s i) ∧ wholeR scriptN 3 s = (mendR s, s.length, false)) ∨ ∃ i, ByteAt s i ∧ (∀ j, j < i → ¬ ByteAt s j) ∧ wholeR scriptN 3 s = (mendR (s.take i), i + 9, true) := by
  have hN := nob_of_bytes hno
  rcases whole_split scriptN 3 s with ⟨a, c, b, h1, h2, h3, h4, h5⟩ | ⟨h1, h2⟩
  · right
    have hrs : runesN s = runesN a ++ c.toNat :: runesN b := by rw [h1]; exact runes_at c (stopN_lt h2) a b
    have hInv := inv_scan _ (runesN a) (Nat.le_refl _) (by rw [hrs] at hN; exact hN.pre) h3
    obtain ⟨k1, k2, k3⟩ := inv_over hInv h3 h4
    have hall := hInv.all
    have hdead := hInv.dead
    generalize scanR scriptN 3 sc0 (runesN a) = st at *
    obtain ⟨sure, held, tail, part, dash, last, ov, en⟩ := st
    dsimp only at *
    have hlow : ∀ r ∈ held, r < 128 := by
      intro r hr
      have : lowN r ∈ held.map lowN := List.mem_map.2 ⟨r, hr, rfl⟩
      rw [k3] at this
      refine lowN_lt ?_
      generalize lowN r = y at this
      revert this
      simp only [patN, List.mem_cons, List.not_mem_nil, or_false]
      omega
    cases held with
    | nil => simp at k1
    | cons h0 ht =>
      obtain ⟨a0, a1, e0, ha0, ha1⟩ := runes_back h0 (hlow h0 (by simp)) ht sure a hall.symm
      have ha1' := ascii_back ht a1 (fun r hr => hlow r (List.mem_cons_of_mem _ hr)) ha1
      have hx : UInt8.ofNat h0 :: a1 = (h0 :: ht).map UInt8.ofNat := by rw [ha1']; rfl
      have hX : ((h0 :: ht).map UInt8.ofNat).map UInt8.toNat = h0 :: ht := by
        rw [List.map_map]
        conv => rhs; rw [← List.map_id (h0 :: ht)]
        refine List.map_congr_left fun r hr => ?_
        have := hlow r hr
        exact UInt8.toNat_ofNat_of_lt' (Nat.lt_trans this (by decide))
      have hxl : lowR ((h0 :: ht).map UInt8.ofNat) = wScrEnd := by
        have : lowR ((h0 :: ht).map UInt8.ofNat) = (((h0 :: ht).map UInt8.ofNat).map UInt8.toNat).map fun n => UInt8.ofNat (lowN n) := by unfold lowR; rw [List.map_map, List.map_map, List.map_map]; rfl
        rw [this, hX]
        have e : (h0 :: ht).map (fun n => UInt8.ofNat (lowN n)) = ((h0 :: ht).map lowN).map UInt8.ofNat := by rw [List.map_map]; rfl
        rw [e, k3]
        rfl
      have hs : s = a0 ++ ((h0 :: ht).map UInt8.ofNat ++ c :: b) := by rw [h1, e0, ← hx]; simp
      have hla : a.length = a0.length + 8 := by
        have := congrArg List.length hx
        simp only [List.length_map, k1] at this
        rw [e0, List.length_append, this]
      refine ⟨a0.length, ⟨a0, _, c, b, hs, rfl, by rw [List.length_map, k1], hxl, h2⟩, ?_, ?_⟩
      · rintro j hj ⟨a', x', c', b', e', hl', hx8, hlow', hst'⟩
        have hm := match_of_byte e' hx8 hlow' hst'
        cases x' with
        | nil => simp at hx8
        | cons y x' =>
          have hy : y.toNat < 128 := low_ascii hlow' y (by simp)
          obtain ⟨z, hz⟩ : ∃ z, a0 = a' ++ y :: z := by
            have e2 : a' ++ (y :: (x' ++ c' :: b')) = a0 ++ ((h0 :: ht).map UInt8.ofNat ++ c :: b) := by rw [← hs, e']; simp
            rcases List.append_eq_append_iff.1 e2 with ⟨w, hw1, hw2⟩ | ⟨w, hw1, hw2⟩
            · cases w with
              | nil => rw [List.append_nil] at hw1; rw [hw1] at hj; omega
              | cons u w =>
                rw [List.cons_append] at hw2
                injection hw2 with hw3 hw4
                exact ⟨w, by rw [hw1, hw3]⟩
            · have := congrArg List.length hw1
              simp at this
              omega
          have hlt : (runesN a').length < sure.length := by
            rw [← ha0, hz, runes_at y hy]
            simp
          have hdd := hdead _ hlt (c.toNat :: runesN b)
          rw [← hrs] at hdd
          exact hdd hm
      · rw [h5, hla, ← ha0]
        congr 1
        rw [hs, List.take_left' rfl]
        rfl
  · left
    have hInv := inv_scan _ (runesN s) (Nat.le_refl _) hN h1
    refine ⟨?_, h2⟩
    rintro i ⟨a', x', c', b', e', hl', hx8, hlow', hst'⟩
    have hm := match_of_byte e' hx8 hlow' hst'
    rcases Nat.lt_or_ge (runesN a').length (scanR scriptN 3 sc0 (runesN s)).sure.length with h | h
    · have := hInv.dead _ h []
      rw [List.append_nil] at this
      exact this hm
    · obtain ⟨c, hc, _⟩ := hm.2
      have hlt := (List.getElem?_eq_some_iff.1 hc).1
      have := congrArg List.length hInv.all
      have := hInv.held.1
      simp only [List.length_append] at *
      omega
end Go.Proofs.YtkclldfejembnaaDoor

/-
  The law RawPlain.
-/
set_option linter.unusedSimpArgs false
set_option linter.unusedVariables false
set_option linter.unnecessarySimpa false
namespace Go.Proofs.YtkclldfejembnaaDoor
open Go Go.Sv Go.RowKit

/-- one rune of a text as the language reads it: behind its first byte there are no ASCII bytes -/
theorem dec_step (s : List UInt8) (i : Nat) (hi : i < s.length) : ∃ r m, Utf8.decode ⟨s.toArray⟩ i = (r, m) ∧ 1 ≤ m ∧ i + m ≤ s.length ∧ ∀ k, 1 ≤ k → k < m → 128 ≤ at0 (s.drop i) k := by
  have hpos : 0 < (s.drop i).length := by simp; omega
  have hpr := pieceR_rng (s.drop i) hpos
  have hdl : (s.drop i).length = s.length - i := by simp
  cases hp : (pieceR (s.drop i)).2.2 with
  | true =>
    have hr := right_of _ hp
    refine ⟨_, _, decode_right s i hr, hpr.1, by omega, fun k h1 h2 => ?_⟩
    obtain ⟨r, g1, g2, g3, g4, g5, g6⟩ := enc_right (s.drop i) hpos hr
    rcases Nat.lt_or_ge r 128 with h | h
    · have := (g5 h).1
      omega
    · exact g6 h k h2
  | false => exact ⟨_, _, decode_wrong s i hp, Nat.le_refl _, by omega, fun k h1 h2 => by omega⟩
def Beg (s : List UInt8) (j : Nat) : Prop := (s.drop j).take 4 = [60, 33, 45, 45]
theorem beg_first {s : List UInt8} {j : Nat} (h : Beg s j) : at0 (s.drop j) 0 = 60 ∧ j + 4 ≤ s.length := by
  unfold Beg at h
  have hl := congrArg List.length h
  simp only [List.length_take, List.length_drop, List.length_cons, List.length_nil] at hl
  refine ⟨?_, by omega⟩
  have h0 := congrArg (·[0]?) h
  simp only [List.getElem?_take, List.getElem?_cons_zero] at h0
  unfold at0
  rw [if_pos (by decide)] at h0
  rw [h0]; rfl
theorem no_beg {s : List UInt8} (h : ∀ j, j < s.length → ¬ Beg s j) : ∀ a b, s ≠ a ++ [60, 33, 45, 45] ++ b := by
  intro a b e
  refine h a.length (by rw [e]; simp) ?_
  unfold Beg
  rw [e, List.append_assoc, List.drop_left]
  rfl
theorem stop_low (c : Nat) : stopN (lowN c) = stopN c := by
  unfold lowN upperR
  split
  · rename_i h
    simp only [Bool.and_eq_true, decide_eq_true_eq] at h
    have h1 : stopN (c + 32) = false := by
      simp only [stopN, gapN, Bool.or_eq_false_iff, decide_eq_false_iff_not]; omega
    have h2 : stopN c = false := by
      simp only [stopN, gapN, Bool.or_eq_false_iff, decide_eq_false_iff_not]; omega
    rw [h1, h2]
  · rfl
theorem byte_at_iff (s : List UInt8) (i : Nat) : ByteAt s i ↔ i + 9 ≤ s.length ∧ ((lowR s).drop i).take 8 = wScrEnd ∧ stopN (at0 (lowR s) (i + 8)) = true := by
  have hlow : ∀ j, j < s.length → at0 (lowR s) j = lowN (at0 s j) := by
    intro j hj
    have h3 : lowN (s[j]).toNat < 256 := by
      have := (s[j]).toNat_lt
      unfold lowN upperR
      split
      · rename_i hh; simp only [Bool.and_eq_true, decide_eq_true_eq] at hh; omega
      · omega
    unfold at0 lowR
    rw [List.getElem?_map, List.getElem?_eq_getElem hj]
    exact UInt8.toNat_ofNat_of_lt' (by simpa using h3)
  have hdt : ((lowR s).drop i).take 8 = lowR ((s.drop i).take 8) := by unfold lowR; rw [List.map_take, List.map_drop]
  rw [hdt]
  constructor
  · rintro ⟨a, x, c, b, rfl, rfl, hx, hl, hc⟩
    have h9 : a.length + 9 ≤ (a ++ (x ++ c :: b)).length := by simp only [List.length_append, List.length_cons]; omega
    refine ⟨h9, ?_, ?_⟩
    · rw [List.drop_left, ← hx, List.take_left]; exact hl
    · rw [hlow _ (by omega), stop_low]
      have : at0 (a ++ (x ++ c :: b)) (a.length + 8) = c.toNat := by
        rw [at_app_r (by omega), Nat.add_sub_cancel_left, at_app_r (by omega), hx]; simp [at0]
      rw [this]; exact hc
  · rintro ⟨h9, hl, hc⟩
    rw [hlow _ (by omega), stop_low] at hc
    refine ⟨s.take i, (s.drop i).take 8, s[i + 8], s.drop (i + 9), ?_, by simp; omega, by simp; omega, hl, ?_⟩
    · have e1 : s[i + 8] :: s.drop (i + 9) = (s.drop i).drop 8 := by rw [List.drop_drop]; exact (List.drop_eq_getElem_cons (by omega)).symm
      rw [e1, List.take_append_drop, List.take_append_drop]
    · unfold at0 at hc
      rw [List.getElem?_eq_getElem (by omega)] at hc
      exact hc
set_option maxHeartbeats 4000000 in
theorem rawPlain_ok (s : List UInt8) (hb : s.length ≤ 1048576) (w : World) (hA₀ : Asc w) : PureC Tryd.prog 4 #[str s] w (.bool true) := by
  have hA : ∀ w' cs, Sep w w' cs → Asc w' := fun w' cs h => hA₀.frm h.frm
  have hS := Sep.start w
  have hW := fun w hA => whole_ok scrN s (by decide) (by omega) w hA
  have hw3 : whereR scrN = 3 := by decide +kernel
  unfold rawWholeV at hW
  rw [hw3] at hW
  simp only [if_neg (show ¬ (3 : Nat) = 0 by decide)] at hW
  refine enter (l := [str s]) Tryd.func4 rfl Tryd.ntmps4 (by kernel_rfl) rfl ?_
  refine sgo ?_
  refine wlrange fun r w6 hr6 hI6 hf6 => ?_
  replace hS := hS.pushIt hf6 hI6 hr6
  clear hI6 hf6 hr6
  refine sgo ?_
  refine wcutj (X := Unit) (fun _ => [(0, str s)]) (fun _ w' => Frm w w' ∧ ∀ j, j < s.length → ¬ Beg s j) ?_ ?_
  · refine wcloop (X := Nat) (fun i => [(0, str s), (13, .pointer (pb r))])
      (fun i w' => i ≤ s.length ∧ Sep w w' [pIt r s i] ∧ ∀ j, j < i → ¬ Beg s j) (fun i => s.length - i) 0 ⟨rfl, rfl, trivial⟩ ⟨Nat.zero_le _, hS, fun j hj => absurd hj (by omega)⟩ ?_
    clear hS
    rintro i wr ρ ⟨hil, hS, hno⟩
    have hIt := hS.it 0 rfl
    iterate 2 (first | (show WL _ _ _ _ _ _ _ _; (first | refine wlp ?_ | refine WL_nil ?_ | (show WL _ _ _ _ _ (Go.Oper.mk _ _ _ _ _ none :: _) _ _; first | refine wlpk ?_ | refine wl_load ?_ | refine wl_idxa ?_ | refine wl_fld ?_ | refine wl_idx ?_ | refine wl_len ?_ | refine wl_bin ?_ | refine wl_cnv ?_ | refine wl_slc ?_ | refine wl_una ?_ | refine wl_nilc ?_ | refine wl_mkf ?_) | refine wlpg ?_ | refine wlg_load ?_ | refine wlg_idxa ?_ | refine wlg_fld ?_ | refine wlg_idx ?_ | refine wlg_len ?_ | refine wlg_bin ?_ | refine wlg_cnv ?_ | refine wlg_slc ?_ | refine wlg_una ?_ | refine wlg_nilc ?_ | refine wlg_mkf ?_)) | (show thn _ _ _ _ _ _; (first | refine thn_normal ?_ | refine thn_ret ?_ | refine thn_exit ?_)) | (show thl _ _ _ _ _ _ _; (first | refine thl_normal ?_ | refine thl_ret ?_ | refine thl_exit ?_)) | (show WC _ _ _ _ _ _ _; (first | refine WC_seq ?_ | refine WC_region ?_ | refine WC_ret ?_ | refine WC_skip ?_ | refine WC_block ?_ | refine WC_exit ?_ | refine WC_label ?_ | refine WC_scope rfl ?_ | refine wcyes ?_ | refine wcno ?_)) | (show blk _ _ _ _ _ _; (first | refine blk_ret ?_ | refine blk_here ?_ | refine blk_on rfl ?_ | refine blk_normal ?_)) | (show ngt _ _ _ _ _; (first | refine ngt_normal ?_ | refine ngt_ret ?_ | refine ngt_exit ?_)))
    by_cases hi : i < s.length
    · obtain ⟨rr, m, hdec, hm1, hm2, hhi⟩ := dec_step s i hi
      refine wlnext_yes hIt hi fun w7 hI7 hl7 => ?_
      rw [hdec] at hI7 ⊢
      dsimp only at hI7 ⊢
      replace hS := hS.nextIt 0 rfl hl7 hI7
      replace hS : Sep w w7 [pIt r s (i + m)] := hS
      clear hIt hI7 hl7
      refine sgo ?_
      refine WC_cond rfl (fun hc => ?_) (fun hc => ?_)
      · refine sgo ?_
        refine wlpure (awake10_ok _ (hA _ _ hS)) fun w8 hf8 => ?_
        refine sgo ?_
        have hf := hS.frm.trans hf8
        clear hf8
        (first | refine fp1 (.inl rfl) rfl rfl ?_ | refine fp2 (.inl rfl) rfl rfl rfl ?_ | refine fp3 (.inl rfl) rfl rfl rfl rfl ?_ | refine fp0 (.inr rfl) rfl ?_ | refine fp0 (.inl rfl) rfl ?_ | refine fp1 (.inr rfl) rfl rfl ?_); refine ⟨?_, by (first | exact Frm.refl _ | assumption | exact Go.Sv.Sep.frm (by assumption) | (refine Frm.trans ?_ (by assumption); first | exact Frm.refl _ | assumption))⟩; (try simp only [realB, rv_true, Nat.reduceBEq, cond_true, cond_false, entG, real_lif, updGL])
        all_goals rfl
      · have hni : ¬ Beg s i := by
          intro hB
          have h4 := (beg_first hB).2
          simp only [pkb_and, Bool.and_eq_false_iff, decide_eq_false_iff_not] at hc
          rcases hc with hc | hc
          · omega
          · rw [show i + 4 - i = 4 by omega] at hc
            exact hc hB
        clear hc
        refine sgo ?_
        refine ⟨i + m, ⟨rfl, rfl, trivial⟩, ⟨hm2, hS, fun j hj => ?_⟩, by omega⟩
        rcases Nat.lt_trichotomy j i with h | rfl | h
        · exact hno j h
        · exact hni
        · intro hB
          have h1 := (beg_first hB).1
          have h2 := hhi (j - i) (by omega) (by omega)
          have e : at0 (s.drop i) (j - i) = at0 (s.drop j) 0 := by
            unfold at0
            rw [List.getElem?_drop, List.getElem?_drop, show i + (j - i) = j + 0 by omega]
          omega
    · refine wlnext_no hIt (by omega) ?_
      refine sgo ?_
      exact ⟨(), ⟨rfl, trivial⟩, hS.frm, fun j hj => hno j (by omega)⟩
  · clear hS
    rintro _ w7 ρ ⟨hf7, hno⟩
    have hplain := plain_whole (no_beg hno)
    change ((∀ i, ¬ ByteAt s i) ∧ wholeR scrN 3 s = (mendR s, s.length, false)) ∨ ∃ i, ByteAt s i ∧ (∀ j, j < i → ¬ ByteAt s j) ∧ wholeR scrN 3 s = (mendR (s.take i), i + 9, true) at hplain
    generalize wholeR scrN 3 s = R at *
    obtain ⟨t, n, ok⟩ := R
    dsimp only at hW hplain
    refine sgo ?_
    refine wlpure (hW _ (hA₀.frm hf7)) fun w8 hf8 => ?_
    refine sgo ?_
    refine wlpure (num10_ok _ _) fun w9 hf9 => ?_
    refine sgo ?_
    refine wlpure (lower_ok s (by omega) _) fun w10 hf10 => ?_
    have hf := ((hf7.trans hf8).trans hf9).trans hf10
    clear hf7 hf8 hf9 hf10
    refine sgo ?_
    have hll : (lowR s).length = s.length := by simp [lowR]
    refine wcutj (X := Option Nat) (fun x => [(0, str s), (4, str t), (5, int n), (6, .bool ok), (9, int (match x with | none => -1 | some a => (a : Int)))]) (fun x w' => w' = w10 ∧ ((x = none ∧ ∀ i, ¬ ByteAt s i) ∨ ∃ a, x = some a ∧ ByteAt s a ∧ ∀ j, j < a → ¬ ByteAt s j)) ?_ ?_
    · refine wcloop (X := Nat × Option Nat) (fun x => [(0, str s), (4, str t), (5, int n), (6, .bool ok), (8, str (lowR s)), (9, int (match x.2 with | none => -1 | some a => (a : Int))), (10, int x.1)])
        (fun x w' => w' = w10 ∧ x.1 ≤ s.length ∧ ((x.2 = none ∧ ∀ j, j < x.1 → ¬ ByteAt s j) ∨ ∃ a, x.2 = some a ∧ ByteAt s a ∧ ∀ j, j < a → ¬ ByteAt s j)) (fun x => s.length + 1 - x.1) (0, none) ⟨rfl, rfl, rfl, rfl, rfl, rfl, rfl, trivial⟩ ⟨rfl, Nat.zero_le _, .inl ⟨rfl, fun j hj => absurd hj (by omega)⟩⟩ ?_
      rintro ⟨i, x⟩ wr ρ ⟨rfl, hil, hx⟩
      dsimp only at hil hx ⊢
      refine sgo ?_
      rcases hx with ⟨rfl, hx⟩ | ⟨a, rfl, ha, hx⟩
      · have hbi := byte_at_iff s i
        have hfin : ∀ j, s.length < i + 9 → ¬ ByteAt s j := by
          intro j h hB
          rcases Nat.lt_or_ge j i with h' | h'
          · exact hx j h' hB
          · have := ((byte_at_iff s j).1 hB).1
            omega
        rw [← hll] at hbi
        unfold at0 at hbi
        generalize lowR s = lo at *
        refine WC_cond rfl (fun hc => ?_) (fun hc => ?_)
        · simp only [pkb_and, Bool.and_eq_true, decide_eq_true_eq] at hc
          have h9 : i + 9 ≤ lo.length := by omega
          clear hc hfin
          refine sgo ?_
          rw [show ((i : Int) + 8).toNat = i + 8 by omega, Int.toNat_natCast, show i + 8 - i = 8 by omega]
          generalize (lo[i + 8]?.getD 0).toNat = c at *
          generalize (lo.drop i).take 8 = D at *
          refine WC_cond rfl (fun hc => ?_) (fun hc => ?_)
          · simp only [pkb_and, pkb_or, Bool.and_eq_true, Bool.or_eq_true, decide_eq_true_eq] at hc
            have hB : ByteAt s i := hbi.2 ⟨h9, hc.1, by
              simp only [stopN, gapN, Bool.or_eq_true, decide_eq_true_eq]
              have := hc.2
              omega⟩
            clear hc hbi
            refine sgo ?_
            exact ⟨(i + 1, some i), ⟨rfl, rfl, rfl, rfl, rfl, rfl, rfl, trivial⟩, ⟨rfl, by dsimp only; omega, .inr ⟨i, rfl, hB, hx⟩⟩, by dsimp only; omega⟩
          · have hB : ¬ ByteAt s i := by
              intro hB
              obtain ⟨-, h1, h2⟩ := hbi.1 hB
              simp only [stopN, gapN, Bool.or_eq_true, decide_eq_true_eq] at h2
              simp only [pkb_and, pkb_or, Bool.and_eq_false_iff, Bool.or_eq_false_iff, decide_eq_false_iff_not] at hc
              rcases hc with hc | hc
              · exact hc h1
              · omega
            clear hc hbi
            refine sgo ?_
            refine ⟨(i + 1, none), ⟨rfl, rfl, rfl, rfl, rfl, rfl, rfl, trivial⟩, ⟨rfl, by dsimp only; omega, .inl ⟨rfl, fun j hj => ?_⟩⟩, by dsimp only; omega⟩
            dsimp only at hj
            rcases Nat.lt_or_ge j i with h | h
            · exact hx j h
            · obtain rfl : j = i := by omega
              exact hB
        · simp only [pkb_and, Bool.and_eq_false_iff, decide_eq_false_iff_not] at hc
          have h9 : s.length < i + 9 := by omega
          refine sgo ?_
          exact ⟨none, ⟨rfl, rfl, rfl, rfl, rfl, trivial⟩, rfl, .inl ⟨rfl, fun j => hfin j h9⟩⟩
      · refine wcno ?_ (ht := by simp [pkb])
        refine sgo ?_
        exact ⟨some a, ⟨rfl, rfl, rfl, rfl, rfl, trivial⟩, rfl, .inr ⟨a, rfl, ha, hx⟩⟩
    · rintro x w11 ρ2 ⟨rfl, hx⟩
      refine sgo ?_
      rcases hx with ⟨rfl, hx⟩ | ⟨a, rfl, ha, hx⟩
      · have hR : (t, n, ok) = (mendR s, s.length, false) := by
          rcases hplain with ⟨_, h⟩ | ⟨i, h, _⟩
          · exact h
          · exact absurd h (hx i)
        cases hR
        refine wcyes ?_ (ht := by decide)
        refine sgo ?_
        refine wlcallgp (vals := [str s]) (fun _ => refMend_ok s (by omega) _) (fun w12 hf12 => ?_)
        refine sgo ?_
        refine wlcallgp (vals := []) (fun _ => awake10_ok _ ((hA₀.frm hf).frm hf12)) (fun w13 hf13 => ?_) (ha := fun _ => rfl)
        refine sgo ?_
        replace hf := (hf.trans hf12).trans hf13
        clear hf12 hf13
        (first | refine fp1 (.inl rfl) rfl rfl ?_ | refine fp2 (.inl rfl) rfl rfl rfl ?_ | refine fp3 (.inl rfl) rfl rfl rfl rfl ?_ | refine fp0 (.inr rfl) rfl ?_ | refine fp0 (.inl rfl) rfl ?_ | refine fp1 (.inr rfl) rfl rfl ?_); refine ⟨?_, by (first | exact Frm.refl _ | assumption | exact Go.Sv.Sep.frm (by assumption) | (refine Frm.trans ?_ (by assumption); first | exact Frm.refl _ | assumption))⟩; (try simp only [realB, rv_true, Nat.reduceBEq, cond_true, cond_false, entG, real_lif, updGL])
        refine congrArg Value.bool ?_
        simp [pkb]
      · have hR : (t, n, ok) = (mendR (s.take a), a + 9, true) := by
          rcases hplain with ⟨h, _⟩ | ⟨i, h1, h2, h3⟩
          · exact absurd ha (h a)
          · have : i = a := by
              rcases Nat.lt_trichotomy i a with h | h | h
              · exact absurd h1 (hx i h)
              · exact h
              · exact absurd ha (h2 a h)
            rw [h3, this]
        cases hR
        have h9 := ((byte_at_iff s a).1 ha).1
        refine wcno ?_ (ht := by simp)
        refine sgo ?_
        refine wlcallgp (vals := [str (s.take a)]) (fun _ => refMend_ok (s.take a) (by simp; omega) _) (fun w12 hf12 => ?_)
        refine sgo ?_
        refine wlcallgp (vals := []) (fun _ => awake10_ok _ ((hA₀.frm hf).frm hf12)) (fun w13 hf13 => ?_) (ha := fun _ => rfl)
        refine sgo ?_
        replace hf := (hf.trans hf12).trans hf13
        clear hf12 hf13
        (first | refine fp1 (.inl rfl) rfl rfl ?_ | refine fp2 (.inl rfl) rfl rfl rfl ?_ | refine fp3 (.inl rfl) rfl rfl rfl rfl ?_ | refine fp0 (.inr rfl) rfl ?_ | refine fp0 (.inl rfl) rfl ?_ | refine fp1 (.inr rfl) rfl rfl ?_); refine ⟨?_, by (first | exact Frm.refl _ | assumption | exact Go.Sv.Sep.frm (by assumption) | (refine Frm.trans ?_ (by assumption); first | exact Frm.refl _ | assumption))⟩; (try simp only [realB, rv_true, Nat.reduceBEq, cond_true, cond_false, entG, real_lif, updGL])
        refine congrArg Value.bool ?_
        simp [pkb]
end Go.Proofs.YtkclldfejembnaaDoor

