/-
  Our texts SvVal, SvBaB, SvBaD, SvBaE, SvBaF, SvBaG, SvTrmS, SvBaH, SvBaI, SvBaJ, SvBaK, SvBaL, SvBaN, joined.
-/
import Derived.Test.YtmnnffenijjpcaaDoorMg5
/-
  Texts cut and joined: what is valid stays so.
-/
set_option linter.unusedSimpArgs false
set_option linter.unusedVariables false
set_option linter.unnecessarySimpa false
namespace Go.Proofs.YtmnnffenijjpcaaDoor
open Go Go.Sv Go.RowKit
theorem valid_runes {l : List UInt8} (h : validR l = true) : ∃ rs : List Nat, (∀ r ∈ rs, Good r) ∧ l = rs.flatMap encR := ⟨runesN l, runesN_good l, (mendR_id h).symm⟩
theorem at_app_l {a b : List UInt8} {i : Nat} (h : i < a.length) : at0 (a ++ b) i = at0 a i := by simp only [at0, List.getElem?_append_left h]
theorem at_app_r {a b : List UInt8} {i : Nat} (h : a.length ≤ i) : at0 (a ++ b) i = at0 b (i - a.length) := by simp only [at0, List.getElem?_append_right h]
theorem enc_hi (r : Nat) (h1 : 128 ≤ r) (h2 : r < 1114112) : ∀ i, i < (encR r).length → 128 ≤ at0 (encR r) i := by
  intro i hi
  have hlt := encN_lt r h2
  have hi' : i < (encN r).length := by rwa [encR_len] at hi
  have e : at0 (encR r) i = (encN r)[i] := by
    have := hlt _ (List.getElem_mem hi')
    simp only [at0, encR, List.getElem?_map, List.getElem?_eq_getElem hi', Option.map_some, Option.getD_some]
    exact UInt8.toNat_ofNat_of_lt' (by simpa using this)
  rw [e]
  have hm : ∀ x ∈ encN r, 128 ≤ x := by
    intro x hx
    unfold encN at hx
    repeat' split at hx
    all_goals simp only [List.mem_cons, List.not_mem_nil, or_false] at hx
    all_goals omega
  exact hm _ (List.getElem_mem hi')
theorem flat_cut : ∀ (rs : List Nat), (∀ r ∈ rs, Good r) → ∀ n : Nat, n ≤ (rs.flatMap encR).length → (n = 0 ∨ at0 (rs.flatMap encR) (n - 1) < 128) →
    ∃ ra rb : List Nat, rs = ra ++ rb ∧ (rs.flatMap encR).take n = ra.flatMap encR ∧ (rs.flatMap encR).drop n = rb.flatMap encR
  | [], _, n, hn, _ => ⟨[], [], rfl, by simp, by simp⟩
  | r :: rs, hg, n, hn, ha => by
    have hr := hg r List.mem_cons_self
    rcases Nat.eq_zero_or_pos n with rfl | hpos
    · exact ⟨[], r :: rs, rfl, by simp, by simp⟩
    · have ha' : at0 ((r :: rs).flatMap encR) (n - 1) < 128 := by rcases ha with h | h; omega; exact h
      simp only [List.flatMap_cons] at hn ha' ⊢
      have hl1 := encR_len4 r
      rcases Nat.lt_or_ge (encR r).length n with h | h
      · rw [at_app_r (by omega)] at ha'
        obtain ⟨ra, rb, h1, h2, h3⟩ := flat_cut rs (fun x hx => hg x (List.mem_cons_of_mem _ hx)) (n - (encR r).length) (by simp only [List.length_append] at hn; omega) (.inr (by rwa [show n - (encR r).length - 1 = n - 1 - (encR r).length from by omega]))
        refine ⟨r :: ra, rb, by rw [h1]; rfl, ?_, ?_⟩
        · rw [List.take_append, List.take_of_length_le (by omega), h2, List.flatMap_cons]
        · rw [List.drop_append, List.drop_eq_nil_of_le (by omega), h3, List.nil_append]
      · rw [at_app_l (by omega)] at ha'
        have hr128 : r < 128 := by
          rcases Nat.lt_or_ge r 128 with h1 | h1
          · exact h1
          · have := enc_hi r h1 hr.1 (n - 1) (by omega)
            omega
        have hlen : (encR r).length = 1 := by rw [encR_len]; unfold encN; rw [if_pos hr128]; rfl
        obtain rfl : n = 1 := by omega
        refine ⟨[r], rs, rfl, ?_, ?_⟩
        · rw [List.take_append, List.take_of_length_le (by omega), hlen]; simp
        · rw [List.drop_append, List.drop_eq_nil_of_le (by omega), hlen]; simp
theorem valid_cut {l : List UInt8} (h : validR l = true) (n : Nat) (hn : n ≤ l.length) (ha : n = 0 ∨ at0 l (n - 1) < 128) : validR (l.take n) = true ∧ validR (l.drop n) = true := by
  obtain ⟨rs, hg, rfl⟩ := valid_runes h
  obtain ⟨ra, rb, h1, h2, h3⟩ := flat_cut rs hg n hn ha
  rw [h2, h3]
  exact ⟨valid_flat _ fun r hr => hg r (by rw [h1]; exact List.mem_append_left _ hr), valid_flat _ fun r hr => hg r (by rw [h1]; exact List.mem_append_right _ hr)⟩
end Go.Proofs.YtmnnffenijjpcaaDoor

/-
  Package balance, as a law of lists: the events of any tokens are good; balanced again they are the same.
-/
set_option linter.unusedSimpArgs false
set_option linter.unusedVariables false
set_option linter.unnecessarySimpa false
namespace Go.Proofs.YtmnnffenijjpcaaDoor
open Go Go.Sv Go.RowKit

theorem preTake {s u : List Nm} (h : ∃ i, u = s.take i) : s.take (s.length - (s.length - u.length)) = u ∧ u.length ≤ s.length := by
  obtain ⟨i, rfl⟩ := h
  refine ⟨?_, by simp; omega⟩
  rw [List.length_take]
  rcases Nat.lt_or_ge i s.length with h | h
  · rw [show s.length - (s.length - min i s.length) = i by omega]
  · rw [show s.length - (s.length - min i s.length) = s.length by omega, List.take_of_length_le (Nat.le_refl _), List.take_of_length_le h]
theorem fr_of {l : List Nm} (hl : ∀ y ∈ l, isFr y = false) : ∀ s : BaS, (pushesB s l).fr = true → l = [] ∧ s.fr = true := by
  induction l with
  | nil => intro s h; exact ⟨rfl, h⟩
  | cons y l ih =>
    intro s h
    have h1 := ih (fun z hz => hl z (List.mem_cons_of_mem _ hz)) (pushB s y) h
    have h2 := hl y List.mem_cons_self
    have h3 : isFr y = true := h1.2
    rw [h2] at h3; cases h3
theorem popB_fr {s : BaS} {k : Nat} (h : (popB s k).fr = true) : s.fr = true := by
  unfold popB at h
  split at h
  · exact h
  · cases h
theorem puts_fr : (puts.all fun n => !isFr n) = true := by decide
theorem put_fr {y : Nm} (h : y ∈ puts) : isFr y = false := by simpa using List.all_eq_true.1 puts_fr y h
theorem start_good {depth : Nat} (s : BaS) (t : Tok) (hr : rightR s.op = true) (ha : SmA t.attrs) :
    GoodL depth (s.op, s.fr) (startB depth s t).es ((startB depth s t).s.op, (startB depth s t).s.fr) := by
  unfold startB
  cases h1 : isAllow t.name with
  | false => rw [if_pos rfl]; exact .nil
  | true =>
    rw [if_neg Bool.noConfusion]
    by_cases h2 : depth < s.op.length - (planR s.op (askR s.op t.name)).ends + (planR s.op (askR s.op t.name)).put.length + 1
    · rw [if_pos h2]
      split <;> exact .nil
    rw [if_neg h2]
    obtain ⟨k1, k2⟩ := ask_right hr t.name
    obtain ⟨e1, e2⟩ := preTake (ask_pre s.op t.name)
    have hp : s.op.take (s.op.length - (planR s.op (askR s.op t.name)).ends) = (askR s.op t.name).1 := e1
    have hq : (planR s.op (askR s.op t.name)).put = (askR s.op t.name).2 := rfl
    have hk : (planR s.op (askR s.op t.name)).ends ≤ s.op.length := by show s.op.length - _ ≤ _; omega
    rw [← hp, ← hq] at k1 k2
    generalize planR s.op (askR s.op t.name) = p at *
    have hlen : (s.op.take (s.op.length - p.ends) ++ p.put).length = s.op.length - p.ends + p.put.length := by simp
    obtain ⟨g1, g2⟩ := follow_good (depth := depth) s p hr hk k1 (by omega)
    cases h3 : isVoid t.name with
    | true =>
      rw [if_pos rfl]
      refine g1.app (GoodL.one (e := voE t.name t.attrs) ?_)
      refine .voids h1 h3 ?_ ?_ ha
      · rw [g2]; exact k2
      · rw [g2, hlen]; omega
    | false =>
      rw [if_neg Bool.noConfusion]
      refine g1.app (GoodL.one (e := opE t.name t.attrs) ?_)
      refine .opens h1 h3 ?_ ?_ ha
      · rw [g2]; exact k2
      · rw [g2, hlen]; omega
theorem text_still {v : List Nm} (hr : rightR v = true) (h1 : topR v ≠ nTextarea) (h2 : topR v ≠ nColgroup) (h3 : innerP (topR v) = []) (b : Bool) : nTextR v b = planR v (v, []) := by
  have hn := innerP_pos (topR v)
  rw [h3] at hn
  unfold nTextR
  rw [hr, if_neg Bool.noConfusion, if_neg h1, inner_still h2 h3, decide_eq_false h2, Bool.false_or]
  simp only [List.length_nil, Nat.lt_irrefl, decide_false] at hn
  rw [← hn]
  simp
theorem lf_valid {x : List UInt8} (h : validR x = true) : validR (lfR x) = true := by
  obtain ⟨k, h1, h2⟩ := lf_app x
  rw [h1]
  rcases Nat.lt_or_ge x.length k with hk | hk
  · rw [List.drop_of_length_le (by omega)]; rfl
  · refine (valid_cut h k hk ?_).2
    rcases Nat.eq_zero_or_pos k with h0 | h0
    · exact .inl h0
    · refine .inr ?_
      have := h2 (k - 1) (by omega)
      unfold at0
      rw [this]; decide
theorem lf_len (x : List UInt8) : (lfR x).length ≤ x.length := by
  obtain ⟨k, h1, _⟩ := lf_app x
  rw [h1, List.length_drop]; omega
theorem follow_none (s : BaS) : followB s ⟨0, [], false, 0⟩ = s ∧ followE s ⟨0, [], false, 0⟩ = [] := by
  refine ⟨rfl, ?_⟩
  unfold followE
  rw [offN_zero]; rfl
theorem text_good {depth : Nat} (s : BaS) (t : Tok) (hr : rightR s.op = true) (hv : validR t.text = true ∧ t.text.length ≤ 1048576) :
    GoodL depth (s.op, s.fr) (textB depth s t).es ((textB depth s t).s.op, (textB depth s t).s.fr) := by
  have hxv : validR (headB s t) = true ∧ (headB s t).length ≤ 1048576 := by
    unfold headB; split
    · exact ⟨lf_valid hv.1, Nat.le_trans (lf_len _) hv.2⟩
    · exact hv
  have hxh : s.fr = true → (headB s t).head? ≠ some 10 := by
    intro h; unfold headB; rw [if_pos h]; exact lf_head _
  unfold textB
  generalize headB s t = x at *
  by_cases hx : x = []
  · rw [if_pos hx]; exact .nil
  rw [if_neg hx]
  cases hd : (nTextR s.op (isBlank x)).drop with
  | true => rw [if_pos rfl]; exact .nil
  | false =>
    rw [if_neg Bool.noConfusion]
    by_cases h2 : depth < s.op.length - (nTextR s.op (isBlank x)).ends + (nTextR s.op (isBlank x)).put.length
    · rw [if_pos h2]; exact .nil
    rw [if_neg h2]
    by_cases ht : topR s.op = nTextarea
    · have e : nTextR s.op (isBlank x) = errR 0 := by unfold nTextR; rw [hr, if_neg Bool.noConfusion, if_pos ht]
      have g : GoodE depth (s.op, s.fr) (txE x) := by refine .texts hx hxv hxh hd ?_ ?_ <;> rw [e] <;> rfl
      rw [e]
      exact (show GoodL depth (s.op, s.fr) (followE s (errR 0)) (s.op, s.fr) from by rw [show followE s (errR 0) = [] from (follow_none s).2]; exact .nil).app (GoodL.one g)
    · have e : nTextR s.op (isBlank x) = planR s.op (innerR s.op) := by
        unfold nTextR at hd ⊢
        rw [hr, if_neg Bool.noConfusion, if_neg ht] at hd ⊢
        split
        · rename_i h; rw [if_pos h] at hd; cases hd
        · rfl
      have hpre : ∃ i, innerS s.op = s.op.take i := by
        unfold innerS; split
        · exact ⟨s.op.length - 1, List.dropLast_eq_take⟩
        · exact ⟨s.op.length, by simp⟩
      obtain ⟨k1, k2, k3, k4⟩ := inner_right hr ht
      obtain ⟨e1, e2⟩ := preTake hpre
      have hp : s.op.take (s.op.length - (planR s.op (innerR s.op)).ends) = innerS s.op := e1
      have hq : (planR s.op (innerR s.op)).put = innerP (topR (innerS s.op)) := rfl
      have hk : (planR s.op (innerR s.op)).ends ≤ s.op.length := by show s.op.length - _ ≤ _; omega
      have hpf : ∀ y ∈ (planR s.op (innerR s.op)).put, isFr y = false := fun y hy => put_fr (innerP_puts hy)
      rw [e] at h2 ⊢
      rw [← hq, ← hp] at k1 k2 k3 k4
      generalize planR s.op (innerR s.op) = p at *
      have hlen : (s.op.take (s.op.length - p.ends) ++ p.put).length = s.op.length - p.ends + p.put.length := by simp
      obtain ⟨g1, g2⟩ := follow_good (depth := depth) s p hr hk k1 (by omega)
      refine g1.app (GoodL.one (e := txE x) ?_)
      have hst := text_still k1 k2 k3 k4 (isBlank x)
      rw [← g2] at hst
      refine .texts hx hxv (fun hf => ?_) ?_ ?_ ?_
      · exact hxh (popB_fr (fr_of hpf _ hf).2)
      · rw [hst]; rfl
      · rw [hst]; show _ - _ = 0; simp
      · rw [hst]; rfl
theorem endR_le (s : List Nm) (n : Nm) : (endR s n).1 ≤ s.length := by
  unfold endR
  split
  · exact Nat.zero_le _
  · split
    · exact Nat.zero_le _
    · show s.length - _ ≤ s.length; omega
theorem end_good {depth : Nat} (s : BaS) (t : Tok) (hr : rightR s.op = true) :
    GoodL depth (s.op, s.fr) (endB s t).es ((endB s t).s.op, (endB s t).s.fr) := by
  unfold endB
  cases lastK t.name s.gh s.gh.length with
  | some i => exact .nil
  | none =>
    dsimp only
    split
    · exact .nil
    · exact close_good _ s.op s.gh s.fr (endR_le _ _) hr
theorem take_good {depth : Nat} (s : BaS) (t : Tok) (hr : rightR s.op = true) (hm : mayR t = true) (hs : t.small) :
    GoodL depth (s.op, s.fr) (takeB depth s t).es ((takeB depth s t).s.op, (takeB depth s t).s.fr) := by
  unfold takeB
  unfold mayR at hm
  by_cases h1 : t.kind = 1
  · rw [if_pos h1]
    rw [if_neg (by omega), if_pos h1] at hm
    simp only [Bool.and_eq_true] at hm
    exact start_good s t hr ⟨hm.2.2, hs.attrs, hs.each⟩
  rw [if_neg h1]
  by_cases h0 : t.kind = 0
  · rw [if_pos h0]
    rw [if_pos h0] at hm
    simp only [Bool.and_eq_true] at hm
    exact text_good s t hr ⟨hm.2.2, hs.text⟩
  rw [if_neg h0]
  by_cases h2 : t.kind = 2
  · rw [if_pos h2]; exact end_good s t hr
  · rw [if_neg h2]; exact .nil
theorem run_good {depth : Nat} : ∀ (l : List Tok) (s : BaS), (∀ t ∈ l, mayR t = true ∧ t.small) → PosR depth (s.op, s.fr) → GoodL depth (s.op, s.fr) (runB depth s l).es ((runB depth s l).s.op, (runB depth s l).s.fr)
  | [], s, _, _ => .nil
  | t :: l, s, hm, hp => by
    have h1 := take_good (depth := depth) s t hp.1 (hm t List.mem_cons_self).1 (hm t List.mem_cons_self).2
    exact h1.app (run_good l _ (fun x hx => hm x (List.mem_cons_of_mem _ hx)) (h1.right hp))
theorem pos0 (depth : Nat) : PosR depth ([], false) := ⟨rfl, Nat.zero_le _⟩
/-! ## again -/
/-- an event as a token -/
def evTok (e : Ev) : Tok := if e.kind = 0 then ⟨0, [], e.text, [], false, 0, 0, 0⟩ else if e.kind = 2 then ⟨2, e.name, [], [], false, 0, 0, 0⟩ else ⟨1, e.name, [], e.attrs, false, 0, 0, 0⟩
/-! ## how many -/
theorem offN_len (s : List Nm) (k : Nat) (hk : k ≤ s.length) : (offN s k).length = k := by unfold offN; simp; omega
theorem popB_len (s : BaS) (k : Nat) (hk : k ≤ s.op.length) : (popB s k).op.length + k = s.op.length := by
  unfold popB
  split
  · rename_i h; rw [h]; rfl
  · simp only [List.length_take]; omega
theorem follow_len (s : BaS) (p : PlanR) (hk : p.ends ≤ s.op.length) : (followE s p).length = p.ends + p.put.length ∧ (followB s p).op.length + p.ends = s.op.length + p.put.length := by
  unfold followE followB
  refine ⟨by simp [offN_len _ _ hk], ?_⟩
  rw [(pushes_op _ _).1, List.length_append]
  have := popB_len s p.ends hk
  omega
theorem nText_bnd (o : List Nm) (b : Bool) : (nTextR o b).ends ≤ o.length ∧ (nTextR o b).put.length ≤ 6 := by
  unfold nTextR
  repeat' split
  all_goals first | exact ⟨Nat.zero_le _, by decide⟩ | skip
  refine ⟨by show o.length - _ ≤ _; omega, ?_⟩
  have := innerP_len (topR (innerS o))
  show (innerP (topR (innerS o))).length ≤ 6
  omega
theorem take_len (depth : Nat) (s : BaS) (t : Tok) : (takeB depth s t).es.length + (takeB depth s t).s.op.length ≤ s.op.length + 14 := by
  unfold takeB
  split
  · unfold startB
    have h1 := follow_len s (planR s.op (askR s.op t.name)) (by show s.op.length - _ ≤ _; omega)
    have h2 := ask_put_len s.op t.name
    have h3 : (planR s.op (askR s.op t.name)).put.length ≤ 6 := h2
    generalize planR s.op (askR s.op t.name) = p at *
    repeat' split
    all_goals simp only [List.length_nil, List.length_append, List.length_singleton, pushB]
    all_goals omega
  split
  · unfold textB
    have h0 := nText_bnd s.op (isBlank (headB s t))
    have h1 := follow_len s (nTextR s.op (isBlank (headB s t))) h0.1
    generalize nTextR s.op (isBlank (headB s t)) = p at *
    repeat' split
    all_goals simp only [List.length_nil, List.length_append, List.length_singleton]
    all_goals omega
  split
  · unfold endB
    split
    · simp
    · have h0 := endR_le s.op t.name
      split
      · simp
      · have h1 := popB_len s _ h0
        simp only [List.length_map, offN_len _ _ h0]
        omega
  · simp
theorem run_len (depth : Nat) : ∀ (l : List Tok) (s : BaS), (runB depth s l).es.length + (runB depth s l).s.op.length ≤ s.op.length + 14 * l.length
  | [], s => by simp [runB]
  | t :: l, s => by
    have h1 := take_len depth s t
    have h2 := run_len depth l (takeB depth s t).s
    simp only [runB, List.length_append, List.length_cons]
    omega
end Go.Proofs.YtmnnffenijjpcaaDoor

/-
  Package balance: pop.
-/
set_option linter.unusedSimpArgs false
set_option linter.unusedVariables false
set_option linter.unnecessarySimpa false
namespace Go.Proofs.YtmnnffenijjpcaaDoor
open Go Go.Sv Go.RowKit

theorem popB_op (s : BaS) (k : Nat) : (popB s k).op = s.op.take (s.op.length - k) := by
  unfold popB
  split
  · rename_i h; rw [h, Nat.sub_zero, List.take_length]
  · rfl
theorem popB_succ (s : BaS) (k : Nat) : popB s (k + 1) = ⟨s.op.take (s.op.length - k - 1), [], false⟩ := by
  unfold popB
  rw [if_neg (by omega), Nat.sub_sub]
theorem offN_succ (s : List Nm) (k : Nat) (h : k < s.length) : offN s (k + 1) = offN s k ++ [s.getD (s.length - k - 1) []] := by
  unfold offN
  rw [show s.length - k = s.length - (k + 1) + 1 by omega, show s.length - (k + 1) + 1 - 1 = s.length - (k + 1) by omega]
  conv => lhs; rw [List.drop_eq_getElem_cons (show s.length - (k + 1) < s.length by omega)]
  rw [List.reverse_cons, List.getD_eq_getElem?_getD, List.getElem?_eq_getElem (show s.length - (k + 1) < s.length by omega)]
  rfl
def poP (b : Nat) (qo qt : Option Addr) (co ct : Nat) (op : List Nm) (x : Nm) (ms : List EvM) : PlanB Unit where
  pl k d := match k with
    | 13 => [pOwn d.b [int 2, str x, str [], .slice none 0 0]]
    | 14 => [pRow 4 d.p (ms.length + 1) d.c (ms.flatMap EvM.cells ++ [int 2, str x, str [], .slice none 0 0])]
    | _ => []
  con k := match k with
    | 13 => some 14
    | _ => none
  base k := match k with
    | 14 => [pRow 4 qt ms.length ct (ms.flatMap EvM.cells)]
    | _ => []
  fact k a := match k with
    | 0 => (a 0).v = ptrAt (pb b) 0
    | 1 => (a 1).v = ptrAt (pb b) 0
    | 2 => (a 2).v = ptrAt (pb b) 0
    | 3 => (a 3).v = ptrAt (pb b) 3
    | 4 => (a 4).v = .slice qt ms.length ct
    | 5 => (a 5).v = ptrAt (pb b) 0
    | 6 => (a 6).v = ptrAt (pb b) 0
    | 7 => (a 7).v = ptrAt (pb b) 0
    | 8 => (a 8).v = .slice qo op.length co
    | 9 => (a 9).v = int (op.length - 1 : Nat)
    | 10 => (a 10).v = ptrAt qo ((op.length - 1) * 1)
    | 11 => (a 11).v = str x
    | 12 => (a 12).v = .agg ⟨[int 2, str x, str [], .slice none 0 0]⟩
    | 13 => (a 13).v = .slice (pb (a 13).b) 1 1
    | 14 => (a 14).v = .slice (a 14).p (ms.length + 1) (a 14).c
    | 15 => True
    | 16 => True
    | 17 => True
    | _ => True
set_option maxHeartbeats 4000000 in
theorem bPop_ok (m : BaM) (b k : Nat) (hk : k ≤ m.s.op.length) (hco : m.s.op.length ≤ m.co) (hcg : m.s.gh.length ≤ m.cg) (hol : m.s.op.length ≤ 4194304) (htl : m.ms.length ≤ 4194304) (w0 w : World) (cs : List Plot) (hS : Sep w0 w (m.plots b cs)) :
    CallsR Tryd.prog 19 #[ptrAt (pb b) 0, int k] w fun _ w' => BaP m b (popB m.s k) ((offN m.s.op k).map closeE) [] w0 cs w' := by
  refine enter (l := [ptrAt (pb b) 0, int k]) Tryd.func19 rfl Tryd.ntmps19 (by kernel_rfl) rfl ?_
  refine sgo ?_
  refine wcloop (X := Nat × BaM) (fun x => [(0, ptrAt (pb b) 0), (5, int k), (6, int x.1)])
    (fun x wr => x.1 ≤ k ∧ m.to x.2 (popB m.s x.1) ((offN m.s.op x.1).map closeE) [] ∧ Sep w0 wr (x.2.plots b cs)) (fun x => k - x.1) (0, m) ⟨rfl, rfl, rfl, trivial⟩ ⟨Nat.zero_le _, ⟨rfl, by rw [offN_zero]; simp, by simp, rfl, rfl, hco, hcg⟩, hS⟩ ?_
  clear hS
  rintro ⟨i, m2⟩ wr ρ ⟨hik, hto, hS⟩
  dsimp only at *
  obtain ⟨h1, h2, h3, h4, h5, h6, h7⟩ := hto
  obtain ⟨⟨op, gh, fr⟩, qo, co, qg, cg, ms, qt, ct, fs, qf, cf, dp, ov⟩ := m2
  dsimp only at h1 h2 h3 h4 h5 h6 h7
  have hop : op = m.s.op.take (m.s.op.length - i) := by rw [← popB_op, ← h1]
  have hml : ms.length = m.ms.length + i := by
    have := congrArg List.length h2
    rw [evs_len, List.length_append, evs_len, List.length_map, offN_len _ _ (by omega)] at this
    exact this
  refine sgo ?_
  (show WC _ _ _ _ _ _ _; first | refine WC_dec rfl (fun hc => ?_) (fun hc => ?_) | refine WC_cond rfl (fun hc => ?_) (fun hc => ?_))
  · have hlt : i < k := by omega
    clear hc
    have hol2 : op.length = m.s.op.length - i := by rw [hop, List.length_take]; omega
    obtain ⟨x, hxx⟩ : ∃ x, op[op.length - 1]? = some x := ⟨_, List.getElem?_eq_getElem (by omega)⟩
    have hx := strs_at hxx
    have hgx : m.s.op.getD (m.s.op.length - i - 1) [] = x := by
      rw [hol2, hop, List.getElem?_take, if_pos (by omega)] at hxx
      rw [List.getD_eq_getElem?_getD, hxx]; rfl
    have hsl := strs_len op
    replace hS : Sep w0 wr ([pRow 4 qt ms.length ct (ms.flatMap EvM.cells)] ++ (pOwn b [.slice qo op.length co, .slice qg gh.length cg, .bool fr, .slice qt ms.length ct, int dp, .slice qf fs.length cf, .bool true, .bool ov] :: pVw qo (strs op) :: pVw qg (strs gh) :: pMany (ms.map EvM.row) :: pRow 5 qf fs.length cf (fs.flatMap Fi.cells) :: cs)) := hS.front 3 rfl
    have hqs : ∃ a, qo = some a := (hS.vw 2 rfl).some (by omega)
    have i1 : ((op.length : Int) - 1) = ((op.length - 1 : Nat) : Int) := by omega
    refine sgo ?_
    rw [i1]
    refine sgo ?_
    refine wcplant (b := [pRow 4 qt ms.length ct (ms.flatMap EvM.cells)]) 15 (poP b qo qt co ct op x ms) ⟨.nilIface, none, 0, 0, ()⟩ hS rfl (fun j oj a a' hj he hd h => ?_) ?_ ?_
    · have hjl : j < 18 := (List.getElem?_eq_some_iff.1 hj).1
      match j, hjl with
      | 0, _ | 1, _ | 2, _ | 3, _ | 4, _ | 5, _ | 6, _ | 7, _ | 8, _ | 9, _ | 10, _ | 11, _ | 12, _ | 13, _ | 14, _ | 15, _ | 16, _ | 17, _ => first | (simp only [poP] at h ⊢; rw [← he]; exact h) | exact h
    · refine ⟨?_, ?_, ?_, ?_, ?_, ?_, ?_, ?_, ?_, ?_, ?_, ?_, ?_, ?_, ?_, trivial⟩
      · intro a σ' w' rest hσ hdep hS'   -- 0: move; pieces:  ..
        have e0 : σ' 0 = ptrAt (pb b) 0 := (hσ 0 (notDstB rfl)).trans rfl
        exact rule_e [(0, _)] ⟨e0, trivial⟩ ⟨⟨ptrAt (pb b) 0, none, 0, 0, ()⟩, rfl, rfl, hS'⟩
      · intro a σ' w' rest hσ hdep hS'   -- 1: move; pieces:  ..
        have e0 : σ' 0 = ptrAt (pb b) 0 := (hσ 0 (notDstB rfl)).trans rfl
        exact rule_e [(0, _)] ⟨e0, trivial⟩ ⟨⟨ptrAt (pb b) 0, none, 0, 0, ()⟩, rfl, rfl, hS'⟩
      · intro a σ' w' rest hσ hdep hS'   -- 2: nilCheck; pieces:  ..
        have f1 := (hdep 1 _ rfl rfl).2
        have e15 := ((hdep 1 _ rfl rfl).1 15 rfl).trans f1
        exact rule_y (y_nilcheckp e15 ⟨_, rfl⟩) ⟨⟨ptrAt (pb b) 0, none, 0, 0, ()⟩, rfl, rfl, hS'⟩
      · intro a σ' w' rest hσ hdep hS'   -- 3: fieldAddr; pieces:  ..
        have f2 := (hdep 2 _ rfl rfl).2
        have e16 := ((hdep 2 _ rfl rfl).1 16 rfl).trans f2
        exact rule_y (y_field e16 ⟨_, rfl⟩ (by decide)) ⟨⟨ptrAt (pb b) 3, none, 0, 0, ()⟩, rfl, rfl, hS'⟩
      · intro a σ' w' rest hσ hdep hS'   -- 4: load; pieces: sees 14 ..
        have f3 := (hdep 3 _ rfl rfl).2
        have e17 := ((hdep 3 _ rfl rfl).1 17 rfl).trans f3
        exact rule_y (y_load e17 (Sep.sgv hS' 1 rfl) rfl) ⟨⟨.slice qt ms.length ct, none, 0, 0, ()⟩, rfl, rfl, hS'⟩
      · intro a σ' w' rest hσ hdep hS'   -- 5: move; pieces:  ..
        have e0 : σ' 0 = ptrAt (pb b) 0 := (hσ 0 (notDstB rfl)).trans rfl
        exact rule_e [(0, _)] ⟨e0, trivial⟩ ⟨⟨ptrAt (pb b) 0, none, 0, 0, ()⟩, rfl, rfl, hS'⟩
      · intro a σ' w' rest hσ hdep hS'   -- 6: nilCheck; pieces:  ..
        have f5 := (hdep 5 _ rfl rfl).2
        have e19 := ((hdep 5 _ rfl rfl).1 19 rfl).trans f5
        exact rule_y (y_nilcheckp e19 ⟨_, rfl⟩) ⟨⟨ptrAt (pb b) 0, none, 0, 0, ()⟩, rfl, rfl, hS'⟩
      · intro a σ' w' rest hσ hdep hS'   -- 7: fieldAddr; pieces:  ..
        have f6 := (hdep 6 _ rfl rfl).2
        have e20 := ((hdep 6 _ rfl rfl).1 20 rfl).trans f6
        exact rule_y (y_field e20 ⟨_, rfl⟩ (by decide)) ⟨⟨ptrAt (pb b) 0, none, 0, 0, ()⟩, rfl, rfl, hS'⟩
      · intro a σ' w' rest hσ hdep hS'   -- 8: load; pieces:  ..
        have f7 := (hdep 7 _ rfl rfl).2
        have e21 := ((hdep 7 _ rfl rfl).1 21 rfl).trans f7
        exact rule_y (y_load e21 (Sep.sgv hS' 0 rfl) rfl) ⟨⟨.slice qo op.length co, none, 0, 0, ()⟩, rfl, rfl, hS'⟩
      · intro a σ' w' rest hσ hdep hS'   -- 9: move; pieces:  ..
        have e4 : σ' 4 = int (op.length - 1 : Nat) := (hσ 4 (notDstB rfl)).trans rfl
        exact rule_e [(4, _)] ⟨e4, trivial⟩ ⟨⟨int (op.length - 1 : Nat), none, 0, 0, ()⟩, rfl, rfl, hS'⟩
      · intro a σ' w' rest hσ hdep hS'   -- 10: indexAddr; pieces:  ..
        have f8 := (hdep 8 _ rfl rfl).2
        have e22 := ((hdep 8 _ rfl rfl).1 22 rfl).trans f8
        have f9 := (hdep 9 _ rfl rfl).2
        have e23 := ((hdep 9 _ rfl rfl).1 23 rfl).trans f9
        exact rule_y (y_idx e22 e23 (by omega) hqs) ⟨⟨ptrAt qo ((op.length - 1) * 1), none, 0, 0, ()⟩, rfl, rfl, hS'⟩
      · intro a σ' w' rest hσ hdep hS'   -- 11: load; pieces:  ..
        have f10 := (hdep 10 _ rfl rfl).2
        have e24 := ((hdep 10 _ rfl rfl).1 24 rfl).trans f10
        exact rule_y (y_load e24 (Sep.sgv hS' 1 rfl) (by rw [Nat.mul_one]; exact hx)) ⟨⟨str x, none, 0, 0, ()⟩, rfl, rfl, hS'⟩
      · intro a σ' w' rest hσ hdep hS'   -- 12: build; pieces:  ..
        have f11 := (hdep 11 _ rfl rfl).2
        have e25 := ((hdep 11 _ rfl rfl).1 25 rfl).trans f11
        exact rule_y (y_build (cells := [int 2, str x, str [], .slice none 0 0]) (by rw [bm2 (x := .const (.int .i64 2)) (y := .tmp 25) (v := int 2) rfl e25]; simp [fillL, setSeg, Value.cells] <;> rfl)) ⟨⟨.agg ⟨[int 2, str x, str [], .slice none 0 0]⟩, none, 0, 0, ()⟩, rfl, rfl, hS'⟩
      · intro a σ' w' rest hσ hdep hS'   -- 13: buildSlice; pieces: sees 14 ..
        have f12 := (hdep 12 _ rfl rfl).2
        have e26 := ((hdep 12 _ rfl rfl).1 26 rfl).trans f12
        obtain ⟨b', w2, hy, hS2⟩ := y_bs1 (P := Tryd.prog) (t := 31) (d := some 27) (x := .tmp 26) (vs := [int 2, str x, str [], .slice none 0 0]) (size := 4) hS' e26 rfl rfl (by decide) (by decide)
        exact rule_y hy ⟨⟨.slice (pb b') 1 1, none, 0, b', ()⟩, rfl, rfl, hS2⟩
      · intro a σ' w' rest hσ hdep hS'   -- 14: call; pieces: takes 13, base 14 ..
        have f4 := (hdep 4 _ rfl rfl).2
        have e18 := ((hdep 4 _ rfl rfl).1 18 rfl).trans f4
        have f13 := (hdep 13 _ rfl rfl).2
        have e27 := ((hdep 13 _ rfl rfl).1 27 rfl).trans f13
        obtain ⟨p2, c2, w2, hy, hS2⟩ := y_app (P := Tryd.prog) (t := 31) (t' := 31) (ty := 31) (d := some 28) (x := .tmp 18) (y := .tmp 27) (n := 1) hS' 1 (hS'.own 0 rfl).sg rfl e18 e27 rfl (by simp [Go.Value.oneCell']) rfl (by decide) (by omega)
        exact rule_y hy ⟨⟨.slice p2 (ms.length + 1) c2, p2, c2, 0, ()⟩, rfl, rfl, hS2.drop 0 rfl⟩
    · intro a σ' w' hσ hA' hS'
      have h0 := hA' 0 _ rfl
      have h14 := hA' 14 _ rfl
      rw [frameOf (σ := σ') [(0, ptrAt (pb b) 0), (4, int (op.length - 1 : Nat)), (5, int k), (6, int i), (14, ptrAt (pb b) 0), (28, .slice (a 14).p (ms.length + 1) (a 14).c)]
        ⟨(hσ 0 (notDst rfl)).trans rfl, (hσ 4 (notDst rfl)).trans rfl, (hσ 5 (notDst rfl)).trans rfl, (hσ 6 (notDst rfl)).trans rfl, (h0.1 14 rfl).trans h0.2, (h14.1 28 rfl).trans h14.2, trivial⟩]
      clear hS
      have hS : Sep w0 w' (pRow 4 (a 14).p (ms.length + 1) (a 14).c (ms.flatMap EvM.cells ++ (closeM x).cells) :: pOwn b [.slice qo op.length co, .slice qg gh.length cg, .bool fr, .slice qt ms.length ct, int dp, .slice qf fs.length cf, .bool true, .bool ov] :: pVw qo (strs op) :: pVw qg (strs gh) :: pMany (ms.map EvM.row) :: pRow 5 qf fs.length cf (fs.flatMap Fi.cells) :: cs) := hS'
      rw [evs_flat, show ms.length + 1 = (ms ++ [closeM x]).length by simp] at hS
      rw [show ms.length + 1 = (ms ++ [closeM x]).length by simp]
      generalize (a 14).p = q5 at *
      generalize (a 14).c = c5 at *
      clear hA' hσ hS' h0 h14
      refine sgo ?_
      refine sst_slice hS 1 fun w6 hS => ?_
      refine sgo ?_
      refine sst_slice hS 1 fun w7 hS => ?_
      refine sgo ?_
      refine sst_slice hS 1 fun w8 hS => ?_
      refine sgo ?_
      refine sst_bool hS 1 fun w9 hS => ?_
      refine sgo ?_
      refine ⟨(i + 1, ⟨⟨op.take (op.length - 1), [], false⟩, qo, op.length - 1, none, 0, ms ++ [closeM x], q5, c5, fs, qf, cf, dp, ov⟩), ⟨rfl, rfl, rfl, trivial⟩, ⟨hlt, ⟨?_, ?_, h3, h4, h5, ?_, Nat.le_refl _⟩, ?_⟩, (by (try dsimp only); omega)⟩
      · show BaS.mk _ _ _ = _
        rw [popB_succ, hol2, hop, List.take_take, Nat.min_eq_left (by omega)]
      · show evs (ms ++ [closeM x]) = _
        rw [evs_snoc, h2, offN_succ _ _ (by omega), hgx]; simp [closeM]
      · show (op.take (op.length - 1)).length ≤ op.length - 1
        rw [List.length_take]; omega
      · have e : (op.take (op.length - 1)).length = op.length - 1 := by rw [List.length_take]; omega
        have hS2 := ((((hS.cutVw 2 rfl (op.length - 1)).toNil 3 rfl none).sel 6 [1, 2, 3, 0, 4, 5]).nilRow 2).tell1
        have ec : (strs op).take (op.length - 1) = strs (op.take (op.length - 1)) := by unfold strs; rw [List.map_take]
        simp only [BaM.plots, BaM.cells, e]
        rw [List.map_append, ← ec]
        exact hS2
  · obtain rfl : i = k := by omega
    refine sgo ?_
    (first | refine fp1 (.inl rfl) rfl rfl ?_ | refine fp2 (.inl rfl) rfl rfl rfl ?_ | refine fp3 (.inl rfl) rfl rfl rfl rfl ?_ | refine fp0 (.inr rfl) rfl ?_ | refine fp0 (.inl rfl) rfl ?_ | refine fp1 (.inr rfl) rfl rfl ?_)
    exact ⟨_, ⟨h1, h2, h3, h4, h5, h6, h7⟩, hS⟩
end Go.Proofs.YtmnnffenijjpcaaDoor

/-
  Package balance: New, ready, find, follow.
-/
set_option linter.unusedSimpArgs false
set_option linter.unusedVariables false
set_option linter.unnecessarySimpa false
namespace Go.Proofs.YtmnnffenijjpcaaDoor
open Go Go.Sv Go.RowKit

/-- a new one -/
def newM (dp : Nat) : BaM := ⟨ba0, none, 0, none, 0, [], none, 0, [], none, 0, dp, false⟩
set_option maxHeartbeats 2000000 in
theorem bNew_ok (k : Nat) (h : 1 ≤ k ∧ k ≤ 512) (w0 w : World) (cs : List Plot) (hS : Sep w0 w cs) :
    CallsR Tryd.prog 20 #[int k] w fun v w' => ∃ b, v = .tuple #[ptrAt (pb b) 0, int 0] ∧ Sep w0 w' ((newM k).plots b cs) := by
  refine enter (l := [int k]) Tryd.func20 rfl Tryd.ntmps20 (by kernel_rfl) rfl ?_
  refine sgo ?_
  refine wcno ?_ (ht := by rw [pkb_or, Bool.or_eq_false_iff, decide_eq_false_iff_not, decide_eq_false_iff_not]; omega)
  refine sgo ?_
  refine wlbuild (cells := [.slice none 0 0, .slice none 0 0, .bool false, .slice none 0 0, int k, .slice none 0 0, .bool true, .bool false]) ?_
  refine sgo ?_
  refine sbox (v := .agg ⟨[.slice none 0 0, .slice none 0 0, .bool false, .slice none 0 0, int k, .slice none 0 0, .bool true, .bool false]⟩) hS fun b w1 hS => ?_
  replace hS : Sep w0 w1 (pOwn b [.slice none 0 0, .slice none 0 0, .bool false, .slice none 0 0, int k, .slice none 0 0, .bool true, .bool false] :: cs) := hS
  refine sgo ?_
  (first | refine fp1 (.inl rfl) rfl rfl ?_ | refine fp2 (.inl rfl) rfl rfl rfl ?_ | refine fp3 (.inl rfl) rfl rfl rfl rfl ?_ | refine fp0 (.inr rfl) rfl ?_ | refine fp0 (.inl rfl) rfl ?_ | refine fp1 (.inr rfl) rfl rfl ?_)
  refine ⟨b, rfl, ?_⟩
  have h2 := ((((hS.nilRow 5).zero).nilRow 4).nilVw none).nilVw none
  exact h2.sel 6 [5, 0, 1, 2, 3, 4]
set_option maxHeartbeats 1000000 in
theorem bReady_ok (b : Nat) (v0 v1 v2 v3 v4 v5 : Value) (mk ov : Bool) (w : World) (ho : Own w b [v0, v1, v2, v3, v4, v5, .bool mk, .bool ov]) :
    PureC Tryd.prog 14 #[ptrAt (pb b) 0] w (int (if mk then if ov then 3 else 0 else 2)) := by
  have hF := Frm.refl w
  refine enter (l := [ptrAt (pb b) 0]) Tryd.func14 rfl Tryd.ntmps14 (by kernel_rfl) rfl ?_
  refine sgo ?_
  refine wl ?_ (y_pnil rfl rfl)
  rw [show (Option.map (fun x : Addr => x.add 0) (pb b)).isNone = false from rfl]
  refine sgo ?_
  cases mk with
  | false =>
    refine sgo ?_
    (first | refine fp1 (.inl rfl) rfl rfl ?_ | refine fp2 (.inl rfl) rfl rfl rfl ?_ | refine fp3 (.inl rfl) rfl rfl rfl rfl ?_ | refine fp0 (.inr rfl) rfl ?_ | refine fp0 (.inl rfl) rfl ?_ | refine fp1 (.inr rfl) rfl rfl ?_); refine ⟨?_, by (first | exact Frm.refl _ | assumption | exact Go.Sv.Sep.frm (by assumption) | (refine Frm.trans ?_ (by assumption); first | exact Frm.refl _ | assumption))⟩; (try simp only [realB, rv_true, Nat.reduceBEq, cond_true, cond_false, entG, real_lif, updGL])
    rfl
  | true =>
    refine sgo ?_
    cases ov with
    | true =>
      refine sgo ?_
      (first | refine fp1 (.inl rfl) rfl rfl ?_ | refine fp2 (.inl rfl) rfl rfl rfl ?_ | refine fp3 (.inl rfl) rfl rfl rfl rfl ?_ | refine fp0 (.inr rfl) rfl ?_ | refine fp0 (.inl rfl) rfl ?_ | refine fp1 (.inr rfl) rfl rfl ?_); refine ⟨?_, by (first | exact Frm.refl _ | assumption | exact Go.Sv.Sep.frm (by assumption) | (refine Frm.trans ?_ (by assumption); first | exact Frm.refl _ | assumption))⟩; (try simp only [realB, rv_true, Nat.reduceBEq, cond_true, cond_false, entG, real_lif, updGL])
      rfl
    | false =>
      refine sgo ?_
      (first | refine fp1 (.inl rfl) rfl rfl ?_ | refine fp2 (.inl rfl) rfl rfl rfl ?_ | refine fp3 (.inl rfl) rfl rfl rfl rfl ?_ | refine fp0 (.inr rfl) rfl ?_ | refine fp0 (.inl rfl) rfl ?_ | refine fp1 (.inr rfl) rfl rfl ?_); refine ⟨?_, by (first | exact Frm.refl _ | assumption | exact Go.Sv.Sep.frm (by assumption) | (refine Frm.trans ?_ (by assumption); first | exact Frm.refl _ | assumption))⟩; (try simp only [realB, rv_true, Nat.reduceBEq, cond_true, cond_false, entG, real_lif, updGL])
      rfl
set_option maxHeartbeats 1000000 in
theorem bReadyNil_ok (w : World) : PureC Tryd.prog 14 #[.pointer none] w (int 2) := by
  have hF := Frm.refl w
  refine enter (l := [.pointer none]) Tryd.func14 rfl Tryd.ntmps14 (by kernel_rfl) rfl ?_
  refine sgo ?_
  refine wl ?_ (y_pnil rfl rfl)
  rw [show (none : Option Addr).isNone = true from rfl]
  refine sgo ?_
  refine wlskipg (.pointer none) ?_ (hgt := by simp)
  refine wlskipg (.pointer none) ?_ (hgt := by simp)
  refine wlskipg (.bool false) ?_ (hgt := by simp)
  refine sgo ?_
  (first | refine fp1 (.inl rfl) rfl rfl ?_ | refine fp2 (.inl rfl) rfl rfl rfl ?_ | refine fp3 (.inl rfl) rfl rfl rfl rfl ?_ | refine fp0 (.inr rfl) rfl ?_ | refine fp0 (.inl rfl) rfl ?_ | refine fp1 (.inr rfl) rfl rfl ?_); refine ⟨?_, by (first | exact Frm.refl _ | assumption | exact Go.Sv.Sep.frm (by assumption) | (refine Frm.trans ?_ (by assumption); first | exact Frm.refl _ | assumption))⟩; (try simp only [realB, rv_true, Nat.reduceBEq, cond_true, cond_false, entG, real_lif, updGL])
theorem BaM.ready {m : BaM} {b : Nat} {w0 w : World} {cs : List Plot} (hS : Sep w0 w (m.plots b cs)) : PureC Tryd.prog 14 #[ptrAt (pb b) 0] w (int (if m.ov then 3 else 0)) :=
  bReady_ok b _ _ _ _ _ _ true m.ov w (hS.own 0 rfl)
def fiP (b b5 : Nat) (qf : Option Addr) (cf : Nat) (fs : List Fi) (ta tb td : Int) (y : Int) (nm : Nm) : PlanB Unit where
  pl k d := match k with
    | 10 => [pOwn d.b [int ta, int tb, int td, int y, str nm]]
    | 11 => [pRow 5 d.p (fs.length + 1) d.c (fs.flatMap Fi.cells ++ [int ta, int tb, int td, int y, str nm])]
    | _ => []
  con k := match k with
    | 10 => some 11
    | _ => none
  base k := match k with
    | 11 => [pRow 5 qf fs.length cf (fs.flatMap Fi.cells)]
    | _ => []
  fact k a := match k with
    | 0 => (a 0).v = ptrAt (pb b) 0
    | 1 => (a 1).v = ptrAt (pb b) 0
    | 2 => (a 2).v = ptrAt (pb b) 0
    | 3 => (a 3).v = ptrAt (pb b) 5
    | 4 => (a 4).v = .slice qf fs.length cf
    | 5 => (a 5).v = ptrAt (pb b5) 5
    | 6 => (a 6).v = .agg ⟨[int ta, int tb, int td]⟩
    | 7 => (a 7).v = int y
    | 8 => (a 8).v = str nm
    | 9 => (a 9).v = .agg ⟨[int ta, int tb, int td, int y, str nm]⟩
    | 10 => (a 10).v = .slice (pb (a 10).b) 1 1
    | 11 => (a 11).v = .slice (a 11).p (fs.length + 1) (a 11).c
    | 12 => True
    | 13 => True
    | 14 => True
    | _ => True
set_option maxHeartbeats 4000000 in
theorem bFind_ok (m : BaM) (b : Nat) (t : Tok) (p : Option Addr) (c : Nat) (y : Int) (nm : Nm) (hco : m.s.op.length ≤ m.co) (hcg : m.s.gh.length ≤ m.cg) (htl : m.fs.length ≤ 4194304) (w0 w : World) (cs : List Plot) (hS : Sep w0 w (m.plots b cs)) :
    CallsR Tryd.prog 25 #[ptrAt (pb b) 0, .agg ⟨t.cells p c⟩, int y, str nm] w fun _ w' => BaP m b m.s [] [fiT t y nm] w0 cs w' := by
  obtain ⟨⟨op, gh, fr⟩, qo, co, qg, cg, ms, qt, ct, fs, qf, cf, dp, ov⟩ := m
  obtain ⟨tk, tn, tx, te, tf, ta, tb, td⟩ := t
  dsimp only at hco hcg htl
  refine enter (l := [ptrAt (pb b) 0, .agg ⟨Tok.cells ⟨tk, tn, tx, te, tf, ta, tb, td⟩ p c⟩, int y, str nm]) Tryd.func25 rfl Tryd.ntmps25 (by kernel_rfl) rfl ?_
  refine WC_seq ?_
  refine WC_region ?_
  refine sbox (v := .agg ⟨Tok.cells ⟨tk, tn, tx, te, tf, ta, tb, td⟩ p c⟩) hS fun b5 w1 hS => ?_
  replace hS : Sep w0 w1 (pOwn b5 [int tk, str tn, str tx, .slice p te.length c, .bool tf, int ta, int tb, int td] :: pOwn b [.slice qo op.length co, .slice qg gh.length cg, .bool fr, .slice qt ms.length ct, int dp, .slice qf fs.length cf, .bool true, .bool ov] :: pVw qo (strs op) :: pVw qg (strs gh) :: pRow 4 qt ms.length ct (ms.flatMap EvM.cells) :: pMany (ms.map EvM.row) :: pRow 5 qf fs.length cf (fs.flatMap Fi.cells) :: cs) := hS
  replace hS : Sep w0 w1 ([pRow 5 qf fs.length cf (fs.flatMap Fi.cells)] ++ (pOwn b5 [int tk, str tn, str tx, .slice p te.length c, .bool tf, int ta, int tb, int td] :: pOwn b [.slice qo op.length co, .slice qg gh.length cg, .bool fr, .slice qt ms.length ct, int dp, .slice qf fs.length cf, .bool true, .bool ov] :: pVw qo (strs op) :: pVw qg (strs gh) :: pRow 4 qt ms.length ct (ms.flatMap EvM.cells) :: pMany (ms.map EvM.row) :: cs)) := hS.front 6 rfl
  refine sgo ?_
  refine wcplant (b := [pRow 5 qf fs.length cf (fs.flatMap Fi.cells)]) 12 (fiP b b5 qf cf fs ta tb td y nm) ⟨.nilIface, none, 0, 0, ()⟩ hS rfl (fun j oj a a' hj he hd h => ?_) ?_ ?_
  · have hjl : j < 15 := (List.getElem?_eq_some_iff.1 hj).1
    match j, hjl with
    | 0, _ | 1, _ | 2, _ | 3, _ | 4, _ | 5, _ | 6, _ | 7, _ | 8, _ | 9, _ | 10, _ | 11, _ | 12, _ | 13, _ | 14, _ => first | (simp only [fiP] at h ⊢; rw [← he]; exact h) | exact h
  · refine ⟨?_, ?_, ?_, ?_, ?_, ?_, ?_, ?_, ?_, ?_, ?_, ?_, trivial⟩
    · intro a σ' w' rest hσ hdep hS'   -- 0: move; pieces:  ..
      have e0 : σ' 0 = ptrAt (pb b) 0 := (hσ 0 (notDstB rfl)).trans rfl
      exact rule_e [(0, _)] ⟨e0, trivial⟩ ⟨⟨ptrAt (pb b) 0, none, 0, 0, ()⟩, rfl, rfl, hS'⟩
    · intro a σ' w' rest hσ hdep hS'   -- 1: move; pieces:  ..
      have e0 : σ' 0 = ptrAt (pb b) 0 := (hσ 0 (notDstB rfl)).trans rfl
      exact rule_e [(0, _)] ⟨e0, trivial⟩ ⟨⟨ptrAt (pb b) 0, none, 0, 0, ()⟩, rfl, rfl, hS'⟩
    · intro a σ' w' rest hσ hdep hS'   -- 2: nilCheck; pieces:  ..
      have f1 := (hdep 1 _ rfl rfl).2
      have e9 := ((hdep 1 _ rfl rfl).1 9 rfl).trans f1
      exact rule_y (y_nilcheckp e9 ⟨_, rfl⟩) ⟨⟨ptrAt (pb b) 0, none, 0, 0, ()⟩, rfl, rfl, hS'⟩
    · intro a σ' w' rest hσ hdep hS'   -- 3: fieldAddr; pieces:  ..
      have f2 := (hdep 2 _ rfl rfl).2
      have e10 := ((hdep 2 _ rfl rfl).1 10 rfl).trans f2
      exact rule_y (y_field e10 ⟨_, rfl⟩ (by decide)) ⟨⟨ptrAt (pb b) 5, none, 0, 0, ()⟩, rfl, rfl, hS'⟩
    · intro a σ' w' rest hσ hdep hS'   -- 4: load; pieces: sees 11 ..
      have f3 := (hdep 3 _ rfl rfl).2
      have e11 := ((hdep 3 _ rfl rfl).1 11 rfl).trans f3
      exact rule_y (y_load e11 (Sep.sgv hS' 2 rfl) rfl) ⟨⟨.slice qf fs.length cf, none, 0, 0, ()⟩, rfl, rfl, hS'⟩
    · intro a σ' w' rest hσ hdep hS'   -- 5: fieldAddr; pieces:  ..
      have e5 : σ' 5 = ptrAt (pb b5) 0 := (hσ 5 (notDstB rfl)).trans rfl
      exact rule_y (y_field e5 ⟨_, rfl⟩ (by decide)) ⟨⟨ptrAt (pb b5) 5, none, 0, 0, ()⟩, rfl, rfl, hS'⟩
    · intro a σ' w' rest hσ hdep hS'   -- 6: load; pieces:  ..
      have f5 := (hdep 5 _ rfl rfl).2
      have e13 := ((hdep 5 _ rfl rfl).1 13 rfl).trans f5
      exact rule_y (y_loada e13 (Sep.sgv hS' 0 rfl) (Nat.le_of_ble_eq_true rfl) ⟨_, rfl⟩) ⟨⟨.agg ⟨[int ta, int tb, int td]⟩, none, 0, 0, ()⟩, rfl, rfl, hS'⟩
    · intro a σ' w' rest hσ hdep hS'   -- 7: move; pieces:  ..
      have e2 : σ' 2 = int y := (hσ 2 (notDstB rfl)).trans rfl
      exact rule_e [(2, _)] ⟨e2, trivial⟩ ⟨⟨int y, none, 0, 0, ()⟩, rfl, rfl, hS'⟩
    · intro a σ' w' rest hσ hdep hS'   -- 8: move; pieces:  ..
      have e3 : σ' 3 = str nm := (hσ 3 (notDstB rfl)).trans rfl
      exact rule_e [(3, _)] ⟨e3, trivial⟩ ⟨⟨str nm, none, 0, 0, ()⟩, rfl, rfl, hS'⟩
    · intro a σ' w' rest hσ hdep hS'   -- 9: build; pieces:  ..
      have f6 := (hdep 6 _ rfl rfl).2
      have e14 := ((hdep 6 _ rfl rfl).1 14 rfl).trans f6
      have f7 := (hdep 7 _ rfl rfl).2
      have e15 := ((hdep 7 _ rfl rfl).1 15 rfl).trans f7
      have f8 := (hdep 8 _ rfl rfl).2
      have e16 := ((hdep 8 _ rfl rfl).1 16 rfl).trans f8
      exact rule_y (y_build (cells := [int ta, int tb, int td, int y, str nm]) (by rw [bm3 (x := .tmp 14) (y := .tmp 15) (z := .tmp 16) e14 e15 e16]; simp [fillL, setSeg, Value.cells] <;> rfl)) ⟨⟨.agg ⟨[int ta, int tb, int td, int y, str nm]⟩, none, 0, 0, ()⟩, rfl, rfl, hS'⟩
    · intro a σ' w' rest hσ hdep hS'   -- 10: buildSlice; pieces: sees 11 ..
      have f9 := (hdep 9 _ rfl rfl).2
      have e17 := ((hdep 9 _ rfl rfl).1 17 rfl).trans f9
      obtain ⟨b', w2, hy, hS2⟩ := y_bs1 (P := Tryd.prog) (t := 34) (d := some 18) (x := .tmp 17) (vs := [int ta, int tb, int td, int y, str nm]) (size := 5) hS' e17 rfl rfl (by decide) (by decide)
      exact rule_y hy ⟨⟨.slice (pb b') 1 1, none, 0, b', ()⟩, rfl, rfl, hS2⟩
    · intro a σ' w' rest hσ hdep hS'   -- 11: call; pieces: takes 10, base 11 ..
      have f4 := (hdep 4 _ rfl rfl).2
      have e12 := ((hdep 4 _ rfl rfl).1 12 rfl).trans f4
      have f10 := (hdep 10 _ rfl rfl).2
      have e18 := ((hdep 10 _ rfl rfl).1 18 rfl).trans f10
      obtain ⟨p2, c2, w2, hy, hS2⟩ := y_app (P := Tryd.prog) (t := 34) (t' := 34) (ty := 34) (d := some 19) (x := .tmp 12) (y := .tmp 18) (n := 1) hS' 1 (hS'.own 0 rfl).sg rfl e12 e18 rfl (by simp [Go.Value.oneCell']) rfl (by decide) (by omega)
      exact rule_y hy ⟨⟨.slice p2 (fs.length + 1) c2, p2, c2, 0, ()⟩, rfl, rfl, hS2.drop 0 rfl⟩
  · intro a σ' w' hσ hA' hS'
    have h0 := hA' 0 _ rfl
    have h11 := hA' 11 _ rfl
    rw [frameOf (σ := σ') [(8, ptrAt (pb b) 0), (19, .slice (a 11).p (fs.length + 1) (a 11).c)] ⟨(h0.1 8 rfl).trans h0.2, (h11.1 19 rfl).trans h11.2, trivial⟩]
    clear hS
    have hS : Sep w0 w' (pRow 5 (a 11).p (fs.length + 1) (a 11).c (fs.flatMap Fi.cells ++ (Fi.mk ta tb td y nm).cells) :: pOwn b5 [int tk, str tn, str tx, .slice p te.length c, .bool tf, int ta, int tb, int td] :: pOwn b [.slice qo op.length co, .slice qg gh.length cg, .bool fr, .slice qt ms.length ct, int dp, .slice qf fs.length cf, .bool true, .bool ov] :: pVw qo (strs op) :: pVw qg (strs gh) :: pRow 4 qt ms.length ct (ms.flatMap EvM.cells) :: pMany (ms.map EvM.row) :: cs) := hS'
    rw [fis_flat, show fs.length + 1 = (fs ++ [Fi.mk ta tb td y nm]).length by simp] at hS
    rw [show fs.length + 1 = (fs ++ [Fi.mk ta tb td y nm]).length by simp]
    generalize (a 11).p = q5 at *
    generalize (a 11).c = c5 at *
    clear hA' hσ hS' h0 h11
    refine sgo ?_
    refine sst_slice hS 2 fun w6 hS => ?_
    refine sgo ?_
    (first | refine fp1 (.inl rfl) rfl rfl ?_ | refine fp2 (.inl rfl) rfl rfl rfl ?_ | refine fp3 (.inl rfl) rfl rfl rfl rfl ?_ | refine fp0 (.inr rfl) rfl ?_ | refine fp0 (.inl rfl) rfl ?_ | refine fp1 (.inr rfl) rfl rfl ?_)
    refine ⟨⟨⟨op, gh, fr⟩, qo, co, qg, cg, ms, qt, ct, fs ++ [Fi.mk ta tb td y nm], q5, c5, dp, ov⟩, ⟨rfl, (List.append_nil _).symm, rfl, rfl, rfl, hco, hcg⟩, ?_⟩
    exact hS.sel 7 [2, 3, 4, 5, 6, 0]
end Go.Proofs.YtmnnffenijjpcaaDoor

/-
  Package balance: follow.
-/
set_option linter.unusedSimpArgs false
set_option linter.unusedVariables false
set_option linter.unnecessarySimpa false
namespace Go.Proofs.YtmnnffenijjpcaaDoor
open Go Go.Sv Go.RowKit

theorem BaM.to.len {m m' : BaM} {s : BaS} {es : List Ev} {fs : List Fi} (h : m.to m' s es fs) : m'.ms.length = m.ms.length + es.length ∧ m'.fs.length = m.fs.length + fs.length := by
  have h1 := congrArg List.length h.es
  have h2 := congrArg List.length h.fs
  rw [evs_len, List.length_append, evs_len] at h1
  rw [List.length_append] at h2
  exact ⟨h1, h2⟩
theorem pushes_snoc (s : BaS) (l : List Nm) (x : Nm) : pushesB s (l ++ [x]) = pushB (pushesB s l) x := by unfold pushesB; rw [List.foldl_append]; rfl
set_option maxHeartbeats 4000000 in
theorem bFollow_ok (m : BaM) (b : Nat) (t : Tok) (tp : Option Addr) (tc : Nat) (p : PlanR) (q : Option Addr) (c : Nat) (hk : p.ends ≤ m.s.op.length) (hco : m.s.op.length ≤ m.co) (hcg : m.s.gh.length ≤ m.cg) (hb1 : m.s.op.length + p.put.length ≤ 1048576) (hb2 : m.ms.length ≤ 1048576) (hb3 : m.fs.length ≤ 1048576)
    (w0 w : World) (cs : List Plot) (hS : Sep w0 w (m.plots b (pVw q (strs p.put) :: cs))) :
    CallsR Tryd.prog 27 #[ptrAt (pb b) 0, .agg ⟨t.cells tp tc⟩, .agg ⟨[int p.ends, .slice q p.put.length c, .bool p.drop]⟩] w fun _ w' => BaP m b (followB m.s p) (followE m.s p) (followF t p) w0 (pVw q (strs p.put) :: cs) w' := by
  obtain ⟨ends, put, drop, err⟩ := p
  obtain ⟨tk, tn, tx, te, tf, ta, tb, td⟩ := t
  dsimp only at hk hb1 hS ⊢
  have hsl := strs_len put
  refine enter (l := [ptrAt (pb b) 0, .agg ⟨Tok.cells ⟨tk, tn, tx, te, tf, ta, tb, td⟩ tp tc⟩, .agg ⟨[int ends, .slice q put.length c, .bool drop]⟩]) Tryd.func27 rfl Tryd.ntmps27 (by kernel_rfl) rfl ?_
  refine WC_seq ?_
  refine WC_region ?_
  refine sbox (v := .agg ⟨Tok.cells ⟨tk, tn, tx, te, tf, ta, tb, td⟩ tp tc⟩) hS fun b4 w1 hS => ?_
  refine sbox (v := .agg ⟨[int ends, .slice q put.length c, .bool drop]⟩) hS fun b5 w2 hS => ?_
  replace hS : Sep w0 w2 (m.plots b (pOwn b5 [int ends, .slice q put.length c, .bool drop] :: pOwn b4 [int tk, str tn, str tx, .slice tp te.length tc, .bool tf, int ta, int tb, int td] :: pVw q (strs put) :: cs)) := by
    have h := hS.sel 8 [2, 3, 4, 5, 6, 7, 0, 1]
    exact h
  have ho5 := hS.own 6 rfl
  refine sgo ?_
  refine wcdrawt 5 ?_
  refine qgo ?_
  refine QL_nil ?_; intro wd hwd
  replace hS := hS.grow hwd
  refine wlcall (bPop_ok m b ends hk hco hcg (by omega) (by omega) w0 _ _ hS) ?_
  clear hS ho5
  rintro _ w3 ⟨m1, hto, hS⟩
  have ho5 := hS.own 6 rfl
  refine sgo ?_
  refine wcloop (X := Nat × BaM) (fun x => [(0, ptrAt (pb b) 0), (4, ptrAt (pb b4) 0), (15, .slice q put.length c), (16, int put.length), (17, int x.1)])
    (fun x wr => x.1 ≤ put.length ∧ m.to x.2 (pushesB (popB m.s ends) (put.take x.1)) ((offN m.s.op ends).map closeE ++ (put.take x.1).map fun n => opE n []) ((put.take x.1).map (fiT ⟨tk, tn, tx, te, tf, ta, tb, td⟩ 9)) ∧ Sep w0 wr (x.2.plots b (pOwn b5 [int ends, .slice q put.length c, .bool drop] :: pOwn b4 [int tk, str tn, str tx, .slice tp te.length tc, .bool tf, int ta, int tb, int td] :: pVw q (strs put) :: cs)))
    (fun x => put.length - x.1) (0, m1) ⟨rfl, rfl, rfl, rfl, rfl, trivial⟩ ⟨Nat.zero_le _, by simpa [pushesB] using hto, hS⟩ ?_
  clear hS hto ho5 m1
  rintro ⟨i, m2⟩ wr ρ ⟨hil, hto, hS⟩
  dsimp only at *
  have hq := hS.vw 8 rfl
  refine sgo ?_
  (show WC _ _ _ _ _ _ _; first | refine WC_dec rfl (fun hc => ?_) (fun hc => ?_) | refine WC_cond rfl (fun hc => ?_) (fun hc => ?_))
  · have hlt : i < put.length := by omega
    clear hc
    have hx0 : put[i]? = some put[i] := List.getElem?_eq_getElem hlt
    have htk : put.take (i + 1) = put.take i ++ [put[i]] := by rw [List.take_add_one, hx0]; rfl
    generalize put[i] = x at *
    have hx := strs_at hx0
    have hpl : (pushesB (popB m.s ends) (put.take i)).op.length ≤ m.s.op.length + put.length := by
      rw [(pushes_op _ _).1, List.length_append, popB_op, List.length_take, List.length_take]; omega
    have hlen := hto.len
    simp only [List.length_append, List.length_map, offN_len _ _ hk, List.length_take, Nat.min_eq_left hil] at hlen
    have hso := hto.s
    have hqs : ∃ a, q = some a := hq.some (by omega)
    refine sgo ?_
    refine wlcall (bPush_ok m2 b x [] none 0 hto.co hto.cg (by rw [hso]; omega) (by omega) w0 _ _ (hS.nilRow 2)) ?_
    clear hS hq
    rintro _ w4 ⟨m3, hto3, hS⟩
    have ho4 := hS.own 7 rfl
    have hlen3 := hto3.len
    simp only [List.length_nil, List.length_singleton] at hlen3
    refine sgo ?_
    refine wlcall (bFind_ok m3 b ⟨tk, tn, tx, te, tf, ta, tb, td⟩ tp tc 9 x hto3.co hto3.cg (by omega) w0 _ _ hS) ?_
    clear hS ho4
    rintro _ w5 ⟨m4, hto4, hS⟩
    refine sgo ?_
    refine ⟨(i + 1, m4), ⟨rfl, rfl, rfl, rfl, rfl, trivial⟩, ⟨hlt, ?_, hS⟩, (by (try dsimp only); omega)⟩
    have h := (hto.trans hto3).trans hto4
    rw [hto3.s, hso] at h
    dsimp only
    rw [htk, pushes_snoc, List.map_append, List.map_append, ← List.append_assoc]
    simpa using h
  · obtain rfl : i = put.length := by omega
    refine sgo ?_
    (first | refine fp1 (.inl rfl) rfl rfl ?_ | refine fp2 (.inl rfl) rfl rfl rfl ?_ | refine fp3 (.inl rfl) rfl rfl rfl rfl ?_ | refine fp0 (.inr rfl) rfl ?_ | refine fp0 (.inl rfl) rfl ?_ | refine fp1 (.inr rfl) rfl rfl ?_)
    rw [List.take_length] at hto
    exact ⟨m2, hto, hS.sel 9 [0, 1, 2, 3, 4, 5, 8]⟩
end Go.Proofs.YtmnnffenijjpcaaDoor

/-
  Package balance: start.
-/
set_option linter.unusedSimpArgs false
set_option linter.unusedVariables false
set_option linter.unnecessarySimpa false
namespace Go.Proofs.YtmnnffenijjpcaaDoor
open Go Go.Sv Go.RowKit

def stP (b b3 : Nat) (qo : Option Addr) (co : Nat) (op : List Nm) (nm : Nm) (p : PlanR) : PlanB (Option Addr × Nat) where
  pl k d := match k with
    | 7 => [pRow 1 d.x.1 p.put.length d.x.2 (strs p.put)]
    | 11 => [pOwn d.b [int 0, .slice none 0 0, .bool false]]
    | 12 => [pOwn d.b [int p.ends, .slice d.x.1 p.put.length d.x.2, .bool p.drop]]
    | _ => []
  con k := match k with
    | 11 => some 12
    | _ => none
  base k := match k with
    | _ => []
  fact k a := match k with
    | 0 => (a 0).v = ptrAt (pb b) 0
    | 1 => (a 1).v = ptrAt (pb b) 0
    | 2 => (a 2).v = ptrAt (pb b) 0
    | 3 => (a 3).v = ptrAt (pb b) 0
    | 4 => (a 4).v = .slice qo op.length co
    | 5 => (a 5).v = ptrAt (pb b3) 1
    | 6 => (a 6).v = str nm
    | 7 => (a 7).v = .tuple #[.agg ⟨[int p.ends, .slice (a 7).x.1 p.put.length (a 7).x.2, .bool p.drop]⟩, int p.err]
    | 8 => (a 8).v = .tuple #[.agg ⟨[int p.ends, .slice (a 8).x.1 p.put.length (a 8).x.2, .bool p.drop]⟩, int p.err] ∧ (a 8).x = (a 7).x
    | 9 => (a 9).v = .agg ⟨[int p.ends, .slice (a 9).x.1 p.put.length (a 9).x.2, .bool p.drop]⟩ ∧ (a 9).x = (a 8).x
    | 10 => (a 10).v = int p.err
    | 11 => (a 11).v = ptrAt (pb (a 11).b) 0
    | 12 => (a 12).b = (a 11).b ∧ (a 12).x = (a 9).x
    | 13 => (a 13).v = int p.err
    | _ => True
def sgP (b b3 : Nat) (qg2 : Option Addr) (cg2 : Nat) (gh : List Nm) (nm : Nm) : PlanB Unit where
  pl k d := match k with
    | 21 => [pOwn d.b [str nm]]
    | 22 => [pRow 1 (pb d.b) (gh.length + 1) d.c (strs gh ++ [str nm])]
    | _ => []
  con k := match k with
    | 21 => some 22
    | _ => none
  base k := match k with
    | _ => []
  fact k a := match k with
    | 0 => (a 0).v = ptrAt (pb b) 0
    | 1 => (a 1).v = ptrAt (pb b) 0
    | 2 => (a 2).v = ptrAt (pb b) 0
    | 3 => (a 3).v = ptrAt (pb b) 0
    | 4 => (a 4).v = ptrAt (pb b) 1
    | 5 => (a 5).v = .slice qg2 gh.length cg2
    | 6 => (a 6).v = ptrAt (pb b) 0
    | 7 => (a 7).v = ptrAt (pb b) 0
    | 8 => (a 8).v = ptrAt (pb b) 0
    | 9 => (a 9).v = ptrAt (pb b) 1
    | 10 => (a 10).v = .slice qg2 gh.length cg2
    | 11 => (a 11).v = int gh.length
    | 12 => (a 12).v = ptrAt (pb b) 0
    | 13 => (a 13).v = ptrAt (pb b) 0
    | 14 => (a 14).v = ptrAt (pb b) 0
    | 15 => (a 15).v = ptrAt (pb b) 1
    | 16 => (a 16).v = .slice qg2 gh.length cg2
    | 17 => (a 17).v = int gh.length
    | 18 => (a 18).v = .slice qg2 gh.length gh.length
    | 19 => (a 19).v = ptrAt (pb b3) 1
    | 20 => (a 20).v = str nm
    | 21 => (a 21).v = .slice (pb (a 21).b) 1 1
    | 22 => (a 22).v = .slice (pb (a 22).b) (gh.length + 1) (a 22).c
    | 23 => True
    | 24 => True
    | 25 => True
    | 26 => True
    | _ => True
def svP (b b3 : Nat) (qt2 qa : Option Addr) (ct2 ca : Nat) (te : List At) (nm : Nm) (ms2 : List EvM) : PlanB Unit where
  pl k d := match k with
    | 10 => [pOwn d.b [int 3, str nm, str [], .slice qa te.length ca]]
    | 11 => [pRow 4 d.p (ms2.length + 1) d.c (ms2.flatMap EvM.cells ++ [int 3, str nm, str [], .slice qa te.length ca])]
    | _ => []
  con k := match k with
    | 10 => some 11
    | _ => none
  base k := match k with
    | 11 => [pRow 4 qt2 ms2.length ct2 (ms2.flatMap EvM.cells)]
    | _ => []
  fact k a := match k with
    | 0 => (a 0).v = ptrAt (pb b) 0
    | 1 => (a 1).v = ptrAt (pb b) 0
    | 2 => (a 2).v = ptrAt (pb b) 0
    | 3 => (a 3).v = ptrAt (pb b) 0
    | 4 => (a 4).v = ptrAt (pb b) 3
    | 5 => (a 5).v = .slice qt2 ms2.length ct2
    | 6 => (a 6).v = ptrAt (pb b3) 1
    | 7 => (a 7).v = str nm
    | 8 => (a 8).v = .slice qa te.length ca
    | 9 => (a 9).v = .agg ⟨[int 3, str nm, str [], .slice qa te.length ca]⟩
    | 10 => (a 10).v = .slice (pb (a 10).b) 1 1
    | 11 => (a 11).v = .slice (a 11).p (ms2.length + 1) (a 11).c
    | 12 => True
    | 13 => True
    | 14 => True
    | 15 => True
    | _ => True
set_option maxHeartbeats 8000000 in
theorem bStart_ok (m : BaM) (b : Nat) (t : Tok) (tp : Option Addr) (tc : Nat) (hr : rightR m.s.op = true) (hco : m.s.op.length ≤ m.co) (hcg : m.s.gh.length ≤ m.cg) (hb1 : m.s.op.length ≤ 1024) (hb4 : m.s.gh.length ≤ 4194304) (hb2 : m.ms.length ≤ 1024) (hb3 : m.fs.length ≤ 1024) (hdp : m.dp ≤ 1024) (ha : t.attrs.length ≤ 1048576)
    (w0 w : World) (cs : List Plot) (hA : Asc w0) (hi : Im [] w0 tp (t.attrs.flatMap At.cells)) (hS : Sep w0 w (m.plots b cs)) :
    CallsR Tryd.prog 16 #[ptrAt (pb b) 0, .agg ⟨t.cells tp tc⟩] w fun _ w' => BaP m b (startB m.dp m.s t).s (startB m.dp m.s t).es (startB m.dp m.s t).fs w0 cs w' := by
  obtain ⟨⟨op, gh, fr⟩, qo, co, qg, cg, ms, qt, ct, fs, qf, cf, dp, ov⟩ := m
  obtain ⟨tk, nm, tx, te, tf, ta, tb, td⟩ := t
  dsimp only at hr hco hcg hb1 hb2 hb3 hb4 hdp ha hi
  refine enter (l := [ptrAt (pb b) 0, .agg ⟨Tok.cells ⟨tk, nm, tx, te, tf, ta, tb, td⟩ tp tc⟩]) Tryd.func16 rfl Tryd.ntmps16 (by kernel_rfl) rfl ?_
  refine WC_seq ?_
  refine WC_region ?_
  refine sbox (v := .agg ⟨Tok.cells ⟨tk, nm, tx, te, tf, ta, tb, td⟩ tp tc⟩) hS fun b3 w1 hS => ?_
  replace hS : Sep w0 w1 (pOwn b3 [int tk, str nm, str tx, .slice tp te.length tc, .bool tf, int ta, int tb, int td] :: pOwn b [.slice qo op.length co, .slice qg gh.length cg, .bool fr, .slice qt ms.length ct, int dp, .slice qf fs.length cf, .bool true, .bool ov] :: pVw qo (strs op) :: pVw qg (strs gh) :: pRow 4 qt ms.length ct (ms.flatMap EvM.cells) :: pMany (ms.map EvM.row) :: pRow 5 qf fs.length cf (fs.flatMap Fi.cells) :: cs) := hS
  have hopen := fun w' hA' hi' => nOpen_ok op qo co nm hco (by omega) w' w' [] hA' hi' (Sep.start w')
  have hpl : (openR op nm).put.length ≤ 6 := by
    unfold openR
    split
    · exact Nat.zero_le _
    split
    · exact Nat.zero_le _
    · exact ask_put_len op nm
  have hpe : (openR op nm).ends ≤ op.length := by
    unfold openR
    split
    · exact Nat.zero_le _
    split
    · exact Nat.zero_le _
    · show op.length - _ ≤ _; omega
  have hpo : openR op nm = if isAllow nm = false then errR 160 else planR op (askR op nm) := by unfold openR; rw [hr, if_neg Bool.noConfusion]
  generalize openR op nm = p at hopen hpl hpe hpo
  refine sgo ?_
  replace hS : Sep w0 w1 ([] ++ (pOwn b3 [int tk, str nm, str tx, .slice tp te.length tc, .bool tf, int ta, int tb, int td] :: pOwn b [.slice qo op.length co, .slice qg gh.length cg, .bool fr, .slice qt ms.length ct, int dp, .slice qf fs.length cf, .bool true, .bool ov] :: pVw qo (strs op) :: pVw qg (strs gh) :: pRow 4 qt ms.length ct (ms.flatMap EvM.cells) :: pMany (ms.map EvM.row) :: pRow 5 qf fs.length cf (fs.flatMap Fi.cells) :: cs)) := hS
  refine wcplanb (b := []) (stP b b3 qo co op nm p) ⟨.nilIface, none, 0, 0, (none, 0)⟩ hS rfl (fun j oj a a' hj he hd h => ?_) ⟨?_, ?_, ?_, ?_, ?_, ?_, ?_, ?_, ?_, ?_, ?_, ?_, ?_, ?_, trivial⟩ ?_
  · have hjl : j < 14 := (List.getElem?_eq_some_iff.1 hj).1
    match j, hjl with
    | 0, _ | 1, _ | 2, _ | 3, _ | 4, _ | 5, _ | 6, _ | 7, _ | 10, _ | 11, _ | 13, _ => first | (simp only [stP] at h ⊢; rw [← he]; exact h) | exact h
    | 8, _ => simp only [stP] at h ⊢; rw [← he, ← hd 7 (by cases hj; rfl)]; exact h
    | 9, _ => simp only [stP] at h ⊢; rw [← he, ← hd 8 (by cases hj; rfl)]; exact h
    | 12, _ => simp only [stP] at h ⊢; rw [← he, ← hd 9 (by cases hj; rfl), ← hd 11 (by cases hj; rfl)]; exact h
  · intro a σ' w' rest hσ hdep hS'   -- 0: move; pieces:  ..
    have e0 : σ' 0 = ptrAt (pb b) 0 := (hσ 0 (notDstB rfl)).trans rfl
    exact rule_e [(0, _)] ⟨e0, trivial⟩ ⟨⟨ptrAt (pb b) 0, none, 0, 0, (none, 0)⟩, rfl, rfl, hS'⟩
  · intro a σ' w' rest hσ hdep hS'   -- 1: nilCheck; pieces:  ..
    have f0 := (hdep 0 _ rfl rfl).2
    have e9 := ((hdep 0 _ rfl rfl).1 9 rfl).trans f0
    exact rule_y (y_nilcheckp e9 ⟨_, rfl⟩) ⟨⟨ptrAt (pb b) 0, none, 0, 0, (none, 0)⟩, rfl, rfl, hS'⟩
  · intro a σ' w' rest hσ hdep hS'   -- 2: fieldAddr; pieces:  ..
    have f1 := (hdep 1 _ rfl rfl).2
    have e10 := ((hdep 1 _ rfl rfl).1 10 rfl).trans f1
    exact rule_y (y_field e10 ⟨_, rfl⟩ (by decide)) ⟨⟨ptrAt (pb b) 0, none, 0, 0, (none, 0)⟩, rfl, rfl, hS'⟩
  · intro a σ' w' rest hσ hdep hS'   -- 3: fieldAddr; pieces:  ..
    have f2 := (hdep 2 _ rfl rfl).2
    have e11 := ((hdep 2 _ rfl rfl).1 11 rfl).trans f2
    exact rule_y (y_field e11 ⟨_, rfl⟩ (by decide)) ⟨⟨ptrAt (pb b) 0, none, 0, 0, (none, 0)⟩, rfl, rfl, hS'⟩
  · intro a σ' w' rest hσ hdep hS'   -- 4: load; pieces:  ..
    have f3 := (hdep 3 _ rfl rfl).2
    have e12 := ((hdep 3 _ rfl rfl).1 12 rfl).trans f3
    exact rule_y (y_load e12 (Sep.sgv hS' 1 rfl) rfl) ⟨⟨.slice qo op.length co, none, 0, 0, (none, 0)⟩, rfl, rfl, hS'⟩
  · intro a σ' w' rest hσ hdep hS'   -- 5: fieldAddr; pieces:  ..
    have e3 : σ' 3 = ptrAt (pb b3) 0 := (hσ 3 (notDstB rfl)).trans rfl
    exact rule_y (y_field e3 ⟨_, rfl⟩ (by decide)) ⟨⟨ptrAt (pb b3) 1, none, 0, 0, (none, 0)⟩, rfl, rfl, hS'⟩
  · intro a σ' w' rest hσ hdep hS'   -- 6: load; pieces:  ..
    have f5 := (hdep 5 _ rfl rfl).2
    have e14 := ((hdep 5 _ rfl rfl).1 14 rfl).trans f5
    exact rule_y (y_load e14 (Sep.sgv hS' 0 rfl) rfl) ⟨⟨str nm, none, 0, 0, (none, 0)⟩, rfl, rfl, hS'⟩
  · intro a σ' w' rest hσ hdep hS'   -- 7: call; pieces:  ..
    have f4 := (hdep 4 _ rfl rfl).2
    have e13 := ((hdep 4 _ rfl rfl).1 13 rfl).trans f4
    have f6 := (hdep 6 _ rfl rfl).2
    have e15 := ((hdep 6 _ rfl rfl).1 15 rfl).trans f6
    refine rule_call (vals := [.slice qo op.length co, str nm]) (hopen w' (hA.frm hS'.frm) (hS'.vw 2 rfl)) (fun v w2 hR => ?_) (am2 e13 e15)
    obtain ⟨q7, c7, rfl, hS2⟩ := hR
    exact ⟨⟨.tuple #[.agg ⟨[int p.ends, .slice q7 p.put.length c7, .bool p.drop]⟩, int p.err], none, 0, 0, (q7, c7)⟩, rfl, rfl, hS'.seq hS2⟩
  · intro a σ' w' rest hσ hdep hS'   -- 8: move; pieces:  ..
    have f7 := (hdep 7 _ rfl rfl).2
    have e16 := ((hdep 7 _ rfl rfl).1 16 rfl).trans f7
    exact rule_e [(16, _)] ⟨e16, trivial⟩ ⟨⟨.tuple #[.agg ⟨[int p.ends, .slice (a 7).x.1 p.put.length (a 7).x.2, .bool p.drop]⟩, int p.err], none, 0, 0, (a 7).x⟩, rfl, ⟨rfl, rfl⟩, hS'⟩
  · intro a σ' w' rest hσ hdep hS'   -- 9: extract; pieces:  ..
    have f8 := (hdep 8 _ rfl rfl).2
    have e8 := ((hdep 8 _ rfl rfl).1 8 rfl).trans f8.1
    exact rule_e [(8, _)] ⟨e8, trivial⟩ ⟨⟨.agg ⟨[int p.ends, .slice (a 8).x.1 p.put.length (a 8).x.2, .bool p.drop]⟩, none, 0, 0, (a 8).x⟩, rfl, ⟨rfl, rfl⟩, hS'⟩
  · intro a σ' w' rest hσ hdep hS'   -- 10: extract; pieces:  ..
    have f8 := (hdep 8 _ rfl rfl).2
    have e8 := ((hdep 8 _ rfl rfl).1 8 rfl).trans f8.1
    exact rule_e [(8, _)] ⟨e8, trivial⟩ ⟨⟨int p.err, none, 0, 0, (none, 0)⟩, rfl, rfl, hS'⟩
  · intro a σ' w' rest hσ hdep hS'   -- 11: alloc; pieces:  ..
    obtain ⟨b, w2, hy, hS2⟩ := y_salloc (P := Tryd.prog) (e := 63) (d := some 4) hS'
    exact rule_y hy ⟨⟨ptrAt (pb b) 0, none, 0, b, (none, 0)⟩, rfl, rfl, hS2⟩
  · intro a σ' w' rest hσ hdep hS'   -- 12: store; pieces: takes 11 ..
    have f11 := (hdep 11 _ rfl rfl).2
    have e4 := ((hdep 11 _ rfl rfl).1 4 rfl).trans f11
    have f9 := (hdep 9 _ rfl rfl).2
    have e17 := ((hdep 9 _ rfl rfl).1 17 rfl).trans f9.1
    obtain ⟨w2, hy, hS2⟩ := y_sst (P := Tryd.prog) (t := 63) (x := .tmp 4) (y := .tmp 17) hS' 0 rfl e4 e17 rfl (Nat.le_of_ble_eq_true rfl) (by simp [Go.Value.cells, Go.Value.oneCell'])
    exact rule_y hy ⟨⟨undef, none, 0, (a 11).b, (a 9).x⟩, rfl, ⟨rfl, rfl⟩, hS2⟩
  · intro a σ' w' rest hσ hdep hS'   -- 13: assign; pieces:  ..
    have f10 := (hdep 10 _ rfl rfl).2
    have e18 := ((hdep 10 _ rfl rfl).1 18 rfl).trans f10
    exact rule_e [(18, _)] ⟨e18, trivial⟩ ⟨⟨int p.err, none, 0, 0, (none, 0)⟩, rfl, rfl, hS'⟩
  · intro a σ' w' hσ hA' hS'
    have h8 := hA' 8 _ rfl
    have h9 := hA' 9 _ rfl
    have h11 := hA' 11 _ rfl
    have h12 := hA' 12 _ rfl
    have h13 := hA' 13 _ rfl
    have hx : (a 12).x = (a 7).x := h12.2.2.trans (h9.2.2.trans h8.2.2)
    rw [frameOf (σ := σ') [(0, ptrAt (pb b) 0), (3, ptrAt (pb b3) 0), (4, ptrAt (pb (a 12).b) 0), (5, int p.err)] ⟨(hσ 0 (notDst rfl)).trans rfl, (hσ 3 (notDst rfl)).trans rfl, (h11.1 4 rfl).trans (h11.2.trans (by rw [h12.2.1])), (h13.1 5 rfl).trans h13.2, trivial⟩]
    clear hS
    have hS : Sep w0 w' (pRow 1 (a 7).x.1 p.put.length (a 7).x.2 (strs p.put) :: pOwn (a 12).b [int p.ends, .slice (a 12).x.1 p.put.length (a 12).x.2, .bool p.drop] :: pOwn b3 [int tk, str nm, str tx, .slice tp te.length tc, .bool tf, int ta, int tb, int td] :: pOwn b [.slice qo op.length co, .slice qg gh.length cg, .bool fr, .slice qt ms.length ct, int dp, .slice qf fs.length cf, .bool true, .bool ov] :: pVw qo (strs op) :: pVw qg (strs gh) :: pRow 4 qt ms.length ct (ms.flatMap EvM.cells) :: pMany (ms.map EvM.row) :: pRow 5 qf fs.length cf (fs.flatMap Fi.cells) :: cs) := hS'
    rw [hx] at hS
    generalize (a 12).b = b4 at *
    generalize (a 7).x = x7 at *
    clear hA' hσ hS' h8 h9 h11 h12 h13 hx hopen
    obtain ⟨q7, c7⟩ := x7
    replace hS : Sep w0 w' (pOwn b4 [int p.ends, .slice q7 p.put.length c7, .bool p.drop] :: pOwn b3 [int tk, str nm, str tx, .slice tp te.length tc, .bool tf, int ta, int tb, int td] :: pOwn b [.slice qo op.length co, .slice qg gh.length cg, .bool fr, .slice qt ms.length ct, int dp, .slice qf fs.length cf, .bool true, .bool ov] :: pVw qo (strs op) :: pVw qg (strs gh) :: pRow 4 qt ms.length ct (ms.flatMap EvM.cells) :: pMany (ms.map EvM.row) :: pRow 5 qf fs.length cf (fs.flatMap Fi.cells) :: pVw q7 (strs p.put) :: cs) := (hS.rowVw 0 rfl).sel 9 [1, 2, 3, 4, 5, 6, 7, 8, 0]
    obtain ⟨ends, put, drop, err⟩ := p
    dsimp only at hpl hpe hS ⊢
    unfold startB
    dsimp only
    cases hal : isAllow nm with
    | false =>
      rw [hal, if_pos rfl] at hpo
      obtain rfl : err = 160 := congrArg PlanR.err hpo
      rw [if_pos rfl]
      refine sgo ?_
      replace hS : Sep w0 w' ((BaM.mk ⟨op, gh, fr⟩ qo co qg cg ms qt ct fs qf cf dp ov).plots b (pOwn b4 [int ends, .slice q7 put.length c7, .bool drop] :: pOwn b3 [int tk, str nm, str tx, .slice tp te.length tc, .bool tf, int ta, int tb, int td] :: pVw q7 (strs put) :: cs)) := hS.sel 9 [2, 3, 4, 5, 6, 7, 0, 1, 8]
      refine wlcall (bFind_ok _ b ⟨tk, nm, tx, te, tf, ta, tb, td⟩ tp tc 0 nm hco hcg (by dsimp only; omega) w0 _ _ hS) ?_
      repeat clear hS
      rintro _ w5 ⟨m4, hto4, hS⟩
      refine sgo ?_
      (first | refine fp1 (.inl rfl) rfl rfl ?_ | refine fp2 (.inl rfl) rfl rfl rfl ?_ | refine fp3 (.inl rfl) rfl rfl rfl rfl ?_ | refine fp0 (.inr rfl) rfl ?_ | refine fp0 (.inl rfl) rfl ?_ | refine fp1 (.inr rfl) rfl rfl ?_)
      exact ⟨m4, hto4, hS.sel 9 [0, 1, 2, 3, 4, 5]⟩
    | true =>
      rw [hal, if_neg Bool.noConfusion] at hpo
      rw [if_neg Bool.noConfusion]
      obtain rfl : err = 0 := congrArg PlanR.err hpo
      rw [← hpo]
      refine sgo ?_
      refine wlpure (inK_ok 0 (by decide) nm _ (hA.frm hS.frm)) fun w2 hf2 => ?_
      replace hS := hS.grow hf2
      unfold isVoid
      generalize inSet 0 nm = vd
      refine sgo ?_
      (first | refine WC_seq ?_ | skip); refine wcdraw ?_
      refine qgo ?_
      refine QL_nil ?_; intro wd hwd
      replace hS := hS.grow hwd
      refine sgo ?_
      by_cases hd : dp < op.length - ends + put.length + 1
      · rw [if_pos hd]
        refine wcyes ?_ (ht := decide_eq_true (by omega))
        replace hS : Sep w0 wd ((BaM.mk ⟨op, gh, fr⟩ qo co qg cg ms qt ct fs qf cf dp ov).plots b (pOwn b4 [int ends, .slice q7 put.length c7, .bool drop] :: pOwn b3 [int tk, str nm, str tx, .slice tp te.length tc, .bool tf, int ta, int tb, int td] :: pVw q7 (strs put) :: cs)) := hS.sel 9 [2, 3, 4, 5, 6, 7, 0, 1, 8]
        have ho3 := hS.own 7 rfl
        refine sgo ?_
        refine wlcall (bFind_ok _ b ⟨tk, nm, tx, te, tf, ta, tb, td⟩ tp tc 8 nm hco hcg (by dsimp only; omega) w0 _ _ hS) ?_
        clear ho3
        repeat clear hS
        rintro _ w5 ⟨m4, hto4, hS⟩
        obtain ⟨⟨op2, gh2, fr2⟩, qo2, co2, qg2, cg2, ms2, qt2, ct2, fs2, qf2, cf2, dp2, ov2⟩ := m4
        obtain ⟨g1, g2, g3, g4, g5, g6, g7⟩ := hto4
        dsimp only at g1 g2 g3 g4 g5 g6 g7
        injection g1 with e1 e2 e3
        replace e1 := e1.symm
        replace e2 := e2.symm
        replace e3 := e3.symm
        subst e1 e2 e3
        cases vd with
        | true =>
          rw [if_pos rfl]
          refine sgo ?_
          (first | refine fp1 (.inl rfl) rfl rfl ?_ | refine fp2 (.inl rfl) rfl rfl rfl ?_ | refine fp3 (.inl rfl) rfl rfl rfl rfl ?_ | refine fp0 (.inr rfl) rfl ?_ | refine fp0 (.inl rfl) rfl ?_ | refine fp1 (.inr rfl) rfl rfl ?_)
          exact ⟨⟨⟨op, gh, fr⟩, qo2, co2, qg2, cg2, ms2, qt2, ct2, fs2, qf2, cf2, dp2, ov2⟩, ⟨rfl, g2, g3, g4, g5, g6, g7⟩, hS.sel 9 [0, 1, 2, 3, 4, 5]⟩
        | false =>
          rw [if_neg Bool.noConfusion]
          have hsl := strs_len gh
          replace hS : Sep w0 w5 ([] ++ (pOwn b [.slice qo2 op.length co2, .slice qg2 gh.length cg2, .bool fr, .slice qt2 ms2.length ct2, int dp2, .slice qf2 fs2.length cf2, .bool true, .bool ov2] :: pVw qo2 (strs op) :: pVw qg2 (strs gh) :: pRow 4 qt2 ms2.length ct2 (ms2.flatMap EvM.cells) :: pMany (ms2.map EvM.row) :: pRow 5 qf2 fs2.length cf2 (fs2.flatMap Fi.cells) :: pOwn b4 [int ends, .slice q7 put.length c7, .bool drop] :: pOwn b3 [int tk, str nm, str tx, .slice tp te.length tc, .bool tf, int ta, int tb, int td] :: pVw q7 (strs put) :: cs)) := hS
          refine sgo ?_
          refine wcplant (b := []) 23 (sgP b b3 qg2 cg2 gh nm) ⟨.nilIface, none, 0, 0, ()⟩ hS rfl (fun j oj a a' hj he hd h => ?_) ?_ ?_
          · have hjl : j < 27 := (List.getElem?_eq_some_iff.1 hj).1
            match j, hjl with
            | 0, _ | 1, _ | 2, _ | 3, _ | 4, _ | 5, _ | 6, _ | 7, _ | 8, _ | 9, _ | 10, _ | 11, _ | 12, _ | 13, _ | 14, _ | 15, _ | 16, _ | 17, _ | 18, _ | 19, _ | 20, _ | 21, _ | 22, _ | 23, _ | 24, _ | 25, _ | 26, _ => first | (simp only [sgP] at h ⊢; rw [← he]; exact h) | exact h
          · refine ⟨?_, ?_, ?_, ?_, ?_, ?_, ?_, ?_, ?_, ?_, ?_, ?_, ?_, ?_, ?_, ?_, ?_, ?_, ?_, ?_, ?_, ?_, ?_, trivial⟩
            · intro a σ' w' rest hσ hdep hS'   -- 0: move; pieces:  ..
              have e0 : σ' 0 = ptrAt (pb b) 0 := (hσ 0 (notDstB rfl)).trans rfl
              exact rule_e [(0, _)] ⟨e0, trivial⟩ ⟨⟨ptrAt (pb b) 0, none, 0, 0, ()⟩, rfl, rfl, hS'⟩
            · intro a σ' w' rest hσ hdep hS'   -- 1: move; pieces:  ..
              have e0 : σ' 0 = ptrAt (pb b) 0 := (hσ 0 (notDstB rfl)).trans rfl
              exact rule_e [(0, _)] ⟨e0, trivial⟩ ⟨⟨ptrAt (pb b) 0, none, 0, 0, ()⟩, rfl, rfl, hS'⟩
            · intro a σ' w' rest hσ hdep hS'   -- 2: nilCheck; pieces:  ..
              have f1 := (hdep 1 _ rfl rfl).2
              have e56 := ((hdep 1 _ rfl rfl).1 56 rfl).trans f1
              exact rule_y (y_nilcheckp e56 ⟨_, rfl⟩) ⟨⟨ptrAt (pb b) 0, none, 0, 0, ()⟩, rfl, rfl, hS'⟩
            · intro a σ' w' rest hσ hdep hS'   -- 3: fieldAddr; pieces:  ..
              have f2 := (hdep 2 _ rfl rfl).2
              have e57 := ((hdep 2 _ rfl rfl).1 57 rfl).trans f2
              exact rule_y (y_field e57 ⟨_, rfl⟩ (by decide)) ⟨⟨ptrAt (pb b) 0, none, 0, 0, ()⟩, rfl, rfl, hS'⟩
            · intro a σ' w' rest hσ hdep hS'   -- 4: fieldAddr; pieces:  ..
              have f3 := (hdep 3 _ rfl rfl).2
              have e58 := ((hdep 3 _ rfl rfl).1 58 rfl).trans f3
              exact rule_y (y_field e58 ⟨_, rfl⟩ (by decide)) ⟨⟨ptrAt (pb b) 1, none, 0, 0, ()⟩, rfl, rfl, hS'⟩
            · intro a σ' w' rest hσ hdep hS'   -- 5: load; pieces:  ..
              have f4 := (hdep 4 _ rfl rfl).2
              have e59 := ((hdep 4 _ rfl rfl).1 59 rfl).trans f4
              exact rule_y (y_load e59 (Sep.sgv hS' 0 rfl) rfl) ⟨⟨.slice qg2 gh.length cg2, none, 0, 0, ()⟩, rfl, rfl, hS'⟩
            · intro a σ' w' rest hσ hdep hS'   -- 6: move; pieces:  ..
              have e0 : σ' 0 = ptrAt (pb b) 0 := (hσ 0 (notDstB rfl)).trans rfl
              exact rule_e [(0, _)] ⟨e0, trivial⟩ ⟨⟨ptrAt (pb b) 0, none, 0, 0, ()⟩, rfl, rfl, hS'⟩
            · intro a σ' w' rest hσ hdep hS'   -- 7: nilCheck; pieces:  ..
              have f6 := (hdep 6 _ rfl rfl).2
              have e61 := ((hdep 6 _ rfl rfl).1 61 rfl).trans f6
              exact rule_y (y_nilcheckp e61 ⟨_, rfl⟩) ⟨⟨ptrAt (pb b) 0, none, 0, 0, ()⟩, rfl, rfl, hS'⟩
            · intro a σ' w' rest hσ hdep hS'   -- 8: fieldAddr; pieces:  ..
              have f7 := (hdep 7 _ rfl rfl).2
              have e62 := ((hdep 7 _ rfl rfl).1 62 rfl).trans f7
              exact rule_y (y_field e62 ⟨_, rfl⟩ (by decide)) ⟨⟨ptrAt (pb b) 0, none, 0, 0, ()⟩, rfl, rfl, hS'⟩
            · intro a σ' w' rest hσ hdep hS'   -- 9: fieldAddr; pieces:  ..
              have f8 := (hdep 8 _ rfl rfl).2
              have e63 := ((hdep 8 _ rfl rfl).1 63 rfl).trans f8
              exact rule_y (y_field e63 ⟨_, rfl⟩ (by decide)) ⟨⟨ptrAt (pb b) 1, none, 0, 0, ()⟩, rfl, rfl, hS'⟩
            · intro a σ' w' rest hσ hdep hS'   -- 10: load; pieces:  ..
              have f9 := (hdep 9 _ rfl rfl).2
              have e64 := ((hdep 9 _ rfl rfl).1 64 rfl).trans f9
              exact rule_y (y_load e64 (Sep.sgv hS' 0 rfl) rfl) ⟨⟨.slice qg2 gh.length cg2, none, 0, 0, ()⟩, rfl, rfl, hS'⟩
            · intro a σ' w' rest hσ hdep hS'   -- 11: call; pieces:  ..
              have f10 := (hdep 10 _ rfl rfl).2
              have e65 := ((hdep 10 _ rfl rfl).1 65 rfl).trans f10
              exact rule_y (y_len e65 rfl) ⟨⟨int gh.length, none, 0, 0, ()⟩, rfl, rfl, hS'⟩
            · intro a σ' w' rest hσ hdep hS'   -- 12: move; pieces:  ..
              have e0 : σ' 0 = ptrAt (pb b) 0 := (hσ 0 (notDstB rfl)).trans rfl
              exact rule_e [(0, _)] ⟨e0, trivial⟩ ⟨⟨ptrAt (pb b) 0, none, 0, 0, ()⟩, rfl, rfl, hS'⟩
            · intro a σ' w' rest hσ hdep hS'   -- 13: nilCheck; pieces:  ..
              have f12 := (hdep 12 _ rfl rfl).2
              have e67 := ((hdep 12 _ rfl rfl).1 67 rfl).trans f12
              exact rule_y (y_nilcheckp e67 ⟨_, rfl⟩) ⟨⟨ptrAt (pb b) 0, none, 0, 0, ()⟩, rfl, rfl, hS'⟩
            · intro a σ' w' rest hσ hdep hS'   -- 14: fieldAddr; pieces:  ..
              have f13 := (hdep 13 _ rfl rfl).2
              have e68 := ((hdep 13 _ rfl rfl).1 68 rfl).trans f13
              exact rule_y (y_field e68 ⟨_, rfl⟩ (by decide)) ⟨⟨ptrAt (pb b) 0, none, 0, 0, ()⟩, rfl, rfl, hS'⟩
            · intro a σ' w' rest hσ hdep hS'   -- 15: fieldAddr; pieces:  ..
              have f14 := (hdep 14 _ rfl rfl).2
              have e69 := ((hdep 14 _ rfl rfl).1 69 rfl).trans f14
              exact rule_y (y_field e69 ⟨_, rfl⟩ (by decide)) ⟨⟨ptrAt (pb b) 1, none, 0, 0, ()⟩, rfl, rfl, hS'⟩
            · intro a σ' w' rest hσ hdep hS'   -- 16: load; pieces:  ..
              have f15 := (hdep 15 _ rfl rfl).2
              have e70 := ((hdep 15 _ rfl rfl).1 70 rfl).trans f15
              exact rule_y (y_load e70 (Sep.sgv hS' 0 rfl) rfl) ⟨⟨.slice qg2 gh.length cg2, none, 0, 0, ()⟩, rfl, rfl, hS'⟩
            · intro a σ' w' rest hσ hdep hS'   -- 17: call; pieces:  ..
              have f16 := (hdep 16 _ rfl rfl).2
              have e71 := ((hdep 16 _ rfl rfl).1 71 rfl).trans f16
              exact rule_y (y_len e71 rfl) ⟨⟨int gh.length, none, 0, 0, ()⟩, rfl, rfl, hS'⟩
            · intro a σ' w' rest hσ hdep hS'   -- 18: slice; pieces:  ..
              have f5 := (hdep 5 _ rfl rfl).2
              have e60 := ((hdep 5 _ rfl rfl).1 60 rfl).trans f5
              have f11 := (hdep 11 _ rfl rfl).2
              have e66 := ((hdep 11 _ rfl rfl).1 66 rfl).trans f11
              have f17 := (hdep 17 _ rfl rfl).2
              have e72 := ((hdep 17 _ rfl rfl).1 72 rfl).trans f17
              exact rule_y (y_rslice3 e60 e66 e72 ⟨Nat.le_refl _, g7⟩) ⟨⟨.slice qg2 gh.length gh.length, none, 0, 0, ()⟩, rfl, rfl, hS'⟩
            · intro a σ' w' rest hσ hdep hS'   -- 19: fieldAddr; pieces:  ..
              have e3 : σ' 3 = ptrAt (pb b3) 0 := (hσ 3 (notDstB rfl)).trans rfl
              exact rule_y (y_field e3 ⟨_, rfl⟩ (by decide)) ⟨⟨ptrAt (pb b3) 1, none, 0, 0, ()⟩, rfl, rfl, hS'⟩
            · intro a σ' w' rest hσ hdep hS'   -- 20: load; pieces:  ..
              have f19 := (hdep 19 _ rfl rfl).2
              have e74 := ((hdep 19 _ rfl rfl).1 74 rfl).trans f19
              exact rule_y (y_load e74 (Sep.sgv hS' 7 rfl) rfl) ⟨⟨str nm, none, 0, 0, ()⟩, rfl, rfl, hS'⟩
            · intro a σ' w' rest hσ hdep hS'   -- 21: buildSlice; pieces:  ..
              have f20 := (hdep 20 _ rfl rfl).2
              have e75 := ((hdep 20 _ rfl rfl).1 75 rfl).trans f20
              obtain ⟨b, w2, hy, hS2⟩ := y_bs1s (P := Tryd.prog) (t := 30) (d := some 76) (x := .tmp 75) hS' e75 rfl
              exact rule_y hy ⟨⟨.slice (pb b) 1 1, none, 0, b, ()⟩, rfl, rfl, hS2⟩
            · intro a σ' w' rest hσ hdep hS'   -- 22: call; pieces: takes 21 ..
              have f18 := (hdep 18 _ rfl rfl).2
              have e73 := ((hdep 18 _ rfl rfl).1 73 rfl).trans f18
              have f21 := (hdep 21 _ rfl rfl).2
              have e76 := ((hdep 21 _ rfl rfl).1 76 rfl).trans f21
              obtain ⟨b, c2, w2, hy, hS2⟩ := y_appf (P := Tryd.prog) (t := 30) (t' := 30) (ty := 30) (d := some 77) (x := .tmp 73) (y := .tmp 76) (n := gh.length) (m := 1) (size := 1) hS' (hS'.sgv 3 rfl) (hS'.own 0 rfl).sg (by rw [strs_len, Nat.mul_one]) e73 e76 rfl (by simp [Go.Value.oneCell']) rfl (by decide) (by omega) (by omega)
              exact rule_y hy ⟨⟨.slice (pb b) (gh.length + 1) c2, none, c2, b, ()⟩, rfl, rfl, hS2.drop 1 rfl⟩
          · intro a σ' w' hσ hA' hS'
            have h0 := hA' 0 _ rfl
            have h22 := hA' 22 _ rfl
            rw [frameOf (σ := σ') [(55, ptrAt (pb b) 0), (77, .slice (pb (a 22).b) (gh.length + 1) (a 22).c)] ⟨(h0.1 55 rfl).trans h0.2, (h22.1 77 rfl).trans h22.2, trivial⟩]
            repeat clear hS
            have hS : Sep w0 w' (pRow 1 (pb (a 22).b) (gh.length + 1) (a 22).c (strs gh ++ [str nm]) :: pOwn b [.slice qo2 op.length co2, .slice qg2 gh.length cg2, .bool fr, .slice qt2 ms2.length ct2, int dp2, .slice qf2 fs2.length cf2, .bool true, .bool ov2] :: pVw qo2 (strs op) :: pVw qg2 (strs gh) :: pRow 4 qt2 ms2.length ct2 (ms2.flatMap EvM.cells) :: pMany (ms2.map EvM.row) :: pRow 5 qf2 fs2.length cf2 (fs2.flatMap Fi.cells) :: pOwn b4 [int ends, .slice q7 put.length c7, .bool drop] :: pOwn b3 [int tk, str nm, str tx, .slice tp te.length tc, .bool tf, int ta, int tb, int td] :: pVw q7 (strs put) :: cs) := hS'
            have hrow := (hS.row 0 rfl).le_cap
            rw [strs_snoc, show gh.length + 1 = (gh ++ [nm]).length by simp] at hS
            rw [show gh.length + 1 = (gh ++ [nm]).length by simp] at hrow
            rw [show gh.length + 1 = (gh ++ [nm]).length by simp]
            generalize pb (a 22).b = q5 at *
            generalize (a 22).c = c5 at *
            clear hA' hσ hS' h0 h22
            refine sgo ?_
            refine sst_slice hS 1 fun w6 hS => ?_
            refine sgo ?_
            (first | refine fp1 (.inl rfl) rfl rfl ?_ | refine fp2 (.inl rfl) rfl rfl rfl ?_ | refine fp3 (.inl rfl) rfl rfl rfl rfl ?_ | refine fp0 (.inr rfl) rfl ?_ | refine fp0 (.inl rfl) rfl ?_ | refine fp1 (.inr rfl) rfl rfl ?_)
            refine ⟨⟨⟨op, gh ++ [nm], fr⟩, qo2, co2, q5, c5, ms2, qt2, ct2, fs2, qf2, cf2, dp2, ov2⟩, ⟨rfl, g2, g3, g4, g5, g6, hrow.1⟩, ?_⟩
            exact (hS.rowVw 0 rfl).sel 10 [1, 2, 0, 4, 5, 6]
      · rw [if_neg hd]
        refine wcno ?_ (ht := decide_eq_false (by omega))
        replace hS : Sep w0 wd ((BaM.mk ⟨op, gh, fr⟩ qo co qg cg ms qt ct fs qf cf dp ov).plots b (pVw q7 (strs put) :: pOwn b4 [int ends, .slice q7 put.length c7, .bool drop] :: pOwn b3 [int tk, str nm, str tx, .slice tp te.length tc, .bool tf, int ta, int tb, int td] :: cs)) := hS.sel 9 [2, 3, 4, 5, 6, 7, 8, 0, 1]
        have ho4 := hS.own 7 rfl
        have ho3 := hS.own 8 rfl
        refine sgo ?_
        refine wlcall (bFollow_ok _ b ⟨tk, nm, tx, te, tf, ta, tb, td⟩ tp tc ⟨ends, put, drop, 0⟩ q7 c7 hpe hco hcg (by dsimp only; omega) (by dsimp only; omega) (by dsimp only; omega) w0 _ _ hS) ?_
        clear ho3 ho4
        repeat clear hS
        rintro _ w5 ⟨m4, hto4, hS⟩
        have hlen := hto4.len
        simp only [followE, followF, List.length_append, List.length_map, offN_len _ _ hpe] at hlen
        have ho3 := hS.own 8 rfl
        have hi5 := hi.frm hS.frm
        have hl1 := fm_len At.len te
        refine sgo ?_
        refine sapp0 hS hi5.sg (fun qa ca w6 hS => ?_) (hl := by omega) (h1 := att_one te)
        refine sgo ?_
        have hop4 : m4.s.op.length ≤ 2048 := by
          rw [hto4.s, followB, (pushes_op _ _).1, List.length_append, popB_op, List.length_take]; dsimp only; omega
        clear hi5 ho3
        cases vd with
        | true =>
          rw [if_pos rfl]
          obtain ⟨⟨op2, gh2, fr2⟩, qo2, co2, qg2, cg2, ms2, qt2, ct2, fs2, qf2, cf2, dp2, ov2⟩ := m4
          obtain ⟨g1, g2, g3, g4, g5, g6, g7⟩ := hto4
          dsimp only at g1 g2 g3 g4 g5 g6 g7 hlen
          replace hS : Sep w0 w6 ([pRow 4 qt2 ms2.length ct2 (ms2.flatMap EvM.cells)] ++ (pOwn b [.slice qo2 op2.length co2, .slice qg2 gh2.length cg2, .bool fr2, .slice qt2 ms2.length ct2, int dp2, .slice qf2 fs2.length cf2, .bool true, .bool ov2] :: pOwn b3 [int tk, str nm, str tx, .slice tp te.length tc, .bool tf, int ta, int tb, int td] :: pVw qo2 (strs op2) :: pVw qg2 (strs gh2) :: pMany (ms2.map EvM.row) :: pRow 5 qf2 fs2.length cf2 (fs2.flatMap Fi.cells) :: pRow 2 qa te.length ca (te.flatMap At.cells) :: cs)) := hS.sel 10 [4, 1, 9, 2, 3, 5, 6, 0]
          refine sgo ?_
          refine wcplant (b := [pRow 4 qt2 ms2.length ct2 (ms2.flatMap EvM.cells)]) 12 (svP b b3 qt2 qa ct2 ca te nm ms2) ⟨.nilIface, none, 0, 0, ()⟩ hS rfl (fun j oj a a' hj he hd h => ?_) ?_ ?_
          · have hjl : j < 16 := (List.getElem?_eq_some_iff.1 hj).1
            match j, hjl with
            | 0, _ | 1, _ | 2, _ | 3, _ | 4, _ | 5, _ | 6, _ | 7, _ | 8, _ | 9, _ | 10, _ | 11, _ | 12, _ | 13, _ | 14, _ | 15, _ => first | (simp only [svP] at h ⊢; rw [← he]; exact h) | exact h
          · refine ⟨?_, ?_, ?_, ?_, ?_, ?_, ?_, ?_, ?_, ?_, ?_, ?_, trivial⟩
            · intro a σ' w' rest hσ hdep hS'   -- 0: move; pieces:  ..
              have e0 : σ' 0 = ptrAt (pb b) 0 := (hσ 0 (notDstB rfl)).trans rfl
              exact rule_e [(0, _)] ⟨e0, trivial⟩ ⟨⟨ptrAt (pb b) 0, none, 0, 0, ()⟩, rfl, rfl, hS'⟩
            · intro a σ' w' rest hσ hdep hS'   -- 1: move; pieces:  ..
              have e0 : σ' 0 = ptrAt (pb b) 0 := (hσ 0 (notDstB rfl)).trans rfl
              exact rule_e [(0, _)] ⟨e0, trivial⟩ ⟨⟨ptrAt (pb b) 0, none, 0, 0, ()⟩, rfl, rfl, hS'⟩
            · intro a σ' w' rest hσ hdep hS'   -- 2: nilCheck; pieces:  ..
              have f1 := (hdep 1 _ rfl rfl).2
              have e90 := ((hdep 1 _ rfl rfl).1 90 rfl).trans f1
              exact rule_y (y_nilcheckp e90 ⟨_, rfl⟩) ⟨⟨ptrAt (pb b) 0, none, 0, 0, ()⟩, rfl, rfl, hS'⟩
            · intro a σ' w' rest hσ hdep hS'   -- 3: fieldAddr; pieces:  ..
              have f2 := (hdep 2 _ rfl rfl).2
              have e91 := ((hdep 2 _ rfl rfl).1 91 rfl).trans f2
              exact rule_y (y_field e91 ⟨_, rfl⟩ (by decide)) ⟨⟨ptrAt (pb b) 0, none, 0, 0, ()⟩, rfl, rfl, hS'⟩
            · intro a σ' w' rest hσ hdep hS'   -- 4: fieldAddr; pieces:  ..
              have f3 := (hdep 3 _ rfl rfl).2
              have e92 := ((hdep 3 _ rfl rfl).1 92 rfl).trans f3
              exact rule_y (y_field e92 ⟨_, rfl⟩ (by decide)) ⟨⟨ptrAt (pb b) 3, none, 0, 0, ()⟩, rfl, rfl, hS'⟩
            · intro a σ' w' rest hσ hdep hS'   -- 5: load; pieces: sees 11 ..
              have f4 := (hdep 4 _ rfl rfl).2
              have e93 := ((hdep 4 _ rfl rfl).1 93 rfl).trans f4
              exact rule_y (y_load e93 (Sep.sgv hS' 1 rfl) rfl) ⟨⟨.slice qt2 ms2.length ct2, none, 0, 0, ()⟩, rfl, rfl, hS'⟩
            · intro a σ' w' rest hσ hdep hS'   -- 6: fieldAddr; pieces:  ..
              have e3 : σ' 3 = ptrAt (pb b3) 0 := (hσ 3 (notDstB rfl)).trans rfl
              exact rule_y (y_field e3 ⟨_, rfl⟩ (by decide)) ⟨⟨ptrAt (pb b3) 1, none, 0, 0, ()⟩, rfl, rfl, hS'⟩
            · intro a σ' w' rest hσ hdep hS'   -- 7: load; pieces:  ..
              have f6 := (hdep 6 _ rfl rfl).2
              have e95 := ((hdep 6 _ rfl rfl).1 95 rfl).trans f6
              exact rule_y (y_load e95 (Sep.sgv hS' 1 rfl) rfl) ⟨⟨str nm, none, 0, 0, ()⟩, rfl, rfl, hS'⟩
            · intro a σ' w' rest hσ hdep hS'   -- 8: move; pieces:  ..
              have e7 : σ' 7 = .slice qa te.length ca := (hσ 7 (notDstB rfl)).trans rfl
              exact rule_e [(7, _)] ⟨e7, trivial⟩ ⟨⟨.slice qa te.length ca, none, 0, 0, ()⟩, rfl, rfl, hS'⟩
            · intro a σ' w' rest hσ hdep hS'   -- 9: build; pieces:  ..
              have f7 := (hdep 7 _ rfl rfl).2
              have e96 := ((hdep 7 _ rfl rfl).1 96 rfl).trans f7
              have f8 := (hdep 8 _ rfl rfl).2
              have e97 := ((hdep 8 _ rfl rfl).1 97 rfl).trans f8
              exact rule_y (y_build (cells := [int 3, str nm, str [], .slice qa te.length ca]) (by rw [bm3 (x := .const (.int .i64 3)) (y := .tmp 96) (z := .tmp 97) (v := int 3) rfl e96 e97]; simp [fillL, setSeg, Value.cells] <;> rfl)) ⟨⟨.agg ⟨[int 3, str nm, str [], .slice qa te.length ca]⟩, none, 0, 0, ()⟩, rfl, rfl, hS'⟩
            · intro a σ' w' rest hσ hdep hS'   -- 10: buildSlice; pieces: sees 11 ..
              have f9 := (hdep 9 _ rfl rfl).2
              have e98 := ((hdep 9 _ rfl rfl).1 98 rfl).trans f9
              obtain ⟨b', w2, hy, hS2⟩ := y_bs1 (P := Tryd.prog) (t := 31) (d := some 99) (x := .tmp 98) (vs := [int 3, str nm, str [], .slice qa te.length ca]) (size := 4) hS' e98 rfl rfl (by decide) (by decide)
              exact rule_y hy ⟨⟨.slice (pb b') 1 1, none, 0, b', ()⟩, rfl, rfl, hS2⟩
            · intro a σ' w' rest hσ hdep hS'   -- 11: call; pieces: takes 10, base 11 ..
              have f5 := (hdep 5 _ rfl rfl).2
              have e94 := ((hdep 5 _ rfl rfl).1 94 rfl).trans f5
              have f10 := (hdep 10 _ rfl rfl).2
              have e99 := ((hdep 10 _ rfl rfl).1 99 rfl).trans f10
              obtain ⟨p2, c2, w2, hy, hS2⟩ := y_app (P := Tryd.prog) (t := 31) (t' := 31) (ty := 31) (d := some 100) (x := .tmp 94) (y := .tmp 99) (n := 1) hS' 1 (hS'.own 0 rfl).sg rfl e94 e99 rfl (by simp [Go.Value.oneCell']) rfl (by decide) (by omega)
              exact rule_y hy ⟨⟨.slice p2 (ms2.length + 1) c2, p2, c2, 0, ()⟩, rfl, rfl, hS2.drop 0 rfl⟩
          · intro a σ' w' hσ hA' hS'
            have h0 := hA' 0 _ rfl
            have h11 := hA' 11 _ rfl
            rw [frameOf (σ := σ') [(0, ptrAt (pb b) 0), (89, ptrAt (pb b) 0), (100, .slice (a 11).p (ms2.length + 1) (a 11).c)] ⟨(hσ 0 (notDst rfl)).trans rfl, (h0.1 89 rfl).trans h0.2, (h11.1 100 rfl).trans h11.2, trivial⟩]
            repeat clear hS
            have hS : Sep w0 w' (pRow 4 (a 11).p (ms2.length + 1) (a 11).c (ms2.flatMap EvM.cells ++ (EvM.mk (voE nm te) qa ca).cells) :: pOwn b [.slice qo2 op2.length co2, .slice qg2 gh2.length cg2, .bool fr2, .slice qt2 ms2.length ct2, int dp2, .slice qf2 fs2.length cf2, .bool true, .bool ov2] :: pOwn b3 [int tk, str nm, str tx, .slice tp te.length tc, .bool tf, int ta, int tb, int td] :: pVw qo2 (strs op2) :: pVw qg2 (strs gh2) :: pMany (ms2.map EvM.row) :: pRow 5 qf2 fs2.length cf2 (fs2.flatMap Fi.cells) :: pRow 2 qa te.length ca (te.flatMap At.cells) :: cs) := hS'
            rw [evs_flat, show ms2.length + 1 = (ms2 ++ [EvM.mk (voE nm te) qa ca]).length by simp] at hS
            rw [show ms2.length + 1 = (ms2 ++ [EvM.mk (voE nm te) qa ca]).length by simp]
            generalize (a 11).p = q5 at *
            generalize (a 11).c = c5 at *
            clear hA' hσ hS' h0 h11
            refine sgo ?_
            refine sst_slice hS 1 fun w7 hS => ?_
            refine sgo ?_
            refine sst_bool hS 1 fun w8 hS => ?_
            refine sgo ?_
            (first | refine fp1 (.inl rfl) rfl rfl ?_ | refine fp2 (.inl rfl) rfl rfl rfl ?_ | refine fp3 (.inl rfl) rfl rfl rfl rfl ?_ | refine fp0 (.inr rfl) rfl ?_ | refine fp0 (.inl rfl) rfl ?_ | refine fp1 (.inr rfl) rfl rfl ?_)
            refine ⟨⟨⟨op2, gh2, false⟩, qo2, co2, qg2, cg2, ms2 ++ [EvM.mk (voE nm te) qa ca], q5, c5, fs2, qf2, cf2, dp2, ov2⟩, ⟨?_, ?_, g3, g4, g5, g6, g7⟩, ?_⟩
            · dsimp only; rw [← g1]
            · dsimp only; rw [evs_snoc, g2, List.append_assoc]
            · have h := (hS.sel 8 [7, 1, 3, 4, 0, 5, 6]).tell1
              simp only [BaM.plots, BaM.cells]
              rw [List.map_append]
              exact h
        | false =>
          rw [if_neg Bool.noConfusion]
          have ho3 := hS.own 9 rfl
          refine sgo ?_
          refine wcdrawt 6 ?_
          refine qgo ?_
          refine QL_nil ?_; intro wd hwd
          replace hS := hS.grow hwd
          refine wlcall (bPush_ok m4 b nm te qa ca hto4.co hto4.cg (by omega) (by omega) w0 _ _ hS) ?_
          clear ho3
          repeat clear hS
          rintro _ w7 ⟨m5, hto5, hS⟩
          refine sgo ?_
          (first | refine fp1 (.inl rfl) rfl rfl ?_ | refine fp2 (.inl rfl) rfl rfl rfl ?_ | refine fp3 (.inl rfl) rfl rfl rfl rfl ?_ | refine fp0 (.inr rfl) rfl ?_ | refine fp0 (.inl rfl) rfl ?_ | refine fp1 (.inr rfl) rfl rfl ?_)
          have h := hto4.trans hto5
          rw [hto4.s, List.append_nil] at h
          exact ⟨m5, h, hS.sel 9 [0, 1, 2, 3, 4, 5]⟩
end Go.Proofs.YtmnnffenijjpcaaDoor

/-
  Package strings: TrimLeft of one byte, Trim of the blanks.
-/
set_option linter.unusedSimpArgs false
set_option linter.unusedVariables false
set_option linter.unnecessarySimpa false
namespace Go.Sv
open Go Go.RowKit
theorem sallocO {P : Program} {n : Nat} {ds : Ctx} {ops : Array Oper} {Q : Exit → Ctx → Env → World → Prop} {rest : List Oper} {σ : GE} {w0 w : World} {d : Nat} {ty e : TypeId} {pos : String} {af : Array Edge} {zv : Value} {size bytes : Nat} {cs : List Plot} [hi : Inf P e zv size bytes] (hS : Sep w0 w cs) (h : ∀ b w' l, l.length = size → Sep w0 w' (pOwn b l :: cs) → WL P n ds ops Q rest (real (updG σ d ⟨ptrAt (pb b) 0, true⟩)) w') (hz : zv.cells.size = size := by kernel_rfl) :
    WL P n ds ops Q (⟨some d, .alloc e, ty, pos, af, none⟩ :: rest) (real σ) w := salloc hS fun b w' hS' => h b w' _ (by rw [Array.length_toList]; exact hz) hS'
end Go.Sv
namespace Go.Proofs.YtmnnffenijjpcaaDoor
open Go Go.Sv Go.RowKit

def dropE (p : UInt8 → Bool) (s : List UInt8) : List UInt8 := (s.reverse.dropWhile p).reverse
theorem dropE_snoc (p : UInt8 → Bool) (s : List UInt8) (x : UInt8) : dropE p (s ++ [x]) = if p x then dropE p s else s ++ [x] := by
  unfold dropE
  rw [List.reverse_append]
  simp only [List.reverse_cons, List.reverse_nil, List.nil_append, List.singleton_append, List.dropWhile_cons]
  split
  · rfl
  · simp
theorem snoc_cases8 (s : List UInt8) : s = [] ∨ ∃ t x, s = t ++ [x] := by
  rcases List.eq_nil_or_concat s with h | ⟨t, x, h⟩
  · exact .inl h
  · exact .inr ⟨t, x, by rw [h, List.concat_eq_append]⟩
theorem dropE_len (p : UInt8 → Bool) (s : List UInt8) : (dropE p s).length ≤ s.length := by
  unfold dropE
  have := (List.dropWhile_sublist (p := p) (l := s.reverse)).length_le
  simpa using this
theorem trimLeft10_ok (s : List UInt8) (w : World) : PureC Tryd.prog 29 #[str s, str [10]] w (str (lfR s)) := by
  refine Calls.mono (Tryd.strings_TrimLeft_one ⟨s.toArray⟩ 10 (by decide) w) ?_
  rintro e w' ⟨rfl, rfl⟩
  refine ⟨_, rfl, ?_, Frm.refl _⟩
  show str _ = str _
  congr 1
def blks : List UInt8 := [9, 10, 12, 32]
theorem blks_in (x : UInt8) : blks.contains x = blkR x := by
  unfold blks blkR
  rw [Bool.eq_iff_iff]; simp
/-- the cells of a set of the blanks -/
def BlkC (cells : List Value) : Prop := cells.length = 256 ∧ ∀ x : UInt8, cells[x.toNat]? = some (.bool (blkR x))
theorem blkC : BlkC (Lib.setCells blks).toList := ⟨by rw [Array.length_toList, Lib.setCells_size], fun x => by rw [Array.getElem?_toList, Lib.setCells_at, blks_in]⟩
theorem contains_ok (b : Nat) (x : UInt8) (cells : List Value) (hcl : BlkC cells) (w : World) (ho : Own w b cells) : PureC Tryd.prog 68 #[ptrAt (pb b) 0, byt x.toNat] w (.bool (blkR x)) := by
  obtain ⟨hl, hat⟩ := hcl
  have hx : x.toNat < 256 := x.toNat_lt
  have hc : w.cell? ⟨b, x.toNat, none⟩ = some (.bool (blkR x)) := by
    rcases ho.sg with h | ⟨a, ha, h⟩
    · rw [h] at hl; cases hl
    · obtain rfl : (⟨b, 0, none⟩ : Addr) = a := Option.some.inj ha
      have := h x.toNat (by omega)
      rw [hat] at this
      rw [← this]
      have e : (⟨b, 0, none⟩ : Addr).add x.toNat = ⟨b, x.toNat, none⟩ := by
        unfold Addr.add
        split
        · rename_i h0; rw [show x.toNat = 0 by simpa using h0]
        · simp
      rw [e]
  refine Calls.mono (Tryd.asciiSet_contains b x (blkR x) w hc) ?_
  rintro e w' ⟨rfl, rfl⟩
  exact ⟨_, rfl, rfl, Frm.refl _⟩
set_option maxHeartbeats 2000000 in
theorem trimLA_ok (s : List UInt8) (b : Nat) (cells : List Value) (hcl : BlkC cells) (hb : s.length ≤ 1048576) (w : World) (ho : Own w b cells) : PureC Tryd.prog 43 #[str s, ptrAt (pb b) 0] w (str (s.dropWhile blkR)) := by
  have hF : Frm w w := Frm.refl w
  refine enter (l := [str s, ptrAt (pb b) 0]) Tryd.func43 rfl Tryd.ntmps43 (by kernel_rfl) rfl ?_
  refine sgo ?_
  refine wcloop (X := List UInt8) (fun x => [(0, str x), (1, ptrAt (pb b) 0)]) (fun x wr => Frm w wr ∧ x.length ≤ s.length ∧ x.dropWhile blkR = s.dropWhile blkR) (fun x => x.length) s ⟨rfl, rfl, trivial⟩ ⟨hF, Nat.le_refl _, rfl⟩ ?_
  clear hF
  rintro x wr ρ ⟨hF, hl, hd⟩
  cases x with
  | nil =>
    simp only [List.length_nil]
    refine sgo ?_
    rw [← hd]
    refine sgo ?_
    (first | refine fp1 (.inl rfl) rfl rfl ?_ | refine fp2 (.inl rfl) rfl rfl rfl ?_ | refine fp3 (.inl rfl) rfl rfl rfl rfl ?_ | refine fp0 (.inr rfl) rfl ?_ | refine fp0 (.inl rfl) rfl ?_ | refine fp1 (.inr rfl) rfl rfl ?_); refine ⟨?_, by (first | exact Frm.refl _ | assumption | exact Go.Sv.Sep.frm (by assumption) | (refine Frm.trans ?_ (by assumption); first | exact Frm.refl _ | assumption))⟩; (try simp only [realB, rv_true, Nat.reduceBEq, cond_true, cond_false, entG, real_lif, updGL])
    rfl
  | cons y x =>
    have hlen : (y :: x).length = x.length + 1 := rfl
    have h0 : (y :: x)[Int.toNat 0]?.getD 0 = y := rfl
    have h1 : (y :: x).drop 1 = x := rfl
    have hdw : (y :: x).dropWhile blkR = if blkR y then x.dropWhile blkR else y :: x := by rw [List.dropWhile_cons]
    generalize hz : y :: x = z at *
    refine sgo ?_
    refine wcyes ?_ (ht := decide_eq_true (by omega))
    refine sgo ?_
    rw [h0]
    refine wlpure (contains_ok b y cells hcl _ (ho.frm hF)) fun w2 hf2 => ?_
    cases hbk : blkR y with
    | true =>
      rw [hbk, if_pos rfl] at hdw
      refine sgo ?_
      refine ⟨x, ⟨?_, rfl, trivial⟩, ⟨hF.trans hf2, by omega, hdw ▸ hd⟩, by omega⟩
      show str _ = str x
      rw [← h1]; rfl
    | false =>
      rw [hbk, if_neg Bool.noConfusion] at hdw
      have e : z = s.dropWhile blkR := by rw [← hd, hdw]
      refine sgo ?_
      (first | refine fp1 (.inl rfl) rfl rfl ?_ | refine fp2 (.inl rfl) rfl rfl rfl ?_ | refine fp3 (.inl rfl) rfl rfl rfl rfl ?_ | refine fp0 (.inr rfl) rfl ?_ | refine fp0 (.inl rfl) rfl ?_ | refine fp1 (.inr rfl) rfl rfl ?_); refine ⟨?_, by (first | exact Frm.refl _ | assumption | exact Go.Sv.Sep.frm (by assumption) | (refine Frm.trans ?_ (by assumption); first | exact Frm.refl _ | assumption))⟩; (try simp only [realB, rv_true, Nat.reduceBEq, cond_true, cond_false, entG, real_lif, updGL])
      rw [e]
set_option maxHeartbeats 2000000 in
theorem trimRA_ok (s : List UInt8) (b : Nat) (cells : List Value) (hcl : BlkC cells) (hb : s.length ≤ 1048576) (w : World) (ho : Own w b cells) : PureC Tryd.prog 50 #[str s, ptrAt (pb b) 0] w (str (dropE blkR s)) := by
  have hF : Frm w w := Frm.refl w
  refine enter (l := [str s, ptrAt (pb b) 0]) Tryd.func50 rfl Tryd.ntmps50 (by kernel_rfl) rfl ?_
  refine sgo ?_
  refine wcloop (X := List UInt8) (fun x => [(0, str x), (1, ptrAt (pb b) 0)]) (fun x wr => Frm w wr ∧ x.length ≤ s.length ∧ dropE blkR x = dropE blkR s) (fun x => x.length) s ⟨rfl, rfl, trivial⟩ ⟨hF, Nat.le_refl _, rfl⟩ ?_
  clear hF
  rintro x wr ρ ⟨hF, hl, hd⟩
  rcases snoc_cases8 x with rfl | ⟨x, y, rfl⟩
  · simp only [List.length_nil]
    refine sgo ?_
    rw [← hd]
    refine sgo ?_
    (first | refine fp1 (.inl rfl) rfl rfl ?_ | refine fp2 (.inl rfl) rfl rfl rfl ?_ | refine fp3 (.inl rfl) rfl rfl rfl rfl ?_ | refine fp0 (.inr rfl) rfl ?_ | refine fp0 (.inl rfl) rfl ?_ | refine fp1 (.inr rfl) rfl rfl ?_); refine ⟨?_, by (first | exact Frm.refl _ | assumption | exact Go.Sv.Sep.frm (by assumption) | (refine Frm.trans ?_ (by assumption); first | exact Frm.refl _ | assumption))⟩; (try simp only [realB, rv_true, Nat.reduceBEq, cond_true, cond_false, entG, real_lif, updGL])
    rfl
  · have hlen : (x ++ [y]).length = x.length + 1 := by simp
    have h0 : (x ++ [y])[((x.length : Nat) : Int).toNat]?.getD 0 = y := by simp
    have h1 : (x ++ [y]).take x.length = x := by simp
    have hdw := dropE_snoc blkR x y
    generalize hz : x ++ [y] = z at *
    have i1 : ((z.length : Int) - 1) = (x.length : Int) := by omega
    refine sgo ?_
    refine wcyes ?_ (ht := decide_eq_true (by omega))
    refine sgo ?_
    rw [i1]
    refine sgo ?_
    rw [h0]
    refine wlpure (contains_ok b y cells hcl _ (ho.frm hF)) fun w2 hf2 => ?_
    cases hbk : blkR y with
    | true =>
      rw [hbk, if_pos rfl] at hdw
      refine sgo ?_
      rw [i1]
      refine sgo ?_
      refine ⟨x, ⟨?_, rfl, trivial⟩, ⟨hF.trans hf2, by omega, hdw ▸ hd⟩, by omega⟩
      exact congrArg str h1
    | false =>
      rw [hbk, if_neg Bool.noConfusion] at hdw
      have e : z = dropE blkR s := by rw [← hd, hdw]
      refine sgo ?_
      (first | refine fp1 (.inl rfl) rfl rfl ?_ | refine fp2 (.inl rfl) rfl rfl rfl ?_ | refine fp3 (.inl rfl) rfl rfl rfl rfl ?_ | refine fp0 (.inr rfl) rfl ?_ | refine fp0 (.inl rfl) rfl ?_ | refine fp1 (.inr rfl) rfl rfl ?_); refine ⟨?_, by (first | exact Frm.refl _ | assumption | exact Go.Sv.Sep.frm (by assumption) | (refine Frm.trans ?_ (by assumption); first | exact Frm.refl _ | assumption))⟩; (try simp only [realB, rv_true, Nat.reduceBEq, cond_true, cond_false, entG, real_lif, updGL])
      rw [e]
/-- Trim of the blanks -/
def trbR (s : List UInt8) : List UInt8 := (dropE blkR s).dropWhile blkR
theorem dw_nil (p : UInt8 → Bool) : ∀ l : List UInt8, decide (l.dropWhile p = []) = l.all p
  | [] => rfl
  | c :: l => by
    rw [List.dropWhile_cons, List.all_cons]
    cases hc : p c with
    | true => rw [if_pos rfl, Bool.true_and]; exact dw_nil p l
    | false => simp
theorem dropE_all (p : UInt8 → Bool) : ∀ (n : Nat) (s : List UInt8), s.length = n → (dropE p s).all p = s.all p
  | 0, s, h => by obtain rfl := List.eq_nil_of_length_eq_zero h; rfl
  | n + 1, s, h => by
    rcases snoc_cases8 s with rfl | ⟨t, x, rfl⟩
    · cases h
    · rw [dropE_snoc]
      split
      · rename_i hx
        rw [dropE_all p n t (by simpa using h), List.all_append]; simp [hx]
      · rfl
theorem trb_nil (s : List UInt8) : decide (trbR s = []) = isBlank s := by
  unfold trbR isBlank
  rw [dw_nil, dropE_all blkR _ s rfl]
set_option maxRecDepth 100000 in
theorem mkSet_ok (w : World) : CallsR Tryd.prog 42 #[str [9, 10, 12, 32]] w fun v w' => ∃ cells : List Value, v = .tuple #[.agg ⟨cells⟩, .bool true] ∧ BlkC cells ∧ (cells.all fun c => c.oneCell') = true ∧ Frm w w' := by
  refine Calls.mono (Tryd.strings_makeASCIISet (fun w => (run_zeroValue w).trans (by kernel_rfl)) ⟨#[9, 10, 12, 32]⟩ w (by decide) (fun j b hb => of_decide_eq_true (List.all_eq_true.1 (show ([9, 10, 12, 32] : List UInt8).all (fun b => decide (b.toNat < 128)) = true by decide) b (List.mem_of_getElem? hb)))) ?_
  rintro e w' ⟨rfl, rfl⟩
  refine ⟨_, rfl, (Lib.setCells blks).toList, rfl, blkC, ?_, frm_alloc _ _⟩
  rw [Lib.setCells_eq]
  simp [Value.oneCell']
set_option maxHeartbeats 2000000 in
theorem trimBlk_ok (s : List UInt8) (hb : s.length ≤ 1048576) (w : World) : PureC Tryd.prog 31 #[str s, str [9, 10, 12, 32]] w (str (trbR s)) := by
  have hS := Sep.start w
  have hlr := dropE_len blkR s
  refine enter (l := [str s, str [9, 10, 12, 32]]) Tryd.func31 rfl Tryd.ntmps31 (by kernel_rfl) rfl ?_
  refine sgo ?_
  by_cases hs : s = []
  · subst hs
    refine wcyes ?_ (ht := by decide)
    refine sgo ?_
    (first | refine fp1 (.inl rfl) rfl rfl ?_ | refine fp2 (.inl rfl) rfl rfl rfl ?_ | refine fp3 (.inl rfl) rfl rfl rfl rfl ?_ | refine fp0 (.inr rfl) rfl ?_ | refine fp0 (.inl rfl) rfl ?_ | refine fp1 (.inr rfl) rfl rfl ?_); refine ⟨?_, by (first | exact Frm.refl _ | assumption | exact Go.Sv.Sep.frm (by assumption) | (refine Frm.trans ?_ (by assumption); first | exact Frm.refl _ | assumption))⟩; (try simp only [realB, rv_true, Nat.reduceBEq, cond_true, cond_false, entG, real_lif, updGL])
    rfl
  · refine wcno ?_ (ht := by rw [pkb_or, decide_eq_false hs]; rfl)
    refine sgo ?_
    refine wlcall (mkSet_ok _) ?_
    rintro _ w2 ⟨cells, rfl, hcl, hone, hf2⟩
    replace hS := hS.grow hf2
    refine sgo ?_
    refine sallocO hS fun b w3 l hll hS => ?_
    refine sgo ?_
    refine ssta (vs := cells) hS 0 (fun w4 hS => ?_) (hv := ⟨hcl.1, hll⟩) (h1 := hone)
    refine sgo ?_
    refine wlpure (trimRA_ok s b cells hcl hb _ (hS.own 0 rfl)) fun w5 hf5 => ?_
    replace hS := hS.grow hf5
    refine sgo ?_
    refine wlpure (trimLA_ok _ b cells hcl (by omega) _ (hS.own 0 rfl)) fun w6 hf6 => ?_
    replace hS := hS.grow hf6
    refine sgo ?_
    (first | refine fp1 (.inl rfl) rfl rfl ?_ | refine fp2 (.inl rfl) rfl rfl rfl ?_ | refine fp3 (.inl rfl) rfl rfl rfl rfl ?_ | refine fp0 (.inr rfl) rfl ?_ | refine fp0 (.inl rfl) rfl ?_ | refine fp1 (.inr rfl) rfl rfl ?_); refine ⟨?_, by (first | exact Frm.refl _ | assumption | exact Go.Sv.Sep.frm (by assumption) | (refine Frm.trans ?_ (by assumption); first | exact Frm.refl _ | assumption))⟩; (try simp only [realB, rv_true, Nat.reduceBEq, cond_true, cond_false, entG, real_lif, updGL])
    rfl
end Go.Proofs.YtmnnffenijjpcaaDoor

/-
  Package balance: text.
-/
set_option linter.unusedSimpArgs false
set_option linter.unusedVariables false
set_option linter.unnecessarySimpa false
namespace Go.Proofs.YtmnnffenijjpcaaDoor
open Go Go.Sv Go.RowKit

def txP (b b3 : Nat) (qo : Option Addr) (co : Nat) (op : List Nm) (x : Nm) (p : PlanR) : PlanB (Option Addr × Nat) where
  pl k d := match k with
    | 8 => [pRow 1 d.x.1 p.put.length d.x.2 (strs p.put)]
    | 12 => [pOwn d.b [int 0, .slice none 0 0, .bool false]]
    | 13 => [pOwn d.b [int p.ends, .slice d.x.1 p.put.length d.x.2, .bool p.drop]]
    | _ => []
  con k := match k with
    | 12 => some 13
    | _ => none
  base k := match k with
    | _ => []
  fact k a := match k with
    | 0 => (a 0).v = ptrAt (pb b) 0
    | 1 => (a 1).v = ptrAt (pb b) 0
    | 2 => (a 2).v = ptrAt (pb b) 0
    | 3 => (a 3).v = ptrAt (pb b) 0
    | 4 => (a 4).v = .slice qo op.length co
    | 5 => (a 5).v = str x
    | 6 => (a 6).v = str (trbR x)
    | 7 => (a 7).v = .bool (isBlank x)
    | 8 => (a 8).v = .tuple #[.agg ⟨[int p.ends, .slice (a 8).x.1 p.put.length (a 8).x.2, .bool p.drop]⟩, int p.err]
    | 9 => (a 9).v = .tuple #[.agg ⟨[int p.ends, .slice (a 9).x.1 p.put.length (a 9).x.2, .bool p.drop]⟩, int p.err] ∧ (a 9).x = (a 8).x
    | 10 => (a 10).v = .agg ⟨[int p.ends, .slice (a 10).x.1 p.put.length (a 10).x.2, .bool p.drop]⟩ ∧ (a 10).x = (a 9).x
    | 11 => (a 11).v = int p.err
    | 12 => (a 12).v = ptrAt (pb (a 12).b) 0
    | 13 => (a 13).b = (a 12).b ∧ (a 13).x = (a 10).x
    | 14 => (a 14).v = int p.err
    | _ => True
set_option maxHeartbeats 8000000 in
theorem bText_ok (m : BaM) (b : Nat) (t : Tok) (tp : Option Addr) (tc : Nat) (hr : rightR m.s.op = true) (hco : m.s.op.length ≤ m.co) (hcg : m.s.gh.length ≤ m.cg) (hb1 : m.s.op.length ≤ 1024) (hb2 : m.ms.length ≤ 1024) (hb3 : m.fs.length ≤ 1024) (hdp : m.dp ≤ 1024) (htx : t.text ≠ []) (htl : t.text.length ≤ 1048576)
    (w0 w : World) (cs : List Plot) (hA : Asc w0) (hS : Sep w0 w (m.plots b cs)) :
    CallsR Tryd.prog 17 #[ptrAt (pb b) 0, .agg ⟨t.cells tp tc⟩] w fun _ w' => BaP m b (textB m.dp m.s t).s (textB m.dp m.s t).es (textB m.dp m.s t).fs w0 cs w' := by
  obtain ⟨⟨op, gh, fr⟩, qo, co, qg, cg, ms, qt, ct, fs, qf, cf, dp, ov⟩ := m
  obtain ⟨tk, nm, tx, te, tf, ta, tb, td⟩ := t
  dsimp only at hr hco hcg hb1 hb2 hb3 hdp htx htl
  refine enter (l := [ptrAt (pb b) 0, .agg ⟨Tok.cells ⟨tk, nm, tx, te, tf, ta, tb, td⟩ tp tc⟩]) Tryd.func17 rfl Tryd.ntmps17 (by kernel_rfl) rfl ?_
  refine WC_seq ?_
  refine WC_region ?_
  refine sbox (v := .agg ⟨Tok.cells ⟨tk, nm, tx, te, tf, ta, tb, td⟩ tp tc⟩) hS fun b3 w1 hS => ?_
  replace hS : Sep w0 w1 (pOwn b3 [int tk, str nm, str tx, .slice tp te.length tc, .bool tf, int ta, int tb, int td] :: pOwn b [.slice qo op.length co, .slice qg gh.length cg, .bool fr, .slice qt ms.length ct, int dp, .slice qf fs.length cf, .bool true, .bool ov] :: pVw qo (strs op) :: pVw qg (strs gh) :: pRow 4 qt ms.length ct (ms.flatMap EvM.cells) :: pMany (ms.map EvM.row) :: pRow 5 qf fs.length cf (fs.flatMap Fi.cells) :: cs) := hS
  refine sgo ?_
  unfold textB
  dsimp only
  refine wcutt (X := Unit) (fun _ => [(0, ptrAt (pb b) 0), (3, ptrAt (pb b3) 0), (4, str (headB ⟨op, gh, fr⟩ ⟨tk, nm, tx, te, tf, ta, tb, td⟩))])
    (fun _ wr => headB ⟨op, gh, fr⟩ ⟨tk, nm, tx, te, tf, ta, tb, td⟩ ≠ [] ∧ (headB ⟨op, gh, fr⟩ ⟨tk, nm, tx, te, tf, ta, tb, td⟩).length ≤ 1048576 ∧ Sep w0 wr (pOwn b3 [int tk, str nm, str tx, .slice tp te.length tc, .bool tf, int ta, int tb, int td] :: pOwn b [.slice qo op.length co, .slice qg gh.length cg, .bool fr, .slice qt ms.length ct, int dp, .slice qf fs.length cf, .bool true, .bool ov] :: pVw qo (strs op) :: pVw qg (strs gh) :: pRow 4 qt ms.length ct (ms.flatMap EvM.cells) :: pMany (ms.map EvM.row) :: pRow 5 qf fs.length cf (fs.flatMap Fi.cells) :: cs)) ?_ ?_
  · cases fr with
    | false =>
      have e : headB ⟨op, gh, false⟩ ⟨tk, nm, tx, te, tf, ta, tb, td⟩ = tx := by unfold headB; dsimp only; rw [if_neg Bool.noConfusion]
      rw [e]
      refine sgo ?_
      exact ⟨(), ⟨rfl, rfl, rfl, trivial⟩, htx, htl, hS⟩
    | true =>
      have e : headB ⟨op, gh, true⟩ ⟨tk, nm, tx, te, tf, ta, tb, td⟩ = lfR tx := by unfold headB; dsimp only; rw [if_pos rfl]
      have hl := lf_len tx
      rw [e]
      refine sgo ?_
      refine wlpure (trimLeft10_ok tx _) fun w2 hf2 => ?_
      replace hS := hS.grow hf2
      refine sgo ?_
      by_cases hx : lfR tx = []
      · rw [if_pos hx]
        refine wcyes ?_ (ht := decide_eq_true hx)
        refine sgo ?_
        (first | refine fp1 (.inl rfl) rfl rfl ?_ | refine fp2 (.inl rfl) rfl rfl rfl ?_ | refine fp3 (.inl rfl) rfl rfl rfl rfl ?_ | refine fp0 (.inr rfl) rfl ?_ | refine fp0 (.inl rfl) rfl ?_ | refine fp1 (.inr rfl) rfl rfl ?_)
        exact ⟨⟨⟨op, gh, true⟩, qo, co, qg, cg, ms, qt, ct, fs, qf, cf, dp, ov⟩, ⟨rfl, (List.append_nil _).symm, (List.append_nil _).symm, rfl, rfl, hco, hcg⟩, hS.tail⟩
      · refine wcno ?_ (ht := decide_eq_false hx)
        refine sgo ?_
        exact ⟨(), ⟨rfl, rfl, rfl, trivial⟩, hx, by omega, hS⟩
  repeat clear hS
  rintro _ w2 ρ ⟨hx, hxl, hS⟩
  rw [if_neg hx]
  generalize headB ⟨op, gh, fr⟩ ⟨tk, nm, tx, te, tf, ta, tb, td⟩ = x at *
  have hopen := fun w' hA' hi' => nText_ok op qo co (isBlank x) hco (by omega) w' w' [] hA' hi' (Sep.start w')
  obtain ⟨hpe, hpl⟩ := nText_bnd op (isBlank x)
  have hpo : (nTextR op (isBlank x)).err = 0 := by
    unfold nTextR
    rw [hr, if_neg Bool.noConfusion]
    repeat' split
    all_goals rfl
  generalize nTextR op (isBlank x) = p at hopen hpl hpe hpo ⊢
  replace hS : Sep w0 w2 ([] ++ (pOwn b3 [int tk, str nm, str tx, .slice tp te.length tc, .bool tf, int ta, int tb, int td] :: pOwn b [.slice qo op.length co, .slice qg gh.length cg, .bool fr, .slice qt ms.length ct, int dp, .slice qf fs.length cf, .bool true, .bool ov] :: pVw qo (strs op) :: pVw qg (strs gh) :: pRow 4 qt ms.length ct (ms.flatMap EvM.cells) :: pMany (ms.map EvM.row) :: pRow 5 qf fs.length cf (fs.flatMap Fi.cells) :: cs)) := hS
  refine sgo ?_
  refine wcplanb (b := []) (txP b b3 qo co op x p) ⟨.nilIface, none, 0, 0, (none, 0)⟩ hS rfl (fun j oj a a' hj he hd h => ?_) ⟨?_, ?_, ?_, ?_, ?_, ?_, ?_, ?_, ?_, ?_, ?_, ?_, ?_, ?_, ?_, trivial⟩ ?_
  · have hjl : j < 15 := (List.getElem?_eq_some_iff.1 hj).1
    match j, hjl with
    | 0, _ | 1, _ | 2, _ | 3, _ | 4, _ | 5, _ | 6, _ | 7, _ | 8, _ | 11, _ | 12, _ | 14, _ => first | (simp only [txP] at h ⊢; rw [← he]; exact h) | exact h
    | 9, _ => simp only [txP] at h ⊢; rw [← he, ← hd 8 (by cases hj; rfl)]; exact h
    | 10, _ => simp only [txP] at h ⊢; rw [← he, ← hd 9 (by cases hj; rfl)]; exact h
    | 13, _ => simp only [txP] at h ⊢; rw [← he, ← hd 10 (by cases hj; rfl), ← hd 12 (by cases hj; rfl)]; exact h
  · intro a σ' w' rest hσ hdep hS'   -- 0: move; pieces:  ..
    have e0 : σ' 0 = ptrAt (pb b) 0 := (hσ 0 (notDstB rfl)).trans rfl
    exact rule_e [(0, _)] ⟨e0, trivial⟩ ⟨⟨ptrAt (pb b) 0, none, 0, 0, (none, 0)⟩, rfl, rfl, hS'⟩
  · intro a σ' w' rest hσ hdep hS'   -- 1: nilCheck; pieces:  ..
    have f0 := (hdep 0 _ rfl rfl).2
    have e19 := ((hdep 0 _ rfl rfl).1 19 rfl).trans f0
    exact rule_y (y_nilcheckp e19 ⟨_, rfl⟩) ⟨⟨ptrAt (pb b) 0, none, 0, 0, (none, 0)⟩, rfl, rfl, hS'⟩
  · intro a σ' w' rest hσ hdep hS'   -- 2: fieldAddr; pieces:  ..
    have f1 := (hdep 1 _ rfl rfl).2
    have e20 := ((hdep 1 _ rfl rfl).1 20 rfl).trans f1
    exact rule_y (y_field e20 ⟨_, rfl⟩ (by decide)) ⟨⟨ptrAt (pb b) 0, none, 0, 0, (none, 0)⟩, rfl, rfl, hS'⟩
  · intro a σ' w' rest hσ hdep hS'   -- 3: fieldAddr; pieces:  ..
    have f2 := (hdep 2 _ rfl rfl).2
    have e21 := ((hdep 2 _ rfl rfl).1 21 rfl).trans f2
    exact rule_y (y_field e21 ⟨_, rfl⟩ (by decide)) ⟨⟨ptrAt (pb b) 0, none, 0, 0, (none, 0)⟩, rfl, rfl, hS'⟩
  · intro a σ' w' rest hσ hdep hS'   -- 4: load; pieces:  ..
    have f3 := (hdep 3 _ rfl rfl).2
    have e22 := ((hdep 3 _ rfl rfl).1 22 rfl).trans f3
    exact rule_y (y_load e22 (Sep.sgv hS' 1 rfl) rfl) ⟨⟨.slice qo op.length co, none, 0, 0, (none, 0)⟩, rfl, rfl, hS'⟩
  · intro a σ' w' rest hσ hdep hS'   -- 5: move; pieces:  ..
    have e4 : σ' 4 = str x := (hσ 4 (notDstB rfl)).trans rfl
    exact rule_e [(4, _)] ⟨e4, trivial⟩ ⟨⟨str x, none, 0, 0, (none, 0)⟩, rfl, rfl, hS'⟩
  · intro a σ' w' rest hσ hdep hS'   -- 6: call; pieces:  ..
    have f5 := (hdep 5 _ rfl rfl).2
    have e24 := ((hdep 5 _ rfl rfl).1 24 rfl).trans f5
    exact rule_pure (trimBlk_ok x hxl w') (fun w2 hf2 => ⟨⟨str (trbR x), none, 0, 0, (none, 0)⟩, rfl, rfl, hS'.grow hf2⟩) (am2 e24 rfl)
  · intro a σ' w' rest hσ hdep hS'   -- 7: binOp; pieces:  ..
    have f6 := (hdep 6 _ rfl rfl).2
    have e25 := ((hdep 6 _ rfl rfl).1 25 rfl).trans f6
    exact rule_y (by rw [← trb_nil]; exact y_seql (l' := []) e25 rfl) ⟨⟨.bool (isBlank x), none, 0, 0, (none, 0)⟩, rfl, rfl, hS'⟩
  · intro a σ' w' rest hσ hdep hS'   -- 8: call; pieces:  ..
    have f4 := (hdep 4 _ rfl rfl).2
    have e23 := ((hdep 4 _ rfl rfl).1 23 rfl).trans f4
    have f7 := (hdep 7 _ rfl rfl).2
    have e26 := ((hdep 7 _ rfl rfl).1 26 rfl).trans f7
    refine rule_call (vals := [.slice qo op.length co, .bool (isBlank x)]) (hopen w' (hA.frm hS'.frm) (hS'.vw 2 rfl)) (fun v w2 hR => ?_) (am2 e23 e26)
    obtain ⟨q7, c7, rfl, hS2⟩ := hR
    exact ⟨⟨.tuple #[.agg ⟨[int p.ends, .slice q7 p.put.length c7, .bool p.drop]⟩, int p.err], none, 0, 0, (q7, c7)⟩, rfl, rfl, hS'.seq hS2⟩
  · intro a σ' w' rest hσ hdep hS'   -- 9: move; pieces:  ..
    have f8 := (hdep 8 _ rfl rfl).2
    have e27 := ((hdep 8 _ rfl rfl).1 27 rfl).trans f8
    exact rule_e [(27, _)] ⟨e27, trivial⟩ ⟨⟨.tuple #[.agg ⟨[int p.ends, .slice (a 8).x.1 p.put.length (a 8).x.2, .bool p.drop]⟩, int p.err], none, 0, 0, (a 8).x⟩, rfl, ⟨rfl, rfl⟩, hS'⟩
  · intro a σ' w' rest hσ hdep hS'   -- 10: extract; pieces:  ..
    have f9 := (hdep 9 _ rfl rfl).2
    have e18 := ((hdep 9 _ rfl rfl).1 18 rfl).trans f9.1
    exact rule_e [(18, _)] ⟨e18, trivial⟩ ⟨⟨.agg ⟨[int p.ends, .slice (a 9).x.1 p.put.length (a 9).x.2, .bool p.drop]⟩, none, 0, 0, (a 9).x⟩, rfl, ⟨rfl, rfl⟩, hS'⟩
  · intro a σ' w' rest hσ hdep hS'   -- 11: extract; pieces:  ..
    have f9 := (hdep 9 _ rfl rfl).2
    have e18 := ((hdep 9 _ rfl rfl).1 18 rfl).trans f9.1
    exact rule_e [(18, _)] ⟨e18, trivial⟩ ⟨⟨int p.err, none, 0, 0, (none, 0)⟩, rfl, rfl, hS'⟩
  · intro a σ' w' rest hσ hdep hS'   -- 12: alloc; pieces:  ..
    obtain ⟨b, w2, hy, hS2⟩ := y_salloc (P := Tryd.prog) (e := 63) (d := some 5) hS'
    exact rule_y hy ⟨⟨ptrAt (pb b) 0, none, 0, b, (none, 0)⟩, rfl, rfl, hS2⟩
  · intro a σ' w' rest hσ hdep hS'   -- 13: store; pieces: takes 12 ..
    have f12 := (hdep 12 _ rfl rfl).2
    have e5 := ((hdep 12 _ rfl rfl).1 5 rfl).trans f12
    have f10 := (hdep 10 _ rfl rfl).2
    have e28 := ((hdep 10 _ rfl rfl).1 28 rfl).trans f10.1
    obtain ⟨w2, hy, hS2⟩ := y_sst (P := Tryd.prog) (t := 63) (x := .tmp 5) (y := .tmp 28) hS' 0 rfl e5 e28 rfl (Nat.le_of_ble_eq_true rfl) (by simp [Go.Value.cells, Go.Value.oneCell'])
    exact rule_y hy ⟨⟨undef, none, 0, (a 12).b, (a 10).x⟩, rfl, ⟨rfl, rfl⟩, hS2⟩
  · intro a σ' w' rest hσ hdep hS'   -- 14: assign; pieces:  ..
    have f11 := (hdep 11 _ rfl rfl).2
    have e29 := ((hdep 11 _ rfl rfl).1 29 rfl).trans f11
    exact rule_e [(29, _)] ⟨e29, trivial⟩ ⟨⟨int p.err, none, 0, 0, (none, 0)⟩, rfl, rfl, hS'⟩
  · intro a σ' w' hσ hA' hS'
    have h9 := hA' 9 _ rfl
    have h10 := hA' 10 _ rfl
    have h12 := hA' 12 _ rfl
    have h13 := hA' 13 _ rfl
    have h14 := hA' 14 _ rfl
    have hxx : (a 13).x = (a 8).x := h13.2.2.trans (h10.2.2.trans h9.2.2)
    rw [frameOf (σ := σ') [(0, ptrAt (pb b) 0), (3, ptrAt (pb b3) 0), (4, str x), (5, ptrAt (pb (a 13).b) 0), (6, int p.err)] ⟨(hσ 0 (notDst rfl)).trans rfl, (hσ 3 (notDst rfl)).trans rfl, (hσ 4 (notDst rfl)).trans rfl, (h12.1 5 rfl).trans (h12.2.trans (by rw [h13.2.1])), (h14.1 6 rfl).trans h14.2, trivial⟩]
    repeat clear hS
    have hS : Sep w0 w' (pRow 1 (a 8).x.1 p.put.length (a 8).x.2 (strs p.put) :: pOwn (a 13).b [int p.ends, .slice (a 13).x.1 p.put.length (a 13).x.2, .bool p.drop] :: pOwn b3 [int tk, str nm, str tx, .slice tp te.length tc, .bool tf, int ta, int tb, int td] :: pOwn b [.slice qo op.length co, .slice qg gh.length cg, .bool fr, .slice qt ms.length ct, int dp, .slice qf fs.length cf, .bool true, .bool ov] :: pVw qo (strs op) :: pVw qg (strs gh) :: pRow 4 qt ms.length ct (ms.flatMap EvM.cells) :: pMany (ms.map EvM.row) :: pRow 5 qf fs.length cf (fs.flatMap Fi.cells) :: cs) := hS'
    rw [hxx] at hS
    generalize (a 13).b = b4 at *
    generalize (a 8).x = x7 at *
    clear hA' hσ hS' h9 h10 h12 h13 h14 hxx hopen
    obtain ⟨q7, c7⟩ := x7
    replace hS : Sep w0 w' (pOwn b4 [int p.ends, .slice q7 p.put.length c7, .bool p.drop] :: pOwn b3 [int tk, str nm, str tx, .slice tp te.length tc, .bool tf, int ta, int tb, int td] :: pOwn b [.slice qo op.length co, .slice qg gh.length cg, .bool fr, .slice qt ms.length ct, int dp, .slice qf fs.length cf, .bool true, .bool ov] :: pVw qo (strs op) :: pVw qg (strs gh) :: pRow 4 qt ms.length ct (ms.flatMap EvM.cells) :: pMany (ms.map EvM.row) :: pRow 5 qf fs.length cf (fs.flatMap Fi.cells) :: pVw q7 (strs p.put) :: cs) := (hS.rowVw 0 rfl).sel 9 [1, 2, 3, 4, 5, 6, 7, 8, 0]
    obtain ⟨ends, put, drop, err⟩ := p
    dsimp only at hpl hpe hpo hS ⊢
    subst hpo
    refine sgo ?_
    cases drop with
    | true =>
      rw [if_pos rfl]
      refine sgo ?_
      (first | refine fp1 (.inl rfl) rfl rfl ?_ | refine fp2 (.inl rfl) rfl rfl rfl ?_ | refine fp3 (.inl rfl) rfl rfl rfl rfl ?_ | refine fp0 (.inr rfl) rfl ?_ | refine fp0 (.inl rfl) rfl ?_ | refine fp1 (.inr rfl) rfl rfl ?_)
      exact ⟨⟨⟨op, gh, fr⟩, qo, co, qg, cg, ms, qt, ct, fs, qf, cf, dp, ov⟩, ⟨rfl, (List.append_nil _).symm, (List.append_nil _).symm, rfl, rfl, hco, hcg⟩, hS.sel 9 [2, 3, 4, 5, 6, 7]⟩
    | false =>
      rw [if_neg Bool.noConfusion]
      refine sgo ?_
      (first | refine WC_seq ?_ | skip); refine wcdraw ?_
      refine qgo ?_
      refine QL_nil ?_; intro wd hwd
      replace hS := hS.grow hwd
      refine sgo ?_
      by_cases hd : dp < op.length - ends + put.length
      · rw [if_pos hd]
        refine wcyes ?_ (ht := decide_eq_true (by omega))
        replace hS : Sep w0 wd ((BaM.mk ⟨op, gh, fr⟩ qo co qg cg ms qt ct fs qf cf dp ov).plots b (pOwn b4 [int ends, .slice q7 put.length c7, .bool false] :: pOwn b3 [int tk, str nm, str tx, .slice tp te.length tc, .bool tf, int ta, int tb, int td] :: pVw q7 (strs put) :: cs)) := hS.sel 9 [2, 3, 4, 5, 6, 7, 0, 1, 8]
        have ho3 := hS.own 7 rfl
        refine sgo ?_
        refine wlcall (bFind_ok _ b ⟨tk, nm, tx, te, tf, ta, tb, td⟩ tp tc 8 [] hco hcg (by dsimp only; omega) w0 _ _ hS) ?_
        clear ho3
        repeat clear hS
        rintro _ w5 ⟨m4, hto4, hS⟩
        refine sgo ?_
        (first | refine fp1 (.inl rfl) rfl rfl ?_ | refine fp2 (.inl rfl) rfl rfl rfl ?_ | refine fp3 (.inl rfl) rfl rfl rfl rfl ?_ | refine fp0 (.inr rfl) rfl ?_ | refine fp0 (.inl rfl) rfl ?_ | refine fp1 (.inr rfl) rfl rfl ?_)
        exact ⟨m4, hto4, hS.sel 9 [0, 1, 2, 3, 4, 5]⟩
      · rw [if_neg hd]
        refine wcno ?_ (ht := decide_eq_false (by omega))
        replace hS : Sep w0 wd ((BaM.mk ⟨op, gh, fr⟩ qo co qg cg ms qt ct fs qf cf dp ov).plots b (pVw q7 (strs put) :: pOwn b4 [int ends, .slice q7 put.length c7, .bool false] :: pOwn b3 [int tk, str nm, str tx, .slice tp te.length tc, .bool tf, int ta, int tb, int td] :: cs)) := hS.sel 9 [2, 3, 4, 5, 6, 7, 8, 0, 1]
        have ho4 := hS.own 7 rfl
        have ho3 := hS.own 8 rfl
        refine sgo ?_
        refine wlcall (bFollow_ok _ b ⟨tk, nm, tx, te, tf, ta, tb, td⟩ tp tc ⟨ends, put, false, 0⟩ q7 c7 hpe hco hcg (by dsimp only; omega) (by dsimp only; omega) (by dsimp only; omega) w0 _ _ hS) ?_
        clear ho3 ho4
        repeat clear hS
        rintro _ w5 ⟨m4, hto4, hS⟩
        have hlen := hto4.len
        simp only [followE, followF, List.length_append, List.length_map, offN_len _ _ hpe] at hlen
        obtain ⟨⟨op2, gh2, fr2⟩, qo2, co2, qg2, cg2, ms2, qt2, ct2, fs2, qf2, cf2, dp2, ov2⟩ := m4
        obtain ⟨g1, g2, g3, g4, g5, g6, g7⟩ := hto4
        dsimp only at g1 g2 g3 g4 g5 g6 g7 hlen
        replace hS : Sep w0 w5 (pOwn b [.slice qo2 op2.length co2, .slice qg2 gh2.length cg2, .bool fr2, .slice qt2 ms2.length ct2, int dp2, .slice qf2 fs2.length cf2, .bool true, .bool ov2] :: pVw qo2 (strs op2) :: pVw qg2 (strs gh2) :: pRow 4 qt2 ms2.length ct2 (ms2.flatMap EvM.cells) :: pMany (ms2.map EvM.row) :: pRow 5 qf2 fs2.length cf2 (fs2.flatMap Fi.cells) :: cs) := hS.sel 9 [0, 1, 2, 3, 4, 5]
        refine sgo ?_
        refine wlbuild (cells := [int 0, str [], str x, .slice none 0 0]) ?_
        refine sgo ?_
        refine sb1a (vs := EvM.cells (EvM.mk (txE x) none 0)) hS fun b6 w6 hS => ?_
        refine sgo ?_
        refine sapp hS 4 (hS.own 0 rfl).sg (fun q2 c2 w7 hS => ?_) (h1 := ev_one _ _ _)
        rw [evs_flat, show ms2.length + 1 = (ms2 ++ [EvM.mk (txE x) none 0]).length by simp] at hS
        rw [show ms2.length + 1 = (ms2 ++ [EvM.mk (txE x) none 0]).length by simp]
        refine sgo ?_
        refine sst_slice hS 1 fun w8 hS => ?_
        refine sgo ?_
        refine sst_bool hS 1 fun w9 hS => ?_
        refine sgo ?_
        (first | refine fp1 (.inl rfl) rfl rfl ?_ | refine fp2 (.inl rfl) rfl rfl rfl ?_ | refine fp3 (.inl rfl) rfl rfl rfl rfl ?_ | refine fp0 (.inr rfl) rfl ?_ | refine fp0 (.inl rfl) rfl ?_ | refine fp1 (.inr rfl) rfl rfl ?_)
        refine ⟨⟨⟨op2, gh2, false⟩, qo2, co2, qg2, cg2, ms2 ++ [EvM.mk (txE x) none 0], q2, c2, fs2, qf2, cf2, dp2, ov2⟩, ⟨?_, ?_, g3, g4, g5, g6, g7⟩, ?_⟩
        · dsimp only; rw [← g1]
        · dsimp only; rw [evs_snoc, g2, List.append_assoc]
        · have h := (hS.tail.nilRow 2).tell1
          simp only [BaM.plots, BaM.cells]
          rw [List.map_append]
          exact h
end Go.Proofs.YtmnnffenijjpcaaDoor

/-
  Package balance: end.
-/
set_option linter.unusedSimpArgs false
set_option linter.unusedVariables false
set_option linter.unnecessarySimpa false
namespace Go.Proofs.YtmnnffenijjpcaaDoor
open Go Go.Sv Go.RowKit

set_option maxHeartbeats 4000000 in
theorem bEndT_ok (m : BaM) (b : Nat) (t : Tok) (tp : Option Addr) (tc : Nat) (hr : rightR m.s.op = true) (hco : m.s.op.length ≤ m.co) (hcg : m.s.gh.length ≤ m.cg) (hb1 : m.s.op.length ≤ 1024) (hb2 : m.ms.length ≤ 1024) (hb3 : m.fs.length ≤ 1024) (hb4 : m.s.gh.length ≤ 4194304)
    (w0 w : World) (cs : List Plot) (hA : Asc w0) (hS : Sep w0 w (m.plots b cs)) :
    CallsR Tryd.prog 18 #[ptrAt (pb b) 0, .agg ⟨t.cells tp tc⟩] w fun _ w' => BaP m b (endB m.s t).s (endB m.s t).es (endB m.s t).fs w0 cs w' := by
  obtain ⟨⟨op, gh, fr⟩, qo, co, qg, cg, ms, qt, ct, fs, qf, cf, dp, ov⟩ := m
  obtain ⟨tk, nm, tx, te, tf, ta, tb, td⟩ := t
  dsimp only at hr hco hcg hb1 hb2 hb3 hb4
  have hsl := strs_len gh
  refine enter (l := [ptrAt (pb b) 0, .agg ⟨Tok.cells ⟨tk, nm, tx, te, tf, ta, tb, td⟩ tp tc⟩]) Tryd.func18 rfl Tryd.ntmps18 (by kernel_rfl) rfl ?_
  refine WC_seq ?_
  refine WC_region ?_
  refine sbox (v := .agg ⟨Tok.cells ⟨tk, nm, tx, te, tf, ta, tb, td⟩ tp tc⟩) hS fun b3 w1 hS => ?_
  replace hS : Sep w0 w1 (pOwn b3 [int tk, str nm, str tx, .slice tp te.length tc, .bool tf, int ta, int tb, int td] :: pOwn b [.slice qo op.length co, .slice qg gh.length cg, .bool fr, .slice qt ms.length ct, int dp, .slice qf fs.length cf, .bool true, .bool ov] :: pVw qo (strs op) :: pVw qg (strs gh) :: pRow 4 qt ms.length ct (ms.flatMap EvM.cells) :: pMany (ms.map EvM.row) :: pRow 5 qf fs.length cf (fs.flatMap Fi.cells) :: cs) := hS
  refine sgo ?_
  refine wcloop (X := Nat) (fun k => [(0, ptrAt (pb b) 0), (3, ptrAt (pb b3) 0), (4, int ((k : Int) - 1))])
    (fun k wr => k ≤ gh.length ∧ lastK nm gh gh.length = lastK nm gh k ∧ Sep w0 wr (pOwn b3 [int tk, str nm, str tx, .slice tp te.length tc, .bool tf, int ta, int tb, int td] :: pOwn b [.slice qo op.length co, .slice qg gh.length cg, .bool fr, .slice qt ms.length ct, int dp, .slice qf fs.length cf, .bool true, .bool ov] :: pVw qo (strs op) :: pVw qg (strs gh) :: pRow 4 qt ms.length ct (ms.flatMap EvM.cells) :: pMany (ms.map EvM.row) :: pRow 5 qf fs.length cf (fs.flatMap Fi.cells) :: cs))
    (fun k => k) gh.length ⟨rfl, rfl, rfl, trivial⟩ ⟨Nat.le_refl _, rfl, hS⟩ ?_
  repeat clear hS
  rintro k wr ρ ⟨hk, hlk, hS⟩
  unfold endB
  dsimp only
  cases k with
  | succ k =>
    have i1 : (((k + 1 : Nat) : Int) - 1) = (k : Int) := by omega
    rw [i1]
    have hy0 : gh[k]? = some gh[k] := List.getElem?_eq_getElem (by omega)
    have hgd : gh.getD k [] = gh[k] := by rw [List.getD_eq_getElem?_getD, hy0]; rfl
    rw [lastK, hgd] at hlk
    generalize gh[k] = y at *
    have hy := strs_at hy0
    have hqs : ∃ a, qg = some a := (hS.vw 3 rfl).some (by omega)
    refine sgo ?_
    refine wcyes ?_ (ht := decide_eq_true (by omega))
    refine sgo ?_
    (first | refine WC_seq ?_ | skip); refine wcdraw ?_
    refine qgo ?_
    refine QL_nil ?_; intro wd hwd
    replace hS := hS.grow hwd
    refine sgo ?_
    by_cases hyn : y = nm
    · rw [if_pos hyn] at hlk
      rw [hlk]
      refine wcyes ?_ (ht := decide_eq_true hyn)
      refine sgo ?_
      refine sst_slice hS 1 fun w6 hS => ?_
      refine sgo ?_
      (first | refine fp1 (.inl rfl) rfl rfl ?_ | refine fp2 (.inl rfl) rfl rfl rfl ?_ | refine fp3 (.inl rfl) rfl rfl rfl rfl ?_ | refine fp0 (.inr rfl) rfl ?_ | refine fp0 (.inl rfl) rfl ?_ | refine fp1 (.inr rfl) rfl rfl ?_)
      refine ⟨⟨⟨op, gh.take k, fr⟩, qo, co, qg, k, ms, qt, ct, fs, qf, cf, dp, ov⟩, ⟨rfl, (List.append_nil _).symm, (List.append_nil _).symm, rfl, rfl, hco, by dsimp only; rw [List.length_take]; omega⟩, ?_⟩
      have e : (gh.take k).length = k := by rw [List.length_take]; omega
      have ec : (strs gh).take k = strs (gh.take k) := by unfold strs; rw [List.map_take]
      have h := (hS.cutVw 3 rfl k).tail
      simp only [BaM.plots, BaM.cells, e]
      rw [← ec]
      exact h
    · rw [if_neg hyn] at hlk
      refine wcno ?_ (ht := decide_eq_false hyn)
      refine sgo ?_
      exact ⟨k, ⟨rfl, rfl, rfl, trivial⟩, ⟨by omega, hlk, hS⟩, (by (try dsimp only); omega)⟩
  | zero =>
    rw [show lastK nm gh gh.length = none from hlk]
    dsimp only
    have hIo := hS.vw 2 rfl
    refine sgo ?_
    (first | refine WC_seq ?_ | skip); refine wcdraw ?_
    refine qgo ?_
    refine qlcallp (fun w' hw' => nEnd_ok op qo co nm hco (by omega) w' (hA.frm (hS.frm.trans hw')) (hIo.frm hw')) ?_
    refine qgo ?_
    refine QL_nil ?_; intro wd hwd
    replace hS := hS.grow hwd
    have hle := endR_le op nm
    generalize endR op nm = e at *
    obtain ⟨e, e2⟩ := e
    dsimp only at hle ⊢
    refine sgo ?_
    by_cases he : e = 0
    · rw [if_pos he]
      refine wcyes ?_ (ht := decide_eq_true (by omega))
      replace hS : Sep w0 wd ((BaM.mk ⟨op, gh, fr⟩ qo co qg cg ms qt ct fs qf cf dp ov).plots b (pOwn b3 [int tk, str nm, str tx, .slice tp te.length tc, .bool tf, int ta, int tb, int td] :: cs)) := hS.sel 7 [1, 2, 3, 4, 5, 6, 0]
      have ho3 := hS.own 6 rfl
      refine sgo ?_
      refine wlcall (bFind_ok _ b ⟨tk, nm, tx, te, tf, ta, tb, td⟩ tp tc 7 nm hco hcg (by dsimp only; omega) w0 _ _ hS) ?_
      clear ho3
      repeat clear hS
      rintro _ w5 ⟨m4, hto4, hS⟩
      refine sgo ?_
      (first | refine fp1 (.inl rfl) rfl rfl ?_ | refine fp2 (.inl rfl) rfl rfl rfl ?_ | refine fp3 (.inl rfl) rfl rfl rfl rfl ?_ | refine fp0 (.inr rfl) rfl ?_ | refine fp0 (.inl rfl) rfl ?_ | refine fp1 (.inr rfl) rfl rfl ?_)
      exact ⟨m4, hto4, hS.sel 7 [0, 1, 2, 3, 4, 5]⟩
    · rw [if_neg he]
      refine wcno ?_ (ht := decide_eq_false (by omega))
      replace hS : Sep w0 wd ((BaM.mk ⟨op, gh, fr⟩ qo co qg cg ms qt ct fs qf cf dp ov).plots b (pOwn b3 [int tk, str nm, str tx, .slice tp te.length tc, .bool tf, int ta, int tb, int td] :: cs)) := hS.sel 7 [1, 2, 3, 4, 5, 6, 0]
      refine sgo ?_
      refine wlcall (bPop_ok _ b e hle hco hcg (by dsimp only; omega) (by dsimp only; omega) w0 _ _ hS) ?_
      repeat clear hS
      rintro _ w5 ⟨m4, hto4, hS⟩
      refine sgo ?_
      (first | refine fp1 (.inl rfl) rfl rfl ?_ | refine fp2 (.inl rfl) rfl rfl rfl ?_ | refine fp3 (.inl rfl) rfl rfl rfl rfl ?_ | refine fp0 (.inr rfl) rfl ?_ | refine fp0 (.inl rfl) rfl ?_ | refine fp1 (.inr rfl) rfl rfl ?_)
      exact ⟨m4, hto4, hS.sel 7 [0, 1, 2, 3, 4, 5]⟩
end Go.Proofs.YtmnnffenijjpcaaDoor

/-
  Package balance: Take, End, Open, Ghosts.
-/
set_option linter.unusedSimpArgs false
set_option linter.unusedVariables false
set_option linter.unnecessarySimpa false
namespace Go.Proofs.YtmnnffenijjpcaaDoor
open Go Go.Sv Go.RowKit

/-- a balancer ahead of a call: what it told before is not its own any more -/
def kP (b : Nat) (s : BaS) (qo : Option Addr) (co : Nat) (qg : Option Addr) (cg dp : Nat) (ov : Bool) (vt vf : Value) (cs : List Plot) : List Plot :=
  pOwn b [.slice qo s.op.length co, .slice qg s.gh.length cg, .bool s.fr, vt, int dp, vf, .bool true, .bool ov] :: pVw qo (strs s.op) :: pVw qg (strs s.gh) :: cs
theorem ready_kp {b : Nat} {s : BaS} {qo qg : Option Addr} {co cg dp : Nat} {ov : Bool} {vt vf : Value} {w0 w : World} {cs : List Plot} (hS : Sep w0 w (kP b s qo co qg cg dp ov vt vf cs)) : PureC Tryd.prog 14 #[ptrAt (pb b) 0] w (int (if ov then 3 else 0)) :=
  bReady_ok b _ _ _ _ _ _ true ov w (hS.own 0 rfl)
set_option maxHeartbeats 2000000 in
/-- not ready -/
theorem bTakeE_ok (x : Value) (e : Int) (he : e ≠ 0) (t : Tok) (tp : Option Addr) (tc : Nat) (w : World) (hrd : ∀ w', Frm w w' → PureC Tryd.prog 14 #[x] w' (int e)) :
    PureC Tryd.prog 6 #[x, .agg ⟨t.cells tp tc⟩] w (.tuple #[.slice none 0 0, .slice none 0 0, int e]) := by
  obtain ⟨tk, nm, tx, te, tf, ta, tb, td⟩ := t
  have hS := Sep.start w
  refine enter (l := [x, .agg ⟨Tok.cells ⟨tk, nm, tx, te, tf, ta, tb, td⟩ tp tc⟩]) Tryd.func6 rfl Tryd.ntmps6 (by kernel_rfl) rfl ?_
  refine WC_seq ?_
  refine WC_region ?_
  refine sbox (v := .agg ⟨Tok.cells ⟨tk, nm, tx, te, tf, ta, tb, td⟩ tp tc⟩) hS fun b3 w1 hS => ?_
  refine sgo ?_
  refine wlpure (hrd _ hS.frm) fun w2 hf2 => ?_
  replace hS := hS.grow hf2
  refine sgo ?_
  refine wcyes ?_ (ht := decide_eq_true he)
  refine sgo ?_
  (first | refine fp1 (.inl rfl) rfl rfl ?_ | refine fp2 (.inl rfl) rfl rfl rfl ?_ | refine fp3 (.inl rfl) rfl rfl rfl rfl ?_ | refine fp0 (.inr rfl) rfl ?_ | refine fp0 (.inl rfl) rfl ?_ | refine fp1 (.inr rfl) rfl rfl ?_); refine ⟨?_, by (first | exact Frm.refl _ | assumption | exact Go.Sv.Sep.frm (by assumption) | (refine Frm.trans ?_ (by assumption); first | exact Frm.refl _ | assumption))⟩; (try simp only [realB, rv_true, Nat.reduceBEq, cond_true, cond_false, entG, real_lif, updGL])
/-- what Take gives -/
def tkP (b dp : Nat) (s : BaS) (o : OutB) (ov : Bool) (w0 : World) (cs : List Plot) (m' : BaM) (w' : World) : Prop :=
  m'.s = o.s ∧ evs m'.ms = o.es ∧ m'.fs = o.fs ∧ m'.dp = dp ∧ m'.ov = ov ∧ m'.s.op.length ≤ m'.co ∧ m'.s.gh.length ≤ m'.cg ∧ Sep w0 w' (m'.plots b cs)
set_option maxHeartbeats 8000000 in
theorem bTake_ok (b : Nat) (s : BaS) (qo : Option Addr) (co : Nat) (qg : Option Addr) (cg dp : Nat) (vt vf : Value) (t : Tok) (tp : Option Addr) (tc : Nat) (hm : mayR t = true) (hs : t.small) (hr : rightR s.op = true) (hco : s.op.length ≤ co) (hcg : s.gh.length ≤ cg) (hb1 : s.op.length ≤ 1024) (hb4 : s.gh.length ≤ 4194304) (hdp : dp ≤ 1024)
    (w0 w : World) (cs : List Plot) (hA : Asc w0) (hi : Im [] w0 tp (t.attrs.flatMap At.cells)) (hS : Sep w0 w (kP b s qo co qg cg dp false vt vf cs)) :
    CallsR Tryd.prog 6 #[ptrAt (pb b) 0, .agg ⟨t.cells tp tc⟩] w fun v w' => ∃ m' : BaM, v = .tuple #[.slice m'.qt m'.ms.length m'.ct, .slice m'.qf m'.fs.length m'.cf, int 0] ∧ tkP b dp s (takeB dp s t) false w0 cs m' w' := by
  have hck := fun w' hf => check_ok t tp tc hs w' (hi.frm hf)
  rw [hm, if_pos rfl] at hck
  have hrd := fun (w' : World) (h : Sep w0 w' (kP b s qo co qg cg dp false vt vf cs)) => ready_kp h
  have hstart := fun (w' : World) cs' h => bStart_ok ⟨s, qo, co, qg, cg, [], none, 0, [], none, 0, dp, false⟩ b t tp tc hr hco hcg hb1 hb4 (Nat.zero_le _) (Nat.zero_le _) hdp hs.attrs w0 w' cs' hA hi h
  have htext := fun (htx : t.text ≠ []) (w' : World) cs' h => bText_ok ⟨s, qo, co, qg, cg, [], none, 0, [], none, 0, dp, false⟩ b t tp tc hr hco hcg hb1 (Nat.zero_le _) (Nat.zero_le _) hdp htx hs.text w0 w' cs' hA h
  have hend := fun (w' : World) cs' h => bEndT_ok ⟨s, qo, co, qg, cg, [], none, 0, [], none, 0, dp, false⟩ b t tp tc hr hco hcg hb1 (Nat.zero_le _) (Nat.zero_le _) hb4 w0 w' cs' hA h
  have htxt : t.kind = 0 → t.text ≠ [] := by
    intro h0
    unfold mayR at hm
    rw [if_pos h0] at hm
    simp only [Bool.and_eq_true, Bool.not_eq_true', decide_eq_false_iff_not] at hm
    exact hm.2.1
  unfold takeB
  obtain ⟨tk, nm, tx, te, tf, ta, tb, td⟩ := t
  obtain ⟨op, gh, fr⟩ := s
  dsimp only at hstart htext hend htxt hS hrd hck ⊢
  clear hs hm hi
  refine enter (l := [ptrAt (pb b) 0, .agg ⟨Tok.cells ⟨tk, nm, tx, te, tf, ta, tb, td⟩ tp tc⟩]) Tryd.func6 rfl Tryd.ntmps6 (by kernel_rfl) rfl ?_
  refine WC_seq ?_
  refine WC_region ?_
  refine sbox (v := .agg ⟨Tok.cells ⟨tk, nm, tx, te, tf, ta, tb, td⟩ tp tc⟩) hS fun b3 w1 hS => ?_
  replace hS : Sep w0 w1 (kP b ⟨op, gh, fr⟩ qo co qg cg dp false vt vf (pOwn b3 [int tk, str nm, str tx, .slice tp te.length tc, .bool tf, int ta, int tb, int td] :: cs)) := hS.sel 4 [1, 2, 3, 0]
  refine sgo ?_
  refine wlpure (ready_kp hS) fun w2 hf2 => ?_
  replace hS := hS.grow hf2
  have ho3 := hS.own 3 rfl
  refine sgo ?_
  refine wlpure (hck _ hS.frm) fun w3 hf3 => ?_
  replace hS := hS.grow hf3
  clear ho3
  replace hS : Sep w0 w3 (pOwn b [.slice qo op.length co, .slice qg gh.length cg, .bool fr, vt, int dp, vf, .bool true, .bool false] :: pVw qo (strs op) :: pVw qg (strs gh) :: pOwn b3 [int tk, str nm, str tx, .slice tp te.length tc, .bool tf, int ta, int tb, int td] :: cs) := hS
  refine sgo ?_
  refine sst_slice hS 0 fun w4 hS => ?_
  refine sgo ?_
  refine sst_slice hS 0 fun w5 hS => ?_
  replace hS : Sep w0 w5 ((BaM.mk ⟨op, gh, fr⟩ qo co qg cg [] none 0 [] none 0 dp false).plots b (pOwn b3 [int tk, str nm, str tx, .slice tp te.length tc, .bool tf, int ta, int tb, int td] :: cs)) := by
    have h2 := ((hS.nilRow 5).zero).nilRow 4
    exact h2.sel 7 [3, 4, 5, 0, 1, 2, 6]
  have ho3 := hS.own 6 rfl
  refine sgo ?_
  refine wcutj (X := Unit) (fun _ => [(0, ptrAt (pb b) 0)]) (fun _ wr => BaP ⟨⟨op, gh, fr⟩, qo, co, qg, cg, [], none, 0, [], none, 0, dp, false⟩ b (if tk = 1 then startB dp ⟨op, gh, fr⟩ ⟨tk, nm, tx, te, tf, ta, tb, td⟩ else if tk = 0 then textB dp ⟨op, gh, fr⟩ ⟨tk, nm, tx, te, tf, ta, tb, td⟩ else if tk = 2 then endB ⟨op, gh, fr⟩ ⟨tk, nm, tx, te, tf, ta, tb, td⟩ else ⟨⟨op, gh, fr⟩, [], []⟩).s
    (if tk = 1 then startB dp ⟨op, gh, fr⟩ ⟨tk, nm, tx, te, tf, ta, tb, td⟩ else if tk = 0 then textB dp ⟨op, gh, fr⟩ ⟨tk, nm, tx, te, tf, ta, tb, td⟩ else if tk = 2 then endB ⟨op, gh, fr⟩ ⟨tk, nm, tx, te, tf, ta, tb, td⟩ else ⟨⟨op, gh, fr⟩, [], []⟩).es
    (if tk = 1 then startB dp ⟨op, gh, fr⟩ ⟨tk, nm, tx, te, tf, ta, tb, td⟩ else if tk = 0 then textB dp ⟨op, gh, fr⟩ ⟨tk, nm, tx, te, tf, ta, tb, td⟩ else if tk = 2 then endB ⟨op, gh, fr⟩ ⟨tk, nm, tx, te, tf, ta, tb, td⟩ else ⟨⟨op, gh, fr⟩, [], []⟩).fs w0 (pOwn b3 [int tk, str nm, str tx, .slice tp te.length tc, .bool tf, int ta, int tb, int td] :: cs) wr) ?_ ?_
  · by_cases h1 : tk = 1
    · rw [if_pos h1]
      refine wcyes ?_ (ht := decide_eq_true h1)
      refine sgo ?_
      refine wlcall (hstart _ _ hS) ?_
      rintro _ w6 hP
      refine sgo ?_
      exact ⟨(), ⟨rfl, trivial⟩, hP⟩
    rw [if_neg h1]
    refine wcno ?_ (ht := decide_eq_false h1)
    refine sgo ?_
    by_cases h2 : tk = 0
    · rw [if_pos h2]
      refine wcyes ?_ (ht := decide_eq_true h2)
      refine sgo ?_
      refine wlcall (htext (htxt h2) _ _ hS) ?_
      rintro _ w6 hP
      refine sgo ?_
      exact ⟨(), ⟨rfl, trivial⟩, hP⟩
    rw [if_neg h2]
    refine wcno ?_ (ht := decide_eq_false h2)
    refine sgo ?_
    by_cases h3 : tk = 2
    · rw [if_pos h3]
      refine wcyes ?_ (ht := decide_eq_true h3)
      refine sgo ?_
      refine wlcall (hend _ _ hS) ?_
      rintro _ w6 hP
      refine sgo ?_
      exact ⟨(), ⟨rfl, trivial⟩, hP⟩
    rw [if_neg h3]
    refine wcno ?_ (ht := decide_eq_false h3)
    refine sgo ?_
    exact ⟨(), ⟨rfl, trivial⟩, _, ⟨rfl, rfl, rfl, rfl, rfl, hco, hcg⟩, hS⟩
  · repeat clear hS
    clear hstart htext hend htxt hrd hck ho3
    generalize (if tk = 1 then startB dp ⟨op, gh, fr⟩ ⟨tk, nm, tx, te, tf, ta, tb, td⟩ else if tk = 0 then textB dp ⟨op, gh, fr⟩ ⟨tk, nm, tx, te, tf, ta, tb, td⟩ else if tk = 2 then endB ⟨op, gh, fr⟩ ⟨tk, nm, tx, te, tf, ta, tb, td⟩ else ⟨⟨op, gh, fr⟩, [], []⟩) = o
    rintro _ w6 ρ ⟨⟨⟨op2, gh2, fr2⟩, qo2, co2, qg2, cg2, ms2, qt2, ct2, fs2, qf2, cf2, dp2, ov2⟩, ⟨g1, g2, g3, g4, g5, g6, g7⟩, hS⟩
    dsimp only at g1 g2 g3 g4 g5 g6 g7
    replace hS : Sep w0 w6 (pOwn b [.slice qo2 op2.length co2, .slice qg2 gh2.length cg2, .bool fr2, .slice qt2 ms2.length ct2, int dp2, .slice qf2 fs2.length cf2, .bool true, .bool ov2] :: pVw qo2 (strs op2) :: pVw qg2 (strs gh2) :: pRow 4 qt2 ms2.length ct2 (ms2.flatMap EvM.cells) :: pMany (ms2.map EvM.row) :: pRow 5 qf2 fs2.length cf2 (fs2.flatMap Fi.cells) :: cs) := hS.sel 7 [0, 1, 2, 3, 4, 5]
    refine sgo ?_
    (first | refine WC_seq ?_ | skip); refine wcdraw ?_
    refine qgo ?_
    refine QL_nil ?_; intro wd hwd
    replace hS := hS.grow hwd
    refine sgo ?_
    (first | refine fp1 (.inl rfl) rfl rfl ?_ | refine fp2 (.inl rfl) rfl rfl rfl ?_ | refine fp3 (.inl rfl) rfl rfl rfl rfl ?_ | refine fp0 (.inr rfl) rfl ?_ | refine fp0 (.inl rfl) rfl ?_ | refine fp1 (.inr rfl) rfl rfl ?_)
    exact ⟨⟨⟨op2, gh2, fr2⟩, qo2, co2, qg2, cg2, ms2, qt2, ct2, fs2, qf2, cf2, dp2, ov2⟩, rfl, g1, g2, g3, g4, g5, g6, g7, hS⟩
end Go.Proofs.YtmnnffenijjpcaaDoor

/-
  Package balance: End, Open, Ghosts.
-/
set_option linter.unusedSimpArgs false
set_option linter.unusedVariables false
set_option linter.unnecessarySimpa false
namespace Go.Proofs.YtmnnffenijjpcaaDoor
open Go Go.Sv Go.RowKit

set_option maxHeartbeats 2000000 in
theorem bEndE_ok (x : Value) (e : Int) (he : e ≠ 0) (w : World) (hrd : PureC Tryd.prog 14 #[x] w (int e)) :
    PureC Tryd.prog 7 #[x] w (.tuple #[.slice none 0 0, int e]) := by
  have hF := Frm.refl w
  refine enter (l := [x]) Tryd.func7 rfl Tryd.ntmps7 (by kernel_rfl) rfl ?_
  refine sgo ?_
  refine wlpure hrd fun w2 hf2 => ?_
  refine sgo ?_
  refine wcyes ?_ (ht := decide_eq_true he)
  refine sgo ?_
  (first | refine fp1 (.inl rfl) rfl rfl ?_ | refine fp2 (.inl rfl) rfl rfl rfl ?_ | refine fp3 (.inl rfl) rfl rfl rfl rfl ?_ | refine fp0 (.inr rfl) rfl ?_ | refine fp0 (.inl rfl) rfl ?_ | refine fp1 (.inr rfl) rfl rfl ?_); refine ⟨?_, by (first | exact Frm.refl _ | assumption | exact Go.Sv.Sep.frm (by assumption) | (refine Frm.trans ?_ (by assumption); first | exact Frm.refl _ | assumption))⟩; (try simp only [realB, rv_true, Nat.reduceBEq, cond_true, cond_false, entG, real_lif, updGL])
set_option maxHeartbeats 4000000 in
theorem bEnd_ok (b : Nat) (s : BaS) (qo : Option Addr) (co : Nat) (qg : Option Addr) (cg dp : Nat) (vt : Value) (fs : List Fi) (qf : Option Addr) (cf : Nat) (hco : s.op.length ≤ co) (hcg : s.gh.length ≤ cg) (hb1 : s.op.length ≤ 1024)
    (w0 w : World) (cs : List Plot) (hS : Sep w0 w (kP b s qo co qg cg dp false vt (.slice qf fs.length cf) (pRow 5 qf fs.length cf (fs.flatMap Fi.cells) :: cs))) :
    CallsR Tryd.prog 7 #[ptrAt (pb b) 0] w fun v w' => ∃ m' : BaM, v = .tuple #[.slice m'.qt m'.ms.length m'.ct, int 0] ∧ tkP b dp s ⟨popB s s.op.length, (offN s.op s.op.length).map closeE, fs⟩ true w0 cs m' w' := by
  have hrd := ready_kp hS
  obtain ⟨op, gh, fr⟩ := s
  dsimp only at hco hcg hb1
  refine enter (l := [ptrAt (pb b) 0]) Tryd.func7 rfl Tryd.ntmps7 (by kernel_rfl) rfl ?_
  refine sgo ?_
  refine wlpure hrd fun w2 hf2 => ?_
  replace hS := hS.grow hf2
  clear hrd
  replace hS : Sep w0 w2 (pOwn b [.slice qo op.length co, .slice qg gh.length cg, .bool fr, vt, int dp, .slice qf fs.length cf, .bool true, .bool false] :: pVw qo (strs op) :: pVw qg (strs gh) :: pRow 5 qf fs.length cf (fs.flatMap Fi.cells) :: cs) := hS
  refine sgo ?_
  refine sst_slice hS 0 fun w4 hS => ?_
  replace hS : Sep w0 w4 ((BaM.mk ⟨op, gh, fr⟩ qo co qg cg [] none 0 fs qf cf dp false).plots b cs) := by
    have h2 := (hS.zero).nilRow 4
    exact h2.sel 6 [2, 3, 4, 0, 1, 5]
  refine sgo ?_
  refine wcdrawt 9 ?_
  refine qgo ?_
  refine QL_nil ?_; intro wd hwd
  replace hS := hS.grow hwd
  refine wlcall (bPop_ok _ b op.length (Nat.le_refl _) hco hcg (by dsimp only; omega) (Nat.zero_le _) w0 _ _ hS) ?_
  repeat clear hS
  rintro _ w6 ⟨⟨⟨op2, gh2, fr2⟩, qo2, co2, qg2, cg2, ms2, qt2, ct2, fs2, qf2, cf2, dp2, ov2⟩, ⟨g1, g2, g3, g4, g5, g6, g7⟩, hS⟩
  dsimp only at g1 g2 g3 g4 g5 g6 g7
  replace hS : Sep w0 w6 (pOwn b [.slice qo2 op2.length co2, .slice qg2 gh2.length cg2, .bool fr2, .slice qt2 ms2.length ct2, int dp2, .slice qf2 fs2.length cf2, .bool true, .bool ov2] :: pVw qo2 (strs op2) :: pVw qg2 (strs gh2) :: pRow 4 qt2 ms2.length ct2 (ms2.flatMap EvM.cells) :: pMany (ms2.map EvM.row) :: pRow 5 qf2 fs2.length cf2 (fs2.flatMap Fi.cells) :: cs) := hS
  refine sgo ?_
  refine sst_bool hS 0 fun w7 hS => ?_
  refine sgo ?_
  (first | refine fp1 (.inl rfl) rfl rfl ?_ | refine fp2 (.inl rfl) rfl rfl rfl ?_ | refine fp3 (.inl rfl) rfl rfl rfl rfl ?_ | refine fp0 (.inr rfl) rfl ?_ | refine fp0 (.inl rfl) rfl ?_ | refine fp1 (.inr rfl) rfl rfl ?_)
  exact ⟨⟨⟨op2, gh2, fr2⟩, qo2, co2, qg2, cg2, ms2, qt2, ct2, fs2, qf2, cf2, dp2, true⟩, rfl, g1, g2, by rw [g3]; simp, g4, rfl, g6, g7, hS⟩
end Go.Proofs.YtmnnffenijjpcaaDoor

/-
  Package balance: All.
-/
set_option linter.unusedSimpArgs false
set_option linter.unusedVariables false
set_option linter.unnecessarySimpa false
namespace Go.Proofs.YtmnnffenijjpcaaDoor
open Go Go.Sv Go.RowKit

theorem run_snoc (dp : Nat) (s : BaS) (l : List Tok) (t : Tok) : runB dp s (l ++ [t]) = ⟨(takeB dp (runB dp s l).s t).s, (runB dp s l).es ++ (takeB dp (runB dp s l).s t).es, (runB dp s l).fs ++ (takeB dp (runB dp s l).s t).fs⟩ := by
  rw [runB_app]; simp [runB]
theorem popB_gh (s : BaS) (k : Nat) : (popB s k).gh.length ≤ s.gh.length := by
  unfold popB; split
  · exact Nat.le_refl _
  · exact Nat.zero_le _
theorem follow_gh (s : BaS) (p : PlanR) : (followB s p).gh.length ≤ s.gh.length := by
  unfold followB; rw [(pushes_op _ _).2]; exact popB_gh _ _
theorem take_fs (dp : Nat) (s : BaS) (t : Tok) : (takeB dp s t).fs.length ≤ 7 ∧ (takeB dp s t).s.gh.length ≤ s.gh.length + 1 := by
  unfold takeB
  split
  · unfold startB
    have h1 := follow_gh s (planR s.op (askR s.op t.name))
    have h3 : (planR s.op (askR s.op t.name)).put.length ≤ 6 := ask_put_len s.op t.name
    generalize planR s.op (askR s.op t.name) = p at *
    unfold followF
    repeat' split
    all_goals simp only [List.length_nil, List.length_append, List.length_singleton, List.length_map, pushB]
    all_goals omega
  split
  · unfold textB
    have h0 := nText_bnd s.op (isBlank (headB s t))
    have h1 := follow_gh s (nTextR s.op (isBlank (headB s t)))
    generalize nTextR s.op (isBlank (headB s t)) = p at *
    unfold followF
    repeat' split
    all_goals simp only [List.length_nil, List.length_singleton, List.length_map]
    all_goals omega
  split
  · unfold endB
    have h1 := popB_gh s (endR s.op t.name).1
    split
    · simp only [List.length_nil, List.length_take]; omega
    · split
      · simp
      · simp only [List.length_nil]; omega
  · simp
theorem run_fs (dp : Nat) : ∀ (l : List Tok) (s : BaS), (runB dp s l).fs.length ≤ 7 * l.length ∧ (runB dp s l).s.gh.length ≤ s.gh.length + l.length
  | [], s => by simp [runB]
  | t :: l, s => by
    have h1 := take_fs dp s t
    have h2 := run_fs dp l (takeB dp s t).s
    simp only [runB, List.length_append, List.length_cons]
    omega
theorem evm_one (ns : List EvM) : ∀ u ∈ ns.flatMap EvM.cells, u.oneCell' = true := by
  intro u hu
  obtain ⟨x, _, hx⟩ := List.mem_flatMap.1 hu
  exact ev_one _ _ _ u hx
theorem fis_one (ns : List Fi) : ∀ u ∈ ns.flatMap Fi.cells, u.oneCell' = true := by
  intro u hu
  obtain ⟨x, _, hx⟩ := List.mem_flatMap.1 hu
  exact fi_one _ u hx
def toks (ms : List TokM) : List Tok := ms.map TokM.t
theorem toks_len (ms : List TokM) : (toks ms).length = ms.length := by simp [toks]
/-- what All gives -/
def alP (k : Nat) (l : List Tok) (w0 : World) (cs : List Plot) (v : Value) (w' : World) : Prop :=
  ∃ (es : List EvM) (q : Option Addr) (c : Nat) (fq : Option Addr) (fc : Nat), v = .tuple #[.slice q es.length c, .slice fq (allF k l).length fc, int 0] ∧ evs es = allE k l ∧ Sep w0 w' (pRow 4 q es.length c (es.flatMap EvM.cells) :: pMany (es.map EvM.row) :: pRow 5 fq (allF k l).length fc ((allF k l).flatMap Fi.cells) :: cs)
set_option maxHeartbeats 8000000 in
theorem bAll_ok (k : Nat) (hk : 1 ≤ k ∧ k ≤ 512) (ms : List TokM) (p : Option Addr) (c : Nat) (hn : ms.length ≤ 2097152) (hs : ∀ m ∈ ms, m.t.small) (w0 w : World) (cs : List Plot) (hA : Asc w0) (hT : Toks w0 p ms) (hS : Sep w0 w cs) :
    CallsR Tryd.prog 10 #[int k, .slice p ms.length c] w fun v w' => ((toks ms).all mayR = false → v = .tuple #[.slice none 0 0, .slice none 0 0, int 70] ∧ Sep w0 w' cs) ∧ ((toks ms).all mayR = true → alP k (toks ms) w0 cs v w') := by
  have hfl := fm_len TokM.len ms
  refine enter (l := [int k, .slice p ms.length c]) Tryd.func10 rfl Tryd.ntmps10 (by kernel_rfl) rfl ?_
  refine sgo ?_
  refine wlcall (bNew_ok k hk w0 _ _ hS) ?_
  repeat clear hS
  rintro _ w1 ⟨b, rfl, hS⟩
  refine sgo ?_
  refine wcutj (X := Unit) (fun _ => [(0, int k), (1, .slice p ms.length c), (7, ptrAt (pb b) 0)]) (fun _ wr => (toks ms).all mayR = true ∧ Sep w0 wr ((newM k).plots b cs)) ?_ ?_
  · refine wcloop (X := Nat) (fun i => [(0, int k), (1, .slice p ms.length c), (7, ptrAt (pb b) 0), (29, .slice p ms.length c), (30, int ms.length), (31, int i)])
      (fun i wr => i ≤ ms.length ∧ ((toks ms).take i).all mayR = true ∧ Sep w0 wr ((newM k).plots b cs)) (fun i => ms.length - i) 0 ⟨rfl, rfl, rfl, rfl, rfl, rfl, trivial⟩ ⟨Nat.zero_le _, rfl, hS⟩ ?_
    repeat clear hS
    rintro i wr ρ ⟨hil, hal, hS⟩
    have hIm := hT.im.frm hS.frm
    refine sgo ?_
    (show WC _ _ _ _ _ _ _; first | refine WC_dec rfl (fun hc => ?_) (fun hc => ?_) | refine WC_cond rfl (fun hc => ?_) (fun hc => ?_))
    · have hlt : i < ms.length := by omega
      have hx : ms[i]? = some ms[i] := List.getElem?_eq_getElem hlt
      have hmem : ms[i] ∈ ms := List.getElem_mem hlt
      have hseg := fm_seg TokM.len ms hx
      have hat := hT.each _ hmem
      have hsm := hs _ hmem
      have hps : ∃ a, p = some a := hIm.some (by omega)
      have htk : (toks ms).take (i + 1) = (toks ms).take i ++ [ms[i].t] := by
        unfold toks; rw [List.take_add_one, List.getElem?_map, hx]; rfl
      have hmm : ms[i].t ∈ toks ms := List.mem_map_of_mem hmem
      generalize ms[i] = m at *
      clear hc
      obtain ⟨t, mp, mc⟩ := m
      dsimp only at hat hsm htk hmm
      have hck := fun w' hf => check_ok t mp mc hsm w' (hat.frm hf)
      cases hmy : mayR t with
      | false =>
        rw [hmy, if_neg Bool.noConfusion] at hck
        have hall : (toks ms).all mayR = false := by
          rw [Bool.eq_false_iff]; intro h
          rw [List.all_eq_true.1 h _ hmm] at hmy; cases hmy
        obtain ⟨tk, nm, tx, te, tf, ta, tb, td⟩ := t
        refine sgo ?_
        rw [hseg]
        refine salloc hS fun b5 w5 hS => ?_
        refine sgo ?_
        refine ssta (vs := [int tk, str nm, str tx, .slice mp te.length mc, .bool tf, int ta, int tb, int td]) hS 0 fun w6 hS => ?_
        refine sgo ?_
        refine wlpure (hck _ hS.frm) fun w7 hf7 => ?_
        replace hS := hS.grow hf7
        refine sgo ?_
        (first | refine fp1 (.inl rfl) rfl rfl ?_ | refine fp2 (.inl rfl) rfl rfl rfl ?_ | refine fp3 (.inl rfl) rfl rfl rfl rfl ?_ | refine fp0 (.inr rfl) rfl ?_ | refine fp0 (.inl rfl) rfl ?_ | refine fp1 (.inr rfl) rfl rfl ?_)
        exact ⟨fun _ => ⟨rfl, hS.sel 7 []⟩, fun h => by rw [hall] at h; cases h⟩
      | true =>
        rw [hmy, if_pos rfl] at hck
        obtain ⟨tk, nm, tx, te, tf, ta, tb, td⟩ := t
        refine sgo ?_
        rw [hseg]
        refine salloc hS fun b5 w5 hS => ?_
        refine sgo ?_
        refine ssta (vs := [int tk, str nm, str tx, .slice mp te.length mc, .bool tf, int ta, int tb, int td]) hS 0 fun w6 hS => ?_
        refine sgo ?_
        refine wlpure (hck _ hS.frm) fun w7 hf7 => ?_
        replace hS := hS.grow hf7
        refine sgo ?_
        refine ⟨i + 1, ⟨rfl, rfl, rfl, rfl, rfl, rfl, trivial⟩, ⟨hlt, ?_, hS.tail⟩, (by (try dsimp only); omega)⟩
        rw [htk, List.all_append, hal]; simp [hmy]
    · obtain rfl : i = ms.length := by omega
      refine sgo ?_
      rw [List.take_of_length_le (by rw [toks_len]; exact Nat.le_refl _)] at hal
      exact ⟨(), ⟨rfl, rfl, rfl, trivial⟩, hal, hS⟩
  repeat clear hS
  rintro _ w2 ρ ⟨hal, hS⟩
  have hmay : ∀ t ∈ toks ms, mayR t = true ∧ t.small := by
    intro t ht
    refine ⟨List.all_eq_true.1 hal t ht, ?_⟩
    obtain ⟨m, h1, rfl⟩ := List.mem_map.1 ht
    exact hs m h1
  have hrun : ∀ i, PosR k ((runB k ba0 ((toks ms).take i)).s.op, (runB k ba0 ((toks ms).take i)).s.fr) := fun i =>
    (run_good (depth := k) _ ba0 (fun t ht => hmay t (List.mem_of_mem_take ht)) (pos0 k)).right (pos0 k)
  have hlen : ∀ i, i ≤ ms.length → (runB k ba0 ((toks ms).take i)).es.length ≤ 14 * i ∧ (runB k ba0 ((toks ms).take i)).fs.length ≤ 7 * i ∧ (runB k ba0 ((toks ms).take i)).s.gh.length ≤ i := by
    intro i hi
    have h1 := run_len k ((toks ms).take i) ba0
    have h2 := run_fs k ((toks ms).take i) ba0
    rw [List.length_take, toks_len, Nat.min_eq_left hi] at h1 h2
    have h3 : ba0.op.length = 0 := rfl
    have h4 : ba0.gh.length = 0 := rfl
    omega
  refine sgo ?_
  refine wcloop (X := Nat × List EvM × Option Addr × Nat × Option Addr × Nat) (fun x => [(7, ptrAt (pb b) 0), (12, .slice x.2.2.1 x.2.1.length x.2.2.2.1), (13, .slice x.2.2.2.2.1 (runB k ba0 ((toks ms).take x.1)).fs.length x.2.2.2.2.2), (41, .slice p ms.length c), (42, int ms.length), (43, int x.1)])
    (fun x wr => x.1 ≤ ms.length ∧ evs x.2.1 = (runB k ba0 ((toks ms).take x.1)).es ∧ ∃ (qo : Option Addr) (co : Nat) (qg : Option Addr) (cg : Nat) (vt : Value) (fl : List Fi) (qf : Option Addr) (cf : Nat), (runB k ba0 ((toks ms).take x.1)).s.op.length ≤ co ∧ (runB k ba0 ((toks ms).take x.1)).s.gh.length ≤ cg ∧
      Sep w0 wr (kP b (runB k ba0 ((toks ms).take x.1)).s qo co qg cg k false vt (.slice qf fl.length cf) (pRow 5 qf fl.length cf (fl.flatMap Fi.cells) :: pRow 4 x.2.2.1 x.2.1.length x.2.2.2.1 (x.2.1.flatMap EvM.cells) :: pMany (x.2.1.map EvM.row) :: pRow 5 x.2.2.2.2.1 (runB k ba0 ((toks ms).take x.1)).fs.length x.2.2.2.2.2 ((runB k ba0 ((toks ms).take x.1)).fs.flatMap Fi.cells) :: cs)))
    (fun x => ms.length - x.1) (0, [], none, 0, none, 0) ⟨rfl, rfl, rfl, rfl, rfl, rfl, trivial⟩ ⟨Nat.zero_le _, rfl, none, 0, none, 0, .slice none 0 0, [], none, 0, Nat.le_refl _, Nat.le_refl _, ?_⟩ ?_
  · have h2 := (((hS.sel 6 [0, 1, 2, 5]).nilRow 5).zero).nilRow 4
    exact h2.sel 7 [3, 4, 5, 6, 0, 1, 2]
  repeat clear hS
  rintro ⟨i, os, q, c1, fq, fc⟩ wr ρ ⟨hil, hos, qo, co, qg, cg, vt, fl, qf, cf, hco, hcg, hS⟩
  dsimp only at *
  have hri := hrun i
  have hli := hlen i hil
  have hol : os.length = (runB k ba0 ((toks ms).take i)).es.length := by rw [← hos, evs_len]
  have hIm := hT.im.frm hS.frm
  refine sgo ?_
  (show WC _ _ _ _ _ _ _; first | refine WC_dec rfl (fun hc => ?_) (fun hc => ?_) | refine WC_cond rfl (fun hc => ?_) (fun hc => ?_))
  · have hlt : i < ms.length := by omega
    have hx : ms[i]? = some ms[i] := List.getElem?_eq_getElem hlt
    have hmem : ms[i] ∈ ms := List.getElem_mem hlt
    have hseg := fm_seg TokM.len ms hx
    have hat := hT.each _ hmem
    have hsm := hs _ hmem
    have hps : ∃ a, p = some a := hIm.some (by omega)
    have hmt := (hmay ms[i].t (List.mem_map_of_mem hmem)).1
    have htk : (toks ms).take (i + 1) = (toks ms).take i ++ [ms[i].t] := by
      unfold toks; rw [List.take_add_one, List.getElem?_map, hx]; rfl
    have hli1 := hlen (i + 1) hlt
    rw [htk, run_snoc] at hli1
    generalize ms[i] = m at *
    clear hc
    obtain ⟨t, mp, mc⟩ := m
    dsimp only at hat hsm htk hmt hli1
    rw [List.length_append, List.length_append] at hli1
    have htake := fun w' cs' hS' => bTake_ok b (runB k ba0 ((toks ms).take i)).s qo co qg cg k vt (.slice qf fl.length cf) t mp mc hmt hsm hri.1 hco hcg (Nat.le_trans hri.2 (by omega)) (by omega) (by omega) w0 w' cs' hA hat hS'
    have hsn := run_snoc k ba0 ((toks ms).take i) t
    rw [← htk] at hsn
    generalize takeB k (runB k ba0 ((toks ms).take i)).s t = o at *
    generalize runB k ba0 ((toks ms).take i) = O at *
    obtain ⟨tk, nm, tx, te, tf, ta, tb, td⟩ := t
    refine sgo ?_
    rw [hseg]
    refine salloc hS fun b5 w5 hS => ?_
    refine sgo ?_
    refine ssta (vs := [int tk, str nm, str tx, .slice mp te.length mc, .bool tf, int ta, int tb, int td]) hS 0 fun w6 hS => ?_
    refine sgo ?_
    replace hS : Sep w0 w6 (kP b O.s qo co qg cg k false vt (.slice qf fl.length cf) (pRow 4 q os.length c1 (os.flatMap EvM.cells) :: pMany (os.map EvM.row) :: pRow 5 fq O.fs.length fc (O.fs.flatMap Fi.cells) :: cs)) := hS.sel 8 [1, 2, 3, 5, 6, 7]
    refine wlcall (htake _ _ hS) ?_
    repeat clear hS
    clear htake
    rintro _ w7 ⟨⟨s2, qo2, co2, qg2, cg2, ms2, qt2, ct2, fs2, qf2, cf2, dp2, ov2⟩, rfl, g1, g2, g3, g4, g5, g6, g7, hS⟩
    dsimp only at g1 g2 g3 g4 g5 g6 g7 ⊢
    have hm2 : ms2.length = o.es.length := by rw [← g2, evs_len]
    have hf2 : fs2.length = o.fs.length := by rw [g3]
    replace hS : Sep w0 w7 (pOwn b [.slice qo2 s2.op.length co2, .slice qg2 s2.gh.length cg2, .bool s2.fr, .slice qt2 ms2.length ct2, int dp2, .slice qf2 fs2.length cf2, .bool true, .bool ov2] :: pVw qo2 (strs s2.op) :: pVw qg2 (strs s2.gh) :: pRow 4 qt2 ms2.length ct2 (ms2.flatMap EvM.cells) :: pMany (ms2.map EvM.row) :: pRow 5 qf2 fs2.length cf2 (fs2.flatMap Fi.cells) :: pRow 4 q os.length c1 (os.flatMap EvM.cells) :: pMany (os.map EvM.row) :: pRow 5 fq O.fs.length fc (O.fs.flatMap Fi.cells) :: cs) := hS
    refine sgo ?_
    refine sapp hS 6 (hS.sgv 3 rfl) (fun q3 c3 w8 hS => ?_) (hl := fm_len EvM.len ms2) (h1 := evm_one ms2)
    refine sgo ?_
    refine sapp hS 8 (hS.sgv 5 rfl) (fun q4 c4 w9 hS => ?_) (hl := fm_len Fi.len fs2) (h1 := fis_one fs2)
    refine sgo ?_
    have hee : evs (os ++ ms2) = O.es ++ o.es := by rw [← hos, ← g2]; simp [evs]
    have hS2 := (hS.sel 9 [4, 7, 0, 1, 2, 5, 6, 8]).both.sel 7 [1, 2, 3, 4, 5, 0, 6]
    rw [← List.flatMap_append, ← List.flatMap_append, ← List.map_append, g3, show os.length + ms2.length = (os ++ ms2).length by simp, show O.fs.length + o.fs.length = (O.fs ++ o.fs).length by simp] at hS2
    refine ⟨(i + 1, os ++ ms2, q3, c3, q4, c4), ⟨rfl, ?_, ?_, rfl, rfl, rfl, trivial⟩, ⟨hlt, ?_, qo2, co2, qg2, cg2, .slice qt2 ms2.length ct2, o.fs, qf2, cf2, ?_, ?_, ?_⟩, (by (try dsimp only); omega)⟩
    · show Value.slice _ _ _ = Value.slice _ _ _
      rw [List.length_append]
    · show Value.slice _ _ _ = Value.slice _ _ _
      dsimp only
      rw [hsn, List.length_append, hf2]
    · dsimp only; rw [hsn]; exact hee
    · dsimp only; rw [hsn, ← g1]; exact g6
    · dsimp only; rw [hsn, ← g1]; exact g7
    · dsimp only
      rw [hsn]
      dsimp only
      rw [← g1, ← g4, ← g5]
      exact hS2
  · obtain rfl : i = ms.length := by omega
    have htk : (toks ms).take ms.length = toks ms := List.take_of_length_le (by rw [toks_len]; exact Nat.le_refl _)
    rw [htk] at hos hco hcg hS hri hli hol ⊢
    clear hrun hlen
    refine sgo ?_
    refine wlcall (bEnd_ok b (runB k ba0 (toks ms)).s qo co qg cg k vt fl qf cf hco hcg (Nat.le_trans hri.2 (by omega)) w0 _ _ hS) ?_
    repeat clear hS
    rintro _ w7 ⟨⟨s2, qo2, co2, qg2, cg2, ms2, qt2, ct2, fs2, qf2, cf2, dp2, ov2⟩, rfl, g1, g2, g3, g4, g5, g6, g7, hS⟩
    dsimp only at g1 g2 g3 g4 g5 g6 g7 ⊢
    have hm2 : ms2.length ≤ 1024 := by
      have := congrArg List.length g2
      rw [evs_len, List.length_map, offN_len _ _ (Nat.le_refl _)] at this
      have := hri.2
      dsimp only at this
      omega
    replace hS : Sep w0 w7 (pOwn b [.slice qo2 s2.op.length co2, .slice qg2 s2.gh.length cg2, .bool s2.fr, .slice qt2 ms2.length ct2, int dp2, .slice qf2 fs2.length cf2, .bool true, .bool ov2] :: pVw qo2 (strs s2.op) :: pVw qg2 (strs s2.gh) :: pRow 4 qt2 ms2.length ct2 (ms2.flatMap EvM.cells) :: pMany (ms2.map EvM.row) :: pRow 5 qf2 fs2.length cf2 (fs2.flatMap Fi.cells) :: pRow 4 q os.length c1 (os.flatMap EvM.cells) :: pMany (os.map EvM.row) :: pRow 5 fq (runB k ba0 (toks ms)).fs.length fc ((runB k ba0 (toks ms)).fs.flatMap Fi.cells) :: cs) := hS
    refine sgo ?_
    refine sapp hS 6 (hS.sgv 3 rfl) (fun q3 c3 w8 hS => ?_) (hl := fm_len EvM.len ms2) (h1 := evm_one ms2)
    refine sgo ?_
    (first | refine fp1 (.inl rfl) rfl rfl ?_ | refine fp2 (.inl rfl) rfl rfl rfl ?_ | refine fp3 (.inl rfl) rfl rfl rfl rfl ?_ | refine fp0 (.inr rfl) rfl ?_ | refine fp0 (.inl rfl) rfl ?_ | refine fp1 (.inr rfl) rfl rfl ?_)
    refine ⟨fun h => (by rw [hal] at h; cases h), fun _ => ⟨os ++ ms2, q3, c3, fq, fc, ?_, ?_, ?_⟩⟩
    · rw [List.length_append]; rfl
    · unfold allE; rw [← g2, ← hos]; simp [evs]
    · have hS2 := (hS.sel 9 [4, 7, 6, 8]).both.sel 3 [1, 0, 2]
      rw [← List.flatMap_append, ← List.map_append, show os.length + ms2.length = (os ++ ms2).length by simp] at hS2
      exact hS2
end Go.Proofs.YtmnnffenijjpcaaDoor

/-
  sievelaw17: start, text, end, lives; BalanceNames.
-/
set_option linter.unusedSimpArgs false
set_option linter.unusedVariables false
set_option linter.unnecessarySimpa false
namespace Go.Proofs.YtmnnffenijjpcaaDoor
open Go Go.Sv Go.RowKit

def tkN (k : Int) (n : Nm) : Tok := ⟨k, n, [], [], false, 0, 0, 0⟩
def tkT (x : Nm) : Tok := ⟨0, [], x, [], false, 0, 0, 0⟩
set_option maxHeartbeats 1000000 in
theorem start17_ok (n : Nm) (w : World) : PureC Tryd.prog 11 #[str n] w (.agg ⟨(tkN 1 n).cells none 0⟩) := by
  have hS := Sep.start w
  refine enter (l := [str n]) Tryd.func11 rfl Tryd.ntmps11 (by kernel_rfl) rfl ?_
  refine sgo ?_
  refine salloc hS fun b w1 hS => ?_
  refine sgo ?_
  refine wlbuild (cells := [int 1, str n, str [], .slice none 0 0, .bool false, int 0, int 0, int 0]) ?_
  refine ssta (vs := [int 1, str n, str [], .slice none 0 0, .bool false, int 0, int 0, int 0]) hS 0 fun w2 hS => ?_
  replace hS : Sep w w2 [pOwn b [int 1, str n, str [], .slice none 0 0, .bool false, int 0, int 0, int 0]] := hS
  refine sgo ?_
  exact fpc (.inl rfl) rfl rfl rfl (hS.own 0 rfl) ⟨rfl, hS.frm⟩
set_option maxHeartbeats 1000000 in
theorem end17_ok (n : Nm) (w : World) : PureC Tryd.prog 13 #[str n] w (.agg ⟨(tkN 2 n).cells none 0⟩) := by
  have hS := Sep.start w
  refine enter (l := [str n]) Tryd.func13 rfl Tryd.ntmps13 (by kernel_rfl) rfl ?_
  refine sgo ?_
  refine salloc hS fun b w1 hS => ?_
  refine sgo ?_
  refine wlbuild (cells := [int 2, str n, str [], .slice none 0 0, .bool false, int 0, int 0, int 0]) ?_
  refine ssta (vs := [int 2, str n, str [], .slice none 0 0, .bool false, int 0, int 0, int 0]) hS 0 fun w2 hS => ?_
  replace hS : Sep w w2 [pOwn b [int 2, str n, str [], .slice none 0 0, .bool false, int 0, int 0, int 0]] := hS
  refine sgo ?_
  exact fpc (.inl rfl) rfl rfl rfl (hS.own 0 rfl) ⟨rfl, hS.frm⟩
set_option maxHeartbeats 1000000 in
theorem text17_ok (x : Nm) (w : World) : PureC Tryd.prog 12 #[str x] w (.agg ⟨(tkT x).cells none 0⟩) := by
  have hS := Sep.start w
  refine enter (l := [str x]) Tryd.func12 rfl Tryd.ntmps12 (by kernel_rfl) rfl ?_
  refine sgo ?_
  refine salloc hS fun b w1 hS => ?_
  refine sgo ?_
  refine wlbuild (cells := [int 0, str [], str x, .slice none 0 0, .bool false, int 0, int 0, int 0]) ?_
  refine ssta (vs := [int 0, str [], str x, .slice none 0 0, .bool false, int 0, int 0, int 0]) hS 0 fun w2 hS => ?_
  replace hS : Sep w w2 [pOwn b [int 0, str [], str x, .slice none 0 0, .bool false, int 0, int 0, int 0]] := hS
  refine sgo ?_
  exact fpc (.inl rfl) rfl rfl rfl (hS.own 0 rfl) ⟨rfl, hS.frm⟩
def exB : List TokM := [⟨tkN 1 [98], none, 0⟩, ⟨tkT [120], none, 0⟩, ⟨tkN 1 [105], none, 0⟩, ⟨tkN 2 [98], none, 0⟩, ⟨tkN 1 nLi, none, 0⟩]
def exE : List Ev := [opE [98] [], txE [120], opE [105] [], closeE [105], closeE [98], opE nUl [], opE nLi [], closeE nLi, closeE nUl]
theorem exB_all : allE 9 (toks exB) = exE ∧ allF 9 (toks exB) = [⟨0, 0, 0, 9, nUl⟩] ∧ (toks exB).all mayR = true := by decide +kernel
theorem exB_small : ∀ m ∈ exB, m.t.small := by
  intro m hm
  simp only [exB, List.mem_cons, List.not_mem_nil, or_false] at hm
  rcases hm with rfl | rfl | rfl | rfl | rfl <;> exact ⟨by decide, by decide, by decide, fun x hx => nomatch hx⟩
set_option maxHeartbeats 4000000 in
theorem lives17_ok (w : World) (hA : Asc w) : PureC Tryd.prog 5 #[] w (.bool true) := by
  refine enter (l := []) Tryd.func5 rfl Tryd.ntmps5 (by kernel_rfl) rfl ?_
  have hS := Sep.start w
  refine sgo ?_
  refine wlpure (start17_ok [98] _) fun w1 hf1 => ?_
  replace hS := hS.grow hf1
  refine sgo ?_
  refine wlpure (text17_ok [120] _) fun w2 hf2 => ?_
  replace hS := hS.grow hf2
  refine sgo ?_
  refine wlpure (start17_ok [105] _) fun w3 hf3 => ?_
  replace hS := hS.grow hf3
  refine sgo ?_
  refine wlpure (end17_ok [98] _) fun w4 hf4 => ?_
  replace hS := hS.grow hf4
  refine sgo ?_
  refine wlpure (start17_ok nLi _) fun w5 hf5 => ?_
  replace hS := hS.grow hf5
  refine sgo ?_
  refine wlbsr (vs := exB.map TokM.cells) 5 (fun b w6 hb ho hf => ?_) (h1 := fun v hv => by obtain ⟨m, _, rfl⟩ := List.mem_map.1 hv; rfl)
  replace hS : Sep w w6 [pOwn b (exB.flatMap TokM.cells)] := hS.push hf ho (by simpa [pOwn] using hb)
  refine sgo ?_
  have hT : Toks w6 (pb b) exB := ⟨(hS.own 0 rfl).im (by simp), fun m hm => by
    simp only [exB, List.mem_cons, List.not_mem_nil, or_false] at hm
    rcases hm with rfl | rfl | rfl | rfl | rfl <;> exact Im.nil _ _ _⟩
  have hF6 := hS.frm
  refine wlcall (bAll_ok 9 (by decide) exB (pb b) 5 (by decide) exB_small w6 w6 [] (hA.frm hF6) hT (Sep.start w6)) ?_
  repeat clear hS
  rintro _ w7 ⟨-, hgood⟩
  obtain ⟨es, q, c, fq, fc, rfl, hev, hS⟩ := hgood exB_all.2.2
  rw [exB_all.1] at hev
  rw [exB_all.2.1] at hS ⊢
  have hl : es.length = 9 := by rw [← evs_len, hev]; rfl
  have hat : ∀ (i : Nat) (e : Ev), exE[i]? = some e → ∃ m : EvM, es[i]? = some m ∧ m.e = e := by
    intro i e h
    rw [← hev, evs, List.getElem?_map] at h
    cases hm : es[i]? with
    | none => rw [hm] at h; cases h
    | some m => rw [hm] at h; injection h with h; exact ⟨m, rfl, h⟩
  obtain ⟨m3, h3, e3⟩ := hat 3 _ rfl
  obtain ⟨m5, h5, e5⟩ := hat 5 _ rfl
  have g13 : (es.flatMap EvM.cells)[3 * 4 + 1]? = some (str [105]) := by
    rw [fm_get EvM.len es 3 1 (by decide), h3]; show some (str m3.e.name) = _; rw [e3]; rfl
  have g12 : (es.flatMap EvM.cells)[3 * 4]? = some (int 2) := by
    rw [show 3 * 4 = 3 * 4 + 0 from rfl, fm_get EvM.len es 3 0 (by decide), h3]; show some (int m3.e.kind) = _; rw [e3]; rfl
  have g21 : (es.flatMap EvM.cells)[5 * 4 + 1]? = some (str nUl) := by
    rw [fm_get EvM.len es 5 1 (by decide), h5]; show some (str m5.e.name) = _; rw [e5]; rfl
  have hfl := fm_len EvM.len es
  have hqs : ∃ a, q = some a := (hS.row 0 rfl).sg.some (by omega)
  have hfs : ∃ a, fq = some a := (hS.row 2 rfl).sg.some (by decide)
  have hF7 := hF6.trans hS.frm
  generalize es.flatMap EvM.cells = F at *
  rw [hl] at hS ⊢
  clear hat h3 h5 e3 e5 hev hgood hl hfl
  replace hS : Sep w6 w7 [pRow 4 q 9 c F, pMany (es.map EvM.row), pRow 5 fq 1 fc [int 0, int 0, int 0, int 9, str nUl]] := hS
  refine sgo ?_
  (first | refine fp1 (.inl rfl) rfl rfl ?_ | refine fp2 (.inl rfl) rfl rfl rfl ?_ | refine fp3 (.inl rfl) rfl rfl rfl rfl ?_ | refine fp0 (.inr rfl) rfl ?_ | refine fp0 (.inl rfl) rfl ?_ | refine fp1 (.inr rfl) rfl rfl ?_); refine ⟨?_, by (first | exact Frm.refl _ | assumption | exact Go.Sv.Sep.frm (by assumption) | (refine Frm.trans ?_ (by assumption); first | exact Frm.refl _ | assumption))⟩; (try simp only [realB, rv_true, Nat.reduceBEq, cond_true, cond_false, entG, real_lif, updGL])
  simp [pkb, nUl]
end Go.Proofs.YtmnnffenijjpcaaDoor

