/-
  Our texts SvLpB, SvRf, SvTabF, SvKp, SvLpC, SvLpD, SvLkG, SvLpE, SvEq, SvTabE, SvLpF, SvPost, SvOpen, SvOpn, SvOpnAt, SvOpn12, joined.
-/
import Derived.Test.YtffaoehhhdcjjaaDoorMg4
import Derived.Laws.StructEq
import Derived.Test.YtffaoehhhdcjjaaDoorRows
import Derived.ChangeSame
import Derived.WalkKit
import Derived.ProofKit
import Derived.OpenShut
import Derived.JoinedCond
import Derived.Deep.Slices
import Derived.WideKeyArgs
import Derived.Lib.LaidTab
import Derived.Deep.DeepHandedRow
import Derived.Deep.DeepWitnessRowRef
/-
  Package link: Pairs, form, Query, Authority.
-/
set_option linter.unusedSimpArgs false
set_option linter.unusedVariables false
set_option linter.unnecessarySimpa false
namespace Go.Proofs.YtffaoehhhdcjjaaDoor
open Go Go.Sv Go.RowKit

theorem replPlus_ok (s : List UInt8) (hb : s.length ≤ 1073741824) (w : World) (hM : MaxW w) : PureC Tryd.prog 48 #[str s, str [43], str [32]] w (str (plusR s)) := by
  obtain ⟨m, hm⟩ := hM
  have hsz : (⟨s.toArray⟩ : ByteArray).size = s.length := by rw [ByteArray.size]; simp
  have hc : Lib.countB ⟨s.toArray⟩ ⟨#[43]⟩ ≤ s.length := by
    have := Lib.countB_le ⟨#[43]⟩ (Nat.le_refl 1) _ ⟨s.toArray⟩ (Nat.le_refl _)
    omega
  refine Calls.mono (Tryd.strings_ReplaceAll ⟨s.toArray⟩ ⟨#[43]⟩ ⟨#[32]⟩ m w (by omega) hm (Nat.le_refl 1) (by
    have e : (⟨#[32]⟩ : ByteArray).size = 1 := rfl
    rw [e, Nat.mul_one, hsz]; omega)) ?_
  rintro e w' ⟨rfl, hb⟩
  refine ⟨_, rfl, ?_, hb⟩
  have : Lib.replaceAll s [43] [32] = plusR s := replaceAll_plus s
  show str (Lib.replaceAll s [43] [32]) = _
  rw [this]
theorem say_ok (s : List UInt8) (hb : s.length ≤ 268435456) (w : World) (hM : MaxW w) : PureC Tryd.prog 46 #[str s] w (str (sayR s)) := by
  refine enter (l := [str s]) Tryd.func46 rfl Tryd.ntmps46 (by kernel_rfl) rfl ?_
  refine sgo ?_
  refine wlpure (replPlus_ok s (by omega) w hM) fun w1 hf1 => ?_
  refine sgo ?_
  refine wlpure (decode_ok (plusR s) (by rw [plus_len]; exact hb) _) fun w2 hf2 => ?_
  have hf := hf1.trans hf2
  clear hf1 hf2
  refine sgo ?_
  (first | refine fp1 (.inl rfl) rfl rfl ?_ | refine fp2 (.inl rfl) rfl rfl rfl ?_ | refine fp3 (.inl rfl) rfl rfl rfl rfl ?_ | refine fp0 (.inr rfl) rfl ?_ | refine fp0 (.inl rfl) rfl ?_ | refine fp1 (.inr rfl) rfl rfl ?_); refine ⟨?_, by (first | exact Frm.refl _ | assumption | exact Go.Sv.Sep.frm (by assumption) | (refine Frm.trans ?_ (by assumption); first | exact Frm.refl _ | assumption))⟩; (try simp only [realB, rv_true, Nat.reduceBEq, cond_true, cond_false, entG, real_lif, updGL])
  rfl
theorem idxC_ok (s : List UInt8) (c : UInt8) (w : World) : PureC Tryd.prog 110 #[str s, str [c]] w (.int .i64 (Lib.indexByte s c)) := by
  refine Calls.mono (Tryd.stringslite_Index_one ⟨s.toArray⟩ c w) ?_
  rintro e w' ⟨rfl, rfl⟩
  exact ⟨_, rfl, rfl, Frm.refl _⟩
def fndC (s : List UInt8) (c : UInt8) : Bool := decide (0 ≤ Lib.indexByte s c)
set_option maxHeartbeats 1000000 in
theorem litCutC_ok (s : List UInt8) (c : UInt8) (hb : s.length ≤ 1073741824) (w : World) : PureC Tryd.prog 84 #[str s, str [c]] w (.tuple #[str (cutC c s).1, str (cutC c s).2, .bool (fndC s c)]) := by
  have hix := fun w => idxC_ok s c w
  unfold fndC
  refine enter (l := [str s, str [c]]) Tryd.func84 rfl Tryd.ntmps84 (by kernel_rfl) rfl ?_
  refine sgo ?_
  refine wlpure (hix _) fun w1 hf1 => ?_
  rcases index_cutC c s with ⟨h1, h2⟩ | ⟨i, hi, h1, h2⟩
  · rw [h1, h2]
    refine sgo ?_
    (first | refine fp1 (.inl rfl) rfl rfl ?_ | refine fp2 (.inl rfl) rfl rfl rfl ?_ | refine fp3 (.inl rfl) rfl rfl rfl rfl ?_ | refine fp0 (.inr rfl) rfl ?_ | refine fp0 (.inl rfl) rfl ?_ | refine fp1 (.inr rfl) rfl rfl ?_); refine ⟨?_, by (first | exact Frm.refl _ | assumption | exact Go.Sv.Sep.frm (by assumption) | (refine Frm.trans ?_ (by assumption); first | exact Frm.refl _ | assumption))⟩; (try simp only [realB, rv_true, Nat.reduceBEq, cond_true, cond_false, entG, real_lif, updGL])
    all_goals rfl
  · rw [h1, h2]
    refine sgo ?_
    refine wcyes ?_ (ht := by simp)
    refine sgo ?_
    refine wcdraw ?_
    refine qgo ?_
    have h10 : ([c] : List UInt8).length = 1 := rfl
    rw [h10]
    refine qgo ?_
    refine QL_nil ?_
    intro w2 hf2
    refine thn_normal ?_
    refine sgo ?_
    have e1 : ((i : Int) + ((1 : Nat) : Int)).toNat = i + 1 := by omega
    simp only [e1]
    have hf := hf1.trans hf2
    clear hf1 hf2
    (first | refine fp1 (.inl rfl) rfl rfl ?_ | refine fp2 (.inl rfl) rfl rfl rfl ?_ | refine fp3 (.inl rfl) rfl rfl rfl rfl ?_ | refine fp0 (.inr rfl) rfl ?_ | refine fp0 (.inl rfl) rfl ?_ | refine fp1 (.inr rfl) rfl rfl ?_); refine ⟨?_, by (first | exact Frm.refl _ | assumption | exact Go.Sv.Sep.frm (by assumption) | (refine Frm.trans ?_ (by assumption); first | exact Frm.refl _ | assumption))⟩; (try simp only [realB, rv_true, Nat.reduceBEq, cond_true, cond_false, entG, real_lif, updGL])
    have e2 : decide (0 ≤ (i : Int)) = true := by simp
    rw [e2]
    all_goals rfl
theorem cutC_ok (s : List UInt8) (c : UInt8) (hb : s.length ≤ 1073741824) (w : World) : PureC Tryd.prog 50 #[str s, str [c]] w (.tuple #[str (cutC c s).1, str (cutC c s).2, .bool (fndC s c)]) := by
  have hix := fun w => litCutC_ok s c hb w
  refine enter (l := [str s, str [c]]) Tryd.func50 rfl Tryd.ntmps50 (by kernel_rfl) rfl ?_
  refine sgo ?_
  refine wlpure (hix _) fun w1 hf1 => ?_
  refine sgo ?_
  (first | refine fp1 (.inl rfl) rfl rfl ?_ | refine fp2 (.inl rfl) rfl rfl rfl ?_ | refine fp3 (.inl rfl) rfl rfl rfl rfl ?_ | refine fp0 (.inr rfl) rfl ?_ | refine fp0 (.inl rfl) rfl ?_ | refine fp1 (.inr rfl) rfl rfl ?_); refine ⟨?_, by (first | exact Frm.refl _ | assumption | exact Go.Sv.Sep.frm (by assumption) | (refine Frm.trans ?_ (by assumption); first | exact Frm.refl _ | assumption))⟩; (try simp only [realB, rv_true, Nat.reduceBEq, cond_true, cond_false, entG, real_lif, updGL])
  all_goals rfl
/-! ## Pairs -/
def pairsO (L : List (List UInt8)) : List At := (L.filter fun p => !decide (p = [])).map pairR
theorem pairsO_snoc {L : List (List UInt8)} {i : Nat} {x : List UInt8} (h : L[i]? = some x) : pairsO (L.take (i + 1)) = pairsO (L.take i) ++ (if x = [] then [] else [pairR x]) := by
  unfold pairsO
  rw [List.take_add_one, h, List.filter_append, List.map_append]
  congr 1
  rw [Option.toList, List.filter_cons]
  by_cases hx : x = []
  · simp [hx]
  · simp [hx]
theorem pairsO_len (L : List (List UInt8)) : (pairsO L).length ≤ L.length := by
  unfold pairsO
  rw [List.length_map]
  exact List.length_filter_le _ _
theorem spR_each : ∀ (n : Nat) (s : List UInt8) (c : UInt8), s.length ≤ n → ∀ x ∈ spR s c, x.length ≤ s.length
  | n, s, c, hn, x, hx => by
    obtain ⟨h1, h2⟩ := up_split s c
    have hle := upR_le0 s [c]
    rcases Nat.lt_or_ge (upR s [c]) s.length with h | h
    · have e := h2 h
      have hl : (s.drop (upR s [c] + 1)).length < s.length := by rw [List.length_drop]; omega
      have hl2 : (s.take (upR s [c])).length ≤ s.length := by rw [List.length_take]; omega
      generalize s.take (upR s [c]) = y at *
      generalize s.drop (upR s [c] + 1) = r at *
      rw [e, spR_at h1] at hx
      rcases List.mem_cons.1 hx with rfl | hx
      · exact hl2
      · cases n with
        | zero => omega
        | succ n => exact Nat.le_trans (spR_each n r c (by omega) x hx) (by omega)
    · have e1 : s.take (upR s [c]) = s := List.take_of_length_le h
      rw [e1] at h1
      rw [spR_none h1, List.mem_singleton] at hx
      rw [hx]
      exact Nat.le_refl _
set_option maxHeartbeats 4000000 in
theorem pairs_ok (q : List UInt8) (hb : q.length ≤ 16777216) (w : World) (hM : MaxW w) :
    CallsR Tryd.prog 19 #[str q] w fun v w' => ∃ p c, v = .slice p (pairsR q).length c ∧ Sep w w' [pRow 2 p (pairsR q).length c ((pairsR q).flatMap At.cells)] := by
  have hS := Sep.start w
  have hml := mendR_len q
  have hpr : pairsR q = pairsO (spR (mendR q) 38) := rfl
  rw [hpr]
  refine enter (l := [str q]) Tryd.func19 rfl Tryd.ntmps19 (by kernel_rfl) rfl ?_
  refine sgo ?_
  refine wlpure (mend_ok q (by omega) _) fun w1 hf1 => ?_
  replace hS := hS.grow hf1
  refine wlcall (spSplit_ok (mendR q) 38 (by omega) _ (hM.frm hS.frm)) ?_
  rintro _ w2 ⟨bs, rfl, hS2⟩
  replace hS := hS.seq hS2
  clear hS2
  have hll := spR_bnd (mendR q) 38
  have hle := spR_each (mendR q).length (mendR q) 38 (Nat.le_refl _)
  generalize spR (mendR q) 38 = L at *
  have hLn := strs_len L
  replace hS : Sep w w2 [pRow 2 none 0 0 [], pOwn bs (strs L)] := hS.nilRow 2
  refine sgo ?_
  refine wcloop (X := Nat × Option Addr × Nat) (fun x => [(3, .slice x.2.1 (pairsO (L.take x.1)).length x.2.2), (4, .func (.func 46) #[] #[]), (12, .slice (pb bs) L.length L.length), (13, int L.length), (14, int x.1)])
    (fun x wr => x.1 ≤ L.length ∧ Sep w wr [pRow 2 x.2.1 (pairsO (L.take x.1)).length x.2.2 ((pairsO (L.take x.1)).flatMap At.cells), pOwn bs (strs L)]) (fun x => L.length - x.1) (0, none, 0) ⟨rfl, rfl, rfl, rfl, rfl, trivial⟩ ⟨Nat.zero_le _, hS⟩ ?_
  clear hS
  rintro ⟨i, p, cc⟩ wr ρ ⟨hil, hS⟩
  dsimp only at hil hS ⊢
  have hol := pairsO_len (L.take i)
  rw [List.length_take] at hol
  refine sgo ?_
  (show WC _ _ _ _ _ _ _; first | refine WC_dec rfl (fun hc => ?_) (fun hc => ?_) | refine WC_cond rfl (fun hc => ?_) (fun hc => ?_))
  · have hlt : i < L.length := by omega
    clear hc
    obtain ⟨x, hx⟩ : ∃ x, L[i]? = some x := ⟨_, List.getElem?_eq_getElem hlt⟩
    have hxl := hle x (List.mem_of_getElem? hx)
    have hxv := strs_at hx
    have hsn := pairsO_snoc hx
    generalize pairsO (L.take i) = out at *
    refine sgo ?_
    by_cases h0 : x = []
    · rw [if_pos h0, List.append_nil] at hsn
      refine wcyes ?_ (ht := by simp [h0])
      refine sgo ?_
      refine ⟨(i + 1, p, cc), ⟨?_, rfl, rfl, rfl, rfl, trivial⟩, ⟨hlt, ?_⟩, (by (try dsimp only); omega)⟩
      · dsimp only; rw [hsn]; rfl
      · dsimp only; rw [hsn]; exact hS
    · rw [if_neg h0] at hsn
      refine wcno ?_ (ht := by simp [h0])
      have hcl := cutC_len 61 x
      refine sgo ?_
      refine wlpure (cutC_ok x 61 (by omega) _) fun w3 hf3 => ?_
      replace hS := hS.grow hf3
      refine sgo ?_
      refine wlcallv (first := []) (cap := []) (args := [str (cutC 61 x).1]) (R := fun v w' => v = str (sayR (cutC 61 x).1) ∧ Frm w3 w') (say_ok _ (by omega) _ (hM.frm hS.frm)) ?_
      rintro _ w4 ⟨rfl, hf4⟩
      replace hS := hS.grow hf4
      refine sgo ?_
      refine wlcallv (first := []) (cap := []) (args := [str (cutC 61 x).2]) (R := fun v w' => v = str (sayR (cutC 61 x).2) ∧ Frm w4 w') (say_ok _ (by omega) _ (hM.frm hS.frm)) ?_
      rintro _ w5 ⟨rfl, hf5⟩
      replace hS := hS.grow hf5
      refine sgo ?_
      refine wlbuild ?_
      refine sb1a (vs := [str (sayR (cutC 61 x).1), str (sayR (cutC 61 x).2)]) hS fun b9 w9 hS => ?_
      refine sgo ?_
      refine sapp hS 1 (hS.own 0 rfl).sg (fun q' c' w10 hS => ?_) (hl := rfl) (h1 := by simp [Value.oneCell'])
      replace hS : Sep w w10 [pRow 2 q' (out.length + 1) c' (out.flatMap At.cells ++ [str (sayR (cutC 61 x).1), str (sayR (cutC 61 x).2)]), pOwn bs (strs L)] := hS.drop 0 rfl
      have hfl : out.flatMap At.cells ++ [str (sayR (cutC 61 x).1), str (sayR (cutC 61 x).2)] = (out ++ [pairR x]).flatMap At.cells := by rw [List.flatMap_append]; rfl
      have hnl : out.length + 1 = (out ++ [pairR x]).length := by simp
      rw [hfl, hnl, ← hsn] at hS
      rw [hnl, ← hsn]
      refine sgo ?_
      exact ⟨(i + 1, q', c'), ⟨rfl, rfl, rfl, rfl, rfl, trivial⟩, ⟨hlt, hS⟩, (by (try dsimp only); omega)⟩
  · obtain rfl : i = L.length := by omega
    rw [List.take_length] at hS hol ⊢
    have e : pairsO L = (L.filter fun p => !decide (p = [])).map pairR := rfl
    refine sgo ?_
    (first | refine fp1 (.inl rfl) rfl rfl ?_ | refine fp2 (.inl rfl) rfl rfl rfl ?_ | refine fp3 (.inl rfl) rfl rfl rfl rfl ?_ | refine fp0 (.inr rfl) rfl ?_ | refine fp0 (.inl rfl) rfl ?_ | refine fp1 (.inr rfl) rfl rfl ?_)
    exact ⟨p, cc, rfl, hS.drop 1 rfl⟩
/-! ## form -/
def okB : List UInt8 := [42, 45, 46, 95]
def okC (c : Nat) : Bool := letterR c || digitR c || decide (UInt8.ofNat c ∈ okB)
theorem okC_form (c : Nat) (h : c < 256) : formC c = if okC c = true then [UInt8.ofNat c] else if c = 32 then [43] else pct c := by
  have e : decide (UInt8.ofNat c ∈ okB) = decide (c = 42 ∨ c = 45 ∨ c = 46 ∨ c = 95) := by
    rw [decide_eq_decide]
    unfold okB
    simp only [List.mem_cons, List.not_mem_nil, or_false]
    have hh : ∀ n : Nat, n < 256 → (UInt8.ofNat c = UInt8.ofNat n ↔ c = n) := by
      intro n hn
      constructor
      · intro he
        have := congrArg UInt8.toNat he
        rw [UInt8.toNat_ofNat_of_lt' (by simpa using h), UInt8.toNat_ofNat_of_lt' (by simpa using hn)] at this
        exact this
      · intro he; rw [he]
    have h1 := hh 42 (by decide)
    have h2 := hh 45 (by decide)
    have h3 := hh 46 (by decide)
    have h4 := hh 95 (by decide)
    rw [← h1, ← h2, ← h3, ← h4]
    rfl
  unfold formC okC
  rw [e]
theorem bs_at {t : List UInt8} {i : Nat} {c : UInt8} (h : t[i]? = some c) : (bs t)[i]? = some (byt c.toNat) := by simp [bs, h]
/-- memory that can be read, as a piece -/
def pIm (b : Nat) (l : List Value) : Plot where
  foot := if l = [] then [] else [b]
  ok w := Im [] w (pb b) l
  view := (pb b, l)
  loc w w' h hb := by
    by_cases hl : l = []
    · exact .inl hl
    · rw [if_neg hl] at hb
      have e := hb b (by simp)
      rcases h with h | ⟨a, ha, h1, h2, h3⟩
      · exact .inl h
      · obtain rfl : (⟨b, 0, none⟩ : Addr) = a := Option.some.inj ha
        have h2' : b < w'.heap.size := by
          rcases Nat.lt_or_ge b w'.heap.size with h | h
          · exact h
          · rw [Array.getElem?_eq_none h] at e
            have := (Array.getElem?_eq_getElem (show b < w.heap.size from h2))
            rw [this] at e; cases e
        exact .inr ⟨_, rfl, h1.mono e, h2', h3⟩
  lt w h x hx := by
    by_cases hl : l = []
    · rw [if_pos hl] at hx; cases hx
    · rw [if_neg hl, List.mem_singleton] at hx
      subst hx
      rcases h with h | ⟨a, ha, h1, h2, h3⟩
      · exact absurd h hl
      · obtain rfl : (⟨x, 0, none⟩ : Addr) = a := Option.some.inj ha
        exact h2
  sg _ h := h.sg
set_option maxHeartbeats 4000000 in
theorem form_ok (l : List UInt8) (hb : l.length ≤ 16777216) (w : World) : PureC Tryd.prog 56 #[str l] w (str (formR l)) := by
  have hS := Sep.start w
  refine enter (l := [str l]) Tryd.func56 rfl Tryd.ntmps56 (by kernel_rfl) rfl ?_
  refine sgo ?_
  refine wlallocT fun b w0 hbw ha0 hf0 => ?_
  replace hS : Sep w w0 [pBld TB TY b none []] := hS.push hf0 (Bld.new ha0) (by intro x hx; simp [pBld, rb] at hx; omega)
  clear ha0 hf0
  refine sgo ?_
  refine wlpure (mend_ok l (by omega) _) fun w1 hf1 => ?_
  replace hS := hS.grow hf1
  have hml := mendR_len l
  unfold formR
  generalize mendR l = t at *
  refine wls2b rfl (by omega) fun bB cB w2 hb2 hc1 hc2 hI hf2 => ?_
  replace hS : Sep w w2 [pIm bB (bs t), pBld TB TY b none []] := hS.push (c := pIm bB (bs t)) hf2 hI (by
    intro x hx
    unfold pIm at hx
    dsimp only at hx
    split at hx
    · cases hx
    · rw [List.mem_singleton.1 hx]; exact hb2)
  clear hI hf2 hb2
  have hbl : (bs t).length = t.length := by simp [bs]
  refine sgo ?_
  refine wcloop (X := Nat × Option Addr) (fun x => [(3, ptrAt (pb b) 0), (8, .slice (pb bB) t.length cB), (9, int t.length), (10, int x.1)])
    (fun x wr => x.1 ≤ t.length ∧ Sep w wr [pIm bB (bs t), pBld TB TY b x.2 (formL (t.take x.1))])
    (fun x => t.length - x.1) (0, none) ⟨rfl, rfl, rfl, rfl, trivial⟩ ⟨by omega, hS⟩ ?_
  clear hS
  rintro ⟨i, q⟩ wr ρ ⟨hil, hS⟩
  dsimp only at hil hS ⊢
  have hfl := formL_len (t.take i)
  rw [List.length_take] at hfl
  refine sgo ?_
  (show WC _ _ _ _ _ _ _; first | refine WC_dec rfl (fun hc => ?_) (fun hc => ?_) | refine WC_cond rfl (fun hc => ?_) (fun hc => ?_))
  · have hlt : i < t.length := by omega
    clear hc
    obtain ⟨ch, hx⟩ : ∃ ch, t[i]? = some ch := ⟨_, List.getElem?_eq_getElem hlt⟩
    have hsn := formL_snoc hx
    have hbv := bs_at hx
    have h256 : ch.toNat < 256 := ch.toNat_lt
    have hg : (t[i]?.getD 0).toNat = ch.toNat := by rw [hx]; rfl
    have hof : UInt8.ofNat ch.toNat = ch := by simp
    rw [okC_form _ h256] at hsn
    generalize formL (t.take i) = s at *
    generalize ch.toNat = c at *
    refine sgo ?_
    simp only [hg]
    refine wlpure (letter_ok c _) fun w3 hf3 => ?_
    replace hS := hS.grow hf3
    refine sgo ?_
    have fin : ∀ {b1 b2 : Bool}, b1 = b2 → Value.bool b1 = .bool b2 := fun h => h ▸ rfl
    refine wcutn (X := Unit) (fun _ => [(3, ptrAt (pb b) 0), (5, byt c), (8, .slice (pb bB) t.length cB), (9, int t.length), (10, int i), (23, .bool (okC c))]) (fun _ w' => Sep w w' [pIm bB (bs t), pBld TB TY b q s]) ?_ ?_
    · cases hl : letterR c with
      | true =>
        refine sgo ?_
        exact ⟨(), ⟨rfl, rfl, rfl, rfl, rfl, fin (by simp [okC, hl]), trivial⟩, hS⟩
      | false =>
        refine sgo ?_
        refine wlpure (digit_ok c _) fun w4 hf4 => ?_
        replace hS := hS.grow hf4
        refine sgo ?_
        cases hd : digitR c with
        | true =>
          refine sgo ?_
          exact ⟨(), ⟨rfl, rfl, rfl, rfl, rfl, fin (by simp [okC, hd]), trivial⟩, hS⟩
        | false =>
          refine sgo ?_
          refine wlpure (indexByte_ok okB c _) fun w5 hf5 => ?_
          replace hS := hS.grow hf5
          have hm := indexByte_mem okB (UInt8.ofNat c)
          refine sgo ?_
          refine ⟨(), ⟨rfl, rfl, rfl, rfl, rfl, fin ?_, trivial⟩, hS⟩
          unfold okC
          rw [hl, hd]
          simp only [Bool.false_or, ge_iff_le]
          exact decide_eq_decide.2 hm
    · clear hS
      rintro ⟨⟩ w5 ρ5 hS
      have hadd : (s.length + 3 : Nat) ≤ 300000000 := by omega
      refine sgo ?_
      cases hok : okC c with
      | true =>
        rw [hok, if_pos rfl] at hsn
        have e : byt c = byt (UInt8.ofNat c).toNat := by rw [UInt8.toNat_ofNat_of_lt' (by simpa using h256)]
        refine sgo ?_
        rw [e]
        refine wlcall (writeByte_ok b q s (UInt8.ofNat c) _ (hS.bld 1 rfl) (by omega)) ?_
        rintro v w6 ⟨rfl, q3, hB3, hl3⟩
        replace hS := hS.toBld 1 rfl hl3 hB3
        refine sgo ?_
        exact ⟨(i + 1, q3), ⟨rfl, rfl, rfl, rfl, trivial⟩, ⟨hlt, by dsimp only; rw [hsn]; exact hS⟩, (by (try dsimp only); omega)⟩
      | false =>
        rw [hok, if_neg Bool.false_ne_true] at hsn
        refine sgo ?_
        by_cases h32 : c = 32
        · rw [if_pos h32] at hsn
          refine wcyes ?_ (ht := by simp [h32])
          refine sgo ?_
          refine wlcall (writeByte_ok b q s 43 _ (hS.bld 1 rfl) (by omega)) ?_
          rintro v w6 ⟨rfl, q3, hB3, hl3⟩
          replace hS := hS.toBld 1 rfl hl3 hB3
          refine sgo ?_
          exact ⟨(i + 1, q3), ⟨rfl, rfl, rfl, rfl, trivial⟩, ⟨hlt, by dsimp only; rw [hsn]; exact hS⟩, (by (try dsimp only); omega)⟩
        · rw [if_neg h32] at hsn
          refine wcno ?_ (ht := by simp; omega)
          refine sgo ?_
          refine wlcall (writeByte_ok b q s 37 _ (hS.bld 1 rfl) (by omega)) ?_
          rintro v w6 ⟨rfl, q3, hB3, hl3⟩
          replace hS := hS.toBld 1 rfl hl3 hB3
          refine sgo ?_
          refine wl ?_ (y_sindexN (l := digs) (i := c / 16) rfl (congrArg (Value.int .u8) (sh4 c)) (by simp only [digs, List.length_cons, List.length_nil]; omega))
          refine sgo ?_
          refine wlcall (writeByte_ok b q3 _ (digs[c / 16]?.getD 0) _ (hS.bld 1 rfl) (by simp; omega)) ?_
          rintro v w7 ⟨rfl, q4, hB4, hl4⟩
          replace hS := hS.toBld 1 rfl hl4 hB4
          refine sgo ?_
          refine wl ?_ (y_sindexN (l := digs) (i := c % 16) rfl (congrArg (Value.int .u8) (an15 c h256)) (by simp only [digs, List.length_cons, List.length_nil]; omega))
          refine sgo ?_
          refine wlcall (writeByte_ok b q4 _ (digs[c % 16]?.getD 0) _ (hS.bld 1 rfl) (by simp; omega)) ?_
          rintro v w8 ⟨rfl, q5, hB5, hl5⟩
          replace hS := hS.toBld 1 rfl hl5 hB5
          refine sgo ?_
          exact ⟨(i + 1, q5), ⟨rfl, rfl, rfl, rfl, trivial⟩, ⟨hlt, by dsimp only; rw [hsn]; simpa [pct] using hS⟩, (by (try dsimp only); omega)⟩
  · obtain rfl : i = t.length := by omega
    rw [List.take_length] at hS
    refine sgo ?_
    refine wlcall (string_ok w.heap.size b q _ _ (hS.bld 1 rfl) (fun x hx => hS.low (pBld TB TY b q (formL t)) (by simp) x hx) hS.frm.size) ?_
    rintro v w5 ⟨rfl, hb5⟩
    have hfr6 : Frm w w5 := Below.trans hS.frm hb5
    refine sgo ?_
    (first | refine fp1 (.inl rfl) rfl rfl ?_ | refine fp2 (.inl rfl) rfl rfl rfl ?_ | refine fp3 (.inl rfl) rfl rfl rfl rfl ?_ | refine fp0 (.inr rfl) rfl ?_ | refine fp0 (.inl rfl) rfl ?_ | refine fp1 (.inr rfl) rfl rfl ?_); refine ⟨?_, by (first | exact Frm.refl _ | assumption | exact Go.Sv.Sep.frm (by assumption) | (refine Frm.trans ?_ (by assumption); first | exact Frm.refl _ | assumption))⟩; (try simp only [realB, rv_true, Nat.reduceBEq, cond_true, cond_false, entG, real_lif, updGL])
end Go.Proofs.YtffaoehhhdcjjaaDoor

/-
  Loops over functions, with memory in pieces.
-/
set_option linter.unusedSimpArgs false
set_option linter.unusedVariables false
set_option linter.unnecessarySimpa false
namespace Go.Sv
open Go Go.RowKit
def pLoop (l : Nat) (r : Loop) : Plot where
  foot := [l]
  ok w := LoopAt w l r
  view := (none, [])
  loc _ _ h hb := (hb l (by simp)).trans h
  lt _ h x hx := by rw [List.mem_singleton.1 hx]; exact h.lt
  sg _ _ := .inl rfl
def pDef (D : Nat) : Plot where
  foot := [D]
  ok w := NoDef w D
  view := (none, [])
  loc _ _ h hb := (hb D (by simp)).trans h
  lt _ h x hx := by rw [List.mem_singleton.1 hx]; exact h.lt
  sg _ _ := .inl rfl
section
variable {w0 w w' : World} {cs : List Plot} {l D i : Nat} {r r' : Loop}
theorem Sep.loop (h : Sep w0 w cs) (hf : Frm w w') (hL : LoopAt w' l r) (hN : NoDef w' D) (hl : w.heap.size ≤ l) (hD : w.heap.size ≤ D) (hne : l ≠ D) : Sep w0 w' (pLoop l r :: pDef D :: cs) := by
  refine h.seq (ds := [pLoop l r, pDef D]) ⟨hf, ?_, ?_, ?_⟩
  · intro c hc
    rcases List.mem_cons.1 hc with rfl | hc
    · exact hL
    · rw [List.mem_singleton.1 hc]; exact hN
  · intro c hc x hx
    rcases List.mem_cons.1 hc with rfl | hc
    · rw [List.mem_singleton.1 hx]; exact hl
    · rw [List.mem_singleton.1 hc] at hx; rw [List.mem_singleton.1 hx]; exact hD
  · rw [List.pairwise_cons]
    refine ⟨fun b hb x hx hx' => ?_, List.pairwise_singleton _ _⟩
    rw [List.mem_singleton.1 hb] at hx'
    rw [List.mem_singleton.1 hx] at hx'
    exact hne (List.mem_singleton.1 hx')
/-- a piece that is given away -/
theorem Sep.lose {c : Plot} (h : Sep w0 w (c :: cs)) (hl : Le c.foot w w') : Sep w0 w' cs := by
  have hp := h.apart
  rw [List.pairwise_cons] at hp
  exact h.tail.le hl (fun d hd x hx hm => hp.1 d hd x hm hx) (h.low _ List.mem_cons_self)
theorem Sep.undef (h : Sep w0 w (pDef D :: cs)) : Sep w0 (w.putObj D (.deferred none)) cs := h.lose (le_putObj w D _)
end
end Go.Sv

/- This seat's function types as instances (made by a program of ours). -/
namespace Go.Proofs.YtffaoehhhdcjjaaDoor
open Go Go.Sv
instance : Agg Tryd.prog 1 false := ⟨_, Tryd.underlying1, rfl⟩
instance : Inf Tryd.prog 1 (.nilFunc) 1 8 := ⟨by kernel_rfl⟩
instance : Agg Tryd.prog 23 false := ⟨_, Tryd.underlying23, rfl⟩
instance : Inf Tryd.prog 23 (.nilFunc) 1 8 := ⟨by kernel_rfl⟩
instance : Agg Tryd.prog 24 false := ⟨_, Tryd.underlying24, rfl⟩
instance : Inf Tryd.prog 24 (.nilFunc) 1 8 := ⟨by kernel_rfl⟩
instance : Agg Tryd.prog 26 false := ⟨_, Tryd.underlying26, rfl⟩
instance : Inf Tryd.prog 26 (.nilFunc) 1 8 := ⟨by kernel_rfl⟩
instance : Agg Tryd.prog 27 false := ⟨_, Tryd.underlying27, rfl⟩
instance : Inf Tryd.prog 27 (.nilFunc) 1 8 := ⟨by kernel_rfl⟩
instance : Agg Tryd.prog 28 false := ⟨_, Tryd.underlying28, rfl⟩
instance : Inf Tryd.prog 28 (.nilFunc) 1 8 := ⟨by kernel_rfl⟩
instance : Agg Tryd.prog 30 false := ⟨_, Tryd.underlying30, rfl⟩
instance : Inf Tryd.prog 30 (.nilFunc) 1 8 := ⟨by kernel_rfl⟩
instance : Agg Tryd.prog 31 false := ⟨_, Tryd.underlying31, rfl⟩
instance : Inf Tryd.prog 31 (.nilFunc) 1 8 := ⟨by kernel_rfl⟩
instance : Agg Tryd.prog 32 false := ⟨_, Tryd.underlying32, rfl⟩
instance : Inf Tryd.prog 32 (.nilFunc) 1 8 := ⟨by kernel_rfl⟩
instance : Agg Tryd.prog 37 false := ⟨_, Tryd.underlying37, rfl⟩
instance : Inf Tryd.prog 37 (.nilFunc) 1 8 := ⟨by kernel_rfl⟩
instance : Agg Tryd.prog 38 false := ⟨_, Tryd.underlying38, rfl⟩
instance : Inf Tryd.prog 38 (.nilFunc) 1 8 := ⟨by kernel_rfl⟩
instance : Agg Tryd.prog 40 false := ⟨_, Tryd.underlying40, rfl⟩
instance : Inf Tryd.prog 40 (.nilFunc) 1 8 := ⟨by kernel_rfl⟩
instance : Agg Tryd.prog 41 false := ⟨_, Tryd.underlying41, rfl⟩
instance : Inf Tryd.prog 41 (.nilFunc) 1 8 := ⟨by kernel_rfl⟩
instance : Agg Tryd.prog 45 false := ⟨_, Tryd.underlying45, rfl⟩
instance : Inf Tryd.prog 45 (.nilFunc) 1 8 := ⟨by kernel_rfl⟩
instance : Agg Tryd.prog 46 false := ⟨_, Tryd.underlying46, rfl⟩
instance : Inf Tryd.prog 46 (.nilFunc) 1 8 := ⟨by kernel_rfl⟩
instance : Agg Tryd.prog 47 false := ⟨_, Tryd.underlying47, rfl⟩
instance : Inf Tryd.prog 47 (.nilFunc) 1 8 := ⟨by kernel_rfl⟩
instance : Agg Tryd.prog 48 false := ⟨_, Tryd.underlying48, rfl⟩
instance : Inf Tryd.prog 48 (.nilFunc) 1 8 := ⟨by kernel_rfl⟩
instance : Agg Tryd.prog 51 false := ⟨_, Tryd.underlying51, rfl⟩
instance : Inf Tryd.prog 51 (.nilFunc) 1 8 := ⟨by kernel_rfl⟩
instance : Agg Tryd.prog 52 false := ⟨_, Tryd.underlying52, rfl⟩
instance : Inf Tryd.prog 52 (.nilFunc) 1 8 := ⟨by kernel_rfl⟩
instance : Agg Tryd.prog 55 false := ⟨_, Tryd.underlying55, rfl⟩
instance : Inf Tryd.prog 55 (.nilFunc) 1 8 := ⟨by kernel_rfl⟩
instance : Agg Tryd.prog 56 false := ⟨_, Tryd.underlying56, rfl⟩
instance : Inf Tryd.prog 56 (.nilFunc) 1 8 := ⟨by kernel_rfl⟩
instance : Agg Tryd.prog 57 false := ⟨_, Tryd.underlying57, rfl⟩
instance : Inf Tryd.prog 57 (.nilFunc) 1 8 := ⟨by kernel_rfl⟩
instance : Agg Tryd.prog 59 false := ⟨_, Tryd.underlying59, rfl⟩
instance : Inf Tryd.prog 59 (.nilFunc) 1 8 := ⟨by kernel_rfl⟩
instance : Agg Tryd.prog 61 false := ⟨_, Tryd.underlying61, rfl⟩
instance : Inf Tryd.prog 61 (.nilFunc) 1 8 := ⟨by kernel_rfl⟩
instance : Agg Tryd.prog 63 false := ⟨_, Tryd.underlying63, rfl⟩
instance : Inf Tryd.prog 63 (.nilFunc) 1 8 := ⟨by kernel_rfl⟩
instance : Agg Tryd.prog 64 false := ⟨_, Tryd.underlying64, rfl⟩
instance : Inf Tryd.prog 64 (.nilFunc) 1 8 := ⟨by kernel_rfl⟩
instance : Agg Tryd.prog 65 false := ⟨_, Tryd.underlying65, rfl⟩
instance : Inf Tryd.prog 65 (.nilFunc) 1 8 := ⟨by kernel_rfl⟩
instance : Agg Tryd.prog 66 false := ⟨_, Tryd.underlying66, rfl⟩
instance : Inf Tryd.prog 66 (.nilFunc) 1 8 := ⟨by kernel_rfl⟩
instance : Agg Tryd.prog 67 false := ⟨_, Tryd.underlying67, rfl⟩
instance : Inf Tryd.prog 67 (.nilFunc) 1 8 := ⟨by kernel_rfl⟩
instance : Agg Tryd.prog 68 false := ⟨_, Tryd.underlying68, rfl⟩
instance : Inf Tryd.prog 68 (.nilFunc) 1 8 := ⟨by kernel_rfl⟩
instance : Agg Tryd.prog 70 false := ⟨_, Tryd.underlying70, rfl⟩
instance : Inf Tryd.prog 70 (.nilFunc) 1 8 := ⟨by kernel_rfl⟩
instance : Agg Tryd.prog 71 false := ⟨_, Tryd.underlying71, rfl⟩
instance : Inf Tryd.prog 71 (.nilFunc) 1 8 := ⟨by kernel_rfl⟩
instance : Agg Tryd.prog 72 false := ⟨_, Tryd.underlying72, rfl⟩
instance : Inf Tryd.prog 72 (.nilFunc) 1 8 := ⟨by kernel_rfl⟩
instance : Agg Tryd.prog 73 false := ⟨_, Tryd.underlying73, rfl⟩
instance : Inf Tryd.prog 73 (.nilFunc) 1 8 := ⟨by kernel_rfl⟩
instance : Agg Tryd.prog 74 false := ⟨_, Tryd.underlying74, rfl⟩
instance : Inf Tryd.prog 74 (.nilFunc) 1 8 := ⟨by kernel_rfl⟩
instance : Agg Tryd.prog 76 false := ⟨_, Tryd.underlying76, rfl⟩
instance : Inf Tryd.prog 76 (.nilFunc) 1 8 := ⟨by kernel_rfl⟩
instance : Agg Tryd.prog 77 false := ⟨_, Tryd.underlying77, rfl⟩
instance : Inf Tryd.prog 77 (.nilFunc) 1 8 := ⟨by kernel_rfl⟩
instance : Agg Tryd.prog 78 false := ⟨_, Tryd.underlying78, rfl⟩
instance : Inf Tryd.prog 78 (.nilFunc) 1 8 := ⟨by kernel_rfl⟩
instance : Agg Tryd.prog 79 false := ⟨_, Tryd.underlying79, rfl⟩
instance : Inf Tryd.prog 79 (.nilFunc) 1 8 := ⟨by kernel_rfl⟩
instance : Agg Tryd.prog 83 false := ⟨_, Tryd.underlying83, rfl⟩
instance : Inf Tryd.prog 83 (.nilFunc) 1 8 := ⟨by kernel_rfl⟩
instance : Agg Tryd.prog 86 false := ⟨_, Tryd.underlying86, rfl⟩
instance : Inf Tryd.prog 86 (.nilFunc) 1 8 := ⟨by kernel_rfl⟩
instance : Agg Tryd.prog 88 false := ⟨_, Tryd.underlying88, rfl⟩
instance : Inf Tryd.prog 88 (.nilFunc) 1 8 := ⟨by kernel_rfl⟩
instance : Agg Tryd.prog 89 false := ⟨_, Tryd.underlying89, rfl⟩
instance : Inf Tryd.prog 89 (.nilFunc) 1 8 := ⟨by kernel_rfl⟩
instance : Agg Tryd.prog 91 false := ⟨_, Tryd.underlying91, rfl⟩
instance : Inf Tryd.prog 91 (.nilFunc) 1 8 := ⟨by kernel_rfl⟩
instance : Agg Tryd.prog 94 false := ⟨_, Tryd.underlying94, rfl⟩
instance : Inf Tryd.prog 94 (.nilFunc) 1 8 := ⟨by kernel_rfl⟩
instance : Agg Tryd.prog 95 false := ⟨_, Tryd.underlying95, rfl⟩
instance : Inf Tryd.prog 95 (.nilFunc) 1 8 := ⟨by kernel_rfl⟩
instance : Agg Tryd.prog 96 false := ⟨_, Tryd.underlying96, rfl⟩
instance : Inf Tryd.prog 96 (.nilFunc) 1 8 := ⟨by kernel_rfl⟩
instance : Agg Tryd.prog 97 false := ⟨_, Tryd.underlying97, rfl⟩
instance : Inf Tryd.prog 97 (.nilFunc) 1 8 := ⟨by kernel_rfl⟩
instance : Agg Tryd.prog 99 false := ⟨_, Tryd.underlying99, rfl⟩
instance : Inf Tryd.prog 99 (.nilFunc) 1 8 := ⟨by kernel_rfl⟩
instance : Agg Tryd.prog 100 false := ⟨_, Tryd.underlying100, rfl⟩
instance : Inf Tryd.prog 100 (.nilFunc) 1 8 := ⟨by kernel_rfl⟩
instance : Agg Tryd.prog 104 false := ⟨_, Tryd.underlying104, rfl⟩
instance : Inf Tryd.prog 104 (.nilFunc) 1 8 := ⟨by kernel_rfl⟩
instance : Agg Tryd.prog 105 false := ⟨_, Tryd.underlying105, rfl⟩
instance : Inf Tryd.prog 105 (.nilFunc) 1 8 := ⟨by kernel_rfl⟩
instance : Agg Tryd.prog 107 false := ⟨_, Tryd.underlying107, rfl⟩
instance : Inf Tryd.prog 107 (.nilFunc) 1 8 := ⟨by kernel_rfl⟩
instance : Agg Tryd.prog 108 false := ⟨_, Tryd.underlying108, rfl⟩
instance : Inf Tryd.prog 108 (.nilFunc) 1 8 := ⟨by kernel_rfl⟩
instance : Agg Tryd.prog 109 false := ⟨_, Tryd.underlying109, rfl⟩
instance : Inf Tryd.prog 109 (.nilFunc) 1 8 := ⟨by kernel_rfl⟩
instance : Agg Tryd.prog 110 false := ⟨_, Tryd.underlying110, rfl⟩
instance : Inf Tryd.prog 110 (.nilFunc) 1 8 := ⟨by kernel_rfl⟩
instance : Agg Tryd.prog 112 false := ⟨_, Tryd.underlying112, rfl⟩
instance : Inf Tryd.prog 112 (.nilFunc) 1 8 := ⟨by kernel_rfl⟩
instance : Agg Tryd.prog 113 false := ⟨_, Tryd.underlying113, rfl⟩
instance : Inf Tryd.prog 113 (.nilFunc) 1 8 := ⟨by kernel_rfl⟩
instance : Agg Tryd.prog 115 false := ⟨_, Tryd.underlying115, rfl⟩
instance : Inf Tryd.prog 115 (.nilFunc) 1 8 := ⟨by kernel_rfl⟩
instance : Agg Tryd.prog 116 false := ⟨_, Tryd.underlying116, rfl⟩
instance : Inf Tryd.prog 116 (.nilFunc) 1 8 := ⟨by kernel_rfl⟩
instance : Agg Tryd.prog 117 false := ⟨_, Tryd.underlying117, rfl⟩
instance : Inf Tryd.prog 117 (.nilFunc) 1 8 := ⟨by kernel_rfl⟩
instance : Agg Tryd.prog 118 false := ⟨_, Tryd.underlying118, rfl⟩
instance : Inf Tryd.prog 118 (.nilFunc) 1 8 := ⟨by kernel_rfl⟩
instance : Agg Tryd.prog 119 false := ⟨_, Tryd.underlying119, rfl⟩
instance : Inf Tryd.prog 119 (.nilFunc) 1 8 := ⟨by kernel_rfl⟩
instance : Agg Tryd.prog 121 false := ⟨_, Tryd.underlying121, rfl⟩
instance : Inf Tryd.prog 121 (.nilFunc) 1 8 := ⟨by kernel_rfl⟩
instance : Agg Tryd.prog 123 false := ⟨_, Tryd.underlying123, rfl⟩
instance : Inf Tryd.prog 123 (.nilFunc) 1 8 := ⟨by kernel_rfl⟩
instance : Agg Tryd.prog 124 false := ⟨_, Tryd.underlying124, rfl⟩
instance : Inf Tryd.prog 124 (.nilFunc) 1 8 := ⟨by kernel_rfl⟩
instance : Agg Tryd.prog 125 false := ⟨_, Tryd.underlying125, rfl⟩
instance : Inf Tryd.prog 125 (.nilFunc) 1 8 := ⟨by kernel_rfl⟩
instance : Agg Tryd.prog 126 false := ⟨_, Tryd.underlying126, rfl⟩
instance : Inf Tryd.prog 126 (.nilFunc) 1 8 := ⟨by kernel_rfl⟩
instance : Agg Tryd.prog 127 false := ⟨_, Tryd.underlying127, rfl⟩
instance : Inf Tryd.prog 127 (.nilFunc) 1 8 := ⟨by kernel_rfl⟩
instance : Agg Tryd.prog 128 false := ⟨_, Tryd.underlying128, rfl⟩
instance : Inf Tryd.prog 128 (.nilFunc) 1 8 := ⟨by kernel_rfl⟩
instance : Agg Tryd.prog 133 false := ⟨_, Tryd.underlying133, rfl⟩
instance : Inf Tryd.prog 133 (.nilFunc) 1 8 := ⟨by kernel_rfl⟩
instance : Agg Tryd.prog 140 false := ⟨_, Tryd.underlying140, rfl⟩
instance : Inf Tryd.prog 140 (.nilFunc) 1 8 := ⟨by kernel_rfl⟩
instance : Agg Tryd.prog 146 false := ⟨_, Tryd.underlying146, rfl⟩
instance : Inf Tryd.prog 146 (.nilFunc) 1 8 := ⟨by kernel_rfl⟩
instance : Agg Tryd.prog 149 false := ⟨_, Tryd.underlying149, rfl⟩
instance : Inf Tryd.prog 149 (.nilFunc) 1 8 := ⟨by kernel_rfl⟩
end Go.Proofs.YtffaoehhhdcjjaaDoor

/-
  General steps: what is skipped, what is written, loops over functions (out of several texts).
-/
set_option linter.unusedSimpArgs false
set_option linter.unusedVariables false
set_option linter.unnecessarySimpa false
namespace Go.Sv
open Go Go.RowKit
/-- a guarded operation whose guard says no -/
theorem wlskipg {P : Program} {n : Nat} {ds : Ctx} {ops : Array Oper} {Q : Exit → Ctx → Env → World → Prop} {rest : List Oper} {σ : GE} {w : World} {d : Nat} {op : Op} {ty : TypeId} {pos : String} {af : Array Edge} {j dj : Nat} {want b c : Bool} (v : Value)
    (h : WL P n ds ops Q rest (real (updG σ d ⟨v, false⟩)) w)
    (hj : (ops[j]?).bind (·.dst) = some dj := by rfl) (hσ : σ dj = ⟨.bool c, b⟩ := by rfl) (hgt : (b && (c == want)) = false) :
    WL P n ds ops Q (⟨some d, op, ty, pos, af, some (j, want)⟩ :: rest) (real σ) w := by
  have hw := wanted_real (ops := ops) (o := ⟨some d, op, ty, pos, af, some (j, want)⟩) rfl hj hσ
  rw [hgt] at hw
  refine WL_skip hw ?_
  rw [← real_upd] at h
  exact h
/-- all blocks of a list as they were -/
def pKeep (w1 : World) (F : List Nat) : Plot where
  foot := F.filter fun b => decide (b < w1.heap.size)
  ok w := ∀ b ∈ F, b < w1.heap.size → w.heap[b]? = w1.heap[b]?
  view := (none, [])
  loc _ _ h hb := fun b hF hlt => (hb b (List.mem_filter.2 ⟨hF, by simpa using hlt⟩)).trans (h b hF hlt)
  lt w h x hx := by
    obtain ⟨h1, h2⟩ := List.mem_filter.1 hx
    have h3 : x < w1.heap.size := by simpa using h2
    have h4 := h x h1 h3
    rw [Array.getElem?_eq_getElem h3] at h4
    exact (Array.getElem?_eq_some_iff.1 h4).1
  sg _ _ := .inl rfl
def feet (cs : List Plot) : List Nat := cs.flatMap Plot.foot
/-- the blocks that belong to no piece -/
def others (w0 w1 : World) (cs : List Plot) : List Nat := (List.range w1.heap.size).filter fun x => decide (w0.heap.size ≤ x) && !(decide (x ∈ feet cs))
section
variable {w0 w1 w2 w w' : World} {cs ds : List Plot} {B : Nat}
theorem Sep.keep (h : Sep w0 w1 cs) : Sep w0 w1 (pKeep w1 (others w0 w1 cs) :: cs) := by
  refine ⟨h.frm, ?_, ?_, ?_⟩
  · intro c hc
    rcases List.mem_cons.1 hc with rfl | hc
    · exact fun _ _ _ => rfl
    · exact h.ok c hc
  · intro c hc x hx
    rcases List.mem_cons.1 hc with rfl | hc
    · have := (List.mem_filter.1 (List.mem_filter.1 hx).1).2
      simp only [Bool.and_eq_true, decide_eq_true_eq] at this
      exact this.1
    · exact h.low c hc x hx
  · rw [List.pairwise_cons]
    refine ⟨fun c hc x hx hx' => ?_, h.apart⟩
    have := (List.mem_filter.1 (List.mem_filter.1 hx).1).2
    simp only [Bool.and_eq_true, Bool.not_eq_true', decide_eq_false_iff_not] at this
    exact this.2 (List.mem_flatMap.2 ⟨c, hc, hx'⟩)
theorem Sep.same (h : Sep w0 w1 cs) (hs : Same B w1 w2) (h0 : w0.heap.size ≤ B) (hB : ∀ x ∈ feet cs, x < B) : Sep w0 w2 cs :=
  ⟨⟨hs.os.trans h.frm.os, hs.tape.trans h.frm.tape, hs.output.trans h.frm.output, Nat.le_trans h0 hs.size, fun k hk => (hs.block k (Nat.lt_of_lt_of_le hk h0)).trans (h.frm.block k hk)⟩,
    fun c hc => c.loc w1 w2 (h.ok c hc) fun x hx => hs.block x (hB x (List.mem_flatMap.2 ⟨c, hc, hx⟩)), h.low, h.apart⟩
theorem Same.mono {B B' : Nat} (h : Same B w w') (hb : B' ≤ B) : Same B' w w' := ⟨h.os, h.tape, h.output, Nat.le_trans hb h.size, fun k hk => h.block k (Nat.lt_of_lt_of_le hk hb)⟩
end
def colls (Ds : List Nat) : List Deferred := Ds.map fun D => { target := .collected D, args := #[] }
end Go.Sv

/-
  Package link: Query, digits, Authority.
-/
set_option linter.unusedSimpArgs false
set_option linter.unusedVariables false
set_option linter.unnecessarySimpa false
namespace Go.Proofs.YtffaoehhhdcjjaaDoor
open Go Go.Sv Go.RowKit

theorem pairW_len (a : At) (h : a.small) : (pairW a).length ≤ 24 * (a.n.length + a.v.length) + 1 := by
  have h1 := formL_len (mendR a.n)
  have h2 := formL_len (mendR a.v)
  have h3 := mendR_len a.n
  have h4 := mendR_len a.v
  unfold pairW formR
  simp only [List.length_append, List.length_cons, List.length_nil]
  omega
def atw (l : List At) : Nat := (l.map At.wt).sum
theorem tlen_pairs : ∀ l : List At, (∀ a ∈ l, a.small) → tlen (l.map pairW) ≤ 24 * atw l
  | [], _ => by simp [tlen, atw]
  | a :: l, h => by
    have ih := tlen_pairs l fun x hx => h x (List.mem_cons_of_mem _ hx)
    have h1 := pairW_len a (h a (by simp))
    have h2 : At.wt a = a.n.length + a.v.length + 3 := rfl
    have e1 : tlen ((a :: l).map pairW) = (pairW a).length + tlen (l.map pairW) := by simp [tlen]
    have e2 : atw (a :: l) = At.wt a + atw l := by simp [atw]
    omega
theorem join_pairs (l : List At) (h : ∀ a ∈ l, a.small) : (joinR [38] (l.map pairW)).length ≤ 25 * atw l := by
  have h1 := tlen_pairs l h
  have h2 : l.length ≤ atw l := sum_len At.wt l (by intro x _; unfold At.wt; omega)
  cases l with
  | nil => simp [joinR]
  | cons a l =>
    rw [List.map_cons, join_len]
    rw [List.map_cons] at h1
    simp only [List.length_map, List.length_cons, List.length_nil] at h2 ⊢
    omega
theorem join_take {sep : List UInt8} {l : List (List UInt8)} {i : Nat} {x : List UInt8} (h : l[i]? = some x) : joinR sep (l.take (i + 1)) = joinR sep (l.take i) ++ (if i = 0 then [] else sep) ++ x := by
  cases l with
  | nil => cases h
  | cons y r =>
    cases i with
    | zero =>
      have : y = x := by simpa using h
      subst this
      simp [joinR]
    | succ i =>
      rw [if_neg (by omega), List.take_succ_cons, List.take_succ_cons]
      exact join_snoc (by simpa using h)
set_option maxHeartbeats 4000000 in
theorem query_ok (l : List At) (p : Option Addr) (c : Nat) (hw : atw l ≤ 1048576) (w : World) (hi : Im [] w p (l.flatMap At.cells)) :
    PureC Tryd.prog 24 #[.slice p l.length c] w (str (joinR [38] (l.map pairW))) := by
  have hs : ∀ a ∈ l, a.small := fun a ha => by
    have h1 := sum_mem At.wt l ha
    have h2 : At.wt a = a.n.length + a.v.length + 3 := rfl
    unfold atw at hw
    exact ⟨by omega, by omega⟩
  have hn : l.length ≤ 1048576 := by
    have := sum_len At.wt l (by intro x _; unfold At.wt; omega)
    unfold atw at hw; omega
  have hj := join_pairs l hs
  have hS := Sep.start w
  refine enter (l := [.slice p l.length c]) Tryd.func24 rfl Tryd.ntmps24 (by kernel_rfl) rfl ?_
  refine sgo ?_
  replace hS : Sep w w [pRow 1 none 0 0 []] := hS.nilRow 1
  refine wcloop (X := Nat × Option Addr × Nat) (fun x => [(3, .slice x.2.1 x.1 x.2.2), (6, .slice p l.length c), (7, int l.length), (8, int x.1)])
    (fun x wr => x.1 ≤ l.length ∧ Sep w wr [pRow 1 x.2.1 x.1 x.2.2 (strs ((l.take x.1).map pairW))]) (fun x => l.length - x.1) (0, none, 0) ⟨rfl, rfl, rfl, rfl, trivial⟩ ⟨Nat.zero_le _, hS⟩ ?_
  clear hS
  rintro ⟨i, q, cc⟩ wr ρ ⟨hil, hS⟩
  dsimp only at hil hS ⊢
  refine sgo ?_
  (show WC _ _ _ _ _ _ _; first | refine WC_dec rfl (fun hc => ?_) (fun hc => ?_) | refine WC_cond rfl (fun hc => ?_) (fun hc => ?_))
  · have hlt : i < l.length := by omega
    clear hc
    have hSg := (hi.frm hS.frm).sg
    have hx : l[i]? = some l[i] := List.getElem?_eq_getElem hlt
    have hseg := fm_seg At.len l hx
    have hfl := fm_len At.len l
    have hps : ∃ q, p = some q := hSg.some (by omega)
    have hsm := hs l[i] (List.getElem_mem hlt)
    have hpl := pairW_len _ hsm
    have htk : (l.take (i + 1)).map pairW = (l.take i).map pairW ++ [pairW l[i]] := by rw [List.take_add_one, hx, List.map_append]; rfl
    generalize l[i] = x at *
    obtain ⟨n, v⟩ := x
    have hz1 := hsm.1
    have hz2 := hsm.2
    dsimp only at hz1 hz2 hpl
    refine sgo ?_
    rw [hseg]
    refine salloc hS fun b5 w6 hS => ?_
    refine sgo ?_
    refine ssta (vs := [str n, str v]) hS 0 fun w7 hS => ?_
    replace hS : Sep w w7 [pOwn b5 [str n, str v], pRow 1 q i cc (strs ((l.take i).map pairW))] := hS
    clear hseg hSg
    have hf1 : (formR n).length ≤ 20000000 := by have := formL_len (mendR n); have := mendR_len n; unfold formR; omega
    have hf2 : (formR v).length ≤ 20000000 := by have := formL_len (mendR v); have := mendR_len v; unfold formR; omega
    refine sgo ?_
    refine wcdrawx 9 ?_
    refine qgo ?_
    refine qlcallp (fun w _ => form_ok n (by omega) w) ?_
    refine qgo ?_
    refine qlcallp (fun w _ => form_ok v (by omega) w) ?_
    refine qgo ?_
    refine QL_nil ?_
    refine qxb1_str fun b9 w8 hf8 hb9 ho9 => ?_
    replace hS := hS.push (c := pOwn b9 _) hf8 ho9 (by simpa [pOwn] using hb9)
    refine sgo ?_
    refine sapp hS 2 (hS.own 0 rfl).sg fun q' c' w9 hS => ?_
    replace hS : Sep w w9 [pRow 1 q' (i + 1) c' (strs ((l.take i).map pairW) ++ [str (formR n ++ [61] ++ formR v)])] := (hS.drop 1 rfl).drop 0 rfl
    have e : strs ((l.take i).map pairW) ++ [str (formR n ++ [61] ++ formR v)] = strs ((l.take (i + 1)).map pairW) := by rw [htk, strs_snoc]; rfl
    rw [e] at hS
    refine sgo ?_
    exact ⟨(i + 1, q', c'), ⟨rfl, rfl, rfl, rfl, trivial⟩, ⟨hlt, hS⟩, (by (try dsimp only); omega)⟩
  · obtain rfl : i = l.length := by omega
    rw [List.take_length] at hS
    have hle := (hS.row 0 rfl).le_cap
    have hlm : (l.map pairW).length = l.length := by simp
    have hjo := fun w h => join_ok (l.map pairW) [38] q cc (by rw [hlm]; exact hle.1) (by rw [hlm]; omega) (by decide) (by omega) w h
    rw [hlm] at hjo
    refine sgo ?_
    refine wlpure (hjo _ (hS.im 0 rfl)) fun w5 hf5 => ?_
    replace hS := hS.grow hf5
    refine sgo ?_
    (first | refine fp1 (.inl rfl) rfl rfl ?_ | refine fp2 (.inl rfl) rfl rfl rfl ?_ | refine fp3 (.inl rfl) rfl rfl rfl rfl ?_ | refine fp0 (.inr rfl) rfl ?_ | refine fp0 (.inl rfl) rfl ?_ | refine fp1 (.inr rfl) rfl rfl ?_); refine ⟨?_, by (first | exact Frm.refl _ | assumption | exact Go.Sv.Sep.frm (by assumption) | (refine Frm.trans ?_ (by assumption); first | exact Frm.refl _ | assumption))⟩; (try simp only [realB, rv_true, Nat.reduceBEq, cond_true, cond_false, entG, real_lif, updGL])
/-! ## digits -/
def digN (s : List UInt8) : Nat := (s.takeWhile fun c => digitR c.toNat).length
theorem digN_at {s : List UInt8} {i : Nat} {c : UInt8} (h : s[i]? = some c) : digN (s.drop i) = if digitR c.toNat = true then 1 + digN (s.drop (i + 1)) else 0 := by
  obtain ⟨hi, rfl⟩ := List.getElem?_eq_some_iff.1 h
  rw [List.drop_eq_getElem_cons hi]
  unfold digN
  rw [List.takeWhile_cons]
  split
  · simp; omega
  · rfl
theorem digN_all (s : List UInt8) : digN s = s.length ↔ s.all (fun c => digitR c.toNat) = true := by
  unfold digN
  induction s with
  | nil => simp
  | cons c s ih =>
    rw [List.takeWhile_cons, List.all_cons]
    cases hd : digitR c.toNat with
    | true => simpa using ih
    | false => simp
set_option maxHeartbeats 1000000 in
theorem digits_ok (s : List UInt8) (hb : s.length ≤ 1073741824) (w : World) : PureC Tryd.prog 54 #[str s] w (int (digN s)) := by
  refine enter (l := [str s]) Tryd.func54 rfl Tryd.ntmps54 (by kernel_rfl) rfl ?_
  refine sgo ?_
  refine wcloop (X := Nat) (fun i => [(0, str s), (3, int i)]) (fun i wr => i ≤ s.length ∧ digN s = i + digN (s.drop i) ∧ Frm w wr) (fun i => s.length - i) 0 ⟨rfl, rfl, trivial⟩ ⟨Nat.zero_le _, by simp, Frm.refl _⟩ ?_
  rintro i wr ρ ⟨hil, hd, hfr⟩
  refine sgo ?_
  refine wlcallgp (vals := [i32 (s[i]?.getD 0).toNat]) (fun _ => digit_ok _ _) (fun w1 hf1 => ?_)
  replace hfr := hfr.trans hf1
  rcases Nat.lt_or_ge i s.length with hlt | hge
  · obtain ⟨c, hx⟩ : ∃ c, s[i]? = some c := ⟨_, List.getElem?_eq_getElem hlt⟩
    have hg : s[i]?.getD 0 = c := by rw [hx]; rfl
    rw [digN_at hx] at hd
    simp only [hg]
    refine sgo ?_
    have h1 : decide ((i : Int) < s.length) = true := decide_eq_true (by omega)
    cases hdc : digitR c.toNat with
    | true =>
      rw [hdc, if_pos rfl] at hd
      refine wcyes ?_ (ht := by rw [h1]; rfl)
      refine sgo ?_
      exact ⟨i + 1, ⟨rfl, rfl, trivial⟩, ⟨by omega, by omega, hfr⟩, by omega⟩
    | false =>
      rw [hdc, if_neg Bool.false_ne_true] at hd
      refine wcno ?_ (ht := by rw [h1]; rfl)
      refine sgo ?_
      (first | refine fp1 (.inl rfl) rfl rfl ?_ | refine fp2 (.inl rfl) rfl rfl rfl ?_ | refine fp3 (.inl rfl) rfl rfl rfl rfl ?_ | refine fp0 (.inr rfl) rfl ?_ | refine fp0 (.inl rfl) rfl ?_ | refine fp1 (.inr rfl) rfl rfl ?_); refine ⟨?_, by (first | exact Frm.refl _ | assumption | exact Go.Sv.Sep.frm (by assumption) | (refine Frm.trans ?_ (by assumption); first | exact Frm.refl _ | assumption))⟩; (try simp only [realB, rv_true, Nat.reduceBEq, cond_true, cond_false, entG, real_lif, updGL])
      rw [hd]
      rfl
  · have hio : i = s.length := by omega
    subst hio
    have hd0 : digN (s.drop s.length) = 0 := by rw [List.drop_length]; rfl
    have h1 : decide ((s.length : Int) < s.length) = false := decide_eq_false (by omega)
    refine sgo ?_
    refine wcno ?_ (ht := by rw [h1]; rfl)
    refine sgo ?_
    (first | refine fp1 (.inl rfl) rfl rfl ?_ | refine fp2 (.inl rfl) rfl rfl rfl ?_ | refine fp3 (.inl rfl) rfl rfl rfl rfl ?_ | refine fp0 (.inr rfl) rfl ?_ | refine fp0 (.inl rfl) rfl ?_ | refine fp1 (.inr rfl) rfl rfl ?_); refine ⟨?_, by (first | exact Frm.refl _ | assumption | exact Go.Sv.Sep.frm (by assumption) | (refine Frm.trans ?_ (by assumption); first | exact Frm.refl _ | assumption))⟩; (try simp only [realB, rv_true, Nat.reduceBEq, cond_true, cond_false, entG, real_lif, updGL])
    rw [hd, hd0]
    rfl
/-! ## Authority -/
def userR (h : List UInt8) : List UInt8 × List UInt8 := if 0 ≤ lastR h 64 then (h.take (lastR h 64).toNat, h.drop ((lastR h 64).toNat + 1)) else ([], h)
def portR (r : List UInt8) : List UInt8 × List UInt8 := if 0 ≤ lastR r 58 ∧ (r.drop ((lastR r 58).toNat + 1)).all (fun c => digitR c.toNat) = true then (r.take (lastR r 58).toNat, r.drop ((lastR r 58).toNat + 1)) else (r, [])
def authV (h : List UInt8) : Value := .tuple #[str (userR h).1, str (portR (userR h).2).1, str (portR (userR h).2).2]
theorem userR_len (h : List UInt8) : (userR h).2.length ≤ h.length := by
  unfold userR
  split
  · simp
  · exact Nat.le_refl _
set_option maxHeartbeats 4000000 in
theorem authority_ok (l : List UInt8) (hb : l.length ≤ 16777216) (w : World) : PureC Tryd.prog 22 #[str l] w (authV (mendR l)) := by
  refine enter (l := [str l]) Tryd.func22 rfl Tryd.ntmps22 (by kernel_rfl) rfl ?_
  refine sgo ?_
  refine wlpure (mend_ok l (by omega) _) fun w1 hf1 => ?_
  have hml := mendR_len l
  generalize mendR l = h at *
  refine sgo ?_
  refine wlpure (last_ok h 64 (by omega) _) fun w2 hf2 => ?_
  replace hf1 := hf1.trans hf2
  clear hf2
  have hrg := lastF_rng h 64 h.length
  have hul := userR_len h
  refine sgo ?_
  refine wcutt (X := Unit) (fun _ => [(5, str (userR h).1), (6, str (userR h).2)]) (fun _ w' => Frm w w') ?_ ?_
  · unfold userR
    change -1 ≤ lastR h 64 ∧ lastR h 64 < h.length at hrg
    generalize lastR h 64 = L at *
    by_cases hL : 0 ≤ L
    · rw [if_pos hL]
      obtain ⟨n, rfl⟩ := Int.eq_ofNat_of_zero_le hL
      refine wcyes ?_ (ht := by simp)
      refine sgo ?_
      refine wcdraw ?_
      refine qgo ?_
      refine QL_nil ?_
      intro w3 hf3
      refine thl_normal ?_
      exact ⟨(), ⟨rfl, rfl, trivial⟩, hf1.trans hf3⟩
    · rw [if_neg hL]
      refine wcno ?_ (ht := decide_eq_false hL)
      refine sgo ?_
      exact ⟨(), ⟨rfl, rfl, trivial⟩, hf1⟩
  clear hf1 hrg
  rintro _ w3 ρ hf1
  unfold authV
  generalize userR h = U at *
  obtain ⟨u, r⟩ := U
  dsimp only at hul ⊢
  refine sgo ?_
  refine wlpure (last_ok r 58 (by omega) _) fun w4 hf4 => ?_
  replace hf1 := hf1.trans hf4
  clear hf4
  have hrg := lastF_rng r 58 r.length
  change -1 ≤ lastR r 58 ∧ lastR r 58 < r.length at hrg
  unfold portR
  generalize lastR r 58 = L at *
  refine sgo ?_
  by_cases hL : 0 ≤ L
  · obtain ⟨n, rfl⟩ := Int.eq_ofNat_of_zero_le hL
    have hda := digN_all (r.drop (n + 1))
    rw [List.length_drop] at hda
    refine wlcallgp (vals := [str (r.drop (n + 1))]) (fun _ => digits_ok _ (by rw [List.length_drop]; omega) _) fun w5 hf5 => ?_
    replace hf1 := hf1.trans hf5
    clear hf5
    have h1 : decide (0 ≤ (n : Int)) = true := decide_eq_true (by omega)
    refine sgo ?_
    by_cases hd : digN (r.drop (n + 1)) = r.length - (n + 1)
    · rw [if_pos ⟨by omega, hda.1 hd⟩]
      refine wcyes ?_ (ht := by
        rw [h1, decide_eq_true (by omega)]; rfl)
      refine sgo ?_
      refine wcdraw ?_
      refine qgo ?_
      refine QL_nil ?_
      intro w6 hf6
      replace hf1 := hf1.trans hf6
      clear hf6
      refine thn_normal ?_
      refine sgo ?_
      (first | refine fp1 (.inl rfl) rfl rfl ?_ | refine fp2 (.inl rfl) rfl rfl rfl ?_ | refine fp3 (.inl rfl) rfl rfl rfl rfl ?_ | refine fp0 (.inr rfl) rfl ?_ | refine fp0 (.inl rfl) rfl ?_ | refine fp1 (.inr rfl) rfl rfl ?_); refine ⟨?_, by (first | exact Frm.refl _ | assumption | exact Go.Sv.Sep.frm (by assumption) | (refine Frm.trans ?_ (by assumption); first | exact Frm.refl _ | assumption))⟩; (try simp only [realB, rv_true, Nat.reduceBEq, cond_true, cond_false, entG, real_lif, updGL])
      all_goals rfl
    · rw [if_neg (by rintro ⟨_, h2⟩; exact hd (hda.2 h2))]
      refine wcno ?_ (ht := by
        rw [h1, decide_eq_false (by omega)]; rfl)
      refine sgo ?_
      (first | refine fp1 (.inl rfl) rfl rfl ?_ | refine fp2 (.inl rfl) rfl rfl rfl ?_ | refine fp3 (.inl rfl) rfl rfl rfl rfl ?_ | refine fp0 (.inr rfl) rfl ?_ | refine fp0 (.inl rfl) rfl ?_ | refine fp1 (.inr rfl) rfl rfl ?_); refine ⟨?_, by (first | exact Frm.refl _ | assumption | exact Go.Sv.Sep.frm (by assumption) | (refine Frm.trans ?_ (by assumption); first | exact Frm.refl _ | assumption))⟩; (try simp only [realB, rv_true, Nat.reduceBEq, cond_true, cond_false, entG, real_lif, updGL])
      all_goals rfl
  · rw [if_neg (by rintro ⟨h2, _⟩; exact hL h2)]
    have h1 : decide (0 ≤ L) = false := decide_eq_false hL
    rw [h1]
    refine wlskipg (int 0) ?_ (hgt := by rfl)
    refine sgo ?_
    refine wcno ?_ (ht := by rfl)
    refine sgo ?_
    (first | refine fp1 (.inl rfl) rfl rfl ?_ | refine fp2 (.inl rfl) rfl rfl rfl ?_ | refine fp3 (.inl rfl) rfl rfl rfl rfl ?_ | refine fp0 (.inr rfl) rfl ?_ | refine fp0 (.inl rfl) rfl ?_ | refine fp1 (.inr rfl) rfl rfl ?_); refine ⟨?_, by (first | exact Frm.refl _ | assumption | exact Go.Sv.Sep.frm (by assumption) | (refine Frm.trans ?_ (by assumption); first | exact Frm.refl _ | assumption))⟩; (try simp only [realB, rv_true, Nat.reduceBEq, cond_true, cond_false, entG, real_lif, updGL])
    all_goals rfl
end Go.Proofs.YtffaoehhhdcjjaaDoor

/-
  Package sieveref12: unplus, Pairs, formed, QueryOf, Authority.
-/
set_option linter.unusedSimpArgs false
set_option linter.unusedVariables false
set_option linter.unnecessarySimpa false
namespace Go.Proofs.YtffaoehhhdcjjaaDoor
open Go Go.Sv Go.RowKit

/-! ## unplus -/
def plC (c : UInt8) : UInt8 := if c = 43 then 32 else c
def plusTo (l : List UInt8) (i : Nat) : List UInt8 := plusR (l.take i) ++ l.drop i
theorem plusTo_len (l : List UInt8) (i : Nat) : (plusTo l i).length = l.length := by simp [plusTo, plusR]; omega
theorem plusTo_zero (l : List UInt8) : plusTo l 0 = l := by simp [plusTo, plusR]
theorem plusTo_all (l : List UInt8) : plusTo l l.length = plusR l := by simp [plusTo]
theorem plusTo_at {l : List UInt8} {i : Nat} {c : UInt8} (h : l[i]? = some c) : (plusTo l i)[i]? = some c := by
  obtain ⟨hi, rfl⟩ := List.getElem?_eq_some_iff.1 h
  unfold plusTo
  rw [List.getElem?_append_right (by simp [plusR]; omega)]
  simp [plusR, Nat.min_eq_left (Nat.le_of_lt hi)]
theorem plusTo_succ {l : List UInt8} {i : Nat} {c : UInt8} (h : l[i]? = some c) : plusTo l (i + 1) = (plusTo l i).set i (plC c) := by
  obtain ⟨hi, rfl⟩ := List.getElem?_eq_some_iff.1 h
  unfold plusTo
  rw [List.set_append_right _ _ (by simp [plusR]; omega)]
  have e : i - (plusR (l.take i)).length = 0 := by simp [plusR]; omega
  rw [e, List.drop_eq_getElem_cons hi, List.set_cons_zero, List.take_succ_eq_append_getElem hi]
  simp only [plusR, List.map_append, List.map_cons, List.map_nil, List.append_assoc, List.cons_append, List.nil_append]
  rfl
theorem plusTo_keep {l : List UInt8} {i : Nat} {c : UInt8} (h : l[i]? = some c) (hc : c ≠ 43) : plusTo l (i + 1) = plusTo l i := by
  rw [plusTo_succ h, plC, if_neg hc]
  have := plusTo_at h
  obtain ⟨hi, e⟩ := List.getElem?_eq_some_iff.1 this
  rw [← e, List.set_getElem_self]
set_option maxHeartbeats 1000000 in
theorem unplus_ok (l : List UInt8) (hb : l.length ≤ 268435456) (w : World) : PureC Tryd.prog 52 #[str l] w (str (sayR l)) := by
  refine enter (l := [str l]) Tryd.func52 rfl Tryd.ntmps52 (by kernel_rfl) rfl ?_
  refine sgo ?_
  refine wls2bo rfl (by omega) fun b c w1 hb1 hc1 hc2 ho hf1 => ?_
  refine sgo ?_
  refine wcloop (X := Nat) (fun x => [(3, .slice (pb b) l.length c), (7, .slice (pb b) l.length c), (8, int l.length), (9, int x)])
    (fun x wr => x ≤ l.length ∧ OwnB wr b (plusTo l x) ∧ Frm w wr) (fun x => l.length - x) 0 ⟨rfl, rfl, rfl, rfl, trivial⟩ ⟨by omega, by rw [plusTo_zero]; exact ho, hf1⟩ ?_
  rintro i wr ρ ⟨hi, ho, hfr⟩
  refine sgo ?_
  (show WC _ _ _ _ _ _ _; first | refine WC_dec rfl (fun hc => ?_) (fun hc => ?_) | refine WC_cond rfl (fun hc => ?_) (fun hc => ?_))
  · have hil : i < l.length := by omega
    clear hc
    obtain ⟨ch, hx⟩ : ∃ ch, l[i]? = some ch := ⟨_, List.getElem?_eq_getElem hil⟩
    have hll := plusTo_len l i
    have hld := bs_at (plusTo_at hx)
    have hup := plusTo_succ hx
    have hkp := fun h => plusTo_keep hx h
    refine sgo ?_
    refine wl ?_ (y_load (i := i) rfl ho.sg hld)
    refine sgo ?_
    by_cases h43 : ch = 43
    · subst h43
      refine wcyes ?_ (ht := by decide)
      refine sgo ?_
      refine wlstoreb (v := 32) rfl rfl ho (by omega) (by omega) fun w2 ho2 hl2 => ?_
      have hfr2 := hfr.step hl2 (by intro x hx; simp only [List.mem_singleton] at hx; subst hx; exact hb1)
      refine sgo ?_
      exact ⟨i + 1, ⟨rfl, rfl, rfl, rfl, trivial⟩, ⟨by omega, by rw [hup]; exact ho2, hfr2⟩, by omega⟩
    · have hne : ¬ ((ch.toNat : Int) = 43) := fun h => h43 (UInt8.toNat_inj.1 (show ch.toNat = 43 by omega))
      refine wcno ?_ (ht := decide_eq_false hne)
      refine sgo ?_
      exact ⟨i + 1, ⟨rfl, rfl, rfl, rfl, trivial⟩, ⟨by omega, by rw [hkp h43]; exact ho, hfr⟩, by omega⟩
  · obtain rfl : i = l.length := by omega
    have hll := plusTo_len l l.length
    rw [plusTo_all] at ho hll
    refine sgo ?_
    refine wl ?_ (y_b2s (s := plusR l) (by rw [hll]; rfl) ho.sg)
    refine sgo ?_
    refine wlpure (refDecode_ok (plusR l) (by omega) _) fun w3 hf3 => ?_
    replace hfr := hfr.trans hf3
    refine sgo ?_
    (first | refine fp1 (.inl rfl) rfl rfl ?_ | refine fp2 (.inl rfl) rfl rfl rfl ?_ | refine fp3 (.inl rfl) rfl rfl rfl rfl ?_ | refine fp0 (.inr rfl) rfl ?_ | refine fp0 (.inl rfl) rfl ?_ | refine fp1 (.inr rfl) rfl rfl ?_); refine ⟨?_, by (first | exact Frm.refl _ | assumption | exact Go.Sv.Sep.frm (by assumption) | (refine Frm.trans ?_ (by assumption); first | exact Frm.refl _ | assumption))⟩; (try simp only [realB, rv_true, Nat.reduceBEq, cond_true, cond_false, entG, real_lif, updGL])
    rfl
theorem say_nil : sayR [] = [] := by
  have h0 : mendR [] = [] := List.eq_nil_of_length_eq_zero (by have := mendR_len []; simpa using this)
  have h1 : decL [] = [] := by simp [decL]
  unfold sayR decodeR
  rw [show plusR [] = [] from rfl, h0, h1, h0]
/-! ## Pairs -/
set_option maxHeartbeats 4000000 in
theorem refPairs_ok (q : List UInt8) (hb : q.length ≤ 16777216) (w : World) :
    CallsR Tryd.prog 20 #[str q] w fun v w' => ∃ p c, v = .slice p (pairsR q).length c ∧ Sep w w' [pRow 2 p (pairsR q).length c ((pairsR q).flatMap At.cells)] := by
  have hS := Sep.start w
  have hml := mendR_len q
  unfold pairsR
  refine enter (l := [str q]) Tryd.func20 rfl Tryd.ntmps20 (by kernel_rfl) rfl ?_
  refine sgo ?_
  refine wlpure (refMend_ok q (by omega) _) fun w1 hf1 => ?_
  replace hS := hS.grow hf1
  obtain ⟨R, hR⟩ : ∃ R, pairsL (mendR q) = R := ⟨_, rfl⟩
  rw [hR]
  generalize mendR q = t at *
  refine sgo ?_
  replace hS : Sep w w1 [pRow 2 none 0 0 []] := hS.nilRow 2
  refine wcloop (X := List UInt8 × Option Addr × Nat × List At) (fun x => [(0, str x.1), (3, .slice x.2.1 x.2.2.2.length x.2.2.1)])
    (fun x wr => x.2.2.2 ++ pairsL x.1 = R ∧ x.2.2.2.length + x.1.length ≤ t.length ∧ Sep w wr [pRow 2 x.2.1 x.2.2.2.length x.2.2.1 (x.2.2.2.flatMap At.cells)]) (fun x => x.1.length) (t, none, 0, []) ⟨rfl, rfl, trivial⟩ ⟨hR, by simp, hS⟩ ?_
  clear hS hR
  rintro ⟨l, p, cc, out⟩ wr ρ ⟨hR, hol, hS⟩
  dsimp only at hR hol hS ⊢
  refine sgo ?_
  by_cases hl : l = []
  · subst hl
    rw [pairsL_nil, List.append_nil] at hR
    subst hR
    refine wcno ?_ (ht := by rfl)
    refine sgo ?_
    (first | refine fp1 (.inl rfl) rfl rfl ?_ | refine fp2 (.inl rfl) rfl rfl rfl ?_ | refine fp3 (.inl rfl) rfl rfl rfl rfl ?_ | refine fp0 (.inr rfl) rfl ?_ | refine fp0 (.inl rfl) rfl ?_ | refine fp1 (.inr rfl) rfl rfl ?_)
    exact ⟨p, cc, rfl, hS⟩
  · refine wcyes ?_ (ht := by simp [hl])
    have hlp : 0 < l.length := List.length_pos_iff.2 hl
    have hst := pairsL_step l
    have hule := upR_le0 l [38]
    refine sgo ?_
    refine wlpure (upTo_ok l [38] (by omega) (by decide) _) fun w2 hf2 => ?_
    replace hS := hS.grow hf2
    generalize upR l [38] = n at *
    refine sgo ?_
    have hrest : ∀ y : List UInt8, y = l.drop (n + 1) → y.length < l.length := fun y hy => by rw [hy, List.length_drop]; omega
    refine wcutt (X := Unit) (fun _ => [(0, str (l.drop (n + 1))), (3, .slice p out.length cc), (5, str (l.take n))]) (fun _ w' => Sep w w' [pRow 2 p out.length cc (out.flatMap At.cells)]) ?_ ?_
    · by_cases hd : l.drop n = []
      · refine wcno ?_ (ht := by simp [hd])
        refine sgo ?_
        refine ⟨(), ⟨?_, rfl, rfl, trivial⟩, hS⟩
        show str _ = str _
        rw [hd, List.drop_eq_nil_of_le]
        have := congrArg List.length hd
        rw [List.length_drop] at this
        simp at this
        omega
      · refine wcyes ?_ (ht := by simp [hd])
        have hdp : 0 < (l.drop n).length := List.length_pos_iff.2 hd
        refine sgo ?_
        refine ⟨(), ⟨?_, rfl, rfl, trivial⟩, hS⟩
        show str _ = str _
        rw [List.drop_drop]
        rfl
    clear hS
    rintro _ w3 ρ3 hS
    have hrl := hrest _ rfl
    have htl : (l.take n).length ≤ l.length := by rw [List.length_take]; omega
    have hrl2 : (l.drop (n + 1)).length ≤ l.length - 1 := by rw [List.length_drop]; omega
    generalize l.drop (n + 1) = l2 at *
    generalize l.take n = x at *
    refine sgo ?_
    by_cases hx : x = []
    · rw [hst, if_pos hx, List.nil_append] at hR
      refine wcyes ?_ (ht := by simp [hx])
      refine sgo ?_
      exact ⟨(l2, p, cc, out), ⟨rfl, rfl, trivial⟩, ⟨hR, by dsimp only; omega, hS⟩, by dsimp only; omega⟩
    · rw [hst, if_neg hx, ← List.append_assoc] at hR
      refine wcno ?_ (ht := by simp [hx])
      obtain ⟨u1, u2⟩ := cut_up x
      have hcl := cutC_len 61 x
      have hul2 := upR_le0 x [61]
      refine sgo ?_
      refine wlpure (upTo_ok x [61] (by omega) (by decide) _) fun w4 hf4 => ?_
      replace hS := hS.grow hf4
      generalize upR x [61] = m at *
      refine sgo ?_
      rw [← u1]
      refine wlpure (unplus_ok (cutC 61 x).1 (by omega) _) fun w5 hf5 => ?_
      replace hS := hS.grow hf5
      refine sgo ?_
      refine wlbuild ?_
      refine salloc hS fun b7 w6 hS => ?_
      refine ssta (vs := [str (sayR (cutC 61 x).1), str []]) hS 0 fun w7 hS => ?_
      replace hS : Sep w w7 [pOwn b7 [str (sayR (cutC 61 x).1), str []], pRow 2 p out.length cc (out.flatMap At.cells)] := hS
      refine sgo ?_
      refine wcutt (X := Unit) (fun _ => [(0, str l2), (3, .slice p out.length cc), (7, ptrAt (pb b7) 0)]) (fun _ w' => Sep w w' [pOwn b7 [str (sayR (cutC 61 x).1), str (sayR (cutC 61 x).2)], pRow 2 p out.length cc (out.flatMap At.cells)]) ?_ ?_
      · by_cases hm : m < x.length
        · refine wcyes ?_ (ht := by simp; omega)
          refine sgo ?_
          rw [show ((m : Int) + 1).toNat = m + 1 from by omega, ← u2]
          refine wlpure (unplus_ok (cutC 61 x).2 (by omega) _) fun w8 hf8 => ?_
          replace hS := hS.grow hf8
          refine sgo ?_
          refine sst_str hS 0 fun w9 hS => ?_
          refine sgo ?_
          exact ⟨(), ⟨rfl, rfl, rfl, trivial⟩, hS⟩
        · refine wcno ?_ (ht := by simp; omega)
          have e2 : (cutC 61 x).2 = [] := by rw [u2]; exact List.drop_eq_nil_of_le (by omega)
          have e3 : sayR ([] : List UInt8) = [] := say_nil
          refine sgo ?_
          rw [e2, e3]
          exact ⟨(), ⟨rfl, rfl, rfl, trivial⟩, hS⟩
      clear hS
      rintro _ w10 ρ4 hS
      refine sgo ?_
      refine sb1a (vs := [str (sayR (cutC 61 x).1), str (sayR (cutC 61 x).2)]) hS fun b9 w11 hS => ?_
      refine sgo ?_
      refine sapp hS 2 (hS.own 0 rfl).sg (fun q' c' w12 hS => ?_) (hl := rfl) (h1 := by simp [Value.oneCell'])
      replace hS : Sep w w12 [pRow 2 q' (out.length + 1) c' (out.flatMap At.cells ++ [str (sayR (cutC 61 x).1), str (sayR (cutC 61 x).2)])] := (hS.drop 1 rfl).drop 0 rfl
      have hfl : out.flatMap At.cells ++ [str (sayR (cutC 61 x).1), str (sayR (cutC 61 x).2)] = (out ++ [pairR x]).flatMap At.cells := by rw [List.flatMap_append]; rfl
      have hnl : out.length + 1 = (out ++ [pairR x]).length := by simp
      rw [hfl, hnl] at hS
      rw [hnl]
      refine sgo ?_
      exact ⟨(l2, q', c', out ++ [pairR x]), ⟨rfl, rfl, trivial⟩, ⟨hR, by simp; omega, hS⟩, by dsimp only; omega⟩
/-! ## formed, QueryOf -/
theorem okC_ref (c : Nat) (h : c < 256) : pkb (pkb (pkb (pkb (pkb (letterR c) true (digitR c)) true (decide ((c : Int) = 42))) true (decide ((c : Int) = 45))) true (decide ((c : Int) = 46))) true (decide ((c : Int) = 95)) = (letterR c || digitR c || decide (c = 42 ∨ c = 45 ∨ c = 46 ∨ c = 95)) := by
  have e : ∀ n : Nat, decide ((c : Int) = (n : Int)) = decide (c = n) := fun n => decide_eq_decide.2 (by omega)
  have e1 := e 42
  have e2 := e 45
  have e3 := e 46
  have e4 := e 95
  simp only [pkb_or]
  rw [show decide ((c : Int) = 42) = decide (c = 42) from e1, show decide ((c : Int) = 45) = decide (c = 45) from e2, show decide ((c : Int) = 46) = decide (c = 46) from e3, show decide ((c : Int) = 95) = decide (c = 95) from e4]
  rw [Bool.eq_iff_iff]
  simp only [Bool.or_eq_true, decide_eq_true_eq, or_assoc]
theorem formC_32 : formC 32 = [43] := by decide
set_option maxHeartbeats 4000000 in
theorem formed_ok (l : List UInt8) (hb : l.length ≤ 16777216) (w : World) : PureC Tryd.prog 58 #[str l] w (str (formR l)) := by
  refine enter (l := [str l]) Tryd.func58 rfl Tryd.ntmps58 (by kernel_rfl) rfl ?_
  refine sgo ?_
  refine wlpure (refMend_ok l (by omega) _) fun w1 hf1 => ?_
  have hml := mendR_len l
  unfold formR
  generalize mendR l = t at *
  refine sgo ?_
  refine wcloop (X := Nat) (fun i => [(0, str t), (3, str (formL (t.take i))), (10, int t.length), (11, int i)])
    (fun i wr => i ≤ t.length ∧ Frm w wr) (fun i => t.length - i) 0 ⟨rfl, rfl, rfl, rfl, trivial⟩ ⟨Nat.zero_le _, hf1⟩ ?_
  clear hf1
  rintro i wr ρ ⟨hil, hfr⟩
  have hfl := formL_len (t.take i)
  rw [List.length_take] at hfl
  refine sgo ?_
  (show WC _ _ _ _ _ _ _; first | refine WC_dec rfl (fun hc => ?_) (fun hc => ?_) | refine WC_cond rfl (fun hc => ?_) (fun hc => ?_))
  · have hlt : i < t.length := by omega
    clear hc
    obtain ⟨ch, hx⟩ : ∃ ch, t[i]? = some ch := ⟨_, List.getElem?_eq_getElem hlt⟩
    have hsn := formL_snoc hx
    have h256 : ch.toNat < 256 := ch.toNat_lt
    have hg : (t[i]?.getD 0).toNat = ch.toNat := by rw [hx]; rfl
    have hof : [ch] = [UInt8.ofNat ch.toNat] := by simp
    have htk : (t.drop i).take 1 = [ch] := by rw [drop_at hx]; rfl
    rw [hof] at htk
    generalize formL (t.take i) = s at *
    generalize ch.toNat = c at *
    have hr := okC_ref c h256
    have e1 := digs_at (c / 16) (by omega)
    have e2 := digs_at (c % 16) (by omega)
    refine sgo ?_
    simp only [hg]
    by_cases h32 : c = 32
    · subst h32
      rw [formC_32] at hsn
      refine wcyes ?_ (ht := by rfl)
      refine sgo ?_
      refine ⟨i + 1, ⟨rfl, ?_, rfl, rfl, trivial⟩, ⟨hlt, hfr⟩, by omega⟩
      rw [hsn]
      rfl
    · have h32' : ¬ (c : Int) = 32 := by omega
      refine wcno ?_ (ht := decide_eq_false h32')
      refine sgo ?_
      refine wlpure (letter4_ok c _) fun w3 hf3 => ?_
      replace hfr := hfr.trans hf3
      refine sgo ?_
      refine wlcallgp (vals := [i32 c]) (fun _ => digit4_ok c _) fun w4 hf4 => ?_
      replace hfr := hfr.trans hf4
      refine sgo ?_
      rw [hr]
      unfold formC at hsn
      cases hb2 : (letterR c || digitR c || decide (c = 42 ∨ c = 45 ∨ c = 46 ∨ c = 95)) with
      | true =>
        rw [hb2, if_pos rfl] at hsn
        refine sgo ?_
        refine ⟨i + 1, ⟨rfl, ?_, rfl, rfl, trivial⟩, ⟨hlt, hfr⟩, by omega⟩
        show str _ = str _
        have e : List.take (((i : Int) + 1).toNat - (i : Int).toNat) (t.drop (i : Int).toNat) = [UInt8.ofNat c] := by
          rw [show ((i : Int) + 1).toNat - (i : Int).toNat = 1 by omega, Int.toNat_natCast]
          exact htk
        rw [hsn, e]
      | false =>
        rw [hb2, if_neg Bool.false_ne_true, if_neg h32] at hsn
        refine sgo ?_
        refine wcdraw ?_
        refine qgo ?_
        refine ql ?_ (YQ.ofY fun wq hwq => y_quo rfl rfl ⟨by omega, by decide, show (c : Int) ≤ 255 by omega⟩)
        refine qgo ?_
        refine ql ?_ (YQ.ofY fun wq hwq => y_quo rfl rfl ⟨by omega, by decide, show (c : Int) ≤ 255 by omega⟩)
        refine qgo ?_
        refine ql ?_ (YQ.ofY fun wq hwq => y_dig (c / 16) (by omega) (a := (c : Int) / 16) (b := (c : Int) / 16 + 1) (by omega) (by omega) rfl rfl rfl)
        refine qgo ?_
        refine ql ?_ (YQ.ofY fun wq hwq => y_dig (c % 16) (by omega) (a := (c : Int) % 16) (b := (c : Int) % 16 + 1) (by omega) (by omega) rfl rfl rfl)
        refine qgo ?_
        refine QL_nil ?_
        intro wd hwd
        replace hfr := hfr.trans hwd
        refine sgo ?_
        refine ⟨i + 1, ⟨rfl, ?_, rfl, rfl, trivial⟩, ⟨hlt, hfr⟩, by omega⟩
        rw [hsn]
        rfl
  · obtain rfl : i = t.length := by omega
    rw [List.take_length]
    refine sgo ?_
    (first | refine fp1 (.inl rfl) rfl rfl ?_ | refine fp2 (.inl rfl) rfl rfl rfl ?_ | refine fp3 (.inl rfl) rfl rfl rfl rfl ?_ | refine fp0 (.inr rfl) rfl ?_ | refine fp0 (.inl rfl) rfl ?_ | refine fp1 (.inr rfl) rfl rfl ?_); refine ⟨?_, by (first | exact Frm.refl _ | assumption | exact Go.Sv.Sep.frm (by assumption) | (refine Frm.trans ?_ (by assumption); first | exact Frm.refl _ | assumption))⟩; (try simp only [realB, rv_true, Nat.reduceBEq, cond_true, cond_false, entG, real_lif, updGL])
set_option maxHeartbeats 4000000 in
theorem queryOf_ok (l : List At) (p : Option Addr) (c : Nat) (hw : atw l ≤ 1048576) (w : World) (hi : Im [] w p (l.flatMap At.cells)) :
    PureC Tryd.prog 25 #[.slice p l.length c] w (str (joinR [38] (l.map pairW))) := by
  have hs : ∀ a ∈ l, a.small := fun a ha => by
    have h1 := sum_mem At.wt l ha
    have h2 : At.wt a = a.n.length + a.v.length + 3 := rfl
    unfold atw at hw
    exact ⟨by omega, by omega⟩
  have hn : l.length ≤ 1048576 := by
    have := sum_len At.wt l (by intro x _; unfold At.wt; omega)
    unfold atw at hw; omega
  have hjt : ∀ i, (joinR [38] ((l.take i).map pairW)).length ≤ 26214400 := fun i => by
    have h1 := join_pairs (l.take i) fun a ha => hs a (List.mem_of_mem_take ha)
    have h2 : atw (l.take i) ≤ atw l := sum_take At.wt l i
    omega
  have hS := Sep.start w
  refine enter (l := [.slice p l.length c]) Tryd.func25 rfl Tryd.ntmps25 (by kernel_rfl) rfl ?_
  refine sgo ?_
  refine wcloop (X := Nat) (fun i => [(3, str (joinR [38] ((l.take i).map pairW))), (6, .slice p l.length c), (7, int l.length), (8, int i)])
    (fun i wr => i ≤ l.length ∧ Frm w wr) (fun i => l.length - i) 0 ⟨rfl, rfl, rfl, rfl, trivial⟩ ⟨Nat.zero_le _, hS.frm⟩ ?_
  clear hS
  rintro i wr ρ ⟨hil, hfr⟩
  have hS := (Sep.start w).grow hfr
  have hjl := hjt i
  have hjn := hjt (i + 1)
  refine sgo ?_
  (show WC _ _ _ _ _ _ _; first | refine WC_dec rfl (fun hc => ?_) (fun hc => ?_) | refine WC_cond rfl (fun hc => ?_) (fun hc => ?_))
  · have hlt : i < l.length := by omega
    clear hc
    have hSg := (hi.frm hS.frm).sg
    have hx : l[i]? = some l[i] := List.getElem?_eq_getElem hlt
    have hseg := fm_seg At.len l hx
    have hfl := fm_len At.len l
    have hps : ∃ q, p = some q := hSg.some (by omega)
    have hsm := hs l[i] (List.getElem_mem hlt)
    have hpl := pairW_len _ hsm
    have hjs : joinR [38] ((l.take (i + 1)).map pairW) = joinR [38] ((l.take i).map pairW) ++ (if i = 0 then [] else [38]) ++ pairW l[i] := by
      rw [List.map_take, List.map_take]
      exact join_take (by rw [List.getElem?_map, hx]; rfl)
    generalize l[i] = x at *
    obtain ⟨n, v⟩ := x
    have hz1 := hsm.1
    have hz2 := hsm.2
    dsimp only at hz1 hz2 hpl
    generalize joinR [38] ((l.take i).map pairW) = s at *
    refine sgo ?_
    rw [hseg]
    refine salloc hS fun b5 w6 hS => ?_
    refine sgo ?_
    refine ssta (vs := [str n, str v]) hS 0 fun w7 hS => ?_
    replace hS : Sep w w7 [pOwn b5 [str n, str v]] := hS
    clear hseg hSg
    have hf1 : (formR n).length ≤ 20000000 := by have := formL_len (mendR n); have := mendR_len n; unfold formR; omega
    have hf2 : (formR v).length ≤ 20000000 := by have := formL_len (mendR v); have := mendR_len v; unfold formR; omega
    refine sgo ?_
    refine wcutt (X := Unit) (fun _ => [(3, str (s ++ if i = 0 then [] else [38])), (5, ptrAt (pb b5) 0), (6, .slice p l.length c), (7, int l.length), (8, int i)]) (fun _ w' => Sep w w' [pOwn b5 [str n, str v]]) ?_ ?_
    · by_cases h0 : i = 0
      · rw [if_pos h0]
        refine wcno ?_ (ht := by simp [h0])
        refine sgo ?_
        exact ⟨(), ⟨(show str _ = str _ from by simp), rfl, rfl, rfl, rfl, trivial⟩, hS⟩
      · rw [if_neg h0]
        refine wcyes ?_ (ht := by simp; omega)
        refine sgo ?_
        exact ⟨(), ⟨rfl, rfl, rfl, rfl, rfl, trivial⟩, hS⟩
    clear hS
    rintro _ w8 ρ2 hS
    have hsl : (s ++ if i = 0 then [] else [38]).length ≤ 26214401 := by
      rw [List.length_append]
      split
      · simp; omega
      · simp; omega
    generalize (s ++ if i = 0 then [] else [38]) = s2 at *
    refine sgo ?_
    (first | refine WC_seq ?_ | skip); refine wcdraw ?_
    refine qgo ?_
    refine qlcallp (fun w _ => formed_ok n (by omega) w) ?_
    refine qgo ?_
    refine qlcallp (fun w _ => formed_ok v (by omega) w) ?_
    refine qgo ?_
    refine QL_nil ?_; intro wd hwd
    replace hS := hS.grow hwd
    refine sgo ?_
    refine ⟨i + 1, ⟨?_, rfl, rfl, rfl, trivial⟩, ⟨hlt, hS.frm⟩, by omega⟩
    show str _ = str _
    refine congrArg (fun l => str l) ?_
    rw [hjs]
    simp [pairW]
  · obtain rfl : i = l.length := by omega
    rw [List.take_length]
    refine sgo ?_
    (first | refine fp1 (.inl rfl) rfl rfl ?_ | refine fp2 (.inl rfl) rfl rfl rfl ?_ | refine fp3 (.inl rfl) rfl rfl rfl rfl ?_ | refine fp0 (.inr rfl) rfl ?_ | refine fp0 (.inl rfl) rfl ?_ | refine fp1 (.inr rfl) rfl rfl ?_); refine ⟨?_, by (first | exact Frm.refl _ | assumption | exact Go.Sv.Sep.frm (by assumption) | (refine Frm.trans ?_ (by assumption); first | exact Frm.refl _ | assumption))⟩; (try simp only [realB, rv_true, Nat.reduceBEq, cond_true, cond_false, entG, real_lif, updGL])
end Go.Proofs.YtffaoehhhdcjjaaDoor

/-
  Package sievelaw12: the document's examples.
-/
set_option linter.unusedSimpArgs false
set_option linter.unusedVariables false
set_option linter.unnecessarySimpa false
namespace Go.Proofs.YtffaoehhhdcjjaaDoor
open Go Go.Sv Go.RowKit

theorem aw1 : lowR ((stripR [32, 74, 97, 86, 97, 9, 115, 99, 114, 105, 112, 116, 58, 120]).take (schemeR (stripR [32, 74, 97, 86, 97, 9, 115, 99, 114, 105, 112, 116, 58, 120])).1) = [106, 97, 118, 97, 115, 99, 114, 105, 112, 116] := by decide +kernel
theorem aw2 : (schemeR (stripR [32, 74, 97, 86, 97, 9, 115, 99, 114, 105, 112, 116, 58, 120])).2 = true := by decide +kernel
theorem aw3 : encodeR [97, 32, 98, 37, 50, 103, 34, 195, 169] = [97, 37, 50, 48, 98, 37, 50, 53, 50, 103, 37, 50, 50, 37, 67, 51, 37, 65, 57] := by decide +kernel
theorem aw4 : dotsL (mendR [47, 97, 47, 98, 47, 99, 47, 46, 47, 46, 46, 47, 46, 46, 47, 103]) [] = [47, 97, 47, 103] := by decide +kernel
theorem awake_ok (w : World) : PureC Tryd.prog 16 #[] w (.bool true) := by
  refine enter (l := []) Tryd.func16 rfl Tryd.ntmps16 (by kernel_rfl) rfl ?_
  refine sgo ?_
  refine wlpure (scheme2_ok [32, 74, 97, 86, 97, 9, 115, 99, 114, 105, 112, 116, 58, 120] (by decide) _) fun w1 hf1 => ?_
  rw [aw1, aw2]
  refine sgo ?_
  refine wlcallgp (vals := [str [97, 32, 98, 37, 50, 103, 34, 195, 169]]) (fun _ => encode_ok [97, 32, 98, 37, 50, 103, 34, 195, 169] (by decide) _) fun w2 hf2 => ?_
  rw [aw3]
  have hf2' := hf1.trans hf2
  refine sgo ?_
  refine wlcallgp (vals := [str [47, 97, 47, 98, 47, 99, 47, 46, 47, 46, 46, 47, 46, 46, 47, 103]]) (fun _ => dots_ok [47, 97, 47, 98, 47, 99, 47, 46, 47, 46, 46, 47, 46, 46, 47, 103] (by decide) _) fun w3 hf3 => ?_
  rw [aw4]
  have hf3' := hf2'.trans hf3
  refine sgo ?_
  (first | refine fp1 (.inl rfl) rfl rfl ?_ | refine fp2 (.inl rfl) rfl rfl rfl ?_ | refine fp3 (.inl rfl) rfl rfl rfl rfl ?_ | refine fp0 (.inr rfl) rfl ?_ | refine fp0 (.inl rfl) rfl ?_ | refine fp1 (.inr rfl) rfl rfl ?_); refine ⟨?_, by (first | exact Frm.refl _ | assumption | exact Go.Sv.Sep.frm (by assumption) | (refine Frm.trans ?_ (by assumption); first | exact Frm.refl _ | assumption))⟩; (try simp only [realB, rv_true, Nat.reduceBEq, cond_true, cond_false, entG, real_lif, updGL])
  rfl
end Go.Proofs.YtffaoehhhdcjjaaDoor

/-
  Package sieveref12: Authority; the law LinkPairs.
-/
set_option linter.unusedSimpArgs false
set_option linter.unusedVariables false
set_option linter.unnecessarySimpa false
namespace Go.Proofs.YtffaoehhhdcjjaaDoor
open Go Go.Sv Go.RowKit

theorem lastF_some {l : List UInt8} {c : Nat} : ∀ {n : Nat} {j : Nat}, lastF l c n = j → at0 l j = c ∧ j < n ∧ ∀ k, j < k → k < n → at0 l k ≠ c
  | 0, j, h => by simp only [lastF] at h; omega
  | n + 1, j, h => by
    simp only [lastF] at h
    split at h
    · rename_i hc
      have : n = j := by omega
      subst this
      exact ⟨hc, by omega, fun k h1 h2 => by omega⟩
    · rename_i hc
      obtain ⟨h1, h2, h3⟩ := lastF_some h
      refine ⟨h1, by omega, fun k hk hk2 => ?_⟩
      by_cases e : k = n
      · subst e; exact hc
      · exact h3 k hk (by omega)
theorem lastF_at {l : List UInt8} {c j : Nat} : ∀ {n : Nat}, at0 l j = c → j < n → (∀ k, j < k → k < n → at0 l k ≠ c) → lastF l c n = j
  | 0, _, h, _ => by omega
  | n + 1, h1, h2, h3 => by
    simp only [lastF]
    by_cases e : j = n
    · subst e
      rw [if_pos h1]
    · rw [if_neg (h3 n (by omega) (by omega))]
      exact lastF_at h1 (by omega) fun k hk hk2 => h3 k hk (by omega)
theorem all_drop {l : List UInt8} {n : Nat} (h : (l.drop n).all (fun c => digitR c.toNat) = true) {k : Nat} (hk : n ≤ k) (hl : k < l.length) : digitR (at0 l k) = true := by
  have e : (l.drop n)[k - n]? = some l[k] := by rw [List.getElem?_drop, show n + (k - n) = k by omega, List.getElem?_eq_getElem hl]
  have := List.all_eq_true.1 h l[k] (List.mem_of_getElem? e)
  simp only [at0, List.getElem?_eq_getElem hl, Option.getD_some]
  exact this
/-- the port of a text, by the digits at its end -/
theorem port_tail {l : List UInt8} {n : Nat} (hn : n ≤ l.length) (hd : (l.drop n).all (fun c => digitR c.toNat) = true) (hs : 0 < n → digitR (at0 l (n - 1)) = false) :
    portR l = if 0 < n ∧ at0 l (n - 1) = 58 then (l.take (n - 1), l.drop n) else (l, []) := by
  have h58 : digitR 58 = false := by decide
  unfold portR
  by_cases h : 0 < n ∧ at0 l (n - 1) = 58
  · obtain ⟨h0, h1⟩ := h
    have hL : lastR l 58 = ((n - 1 : Nat) : Int) := lastF_at h1 (by omega) fun k hk hk2 e => by
      have := all_drop hd (show n ≤ k by omega) hk2
      rw [e, h58] at this
      cases this
    rw [hL, Int.toNat_natCast, show n - 1 + 1 = n by omega, if_pos ⟨by omega, hd⟩, if_pos ⟨h0, h1⟩]
  · rw [if_neg h, if_neg]
    rintro ⟨h1, h2⟩
    obtain ⟨j, hj⟩ := Int.eq_ofNat_of_zero_le h1
    obtain ⟨k1, k2, k3⟩ := lastF_some hj
    rw [hj, Int.toNat_natCast] at h2
    rcases Nat.lt_or_ge j n with hjn | hjn
    · by_cases e : j = n - 1
      · exact h ⟨by omega, by rw [← e]; exact k1⟩
      · have := all_drop h2 (show j + 1 ≤ n - 1 by omega) (by omega)
        rw [hs (by omega)] at this
        cases this
    · have := all_drop hd hjn k2
      rw [k1, h58] at this
      cases this
theorem tail_step {l : List UInt8} {n : Nat} (hn : n + 1 ≤ l.length) (hd : (l.drop (n + 1)).all (fun c => digitR c.toNat) = true) (h : digitR (at0 l n) = true) : (l.drop n).all (fun c => digitR c.toNat) = true := by
  rw [List.drop_eq_getElem_cons (by omega), List.all_cons, hd, Bool.and_true]
  simpa [at0, show n < l.length by omega] using h
set_option maxHeartbeats 4000000 in
theorem refAuthority_ok (l : List UInt8) (hb : l.length ≤ 16777216) (w : World) : PureC Tryd.prog 23 #[str l] w (authV (mendR l)) := by
  refine enter (l := [str l]) Tryd.func23 rfl Tryd.ntmps23 (by kernel_rfl) rfl ?_
  refine sgo ?_
  refine wlpure (refMend_ok l (by omega) _) fun w1 hf1 => ?_
  have hml := mendR_len l
  generalize mendR l = h at *
  have hul := userR_len h
  refine sgo ?_
  refine wcutj (X := Unit) (fun _ => [(0, str (userR h).2), (5, str (userR h).1)]) (fun _ w' => Frm w w') ?_ ?_
  · refine wcloop (X := Nat) (fun k => [(0, str h), (5, str []), (6, int ((k : Int) - 1))])
      (fun k wr => k ≤ h.length ∧ lastF h 64 k = lastR h 64 ∧ Frm w wr) (fun k => k) h.length ⟨rfl, rfl, rfl, trivial⟩ ⟨Nat.le_refl _, rfl, hf1⟩ ?_
    clear hf1
    rintro k wr ρ ⟨hk, he, hfr⟩
    refine sgo ?_
    (show WC _ _ _ _ _ _ _; first | refine WC_dec rfl (fun hc => ?_) (fun hc => ?_) | refine WC_cond rfl (fun hc => ?_) (fun hc => ?_))
    · obtain ⟨j, rfl⟩ : ∃ j, k = j + 1 := ⟨k - 1, by omega⟩
      clear hc
      simp only [lastF] at he
      refine sgo ?_
      have e : (((j + 1 : Nat) : Int) - 1).toNat = j := by omega
      rw [e]
      by_cases h64 : at0 h j = 64
      · rw [if_pos h64] at he
        have hu : userR h = (h.take j, h.drop (j + 1)) := by
          unfold userR
          rw [← he, if_pos (by omega), Int.toNat_natCast]
        refine wcyes ?_ (ht := by simp only [at0] at h64; rw [h64]; rfl)
        rw [hu]
        have e2 : ((j + 1 : Nat) : Int) - 1 = (j : Int) := by omega
        rw [e2]
        refine sgo ?_
        refine wcdraw ?_
        refine qgo ?_
        refine QL_nil ?_
        intro w5 hf5
        refine thn_normal ?_
        refine sgo ?_
        exact ⟨(), ⟨rfl, rfl, trivial⟩, hfr.trans hf5⟩
      · rw [if_neg h64] at he
        refine wcno ?_ (ht := by simp only [at0] at h64; exact decide_eq_false (by omega))
        refine sgo ?_
        exact ⟨j, ⟨rfl, rfl, congrArg (fun n : Int => int (n - 1)) (by omega), trivial⟩, ⟨by omega, he, hfr⟩, by omega⟩
    · obtain rfl : k = 0 := by omega
      have hu : userR h = ([], h) := by
        unfold userR
        rw [← he, lastF, if_neg (by decide)]
      rw [hu]
      refine sgo ?_
      exact ⟨(), ⟨rfl, rfl, trivial⟩, hfr⟩
  clear hf1
  rintro _ w3 ρ hf1
  unfold authV
  generalize userR h = U at *
  obtain ⟨u, r⟩ := U
  dsimp only at hul ⊢
  refine sgo ?_
  refine wcutj (X := Nat) (fun n => [(0, str r), (5, str u), (7, int n)]) (fun n w' => n ≤ r.length ∧ (r.drop n).all (fun c => digitR c.toNat) = true ∧ (0 < n → digitR (at0 r (n - 1)) = false) ∧ Frm w w') ?_ ?_
  · refine wcloop (X := Nat) (fun n => [(0, str r), (5, str u), (7, int n)])
      (fun n wr => n ≤ r.length ∧ (r.drop n).all (fun c => digitR c.toNat) = true ∧ Frm w wr) (fun n => n) r.length ⟨rfl, rfl, rfl, trivial⟩ ⟨Nat.le_refl _, by rw [List.drop_length]; rfl, hf1⟩ ?_
    clear hf1
    rintro n wr ρ2 ⟨hn, hd, hfr⟩
    refine sgo ?_
    refine wlcallgp (vals := [i32 (r[((n : Int) - 1).toNat]?.getD 0).toNat]) (fun _ => digit4_ok _ _) fun w4 hf4 => ?_
    replace hfr := hfr.trans hf4
    clear hf4
    refine sgo ?_
    cases n with
    | zero =>
      refine wcno ?_ (ht := by rfl)
      refine sgo ?_
      exact ⟨0, ⟨rfl, rfl, rfl, trivial⟩, Nat.zero_le _, hd, fun h => absurd h (Nat.lt_irrefl 0), hfr⟩
    | succ n =>
      have h1 : decide (0 < ((n + 1 : Nat) : Int)) = true := decide_eq_true (by omega)
      have e : (((n + 1 : Nat) : Int) - 1).toNat = n := by omega
      rw [e]
      have ea : (r[n]?.getD 0).toNat = at0 r n := rfl
      rw [ea]
      cases hdg : digitR (at0 r n) with
      | true =>
        refine wcyes ?_ (ht := by rw [h1]; rfl)
        refine sgo ?_
        exact ⟨n, ⟨rfl, rfl, congrArg int (by omega), trivial⟩, ⟨by omega, tail_step hn hd hdg, hfr⟩, by omega⟩
      | false =>
        refine wcno ?_ (ht := by rw [h1]; rfl)
        refine sgo ?_
        exact ⟨n + 1, ⟨rfl, rfl, rfl, trivial⟩, hn, hd, fun _ => hdg, hfr⟩
  clear hf1
  rintro n w6 ρ4 ⟨hn, hd, hs, hf1⟩
  have hp := port_tail hn hd hs
  rw [hp]
  clear hp hs hd
  refine sgo ?_
  by_cases hc : 0 < n ∧ at0 r (n - 1) = 58
  · rw [if_pos hc]
    obtain ⟨c1, c2⟩ := hc
    have e : ((n : Int) - 1).toNat = n - 1 := by omega
    have e2 : (r[((n : Int) - 1).toNat]?.getD 0).toNat = 58 := by rw [e]; exact c2
    refine wcyes ?_ (ht := by rw [e2, decide_eq_true (by omega)]; rfl)
    refine sgo ?_
    refine wcdraw ?_
    refine qgo ?_
    refine QL_nil ?_
    intro w7 hf7
    replace hf1 := hf1.trans hf7
    refine thn_normal ?_
    refine sgo ?_
    (first | refine fp1 (.inl rfl) rfl rfl ?_ | refine fp2 (.inl rfl) rfl rfl rfl ?_ | refine fp3 (.inl rfl) rfl rfl rfl rfl ?_ | refine fp0 (.inr rfl) rfl ?_ | refine fp0 (.inl rfl) rfl ?_ | refine fp1 (.inr rfl) rfl rfl ?_); refine ⟨?_, by (first | exact Frm.refl _ | assumption | exact Go.Sv.Sep.frm (by assumption) | (refine Frm.trans ?_ (by assumption); first | exact Frm.refl _ | assumption))⟩; (try simp only [realB, rv_true, Nat.reduceBEq, cond_true, cond_false, entG, real_lif, updGL])
    rw [e]
  · rw [if_neg hc]
    refine wcno ?_ (ht := by
      by_cases c1 : 0 < n
      · have e : ((n : Int) - 1).toNat = n - 1 := by omega
        have e2 : ¬ (r[((n : Int) - 1).toNat]?.getD 0).toNat = 58 := by rw [e]; exact fun h => hc ⟨c1, h⟩
        rw [decide_eq_true (show (0 : Int) < n by omega), decide_eq_false (show ¬ ((r[((n : Int) - 1).toNat]?.getD 0).toNat : Int) = 58 by omega)]
        rfl
      · rw [decide_eq_false (show ¬ (0 : Int) < n by omega)]
        rfl)
    refine sgo ?_
    (first | refine fp1 (.inl rfl) rfl rfl ?_ | refine fp2 (.inl rfl) rfl rfl rfl ?_ | refine fp3 (.inl rfl) rfl rfl rfl rfl ?_ | refine fp0 (.inr rfl) rfl ?_ | refine fp0 (.inl rfl) rfl ?_ | refine fp1 (.inr rfl) rfl rfl ?_); refine ⟨?_, by (first | exact Frm.refl _ | assumption | exact Go.Sv.Sep.frm (by assumption) | (refine Frm.trans ?_ (by assumption); first | exact Frm.refl _ | assumption))⟩; (try simp only [realB, rv_true, Nat.reduceBEq, cond_true, cond_false, entG, real_lif, updGL])
    all_goals rfl
end Go.Proofs.YtffaoehhhdcjjaaDoor

/-
  Structs of texts, numbers and bools compared.
-/
set_option linter.unusedSimpArgs false
set_option linter.unusedVariables false
set_option linter.unnecessarySimpa false
namespace Go.Sv
open Go Go.RowKit
def plainB (P : Program) : List Field → Nat → List TypeDesc → Bool
  | [], _, [] => true
  | f :: fs, k, d :: ds => (f.name != "_") && (f.offset == k) && (match P.underlying f.type, d with
    | some .string, .string => true
    | some .bool, .bool => true
    | some (.int a), .int b => kEq a b
    | _, _ => false) && plainB P fs (k + 1) ds
  | _, _, _ => false
/-- a struct whose fields are one cell each: texts, bools, numbers -/
class PlainS (P : Program) (t : TypeId) (ds : outParam (List TypeDesc)) : Prop where
  ok : ∃ fs, P.underlying t = some (.struct fs) ∧ plainB P fs.toList 0 ds = true ∧ P.stoodInHeld t = false ∧ P.eqGuardType P.depth t = false
/-- are two structs the same? -/
def eqL : List TypeDesc → List Value → List Value → Option Bool
  | [], [], [] => some true
  | .string :: ds, .string ⟨⟨a⟩⟩ :: xs, .string ⟨⟨b⟩⟩ :: ys => match eqL ds xs ys with | some r => some (decide (a = b) && r) | none => none
  | .bool :: ds, .bool a :: xs, .bool b :: ys => match eqL ds xs ys with | some r => some (decide (a = b) && r) | none => none
  | .int k :: ds, .int k1 a :: xs, .int k2 b :: ys => match kEq k k1, kEq k k2, eqL ds xs ys with | true, true, some r => some (decide (a = b) && r) | _, _, _ => none
  | _, _, _ => none
section
variable {P : Program} {w : World}
theorem run_part {t : TypeId} {d : TypeDesc} (hu : P.underlying t = some d) (hd : (match d with | .struct _ | .array _ _ => true | _ => false) = false) {cs : Array Value} {off : Nat} {v : Value} (hv : cs[off]? = some v) : (part t cs off).run P w = .ok v w := by
  have hi : (isAgg t).run P w = .ok false w := by
    simp only [isAgg, underlying, Sem.run_bind, run_program, Result.andThen_ok, hu, Sem.run_pure]
    rw [← hd]
    cases d <;> rfl
  simp [part, hi, hv]
theorem str_beq (a b : List UInt8) : ((ByteArray.mk ⟨a⟩).toList == (ByteArray.mk ⟨b⟩).toList) = decide (a = b) := by
  rw [ByteArray.toList_eq, ByteArray.toList_eq]
  exact lbeq a b
theorem eqFields_plain (d : Nat) (X Y : Array Value) : ∀ (fs : List Field) (k : Nat) (ds : List TypeDesc) (xs ys : List Value) (r : Bool), plainB P fs k ds = true → X.toList.drop k = xs → Y.toList.drop k = ys → eqL ds xs ys = some r →
    (Op.eqFields (d + 1) X Y fs).run P w = .ok r w := by
  intro fs
  induction fs with
  | nil =>
    intro k ds xs ys r hp hX hY he
    cases ds with
    | nil =>
      cases xs <;> cases ys <;> simp [eqL] at he
      subst he; rfl
    | cons d ds => simp [plainB] at hp
  | cons f fs ih =>
    intro k ds xs ys r hp hX hY he
    cases ds with
    | nil => simp [plainB] at hp
    | cons d0 ds =>
      simp only [plainB, Bool.and_eq_true] at hp
      obtain ⟨⟨⟨hn, ho⟩, ht⟩, hp⟩ := hp
      have hn' : f.name ≠ "_" := by simpa using hn
      have ho' : f.offset = k := by simpa using ho
      have tailX : ∀ v l, xs = v :: l → X[k]? = some v ∧ X.toList.drop (k + 1) = l := by
        intro v l h
        rw [h] at hX
        have h1 : X.toList[k]? = some v := by
          have := congrArg (·[0]?) hX
          simpa using this
        refine ⟨by simpa using h1, ?_⟩
        have := congrArg (List.drop 1) hX
        simpa [Nat.add_comm] using this
      have tailY : ∀ v l, ys = v :: l → Y[k]? = some v ∧ Y.toList.drop (k + 1) = l := by
        intro v l h
        rw [h] at hY
        have h1 : Y.toList[k]? = some v := by
          have := congrArg (·[0]?) hY
          simpa using this
        refine ⟨by simpa using h1, ?_⟩
        have := congrArg (List.drop 1) hY
        simpa [Nat.add_comm] using this
      simp only [Op.eqFields, if_pos hn', ho']
      unfold eqL at he
      split at he
      · contradiction
      · rename_i ds' a xs' b ys' hq
        injection hq with q1 q2
        subst q1 q2
        obtain ⟨x1, x2⟩ := tailX _ _ rfl
        obtain ⟨y1, y2⟩ := tailY _ _ rfl
        have hu : P.underlying f.type = some .string := by
          revert ht
          cases P.underlying f.type with
          | none => intro h; cases h
          | some u => cases u <;> intro h <;> first | rfl | cases h
        split at he
        · rename_i r' hr'
          obtain rfl := Option.some.inj he
          have := ih (k + 1) _ xs' ys' r' hp x2 y2 hr'
          simp only [Sem.run_bind, run_part hu rfl x1, run_part hu rfl y1, Result.andThen_ok, run_equalIn_string w d f.type _ _ hu, str_beq]
          cases decide (a = b) <;> simp [this]
        · cases he
      · rename_i ds' a xs' b ys' hq
        injection hq with q1 q2
        subst q1 q2
        obtain ⟨x1, x2⟩ := tailX _ _ rfl
        obtain ⟨y1, y2⟩ := tailY _ _ rfl
        have hu : P.underlying f.type = some .bool := by
          revert ht
          cases P.underlying f.type with
          | none => intro h; cases h
          | some u => cases u <;> intro h <;> first | rfl | cases h
        split at he
        · rename_i r' hr'
          obtain rfl := Option.some.inj he
          have := ih (k + 1) _ xs' ys' r' hp x2 y2 hr'
          have hbb : (a == b) = decide (a = b) := by cases a <;> cases b <;> rfl
          simp only [Sem.run_bind, run_part hu rfl x1, run_part hu rfl y1, Result.andThen_ok, run_equalIn_bool' w d f.type _ _ hu, hbb]
          cases decide (a = b) <;> simp [this]
        · cases he
      · rename_i kk ds' k1 a xs' k2 b ys' hq
        injection hq with q1 q2
        subst q1 q2
        obtain ⟨x1, x2⟩ := tailX _ _ rfl
        obtain ⟨y1, y2⟩ := tailY _ _ rfl
        split at he
        · rename_i r' e1 e2 hr'
          obtain rfl := Option.some.inj he
          obtain rfl := kEq_eq e1
          obtain rfl := kEq_eq e2
          have hu : P.underlying f.type = some (.int kk) := by
            revert ht
            cases P.underlying f.type with
            | none => intro h; cases h
            | some u => cases u <;> intro h <;> first | (rw [kEq_eq h]) | cases h
          have := ih (k + 1) _ xs' ys' r' hp x2 y2 hr'
          have hbb : (a == b) = decide (a = b) := by by_cases e : a = b <;> simp [e]
          simp only [Sem.run_bind, run_part hu rfl x1, run_part hu rfl y1, Result.andThen_ok, run_equalIn_int w d f.type _ _ _ _ hu, hbb]
          cases decide (a = b) <;> simp [this]
        · cases he
      · cases he
variable {σ : Env} {d : Option Tmp} {ty t t' : TypeId} {pos : String} {af : Array Edge} {g : Option (Nat × Bool)} {x y : Operand} {ds : List TypeDesc} {xs ys : List Value} {r : Bool}
theorem run_eqS [h : PlainS P t ds] (he : eqL ds xs ys = some r) (k : Nat) : (Op.equalIn (k + 2) t (.agg ⟨xs⟩) (.agg ⟨ys⟩)).run P w = .ok r w := by
  obtain ⟨fs, h1, h2, h3, _⟩ := h.ok
  have hf : P.fieldsOf t = fs := by simp [Program.fieldsOf, h1]
  rw [run_equalIn_struct w (k + 1) t _ _ (by rw [hf]; exact h1) h3, hf]
  exact eqFields_plain k ⟨xs⟩ ⟨ys⟩ fs.toList 0 ds xs ys r h2 rfl rfl he
theorem y_aneq [h : PlainS P t ds] (hx : evl σ x = .agg ⟨xs⟩) (hy : evl σ y = .agg ⟨ys⟩) (he : eqL ds xs ys = some r) : Y P σ ⟨d, .binOp .neq t x y t', ty, pos, af, g⟩ w (.bool (!r)) w := by
  obtain ⟨fs, h1, h2, h3, h4⟩ := h.ok
  refine Y.val ?_
  simp only [execOp, hx, hy, Sem.run_bind, run_eqGuard_agg w .neq t x y _ _ h4, Result.andThen_ok, run_neq_struct]
  rw [show (10000 : Nat) = 9998 + 2 from rfl, run_eqS he]
  rfl
end
end Go.Sv

/- This seat's plain structs as instances (made by a program of ours). -/
namespace Go.Proofs.YtffaoehhhdcjjaaDoor
open Go Go.Sv
instance : PlainS Tryd.prog 42 [.string, .string] := ⟨_, Tryd.underlying42, by kernel_rfl, by kernel_rfl, by kernel_rfl⟩
instance : PlainS Tryd.prog 43 [.string, .string] := ⟨_, Tryd.underlying43, by kernel_rfl, by kernel_rfl, by kernel_rfl⟩
instance : PlainS Tryd.prog 53 [.string, .string] := ⟨_, Tryd.underlying53, by kernel_rfl, by kernel_rfl, by kernel_rfl⟩
instance : PlainS Tryd.prog 54 [.string, .string] := ⟨_, Tryd.underlying54, by kernel_rfl, by kernel_rfl, by kernel_rfl⟩
instance : PlainS Tryd.prog 92 [.int .i32, .int .i64, .int .i64, .bool] := ⟨_, Tryd.underlying92, by kernel_rfl, by kernel_rfl, by kernel_rfl⟩
instance : PlainS Tryd.prog 93 [.int .i32, .int .i64, .int .i64, .bool] := ⟨_, Tryd.underlying93, by kernel_rfl, by kernel_rfl, by kernel_rfl⟩
end Go.Proofs.YtffaoehhhdcjjaaDoor

/-
  The law LinkPairs.
-/
set_option linter.unusedSimpArgs false
set_option linter.unusedVariables false
set_option linter.unnecessarySimpa false
namespace Go.Proofs.YtffaoehhhdcjjaaDoor
open Go Go.Sv Go.RowKit

theorem att_at12 {es : List At} {i : Nat} {x : At} (h : es[i]? = some x) : ((es.flatMap At.cells).drop (i * 2)).take 2 = x.cells := fm_seg At.len es h
set_option maxHeartbeats 2000000 in
theorem attrs12_ok (es fs : List At) (p q : Option Addr) (c cc : Nat) (h1 : es.length ≤ 1073741824) (h2 : fs.length ≤ 1073741824) (w : World) (hi : Im [] w p (es.flatMap At.cells)) (hj : Im [] w q (fs.flatMap At.cells)) :
    PureC Tryd.prog 21 #[.slice p es.length c, .slice q fs.length cc] w (.bool (decide (es = fs))) := by
  have hl1 := fm_len At.len es
  have hl2 := fm_len At.len fs
  refine enter (l := [.slice p es.length c, .slice q fs.length cc]) Tryd.func21 rfl Tryd.ntmps21 (by kernel_rfl) rfl ?_
  refine sgo ?_
  (show WC _ _ _ _ _ _ _; first | refine WC_dec rfl (fun hc => ?_) (fun hc => ?_) | refine WC_cond rfl (fun hc => ?_) (fun hc => ?_))
  · have hne : es ≠ fs := by
      intro h
      subst h
      exact hc rfl
    refine sgo ?_
    (first | refine fp1 (.inl rfl) rfl rfl ?_ | refine fp2 (.inl rfl) rfl rfl rfl ?_ | refine fp3 (.inl rfl) rfl rfl rfl rfl ?_ | refine fp0 (.inr rfl) rfl ?_ | refine fp0 (.inl rfl) rfl ?_ | refine fp1 (.inr rfl) rfl rfl ?_); refine ⟨?_, by (first | exact Frm.refl _ | assumption | exact Go.Sv.Sep.frm (by assumption) | (refine Frm.trans ?_ (by assumption); first | exact Frm.refl _ | assumption))⟩; (try simp only [realB, rv_true, Nat.reduceBEq, cond_true, cond_false, entG, real_lif, updGL])
    rw [decide_eq_false hne]
  have hle : es.length = fs.length := by
    have : ¬ ((es.length : Int) ≠ fs.length) := hc
    omega
  clear hc
  refine sgo ?_
  refine wcloop (X := Nat) (fun i => [(0, .slice p es.length c), (1, .slice q fs.length cc), (12, int es.length), (13, int i)])
    (fun i wr => i ≤ es.length ∧ es.take i = fs.take i ∧ Frm w wr) (fun i => es.length - i) 0 ⟨rfl, rfl, rfl, rfl, trivial⟩ ⟨Nat.zero_le _, rfl, Frm.refl _⟩ ?_
  rintro i wr ρ ⟨hil, hpre, hf⟩
  have hir := hi.frm hf
  have hjr := hj.frm hf
  refine sgo ?_
  (show WC _ _ _ _ _ _ _; first | refine WC_dec rfl (fun hc => ?_) (fun hc => ?_) | refine WC_cond rfl (fun hc => ?_) (fun hc => ?_))
  · have hlt : i < es.length := by omega
    have hx : es[i]? = some es[i] := List.getElem?_eq_getElem hlt
    have hy : fs[i]? = some fs[i] := List.getElem?_eq_getElem (by omega)
    have hsx := att_at12 hx
    have hsy := att_at12 hy
    have hpa : ∃ a, p = some a := hi.some (by omega)
    have hpb : ∃ a, q = some a := hj.some (by omega)
    have htx : es.take (i + 1) = es.take i ++ [es[i]] := by rw [List.take_add_one, hx]; rfl
    have hty : fs.take (i + 1) = fs.take i ++ [fs[i]] := by rw [List.take_add_one, hy]; rfl
    generalize es[i] = x at *
    generalize fs[i] = y at *
    clear hc
    refine sgo ?_
    refine wcdraw ?_
    refine qgo ?_
    rw [hsx, hsy]
    refine ql (v := .bool (!(decide (x.n = y.n) && (decide (x.v = y.v) && true)))) ?_ (YQ.ofY fun w _ => y_aneq rfl rfl rfl)
    refine QL_nil ?_
    intro w3 hf3
    replace hf := hf.trans hf3
    obtain ⟨xn, xv⟩ := x
    obtain ⟨yn, yv⟩ := y
    refine sgo ?_
    (show WC _ _ _ _ _ _ _; first | refine WC_dec rfl (fun hc => ?_) (fun hc => ?_) | refine WC_cond rfl (fun hc => ?_) (fun hc => ?_))
    · have hne : es ≠ fs := by
        intro h
        subst h
        rw [hx] at hy
        injection hy with hy
        injection hy with e1 e2
        subst e1 e2
        simp at hc
      refine sgo ?_
      (first | refine fp1 (.inl rfl) rfl rfl ?_ | refine fp2 (.inl rfl) rfl rfl rfl ?_ | refine fp3 (.inl rfl) rfl rfl rfl rfl ?_ | refine fp0 (.inr rfl) rfl ?_ | refine fp0 (.inl rfl) rfl ?_ | refine fp1 (.inr rfl) rfl rfl ?_); refine ⟨?_, by (first | exact Frm.refl _ | assumption | exact Go.Sv.Sep.frm (by assumption) | (refine Frm.trans ?_ (by assumption); first | exact Frm.refl _ | assumption))⟩; (try simp only [realB, rv_true, Nat.reduceBEq, cond_true, cond_false, entG, real_lif, updGL])
      rw [decide_eq_false hne]
    · refine sgo ?_
      refine ⟨i + 1, ⟨rfl, rfl, rfl, rfl, trivial⟩, ⟨hlt, ?_, hf⟩, (by (try dsimp only); omega)⟩
      rw [htx, hty, hpre]
      simp at hc
      rw [hc.1, hc.2]
  · obtain rfl : i = es.length := by omega
    rw [List.take_length, hle, List.take_length] at hpre
    refine sgo ?_
    (first | refine fp1 (.inl rfl) rfl rfl ?_ | refine fp2 (.inl rfl) rfl rfl rfl ?_ | refine fp3 (.inl rfl) rfl rfl rfl rfl ?_ | refine fp0 (.inr rfl) rfl ?_ | refine fp0 (.inl rfl) rfl ?_ | refine fp1 (.inr rfl) rfl rfl ?_); refine ⟨?_, by (first | exact Frm.refl _ | assumption | exact Go.Sv.Sep.frm (by assumption) | (refine Frm.trans ?_ (by assumption); first | exact Frm.refl _ | assumption))⟩; (try simp only [realB, rv_true, Nat.reduceBEq, cond_true, cond_false, entG, real_lif, updGL])
    rw [hpre, decide_eq_true rfl]
theorem pairsR_bnd (q : List UInt8) : (pairsR q).length ≤ 4 * q.length + 1 := by
  have h1 := pairsO_len (spR (mendR q) 38)
  have h2 := spR_bnd (mendR q) 38
  have h3 := mendR_len q
  have hpr : pairsR q = pairsO (spR (mendR q) 38) := rfl
  rw [hpr]
  omega
set_option maxHeartbeats 4000000 in
theorem linkPairs_ok (q h : List UInt8) (l : List At) (p : Option Addr) (c : Nat) (hq : q.length ≤ 1048576) (hh : h.length ≤ 1048576) (hw : (l.map At.wt).sum ≤ 1048576) (w : World) (hi : Im [] w p (l.flatMap At.cells)) (hM : MaxW w) :
    CallsR Tryd.prog 5 #[str q, .slice p l.length c, str h] w fun v w' => v = .bool true ∧ Frm w w' := by
  have hS := Sep.start w
  have hb := pairsR_bnd q
  refine enter (l := [str q, .slice p l.length c, str h]) Tryd.func5 rfl Tryd.ntmps5 (by kernel_rfl) rfl ?_
  refine sgo ?_
  refine wlcall (pairs_ok q (by omega) _ (hM.frm hS.frm)) ?_
  rintro _ w1 ⟨p1, c1, rfl, hS1⟩
  replace hS := hS.seq hS1
  clear hS1
  replace hS : Sep w w1 [pRow 2 p1 (pairsR q).length c1 ((pairsR q).flatMap At.cells)] := hS
  refine sgo ?_
  refine wlcall (pairs_ok q (by omega) _ (hM.frm hS.frm)) ?_
  rintro _ w2 ⟨p2, c2, rfl, hS2⟩
  replace hS := hS.seq hS2
  clear hS2
  replace hS : Sep w w2 [pRow 2 p2 (pairsR q).length c2 ((pairsR q).flatMap At.cells), pRow 2 p1 (pairsR q).length c1 ((pairsR q).flatMap At.cells)] := hS
  refine sgo ?_
  refine wlcall (refPairs_ok q (by omega) _) ?_
  rintro _ w3 ⟨p3, c3, rfl, hS3⟩
  replace hS := hS.seq hS3
  clear hS3
  replace hS : Sep w w3 [pRow 2 p3 (pairsR q).length c3 ((pairsR q).flatMap At.cells), pRow 2 p2 (pairsR q).length c2 ((pairsR q).flatMap At.cells), pRow 2 p1 (pairsR q).length c1 ((pairsR q).flatMap At.cells)] := hS
  generalize pairsR q = es at *
  have hfl := fm_len At.len es
  refine sgo ?_
  refine wlpure (attrs12_ok es es p1 p3 c1 c3 (by omega) (by omega) _ (hS.im 2 rfl) (hS.im 0 rfl)) fun w4 hf4 => ?_
  replace hS := hS.grow hf4
  rw [decide_eq_true rfl]
  refine sgo ?_
  refine wcloop (X := Nat × List Value) (fun x => [(1, .slice p l.length c), (2, str h), (7, .slice p1 es.length c1), (8, .slice p2 es.length c2), (9, .slice p3 es.length c3), (28, int es.length), (29, int x.1)])
    (fun x wr => x.1 ≤ es.length ∧ Sep w wr [pRow 2 p3 es.length c3 (es.flatMap At.cells), pRow 2 p2 es.length c2 (es.flatMap At.cells), pRow 2 p1 es.length c1 x.2]) (fun x => es.length - x.1) (0, es.flatMap At.cells) ⟨rfl, rfl, rfl, rfl, rfl, rfl, rfl, trivial⟩ ⟨Nat.zero_le _, hS⟩ ?_
  clear hS
  rintro ⟨i, ys⟩ wr ρ ⟨hil, hS⟩
  dsimp only at hil hS ⊢
  refine sgo ?_
  (show WC _ _ _ _ _ _ _; first | refine WC_dec rfl (fun hc => ?_) (fun hc => ?_) | refine WC_cond rfl (fun hc => ?_) (fun hc => ?_))
  · have hlt : i < es.length := by omega
    clear hc
    have hyl : ys.length = es.length * 2 := Row.len (hS.row 2 rfl)
    have hps : ∃ a, p1 = some a := (hS.row 2 rfl).sg.some (by omega)
    refine sgo ?_
    refine wlbuild ?_
    refine sgo ?_
    refine srst (v := .agg ⟨[str [115, 112, 111, 105, 108, 116], str []]⟩) (j := i * 2) hS 2 (fun w5 hS => ?_) (hk := by omega)
    refine sgo ?_
    exact ⟨(i + 1, ys.take (i * 2) ++ [str [115, 112, 111, 105, 108, 116], str []] ++ ys.drop (i * 2 + 2)), ⟨rfl, rfl, rfl, rfl, rfl, rfl, rfl, trivial⟩, ⟨hlt, hS⟩, by dsimp only; omega⟩
  · clear hc
    replace hS := hS.drop 2 rfl
    replace hS : Sep w wr [pRow 2 p3 es.length c3 (es.flatMap At.cells), pRow 2 p2 es.length c2 (es.flatMap At.cells)] := hS
    refine sgo ?_
    refine wlpure (authority_ok h (by omega) _) fun w6 hf6 => ?_
    replace hS := hS.grow hf6
    unfold authV
    refine sgo ?_
    refine wlpure (refAuthority_ok h (by omega) _) fun w7 hf7 => ?_
    replace hS := hS.grow hf7
    unfold authV
    generalize (userR (mendR h)).1 = a1 at *
    generalize (portR (userR (mendR h)).2).1 = a2 at *
    generalize (portR (userR (mendR h)).2).2 = a3 at *
    refine sgo ?_
    refine wlpure (attrs12_ok es es p2 p3 c2 c3 (by omega) (by omega) _ (hS.im 1 rfl) (hS.im 0 rfl)) fun w8 hf8 => ?_
    replace hS := hS.grow hf8
    rw [decide_eq_true rfl]
    refine sgo ?_
    refine wlcallgp (vals := [.slice p l.length c]) (fun _ => query_ok l p c hw _ (hi.frm hS.frm)) fun w9 hf9 => ?_
    replace hS := hS.grow hf9
    refine sgo ?_
    refine wlcallgp (vals := [.slice p l.length c]) (fun _ => queryOf_ok l p c hw _ (hi.frm hS.frm)) fun w10 hf10 => ?_
    replace hS := hS.grow hf10
    refine sgo ?_
    refine wlcallgp (vals := []) (fun _ => awake_ok _) (fun w11 hf11 => ?_) (ha := fun _ => rfl)
    replace hS := hS.grow hf11
    refine sgo ?_
    (first | refine fp1 (.inl rfl) rfl rfl ?_ | refine fp2 (.inl rfl) rfl rfl rfl ?_ | refine fp3 (.inl rfl) rfl rfl rfl rfl ?_ | refine fp0 (.inr rfl) rfl ?_ | refine fp0 (.inl rfl) rfl ?_ | refine fp1 (.inr rfl) rfl rfl ?_)
    refine ⟨?_, hS.frm⟩
    simp
    rfl
end Go.Proofs.YtffaoehhhdcjjaaDoor

/-
  From a frame to what a row asks behind the call: nothing that was there has turned (new blocks may be frozen).
-/
set_option linter.unusedSimpArgs false
set_option linter.unusedVariables false
set_option linter.unnecessarySimpa false
namespace Go.ChangeShapes
section
variable {H : Type} {enc : TypeId × Value → H} {P : Program}
theorem post_frm {f : Func} {s : ChangeSpec} {apart fresh handsOn again : Bool} {W W' : World} {args : Array Value} {v : Value} {ds gs : List (DataW H)} {before pa pv : List MemPlace}
    (hW : DataW.Whole enc P f.params.toList s.vars apart W args.toList ds gs before)
    (hres : ∀ (b : Nat) (sp : Nat → Bool) (hd : Bool), DataW.TrodAll enc P W' b sp hd f.resultTypes.toList (v.resultList f.resultTypes.size) (s.fn H (ds ++ gs)).results [])
    (hargs : ∀ sp : Nat → Bool, (∀ p ∈ before, sp p.block = true) → DataW.TrodAll enc P W' 0 sp true f.params.toList args.toList (s.fn H (ds ++ gs)).args pa)
    (hvars : ∀ sp : Nat → Bool, (∀ p ∈ before, sp p.block = true) → DataW.TrodVars enc P W' sp s.vars (s.fn H (ds ++ gs)).vars pv)
    (hps : before = pa ++ pv) (hk : Sv.Frm W W')
    (hok : ∀ (j : Nat) (t : TypeId) (r : Value), f.resultTypes[j]? = some t → (v.resultList f.resultTypes.size)[j]? = some r → Value.okWide P W' .any 0 t r) :
    s.post enc P f apart fresh handsOn again W args v W' := by
  have hold : ∀ p ∈ before, (fun b => decide (b < W.heap.size)) p.block = true := fun p hp => by simpa using hW.lt p hp
  refine ⟨ds, gs, before, [], pa, pv, hW, hres _ _ _, hargs _ hold, hvars _ hold, World.keptBut_mono (fun p hp => ⟨hp, ?_⟩) (RowKit.Below.frame hk (· ∈ before)), fun _ => ?_⟩
  · rw [hps, List.mem_append] at hp
    exact Or.inr hp
  · have hlt := hW.lt
    obtain ⟨_, _, _, _, _, hz, hn⟩ := hW
    refine ⟨hok, _, _, ([] ++ pa) ++ pv, ⟨[] ++ pa, pv, trodAll_append (hargs _ (fun _ _ => rfl)) (hres _ _ _), hvars _ (fun _ _ => rfl), rfl, ?_, ?_⟩, ?_⟩
    · intro b off hp
      have hp' : (.cell b off : MemPlace) ∈ before := by rw [hps]; simpa using hp
      rw [RowKit.Below.frozen hk (hlt _ hp')]
      exact hz b off hp'
    · intro ha
      have := hn ha
      rw [hps] at this
      simpa using this
    · intro p hp _
      rw [hps]
      simpa using hp
end
end Go.ChangeShapes

/-
  From a reading of the arguments to what lies in memory; and back: a law leaves the arguments as they were.
-/
set_option linter.unusedSimpArgs false
set_option linter.unusedVariables false
set_option linter.unnecessarySimpa false
namespace Go.Sv
open Go Go.RowKit Go.ChangeShapes Go.WideShapes
theorem cell_lt {w : World} {a : Addr} {v : Value} (h : w.cell? a = some v) : a.block < w.heap.size := by
  rcases Nat.lt_or_ge a.block w.heap.size with h1 | h1
  · exact h1
  · have : w.heap[a.block]? = none := Array.getElem?_eq_none h1
    simp [World.cell?, this] at h
theorem seg_app {w : World} {a : Addr} {l l' : List Value} (h : seg w a l) (h' : seg w (a.add l.length) l') : seg w a (l ++ l') := by
  intro i hi
  rcases Nat.lt_or_ge i l.length with h1 | h1
  · rw [h i h1, List.getElem?_append_left h1]
  · have := h' (i - l.length) (by simp at hi; omega)
    rw [add_add, show l.length + (i - l.length) = i by omega] at this
    rw [this, List.getElem?_append_right h1]
theorem seg_range {w : World} {a : Addr} {k : Nat} (f : Nat → List Value) : ∀ n : Nat, (∀ i, i < n → (f i).length = k ∧ seg w (a.add (i * k)) (f i)) → seg w a ((List.range n).flatMap f) ∧ ((List.range n).flatMap f).length = n * k
  | 0, _ => ⟨fun i hi => by simp at hi, by simp⟩
  | n + 1, h => by
    obtain ⟨h1, h2⟩ := seg_range f n fun i hi => h i (by omega)
    obtain ⟨h3, h4⟩ := h n (by omega)
    rw [List.range_succ, List.flatMap_append]
    simp only [List.flatMap_cons, List.flatMap_nil, List.append_nil]
    refine ⟨seg_app h1 (by rw [h2]; exact h4), ?_⟩
    rw [List.length_append, h2, h3, Nat.succ_mul]
/-- a law's ending: it answered true, and left all as it was -/
theorem trodAll_frm {H : Type} {enc : TypeId × Value → H} {P : Program} (hl : laidOutB P = true) {W W' : World} (hf : Sv.Frm W W') {sp : Nat → Bool} : ∀ {ts : List TypeId} {vs : List Value} {ds : List (DataW H)} {ps : List MemPlace},
    (∀ t ∈ ts, P.readableRec t = true ∧ t < P.types.size) → DataW.TrodAll enc P W 0 (fun _ => true) true ts vs ds ps → (∀ p ∈ ps, p.block < W.heap.size) → (∀ p ∈ ps, sp p.block = true) → DataW.TrodAll enc P W' 0 sp true ts vs ds ps
  | [], [], [], _, _, h, _, _ => h
  | t :: ts, v :: vs, d :: ds, _, ht, ⟨p, q, h1, h2, e⟩, hlt, hs => by
    subst e
    refine ⟨p, q, ?_, ?_, rfl⟩
    · obtain ⟨hr, hrow⟩ := ht t List.mem_cons_self
      exact WideElems.Trod_stays hl hr hrow h1 (fun x hx => RowKit.Below.same hf (hlt x (List.mem_append_left _ hx))) fun x hx => hs x (List.mem_append_left _ hx)
    · exact trodAll_frm hl hf (fun t ht' => ht t (List.mem_cons_of_mem _ ht')) h2 (fun x hx => hlt x (List.mem_append_right _ hx)) fun x hx => hs x (List.mem_append_right _ hx)
theorem law_ends {H : Type} {enc : TypeId × Value → H} {P : Program} {f : Func} {s : ChangeSpec} {W W' : World} {args : Array Value} {ds gs : List (DataW H)} {before : List MemPlace} {tb : TypeId}
    (hl : laidOutB P = true) (hT : ∀ t ∈ f.params.toList, P.readableRec t = true ∧ t < P.types.size) (hv : s.vars = []) (hrt : f.resultTypes = #[tb]) (hb : P.underlying tb = some .bool)
    (hW : DataW.Whole enc P f.params.toList s.vars false W args.toList ds gs before) (hfn : s.fn H (ds ++ gs) = { results := [.lit (.bool true)], args := ds ++ gs }) (hg : Frm W W') :
    s.post enc P f false true false false W args (.bool true) W' := by
  have hW' := hW
  have hlt := hW.lt
  obtain ⟨p, q, hA, hV, rfl, _, _⟩ := hW
  rw [hv] at hV
  obtain ⟨rfl, rfl⟩ := trodVars_none hV
  have hrl : (Value.bool true).resultList f.resultTypes.size = [.bool true] := by rw [hrt]; rfl
  simp only [List.append_nil] at hlt hfn
  refine post_frm (pa := p) (pv := []) hW' (fun _ _ _ => ?_) (fun sp hsp => ?_) (fun _ _ => ?_) rfl hg (ok_one hrt rfl (okWide_bool_mk hb _))
  · rw [hrt]
    simp only [List.append_nil, hfn]
    exact trodAll_cons_mk (shut_bool hb _) trodAll_mk0
  · simp only [List.append_nil, hfn]
    exact trodAll_frm hl hg hT hA hlt (fun x hx => hsp x (by simpa using hx))
  · simp only [List.append_nil, hfn, hv]
    rfl
end Go.Sv
namespace Go.Proofs.YtffaoehhhdcjjaaDoor
open Go Go.Sv Go.RowKit Go.ChangeShapes Go.WideShapes Go.Deep

theorem laidOut : laidOutB Tryd.prog = true := by kernel_rfl
theorem own : ownKnob Tryd.prog.godebug = none := by kernel_rfl

section
variable {H : Type} {P : Program} {enc : TypeId × Value → H} {w : World} {base : Nat} {spare : Nat → Bool} {held : Bool}
theorem bulkAll_eq : ∀ l : List (DataW H), Rows.uptoBulkAll l = (l.map Rows.uptoBulk).sum
  | [] => by simp [Rows.uptoBulkAll]
  | d :: l => by simp only [Rows.uptoBulkAll, List.map_cons, List.sum_cons, bulkAll_eq l]
theorem bulk_slice (es rs : List (DataW H)) : Rows.uptoBulk (.slice es rs) = (es.map Rows.uptoBulk).sum + (rs.map Rows.uptoBulk).sum + 1 := by simp only [Rows.uptoBulk, bulkAll_eq]
theorem bulk_agg (es : List (DataW H)) : Rows.uptoBulk (.agg es) = (es.map Rows.uptoBulk).sum + 1 := by simp only [Rows.uptoBulk, bulkAll_eq]
theorem bulk_nil : Rows.uptoBulk (.nil : DataW H) = 1 := by simp only [Rows.uptoBulk]
theorem bulk_str (l : List UInt8) : Rows.uptoBulk (.lit (.string l) : DataW H) = l.length + 1 := by simp only [Rows.uptoBulk]
/-- a slice of records: what they are, where they lie, and what they hold together -/
theorem open_recs {t e : TypeId} {fuel : Nat} {cs : List Value} {x : DataW H × List MemPlace} {α : Type} (cells : α → List Value) (wt : α → Nat) (Q : α → Prop) (ht : P.underlying t = some (.slice e))
    (h : DataW.trod enc P w base spare held fuel t cs = some x)
    (hrec : ∀ k cs' y, cs'.length = P.cellsOf e → DataW.trod enc P w base spare held k e cs' = some y → ∃ r, cs' = cells r ∧ Q r ∧ wt r ≤ Rows.uptoBulk y.1) :
    ∃ (p : Option Addr) (c : Nat) (rs : List α), cs = [.slice p rs.length c] ∧ rs.length ≤ c ∧ c ≤ maxLen ∧ Im [] w p (rs.flatMap cells) ∧ (∀ r ∈ rs, Q r) ∧ (rs.map wt).sum + 1 ≤ Rows.uptoBulk x.1 := by
  rcases open_slice ht h with ⟨rfl, rfl⟩ | ⟨a, len, cap, m, n, D, Pl, rfl, _, hl, hm, hmm, rfl, hi⟩
  · exact ⟨none, 0, [], rfl, Nat.le_refl _, Nat.zero_le _, .inl rfl, by simp, by simp [bulk_nil]⟩
  · have hlm : len ≤ m := by rw [hmm]; split <;> omega
    have key : ∀ n : Nat, n ≤ len → ∃ rs : List α, rs.length = n ∧ rs.flatMap cells = (List.range n).flatMap (fun i => (w.cells? base (a.add (i * P.cellsOf e)) (P.cellsOf e)).getD []) ∧ (∀ r ∈ rs, Q r) ∧ (rs.map wt).sum ≤ ((List.range n).map fun i => Rows.uptoBulk (D i)).sum := by
      intro n
      induction n with
      | zero => intro _; exact ⟨[], rfl, rfl, by simp, by simp⟩
      | succ n ih =>
        intro hn
        obtain ⟨rs, h1, h2, h3, h4⟩ := ih (by omega)
        obtain ⟨cs', h5, h6⟩ := hi n (by omega)
        obtain ⟨_, hcl, _⟩ := World.cells?_some h5
        obtain ⟨r, h7, h8, h9⟩ := hrec _ _ _ hcl h6
        refine ⟨rs ++ [r], by simp [h1], ?_, ?_, ?_⟩
        · rw [List.range_succ, List.flatMap_append, List.flatMap_append, h2]
          simp [h5, h7]
        · intro x hx
          rcases List.mem_append.1 hx with hx | hx
          · exact h3 x hx
          · rw [List.mem_singleton.1 hx]; exact h8
        · rw [List.range_succ, List.map_append, List.map_append, List.sum_append, List.sum_append]
          simp only [List.map_cons, List.map_nil, List.sum_cons, List.sum_nil]
          dsimp only at h9
          omega
    obtain ⟨rs, h1, h2, h3, h4⟩ := key len (Nat.le_refl _)
    refine ⟨some a, cap, rs, by rw [h1], by omega, hm, ?_, h3, ?_⟩
    · rw [h2]
      have hsr := seg_range (w := w) (a := a) (k := P.cellsOf e) (fun i => (w.cells? base (a.add (i * P.cellsOf e)) (P.cellsOf e)).getD []) len (fun i hil => by
        obtain ⟨cs', h5, _⟩ := hi i (by omega)
        obtain ⟨_, hcl, hat⟩ := World.cells?_some h5
        rw [h5]
        exact ⟨hcl, fun j hj => hat j (by simpa [hcl] using hj)⟩)
      generalize (List.range len).flatMap (fun i => (w.cells? base (a.add (i * P.cellsOf e)) (P.cellsOf e)).getD []) = L at *
      cases L with
      | nil => exact .inl rfl
      | cons v L =>
        refine .inr ⟨a, rfl, hsr.1, ?_, by simp⟩
        have := hsr.1 0 (by simp)
        have h0 : w.cell? (a.add 0) = some v := this
        have := cell_lt h0
        rwa [add_block] at this
    · rw [bulk_slice, List.map_map]
      have : ((List.range len).map (Rows.uptoBulk ∘ D)).sum = ((List.range len).map fun i => Rows.uptoBulk (D i)).sum := rfl
      omega
theorem str_of (s : ByteArray) : Value.string s = str s.data.toList := by cases s; rfl
/-- a cell that is a text -/
theorem open_strc {t : TypeId} {fuel : Nat} {cs : List Value} {x : DataW H × List MemPlace} (ht : P.underlying t = some .string) (h : DataW.trod enc P w base spare held fuel t cs = some x) : ∃ l : List UInt8, cs = [str l] ∧ Rows.uptoBulk x.1 = l.length + 1 := by
  obtain ⟨s, rfl, rfl, _⟩ := DataW.trod_string ht h
  exact ⟨s.data.toList, by rw [str_of], bulk_str _⟩
theorem small_le {ds : List (DataW H)} (hk : Rows.uptoSmall H ds = true) : (ds.map Rows.uptoBulk).sum ≤ 1048576 := by
  have := of_decide_eq_true hk
  rwa [bulkAll_eq] at this
end
end Go.Proofs.YtffaoehhhdcjjaaDoor

/-
  Readings of arguments of one cell: texts.
-/
set_option linter.unusedSimpArgs false
set_option linter.unusedVariables false
set_option linter.unnecessarySimpa false
namespace Go.Proofs.YtffaoehhhdcjjaaDoor
open Go Go.Sv Go.RowKit Go.ChangeShapes Go.WideShapes Go.Deep
section
variable {H : Type} {enc : TypeId × Value → H} {w : World} {base : Nat} {spare : Nat → Bool} {held : Bool}
set_option maxRecDepth 100000 in
theorem open_str1 {v : Value} {d : DataW H} {ps : List MemPlace} {r : Reach} {b0 : Nat} (hv : Value.okWide Tryd.prog w r b0 9 v) (h : DataW.Trod enc Tryd.prog w base spare held 9 v d ps) :
    ∃ l : List UInt8, v = str l ∧ l.length + 1 ≤ Rows.uptoBulk d := by
  obtain ⟨s, rfl⟩ := okWide_string Tryd.underlying9 hv
  obtain ⟨fuel, hf⟩ := h
  obtain ⟨l, e, hw⟩ := open_strc Tryd.underlying9 hf
  dsimp only at hw
  exact ⟨l, by simpa [Value.cells] using e, by omega⟩
end
end Go.Proofs.YtffaoehhhdcjjaaDoor

/-
  Readings of attributes: what lies in memory.
-/
set_option linter.unusedSimpArgs false
set_option linter.unusedVariables false
set_option linter.unnecessarySimpa false
namespace Go.Proofs.YtffaoehhhdcjjaaDoor
open Go Go.Sv Go.RowKit Go.ChangeShapes Go.WideShapes Go.Deep

theorem c_str : Tryd.prog.cellsOf 9 = 1 := by kernel_rfl
theorem c_attr : Tryd.prog.cellsOf 43 = 2 := by kernel_rfl
section
variable {H : Type} {enc : TypeId × Value → H} {w : World} {base : Nat} {spare : Nat → Bool} {held : Bool}
set_option maxRecDepth 100000 in
theorem open_at {fuel : Nat} {cs : List Value} {x : DataW H × List MemPlace} (h : DataW.trod enc Tryd.prog w base spare held fuel 43 cs = some x) : ∃ r : At, cs = r.cells ∧ True ∧ r.wt ≤ Rows.uptoBulk x.1 := by
  obtain ⟨xs, n, _, rfl, hl, hlen, hf⟩ := DataW.trod_struct Tryd.underlying43 h
  rw [c_attr] at hl
  have f0 := hf 0 _ rfl
  have f1 := hf 1 _ rfl
  clear hf h
  match cs, hl with
  | [c0, c1], _ =>
    match xs, hlen with
    | [y0, y1], _ =>
      simp only [c_str, List.drop_zero, List.drop_succ_cons, List.take_succ_cons, List.take_zero, List.getElem?_cons_zero, List.getElem?_cons_succ] at f0 f1
      obtain ⟨l0, e0, b0⟩ := open_strc Tryd.underlying9 f0
      obtain ⟨l1, e1, b1⟩ := open_strc Tryd.underlying9 f1
      injection e0 with e0
      injection e1 with e1
      subst e0 e1
      refine ⟨⟨l0, l1⟩, rfl, trivial, ?_⟩
      rw [bulk_agg]
      simp only [List.map_cons, List.map_nil, List.sum_cons, List.sum_nil, b0, b1, At.wt]
      omega
end
end Go.Proofs.YtffaoehhhdcjjaaDoor

/-
  Readings of lists of attributes; a world for the witness of cards that list the tables of package utf8.
-/
set_option linter.unusedSimpArgs false
set_option linter.unusedVariables false
set_option linter.unnecessarySimpa false
namespace Go.Proofs.YtffaoehhhdcjjaaDoor
open Go Go.Sv Go.RowKit Go.ChangeShapes Go.WideShapes Go.Deep
set_option maxRecDepth 100000 in
theorem open_ats {H : Type} {enc : TypeId × Value → H} {w : World} {base : Nat} {spare : Nat → Bool} {held : Bool} {v : Value} {d : DataW H} {ps : List MemPlace} {r : Reach} {b0 : Nat} (hv : Value.okWide Tryd.prog w r b0 39 v) (h : DataW.Trod enc Tryd.prog w base spare held 39 v d ps) :
    ∃ (p : Option Addr) (c : Nat) (es : List At), v = .slice p es.length c ∧ Im [] w p (es.flatMap At.cells) ∧ (es.map At.wt).sum + 1 ≤ Rows.uptoBulk d := by
  obtain ⟨a, n, cc, rfl⟩ := okWide_slice Tryd.underlying39 hv
  obtain ⟨fuel, hf⟩ := h
  obtain ⟨p, c, es, e, _, _, him, _, hw⟩ := open_recs At.cells At.wt (fun _ => True) Tryd.underlying39 hf (fun k cs' y _ hy => open_at hy)
  have e' : Value.slice a n cc = .slice p es.length c := by simpa [Value.cells] using e
  exact ⟨p, c, es, e', him, hw⟩
noncomputable def utfHeap (h : Array Obj) : Array Obj :=
  (h.modify 2 fun
    | .cells _ t f => .cells (Go.Pinned.utf8FirstZ.map fun (z : Nat) => Value.int .u8 z).toArray t f | o => o).modify 3 fun
    | .cells _ t f => .cells (([128, 191, 160, 191, 128, 159, 144, 191, 128, 143] ++ List.replicate 22 0 : List Int).map fun z => Value.int .u8 z).toArray t f | o => o
noncomputable def utfWorld (os : Os) : World := { World.holding Tryd.prog os ⟨#[], #[], []⟩ with heap := utfHeap (World.holding Tryd.prog os ⟨#[], #[], []⟩).heap }
end Go.Proofs.YtffaoehhhdcjjaaDoor

