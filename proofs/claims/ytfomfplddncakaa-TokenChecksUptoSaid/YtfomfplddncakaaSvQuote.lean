/-
  Package token: quoted texts; the kinds' words.
-/
import Derived.Test.YtfomfplddncakaaSvDec
import Derived.Test.YtfomfplddncakaaSvRange
import Derived.Test.YtfomfplddncakaaShelf
namespace Go.Proofs.Ytfomfplddncakaa
open Go Go.Sv Go.RowKit

theorem string_ok (B b : Nat) (q : Option Addr) (s : List UInt8) (w : World) (h : Bld TB TY w b q s) (hB : ∀ k ∈ b :: rb q, B ≤ k) (hw : B ≤ w.heap.size) :
    CallsR Try.prog 32 #[ptrAt (pb b) 0] w fun v w' => v = str s ∧ Below B w w' := by
  refine Calls.mono (Try.Builder_String_any B b s w (h.shelf hB) hw) ?_
  rintro e w' ⟨rfl, hb⟩
  exact ⟨_, rfl, rfl, hb⟩

/-- a byte in a quoted text -/
def esc (c : UInt8) : List UInt8 := if c = 10 then [92, 110] else if c = 9 then [92, 116] else if c = 34 then [92, 34] else if c = 92 then [92, 92] else [c]
def quoteR (l : List UInt8) : List UInt8 := 34 :: l.flatMap esc ++ [34]
theorem esc_len (c : UInt8) : (esc c).length ≤ 2 := by
  unfold esc
  repeat' split
  all_goals simp
theorem escs_len (l : List UInt8) : (l.flatMap esc).length ≤ 2 * l.length := by
  induction l with
  | nil => simp
  | cons c l ih => have := esc_len c; simp only [List.flatMap_cons, List.length_append, List.length_cons]; omega
def escP (r : Nat) : List UInt8 := if r = 10 then [92, 110] else if r = 9 then [92, 116] else if r = 34 ∨ r = 92 then 92 :: encR r else encR r
theorem esc_big {l : List UInt8} (h : ∀ c ∈ l, 128 ≤ c.toNat) : l.flatMap esc = l := by
  induction l with
  | nil => rfl
  | cons c l ih =>
    have hc := h c List.mem_cons_self
    have h1 : ∀ n : UInt8, n.toNat < 128 → c ≠ n := fun n hn e => by subst e; omega
    have : esc c = [c] := by
      unfold esc
      rw [if_neg (h1 10 (by decide)), if_neg (h1 9 (by decide)), if_neg (h1 34 (by decide)), if_neg (h1 92 (by decide))]
    rw [List.flatMap_cons, this, ih fun c hc => h c (List.mem_cons_of_mem _ hc)]; rfl
theorem esc_piece (l : List UInt8) (h0 : 0 < l.length) (hr : Right l) : ∃ r : Nat, (pieceR l).1 = (r : Int) ∧ r < 1114112 ∧ ¬ (55296 ≤ r ∧ r ≤ 57343) ∧ (l.take (pieceR l).2.1).flatMap esc = escP r := by
  obtain ⟨r, h1, h2, h3, h4, h5, h6⟩ := enc_right l h0 hr
  refine ⟨r, h1, h2, h3, ?_⟩
  have hn := (pieceR_rng l h0).2
  rw [← h4]
  by_cases hs : r < 128
  · have e : encR r = [UInt8.ofNat r] := by rw [encR, encN, if_pos hs]; rfl
    unfold escP
    rw [e]
    have hi : ∀ n : Nat, n < 128 → (UInt8.ofNat r = UInt8.ofNat n ↔ r = n) := by
      intro n hn
      constructor
      · intro he
        have := congrArg UInt8.toNat he
        rw [UInt8.toNat_ofNat_of_lt' (show r < 256 by omega), UInt8.toNat_ofNat_of_lt' (show n < 256 by omega)] at this
        exact this
      · intro he; rw [he]
    have a10 := hi 10 (by decide)
    have a9 := hi 9 (by decide)
    have a34 := hi 34 (by decide)
    have a92 := hi 92 (by decide)
    simp only [List.flatMap_cons, List.flatMap_nil, List.append_nil, esc]
    change UInt8.ofNat r = 10 ↔ _ at a10
    change UInt8.ofNat r = 9 ↔ _ at a9
    change UInt8.ofNat r = 34 ↔ _ at a34
    change UInt8.ofNat r = 92 ↔ _ at a92
    by_cases c1 : r = 10
    · rw [if_pos (a10.2 c1), if_pos c1]
    · rw [if_neg (mt a10.1 c1), if_neg c1]
      by_cases c2 : r = 9
      · rw [if_pos (a9.2 c2), if_pos c2]
      · rw [if_neg (mt a9.1 c2), if_neg c2]
        by_cases c3 : r = 34
        · rw [if_pos (a34.2 c3), if_pos (.inl c3), a34.2 c3]
        · rw [if_neg (mt a34.1 c3)]
          by_cases c4 : r = 92
          · rw [if_pos (a92.2 c4), if_pos (.inr c4), a92.2 c4]
          · rw [if_neg (mt a92.1 c4), if_neg (by omega)]
  · have : ∀ c ∈ encR r, 128 ≤ c.toNat := by
      intro c hc
      rw [h4] at hc
      obtain ⟨k, hk⟩ := List.mem_iff_getElem?.1 hc
      have hkn : k < (pieceR l).2.1 := by
        rcases Nat.lt_or_ge k (pieceR l).2.1 with h | h
        · exact h
        · rw [List.getElem?_eq_none (by simp; omega)] at hk; cases hk
      have := h6 (by omega) k hkn
      rw [List.getElem?_take_of_lt hkn] at hk
      rw [at0, hk] at this
      exact this
    rw [esc_big this]
    unfold escP
    rw [if_neg (by omega), if_neg (by omega), if_neg (by omega)]

theorem esc_step (l : List UInt8) (i n : Nat) : (l.take (i + n)).flatMap esc = (l.take i).flatMap esc ++ ((l.drop i).take n).flatMap esc := by
  rw [List.take_add, List.flatMap_append]

set_option maxHeartbeats 4000000 in
theorem quoted_ok (l : List UInt8) (hv : validR l = true) (hb : l.length ≤ 1048576) (w : World) :
    PureC Try.prog 26 #[str l] w (str (quoteR l)) := by
  have hel := escs_len l
  refine enter (l := [str l]) Try.func26 rfl Try.ntmps26 (by kernel_rfl) rfl ?_
  refine sgo ?_
  refine wlallocT fun b w0 hbw ha0 hf0 => ?_
  have hB0 : Bld TB TY w0 b none [] := Bld.new ha0
  refine sgo ?_
  refine wlcall (writeByte_ok b none [] 34 w0 hB0 (by simp)) ?_
  rintro v w1 ⟨rfl, q1, hB1, hl1⟩
  have hq1 : ∀ x ∈ b :: rb q1, w.heap.size ≤ x := hl1.fresh hf0 (by intro x hx; simp [rb] at hx; omega)
  have hf1 := hf0.step hl1.1 (by intro x hx; simp [rb] at hx; omega)
  refine sgo ?_
  refine wlrange fun r w2 hr2 hI2 hf2 => ?_
  replace hB1 := hB1.frm hf2
  refine sgo ?_
  refine wcloop (X := Nat × Option Addr) (fun x => [(3, ptrAt (pb b) 0), (8, .pointer (pb r))])
    (fun x wr => x.1 ≤ l.length ∧ validR (l.drop x.1) = true ∧ It wr r l x.1 ∧ Bld TB TY wr b x.2 (34 :: (l.take x.1).flatMap esc) ∧ Frm w wr ∧ ∀ k ∈ b :: rb x.2, w.heap.size ≤ k)
    (fun x => l.length - x.1) (0, q1) ⟨rfl, rfl, trivial⟩ ⟨by omega, by simpa using hv, hI2, by simpa using hB1, hf1.trans hf2, hq1⟩ ?_
  rintro ⟨i, q⟩ wr ρ ⟨hil, hvi, hIt, hBl, hfr, hq⟩
  dsimp only at hil hvi hIt hBl hq ⊢
  have hrw : w.heap.size ≤ r := Nat.le_trans hf1.size hr2
  have hrb := hIt.bld hBl
  refine sgo ?_
  by_cases hi : i < l.length
  · refine wlnext_yes hIt hi fun w3 hIt3 hl3 => ?_
    have hd0 : 0 < (l.drop i).length := by simp; omega
    obtain ⟨hR, hv2⟩ := valid_step (l.drop i) hd0 hvi
    have hdec := decode_right l i hR
    obtain ⟨r0, hp1, hr1, hr2', hesc⟩ := esc_piece (l.drop i) hd0 hR
    have hrng := pieceR_rng (l.drop i) hd0
    simp only [hdec] at hIt3 ⊢
    have hp2 : (pieceR (l.drop i)).1.toNat = r0 := by rw [hp1]; rfl
    rw [hp2]
    generalize (pieceR (l.drop i)).2.1 = nn at *
    clear hdec hp1 hp2 hR
    have hB3 := hBl.le hl3 (by intro k hk hm; simp only [List.mem_singleton] at hm; subst hm; exact hrb hk)
    have hfr3 := hfr.step hl3 (by intro x hx; simp only [List.mem_singleton] at hx; subst hx; exact hrw)
    have hti := escs_len (l.take i)
    have hti2 : (l.take i).length ≤ 1048576 := by simp; omega
    have hlen : (34 :: (l.take i).flatMap esc).length ≤ 4000000 := by simp only [List.length_cons]; omega
    have hdl : (l.drop i).length = l.length - i := by simp
    have fin : ∀ q' w', Bld TB TY w' b q' ((34 :: (l.take i).flatMap esc) ++ escP r0) → Lm (b :: rb q) w3 (b :: rb q') w' →
        (i + nn ≤ l.length ∧ validR (l.drop (i + nn)) = true ∧ It w' r l (i + nn) ∧ Bld TB TY w' b q' (34 :: (l.take (i + nn)).flatMap esc) ∧ Frm w w' ∧ ∀ k ∈ b :: rb q', w.heap.size ≤ k) := by
      intro q' w' hB' hl'
      refine ⟨by omega, ?_, hIt3.le hl'.1 hrb, ?_, hfr3.step hl'.1 hq, hl'.fresh hfr3 hq⟩
      · rw [← List.drop_drop]; exact hv2
      · rw [esc_step, hesc]; exact hB'
    generalize hS : (34 :: (l.take i).flatMap esc) = S at *
    clear hIt hBl hIt3 hesc hv2 hvi hl3 hti hti2
    refine sgo ?_
    (show WC _ _ _ _ _ _ _; first | refine WC_dec rfl (fun hc => ?_) (fun hc => ?_) | refine WC_cond rfl (fun hc => ?_) (fun hc => ?_))
    · refine sgo ?_
      refine wlcall (writeString_ok b q _ [92, 110] _ hB3 (by simp only [List.length_cons, List.length_nil]; omega)) ?_
      rintro v w4 ⟨rfl, q4, hB4, hl4⟩
      refine sgo ?_
      refine ⟨(i + nn, q4), ⟨rfl, rfl, trivial⟩, fin q4 w4 ?_ hl4, by dsimp only; omega⟩
      have e : escP r0 = [92, 110] := by unfold escP; rw [if_pos (by omega)]
      rw [e]
      exact hB4
    · have hc10 : ¬ r0 = 10 := by omega
      clear hc
      refine sgo ?_
      (show WC _ _ _ _ _ _ _; first | refine WC_dec rfl (fun hc => ?_) (fun hc => ?_) | refine WC_cond rfl (fun hc => ?_) (fun hc => ?_))
      · refine sgo ?_
        refine wlcall (writeString_ok b q _ [92, 116] _ hB3 (by simp only [List.length_cons, List.length_nil]; omega)) ?_
        rintro v w4 ⟨rfl, q4, hB4, hl4⟩
        refine sgo ?_
        refine ⟨(i + nn, q4), ⟨rfl, rfl, trivial⟩, fin q4 w4 ?_ hl4, by dsimp only; omega⟩
        have e : escP r0 = [92, 116] := by unfold escP; rw [if_neg (by omega), if_pos (by omega)]
        rw [e]
        exact hB4
      · have hc9 : ¬ r0 = 9 := by omega
        clear hc
        refine sgo ?_
        (show WC _ _ _ _ _ _ _; first | refine WC_dec rfl (fun hc => ?_) (fun hc => ?_) | refine WC_cond rfl (fun hc => ?_) (fun hc => ?_))
        · have hc34 : r0 = 34 := by omega
          clear hc
          refine sgo ?_
          (show WC _ _ _ _ _ _ _; first | refine WC_dec rfl (fun hc => ?_) (fun hc => ?_) | refine WC_cond rfl (fun hc => ?_) (fun hc => ?_))
          · refine sgo ?_
            refine wlcall (writeByte_ok b q _ 92 _ hB3 (by omega)) ?_
            rintro v w4 ⟨rfl, q4, hB4, hl4⟩
            refine sgo ?_
            refine wlcall (writeRune_ok b q4 _ r0 hr1 hr2' _ hB4 (by simp only [List.length_append, List.length_singleton]; omega)) ?_
            rintro v w5 ⟨rfl, q5, hB5, hl5⟩
            refine sgo ?_
            refine ⟨(i + nn, q5), ⟨rfl, rfl, trivial⟩, fin q5 w5 ?_ (hl4.trans hl5), by dsimp only; omega⟩
            have e : escP r0 = 92 :: encR r0 := by unfold escP; rw [if_neg (by omega), if_neg (by omega), if_pos (by omega)]
            rw [e]
            rw [List.append_assoc] at hB5
            exact hB5
          · omega
        · have hc34 : ¬ r0 = 34 := by omega
          clear hc
          refine sgo ?_
          (show WC _ _ _ _ _ _ _; first | refine WC_dec rfl (fun hc => ?_) (fun hc => ?_) | refine WC_cond rfl (fun hc => ?_) (fun hc => ?_))
          · refine sgo ?_
            refine wlcall (writeByte_ok b q _ 92 _ hB3 (by omega)) ?_
            rintro v w4 ⟨rfl, q4, hB4, hl4⟩
            refine sgo ?_
            refine wlcall (writeRune_ok b q4 _ r0 hr1 hr2' _ hB4 (by simp only [List.length_append, List.length_singleton]; omega)) ?_
            rintro v w5 ⟨rfl, q5, hB5, hl5⟩
            refine sgo ?_
            refine ⟨(i + nn, q5), ⟨rfl, rfl, trivial⟩, fin q5 w5 ?_ (hl4.trans hl5), by dsimp only; omega⟩
            have e : escP r0 = 92 :: encR r0 := by unfold escP; rw [if_neg (by omega), if_neg (by omega), if_pos (by omega)]
            rw [e]
            rw [List.append_assoc] at hB5
            exact hB5
          · have hc92 : ¬ r0 = 92 := by omega
            clear hc
            refine sgo ?_
            refine wlcall (writeRune_ok b q _ r0 hr1 hr2' _ hB3 (by omega)) ?_
            rintro v w5 ⟨rfl, q5, hB5, hl5⟩
            refine sgo ?_
            refine ⟨(i + nn, q5), ⟨rfl, rfl, trivial⟩, fin q5 w5 ?_ hl5, by dsimp only; omega⟩
            have e : escP r0 = encR r0 := by unfold escP; rw [if_neg (by omega), if_neg (by omega), if_neg (by omega)]
            rw [e]
            exact hB5
  · refine wlnext_no hIt (by omega) ?_
    have hti : l.take i = l := List.take_of_length_le (by omega)
    rw [hti] at hBl
    refine sgo ?_
    refine wlcall (writeByte_ok b q _ 34 _ hBl (by simp only [List.length_cons]; omega)) ?_
    rintro v w4 ⟨rfl, q4, hB4, hl4⟩
    have hq4 := hl4.fresh hfr hq
    have hfr4 := hfr.step hl4.1 hq
    refine sgo ?_
    refine wlcall (string_ok w.heap.size b q4 _ _ hB4 hq4 hfr4.size) ?_
    rintro v w5 ⟨rfl, hb5⟩
    refine sgo ?_
    (first | refine fp1 (.inl rfl) rfl rfl ?_ | refine fp2 (.inl rfl) rfl rfl rfl ?_ | refine fp3 (.inl rfl) rfl rfl rfl rfl ?_ | refine fp0 (.inr rfl) rfl ?_ | refine fp0 (.inl rfl) rfl ?_ | refine fp1 (.inr rfl) rfl rfl ?_)
    refine ⟨rfl, ?_⟩
    exact Below.trans hfr4 hb5
end Go.Proofs.Ytfomfplddncakaa
