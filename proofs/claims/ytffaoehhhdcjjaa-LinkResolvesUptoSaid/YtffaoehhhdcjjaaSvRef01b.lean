/-
  Package sieveref01: Pieces and Valid.
-/
import Derived.Test.YtffaoehhhdcjjaaSvRef01
set_option linter.unusedSimpArgs false
set_option linter.unusedVariables false
set_option linter.unnecessarySimpa false
namespace Go.Proofs.Ytffaoehhhdcjjaa
open Go Go.Sv Go.RowKit

def accR (l : List UInt8) : Nat → Nat → Nat → Nat
  | 0, _, r => r
  | f + 1, i, r => accR l f (i + 1) (r * 64 + at0 l i % 64)
def firstR (c n : Nat) : Nat := if n = 2 then c % 32 else if n = 3 then c % 16 else if n = 4 then c % 8 else c
/-- the piece at the beginning: its rune, how many bytes, is it right -/
def pieceR (l : List UInt8) : Int × Nat × Bool :=
  (if (goodR l).2 then (accR l ((goodR l).1 - 1) 1 (firstR (at0 l 0) (goodR l).1) : Nat) else 65533, if (goodR l).1 = 0 then 1 else (goodR l).1, (goodR l).2)
structure Piece where
  r : Int
  at_ : Nat
  size : Nat
  right : Bool
def Piece.cells (x : Piece) : List Value := [i32 x.r, int x.at_, int x.size, .bool x.right]
def piecesF : Nat → Nat → List UInt8 → List Piece
  | 0, _, _ => []
  | f + 1, at_, l => if l = [] then [] else ⟨(pieceR l).1, at_, (pieceR l).2.1, (pieceR l).2.2⟩ :: piecesF f (at_ + (pieceR l).2.1) (l.drop (pieceR l).2.1)
def piecesR (l : List UInt8) : List Piece := piecesF l.length 0 l

theorem goodF_rng (l : List UInt8) (n : Nat) (h0 : 0 < l.length) : ∀ (f k : Nat), 1 ≤ k → k ≤ l.length → 1 ≤ goodF l n f k ∧ goodF l n f k ≤ l.length
  | 0, k, h1, h2 => ⟨h1, h2⟩
  | f + 1, k, h1, h2 => by
    simp only [goodF]
    repeat' split
    · exact ⟨h1, h2⟩
    · exact goodF_rng l n h0 f (k + 1) (by omega) (by omega)
    · exact ⟨h1, h2⟩
theorem goodR_rng (l : List UInt8) (h0 : 0 < l.length) : (goodR l).1 ≤ l.length ∧ ((goodR l).2 = true → (goodR l).1 = sizeR (at0 l 0) ∧ 1 ≤ (goodR l).1 ∧ (goodR l).1 ≤ 4) := by
  have h4 := sizeR_le (at0 l 0)
  unfold goodR
  split
  · exact ⟨by simp, by simp⟩
  · have := goodF_rng l (sizeR (at0 l 0)) h0 4 1 (by omega) (by omega)
    refine ⟨by simp only []; omega, fun h => ?_⟩
    simp only [decide_eq_true_eq] at h
    exact ⟨h, by simp only []; omega, by simp only []; omega⟩
theorem pieceR_rng (l : List UInt8) (h0 : 0 < l.length) : 1 ≤ (pieceR l).2.1 ∧ (pieceR l).2.1 ≤ l.length := by
  have := goodR_rng l h0
  simp only [pieceR]
  split <;> omega
theorem piecesF_more : ∀ (f f' a : Nat) (l : List UInt8), l.length ≤ f → l.length ≤ f' → piecesF f a l = piecesF f' a l
  | 0, f', a, l, h, _ => by
    have : l = [] := List.eq_nil_of_length_eq_zero (by omega)
    subst this
    cases f' <;> simp [piecesF]
  | f + 1, 0, a, l, _, h => by
    have : l = [] := List.eq_nil_of_length_eq_zero (by omega)
    subst this
    simp [piecesF]
  | f + 1, f' + 1, a, l, h, h' => by
    simp only [piecesF]
    split
    · rfl
    · rename_i hne
      have hl : 0 < l.length := List.length_pos_iff.2 hne
      have := pieceR_rng l hl
      rw [piecesF_more f f' _ _ (by simp; omega) (by simp; omega)]

set_option maxHeartbeats 4000000 in
theorem pieces_ok (l : List UInt8) (p : Option Addr) (n c : Nat) (hn : n = l.length) (hc : l.length ≤ c) (hb : l.length ≤ 1073741824) (w : World) (hi : Im [] w p (bs l)) :
    CallsR Try.prog 59 #[.slice p n c] w fun v w' => Frm w w' ∧ ∃ q cc, v = .slice q (piecesR l).length cc ∧ Row w' 4 q (piecesR l).length cc ((piecesR l).flatMap Piece.cells) ∧ ∀ x ∈ rb q, w.heap.size ≤ x := by
  subst hn
  refine enter (l := [.slice p l.length c]) Try.func59 rfl Try.ntmps59 (by kernel_rfl) rfl ?_
  refine sgo ?_
  refine wcloop (X := Nat × List Piece × Option Addr × Nat) (fun x => [(0, .slice p l.length c), (3, .slice x.2.2.1 x.2.1.length x.2.2.2), (4, int x.1)])
    (fun x wr => x.1 ≤ l.length ∧ x.2.1.length ≤ x.1 ∧ piecesR l = x.2.1 ++ piecesF (l.length - x.1) x.1 (l.drop x.1) ∧ Frm w wr ∧ Row wr 4 x.2.2.1 x.2.1.length x.2.2.2 (x.2.1.flatMap Piece.cells) ∧ ∀ b ∈ rb x.2.2.1, w.heap.size ≤ b)
    (fun x => l.length - x.1) (0, [], none, 0) ⟨rfl, rfl, rfl, trivial⟩ ⟨by omega, by simp, by simp [piecesR], Frm.refl _, Row.nil _ _, rb_nil _⟩ ?_
  rintro ⟨at_, acc, q, cc⟩ wr ρ ⟨hat, hacc, hP, hfr, hR, hq⟩
  dsimp only at hat hacc hP hR hq ⊢
  repeat' (first | (first | (show WL _ _ _ _ _ _ _ _; (first | refine wlp ?_ | refine WL_nil ?_ | (show WL _ _ _ _ _ (Go.Oper.mk _ _ _ _ _ none :: _) _ _; first | refine wlpk ?_ | refine wl_load ?_ | refine wl_idxa ?_ | refine wl_fld ?_ | refine wl_idx ?_ | refine wl_len ?_ | refine wl_bin ?_ | refine wl_cnv ?_ | refine wl_slc ?_ | refine wl_una ?_ | refine wl_nilc ?_ | refine wl_mkf ?_) | refine wlpg ?_ | refine wlg_load ?_ | refine wlg_idxa ?_ | refine wlg_fld ?_ | refine wlg_idx ?_ | refine wlg_len ?_ | refine wlg_bin ?_ | refine wlg_cnv ?_ | refine wlg_slc ?_ | refine wlg_una ?_ | refine wlg_nilc ?_ | refine wlg_mkf ?_)) | (show thn _ _ _ _ _ _; (first | refine thn_normal ?_ | refine thn_ret ?_ | refine thn_exit ?_)) | (show thl _ _ _ _ _ _ _; (first | refine thl_normal ?_ | refine thl_ret ?_ | refine thl_exit ?_)) | (show WC _ _ _ _ _ _ _; (first | refine WC_seq ?_ | refine WC_region ?_ | refine WC_ret ?_ | refine WC_skip ?_ | refine WC_block ?_ | refine WC_exit ?_ | refine WC_label ?_ | refine WC_scope rfl ?_ | refine wcyes ?_ | refine wcno ?_)) | (show blk _ _ _ _ _ _; (first | refine blk_ret ?_ | refine blk_here ?_ | refine blk_on rfl ?_ | refine blk_normal ?_)) | (show ngt _ _ _ _ _; (first | refine ngt_normal ?_ | refine ngt_ret ?_ | refine ngt_exit ?_))) | (show WC _ _ _ _ _ _ _; first | refine WC_dec rfl (fun hc => ?_) (fun hc => ?_) | refine WC_cond rfl (fun hc => ?_) (fun hc => ?_)))
  · have hcs : ¬ c = at_ := by omega
    have hlt : at_ < l.length := by omega
    have hdl : (l.drop at_).length = l.length - at_ := by simp
    have hIm := hi.frm hfr
    have hp := hIm.part1 (c := c) (i' := at_) (by intro h; omega)
    rw [bs_drop] at hp
    refine wlpure (good_ok (l.drop at_) _ _ _ (by simp) (by omega) (by omega) (by omega) [] _ hp) fun w1 hw1 => ?_
    have hrg := goodR_rng (l.drop at_) (by omega)
    have hpr := pieceR_rng (l.drop at_) (by omega)
    have hfr1 := hfr.trans hw1
    replace hR := hR.frm hw1
    clear hIm hp
    generalize hG : goodR (l.drop at_) = G at *
    obtain ⟨k, all⟩ := G
    dsimp only at hrg ⊢
    refine sgo ?_
    refine wlbuild ?_
    refine wlalloc fun b w2 hb1 ho hf2 => ?_
    have hbw : w.heap.size ≤ b := Nat.le_trans hfr1.size hb1
    have hqb : ∀ x ∈ rb q, x ≠ b := fun x hx => by have := hR.lt x hx; omega
    have hfr2 := hfr1.trans hf2
    replace hR := hR.frm hf2
    refine wlstorea0 ho fun w3 ho3 hl3 => ?_
    have hfr3 := hfr2.step hl3 (by simpa using hbw)
    replace hR := hR.le hl3 (by simpa using hqb)
    refine WL_nil ?_; refine thn_normal ?_
    -- the bytes of a wrong one
    refine wcut (X := Unit) (fun _ => [(0, .slice p l.length c), (3, .slice q acc.length cc), (4, int at_), (5, int k), (6, .bool all), (7, ptrAt (pb b) 0)])
      (fun _ w4 => Frm w w4 ∧ Row w4 4 q acc.length cc (acc.flatMap Piece.cells) ∧ Own w4 b [i32 65533, int at_, int (if k = 0 then 1 else k : Nat), .bool all]) ?_ ?_
    · repeat' (first | (first | (show WL _ _ _ _ _ _ _ _; (first | refine wlp ?_ | refine WL_nil ?_ | (show WL _ _ _ _ _ (Go.Oper.mk _ _ _ _ _ none :: _) _ _; first | refine wlpk ?_ | refine wl_load ?_ | refine wl_idxa ?_ | refine wl_fld ?_ | refine wl_idx ?_ | refine wl_len ?_ | refine wl_bin ?_ | refine wl_cnv ?_ | refine wl_slc ?_ | refine wl_una ?_ | refine wl_nilc ?_ | refine wl_mkf ?_) | refine wlpg ?_ | refine wlg_load ?_ | refine wlg_idxa ?_ | refine wlg_fld ?_ | refine wlg_idx ?_ | refine wlg_len ?_ | refine wlg_bin ?_ | refine wlg_cnv ?_ | refine wlg_slc ?_ | refine wlg_una ?_ | refine wlg_nilc ?_ | refine wlg_mkf ?_)) | (show thn _ _ _ _ _ _; (first | refine thn_normal ?_ | refine thn_ret ?_ | refine thn_exit ?_)) | (show thl _ _ _ _ _ _ _; (first | refine thl_normal ?_ | refine thl_ret ?_ | refine thl_exit ?_)) | (show WC _ _ _ _ _ _ _; (first | refine WC_seq ?_ | refine WC_region ?_ | refine WC_ret ?_ | refine WC_skip ?_ | refine WC_block ?_ | refine WC_exit ?_ | refine WC_label ?_ | refine WC_scope rfl ?_ | refine wcyes ?_ | refine wcno ?_)) | (show blk _ _ _ _ _ _; (first | refine blk_ret ?_ | refine blk_here ?_ | refine blk_on rfl ?_ | refine blk_normal ?_)) | (show ngt _ _ _ _ _; (first | refine ngt_normal ?_ | refine ngt_ret ?_ | refine ngt_exit ?_))) | (show WC _ _ _ _ _ _ _; first | refine WC_dec rfl (fun hc => ?_) (fun hc => ?_) | refine WC_cond rfl (fun hc => ?_) (fun hc => ?_)))
      · refine wlst_int ho3 fun w4 ho4 hl4 => ?_
        refine sgo ?_
        refine ⟨(), ⟨rfl, rfl, rfl, rfl, rfl, rfl, trivial⟩, hfr3.step hl4 (by simpa using hbw), hR.le hl4 (by simpa using hqb), ?_⟩
        rw [if_pos (by omega)]; exact ho4
      · refine ⟨(), ⟨rfl, rfl, rfl, rfl, rfl, rfl, trivial⟩, hfr3, hR, ?_⟩
        rw [if_neg (by omega)]; exact ho3
    clear hR ho3 ho
    rintro ⟨⟩ w4 ρ4 ⟨hfr4, hR4, ho4⟩
    have hpc : pieceR (l.drop at_) = ((if all then (accR (l.drop at_) (k - 1) 1 (firstR (at0 (l.drop at_) 0) k) : Nat) else 65533 : Int), if k = 0 then 1 else k, all) := by simp only [pieceR, hG]
    rw [hpc] at hpr
    dsimp only at hpr
    generalize hsz : (if k = 0 then 1 else k) = sz at *
    -- the rune of a right one
    refine wcut (X := Int) (fun _ => [(0, .slice p l.length c), (3, .slice q acc.length cc), (4, int at_), (7, ptrAt (pb b) 0)])
      (fun r w5 => r = (if all then (accR (l.drop at_) (k - 1) 1 (firstR (at0 (l.drop at_) 0) k) : Nat) else 65533 : Int) ∧ Frm w w5 ∧ Row w5 4 q acc.length cc (acc.flatMap Piece.cells) ∧ Own w5 b [i32 r, int at_, int sz, .bool all]) ?_ ?_
    · have hIm4 := hi.frm hfr4
      refine sgo ?_
      (show WC _ _ _ _ _ _ _; first | refine WC_dec rfl (fun hc => ?_) (fun hc => ?_) | refine WC_cond rfl (fun hc => ?_) (fun hc => ?_))
      · have hall := hc
        have hk4 := hrg.2 hc
        -- the first byte
        refine WC_seq ?_; refine WC_region ?_; (repeat (first | refine wlp ?_ | refine WL_nil ?_ | (show WL _ _ _ _ _ (Go.Oper.mk _ _ _ _ _ none :: _) _ _; first | refine wlpk ?_ | refine wl_load ?_ | refine wl_idxa ?_ | refine wl_fld ?_ | refine wl_idx ?_ | refine wl_len ?_ | refine wl_bin ?_ | refine wl_cnv ?_ | refine wl_slc ?_ | refine wl_una ?_ | refine wl_nilc ?_ | refine wl_mkf ?_) | refine wlpg ?_ | refine wlg_load ?_ | refine wlg_idxa ?_ | refine wlg_fld ?_ | refine wlg_idx ?_ | refine wlg_len ?_ | refine wlg_bin ?_ | refine wlg_cnv ?_ | refine wlg_slc ?_ | refine wlg_una ?_ | refine wlg_nilc ?_ | refine wlg_mkf ?_)); refine thn_normal ?_
        refine wcut (X := Nat) (fun r => [(0, .slice p l.length c), (3, .slice q acc.length cc), (4, int at_), (5, int k), (7, ptrAt (pb b) 0), (8, i32 r)])
          (fun r w5 => r = firstR (at0 (l.drop at_) 0) k ∧ w5 = w4) ?_ ?_
        · have hat0 : at0 (l.drop at_) 0 = at0 l at_ := by simp [at0]
          rw [hat0]
          have hbt := at0_lt l at_
          repeat' (first | (first | (show WL _ _ _ _ _ _ _ _; (first | refine wlp ?_ | refine WL_nil ?_ | (show WL _ _ _ _ _ (Go.Oper.mk _ _ _ _ _ none :: _) _ _; first | refine wlpk ?_ | refine wl_load ?_ | refine wl_idxa ?_ | refine wl_fld ?_ | refine wl_idx ?_ | refine wl_len ?_ | refine wl_bin ?_ | refine wl_cnv ?_ | refine wl_slc ?_ | refine wl_una ?_ | refine wl_nilc ?_ | refine wl_mkf ?_) | refine wlpg ?_ | refine wlg_load ?_ | refine wlg_idxa ?_ | refine wlg_fld ?_ | refine wlg_idx ?_ | refine wlg_len ?_ | refine wlg_bin ?_ | refine wlg_cnv ?_ | refine wlg_slc ?_ | refine wlg_una ?_ | refine wlg_nilc ?_ | refine wlg_mkf ?_)) | (show thn _ _ _ _ _ _; (first | refine thn_normal ?_ | refine thn_ret ?_ | refine thn_exit ?_)) | (show thl _ _ _ _ _ _ _; (first | refine thl_normal ?_ | refine thl_ret ?_ | refine thl_exit ?_)) | (show WC _ _ _ _ _ _ _; (first | refine WC_seq ?_ | refine WC_region ?_ | refine WC_ret ?_ | refine WC_skip ?_ | refine WC_block ?_ | refine WC_exit ?_ | refine WC_label ?_ | refine WC_scope rfl ?_ | refine wcyes ?_ | refine wcno ?_)) | (show blk _ _ _ _ _ _; (first | refine blk_ret ?_ | refine blk_here ?_ | refine blk_on rfl ?_ | refine blk_normal ?_)) | (show ngt _ _ _ _ _; (first | refine ngt_normal ?_ | refine ngt_ret ?_ | refine ngt_exit ?_))) | (show WC _ _ _ _ _ _ _; first | refine WC_dec rfl (fun hc => ?_) (fun hc => ?_) | refine WC_cond rfl (fun hc => ?_) (fun hc => ?_)))
          · refine ⟨at0 l at_ % 32, ⟨rfl, rfl, rfl, rfl, rfl, ?_, trivial⟩, ?_, rfl⟩
            · show i32 _ = i32 _
              exact congrArg i32 (by simp only [at0]; omega)
            · rw [firstR, if_pos (by omega)]
          · refine ⟨at0 l at_ % 16, ⟨rfl, rfl, rfl, rfl, rfl, ?_, trivial⟩, ?_, rfl⟩
            · show i32 _ = i32 _
              exact congrArg i32 (by simp only [at0]; omega)
            · rw [firstR, if_neg (by omega), if_pos (by omega)]
          · refine ⟨at0 l at_ % 8, ⟨rfl, rfl, rfl, rfl, rfl, ?_, trivial⟩, ?_, rfl⟩
            · show i32 _ = i32 _
              exact congrArg i32 (by simp only [at0]; omega)
            · rw [firstR, if_neg (by omega), if_neg (by omega), if_pos (by omega)]
          · refine ⟨at0 l at_, ⟨rfl, rfl, rfl, rfl, rfl, rfl, trivial⟩, ?_, rfl⟩
            rw [firstR, if_neg (by omega), if_neg (by omega), if_neg (by omega)]
        · rintro r0 w5 ρ5 ⟨rfl, rfl⟩
          have hf32 : k ≠ 1 → firstR (at0 (l.drop at_) 0) k < 32 * 64 ^ 0 := by
            intro hk1
            have hbt := at0_lt (l.drop at_) 0
            unfold firstR
            repeat' split
            all_goals omega
          refine sgo ?_
          generalize hF : firstR (at0 (l.drop at_) 0) k = r0 at *
          refine wcloop (X := Nat × Nat) (fun x => [(0, .slice p l.length c), (3, .slice q acc.length cc), (4, int at_), (5, int k), (7, ptrAt (pb b) 0), (8, i32 x.2), (9, int x.1)])
            (fun x wx => wx = w5 ∧ 1 ≤ x.1 ∧ x.1 ≤ k ∧ (k ≠ 1 → x.2 < 32 * 64 ^ (x.1 - 1)) ∧ accR (l.drop at_) (k - 1) 1 r0 = accR (l.drop at_) (k - x.1) x.1 x.2)
            (fun x => k - x.1) (1, r0) ⟨rfl, rfl, rfl, rfl, rfl, rfl, rfl, trivial⟩ ⟨rfl, by omega, by omega, hf32, rfl⟩ ?_
          rintro ⟨i, r⟩ wx ρx ⟨rfl, hi1, hik, hr, hacr⟩
          dsimp only at hi1 hik hr hacr ⊢
          have hk3 := hk4.2.2
          have hr3 : i < k → r < 131072 := by
            intro hlt2
            have hr := hr (by omega)
            have hpw : i = 1 ∨ i = 2 ∨ i = 3 := by omega
            rcases hpw with h | h | h <;> subst h <;> simp at hr <;> omega
          refine sgo ?_
          (show WC _ _ _ _ _ _ _; first | refine WC_dec rfl (fun hc => ?_) (fun hc => ?_) | refine WC_cond rfl (fun hc => ?_) (fun hc => ?_))
          · have hr4 := hr3 (by omega)
            have hbt := at0_lt l (at_ + i)
            refine sgo ?_
            refine ⟨(i + 1, r * 64 + at0 (l.drop at_) i % 64), ⟨rfl, rfl, rfl, rfl, rfl, ?_, rfl, trivial⟩, ⟨rfl, by omega, by omega, ?_, ?_⟩, by omega⟩
            · show i32 _ = i32 _
              exact congrArg i32 (by simp only [at0, List.getElem?_drop]; omega)
            · intro hk1
              have hr := hr hk1
              have hpw : i = 1 ∨ i = 2 ∨ i = 3 := by omega
              rcases hpw with h | h | h <;> subst h <;> simp at hr ⊢ <;> omega
            · rw [hacr, show k - i = (k - (i + 1)) + 1 from by omega, accR]
          · refine sgo ?_
            refine wlst_int ho4 fun w6 ho6 hl6 => ?_
            refine sgo ?_
            refine ⟨r, ⟨rfl, rfl, rfl, rfl, trivial⟩, ?_, hfr4.step hl6 (by simpa using hbw), hR4.le hl6 (by simpa using hqb), ho6⟩
            rw [hall]
            have hki : k - i = 0 := by omega
            rw [hacr, hki, accR]; simp
      · refine sgo ?_
        refine ⟨65533, ⟨rfl, rfl, rfl, rfl, trivial⟩, ?_, hfr4, hR4, ho4⟩
        rw [hc]; rfl
    clear hR4 ho4
    rintro r w5 ρ5 ⟨hr, hfr5, hR5, ho5⟩
    refine sgo ?_
    refine wlb1a fun b2 w6 hb2 ho6 hf6 => ?_
    refine wlapp (hR5.frm hf6) ho6.sg fun q' cc' w7 hR7 hl7 => ?_
    have hfr6 := hfr5.trans hf6
    have hq' := hl7.fresh hfr6 hq
    have hfr7 := hfr6.step hl7.1 hq
    have ho7 : Own w7 b [i32 r, int at_, int sz, .bool all] := (ho5.frm hf6).le hl7.1 (fun hm => hqb b hm rfl)
    repeat' (first | (first | (show WL _ _ _ _ _ _ _ _; (first | refine wlp ?_ | refine WL_nil ?_ | (show WL _ _ _ _ _ (Go.Oper.mk _ _ _ _ _ none :: _) _ _; first | refine wlpk ?_ | refine wl_load ?_ | refine wl_idxa ?_ | refine wl_fld ?_ | refine wl_idx ?_ | refine wl_len ?_ | refine wl_bin ?_ | refine wl_cnv ?_ | refine wl_slc ?_ | refine wl_una ?_ | refine wl_nilc ?_ | refine wl_mkf ?_) | refine wlpg ?_ | refine wlg_load ?_ | refine wlg_idxa ?_ | refine wlg_fld ?_ | refine wlg_idx ?_ | refine wlg_len ?_ | refine wlg_bin ?_ | refine wlg_cnv ?_ | refine wlg_slc ?_ | refine wlg_una ?_ | refine wlg_nilc ?_ | refine wlg_mkf ?_)) | (show thn _ _ _ _ _ _; (first | refine thn_normal ?_ | refine thn_ret ?_ | refine thn_exit ?_)) | (show thl _ _ _ _ _ _ _; (first | refine thl_normal ?_ | refine thl_ret ?_ | refine thl_exit ?_)) | (show WC _ _ _ _ _ _ _; (first | refine WC_seq ?_ | refine WC_region ?_ | refine WC_ret ?_ | refine WC_skip ?_ | refine WC_block ?_ | refine WC_exit ?_ | refine WC_label ?_ | refine WC_scope rfl ?_ | refine wcyes ?_ | refine wcno ?_)) | (show blk _ _ _ _ _ _; (first | refine blk_ret ?_ | refine blk_here ?_ | refine blk_on rfl ?_ | refine blk_normal ?_)) | (show ngt _ _ _ _ _; (first | refine ngt_normal ?_ | refine ngt_ret ?_ | refine ngt_exit ?_))) | (show WC _ _ _ _ _ _ _; first | refine WC_dec rfl (fun hc => ?_) (fun hc => ?_) | refine WC_cond rfl (fun hc => ?_) (fun hc => ?_)))
    refine ⟨(at_ + sz, acc ++ [⟨r, at_, sz, all⟩], q', cc'), ⟨rfl, ?_, rfl, trivial⟩, ⟨by dsimp only; omega, by simp; omega, ?_, hfr7, ?_, hq'⟩, by dsimp only; omega⟩
    · simp only [List.length_append, List.length_singleton]; rfl
    · dsimp only
      rw [hP, show l.length - at_ = (l.length - at_ - 1) + 1 from by omega, piecesF, if_neg (by rw [← List.length_eq_zero_iff]; omega), hpc, List.append_assoc]
      dsimp only
      rw [List.drop_drop, hr]
      congr 1
      rw [List.singleton_append]
      congr 1
      refine piecesF_more _ _ _ _ ?_ ?_ <;> simp <;> omega
    · simpa [Piece.cells, List.flatMap_append] using hR7
  · (first | refine fp1 (.inl rfl) rfl rfl ?_ | refine fp2 (.inl rfl) rfl rfl rfl ?_ | refine fp3 (.inl rfl) rfl rfl rfl rfl ?_ | refine fp0 (.inr rfl) rfl ?_ | refine fp0 (.inl rfl) rfl ?_ | refine fp1 (.inr rfl) rfl rfl ?_)
    refine ⟨hfr, q, cc, ?_, ?_, hq⟩
    · have e0 : l.length - at_ = 0 := by omega
      rw [hP, e0, piecesF, List.append_nil]; rfl
    · have e0 : l.length - at_ = 0 := by omega
      rw [hP, e0, piecesF, List.append_nil]; exact hR
end Go.Proofs.Ytffaoehhhdcjjaa
