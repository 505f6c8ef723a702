/-
  Package utf: Mend.
-/
import Derived.Test.YtffaoehhhdcjjaaSvRunesB
import Derived.Laws.Cover4
set_option linter.unusedSimpArgs false
set_option linter.unusedVariables false
set_option linter.unnecessarySimpa false
namespace Go.Proofs.Ytffaoehhhdcjjaa
open Go Go.Sv Go.RowKit

theorem sec_true (c d : Nat) (h : 128 ≤ d ∧ d ≤ 191 ∧ (c = 224 → 160 ≤ d) ∧ (c = 237 → d ≤ 159) ∧ (c = 240 → 144 ≤ d) ∧ (c = 244 → d ≤ 143)) : secondR c d = true := by
  unfold secondR
  repeat' split
  all_goals simp only [Bool.and_eq_true, decide_eq_true_eq]
  all_goals omega
theorem right1 (l : List UInt8) (h : at0 l 0 < 128) : (pieceR l).2.2 = true := by
  have hs : sizeR (at0 l 0) = 1 := by unfold sizeR; rw [if_pos (by omega)]
  show (goodR l).2 = true
  simp [goodR, hs, goodF]
theorem right2 (l : List UInt8) (hl : 1 < l.length) (h : 194 ≤ at0 l 0 ∧ at0 l 0 ≤ 223 ∧ 128 ≤ at0 l 1 ∧ at0 l 1 ≤ 191) : (pieceR l).2.2 = true := by
  have hs : sizeR (at0 l 0) = 2 := by unfold sizeR; rw [if_neg (by omega), if_pos (by omega)]
  have h2 := sec_true (at0 l 0) (at0 l 1) (by omega)
  show (goodR l).2 = true
  simp [goodR, hs, goodF, hl, h2]
theorem right3 (l : List UInt8) (hl : 2 < l.length) (h : 224 ≤ at0 l 0 ∧ at0 l 0 ≤ 239 ∧ 128 ≤ at0 l 1 ∧ at0 l 1 ≤ 191 ∧ (at0 l 0 = 224 → 160 ≤ at0 l 1) ∧ (at0 l 0 = 237 → at0 l 1 ≤ 159) ∧ 128 ≤ at0 l 2 ∧ at0 l 2 ≤ 191) : (pieceR l).2.2 = true := by
  have hs : sizeR (at0 l 0) = 3 := by unfold sizeR; rw [if_neg (by omega), if_neg (by omega), if_pos (by omega)]
  have h2 := sec_true (at0 l 0) (at0 l 1) (by omega)
  have h3 : ¬ (at0 l 2 < 128 ∨ 191 < at0 l 2) := by omega
  show (goodR l).2 = true
  simp [goodR, hs, goodF, hl, h2, h3, show 1 < l.length by omega]
  try omega
theorem right4 (l : List UInt8) (hl : 3 < l.length) (h : 240 ≤ at0 l 0 ∧ at0 l 0 ≤ 244 ∧ 128 ≤ at0 l 1 ∧ at0 l 1 ≤ 191 ∧ (at0 l 0 = 240 → 144 ≤ at0 l 1) ∧ (at0 l 0 = 244 → at0 l 1 ≤ 143) ∧ 128 ≤ at0 l 2 ∧ at0 l 2 ≤ 191 ∧ 128 ≤ at0 l 3 ∧ at0 l 3 ≤ 191) : (pieceR l).2.2 = true := by
  have hs : sizeR (at0 l 0) = 4 := by unfold sizeR; rw [if_neg (by omega), if_neg (by omega), if_neg (by omega), if_pos (by omega)]
  have h2 := sec_true (at0 l 0) (at0 l 1) (by omega)
  have h3 : ¬ (at0 l 2 < 128 ∨ 191 < at0 l 2) := by omega
  have h4 : ¬ (at0 l 3 < 128 ∨ 191 < at0 l 3) := by omega
  show (goodR l).2 = true
  simp [goodR, hs, goodF, hl, h2, h3, h4, show 1 < l.length by omega, show 2 < l.length by omega]
  try omega
theorem decode_wrong (l : List UInt8) (i : Nat) (hw : (pieceR (l.drop i)).2.2 = false) : Utf8.decode ⟨l.toArray⟩ i = (65533, 1) := by
  have hd : ∀ k, (k < (l.drop i).length) = (i + k < l.length) := fun k => by simp; omega
  have no : ∀ {p : Prop}, (p → (pieceR (l.drop i)).2.2 = true) → ¬ p := fun h hp => by rw [h hp] at hw; cases hw
  have r1 := no (right1 (l.drop i))
  have r2 := no (fun h : _ ∧ _ => right2 (l.drop i) h.1 h.2)
  have r3 := no (fun h : _ ∧ _ => right3 (l.drop i) h.1 h.2)
  have r4 := no (fun h : _ ∧ _ => right4 (l.drop i) h.1 h.2)
  rw [hd] at r2 r3 r4
  unfold Utf8.decode
  simp only [get_at0, size_str]
  have hb0 := at0_lt (l.drop i) 0
  have hb1 := at0_lt (l.drop i) 1
  have hb2 := at0_lt (l.drop i) 2
  have hb3 := at0_lt (l.drop i) 3
  clear hd no hw
  generalize at0 (l.drop i) 0 = b0 at *
  generalize at0 (l.drop i) 1 = b1 at *
  generalize at0 (l.drop i) 2 = b2 at *
  generalize at0 (l.drop i) 3 = b3 at *
  rw [if_neg r1]
  split
  · rename_i h
    simp only [Bool.and_eq_true, beq_iff_eq, decide_eq_true_eq] at h
    rw [if_neg (by omega)]; rfl
  split
  · rename_i h
    simp only [Bool.and_eq_true, beq_iff_eq, decide_eq_true_eq] at h
    rw [if_neg]
    · rfl
    · simp only [Utf8.valid, Bool.and_eq_true, Bool.or_eq_true, decide_eq_true_eq]
      omega
  split
  · rename_i h
    simp only [Bool.and_eq_true, beq_iff_eq, decide_eq_true_eq] at h
    rw [if_neg]
    · rfl
    · simp only [Utf8.valid, Bool.and_eq_true, Bool.or_eq_true, decide_eq_true_eq]
      omega
  · rfl
theorem valid_back (l : List UInt8) (h0 : 0 < l.length) (hr : (pieceR l).2.2 = true) (h : validR (l.drop (pieceR l).2.1) = true) : validR l = true := by
  have hp := readS_piece l h0
  have hv := validS_cons l h0
  have hw := (whatR_zero l).2 hr
  rw [valid_eq, valid_eq, hp] at hv
  dsimp only at hv
  rw [if_neg (by simpa using hw)] at hv
  rw [hv]; exact h
/-- the bytes of U+FFFD are right -/
theorem fffd_right (l : List UInt8) (h : l.take 3 = [239, 191, 189]) : (pieceR l).2.2 = true := by
  match l, h with
  | a :: b :: c :: l', h =>
    simp only [List.take_succ_cons, List.take_zero, List.cons.injEq, and_true] at h
    obtain ⟨rfl, rfl, rfl⟩ := h
    have e0 : at0 (239 :: 191 :: 189 :: l') 0 = 239 := rfl
    have e1 : at0 (239 :: 191 :: 189 :: l') 1 = 191 := rfl
    have e2 : at0 (239 :: 191 :: 189 :: l') 2 = 189 := rfl
    exact right3 _ (by simp) (by omega)

/-! ## runes and texts -/
theorem encode_good {r : Nat} (hg : Good r) : Utf8.encode (r : Int) = ⟨(encR r).toArray⟩ := by
  have hv : Utf8.valid (r : Int) = true := by
    unfold Good at hg
    simp only [Utf8.valid, Bool.and_eq_true, Bool.or_eq_true, decide_eq_true_eq]
    omega
  unfold Utf8.encode
  rw [if_pos hv]
  simp only [Int.toNat_natCast]
  unfold encR encN
  split
  · rfl
  · split
    · rfl
    · split
      · rfl
      · rfl
theorem runesBytes_good : ∀ (rs : List Nat) (acc : List UInt8), (∀ r ∈ rs, Good r) → (rs.map fun n : Nat => (n : Int)).foldl (fun r n => r ++ Utf8.encode n) ⟨acc.toArray⟩ = ⟨(acc ++ rs.flatMap encR).toArray⟩
  | [], acc, _ => by simp
  | r :: rs, acc, h => by
    simp only [List.map_cons, List.foldl_cons, List.flatMap_cons]
    rw [encode_good (h r List.mem_cons_self)]
    have e : (ByteArray.mk acc.toArray ++ ByteArray.mk (encR r).toArray) = ⟨(acc ++ encR r).toArray⟩ := by
      apply ByteArray.ext
      simp
    rw [e, runesBytes_good rs (acc ++ encR r) fun x hx => h x (List.mem_cons_of_mem _ hx), List.append_assoc]
section
variable {P : Program} {w : World} {ty t t' e : TypeId} {pos : String} {af : Array Edge} {x : Operand} {p : Option Addr} {c : Nat}
theorem y_r2s {σ : Env} {d : Option Tmp} {g : Option (Nat × Bool)} {rs : List Nat} [hu : Und P t (.slice e)] [hu' : Und P t' .string] [he : Und P e (.int .i32)] (hg : ∀ r ∈ rs, Good r) (hs : Sg w p (rs32 rs)) (hx : evl σ x = .slice p rs.length c) :
    Y P σ ⟨d, .convert t t' x, ty, pos, af, g⟩ w (str (rs.flatMap encR)) w := by
  refine Y.val ?_
  simp only [execOp, hx]
  rw [Sem.run_bind]
  have e0 : (ByteArray.empty : ByteArray) = ⟨([] : List UInt8).toArray⟩ := rfl
  rcases hs with h0 | ⟨a, rfl, h1⟩
  · have hs0 : rs = [] := by simpa [rs32] using h0
    subst hs0
    cases p with
    | none => rw [run_convert_runes_nil w t t' e _ _ hu.ok he.ok hu'.ok]; rfl
    | some a =>
      rw [run_convert_runes w t t' e a _ _ [] (by simp) hu.ok he.ok hu'.ok (by simp)]
      rfl
  · have hc := run_convert_runes (P := P) w t t' e a rs.length c (rs.map fun n : Nat => (n : Int)) (by simp) hu.ok he.ok hu'.ok (fun j hj => by
      have hj' : j < rs.length := by simpa using hj
      rw [h1 j (by simpa [rs32] using hj')]
      simp [rs32, hj', List.getD])
    rw [hc]
    have e1 : (rs.map fun n : Nat => (n : Int)).take rs.length = rs.map fun n : Nat => (n : Int) := List.take_of_length_le (by simp)
    rw [e1]
    have := runesBytes_good rs [] hg
    unfold runesBytes
    rw [e0, this]
    rfl
end
/-- the runes of a right text, as the language has them -/
theorem runesFrom_valid (l : List UInt8) : ∀ (k i : Nat) (acc : Array Value), l.length ≤ i + k → i ≤ l.length → validR (l.drop i) = true → Conv.runesFrom ⟨l.toArray⟩ k i acc = acc ++ (rs32 (runesN (l.drop i))).toArray
  | 0, i, acc, h1, h2, _ => by
    have : l.drop i = [] := List.drop_eq_nil_of_le (by omega)
    rw [this]
    simp [Conv.runesFrom, runesN_nil, rs32]
  | k + 1, i, acc, h1, h2, hv => by
    unfold Conv.runesFrom
    rw [size_str]
    by_cases hi : i < l.length
    · have hpos : 0 < (l.drop i).length := by simp; omega
      obtain ⟨hr, hv2⟩ := valid_step (l.drop i) hpos hv
      have hpr := pieceR_rng (l.drop i) hpos
      have hdl : (l.drop i).length = l.length - i := by simp
      rw [if_pos hi]
      simp only [decode_right l i hr]
      rw [List.drop_drop] at hv2
      rw [runesFrom_valid l k _ _ (by omega) (by omega) hv2, runesN_cons (l.drop i) hpos, List.drop_drop]
      simp [rs32]
    · have : l.drop i = [] := List.drop_eq_nil_of_le (by omega)
      rw [if_neg hi, this]
      simp [runesN_nil, rs32]
section
variable {P : Program} {n : Nat} {ds : Ctx} {ops : Array Oper} {Q : Exit → Ctx → Env → World → Prop} {rest : List Oper} {σ : GE} {w : World} {d : Nat} {ty t t' e : TypeId} {pos : String} {af : Array Edge} {x : Operand}
/-- []rune(s), of a right text -/
theorem wls2r [hu : Und P t .string] [hu' : Und P t' (.slice e)] [he : Und P e (.int .i32)] {s : List UInt8} (hv : validR s = true) (hs : s.length ≤ 4611686018427387904)
    (h : ∀ b c w', w.heap.size ≤ b → Row w' 1 (pb b) (runesN s).length c (rs32 (runesN s)) → Frm w w' → WL P n ds ops Q rest (real (updG σ d ⟨.slice (pb b) (runesN s).length c, true⟩)) w') (hx : evl (real σ) x = str s := by rfl) :
    WL P n ds ops Q (⟨some d, .convert t t' x, ty, pos, af, none⟩ :: rest) (real σ) w := by
  have hel : Conv.runesFrom ⟨s.toArray⟩ s.length 0 #[] = (rs32 (runesN s)).toArray := by
    have := runesFrom_valid s s.length 0 #[] (by omega) (by omega) (by simpa using hv)
    simpa using this
  have hlen : (rs32 (runesN s)).length = (runesN s).length := by simp [rs32]
  have hrl := runesN_len s
  let c := grownCap w (runesN s).length 0 e
  let C : Array Value := (rs32 (runesN s)).toArray ++ Array.replicate (c - (runesN s).length) (.int .i32 0)
  have hge : (runesN s).length ≤ c := grownCap_ge w _ 0 e
  have hcm : c ≤ maxLen := grownCap_le_maxLen w _ 0 e (by unfold maxLen; omega)
  have hsz : C.size = c := by simp [C, hlen]; omega
  refine wl (h w.heap.size c (w.drew.alloc (.cells C e)) (Nat.le_refl _) ?_ ((frm_drew w).trans (frm_alloc w.drew _))) (Y.val ?_)
  · refine ⟨by rw [hlen]; omega, .inr ⟨w.heap.size, 0, C, e, rfl, heap_alloc_new w.drew _, hge, by unfold maxLen at hcm; omega, by omega, ?_⟩⟩
    simp only [List.drop_zero, Nat.mul_one, C, Array.toList_append]
    rw [← hlen]
    exact List.take_left
  · have e1 : (ByteArray.mk s.toArray).size = s.length := size_str s
    simp only [execOp, hx, convert, underlying, Sem.run_bind, run_program, Result.andThen_ok, hu.ok, hu'.ok, he.ok, Sem.run_pure, Conv.stringToRunes, e1, hel, run_choose, Question.forced, newRow, run_newObj]
    simp only [List.size_toArray, hlen]
    rfl
end

set_option maxHeartbeats 2000000 in
theorem mend_ok (l : List UInt8) (hb : l.length ≤ 1073741824) (w : World) : PureC Try.prog 24 #[str l] w (str (mendR l)) := by
  refine enter (l := [str l]) Try.func24 rfl Try.ntmps24 (by kernel_rfl) rfl ?_
  refine sgo ?_
  refine wlrange fun r w1 hr1 hI1 hf1 => ?_
  refine sgo ?_
  refine wcloop (X := Nat × Bool) (fun x => [(0, str l), (3, .bool x.2), (7, .pointer (pb r))])
    (fun x wr => x.1 ≤ l.length ∧ It wr r l x.1 ∧ Frm w wr ∧ (x.2 = true → validR (l.drop x.1) = true → validR l = true)) (fun x => l.length - x.1) (0, true) ⟨rfl, rfl, rfl, trivial⟩ ⟨by omega, hI1, hf1, fun _ h => h⟩ ?_
  rintro ⟨i, v⟩ wr ρ ⟨hil, hIt, hfr, hv⟩
  dsimp only at hil hIt hv ⊢
  refine sgo ?_
  by_cases hi : i < l.length
  · refine wlnext_yes hIt hi fun w2 hI2 hl2 => ?_
    have hfr2 := hfr.step hl2 (by intro x hx; simp only [List.mem_singleton] at hx; subst hx; exact hr1)
    have hpos : 0 < (l.drop i).length := by simp; omega
    have hpr := pieceR_rng (l.drop i) hpos
    have hdl : (l.drop i).length = l.length - i := by simp
    cases hp : (pieceR (l.drop i)).2.2 with
    | true =>
      have hd := decode_right l i (right_of _ hp)
      have hvb := valid_back (l.drop i) hpos hp
      rw [List.drop_drop] at hvb
      simp only [hd] at hI2 ⊢
      generalize (pieceR (l.drop i)).2.1 = m at *
      generalize (pieceR (l.drop i)).1.toNat = rr at *
      refine sgo ?_
      (show WC _ _ _ _ _ _ _; first | refine WC_dec rfl (fun hc => ?_) (fun hc => ?_) | refine WC_cond rfl (fun hc => ?_) (fun hc => ?_))
      · refine sgo ?_
        exact ⟨(i + m, false), ⟨rfl, rfl, rfl, trivial⟩, ⟨by dsimp only; omega, hI2, hfr2, fun h => by cases h⟩, by dsimp only; omega⟩
      · refine sgo ?_
        exact ⟨(i + m, v), ⟨rfl, rfl, rfl, trivial⟩, ⟨by dsimp only; omega, hI2, hfr2, fun h1 h2 => hv h1 (hvb h2)⟩, by dsimp only; omega⟩
    | false =>
      have hd := decode_wrong l i hp
      simp only [hd] at hI2 ⊢
      refine sgo ?_
      (show WC _ _ _ _ _ _ _; first | refine WC_dec rfl (fun hc => ?_) (fun hc => ?_) | refine WC_cond rfl (fun hc => ?_) (fun hc => ?_))
      · refine sgo ?_
        exact ⟨(i + 1, false), ⟨rfl, rfl, rfl, trivial⟩, ⟨by dsimp only; omega, hI2, hfr2, fun h => by cases h⟩, by dsimp only; omega⟩
      · exfalso
        simp only [pkb_and, pkb_or, Bool.and_eq_false_iff, Bool.or_eq_false_iff, decide_eq_false_iff_not] at hc
        rcases hc with hc | ⟨h1, h2⟩
        · exact hc rfl
        · have h3 : (l.drop i).take 3 = [239, 191, 189] := by
            have := Decidable.not_not.1 h2
            rwa [show i + 3 - i = 3 by omega] at this
          rw [fffd_right _ h3] at hp
          cases hp
  · refine wlnext_no hIt (by omega) ?_
    rw [List.drop_eq_nil_of_le (by omega)] at hv
    refine sgo ?_
    cases v
    · refine sgo ?_
      refine wls2b rfl (by omega) fun b c w3 hb3 hc1 hc2 hI3 hf3 => ?_
      refine wlcall (runes_ok l _ _ _ rfl hb _ hI3) ?_
      rintro v w4 ⟨hf4, q, cc, rfl, hR, hq⟩
      have hf := (hfr.trans hf3).trans hf4
      refine wl ?_ (y_r2s (runesN_good l) hR.sg rfl)
      refine sgo ?_
      (first | refine fp1 (.inl rfl) rfl rfl ?_ | refine fp2 (.inl rfl) rfl rfl rfl ?_ | refine fp3 (.inl rfl) rfl rfl rfl rfl ?_ | refine fp0 (.inr rfl) rfl ?_ | refine fp0 (.inl rfl) rfl ?_ | refine fp1 (.inr rfl) rfl rfl ?_); refine ⟨?_, by (first | exact Frm.refl _ | assumption | (refine Frm.trans ?_ (by assumption); first | exact Frm.refl _ | assumption))⟩; (try simp only [realB, rv_true, Nat.reduceBEq, cond_true, cond_false, entG, real_lif, updGL])
      rfl
    · refine sgo ?_
      (first | refine fp1 (.inl rfl) rfl rfl ?_ | refine fp2 (.inl rfl) rfl rfl rfl ?_ | refine fp3 (.inl rfl) rfl rfl rfl rfl ?_ | refine fp0 (.inr rfl) rfl ?_ | refine fp0 (.inl rfl) rfl ?_ | refine fp1 (.inr rfl) rfl rfl ?_); refine ⟨?_, by (first | exact Frm.refl _ | assumption | (refine Frm.trans ?_ (by assumption); first | exact Frm.refl _ | assumption))⟩; (try simp only [realB, rv_true, Nat.reduceBEq, cond_true, cond_false, entG, real_lif, updGL])
      rw [mendR_id (hv rfl rfl)]
end Go.Proofs.Ytffaoehhhdcjjaa
