/-
  A rune's bytes: utf8.AppendRune, and the builder's WriteRune.
-/
import Derived.Test.YtfomfplddncakaaSvStr
import Derived.Test.YtfomfplddncakaaSvBs
namespace Go.Proofs.Ytfomfplddncakaa
open Go Go.Sv Go.RowKit

/-- a rune's bytes -/
def encN (r : Nat) : List Nat :=
  if r < 128 then [r]
  else if r < 2048 then [192 + r / 64, 128 + r % 64]
  else if r < 65536 then [224 + r / 4096, 128 + r / 64 % 64, 128 + r % 64]
  else [240 + r / 262144, 128 + r / 4096 % 64, 128 + r / 64 % 64, 128 + r % 64]
def encR (r : Nat) : List UInt8 := (encN r).map UInt8.ofNat
theorem bs_ofNat {l : List Nat} (h : ∀ x ∈ l, x < 256) : bs (l.map UInt8.ofNat) = l.map fun n : Nat => byt n := by
  unfold bs
  rw [List.map_map]
  refine List.map_congr_left fun x hx => ?_
  have := h x hx
  simp only [Function.comp]
  rw [UInt8.toNat_ofNat_of_lt' (by simpa using this)]
theorem encN_lt (r : Nat) (h : r < 1114112) : ∀ x ∈ encN r, x < 256 := by
  unfold encN
  intro x hx
  repeat' split at hx
  all_goals simp only [List.mem_cons, List.not_mem_nil, or_false] at hx
  all_goals omega
theorem bs_encR (r : Nat) (h : r < 1114112) : bs (encR r) = (encN r).map fun n : Nat => byt n := bs_ofNat (encN_lt r h)
theorem encR_len (r : Nat) : (encR r).length = (encN r).length := by simp [encR]

theorem wr8 (n : Nat) : IntKind.u8.wrap (n : Int) = ((n % 256 : Nat) : Int) := by simp [IntKind.wrap, IntKind.signed, IntKind.bits]
theorem wr32 (n : Nat) (h : n < 4294967296) : IntKind.u32.wrap (n : Int) = (n : Int) := wrap_in (by simp [IntKind.min, IntKind.max, IntKind.signed, IntKind.bits]; omega)
theorem fd (r k : Nat) (hk : 0 < k) : (r : Int).fdiv (k : Int) = ((r / k : Nat) : Int) := by
  rw [Int.fdiv_eq_ediv_of_nonneg _ (by omega)]; rfl
theorem sh6 (r : Nat) : (r : Int).fdiv (2 ^ (min (6 : Int).toNat IntKind.i32.bits)) = ((r / 64 : Nat) : Int) := fd r 64 (by decide)
theorem sh12 (r : Nat) : (r : Int).fdiv (2 ^ (min (12 : Int).toNat IntKind.i32.bits)) = ((r / 4096 : Nat) : Int) := fd r 4096 (by decide)
theorem sh18 (r : Nat) : (r : Int).fdiv (2 ^ (min (18 : Int).toNat IntKind.i32.bits)) = ((r / 262144 : Nat) : Int) := fd r 262144 (by decide)
theorem msk (c : Nat) (hc : c < 256) : bitop .and .u8 (c : Int) 63 = ((c % 64 : Nat) : Int) := by revert hc; revert c; decide +kernel
theorem o128 (c : Nat) (hc : c < 64) : bitop .or .u8 128 (c : Int) = ((128 + c : Nat) : Int) := by revert hc; revert c; decide +kernel
theorem o192 (c : Nat) (hc : c < 32) : bitop .or .u8 192 (c : Int) = ((192 + c : Nat) : Int) := by revert hc; revert c; decide +kernel
theorem o224 (c : Nat) (hc : c < 16) : bitop .or .u8 224 (c : Int) = ((224 + c : Nat) : Int) := by revert hc; revert c; decide +kernel
theorem o240 (c : Nat) (hc : c < 8) : bitop .or .u8 240 (c : Int) = ((240 + c : Nat) : Int) := by revert hc; revert c; decide +kernel
theorem cont (n : Nat) : bitop .or .u8 128 (bitop .and .u8 (IntKind.u8.wrap (n : Int)) 63) = ((128 + n % 64 : Nat) : Int) := by
  rw [wr8, msk _ (by omega), o128 _ (by omega)]
  congr 2
  omega

/-- the row behind the append -/
def AppR (q : Option Addr) (s : List UInt8) (t : List UInt8) (w : World) (v : Value) (w' : World) : Prop :=
  ∃ q' c', v = .slice q' (s.length + t.length) c' ∧ w'.ownsRow 0 TY 1 (.slice q' (s.length + t.length) c') (s.length + t.length) (bs s ++ bs t) ∧ Lm (rb q) w (rb q') w'

theorem lm_frm {A B : List Nat} {w w1 w2 : World} (hf : Frm w w1) (h : Lm A w1 B w2) : Lm A w B w2 := ⟨hf.le.trans h.1, fun k hk hlt => h.2 k hk (Nat.lt_of_lt_of_le hlt hf.size)⟩

set_option maxHeartbeats 2000000 in
theorem appendNA_ok (q : Option Addr) (c : Nat) (s : List UInt8) (r : Nat) (h1 : 128 ≤ r) (h2 : r < 1114112) (h3 : ¬ (55296 ≤ r ∧ r ≤ 57343)) (hb : s.length + 4 ≤ 140737488355328) (w : World) (hr : w.ownsRow 0 TY 1 (.slice q s.length c) s.length (bs s)) :
    CallsR Try.prog 64 #[.slice q s.length c, i32 r] w (AppR q s (encR r) w) := by
  have hw := wr32 r (by omega)
  refine enter (l := [.slice q s.length c, i32 r]) Try.func64 rfl Try.ntmps64 (by kernel_rfl) rfl ?_
  refine sgo ?_
  rw [hw]
  (show WC _ _ _ _ _ _ _; first | refine WC_dec rfl (fun hc => ?_) (fun hc => ?_) | refine WC_cond rfl (fun hc => ?_) (fun hc => ?_))
  · skip
    refine sgo ?_
    rw [sh6, cont, wr8, Nat.mod_eq_of_lt (show r / 64 < 256 by omega), o192 _ (by omega)]
    refine wlbs2 fun b w1 hb1 ho hf1 => ?_
    have e : bs (encR r) = [byt (192 + r / 64 : Nat), byt (128 + r % 64 : Nat)] := by
      rw [bs_encR r h2, encN, if_neg (by omega), if_pos (by omega)]; rfl
    refine wlappT (news := [byt (192 + r / 64 : Nat), byt (128 + r % 64 : Nat)]) (rowT_le hr hf1.le (M := []) (by simp)) ho.sg (fun q' c' w2 hr2 hl2 => ?_) (hb := by simp only [List.length_cons, List.length_nil]; omega)
    refine sgo ?_
    (first | refine fp1 (.inl rfl) rfl rfl ?_ | refine fp2 (.inl rfl) rfl rfl rfl ?_ | refine fp3 (.inl rfl) rfl rfl rfl rfl ?_ | refine fp0 (.inr rfl) rfl ?_ | refine fp0 (.inl rfl) rfl ?_ | refine fp1 (.inr rfl) rfl rfl ?_)
    have el : (encR r).length = 2 := by rw [← bs_length, e]; rfl
    refine ⟨q', c', by rw [el]; rfl, ?_, lm_frm hf1 hl2⟩
    rw [el, e]; exact hr2
  · have hc1 : 2048 ≤ r := by omega
    clear hc
    refine sgo ?_
    (show WC _ _ _ _ _ _ _; first | refine WC_dec rfl (fun hc => ?_) (fun hc => ?_) | refine WC_cond rfl (fun hc => ?_) (fun hc => ?_))
    · have hc2 : r < 55296 := by omega
      clear hc
      refine sgo ?_
      (show WC _ _ _ _ _ _ _; first | refine WC_dec rfl (fun hc => ?_) (fun hc => ?_) | refine WC_cond rfl (fun hc => ?_) (fun hc => ?_))
      · clear hc
        refine sgo ?_
        rw [sh12, sh6, cont, cont, wr8, Nat.mod_eq_of_lt (show r / 4096 < 256 by omega), o224 _ (by omega)]
        refine wlbs3 fun b w1 hb1 ho hf1 => ?_
        have e : bs (encR r) = [byt (224 + r / 4096 : Nat), byt (128 + r / 64 % 64 : Nat), byt (128 + r % 64 : Nat)] := by
          rw [bs_encR r h2, encN, if_neg (by omega), if_neg (by omega), if_pos (by omega)]; rfl
        refine wlappT (news := [byt (224 + r / 4096 : Nat), byt (128 + r / 64 % 64 : Nat), byt (128 + r % 64 : Nat)]) (rowT_le hr hf1.le (M := []) (by simp)) ho.sg (fun q' c' w2 hr2 hl2 => ?_) (hb := by simp only [List.length_cons, List.length_nil]; omega)
        refine sgo ?_
        (first | refine fp1 (.inl rfl) rfl rfl ?_ | refine fp2 (.inl rfl) rfl rfl rfl ?_ | refine fp3 (.inl rfl) rfl rfl rfl rfl ?_ | refine fp0 (.inr rfl) rfl ?_ | refine fp0 (.inl rfl) rfl ?_ | refine fp1 (.inr rfl) rfl rfl ?_)
        have el : (encR r).length = 3 := by rw [← bs_length, e]; rfl
        refine ⟨q', c', by rw [el]; rfl, ?_, lm_frm hf1 hl2⟩
        rw [el, e]; exact hr2
      · omega
    · have hc2 : 57343 < r := by omega
      clear hc
      refine sgo ?_
      (show WC _ _ _ _ _ _ _; first | refine WC_dec rfl (fun hc => ?_) (fun hc => ?_) | refine WC_cond rfl (fun hc => ?_) (fun hc => ?_))
      · have hc3 : r ≤ 65535 := by
          simp only [pkb_and, Bool.and_eq_true, decide_eq_true_eq] at hc
          omega
        clear hc
        refine sgo ?_
        rw [sh12, sh6, cont, cont, wr8, Nat.mod_eq_of_lt (show r / 4096 < 256 by omega), o224 _ (by omega)]
        refine wlbs3 fun b w1 hb1 ho hf1 => ?_
        have e : bs (encR r) = [byt (224 + r / 4096 : Nat), byt (128 + r / 64 % 64 : Nat), byt (128 + r % 64 : Nat)] := by
          rw [bs_encR r h2, encN, if_neg (by omega), if_neg (by omega), if_pos (by omega)]; rfl
        refine wlappT (news := [byt (224 + r / 4096 : Nat), byt (128 + r / 64 % 64 : Nat), byt (128 + r % 64 : Nat)]) (rowT_le hr hf1.le (M := []) (by simp)) ho.sg (fun q' c' w2 hr2 hl2 => ?_) (hb := by simp only [List.length_cons, List.length_nil]; omega)
        refine sgo ?_
        (first | refine fp1 (.inl rfl) rfl rfl ?_ | refine fp2 (.inl rfl) rfl rfl rfl ?_ | refine fp3 (.inl rfl) rfl rfl rfl rfl ?_ | refine fp0 (.inr rfl) rfl ?_ | refine fp0 (.inl rfl) rfl ?_ | refine fp1 (.inr rfl) rfl rfl ?_)
        have el : (encR r).length = 3 := by rw [← bs_length, e]; rfl
        refine ⟨q', c', by rw [el]; rfl, ?_, lm_frm hf1 hl2⟩
        rw [el, e]; exact hr2
      · have hc3 : 65535 < r := by
          simp only [pkb_and, Bool.and_eq_false_iff, decide_eq_false_iff_not] at hc
          omega
        clear hc
        refine sgo ?_
        (show WC _ _ _ _ _ _ _; first | refine WC_dec rfl (fun hc => ?_) (fun hc => ?_) | refine WC_cond rfl (fun hc => ?_) (fun hc => ?_))
        · clear hc
          refine sgo ?_
          rw [sh18, sh12, sh6, cont, cont, cont, wr8, Nat.mod_eq_of_lt (show r / 262144 < 256 by omega), o240 _ (by omega)]
          refine wlbs4 fun b w1 hb1 ho hf1 => ?_
          have e : bs (encR r) = [byt (240 + r / 262144 : Nat), byt (128 + r / 4096 % 64 : Nat), byt (128 + r / 64 % 64 : Nat), byt (128 + r % 64 : Nat)] := by
            rw [bs_encR r h2, encN, if_neg (by omega), if_neg (by omega), if_neg (by omega)]; rfl
          refine wlappT (news := [byt (240 + r / 262144 : Nat), byt (128 + r / 4096 % 64 : Nat), byt (128 + r / 64 % 64 : Nat), byt (128 + r % 64 : Nat)]) (rowT_le hr hf1.le (M := []) (by simp)) ho.sg (fun q' c' w2 hr2 hl2 => ?_) (hb := by simp only [List.length_cons, List.length_nil]; omega)
          refine sgo ?_
          (first | refine fp1 (.inl rfl) rfl rfl ?_ | refine fp2 (.inl rfl) rfl rfl rfl ?_ | refine fp3 (.inl rfl) rfl rfl rfl rfl ?_ | refine fp0 (.inr rfl) rfl ?_ | refine fp0 (.inl rfl) rfl ?_ | refine fp1 (.inr rfl) rfl rfl ?_)
          have el : (encR r).length = 4 := by rw [← bs_length, e]; rfl
          refine ⟨q', c', by rw [el]; rfl, ?_, lm_frm hf1 hl2⟩
          rw [el, e]; exact hr2
        · simp only [pkb_and, Bool.and_eq_false_iff, decide_eq_false_iff_not] at hc
          omega

set_option maxHeartbeats 1000000 in
theorem appendRune_ok (q : Option Addr) (c : Nat) (s : List UInt8) (r : Nat) (h2 : r < 1114112) (h3 : ¬ (55296 ≤ r ∧ r ≤ 57343)) (hb : s.length + 4 ≤ 140737488355328) (w : World) (hr : w.ownsRow 0 TY 1 (.slice q s.length c) s.length (bs s)) :
    CallsR Try.prog 55 #[.slice q s.length c, i32 r] w (AppR q s (encR r) w) := by
  have hw := wr32 r (by omega)
  refine enter (l := [.slice q s.length c, i32 r]) Try.func55 rfl Try.ntmps55 (by kernel_rfl) rfl ?_
  refine sgo ?_
  rw [hw]
  (show WC _ _ _ _ _ _ _; first | refine WC_dec rfl (fun hc => ?_) (fun hc => ?_) | refine WC_cond rfl (fun hc => ?_) (fun hc => ?_))
  · have hr1 : r < 128 := by omega
    clear hc
    refine sgo ?_
    refine wlb1_int fun b w1 hb1 ho hf1 => ?_
    have e : bs (encR r) = [byt (r : Nat)] := by
      rw [bs_encR r h2, encN, if_pos hr1]; rfl
    refine wlappT (news := [byt (r : Nat)]) (rowT_le hr hf1.le (M := []) (by simp)) ho.sg (fun q' c' w2 hr2 hl2 => ?_) (hb := by simp only [List.length_cons, List.length_nil]; omega)
    refine sgo ?_
    (first | refine fp1 (.inl rfl) rfl rfl ?_ | refine fp2 (.inl rfl) rfl rfl rfl ?_ | refine fp3 (.inl rfl) rfl rfl rfl rfl ?_ | refine fp0 (.inr rfl) rfl ?_ | refine fp0 (.inl rfl) rfl ?_ | refine fp1 (.inr rfl) rfl rfl ?_)
    have el : (encR r).length = 1 := by rw [← bs_length, e]; rfl
    refine ⟨q', c', by rw [el]; rfl, ?_, lm_frm hf1 hl2⟩
    rw [el, e]; exact hr2
  · have hr1 : 128 ≤ r := by omega
    clear hc
    refine sgo ?_
    refine wlcall (appendNA_ok q c s r hr1 h2 h3 hb w hr) ?_
    rintro v w1 ⟨q', c', rfl, hr2, hl2⟩
    refine sgo ?_
    (first | refine fp1 (.inl rfl) rfl rfl ?_ | refine fp2 (.inl rfl) rfl rfl rfl ?_ | refine fp3 (.inl rfl) rfl rfl rfl rfl ?_ | refine fp0 (.inr rfl) rfl ?_ | refine fp0 (.inl rfl) rfl ?_ | refine fp1 (.inr rfl) rfl rfl ?_)
    exact ⟨q', c', rfl, hr2, hl2⟩

set_option maxHeartbeats 1000000 in
theorem writeRune_ok (b : Nat) (q : Option Addr) (s : List UInt8) (r : Nat) (h2 : r < 1114112) (h3 : ¬ (55296 ≤ r ∧ r ≤ 57343)) (w : World) (h : Bld TB TY w b q s) (hb : s.length + 4 ≤ 140737488355328) :
    CallsR Try.prog 43 #[ptrAt (pb b) 0, i32 r] w fun v w' => v = .tuple #[int (encR r).length, .nilIface] ∧ ∃ q', Bld TB TY w' b q' (s ++ encR r) ∧ Lm (b :: rb q) w (b :: rb q') w' := by
  obtain ⟨pv, c, h⟩ := h
  refine enter (l := [ptrAt (pb b) 0, i32 r]) Try.func43 rfl Try.ntmps43 (by kernel_rfl) rfl ?_
  refine sgo ?_
  refine wlcall (copyCheck_ok b pv q c s w h) ?_
  rintro v w1 ⟨rfl, h1, hl1⟩
  have ho := h1.own
  refine sgo ?_
  refine wlcall (appendRune_ok q c s r h2 h3 hb w1 h1.row) ?_
  rintro v w2 ⟨q', c', rfl, hr2, hl2⟩
  have hc2 : w2.heap[b]? = _ := (hl2.1.block b h1.own.lt h1.ne).trans h1.cell
  have hle : (encR r).length ≤ 4 := by
    rw [encR_len]; unfold encN
    repeat' split
    all_goals simp
  refine sgo ?_
  refine wlstT (v := .slice q' (s.length + (encR r).length) c') hc2 (fun w3 h3 hl3 => ?_) rfl rfl
  clear ho
  have ho : Own w3 b [.pointer (pb b), .slice q' (s.length + (encR r).length) c'] := ⟨TB, h3⟩
  refine sgo ?_
  (first | refine fp1 (.inl rfl) rfl rfl ?_ | refine fp2 (.inl rfl) rfl rfl rfl ?_ | refine fp3 (.inl rfl) rfl rfl rfl rfl ?_ | refine fp0 (.inr rfl) rfl ?_ | refine fp0 (.inl rfl) rfl ?_ | refine fp1 (.inr rfl) rfl rfl ?_)
  refine ⟨?_, q', bld_put h1 hl2 hr2 h3 hl3, write_lm hl1 hl2 hl3⟩
  show Value.tuple #[int _, .nilIface] = Value.tuple #[int _, .nilIface]
  have : ((s.length + (encR r).length : Nat) : Int) - (s.length : Int) = ((encR r).length : Int) := by omega
  rw [← this]
end Go.Proofs.Ytfomfplddncakaa
