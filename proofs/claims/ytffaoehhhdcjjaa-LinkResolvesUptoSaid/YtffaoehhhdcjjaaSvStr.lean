/-
  strings.Builder, walked.
-/
import Derived.Test.YtffaoehhhdcjjaaSvBld
import Derived.Test.YtffaoehhhdcjjaaSvTab
set_option linter.unusedSimpArgs false
set_option linter.unusedVariables false
set_option linter.unnecessarySimpa false
namespace Go.Proofs.Ytffaoehhhdcjjaa
open Go Go.Sv Go.RowKit

abbrev TB : Nat := 41
abbrev TY : Nat := 5
theorem bup_shape {w : World} {b : Nat} {pv q : Option Addr} {c : Nat} {s : List UInt8} (h : BuP TB TY w b pv q c s) : w.shape? b = some (TB, 2) := by
  have := h.cell
  simp [World.shape?, this]

theorem tb_info : ∃ j, Try.prog.info? TB = some j ∧ j.size ≠ 0 := by
  obtain ⟨j, hj1, hj2, hj3, hj4⟩ := inf_size (P := Try.prog) (t := TB)
  exact ⟨j, hj1, by rw [hj3]; decide⟩
theorem copyCheck_ok (b : Nat) (pv q : Option Addr) (c : Nat) (s : List UInt8) (w : World) (h : BuP TB TY w b pv q c s) :
    CallsR Try.prog 53 #[ptrAt (pb b) 0] w fun v w' => v = .tuple #[] ∧ BuP TB TY w' b (pb b) q c s ∧ Le [b] w w' := by
  have ho := h.own
  have hsh := bup_shape h
  rcases h.hp with rfl | rfl
  · refine enter (l := [ptrAt (pb b) 0]) Try.func53 rfl Try.ntmps53 (by kernel_rfl) rfl ?_
    refine sgo ?_
    refine wl (v := .bool true) ?_ (y_pnil (p := none) rfl rfl)
    refine sgo ?_
    obtain ⟨j, hj1, hj3⟩ := tb_info
    refine wl ?_ (y_tou (a := ⟨b, 0, none⟩) rfl hj1 hj3 hsh Nat.two_pos)
    refine wl ?_ (y_noesc (v := .pointer (some ⟨b, 0, none⟩)) Try.func65 (by kernel_rfl) (by kernel_rfl) (by kernel_rfl) (by kernel_rfl) rfl)
    refine wl ?_ (y_fromu (a := ⟨b, 0, none⟩) rfl hj1 hsh (by kernel_rfl))
    clear hj1 hj3
    refine sgo ?_
    refine wlstT (v := .pointer (pb b)) h.cell (fun w' h1 h2 => ?_) rfl rfl
    refine sgo ?_
    (first | refine fp1 (.inl rfl) rfl rfl ?_ | refine fp2 (.inl rfl) rfl rfl rfl ?_ | refine fp3 (.inl rfl) rfl rfl rfl rfl ?_ | refine fp0 (.inr rfl) rfl ?_ | refine fp0 (.inl rfl) rfl ?_ | refine fp1 (.inr rfl) rfl rfl ?_)
    exact ⟨rfl, ⟨.inr rfl, h1, rowT_le h.row h2 (by intro k hk hm; simp only [List.mem_singleton] at hm; subst hm; exact h.ne hk), h.ne⟩, h2⟩
  · refine enter (l := [ptrAt (pb b) 0]) Try.func53 rfl Try.ntmps53 (by kernel_rfl) rfl ?_
    refine sgo ?_
    refine wl (v := .bool false) ?_ (y_pnil (p := some ⟨b, 0, none⟩) rfl rfl)
    refine sgo ?_
    obtain ⟨j, hj1, hj3⟩ := tb_info
    refine wl ?_ (y_psame (a := ⟨b, 0, none⟩) rfl rfl hj1)
    clear hj1 hj3
    refine sgo ?_
    (first | refine fp1 (.inl rfl) rfl rfl ?_ | refine fp2 (.inl rfl) rfl rfl rfl ?_ | refine fp3 (.inl rfl) rfl rfl rfl rfl ?_ | refine fp0 (.inr rfl) rfl ?_ | refine fp0 (.inl rfl) rfl ?_ | refine fp1 (.inr rfl) rfl rfl ?_)
    exact ⟨rfl, h, Le.refl _ _⟩

theorem write_lm {w w1 w2 w3 : World} {b : Nat} {q q' : Option Addr} (h1 : Le [b] w w1) (h2 : Lm (rb q) w1 (rb q') w2) (h3 : Le [b] w2 w3) : Lm (b :: rb q) w (b :: rb q') w3 := by
  refine ⟨⟨h3.os.trans (h2.1.os.trans h1.os), h3.tape.trans (h2.1.tape.trans h1.tape), h3.output.trans (h2.1.output.trans h1.output), Nat.le_trans h1.size (Nat.le_trans h2.1.size h3.size), fun k hk hm => ?_⟩, ?_⟩
  · simp only [List.mem_cons, not_or] at hm
    have e1 := h1.block k hk (by simpa using hm.1)
    have e2 := h2.1.block k (Nat.lt_of_lt_of_le hk h1.size) hm.2
    have e3 := h3.block k (Nat.lt_of_lt_of_le hk (Nat.le_trans h1.size h2.1.size)) (by simpa using hm.1)
    rw [e3, e2, e1]
  · intro k hk hlt
    rcases List.mem_cons.1 hk with rfl | hk
    · exact List.mem_cons_self
    · exact List.mem_cons_of_mem _ (h2.2 k hk (Nat.lt_of_lt_of_le hlt h1.size))
theorem bld_put {w1 w2 w3 : World} {b : Nat} {q q' : Option Addr} {c c' : Nat} {s t : List UInt8} (h1 : BuP TB TY w1 b (pb b) q c s) (h2 : Lm (rb q) w1 (rb q') w2) (hr : w2.ownsRow 0 TY 1 (.slice q' (s.length + t.length) c') (s.length + t.length) (bs s ++ bs t))
    (h3 : w3.heap[b]? = some (.cells ([.pointer (pb b), .slice q s.length c].set 1 (.slice q' (s.length + t.length) c')).toArray TB (0, 0))) (h4 : Le [b] w2 w3) : Bld TB TY w3 b q' (s ++ t) := by
  have hne : b ∉ rb q' := fun hb => h1.ne (h2.2 b hb h1.own.lt)
  have e : bs s ++ bs t = bs (s ++ t) := by simp [bs]
  rw [e, ← List.length_append] at hr
  rw [← List.length_append] at h3
  exact ⟨pb b, c', .inr rfl, h3, rowT_le hr h4 (by intro k hk hm; simp only [List.mem_singleton] at hm; subst hm; exact hne hk), hne⟩


















theorem writeByte_ok (b : Nat) (q : Option Addr) (s : List UInt8) (x : UInt8) (w : World) (h : Bld TB TY w b q s) (hb : s.length + 1 ≤ 140737488355328) :
    CallsR Try.prog 27 #[ptrAt (pb b) 0, byt x.toNat] w fun v w' => v = .nilIface ∧ ∃ q', Bld TB TY w' b q' (s ++ [x]) ∧ Lm (b :: rb q) w (b :: rb q') w' := by
  obtain ⟨pv, c, h⟩ := h
  refine enter (l := [ptrAt (pb b) 0, byt x.toNat]) Try.func27 rfl Try.ntmps27 (by kernel_rfl) rfl ?_
  refine sgo ?_
  refine wlcall (copyCheck_ok b pv q c s w h) ?_
  rintro v w1 ⟨rfl, h1, hl1⟩
  have ho := h1.own
  refine sgo ?_
  refine wlb1_int fun b2 w2 hb2 ho2 hf2 => ?_
  refine wlappT (news := bs [x]) (rowT_le h1.row hf2.le (M := []) (by simp)) ho2.sg (fun q' c' w3 hr3 hl3 => ?_) (hp := Nat.one_pos) (h1 := by simp [bs, Value.oneCell']) (hb := by simpa using hb)
  have hl3' : Lm (rb q) w1 (rb q') w3 := ⟨(hf2.le).trans hl3.1, fun k hk hlt => hl3.2 k hk (Nat.lt_of_lt_of_le hlt hf2.size)⟩
  have hc3 : w3.heap[b]? = _ := (hl3'.1.block b h1.own.lt h1.ne).trans h1.cell
  refine sgo ?_
  refine wlstT (v := .slice q' (s.length + 1) c') hc3 (fun w4 h4 hl4 => ?_) rfl rfl
  refine sgo ?_
  (first | refine fp1 (.inl rfl) rfl rfl ?_ | refine fp2 (.inl rfl) rfl rfl rfl ?_ | refine fp3 (.inl rfl) rfl rfl rfl rfl ?_ | refine fp0 (.inr rfl) rfl ?_ | refine fp0 (.inl rfl) rfl ?_ | refine fp1 (.inr rfl) rfl rfl ?_)
  exact ⟨rfl, q', bld_put (t := [x]) h1 hl3' hr3 h4 hl4, write_lm hl1 hl3' hl4⟩
end Go.Proofs.Ytffaoehhhdcjjaa
