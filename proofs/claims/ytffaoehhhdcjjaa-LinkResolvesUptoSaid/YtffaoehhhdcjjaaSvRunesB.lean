/-
  Package utf: Runes, Mend.
-/
import Derived.Test.YtffaoehhhdcjjaaSvRunes
import Derived.Test.YtffaoehhhdcjjaaSvRange
set_option linter.unusedSimpArgs false
set_option linter.unusedVariables false
set_option linter.unnecessarySimpa false
namespace Go.Proofs.Ytffaoehhhdcjjaa
open Go Go.Sv Go.RowKit

theorem Row.cells_at {w : World} {size n c : Nat} {q : Option Addr} {xs : List Value} (h : Row w size q n c xs) : ∀ x ∈ rb q, ∃ cur e, w.heap[x]? = some (.cells cur e (0, 0)) := by
  rcases h.2 with ⟨rfl, _⟩ | ⟨b, off, cur, e, rfl, h1, _⟩
  · simp [rb]
  · intro x hx
    simp only [rb, List.mem_singleton] at hx
    subst hx
    exact ⟨cur, e, h1⟩

theorem Im.only {w : World} {p : Option Addr} {l : List Value} {M : List Nat} (h : Im [] w p l) (hM : ∀ b ∈ rb p, b < w.heap.size → b ∉ M) : Im M w p l := by
  rcases h with h | ⟨a, rfl, h1, h2, _⟩
  · exact .inl h
  · exact .inr ⟨a, rfl, h1, h2, hM _ (by simp [rb]) h2⟩

set_option maxHeartbeats 2000000 in
theorem runes_ok (l : List UInt8) (p : Option Addr) (n c : Nat) (hn : n = l.length) (hb : l.length ≤ 1073741824) (w : World) (hi : Im [] w p (bs l)) : CallsR Try.prog 50 #[.slice p n c] w (NewR w (runesN l)) := by
  refine enter (l := [.slice p n c]) Try.func50 rfl Try.ntmps50 (by kernel_rfl) rfl ?_
  refine sgo ?_
  refine wlalloc fun b3 w1 hb3 ho3 hf1 => ?_
  have hb31 := ho3.lt
  refine sgo ?_
  refine wlcall (all_ok l p n c hn hb w1 (hi.frm hf1)) ?_
  rintro v w2 ⟨hf2, b, q, c2, rfl, ho, hI, hc2, hbb, hqq⟩
  replace ho3 := ho3.frm hf2
  have hfw := hf1.trans hf2
  have hb32 := ho3.lt
  have hb2 := ho.lt
  refine sgo ?_
  refine wcrangef (cap := [ptrAt (pb b) 0]) rfl rfl ?_
  intro fn lr D w3 hD hlr hne hf3 hL hN
  replace ho3 := ho3.frm hf3
  replace ho := ho.frm hf3
  have hI2 : Im [b3, lr] w2 q (bs l) := Im.only hI (by
    intro x hx hlt hm
    have := hqq x hx
    rcases List.mem_cons.1 hm with rfl | hm
    · omega
    · simp only [List.mem_singleton] at hm; omega)
  replace hI := hI2.frm hf3
  have hfw3 := hfw.trans hf3
  have hlr3 := hL.lt
  have hD3 := hN.lt
  have hs23 := hf3.size
  refine CallsR.mono (all1_ok lr b l q c2 hc2 hb
    (fun i w' => i ≤ l.length ∧ ∃ rs q3 c3, runesN l = rs ++ runesN (l.drop i) ∧ Le [b3, lr] w3 w' ∧ Own w' b3 [.slice q3 rs.length c3] ∧ Row w' 1 q3 rs.length c3 (rs32 rs) ∧ (∀ x ∈ rb q3, w3.heap.size ≤ x) ∧ w'.heap[lr]? = w3.heap[lr]?)
    (fun _ _ => False) ?_ ?_ ?_ w3 ⟨by omega, [], none, 0, by simp, Le.refl _ _, ho3, Row.nil _ _, rb_nil _, rfl⟩) ?_
  · rintro i w' ⟨_, rs, q3, c3, _, hle, _⟩
    refine ⟨ho.le hle ?_, (hI.le hle).weak (by simp)⟩
    intro hm
    rcases List.mem_cons.1 hm with rfl | hm
    · omega
    · simp only [List.mem_singleton] at hm; omega
  · rintro i w' w'' ⟨h1, rs, q3, c3, h2, h3, h4, h5, h6, h7⟩ hf
    exact ⟨h1, rs, q3, c3, h2, h3.trans hf.le, h4.frm hf, h5.frm hf, h6, (hf.block lr (Nat.lt_of_lt_of_le hlr3 h3.size)).trans h7⟩
  · rintro i w' ⟨h1, rs, q3, c3, h2, h3, h4, h5, h6, h7⟩ hlt
    have hLw := h7.trans hL
    have hpos : 0 < (l.drop i).length := by simp; omega
    obtain ⟨r, hr, hg⟩ := pieceR_good (l.drop i) hpos
    have hrc := runesN_cons (l.drop i) hpos
    rw [List.drop_drop] at hrc
    have hpr := pieceR_rng (l.drop i) hpos
    have hdl : (l.drop i).length = l.length - i := by simp
    rw [hr] at hrc ⊢
    rw [Int.toNat_natCast] at hrc
    generalize (pieceR (l.drop i)).2.1 = m at *
    have hrl := runesN_len l
    have hrs : rs.length ≤ 1073741824 := by rw [h2, List.length_append] at hrl; omega
    have h3s := h3.size
    refine yld_of hLw rfl (by kernel_rfl) ?_
    refine sgo ?_
    refine ⟨hLw, fun w5 hl5 hL5 => ?_⟩
    have ho5 := h4.le hl5 (by simp; omega)
    have hR5 := h5.le hl5 (by intro x hx hm; simp only [List.mem_singleton] at hm; subst hm; have := h6 x hx; omega)
    refine sgo ?_
    refine wlb1_int fun b6 w6 hb6 ho6 hf6 => ?_
    refine wlapp (hR5.frm hf6) ho6.sg (fun q' c' w7 hR7 hl7 => ?_)
    have ho7 := (ho5.frm hf6).le hl7.1 (by intro hm; have := h6 _ hm; omega)
    have hL7 : LoopAt w7 lr _ := (hL5.frm hf6).le hl7.1 (by intro hm; have := h6 _ hm; omega)
    have hq7 : ∀ x ∈ rb q', w3.heap.size ≤ x := by
      intro x hx
      rcases Nat.lt_or_ge x w6.heap.size with h | h
      · exact h6 x (hl7.2 x hx h)
      · have := hf6.size; have := hl5.size; omega
    refine wlst_slice ho7 fun w8 ho8 hl8 => ?_
    have hR8 := hR7.le hl8 (by intro x hx hm; simp only [List.mem_singleton] at hm; subst hm; have := hq7 x hx; omega)
    have hL8 := hL7.le hl8 (by simp; omega)
    refine sgo ?_
    refine rnd_normal hL8 fun w9 hl9 hL9 => ?_
    have e1 : rs32 rs ++ [i32 r] = rs32 (rs ++ [r]) := by simp [rs32]
    have e2 : rs.length + 1 = (rs ++ [r]).length := by simp
    rw [e1, e2] at hR8
    have hle9 : Le [b3, lr] w3 w9 := by
      refine ⟨hl9.os.trans (hl8.os.trans (hl7.1.os.trans (hf6.os.trans (hl5.os.trans h3.os)))), hl9.tape.trans (hl8.tape.trans (hl7.1.tape.trans (hf6.tape.trans (hl5.tape.trans h3.tape)))), hl9.output.trans (hl8.output.trans (hl7.1.output.trans (hf6.output.trans (hl5.output.trans h3.output)))), ?_, fun k hk hm => ?_⟩
      · have := hl9.size; have := hl8.size; have := hl7.1.size; have := hf6.size; have := hl5.size; omega
      · have a3 := h3.block k hk hm
        simp only [List.mem_cons, List.not_mem_nil, or_false, not_or] at hm
        have a5 := hl5.block k (by omega) (by simpa using hm.2)
        have s5 := hl5.size
        have a6 := hf6.block k (by omega)
        have s6 := hf6.size
        have a7 := hl7.1.block k (by omega) (by intro h; have := h6 k h; omega)
        have s7 := hl7.1.size
        have a8 := hl8.block k (by omega) (by simpa using hm.1)
        have s8 := hl8.size
        have a9 := hl9.block k (by omega) (by simpa using hm.2)
        rw [a9, a8, a7, a6, a5, a3]
    refine ⟨by omega, rs ++ [r], q', c', by rw [h2, hrc]; simp, hle9, ?_, hR8.le hl9 (by intro x hx hm; simp only [List.mem_singleton] at hm; subst hm; have := hq7 x hx; omega), hq7, ?_⟩
    · rw [← e2]
      exact ho8.le hl9 (by simp; omega)
    · exact hL9.trans hL.symm
  · rintro v w4 hor
    obtain ⟨_, rs, q3, c3, h2, h3, h4, h5, h6, h7⟩ := hor.resolve_right fun ⟨_, _, h⟩ => h
    rw [List.drop_length, runesN_nil, List.append_nil] at h2
    refine ⟨.ready, none, by simp, h7.trans hL, fun w5 hl5 => aft_none ?_⟩
    have ho5 := h4.le hl5 (by simp; omega)
    have hR5 := h5.le hl5 (by intro x hx hm; simp only [List.mem_singleton] at hm; subst hm; have := h6 x hx; omega)
    have hN5 := (hN.le h3 (by simp; omega)).le hl5 (by simp; omega)
    refine sgo ?_
    refine fp_mark (.inl rfl) hN5 ?_
    (first | refine fp1 (.inl rfl) rfl rfl ?_ | refine fp2 (.inl rfl) rfl rfl rfl ?_ | refine fp3 (.inl rfl) rfl rfl rfl rfl ?_ | refine fp0 (.inr rfl) rfl ?_ | refine fp0 (.inl rfl) rfl ?_ | refine fp1 (.inr rfl) rfl rfl ?_)
    have hlD := le_putObj w5 D (.deferred none)
    have hfw4 := hfw3.step h3 (by intro x hx; simp only [List.mem_cons, List.not_mem_nil, or_false] at hx; have := hfw.size; omega)
    have hfw5 := hfw4.step hl5 (by intro x hx; simp only [List.mem_singleton] at hx; have := hfw.size; omega)
    refine ⟨hfw5.step hlD (by intro x hx; simp only [List.mem_singleton] at hx; have := hfw.size; omega), q3, c3, ?_, ?_, fun x hx => Nat.le_trans hfw3.size (h6 x hx)⟩
    · rw [h2]; rfl
    · rw [h2]
      exact hR5.le hlD (by intro x hx hm; simp only [List.mem_singleton] at hm; subst hm; have := h6 x hx; omega)
end Go.Proofs.Ytffaoehhhdcjjaa
