/-
  Package sieveref12: Encode, Decode.
-/
import Derived.Test.YtffaoehhhdcjjaaSvLkC
set_option linter.unusedSimpArgs false
set_option linter.unusedVariables false
set_option linter.unnecessarySimpa false
namespace Go.Sv
open Go Go.RowKit
section
variable {P : Program} {n : Nat} {ds : Ctx} {ops : Array Oper} {Q : Exit → Ctx → Env → World → Prop} {rest : List Oper} {σ : GE} {w : World} {d : Nat} {ty t t' e : TypeId} {pos : String} {af : Array Edge} {x : Operand} {zv : Value} {bytes : Nat}
def enum (vs : List Value) (j : Nat) : List (Nat × Value) := (vs.zipIdx j).map fun p => (p.2, p.1)
theorem fill_enum : ∀ (vs : List Value) (j : Nat) (z : List Value), (∀ v ∈ vs, v.cells = #[v]) → j + vs.length ≤ z.length →
    Instr.fill (fun i => some (i * 1, 1)) z.toArray (enum vs j) = some (z.take j ++ vs ++ z.drop (j + vs.length)).toArray
  | [], j, z, _, _ => by simp [enum, Instr.fill]
  | v :: vs, j, z, hv, hj => by
    have h1 := hv v List.mem_cons_self
    simp only [List.length_cons] at hj
    have ih := fill_enum vs (j + 1) (z.set j v) (fun u hu => hv u (List.mem_cons_of_mem _ hu)) (by simp; omega)
    simp only [enum, List.zipIdx_cons, List.map_cons, Instr.fill]
    rw [h1]
    simp only [List.size_toArray, List.length_cons, List.length_nil, Nat.mul_one]
    rw [if_neg (by simp; omega)]
    have e : (#[v] : Array Value).zipIdx.foldl (fun cs (x : Value × Nat) => match x with | (c, k) => cs.setIfInBounds (j + k) c) z.toArray = (z.set j v).toArray := by
      simp
    rw [e]
    rw [enum] at ih
    simp only [Nat.mul_one] at ih
    rw [ih]
    congr 2
    have hjl : j < z.length := by omega
    rw [List.take_succ_eq_append_getElem (by simpa using hjl), List.take_set_of_le (Nat.le_refl _), List.drop_set_of_lt (by omega)]
    simp only [List.getElem_set_self, List.append_assoc, List.cons_append, List.nil_append, List.length_cons]
    rw [show j + 1 + vs.length = j + (vs.length + 1) from by omega]
/-- a slice written out, of values of one cell each -/
theorem wlbsn [hu : Und P t (.slice e)] [hi : Inf P e zv 1 bytes] {ps : List (Nat × Operand)} (vs : List Value) (k : Nat) (h : ∀ b w', w.heap.size ≤ b → Own w' b vs → Frm w w' → WL P n ds ops Q rest (real (updG σ d ⟨.slice (pb b) k k, true⟩)) w')
    (hps : ps.map (fun p => (p.1, evl (real σ) p.2)) = enum vs 0 := by rfl) (hk : vs.length = k := by rfl) (h1 : ∀ v ∈ vs, v.cells = #[v]) (hz : zv.cells.size = 1 := by rfl) (hk1 : k ≤ 16777216 := by decide) (hk0 : k ≠ 0 := by decide) :
    WL P n ds ops Q (⟨some d, .buildSlice t k ps.toArray, ty, pos, af, none⟩ :: rest) (real σ) w := by
  subst hk
  refine wl (h w.heap.size (w.alloc (.cells vs.toArray e)) (Nat.le_refl _) (by have := own_alloc w vs.toArray e; simpa using this) (frm_alloc _ _)) (Y.val ?_)
  have hf := fill_enum vs 0 ((Array.range (vs.length * 1)).map (zv.cells[· % zv.cells.size]!)).toList h1 (by simp)
  have hpa : (ps.toArray.map fun (x : Nat × Operand) => match x with | (i, x) => (i, evl (real σ) x)).toList = enum vs 0 := by rw [← hps]; simp
  simp only [execOp, Instr.buildSlice, Sem.run_bind, underlying, run_program, Result.andThen_ok, hu.ok, Sem.run_pure, run_sizeOf (P := P) (t := e), Nat.mul_one]
  rw [if_neg (by omega), if_neg hk0]
  simp only [Sem.run_bind, Sem.run_pure, Result.andThen_ok, run_zeroValue (P := P) (t := e)]
  rw [hpa]
  simp only [Array.toArray_toList, Nat.mul_one] at hf
  rw [hf]
  have hz0 : (vs ++ List.drop vs.length (List.map (fun x => zv.cells[x % zv.cells.size]!) (List.range vs.length))) = vs := by
    rw [List.drop_eq_nil_of_le (by simp), List.append_nil]
  simp [newRow, hz0]
/-- []byte of bytes written out -/
theorem wlmark [hu : Und P t (.slice e)] [he : Und P e (.int .u8)] {b k : Nat} {s : List UInt8} (ho : Own w b (bs s)) (hx : evl (real σ) x = .slice (pb b) k k)
    (h : ∀ w', OwnB w' b s → Le [b] w w' → WL P n ds ops Q rest (real (updG σ d ⟨.slice (pb b) k k, true⟩)) w') :
    WL P n ds ops Q (⟨some d, .convert t t x, ty, pos, af, none⟩ :: rest) (real σ) w := by
  obtain ⟨tt, ho⟩ := ho
  have hlt := (Array.getElem?_eq_some_iff.1 ho).1
  let w' := w.freeze ⟨b, (bs s).toArray.size, none⟩ 1
  have hw' : w'.heap[b]? = some (.cells (bs s).toArray tt ((bs s).toArray.size, (bs s).toArray.size + 1)) := by
    simp only [w', World.freeze, Nat.one_ne_zero, if_false, Array.getElem?_modify, if_true]
    rw [ho]; simp
  have hother : ∀ j, j < w.heap.size → j ∉ [b] → w'.heap[j]? = w.heap[j]? := by
    intro j hj hm
    simp only [List.mem_singleton] at hm
    simp only [w', World.freeze, Nat.one_ne_zero, if_false, Array.getElem?_modify]
    rw [if_neg (by omega)]
  refine wl (h w' ⟨_, tt, _, _, hw', by simp only [bs]; exact List.take_of_length_le (by simp), by simp [bs]⟩ ⟨rfl, rfl, rfl, by simp [w', World.freeze], hother⟩) (Y.val ?_)
  simp only [execOp, hx, convert, underlying, Sem.run_bind, run_program, Result.andThen_ok, hu.ok, he.ok, Sem.run_pure, markStringish, run_shape, beq_self_eq_true]
  have hshape : w.shape? b = some (tt, (bs s).toArray.size) := by simp only [World.shape?, ho]
  rw [hshape]
  simp only [run_freeze, Result.andThen_ok, Sem.run_pure]
  rfl
/-- a rune as a text -/
theorem y_i2s {σ : Env} {d : Option Tmp} {g : Option (Nat × Bool)} {k : IntKind} {r : Nat} [hu : Und P t (.int k)] [hu' : Und P t' .string] (hx : evl σ x = .int k r) (hr : r < 128) : Y P σ ⟨d, .convert t t' x, ty, pos, af, g⟩ w (str [UInt8.ofNat r]) w := by
  refine Y.val ?_
  simp only [execOp, hx, convert, underlying, Sem.run_bind, run_program, Result.andThen_ok, hu.ok, hu'.ok, Sem.run_pure, Conv.intToString]
  have hv : Utf8.valid (r : Int) = true := by
    simp only [Utf8.valid, Bool.and_eq_true, Bool.or_eq_true, decide_eq_true_eq]; omega
  have e : Utf8.encode (r : Int) = ⟨[UInt8.ofNat r].toArray⟩ := by
    unfold Utf8.encode
    rw [if_pos hv]
    simp only [Int.toNat_natCast]
    rw [if_pos (by simpa using hr)]
  rw [e]
end
end Go.Sv
namespace Go.Proofs.Ytffaoehhhdcjjaa
open Go Go.Sv Go.RowKit

theorem digs_at : ∀ q : Nat, q < 16 → (digs.drop q).take 1 = [digs[q]?.getD 0] := by decide
theorem y_dig {P : Program} {σ : Env} {w : World} {d : Option Tmp} {ty t : TypeId} {pos : String} {af : Array Edge} {g : Option (Nat × Bool)} {x y z : Operand} {k k' : IntKind} {a b : Int} [hu : Und P t .string] (q : Nat) (hq : q < 16) (ha : a = q) (hb : b = q + 1) (hx : evl σ x = str digs) (hy : evl σ y = .int k a) (hz : evl σ z = .int k' b) :
    Y P σ ⟨d, .slice t x (some y) (some z) none, ty, pos, af, g⟩ w (str [digs[q]?.getD 0]) w := by
  subst ha hb
  have := y_ssliceI (P := P) (σ := σ) (w := w) (d := d) (ty := ty) (pos := pos) (af := af) (g := g) (t := t) hx hy hz (by simp only [digs, List.length_cons, List.length_nil]; omega)
  rw [show ((q : Int) + 1).toNat = q + 1 by omega, Int.toNat_natCast, show q + 1 - q = 1 by omega, digs_at q hq] at this
  exact this
theorem escB_ref (c : Nat) (cd : Bool) : (pkb (pkb (decide ((c : Int) ≤ 32)) true (decide ((127 : Int) ≤ c))) true (pkb (decide ((c : Int) = 37)) (!cd) false) || decide (UInt8.ofNat c ∈ badB)) = escB c cd := by
  unfold escB
  simp only [pkb_or, pkb_and]
  rw [show decide ((c : Int) ≤ 32) = decide (c ≤ 32) from decide_eq_decide.2 (by omega), show decide ((127 : Int) ≤ c) = decide (127 ≤ c) from decide_eq_decide.2 (by omega), show decide ((c : Int) = 37) = decide (c = 37) from decide_eq_decide.2 (by omega)]
  grind
set_option maxHeartbeats 2000000 in
theorem refEncode_ok (l : List UInt8) (hb : l.length ≤ 268435456) (w : World) : PureC Try.prog 11 #[str l] w (str (encodeR l)) := by
  refine enter (l := [str l]) Try.func11 rfl Try.ntmps11 (by kernel_rfl) rfl ?_
  refine sgo ?_
  refine wlpure (refMend_ok l (by omega) _) fun w1 hf1 => ?_
  have hml := mendR_len l
  unfold encodeR
  generalize mendR l = t at *
  refine sgo ?_
  refine wcloop (X := Nat × List UInt8) (fun x => [(0, str t), (3, str x.2), (12, int t.length), (13, int x.1)])
    (fun x wr => x.1 ≤ t.length ∧ x.2 ++ encL (t.drop x.1) = encL t ∧ x.2.length ≤ 3 * x.1 ∧ Frm w wr)
    (fun x => t.length - x.1) (0, []) ⟨rfl, rfl, rfl, rfl, trivial⟩ ⟨by omega, by simp, by simp, hf1⟩ ?_
  rintro ⟨i, s⟩ wr ρ ⟨hi, he, hsl, hfr⟩
  dsimp only at hi he hsl ⊢
  refine sgo ?_
  (show WC _ _ _ _ _ _ _; first | refine WC_dec rfl (fun hc => ?_) (fun hc => ?_) | refine WC_cond rfl (fun hc => ?_) (fun hc => ?_))
  · have hil : i < t.length := by omega
    have hst := encL_at t i hil
    have h256 := at_lt t i
    have hcd := fun w => hexes_ok t i hi (by omega) w
    have hcl := encC_len (at0 t i) (codedR t i)
    generalize codedR t i = cd at *
    simp only [at0] at hst h256 hcl
    refine sgo ?_
    generalize (t[i]?.getD 0).toNat = c at *
    refine wlcallgp (vals := [str t, int i]) (fun _ => hcd _) fun w2 hf2 => ?_
    replace hfr := hfr.trans hf2
    have hesc := escB_ref c cd
    refine sgo ?_
    generalize pkb (pkb (decide ((c : Int) ≤ 32)) true (decide ((127 : Int) ≤ c))) true (pkb (decide ((c : Int) = 37)) (!cd) false) = b0 at *
    refine wlbsn (bs badB) 9 (fun b w3 hb3 ho3 hf3 => ?_) (h1 := by simp [bs, badB, Value.cells])
    refine wlmark (s := badB) ho3 rfl fun w4 ho4 hl4 => ?_
    replace hfr := (hfr.trans hf3).step hl4 (by intro x hx; simp only [List.mem_singleton] at hx; subst hx; exact Nat.le_trans hfr.size hb3)
    clear ho3 hb3 hf3 hl4
    have hI := ho4.im (M := []) (by simp)
    clear ho4
    (first | refine wlp ?_ | refine WL_nil ?_ | (show WL _ _ _ _ _ (Go.Oper.mk _ _ _ _ _ none :: _) _ _; first | refine wlpk ?_ | refine wl_load ?_ | refine wl_idxa ?_ | refine wl_fld ?_ | refine wl_idx ?_ | refine wl_len ?_ | refine wl_bin ?_ | refine wl_cnv ?_ | refine wl_slc ?_ | refine wl_una ?_ | refine wl_nilc ?_ | refine wl_mkf ?_) | refine wlpg ?_ | refine wlg_load ?_ | refine wlg_idxa ?_ | refine wlg_fld ?_ | refine wlg_idx ?_ | refine wlg_len ?_ | refine wlg_bin ?_ | refine wlg_cnv ?_ | refine wlg_slc ?_ | refine wlg_una ?_ | refine wlg_nilc ?_ | refine wlg_mkf ?_)
    (first | refine wlp ?_ | refine WL_nil ?_ | (show WL _ _ _ _ _ (Go.Oper.mk _ _ _ _ _ none :: _) _ _; first | refine wlpk ?_ | refine wl_load ?_ | refine wl_idxa ?_ | refine wl_fld ?_ | refine wl_idx ?_ | refine wl_len ?_ | refine wl_bin ?_ | refine wl_cnv ?_ | refine wl_slc ?_ | refine wl_una ?_ | refine wl_nilc ?_ | refine wl_mkf ?_) | refine wlpg ?_ | refine wlg_load ?_ | refine wlg_idxa ?_ | refine wlg_fld ?_ | refine wlg_idx ?_ | refine wlg_len ?_ | refine wlg_bin ?_ | refine wlg_cnv ?_ | refine wlg_slc ?_ | refine wlg_una ?_ | refine wlg_nilc ?_ | refine wlg_mkf ?_)
    refine WL_nil ?_; refine thn_normal ?_
    refine wcutn (X := Unit) (fun _ => [(0, str t), (3, str s), (5, byt c), (6, .bool (escB c cd)), (12, int t.length), (13, int i)]) (fun _ w' => Frm w w') ?_ ?_
    · refine sgo ?_
      refine wcloop (X := Nat) (fun k => [(0, str t), (3, str s), (5, byt c), (6, .bool (b0 || decide (UInt8.ofNat c ∈ badB.take k))), (12, int t.length), (13, int i), (36, .slice (pb b) 9 9), (37, int 9), (38, int k)])
        (fun k wr => k ≤ 9 ∧ Im [] wr (pb b) (bs badB) ∧ Frm w wr) (fun k => 9 - k) 0 ⟨rfl, rfl, rfl, by simp; rfl, rfl, rfl, rfl, rfl, rfl, trivial⟩ ⟨by omega, hI, hfr⟩ ?_
      rintro k wr' ρ' ⟨hk, hI', hfr'⟩
      refine sgo ?_
      (show WC _ _ _ _ _ _ _; first | refine WC_dec rfl (fun hc => ?_) (fun hc => ?_) | refine WC_cond rfl (fun hc => ?_) (fun hc => ?_))
      · have hk9 : k < 9 := by omega
        have hlen9 : badB.length = 9 := rfl
        have hget : (bs badB)[k]? = some (byt (at0 badB k)) := bs_get (by rw [hlen9]; exact hk9)
        have hstep : badB.take (k + 1) = badB.take k ++ [UInt8.ofNat (at0 badB k)] := by
          rw [List.take_succ_eq_append_getElem (by rw [hlen9]; exact hk9)]
          simp [at0, hk9, hlen9]
        have hd : at0 badB k < 256 := at_lt _ _
        simp only [at0] at hget hstep hd
        refine sgo ?_
        generalize (badB[k]?.getD 0).toNat = x at *
        refine ⟨k + 1, ⟨rfl, rfl, rfl, ?_, rfl, rfl, rfl, rfl, rfl, trivial⟩, ⟨by omega, hI', hfr'⟩, by omega⟩
        refine congrArg Value.bool ?_
        rw [pkb_or, hstep]
        have e : decide ((c : Int) = x) = decide (UInt8.ofNat c = UInt8.ofNat x) := decide_eq_decide.2 (by
          constructor
          · intro h; rw [show c = x by omega]
          · intro h
            have := congrArg UInt8.toNat h
            rw [UInt8.toNat_ofNat_of_lt' (by simpa using h256), UInt8.toNat_ofNat_of_lt' (by simpa using hd)] at this
            omega)
        rw [e]
        simp only [List.mem_append, List.mem_singleton]
        grind
      · have hk9 : k = 9 := by omega
        subst hk9
        refine sgo ?_
        refine ⟨(), ⟨rfl, rfl, rfl, ?_, rfl, rfl, trivial⟩, hfr'⟩
        exact congrArg Value.bool hesc
    · rintro ⟨⟩ w5 ρ5 hf5
      clear hI hcd hesc
      have fin : ∀ w' : World, Frm w w' → (i + 1 ≤ t.length ∧ (s ++ encC c cd) ++ encL (t.drop (i + 1)) = encL t ∧ (s ++ encC c cd).length ≤ 3 * (i + 1) ∧ Frm w w') := by
        intro w' hw'
        refine ⟨by omega, ?_, by simp; omega, hw'⟩
        rw [← he, hst, List.append_assoc]
      refine sgo ?_
      (show WC _ _ _ _ _ _ _; first | refine WC_dec rfl (fun hc => ?_) (fun hc => ?_) | refine WC_cond rfl (fun hc => ?_) (fun hc => ?_))
      · rw [encC, if_pos hc] at fin
        have e1 := digs_at (c / 16) (by omega)
        have e2 := digs_at (c % 16) (by omega)
        refine sgo ?_
        refine wcdraw ?_
        refine qgo ?_
        refine ql ?_ (YQ.ofY fun wq hwq => y_quo rfl rfl ⟨by omega, by decide, show (c : Int) ≤ 255 by omega⟩)
        refine qgo ?_
        refine ql ?_ (YQ.ofY fun wq hwq => y_quo rfl rfl ⟨by omega, by decide, show (c : Int) ≤ 255 by omega⟩)
        refine qgo ?_
        refine ql ?_ (YQ.ofY fun wq hwq => y_dig (c / 16) (by omega) (a := (c : Int) / 16) (b := (c : Int) / 16 + 1) (by omega) (by omega) rfl rfl rfl)
        refine qgo ?_
        refine ql ?_ (YQ.ofY fun wq hwq => y_dig (c % 16) (by omega) (a := (c : Int) % 16) (b := (c : Int) % 16 + 1) (by omega) (by omega) rfl rfl rfl)
        refine qgo ?_
        refine QL_nil ?_
        intro wd hwd
        refine sgo ?_
        exact ⟨(i + 1, s ++ pct c), ⟨rfl, rfl, rfl, rfl, trivial⟩, fin _ (hf5.trans hwd), by dsimp only; omega⟩
      · rw [encC, if_neg (by simp [hc])] at fin
        have hc128 : c < 128 := by
          have : escB c cd = false := hc
          simp only [escB, Bool.or_eq_false_iff, decide_eq_false_iff_not] at this
          omega
        refine sgo ?_
        refine wl ?_ (y_i2s rfl hc128)
        refine sgo ?_
        exact ⟨(i + 1, s ++ [UInt8.ofNat c]), ⟨rfl, rfl, rfl, rfl, trivial⟩, fin _ hf5, by dsimp only; omega⟩
  · obtain rfl : i = t.length := by omega
    have he' : s = encL t := by simpa [encL] using he
    subst he'
    refine sgo ?_
    (first | refine fp1 (.inl rfl) rfl rfl ?_ | refine fp2 (.inl rfl) rfl rfl rfl ?_ | refine fp3 (.inl rfl) rfl rfl rfl rfl ?_ | refine fp0 (.inr rfl) rfl ?_ | refine fp0 (.inl rfl) rfl ?_ | refine fp1 (.inr rfl) rfl rfl ?_); refine ⟨?_, by (first | exact Frm.refl _ | assumption | (refine Frm.trans ?_ (by assumption); first | exact Frm.refl _ | assumption))⟩; (try simp only [realB, rv_true, Nat.reduceBEq, cond_true, cond_false, entG, real_lif, updGL])
set_option maxHeartbeats 2000000 in
theorem refDecode_ok (l : List UInt8) (hb : l.length ≤ 268435456) (w : World) : PureC Try.prog 13 #[str l] w (str (decodeR l)) := by
  refine enter (l := [str l]) Try.func13 rfl Try.ntmps13 (by kernel_rfl) rfl ?_
  refine sgo ?_
  refine wlpure (refMend_ok l (by omega) _) fun w1 hf1 => ?_
  have hml := mendR_len l
  unfold decodeR
  generalize mendR l = t at *
  refine sgo ?_
  refine wcloop (X := Nat × Option Addr × List UInt8 × Nat) (fun x => [(0, str t), (3, .slice x.2.1 x.2.2.1.length x.2.2.2), (4, int x.1)])
    (fun x wr => x.1 ≤ t.length ∧ x.2.2.1 ++ decL (t.drop x.1) = decL t ∧ x.2.2.1.length ≤ x.1 ∧ Row wr 1 x.2.1 x.2.2.1.length x.2.2.2 (bs x.2.2.1) ∧ (∀ k ∈ rb x.2.1, w.heap.size ≤ k) ∧ Frm w wr)
    (fun x => t.length - x.1) (0, none, [], 0) ⟨rfl, rfl, rfl, trivial⟩ ⟨by omega, by simp, by simp, Row.nil _ _, rb_nil _, hf1⟩ ?_
  rintro ⟨i, q, s, c⟩ wr ρ ⟨hi, he, hsl, hR, hq, hfr⟩
  dsimp only at hi he hsl hR hq ⊢
  refine sgo ?_
  (show WC _ _ _ _ _ _ _; first | refine WC_dec rfl (fun hc => ?_) (fun hc => ?_) | refine WC_cond rfl (fun hc => ?_) (fun hc => ?_))
  · have hil : i < t.length := by omega
    have h0 := at_lt t i
    refine sgo ?_
    refine wlcallgp (vals := [str t, int i]) (fun _ => hexes_ok t i hi (by omega) _) fun w2 hf2 => ?_
    replace hR := hR.frm hf2
    replace hfr := hfr.trans hf2
    refine sgo ?_
    (show WC _ _ _ _ _ _ _; first | refine WC_dec rfl (fun hc => ?_) (fun hc => ?_) | refine WC_cond rfl (fun hc => ?_) (fun hc => ?_))
    · simp only [pkb_and, Bool.and_eq_true, decide_eq_true_eq] at hc
      have hy := decL_yes t i hil (by simp only [at0]; omega) hc.2
      obtain ⟨g1, g2, g3⟩ := coded_hex hc.2
      have h1 := at_lt t (i + 1)
      have h2 := at_lt t (i + 2)
      have v1 := (valN_of g2).2
      have v2 := (valN_of g3).2
      have hor : (16 * (valN (at0 t (i + 1)) : Int) + valN (at0 t (i + 2))) = ((16 * valN (at0 t (i + 1)) + valN (at0 t (i + 2)) : Nat) : Int) := by omega
      refine WC_seq ?_
      refine wcdrawx 16 ?_
      refine qgo ?_
      refine qlcallp (fun w _ => hexv4_ok (at0 t (i + 1)) h1 g2 w) ?_
      refine qgo ?_
      refine qlcallp (fun w _ => hexv4_ok (at0 t (i + 2)) h2 g3 w) ?_
      refine qgo ?_
      refine QL_nil ?_
      refine qxb1_int fun b w3 hf3 hb3 ho3 => ?_
      rw [hor] at ho3
      have hbyt : 16 * valN (at0 t (i + 1)) + valN (at0 t (i + 2)) < 256 := by omega
      generalize 16 * valN (at0 t (i + 1)) + valN (at0 t (i + 2)) = x at *
      clear hor
      refine wlapp (news := bs [UInt8.ofNat x]) (hR.frm hf3) (by
        have e : bs [UInt8.ofNat x] = [byt x] := by simp [bs, Nat.mod_eq_of_lt hbyt]
        rw [e]; exact ho3.sg) (fun q' c' w4 hR4 hl4 => ?_) (hl := by simp [bs]) (h1 := by simp [bs, Value.oneCell'])
      have hfr4 := (hfr.trans hf3).step hl4.1 hq
      have hq4 := hl4.fresh (hfr.trans hf3) hq
      refine sgo ?_
      refine ⟨(i + 3, q', s ++ [UInt8.ofNat x], c'), ⟨rfl, ?_, ?_, trivial⟩, ⟨by dsimp only; omega, ?_, by simp; omega, ?_, hq4, hfr4⟩, by dsimp only; omega⟩
      · dsimp only; rw [List.length_append]; rfl
      · dsimp only; refine congrArg int ?_; omega
      · dsimp only; rw [← he, hy]; simp
      · dsimp only; rw [List.length_append, bs, List.map_append]; exact hR4
    · have hn : ¬ (at0 t i = 37 ∧ codedR t i = true) := by
        rintro ⟨g1, g2⟩
        rw [g2, pkb_and, Bool.and_true] at hc
        simp only [at0] at g1
        simp only [decide_eq_false_iff_not] at hc
        omega
      have hy := decL_no t i hil hn
      refine sgo ?_
      refine wlb1_int fun b w3 hb3 ho3 hf3 => ?_
      refine wlapp (news := bs [UInt8.ofNat (at0 t i)]) (hR.frm hf3) (by
        have e : bs [UInt8.ofNat (at0 t i)] = [byt (at0 t i)] := by simp [bs]
        rw [e]; exact ho3.sg) (fun q' c' w4 hR4 hl4 => ?_) (hl := by simp [bs]) (h1 := by simp [bs, Value.oneCell'])
      have hfr4 := (hfr.trans hf3).step hl4.1 hq
      have hq4 := hl4.fresh (hfr.trans hf3) hq
      refine sgo ?_
      refine ⟨(i + 1, q', s ++ [UInt8.ofNat (at0 t i)], c'), ⟨rfl, ?_, rfl, trivial⟩, ⟨by dsimp only; omega, ?_, by simp; omega, ?_, hq4, hfr4⟩, by dsimp only; omega⟩
      · dsimp only; rw [List.length_append]; rfl
      · dsimp only; rw [← he, hy]; simp
      · dsimp only; rw [List.length_append, bs, List.map_append]; exact hR4
  · obtain rfl : i = t.length := by omega
    have he' : s = decL t := by simpa [decL_nil] using he
    subst he'
    have hdl := decL_len _ t (Nat.le_refl _)
    refine sgo ?_
    refine wl ?_ (y_b2s rfl hR.sg)
    refine sgo ?_
    refine wlpure (refMend_ok (decL t) (by omega) _) fun w3 hf3 => ?_
    have hf' := hfr.trans hf3
    refine sgo ?_
    (first | refine fp1 (.inl rfl) rfl rfl ?_ | refine fp2 (.inl rfl) rfl rfl rfl ?_ | refine fp3 (.inl rfl) rfl rfl rfl rfl ?_ | refine fp0 (.inr rfl) rfl ?_ | refine fp0 (.inl rfl) rfl ?_ | refine fp1 (.inr rfl) rfl rfl ?_); refine ⟨?_, by (first | exact Frm.refl _ | assumption | (refine Frm.trans ?_ (by assumption); first | exact Frm.refl _ | assumption))⟩; (try simp only [realB, rv_true, Nat.reduceBEq, cond_true, cond_false, entG, real_lif, updGL])
end Go.Proofs.Ytffaoehhhdcjjaa
