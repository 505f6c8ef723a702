/-
  Our texts SvLn, SvIn, SvVaA, SvVaB, SvFv, SvInL, SvInN, SvEvC, SvEvN, SvJn, SvVaC, SvTabF, SvVaD, SvPost, SvOpen, SvOpn, SvValW, SvOpnB, joined.
-/
import Derived.Test.YtjpnhaaneaikbaaDoorMg3
import Derived.Lib.LaidTab
import Derived.ChangeSame
import Derived.Test.YtjpnhaaneaikbaaDoorRows
import Derived.WalkKit
import Derived.ProofKit
import Derived.OpenShut
import Derived.JoinedCond
import Derived.Deep.Slices
import Derived.WideKeyArgs
import Derived.Deep.DeepHandedRow
import Derived.Deep.DeepWitnessRowRef
/-
  Slices written out of elements of many cells; regions that draw their order, by an invariant of the whole state.
-/
set_option linter.unusedSimpArgs false
set_option linter.unusedVariables false
set_option linter.unnecessarySimpa false
namespace Go.Sv
open Go Go.RowKit
section
variable {P : Program} {n : Nat} {ds : Ctx} {ops : Array Oper} {Q : Exit → Ctx → Env → World → Prop} {rest : List Oper} {σ : GE} {w : World} {d : Nat} {ty t t' e : TypeId} {pos : String} {af : Array Edge} {x : Operand} {zv : Value} {size bytes : Nat}
end

/-! ## Regions that draw their order, by an invariant -/
def fwdB (ops : Array Oper) : Bool := (List.range ops.size).all fun j => match ops[j]? with
  | some o => o.after.all fun e => !Region.binds .any e || decide (e.on < j)
  | none => true
/-- what comes of an operation, whatever it yields -/
def comes (P : Program) (T : Value → World → Prop) : Result Next → Prop
  | .ok (.value u) w' => T u w'
  | .ok .skip w' => T undef w'
  | .ok (.enter f args) w' => Calls P f args w' (fun e w'' => ∃ v, e = .returned v ∧ T v w'')
  | _ => False
def StepI (P : Program) (ops : Array Oper) (S : (Nat → Bool) → Env → World → Prop) (k : Nat) (o : Oper) : Prop := ∀ L σ w, Up ops o k L → S L σ w →
  (Region.wanted o (yl ops σ) = true ∧ comes P (fun v w' => S (on L k) (updO σ o.dst v) w') ((execOp (evl σ) o).run P w)) ∨ (Region.wanted o (yl ops σ) = false ∧ S (on L k) (updO σ o.dst undef) w)
def StepsI (P : Program) (ops : Array Oper) (S : (Nat → Bool) → Env → World → Prop) : Nat → List Oper → Prop
  | _, [] => True
  | k, o :: l => StepI P ops S k o ∧ StepsI P ops S (k + 1) l
section
variable {P : Program} {n : Nat} {ds : Ctx} {Q : Exit → Ctx → Env → World → Prop} {S : (Nat → Bool) → Env → World → Prop} {σ : Env} {w : World}
end
end Go.Sv

/-
  Packages names and sieveref04: which names are in the set of void elements; texts parted by blanks.
-/
set_option linter.unusedSimpArgs false
set_option linter.unusedVariables false
set_option linter.unnecessarySimpa false
namespace Go.Proofs.YtjpnhaaneaikbaaDoor
open Go Go.Sv Go.RowKit

def strs (l : List (List UInt8)) : List Value := l.map fun s => str s
theorem strs_len (l : List (List UInt8)) : (strs l).length = l.length := by simp [strs]
theorem strs_at {l : List (List UInt8)} {i : Nat} {x : List UInt8} (h : l[i]? = some x) : (strs l)[i]? = some (str x) := by simp [strs, h]
theorem strs_app (l m : List (List UInt8)) : strs (l ++ m) = strs l ++ strs m := by simp [strs]
theorem strs_snoc (l : List (List UInt8)) (x : List UInt8) : strs l ++ [str x] = strs (l ++ [x]) := (strs_app l [x]).symm
/-- the table of blanks holds what its initialiser lays -/
def Asc (w : World) : Prop := Lib.TabIs Tryd.prog w "strings.asciiSpace" .u8 Lib.asciiSpaceTab












/-! ## sieveref04: Fields -/
def blkR (c : UInt8) : Bool := decide (c = 9 ∨ c = 10 ∨ c = 12 ∨ c = 32)
def fgo : List UInt8 → List UInt8 → List (List UInt8)
  | cur, [] => if cur = [] then [] else [cur]
  | cur, b :: l => if blkR b then (if cur = [] then fgo [] l else cur :: fgo [] l) else fgo (cur ++ [b]) l
def fieldsR (s : List UInt8) : List (List UInt8) := fgo [] s

















/-! ## the sets -/
def voidL : List (List UInt8) := fieldsR [97, 114, 101, 97, 32, 98, 97, 115, 101, 32, 98, 114, 32, 99, 111, 108, 32, 101, 109, 98, 101, 100, 32, 104, 114, 32, 105, 109, 103, 32, 105, 110, 112, 117, 116, 32, 108, 105, 110, 107, 32, 109, 101, 116, 97, 32, 115, 111, 117, 114, 99, 101, 32, 116, 114, 97, 99, 107, 32, 119, 98, 114]
def voidT : List UInt8 := [97, 114, 101, 97, 32, 98, 97, 115, 101, 32, 98, 114, 32, 99, 111, 108, 32, 101, 109, 98, 101, 100, 32, 104, 114, 32, 105, 109, 103, 32, 105, 110, 112, 117, 116, 32, 108, 105, 110, 107, 32, 109, 101, 116, 97, 32, 115, 111, 117, 114, 99, 101, 32, 116, 114, 97, 99, 107, 32, 119, 98, 114]
/-- is a name a void element's? -/
def voidR (n : List UInt8) : Bool := decide (n ∈ voidL)
end Go.Proofs.YtjpnhaaneaikbaaDoor

/-
  Package value: words, digits.
-/
set_option linter.unusedSimpArgs false
set_option linter.unusedVariables false
set_option linter.unnecessarySimpa false
namespace Go.Proofs.YtjpnhaaneaikbaaDoor
open Go Go.Sv Go.RowKit

theorem fgo_sp : ∀ (v cur : List UInt8), fgo cur (v ++ [32]) = fgo cur v
  | [], cur => by
    rw [List.nil_append]
    show (if blkR 32 = true then (if cur = [] then fgo [] [] else cur :: fgo [] []) else fgo (cur ++ [32]) []) = (if cur = [] then [] else [cur])
    rw [if_pos (by decide)]
    simp only [fgo, if_true]
  | b :: v, cur => by
    rw [List.cons_append, fgo, fgo, fgo_sp v, fgo_sp v]
theorem fgo_nb : ∀ (x cur l : List UInt8), (∀ c ∈ x, blkR c = false) → fgo cur (x ++ l) = fgo (cur ++ x) l
  | [], cur, l, _ => by rw [List.nil_append, List.append_nil]
  | b :: x, cur, l, h => by
    rw [List.cons_append, fgo, if_neg (by simp [h b (by simp)]), fgo_nb x _ _ fun c hc => h c (List.mem_cons_of_mem _ hc), List.append_assoc]
    rfl
/-- one rune of a right text: is it a blank, and its bytes -/
theorem blk_piece {l : List UInt8} (h0 : 0 < l.length) (hr : Right l) : ((pieceR l).1.toNat = 9 ∨ (pieceR l).1.toNat = 10 ∨ (pieceR l).1.toNat = 12 ∨ (pieceR l).1.toNat = 32) ∧ (pieceR l).2.1 = 1 ∧ (∃ b r, l = b :: r ∧ blkR b = true) ∨
    ¬ ((pieceR l).1.toNat = 9 ∨ (pieceR l).1.toNat = 10 ∨ (pieceR l).1.toNat = 12 ∨ (pieceR l).1.toNat = 32) ∧ ∀ c ∈ l.take (pieceR l).2.1, blkR c = false := by
  obtain ⟨r, g1, g2, g3, g4, g5, g6⟩ := enc_right l h0 hr
  rw [g1, Int.toNat_natCast]
  have blk : ∀ c : UInt8, blkR c = true ↔ (c.toNat = 9 ∨ c.toNat = 10 ∨ c.toNat = 12 ∨ c.toNat = 32) := by
    intro c
    unfold blkR
    rw [decide_eq_true_eq]
    simp only [← UInt8.toNat_inj, show UInt8.toNat 9 = 9 from rfl, show UInt8.toNat 10 = 10 from rfl, show UInt8.toNat 12 = 12 from rfl, show UInt8.toNat 32 = 32 from rfl]
  cases l with
  | nil => simp at h0
  | cons b l =>
    rcases Nat.lt_or_ge r 128 with h | h
    · obtain ⟨k1, k2⟩ := g5 h
      have hb : b.toNat = r := by simpa [at0] using k2
      by_cases hbl : r = 9 ∨ r = 10 ∨ r = 12 ∨ r = 32
      · exact .inl ⟨hbl, k1, b, l, rfl, (blk b).2 (by rw [hb]; exact hbl)⟩
      · refine .inr ⟨hbl, fun c hc => ?_⟩
        rw [k1] at hc
        simp only [List.take_succ_cons, List.take_zero, List.mem_singleton] at hc
        subst hc
        cases h' : blkR c with
        | false => rfl
        | true => exact absurd (by rw [← hb]; exact (blk c).1 h') hbl
    · refine .inr ⟨by omega, fun c hc => ?_⟩
      obtain ⟨k, hk, rfl⟩ := List.mem_iff_getElem.1 hc
      have hk' : k < (pieceR (b :: l)).2.1 := by rw [List.length_take] at hk; omega
      have h128 := g6 h k hk'
      have hkl : k < (b :: l).length := by rw [List.length_take] at hk; omega
      have e : at0 (b :: l) k = ((b :: l).take (pieceR (b :: l)).2.1)[k].toNat := by
        unfold at0
        rw [List.getElem?_eq_getElem hkl, List.getElem_take]; rfl
      rw [e] at h128
      cases h' : blkR ((b :: l).take (pieceR (b :: l)).2.1)[k] with
      | false => rfl
      | true =>
        have := (blk _).1 h'
        omega
set_option maxHeartbeats 2000000 in
theorem words_ok (v : List UInt8) (hv0 : validR v = true) (hb : v.length ≤ 100000000) (w : World) :
    CallsR Tryd.prog 23 #[str v] w fun r w' => ∃ q c, r = .slice q (fieldsR v).length c ∧ Sep w w' [pRow 1 q (fieldsR v).length c (strs (fieldsR v))] := by
  have hv1 : validR (v ++ [32]) = true := valid_app hv0 (valid_one 32 (by decide))
  have hS := Sep.start w
  have hfs : fieldsR v = fgo [] (v ++ [32]) := (fgo_sp v []).symm
  rw [hfs]
  refine enter (l := [str v]) Tryd.func23 rfl Tryd.ntmps23 (by kernel_rfl) rfl ?_
  generalize ht : v ++ [32] = t at *
  have hlt : t.length = v.length + 1 := by rw [← ht]; simp
  refine sgo ?_
  rw [ht]
  refine wlrange fun r w6 hr6 hI6 hf6 => ?_
  replace hS := (hS.pushIt hf6 hI6 hr6).nilRow 1
  clear hI6 hf6 hr6
  refine sgo ?_
  refine wcutj (X := Option Addr × Nat) (fun x => [(3, .slice x.1 (fgo [] t).length x.2)]) (fun x w' => Sep w w' [pRow 1 x.1 (fgo [] t).length x.2 (strs (fgo [] t))]) ?_ ?_
  · refine wcloop (X := Nat × Option Nat × List (List UInt8) × Option Addr × Nat) (fun x => [(0, str v), (3, .slice x.2.2.2.1 x.2.2.1.length x.2.2.2.2), (4, int (match x.2.1 with | none => -1 | some a => (a : Int))), (10, .pointer (pb r))])
      (fun x w' => x.1 ≤ t.length ∧ x.2.2.1.length ≤ x.1 ∧ validR (t.drop x.1) = true ∧ (match x.2.1 with | none => x.2.2.1 ++ fgo [] (t.drop x.1) = fgo [] t | some a => a < x.1 ∧ x.1 ≤ v.length ∧ x.2.2.1 ++ fgo ((t.drop a).take (x.1 - a)) (t.drop x.1) = fgo [] t) ∧
        Sep w w' [pRow 1 x.2.2.2.1 x.2.2.1.length x.2.2.2.2 (strs x.2.2.1), pIt r t x.1]) (fun x => t.length - x.1) (0, none, [], none, 0) ⟨rfl, rfl, rfl, rfl, trivial⟩ ⟨Nat.zero_le _, Nat.zero_le _, hv1, rfl, hS⟩ ?_
    clear hS
    rintro ⟨i, from_, out, q, c⟩ wr ρ ⟨hil, hol, hv, hinv, hS⟩
    dsimp only at hil hol hv hinv hS ⊢
    have hIt := hS.it 1 rfl
    iterate 2 (first | (show WL _ _ _ _ _ _ _ _; (first | refine wlp ?_ | refine WL_nil ?_ | (show WL _ _ _ _ _ (Go.Oper.mk _ _ _ _ _ none :: _) _ _; first | refine wlpk ?_ | refine wl_load ?_ | refine wl_idxa ?_ | refine wl_fld ?_ | refine wl_idx ?_ | refine wl_len ?_ | refine wl_bin ?_ | refine wl_cnv ?_ | refine wl_slc ?_ | refine wl_una ?_ | refine wl_nilc ?_ | refine wl_mkf ?_) | refine wlpg ?_ | refine wlg_load ?_ | refine wlg_idxa ?_ | refine wlg_fld ?_ | refine wlg_idx ?_ | refine wlg_len ?_ | refine wlg_bin ?_ | refine wlg_cnv ?_ | refine wlg_slc ?_ | refine wlg_una ?_ | refine wlg_nilc ?_ | refine wlg_mkf ?_)) | (show thn _ _ _ _ _ _; (first | refine thn_normal ?_ | refine thn_ret ?_ | refine thn_exit ?_)) | (show thl _ _ _ _ _ _ _; (first | refine thl_normal ?_ | refine thl_ret ?_ | refine thl_exit ?_)) | (show WC _ _ _ _ _ _ _; (first | refine WC_seq ?_ | refine WC_region ?_ | refine WC_ret ?_ | refine WC_skip ?_ | refine WC_block ?_ | refine WC_exit ?_ | refine WC_label ?_ | refine WC_scope rfl ?_ | refine wcyes ?_ | refine wcno ?_)) | (show blk _ _ _ _ _ _; (first | refine blk_ret ?_ | refine blk_here ?_ | refine blk_on rfl ?_ | refine blk_normal ?_)) | (show ngt _ _ _ _ _; (first | refine ngt_normal ?_ | refine ngt_ret ?_ | refine ngt_exit ?_)))
    by_cases hi : i < t.length
    · have hpos : 0 < (t.drop i).length := by simp; omega
      obtain ⟨hr, hv2⟩ := valid_step (t.drop i) hpos hv
      obtain ⟨x, hx, hgx⟩ := pieceR_good (t.drop i) hpos
      have hpr := pieceR_rng (t.drop i) hpos
      have hdl : (t.drop i).length = t.length - i := by simp
      have hblk := blk_piece hpos hr
      rw [List.drop_drop] at hv2
      rw [hx, Int.toNat_natCast] at hblk
      refine wlnext_yes hIt hi fun w7 hI7 hl7 => ?_
      rw [decode_right t i hr, hx, Int.toNat_natCast] at hI7 ⊢
      dsimp only at hI7 ⊢
      generalize (pieceR (t.drop i)).2.1 = m at *
      replace hS := hS.nextIt 1 rfl hl7 hI7
      replace hS : Sep w w7 [pRow 1 q out.length c (strs out), pIt r t (i + m)] := hS
      clear hIt hI7 hl7
      refine sgo ?_
      have hB : pkb (pkb (pkb (decide ((x : Int) = 9)) true (decide ((x : Int) = 10))) true (decide ((x : Int) = 12))) true (decide ((x : Int) = 32)) = decide (x = 9 ∨ x = 10 ∨ x = 12 ∨ x = 32) := by
        rw [Bool.eq_iff_iff]
        simp only [pkb_or, Bool.or_eq_true, decide_eq_true_eq]
        omega
      rw [hB]
      rcases hblk with ⟨hb1, rfl, b, rest, hbr, hbb⟩ | ⟨hb1, hnb⟩
      · rw [decide_eq_true hb1]
        have hrest : rest = t.drop (i + 1) := by rw [← List.drop_drop, hbr]; rfl
        have hilv : i ≤ v.length := by omega
        rw [hbr] at hinv
        cases from_ with
        | none =>
          dsimp only at hinv ⊢
          rw [fgo, if_pos hbb, if_pos rfl, hrest] at hinv
          refine wcno ?_ (ht := by decide)
          refine sgo ?_
          refine ⟨(i + 1, none, out, q, c), ⟨rfl, rfl, rfl, rfl, trivial⟩, ⟨by dsimp only; omega, by dsimp only; omega, hv2, hinv, hS⟩, by dsimp only; omega⟩
        | some a =>
          dsimp only at hinv ⊢
          obtain ⟨ha, -, hinv⟩ := hinv
          have hne : (t.drop a).take (i - a) ≠ [] := by
            intro h; have := congrArg List.length h; simp at this; omega
          rw [fgo, if_pos hbb, if_neg hne, hrest] at hinv
          have hcut : (t.drop a).take (i - a) = (v.drop a).take (i - a) := by
            rw [← ht, List.drop_append_of_le_length (by omega), List.take_append_of_le_length (by rw [List.length_drop]; omega)]
          rw [hcut] at hinv
          clear hcut hne hB
          refine wcyes ?_ (ht := by simp [pkb])
          refine sgo ?_
          refine sb1s hS fun b2 w8 hS => ?_
          refine sgo ?_
          refine sapp hS 1 (hS.own 0 rfl).sg fun q' c' w9 hS => ?_
          replace hS := hS.tail
          rw [strs_snoc] at hS
          have hn : out.length + 1 = (out ++ [List.take (i - a) (List.drop a v)]).length := by simp
          rw [hn] at hS ⊢
          refine sgo ?_
          refine ⟨(i + 1, none, out ++ [(v.drop a).take (i - a)], q', c'), ⟨rfl, rfl, rfl, rfl, trivial⟩, ⟨by dsimp only; omega, by dsimp only; simp; omega, hv2, by dsimp only; rw [← hinv]; simp, hS⟩, by dsimp only; omega⟩
      · rw [decide_eq_false hb1]
        have hsplit : t.drop i = (t.drop i).take m ++ t.drop (i + m) := by rw [← List.drop_drop, List.take_append_drop]
        rw [hsplit] at hinv
        have hvi : i + m ≤ v.length := by
          apply Decidable.byContradiction
          intro hcon
          have hmem : (32 : UInt8) ∈ (t.drop i).take m := by
            apply List.mem_of_getElem? (i := v.length - i)
            rw [List.getElem?_take_of_lt (by omega), List.getElem?_drop, show i + (v.length - i) = v.length by omega, ← ht, List.getElem?_append_right (Nat.le_refl _), Nat.sub_self]
            rfl
          exact absurd (hnb 32 hmem) (by decide)
        cases from_ with
        | none =>
          dsimp only at hinv ⊢
          rw [fgo_nb _ _ _ hnb, List.nil_append] at hinv
          refine wcno ?_ (ht := by decide)
          refine sgo ?_
          refine ⟨(i + m, some i, out, q, c), ⟨rfl, rfl, rfl, rfl, trivial⟩, ⟨by dsimp only; omega, by dsimp only; omega, hv2, ⟨by dsimp only; omega, hvi, by dsimp only; rw [Nat.add_sub_cancel_left]; exact hinv⟩, hS⟩, by dsimp only; omega⟩
        | some a =>
          dsimp only at hinv ⊢
          obtain ⟨ha, hiv, hinv⟩ := hinv
          rw [fgo_nb _ _ _ hnb] at hinv
          have hcat : (t.drop a).take (i - a) ++ (t.drop i).take m = (t.drop a).take (i + m - a) := by
            rw [show i + m - a = (i - a) + m by omega, List.take_add, List.drop_drop, show a + (i - a) = i by omega]
          rw [hcat] at hinv
          refine wcno ?_ (ht := by rfl)
          refine sgo ?_
          refine wcno ?_ (ht := by simp [pkb])
          refine sgo ?_
          refine ⟨(i + m, some a, out, q, c), ⟨rfl, rfl, rfl, rfl, trivial⟩, ⟨by dsimp only; omega, by dsimp only; omega, hv2, ⟨by dsimp only; omega, hvi, hinv⟩, hS⟩, by dsimp only; omega⟩
    · obtain rfl : i = t.length := by omega
      refine wlnext_no hIt (by omega) ?_
      refine sgo ?_
      cases from_ with
      | some a => dsimp only at hinv; omega
      | none =>
        dsimp only at hinv
        rw [List.drop_length] at hinv
        rw [← hinv]
        simp only [fgo, if_true, List.append_nil]
        exact ⟨(q, c), ⟨rfl, trivial⟩, hS.sub (List.Sublist.cons_cons _ (List.nil_sublist _))⟩
  · clear hS
    rintro ⟨q, c⟩ w7 ρ hS
    dsimp only at hS ⊢
    refine sgo ?_
    (first | refine fp1 (.inl rfl) rfl rfl ?_ | refine fp2 (.inl rfl) rfl rfl rfl ?_ | refine fp3 (.inl rfl) rfl rfl rfl rfl ?_ | refine fp0 (.inr rfl) rfl ?_ | refine fp0 (.inl rfl) rfl ?_ | refine fp1 (.inr rfl) rfl rfl ?_)
    exact ⟨q, c, rfl, hS⟩
end Go.Proofs.YtjpnhaaneaikbaaDoor

/-
  Packages value and sieveref13: Tokens, Number.
-/
set_option linter.unusedSimpArgs false
set_option linter.unusedVariables false
set_option linter.unnecessarySimpa false
namespace Go.Proofs.YtjpnhaaneaikbaaDoor
open Go Go.Sv Go.RowKit

def numG : List UInt8 → Nat → Option Nat
  | [], n => some n
  | c :: l, n => if digitR c.toNat = true then numG l (10 * n + (c.toNat - 48)) else none
/-- one to nine digits -/
def numR (v : List UInt8) : Option Nat := if v.length < 1 ∨ 9 < v.length then none else numG v 0
def numV : Option Nat → Value
  | some n => .tuple #[int n, .bool true]
  | none => .tuple #[int (0 : Nat), .bool false]
theorem vDigit_ok (c : Nat) (w : World) : PureC Tryd.prog 35 #[byt c] w (.bool (digitR c)) := by
  refine enter (l := [byt c]) Tryd.func35 rfl Tryd.ntmps35 (by kernel_rfl) rfl ?_
  refine sgo ?_
  (first | refine fp1 (.inl rfl) rfl rfl ?_ | refine fp2 (.inl rfl) rfl rfl rfl ?_ | refine fp3 (.inl rfl) rfl rfl rfl rfl ?_ | refine fp0 (.inr rfl) rfl ?_ | refine fp0 (.inl rfl) rfl ?_ | refine fp1 (.inr rfl) rfl rfl ?_); refine ⟨?_, by (first | exact Frm.refl _ | assumption | exact Go.Sv.Sep.frm (by assumption) | (refine Frm.trans ?_ (by assumption); first | exact Frm.refl _ | assumption))⟩; (try simp only [realB, rv_true, Nat.reduceBEq, cond_true, cond_false, entG, real_lif, updGL])
  refine congrArg Value.bool ?_
  unfold digitR
  rw [Bool.eq_iff_iff]
  simp only [pkb_or, pkb_and, Bool.or_eq_true, Bool.and_eq_true, decide_eq_true_eq]
  omega
theorem r13Digit_ok (c : Nat) (w : World) : PureC Tryd.prog 27 #[byt c] w (.bool (digitR c)) := by
  refine enter (l := [byt c]) Tryd.func27 rfl Tryd.ntmps27 (by kernel_rfl) rfl ?_
  refine sgo ?_
  (first | refine fp1 (.inl rfl) rfl rfl ?_ | refine fp2 (.inl rfl) rfl rfl rfl ?_ | refine fp3 (.inl rfl) rfl rfl rfl rfl ?_ | refine fp0 (.inr rfl) rfl ?_ | refine fp0 (.inl rfl) rfl ?_ | refine fp1 (.inr rfl) rfl rfl ?_); refine ⟨?_, by (first | exact Frm.refl _ | assumption | exact Go.Sv.Sep.frm (by assumption) | (refine Frm.trans ?_ (by assumption); first | exact Frm.refl _ | assumption))⟩; (try simp only [realB, rv_true, Nat.reduceBEq, cond_true, cond_false, entG, real_lif, updGL])
  refine congrArg Value.bool ?_
  unfold digitR
  rw [Bool.eq_iff_iff]
  simp only [pkb_or, pkb_and, Bool.or_eq_true, Bool.and_eq_true, decide_eq_true_eq]
  omega
theorem r13Blank_ok (c : UInt8) (w : World) : PureC Tryd.prog 25 #[byt c.toNat] w (.bool (blkR c)) := by
  refine enter (l := [byt c.toNat]) Tryd.func25 rfl Tryd.ntmps25 (by kernel_rfl) rfl ?_
  refine sgo ?_
  (first | refine fp1 (.inl rfl) rfl rfl ?_ | refine fp2 (.inl rfl) rfl rfl rfl ?_ | refine fp3 (.inl rfl) rfl rfl rfl rfl ?_ | refine fp0 (.inr rfl) rfl ?_ | refine fp0 (.inl rfl) rfl ?_ | refine fp1 (.inr rfl) rfl rfl ?_); refine ⟨?_, by (first | exact Frm.refl _ | assumption | exact Go.Sv.Sep.frm (by assumption) | (refine Frm.trans ?_ (by assumption); first | exact Frm.refl _ | assumption))⟩; (try simp only [realB, rv_true, Nat.reduceBEq, cond_true, cond_false, entG, real_lif, updGL])
  refine congrArg Value.bool ?_
  unfold blkR
  rw [Bool.eq_iff_iff]
  simp only [pkb_or, pkb_and, Bool.or_eq_true, Bool.and_eq_true, decide_eq_true_eq, ← UInt8.toNat_inj, show UInt8.toNat 9 = 9 from rfl, show UInt8.toNat 10 = 10 from rfl, show UInt8.toNat 12 = 12 from rfl, show UInt8.toNat 32 = 32 from rfl]
  omega
theorem numG_step {v : List UInt8} {i n : Nat} (hi : i < v.length) : numG (v.drop i) n = if digitR (v[i]?.getD 0).toNat = true then numG (v.drop (i + 1)) (10 * n + ((v[i]?.getD 0).toNat - 48)) else none := by
  rw [List.drop_eq_getElem_cons hi, numG, List.getElem?_eq_getElem hi]
  rfl
theorem digit_rng {c : Nat} (h : digitR c = true) : 48 ≤ c ∧ c ≤ 57 := by
  simp only [digitR, Bool.and_eq_true, decide_eq_true_eq] at h
  exact h
set_option maxHeartbeats 1000000 in
theorem digits_ok (v : List UInt8) (hb : v.length ≤ 1073741824) (w : World) : PureC Tryd.prog 26 #[str v] w (numV (numR v)) := by
  refine enter (l := [str v]) Tryd.func26 rfl Tryd.ntmps26 (by kernel_rfl) rfl ?_
  unfold numR
  refine sgo ?_
  refine WC_cond rfl (fun hc => ?_) (fun hc => ?_)
  · simp only [pkb_or, Bool.or_eq_true, decide_eq_true_eq] at hc
    rw [if_pos (by omega)]
    refine sgo ?_
    (first | refine fp1 (.inl rfl) rfl rfl ?_ | refine fp2 (.inl rfl) rfl rfl rfl ?_ | refine fp3 (.inl rfl) rfl rfl rfl rfl ?_ | refine fp0 (.inr rfl) rfl ?_ | refine fp0 (.inl rfl) rfl ?_ | refine fp1 (.inr rfl) rfl rfl ?_); refine ⟨?_, by (first | exact Frm.refl _ | assumption | exact Go.Sv.Sep.frm (by assumption) | (refine Frm.trans ?_ (by assumption); first | exact Frm.refl _ | assumption))⟩; (try simp only [realB, rv_true, Nat.reduceBEq, cond_true, cond_false, entG, real_lif, updGL])
    rfl
  simp only [pkb_or, Bool.or_eq_false_iff, decide_eq_false_iff_not] at hc
  rw [if_neg (by omega)]
  have h9 : v.length ≤ 9 := by omega
  clear hc
  refine sgo ?_
  refine wcloop (X := Nat × Nat) (fun x => [(0, str v), (4, int x.2), (15, int v.length), (16, int x.1)])
    (fun x w' => x.1 ≤ v.length ∧ x.2 < 10 ^ x.1 ∧ numG (v.drop x.1) x.2 = numG v 0 ∧ Frm w w') (fun x => v.length - x.1) (0, 0) ⟨rfl, rfl, rfl, rfl, trivial⟩ ⟨Nat.zero_le _, by decide, rfl, Frm.refl w⟩ ?_
  rintro ⟨i, n⟩ wr ρ ⟨hil, hn, hg, hf⟩
  dsimp only at hil hn hg ⊢
  refine sgo ?_
  (show WC _ _ _ _ _ _ _; first | refine WC_dec rfl (fun hc => ?_) (fun hc => ?_) | refine WC_cond rfl (fun hc => ?_) (fun hc => ?_))
  · have hlt : i < v.length := by omega
    have h10 : (10 : Nat) ^ i ≤ 10 ^ 8 := Nat.pow_le_pow_right (by decide) (by omega)
    have hnb : n < 100000000 := by omega
    rw [numG_step hlt] at hg
    have hc8 : (v[i]?.getD 0).toNat < 256 := UInt8.toNat_lt _
    clear hc
    refine sgo ?_
    refine wlpure (vDigit_ok _ _) fun w1 hf1 => ?_
    replace hf := hf.trans hf1
    clear hf1
    refine sgo ?_
    refine WC_cond rfl (fun hc => ?_) (fun hc => ?_)
    · have hd : digitR (v[i]?.getD 0).toNat = false := by simpa using hc
      rw [hd, if_neg (by decide)] at hg
      refine sgo ?_
      (first | refine fp1 (.inl rfl) rfl rfl ?_ | refine fp2 (.inl rfl) rfl rfl rfl ?_ | refine fp3 (.inl rfl) rfl rfl rfl rfl ?_ | refine fp0 (.inr rfl) rfl ?_ | refine fp0 (.inl rfl) rfl ?_ | refine fp1 (.inr rfl) rfl rfl ?_); refine ⟨?_, by (first | exact Frm.refl _ | assumption | exact Go.Sv.Sep.frm (by assumption) | (refine Frm.trans ?_ (by assumption); first | exact Frm.refl _ | assumption))⟩; (try simp only [realB, rv_true, Nat.reduceBEq, cond_true, cond_false, entG, real_lif, updGL])
      rw [← hg]; rfl
    · have hd : digitR (v[i]?.getD 0).toNat = true := by simpa using hc
      rw [hd, if_pos rfl] at hg
      have hrg := digit_rng hd
      clear hc hd
      refine sgo ?_
      refine ⟨(i + 1, 10 * n + ((v[i]?.getD 0).toNat - 48)), ⟨rfl, ?_, rfl, rfl, trivial⟩, ⟨by dsimp only; omega, ?_, hg, hf⟩, by dsimp only; omega⟩
      · show Value.int .i64 _ = .int .i64 _
        congr 1
        omega
      · dsimp only
        rw [Nat.pow_succ]
        omega
  · obtain rfl : i = v.length := by omega
    rw [List.drop_length, numG] at hg
    refine sgo ?_
    (first | refine fp1 (.inl rfl) rfl rfl ?_ | refine fp2 (.inl rfl) rfl rfl rfl ?_ | refine fp3 (.inl rfl) rfl rfl rfl rfl ?_ | refine fp0 (.inr rfl) rfl ?_ | refine fp0 (.inl rfl) rfl ?_ | refine fp1 (.inr rfl) rfl rfl ?_); refine ⟨?_, by (first | exact Frm.refl _ | assumption | exact Go.Sv.Sep.frm (by assumption) | (refine Frm.trans ?_ (by assumption); first | exact Frm.refl _ | assumption))⟩; (try simp only [realB, rv_true, Nat.reduceBEq, cond_true, cond_false, entG, real_lif, updGL])
    rw [← hg]; rfl

theorem number_ok (s : List UInt8) (hb : s.length ≤ 100000000) (w : World) : PureC Tryd.prog 11 #[str s] w (numV (numR (cleanR s))) := by
  have hl := cleanR_len s
  have hd := fun w => digits_ok (cleanR s) (by omega) w
  generalize hr : numR (cleanR s) = r at *
  refine enter (l := [str s]) Tryd.func11 rfl Tryd.ntmps11 (by kernel_rfl) rfl ?_
  refine sgo ?_
  refine wlpure (inClean_ok s (by omega) _) fun w1 hf1 => ?_
  refine sgo ?_
  refine wlpure (hd _) fun w2 hf2 => ?_
  have hf := hf1.trans hf2
  clear hf1 hf2
  cases r with
  | none =>
    unfold numV
    refine sgo ?_
    (first | refine fp1 (.inl rfl) rfl rfl ?_ | refine fp2 (.inl rfl) rfl rfl rfl ?_ | refine fp3 (.inl rfl) rfl rfl rfl rfl ?_ | refine fp0 (.inr rfl) rfl ?_ | refine fp0 (.inl rfl) rfl ?_ | refine fp1 (.inr rfl) rfl rfl ?_); refine ⟨?_, by (first | exact Frm.refl _ | assumption | exact Go.Sv.Sep.frm (by assumption) | (refine Frm.trans ?_ (by assumption); first | exact Frm.refl _ | assumption))⟩; (try simp only [realB, rv_true, Nat.reduceBEq, cond_true, cond_false, entG, real_lif, updGL])
    all_goals rfl
  | some n =>
    unfold numV
    refine sgo ?_
    (first | refine fp1 (.inl rfl) rfl rfl ?_ | refine fp2 (.inl rfl) rfl rfl rfl ?_ | refine fp3 (.inl rfl) rfl rfl rfl rfl ?_ | refine fp0 (.inr rfl) rfl ?_ | refine fp0 (.inl rfl) rfl ?_ | refine fp1 (.inr rfl) rfl rfl ?_); refine ⟨?_, by (first | exact Frm.refl _ | assumption | exact Go.Sv.Sep.frm (by assumption) | (refine Frm.trans ?_ (by assumption); first | exact Frm.refl _ | assumption))⟩; (try simp only [realB, rv_true, Nat.reduceBEq, cond_true, cond_false, entG, real_lif, updGL])
    all_goals rfl
set_option maxHeartbeats 1000000 in
theorem refNumber_ok (s : List UInt8) (hb : s.length ≤ 100000000) (w : World) : PureC Tryd.prog 12 #[str s] w (numV (numR (cleanR s))) := by
  have hl := cleanR_len s
  refine enter (l := [str s]) Tryd.func12 rfl Tryd.ntmps12 (by kernel_rfl) rfl ?_
  refine sgo ?_
  refine wlpure (refClean_ok s (by omega) _) fun w1 hf1 => ?_
  generalize cleanR s = v at *
  unfold numR
  refine sgo ?_
  refine wcloop (X := Nat × Nat) (fun x => [(4, str v), (5, int x.2), (6, int x.1)])
    (fun x w' => x.1 ≤ v.length ∧ x.1 ≤ 9 ∧ x.2 < 10 ^ x.1 ∧ numG (v.drop x.1) x.2 = numG v 0 ∧ Frm w w') (fun x => v.length - x.1) (0, 0) ⟨rfl, rfl, rfl, trivial⟩ ⟨Nat.zero_le _, Nat.zero_le _, by decide, rfl, hf1⟩ ?_
  clear hf1
  rintro ⟨i, n⟩ wr ρ ⟨hil, hi9, hn, hg, hf⟩
  dsimp only at hil hi9 hn hg ⊢
  refine sgo ?_
  (show WC _ _ _ _ _ _ _; first | refine WC_dec rfl (fun hc => ?_) (fun hc => ?_) | refine WC_cond rfl (fun hc => ?_) (fun hc => ?_))
  · have hlt : i < v.length := by omega
    have h10 : (10 : Nat) ^ i ≤ 10 ^ 9 := Nat.pow_le_pow_right (by decide) (by omega)
    have hnb : n < 1000000000 := by omega
    rw [numG_step hlt] at hg
    have hc8 : (v[i]?.getD 0).toNat < 256 := UInt8.toNat_lt _
    clear hc
    refine sgo ?_
    refine wlpure (r13Digit_ok _ _) fun w1 hf1 => ?_
    replace hf := hf.trans hf1
    clear hf1
    refine sgo ?_
    refine WC_cond rfl (fun hc => ?_) (fun hc => ?_)
    · simp only [pkb_or, Bool.or_eq_true, decide_eq_true_eq, Bool.not_eq_true'] at hc
      have hnone : (if v.length < 1 ∨ 9 < v.length then none else numG v 0) = none := by
        rcases hc with hd | h9
        · rw [hd, if_neg (by decide)] at hg
          rw [← hg]
          split <;> rfl
        · rw [if_pos (by omega)]
      rw [hnone]
      refine sgo ?_
      (first | refine fp1 (.inl rfl) rfl rfl ?_ | refine fp2 (.inl rfl) rfl rfl rfl ?_ | refine fp3 (.inl rfl) rfl rfl rfl rfl ?_ | refine fp0 (.inr rfl) rfl ?_ | refine fp0 (.inl rfl) rfl ?_ | refine fp1 (.inr rfl) rfl rfl ?_); refine ⟨?_, by (first | exact Frm.refl _ | assumption | exact Go.Sv.Sep.frm (by assumption) | (refine Frm.trans ?_ (by assumption); first | exact Frm.refl _ | assumption))⟩; (try simp only [realB, rv_true, Nat.reduceBEq, cond_true, cond_false, entG, real_lif, updGL])
      rfl
    · simp only [pkb_or, Bool.or_eq_false_iff, decide_eq_false_iff_not, Bool.not_eq_false'] at hc
      obtain ⟨hd, h9⟩ := hc
      rw [hd, if_pos rfl] at hg
      have hrg := digit_rng hd
      refine sgo ?_
      refine ⟨(i + 1, 10 * n + ((v[i]?.getD 0).toNat - 48)), ⟨rfl, ?_, rfl, trivial⟩, ⟨by dsimp only; omega, by dsimp only; omega, ?_, hg, hf⟩, by dsimp only; omega⟩
      · show Value.int .i64 _ = .int .i64 _
        congr 1
        omega
      · dsimp only
        rw [Nat.pow_succ]
        omega
  · obtain rfl : i = v.length := by omega
    rw [List.drop_length, numG] at hg
    refine sgo ?_
    (first | refine fp1 (.inl rfl) rfl rfl ?_ | refine fp2 (.inl rfl) rfl rfl rfl ?_ | refine fp3 (.inl rfl) rfl rfl rfl rfl ?_ | refine fp0 (.inr rfl) rfl ?_ | refine fp0 (.inl rfl) rfl ?_ | refine fp1 (.inr rfl) rfl rfl ?_); refine ⟨?_, by (first | exact Frm.refl _ | assumption | exact Go.Sv.Sep.frm (by assumption) | (refine Frm.trans ?_ (by assumption); first | exact Frm.refl _ | assumption))⟩; (try simp only [realB, rv_true, Nat.reduceBEq, cond_true, cond_false, entG, real_lif, updGL])
    by_cases h0 : v = []
    · subst h0
      rw [if_pos (by simp)]
      have hn0 : n = 0 := by simp at hn; omega
      subst hn0
      rfl
    · have hpos := List.length_pos_iff.2 h0
      rw [if_neg (by omega), ← hg]
      show _ = Value.tuple #[int n, .bool true]
      simp [h0]
end Go.Proofs.YtjpnhaaneaikbaaDoor

/-
  Arrays written out; calls of function values in regions that draw.
-/
set_option linter.unusedSimpArgs false
set_option linter.unusedVariables false
set_option linter.unnecessarySimpa false
namespace Go.Sv
open Go Go.RowKit
section
variable {P : Program} {n : Nat} {ds : Ctx} {ops : Array Oper} {Q : Exit → Ctx → Env → World → Prop} {C : World → Prop} {QE : Env → Prop} {rest : List Oper} {σ : GE} {w : World} {v : Value} {d : Nat} {ty t e : TypeId} {pos : String} {af : Array Edge} {x : Operand} {xs : List Operand} {ats : Array TypeId} {zv : Value} {zs : List Value} {bytes bytes' k : Nat}
theorem YQ.ofFv {σ : Env} {d : Option Tmp} {g : Option (Nat × Bool)} {f : FuncId} [hf : Fnc P f] {first cap args : List Value} (hx : evl σ x = .func (.func f) ⟨first⟩ ⟨cap⟩) (ha : xs.map (evl σ) = args)
    (h : ∀ w, C w → CallsR P f (first ++ args ++ cap).toArray w fun u w' => u = v ∧ Frm w w') : YQ P σ ⟨d, .call ⟨.value x, xs.toArray, ats⟩, ty, pos, af, g⟩ C v := by
  unfold YQ
  intro w hw
  rw [run_call_fv hx ha]
  refine ⟨rfl, Calls.mono (h w hw) ?_⟩
  rintro e w' ⟨u, rfl, rfl, hC⟩
  exact ⟨rfl, hC⟩
theorem qlcallv {f : FuncId} [hf : Fnc P f] {first cap args : List Value} (hc : ∀ w, C w → PureC P f (first ++ args ++ cap).toArray w v) (h : QL P n ds ops C QE rest (real (updG σ d ⟨v, true⟩)))
    (hx : evl (real σ) x = .func (.func f) ⟨first⟩ ⟨cap⟩ := by rfl) (ha : xs.map (evl (real σ)) = args := by first | rfl | exact am1 rfl | exact am2 rfl rfl) :
    QL P n ds ops C QE (⟨some d, .call ⟨.value x, xs.toArray, ats⟩, ty, pos, af, none⟩ :: rest) (real σ) :=
  ql h (YQ.ofFv hx ha fun w hw => (hc w hw))
theorem y_arr {σ : Env} {d : Option Tmp} {g : Option (Nat × Bool)} {ps : List (Nat × Operand)} [hu : Und P t (.array k e)] [hi : Inf P e zv 1 bytes] [hj : Inf P t (.agg ⟨zs⟩) k bytes'] (vs : List Value)
    (hps : ps.map (fun p => (p.1, evl σ p.2)) = enum vs 0) (hk : vs.length = k) (hz : zs.length = k) (h1 : ∀ v ∈ vs, v.cells = #[v]) :
    Y P σ ⟨d, .build t ps.toArray, ty, pos, af, g⟩ w (.agg ⟨vs⟩) w := by
  refine Y.val ?_
  have hf := fill_enum vs 0 zs h1 (by omega)
  have hpa : (ps.toArray.map fun (x : Nat × Operand) => match x with | (i, x) => (i, evl σ x)).toList = enum vs 0 := by rw [← hps]; simp
  simp only [execOp, Instr.build, Sem.run_bind, run_zeroValue (P := P) (t := t), Result.andThen_ok, underlying, run_program, hu.ok, Sem.run_pure, run_sizeOf (P := P) (t := e), Value.cells]
  rw [hpa]
  simp only [Nat.mul_one] at hf ⊢
  rw [hf]
  rw [List.take_zero, List.nil_append, List.drop_eq_nil_of_le (by omega), List.append_nil]
  rfl
theorem y_addu {σ : Env} {d : Option Tmp} {g : Option (Nat × Bool)} {t t' : TypeId} {x y : Operand} {a b : Int} (hx : evl σ x = .int .u32 a) (hy : evl σ y = .int .u32 b) (h : 0 ≤ a + b ∧ a + b ≤ 4294967295) : Y P σ ⟨d, .binOp .add t x y t', ty, pos, af, g⟩ w (.int .u32 (a + b)) w := y_add hx hy h
theorem y_mulu {σ : Env} {d : Option Tmp} {g : Option (Nat × Bool)} {t t' : TypeId} {x y : Operand} {a b : Int} (hx : evl σ x = .int .u32 a) (hy : evl σ y = .int .u32 b) (h : 0 ≤ a * b ∧ a * b ≤ 4294967295) : Y P σ ⟨d, .binOp .mul t x y t', ty, pos, af, g⟩ w (.int .u32 (a * b)) w := y_mul hx hy h
theorem or4u (n h : Nat) (hn : n < 134217728) (hh : h < 16) : bitop .or .u32 (IntKind.u32.wrap ((n : Int) * 2 ^ (min (4 : Int).toNat IntKind.u32.bits))) (h : Int) = ((16 * n + h : Nat) : Int) := by
  have e0 : (2 : Int) ^ (min (4 : Int).toNat IntKind.u32.bits) = 16 := by decide
  rw [e0, wrap_in (k := .u32) (n := (n : Int) * 16) (by simp [IntKind.min, IntKind.max, IntKind.signed, IntKind.bits]; omega)]
  have e : (n : Int) * 16 = ((n * 16 : Nat) : Int) := by simp
  rw [e]
  simp only [bitop]
  have h2 : (BitVec.ofInt IntKind.u32.bits ((n * 16 : Nat) : Int) ||| BitVec.ofInt IntKind.u32.bits (h : Int)).toNat = n * 16 + h := by
    rw [BitVec.ofInt_natCast, BitVec.ofInt_natCast, BitVec.toNat_or, BitVec.toNat_ofNat, BitVec.toNat_ofNat]
    have e1 : n * 16 % 2 ^ IntKind.u32.bits = n * 16 := Nat.mod_eq_of_lt (by show _ < 2 ^ 32; omega)
    have e2 : h % 2 ^ IntKind.u32.bits = h := Nat.mod_eq_of_lt (by show _ < 2 ^ 32; omega)
    rw [e1, e2, show n * 16 = 2 ^ 4 * n from by omega]
    exact (Nat.two_pow_add_eq_or_of_lt (i := 4) (by omega) n).symm
  rw [h2, wrap_in]
  · congr 1; omega
  · simp [IntKind.min, IntKind.max, IntKind.signed, IntKind.bits]; omega
theorem fp4 {fn : Func} {R : Value → World → Prop} {σ : Env} {ds : Ctx} {t u s r : Nat} {ex : Exit} (hex : ex = .ret ∨ ex = .normal) (hr : fn.results = #[.tmp t, .tmp u, .tmp s, .tmp r]) (ht : Nat.blt t n = true) (hu : Nat.blt u n = true) (hs : Nat.blt s n = true) (hrr : Nat.blt r n = true)
    (h : R (.tuple #[σ t, σ u, σ s, σ r]) w) (hd : ds.ds = [] := by rfl) : fpost P n fn R ex ds σ w := by
  refine fp_of hex hd (v := .tuple #[(act n ds.ds σ).tmps.getD t undef, (act n ds.ds σ).tmps.getD u undef, (act n ds.ds σ).tmps.getD s undef, (act n ds.ds σ).tmps.getD r undef]) ?_ ?_
  · simp [results, hr]
  · rw [act_getD ht, act_getD hu, act_getD hs, act_getD hrr]; exact h
end
end Go.Sv

/-
  Package names: the sets' names.
-/
set_option linter.unusedSimpArgs false
set_option linter.unusedVariables false
set_option linter.unnecessarySimpa false
namespace Go.Proofs.YtjpnhaaneaikbaaDoor
open Go Go.Sv Go.RowKit




















end Go.Proofs.YtjpnhaaneaikbaaDoor

/-
  Packages names and sieveref04: In, of the void elements.
-/
set_option linter.unusedSimpArgs false
set_option linter.unusedVariables false
set_option linter.unnecessarySimpa false
namespace Go.Proofs.YtjpnhaaneaikbaaDoor
open Go Go.Sv Go.RowKit











end Go.Proofs.YtjpnhaaneaikbaaDoor

/-
  Packages event and sieveref18: which events may be.
-/
set_option linter.unusedSimpArgs false
set_option linter.unusedVariables false
set_option linter.unnecessarySimpa false
namespace Go.Sv
open Go Go.RowKit
section
variable {P : Program} {n : Nat} {ds : Ctx} {ops : Array Oper} {Q : Exit → Ctx → Env → World → Prop} {rest : List Oper} {σ : GE} {w : World} {d : Nat} {ty t : TypeId} {pos : String} {af : Array Edge} {zv : Value} {size bytes : Nat} {j dj : Nat} {want b c : Bool}
end
end Go.Sv
namespace Go.Proofs.YtjpnhaaneaikbaaDoor
open Go Go.Sv Go.RowKit

/-- may an event be? -/
def evR (e : Ev) : Bool :=
  if e.kind = 0 then !decide (e.text = []) && validR e.text && decide (e.name = []) && decide (e.attrs.length = 0)
  else if e.kind = 1 then decide (e.text = []) && mayR e.start && !voidR e.name
  else if e.kind = 3 then decide (e.text = []) && mayR e.start && voidR e.name
  else if e.kind = 2 then decide (e.text = []) && decide (e.attrs.length = 0) && mayR e.close
  else false





































































































































































































end Go.Proofs.YtjpnhaaneaikbaaDoor

/-
  How events nest: the plain part; the stack of names.
-/
set_option linter.unusedSimpArgs false
set_option linter.unusedVariables false
set_option linter.unnecessarySimpa false
namespace Go.Sv
open Go Go.RowKit
/-- a cut behind a piece of code -/
theorem wcutt {P : Program} {n : Nat} {ds : Ctx} {K : Ctx → Env → World → Prop} {Q : Exit → Ctx → Env → World → Prop} {σ : Env} {w : World} {a : Code} {X : Type} (sl : X → List (Nat × Value)) (I : X → World → Prop)
    (ha : WC P n ds a (thl ds (fun σ w => ∃ x, Has σ (sl x) ∧ I x w) Q) σ w) (hb : ∀ x w (ρ : GE), I x w → K ds (real (updGL ρ (sl x))) w) : WC P n ds a (thn K Q) σ w := by
  refine WC_mono ha ?_
  intro e c' σ' w' h
  unfold thl at h
  unfold thn
  cases e <;> try exact h
  obtain ⟨rfl, x, h1, h2⟩ := h
  have := hb x w' (lif σ') h2
  rw [← real_updL, updL_has h1] at this
  exact this
/-- two worlds that agree on the first B blocks -/
structure Same (B : Nat) (w w' : World) : Prop where
  os : w'.os = w.os
  tape : w'.tape = w.tape
  output : w'.output = w.output
  size : B ≤ w'.heap.size
  block : ∀ k, k < B → w'.heap[k]? = w.heap[k]?
theorem Same.frm {w w1 w2 : World} (h : Frm w w1) (h' : Same w.heap.size w1 w2) : Frm w w2 := ⟨h'.os.trans h.os, h'.tape.trans h.tape, h'.output.trans h.output, h'.size, fun k hk => (h'.block k hk).trans (h.block k hk)⟩
theorem Own.same {B : Nat} {w w' : World} {b : Nat} {l : List Value} (h : Own w b l) (hs : Same B w w') (hb : b < B) : Own w' b l := h.of_block (hs.block b hb)
end Go.Sv
namespace Go.Proofs.YtjpnhaaneaikbaaDoor
open Go Go.Sv Go.RowKit

/-! ## The plain part -/
structure Lk where
  stack : List (List UInt8)
  most : Nat
  at_ : Nat
  err : Int
  good : Nat
def lkStep (k : Lk) (e : Ev) : Lk :=
  if k.err = 0 then
    if evR e then
      if e.kind = 1 then ⟨k.stack ++ [e.name], max k.most (k.stack.length + 1), 0, 0, k.good + 1⟩
      else if e.kind = 3 then ⟨k.stack, max k.most (k.stack.length + 1), 0, 0, k.good + 1⟩
      else if e.kind = 2 then (if k.stack.getLast? = some e.name then ⟨k.stack.dropLast, k.most, 0, 0, k.good + 1⟩ else { k with at_ := k.good, err := 181 })
      else ⟨k.stack, k.most, 0, 0, k.good + 1⟩
    else { k with at_ := k.good, err := 180 }
  else k
def lk0 : Lk := ⟨[], 0, 0, 0, 0⟩
/-- how events nest -/
def lkR (l : List Ev) : Lk := l.foldl lkStep lk0
/-! ## A stack of names in memory -/
/-- a stack: where it lies, and its names -/
def pStk (b : Nat) (p : Option Addr) (c : Nat) (st : List (List UInt8)) : List Plot := [pOwn b [.slice p st.length c], pRow 1 p st.length c (strs st)]

































































end Go.Proofs.YtjpnhaaneaikbaaDoor

/-
  strings.Join (and Grow of a builder that has not been written).
-/
set_option linter.unusedSimpArgs false
set_option linter.unusedVariables false
set_option linter.unnecessarySimpa false
namespace Go.Sv
open Go Go.RowKit
section
variable {P : Program} {T E : TypeId} {w w' : World} {b : Nat} {q : Option Addr} {c : Nat} {s : List UInt8}
theorem y_cap {σ : Env} {d : Option Tmp} {ty t t' : TypeId} {pos : String} {af : Array Edge} {g : Option (Nat × Bool)} {x : Operand} {p : Option Addr} {m c : Nat} [hu : Und P t (.slice t')] (hx : evl σ x = .slice p m c) : Y P σ ⟨d, .call ⟨.builtin .cap, #[x], #[t]⟩, ty, pos, af, g⟩ w (int c) w := by
  refine Y.val ?_; simp only [execOp, resolve, Sem.run_bind, Sem.run_pure, Result.andThen_ok, invoke, builtin]
  simp [hx, Builtin.cap_, underlying, hu.ok, goInt]
theorem Bld.of_shelf {B : Nat} (h : Lib.BuilderAt T E B b (.pointer (pb b)) [] w) : ∃ q, Bld T E w b q [] ∧ ∀ k ∈ b :: rb q, B ≤ k := by
  obtain ⟨hB, v, hc, hr, hne⟩ := h
  have h0 : w.ownsRow 0 E 1 v 0 [] := by
    refine ⟨hr.1, ?_⟩
    rcases hr.2 with h1 | ⟨g, cap, cur, hv, h2, h3⟩
    · exact .inl h1
    · exact .inr ⟨g, cap, cur, hv, Nat.zero_le _, h3⟩
  obtain ⟨q, c, rfl⟩ : ∃ q c, v = .slice q 0 c := by
    rcases h0.2 with ⟨rfl, _⟩ | ⟨g, cap, cur, rfl, _⟩
    · exact ⟨_, _, rfl⟩
    · exact ⟨_, _, rfl⟩
  refine ⟨q, ⟨pb b, c, .inr rfl, hc, h0, fun hb => hne (rb_own.2 hb)⟩, fun k hk => ?_⟩
  rcases List.mem_cons.1 hk with rfl | hk
  · exact hB
  · exact (hr.lt k (rb_own.2 hk)).1
end
end Go.Sv
namespace Go.Proofs.YtjpnhaaneaikbaaDoor
open Go Go.Sv Go.RowKit

theorem grow_ok (b n : Nat) (w0 w : World) (hf : Frm w0 w) (hb : w0.heap.size ≤ b) (hn : n ≤ 1073741824) (h : BuP TB TY w b none none 0 []) :
    CallsR Tryd.prog 62 #[ptrAt (pb b) 0, int n] w fun _ w' => ∃ q, Bld TB TY w' b q [] ∧ (∀ k ∈ b :: rb q, w0.heap.size ≤ k) ∧ Frm w0 w' := by
  refine enter (l := [ptrAt (pb b) 0, int n]) Tryd.func62 rfl Tryd.ntmps62 (by kernel_rfl) rfl ?_
  refine sgo ?_
  refine wlcall (copyCheck_ok b none none 0 [] w h) ?_
  rintro v w1 ⟨rfl, h1, hl1⟩
  have ho : Own w1 b [.pointer (pb b), .slice none 0 0] := h1.own
  have hf1 : Frm w0 w1 := hf.step hl1 (by simpa using hb)
  refine sgo ?_
  refine wcno ?_ (ht := by simp)
  refine sgo ?_
  refine wcdraw ?_
  refine qgo ?_
  refine ql ?_ (YQ.ofY fun w hw => y_cap rfl)
  refine qgo ?_
  refine QL_nil ?_
  intro w2 hf2
  have hf3 := hf1.trans hf2
  have h2 : BuP TB TY w2 b (pb b) none 0 [] := h1.le (M := []) hf2.le (by simp) (by simp)
  refine sgo ?_
  (show WC _ _ _ _ _ _ _; first | refine WC_dec rfl (fun hc => ?_) (fun hc => ?_) | refine WC_cond rfl (fun hc => ?_) (fun hc => ?_))
  · refine sgo ?_
    refine wlcall (R := fun _ w' => ∃ q, Bld TB TY w' b q [] ∧ (∀ k ∈ b :: rb q, w0.heap.size ≤ k) ∧ Frm w0 w') ?_ ?_
    · refine Calls.mono (Tryd.Builder_grow_fresh w0.heap.size b n w2 hb h2.cell hf3.size (by omega)) ?_
      rintro e w3 ⟨rfl, hB, hf4⟩
      obtain ⟨q, hq1, hq2⟩ := Bld.of_shelf hB
      exact ⟨_, rfl, q, hq1, hq2, Below.trans hf3 hf4⟩
    rintro _ w3 ⟨q, hq1, hq2, hf4⟩
    refine sgo ?_
    (first | refine fp1 (.inl rfl) rfl rfl ?_ | refine fp2 (.inl rfl) rfl rfl rfl ?_ | refine fp3 (.inl rfl) rfl rfl rfl rfl ?_ | refine fp0 (.inr rfl) rfl ?_ | refine fp0 (.inl rfl) rfl ?_ | refine fp1 (.inr rfl) rfl rfl ?_)
    exact ⟨q, hq1, hq2, hf4⟩
  · refine sgo ?_
    (first | refine fp1 (.inl rfl) rfl rfl ?_ | refine fp2 (.inl rfl) rfl rfl rfl ?_ | refine fp3 (.inl rfl) rfl rfl rfl rfl ?_ | refine fp0 (.inr rfl) rfl ?_ | refine fp0 (.inl rfl) rfl ?_ | refine fp1 (.inr rfl) rfl rfl ?_)
    exact ⟨none, ⟨_, _, h2⟩, by intro k hk; simp [rb] at hk; omega, hf3⟩
/-- texts, put together -/
def joinR (sep : List UInt8) : List (List UInt8) → List UInt8
  | [] => []
  | x :: r => x ++ r.flatMap fun y => sep ++ y
def tlen (l : List (List UInt8)) : Nat := (l.map List.length).sum
theorem join_len (sep x : List UInt8) (r : List (List UInt8)) : (joinR sep (x :: r)).length = sep.length * r.length + tlen (x :: r) := by
  have : (r.flatMap fun y => sep ++ y).length = sep.length * r.length + tlen r := by
    induction r with
    | nil => simp [tlen]
    | cons y r ih => simp only [List.flatMap_cons, List.length_append, ih, tlen, List.map_cons, List.sum_cons, List.length_cons, Nat.mul_add, Nat.mul_one]; omega
  simp only [joinR, List.length_append, this, tlen, List.map_cons, List.sum_cons]; omega
theorem tlen_snoc {l : List (List UInt8)} {i : Nat} {x : List UInt8} (h : l[i]? = some x) : tlen (l.take (i + 1)) = tlen (l.take i) + x.length := by
  unfold tlen
  rw [List.take_add_one, h, List.map_append, List.sum_append]; simp
theorem tlen_take (l : List (List UInt8)) (i : Nat) : tlen (l.take i) ≤ tlen l := by
  have : tlen l = tlen (l.take i) + tlen (l.drop i) := by
    unfold tlen
    rw [← List.sum_append, ← List.map_append, List.take_append_drop]
  omega
theorem join_snoc {sep x : List UInt8} {r : List (List UInt8)} {i : Nat} {y : List UInt8} (h : r[i]? = some y) : joinR sep (x :: r.take (i + 1)) = joinR sep (x :: r.take i) ++ sep ++ y := by
  simp only [joinR]
  rw [List.take_add_one, h, List.flatMap_append]; simp
set_option maxHeartbeats 2000000 in
theorem join_ok (l : List (List UInt8)) (sep : List UInt8) (p : Option Addr) (c : Nat) (hc : l.length ≤ c) (hn : l.length ≤ 1048577) (hsp : sep.length ≤ 1048576) (hj : (joinR sep l).length ≤ 1073741824) (w : World) (hi : Im [] w p (strs l)) :
    PureC Tryd.prog 51 #[.slice p l.length c, str sep] w (str (joinR sep l)) := by
  match l, hc, hn, hj, hi with
  | [], hc, hn, hj, hi =>
    refine enter (l := [.slice p 0 c, str sep]) Tryd.func51 rfl Tryd.ntmps51 (by kernel_rfl) rfl ?_
    refine sgo ?_
    (first | refine fp1 (.inl rfl) rfl rfl ?_ | refine fp2 (.inl rfl) rfl rfl rfl ?_ | refine fp3 (.inl rfl) rfl rfl rfl rfl ?_ | refine fp0 (.inr rfl) rfl ?_ | refine fp0 (.inl rfl) rfl ?_ | refine fp1 (.inr rfl) rfl rfl ?_); refine ⟨?_, by (first | exact Frm.refl _ | assumption | exact Go.Sv.Sep.frm (by assumption) | (refine Frm.trans ?_ (by assumption); first | exact Frm.refl _ | assumption))⟩; (try simp only [realB, rv_true, Nat.reduceBEq, cond_true, cond_false, entG, real_lif, updGL])
    rfl
  | [x], hc, hn, hj, hi =>
    have hSg : Sg w p [str x] := hi.sg
    have hps : ∃ q, p = some q := hi.some (by simp [strs])
    refine enter (l := [.slice p 1 c, str sep]) Tryd.func51 rfl Tryd.ntmps51 (by kernel_rfl) rfl ?_
    refine sgo ?_
    (first | refine fp1 (.inl rfl) rfl rfl ?_ | refine fp2 (.inl rfl) rfl rfl rfl ?_ | refine fp3 (.inl rfl) rfl rfl rfl rfl ?_ | refine fp0 (.inr rfl) rfl ?_ | refine fp0 (.inl rfl) rfl ?_ | refine fp1 (.inr rfl) rfl rfl ?_); refine ⟨?_, by (first | exact Frm.refl _ | assumption | exact Go.Sv.Sep.frm (by assumption) | (refine Frm.trans ?_ (by assumption); first | exact Frm.refl _ | assumption))⟩; (try simp only [realB, rv_true, Nat.reduceBEq, cond_true, cond_false, entG, real_lif, updGL])
    simp [joinR]
  | x :: y :: r, hc, hn, hj, hi =>
    have hl : (x :: y :: r).length = r.length + 2 := rfl
    have hjl := join_len sep x (y :: r)
    have hps : ∃ q, p = some q := hi.some (by simp [strs])
    have hrl : (y :: r).length = r.length + 1 := rfl
    have hx0 : (strs (x :: y :: r))[0]? = some (str x) := rfl
    have hxl : x.length ≤ tlen (x :: y :: r) := by simp [tlen]
    have htl : Im [] w (p.map (·.add 1)) (strs (y :: r)) := hi.drop 1
    rw [hrl] at hjl
    generalize hL : x :: y :: r = L at *
    have hm : sep.length * (r.length + 1) ≤ 1073741824 := by omega
    have hmi : (sep.length : Int) * ((L.length : Int) - 1) = ((sep.length * (r.length + 1) : Nat) : Int) := by
      rw [hl]; push_cast; congr 1; omega
    generalize hM : sep.length * (r.length + 1) = M at *
    refine enter (l := [.slice p L.length c, str sep]) Tryd.func51 rfl Tryd.ntmps51 (by kernel_rfl) rfl ?_
    refine sgo ?_
    refine wcno ?_ (ht := decide_eq_false (by omega))
    refine sgo ?_
    refine wcno ?_ (ht := decide_eq_false (by omega))
    refine sgo ?_
    refine wcutt (X := Unit) (fun _ => [(0, .slice p L.length c), (1, str sep), (5, int M)]) (fun _ w' => w' = w) ?_ ?_
    · (show WC _ _ _ _ _ _ _; first | refine WC_dec rfl (fun hc => ?_) (fun hc => ?_) | refine WC_cond rfl (fun hc => ?_) (fun hc => ?_))
      · have hq : (sep.length : Int) < 9223372036854775807 / ((L.length : Int) - 1) := by
          have := (Int.le_ediv_iff_mul_le (c := (L.length : Int) - 1) (a := (sep.length : Int) + 1) (b := 9223372036854775807) (by omega)).2 (by rw [Int.add_mul, hmi]; omega)
          omega
        refine sgo ?_
        refine wcno ?_ (ht := decide_eq_false (by omega))
        refine sgo ?_
        refine ⟨(), ⟨rfl, rfl, ?_, trivial⟩, rfl⟩
        show int _ = int _
        rw [hmi, Int.zero_add]
      · have hz : sep.length = 0 := by omega
        have hM0 : M = 0 := by rw [← hM, hz, Nat.zero_mul]
        refine sgo ?_
        refine ⟨(), ⟨rfl, rfl, ?_, trivial⟩, rfl⟩
        rw [hM0]; rfl
    rintro _ w1 ρ rfl
    have hSg : Sg w1 p (strs L) := hi.sg
    have hsl := strs_len L
    refine sgo ?_
    refine wcloop (X := Nat) (fun i => [(0, .slice p L.length c), (1, str sep), (5, int ((M + tlen (L.take i) : Nat))), (39, .slice p L.length c), (40, int L.length), (41, int i)])
      (fun i wr => i ≤ L.length ∧ wr = w1) (fun i => L.length - i) 0 ⟨rfl, rfl, rfl, rfl, rfl, rfl, trivial⟩ ⟨Nat.zero_le _, rfl⟩ ?_
    rintro i w1 ρ2 ⟨hil, rfl⟩
    have ht1 := tlen_take L i
    refine sgo ?_
    (show WC _ _ _ _ _ _ _; first | refine WC_dec rfl (fun hc => ?_) (fun hc => ?_) | refine WC_cond rfl (fun hc => ?_) (fun hc => ?_))
    · have hlt : i < L.length := by omega
      have hx : L[i]? = some L[i] := List.getElem?_eq_getElem hlt
      have hgx := strs_at hx
      have hsn := tlen_snoc hx
      have ht2 := tlen_take L (i + 1)
      generalize L[i] = z at *
      clear hc
      refine sgo ?_
      refine wcno ?_ (ht := decide_eq_false (by omega))
      refine sgo ?_
      refine ⟨i + 1, ⟨rfl, rfl, ?_, rfl, rfl, rfl, trivial⟩, ⟨hlt, rfl⟩, (by (try dsimp only); omega)⟩
      show int _ = int _
      congr 1
      omega
    · obtain rfl : i = L.length := by omega
      rw [List.take_length]
      refine sgo ?_
      refine wlallocT fun b w2 hbw ha0 hf0 => ?_
      have hB0 : BuP TB TY w2 b none none 0 [] := ⟨.inl rfl, ha0, ⟨by simp [bs], .inl ⟨rfl, rfl⟩⟩, by simp [rb]⟩
      refine sgo ?_
      refine wlcall (grow_ok b (M + tlen L) w1 w2 hf0 hbw (by omega) hB0) ?_
      rintro _ w3 ⟨q, hB3, hq3, hf3⟩
      have hSg := (hi.frm hf3).sg
      have htl3 := htl.frm hf3
      have hYL : L.length = (y :: r).length + 1 := by rw [hl]; rfl
      have hjt : ∀ i, (joinR sep (x :: (y :: r).take i)).length ≤ (joinR sep L).length := by
        intro i
        rw [← hL, join_len, join_len]
        have h1 : ((y :: r).take i).length ≤ (y :: r).length := by rw [List.length_take]; omega
        have h2 := Nat.mul_le_mul_left sep.length h1
        have h3 := tlen_take (y :: r) i
        simp only [tlen, List.map_cons, List.sum_cons] at h3 ⊢
        omega
      generalize hY : y :: r = Y at *
      have hjx : joinR sep (x :: Y) = joinR sep L := by rw [← hL]
      refine sgo ?_
      refine wlcall (writeString_ok b q [] x _ hB3 (by simp only [List.length_nil]; omega)) ?_
      rintro _ w4 ⟨rfl, q4, hB4, hl4⟩
      have hf4 := hf3.step hl4.1 hq3
      have hq4 := hl4.fresh hf3 hq3
      clear hB3 hl4
      refine sgo ?_
      have he : slp c (Int.toNat 1) p (Int.toNat 1 * 1) = p.map (·.add 1) := slp_ne (show c ≠ 1 by omega) p 1
      rw [he]
      have hps2 : ∃ q, p.map (·.add 1) = some q := by obtain ⟨a, rfl⟩ := hps; exact ⟨_, rfl⟩
      have hYl : Y.length = L.length - 1 := by omega
      generalize p.map (·.add 1) = p2 at *
      clear he
      rw [List.nil_append] at hB4
      refine wcloop (X := Nat × Option Addr) (fun x => [(1, str sep), (8, ptrAt (pb b) 0), (63, .slice p2 (L.length - 1) (c - 1)), (64, int (L.length - 1 : Nat)), (65, int x.1)])
        (fun z wr => z.1 ≤ Y.length ∧ Bld TB TY wr b z.2 (joinR sep (x :: Y.take z.1)) ∧ Frm w1 wr ∧ ∀ k ∈ b :: rb z.2, w1.heap.size ≤ k)
        (fun x => Y.length - x.1) (0, q4) ⟨rfl, rfl, rfl, rfl, rfl, trivial⟩ ⟨by omega, by simpa [joinR] using hB4, hf4, hq4⟩ ?_
      clear hB4 hq4 hf4 htl3 hSg hf3 hq3
      rintro ⟨i, q5⟩ wr ρ3 ⟨hil, hBl, hfr, hq5⟩
      dsimp only at hil hBl hq5 ⊢
      rw [← hYl]
      have hI := htl.frm hfr
      have hSg := hI.sg
      have hsl := strs_len Y
      refine sgo ?_
      (show WC _ _ _ _ _ _ _; first | refine WC_dec rfl (fun hc => ?_) (fun hc => ?_) | refine WC_cond rfl (fun hc => ?_) (fun hc => ?_))
      · have hlt : i < Y.length := by omega
        have hx : Y[i]? = some Y[i] := List.getElem?_eq_getElem hlt
        have hgx := strs_at hx
        have hsn := join_snoc (sep := sep) (x := x) hx
        have ht1 := hjt i
        have ht2 := hjt (i + 1)
        rw [hsn, List.length_append, List.length_append] at ht2
        generalize Y[i] = z at *
        generalize joinR sep (x :: Y.take i) = A at *
        clear hc
        refine sgo ?_
        refine wlcall (writeString_ok b q5 A sep _ hBl (by omega)) ?_
        rintro _ w5 ⟨rfl, q6, hB6, hl6⟩
        have hf6 := hfr.step hl6.1 hq5
        have hq6 := hl6.fresh hfr hq5
        clear hBl hl6
        refine sgo ?_
        refine wlcall (writeString_ok b q6 (A ++ sep) z _ hB6 (by rw [List.length_append]; omega)) ?_
        rintro _ w7 ⟨rfl, q7, hB7, hl7⟩
        have hf7 := hf6.step hl7.1 hq6
        have hq7 := hl7.fresh hf6 hq6
        refine sgo ?_
        refine ⟨(i + 1, q7), ⟨rfl, rfl, rfl, rfl, rfl, trivial⟩, ⟨by dsimp only; omega, ?_, hf7, hq7⟩, by dsimp only; omega⟩
        dsimp only; rw [hsn]; exact hB7
      · obtain rfl : i = Y.length := by omega
        rw [List.take_length] at hBl
        refine sgo ?_
        refine wlcall (string_ok w1.heap.size b q5 _ _ hBl hq5 hfr.size) ?_
        rintro v w8 ⟨rfl, hf8⟩
        have hfr8 : Frm w1 w8 := Below.trans hfr hf8
        refine sgo ?_
        (first | refine fp1 (.inl rfl) rfl rfl ?_ | refine fp2 (.inl rfl) rfl rfl rfl ?_ | refine fp3 (.inl rfl) rfl rfl rfl rfl ?_ | refine fp0 (.inr rfl) rfl ?_ | refine fp0 (.inl rfl) rfl ?_ | refine fp1 (.inr rfl) rfl rfl ?_); refine ⟨?_, by (first | exact Frm.refl _ | assumption | exact Go.Sv.Sep.frm (by assumption) | (refine Frm.trans ?_ (by assumption); first | exact Frm.refl _ | assumption))⟩; (try simp only [realB, rv_true, Nat.reduceBEq, cond_true, cond_false, entG, real_lif, updGL])
        rw [hjx]
end Go.Proofs.YtjpnhaaneaikbaaDoor

/-
  Package value: Tidy, of words; package sieveref13: Tokens; lists of words compared.
-/
set_option linter.unusedSimpArgs false
set_option linter.unusedVariables false
set_option linter.unnecessarySimpa false
namespace Go.Proofs.YtjpnhaaneaikbaaDoor
open Go Go.Sv Go.RowKit

theorem fields_len (s : List UInt8) : (fieldsR s).length ≤ s.length := by
  have key : ∀ (l cur : List UInt8), (fgo cur l).length ≤ l.length + (if cur = [] then 0 else 1) := by
    intro l
    induction l with
    | nil => intro cur; unfold fgo; split <;> simp
    | cons b l ih =>
      intro cur
      have h0 := ih []
      have h1 := ih (cur ++ [b])
      rw [if_pos rfl] at h0
      rw [if_neg (by simp)] at h1
      unfold fgo
      by_cases hb : blkR b = true
      · rw [if_pos hb]
        by_cases hc : cur = []
        · rw [if_pos hc, if_pos hc]; simp; omega
        · rw [if_neg hc, if_neg hc]; simp; omega
      · rw [if_neg hb]; simp; omega
  have := key s []
  rw [if_pos rfl] at this
  exact this
theorem tokens_ok (s : List UInt8) (hb : s.length ≤ 20000000) (w0 w : World) (cs : List Plot) (hS : Sep w0 w cs) :
    CallsR Tryd.prog 9 #[str s] w fun r w' => ∃ q c, r = .slice q (fieldsR (cleanR s)).length c ∧ Sep w0 w' (pRow 1 q (fieldsR (cleanR s)).length c (strs (fieldsR (cleanR s))) :: cs) := by
  have hl := cleanR_len s
  refine enter (l := [str s]) Tryd.func9 rfl Tryd.ntmps9 (by kernel_rfl) rfl ?_
  refine sgo ?_
  refine wlpure (inClean_ok s (by omega) _) fun w1 hf1 => ?_
  replace hS := hS.grow hf1
  refine sgo ?_
  refine wlcall (words_ok (cleanR s) (cleanR_valid s) (by omega) _) ?_
  rintro _ w2 ⟨q, c, rfl, hS2⟩
  replace hS := hS.seq hS2
  refine sgo ?_
  (first | refine fp1 (.inl rfl) rfl rfl ?_ | refine fp2 (.inl rfl) rfl rfl rfl ?_ | refine fp3 (.inl rfl) rfl rfl rfl rfl ?_ | refine fp0 (.inr rfl) rfl ?_ | refine fp0 (.inl rfl) rfl ?_ | refine fp1 (.inr rfl) rfl rfl ?_)
  exact ⟨q, c, rfl, hS⟩
set_option maxHeartbeats 1000000 in
theorem refTokens_ok (s : List UInt8) (hb : s.length ≤ 20000000) (w0 w : World) (cs : List Plot) (hS0 : Sep w0 w cs) :
    CallsR Tryd.prog 10 #[str s] w fun r w' => ∃ q c, r = .slice q (fieldsR (cleanR s)).length c ∧ Sep w0 w' (pRow 1 q (fieldsR (cleanR s)).length c (strs (fieldsR (cleanR s))) :: cs) := by
  have hl := cleanR_len s
  have hS := Sep.start w
  refine enter (l := [str s]) Tryd.func10 rfl Tryd.ntmps10 (by kernel_rfl) rfl ?_
  refine sgo ?_
  refine wlpure (refClean_ok s (by omega) _) fun w1 hf1 => ?_
  replace hS := (hS.grow hf1).nilRow 1
  generalize cleanR s = v at *
  refine sgo ?_
  refine wcloop (X := Nat × List UInt8 × List (List UInt8) × Option Addr × Nat) (fun x => [(3, str v), (4, .slice x.2.2.2.1 x.2.2.1.length x.2.2.2.2), (5, str x.2.1), (6, int x.1)])
    (fun x w' => x.1 ≤ v.length + 1 ∧ x.2.2.1.length ≤ x.1 ∧ x.2.1.length ≤ x.1 ∧ (x.1 ≤ v.length → x.2.2.1 ++ fgo x.2.1 (v.drop x.1) = fieldsR v) ∧ (x.1 = v.length + 1 → x.2.2.1 = fieldsR v) ∧ Sep w w' [pRow 1 x.2.2.2.1 x.2.2.1.length x.2.2.2.2 (strs x.2.2.1)])
    (fun x => v.length + 1 - x.1) (0, [], [], none, 0) ⟨rfl, rfl, rfl, rfl, trivial⟩ ⟨Nat.zero_le _, Nat.zero_le _, Nat.zero_le _, fun _ => rfl, fun h => by simp at h, hS⟩ ?_
  clear hS
  rintro ⟨i, cur, out, q, c⟩ wr ρ ⟨hil, hol, hcl, hA, hB, hS⟩
  dsimp only at hil hol hcl hA hB hS ⊢
  refine sgo ?_
  (show WC _ _ _ _ _ _ _; first | refine WC_dec rfl (fun hc => ?_) (fun hc => ?_) | refine WC_cond rfl (fun hc => ?_) (fun hc => ?_))
  · have hle : i ≤ v.length := by omega
    specialize hA hle
    clear hB hc
    refine sgo ?_
    refine wlcallgp (vals := [byt ((v[i]?.getD 0)).toNat]) (fun _ => r13Blank_ok _ _) fun w2 hf2 => ?_
    replace hS := hS.grow hf2
    refine sgo ?_
    refine WC_cond rfl (fun hc => ?_) (fun hc => ?_)
    · simp only [pkb_and, Bool.and_eq_true, decide_eq_true_eq, Bool.not_eq_true'] at hc
      have hlt : i < v.length := by omega
      have hno : blkR v[i] = false := by have := hc.2; simpa [hlt] using this
      clear hc
      refine sgo ?_
      refine ⟨(i + 1, cur ++ [v[i]], out, q, c), ⟨rfl, rfl, ?_, rfl, trivial⟩, ⟨by dsimp only; omega, by dsimp only; omega, by dsimp only; simp; omega, fun _ => ?_, fun h => by dsimp only at h; omega, hS⟩, by dsimp only; omega⟩
      · have e1 : (v.drop i).take (i + 1 - i) = [v[i]] := by rw [Nat.add_sub_cancel_left, List.drop_eq_getElem_cons hlt]; rfl
        rw [← e1]
        rfl
      · dsimp only
        rw [← hA, List.drop_eq_getElem_cons hlt, fgo, if_neg (by simp [hno])]
    · simp only [pkb_and, Bool.and_eq_false_iff, decide_eq_false_iff_not, Bool.not_eq_false'] at hc
      have hnext : out ++ (if cur = [] then [] else [cur]) ++ (if i < v.length then fgo [] (v.drop (i + 1)) else []) = fieldsR v := by
        rw [← hA]
        by_cases hlt : i < v.length
        · have hyes : blkR v[i] = true := by
            rcases hc with h | h
            · omega
            · simpa [hlt] using h
          rw [if_pos hlt, List.drop_eq_getElem_cons hlt]
          conv => rhs; rw [fgo, if_pos hyes]
          split <;> simp
        · obtain rfl : i = v.length := by omega
          rw [if_neg hlt, List.drop_length, List.append_nil, fgo]
      clear hc
      refine sgo ?_
      by_cases h0 : cur = []
      · subst h0
        rw [if_pos rfl, List.append_nil] at hnext
        refine wcno ?_ (ht := by decide)
        refine sgo ?_
        refine ⟨(i + 1, [], out, q, c), ⟨rfl, rfl, rfl, rfl, trivial⟩, ⟨by dsimp only; omega, by dsimp only; omega, by simp, fun h => ?_, fun h => ?_, hS⟩, by dsimp only; omega⟩
        · dsimp only at h ⊢
          rw [if_pos (by omega)] at hnext
          exact hnext
        · dsimp only at h ⊢
          rw [if_neg (by omega), List.append_nil] at hnext
          exact hnext
      · rw [if_neg h0] at hnext
        refine wcyes ?_ (ht := decide_eq_true h0)
        refine sgo ?_
        refine sb1s hS fun b2 w3 hS => ?_
        refine sgo ?_
        refine sapp hS 1 (hS.own 0 rfl).sg fun q' c' w9 hS => ?_
        replace hS := hS.tail
        rw [strs_snoc] at hS
        have hn : out.length + 1 = (out ++ [cur]).length := by simp
        rw [hn] at hS ⊢
        refine sgo ?_
        refine ⟨(i + 1, [], out ++ [cur], q', c'), ⟨rfl, rfl, rfl, rfl, trivial⟩, ⟨by dsimp only; omega, by dsimp only; simp; omega, by simp, fun h => ?_, fun h => ?_, hS⟩, by dsimp only; omega⟩
        · dsimp only at h ⊢
          rw [if_pos (by omega)] at hnext
          exact hnext
        · dsimp only at h ⊢
          rw [if_neg (by omega), List.append_nil] at hnext
          exact hnext
  · obtain rfl : i = v.length + 1 := by omega
    refine sgo ?_
    (first | refine fp1 (.inl rfl) rfl rfl ?_ | refine fp2 (.inl rfl) rfl rfl rfl ?_ | refine fp3 (.inl rfl) rfl rfl rfl rfl ?_ | refine fp0 (.inr rfl) rfl ?_ | refine fp0 (.inl rfl) rfl ?_ | refine fp1 (.inr rfl) rfl rfl ?_)
    rw [← hB rfl]
    exact ⟨q, c, rfl, hS0.seq hS⟩

set_option maxHeartbeats 1000000 in
theorem same13_ok (l m : List (List UInt8)) (p p' : Option Addr) (c c' : Nat) (hl : l.length ≤ 1073741824) (hm : m.length ≤ 1073741824) (w : World) (h1 : Im [] w p (strs l)) (h2 : Im [] w p' (strs m)) :
    PureC Tryd.prog 13 #[.slice p l.length c, .slice p' m.length c'] w (.bool (decide (l = m))) := by
  have hll := strs_len l
  have hml := strs_len m
  refine enter (l := [.slice p l.length c, .slice p' m.length c']) Tryd.func13 rfl Tryd.ntmps13 (by kernel_rfl) rfl ?_
  refine sgo ?_
  (show WC _ _ _ _ _ _ _; first | refine WC_dec rfl (fun hc => ?_) (fun hc => ?_) | refine WC_cond rfl (fun hc => ?_) (fun hc => ?_))
  · have hne : l ≠ m := fun h => by subst h; exact hc rfl
    rw [decide_eq_false hne]
    refine sgo ?_
    (first | refine fp1 (.inl rfl) rfl rfl ?_ | refine fp2 (.inl rfl) rfl rfl rfl ?_ | refine fp3 (.inl rfl) rfl rfl rfl rfl ?_ | refine fp0 (.inr rfl) rfl ?_ | refine fp0 (.inl rfl) rfl ?_ | refine fp1 (.inr rfl) rfl rfl ?_); refine ⟨?_, by (first | exact Frm.refl _ | assumption | exact Go.Sv.Sep.frm (by assumption) | (refine Frm.trans ?_ (by assumption); first | exact Frm.refl _ | assumption))⟩; (try simp only [realB, rv_true, Nat.reduceBEq, cond_true, cond_false, entG, real_lif, updGL])
    all_goals rfl
  have hlen : l.length = m.length := by omega
  clear hc
  refine sgo ?_
  refine wcloop (X := Nat) (fun i => [(0, .slice p l.length c), (1, .slice p' m.length c'), (12, int l.length), (13, int i)])
    (fun i w' => i ≤ l.length ∧ l.take i = m.take i ∧ Frm w w') (fun i => l.length - i) 0 ⟨rfl, rfl, rfl, rfl, trivial⟩ ⟨Nat.zero_le _, rfl, Frm.refl w⟩ ?_
  rintro i wr ρ ⟨hil, heq, hf⟩
  have h1' := h1.frm hf
  have h2' := h2.frm hf
  refine sgo ?_
  (show WC _ _ _ _ _ _ _; first | refine WC_dec rfl (fun hc => ?_) (fun hc => ?_) | refine WC_cond rfl (fun hc => ?_) (fun hc => ?_))
  · have hlt : i < l.length := by omega
    have hlt2 : i < m.length := by omega
    have hx : l[i]? = some l[i] := List.getElem?_eq_getElem hlt
    have hy : m[i]? = some m[i] := List.getElem?_eq_getElem hlt2
    have hcx := strs_at hx
    have hcy := strs_at hy
    have hp : ∃ a, p = some a := h1.sg.some (by omega)
    have hp' : ∃ a, p' = some a := h2.sg.some (by omega)
    have hsg1 := h1'.sg
    have hsg2 := h2'.sg
    clear hc
    generalize l[i] = x at *
    generalize m[i] = y at *
    refine sgo ?_
    refine wcdraw ?_
    refine qgo ?_
    refine QL_nil ?_
    intro w1 hf1
    replace hf := hf.trans hf1
    refine sgo ?_
    (show WC _ _ _ _ _ _ _; first | refine WC_dec rfl (fun hc => ?_) (fun hc => ?_) | refine WC_cond rfl (fun hc => ?_) (fun hc => ?_))
    · have hne : l ≠ m := fun h => by subst h; rw [hx] at hy; exact hc (Option.some.inj hy)
      rw [decide_eq_false hne]
      refine sgo ?_
      (first | refine fp1 (.inl rfl) rfl rfl ?_ | refine fp2 (.inl rfl) rfl rfl rfl ?_ | refine fp3 (.inl rfl) rfl rfl rfl rfl ?_ | refine fp0 (.inr rfl) rfl ?_ | refine fp0 (.inl rfl) rfl ?_ | refine fp1 (.inr rfl) rfl rfl ?_); refine ⟨?_, by (first | exact Frm.refl _ | assumption | exact Go.Sv.Sep.frm (by assumption) | (refine Frm.trans ?_ (by assumption); first | exact Frm.refl _ | assumption))⟩; (try simp only [realB, rv_true, Nat.reduceBEq, cond_true, cond_false, entG, real_lif, updGL])
      all_goals rfl
    · have hxy : x = y := Decidable.not_not.1 hc
      refine sgo ?_
      exact ⟨i + 1, ⟨rfl, rfl, rfl, rfl, trivial⟩, ⟨hlt, by rw [List.take_add_one, List.take_add_one, hx, hy, heq, hxy], hf⟩, by omega⟩
  · obtain rfl : i = l.length := by omega
    rw [List.take_length, hlen, List.take_length] at heq
    rw [decide_eq_true heq]
    refine sgo ?_
    (first | refine fp1 (.inl rfl) rfl rfl ?_ | refine fp2 (.inl rfl) rfl rfl rfl ?_ | refine fp3 (.inl rfl) rfl rfl rfl rfl ?_ | refine fp0 (.inr rfl) rfl ?_ | refine fp0 (.inl rfl) rfl ?_ | refine fp1 (.inr rfl) rfl rfl ?_); refine ⟨?_, by (first | exact Frm.refl _ | assumption | exact Go.Sv.Sep.frm (by assumption) | (refine Frm.trans ?_ (by assumption); first | exact Frm.refl _ | assumption))⟩; (try simp only [realB, rv_true, Nat.reduceBEq, cond_true, cond_false, entG, real_lif, updGL])
    all_goals rfl
end Go.Proofs.YtjpnhaaneaikbaaDoor

/- This seat's function types as instances (made by a program of ours). -/
namespace Go.Proofs.YtjpnhaaneaikbaaDoor
open Go Go.Sv
instance : Agg Tryd.prog 1 false := ⟨_, Tryd.underlying1, rfl⟩
instance : Inf Tryd.prog 1 (.nilFunc) 1 8 := ⟨by kernel_rfl⟩
instance : Agg Tryd.prog 22 false := ⟨_, Tryd.underlying22, rfl⟩
instance : Inf Tryd.prog 22 (.nilFunc) 1 8 := ⟨by kernel_rfl⟩
instance : Agg Tryd.prog 24 false := ⟨_, Tryd.underlying24, rfl⟩
instance : Inf Tryd.prog 24 (.nilFunc) 1 8 := ⟨by kernel_rfl⟩
instance : Agg Tryd.prog 26 false := ⟨_, Tryd.underlying26, rfl⟩
instance : Inf Tryd.prog 26 (.nilFunc) 1 8 := ⟨by kernel_rfl⟩
instance : Agg Tryd.prog 27 false := ⟨_, Tryd.underlying27, rfl⟩
instance : Inf Tryd.prog 27 (.nilFunc) 1 8 := ⟨by kernel_rfl⟩
instance : Agg Tryd.prog 28 false := ⟨_, Tryd.underlying28, rfl⟩
instance : Inf Tryd.prog 28 (.nilFunc) 1 8 := ⟨by kernel_rfl⟩
instance : Agg Tryd.prog 34 false := ⟨_, Tryd.underlying34, rfl⟩
instance : Inf Tryd.prog 34 (.nilFunc) 1 8 := ⟨by kernel_rfl⟩
instance : Agg Tryd.prog 37 false := ⟨_, Tryd.underlying37, rfl⟩
instance : Inf Tryd.prog 37 (.nilFunc) 1 8 := ⟨by kernel_rfl⟩
instance : Agg Tryd.prog 38 false := ⟨_, Tryd.underlying38, rfl⟩
instance : Inf Tryd.prog 38 (.nilFunc) 1 8 := ⟨by kernel_rfl⟩
instance : Agg Tryd.prog 40 false := ⟨_, Tryd.underlying40, rfl⟩
instance : Inf Tryd.prog 40 (.nilFunc) 1 8 := ⟨by kernel_rfl⟩
instance : Agg Tryd.prog 41 false := ⟨_, Tryd.underlying41, rfl⟩
instance : Inf Tryd.prog 41 (.nilFunc) 1 8 := ⟨by kernel_rfl⟩
instance : Agg Tryd.prog 43 false := ⟨_, Tryd.underlying43, rfl⟩
instance : Inf Tryd.prog 43 (.nilFunc) 1 8 := ⟨by kernel_rfl⟩
instance : Agg Tryd.prog 45 false := ⟨_, Tryd.underlying45, rfl⟩
instance : Inf Tryd.prog 45 (.nilFunc) 1 8 := ⟨by kernel_rfl⟩
instance : Agg Tryd.prog 46 false := ⟨_, Tryd.underlying46, rfl⟩
instance : Inf Tryd.prog 46 (.nilFunc) 1 8 := ⟨by kernel_rfl⟩
instance : Agg Tryd.prog 49 false := ⟨_, Tryd.underlying49, rfl⟩
instance : Inf Tryd.prog 49 (.nilFunc) 1 8 := ⟨by kernel_rfl⟩
instance : Agg Tryd.prog 50 false := ⟨_, Tryd.underlying50, rfl⟩
instance : Inf Tryd.prog 50 (.nilFunc) 1 8 := ⟨by kernel_rfl⟩
instance : Agg Tryd.prog 51 false := ⟨_, Tryd.underlying51, rfl⟩
instance : Inf Tryd.prog 51 (.nilFunc) 1 8 := ⟨by kernel_rfl⟩
instance : Agg Tryd.prog 53 false := ⟨_, Tryd.underlying53, rfl⟩
instance : Inf Tryd.prog 53 (.nilFunc) 1 8 := ⟨by kernel_rfl⟩
instance : Agg Tryd.prog 58 false := ⟨_, Tryd.underlying58, rfl⟩
instance : Inf Tryd.prog 58 (.nilFunc) 1 8 := ⟨by kernel_rfl⟩
instance : Agg Tryd.prog 62 false := ⟨_, Tryd.underlying62, rfl⟩
instance : Inf Tryd.prog 62 (.nilFunc) 1 8 := ⟨by kernel_rfl⟩
instance : Agg Tryd.prog 63 false := ⟨_, Tryd.underlying63, rfl⟩
instance : Inf Tryd.prog 63 (.nilFunc) 1 8 := ⟨by kernel_rfl⟩
instance : Agg Tryd.prog 64 false := ⟨_, Tryd.underlying64, rfl⟩
instance : Inf Tryd.prog 64 (.nilFunc) 1 8 := ⟨by kernel_rfl⟩
instance : Agg Tryd.prog 65 false := ⟨_, Tryd.underlying65, rfl⟩
instance : Inf Tryd.prog 65 (.nilFunc) 1 8 := ⟨by kernel_rfl⟩
instance : Agg Tryd.prog 66 false := ⟨_, Tryd.underlying66, rfl⟩
instance : Inf Tryd.prog 66 (.nilFunc) 1 8 := ⟨by kernel_rfl⟩
instance : Agg Tryd.prog 68 false := ⟨_, Tryd.underlying68, rfl⟩
instance : Inf Tryd.prog 68 (.nilFunc) 1 8 := ⟨by kernel_rfl⟩
instance : Agg Tryd.prog 69 false := ⟨_, Tryd.underlying69, rfl⟩
instance : Inf Tryd.prog 69 (.nilFunc) 1 8 := ⟨by kernel_rfl⟩
instance : Agg Tryd.prog 70 false := ⟨_, Tryd.underlying70, rfl⟩
instance : Inf Tryd.prog 70 (.nilFunc) 1 8 := ⟨by kernel_rfl⟩
instance : Agg Tryd.prog 71 false := ⟨_, Tryd.underlying71, rfl⟩
instance : Inf Tryd.prog 71 (.nilFunc) 1 8 := ⟨by kernel_rfl⟩
instance : Agg Tryd.prog 72 false := ⟨_, Tryd.underlying72, rfl⟩
instance : Inf Tryd.prog 72 (.nilFunc) 1 8 := ⟨by kernel_rfl⟩
instance : Agg Tryd.prog 73 false := ⟨_, Tryd.underlying73, rfl⟩
instance : Inf Tryd.prog 73 (.nilFunc) 1 8 := ⟨by kernel_rfl⟩
instance : Agg Tryd.prog 75 false := ⟨_, Tryd.underlying75, rfl⟩
instance : Inf Tryd.prog 75 (.nilFunc) 1 8 := ⟨by kernel_rfl⟩
instance : Agg Tryd.prog 76 false := ⟨_, Tryd.underlying76, rfl⟩
instance : Inf Tryd.prog 76 (.nilFunc) 1 8 := ⟨by kernel_rfl⟩
instance : Agg Tryd.prog 77 false := ⟨_, Tryd.underlying77, rfl⟩
instance : Inf Tryd.prog 77 (.nilFunc) 1 8 := ⟨by kernel_rfl⟩
instance : Agg Tryd.prog 78 false := ⟨_, Tryd.underlying78, rfl⟩
instance : Inf Tryd.prog 78 (.nilFunc) 1 8 := ⟨by kernel_rfl⟩
instance : Agg Tryd.prog 79 false := ⟨_, Tryd.underlying79, rfl⟩
instance : Inf Tryd.prog 79 (.nilFunc) 1 8 := ⟨by kernel_rfl⟩
instance : Agg Tryd.prog 80 false := ⟨_, Tryd.underlying80, rfl⟩
instance : Inf Tryd.prog 80 (.nilFunc) 1 8 := ⟨by kernel_rfl⟩
instance : Agg Tryd.prog 81 false := ⟨_, Tryd.underlying81, rfl⟩
instance : Inf Tryd.prog 81 (.nilFunc) 1 8 := ⟨by kernel_rfl⟩
instance : Agg Tryd.prog 82 false := ⟨_, Tryd.underlying82, rfl⟩
instance : Inf Tryd.prog 82 (.nilFunc) 1 8 := ⟨by kernel_rfl⟩
instance : Agg Tryd.prog 86 false := ⟨_, Tryd.underlying86, rfl⟩
instance : Inf Tryd.prog 86 (.nilFunc) 1 8 := ⟨by kernel_rfl⟩
instance : Agg Tryd.prog 90 false := ⟨_, Tryd.underlying90, rfl⟩
instance : Inf Tryd.prog 90 (.nilFunc) 1 8 := ⟨by kernel_rfl⟩
instance : Agg Tryd.prog 91 false := ⟨_, Tryd.underlying91, rfl⟩
instance : Inf Tryd.prog 91 (.nilFunc) 1 8 := ⟨by kernel_rfl⟩
instance : Agg Tryd.prog 92 false := ⟨_, Tryd.underlying92, rfl⟩
instance : Inf Tryd.prog 92 (.nilFunc) 1 8 := ⟨by kernel_rfl⟩
instance : Agg Tryd.prog 93 false := ⟨_, Tryd.underlying93, rfl⟩
instance : Inf Tryd.prog 93 (.nilFunc) 1 8 := ⟨by kernel_rfl⟩
instance : Agg Tryd.prog 94 false := ⟨_, Tryd.underlying94, rfl⟩
instance : Inf Tryd.prog 94 (.nilFunc) 1 8 := ⟨by kernel_rfl⟩
instance : Agg Tryd.prog 95 false := ⟨_, Tryd.underlying95, rfl⟩
instance : Inf Tryd.prog 95 (.nilFunc) 1 8 := ⟨by kernel_rfl⟩
instance : Agg Tryd.prog 96 false := ⟨_, Tryd.underlying96, rfl⟩
instance : Inf Tryd.prog 96 (.nilFunc) 1 8 := ⟨by kernel_rfl⟩
instance : Agg Tryd.prog 98 false := ⟨_, Tryd.underlying98, rfl⟩
instance : Inf Tryd.prog 98 (.nilFunc) 1 8 := ⟨by kernel_rfl⟩
instance : Agg Tryd.prog 100 false := ⟨_, Tryd.underlying100, rfl⟩
instance : Inf Tryd.prog 100 (.nilFunc) 1 8 := ⟨by kernel_rfl⟩
instance : Agg Tryd.prog 102 false := ⟨_, Tryd.underlying102, rfl⟩
instance : Inf Tryd.prog 102 (.nilFunc) 1 8 := ⟨by kernel_rfl⟩
instance : Agg Tryd.prog 103 false := ⟨_, Tryd.underlying103, rfl⟩
instance : Inf Tryd.prog 103 (.nilFunc) 1 8 := ⟨by kernel_rfl⟩
instance : Agg Tryd.prog 105 false := ⟨_, Tryd.underlying105, rfl⟩
instance : Inf Tryd.prog 105 (.nilFunc) 1 8 := ⟨by kernel_rfl⟩
instance : Agg Tryd.prog 107 false := ⟨_, Tryd.underlying107, rfl⟩
instance : Inf Tryd.prog 107 (.nilFunc) 1 8 := ⟨by kernel_rfl⟩
instance : Agg Tryd.prog 108 false := ⟨_, Tryd.underlying108, rfl⟩
instance : Inf Tryd.prog 108 (.nilFunc) 1 8 := ⟨by kernel_rfl⟩
instance : Agg Tryd.prog 109 false := ⟨_, Tryd.underlying109, rfl⟩
instance : Inf Tryd.prog 109 (.nilFunc) 1 8 := ⟨by kernel_rfl⟩
instance : Agg Tryd.prog 111 false := ⟨_, Tryd.underlying111, rfl⟩
instance : Inf Tryd.prog 111 (.nilFunc) 1 8 := ⟨by kernel_rfl⟩
instance : Agg Tryd.prog 112 false := ⟨_, Tryd.underlying112, rfl⟩
instance : Inf Tryd.prog 112 (.nilFunc) 1 8 := ⟨by kernel_rfl⟩
instance : Agg Tryd.prog 113 false := ⟨_, Tryd.underlying113, rfl⟩
instance : Inf Tryd.prog 113 (.nilFunc) 1 8 := ⟨by kernel_rfl⟩
instance : Agg Tryd.prog 119 false := ⟨_, Tryd.underlying119, rfl⟩
instance : Inf Tryd.prog 119 (.nilFunc) 1 8 := ⟨by kernel_rfl⟩
instance : Agg Tryd.prog 125 false := ⟨_, Tryd.underlying125, rfl⟩
instance : Inf Tryd.prog 125 (.nilFunc) 1 8 := ⟨by kernel_rfl⟩
instance : Agg Tryd.prog 128 false := ⟨_, Tryd.underlying128, rfl⟩
instance : Inf Tryd.prog 128 (.nilFunc) 1 8 := ⟨by kernel_rfl⟩
end Go.Proofs.YtjpnhaaneaikbaaDoor

/-
  Package value: Tidy. The law ValueNames.
-/
set_option linter.unusedSimpArgs false
set_option linter.unusedVariables false
set_option linter.unnecessarySimpa false
namespace Go.Proofs.YtjpnhaaneaikbaaDoor
open Go Go.Sv Go.RowKit

def fv (f : FuncId) : Value := .func (.func f) #[] #[]
def kindsV : List Value := [fv 38, fv 39, fv 40, fv 41, fv 42, fv 43, fv 44, fv 45, fv 46]
theorem kinds_ok (w : World) : CallsR Tryd.prog 28 #[] w fun v w' => Frm w w' ∧ v = .agg ⟨kindsV⟩ := by
  refine enter (l := []) Tryd.func28 rfl Tryd.ntmps28 (by kernel_rfl) rfl ?_
  have hS := Sep.start w
  refine sgo ?_
  refine salloc hS fun b0 w0 hS => ?_
  refine sgo ?_
  refine wl ?_ (y_arr (zs := [.nilFunc, .nilFunc, .nilFunc, .nilFunc, .nilFunc, .nilFunc, .nilFunc, .nilFunc, .nilFunc]) kindsV rfl rfl rfl (by simp [kindsV, fv, Value.cells]))
  refine sgo ?_
  refine ssta (vs := kindsV) hS 0 (fun w3 hS => ?_)
  refine sgo ?_
  have ho := hS.own 0 rfl
  refine fpc (l := kindsV) (zv := .agg #[.nilFunc, .nilFunc, .nilFunc, .nilFunc, .nilFunc, .nilFunc, .nilFunc, .nilFunc, .nilFunc]) (.inl rfl) rfl rfl rfl ho ⟨hS.frm, rfl⟩
/-- a rule: its name, its kind, and its words, as they lie -/
def takV (nm : List UInt8) (k : Int) (wp : Option Addr) (wn wc : Nat) (sp : Option Addr) (sn sc : Nat) (rel : Bool) : List Value := [str nm, int k, .slice wp wn wc, .slice sp sn sc, .bool rel]
def tidyV (r : List UInt8 × Bool) : Value := .tuple #[str (if r.2 = true then r.1 else []), .bool r.2, int 0]
set_option maxHeartbeats 1000000 in
theorem tidy_ok (nm : List UInt8) (k : Nat) (hk : k < 9) (wp : Option Addr) (wn wc : Nat) (sp : Option Addr) (sn sc : Nat) (rel : Bool) (v : List UInt8) (hb : v.length ≤ 20000000) (f : FuncId) [hf : Fnc Tryd.prog f] (hkf : kindsV[k]? = some (fv f)) (r : List UInt8 × Bool) (w : World)
    (hc : ∀ w', Frm w w' → PureC Tryd.prog f #[.agg ⟨takV nm k wp wn wc sp sn sc rel⟩, str (cleanR v)] w' (.tuple #[str r.1, .bool r.2])) :
    PureC Tryd.prog 15 #[.agg #[str nm, int k, .slice wp wn wc], .slice sp sn sc, .bool rel, str v] w (tidyV r) := by
  have hS := Sep.start w
  refine enter (l := [.agg #[str nm, int k, .slice wp wn wc], .slice sp sn sc, .bool rel, str v]) Tryd.func15 rfl Tryd.ntmps15 (by kernel_rfl) rfl ?_
  refine sgo ?_
  refine sbox hS fun b4 w1 hS => ?_
  replace hS : Sep w w1 [pOwn b4 [str nm, int k, .slice wp wn wc]] := hS
  refine sgo ?_
  refine wlcall (kinds_ok _) ?_
  rintro _ w2 ⟨hf2, rfl⟩
  replace hS := hS.grow hf2
  refine sgo ?_
  refine salloc hS fun b11 w3 hS => ?_
  refine sgo ?_
  refine ssta (vs := kindsV) hS 0 (fun w4 hS => ?_)
  obtain ⟨L, hL, hL9, hS⟩ : ∃ L : List Value, kindsV = L ∧ L.length = 9 ∧ Sep w w4 [pOwn b11 L, pOwn b4 [str nm, int k, .slice wp wn wc]] := ⟨_, rfl, rfl, hS⟩
  rw [hL] at hkf
  clear hL
  refine sgo ?_
  refine wcno ?_ (ht := by simp [pkb]; omega)
  refine sgo ?_
  refine wcdraw ?_
  refine qgo ?_
  have hkf' : L[0 + k]? = some (fv f) := by rw [Nat.zero_add]; exact hkf
  refine ql_load (v := fv f) ?_ (fun w' hw' => y_load rfl ((hS.grow hw').sgv 0 rfl) hkf')
  refine qgo ?_
  refine ql (v := .agg ⟨takV nm k wp wn wc sp sn sc rel⟩) ?_ (YQ.ofY fun w' hw' => y_build (cells := takV nm k wp wn wc sp sn sc rel) rfl)
  refine qgo ?_
  refine qlcallp (fun w' hw' => inClean_ok v (by omega) w') ?_
  refine qlcallv (f := f) (first := []) (args := [.agg ⟨takV nm k wp wn wc sp sn sc rel⟩, str (cleanR v)]) (cap := []) (fun w' hw' => hc w' (hS.frm.trans hw')) ?_
  refine qgo ?_
  refine QL_nil ?_
  intro w5 hf5
  have hfr := hS.frm.trans hf5
  clear hS hc hf5
  obtain ⟨t, ok⟩ := r
  unfold tidyV
  cases ok with
  | false =>
    dsimp only
    refine sgo ?_
    (first | refine fp1 (.inl rfl) rfl rfl ?_ | refine fp2 (.inl rfl) rfl rfl rfl ?_ | refine fp3 (.inl rfl) rfl rfl rfl rfl ?_ | refine fp0 (.inr rfl) rfl ?_ | refine fp0 (.inl rfl) rfl ?_ | refine fp1 (.inr rfl) rfl rfl ?_); refine ⟨?_, by (first | exact Frm.refl _ | assumption | exact Go.Sv.Sep.frm (by assumption) | (refine Frm.trans ?_ (by assumption); first | exact Frm.refl _ | assumption))⟩; (try simp only [realB, rv_true, Nat.reduceBEq, cond_true, cond_false, entG, real_lif, updGL])
    all_goals rfl
  | true =>
    dsimp only
    refine sgo ?_
    (first | refine fp1 (.inl rfl) rfl rfl ?_ | refine fp2 (.inl rfl) rfl rfl rfl ?_ | refine fp3 (.inl rfl) rfl rfl rfl rfl ?_ | refine fp0 (.inr rfl) rfl ?_ | refine fp0 (.inl rfl) rfl ?_ | refine fp1 (.inr rfl) rfl rfl ?_); refine ⟨?_, by (first | exact Frm.refl _ | assumption | exact Go.Sv.Sep.frm (by assumption) | (refine Frm.trans ?_ (by assumption); first | exact Frm.refl _ | assumption))⟩; (try simp only [realB, rv_true, Nat.reduceBEq, cond_true, cond_false, entG, real_lif, updGL])
    all_goals rfl
/-! ## Words, joined -/
def toksR (v : List UInt8) : List UInt8 := joinR [32] (fieldsR v)
theorem fields_tlen : ∀ (l cur : List UInt8), tlen (fgo cur l) ≤ cur.length + l.length
  | [], cur => by
    unfold fgo
    split
    · simp [tlen]
    · simp [tlen]
  | b :: l, cur => by
    have h0 := fields_tlen l []
    have h1 := fields_tlen l (cur ++ [b])
    unfold fgo
    split
    · split
      · simp only [List.length_nil, List.length_cons] at *; omega
      · simp only [tlen, List.map_cons, List.sum_cons, List.length_nil, List.length_cons] at *; omega
    · simp only [List.length_append, List.length_singleton, List.length_cons, List.length_nil] at *; omega
theorem toksR_len (v : List UInt8) : (toksR v).length ≤ 2 * v.length := by
  have h1 := fields_tlen v []
  have h2 := fields_len v
  unfold toksR
  change tlen (fieldsR v) ≤ _ at h1
  cases hf : fieldsR v with
  | nil => simp [joinR]
  | cons x r =>
    rw [join_len]
    rw [hf] at h1 h2
    simp only [List.length_cons, List.length_nil] at *
    omega
theorem takTokens_ok (nm : List UInt8) (k : Int) (wp : Option Addr) (wn wc : Nat) (sp : Option Addr) (sn sc : Nat) (rel : Bool) (v : List UInt8) (hv : validR v = true) (hb : v.length ≤ 1048576) (w : World) :
    PureC Tryd.prog 39 #[.agg ⟨takV nm k wp wn wc sp sn sc rel⟩, str v] w (.tuple #[str (toksR v), .bool true]) := by
  have hl := toksR_len v
  have hfl := fields_len v
  refine enter (l := [.agg ⟨takV nm k wp wn wc sp sn sc rel⟩, str v]) Tryd.func39 rfl Tryd.ntmps39 (by kernel_rfl) rfl ?_
  have hS := Sep.start w
  refine sgo ?_
  refine sbox hS fun b2 w1 hS => ?_
  refine sgo ?_
  refine wlcall (words_ok v hv (by omega) _) ?_
  rintro _ w2 ⟨q, c, rfl, hS2⟩
  have hf2 := hS.frm.trans hS2.frm
  have hcap := (hS2.row 0 rfl).le_cap
  refine sgo ?_
  refine wlpure (join_ok (fieldsR v) [32] q c hcap.1 (by omega) (by decide) (by unfold toksR at hl; omega) _ (hS2.im 0 rfl)) fun w3 hf3 => ?_
  refine sgo ?_
  have hf := hf2.trans hf3
  clear hf2 hf3
  (first | refine fp1 (.inl rfl) rfl rfl ?_ | refine fp2 (.inl rfl) rfl rfl rfl ?_ | refine fp3 (.inl rfl) rfl rfl rfl rfl ?_ | refine fp0 (.inr rfl) rfl ?_ | refine fp0 (.inl rfl) rfl ?_ | refine fp1 (.inr rfl) rfl rfl ?_); refine ⟨?_, by (first | exact Frm.refl _ | assumption | exact Go.Sv.Sep.frm (by assumption) | (refine Frm.trans ?_ (by assumption); first | exact Frm.refl _ | assumption))⟩; (try simp only [realB, rv_true, Nat.reduceBEq, cond_true, cond_false, entG, real_lif, updGL])
  all_goals rfl
theorem tidyTokens_ok (nm : List UInt8) (wp : Option Addr) (wn wc : Nat) (sp : Option Addr) (sn sc : Nat) (rel : Bool) (v : List UInt8) (hb : v.length ≤ 262144) (w : World) :
    PureC Tryd.prog 15 #[.agg #[str nm, int (1 : Nat), .slice wp wn wc], .slice sp sn sc, .bool rel, str v] w (.tuple #[str (toksR (cleanR v)), .bool true, int 0]) := by
  have hl := cleanR_len v
  have := tidy_ok nm 1 (by decide) wp wn wc sp sn sc rel v (by omega) 39 rfl (toksR (cleanR v), true) w (fun w' _ => takTokens_ok nm (1 : Nat) wp wn wc sp sn sc rel (cleanR v) (cleanR_valid v) (by omega) w')
  exact this
def livA : List UInt8 := [32, 97, 9, 98, 32, 32, 97, 32]
def livB : List UInt8 := [45, 49]
theorem liv_a : toksR (cleanR livA) = [97, 32, 98, 32, 97] := by decide +kernel
theorem liv_b : numR (cleanR livB) = none := by decide +kernel
set_option maxHeartbeats 1000000 in
theorem lives13_ok (w : World) : PureC Tryd.prog 8 #[] w (.bool true) := by
  refine enter (l := []) Tryd.func8 rfl Tryd.ntmps8 (by kernel_rfl) rfl ?_
  refine sgo ?_
  refine wlbuild ?_
  refine sgo ?_
  refine wlpure (tidyTokens_ok [] none 0 0 none 0 0 false livA (by decide) _) fun w1 hf1 => ?_
  rw [liv_a]
  refine sgo ?_
  refine wlpure (number_ok livB (by decide) _) fun w2 hf2 => ?_
  rw [liv_b]
  unfold numV
  refine sgo ?_
  have hf := hf1.trans hf2
  clear hf1 hf2
  (first | refine fp1 (.inl rfl) rfl rfl ?_ | refine fp2 (.inl rfl) rfl rfl rfl ?_ | refine fp3 (.inl rfl) rfl rfl rfl rfl ?_ | refine fp0 (.inr rfl) rfl ?_ | refine fp0 (.inl rfl) rfl ?_ | refine fp1 (.inr rfl) rfl rfl ?_); refine ⟨?_, by (first | exact Frm.refl _ | assumption | exact Go.Sv.Sep.frm (by assumption) | (refine Frm.trans ?_ (by assumption); first | exact Frm.refl _ | assumption))⟩; (try simp only [realB, rv_true, Nat.reduceBEq, cond_true, cond_false, entG, real_lif, updGL])
  all_goals rfl
theorem valueNames_ok (w : World) : PureC Tryd.prog 3 #[] w (.bool true) := by
  refine enter (l := []) Tryd.func3 rfl Tryd.ntmps3 (by kernel_rfl) rfl ?_
  refine sgo ?_
  refine wlcallgp (vals := []) (fun _ => lives13_ok _) (fun w2 hf2 => ?_) (ha := fun _ => rfl)
  refine sgo ?_
  (first | refine fp1 (.inl rfl) rfl rfl ?_ | refine fp2 (.inl rfl) rfl rfl rfl ?_ | refine fp3 (.inl rfl) rfl rfl rfl rfl ?_ | refine fp0 (.inr rfl) rfl ?_ | refine fp0 (.inl rfl) rfl ?_ | refine fp1 (.inr rfl) rfl rfl ?_); refine ⟨?_, by (first | exact Frm.refl _ | assumption | exact Go.Sv.Sep.frm (by assumption) | (refine Frm.trans ?_ (by assumption); first | exact Frm.refl _ | assumption))⟩; (try simp only [realB, rv_true, Nat.reduceBEq, cond_true, cond_false, entG, real_lif, updGL])
  all_goals rfl
end Go.Proofs.YtjpnhaaneaikbaaDoor

/-
  From a frame to what a row asks behind the call: nothing that was there has turned (new blocks may be frozen).
-/
set_option linter.unusedSimpArgs false
set_option linter.unusedVariables false
set_option linter.unnecessarySimpa false
namespace Go.ChangeShapes
section
variable {H : Type} {enc : TypeId × Value → H} {P : Program}
theorem post_frm {f : Func} {s : ChangeSpec} {apart fresh handsOn again : Bool} {W W' : World} {args : Array Value} {v : Value} {ds gs : List (DataW H)} {before pa pv : List MemPlace}
    (hW : DataW.Whole enc P f.params.toList s.vars apart W args.toList ds gs before)
    (hres : ∀ (b : Nat) (sp : Nat → Bool) (hd : Bool), DataW.TrodAll enc P W' b sp hd f.resultTypes.toList (v.resultList f.resultTypes.size) (s.fn H (ds ++ gs)).results [])
    (hargs : ∀ sp : Nat → Bool, (∀ p ∈ before, sp p.block = true) → DataW.TrodAll enc P W' 0 sp true f.params.toList args.toList (s.fn H (ds ++ gs)).args pa)
    (hvars : ∀ sp : Nat → Bool, (∀ p ∈ before, sp p.block = true) → DataW.TrodVars enc P W' sp s.vars (s.fn H (ds ++ gs)).vars pv)
    (hps : before = pa ++ pv) (hk : Sv.Frm W W')
    (hok : ∀ (j : Nat) (t : TypeId) (r : Value), f.resultTypes[j]? = some t → (v.resultList f.resultTypes.size)[j]? = some r → Value.okWide P W' .any 0 t r) :
    s.post enc P f apart fresh handsOn again W args v W' := by
  have hold : ∀ p ∈ before, (fun b => decide (b < W.heap.size)) p.block = true := fun p hp => by simpa using hW.lt p hp
  refine ⟨ds, gs, before, [], pa, pv, hW, hres _ _ _, hargs _ hold, hvars _ hold, World.keptBut_mono (fun p hp => ⟨hp, ?_⟩) (RowKit.Below.frame hk (· ∈ before)), fun _ => ?_⟩
  · rw [hps, List.mem_append] at hp
    exact Or.inr hp
  · have hlt := hW.lt
    obtain ⟨_, _, _, _, _, hz, hn⟩ := hW
    refine ⟨hok, _, _, ([] ++ pa) ++ pv, ⟨[] ++ pa, pv, trodAll_append (hargs _ (fun _ _ => rfl)) (hres _ _ _), hvars _ (fun _ _ => rfl), rfl, ?_, ?_⟩, ?_⟩
    · intro b off hp
      have hp' : (.cell b off : MemPlace) ∈ before := by rw [hps]; simpa using hp
      rw [RowKit.Below.frozen hk (hlt _ hp')]
      exact hz b off hp'
    · intro ha
      have := hn ha
      rw [hps] at this
      simpa using this
    · intro p hp _
      rw [hps]
      simpa using hp
end
end Go.ChangeShapes

/-
  From a reading of the arguments to what lies in memory; and back: a law leaves the arguments as they were.
-/
set_option linter.unusedSimpArgs false
set_option linter.unusedVariables false
set_option linter.unnecessarySimpa false
namespace Go.Sv
open Go Go.RowKit Go.ChangeShapes Go.WideShapes
/-- a law's ending: it answered true, and left all as it was -/
theorem trodAll_frm {H : Type} {enc : TypeId × Value → H} {P : Program} (hl : laidOutB P = true) {W W' : World} (hf : Sv.Frm W W') {sp : Nat → Bool} : ∀ {ts : List TypeId} {vs : List Value} {ds : List (DataW H)} {ps : List MemPlace},
    (∀ t ∈ ts, P.readableRec t = true ∧ t < P.types.size) → DataW.TrodAll enc P W 0 (fun _ => true) true ts vs ds ps → (∀ p ∈ ps, p.block < W.heap.size) → (∀ p ∈ ps, sp p.block = true) → DataW.TrodAll enc P W' 0 sp true ts vs ds ps
  | [], [], [], _, _, h, _, _ => h
  | t :: ts, v :: vs, d :: ds, _, ht, ⟨p, q, h1, h2, e⟩, hlt, hs => by
    subst e
    refine ⟨p, q, ?_, ?_, rfl⟩
    · obtain ⟨hr, hrow⟩ := ht t List.mem_cons_self
      exact WideElems.Trod_stays hl hr hrow h1 (fun x hx => RowKit.Below.same hf (hlt x (List.mem_append_left _ hx))) fun x hx => hs x (List.mem_append_left _ hx)
    · exact trodAll_frm hl hf (fun t ht' => ht t (List.mem_cons_of_mem _ ht')) h2 (fun x hx => hlt x (List.mem_append_right _ hx)) fun x hx => hs x (List.mem_append_right _ hx)
theorem law_ends {H : Type} {enc : TypeId × Value → H} {P : Program} {f : Func} {s : ChangeSpec} {W W' : World} {args : Array Value} {ds gs : List (DataW H)} {before : List MemPlace} {tb : TypeId}
    (hl : laidOutB P = true) (hT : ∀ t ∈ f.params.toList, P.readableRec t = true ∧ t < P.types.size) (hv : s.vars = []) (hrt : f.resultTypes = #[tb]) (hb : P.underlying tb = some .bool)
    (hW : DataW.Whole enc P f.params.toList s.vars false W args.toList ds gs before) (hfn : s.fn H (ds ++ gs) = { results := [.lit (.bool true)], args := ds ++ gs }) (hg : Frm W W') :
    s.post enc P f false true false false W args (.bool true) W' := by
  have hW' := hW
  have hlt := hW.lt
  obtain ⟨p, q, hA, hV, rfl, _, _⟩ := hW
  rw [hv] at hV
  obtain ⟨rfl, rfl⟩ := trodVars_none hV
  have hrl : (Value.bool true).resultList f.resultTypes.size = [.bool true] := by rw [hrt]; rfl
  simp only [List.append_nil] at hlt hfn
  refine post_frm (pa := p) (pv := []) hW' (fun _ _ _ => ?_) (fun sp hsp => ?_) (fun _ _ => ?_) rfl hg (ok_one hrt rfl (okWide_bool_mk hb _))
  · rw [hrt]
    simp only [List.append_nil, hfn]
    exact trodAll_cons_mk (shut_bool hb _) trodAll_mk0
  · simp only [List.append_nil, hfn]
    exact trodAll_frm hl hg hT hA hlt (fun x hx => hsp x (by simpa using hx))
  · simp only [List.append_nil, hfn, hv]
    rfl
end Go.Sv
namespace Go.Proofs.YtjpnhaaneaikbaaDoor
open Go Go.Sv Go.RowKit Go.ChangeShapes Go.WideShapes Go.Deep

theorem laidOut : laidOutB Tryd.prog = true := by kernel_rfl
theorem own : ownKnob Tryd.prog.godebug = none := by kernel_rfl

section
variable {H : Type} {P : Program} {enc : TypeId × Value → H} {w : World} {base : Nat} {spare : Nat → Bool} {held : Bool}
theorem bulkAll_eq : ∀ l : List (DataW H), Rows.uptoBulkAll l = (l.map Rows.uptoBulk).sum
  | [] => by simp [Rows.uptoBulkAll]
  | d :: l => by simp only [Rows.uptoBulkAll, List.map_cons, List.sum_cons, bulkAll_eq l]
theorem bulk_str (l : List UInt8) : Rows.uptoBulk (.lit (.string l) : DataW H) = l.length + 1 := by simp only [Rows.uptoBulk]
theorem bulk_int (k : IntKind) (n : Int) : Rows.uptoBulk (.lit (.int k n) : DataW H) = 1 := by simp only [Rows.uptoBulk]
theorem str_of (s : ByteArray) : Value.string s = str s.data.toList := by cases s; rfl
/-- a cell that is a text -/
theorem open_strc {t : TypeId} {fuel : Nat} {cs : List Value} {x : DataW H × List MemPlace} (ht : P.underlying t = some .string) (h : DataW.trod enc P w base spare held fuel t cs = some x) : ∃ l : List UInt8, cs = [str l] ∧ Rows.uptoBulk x.1 = l.length + 1 := by
  obtain ⟨s, rfl, rfl, _⟩ := DataW.trod_string ht h
  exact ⟨s.data.toList, by rw [str_of], bulk_str _⟩
theorem open_intc {t : TypeId} {k : IntKind} {fuel : Nat} {cs : List Value} {x : DataW H × List MemPlace} (ht : P.underlying t = some (.int k)) (h : DataW.trod enc P w base spare held fuel t cs = some x) : ∃ n : Int, cs = [.int k n] ∧ k.min ≤ n ∧ n ≤ k.max ∧ Rows.uptoBulk x.1 = 1 := by
  obtain ⟨n, rfl, rfl, hw⟩ := DataW.trod_int ht h
  simp only [Lit.wf, IntKind.has, Bool.and_eq_true, decide_eq_true_eq] at hw
  exact ⟨n, rfl, hw.1, hw.2, bulk_int _ _⟩
theorem small_le {ds : List (DataW H)} (hk : Rows.uptoSmall H ds = true) : (ds.map Rows.uptoBulk).sum ≤ 1048576 := by
  have := of_decide_eq_true hk
  rwa [bulkAll_eq] at this
end
end Go.Proofs.YtjpnhaaneaikbaaDoor

/-
  Readings of arguments of one cell: texts.
-/
set_option linter.unusedSimpArgs false
set_option linter.unusedVariables false
set_option linter.unnecessarySimpa false
namespace Go.Proofs.YtjpnhaaneaikbaaDoor
open Go Go.Sv Go.RowKit Go.ChangeShapes Go.WideShapes Go.Deep
section
variable {H : Type} {enc : TypeId × Value → H} {w : World} {base : Nat} {spare : Nat → Bool} {held : Bool}
set_option maxRecDepth 100000 in
theorem open_str1 {v : Value} {d : DataW H} {ps : List MemPlace} {r : Reach} {b0 : Nat} (hv : Value.okWide Tryd.prog w r b0 9 v) (h : DataW.Trod enc Tryd.prog w base spare held 9 v d ps) :
    ∃ l : List UInt8, v = str l ∧ l.length + 1 ≤ Rows.uptoBulk d := by
  obtain ⟨s, rfl⟩ := okWide_string Tryd.underlying9 hv
  obtain ⟨fuel, hf⟩ := h
  obtain ⟨l, e, hw⟩ := open_strc Tryd.underlying9 hf
  dsimp only at hw
  exact ⟨l, by simpa [Value.cells] using e, by omega⟩
end
end Go.Proofs.YtjpnhaaneaikbaaDoor

/-
  A world for the witness of the seat's cards: the listed variables hold what the texts lay.
-/
set_option linter.unusedSimpArgs false
set_option linter.unusedVariables false
set_option linter.unnecessarySimpa false
namespace Go.Proofs.YtjpnhaaneaikbaaDoor
open Go Go.Sv Go.RowKit Go.ChangeShapes Go.WideShapes Go.ChangeAt
def nevV : List Value := [str [106, 97, 118, 97, 115, 99, 114, 105, 112, 116], str [100, 97, 116, 97], str [118, 98, 115, 99, 114, 105, 112, 116], str [98, 108, 111, 98], str [102, 105, 108, 101], str [102, 105, 108, 101, 115, 121, 115, 116, 101, 109], str [97, 98, 111, 117, 116]]
noncomputable def valHeap (h : Array Obj) : Array Obj :=
  ((h.modify 0 fun | .cells _ t f => .cells nevV.toArray t f | o => o).modify 2 fun
    | .cells _ t f => .cells (Go.Pinned.utf8FirstZ.map fun (z : Nat) => Value.int .u8 z).toArray t f | o => o).modify 3 fun
    | .cells _ t f => .cells (([128, 191, 160, 191, 128, 159, 144, 191, 128, 143] ++ List.replicate 22 0 : List Int).map fun z => Value.int .u8 z).toArray t f | o => o
noncomputable def valWorld (os : Os) : World := { World.holding Tryd.prog os ⟨#[], #[], []⟩ with heap := valHeap (World.holding Tryd.prog os ⟨#[], #[], []⟩).heap }
end Go.Proofs.YtjpnhaaneaikbaaDoor

/-
  Readings of arguments of one cell: numbers, truth values.
-/
set_option linter.unusedSimpArgs false
set_option linter.unusedVariables false
set_option linter.unnecessarySimpa false
namespace Go.Proofs.YtjpnhaaneaikbaaDoor
open Go Go.Sv Go.RowKit Go.ChangeShapes Go.WideShapes Go.Deep
set_option maxRecDepth 100000 in
theorem open_uint1 {H : Type} {enc : TypeId × Value → H} {w : World} {base : Nat} {spare : Nat → Bool} {held : Bool} {v : Value} {d : DataW H} {ps : List MemPlace} {r : Reach} {b0 : Nat} (hv : Value.okWide Tryd.prog w r b0 42 v) (h : DataW.Trod enc Tryd.prog w base spare held 42 v d ps) :
    ∃ n : Int, v = .int .u64 n ∧ IntKind.min .u64 ≤ n ∧ n ≤ IntKind.max .u64 ∧ 1 ≤ Rows.uptoBulk d := by
  obtain ⟨s, rfl⟩ := okWide_int Tryd.underlying42 hv
  obtain ⟨fuel, hf⟩ := h
  obtain ⟨l, e, h1, h2, hw⟩ := open_intc Tryd.underlying42 hf
  dsimp only at hw
  exact ⟨l, by simpa [Value.cells] using e, h1, h2, by omega⟩
end Go.Proofs.YtjpnhaaneaikbaaDoor

