/-
  Our texts SvTpK, SvTpN, SvRec2, SvTpH, SvTpI, SvTabE, SvTokJ, SvTm, SvTpL, SvTpM, SvTn, SvTpO, SvPost, SvOpen, SvOpn07, joined.
-/
import Derived.Test.YtfomfplddncakaaMg4
import Derived.Test.YtfomfplddncakaaRows
import Derived.ChangeSame
import Derived.WalkKit
import Derived.ProofKit
import Derived.OpenShut
import Derived.JoinedCond
import Derived.Deep.Slices
import Derived.WideKeyArgs
/-
  Package sieveref07, reading: a line.
-/
set_option linter.unusedSimpArgs false
set_option linter.unusedVariables false
set_option linter.unnecessarySimpa false
namespace Go.Sv
open Go Go.RowKit
/-- two results: a struct that lies in a cell, and a value -/
theorem fp_ct {P : Program} {n : Nat} {fn : Func} {R : Value → World → Prop} {σ : Env} {w : World} {t1 t2 : Nat} {y1 : TypeId} {ex : Exit} {b1 : Nat} {l : List Value} {zv : Value} {bytes : Nat} {ds : Ctx} (hex : ex = .ret ∨ ex = .normal) (hr : fn.results = #[.cell t1 y1, .tmp t2])
    (ht : (Nat.blt t1 n && Nat.blt t2 n) = true) (hp : σ t1 = .pointer (pb b1)) (o1 : Own w b1 l)
    [h1 : Agg P y1 true] [hi : Inf P y1 zv l.length bytes] (h : R (.tuple #[.agg l.toArray, σ t2]) w) (hd : ds.ds = [] := by rfl) : fpost P n fn R ex ds σ w := by
  simp only [Bool.and_eq_true] at ht
  obtain ⟨ht1, ht2⟩ := ht
  obtain ⟨T1, o1⟩ := o1
  refine fp_of hex hd ?_ h
  have g : (act n ds.ds σ).tmps[t1]?.getD undef = .pointer (pb b1) := by
    have : (act n ds.ds σ).tmps.getD t1 undef = .pointer (pb b1) := by rw [act_getD ht1]; exact hp
    simpa using this
  have g2 : (act n ds.ds σ).tmps[t2]?.getD undef = σ t2 := by
    have : (act n ds.ds σ).tmps.getD t2 undef = σ t2 := by rw [act_getD ht2]
    simpa using this
  obtain ⟨dd, hd1, hd2⟩ := h1.ok
  obtain ⟨i, hi1, hi2, hi3, hi4⟩ := inf_size (P := P) (t := y1)
  have c1 := run_loadVar_row (P := P) w b1 T1 y1 l.toArray (0, 0) dd o1 hd1 (by revert hd2; cases dd <;> exact id) (by rw [hi1]; simp [hi3])
  simp [results, hr, g, g2, asAddr, pb, c1]
end Go.Sv
namespace Go.Proofs.Ytfomfplddncakaa
open Go Go.Sv Go.RowKit

def tkp (k : Nat) (y : List UInt8) : Tok := if k = 2 then ⟨k, y, [], [], false, 0, 0, 0⟩ else ⟨k, [], y, [], false, 0, 0, 0⟩
theorem read_plain {k : Nat} {x s : List UInt8} (hx : wordsL[k]? = some x) (h1 : k ≠ 1) (h4 : k ≠ 4) (hp : (x ++ [32]).isPrefixOf s = true) :
    readR s = match textR (s.drop (x ++ [32]).length) with | none => none | some (y, r) => if r = [] ∧ mayR (tkp k y) = true then some (tkp k y) else none := by
  rw [pre_blank, Bool.and_eq_true, decide_eq_true_eq] at hp
  rw [read_at k x s hx hp.1]
  have e : s.drop (x ++ [32]).length = (s.drop x.length).drop 1 := by rw [List.drop_drop, List.length_append]; rfl
  rw [e]
  cases ht : textR ((s.drop x.length).drop 1) with
  | none => exact tok_none (head_bad h4 hp.2 ht)
  | some z =>
    obtain ⟨y, r⟩ := z
    have hh := head_yes h4 hp.2 ht
    dsimp only
    unfold tkp
    by_cases h2 : k = 2
    · rw [if_pos h2]
      rw [if_pos (.inr h2)] at hh
      exact tok_plain h1 hh
    · rw [if_neg h2]
      rw [if_neg (by omega)] at hh
      exact tok_plain h1 hh
theorem read_start {s : List UInt8} (hp : (wStart ++ [32]).isPrefixOf s = true) :
    readR s = match textR (s.drop (wStart ++ [32]).length) with
      | none => none
      | some (y, r) => match atsR r [] with
        | none => none
        | some (es, r2) => if (r2 = [] ∨ r2 = [32, 47]) ∧ mayR ⟨(1 : Nat), y, [], es, decide (r2 = [32, 47]), 0, 0, 0⟩ = true then some ⟨(1 : Nat), y, [], es, decide (r2 = [32, 47]), 0, 0, 0⟩ else none := by
  rw [pre_blank, Bool.and_eq_true, decide_eq_true_eq] at hp
  rw [read_at 1 wStart s rfl hp.1]
  have e : s.drop (wStart ++ [32]).length = (s.drop wStart.length).drop 1 := by rw [List.drop_drop, List.length_append]; rfl
  rw [e]
  cases ht : textR ((s.drop wStart.length).drop 1) with
  | none => exact tok_none (head_bad (by decide) hp.2 ht)
  | some z =>
    obtain ⟨y, r⟩ := z
    have hh := head_yes (k := 1) (by decide) hp.2 ht
    rw [if_pos (.inl rfl)] at hh
    unfold tokR
    rw [hh]
    rfl
theorem no10 {s r : List UInt8} (h : ∀ c ∈ s, c.toNat ≠ 10) (hr : r <:+ s) : ∀ c ∈ r, c.toNat ≠ 10 := fun c hc => h c (hr.subset hc)
def zerV : List Value := [int 0, str [], str [], .slice none 0 0, .bool false, int 0, int 0, int 0]
def okT (s rest : List UInt8) (ok : Bool) (t : Tok) : Prop := readR s = if (ok = true ∧ rest = []) ∧ mayR t = true then some t else none
def strF (s nm rest : List UInt8) (acc : List At) (ok : Bool) : Prop :=
  if ok = true then readR s = (match atsR rest acc with
        | none => none
        | some (es, r2) => if (r2 = [] ∨ r2 = [32, 47]) ∧ mayR ⟨(1 : Nat), nm, [], es, decide (r2 = [32, 47]), 0, 0, 0⟩ = true then some ⟨(1 : Nat), nm, [], es, decide (r2 = [32, 47]), 0, 0, 0⟩ else none)
  else readR s = none
theorem strF_end {s nm rest : List UInt8} {acc : List At} (h : strF s nm rest acc true) (h2 : ¬ rest.take 2 = [32, 34]) (h3 : rest ≠ []) (h4 : rest ≠ [32, 47]) : strF s nm rest acc false := by
  unfold strF at *
  rw [if_pos rfl, atsR_end h2] at h
  dsimp only at h
  rw [if_neg (by rintro ⟨h5 | h5, _⟩; exact h3 h5; exact h4 h5)] at h
  rw [if_neg (by simp)]
  exact h
theorem strF_bad {s nm rest : List UInt8} {acc : List At} (h : strF s nm rest acc true) (h2 : rest.take 2 = [32, 34]) (h3 : at1R rest = none) : strF s nm rest acc false := by
  unfold strF at *
  rw [if_pos rfl, atsR_bad h2 h3] at h
  rw [if_neg (by simp)]
  exact h
theorem strF_any {s nm nm' rest rest' : List UInt8} {acc acc' : List At} (h : strF s nm rest acc false) : strF s nm' rest' acc' false := h
theorem strF_yes {s nm rest r : List UInt8} {acc : List At} {a : At} (h : strF s nm rest acc true) (h2 : rest.take 2 = [32, 34]) (h3 : at1R rest = some (a, r)) : strF s nm r (acc ++ [a]) true := by
  unfold strF at *
  rw [if_pos rfl, atsR_yes h2 h3] at h
  rw [if_pos rfl]
  exact h
theorem take_two {r : List UInt8} (h1 : r.take 1 = [32]) {n r1 : List UInt8} (h2 : textR (r.drop 1) = some (n, r1)) : r.take 2 = [32, 34] := by
  match r, h1, h2 with
  | [], h1, _ => cases h1
  | [a], _, h2 => cases h2
  | a :: b :: l, h1, h2 =>
    have ha : a = 32 := by simpa using h1
    have hb : b.toNat = 34 := by
      by_cases hb : b.toNat = 34
      · exact hb
      · have h3 : textR (b :: l) = some (n, r1) := h2
        rw [textR, if_neg hb] at h3
        cases h3
    have hb' : b = 34 := UInt8.toNat_inj.1 hb
    subst ha hb'
    rfl
theorem str_none {s nm rest : List UInt8} {acc : List At} (h : strF s nm rest acc true) (h1 : rest.take 1 = [32]) (h2 : textR (rest.drop 1) = none) (h3 : rest ≠ []) (h4 : rest ≠ [32, 47]) : strF s nm rest acc false := by
  by_cases ht : rest.take 2 = [32, 34]
  · exact strF_bad h ht (by unfold at1R; rw [h2])
  · exact strF_end h ht h3 h4
theorem str_first {s nm rest : List UInt8} {acc : List At} (h : strF s nm rest acc true) (h1 : ¬ rest.take 1 = [32]) (h3 : rest ≠ []) (h4 : rest ≠ [32, 47]) : strF s nm rest acc false := by
  refine strF_end h (fun ht => h1 ?_) h3 h4
  have := congrArg (List.take 1) ht
  rw [List.take_take] at this
  exact this
theorem ats_more {w w' : World} {q' : Option Addr} {c' : Nat} {acc : List At} {a : At} {bT : Nat} {x y z : Value} {cs : List Plot}
    (hS : Sep w w' (pRow 2 q' (acc.length + 1) c' (acc.flatMap At.cells ++ [str a.n, str a.v]) :: pOwn bT [x, y, z, .slice q' (acc.length + 1) c', .bool false, int 0, int 0, int 0] :: cs)) :
    Sep w w' (pRow 2 q' (acc ++ [a]).length c' ((acc ++ [a]).flatMap At.cells) :: pOwn bT [x, y, z, .slice q' (acc ++ [a]).length c', .bool false, int 0, int 0, int 0] :: cs) := by
  have e1 : (acc ++ [a]).flatMap At.cells = acc.flatMap At.cells ++ [str a.n, str a.v] := by rw [List.flatMap_append]; rfl
  have e2 : (acc ++ [a]).length = acc.length + 1 := by rw [List.length_append]; rfl
  rw [e1, e2]
  exact hS
set_option maxHeartbeats 4000000 in
theorem refRead_ok (s : List UInt8) (hb : s.length ≤ 1048576) (hn : ∀ c ∈ s, c.toNat ≠ 10) (w : World) : CallsR Try.prog 41 #[str s] w fun v w' =>
    ∃ (m : TokM) (ok : Bool), v = .tuple #[.agg ⟨m.cells⟩, .bool ok] ∧ Sep w w' [pRow 2 m.p m.t.attrs.length m.c (m.t.attrs.flatMap At.cells)] ∧ (readR s = if ok = true then some m.t else none) := by
  have hS := Sep.start w
  have hcut := fun (r p : List UInt8) (h : r.length ≤ 1048576) (hp : p.length ≤ 10) w => refCut_ok r p h (by omega) w
  have hunq := fun (r : List UInt8) (h : r <:+ s) w => unquote_ok r (Nat.le_trans h.length_le hb) (no10 hn h) w
  refine enter (l := [str s]) Try.func41 rfl Try.ntmps41 (by kernel_rfl) rfl ?_
  refine sgo ?_
  refine salloc hS fun bR w1 hS => ?_
  refine sgo ?_
  refine salloc hS fun bT w2 hS => ?_
  replace hS : Sep w w2 (pOwn bT zerV :: pOwn bR zerV :: []) := hS
  refine sgo ?_
  by_cases hd : s = [100, 111, 99, 116, 121, 112, 101]
  · refine wcyes ?_ (ht := by simp [hd])
    have hrd : readR s = some ⟨(4 : Nat), [], [], [], false, 0, 0, 0⟩ := by
      rw [hd, read_at 4 wDoctype _ rfl rfl, tok_plain (r := []) (nm := []) (tx := []) (by decide) (by rfl)]
      exact if_pos ⟨rfl, rfl⟩
    refine sgo ?_
    refine wlbuild ?_
    refine ssta (vs := [int 4, str [], str [], .slice none 0 0, .bool false, int 0, int 0, int 0]) hS 1 fun w3 hS => ?_
    refine sgo ?_
    refine fp_ct (.inl rfl) rfl rfl rfl (hS.own 1 rfl) ?_
    exact ⟨⟨⟨(4 : Nat), [], [], [], false, 0, 0, 0⟩, none, 0⟩, true, rfl, ((hS.nilRow 2).drop 2).drop 1, hrd⟩
  refine wcno ?_ (ht := by simp [hd])
  refine sgo ?_
  refine wlpure (hcut s [116, 101, 120, 116, 32] hb (by decide) _) fun w3 hf3 => ?_
  replace hS := hS.grow hf3
  clear hf3
  refine sgo ?_
  refine wcutr (X := Tok × Option Addr × Nat × List UInt8 × Bool) (fun x => [(2, ptrAt (pb bR) 0), (4, ptrAt (pb bT) 0), (5, str x.2.2.2.1), (6, .bool x.2.2.2.2)])
    (fun x w' => okT s x.2.2.2.1 x.2.2.2.2 x.1 ∧ Tok.small x.1 ∧ Sep w w' (pRow 2 x.2.1 x.1.attrs.length x.2.2.1 (x.1.attrs.flatMap At.cells) :: pOwn bT (Tok.cells x.1 x.2.1 x.2.2.1) :: pOwn bR zerV :: [])) ?_ ?_
  · cases hp0 : ([116, 101, 120, 116, 32] : List UInt8).isPrefixOf s with
    | true =>
      simp only [hp0, if_true]
      have hrp : readR s = (match textR (s.drop ([116, 101, 120, 116, 32] : List UInt8).length) with | none => none | some (y, r) => if r = [] ∧ mayR (tkp 0 y) = true then some (tkp 0 y) else none) := read_plain (k := 0) (x := wText) rfl (by decide) (by decide) hp0
      have hsf : s.drop ([116, 101, 120, 116, 32] : List UInt8).length <:+ s := List.drop_suffix _ _
      generalize s.drop ([116, 101, 120, 116, 32] : List UInt8).length = r1 at *
      refine sgo ?_
      refine sst_int hS 0 fun w4 hS => ?_
      refine sgo ?_
      refine wlpure (hunq r1 hsf _) fun w5 hf5 => ?_
      replace hS := hS.grow hf5
      clear hf5
      have hrl := hsf.length_le
      cases ht : textR r1 with
      | none =>
        rw [ht] at hrp
        unfold unqV
        dsimp only
        refine sgo ?_
        refine sst_str hS 0 fun w6 hS => ?_
        refine sgo ?_
        refine ⟨(⟨(0 : Nat), [], [], [], false, 0, 0, 0⟩, none, 0, r1, false), ⟨rfl, rfl, rfl, rfl, trivial⟩, ?_, ⟨by simp, by simp, by simp, by simp⟩, hS.nilRow 2⟩
        unfold okT; rw [hrp]; simp
      | some z =>
        obtain ⟨y, r⟩ := z
        rw [ht] at hrp
        obtain ⟨_, _, hyl⟩ := textR_suf ht
        unfold unqV
        dsimp only at hrp ⊢
        refine sgo ?_
        refine sst_str hS 0 fun w6 hS => ?_
        refine sgo ?_
        refine ⟨(⟨(0 : Nat), [], y, [], false, 0, 0, 0⟩, none, 0, r, true), ⟨rfl, rfl, rfl, rfl, trivial⟩, ?_, ⟨by dsimp only; first | omega | simp, by dsimp only; first | omega | simp, by simp, by simp⟩, hS.nilRow 2⟩
        unfold okT; rw [hrp]; simp only [true_and]; rfl
    | false =>
      simp only [hp0, Bool.false_eq_true, if_false]
      refine sgo ?_
      refine wlpure (hcut s [99, 111, 109, 109, 101, 110, 116, 32] hb (by decide) _) fun w3 hf3 => ?_
      replace hS := hS.grow hf3
      clear hf3
      refine sgo ?_
      cases hp3 : ([99, 111, 109, 109, 101, 110, 116, 32] : List UInt8).isPrefixOf s with
      | true =>
        simp only [hp3, if_true]
        have hrp : readR s = (match textR (s.drop ([99, 111, 109, 109, 101, 110, 116, 32] : List UInt8).length) with | none => none | some (y, r) => if r = [] ∧ mayR (tkp 3 y) = true then some (tkp 3 y) else none) := read_plain (k := 3) (x := wComment) rfl (by decide) (by decide) hp3
        have hsf : s.drop ([99, 111, 109, 109, 101, 110, 116, 32] : List UInt8).length <:+ s := List.drop_suffix _ _
        generalize s.drop ([99, 111, 109, 109, 101, 110, 116, 32] : List UInt8).length = r1 at *
        refine sgo ?_
        refine sst_int hS 0 fun w4 hS => ?_
        refine sgo ?_
        refine wlpure (hunq r1 hsf _) fun w5 hf5 => ?_
        replace hS := hS.grow hf5
        clear hf5
        have hrl := hsf.length_le
        cases ht : textR r1 with
        | none =>
          rw [ht] at hrp
          unfold unqV
          dsimp only
          refine sgo ?_
          refine sst_str hS 0 fun w6 hS => ?_
          refine sgo ?_
          refine ⟨(⟨(3 : Nat), [], [], [], false, 0, 0, 0⟩, none, 0, r1, false), ⟨rfl, rfl, rfl, rfl, trivial⟩, ?_, ⟨by simp, by simp, by simp, by simp⟩, hS.nilRow 2⟩
          unfold okT; rw [hrp]; simp
        | some z =>
          obtain ⟨y, r⟩ := z
          rw [ht] at hrp
          obtain ⟨_, _, hyl⟩ := textR_suf ht
          unfold unqV
          dsimp only at hrp ⊢
          refine sgo ?_
          refine sst_str hS 0 fun w6 hS => ?_
          refine sgo ?_
          refine ⟨(⟨(3 : Nat), [], y, [], false, 0, 0, 0⟩, none, 0, r, true), ⟨rfl, rfl, rfl, rfl, trivial⟩, ?_, ⟨by dsimp only; first | omega | simp, by dsimp only; first | omega | simp, by simp, by simp⟩, hS.nilRow 2⟩
          unfold okT; rw [hrp]; simp only [true_and]; rfl
      | false =>
        simp only [hp3, Bool.false_eq_true, if_false]
        refine sgo ?_
        refine wlpure (hcut s [101, 110, 100, 32] hb (by decide) _) fun w3 hf3 => ?_
        replace hS := hS.grow hf3
        clear hf3
        refine sgo ?_
        cases hp2 : ([101, 110, 100, 32] : List UInt8).isPrefixOf s with
        | true =>
          simp only [hp2, if_true]
          have hrp : readR s = (match textR (s.drop ([101, 110, 100, 32] : List UInt8).length) with | none => none | some (y, r) => if r = [] ∧ mayR (tkp 2 y) = true then some (tkp 2 y) else none) := read_plain (k := 2) (x := wEnd) rfl (by decide) (by decide) hp2
          have hsf : s.drop ([101, 110, 100, 32] : List UInt8).length <:+ s := List.drop_suffix _ _
          generalize s.drop ([101, 110, 100, 32] : List UInt8).length = r1 at *
          refine sgo ?_
          refine sst_int hS 0 fun w4 hS => ?_
          refine sgo ?_
          refine wlpure (hunq r1 hsf _) fun w5 hf5 => ?_
          replace hS := hS.grow hf5
          clear hf5
          have hrl := hsf.length_le
          cases ht : textR r1 with
          | none =>
            rw [ht] at hrp
            unfold unqV
            dsimp only
            refine sgo ?_
            refine sst_str hS 0 fun w6 hS => ?_
            refine sgo ?_
            refine ⟨(⟨(2 : Nat), [], [], [], false, 0, 0, 0⟩, none, 0, r1, false), ⟨rfl, rfl, rfl, rfl, trivial⟩, ?_, ⟨by simp, by simp, by simp, by simp⟩, hS.nilRow 2⟩
            unfold okT; rw [hrp]; simp
          | some z =>
            obtain ⟨y, r⟩ := z
            rw [ht] at hrp
            obtain ⟨_, _, hyl⟩ := textR_suf ht
            unfold unqV
            dsimp only at hrp ⊢
            refine sgo ?_
            refine sst_str hS 0 fun w6 hS => ?_
            refine sgo ?_
            refine ⟨(⟨(2 : Nat), y, [], [], false, 0, 0, 0⟩, none, 0, r, true), ⟨rfl, rfl, rfl, rfl, trivial⟩, ?_, ⟨by dsimp only; first | omega | simp, by dsimp only; first | omega | simp, by simp, by simp⟩, hS.nilRow 2⟩
            unfold okT; rw [hrp]; simp only [true_and]; rfl
        | false =>
          simp only [hp2, Bool.false_eq_true, if_false]
          refine sgo ?_
          refine wlpure (hcut s [115, 116, 97, 114, 116, 32] hb (by decide) _) fun w3 hf3 => ?_
          replace hS := hS.grow hf3
          clear hf3
          refine sgo ?_
          cases hp1 : ([115, 116, 97, 114, 116, 32] : List UInt8).isPrefixOf s with
          | true =>
            simp only [hp1, if_true]
            have hrp := read_start hp1
            change readR s = (match textR (s.drop ([115, 116, 97, 114, 116, 32] : List UInt8).length) with | none => none | some (y, r) => match atsR r [] with | none => none | some (es, r2) => if (r2 = [] ∨ r2 = [32, 47]) ∧ mayR ⟨(1 : Nat), y, [], es, decide (r2 = [32, 47]), 0, 0, 0⟩ = true then some ⟨(1 : Nat), y, [], es, decide (r2 = [32, 47]), 0, 0, 0⟩ else none) at hrp
            have hsf : s.drop ([115, 116, 97, 114, 116, 32] : List UInt8).length <:+ s := List.drop_suffix _ _
            generalize s.drop ([115, 116, 97, 114, 116, 32] : List UInt8).length = r1 at *
            refine sgo ?_
            refine sst_int hS 0 fun w4 hS => ?_
            refine sgo ?_
            refine wlpure (hunq r1 hsf _) fun w5 hf5 => ?_
            replace hS := hS.grow hf5
            clear hf5
            have hrl := hsf.length_le
            obtain ⟨nm, rest0, ok0, hv, hF, hrs, hnl⟩ : ∃ nm rest ok, unqV r1 (textR r1) = .tuple #[str nm, str rest, .bool ok] ∧ strF s nm rest [] ok ∧ rest <:+ s ∧ nm.length ≤ s.length := by
              cases ht : textR r1 with
              | none => rw [ht] at hrp; exact ⟨[], r1, false, rfl, hrp, hsf, Nat.zero_le _⟩
              | some z =>
                obtain ⟨y, r⟩ := z
                rw [ht] at hrp
                obtain ⟨h1, _, hyl⟩ := textR_suf ht
                exact ⟨y, r, true, rfl, hrp, h1.trans hsf, by omega⟩
            rw [hv]
            clear hv hrp hrl
            refine sgo ?_
            refine sst_str hS 0 fun w6 hS => ?_
            replace hS : Sep w w6 (pRow 2 none 0 0 [] :: pOwn bT [int 1, str nm, str [], .slice none 0 0, .bool false, int 0, int 0, int 0] :: pOwn bR zerV :: []) := hS.nilRow 2
            refine sgo ?_
            refine wcloop (X := List At × Option Addr × Nat × List UInt8 × Bool) (fun x => [(2, ptrAt (pb bR) 0), (4, ptrAt (pb bT) 0), (5, str x.2.2.2.1), (6, .bool x.2.2.2.2)])
              (fun x wr => strF s nm x.2.2.2.1 x.1 x.2.2.2.2 ∧ x.2.2.2.1 <:+ s ∧ x.1.length + (if x.2.2.2.2 = true then x.2.2.2.1.length else 0) ≤ s.length ∧ (∀ a ∈ x.1, a.small) ∧
                Sep w wr (pRow 2 x.2.1 x.1.length x.2.2.1 (x.1.flatMap At.cells) :: pOwn bT [int 1, str nm, str [], .slice x.2.1 x.1.length x.2.2.1, .bool false, int 0, int 0, int 0] :: pOwn bR zerV :: []))
              (fun x => if x.2.2.2.2 = true then x.2.2.2.1.length + 1 else 0) ([], none, 0, rest0, ok0) ⟨rfl, rfl, rfl, rfl, trivial⟩ ⟨hF, hrs, by
                have := hrs.length_le
                dsimp only
                split <;> simp <;> omega, by simp, hS⟩ ?_
            clear hS hF hrs
            rintro ⟨acc, q, c, rest, ok⟩ w7 ρ ⟨hF, hrs, hlen, hsm, hS⟩
            dsimp only at hF hrs hlen hsm hS ⊢
            have hrl := hrs.length_le
            refine sgo ?_
            by_cases hin : ok = true ∧ rest ≠ [] ∧ rest ≠ [32, 47]
            · obtain ⟨rfl, hne1, hne2⟩ := hin
              refine wcyes ?_ (ht := by simp [pkb, hne1, hne2])
              rw [if_pos rfl] at hlen
              have hpos : 0 < rest.length := List.length_pos_iff.2 hne1
              refine sgo ?_
              refine salloc hS fun bA w8 hS => ?_
              refine sgo ?_
              refine wlpure (hcut rest [32] (by omega) (by decide) _) fun w9 hf9 => ?_
              replace hS : Sep w w9 (pOwn bA [str [], str []] :: pRow 2 q acc.length c (acc.flatMap At.cells) :: pOwn bT [int 1, str nm, str [], .slice q acc.length c, .bool false, int 0, int 0, int 0] :: pOwn bR zerV :: []) := hS.grow hf9
              clear hf9
              refine sgo ?_
              cases hq : ([32] : List UInt8).isPrefixOf rest with
              | false =>
                simp only [hq, Bool.false_eq_true, if_false]
                have h1 : ¬ rest.take 1 = [32] := pre_no hq
                replace hS : Sep w _ (pOwn bA [str [], str []] :: pRow 2 q acc.length c (acc.flatMap At.cells) :: pOwn bT [int 1, str nm, str [], .slice q acc.length c, .bool false, int 0, int 0, int 0] :: pOwn bR zerV :: []) := hS
                refine sgo ?_
                refine sb1a (vs := [str [], str []]) hS fun b3 w20 hS => ?_
                refine sgo ?_
                refine sapp hS 2 (hS.own 0 rfl).sg fun q' c' w21 hS => ?_
                refine sgo ?_
                refine sst_slice hS 3 fun w22 hS => ?_
                have hS' : Sep w w22 (pRow 2 q' (acc.length + 1) c' (acc.flatMap At.cells ++ [str [], str []]) :: pOwn bT [int 1, str nm, str [], .slice q' (acc.length + 1) c', .bool false, int 0, int 0, int 0] :: pOwn bR zerV :: []) := (hS.drop 1).drop 0
                replace hS' := ats_more (a := ⟨[], []⟩) hS'
                clear hS
                refine sgo ?_
                refine ⟨(acc ++ [⟨[], []⟩], q', c', rest, false), ⟨rfl, rfl, rfl, rfl, trivial⟩, ⟨strF_any (str_first hF h1 hne1 hne2), hrs, ?_, ?_, hS'⟩, ?_⟩
                · simp only [List.length_append, List.length_singleton, Bool.false_eq_true, if_false, if_true]; omega
                · intro a ha
                  rcases List.mem_append.1 ha with ha | ha
                  · exact hsm a ha
                  · rw [List.mem_singleton.1 ha]; exact ⟨by dsimp only; first | omega | simp, by dsimp only; first | omega | simp⟩
                · simp only [Bool.false_eq_true, if_false, if_true]; omega
              | true =>
                simp only [hq, if_true]
                have h1 : rest.take 1 = [32] := pre_yes hq
                have hs1 : rest.drop ([32] : List UInt8).length <:+ s := (List.drop_suffix _ _).trans hrs
                obtain ⟨R1, hR1⟩ : ∃ R1, rest.drop ([32] : List UInt8).length = R1 := ⟨_, rfl⟩
                have hR2 : rest.drop 1 = R1 := hR1
                have hR3 : R1.length = rest.length - 1 := by rw [← hR2, List.length_drop]
                rw [hR1] at hs1
                simp only [hR1]
                refine sgo ?_
                refine wlpure (hunq R1 hs1 _) fun w10 hf10 => ?_
                replace hS := hS.grow hf10
                clear hf10
                cases ht : textR R1 with
                | none =>
                  unfold unqV
                  dsimp only
                  refine sgo ?_
                  refine sst_str hS 0 fun w11 hS => ?_
                  refine sgo ?_
                  replace hS : Sep w _ (pOwn bA [str [], str []] :: pRow 2 q acc.length c (acc.flatMap At.cells) :: pOwn bT [int 1, str nm, str [], .slice q acc.length c, .bool false, int 0, int 0, int 0] :: pOwn bR zerV :: []) := hS
                  refine sgo ?_
                  refine sb1a (vs := [str [], str []]) hS fun b3 w20 hS => ?_
                  refine sgo ?_
                  refine sapp hS 2 (hS.own 0 rfl).sg fun q' c' w21 hS => ?_
                  refine sgo ?_
                  refine sst_slice hS 3 fun w22 hS => ?_
                  have hS' : Sep w w22 (pRow 2 q' (acc.length + 1) c' (acc.flatMap At.cells ++ [str [], str []]) :: pOwn bT [int 1, str nm, str [], .slice q' (acc.length + 1) c', .bool false, int 0, int 0, int 0] :: pOwn bR zerV :: []) := (hS.drop 1).drop 0
                  replace hS' := ats_more (a := ⟨[], []⟩) hS'
                  clear hS
                  refine sgo ?_
                  refine ⟨(acc ++ [⟨[], []⟩], q', c', R1, false), ⟨rfl, rfl, rfl, rfl, trivial⟩, ⟨strF_any (str_none hF h1 (by rw [hR2]; exact ht) hne1 hne2), hs1, ?_, ?_, hS'⟩, ?_⟩
                  · simp only [List.length_append, List.length_singleton, Bool.false_eq_true, if_false, if_true]; omega
                  · intro a ha
                    rcases List.mem_append.1 ha with ha | ha
                    · exact hsm a ha
                    · rw [List.mem_singleton.1 ha]; exact ⟨by dsimp only; first | omega | simp, by dsimp only; first | omega | simp⟩
                  · simp only [Bool.false_eq_true, if_false, if_true]; omega
                | some z =>
                  obtain ⟨n, r2⟩ := z
                  have ht' : textR (rest.drop 1) = some (n, r2) := by rw [hR2]; exact ht
                  have h2 := take_two h1 ht'
                  obtain ⟨hsu, _, hnl2⟩ := textR_suf ht
                  have hs2 := hsu.trans hs1
                  unfold unqV
                  dsimp only
                  refine sgo ?_
                  refine sst_str hS 0 fun w11 hS => ?_
                  refine sgo ?_
                  refine wlpure (hcut r2 [61] (by omega) (by decide) _) fun w12 hf12 => ?_
                  replace hS := hS.grow hf12
                  clear hf12
                  refine sgo ?_
                  cases hq2 : ([61] : List UInt8).isPrefixOf r2 with
                  | false =>
                    simp only [hq2, Bool.false_eq_true, if_false]
                    replace hS : Sep w _ (pOwn bA [str n, str []] :: pRow 2 q acc.length c (acc.flatMap At.cells) :: pOwn bT [int 1, str nm, str [], .slice q acc.length c, .bool false, int 0, int 0, int 0] :: pOwn bR zerV :: []) := hS
                    refine sgo ?_
                    refine sb1a (vs := [str n, str []]) hS fun b3 w20 hS => ?_
                    refine sgo ?_
                    refine sapp hS 2 (hS.own 0 rfl).sg fun q' c' w21 hS => ?_
                    refine sgo ?_
                    refine sst_slice hS 3 fun w22 hS => ?_
                    have hS' : Sep w w22 (pRow 2 q' (acc.length + 1) c' (acc.flatMap At.cells ++ [str n, str []]) :: pOwn bT [int 1, str nm, str [], .slice q' (acc.length + 1) c', .bool false, int 0, int 0, int 0] :: pOwn bR zerV :: []) := (hS.drop 1).drop 0
                    replace hS' := ats_more (a := ⟨n, []⟩) hS'
                    clear hS
                    refine sgo ?_
                    refine ⟨(acc ++ [⟨n, []⟩], q', c', r2, false), ⟨rfl, rfl, rfl, rfl, trivial⟩, ⟨strF_any (strF_bad hF h2 (at1_eq ht' (pre_no hq2))), hs2, ?_, ?_, hS'⟩, ?_⟩
                    · simp only [List.length_append, List.length_singleton, Bool.false_eq_true, if_false, if_true]; omega
                    · intro a ha
                      rcases List.mem_append.1 ha with ha | ha
                      · exact hsm a ha
                      · rw [List.mem_singleton.1 ha]; exact ⟨by dsimp only; first | omega | simp, by dsimp only; first | omega | simp⟩
                    · simp only [Bool.false_eq_true, if_false, if_true]; omega
                  | true =>
                    simp only [hq2, if_true]
                    have h3 : r2.take 1 = [61] := pre_yes hq2
                    have hs3 : r2.drop ([61] : List UInt8).length <:+ s := (List.drop_suffix _ _).trans hs2
                    obtain ⟨R4, hR4⟩ : ∃ R4, r2.drop ([61] : List UInt8).length = R4 := ⟨_, rfl⟩
                    have hR5 : r2.drop 1 = R4 := hR4
                    have hR6 : R4.length = r2.length - 1 := by rw [← hR5, List.length_drop]
                    rw [hR4] at hs3
                    simp only [hR4]
                    refine sgo ?_
                    refine wlpure (hunq R4 hs3 _) fun w13 hf13 => ?_
                    replace hS := hS.grow hf13
                    clear hf13
                    cases ht2 : textR R4 with
                    | none =>
                      unfold unqV
                      dsimp only
                      refine sgo ?_
                      refine sst_str hS 0 fun w14 hS => ?_
                      refine sgo ?_
                      replace hS : Sep w _ (pOwn bA [str n, str []] :: pRow 2 q acc.length c (acc.flatMap At.cells) :: pOwn bT [int 1, str nm, str [], .slice q acc.length c, .bool false, int 0, int 0, int 0] :: pOwn bR zerV :: []) := hS
                      refine sgo ?_
                      refine sb1a (vs := [str n, str []]) hS fun b3 w20 hS => ?_
                      refine sgo ?_
                      refine sapp hS 2 (hS.own 0 rfl).sg fun q' c' w21 hS => ?_
                      refine sgo ?_
                      refine sst_slice hS 3 fun w22 hS => ?_
                      have hS' : Sep w w22 (pRow 2 q' (acc.length + 1) c' (acc.flatMap At.cells ++ [str n, str []]) :: pOwn bT [int 1, str nm, str [], .slice q' (acc.length + 1) c', .bool false, int 0, int 0, int 0] :: pOwn bR zerV :: []) := (hS.drop 1).drop 0
                      replace hS' := ats_more (a := ⟨n, []⟩) hS'
                      clear hS
                      refine sgo ?_
                      refine ⟨(acc ++ [⟨n, []⟩], q', c', R4, false), ⟨rfl, rfl, rfl, rfl, trivial⟩, ⟨strF_any (strF_bad hF h2 (at1_val ht' h3 (by rw [hR5]; exact ht2))), hs3, ?_, ?_, hS'⟩, ?_⟩
                      · simp only [List.length_append, List.length_singleton, Bool.false_eq_true, if_false, if_true]; omega
                      · intro a ha
                        rcases List.mem_append.1 ha with ha | ha
                        · exact hsm a ha
                        · rw [List.mem_singleton.1 ha]; exact ⟨by dsimp only; first | omega | simp, by dsimp only; first | omega | simp⟩
                      · simp only [Bool.false_eq_true, if_false, if_true]; omega
                    | some z =>
                      obtain ⟨v, r4⟩ := z
                      obtain ⟨hsu4, _, hvl⟩ := textR_suf ht2
                      have hs4 := hsu4.trans hs3
                      unfold unqV
                      dsimp only
                      refine sgo ?_
                      refine sst_str hS 0 fun w14 hS => ?_
                      refine sgo ?_
                      replace hS : Sep w _ (pOwn bA [str n, str v] :: pRow 2 q acc.length c (acc.flatMap At.cells) :: pOwn bT [int 1, str nm, str [], .slice q acc.length c, .bool false, int 0, int 0, int 0] :: pOwn bR zerV :: []) := hS
                      refine sgo ?_
                      refine sb1a (vs := [str n, str v]) hS fun b3 w20 hS => ?_
                      refine sgo ?_
                      refine sapp hS 2 (hS.own 0 rfl).sg fun q' c' w21 hS => ?_
                      refine sgo ?_
                      refine sst_slice hS 3 fun w22 hS => ?_
                      have hS' : Sep w w22 (pRow 2 q' (acc.length + 1) c' (acc.flatMap At.cells ++ [str n, str v]) :: pOwn bT [int 1, str nm, str [], .slice q' (acc.length + 1) c', .bool false, int 0, int 0, int 0] :: pOwn bR zerV :: []) := (hS.drop 1).drop 0
                      replace hS' := ats_more (a := ⟨n, v⟩) hS'
                      clear hS
                      refine sgo ?_
                      refine ⟨(acc ++ [⟨n, v⟩], q', c', r4, true), ⟨rfl, rfl, rfl, rfl, trivial⟩, ⟨strF_yes hF h2 (at1_all ht' h3 (by rw [hR5]; exact ht2)), hs4, ?_, ?_, hS'⟩, ?_⟩
                      · simp only [List.length_append, List.length_singleton, Bool.false_eq_true, if_false, if_true]; omega
                      · intro a ha
                        rcases List.mem_append.1 ha with ha | ha
                        · exact hsm a ha
                        · rw [List.mem_singleton.1 ha]; exact ⟨by dsimp only; first | omega | simp, by dsimp only; first | omega | simp⟩
                      · simp only [Bool.false_eq_true, if_false, if_true]; omega
            · refine wcno ?_ (ht := by
                cases ok with
                | false => simp [pkb]
                | true =>
                  by_cases h1 : rest = []
                  · simp [pkb, h1]
                  · by_cases h2 : rest = [32, 47]
                    · simp [pkb, h2]
                    · exact absurd ⟨rfl, h1, h2⟩ hin)
              refine sgo ?_
              have hst : ∀ sf : Bool, Tok.small ⟨(1 : Nat), nm, [], acc, sf, 0, 0, 0⟩ := fun sf => ⟨by dsimp only; omega, by simp, by dsimp only; omega, hsm⟩
              cases ok with
              | false =>
                refine wcno ?_ (ht := rfl)
                refine sgo ?_
                refine ⟨(⟨(1 : Nat), nm, [], acc, false, 0, 0, 0⟩, q, c, rest, false), ⟨rfl, rfl, rfl, rfl, trivial⟩, ?_, hst _, hS⟩
                have hF' : readR s = none := hF
                unfold okT; rw [hF']; simp
              | true =>
                have hF' : readR s = (match atsR rest acc with
                      | none => none
                      | some (es, r2) => if (r2 = [] ∨ r2 = [32, 47]) ∧ mayR ⟨(1 : Nat), nm, [], es, decide (r2 = [32, 47]), 0, 0, 0⟩ = true then some ⟨(1 : Nat), nm, [], es, decide (r2 = [32, 47]), 0, 0, 0⟩ else none) := hF
                by_cases h2 : rest = [32, 47]
                · subst h2
                  refine wcyes ?_ (ht := by rfl)
                  rw [atsR_end (by decide)] at hF'
                  dsimp only at hF'
                  refine sgo ?_
                  refine sst_bool hS 1 fun w8 hS => ?_
                  refine sgo ?_
                  refine ⟨(⟨(1 : Nat), nm, [], acc, true, 0, 0, 0⟩, q, c, [], true), ⟨rfl, rfl, rfl, rfl, trivial⟩, ?_, hst _, hS⟩
                  unfold okT; rw [hF']; simp
                · have h1 : rest = [] := by
                    by_cases h1 : rest = []
                    · exact h1
                    · exact absurd ⟨rfl, h1, h2⟩ hin
                  subst h1
                  refine wcno ?_ (ht := by rfl)
                  rw [atsR_end (by decide)] at hF'
                  dsimp only at hF'
                  refine sgo ?_
                  refine ⟨(⟨(1 : Nat), nm, [], acc, false, 0, 0, 0⟩, q, c, [], true), ⟨rfl, rfl, rfl, rfl, trivial⟩, ?_, hst _, hS⟩
                  unfold okT; rw [hF']; simp
          | false =>
            simp only [hp1, Bool.false_eq_true, if_false]
            refine sgo ?_
            refine ⟨(⟨(0 : Nat), [], [], [], false, 0, 0, 0⟩, none, 0, s, false), ⟨rfl, rfl, rfl, rfl, trivial⟩, ?_, ⟨by simp, by simp, by simp, by simp⟩, hS.nilRow 2⟩
            unfold okT; rw [read_left hd hp0 hp3 hp2 hp1]; simp
  clear hS hcut hunq
  rintro ⟨t, q, c, rest, ok⟩ w4 ρ ⟨hok, hsm, hS⟩
  dsimp only at hok hsm hS ⊢
  refine sgo ?_
  refine wcdraws (fun L w' => Sep w w' (pRow 2 q t.attrs.length c (t.attrs.flatMap At.cells) :: pOwn bT (Tok.cells t q c) :: pOwn bR (bif L 10 then Tok.cells t q c else zerV) :: [])) (fun wd hwd => hS.grow hwd) ?_
  refine qs_loada (i := 0) (fun _ => Tok.cells t q c) (Tok.cells t q c) ?_ (fun L w h => (h.own 1 rfl).sg) (hv := fun L hu => ⟨rfl, Nat.le_of_ble_eq_true rfl⟩)
  (repeat (first | refine qs_fld ?_ | refine qsp ?_ | refine qs_slc ?_ | refine qs_bin ?_ | refine qs_idx ?_ | refine qs_len ?_ | refine qs_cnv ?_ | refine qs_idxa ?_ | refine qs_nilc ?_ | refine qs_una ?_))
  unfold okT at hok
  cases ok with
  | false =>
    refine qs_gno (str []) ?_
    refine qs_gno (.bool true) ?_
    refine qsp ?_ (hn := rfl)
    (repeat (first | refine qs_fld ?_ | refine qsp ?_ | refine qs_slc ?_ | refine qs_bin ?_ | refine qs_idx ?_ | refine qs_len ?_ | refine qs_cnv ?_ | refine qs_idxa ?_ | refine qs_nilc ?_ | refine qs_una ?_))
    refine qs_gno (.agg ⟨Tok.cells t q c⟩) ?_
    refine qs_gno (.bool true) ?_
    refine qsp ?_ (hn := rfl)
    (repeat (first | refine qs_fld ?_ | refine qsp ?_ | refine qs_slc ?_ | refine qs_bin ?_ | refine qs_idx ?_ | refine qs_len ?_ | refine qs_cnv ?_ | refine qs_idxa ?_ | refine qs_nilc ?_ | refine qs_una ?_))
    refine qs_st (i := 0) (u := .agg ⟨Tok.cells t q c⟩) (fun L => bif L 10 then Tok.cells t q c else zerV) (fun L w h => h.own 2 rfl) (fun L w w' hu h ho hl => ?_) ?_ (hk := by intro L; cases L 10 <;> rfl)
    · have h2 := h.upd (c' := pOwn bR (Tok.cells t q c)) 2 rfl (lm_own hl) (by
        have e : ((bif L 10 then Tok.cells t q c else zerV).take 0 ++ (Value.agg ⟨Tok.cells t q c⟩).cells.toList ++ (bif L 10 then Tok.cells t q c else zerV).drop (0 + 8)) = Tok.cells t q c := by cases L 10 <;> rfl
        rw [e] at ho
        exact ho)
      exact h2
    (repeat (first | refine qs_fld ?_ | refine qsp ?_ | refine qs_slc ?_ | refine qs_bin ?_ | refine qs_idx ?_ | refine qs_len ?_ | refine qs_cnv ?_ | refine qs_idxa ?_ | refine qs_nilc ?_ | refine qs_una ?_))
    refine qs_nil ?_
    intro L w5 hL hS
    replace hS : Sep w w5 (pRow 2 q t.attrs.length c (t.attrs.flatMap At.cells) :: pOwn bT (Tok.cells t q c) :: pOwn bR (bif L 10 then Tok.cells t q c else zerV) :: []) := hS
    rw [hL 10 (by decide), cond_true] at hS
    refine thn_normal ?_
    refine sgo ?_
    refine fp_ct (.inl rfl) rfl rfl rfl (hS.own 2 rfl) ?_
    exact ⟨⟨t, q, c⟩, false, rfl, (hS.drop 2).drop 1, by rw [hok]; simp⟩
  | true =>
    refine qs_gpure ?_
    refine qs_gpure ?_
    (repeat (first | refine qs_fld ?_ | refine qsp ?_ | refine qs_slc ?_ | refine qs_bin ?_ | refine qs_idx ?_ | refine qs_len ?_ | refine qs_cnv ?_ | refine qs_idxa ?_ | refine qs_nilc ?_ | refine qs_una ?_))
    by_cases hr : rest = []
    · subst hr
      refine qs_gyes (v := .agg ⟨Tok.cells t q c⟩) ?_ (fun L w hu hs => by
        exact y_loada (i := 0) (l := Tok.cells t q c) (p := pb bT) rfl ((hs.own 1 rfl).sg) (show 0 + 8 ≤ (Tok.cells t q c).length from Nat.le_of_ble_eq_true rfl) ⟨_, rfl⟩)
      refine qs_gcall (vals := [.agg ⟨Tok.cells t q c⟩]) (v := .bool (mayR t)) (fun L w hs => may_ok t q c hsm w (hs.im 0 rfl)) ?_ (fun L w w' hs hf => hs.grow hf)
      refine qsp ?_ (hn := rfl)
      (repeat (first | refine qs_fld ?_ | refine qsp ?_ | refine qs_slc ?_ | refine qs_bin ?_ | refine qs_idx ?_ | refine qs_len ?_ | refine qs_cnv ?_ | refine qs_idxa ?_ | refine qs_nilc ?_ | refine qs_una ?_))
      refine qs_st (i := 0) (u := .agg ⟨Tok.cells t q c⟩) (fun L => bif L 10 then Tok.cells t q c else zerV) (fun L w h => h.own 2 rfl) (fun L w w' hu h ho hl => ?_) ?_ (hk := by intro L; cases L 10 <;> rfl)
      · have h2 := h.upd (c' := pOwn bR (Tok.cells t q c)) 2 rfl (lm_own hl) (by
          have e : ((bif L 10 then Tok.cells t q c else zerV).take 0 ++ (Value.agg ⟨Tok.cells t q c⟩).cells.toList ++ (bif L 10 then Tok.cells t q c else zerV).drop (0 + 8)) = Tok.cells t q c := by cases L 10 <;> rfl
          rw [e] at ho
          exact ho)
        exact h2
      (repeat (first | refine qs_fld ?_ | refine qsp ?_ | refine qs_slc ?_ | refine qs_bin ?_ | refine qs_idx ?_ | refine qs_len ?_ | refine qs_cnv ?_ | refine qs_idxa ?_ | refine qs_nilc ?_ | refine qs_una ?_))
      refine qs_nil ?_
      intro L w5 hL hS
      replace hS : Sep w w5 (pRow 2 q t.attrs.length c (t.attrs.flatMap At.cells) :: pOwn bT (Tok.cells t q c) :: pOwn bR (bif L 10 then Tok.cells t q c else zerV) :: []) := hS
      rw [hL 10 (by decide), cond_true] at hS
      refine thn_normal ?_
      refine sgo ?_
      refine fp_ct (.inl rfl) rfl rfl rfl (hS.own 2 rfl) ?_
      exact ⟨⟨t, q, c⟩, mayR t, rfl, (hS.drop 2).drop 1, by rw [hok]; simp⟩
    · have hdr : decide (rest = []) = false := decide_eq_false hr
      simp only [hdr]
      refine qs_gno (.agg ⟨Tok.cells t q c⟩) ?_
      refine qs_gno (.bool true) ?_
      refine qsp ?_ (hn := rfl)
      (repeat (first | refine qs_fld ?_ | refine qsp ?_ | refine qs_slc ?_ | refine qs_bin ?_ | refine qs_idx ?_ | refine qs_len ?_ | refine qs_cnv ?_ | refine qs_idxa ?_ | refine qs_nilc ?_ | refine qs_una ?_))
      refine qs_st (i := 0) (u := .agg ⟨Tok.cells t q c⟩) (fun L => bif L 10 then Tok.cells t q c else zerV) (fun L w h => h.own 2 rfl) (fun L w w' hu h ho hl => ?_) ?_ (hk := by intro L; cases L 10 <;> rfl)
      · have h2 := h.upd (c' := pOwn bR (Tok.cells t q c)) 2 rfl (lm_own hl) (by
          have e : ((bif L 10 then Tok.cells t q c else zerV).take 0 ++ (Value.agg ⟨Tok.cells t q c⟩).cells.toList ++ (bif L 10 then Tok.cells t q c else zerV).drop (0 + 8)) = Tok.cells t q c := by cases L 10 <;> rfl
          rw [e] at ho
          exact ho)
        exact h2
      (repeat (first | refine qs_fld ?_ | refine qsp ?_ | refine qs_slc ?_ | refine qs_bin ?_ | refine qs_idx ?_ | refine qs_len ?_ | refine qs_cnv ?_ | refine qs_idxa ?_ | refine qs_nilc ?_ | refine qs_una ?_))
      refine qs_nil ?_
      intro L w5 hL hS
      replace hS : Sep w w5 (pRow 2 q t.attrs.length c (t.attrs.flatMap At.cells) :: pOwn bT (Tok.cells t q c) :: pOwn bR (bif L 10 then Tok.cells t q c else zerV) :: []) := hS
      rw [hL 10 (by decide), cond_true] at hS
      refine thn_normal ?_
      refine sgo ?_
      refine fp_ct (.inl rfl) rfl rfl rfl (hS.own 2 rfl) ?_
      exact ⟨⟨t, q, c⟩, false, rfl, (hS.drop 2).drop 1, by rw [hok]; simp [hr]⟩
end Go.Proofs.Ytfomfplddncakaa

/-
  Package sieveref07: Lines.
-/
set_option linter.unusedSimpArgs false
set_option linter.unusedVariables false
set_option linter.unnecessarySimpa false
namespace Go.Proofs.Ytfomfplddncakaa
open Go Go.Sv Go.RowKit

def strV (l : List (List UInt8)) : List Value := l.map fun x => str x
theorem strV_len (l : List (List UInt8)) : (strV l).length = l.length := by simp [strV]
theorem strV_snoc (l : List (List UInt8)) (x : List UInt8) : strV l ++ [str x] = strV (l ++ [x]) := by simp [strV]
theorem linesG_len : ∀ (l cur : List UInt8), (linesG l cur).length ≤ l.length + 1
  | [], cur => by unfold linesG; split <;> simp
  | c :: l, cur => by
    have h1 := linesG_len l []
    have h2 := linesG_len l (cur ++ [c])
    rw [show linesG (c :: l) cur = if c.toNat = 10 then cur :: linesG l [] else linesG l (cur ++ [c]) from rfl]
    split <;> simp only [List.length_cons] <;> omega
def curR (s : List UInt8) (f i : Nat) : List UInt8 := (s.drop f).take (i - f)
theorem cur_step {s : List UInt8} {f i : Nat} {c : UInt8} (hf : f ≤ i) (h : s[i]? = some c) : curR s f (i + 1) = curR s f i ++ [c] := by
  unfold curR
  rw [show i + 1 - f = (i - f) + 1 from by omega, List.take_add_one]
  congr 1
  rw [List.getElem?_drop, show f + (i - f) = i from by omega, h]
  rfl
set_option maxHeartbeats 1000000 in
theorem refLines_ok (s : List UInt8) (hb : s.length ≤ 1048576) (w : World) :
    CallsR Try.prog 40 #[str s] w fun v w' => ∃ q c, v = .slice q (linesR s).length c ∧ Sep w w' [pRow 1 q (linesR s).length c (strV (linesR s))] := by
  have hS := (Sep.start w).nilRow 1
  obtain ⟨R, hR⟩ : ∃ R, linesR s = R := ⟨_, rfl⟩
  rw [hR]
  unfold linesR at hR
  refine enter (l := [str s]) Try.func40 rfl Try.ntmps40 (by kernel_rfl) rfl ?_
  refine sgo ?_
  refine wcloop (X := Nat × Nat × Option Addr × Nat × List (List UInt8)) (fun x => [(0, str s), (3, .slice x.2.2.1 x.2.2.2.2.length x.2.2.2.1), (4, int x.2.1), (5, int x.1)])
    (fun x wr => x.2.1 ≤ x.1 ∧ x.1 ≤ s.length ∧ x.2.2.2.2.length ≤ x.1 ∧ x.2.2.2.2 ++ linesG (s.drop x.1) (curR s x.2.1 x.1) = R ∧ Sep w wr [pRow 1 x.2.2.1 x.2.2.2.2.length x.2.2.2.1 (strV x.2.2.2.2)])
    (fun x => s.length - x.1) (0, 0, none, 0, []) ⟨rfl, rfl, rfl, rfl, trivial⟩ ⟨Nat.le_refl _, Nat.zero_le _, Nat.zero_le _, by simpa [curR] using hR, hS⟩ ?_
  clear hS hR
  rintro ⟨i, f, q, c, l⟩ wr ρ ⟨hfi, hil, hll, hP, hS⟩
  dsimp only at hfi hil hll hP hS ⊢
  refine sgo ?_
  (show WC _ _ _ _ _ _ _; first | refine WC_dec rfl (fun hc => ?_) (fun hc => ?_) | refine WC_cond rfl (fun hc => ?_) (fun hc => ?_))
  · have hlt : i < s.length := by omega
    clear hc
    obtain ⟨ch, hx⟩ : ∃ c, s[i]? = some c := ⟨_, List.getElem?_eq_getElem hlt⟩
    rw [show s.drop i = ch :: s.drop (i + 1) from drop_at hx, show linesG (ch :: s.drop (i + 1)) (curR s f i) = if ch.toNat = 10 then curR s f i :: linesG (s.drop (i + 1)) [] else linesG (s.drop (i + 1)) (curR s f i ++ [ch]) from rfl] at hP
    refine sgo ?_
    have hg : s[i]?.getD 0 = ch := by rw [hx]; rfl
    simp only [hg]
    clear hg
    (show WC _ _ _ _ _ _ _; first | refine WC_dec rfl (fun hc => ?_) (fun hc => ?_) | refine WC_cond rfl (fun hc => ?_) (fun hc => ?_))
    · have h10 : ch.toNat = 10 := by omega
      clear hc
      rw [if_pos h10] at hP
      refine sgo ?_
      refine sb1s hS fun b2 w2 hS => ?_
      refine sgo ?_
      refine sapp hS 1 (hS.own 0 rfl).sg fun q' c' w3 hS => ?_
      refine sgo ?_
      replace hS : Sep w w3 [pRow 1 q' (l.length + 1) c' (strV l ++ [str (curR s f i)])] := hS.tail
      rw [strV_snoc] at hS
      have e : (l ++ [curR s f i]).length = l.length + 1 := by rw [List.length_append]; rfl
      rw [← e] at hS
      have e0 : curR s (i + 1) (i + 1) = [] := by simp [curR]
      refine ⟨(i + 1, i + 1, q', c', l ++ [curR s f i]), ⟨rfl, ?_, rfl, rfl, trivial⟩, ⟨Nat.le_refl _, by dsimp only; omega, by dsimp only; omega, ?_, hS⟩, by dsimp only; omega⟩
      · dsimp only
        rw [e]
        rfl
      · dsimp only
        rw [e0, List.append_assoc]
        exact hP
    · have h10 : ¬ ch.toNat = 10 := by omega
      clear hc
      rw [if_neg h10, ← cur_step hfi hx] at hP
      refine sgo ?_
      exact ⟨(i + 1, f, q, c, l), ⟨rfl, rfl, rfl, rfl, trivial⟩, ⟨by dsimp only; omega, by dsimp only; omega, by dsimp only; omega, hP, hS⟩, by dsimp only; omega⟩
  · have hio : i = s.length := by omega
    clear hc
    subst hio
    rw [List.drop_length] at hP
    refine sgo ?_
    by_cases hfl : f < s.length
    · refine wcyes ?_ (ht := by simp [hfl])
      refine sgo ?_
      refine sb1s hS fun b2 w2 hS => ?_
      refine sgo ?_
      refine sapp hS 1 (hS.own 0 rfl).sg fun q' c' w3 hS => ?_
      replace hS := hS.tail
      have hcur : curR s f s.length = s.drop f := by
        unfold curR
        exact List.take_of_length_le (by rw [List.length_drop]; omega)
      have hne : ¬ s.drop f = [] := fun h => by
        have := congrArg List.length h
        rw [List.length_drop] at this
        simp at this
        omega
      rw [hcur, show linesG [] (s.drop f) = if s.drop f = [] then [] else [s.drop f] from rfl, if_neg hne] at hP
      subst hP
      have e : (l ++ [s.drop f]).length = l.length + 1 := by rw [List.length_append]; rfl
      rw [strV_snoc] at hS
      refine sgo ?_
      (first | refine fp1 (.inl rfl) rfl rfl ?_ | refine fp2 (.inl rfl) rfl rfl rfl ?_ | refine fp3 (.inl rfl) rfl rfl rfl rfl ?_ | refine fp0 (.inr rfl) rfl ?_ | refine fp0 (.inl rfl) rfl ?_ | refine fp1 (.inr rfl) rfl rfl ?_)
      rw [e]
      exact ⟨q', c', rfl, hS⟩
    · refine wcno ?_ (ht := by simp; omega)
      refine sgo ?_
      have hcur : curR s f s.length = [] := by
        unfold curR
        rw [List.drop_eq_nil_of_le (by omega)]
        exact List.take_nil
      rw [hcur, show linesG [] ([] : List UInt8) = [] from rfl, List.append_nil] at hP
      subst hP
      (first | refine fp1 (.inl rfl) rfl rfl ?_ | refine fp2 (.inl rfl) rfl rfl rfl ?_ | refine fp3 (.inl rfl) rfl rfl rfl rfl ?_ | refine fp0 (.inr rfl) rfl ?_ | refine fp0 (.inl rfl) rfl ?_ | refine fp1 (.inr rfl) rfl rfl ?_)
      exact ⟨q, c, rfl, hS⟩
end Go.Proofs.Ytfomfplddncakaa

/-
  Interface values compared with nil; type assertions that hold.
-/
set_option linter.unusedSimpArgs false
set_option linter.unusedVariables false
set_option linter.unnecessarySimpa false
namespace Go.Sv
open Go Go.RowKit
section
variable {P : Program} {σ : Env} {w : World} {d : Option Tmp} {ty t t' T xt : TypeId} {pos : String} {af : Array Edge} {g : Option (Nat × Bool)} {x y : Operand} {v : Value}
theorem y_inn0 {desc : TypeDesc} (hu : P.underlying t = some desc) (hd : (match desc with | .interface _ => true | _ => false) = true) (hx : evl σ x = .nilIface) : Y P σ ⟨d, .binOp .neq t x (.const .nilIface) t', ty, pos, af, g⟩ w (.bool false) w := by
  refine Y.val ?_
  have h : ∀ k : Nat, (Op.equalIn (k + 1) t .nilIface .nilIface).run P w = .ok true w := fun k => by
    cases desc <;> first | (cases hd; done) | simp [Op.equalIn, run_underlying hu]
  have he : evl σ (.const .nilIface) = .nilIface := rfl
  simp only [execOp, hx, he]
  simp [eqGuard, binOp, Op.equal, Op.maxDepth, h 9999]
theorem y_inn1 {desc : TypeDesc} (hu : P.underlying t = some desc) (hd : (match desc with | .interface _ => true | _ => false) = true) (hx : evl σ x = .iface T v) : Y P σ ⟨d, .binOp .neq t x (.const .nilIface) t', ty, pos, af, g⟩ w (.bool true) w := by
  refine Y.val ?_
  have h : ∀ k : Nat, (Op.equalIn (k + 1) t (.iface T v) .nilIface).run P w = .ok false w := fun k => by
    cases desc <;> first | (cases hd; done) | simp [Op.equalIn, run_underlying hu]
  have he : evl σ (.const .nilIface) = .nilIface := rfl
  simp only [execOp, hx, he]
  simp [eqGuard, binOp, Op.equal, Op.maxDepth, h 9999]
theorem y_tas {desc : TypeDesc} (hu : P.underlying T = some desc) (hd : (match desc with | .interface _ => false | _ => true) = true) (hx : evl σ x = .iface T v) : Y P σ ⟨d, .typeAssert x xt T true, ty, pos, af, g⟩ w (.tuple #[v, .bool true]) w := by
  refine Y.val ?_
  have h : (Instr.typeAssert (.iface T v) xt T true).run P w = .ok (.tuple #[v, .bool true]) w := by
    cases desc <;> first | (cases hd; done) | simp [Instr.typeAssert, run_underlying hu]
  simp only [execOp, hx]
  rw [Sem.run_bind, h]
  rfl
end
end Go.Sv

/-
  Package token, reading: a line.
-/
set_option linter.unusedSimpArgs false
set_option linter.unusedVariables false
set_option linter.unnecessarySimpa false
namespace Go.Proofs.Ytfomfplddncakaa
open Go Go.Sv Go.RowKit

set_option maxHeartbeats 1000000 in
/-- the deferred function of line, where nothing has panicked -/
theorem line1_back (bt bo : Nat) (w : World) (R : Ending → FrameMode → World → Prop) (h : R (.returned (.tuple #[])) .returning w) :
    CallsDIn Fence.wide 0 Try.prog 51 #[ptrAt (pb bt) 0, ptrAt (pb bo) 0] .returning w R := by
  refine enterDR (l := [ptrAt (pb bt) 0, ptrAt (pb bo) 0]) (v := .nilIface) Try.func51 rfl Try.ntmps51 (by kernel_rfl) rfl rfl rfl rfl .returning ?_
  refine sgo ?_
  refine wl ?_ (y_inn0 Try.underlying20 rfl rfl)
  refine sgo ?_
  exact fpD0 (.inr rfl) rfl h
set_option maxHeartbeats 1000000 in
/-- .. and where it has -/
theorem line1_caught (bt bo : Nat) (w0 w : World) (cs : List Plot) (hS : Sep w0 w (pOwn bt zeroV :: pOwn bo [.bool false] :: cs)) (R : Ending → FrameMode → World → Prop)
    (h : ∀ w', Sep w0 w' (pOwn bt zeroV :: pOwn bo [.bool false] :: cs) → R (.returned (.tuple #[])) (.panicking [{ v := stopV, recovered := true }]) w') :
    CallsDIn Fence.wide 0 Try.prog 51 #[ptrAt (pb bt) 0, ptrAt (pb bo) 0] (.panicking stopE) w R := by
  refine enterDR (l := [ptrAt (pb bt) 0, ptrAt (pb bo) 0]) (v := stopV) Try.func51 rfl Try.ntmps51 (by kernel_rfl) rfl rfl rfl rfl (.panicking stopV []) ?_
  refine sgo ?_
  refine wl ?_ (y_inn1 Try.underlying20 rfl rfl)
  refine sgo ?_
  refine wl ?_ (y_tas Try.underlying84 rfl rfl)
  refine sgo ?_
  refine salloc hS fun b3 w1 hS => ?_
  refine sgo ?_
  refine ssta (vs := []) hS 0 fun w2 hS => ?_
  refine sgo ?_
  refine wlbuild ?_
  refine ssta (vs := zeroV) hS 1 (fun w3 hS => ?_) (hy := rfl)
  refine sgo ?_
  refine sst_bool hS 2 fun w4 hS => ?_
  refine sgo ?_
  refine fpD0 (.inr rfl) rfl (h _ hS.tail)
/-! ## line -/
set_option maxHeartbeats 1000000 in
theorem line_ok (s : List UInt8) (hb : s.length ≤ 1048576) (w : World) :
    CallsR Try.prog 39 #[str s] w fun v w' => match readR s with
      | some t => ∃ p c, v = .tuple #[.agg ⟨Tok.cells t p c⟩, .bool true] ∧ Sep w w' [pRow 2 p t.attrs.length c (t.attrs.flatMap At.cells)]
      | none => v = .tuple #[.agg ⟨zeroV⟩, .bool false] ∧ Sep w w' [] := by
  have hS := Sep.start w
  refine enter (l := [str s]) Try.func39 rfl Try.ntmps39 (by kernel_rfl) rfl ?_
  refine sgo ?_
  refine salloc hS fun bt w1 hS => ?_
  refine sgo ?_
  refine salloc hS fun bo w2 hS => ?_
  replace hS : Sep w w2 [pOwn bo [.bool false], pOwn bt zeroV] := hS
  refine sgo ?_
  refine wldefer ?_
  refine sgo ?_
  refine wlbuild ?_
  refine sgo ?_
  refine sbox hS fun br w3 hS => ?_
  replace hS : Sep w w3 [pOwn br [str s], pOwn bo [.bool false], pOwn bt zeroV] := hS
  refine sgo ?_
  refine wlcallP (token_ok br s hb w _ _ hS) ?_ ?_
  · clear hS
    rintro _ w4 ⟨t, p, c, ht, rfl, s', hS⟩
    rw [ht]
    dsimp only
    refine sgo ?_
    refine ssta (vs := Tok.cells t p c) hS 3 fun w5 hS => ?_
    refine sgo ?_
    refine sst_bool hS 2 fun w6 hS => ?_
    refine sgo ?_
    refine fp_leave (.inl rfl) ?_
    refine leave_fv (cap := [ptrAt (pb bt) 0, ptrAt (pb bo) 0]) (by simp) ?_
    refine line1_back bt bo _ _ ?_
    refine leave_two (b1 := bt) (b2 := bo) (l := Tok.cells t p c) (v := .bool true) rfl rfl ⟨rfl, rfl⟩ (hS.own 3 rfl) (hS.own 2 rfl) ?_
    exact ⟨p, c, rfl, ((hS.drop 3).drop 2).drop 1⟩
  · clear hS
    rintro ch w4 ⟨hn, rfl, s', hS⟩
    rw [hn]
    dsimp only
    repeat (first | refine thn_panic ?_ | refine thl_panic ?_ | refine blk_panic ?_ | refine ngt_panic ?_)
    refine fp_panic ?_
    refine leave_fv (cap := [ptrAt (pb bt) 0, ptrAt (pb bo) 0]) (by simp) ?_
    refine line1_caught bt bo w w4 [] ((hS.tail).front 1 rfl) _ fun w5 hS => ?_
    refine leave_two (b1 := bt) (b2 := bo) (l := zeroV) (v := .bool false) rfl rfl ⟨rfl, rfl⟩ (hS.own 0 rfl) (hS.own 1 rfl) ?_
    exact ⟨rfl, hS.tail.tail⟩
end Go.Proofs.Ytfomfplddncakaa

/-
  strings.Cut at a line's end; a text's lines, cut one by one.
-/
set_option linter.unusedSimpArgs false
set_option linter.unusedVariables false
set_option linter.unnecessarySimpa false
namespace Go.Proofs.Ytfomfplddncakaa
open Go Go.Sv Go.RowKit

/-- what lies ahead of the first line's end, behind it, and whether there is one -/
def cutT : List UInt8 → List UInt8 × List UInt8 × Bool
  | [] => ([], [], false)
  | c :: l => if c.toNat = 10 then ([], l, true) else (c :: (cutT l).1, (cutT l).2)
theorem cutT_len : ∀ l : List UInt8, (cutT l).1.length ≤ l.length ∧ (cutT l).2.1.length ≤ l.length ∧ (l ≠ [] → (cutT l).2.1.length < l.length)
  | [] => ⟨Nat.le_refl _, Nat.le_refl _, fun h => absurd rfl h⟩
  | c :: l => by
    obtain ⟨h1, h2, _⟩ := cutT_len l
    unfold cutT
    split
    · exact ⟨Nat.zero_le _, by simp, fun _ => by simp⟩
    · dsimp only
      simp only [List.length_cons]
      exact ⟨by omega, by omega, fun _ => by omega⟩
theorem index_cut : ∀ l : List UInt8, (Lib.indexByte l 10 = -1 ∧ cutT l = (l, [], false)) ∨ ∃ i : Nat, i < l.length ∧ Lib.indexByte l 10 = i ∧ cutT l = (l.take i, l.drop (i + 1), true)
  | [] => .inl ⟨rfl, rfl⟩
  | c :: l => by
    unfold Lib.indexByte cutT
    by_cases hc : c.toNat = 10
    · have : c = 10 := UInt8.toNat_inj.1 hc
      subst this
      exact .inr ⟨0, by simp, rfl, rfl⟩
    · have hne : (c == 10) = false := by
        rw [beq_eq_false_iff_ne]
        intro h
        subst h
        exact hc rfl
      rw [hne, if_neg hc]
      rcases index_cut l with ⟨h1, h2⟩ | ⟨i, h0, h1, h2⟩
      · left
        rw [h1, h2]
        exact ⟨rfl, rfl⟩
      · right
        refine ⟨i + 1, by simp; omega, ?_, ?_⟩
        · have : (Lib.indexByte l 10 == -1) = false := by rw [h1, beq_eq_false_iff_ne]; omega
          rw [this, h1]
          simp
        · rw [h2]; rfl
theorem linesG_cut : ∀ (l cur : List UInt8), linesG l cur = if (cutT l).2.2 = true then (cur ++ (cutT l).1) :: linesG (cutT l).2.1 [] else if cur ++ l = [] then [] else [cur ++ l]
  | [], cur => by simp [linesG, cutT]
  | c :: l, cur => by
    rw [show linesG (c :: l) cur = if c.toNat = 10 then cur :: linesG l [] else linesG l (cur ++ [c]) from rfl, show cutT (c :: l) = if c.toNat = 10 then ([], l, true) else (c :: (cutT l).1, (cutT l).2) from rfl]
    by_cases hc : c.toNat = 10
    · rw [if_pos hc, if_pos hc, if_pos rfl, List.append_nil]
    · rw [if_neg hc, if_neg hc, linesG_cut l]
      dsimp only
      simp only [List.append_assoc, List.cons_append, List.nil_append]
/-- a text's lines: the first, and those behind it -/
theorem lines_cut {s : List UInt8} (h : s ≠ []) : linesR s = (cutT s).1 :: linesR (cutT s).2.1 := by
  unfold linesR
  rw [linesG_cut s []]
  split
  · rfl
  · rename_i hf
    rcases index_cut s with ⟨_, h2⟩ | ⟨i, _, _, h2⟩
    · rw [h2, List.nil_append, if_neg h]
      rfl
    · rw [h2] at hf; exact absurd rfl hf
def cutV (s : List UInt8) : Value := .tuple #[str (cutT s).1, str (cutT s).2.1, .bool (cutT s).2.2]
theorem idx10_ok (s : List UInt8) (w : World) : PureC Try.prog 59 #[str s, str [10]] w (.int .i64 (Lib.indexByte s 10)) := by
  refine Calls.mono (Try.stringslite_Index_one ⟨s.toArray⟩ 10 w) ?_
  rintro e w' ⟨rfl, rfl⟩
  exact ⟨_, rfl, rfl, Frm.refl _⟩
set_option maxHeartbeats 1000000 in
theorem litCut_ok (s : List UInt8) (hb : s.length ≤ 1048576) (w : World) : PureC Try.prog 50 #[str s, str [10]] w (cutV s) := by
  have hix := fun w => idx10_ok s w
  unfold cutV
  refine enter (l := [str s, str [10]]) Try.func50 rfl Try.ntmps50 (by kernel_rfl) rfl ?_
  refine sgo ?_
  refine wlpure (hix _) fun w1 hf1 => ?_
  rcases index_cut s with ⟨h1, h2⟩ | ⟨i, hi, h1, h2⟩
  · rw [h1, h2]
    refine sgo ?_
    (first | refine fp1 (.inl rfl) rfl rfl ?_ | refine fp2 (.inl rfl) rfl rfl rfl ?_ | refine fp3 (.inl rfl) rfl rfl rfl rfl ?_ | refine fp0 (.inr rfl) rfl ?_ | refine fp0 (.inl rfl) rfl ?_ | refine fp1 (.inr rfl) rfl rfl ?_); refine ⟨?_, by (first | exact Frm.refl _ | assumption | exact Go.Sv.Sep.frm (by assumption) | (refine Frm.trans ?_ (by assumption); first | exact Frm.refl _ | assumption))⟩; (try simp only [realB, rv_true, Nat.reduceBEq, cond_true, cond_false, entG, real_lif, updGL])
    all_goals rfl
  · rw [h1, h2]
    refine sgo ?_
    refine wcyes ?_ (ht := by simp)
    refine sgo ?_
    refine wcdraw ?_
    refine qgo ?_
    have h10 : ([10] : List UInt8).length = 1 := rfl
    rw [h10]
    refine qgo ?_
    refine QL_nil ?_
    intro w2 hf2
    refine thn_normal ?_
    refine sgo ?_
    have e1 : ((i : Int) + ((1 : Nat) : Int)).toNat = i + 1 := by omega
    simp only [e1]
    have hf := hf1.trans hf2
    clear hf1 hf2
    (first | refine fp1 (.inl rfl) rfl rfl ?_ | refine fp2 (.inl rfl) rfl rfl rfl ?_ | refine fp3 (.inl rfl) rfl rfl rfl rfl ?_ | refine fp0 (.inr rfl) rfl ?_ | refine fp0 (.inl rfl) rfl ?_ | refine fp1 (.inr rfl) rfl rfl ?_); refine ⟨?_, by (first | exact Frm.refl _ | assumption | exact Go.Sv.Sep.frm (by assumption) | (refine Frm.trans ?_ (by assumption); first | exact Frm.refl _ | assumption))⟩; (try simp only [realB, rv_true, Nat.reduceBEq, cond_true, cond_false, entG, real_lif, updGL])
    all_goals rfl
theorem cut10_ok (s : List UInt8) (hb : s.length ≤ 1048576) (w : World) : PureC Try.prog 38 #[str s, str [10]] w (cutV s) := by
  have hix := fun w => litCut_ok s hb w
  unfold cutV at *
  refine enter (l := [str s, str [10]]) Try.func38 rfl Try.ntmps38 (by kernel_rfl) rfl ?_
  refine sgo ?_
  refine wlpure (hix _) fun w1 hf1 => ?_
  refine sgo ?_
  (first | refine fp1 (.inl rfl) rfl rfl ?_ | refine fp2 (.inl rfl) rfl rfl rfl ?_ | refine fp3 (.inl rfl) rfl rfl rfl rfl ?_ | refine fp0 (.inr rfl) rfl ?_ | refine fp0 (.inl rfl) rfl ?_ | refine fp1 (.inr rfl) rfl rfl ?_); refine ⟨?_, by (first | exact Frm.refl _ | assumption | exact Go.Sv.Sep.frm (by assumption) | (refine Frm.trans ?_ (by assumption); first | exact Frm.refl _ | assumption))⟩; (try simp only [realB, rv_true, Nat.reduceBEq, cond_true, cond_false, entG, real_lif, updGL])
  all_goals rfl
end Go.Proofs.Ytfomfplddncakaa

/- This seat's plain structs as instances (made by a program of ours). -/
namespace Go.Proofs.Ytfomfplddncakaa
open Go Go.Sv
instance : PlainS Try.prog 26 [.int .i64, .int .i64, .int .i64] := ⟨_, Try.underlying26, by kernel_rfl, by kernel_rfl, by kernel_rfl⟩
instance : PlainS Try.prog 27 [.int .i64, .int .i64, .int .i64] := ⟨_, Try.underlying27, by kernel_rfl, by kernel_rfl, by kernel_rfl⟩
instance : PlainS Try.prog 41 [.string, .string] := ⟨_, Try.underlying41, by kernel_rfl, by kernel_rfl, by kernel_rfl⟩
instance : PlainS Try.prog 42 [.string, .string] := ⟨_, Try.underlying42, by kernel_rfl, by kernel_rfl, by kernel_rfl⟩
instance : PlainS Try.prog 87 [.string] := ⟨_, Try.underlying87, by kernel_rfl, by kernel_rfl, by kernel_rfl⟩
instance : PlainS Try.prog 88 [.string] := ⟨_, Try.underlying88, by kernel_rfl, by kernel_rfl, by kernel_rfl⟩
instance : PlainS Try.prog 95 [.int .i32, .int .i64, .int .i64, .bool] := ⟨_, Try.underlying95, by kernel_rfl, by kernel_rfl, by kernel_rfl⟩
instance : PlainS Try.prog 96 [.int .i32, .int .i64, .int .i64, .bool] := ⟨_, Try.underlying96, by kernel_rfl, by kernel_rfl, by kernel_rfl⟩
end Go.Proofs.Ytfomfplddncakaa

/-
  Packages token and sieveref07: Equal, Attr, SameAttrs; sievelaw07: TokenChecks.
-/
set_option linter.unusedSimpArgs false
set_option linter.unusedVariables false
set_option linter.unnecessarySimpa false
namespace Go.Proofs.Ytfomfplddncakaa
open Go Go.Sv Go.RowKit

def eqR (a b : Tok) : Bool := decide (a.kind = b.kind) && (decide (a.name = b.name) && (decide (a.text = b.text) && (decide (a.self = b.self) && decide (a.attrs = b.attrs))))
theorem at_get0 {es : List At} {i : Nat} {x : At} (hx : es[i]? = some x) : (es.flatMap At.cells)[i * 2]? = some (str x.n) := by
  have := fm_get At.len es i 0 (by omega)
  rw [Nat.add_zero, hx] at this
  exact this
theorem at_get1 {es : List At} {i : Nat} {x : At} (hx : es[i]? = some x) : (es.flatMap At.cells)[i * 2 + 1]? = some (str x.v) := by
  have := fm_get At.len es i 1 (by omega)
  rw [hx] at this
  exact this
theorem at_ext {x y : At} : x = y ↔ x.n = y.n ∧ x.v = y.v := by cases x; cases y; simp
theorem take_eq_succ {α : Type} {l l' : List α} {i : Nat} {x : α} (h : l.take i = l'.take i) (hx : l[i]? = some x) (hy : l'[i]? = some x) : l.take (i + 1) = l'.take (i + 1) := by
  rw [List.take_add_one, List.take_add_one, h, hx, hy]

set_option maxHeartbeats 2000000 in
theorem sameAttrs_ok (es fs : List At) (p q : Option Addr) (c c' : Nat) (hb : es.length ≤ 1048576) (hb' : fs.length ≤ 1048576) (w : World) (hi : Im [] w p (es.flatMap At.cells)) (hj : Im [] w q (fs.flatMap At.cells)) :
    PureC Try.prog 36 #[.slice p es.length c, .slice q fs.length c'] w (.bool (decide (es = fs))) := by
  have hl1 := fm_len At.len es
  have hl2 := fm_len At.len fs
  refine enter (l := [.slice p es.length c, .slice q fs.length c']) Try.func36 rfl Try.ntmps36 (by kernel_rfl) rfl ?_
  refine sgo ?_
  (show WC _ _ _ _ _ _ _; first | refine WC_dec rfl (fun hc => ?_) (fun hc => ?_) | refine WC_cond rfl (fun hc => ?_) (fun hc => ?_))
  · refine sgo ?_
    (first | refine fp1 (.inl rfl) rfl rfl ?_ | refine fp2 (.inl rfl) rfl rfl rfl ?_ | refine fp3 (.inl rfl) rfl rfl rfl rfl ?_ | refine fp0 (.inr rfl) rfl ?_ | refine fp0 (.inl rfl) rfl ?_ | refine fp1 (.inr rfl) rfl rfl ?_); refine ⟨?_, by (first | exact Frm.refl _ | assumption | exact Go.Sv.Sep.frm (by assumption) | (refine Frm.trans ?_ (by assumption); first | exact Frm.refl _ | assumption))⟩; (try simp only [realB, rv_true, Nat.reduceBEq, cond_true, cond_false, entG, real_lif, updGL])
    rw [decide_eq_false]
    rintro rfl
    exact hc rfl
  have hle : es.length = fs.length := by
    have : ¬ ((es.length : Int) ≠ fs.length) := hc
    omega
  clear hc
  refine sgo ?_
  refine wcloop (X := Nat) (fun i => [(0, .slice p es.length c), (1, .slice q fs.length c'), (12, int es.length), (13, int i)]) (fun i wr => i ≤ es.length ∧ es.take i = fs.take i ∧ Frm w wr) (fun i => es.length - i) 0 ⟨rfl, rfl, rfl, rfl, trivial⟩ ⟨by omega, rfl, Frm.refl _⟩ ?_
  rintro i wr ρ ⟨hil, htk, hf⟩
  have hIr := hi.frm hf
  have hJr := hj.frm hf
  refine sgo ?_
  (show WC _ _ _ _ _ _ _; first | refine WC_dec rfl (fun hc => ?_) (fun hc => ?_) | refine WC_cond rfl (fun hc => ?_) (fun hc => ?_))
  · have hlt : i < es.length := by omega
    have hx : es[i]? = some es[i] := List.getElem?_eq_getElem hlt
    have hy : fs[i]? = some fs[i] := List.getElem?_eq_getElem (by omega)
    generalize es[i] = x at *
    generalize fs[i] = y at *
    have g0 := at_get0 hx
    have g1 := at_get1 hx
    have k0 := at_get0 hy
    have k1 := at_get1 hy
    refine sgo ?_
    (first | refine WC_seq ?_ | skip); refine wcdraw ?_
    refine qgo ?_
    refine QL_nil ?_; intro wd hwd
    have hfd := hf.trans hwd
    refine sgo ?_
    (show WC _ _ _ _ _ _ _; first | refine WC_dec rfl (fun hc => ?_) (fun hc => ?_) | refine WC_cond rfl (fun hc => ?_) (fun hc => ?_))
    · refine sgo ?_
      (first | refine fp1 (.inl rfl) rfl rfl ?_ | refine fp2 (.inl rfl) rfl rfl rfl ?_ | refine fp3 (.inl rfl) rfl rfl rfl rfl ?_ | refine fp0 (.inr rfl) rfl ?_ | refine fp0 (.inl rfl) rfl ?_ | refine fp1 (.inr rfl) rfl rfl ?_); refine ⟨?_, by (first | exact Frm.refl _ | assumption | exact Go.Sv.Sep.frm (by assumption) | (refine Frm.trans ?_ (by assumption); first | exact Frm.refl _ | assumption))⟩; (try simp only [realB, rv_true, Nat.reduceBEq, cond_true, cond_false, entG, real_lif, updGL])
      rw [decide_eq_false]
      rintro rfl
      rw [hx] at hy
      obtain rfl := Option.some.inj hy
      revert hc; simp [pkb]
    · refine sgo ?_
      refine ⟨i + 1, ⟨rfl, rfl, rfl, rfl, trivial⟩, ⟨by omega, ?_, hfd⟩, by omega⟩
      have hxy : x = y := by
        rw [at_ext]
        revert hc; simp [pkb]
      rw [← hxy] at hy
      exact take_eq_succ htk hx hy
  · refine sgo ?_
    (first | refine fp1 (.inl rfl) rfl rfl ?_ | refine fp2 (.inl rfl) rfl rfl rfl ?_ | refine fp3 (.inl rfl) rfl rfl rfl rfl ?_ | refine fp0 (.inr rfl) rfl ?_ | refine fp0 (.inl rfl) rfl ?_ | refine fp1 (.inr rfl) rfl rfl ?_); refine ⟨?_, by (first | exact Frm.refl _ | assumption | exact Go.Sv.Sep.frm (by assumption) | (refine Frm.trans ?_ (by assumption); first | exact Frm.refl _ | assumption))⟩; (try simp only [realB, rv_true, Nat.reduceBEq, cond_true, cond_false, entG, real_lif, updGL])
    rw [decide_eq_true]
    rwa [List.take_of_length_le (by omega), List.take_of_length_le (by omega)] at htk

set_option maxHeartbeats 2000000 in
theorem refEqual_ok (a b : TokM) (ha : a.t.small) (hb : b.t.small) (w : World) (hi : Im [] w a.p (a.t.attrs.flatMap At.cells)) (hj : Im [] w b.p (b.t.attrs.flatMap At.cells)) :
    PureC Try.prog 16 #[.agg ⟨a.cells⟩, .agg ⟨b.cells⟩] w (.bool (eqR a.t b.t)) := by
  obtain ⟨⟨k, nm, tx, es, sf, a1, a2, a3⟩, p, c⟩ := a
  obtain ⟨⟨k', nm', tx', fs, sf', a1', a2', a3'⟩, q, c'⟩ := b
  have hb1 := ha.attrs
  have hb2 := hb.attrs
  dsimp only at hb1 hb2 hi hj
  refine enter (l := [.agg ⟨TokM.cells ⟨⟨k, nm, tx, es, sf, a1, a2, a3⟩, p, c⟩⟩, .agg ⟨TokM.cells ⟨⟨k', nm', tx', fs, sf', a1', a2', a3'⟩, q, c'⟩⟩]) Try.func16 rfl Try.ntmps16 (by kernel_rfl) rfl ?_
  refine sgo ?_
  refine wlbox (v := .agg ⟨TokM.cells ⟨⟨k, nm, tx, es, sf, a1, a2, a3⟩, p, c⟩⟩) (hx := rfl) fun b1 w1 hb1' ho hf1 => ?_
  refine wlbox (v := .agg ⟨TokM.cells ⟨⟨k', nm', tx', fs, sf', a1', a2', a3'⟩, q, c'⟩⟩) (hx := rfl) fun b2 w2 hb2' ho2 hf2 => ?_
  replace ho := ho.frm hf2
  simp only [TokM.cells, Tok.cells, Value.cells] at ho ho2
  have hf := hf1.trans hf2
  refine sgo ?_
  refine wlcallgp (vals := [.slice p es.length c, .slice q fs.length c']) (fun _ => sameAttrs_ok es fs p q c c' hb1 hb2 _ (hi.frm hf) (hj.frm hf)) fun w3 hf3 => ?_
  replace hf := hf.trans hf3
  refine sgo ?_
  (first | refine fp1 (.inl rfl) rfl rfl ?_ | refine fp2 (.inl rfl) rfl rfl rfl ?_ | refine fp3 (.inl rfl) rfl rfl rfl rfl ?_ | refine fp0 (.inr rfl) rfl ?_ | refine fp0 (.inl rfl) rfl ?_ | refine fp1 (.inr rfl) rfl rfl ?_); refine ⟨?_, by (first | exact Frm.refl _ | assumption | exact Go.Sv.Sep.frm (by assumption) | (refine Frm.trans ?_ (by assumption); first | exact Frm.refl _ | assumption))⟩; (try simp only [realB, rv_true, Nat.reduceBEq, cond_true, cond_false, entG, real_lif, updGL])
  refine congrArg Value.bool ?_
  simp only [eqR, pkb_and, Bool.and_assoc]

def attrR (es : List At) (n : List UInt8) : Option At := es.find? fun x => decide (x.n = n)
def attrV (o : Option At) : Value := match o with | some x => .tuple #[str x.v, .bool true] | none => .tuple #[str [], .bool false]

end Go.Proofs.Ytfomfplddncakaa

/-
  Tokens in memory of one's own: copied, own, Same, spoil.
-/
set_option linter.unusedSimpArgs false
set_option linter.unusedVariables false
set_option linter.unnecessarySimpa false
namespace Go.Proofs.Ytfomfplddncakaa
open Go Go.Sv Go.RowKit

/-- a token's attributes in memory of one's own -/
def AtR (w : World) (lo : Nat) (m : TokM) : Prop := Row w 2 m.p m.t.attrs.length m.c (m.t.attrs.flatMap At.cells) ∧ ∀ x ∈ rb m.p, lo ≤ x
theorem AtR.frm {w w' : World} {lo : Nat} {m : TokM} (h : AtR w lo m) (hf : Frm w w') : AtR w' lo m := ⟨h.1.frm hf, h.2⟩
theorem AtR.im {w : World} {lo : Nat} {m : TokM} (h : AtR w lo m) : Im [] w m.p (m.t.attrs.flatMap At.cells) := h.1.im (by simp)
/-- the blocks of a list of tokens -/
def tbl (q : Option Addr) (ms : List TokM) : List Nat := rb q ++ ms.flatMap fun m => rb m.p
/-- a list of tokens in memory of one's own -/
structure TL (w : World) (lo : Nat) (q : Option Addr) (cc : Nat) (ms : List TokM) : Prop where
  row : Row w 8 q ms.length cc (ms.flatMap TokM.cells)
  low : ∀ x ∈ rb q, lo ≤ x
  each : ∀ m ∈ ms, AtR w lo m
  apart : ∀ m ∈ ms, ∀ x ∈ rb m.p, x ∉ rb q
  pair : ms.Pairwise fun a b => ∀ x ∈ rb a.p, x ∉ rb b.p
theorem TL.nil (w : World) (lo : Nat) : TL w lo none 0 [] := ⟨Row.nil w 8, by simp [rb], by simp, by simp, .nil⟩
theorem TL.toks {w : World} {lo : Nat} {q : Option Addr} {cc : Nat} {ms : List TokM} (h : TL w lo q cc ms) : Toks w q ms := ⟨h.row.im (by simp), fun m hm => (h.each m hm).im⟩
theorem TL.frm {w w' : World} {lo : Nat} {q : Option Addr} {cc : Nat} {ms : List TokM} (h : TL w lo q cc ms) (hf : Frm w w') : TL w' lo q cc ms :=
  ⟨h.row.frm hf, h.low, fun m hm => (h.each m hm).frm hf, h.apart, h.pair⟩
theorem TL.lt {w : World} {lo : Nat} {q : Option Addr} {cc : Nat} {ms : List TokM} (h : TL w lo q cc ms) : ∀ x ∈ tbl q ms, lo ≤ x ∧ x < w.heap.size := by
  intro x hx
  rcases List.mem_append.1 hx with hx | hx
  · exact ⟨h.low x hx, h.row.lt x hx⟩
  · obtain ⟨m, hm, hx⟩ := List.mem_flatMap.1 hx
    exact ⟨(h.each m hm).2 x hx, (h.each m hm).1.lt x hx⟩
theorem TL.le {w w' : World} {lo : Nat} {q : Option Addr} {cc : Nat} {ms : List TokM} {M : List Nat} (h : TL w lo q cc ms) (hl : Le M w w') (hM : ∀ x ∈ tbl q ms, x ∉ M) : TL w' lo q cc ms :=
  ⟨h.row.le hl fun x hx => hM x (List.mem_append_left _ hx), h.low,
   fun m hm => ⟨(h.each m hm).1.le hl fun x hx => hM x (List.mem_append_right _ (List.mem_flatMap.2 ⟨m, hm, hx⟩)), (h.each m hm).2⟩, h.apart, h.pair⟩
/-- one more at the end -/
theorem TL.push {w w' : World} {lo : Nat} {q q' : Option Addr} {cc cc' : Nat} {ms : List TokM} {m : TokM} (h : TL w lo q cc ms) (hm : AtR w lo m) (hap : ∀ x ∈ rb m.p, x ∉ tbl q ms)
    (hr : Row w' 8 q' (ms.length + 1) cc' (ms.flatMap TokM.cells ++ m.cells)) (hl : Lm (rb q) w (rb q') w') (hlo : lo ≤ w.heap.size) : TL w' lo q' cc' (ms ++ [m]) := by
  have hq : ∀ x ∈ rb q', x ∈ rb q ∨ w.heap.size ≤ x := fun x hx => by
    rcases Nat.lt_or_ge x w.heap.size with h1 | h1
    · exact .inl (hl.2 x hx h1)
    · exact .inr h1
  have hapq : ∀ m' : TokM, AtR w lo m' → (∀ x ∈ rb m'.p, x ∉ rb q) → AtR w' lo m' ∧ ∀ x ∈ rb m'.p, x ∉ rb q' := fun m' h1 h2 =>
    ⟨⟨h1.1.le hl.1 h2, h1.2⟩, fun x hx hx' => by
      rcases hq x hx' with h3 | h3
      · exact h2 x hx h3
      · have := h1.1.lt x hx; omega⟩
  have hm2 := hapq m hm fun x hx hx' => hap x hx (List.mem_append_left _ hx')
  refine ⟨by simpa [List.flatMap_append] using hr, ?_, ?_, ?_, ?_⟩
  · intro x hx
    rcases hq x hx with h1 | h1
    · exact h.low x h1
    · omega
  · intro m' hm'
    rcases List.mem_append.1 hm' with h1 | h1
    · exact (hapq m' (h.each m' h1) (h.apart m' h1)).1
    · rw [List.mem_singleton.1 h1]; exact hm2.1
  · intro m' hm'
    rcases List.mem_append.1 hm' with h1 | h1
    · exact (hapq m' (h.each m' h1) (h.apart m' h1)).2
    · rw [List.mem_singleton.1 h1]; exact hm2.2
  · rw [List.pairwise_append]
    refine ⟨h.pair, List.pairwise_singleton _ _, fun a ha b hb x hx hx' => ?_⟩
    rw [List.mem_singleton.1 hb] at hx'
    exact hap x hx' (List.mem_append_right _ (List.mem_flatMap.2 ⟨a, ha, hx⟩))

theorem tok_one (t : Tok) (p : Option Addr) (c : Nat) : ∀ u ∈ t.cells p c, u.oneCell' = true := by simp [Tok.cells, Value.oneCell']
end Go.Proofs.Ytfomfplddncakaa

/-
  Package token: Parse.
-/
set_option linter.unusedSimpArgs false
set_option linter.unusedVariables false
set_option linter.unnecessarySimpa false
namespace Go.Proofs.Ytfomfplddncakaa
open Go Go.Sv Go.RowKit

theorem ats_small : ∀ (n : Nat) (s : List UInt8) (acc es : List At) (r : List UInt8), s.length ≤ n → s.length ≤ 1048576 → (∀ a ∈ acc, a.small) → atsR s acc = some (es, r) → ∀ a ∈ es, a.small
  | n, s, acc, es, r, hn, hb, hacc, h => by
    by_cases h2 : s.take 2 = [32, 34]
    · cases h1 : at1R s with
      | none => rw [atsR_bad h2 h1] at h; cases h
      | some x =>
        obtain ⟨a, r1⟩ := x
        rw [atsR_yes h2 h1] at h
        obtain ⟨_, a2, a3⟩ := at1R_suf h1
        cases n with
        | zero => omega
        | succ n =>
          refine ats_small n r1 (acc ++ [a]) es r (by omega) (by omega) (fun y hy => ?_) h
          rcases List.mem_append.1 hy with hy | hy
          · exact hacc y hy
          · rw [List.mem_singleton.1 hy]; exact ⟨by omega, by omega⟩
    · rw [atsR_end h2] at h
      injection h with h; injection h with h3 h4
      subst h3
      exact hacc
theorem tokR_small {k : Nat} {s : List UInt8} {t : Tok} (hb : s.length ≤ 1048576) (h : tokR k s = some t) : t.small := by
  unfold tokR at h
  cases hh : headT k s with
  | none => rw [hh] at h; cases h
  | some x =>
    obtain ⟨nm, tx, r⟩ := x
    rw [hh] at h
    obtain ⟨h1, h2, h3⟩ := head_suf hh
    dsimp only at h
    cases ha : atsR r [] with
    | none => rw [ha] at h; cases h
    | some y =>
      obtain ⟨es, r2⟩ := y
      rw [ha] at h
      dsimp only at h
      obtain ⟨_, _, hel⟩ := atsR_suf _ r [] es r2 (Nat.le_refl _) ha
      split at h
      · injection h with h
        subst h
        exact ⟨by dsimp only; omega, by dsimp only; omega, by dsimp only; simp only [List.length_nil] at hel; omega, ats_small _ r [] es r2 (Nat.le_refl _) (by omega) (by simp) ha⟩
      · cases h
theorem readF_small : ∀ (ws : List (List UInt8)) (k : Nat) (s : List UInt8) (t : Tok), s.length ≤ 1048576 → readF k ws s = some t → t.small
  | [], k, s, t, _, h => by cases h
  | x :: ws, k, s, t, hb, h => by
    rw [readF] at h
    split at h
    · exact tokR_small (by rw [List.length_drop]; omega) h
    · exact readF_small ws _ s t hb h
theorem read_small {s : List UInt8} {t : Tok} (hb : s.length ≤ 1048576) (h : readR s = some t) : t.small := readF_small _ _ s t hb h
set_option maxHeartbeats 1000000 in
theorem parse_ok (s : List UInt8) (hb : s.length ≤ 1048576) (w : World) :
    CallsR Try.prog 23 #[str s] w fun v w' => Frm w w' ∧ ((0 < (parseR s).2 ∧ v = .tuple #[.slice none 0 0, int (parseR s).2, int 70]) ∨
      ((parseR s).2 = 0 ∧ ∃ q cc ms, v = .tuple #[.slice q ms.length cc, int 0, int 0] ∧ ms.map TokM.t = (parseR s).1 ∧ TL w' w.heap.size q cc ms ∧ (∀ m ∈ ms, m.t.small) ∧ ms.length ≤ 1048576)) := by
  obtain ⟨R, hR⟩ : ∃ R, parseR s = R := ⟨_, rfl⟩
  rw [hR]
  unfold parseR at hR
  refine enter (l := [str s]) Try.func23 rfl Try.ntmps23 (by kernel_rfl) rfl ?_
  refine sgo ?_
  refine wcloop (X := Nat × List UInt8 × Option Addr × Nat × List TokM) (fun x => [(0, str x.2.1), (5, .slice x.2.2.1 x.2.2.2.2.length x.2.2.2.1), (6, int x.1)])
    (fun x wr => parseF x.1 (linesR x.2.1) (x.2.2.2.2.map TokM.t) = R ∧ x.1 + x.2.1.length ≤ s.length + 1 ∧ x.2.2.2.2.length + 1 = x.1 ∧ (∀ m ∈ x.2.2.2.2, m.t.small) ∧ TL wr w.heap.size x.2.2.1 x.2.2.2.1 x.2.2.2.2 ∧ Frm w wr)
    (fun x => x.2.1.length) (1, s, none, 0, []) ⟨rfl, rfl, rfl, trivial⟩ ⟨hR, by dsimp only; omega, rfl, by simp, TL.nil w _, Frm.refl _⟩ ?_
  clear hR
  rintro ⟨n, rest, q, cc, ms⟩ wr ρ ⟨hP, hnl, hml, hsm, hTL, hfr⟩
  dsimp only at hP hnl hml hsm hTL ⊢
  refine sgo ?_
  by_cases hr : rest = []
  · subst hr
    refine wcno ?_ (ht := by rfl)
    have hR : R = (ms.map TokM.t, 0) := hP.symm
    refine sgo ?_
    (first | refine fp1 (.inl rfl) rfl rfl ?_ | refine fp2 (.inl rfl) rfl rfl rfl ?_ | refine fp3 (.inl rfl) rfl rfl rfl rfl ?_ | refine fp0 (.inr rfl) rfl ?_ | refine fp0 (.inl rfl) rfl ?_ | refine fp1 (.inr rfl) rfl rfl ?_)
    exact ⟨hfr, .inr ⟨by rw [hR], q, cc, ms, rfl, by rw [hR], hTL, hsm, by simp at hnl; omega⟩⟩
  · refine wcyes ?_ (ht := by simp [hr])
    rw [lines_cut hr] at hP
    obtain ⟨c1, c2, c3⟩ := cutT_len rest
    have c3' := c3 hr
    refine sgo ?_
    refine wlpure (cut10_ok rest (by omega) _) fun w1 hf1 => ?_
    unfold cutV
    have hx1 : (cutT rest).1.length ≤ 1048576 := by omega
    generalize (cutT rest).1 = one at *
    generalize (cutT rest).2.1 = r2 at *
    generalize (cutT rest).2.2 = fnd at *
    refine sgo ?_
    refine wlcall (line_ok one hx1 _) ?_
    cases ht : readR one with
    | none =>
      dsimp only
      rintro _ w2 ⟨rfl, hS2⟩
      have hR : R = ([], n) := by
        rw [← hP]
        simp only [parseF]
        rw [ht]
      have hf2 := (hfr.trans hf1).trans hS2.frm
      refine sgo ?_
      refine wlalloc fun b5 w5 hb5 o5 hf5 => ?_
      refine sgo ?_
      refine wlstorea0 (vs := zeroV) o5 (fun w6 o6 hl6 => ?_) (hx := rfl) (hy := rfl) (h1 := by simp [zeroV, Value.oneCell'])
      have hz2 := hf2.size
      have hfr6 := (hf2.trans hf5).step hl6 (by intro x hx; simp at hx; omega)
      refine sgo ?_
      (first | refine fp1 (.inl rfl) rfl rfl ?_ | refine fp2 (.inl rfl) rfl rfl rfl ?_ | refine fp3 (.inl rfl) rfl rfl rfl rfl ?_ | refine fp0 (.inr rfl) rfl ?_ | refine fp0 (.inl rfl) rfl ?_ | refine fp1 (.inr rfl) rfl rfl ?_)
      rw [hR]
      exact ⟨hfr6, .inl ⟨by dsimp only; omega, rfl⟩⟩
    | some t =>
      dsimp only
      rintro _ w2 ⟨p, c, rfl, hS2⟩
      have hP2 : parseF (n + 1) (linesR r2) ((ms ++ [(⟨t, p, c⟩ : TokM)]).map TokM.t) = R := by
        rw [← hP, List.map_append]
        simp only [parseF]
        rw [ht]
        rfl
      have hts := read_small hx1 ht
      have hf2 := (hfr.trans hf1).trans hS2.frm
      have hrow := hS2.row 0 rfl
      have hlow : ∀ x ∈ rb p, w1.heap.size ≤ x := hS2.low _ List.mem_cons_self
      have hTL2 := (hTL.frm hf1).frm hS2.frm
      clear hP ht
      refine sgo ?_
      refine wlalloc fun b5 w5 hb5 o5 hf5 => ?_
      refine sgo ?_
      refine wlstorea0 (vs := Tok.cells t p c) o5 (fun w6 o6 hl6 => ?_) (hx := rfl) (hy := rfl) (h1 := tok_one _ _ _)
      have hz2 := hf2.size
      have hfr6 := (hf2.trans hf5).step hl6 (by intro x hx; simp at hx; omega)
      have hTL6 := (hTL2.frm hf5).le hl6 (fun x hx => by have := (hTL2.lt x hx).2; simp; omega)
      have hrow6 := (hrow.frm hf5).le hl6 (fun x hx => by have := hrow.lt x hx; simp; omega)
      simp only [Tok.cells] at o6
      refine sgo ?_
      refine wlb1a (size := 8) (vs := Tok.cells t p c) (fun b10 w10 hb10 o10 hf10 => ?_) (hx := rfl) (hv := rfl)
      have hTL10 := hTL6.frm hf10
      have hrow10 := hrow6.frm hf10
      have hz1 := hf1.size
      have hzr := hfr.size
      refine sgo ?_
      refine wlapp hTL10.row o10.sg (fun q11 c11 w11 hr11 hl11 => ?_) (hl := rfl) (h1 := tok_one _ _ _)
      have hTL11 : TL w11 w.heap.size q11 c11 (ms ++ [⟨t, p, c⟩]) := by
        refine hTL10.push (m := ⟨t, p, c⟩) ⟨hrow10, fun x hx => by have := hlow x hx; omega⟩ (fun x hx hx' => ?_) hr11 hl11 (hfr6.trans hf10).size
        have := hlow x hx
        have := (hTL.lt x hx').2
        omega
      have hfr11 : Frm w w11 := (hfr6.trans hf10).step hl11.1 (fun x hx => hTL.low x hx)
      have hml2 : (ms ++ [(⟨t, p, c⟩ : TokM)]).length = ms.length + 1 := by rw [List.length_append]; rfl
      refine sgo ?_
      refine ⟨(n + 1, r2, q11, c11, ms ++ [⟨t, p, c⟩]), ⟨rfl, ?_, rfl, trivial⟩, ⟨hP2, by dsimp only; omega, by dsimp only; omega, fun m hm => ?_, hTL11, hfr11⟩, by dsimp only; omega⟩
      · dsimp only
        rw [hml2]
        rfl
      · rcases List.mem_append.1 hm with hm | hm
        · exact hsm m hm
        · rw [List.mem_singleton.1 hm]; exact hts
end Go.Proofs.Ytfomfplddncakaa

/-
  Package sieveref07: Parse.
-/
set_option linter.unusedSimpArgs false
set_option linter.unusedVariables false
set_option linter.unnecessarySimpa false
namespace Go.Proofs.Ytfomfplddncakaa
open Go Go.Sv Go.RowKit

theorem TL.lower {w : World} {lo lo' : Nat} {q : Option Addr} {cc : Nat} {ms : List TokM} (h : TL w lo q cc ms) (hl : lo' ≤ lo) : TL w lo' q cc ms :=
  ⟨h.row, fun x hx => Nat.le_trans hl (h.low x hx), fun m hm => ⟨(h.each m hm).1, fun x hx => Nat.le_trans hl ((h.each m hm).2 x hx)⟩, h.apart, h.pair⟩
theorem strV_at {l : List (List UInt8)} {i : Nat} {x : List UInt8} (h : l[i]? = some x) : (strV l)[i]? = some (str x) := by simp [strV, h]
theorem linesG_each : ∀ (n : Nat) (l cur : List UInt8), l.length ≤ n → (∀ x ∈ cur, x.toNat ≠ 10) → ∀ y ∈ linesG l cur, (∀ x ∈ y, x.toNat ≠ 10) ∧ y.length ≤ cur.length + l.length
  | n, [], cur, _, hc, y, hy => by
    have : y ∈ (if cur = [] then [] else [cur]) := hy
    split at this
    · cases this
    · rw [List.mem_singleton.1 this]; exact ⟨hc, by simp⟩
  | 0, c :: l, cur, hn, _, _, _ => by simp at hn
  | n + 1, c :: l, cur, hn, hc, y, hy => by
    simp only [List.length_cons] at hn
    have hy' : y ∈ (if c.toNat = 10 then cur :: linesG l [] else linesG l (cur ++ [c])) := hy
    split at hy'
    · rcases List.mem_cons.1 hy' with rfl | hy'
      · exact ⟨hc, by simp⟩
      · obtain ⟨h1, h2⟩ := linesG_each n l [] (by omega) (by simp) y hy'
        simp only [List.length_nil, List.length_cons] at h2 ⊢
        exact ⟨h1, by omega⟩
    · rename_i h10
      obtain ⟨h1, h2⟩ := linesG_each n l (cur ++ [c]) (by omega) (fun x hx => by
        rcases List.mem_append.1 hx with hx | hx
        · exact hc x hx
        · rw [List.mem_singleton.1 hx]; exact h10) y hy'
      rw [List.length_append, List.length_singleton] at h2
      simp only [List.length_cons]
      exact ⟨h1, by omega⟩
theorem lines_each {s : List UInt8} : ∀ y ∈ linesR s, (∀ x ∈ y, x.toNat ≠ 10) ∧ y.length ≤ s.length := fun y hy => by
  obtain ⟨h1, h2⟩ := linesG_each s.length s [] (Nat.le_refl _) (by simp) y hy
  exact ⟨h1, by simpa using h2⟩
theorem parseF_drop {n : Nat} {ls : List (List UInt8)} {i : Nat} {x : List UInt8} {acc : List Tok} (h : ls[i]? = some x) : parseF n (ls.drop i) acc = match readR x with | none => ([], n) | some t => parseF (n + 1) (ls.drop (i + 1)) (acc ++ [t]) := by
  obtain ⟨hi, rfl⟩ := List.getElem?_eq_some_iff.1 h
  rw [List.drop_eq_getElem_cons hi, parseF]
  cases readR ls[i] <;> rfl
set_option maxHeartbeats 1000000 in
theorem refParse_ok (s : List UInt8) (hb : s.length ≤ 1048576) (w : World) :
    CallsR Try.prog 24 #[str s] w fun v w' => Frm w w' ∧ ((0 < (parseR s).2 ∧ v = .tuple #[.slice none 0 0, int (parseR s).2]) ∨
      ((parseR s).2 = 0 ∧ ∃ q cc ms, v = .tuple #[.slice q ms.length cc, int 0] ∧ ms.map TokM.t = (parseR s).1 ∧ TL w' w.heap.size q cc ms ∧ (∀ m ∈ ms, m.t.small) ∧ ms.length ≤ 1048577)) := by
  obtain ⟨R, hR⟩ : ∃ R, parseR s = R := ⟨_, rfl⟩
  rw [hR]
  unfold parseR at hR
  have hll := linesG_len s []
  have hle := lines_each (s := s)
  have hln := fun w => refLines_ok s hb w
  change (linesR s).length ≤ s.length + 1 at hll
  generalize linesR s = L at *
  have hVL := strV_len L
  refine enter (l := [str s]) Try.func24 rfl Try.ntmps24 (by kernel_rfl) rfl ?_
  refine sgo ?_
  refine wlcall (hln _) ?_
  rintro _ w1 ⟨lp, lc, rfl, hS1⟩
  have hI := hS1.im 0 rfl
  have hf1 := hS1.frm
  refine sgo ?_
  refine wcloop (X := Nat × Option Addr × Nat × List TokM) (fun x => [(4, .slice x.2.1 x.2.2.2.length x.2.2.1), (10, .slice lp L.length lc), (11, int L.length), (12, int x.1)])
    (fun x wr => x.1 ≤ L.length ∧ parseF (x.1 + 1) (L.drop x.1) (x.2.2.2.map TokM.t) = R ∧ x.2.2.2.length = x.1 ∧ (∀ m ∈ x.2.2.2, m.t.small) ∧ TL wr w1.heap.size x.2.1 x.2.2.1 x.2.2.2 ∧ Frm w1 wr)
    (fun x => L.length - x.1) (0, none, 0, []) ⟨rfl, rfl, rfl, rfl, trivial⟩ ⟨Nat.zero_le _, by rw [List.drop_zero]; exact hR, rfl, by simp, TL.nil w1 _, Frm.refl _⟩ ?_
  clear hR hS1 hln
  rintro ⟨i, q, cc, ms⟩ wr ρ ⟨hil, hP, hml, hsm, hTL, hfr⟩
  dsimp only at hil hP hml hsm hTL ⊢
  replace hI := hI.frm hfr
  refine sgo ?_
  (show WC _ _ _ _ _ _ _; first | refine WC_dec rfl (fun hc => ?_) (fun hc => ?_) | refine WC_cond rfl (fun hc => ?_) (fun hc => ?_))
  · have hlt : i < L.length := by omega
    clear hc
    obtain ⟨x, hx⟩ : ∃ x, L[i]? = some x := ⟨_, List.getElem?_eq_getElem hlt⟩
    obtain ⟨hn10, hxl⟩ := hle x (List.mem_of_getElem? hx)
    have hxv := strV_at hx
    have hps : ∃ a, lp = some a := hI.some (by rw [hVL]; omega)
    have hSg := hI.sg
    rw [parseF_drop hx] at hP
    refine sgo ?_
    refine wlcall (refRead_ok x (by omega) hn10 _) ?_
    rintro _ w2 ⟨⟨t, p, c⟩, ok, rfl, hS2, hrd⟩
    have hf2 := hfr.trans hS2.frm
    have hz2 := hf2.size
    have hrow := hS2.row 0 rfl
    have hlow : ∀ x ∈ rb p, wr.heap.size ≤ x := hS2.low _ List.mem_cons_self
    have hTL2 := hTL.frm hS2.frm
    dsimp only at hrow hrd
    refine sgo ?_
    refine wlalloc fun b5 w5 hb5 o5 hf5 => ?_
    refine sgo ?_
    refine wlstorea0 (vs := Tok.cells t p c) o5 (fun w6 o6 hl6 => ?_) (hx := rfl) (hy := rfl) (h1 := tok_one _ _ _)
    have hfr6 := (hf2.trans hf5).step hl6 (by intro x hx; simp at hx; omega)
    cases ok with
    | false =>
      rw [if_neg (by simp)] at hrd
      rw [hrd] at hP
      dsimp only at hP
      subst hP
      refine sgo ?_
      (first | refine fp1 (.inl rfl) rfl rfl ?_ | refine fp2 (.inl rfl) rfl rfl rfl ?_ | refine fp3 (.inl rfl) rfl rfl rfl rfl ?_ | refine fp0 (.inr rfl) rfl ?_ | refine fp0 (.inl rfl) rfl ?_ | refine fp1 (.inr rfl) rfl rfl ?_)
      exact ⟨hf1.trans hfr6, .inl ⟨by dsimp only; omega, rfl⟩⟩
    | true =>
      rw [if_pos rfl] at hrd
      rw [hrd] at hP
      dsimp only at hP
      have hts := read_small (by omega) hrd
      have hTL6 := (hTL2.frm hf5).le hl6 (fun x hx => by have := (hTL2.lt x hx).2; simp; omega)
      have hrow6 := (hrow.frm hf5).le hl6 (fun x hx => by have := hrow.lt x hx; simp; omega)
      simp only [Tok.cells] at o6
      refine sgo ?_
      refine wlb1a (size := 8) (vs := Tok.cells t p c) (fun b10 w10 hb10 o10 hf10 => ?_) (hx := rfl) (hv := rfl)
      have hTL10 := hTL6.frm hf10
      have hrow10 := hrow6.frm hf10
      have hzr := hfr.size
      refine sgo ?_
      refine wlapp hTL10.row o10.sg (fun q11 c11 w11 hr11 hl11 => ?_) (hl := rfl) (h1 := tok_one _ _ _)
      have hTL11 : TL w11 w1.heap.size q11 c11 (ms ++ [⟨t, p, c⟩]) := by
        refine hTL10.push (m := ⟨t, p, c⟩) ⟨hrow10, fun x hx => by have := hlow x hx; omega⟩ (fun x hx hx' => ?_) hr11 hl11 (hfr6.trans hf10).size
        have := hlow x hx
        have := (hTL.lt x hx').2
        omega
      have hfr11 : Frm w1 w11 := (hfr6.trans hf10).step hl11.1 (fun x hx => hTL.low x hx)
      have hml2 : (ms ++ [(⟨t, p, c⟩ : TokM)]).length = ms.length + 1 := by rw [List.length_append]; rfl
      refine sgo ?_
      refine ⟨(i + 1, q11, c11, ms ++ [⟨t, p, c⟩]), ⟨?_, rfl, rfl, rfl, trivial⟩, ⟨by dsimp only; omega, by rw [List.map_append]; exact hP, by dsimp only; omega, fun m hm => ?_, hTL11, hfr11⟩, by dsimp only; omega⟩
      · dsimp only
        rw [hml2]
        rfl
      · rcases List.mem_append.1 hm with hm | hm
        · exact hsm m hm
        · rw [List.mem_singleton.1 hm]; exact hts
  · have hio : i = L.length := by omega
    clear hc
    subst hio
    rw [List.drop_length, parseF] at hP
    subst hP
    refine sgo ?_
    (first | refine fp1 (.inl rfl) rfl rfl ?_ | refine fp2 (.inl rfl) rfl rfl rfl ?_ | refine fp3 (.inl rfl) rfl rfl rfl rfl ?_ | refine fp0 (.inr rfl) rfl ?_ | refine fp0 (.inl rfl) rfl ?_ | refine fp1 (.inr rfl) rfl rfl ?_)
    exact ⟨hf1.trans hfr, .inr ⟨rfl, q, cc, ms, rfl, rfl, hTL.lower hf1.size, hsm, by omega⟩⟩
end Go.Proofs.Ytfomfplddncakaa

/-
  Lists of tokens compared, and spoiled.
-/
set_option linter.unusedSimpArgs false
set_option linter.unusedVariables false
set_option linter.unnecessarySimpa false
namespace Go.Proofs.Ytfomfplddncakaa
open Go Go.Sv Go.RowKit

def placeEq (a b : Tok) : Bool := decide (a.a = b.a) && (decide (a.b = b.b) && (decide (a.d = b.d) && true))
def sameR (pl : Bool) : List Tok → List Tok → Bool
  | [], [] => true
  | a :: xs, b :: ys => eqR a b && (!pl || placeEq a b) && sameR pl xs ys
  | _, _ => false
theorem sameR_len {pl : Bool} : ∀ {xs ys : List Tok}, sameR pl xs ys = true → xs.length = ys.length
  | [], [], _ => rfl
  | a :: xs, b :: ys, h => by
    simp only [sameR, Bool.and_eq_true] at h
    simp only [List.length_cons, sameR_len h.2]
  | [], b :: ys, h => by simp [sameR] at h
  | a :: xs, [], h => by simp [sameR] at h
theorem sameR_at {pl : Bool} : ∀ {xs ys : List Tok} (i : Nat) {a b : Tok}, xs[i]? = some a → ys[i]? = some b → (sameR pl (xs.drop i) (ys.drop i) = (eqR a b && (!pl || placeEq a b) && sameR pl (xs.drop (i + 1)) (ys.drop (i + 1))))
  | [], _, i, a, b, h, _ => by simp at h
  | _ :: _, [], i, a, b, _, h => by simp at h
  | x :: xs, y :: ys, 0, a, b, h, k => by
    simp only [List.getElem?_cons_zero, Option.some.injEq] at h k
    subst h k
    rfl
  | x :: xs, y :: ys, i + 1, a, b, h, k => by
    have := sameR_at (pl := pl) (xs := xs) (ys := ys) i (a := a) (b := b) (by simpa using h) (by simpa using k)
    simpa using this
theorem eqR_self (a : Tok) : eqR a a = true := by simp [eqR]
theorem sameR_self (pl : Bool) : ∀ xs : List Tok, sameR pl xs xs = true
  | [] => rfl
  | a :: xs => by simp [sameR, eqR_self, placeEq, sameR_self pl xs]

theorem place_seg {ms : List TokM} {i : Nat} {m : TokM} (h : ms[i]? = some m) : ((ms.flatMap TokM.cells).drop (i * 8 + 5)).take 3 = [int m.t.a, int m.t.b, int m.t.d] := by
  have h1 := fm_seg TokM.len ms h
  have h2 : ((ms.flatMap TokM.cells).drop (i * 8 + 5)).take 3 = (((ms.flatMap TokM.cells).drop (i * 8)).take 8).drop 5 := by
    rw [List.drop_take, List.drop_drop]
  rw [h2, h1]
  rfl
set_option maxHeartbeats 2000000 in
theorem same_ok (ms ns : List TokM) (p q : Option Addr) (c cc : Nat) (pl : Bool) (h1 : ms.length ≤ 1048576) (h2 : ns.length ≤ 1048576) (hs : ∀ m ∈ ms, m.t.small) (hs2 : ∀ m ∈ ns, m.t.small) (w : World) (hT : Toks w p ms) (hU : Toks w q ns) :
    PureC Try.prog 21 #[.slice p ms.length c, .slice q ns.length cc, .bool pl] w (.bool (sameR pl (ms.map TokM.t) (ns.map TokM.t))) := by
  refine enter (l := [.slice p ms.length c, .slice q ns.length cc, .bool pl]) Try.func21 rfl Try.ntmps21 (by kernel_rfl) rfl ?_
  refine sgo ?_
  (show WC _ _ _ _ _ _ _; first | refine WC_dec rfl (fun hc => ?_) (fun hc => ?_) | refine WC_cond rfl (fun hc => ?_) (fun hc => ?_))
  · refine sgo ?_
    (first | refine fp1 (.inl rfl) rfl rfl ?_ | refine fp2 (.inl rfl) rfl rfl rfl ?_ | refine fp3 (.inl rfl) rfl rfl rfl rfl ?_ | refine fp0 (.inr rfl) rfl ?_ | refine fp0 (.inl rfl) rfl ?_ | refine fp1 (.inr rfl) rfl rfl ?_); refine ⟨?_, by (first | exact Frm.refl _ | assumption | exact Go.Sv.Sep.frm (by assumption) | (refine Frm.trans ?_ (by assumption); first | exact Frm.refl _ | assumption))⟩; (try simp only [realB, rv_true, Nat.reduceBEq, cond_true, cond_false, entG, real_lif, updGL])
    cases h : sameR pl (ms.map TokM.t) (ns.map TokM.t) with
    | false => rfl
    | true =>
      have := sameR_len h
      simp only [List.length_map] at this
      exact absurd (by rw [this]) hc
  have hle : ms.length = ns.length := by
    have : ¬ ((ms.length : Int) ≠ ns.length) := hc
    omega
  clear hc
  refine sgo ?_
  refine wcloop (X := Nat) (fun i => [(0, .slice p ms.length c), (1, .slice q ns.length cc), (2, .bool pl), (14, int ms.length), (15, int i)])
    (fun i wr => i ≤ ms.length ∧ sameR pl ((ms.map TokM.t).drop i) ((ns.map TokM.t).drop i) = sameR pl (ms.map TokM.t) (ns.map TokM.t) ∧ Frm w wr) (fun i => ms.length - i) 0 ⟨rfl, rfl, rfl, rfl, rfl, trivial⟩ ⟨by omega, rfl, Frm.refl _⟩ ?_
  rintro i wr ρ ⟨hil, hsa, hf⟩
  have hTr := hT.frm hf
  have hUr := hU.frm hf
  refine sgo ?_
  (show WC _ _ _ _ _ _ _; first | refine WC_dec rfl (fun hc => ?_) (fun hc => ?_) | refine WC_cond rfl (fun hc => ?_) (fun hc => ?_))
  · have hlt : i < ms.length := by omega
    have hSg := hTr.im.sg
    have hSh := hUr.im.sg
    have hIm := hTr.im
    have hIn := hUr.im
    have hx : ms[i]? = some ms[i] := List.getElem?_eq_getElem hlt
    have hy : ns[i]? = some ns[i] := List.getElem?_eq_getElem (by omega)
    have hseg := fm_seg TokM.len ms hx
    have hseh := fm_seg TokM.len ns hy
    have hat := hTr.each _ (List.getElem_mem hlt)
    have hau := hUr.each _ (List.getElem_mem (show i < ns.length by omega))
    have hsm := hs _ (List.getElem_mem hlt)
    have hsn := hs2 _ (List.getElem_mem (show i < ns.length by omega))
    have hps : ∃ q, p = some q := hSg.some (by have := fm_len TokM.len ms; omega)
    have hqs : ∃ a, q = some a := hSh.some (by have := fm_len TokM.len ns; omega)
    have hfl := fm_len TokM.len ms
    have hfl2 := fm_len TokM.len ns
    have hst := sameR_at (pl := pl) (xs := ms.map TokM.t) (ys := ns.map TokM.t) i (a := ms[i].t) (b := ns[i].t) (by simp [hx]) (by simp [hy])
    rw [hsa] at hst
    have hplm := place_seg hx
    have hpln := place_seg hy
    generalize ms[i] = m at *
    generalize ns[i] = n at *
    clear hc
    refine sgo ?_
    refine wcdraw ?_
    refine qgo ?_
    rw [hseg, hseh]
    refine qlcallp (fun w' hw' => refEqual_ok m n hsm hsn w' (hat.frm hw') (hau.frm hw')) ?_
    refine qgo ?_
    rw [hplm, hpln]
    refine qlg (v := .bool (!(placeEq m.t n.t))) ?_ rfl rfl (fun hh => YQ.ofY fun w _ => y_aneq (evG hh) (evG hh) rfl)
    refine qgo ?_
    refine QL_nil ?_
    intro wd hwd
    have hfd := hf.trans hwd
    refine sgo ?_
    (show WC _ _ _ _ _ _ _; first | refine WC_dec rfl (fun hc => ?_) (fun hc => ?_) | refine WC_cond rfl (fun hc => ?_) (fun hc => ?_))
    · refine sgo ?_
      (first | refine fp1 (.inl rfl) rfl rfl ?_ | refine fp2 (.inl rfl) rfl rfl rfl ?_ | refine fp3 (.inl rfl) rfl rfl rfl rfl ?_ | refine fp0 (.inr rfl) rfl ?_ | refine fp0 (.inl rfl) rfl ?_ | refine fp1 (.inr rfl) rfl rfl ?_); refine ⟨?_, by (first | exact Frm.refl _ | assumption | exact Go.Sv.Sep.frm (by assumption) | (refine Frm.trans ?_ (by assumption); first | exact Frm.refl _ | assumption))⟩; (try simp only [realB, rv_true, Nat.reduceBEq, cond_true, cond_false, entG, real_lif, updGL])
      rw [hst]
      revert hc
      cases eqR m.t n.t <;> cases pl <;> cases placeEq m.t n.t <;> simp [pkb]
    · refine sgo ?_
      refine ⟨i + 1, ⟨rfl, rfl, rfl, rfl, rfl, trivial⟩, ⟨by omega, ?_, hfd⟩, by omega⟩
      rw [hst]
      revert hc
      cases eqR m.t n.t <;> cases pl <;> cases placeEq m.t n.t <;> simp [pkb]
  · obtain rfl : i = ms.length := by omega
    refine sgo ?_
    (first | refine fp1 (.inl rfl) rfl rfl ?_ | refine fp2 (.inl rfl) rfl rfl rfl ?_ | refine fp3 (.inl rfl) rfl rfl rfl rfl ?_ | refine fp0 (.inr rfl) rfl ?_ | refine fp0 (.inl rfl) rfl ?_ | refine fp1 (.inr rfl) rfl rfl ?_); refine ⟨?_, by (first | exact Frm.refl _ | assumption | exact Go.Sv.Sep.frm (by assumption) | (refine Frm.trans ?_ (by assumption); first | exact Frm.refl _ | assumption))⟩; (try simp only [realB, rv_true, Nat.reduceBEq, cond_true, cond_false, entG, real_lif, updGL])
    rw [← hsa, List.drop_eq_nil_of_le (by simp), List.drop_eq_nil_of_le (by simp; omega)]
    rfl

/-! ## spoil -/
theorem pair_ne {α : Type} {R : α → α → Prop} (hs : ∀ a b, R a b → R b a) : ∀ {l : List α}, l.Pairwise R → ∀ {a b}, a ∈ l → b ∈ l → a ≠ b → R a b
  | [], _, _, _, h, _, _ => by cases h
  | x :: l, hp, a, b, ha, hb, hne => by
    rw [List.pairwise_cons] at hp
    rcases List.mem_cons.1 ha with h1 | h1
    · rcases List.mem_cons.1 hb with h2 | h2
      · exact absurd (h1.trans h2.symm) hne
      · rw [h1]; exact hp.1 b h2
    · rcases List.mem_cons.1 hb with h2 | h2
      · rw [h2]; exact hs _ _ (hp.1 a h1)
      · exact pair_ne hs hp.2 h1 h2 hne
def quest (m : TokM) : TokM := ⟨{ m.t with text := [63] }, m.p, m.c⟩
set_option maxHeartbeats 2000000 in
theorem spoil_ok (ms : List TokM) (q : Option Addr) (cc lo : Nat) (h1 : ms.length ≤ 1048576) (hs : ∀ m ∈ ms, m.t.attrs.length ≤ 1048576) (w : World) (hT : TL w lo q cc ms) :
    CallsR Try.prog 22 #[.slice q ms.length cc] w fun _ w' => Le (tbl q ms) w w' := by
  refine enter (l := [.slice q ms.length cc]) Try.func22 rfl Try.ntmps22 (by kernel_rfl) rfl ?_
  refine sgo ?_
  refine wcloop (X := Nat) (fun i => [(0, .slice q ms.length cc), (4, .slice q ms.length cc), (5, int ms.length), (6, int i)])
    (fun i wr => i ≤ ms.length ∧ Row wr 8 q ms.length cc (((ms.take i).map quest ++ ms.drop i).flatMap TokM.cells) ∧ (∀ m ∈ ms, ∃ xs, Row wr 2 m.p m.t.attrs.length m.c xs) ∧ Le (tbl q ms) w wr) (fun i => ms.length - i) 0 ⟨rfl, rfl, rfl, rfl, trivial⟩ ⟨by omega, by simpa using hT.row, fun m hm => ⟨_, (hT.each m hm).1⟩, Le.refl _ _⟩ ?_
  rintro i wr ρ ⟨hil, hrow, hat, hle⟩
  refine sgo ?_
  (show WC _ _ _ _ _ _ _; first | refine WC_dec rfl (fun hc => ?_) (fun hc => ?_) | refine WC_cond rfl (fun hc => ?_) (fun hc => ?_))
  · have hlt : i < ms.length := by omega
    have hx : ms[i]? = some ms[i] := List.getElem?_eq_getElem hlt
    have hmem : ms[i] ∈ ms := List.getElem_mem hlt
    have hxi : ((ms.take i).map quest ++ ms.drop i)[i]? = some ms[i] := by rw [List.getElem?_append_right (by simp; omega)]; simp [hlt, Nat.min_eq_left (Nat.le_of_lt hlt)]
    have hset : ((ms.take i).map quest ++ ms.drop i).set i (quest ms[i]) = (ms.take (i + 1)).map quest ++ ms.drop (i + 1) := by
      rw [List.set_append_right _ _ (by simp; omega), List.take_add_one, hx, List.map_append]
      simp only [List.length_map, List.length_take, Nat.min_eq_left (Nat.le_of_lt hlt), Nat.sub_self, Option.toList, List.map_cons, List.map_nil, List.append_assoc, List.cons_append, List.nil_append]
      rw [List.drop_eq_getElem_cons hlt]
      rfl
    have hap := hT.apart _ hmem
    have hsm := hs _ hmem
    have hmt : ∀ x ∈ rb ms[i].p, x ∈ tbl q ms := fun x hx => List.mem_append_right _ (List.mem_flatMap.2 ⟨_, hmem, hx⟩)
    have hother : ∀ m' ∈ ms, m' ≠ ms[i] → ∀ x ∈ rb m'.p, x ∉ rb ms[i].p := fun m' h1 h2 => pair_ne (fun a b h x hx hx' => h x hx' hx) hT.pair h1 hmem h2
    have hg3 := fm_get TokM.len ((ms.take i).map quest ++ ms.drop i) i 3 (by omega)
    rw [hxi] at hg3
    replace hg3 : (((ms.take i).map quest ++ ms.drop i).flatMap TokM.cells)[i * 8 + 3]? = some (.slice ms[i].p ms[i].t.attrs.length ms[i].c) := hg3
    have hup := flat_upd (f := TokM.cells) (k := 8) TokM.len 2 [str [63]] ((ms.take i).map quest ++ ms.drop i) i ms[i] (quest ms[i]) hxi (by decide) rfl
    rw [hset] at hup
    have hfl := fm_len TokM.len ((ms.take i).map quest ++ ms.drop i)
    have hml : ((ms.take i).map quest ++ ms.drop i).length = ms.length := by simp; omega
    have hps : ∃ a, q = some a := hrow.sg.some (by omega)
    generalize ms[i] = m at *
    generalize ((ms.take i).map quest ++ ms.drop i).flatMap TokM.cells = F at *
    clear hc hx hxi
    have hSg := hrow.sg
    refine sgo ?_
    refine wcloop (X := Nat) (fun k => [(0, .slice q ms.length cc), (2, int i), (4, .slice q ms.length cc), (5, int ms.length), (6, int i), (14, int m.t.attrs.length), (15, int k)])
        (fun k wr => k ≤ m.t.attrs.length ∧ Row wr 8 q ms.length cc F ∧ (∀ m ∈ ms, ∃ xs, Row wr 2 m.p m.t.attrs.length m.c xs) ∧ Le (tbl q ms) w wr) (fun k => m.t.attrs.length - k) 0 ⟨rfl, rfl, rfl, rfl, rfl, rfl, rfl, trivial⟩ ⟨by omega, hrow, hat, hle⟩ ?_
    clear hrow hat hle hSg
    rintro k wr2 ρ2 ⟨hk, hrow, hat, hle⟩
    have hSg := hrow.sg
    obtain ⟨xs, hr⟩ := hat _ hmem
    refine sgo ?_
    (show WC _ _ _ _ _ _ _; first | refine WC_dec rfl (fun hc => ?_) (fun hc => ?_) | refine WC_cond rfl (fun hc => ?_) (fun hc => ?_))
    · have hkl : k < m.t.attrs.length := by omega
      clear hc
      have hrl := hr.len
      have hmp : ∃ a, m.p = some a := hr.sg.some (by omega)
      refine sgo ?_
      refine wlrst hr (fun w3 hr3 hl3 => ?_) (hk := by omega)
      refine sgo ?_
      refine ⟨k + 1, ⟨rfl, rfl, rfl, rfl, rfl, rfl, rfl, trivial⟩, ⟨by omega, hrow.le hl3 (fun x hx hx' => hap x hx' hx), fun m' hm' => ?_, hle.trans (hl3.mono fun x hx _ => hmt x hx)⟩, by omega⟩
      by_cases e : m' = m
      · subst e; exact ⟨_, hr3⟩
      · obtain ⟨ys, hy⟩ := hat m' hm'
        exact ⟨ys, hy.le hl3 fun x hx => hother m' hm' e x hx⟩
    · clear hc
      refine sgo ?_
      refine wlrst hrow (fun w3 hr3 hl3 => ?_) (hk := by omega)
      refine sgo ?_
      refine ⟨i + 1, ⟨rfl, rfl, rfl, rfl, trivial⟩, ⟨by omega, ?_, fun m' hm' => ?_, hle.trans (hl3.mono fun x hx _ => List.mem_append_left _ hx)⟩, by omega⟩
      · rw [← hup]; exact hr3
      · obtain ⟨ys, hy⟩ := hat m' hm'
        exact ⟨ys, hy.le hl3 fun x hx => hT.apart m' hm' x hx⟩
  · obtain rfl : i = ms.length := by omega
    refine sgo ?_
    (first | refine fp1 (.inl rfl) rfl rfl ?_ | refine fp2 (.inl rfl) rfl rfl rfl ?_ | refine fp3 (.inl rfl) rfl rfl rfl rfl ?_ | refine fp0 (.inr rfl) rfl ?_ | refine fp0 (.inl rfl) rfl ?_ | refine fp1 (.inr rfl) rfl rfl ?_)
    exact hle
end Go.Proofs.Ytfomfplddncakaa

/-
  The law TokenParses.
-/
set_option linter.unusedSimpArgs false
set_option linter.unusedVariables false
set_option linter.unnecessarySimpa false
namespace Go.Proofs.Ytfomfplddncakaa
open Go Go.Sv Go.RowKit

set_option maxHeartbeats 1000000 in
theorem tokenParses_ok (s : List UInt8) (hb : s.length + 1 ≤ 1048576) (w : World) : PureC Try.prog 7 #[str s] w (.bool true) := by
  have hp := fun w => parse_ok s (by omega) w
  have hr := fun w => refParse_ok s (by omega) w
  generalize parseR s = R at *
  obtain ⟨T, N⟩ := R
  dsimp only at hp hr
  refine enter (l := [str s]) Try.func7 rfl Try.ntmps7 (by kernel_rfl) rfl ?_
  refine sgo ?_
  refine wlcall (hp _) ?_
  rintro _ w1 ⟨hf1, ⟨hN, rfl⟩ | ⟨hN, q1, c1, n1, rfl, e1, T1, s1, l1⟩⟩
  · refine sgo ?_
    refine wlcall (hp _) ?_
    rintro _ w2 ⟨hf2, ⟨_, rfl⟩ | ⟨hN2, _⟩⟩
    rotate_left
    · omega
    refine sgo ?_
    refine wlcall (hr _) ?_
    rintro _ w3 ⟨hf3, ⟨_, rfl⟩ | ⟨hN3, _⟩⟩
    rotate_left
    · omega
    refine sgo ?_
    refine wcyes ?_ (ht := by simp; omega)
    refine sgo ?_
    refine wlcallgp (vals := []) (fun _ => lives_ok _) (fun w12 hf12 => ?_) (ha := fun _ => rfl)
    have hfe := ((hf1.trans hf2).trans hf3).trans hf12
    refine sgo ?_
    (first | refine fp1 (.inl rfl) rfl rfl ?_ | refine fp2 (.inl rfl) rfl rfl rfl ?_ | refine fp3 (.inl rfl) rfl rfl rfl rfl ?_ | refine fp0 (.inr rfl) rfl ?_ | refine fp0 (.inl rfl) rfl ?_ | refine fp1 (.inr rfl) rfl rfl ?_); refine ⟨?_, by (first | exact Frm.refl _ | assumption | exact Go.Sv.Sep.frm (by assumption) | (refine Frm.trans ?_ (by assumption); first | exact Frm.refl _ | assumption))⟩; (try simp only [realB, rv_true, Nat.reduceBEq, cond_true, cond_false, entG, real_lif, updGL])
    all_goals (simp [pkb])
  · refine sgo ?_
    refine wlcall (hp _) ?_
    rintro _ w2 ⟨hf2, ⟨hN2, _⟩ | ⟨_, q2, c2, n2, rfl, e2, T2, s2, l2⟩⟩
    · omega
    refine sgo ?_
    refine wlcall (hr _) ?_
    rintro _ w3 ⟨hf3, ⟨hN3, _⟩ | ⟨_, q3, c3, n3, rfl, e3, T3, s3, l3⟩⟩
    · omega
    subst hN
    have hn2 : n2.length = n1.length := by have := congrArg List.length (e2.trans e1.symm); simpa using this
    have hn3 : n3.length = n1.length := by have := congrArg List.length (e3.trans e1.symm); simpa using this
    have e13 : sameR true (n1.map TokM.t) (n3.map TokM.t) = true := by rw [e1, e3]; exact sameR_self true _
    have e23 : sameR true (n2.map TokM.t) (n3.map TokM.t) = true := by rw [e2, e3]; exact sameR_self true _
    have b1 := T1.lt
    have z1 := hf1.size
    have z2 := hf2.size
    have T1a := (T1.frm hf2).frm hf3
    have T2a := T2.frm hf3
    refine sgo ?_
    refine wlcallgp (vals := [.slice q1 n1.length c1, .slice q3 n3.length c3, .bool true]) (fun _ => same_ok n1 n3 q1 q3 c1 c3 true l1 (by omega) s1 s3 _ T1a.toks T3.toks) fun w6 hf6 => ?_
    rw [e13]
    refine sgo ?_
    refine wlcall (spoil_ok n1 q1 c1 _ l1 (fun m hm => (s1 m hm).attrs) _ (T1a.frm hf6)) ?_
    rintro v9 w9 hl9
    have T2b := (T2a.frm hf6).le hl9 (fun x hx hx' => by have := (T2.lt x hx).1; have := (b1 x hx').2; omega)
    have T3b := (T3.frm hf6).le hl9 (fun x hx hx' => by have := (T3.lt x hx).1; have := (b1 x hx').2; omega)
    have hf09 : Frm w w9 := (((hf1.trans hf2).trans hf3).trans hf6).step hl9 (fun x hx => (b1 x hx).1)
    refine sgo ?_
    refine wlpure (same_ok n2 n3 q2 q3 c2 c3 true (by omega) (by omega) s2 s3 _ T2b.toks T3b.toks) fun w10 hf10 => ?_
    rw [e23]
    refine sgo ?_
    refine wlcallgp (vals := []) (fun _ => lives_ok _) (fun w12 hf12 => ?_) (ha := fun _ => rfl)
    have hfe := (hf09.trans hf10).trans hf12
    refine sgo ?_
    (first | refine fp1 (.inl rfl) rfl rfl ?_ | refine fp2 (.inl rfl) rfl rfl rfl ?_ | refine fp3 (.inl rfl) rfl rfl rfl rfl ?_ | refine fp0 (.inr rfl) rfl ?_ | refine fp0 (.inl rfl) rfl ?_ | refine fp1 (.inr rfl) rfl rfl ?_); refine ⟨?_, by (first | exact Frm.refl _ | assumption | exact Go.Sv.Sep.frm (by assumption) | (refine Frm.trans ?_ (by assumption); first | exact Frm.refl _ | assumption))⟩; (try simp only [realB, rv_true, Nat.reduceBEq, cond_true, cond_false, entG, real_lif, updGL])
    rfl
end Go.Proofs.Ytfomfplddncakaa

/-
  From a frame to what a row asks behind the call: nothing that was there has turned (new blocks may be frozen).
-/
set_option linter.unusedSimpArgs false
set_option linter.unusedVariables false
set_option linter.unnecessarySimpa false
namespace Go.ChangeShapes
section
variable {H : Type} {enc : TypeId × Value → H} {P : Program}
theorem post_frm {f : Func} {s : ChangeSpec} {apart fresh handsOn again : Bool} {W W' : World} {args : Array Value} {v : Value} {ds gs : List (DataW H)} {before pa pv : List MemPlace}
    (hW : DataW.Whole enc P f.params.toList s.vars apart W args.toList ds gs before)
    (hres : ∀ (b : Nat) (sp : Nat → Bool) (hd : Bool), DataW.TrodAll enc P W' b sp hd f.resultTypes.toList (v.resultList f.resultTypes.size) (s.fn H (ds ++ gs)).results [])
    (hargs : ∀ sp : Nat → Bool, (∀ p ∈ before, sp p.block = true) → DataW.TrodAll enc P W' 0 sp true f.params.toList args.toList (s.fn H (ds ++ gs)).args pa)
    (hvars : ∀ sp : Nat → Bool, (∀ p ∈ before, sp p.block = true) → DataW.TrodVars enc P W' sp s.vars (s.fn H (ds ++ gs)).vars pv)
    (hps : before = pa ++ pv) (hk : Sv.Frm W W')
    (hok : ∀ (j : Nat) (t : TypeId) (r : Value), f.resultTypes[j]? = some t → (v.resultList f.resultTypes.size)[j]? = some r → Value.okWide P W' .any 0 t r) :
    s.post enc P f apart fresh handsOn again W args v W' := by
  have hold : ∀ p ∈ before, (fun b => decide (b < W.heap.size)) p.block = true := fun p hp => by simpa using hW.lt p hp
  refine ⟨ds, gs, before, [], pa, pv, hW, hres _ _ _, hargs _ hold, hvars _ hold, World.keptBut_mono (fun p hp => ⟨hp, ?_⟩) (RowKit.Below.frame hk (· ∈ before)), fun _ => ?_⟩
  · rw [hps, List.mem_append] at hp
    exact Or.inr hp
  · have hlt := hW.lt
    obtain ⟨_, _, _, _, _, hz, hn⟩ := hW
    refine ⟨hok, _, _, ([] ++ pa) ++ pv, ⟨[] ++ pa, pv, trodAll_append (hargs _ (fun _ _ => rfl)) (hres _ _ _), hvars _ (fun _ _ => rfl), rfl, ?_, ?_⟩, ?_⟩
    · intro b off hp
      have hp' : (.cell b off : MemPlace) ∈ before := by rw [hps]; simpa using hp
      rw [RowKit.Below.frozen hk (hlt _ hp')]
      exact hz b off hp'
    · intro ha
      have := hn ha
      rw [hps] at this
      simpa using this
    · intro p hp _
      rw [hps]
      simpa using hp
end
end Go.ChangeShapes

/-
  From a reading of the arguments to what lies in memory; and back: a law leaves the arguments as they were.
-/
set_option linter.unusedSimpArgs false
set_option linter.unusedVariables false
set_option linter.unnecessarySimpa false
namespace Go.Sv
open Go Go.RowKit Go.ChangeShapes Go.WideShapes
/-- a law's ending: it answered true, and left all as it was -/
theorem trodAll_frm {H : Type} {enc : TypeId × Value → H} {P : Program} (hl : laidOutB P = true) {W W' : World} (hf : Sv.Frm W W') {sp : Nat → Bool} : ∀ {ts : List TypeId} {vs : List Value} {ds : List (DataW H)} {ps : List MemPlace},
    (∀ t ∈ ts, P.readableRec t = true ∧ t < P.types.size) → DataW.TrodAll enc P W 0 (fun _ => true) true ts vs ds ps → (∀ p ∈ ps, p.block < W.heap.size) → (∀ p ∈ ps, sp p.block = true) → DataW.TrodAll enc P W' 0 sp true ts vs ds ps
  | [], [], [], _, _, h, _, _ => h
  | t :: ts, v :: vs, d :: ds, _, ht, ⟨p, q, h1, h2, e⟩, hlt, hs => by
    subst e
    refine ⟨p, q, ?_, ?_, rfl⟩
    · obtain ⟨hr, hrow⟩ := ht t List.mem_cons_self
      exact WideElems.Trod_stays hl hr hrow h1 (fun x hx => RowKit.Below.same hf (hlt x (List.mem_append_left _ hx))) fun x hx => hs x (List.mem_append_left _ hx)
    · exact trodAll_frm hl hf (fun t ht' => ht t (List.mem_cons_of_mem _ ht')) h2 (fun x hx => hlt x (List.mem_append_right _ hx)) fun x hx => hs x (List.mem_append_right _ hx)
theorem law_ends {H : Type} {enc : TypeId × Value → H} {P : Program} {f : Func} {s : ChangeSpec} {W W' : World} {args : Array Value} {ds gs : List (DataW H)} {before : List MemPlace} {tb : TypeId}
    (hl : laidOutB P = true) (hT : ∀ t ∈ f.params.toList, P.readableRec t = true ∧ t < P.types.size) (hv : s.vars = []) (hrt : f.resultTypes = #[tb]) (hb : P.underlying tb = some .bool)
    (hW : DataW.Whole enc P f.params.toList s.vars false W args.toList ds gs before) (hfn : s.fn H (ds ++ gs) = { results := [.lit (.bool true)], args := ds ++ gs }) (hg : Frm W W') :
    s.post enc P f false true false false W args (.bool true) W' := by
  have hW' := hW
  have hlt := hW.lt
  obtain ⟨p, q, hA, hV, rfl, _, _⟩ := hW
  rw [hv] at hV
  obtain ⟨rfl, rfl⟩ := trodVars_none hV
  have hrl : (Value.bool true).resultList f.resultTypes.size = [.bool true] := by rw [hrt]; rfl
  simp only [List.append_nil] at hlt hfn
  refine post_frm (pa := p) (pv := []) hW' (fun _ _ _ => ?_) (fun sp hsp => ?_) (fun _ _ => ?_) rfl hg (ok_one hrt rfl (okWide_bool_mk hb _))
  · rw [hrt]
    simp only [List.append_nil, hfn]
    exact trodAll_cons_mk (shut_bool hb _) trodAll_mk0
  · simp only [List.append_nil, hfn]
    exact trodAll_frm hl hg hT hA hlt (fun x hx => hsp x (by simpa using hx))
  · simp only [List.append_nil, hfn, hv]
    rfl
end Go.Sv
namespace Go.Proofs.Ytfomfplddncakaa
open Go Go.Sv Go.RowKit Go.ChangeShapes Go.WideShapes Go.Deep

theorem laidOut : laidOutB Try.prog = true := by kernel_rfl
theorem own : ownKnob Try.prog.godebug = none := by kernel_rfl

section
variable {H : Type} {P : Program} {enc : TypeId × Value → H} {w : World} {base : Nat} {spare : Nat → Bool} {held : Bool}
theorem bulkAll_eq : ∀ l : List (DataW H), Rows.uptoBulkAll l = (l.map Rows.uptoBulk).sum
  | [] => by simp [Rows.uptoBulkAll]
  | d :: l => by simp only [Rows.uptoBulkAll, List.map_cons, List.sum_cons, bulkAll_eq l]
theorem bulk_str (l : List UInt8) : Rows.uptoBulk (.lit (.string l) : DataW H) = l.length + 1 := by simp only [Rows.uptoBulk]
theorem str_of (s : ByteArray) : Value.string s = str s.data.toList := by cases s; rfl
/-- a cell that is a text -/
theorem open_strc {t : TypeId} {fuel : Nat} {cs : List Value} {x : DataW H × List MemPlace} (ht : P.underlying t = some .string) (h : DataW.trod enc P w base spare held fuel t cs = some x) : ∃ l : List UInt8, cs = [str l] ∧ Rows.uptoBulk x.1 = l.length + 1 := by
  obtain ⟨s, rfl, rfl, _⟩ := DataW.trod_string ht h
  exact ⟨s.data.toList, by rw [str_of], bulk_str _⟩
theorem small_le {ds : List (DataW H)} (hk : Rows.uptoSmall H ds = true) : (ds.map Rows.uptoBulk).sum ≤ 1048576 := by
  have := of_decide_eq_true hk
  rwa [bulkAll_eq] at this
end
end Go.Proofs.Ytfomfplddncakaa

/-
  Readings of attributes and tokens: what lies in memory.
-/
set_option linter.unusedSimpArgs false
set_option linter.unusedVariables false
set_option linter.unnecessarySimpa false
namespace Go.Proofs.Ytfomfplddncakaa
open Go Go.Sv Go.RowKit Go.ChangeShapes Go.WideShapes Go.Deep

section
variable {H : Type} {enc : TypeId × Value → H} {w : World} {base : Nat} {spare : Nat → Bool} {held : Bool}
set_option maxRecDepth 100000 in
theorem open_str1 {v : Value} {d : DataW H} {ps : List MemPlace} {r : Reach} {b0 : Nat} (hv : Value.okWide Try.prog w r b0 9 v) (h : DataW.Trod enc Try.prog w base spare held 9 v d ps) :
    ∃ l : List UInt8, v = str l ∧ l.length + 1 ≤ Rows.uptoBulk d := by
  obtain ⟨s, rfl⟩ := okWide_string Try.underlying9 hv
  obtain ⟨fuel, hf⟩ := h
  obtain ⟨l, e, hw⟩ := open_strc Try.underlying9 hf
  dsimp only at hw
  exact ⟨l, by simpa [Value.cells] using e, by omega⟩
end
end Go.Proofs.Ytfomfplddncakaa

