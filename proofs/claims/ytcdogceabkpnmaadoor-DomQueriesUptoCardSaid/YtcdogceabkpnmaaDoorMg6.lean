/-
  Our texts SvPb, SvEvZ, SvEvQ, SvEvR, SvEvS, SvEd, SvWk, SvEbC, SvTpD, SvRec, SvTpE, SvTpG, SvRec2, SvTpH, SvTm, SvTpL, SvEbD, SvDqL, SvDqM, SvPt, SvDqN, SvDx, SvDqO, SvDk, SvDl, SvDz, SvDf, SvDmB, SvDm, SvDn, SvDp, SvDg, SvDb, SvDo, SvDq, SvDzB, SvDqP, joined.
-/
import Derived.Test.YtcdogceabkpnmaaDoorMg5
import Derived.RecoverIn
import Derived.WalkSmall
import Derived.Laws.Build
import Derived.Laws.MakeOwn
/-
  A builder as a piece of memory.
-/
set_option linter.unusedSimpArgs false
set_option linter.unusedVariables false
set_option linter.unnecessarySimpa false
namespace Go.Sv
open Go Go.RowKit
def pBld (T E : TypeId) (b : Nat) (q : Option Addr) (s : List UInt8) : Plot where
  foot := b :: rb q
  ok w := Bld T E w b q s
  view := (none, [])
  loc w w' h hb := by
    obtain ⟨pv, c, h⟩ := h
    refine ⟨pv, c, h.hp, (hb b List.mem_cons_self).trans h.cell, ⟨h.row.1, ?_⟩, h.ne⟩
    rcases h.row.2 with h1 | ⟨g, cap, cur, hv, h2, h3, h4⟩
    · exact .inl h1
    · exact .inr ⟨g, cap, cur, hv, h2, (hb g (List.mem_cons_of_mem _ (rb_own.1 (by rw [hv]; rfl)))).trans h3, h4⟩
  lt w h := h.lt
  sg _ _ := .inl rfl
section
variable {w0 w w' : World} {cs : List Plot} {T E : TypeId} {b : Nat} {q q' : Option Addr} {s s' : List UInt8}
/-- what is above a place is given away -/
theorem Sep.below {B : Nat} (h : Sep w0 w cs) (hB : w0.heap.size ≤ B) (hc : ∀ c ∈ cs, ∀ x ∈ c.foot, x < B) (hb : Below B w w') : Sep w0 w' cs :=
  ⟨Below.trans h.frm (hb.mono hB), fun c hcc => c.loc w w' (h.ok c hcc) fun x hx => hb.block x (hc c hcc x hx), h.low, h.apart⟩
end
end Go.Sv

/-
  sieveref18: At.
-/
set_option linter.unusedSimpArgs false
set_option linter.unusedVariables false
set_option linter.unnecessarySimpa false
namespace Go.Proofs.YtcdogceabkpnmaaDoor
open Go Go.Sv Go.RowKit

def Lk.cells (k : Lk) (q : Option Addr) (c : Nat) : List Value := [.slice q k.stack.length c, int k.most, int k.at_, int k.err, int k.good]

end Go.Proofs.YtcdogceabkpnmaaDoor

/-
  sievelaw18: EventNests.
-/
set_option linter.unusedSimpArgs false
set_option linter.unusedVariables false
set_option linter.unnecessarySimpa false
namespace Go.Proofs.YtcdogceabkpnmaaDoor
open Go Go.Sv Go.RowKit

def depthS (k : Lk) : Nat := if k.err = 0 then k.most else 0





















































































































































end Go.Proofs.YtcdogceabkpnmaaDoor

/-
  Package event: copied, Wrap; sievelaw18: spoil.
-/
set_option linter.unusedSimpArgs false
set_option linter.unusedVariables false
set_option linter.unnecessarySimpa false
namespace Go.Sv
open Go Go.RowKit
end Go.Sv
namespace Go.Proofs.YtcdogceabkpnmaaDoor
open Go Go.Sv Go.RowKit
























































def spM : EvM := ⟨⟨9, [115, 112, 111, 105, 108, 116], [], []⟩, none, 0⟩































































































end Go.Proofs.YtcdogceabkpnmaaDoor

/-
  Package event: Wrap.
-/
set_option linter.unusedSimpArgs false
set_option linter.unusedVariables false
set_option linter.unnecessarySimpa false
namespace Go.Proofs.YtcdogceabkpnmaaDoor
open Go Go.Sv Go.RowKit

def firstE (n : List UInt8) (es : List At) : Ev := ⟨1, n, [], es⟩
def wrapC (f : Ev) (k : Lk) : Int := if evR f = false then 180 else if k.err ≠ 0 then k.err else if k.stack = [] then 0 else 181
def wrapE (n : List UInt8) (es : List At) (l : List Ev) : List Ev := if wrapC (firstE n es) (lkR l) = 0 then firstE n es :: l ++ [closeE n] else []






















































































































end Go.Proofs.YtcdogceabkpnmaaDoor

/-
  Package event: Trim; sieveref18: Trim.
-/
set_option linter.unusedSimpArgs false
set_option linter.unusedVariables false
set_option linter.unnecessarySimpa false
namespace Go.Sv
open Go Go.RowKit
end Go.Sv
namespace Go.Proofs.YtcdogceabkpnmaaDoor
open Go Go.Sv Go.RowKit

def opnE (e : Ev) (o : Int) : Int := if e.kind = 1 then o + 1 else if e.kind = 2 then o - 1 else o
def arndE (e : Ev) (o : Int) : Int := if e.kind = 2 then o - 1 else o
/-- does an event stay? -/
def keepE (d o : Int) (e : Ev) : Bool := if e.kind = 0 then decide (arndE e o ≤ d) else decide (arndE e o < d)
def trM (d : Int) (ms : List EvM) : Int × List EvM := ms.foldl (fun s m => (opnE m.e s.1, if keepE d s.1 m.e then s.2 ++ [m] else s.2)) (0, [])
def trI (d : Int) (ms : List EvM) (i : Nat) : Int × List EvM := trM d (ms.take i)
def trimC (d : Int) (k : Lk) : Int := if d < 0 then 1 else k.err















































































































































































































































end Go.Proofs.YtcdogceabkpnmaaDoor

/-
  Package event: Walk.
-/
set_option linter.unusedSimpArgs false
set_option linter.unusedVariables false
set_option linter.unnecessarySimpa false
namespace Go.Proofs.YtcdogceabkpnmaaDoor
open Go Go.Sv Go.RowKit
def wlkP (b3 b5 : Nat) (q : Option Addr) (cc : Nat) (ns : List EvM) (m : EvM) : PlanB (Option Addr × Nat) where
  pl k d := match k with
    | 2 => [pRow 2 d.x.1 m.e.attrs.length d.x.2 (m.e.attrs.flatMap At.cells)]
    | 3 => [pOwn d.b (m.e.cells d.x.1 d.x.2)]
    | 4 => [pRow 4 d.p (ns.length + 1) d.c (ns.flatMap EvM.cells ++ m.e.cells d.x.1 d.x.2)]
    | 5 => [pOwn b3 [.slice d.p (ns.length + 1) d.c]]
    | _ => []
  con k := match k with
    | 3 => some 4
    | _ => none
  base k := match k with
    | 4 => [pRow 4 q ns.length cc (ns.flatMap EvM.cells)]
    | 5 => [pOwn b3 [.slice q ns.length cc]]
    | _ => []
  fact k a := match k with
    | 0 => (a 0).v = .slice q ns.length cc
    | 1 => (a 1).v = .agg ⟨m.cells⟩
    | 2 => (a 2).v = .agg ⟨m.e.cells (a 2).x.1 (a 2).x.2⟩
    | 3 => (a 3).v = .slice (pb (a 3).b) 1 1 ∧ (a 3).x = (a 2).x
    | 4 => (a 4).v = .slice (a 4).p (ns.length + 1) (a 4).c ∧ (a 4).x = (a 3).x
    | 5 => (a 5).p = (a 4).p ∧ (a 5).c = (a 4).c
    | _ => True






































































































end Go.Proofs.YtcdogceabkpnmaaDoor

/-
  Package event: words, asToken, Print.
-/
set_option linter.unusedSimpArgs false
set_option linter.unusedVariables false
set_option linter.unnecessarySimpa false
namespace Go.Proofs.YtcdogceabkpnmaaDoor
open Go Go.Sv Go.RowKit

def wrdV (k : Int) : Value := .agg ⟨[str (ew0 k), str (ew1 k)]⟩
def wrdKV : List (Int × Value) := [(0, wrdV 0), (1, wrdV 1), (2, wrdV 2), (3, wrdV 3)]
def tokP (e : Ev) (p : Option Addr) : Option Addr := if e.kind = 0 ∨ e.kind = 2 then none else p
def tokC (e : Ev) (c : Nat) : Nat := if e.kind = 0 ∨ e.kind = 2 then 0 else c
def prP (b6 : Nat) (k : Int) : PlanB Unit where
  pl k2 d := match k2 with
    | 0 => [pIMap d.b wrdKV]
    | 4 => [pOwn d.b [str [], str []]]
    | 5 => [pOwn d.b [str (ew0 k), str (ew1 k)]]
    | _ => []
  con k2 := match k2 with
    | 0 => some 3
    | 4 => some 5
    | _ => none
  base k2 := match k2 with
    | _ => []
  fact k2 a := match k2 with
    | 0 => (a 0).v = .map (some (a 0).b)
    | 1 => (a 1).v = ptrAt (pb b6) 0
    | 2 => (a 2).v = int k
    | 3 => (a 3).v = wrdV k
    | 4 => (a 4).v = ptrAt (pb (a 4).b) 0
    | 5 => (a 5).b = (a 4).b
    | _ => True


















































































































































































end Go.Proofs.YtcdogceabkpnmaaDoor

/-
  Lines of tokens, read as the document does: plain laws.
-/
set_option linter.unusedSimpArgs false
set_option linter.unusedVariables false
set_option linter.unnecessarySimpa false
namespace Go.Proofs.YtcdogceabkpnmaaDoor
open Go Go.Sv Go.RowKit

end Go.Proofs.YtcdogceabkpnmaaDoor

/-
  Deferred functions that recover.
-/
set_option linter.unusedSimpArgs false
set_option linter.unusedVariables false
set_option linter.unnecessarySimpa false
namespace Go.Sv
open Go Go.RowKit

/-- what recover hands to a deferred function, by the mode of the frame below it, and how it leaves that mode -/
inductive Recov : FrameMode → Value → FrameMode → Prop
  | panicking (v : Value) (older : List PanicEntry) : Recov (.panicking ({ v := v, recovered := false } :: older)) v (.panicking ({ v := v, recovered := true } :: older))
  | returning : Recov .returning .nilIface .returning
/-- a deferred function's end, the frame below in a mode -/
def fpostD (P : Program) (n : Nat) (fn : Func) (u : FrameMode) (R : Ending → FrameMode → World → Prop) : Exit → Ctx → Env → World → Prop
  | .normal, c, σ, w | .ret, c, σ, w => c.ds = [] ∧ ∃ v, (results fn (act n c.ds σ).tmps).run P w = .ok v w ∧ R (.returned v) u w
  | .panic ch, c, _, w => c.ds = [] ∧ R (.panicked ch) u w
  | _, _, _, _ => False
section
variable {P : Program} {n : Nat} {fn : Func} {R : Ending → FrameMode → World → Prop} {u u' : FrameMode} {w : World}
end
/-- a call that returns, or panics -/
def CallsP (P : Program) (f : FuncId) (args : Array Value) (w : World) (R : Value → World → Prop) (S : List PanicEntry → World → Prop) : Prop :=
  Calls P f args w fun e w' => (∃ v, e = .returned v ∧ R v w') ∨ ∃ ch, e = .panicked ch ∧ S ch w'
section
variable {P : Program} {n : Nat} {ds : Ctx} {ops : Array Oper} {Q : Exit → Ctx → Env → World → Prop} {rest : List Oper} {σ : GE} {w : World} {v : Value} {d : Nat} {ty : TypeId} {pos : String} {af : Array Edge}
end
section
variable {P : Program} {n : Nat} {fn : Func} {R : Value → World → Prop} {S : List PanicEntry → World → Prop} {w : World} {σ : Env} {ds : Ctx}
end
section
variable {P : Program} {n : Nat} {ds : Ctx} {ops : Array Oper} {Q : Exit → Ctx → Env → World → Prop} {rest : List Oper} {σ : GE} {w : World} {ty : TypeId} {pos : String} {af : Array Edge}
end
end Go.Sv

/-
  Package token, reading: take, text.
-/
set_option linter.unusedSimpArgs false
set_option linter.unusedVariables false
set_option linter.unnecessarySimpa false
namespace Go.Proofs.YtcdogceabkpnmaaDoor
open Go Go.Sv Go.RowKit








































end Go.Proofs.YtcdogceabkpnmaaDoor

/-
  Package token, reading: a token.
-/
set_option linter.unusedSimpArgs false
set_option linter.unusedVariables false
set_option linter.unnecessarySimpa false
namespace Go.Proofs.YtcdogceabkpnmaaDoor
open Go Go.Sv Go.RowKit

/-- what is read of a line is small -/
def lineS (s : List UInt8) : Prop := ∀ (k : Nat) (x nm tx r0 : List UInt8) (es : List At) (r : List UInt8), wordsL[k]? = some x → x.isPrefixOf s = true → headT k (s.drop x.length) = some (nm, tx, r0) → atsR r0 [] = some (es, r) →
  nm.length ≤ 1048576 ∧ tx.length ≤ 1048576 ∧ es.length ≤ 1048576 ∧ ∀ a ∈ es, a.small
def zeroV : List Value := [int 0, str [], str [], .slice none 0 0, .bool false, int 0, int 0, int 0]


















































































































































































































































































































































end Go.Proofs.YtcdogceabkpnmaaDoor

/-
  Interface values compared with nil; type assertions that hold.
-/
set_option linter.unusedSimpArgs false
set_option linter.unusedVariables false
set_option linter.unnecessarySimpa false
namespace Go.Sv
open Go Go.RowKit
section
variable {P : Program} {σ : Env} {w : World} {d : Option Tmp} {ty t t' T xt : TypeId} {pos : String} {af : Array Edge} {g : Option (Nat × Bool)} {x y : Operand} {v : Value}
end
end Go.Sv

/-
  Package token, reading: a line.
-/
set_option linter.unusedSimpArgs false
set_option linter.unusedVariables false
set_option linter.unnecessarySimpa false
namespace Go.Proofs.YtcdogceabkpnmaaDoor
open Go Go.Sv Go.RowKit
































/-! ## line -/













































end Go.Proofs.YtcdogceabkpnmaaDoor

/-
  Tokens in memory of one's own: copied, own, Same, spoil.
-/
set_option linter.unusedSimpArgs false
set_option linter.unusedVariables false
set_option linter.unnecessarySimpa false
namespace Go.Proofs.YtcdogceabkpnmaaDoor
open Go Go.Sv Go.RowKit

/-- a token's attributes in memory of one's own -/
def AtR (w : World) (lo : Nat) (m : TokM) : Prop := Row w 2 m.p m.t.attrs.length m.c (m.t.attrs.flatMap At.cells) ∧ ∀ x ∈ rb m.p, lo ≤ x
theorem AtR.frm {w w' : World} {lo : Nat} {m : TokM} (h : AtR w lo m) (hf : Frm w w') : AtR w' lo m := ⟨h.1.frm hf, h.2⟩
theorem AtR.im {w : World} {lo : Nat} {m : TokM} (h : AtR w lo m) : Im [] w m.p (m.t.attrs.flatMap At.cells) := h.1.im (by simp)
/-- the blocks of a list of tokens -/
def tbl (q : Option Addr) (ms : List TokM) : List Nat := rb q ++ ms.flatMap fun m => rb m.p
/-- a list of tokens in memory of one's own -/
structure TL (w : World) (lo : Nat) (q : Option Addr) (cc : Nat) (ms : List TokM) : Prop where
  row : Row w 8 q ms.length cc (ms.flatMap TokM.cells)
  low : ∀ x ∈ rb q, lo ≤ x
  each : ∀ m ∈ ms, AtR w lo m
  apart : ∀ m ∈ ms, ∀ x ∈ rb m.p, x ∉ rb q
  pair : ms.Pairwise fun a b => ∀ x ∈ rb a.p, x ∉ rb b.p
theorem TL.nil (w : World) (lo : Nat) : TL w lo none 0 [] := ⟨Row.nil w 8, by simp [rb], by simp, by simp, .nil⟩
theorem TL.frm {w w' : World} {lo : Nat} {q : Option Addr} {cc : Nat} {ms : List TokM} (h : TL w lo q cc ms) (hf : Frm w w') : TL w' lo q cc ms :=
  ⟨h.row.frm hf, h.low, fun m hm => (h.each m hm).frm hf, h.apart, h.pair⟩
theorem TL.lt {w : World} {lo : Nat} {q : Option Addr} {cc : Nat} {ms : List TokM} (h : TL w lo q cc ms) : ∀ x ∈ tbl q ms, lo ≤ x ∧ x < w.heap.size := by
  intro x hx
  rcases List.mem_append.1 hx with hx | hx
  · exact ⟨h.low x hx, h.row.lt x hx⟩
  · obtain ⟨m, hm, hx⟩ := List.mem_flatMap.1 hx
    exact ⟨(h.each m hm).2 x hx, (h.each m hm).1.lt x hx⟩
theorem TL.le {w w' : World} {lo : Nat} {q : Option Addr} {cc : Nat} {ms : List TokM} {M : List Nat} (h : TL w lo q cc ms) (hl : Le M w w') (hM : ∀ x ∈ tbl q ms, x ∉ M) : TL w' lo q cc ms :=
  ⟨h.row.le hl fun x hx => hM x (List.mem_append_left _ hx), h.low,
   fun m hm => ⟨(h.each m hm).1.le hl fun x hx => hM x (List.mem_append_right _ (List.mem_flatMap.2 ⟨m, hm, hx⟩)), (h.each m hm).2⟩, h.apart, h.pair⟩
/-- one more at the end -/
theorem TL.push {w w' : World} {lo : Nat} {q q' : Option Addr} {cc cc' : Nat} {ms : List TokM} {m : TokM} (h : TL w lo q cc ms) (hm : AtR w lo m) (hap : ∀ x ∈ rb m.p, x ∉ tbl q ms)
    (hr : Row w' 8 q' (ms.length + 1) cc' (ms.flatMap TokM.cells ++ m.cells)) (hl : Lm (rb q) w (rb q') w') (hlo : lo ≤ w.heap.size) : TL w' lo q' cc' (ms ++ [m]) := by
  have hq : ∀ x ∈ rb q', x ∈ rb q ∨ w.heap.size ≤ x := fun x hx => by
    rcases Nat.lt_or_ge x w.heap.size with h1 | h1
    · exact .inl (hl.2 x hx h1)
    · exact .inr h1
  have hapq : ∀ m' : TokM, AtR w lo m' → (∀ x ∈ rb m'.p, x ∉ rb q) → AtR w' lo m' ∧ ∀ x ∈ rb m'.p, x ∉ rb q' := fun m' h1 h2 =>
    ⟨⟨h1.1.le hl.1 h2, h1.2⟩, fun x hx hx' => by
      rcases hq x hx' with h3 | h3
      · exact h2 x hx h3
      · have := h1.1.lt x hx; omega⟩
  have hm2 := hapq m hm fun x hx hx' => hap x hx (List.mem_append_left _ hx')
  refine ⟨by simpa [List.flatMap_append] using hr, ?_, ?_, ?_, ?_⟩
  · intro x hx
    rcases hq x hx with h1 | h1
    · exact h.low x h1
    · omega
  · intro m' hm'
    rcases List.mem_append.1 hm' with h1 | h1
    · exact (hapq m' (h.each m' h1) (h.apart m' h1)).1
    · rw [List.mem_singleton.1 h1]; exact hm2.1
  · intro m' hm'
    rcases List.mem_append.1 hm' with h1 | h1
    · exact (hapq m' (h.each m' h1) (h.apart m' h1)).2
    · rw [List.mem_singleton.1 h1]; exact hm2.2
  · rw [List.pairwise_append]
    refine ⟨h.pair, List.pairwise_singleton _ _, fun a ha b hb x hx hx' => ?_⟩
    rw [List.mem_singleton.1 hb] at hx'
    exact hap x hx' (List.mem_append_right _ (List.mem_flatMap.2 ⟨a, ha, hx⟩))







































end Go.Proofs.YtcdogceabkpnmaaDoor

/-
  Package token: Parse.
-/
set_option linter.unusedSimpArgs false
set_option linter.unusedVariables false
set_option linter.unnecessarySimpa false
namespace Go.Proofs.YtcdogceabkpnmaaDoor
open Go Go.Sv Go.RowKit

end Go.Proofs.YtcdogceabkpnmaaDoor

/-
  Package event: read.
-/
set_option linter.unusedSimpArgs false
set_option linter.unusedVariables false
set_option linter.unnecessarySimpa false
namespace Go.Sv
open Go Go.RowKit
end Go.Sv
namespace Go.Proofs.YtcdogceabkpnmaaDoor
open Go Go.Sv Go.RowKit

def fnd32 (s : List UInt8) : Bool := decide (0 ≤ Lib.indexByte s 32)
















































def no10R (s : List UInt8) : Bool := s.all fun c => !decide (c.toNat = 10)






























/-! ## read -/



def wrdL : List (Value × Value) := wrdKV.map fun x => (Value.int .i64 x.1, x.2)
def evZ : List Value := [int 0, str [], str [], .slice none 0 0]














































































































































































































end Go.Proofs.YtcdogceabkpnmaaDoor

/-
  Selectors: which elements end what the steps so far mean; dom's meant.
-/
set_option linter.unusedSimpArgs false
set_option linter.unusedVariables false
set_option linter.unnecessarySimpa false
namespace Go.Sv
open Go Go.RowKit
section
variable {P : Program} {n : Nat} {ds : Ctx} {ops : Array Oper} {Q : Exit → Ctx → Env → World → Prop} {rest : List Oper} {σ : GE} {w w0 : World} {d : Nat} {ty t e : TypeId} {pos : String} {af : Array Edge} {x y : Operand} {zv : Value} {bytes c : Nat} {kl kc : IntKind} {cs : List Plot}
theorem made_rep (z : Value) (c : Nat) : (madeCells #[z] c).toList = List.replicate c z := by
  apply List.ext_getElem
  · simp [madeCells]
  · intro i h1 h2
    have : i % 1 = 0 := Nat.mod_one i
    simp [madeCells, this]
/-- make of so many elements of one cell -/
theorem smake [hu : Und P t (.slice e)] [hi : Inf P e zv 1 bytes] (hS : Sep w0 w cs) (h : ∀ b w', Sep w0 w' (pOwn b (List.replicate c zv) :: cs) → WL P n ds ops Q rest (real (updG σ d ⟨.slice (pb b) c c, true⟩)) w')
    (hx : evl (real σ) x = .int kl c := by rfl) (hy : evl (real σ) y = .int kc c := by rfl) (hz : zv.cells = #[zv] := by rfl) (hb : bytes * c ≤ 281474976710656 := by omega) (hc : c ≤ 9223372036854775807 := by omega) :
    WL P n ds ops Q (⟨some d, .makeSlice t x y, ty, pos, af, none⟩ :: rest) (real σ) w := by
  obtain ⟨i, h1, h2, h3, h4⟩ := inf_size (P := P) (t := e)
  subst h4
  have hbI : (i.bytes : Int) * (c : Int) ≤ 281474976710656 := by
    have h : ((i.bytes * c : Nat) : Int) ≤ 281474976710656 := by omega
    rwa [Int.natCast_mul] at h
  have hr := run_make (P := P) w t e i zv hu.ok h1 h2 kl kc c c (by omega) (by omega) hbI (by omega)
  simp only [Int.toNat_natCast] at hr
  refine wl (h w.heap.size (w.alloc (.cells (madeCells zv.cells (c * i.size)) e)) ?_) (Y.val ?_)
  · refine hS.push (c := pOwn w.heap.size (List.replicate c zv)) (frm_alloc w _) ?_ (by simp [pOwn])
    have := own_alloc w (madeCells zv.cells (c * i.size)) e
    rw [h3, Nat.mul_one, hz, made_rep] at this
    rw [h3, Nat.mul_one, hz]
    exact this
  · simp only [execOp, hx, hy, Sem.run_bind]
    rw [hr]
    rfl
end
end Go.Sv
namespace Go.Proofs.YtcdogceabkpnmaaDoor
open Go Go.Sv Go.RowKit

def mkRow (p : Nat → Bool) (n : Nat) : List Value := (List.range n).map fun i => .bool (p i)
theorem mk_len (p : Nat → Bool) (n : Nat) : (mkRow p n).length = n := by simp [mkRow]
theorem mk_get {p : Nat → Bool} {n i : Nat} (h : i < n) : (mkRow p n)[i]? = some (.bool (p i)) := by simp [mkRow, h]
theorem mk_ext {p q : Nat → Bool} {n : Nat} (h : ∀ j, j < n → p j = q j) : mkRow p n = mkRow q n := by
  unfold mkRow
  refine List.map_congr_left fun j hj => ?_
  rw [h j (List.mem_range.1 hj)]
theorem mk_set {p q : Nat → Bool} {n i : Nat} {b : Bool} (h1 : q i = b) (h2 : ∀ j, j ≠ i → q j = p j) : (mkRow p n).set i (.bool b) = mkRow q n := by
  apply List.ext_getElem?
  intro j
  rw [List.getElem?_set]
  split
  · rename_i h
    subst h
    split
    · rename_i h3
      rw [mk_len] at h3
      rw [mk_get h3, h1]
    · rename_i h3
      rw [mk_len] at h3
      rw [List.getElem?_eq_none (by rw [mk_len]; omega)]
  · rename_i h
    rcases Nat.lt_or_ge j n with h4 | h4
    · rw [mk_get h4, mk_get h4, h2 j (fun e => h e.symm)]
    · rw [List.getElem?_eq_none (by rw [mk_len]; omega), List.getElem?_eq_none (by rw [mk_len]; omega)]
theorem mk_rep (n : Nat) : List.replicate n (Value.bool false) = mkRow (fun _ => false) n := by
  unfold mkRow
  apply List.ext_getElem <;> simp
def NdM.el (m : NdM) : El := ⟨m.name, m.attrs⟩
theorem fitAt_eq {M : List StM} {O : List NdM} {k i : Nat} {st : StM} {m : NdM} (h1 : M[k]? = some st) (h2 : O[i]? = some m) : fitAt (M.map StM.st) (O.map NdM.el) k i = fitR st.st m.name m.attrs := by
  unfold fitAt
  rw [List.getElem?_map, List.getElem?_map, h1, h2]; rfl
theorem chAt_eq {M : List StM} {k : Nat} {st : StM} (h1 : M[k]? = some st) : chAt (M.map StM.st) k = st.child := by
  unfold chAt
  rw [List.getElem?_map, h1]; rfl
/-- steps and elements that can be read -/
structure Qry (w : World) (row : StM → List Value) (M : List StM) (sp : Option Addr) (O : List NdM) (op : Option Addr) : Prop where
  ms : Im [] w sp (M.flatMap StM.cells)
  mt : ∀ m ∈ M, m.tests.length ≤ 16777215 ∧ (∀ t ∈ m.tests, t.fine) ∧ Im [] w m.p (row m)
  os : Im [] w op (O.flatMap NdM.cells)
  oa : ∀ m ∈ O, m.small ∧ Im [] w m.ap (m.attrs.flatMap At.cells)
  m0 : M ≠ []
  o0 : O ≠ []
  ml : M.length ≤ 16777215
  ol : O.length ≤ 16777215
theorem Qry.frm {w w' : World} {row : StM → List Value} {M : List StM} {sp : Option Addr} {O : List NdM} {op : Option Addr} (h : Qry w row M sp O op) (hf : Frm w w') : Qry w' row M sp O op :=
  ⟨h.ms.frm hf, fun m hm => ⟨(h.mt m hm).1, (h.mt m hm).2.1, (h.mt m hm).2.2.frm hf⟩, h.os.frm hf, fun m hm => ⟨(h.oa m hm).1, (h.oa m hm).2.frm hf⟩, h.m0, h.o0, h.ml, h.ol⟩
set_option maxHeartbeats 8000000 in
theorem dMeant_ok (M : List StM) (sp : Option Addr) (sc : Nat) (O : List NdM) (op : Option Addr) (oc : Nat) (w : World) (hQ : Qry w (fun m => m.tests.flatMap Tst.dom) M sp O op) :
    PureC Tryd.prog 75 #[.slice sp M.length sc, .slice op O.length oc] w (.bool (meansR (M.map StM.st) (O.map NdM.el))) := by
  have hfit := fun (st : StM) (m : NdM) (h1 : st ∈ M) (h2 : m ∈ O) (w' : World) (hf : Frm w w') => dFits_ok m st (hQ.oa m h2).1 (by have := (hQ.mt st h1).1; omega) w' ((hQ.oa m h2).2.frm hf) ((hQ.mt st h1).2.2.frm hf)
  obtain ⟨hms, hmt, hos, hoa, hm0, ho0, hml, hol⟩ := hQ
  have hM1 : 0 < M.length := List.length_pos_iff.2 hm0
  have hO1 : 0 < O.length := List.length_pos_iff.2 ho0
  obtain ⟨lst, hlst⟩ : ∃ st, M[M.length - 1]? = some st := ⟨_, List.getElem?_eq_getElem (by omega)⟩
  obtain ⟨lel, hlel⟩ : ∃ m, O[O.length - 1]? = some m := ⟨_, List.getElem?_eq_getElem (by omega)⟩
  have hfl1 := fm_len StM.clen M
  have hfl2 := fm_len NdM.clen O
  have hg1 := fm_seg StM.clen M hlst
  have hg2 := fm_seg NdM.clen O hlel
  have hsp : ∃ a, sp = some a := hms.some (by omega)
  have hop : ∃ a, op = some a := hos.some (by omega)
  have hmd : meansR (M.map StM.st) (O.map NdM.el) = mayK (fitAt (M.map StM.st) (O.map NdM.el)) (chAt (M.map StM.st)) M.length (O.length - 1) := by
    unfold meansR; rw [List.length_map, List.length_map]
  rw [hmd]
  have hfl := fitAt_eq hlst hlel
  generalize hF : fitAt (M.map StM.st) (O.map NdM.el) = F at *
  generalize hC : chAt (M.map StM.st) = C at *
  have i1 : ((O.length : Int) - 1).toNat = O.length - 1 := by omega
  have i2 : ((M.length : Int) - 1).toNat = M.length - 1 := by omega
  refine enter (l := [.slice sp M.length sc, .slice op O.length oc]) Tryd.func75 rfl Tryd.ntmps75 (by kernel_rfl) rfl ?_
  refine sgo ?_
  refine wcdraw ?_
  refine qgo ?_
  rw [i1, hg2]
  refine ql (v := .agg ⟨lel.cells⟩) ?_ (YQ.ofY fun _ _ => y_build (cells := lel.cells) (by rw [bm1 (v := .agg ⟨lel.cells⟩) rfl]; rfl))
  refine qgo ?_
  rw [i2, hg1]
  refine qlcallp (v := .bool (fitR lst.st lel.name lel.attrs)) (fun w' hw' => ?_) ?_
  · exact hfit lst lel (List.mem_of_getElem? hlst) (List.mem_of_getElem? hlel) w' hw'
  refine qgo ?_
  refine QL_nil ?_; intro wd hwd
  rw [← hfl]
  clear hg1 hg2 hfl hmd
  refine sgo ?_
  cases hlf : F (M.length - 1) (O.length - 1) with
  | false =>
    have hno : mayK F C M.length (O.length - 1) = false := by
      obtain ⟨k, hk⟩ : ∃ k, M.length = k + 1 := ⟨M.length - 1, by omega⟩
      rw [hk] at hlf ⊢
      rw [mayK, show k = k + 1 - 1 by omega, hlf, Bool.and_false]
    rw [hno]
    refine sgo ?_
    (first | refine fp1 (.inl rfl) rfl rfl ?_ | refine fp2 (.inl rfl) rfl rfl rfl ?_ | refine fp3 (.inl rfl) rfl rfl rfl rfl ?_ | refine fp0 (.inr rfl) rfl ?_ | refine fp0 (.inl rfl) rfl ?_ | refine fp1 (.inr rfl) rfl rfl ?_); refine ⟨?_, by (first | exact Frm.refl _ | assumption | exact Go.Sv.Sep.frm (by assumption) | (refine Frm.trans ?_ (by assumption); first | exact Frm.refl _ | assumption))⟩; (try simp only [realB, rv_true, Nat.reduceBEq, cond_true, cond_false, entG, real_lif, updGL])
  | true =>
  clear hlf hlst hlel
  have hS := Sep.start wd
  have hQf : Frm w wd := hwd
  replace hms := hms.frm hwd
  replace hos := hos.frm hwd
  obtain ⟨n, hn⟩ : ∃ n, n = O.length := ⟨_, rfl⟩
  have hnl : n ≤ 16777215 := by rw [hn]; exact hol
  have hn1 : 0 < n := by rw [hn]; exact hO1
  rw [← hn]
  refine sgo ?_
  refine smake (c := n) hS fun b5 w1 hS => ?_
  rw [mk_rep] at hS
  have hml0 := mk_len (mayK F C 0) n
  refine sgo ?_
  refine wcloop (X := Nat × Nat) (fun x => [(0, .slice sp M.length sc), (1, .slice op n oc), (5, .slice (pb x.2) n n), (31, .slice sp M.length sc), (32, int M.length), (33, int x.1)])
    (fun x wr => x.1 ≤ M.length ∧ Sep wd wr [pOwn x.2 (mkRow (mayK F C x.1) n)]) (fun x => M.length - x.1) (0, b5) ⟨rfl, rfl, rfl, rfl, rfl, rfl, trivial⟩ ⟨Nat.zero_le _, hS⟩ ?_
  repeat clear hS
  clear b5
  rintro ⟨k, b5⟩ wr ρ ⟨hkl, hS⟩
  dsimp only at hkl hS ⊢
  refine sgo ?_
  (show WC _ _ _ _ _ _ _; first | refine WC_dec rfl (fun hc => ?_) (fun hc => ?_) | refine WC_cond rfl (fun hc => ?_) (fun hc => ?_))
  · have hlt : k < M.length := by omega
    obtain ⟨st, hx⟩ : ∃ st, M[k]? = some st := ⟨_, List.getElem?_eq_getElem hlt⟩
    have hsx := fm_seg StM.clen M hx
    have hstm := List.mem_of_getElem? hx
    have hCk : C k = st.child := by rw [← hC]; exact chAt_eq hx
    have hFk : ∀ i m, O[i]? = some m → F k i = fitR st.st m.name m.attrs := fun i m h => by rw [← hF]; exact fitAt_eq hx h
    have hfit1 := fun m h2 => hfit st m hstm h2
    clear hc hfit
    obtain ⟨sn, l, ch, lp, lc⟩ := st
    replace hsx : ((M.flatMap StM.cells).drop (k * 3)).take 3 = [str sn, .slice lp l.length lc, .bool ch] := hsx
    dsimp only at hCk
    refine sgo ?_
    rw [hsx]
    refine salloc hS fun b7 w3 hS => ?_
    refine sgo ?_
    refine ssta (vs := [str sn, .slice lp l.length lc, .bool ch]) hS 0 fun w4 hS => ?_
    refine sgo ?_
    refine smake (c := n) hS fun b8 w5 hS => ?_
    rw [mk_rep] at hS
    replace hS : Sep wd w5 [pOwn b8 (mkRow (fun _ => false) n), pOwn b7 [str sn, .slice lp l.length lc, .bool ch], pOwn b5 (mkRow (mayK F C k) n)] := hS
    refine sgo ?_
    refine wcloop (X := Nat) (fun i => [(0, .slice sp M.length sc), (1, .slice op n oc), (5, .slice (pb b5) n n), (6, int k), (7, ptrAt (pb b7) 0), (8, .slice (pb b8) n n), (9, .bool ((List.range i).any (mayK F C k))), (31, .slice sp M.length sc), (32, int M.length), (33, int k), (41, .slice op n oc), (42, int n), (43, int i)])
      (fun i wr => i ≤ n ∧ Sep wd wr [pOwn b8 (mkRow (fun j => decide (j < i) && mayK F C (k + 1) j) n), pOwn b7 [str sn, .slice lp l.length lc, .bool ch], pOwn b5 (mkRow (mayK F C k) n)]) (fun i => n - i) 0 ⟨rfl, rfl, rfl, rfl, rfl, rfl, rfl, rfl, rfl, rfl, rfl, rfl, rfl, trivial⟩ ⟨Nat.zero_le _, ?_⟩ ?_
    · rw [mk_ext (q := fun _ => false) fun j _ => by simp]
      exact hS
    repeat clear hS
    rintro i wr2 ρ2 ⟨hil, hS⟩
    refine sgo ?_
    (show WC _ _ _ _ _ _ _; first | refine WC_dec rfl (fun hc => ?_) (fun hc => ?_) | refine WC_cond rfl (fun hc => ?_) (fun hc => ?_))
    · have hlt2 : i < n := by omega
      obtain ⟨m, hx2⟩ : ∃ m, O[i]? = some m := ⟨_, List.getElem?_eq_getElem (by omega)⟩
      have hsx2 := fm_seg NdM.clen O hx2
      have hFki := hFk i m hx2
      have hfit2 := hfit1 m (List.mem_of_getElem? hx2)
      obtain ⟨mn, mt, me, ma, mc, mk, mp, mkc⟩ := m
      replace hsx2 : ((O.flatMap NdM.cells).drop (i * 4)).take 4 = [str mn, str mt, .slice ma me.length mc, .slice mp mk.len mkc] := hsx2
      have hgi := mk_get (p := mayK F C k) hlt2
      have hlm := mk_len (mayK F C k) n
      clear hc
      refine sgo ?_
      rw [hsx2]
      refine salloc hS fun b11 w6 hS => ?_
      refine sgo ?_
      refine ssta (vs := [str mn, str mt, .slice ma me.length mc, .slice mp mk.len mkc]) hS 0 fun w7 hS => ?_
      replace hS : Sep wd w7 [pOwn b11 [str mn, str mt, .slice ma me.length mc, .slice mp mk.len mkc], pOwn b8 (mkRow (fun j => decide (j < i) && mayK F C (k + 1) j) n), pOwn b7 [str sn, .slice lp l.length lc, .bool ch], pOwn b5 (mkRow (mayK F C k) n)] := hS
      refine sgo ?_
      obtain ⟨fv, hfv⟩ : ∃ fv, fv = (decide (k = 0) || (if ch then decide (0 < i) && mayK F C k (i - 1) else (List.range i).any (mayK F C k))) := ⟨_, rfl⟩
      have hmk1 : mayK F C (k + 1) i = (fv && F k i) := by rw [mayK, hCk, hfv]
      refine wcutt (X := Unit) (fun _ => [(0, .slice sp M.length sc), (1, .slice op n oc), (5, .slice (pb b5) n n), (6, int k), (7, ptrAt (pb b7) 0), (8, .slice (pb b8) n n), (9, .bool ((List.range i).any (mayK F C k))), (10, int i), (11, ptrAt (pb b11) 0), (12, .bool fv), (31, .slice sp M.length sc), (32, int M.length), (33, int k), (41, .slice op n oc), (42, int n), (43, int i)])
        (fun _ wr => Sep wd wr [pOwn b11 [str mn, str mt, .slice ma me.length mc, .slice mp mk.len mkc], pOwn b8 (mkRow (fun j => decide (j < i) && mayK F C (k + 1) j) n), pOwn b7 [str sn, .slice lp l.length lc, .bool ch], pOwn b5 (mkRow (mayK F C k) n)]) ?_ ?_
      · clear hFk hfit1 hfit2 hmk1
        refine WC_cond rfl (fun hc => ?_) (fun hc => ?_)
        · simp only [pkb_and, Bool.and_eq_true, decide_eq_true_eq] at hc
          have hk0 : ¬ k = 0 := by omega
          rw [hc.2, if_pos rfl, decide_eq_false hk0, Bool.false_or] at hfv
          rcases Nat.eq_zero_or_pos i with rfl | hi0
          · refine sgo ?_
            refine ⟨(), ⟨rfl, rfl, rfl, rfl, rfl, rfl, rfl, rfl, rfl, ?_, rfl, rfl, rfl, rfl, rfl, rfl, trivial⟩, hS⟩
            show Value.bool _ = Value.bool _
            rw [hfv, pkb_and]; simp
          · obtain ⟨i', rfl⟩ : ∃ i', i = i' + 1 := ⟨i - 1, by omega⟩
            have hgi' := mk_get (p := mayK F C k) (show i' < n by omega)
            have i4 : (((i' + 1 : Nat) : Int) - 1).toNat = i' := by omega
            refine sgo ?_
            rw [i4]
            refine sgo ?_
            refine ⟨(), ⟨rfl, rfl, rfl, rfl, rfl, rfl, rfl, rfl, rfl, ?_, rfl, rfl, rfl, rfl, rfl, rfl, trivial⟩, hS⟩
            show Value.bool _ = Value.bool _
            rw [hfv, pkb_and]; simp
        · refine sgo ?_
          refine ⟨(), ⟨rfl, rfl, rfl, rfl, rfl, rfl, rfl, rfl, rfl, ?_, rfl, rfl, rfl, rfl, rfl, rfl, trivial⟩, hS⟩
          show Value.bool _ = Value.bool _
          rw [hfv]
          rw [pkb_and] at hc
          have hde : decide ((k : Int) = 0) = decide (k = 0) := decide_eq_decide.2 (by omega)
          rw [pkb_or, hde]
          by_cases hk0 : k = 0
          · rw [decide_eq_true hk0]; rfl
          · have hch : ch = false := by
              cases ch with
              | false => rfl
              | true => simp at hc; omega
            rw [hch]; rfl
      · repeat clear hS
        rintro _ w8 ρ3 hS
        cases fv with
        | false =>
          refine sgo ?_
          refine wlskipg .nilIface ?_ (hgt := rfl)
          refine sgo ?_
          refine wlskipg (.bool false) ?_ (hgt := rfl)
          refine sgo ?_
          refine sst_bool hS 1 (j := i) (fun w9 hS => ?_) (hk := by rw [mk_len]; exact hlt2)
          refine sgo ?_
          refine ⟨i + 1, ⟨rfl, rfl, rfl, rfl, rfl, rfl, ?_, rfl, rfl, rfl, rfl, rfl, rfl, trivial⟩, ⟨hlt2, ?_⟩, by omega⟩
          · show Value.bool _ = Value.bool _
            rw [any_range, pkb_or]
          · replace hS : Sep wd w9 [pOwn b11 [str mn, str mt, .slice ma me.length mc, .slice mp mk.len mkc], pOwn b8 ((mkRow (fun j => decide (j < i) && mayK F C (k + 1) j) n).set i (.bool false)), pOwn b7 [str sn, .slice lp l.length lc, .bool ch], pOwn b5 (mkRow (mayK F C k) n)] := hS
            rw [mk_set (q := fun j => decide (j < i + 1) && mayK F C (k + 1) j) (by rw [hmk1]; simp) (fun j hj => by rw [decide_eq_decide.2 (show j < i + 1 ↔ j < i by omega)])] at hS
            exact hS.sel 4 [1, 2, 3]
        | true =>
          refine sgo ?_
          refine wlgt (v := .agg ⟨[str mn, str mt, .slice ma me.length mc, .slice mp mk.len mkc]⟩) (y_build (cells := [str mn, str mt, .slice ma me.length mc, .slice mp mk.len mkc]) (by rw [bm1 (v := .agg ⟨[str mn, str mt, .slice ma me.length mc, .slice mp mk.len mkc]⟩) rfl]; rfl)) ?_ (hgt := rfl)
          refine sgo ?_
          refine wlcallgp (vals := [.agg ⟨[str mn, str mt, .slice ma me.length mc, .slice mp mk.len mkc]⟩, .agg ⟨[str sn, .slice lp l.length lc, .bool ch]⟩]) (fun _ => hfit2 _ (hwd.trans hS.frm)) fun w9 hf9 => ?_
          rw [← hFki]
          replace hS := hS.grow hf9
          refine sgo ?_
          refine sst_bool hS 1 (j := i) (fun w9 hS => ?_) (hk := by rw [mk_len]; exact hlt2)
          refine sgo ?_
          refine ⟨i + 1, ⟨rfl, rfl, rfl, rfl, rfl, rfl, ?_, rfl, rfl, rfl, rfl, rfl, rfl, trivial⟩, ⟨hlt2, ?_⟩, by omega⟩
          · show Value.bool _ = Value.bool _
            rw [any_range, pkb_or]
          · replace hS : Sep wd w9 [pOwn b11 [str mn, str mt, .slice ma me.length mc, .slice mp mk.len mkc], pOwn b8 ((mkRow (fun j => decide (j < i) && mayK F C (k + 1) j) n).set i (.bool (F k i))), pOwn b7 [str sn, .slice lp l.length lc, .bool ch], pOwn b5 (mkRow (mayK F C k) n)] := hS
            rw [mk_set (q := fun j => decide (j < i + 1) && mayK F C (k + 1) j) (by rw [hmk1]; simp) (fun j hj => by rw [decide_eq_decide.2 (show j < i + 1 ↔ j < i by omega)])] at hS
            exact hS.sel 4 [1, 2, 3]
    · obtain rfl : i = n := by omega
      refine sgo ?_
      refine ⟨(k + 1, b8), ⟨rfl, rfl, rfl, rfl, rfl, rfl, trivial⟩, ⟨hlt, ?_⟩, by dsimp only; omega⟩
      rw [mk_ext (p := mayK F C (k + 1)) (q := fun j => decide (j < i) && mayK F C (k + 1) j) fun j hj => by simp [hj]]
      exact hS.sel 3 [0]
  · obtain rfl : k = M.length := by omega
    have hgi := mk_get (p := mayK F C M.length) (show n - 1 < n by omega)
    have hlm := mk_len (mayK F C M.length) n
    have i3 : ((n : Int) - 1).toNat = n - 1 := by omega
    refine sgo ?_
    rw [i3]
    refine sgo ?_
    (first | refine fp1 (.inl rfl) rfl rfl ?_ | refine fp2 (.inl rfl) rfl rfl rfl ?_ | refine fp3 (.inl rfl) rfl rfl rfl rfl ?_ | refine fp0 (.inr rfl) rfl ?_ | refine fp0 (.inl rfl) rfl ?_ | refine fp1 (.inr rfl) rfl rfl ?_)
    refine ⟨?_, hwd.trans hS.frm⟩
    simp only [realB, rv_true, Nat.reduceBEq, cond_true, cond_false, entG, real_lif, updGL]
end Go.Proofs.YtcdogceabkpnmaaDoor

/-
  Selectors: which elements end what the steps so far mean; the document's means.
-/
set_option linter.unusedSimpArgs false
set_option linter.unusedVariables false
set_option linter.unnecessarySimpa false
namespace Go.Proofs.YtcdogceabkpnmaaDoor
open Go Go.Sv Go.RowKit

set_option maxHeartbeats 8000000 in
theorem rMeans_ok (M : List StM) (sp : Option Addr) (sc : Nat) (O : List NdM) (op : Option Addr) (oc : Nat) (w : World) (hQ : Qry w (fun m => m.tests.flatMap Tst.ref) M sp O op) :
    PureC Tryd.prog 61 #[.slice sp M.length sc, .slice op O.length oc] w (.bool (meansR (M.map StM.st) (O.map NdM.el))) := by
  have hfit := fun (st : StM) (m : NdM) (h1 : st ∈ M) (h2 : m ∈ O) (w' : World) (hf : Frm w w') => rFits_ok m st (hQ.oa m h2).1 (by have := (hQ.mt st h1).1; omega) (hQ.mt st h1).2.1 w' ((hQ.oa m h2).2.frm hf) ((hQ.mt st h1).2.2.frm hf)
  obtain ⟨hms, hmt, hos, hoa, hm0, ho0, hml, hol⟩ := hQ
  have hM1 : 0 < M.length := List.length_pos_iff.2 hm0
  have hO1 : 0 < O.length := List.length_pos_iff.2 ho0
  have hfl1 := fm_len StM.clen M
  have hfl2 := fm_len NdM.clen O
  have hsp : ∃ a, sp = some a := hms.some (by omega)
  have hop : ∃ a, op = some a := hos.some (by omega)
  have hmd : meansR (M.map StM.st) (O.map NdM.el) = mayK (fitAt (M.map StM.st) (O.map NdM.el)) (chAt (M.map StM.st)) M.length (O.length - 1) := by
    unfold meansR; rw [List.length_map, List.length_map]
  rw [hmd]
  generalize hF : fitAt (M.map StM.st) (O.map NdM.el) = F at *
  generalize hC : chAt (M.map StM.st) = C at *
  clear hmd
  have hS := Sep.start w
  obtain ⟨n, hn⟩ : ∃ n, n = O.length := ⟨_, rfl⟩
  have hnl : n ≤ 16777215 := by rw [hn]; exact hol
  have hn1 : 0 < n := by rw [hn]; exact hO1
  rw [← hn] at hfl2 ⊢
  refine enter (l := [.slice sp M.length sc, .slice op n oc]) Tryd.func61 rfl Tryd.ntmps61 (by kernel_rfl) rfl ?_
  refine sgo ?_
  refine smake (c := n) hS fun b5 w1 hS => ?_
  rw [mk_rep] at hS
  refine sgo ?_
  refine wcloop (X := Nat × Nat) (fun x => [(0, .slice sp M.length sc), (1, .slice op n oc), (5, .slice (pb x.2) n n), (15, .slice sp M.length sc), (16, int M.length), (17, int x.1)])
    (fun x wr => x.1 ≤ M.length ∧ Sep w wr [pOwn x.2 (mkRow (mayK F C x.1) n)]) (fun x => M.length - x.1) (0, b5) ⟨rfl, rfl, rfl, rfl, rfl, rfl, trivial⟩ ⟨Nat.zero_le _, hS⟩ ?_
  repeat clear hS
  clear b5
  rintro ⟨k, b5⟩ wr ρ ⟨hkl, hS⟩
  dsimp only at hkl hS ⊢
  refine sgo ?_
  (show WC _ _ _ _ _ _ _; first | refine WC_dec rfl (fun hc => ?_) (fun hc => ?_) | refine WC_cond rfl (fun hc => ?_) (fun hc => ?_))
  · have hlt : k < M.length := by omega
    obtain ⟨st, hx⟩ : ∃ st, M[k]? = some st := ⟨_, List.getElem?_eq_getElem hlt⟩
    have hsx := fm_seg StM.clen M hx
    have hstm := List.mem_of_getElem? hx
    have hCk : C k = st.child := by rw [← hC]; exact chAt_eq hx
    have hFk : ∀ i m, O[i]? = some m → F k i = fitR st.st m.name m.attrs := fun i m h => by rw [← hF]; exact fitAt_eq hx h
    have hfit1 := fun m h2 => hfit st m hstm h2
    clear hc hfit
    obtain ⟨sn, l, ch, lp, lc⟩ := st
    replace hsx : ((M.flatMap StM.cells).drop (k * 3)).take 3 = [str sn, .slice lp l.length lc, .bool ch] := hsx
    dsimp only at hCk
    refine sgo ?_
    rw [hsx]
    refine salloc hS fun b7 w3 hS => ?_
    refine sgo ?_
    refine ssta (vs := [str sn, .slice lp l.length lc, .bool ch]) hS 0 fun w4 hS => ?_
    refine sgo ?_
    refine smake (c := n) hS fun b8 w5 hS => ?_
    rw [mk_rep] at hS
    replace hS : Sep w w5 [pOwn b8 (mkRow (fun _ => false) n), pOwn b7 [str sn, .slice lp l.length lc, .bool ch], pOwn b5 (mkRow (mayK F C k) n)] := hS
    refine sgo ?_
    refine wcloop (X := Nat) (fun i => [(0, .slice sp M.length sc), (1, .slice op n oc), (5, .slice (pb b5) n n), (6, int k), (7, ptrAt (pb b7) 0), (8, .slice (pb b8) n n), (9, .bool ((List.range i).any (mayK F C k))), (15, .slice sp M.length sc), (16, int M.length), (17, int k), (25, .slice op n oc), (26, int n), (27, int i)])
      (fun i wr => i ≤ n ∧ Sep w wr [pOwn b8 (mkRow (fun j => decide (j < i) && mayK F C (k + 1) j) n), pOwn b7 [str sn, .slice lp l.length lc, .bool ch], pOwn b5 (mkRow (mayK F C k) n)]) (fun i => n - i) 0 ⟨rfl, rfl, rfl, rfl, rfl, rfl, rfl, rfl, rfl, rfl, rfl, rfl, rfl, trivial⟩ ⟨Nat.zero_le _, ?_⟩ ?_
    · rw [mk_ext (q := fun _ => false) fun j _ => by simp]
      exact hS
    repeat clear hS
    rintro i wr2 ρ2 ⟨hil, hS⟩
    refine sgo ?_
    (show WC _ _ _ _ _ _ _; first | refine WC_dec rfl (fun hc => ?_) (fun hc => ?_) | refine WC_cond rfl (fun hc => ?_) (fun hc => ?_))
    · have hlt2 : i < n := by omega
      obtain ⟨m, hx2⟩ : ∃ m, O[i]? = some m := ⟨_, List.getElem?_eq_getElem (by omega)⟩
      have hsx2 := fm_seg NdM.clen O hx2
      have hFki := hFk i m hx2
      have hfit2 := hfit1 m (List.mem_of_getElem? hx2)
      obtain ⟨mn, mt, me, ma, mc, mk, mp, mkc⟩ := m
      replace hsx2 : ((O.flatMap NdM.cells).drop (i * 4)).take 4 = [str mn, str mt, .slice ma me.length mc, .slice mp mk.len mkc] := hsx2
      have hgi := mk_get (p := mayK F C k) hlt2
      have hlm := mk_len (mayK F C k) n
      clear hc
      obtain ⟨fv, hfv⟩ : ∃ fv, fv = (decide (k = 0) || (if ch then decide (0 < i) && mayK F C k (i - 1) else (List.range i).any (mayK F C k))) := ⟨_, rfl⟩
      have hmk1 : mayK F C (k + 1) i = (fv && F k i) := by rw [mayK, hCk, hfv]
      iterate 4 (first | (show WL _ _ _ _ _ _ _ _; (first | refine wlp ?_ | refine WL_nil ?_ | (show WL _ _ _ _ _ (Go.Oper.mk _ _ _ _ _ none :: _) _ _; first | refine wlpk ?_ | refine wl_load ?_ | refine wl_idxa ?_ | refine wl_fld ?_ | refine wl_idx ?_ | refine wl_len ?_ | refine wl_bin ?_ | refine wl_cnv ?_ | refine wl_slc ?_ | refine wl_una ?_ | refine wl_nilc ?_ | refine wl_mkf ?_) | refine wlpg ?_ | refine wlg_load ?_ | refine wlg_idxa ?_ | refine wlg_fld ?_ | refine wlg_idx ?_ | refine wlg_len ?_ | refine wlg_bin ?_ | refine wlg_cnv ?_ | refine wlg_slc ?_ | refine wlg_una ?_ | refine wlg_nilc ?_ | refine wlg_mkf ?_)) | (show thn _ _ _ _ _ _; (first | refine thn_normal ?_ | refine thn_ret ?_ | refine thn_exit ?_)) | (show thl _ _ _ _ _ _ _; (first | refine thl_normal ?_ | refine thl_ret ?_ | refine thl_exit ?_)) | (show WC _ _ _ _ _ _ _; (first | refine WC_seq ?_ | refine WC_region ?_ | refine WC_ret ?_ | refine WC_skip ?_ | refine WC_block ?_ | refine WC_exit ?_ | refine WC_label ?_ | refine WC_scope rfl ?_ | refine wcyes ?_ | refine wcno ?_)) | (show blk _ _ _ _ _ _; (first | refine blk_ret ?_ | refine blk_here ?_ | refine blk_on rfl ?_ | refine blk_normal ?_)) | (show ngt _ _ _ _ _; (first | refine ngt_normal ?_ | refine ngt_ret ?_ | refine ngt_exit ?_)))
      refine WC_seq ?_; refine WC_region ?_; (repeat (first | refine wlp ?_ | refine WL_nil ?_ | (show WL _ _ _ _ _ (Go.Oper.mk _ _ _ _ _ none :: _) _ _; first | refine wlpk ?_ | refine wl_load ?_ | refine wl_idxa ?_ | refine wl_fld ?_ | refine wl_idx ?_ | refine wl_len ?_ | refine wl_bin ?_ | refine wl_cnv ?_ | refine wl_slc ?_ | refine wl_una ?_ | refine wl_nilc ?_ | refine wl_mkf ?_) | refine wlpg ?_ | refine wlg_load ?_ | refine wlg_idxa ?_ | refine wlg_fld ?_ | refine wlg_idx ?_ | refine wlg_len ?_ | refine wlg_bin ?_ | refine wlg_cnv ?_ | refine wlg_slc ?_ | refine wlg_una ?_ | refine wlg_nilc ?_ | refine wlg_mkf ?_)); refine thn_normal ?_
      refine wcut (X := Unit) (fun _ => [(0, .slice sp M.length sc), (1, .slice op n oc), (5, .slice (pb b5) n n), (6, int k), (7, ptrAt (pb b7) 0), (8, .slice (pb b8) n n), (9, .bool ((List.range i).any (mayK F C k))), (10, int i), (11, .bool fv), (15, .slice sp M.length sc), (16, int M.length), (17, int k), (25, .slice op n oc), (26, int n), (27, int i)])
        (fun _ wr => Sep w wr [pOwn b8 (mkRow (fun j => decide (j < i) && mayK F C (k + 1) j) n), pOwn b7 [str sn, .slice lp l.length lc, .bool ch], pOwn b5 (mkRow (mayK F C k) n)]) ?_ ?_
      · clear hFk hfit1 hfit2 hmk1
        have hde : decide ((k : Int) = 0) = decide (k = 0) := decide_eq_decide.2 (by omega)
        rcases Nat.eq_zero_or_pos i with rfl | hi0
        · refine sgo ?_
          refine ⟨(), ⟨rfl, rfl, rfl, rfl, rfl, rfl, rfl, rfl, ?_, rfl, rfl, rfl, rfl, rfl, rfl, trivial⟩, hS⟩
          show Value.bool _ = Value.bool _
          rw [hfv, ← hde]
          cases ch <;> cases (decide ((k : Int) = 0)) <;> simp [pkb_or, pkb_and]
        · obtain ⟨i', rfl⟩ : ∃ i', i = i' + 1 := ⟨i - 1, by omega⟩
          have hgi' := mk_get (p := mayK F C k) (show i' < n by omega)
          have i4 : (((i' + 1 : Nat) : Int) - 1).toNat = i' := by omega
          refine sgo ?_
          rw [i4]
          refine sgo ?_
          refine ⟨(), ⟨rfl, rfl, rfl, rfl, rfl, rfl, rfl, rfl, ?_, rfl, rfl, rfl, rfl, rfl, rfl, trivial⟩, hS⟩
          show Value.bool _ = Value.bool _
          rw [hfv, ← hde]
          cases ch <;> cases (decide ((k : Int) = 0)) <;> simp [pkb_or, pkb_and]
      · repeat clear hS
        rintro _ w8 ρ3 hS
        cases fv with
        | false =>
          refine sgo ?_
          refine wcdrawt 12 ?_
          refine qgo ?_
          refine qlcallgp (vals := [.nilIface]) (v := .bool false) (fun hg w' hw' => ?_) ?_ (ha := fun hgd => ?_)
          · cases hg
          · refine qgo ?_
            refine QL_nil ?_; intro wd hwd
            replace hS := hS.grow hwd
            refine sst_bool hS 0 (j := i) (fun w9 hS => ?_) (hk := by rw [mk_len]; exact hlt2)
            refine sgo ?_
            refine ⟨i + 1, ⟨rfl, rfl, rfl, rfl, rfl, rfl, ?_, rfl, rfl, rfl, rfl, rfl, rfl, trivial⟩, ⟨hlt2, ?_⟩, by omega⟩
            · show Value.bool _ = Value.bool _
              rw [any_range, pkb_or]
            · replace hS : Sep w w9 [pOwn b8 ((mkRow (fun j => decide (j < i) && mayK F C (k + 1) j) n).set i (.bool false)), pOwn b7 [str sn, .slice lp l.length lc, .bool ch], pOwn b5 (mkRow (mayK F C k) n)] := hS
              rw [mk_set (q := fun j => decide (j < i + 1) && mayK F C (k + 1) j) (by rw [hmk1]; simp) (fun j hj => by rw [decide_eq_decide.2 (show j < i + 1 ↔ j < i by omega)])] at hS
              exact hS
          · cases hgd
        | true =>
          refine sgo ?_
          refine wcdrawt 12 ?_
          refine qgo ?_
          rw [hsx2]
          refine qlcallgp (vals := [.agg ⟨[str sn, .slice lp l.length lc, .bool ch]⟩, .agg ⟨[str mn, str mt, .slice ma me.length mc, .slice mp mk.len mkc]⟩]) (v := .bool (F k i)) (fun hg w' hw' => ?_) ?_
          · rw [hFki]
            exact hfit2 w' (hS.frm.trans hw')
          refine qgo ?_
          refine QL_nil ?_; intro wd hwd
          replace hS := hS.grow hwd
          refine sst_bool hS 0 (j := i) (fun w9 hS => ?_) (hk := by rw [mk_len]; exact hlt2)
          refine sgo ?_
          refine ⟨i + 1, ⟨rfl, rfl, rfl, rfl, rfl, rfl, ?_, rfl, rfl, rfl, rfl, rfl, rfl, trivial⟩, ⟨hlt2, ?_⟩, by omega⟩
          · show Value.bool _ = Value.bool _
            rw [any_range, pkb_or]
          · replace hS : Sep w w9 [pOwn b8 ((mkRow (fun j => decide (j < i) && mayK F C (k + 1) j) n).set i (.bool (F k i))), pOwn b7 [str sn, .slice lp l.length lc, .bool ch], pOwn b5 (mkRow (mayK F C k) n)] := hS
            rw [mk_set (q := fun j => decide (j < i + 1) && mayK F C (k + 1) j) (by rw [hmk1]; simp) (fun j hj => by rw [decide_eq_decide.2 (show j < i + 1 ↔ j < i by omega)])] at hS
            exact hS
    · obtain rfl : i = n := by omega
      refine sgo ?_
      refine ⟨(k + 1, b8), ⟨rfl, rfl, rfl, rfl, rfl, rfl, trivial⟩, ⟨hlt, ?_⟩, by dsimp only; omega⟩
      rw [mk_ext (p := mayK F C (k + 1)) (q := fun j => decide (j < i) && mayK F C (k + 1) j) fun j hj => by simp [hj]]
      exact hS.sel 3 [0]
  · obtain rfl : k = M.length := by omega
    have hgi := mk_get (p := mayK F C M.length) (show n - 1 < n by omega)
    have hlm := mk_len (mayK F C M.length) n
    have i3 : ((n : Int) - 1).toNat = n - 1 := by omega
    refine sgo ?_
    rw [i3]
    refine sgo ?_
    (first | refine fp1 (.inl rfl) rfl rfl ?_ | refine fp2 (.inl rfl) rfl rfl rfl ?_ | refine fp3 (.inl rfl) rfl rfl rfl rfl ?_ | refine fp0 (.inr rfl) rfl ?_ | refine fp0 (.inl rfl) rfl ?_ | refine fp1 (.inr rfl) rfl rfl ?_); refine ⟨?_, by (first | exact Frm.refl _ | assumption | exact Go.Sv.Sep.frm (by assumption) | (refine Frm.trans ?_ (by assumption); first | exact Frm.refl _ | assumption))⟩; (try simp only [realB, rv_true, Nat.reduceBEq, cond_true, cond_false, entG, real_lif, updGL])
end Go.Proofs.YtcdogceabkpnmaaDoor

/-
  Package event: Paths; sieveref18: Paths.
-/
set_option linter.unusedSimpArgs false
set_option linter.unusedVariables false
set_option linter.unnecessarySimpa false
namespace Go.Sv
open Go Go.RowKit
section
variable {P : Program} {w w' w0 : World} {t tx t' ty e e' : TypeId} {z : Value} {size bytes n m c c' k : Nat} {p q : Option Addr} {xs news : List Value} {x y : Operand} {cs : List Plot} {σ : Env} {d : Option Tmp} {pos : String} {af : Array Edge}
/-- append to a slice that is full: a new row, the old one stays -/
theorem run_append_full {u : Value} [hu : Und P t (.slice e)] [hi : Inf P e z size bytes] (hz : z.cells.size = size) (hx : Sg w p xs) (hl : xs.length = n * size) (hs : Src P size tx u m news w) (hm : 0 < m)
    (h63 : n + m ≤ 9223372036854775807) (hb : (n + m) * bytes ≤ 140737488355328) :
    ∃ b c' w', (Builtin.append_ #[t, tx] ty #[.slice p n n, u]).run P w = .ok (.slice (pb b) (n + m) c') w' ∧ w.heap.size ≤ b ∧ Row w' size (pb b) (n + m) c' (xs ++ news) ∧ Frm w w' := by
  obtain ⟨i, hi1, hi2, hi3, hi4⟩ := inf_size (P := P) (t := e)
  subst hi3
  subst hi4
  have hlen : (xs ++ news).length = (n + m) * i.size := by rw [List.length_append, hl, hs.newsLen, Nat.add_mul]
  have hold : (Builtin.firstCells i.size n (.slice p n n)).run P w.drew = .ok xs.toArray w.drew := by
    rcases hx with h0 | ⟨a, rfl, h0⟩
    · subst h0
      have hn0 : n * i.size = 0 := by simpa using hl.symm
      cases p with
      | none => exact run_firstCells_none w.drew i.size n n n
      | some a => exact run_firstCells_some w.drew i.size n a n n [] (by simpa using hn0.symm) (by simp)
    · refine run_firstCells_some w.drew i.size n a n n xs hl (fun j v hj => ?_)
      have hlt : j < xs.length := by
        rcases Nat.lt_or_ge j xs.length with h | h
        · exact h
        · rw [List.getElem?_eq_none h] at hj; cases hj
      have := h0 j hlt
      rw [World.cell?_drew, this]; exact hj
  have hrun := run_append_grow_src (P := P) w t tx ty e i z hu.ok hi1 hi2 p n n xs hold u m news hs (by omega) (by omega) (growslice_fits (by omega) hb)
  have hge := grownCap_ge w (n + m) n e
  have hcm := grownCap_le_maxLen w (n + m) n e (by unfold maxLen; omega)
  refine ⟨_, _, _, hrun, Nat.le_refl _, ⟨hlen, .inr ⟨w.heap.size, 0, _, e, rfl, heap_alloc_new w.drew _, hge, by unfold maxLen at hcm; omega, ?_, ?_⟩⟩, ⟨rfl, rfl, rfl, by simp, fun k hk => Below.heap_alloc w.drew _ k hk⟩⟩
  · simp only [Array.size_append, List.size_toArray, hlen, size_zeroCells, hz, ← Nat.add_mul, Nat.zero_add]
    apply Nat.mul_le_mul_right; omega
  · simp only [List.drop_zero, Array.toList_append]
    rw [← hlen]; exact List.take_left
theorem y_appf [hu : Und P t (.slice e)] [hu' : Und P t' (.slice e')] [hi : Inf P e z size bytes] (hS : Sep w0 w cs) (hp : Sg w p xs) (hs : Sg w q news) (hpl : xs.length = n * size) (hx : evl σ x = .slice p n n) (hy : evl σ y = .slice q m c') (hl : news.length = m * size)
    (h1 : ∀ u ∈ news, u.oneCell' = true) (hz : z.cells.size = size) (hm : 0 < m) (h63 : n + m ≤ 9223372036854775807) (hb : (n + m) * bytes ≤ 140737488355328) :
    ∃ b c2 w', Y P σ ⟨d, .call ⟨.builtin .append, #[x, y], #[t, t']⟩, ty, pos, af, none⟩ w (.slice (pb b) (n + m) c2) w' ∧ Sep w0 w' (pRow size (pb b) (n + m) c2 (xs ++ news) :: cs) := by
  obtain ⟨b, c2, w', h2, h3, h4, h5⟩ := run_append_full (P := P) (t := t) (tx := t') (ty := ty) (e := e) hz hp hpl (src_of_sg (tx := t') (c := c') hs hl h1) hm h63 hb
  exact ⟨b, c2, w', run_append_op hx hy h2, hS.push h5 h4 (by simpa [pRow, rb] using h3)⟩
end
end Go.Sv
namespace Go.Proofs.YtcdogceabkpnmaaDoor
open Go Go.Sv Go.RowKit

/-- the way of an element in others -/
def pthR (st : List (List UInt8)) (x : List UInt8) : List UInt8 := (st.flatMap fun n => n ++ [47]) ++ x
def nmw (st : List (List UInt8)) : Nat := (st.map fun n => n.length + 1).sum
/-- where elements stand, of the first i -/
def pathsI (ms : List EvM) : Nat → List (List UInt8)
  | 0 => []
  | i + 1 => pathsI ms i ++ (match ms[i]? with | some m => if m.e.kind = 1 ∨ m.e.kind = 3 then [pthR (lkI ms i).stack m.e.name] else [] | none => [])
def pthP (b7 b9 : Nat) (q q6 : Option Addr) (cc c6 : Nat) (st out : List (List UInt8)) (nm : List UInt8) : PlanB Unit where
  pl k d := match k with
    | 12 => [pOwn d.b [str nm]]
    | 13 => [pRow 1 d.p (st.length + 1) d.c (strs st ++ [str nm])]
    | 15 => [pOwn d.b [str (pthR st nm)]]
    | 16 => [pRow 1 d.p (out.length + 1) d.c (strs out ++ [str (pthR st nm)])]
    | _ => []
  con k := match k with
    | 12 => some 13
    | 13 => some 14
    | 15 => some 16
    | _ => none
  base k := match k with
    | 16 => [pRow 1 q6 out.length c6 (strs out)]
    | _ => []
  fact k a := match k with
    | 0 => (a 0).v = .slice q6 out.length c6
    | 1 => (a 1).v = ptrAt (pb b7) 0
    | 2 => (a 2).v = .slice q st.length cc
    | 3 => (a 3).v = ptrAt (pb b7) 0
    | 4 => (a 4).v = .slice q st.length cc
    | 5 => (a 5).v = int st.length
    | 6 => (a 6).v = ptrAt (pb b7) 0
    | 7 => (a 7).v = .slice q st.length cc
    | 8 => (a 8).v = int st.length
    | 9 => (a 9).v = .slice q st.length st.length
    | 10 => (a 10).v = ptrAt (pb b9) 1
    | 11 => (a 11).v = str nm
    | 12 => (a 12).v = .slice (pb (a 12).b) 1 1
    | 13 => (a 13).v = .slice (a 13).p (st.length + 1) (a 13).c
    | 14 => (a 14).v = str (pthR st nm)
    | 15 => (a 15).v = .slice (pb (a 15).b) 1 1
    | 16 => (a 16).v = .slice (a 16).p (out.length + 1) (a 16).c
    | 17 => (a 17).v = .slice (a 16).p (out.length + 1) (a 16).c
    | _ => True
def slashes (st : List (List UInt8)) (j : Nat) : List UInt8 := (st.take j).flatMap fun n => n ++ [47]
theorem fm_take {α : Type} {f : α → List Value} {k : Nat} (h : ∀ x, (f x).length = k) (l : List α) (i : Nat) : (l.flatMap f).take (i * k) = (l.take i).flatMap f := by
  induction l generalizing i with
  | nil => simp
  | cons x l ih =>
    cases i with
    | zero => simp
    | succ i =>
      rw [List.flatMap_cons, List.take_succ_cons, List.flatMap_cons, ← ih i, List.take_append, h, List.take_of_length_le (by rw [h, Nat.succ_mul]; omega)]
      congr 2
      rw [Nat.succ_mul]; omega
theorem Evs.take {w : World} {p : Option Addr} {ms : List EvM} (h : Evs w p ms) (i : Nat) : Evs w p (ms.take i) := by
  refine ⟨?_, fun m hm => h.each m (List.mem_of_mem_take hm)⟩
  have := h.im.take (i * 4)
  rwa [fm_take EvM.len] at this






































































































end Go.Proofs.YtcdogceabkpnmaaDoor

/-
  Selectors: the ways that a selector means; dom's query.
-/
set_option linter.unusedSimpArgs false
set_option linter.unusedVariables false
set_option linter.unnecessarySimpa false
namespace Go.Proofs.YtcdogceabkpnmaaDoor
open Go Go.Sv Go.RowKit

/-- a way in memory -/
structure WayM where
  l : List Nat
  p : Option Addr
  c : Nat
def WayM.val (x : WayM) : Value := .slice x.p x.l.length x.c
def WayM.row (x : WayM) : RowD := ⟨1, x.p, x.l.length, x.c, ints x.l⟩
def ways (W : List WayM) : List Value := W.map WayM.val
theorem ways_len (W : List WayM) : (ways W).length = W.length := by simp [ways]
theorem ways_snoc (W : List WayM) (x : WayM) : ways W ++ [x.val] = ways (W ++ [x]) := by simp [ways]
theorem ways_one (W : List WayM) : ∀ u ∈ ways W, u.oneCell' = true := by
  intro u hu
  obtain ⟨x, _, rfl⟩ := List.mem_map.1 hu
  rfl
theorem ways_at {W : List WayM} {i : Nat} {x : WayM} (h : W[i]? = some x) : (ways W)[i]? = some (.slice x.p x.l.length x.c) := by simp [ways, h, WayM.val]
theorem qry_append (L : List Stp) (O : List El) (l m : List Nd) (w : List Nat) (i : Nat) : qryF L O (Fo.of (l ++ m)) w i = qryF L O (Fo.of l) w i ++ qryF L O (Fo.of m) w (i + l.length) := by
  induction l generalizing i with
  | nil => rfl
  | cons x l ih =>
    simp only [List.cons_append, Fo.of, qryF, ih, List.length_cons, List.append_assoc]
    rw [show i + 1 + l.length = i + (l.length + 1) by omega]
def qT (L : List Stp) (O : List El) (f : FoM) (w : List Nat) (i : Nat) : List (List Nat) := qryF L O (Fo.of (ndT f i)) w 0
theorem qT_all (L : List Stp) (O : List El) (f : FoM) (w : List Nat) : qT L O f w f.len = qryF L O f.fo w 0 := by rw [qT, ndT_all, fo_list]
theorem qT_succ {L : List Stp} {O : List El} {f : FoM} {i : Nat} {m : NdM} (w : List Nat) (h : f.list[i]? = some m) : qT L O f w (i + 1) = qT L O f w i ++ (if m.name = [] then [] else (if meansR L (O ++ [m.el]) then [w ++ [i]] else []) ++ qryF L (O ++ [m.el]) m.kids.fo (w ++ [i]) 0) := by
  have hi : i < f.len := (List.getElem?_eq_some_iff.1 h).1
  unfold qT
  rw [ndT_succ h, qry_append, ndT_len (by omega), Nat.zero_add]
  simp only [Fo.of, qryF, NdM.nd, List.append_nil]
  rfl
theorem nodes_one (O : List NdM) : ∀ u ∈ O.flatMap NdM.cells, u.oneCell' = true := by
  intro u hu
  obtain ⟨x, _, hx⟩ := List.mem_flatMap.1 hu
  exact nd_one x u hx
theorem nodes_snoc (O : List NdM) (m : NdM) : O.flatMap NdM.cells ++ m.cells = (O ++ [m]).flatMap NdM.cells := by simp
/-- steps that can be read -/
structure Stps (w : World) (row : StM → List Value) (M : List StM) (sp : Option Addr) : Prop where
  ms : Im [] w sp (M.flatMap StM.cells)
  mt : ∀ m ∈ M, m.tests.length ≤ 16777215 ∧ (∀ t ∈ m.tests, t.fine) ∧ Im [] w m.p (row m)
  m0 : M ≠ []
  ml : M.length ≤ 16777215
theorem Stps.frm {w w' : World} {row : StM → List Value} {M : List StM} {sp : Option Addr} (h : Stps w row M sp) (hf : Frm w w') : Stps w' row M sp :=
  ⟨h.ms.frm hf, fun m hm => ⟨(h.mt m hm).1, (h.mt m hm).2.1, (h.mt m hm).2.2.frm hf⟩, h.m0, h.ml⟩
def szT (f : FoM) (i : Nat) : Nat := ((f.list.take i).map fun m => 1 + m.kids.size).sum
theorem size_sum (f : FoM) : f.size = (f.list.map fun m => 1 + m.kids.size).sum := by
  induction f with
  | nil => rfl
  | cons n t es ap ac ks kp kc r _ ih => simp only [FoM.size, FoM.list, List.map_cons, List.sum_cons, ih]
theorem szT_succ {f : FoM} {i : Nat} {m : NdM} (h : f.list[i]? = some m) : szT f (i + 1) = szT f i + (1 + m.kids.size) := by
  unfold szT
  rw [List.take_add_one, h]
  simp
theorem szT_le (f : FoM) (i : Nat) : szT f i ≤ f.size := by
  rw [size_sum]
  unfold szT
  conv => rhs; rw [← List.take_append_drop i f.list, List.map_append, List.sum_append]
  omega
def qopP (b12 : Nat) (po : Option Addr) (co : Nat) (O : List NdM) (n t : List UInt8) (u v : Value) : PlanB Unit where
  pl k d := match k with
    | 7 => [pOwn d.b [str n, str t, u, v]]
    | 8 => [pRow 4 (pb d.b) (O.length + 1) d.c (O.flatMap NdM.cells ++ [str n, str t, u, v])]
    | _ => []
  con k := match k with
    | 7 => some 8
    | _ => none
  base k := match k with
    | _ => []
  fact k a := match k with
    | 0 => (a 0).v = .slice po O.length co
    | 1 => (a 1).v = .slice po O.length co
    | 2 => (a 2).v = int O.length
    | 3 => (a 3).v = .slice po O.length co
    | 4 => (a 4).v = int O.length
    | 5 => (a 5).v = .slice po O.length O.length
    | 6 => (a 6).v = .agg ⟨[str n, str t, u, v]⟩
    | 7 => (a 7).v = .slice (pb (a 7).b) 1 1
    | 8 => (a 8).v = .slice (pb (a 8).b) (O.length + 1) (a 8).c
    | 9 => (a 9).v = .slice (pb (a 8).b) (O.length + 1) (a 8).c
    | _ => True
set_option maxHeartbeats 8000000 in
theorem dQuery_ok (M : List StM) (sp : Option Addr) (sc : Nat) : ∀ (k : Nat) (f : FoM) (p : Option Addr) (c : Nat), f.size < k → f.wt ≤ 1048576 → ∀ (way : List Nat) (pw : Option Addr) (cw : Nat) (O : List NdM) (po : Option Addr) (co : Nat) (W : List WayM) (q : Option Addr) (cq : Nat),
    way.length + k ≤ 4194304 → O.length + k ≤ 4194304 → W.length + f.size ≤ 4194304 → ∀ (w0 w : World) (cs : List Plot), Stps w0 (fun m => m.tests.flatMap Tst.dom) M sp → (∀ m ∈ O, m.small ∧ Im [] w0 m.ap (m.attrs.flatMap At.cells)) → Tre w0 p f →
      Sep w0 w (pRow 1 q W.length cq (ways W) :: pMany (W.map WayM.row) :: pRow 1 pw way.length cw (ints way) :: pRow 4 po O.length co (O.flatMap NdM.cells) :: cs) →
      CallsR Tryd.prog 58 #[.slice sp M.length sc, .slice q W.length cq, .slice pw way.length cw, .slice po O.length co, .slice p f.len c] w fun v w' => ∃ (W' : List WayM) (q' : Option Addr) (cq' : Nat), v = .slice q' W'.length cq' ∧
        W'.map WayM.l = W.map WayM.l ++ qryF (M.map StM.st) (O.map NdM.el) f.fo way 0 ∧ W'.length ≤ W.length + f.size ∧ Sep w0 w' (pRow 1 q' W'.length cq' (ways W') :: pMany (W'.map WayM.row) :: pRow 1 pw way.length cw (ints way) :: pRow 4 po O.length co (O.flatMap NdM.cells) :: cs) := by
  intro k
  induction k with
  | zero => intro f p c hk; omega
  | succ k ih =>
    intro f p c hk hw way pw cw O po co W q cq hwl hol hWl w0 w cs hM hO hT hS
    have hlw := FoM.len_wt f
    have hol4 : (O.flatMap NdM.cells).length = O.length * 4 := fm_len NdM.clen O
    refine enter (l := [.slice sp M.length sc, .slice q W.length cq, .slice pw way.length cw, .slice po O.length co, .slice p f.len c]) Tryd.func58 rfl Tryd.ntmps58 (by kernel_rfl) rfl ?_
    refine sgo ?_
    refine wcloop (X := Nat × List WayM × Option Addr × Nat) (fun x => [(0, .slice sp M.length sc), (1, .slice x.2.2.1 x.2.1.length x.2.2.2), (2, .slice pw way.length cw), (3, .slice po O.length co), (15, .slice p f.len c), (16, int f.len), (17, int x.1)])
      (fun x wr => x.1 ≤ f.len ∧ x.2.1.map WayM.l = W.map WayM.l ++ qT (M.map StM.st) (O.map NdM.el) f way x.1 ∧ x.2.1.length ≤ W.length + szT f x.1 ∧
        Sep w0 wr (pRow 1 x.2.2.1 x.2.1.length x.2.2.2 (ways x.2.1) :: pMany (x.2.1.map WayM.row) :: pRow 1 pw way.length cw (ints way) :: pRow 4 po O.length co (O.flatMap NdM.cells) :: cs)) (fun x => f.len - x.1) (0, W, q, cq) ⟨rfl, rfl, rfl, rfl, rfl, rfl, rfl, trivial⟩ ⟨Nat.zero_le _, by simp [qT, ndT, Fo.of, qryF], Nat.le_add_right _ _, hS⟩ ?_
    repeat clear hS
    rintro ⟨i, V, q1, c1⟩ wr ρ ⟨hil, hV, hVl, hS⟩
    dsimp only at hil hV hVl hS ⊢
    refine sgo ?_
    (show WC _ _ _ _ _ _ _; first | refine WC_dec rfl (fun hc => ?_) (fun hc => ?_) | refine WC_cond rfl (fun hc => ?_) (fun hc => ?_))
    · have hlt : i < f.len := by omega
      have hIm := hT.im
      obtain ⟨m, hx, hm, hseg, hfl, hps, hat, hkT⟩ := tre_at hT hlt
      have hsz := FoM.size_mem hm
      have hsm := nd_small hw hm
      have hsn := qT_succ (L := M.map StM.st) (O := O.map NdM.el) way hx
      have hszs := szT_succ hx
      have hszl := szT_le f i
      have hszl1 := szT_le f (i + 1)
      have hih := ih m.kids m.kp m.kc (by omega) hsm.kids (way ++ [i])
      have hoc : O.length ≤ co := (hS.row 3 rfl).le_cap.1
      clear hc
      obtain ⟨n, t, es, ap, ac, ks, kp, kc⟩ := m
      replace hseg : ((f.list.flatMap NdM.cells).drop (i * 4)).take 4 = [str n, str t, .slice ap es.length ac, .slice kp ks.len kc] := hseg
      dsimp only at hsn hszs hih hat hkT hsz
      refine sgo ?_
      rw [hseg]
      refine salloc hS fun b12 w5 hS => ?_
      refine sgo ?_
      refine ssta (vs := [str n, str t, .slice ap es.length ac, .slice kp ks.len kc]) hS 0 fun w6 hS => ?_
      replace hS : Sep w0 w6 (pOwn b12 [str n, str t, .slice ap es.length ac, .slice kp ks.len kc] :: pRow 1 q1 V.length c1 (ways V) :: pMany (V.map WayM.row) :: pRow 1 pw way.length cw (ints way) :: pRow 4 po O.length co (O.flatMap NdM.cells) :: cs) := hS
      refine sgo ?_
      refine wlbuild (cells := [str n, str t, .slice ap es.length ac, .slice kp ks.len kc]) ?_
      refine wlpure (oneText_ok n (str t) (.slice ap es.length ac) (.slice kp ks.len kc) _) fun w7 hf7 => ?_
      replace hS := hS.grow hf7
      refine sgo ?_
      (show WC _ _ _ _ _ _ _; first | refine WC_dec rfl (fun hc => ?_) (fun hc => ?_) | refine WC_cond rfl (fun hc => ?_) (fun hc => ?_))
      · rw [if_pos hc, List.append_nil] at hsn
        refine sgo ?_
        refine ⟨(i + 1, V, q1, c1), ⟨rfl, rfl, rfl, rfl, rfl, rfl, rfl, trivial⟩, ⟨hlt, by dsimp only; rw [hV, hsn], by dsimp only; omega, hS.tail⟩, by dsimp only; omega⟩
      · rw [if_neg hc] at hsn
        clear hc
        refine sgo ?_
        refine sapp0 hS (hS.row 3 rfl).sg (fun q2 c2 w8 hS => ?_) (hl := by rw [ints_len, Nat.mul_one]) (h1 := ints_one way)
        refine sgo ?_
        refine sb1i hS fun b3 w9 hS => ?_
        refine sgo ?_
        refine sapp hS 1 (hS.own 0 rfl).sg (fun q4 c4 w10 hS => ?_)
        obtain ⟨wi, hwi⟩ : ∃ wi, wi = way ++ [i] := ⟨_, rfl⟩
        have hwil : wi.length = way.length + 1 := by rw [hwi]; simp
        rw [ints_snoc, ← hwi, ← hwil] at hS
        rw [← hwil]
        rw [← hwi] at hsn hih
        replace hS : Sep w0 w10 ([] ++ (pOwn b12 [str n, str t, .slice ap es.length ac, .slice kp ks.len kc] :: pRow 1 q4 wi.length c4 (ints wi) :: pRow 1 q1 V.length c1 (ways V) :: pMany (V.map WayM.row) :: pRow 1 pw way.length cw (ints way) :: pRow 4 po O.length co (O.flatMap NdM.cells) :: cs)) := by
          have h2 : Sep w0 w10 (pOwn b3 [int i] :: pRow 1 q4 wi.length c4 (ints wi) :: pOwn b12 [str n, str t, .slice ap es.length ac, .slice kp ks.len kc] :: pRow 1 q1 V.length c1 (ways V) :: pMany (V.map WayM.row) :: pRow 1 pw way.length cw (ints way) :: pRow 4 po O.length co (O.flatMap NdM.cells) :: cs) := hS
          exact h2.tail.front 1 rfl
        refine sgo ?_
        refine wcplanb (b := []) (qopP b12 po co O n t (.slice ap es.length ac) (.slice kp ks.len kc)) ⟨.nilIface, none, 0, 0, ()⟩ hS rfl (fun j oj a a' hj he hd h => ?_) ⟨?_, ?_, ?_, ?_, ?_, ?_, ?_, ?_, ?_, ?_, trivial⟩ ?_
        · have hjl : j < 10 := (List.getElem?_eq_some_iff.1 hj).1
          match j, hjl with
          | 0, _ | 1, _ | 2, _ | 3, _ | 4, _ | 5, _ | 6, _ | 7, _ | 8, _ => first | (simp only [qopP] at h ⊢; rw [← he]; exact h) | exact h
          | 9, _ => simp only [qopP] at h ⊢; rw [← he, ← hd 8 (by cases hj; rfl)]; exact h
        · intro a σ' w' rest hσ hdep hS'   -- 0: move; pieces:  ..
          have e3 : σ' 3 = .slice po O.length co := (hσ 3 (notDstB rfl)).trans rfl
          exact rule_e [(3, _)] ⟨e3, trivial⟩ ⟨⟨.slice po O.length co, none, 0, 0, ()⟩, rfl, rfl, hS'⟩
        · intro a σ' w' rest hσ hdep hS'   -- 1: move; pieces:  ..
          have e3 : σ' 3 = .slice po O.length co := (hσ 3 (notDstB rfl)).trans rfl
          exact rule_e [(3, _)] ⟨e3, trivial⟩ ⟨⟨.slice po O.length co, none, 0, 0, ()⟩, rfl, rfl, hS'⟩
        · intro a σ' w' rest hσ hdep hS'   -- 2: call; pieces:  ..
          have f1 := (hdep 1 _ rfl rfl).2
          have e31 := ((hdep 1 _ rfl rfl).1 31 rfl).trans f1
          exact rule_y (y_len e31 rfl) ⟨⟨int O.length, none, 0, 0, ()⟩, rfl, rfl, hS'⟩
        · intro a σ' w' rest hσ hdep hS'   -- 3: move; pieces:  ..
          have e3 : σ' 3 = .slice po O.length co := (hσ 3 (notDstB rfl)).trans rfl
          exact rule_e [(3, _)] ⟨e3, trivial⟩ ⟨⟨.slice po O.length co, none, 0, 0, ()⟩, rfl, rfl, hS'⟩
        · intro a σ' w' rest hσ hdep hS'   -- 4: call; pieces:  ..
          have f3 := (hdep 3 _ rfl rfl).2
          have e33 := ((hdep 3 _ rfl rfl).1 33 rfl).trans f3
          exact rule_y (y_len e33 rfl) ⟨⟨int O.length, none, 0, 0, ()⟩, rfl, rfl, hS'⟩
        · intro a σ' w' rest hσ hdep hS'   -- 5: slice; pieces:  ..
          have f0 := (hdep 0 _ rfl rfl).2
          have e30 := ((hdep 0 _ rfl rfl).1 30 rfl).trans f0
          have f2 := (hdep 2 _ rfl rfl).2
          have e32 := ((hdep 2 _ rfl rfl).1 32 rfl).trans f2
          have f4 := (hdep 4 _ rfl rfl).2
          have e34 := ((hdep 4 _ rfl rfl).1 34 rfl).trans f4
          exact rule_y (y_rslice3 e30 e32 e34 ⟨Nat.le_refl _, hoc⟩) ⟨⟨.slice po O.length O.length, none, 0, 0, ()⟩, rfl, rfl, hS'⟩
        · intro a σ' w' rest hσ hdep hS'   -- 6: load; pieces:  ..
          have e12 : σ' 12 = ptrAt (pb b12) 0 := (hσ 12 (notDstB rfl)).trans rfl
          exact rule_y (y_loada (l := [str n, str t, .slice ap es.length ac, .slice kp ks.len kc]) e12 (Sep.sgv hS' 0 rfl) (Nat.le_of_ble_eq_true rfl) ⟨_, rfl⟩) ⟨⟨.agg ⟨[str n, str t, .slice ap es.length ac, .slice kp ks.len kc]⟩, none, 0, 0, ()⟩, rfl, rfl, hS'⟩
        · intro a σ' w' rest hσ hdep hS'   -- 7: buildSlice; pieces:  ..
          have f6 := (hdep 6 _ rfl rfl).2
          have e36 := ((hdep 6 _ rfl rfl).1 36 rfl).trans f6
          obtain ⟨b', w2, hy, hS2⟩ := y_bs1 (P := Tryd.prog) (t := 22) (d := some 37) (x := .tmp 36) (vs := [str n, str t, .slice ap es.length ac, .slice kp ks.len kc]) (size := 4) hS' e36 rfl rfl (by decide) (by decide)
          exact rule_y hy ⟨⟨.slice (pb b') 1 1, none, 0, b', ()⟩, rfl, rfl, hS2⟩
        · intro a σ' w' rest hσ hdep hS'   -- 8: call; pieces: takes 7 ..
          have f5 := (hdep 5 _ rfl rfl).2
          have e35 := ((hdep 5 _ rfl rfl).1 35 rfl).trans f5
          have f7 := (hdep 7 _ rfl rfl).2
          have e37 := ((hdep 7 _ rfl rfl).1 37 rfl).trans f7
          obtain ⟨b', c2, w2, hy, hS2⟩ := y_appf (P := Tryd.prog) (t := 22) (t' := 22) (ty := 22) (d := some 38) (x := .tmp 35) (y := .tmp 37) (n := O.length) (m := 1) (size := 4) hS' (hS'.sgv 6 rfl) (hS'.own 0 rfl).sg hol4 e35 e37 rfl (by simp [Go.Value.oneCell']) rfl (by decide) (by omega) (by omega)
          exact rule_y hy ⟨⟨.slice (pb b') (O.length + 1) c2, none, c2, b', ()⟩, rfl, rfl, hS2.drop 1 rfl⟩
        · intro a σ' w' rest hσ hdep hS'   -- 9: assign; pieces:  ..
          have f8 := (hdep 8 _ rfl rfl).2
          have e38 := ((hdep 8 _ rfl rfl).1 38 rfl).trans f8
          exact rule_e [(38, _)] ⟨e38, trivial⟩ ⟨⟨.slice (pb (a 8).b) (O.length + 1) (a 8).c, none, 0, 0, ()⟩, rfl, rfl, hS'⟩
        · intro a σ' w' hσ hA' hS'
          have h8 := hA' 8 _ rfl
          have h9 := hA' 9 _ rfl
          rw [frameOf (σ := σ') [(0, .slice sp M.length sc), (1, .slice q1 V.length c1), (2, .slice pw way.length cw), (3, .slice po O.length co), (11, int i), (12, ptrAt (pb b12) 0), (13, .slice q4 wi.length c4), (14, .slice (pb (a 8).b) (O.length + 1) (a 8).c), (15, .slice p f.len c), (16, int f.len), (17, int i)]
            ⟨(hσ 0 (notDst rfl)).trans rfl, (hσ 1 (notDst rfl)).trans rfl, (hσ 2 (notDst rfl)).trans rfl, (hσ 3 (notDst rfl)).trans rfl, (hσ 11 (notDst rfl)).trans rfl, (hσ 12 (notDst rfl)).trans rfl, (hσ 13 (notDst rfl)).trans rfl, (h9.1 14 rfl).trans h9.2, (hσ 15 (notDst rfl)).trans rfl, (hσ 16 (notDst rfl)).trans rfl, (hσ 17 (notDst rfl)).trans rfl, trivial⟩]
          obtain ⟨m, hme⟩ : ∃ m : NdM, m = ⟨n, t, es, ap, ac, ks, kp, kc⟩ := ⟨_, rfl⟩
          replace hS' : Sep w0 w' (pRow 4 (pb (a 8).b) (O.length + 1) (a 8).c (O.flatMap NdM.cells ++ m.cells) :: pOwn b12 [str n, str t, .slice ap es.length ac, .slice kp ks.len kc] :: pRow 1 q4 wi.length c4 (ints wi) :: pRow 1 q1 V.length c1 (ways V) :: pMany (V.map WayM.row) :: pRow 1 pw way.length cw (ints way) :: pRow 4 po O.length co (O.flatMap NdM.cells) :: cs) := by rw [hme]; exact hS'
          generalize (a 8).b = bO at hS' ⊢
          generalize (a 8).c = cO at hS' ⊢
          obtain ⟨O', hO'⟩ : ∃ O', O' = O ++ [m] := ⟨_, rfl⟩
          have hOl : O'.length = O.length + 1 := by rw [hO']; simp
          rw [nodes_snoc, ← hO', ← hOl] at hS'
          have hOm : ∀ m' ∈ O', m'.small ∧ Im [] w0 m'.ap (m'.attrs.flatMap At.cells) := by
            intro m' hm'
            rw [hO'] at hm'
            rcases List.mem_append.1 hm' with h | h
            · exact hO m' h
            · obtain rfl := List.mem_singleton.1 h
              rw [hme]; exact ⟨hsm, hat⟩
          have hOe : O.map NdM.el ++ [NdM.el ⟨n, t, es, ap, ac, ks, kp, kc⟩] = O'.map NdM.el := by rw [hO', hme]; simp
          rw [hOe] at hsn
          rw [← hOl]
          clear hA' hσ h8 h9 a hO' hme hOe
          repeat clear hS
          have hS := hS'
          clear hS'
          have hqr : Qry w' (fun m => m.tests.flatMap Tst.dom) M sp O' (pb bO) := by
            have hM' := hM.frm hS.frm
            exact ⟨hM'.ms, hM'.mt, hS.im 0 rfl, fun m' hm' => ⟨(hOm m' hm').1, (hOm m' hm').2.frm hS.frm⟩, hM.m0, (fun h => by rw [h] at hOl; simp at hOl), hM.ml, by omega⟩
          refine sgo ?_
          refine wlpure (dMeant_ok M sp sc O' (pb bO) cO _ hqr) fun w12 hf12 => ?_
          replace hS := hS.grow hf12
          clear hqr
          generalize hmn : meansR (M.map StM.st) (O'.map NdM.el) = mn at *
          refine sgo ?_
          refine wcutt (X := List WayM × Option Addr × Nat) (fun x => [(0, .slice sp M.length sc), (1, .slice x.2.1 x.1.length x.2.2), (2, .slice pw way.length cw), (3, .slice po O.length co), (12, ptrAt (pb b12) 0), (13, .slice q4 wi.length c4), (14, .slice (pb bO) O'.length cO), (15, .slice p f.len c), (16, int f.len), (17, int i)])
            (fun x wr => x.1.map WayM.l = V.map WayM.l ++ (if mn = true then [wi] else []) ∧ x.1.length ≤ V.length + 1 ∧
              Sep w0 wr (pRow 1 x.2.1 x.1.length x.2.2 (ways x.1) :: pMany (x.1.map WayM.row) :: pRow 1 q4 wi.length c4 (ints wi) :: pRow 4 (pb bO) O'.length cO (O'.flatMap NdM.cells) :: pOwn b12 [str n, str t, .slice ap es.length ac, .slice kp ks.len kc] :: pRow 1 pw way.length cw (ints way) :: pRow 4 po O.length co (O.flatMap NdM.cells) :: cs)) ?_ ?_
          · cases mn with
            | false =>
              refine sgo ?_
              exact ⟨(V, q1, c1), ⟨rfl, rfl, rfl, rfl, rfl, rfl, rfl, rfl, rfl, rfl, trivial⟩, ⟨by simp, Nat.le_succ _, by
                have h2 := hS.sel 7 [3, 4, 2, 0, 1, 5, 6]
                simp only [List.filterMap_cons, List.filterMap_nil, List.getElem?_cons_succ, List.getElem?_cons_zero, List.drop_succ_cons, List.drop_zero, List.cons_append, List.nil_append] at h2
                exact h2⟩⟩
            | true =>
              refine sgo ?_
              refine sapp0 hS (hS.row 2 rfl).sg (fun q5 c5 w13 hS => ?_) (hl := by rw [ints_len, Nat.mul_one]) (h1 := ints_one wi)
              refine sgo ?_
              refine sb1 (v := .slice q5 wi.length c5) hS fun b6 w14 hS => ?_
              refine sgo ?_
              refine sapp hS 5 (hS.own 0 rfl).sg (fun q6 c6 w15 hS => ?_)
              replace hS : Sep w0 w15 (pOwn b6 [.slice q5 wi.length c5] :: pRow 1 q5 wi.length c5 (ints wi) :: pRow 4 (pb bO) O'.length cO (O'.flatMap NdM.cells) :: pOwn b12 [str n, str t, .slice ap es.length ac, .slice kp ks.len kc] :: pRow 1 q4 wi.length c4 (ints wi) :: pRow 1 q6 (V.length + 1) c6 (ways V ++ [(⟨wi, q5, c5⟩ : WayM).val]) :: pMany (V.map WayM.row) :: pRow 1 pw way.length cw (ints way) :: pRow 4 po O.length co (O.flatMap NdM.cells) :: cs) := hS
              have hVl2 : (V ++ [(⟨wi, q5, c5⟩ : WayM)]).length = V.length + 1 := by simp
              rw [ways_snoc, ← hVl2] at hS
              rw [← hVl2]
              refine sgo ?_
              have h2 := hS.sel 9 [1, 6, 5, 4, 2, 3, 7, 8]
              simp only [List.filterMap_cons, List.filterMap_nil, List.getElem?_cons_succ, List.getElem?_cons_zero, List.drop_succ_cons, List.drop_zero, List.cons_append, List.nil_append] at h2
              have h3 := h2.more.front 1 rfl
              rw [show V.map WayM.row ++ [⟨1, q5, wi.length, c5, ints wi⟩] = (V ++ [(⟨wi, q5, c5⟩ : WayM)]).map WayM.row by simp [WayM.row]] at h3
              exact ⟨(V ++ [⟨wi, q5, c5⟩], q6, c6), ⟨rfl, rfl, rfl, rfl, rfl, rfl, rfl, rfl, rfl, rfl, trivial⟩, ⟨by simp, by dsimp only; omega, h3⟩⟩
          · repeat clear hS
            rintro ⟨V2, q6, c6⟩ w13 ρ2 ⟨hV2, hV2l, hS⟩
            dsimp only at hV2 hV2l hS ⊢
            refine sgo ?_
            refine wlcall (hih q4 c4 O' (pb bO) cO V2 q6 c6 (by omega) (by omega) (by omega) w0 _ _ hM hOm hkT hS) ?_
            repeat clear hS
            rintro _ w14 ⟨V3, q7, c7, rfl, hV3, hV3l, hS⟩
            refine sgo ?_
            have h2 := hS.sel 7 [0, 1, 5, 6]
            simp only [List.filterMap_cons, List.filterMap_nil, List.getElem?_cons_succ, List.getElem?_cons_zero, List.drop_succ_cons, List.drop_zero, List.cons_append, List.nil_append] at h2
            refine ⟨(i + 1, V3, q7, c7), ⟨rfl, rfl, rfl, rfl, rfl, rfl, rfl, trivial⟩, ⟨hlt, ?_, by dsimp only; omega, h2⟩, by dsimp only; omega⟩
            dsimp only
            rw [hV3, hV2, hV, hsn]
            simp only [List.append_assoc]
    · obtain rfl : i = f.len := by omega
      refine sgo ?_
      (first | refine fp1 (.inl rfl) rfl rfl ?_ | refine fp2 (.inl rfl) rfl rfl rfl ?_ | refine fp3 (.inl rfl) rfl rfl rfl rfl ?_ | refine fp0 (.inr rfl) rfl ?_ | refine fp0 (.inl rfl) rfl ?_ | refine fp1 (.inr rfl) rfl rfl ?_)
      rw [qT_all] at hV
      exact ⟨V, q1, c1, rfl, hV, by have := szT_le f f.len; omega, hS⟩
end Go.Proofs.YtcdogceabkpnmaaDoor

/-
  Chapter 21: dom.Count.
-/
set_option linter.unusedSimpArgs false
set_option linter.unusedVariables false
set_option linter.unnecessarySimpa false
namespace Go.Proofs.YtcdogceabkpnmaaDoor
open Go Go.Sv Go.RowKit
theorem size_wt (f : FoM) : f.size ≤ f.wt := by
  induction f with
  | nil => exact Nat.le_refl _
  | cons n t es ap ac ks kp kc r ih1 ih2 => simp only [FoM.size, FoM.wt]; omega
def isTx (x : List Nat × Nd) : Bool := decide (x.2.name = [])
def cT (W : List (List Nat × Nd)) (i : Nat) : Nat := (W.take i).countP isTx
def cE (W : List (List Nat × Nd)) (i : Nat) : Nat := (W.take i).countP fun x => !isTx x
theorem cT_succ {W : List (List Nat × Nd)} {i : Nat} {way : List Nat} {nd : Nd} (h : W[i]? = some (way, nd)) : cT W (i + 1) = cT W i + if nd.name = [] then 1 else 0 := by
  unfold cT
  rw [List.take_add_one, h, List.countP_append]
  by_cases hn : nd.name = [] <;> simp [isTx, hn]
theorem cE_succ {W : List (List Nat × Nd)} {i : Nat} {way : List Nat} {nd : Nd} (h : W[i]? = some (way, nd)) : cE W (i + 1) = cE W i + if nd.name = [] then 0 else 1 := by
  unfold cE
  rw [List.take_add_one, h, List.countP_append]
  by_cases hn : nd.name = [] <;> simp [isTx, hn]
theorem cnt_split {α : Type} (p : α → Bool) (l : List α) : l.length = l.countP p + l.countP fun x => !p x := by
  induction l with
  | nil => rfl
  | cons x l ih =>
    simp only [List.length_cons, List.countP_cons]
    cases p x <;> simp <;> omega
theorem wlk_cnt (f : Fo) : ∀ w i, (f.wlk w i).countP isTx = f.texts ∧ ((f.wlk w i).countP fun x => !isTx x) = f.elems := by
  induction f with
  | nil => intro w i; exact ⟨rfl, rfl⟩
  | cons n t es ks r ih1 ih2 =>
    intro w i
    obtain ⟨h1, h2⟩ := ih1 (w ++ [i]) 0
    obtain ⟨h3, h4⟩ := ih2 w (i + 1)
    simp only [Fo.wlk, Fo.texts, Fo.elems, List.countP_cons, List.countP_append, h3, h4]
    by_cases hn : n = []
    · have hx : isTx (w ++ [i], ⟨n, t, es, ks⟩) = true := decide_eq_true hn
      simp only [if_pos hn, hx, List.countP_nil]
      constructor <;> simp <;> omega
    · have hx : isTx (w ++ [i], ⟨n, t, es, ks⟩) = false := decide_eq_false hn
      simp only [if_neg hn, hx, h1, h2]
      constructor <;> simp <;> omega
theorem cT_all (f : Fo) : cT (f.wlk [] 0) (f.wlk [] 0).length = f.texts := by rw [cT, List.take_length]; exact (wlk_cnt f [] 0).1
theorem cE_all (f : Fo) : cE (f.wlk [] 0) (f.wlk [] 0).length = f.elems := by rw [cE, List.take_length]; exact (wlk_cnt f [] 0).2
theorem wlk_len (f : Fo) : (f.wlk [] 0).length = f.elems + f.texts := by
  have h1 := wlk_cnt f [] 0
  have h2 := cnt_split isTx (f.wlk [] 0)
  omega
theorem cT_le (W : List (List Nat × Nd)) (i : Nat) : cT W i ≤ W.length := Nat.le_trans List.countP_le_length (by rw [List.length_take]; omega)
theorem cE_le (W : List (List Nat × Nd)) (i : Nat) : cE W i ≤ W.length := Nat.le_trans List.countP_le_length (by rw [List.length_take]; omega)
set_option maxHeartbeats 4000000 in
theorem domCount_ok (f : FoM) (p : Option Addr) (c : Nat) (hw : f.wt ≤ 1048576) (w : World) (hT : Tre w p f) : PureC Tryd.prog 24 #[.slice p f.len c] w (.tuple #[int f.fo.elems, int f.fo.texts]) := by
  have hS := Sep.start w
  refine enter (l := [.slice p f.len c]) Tryd.func24 rfl Tryd.ntmps24 (by kernel_rfl) rfl ?_
  refine sgo ?_
  refine salloc hS fun b4 w1 hS => ?_
  refine sgo ?_
  refine salloc hS fun b5 w2 hS => ?_
  refine sgo ?_
  refine sst_int hS 1 fun w3 hS => ?_
  refine sgo ?_
  refine sst_int hS 0 fun w4 hS => ?_
  replace hS : Sep w w4 [pOwn b5 [int ((0 : Nat) : Int)], pOwn b4 [int ((0 : Nat) : Int)]] := hS
  refine sgo ?_
  refine wlcall (domWalk_ok f p c hw w w4 _ hS (hT.frm hS.frm)) ?_
  rintro _ w5 ⟨bW, q, cc, L, rfl, hL, -, hS⟩
  have hfo : (FoM.of L).fo = f.fo := by rw [fo_of, hL, ← fo_list]
  have hLw : (FoM.of L).wt ≤ 1048576 := by rw [wt_of_nd hL]; exact hw
  have hcap := (hS.row 1 rfl).le_cap.1
  have hfit : (FoM.of L).fit := fit_rows (by rw [rows_of]; exact hS.many 2 rfl)
  have hlen := wlk_len f.fo
  have hcw := cnt_wt f
  have hLs : (FoM.of L).size ≤ 4000000 := by have := size_wt (FoM.of L); omega
  refine sgo ?_
  refine wcrangef (cap := [ptrAt (pb bW) 0]) rfl rfl ?_
  intro fn lr D w8 hD hlr hne hf8 hLo hN
  obtain ⟨rc, hrc, hLo⟩ := loop_fam hLo
  replace hS := hS.loop hf8 hLo hN hlr hD hne
  have hfeet := hS.feet_lt
  have hsz := hS.frm.size
  have hW : (FoM.of L).fo.wlk [] 0 = f.fo.wlk [] 0 := by rw [hfo]
  have h1 := walk1_ok21 lr w8.heap.size bW L q cc hLw hcap hfit hLs
    (fun i w' => Sep w w' (pLoop lr (rc .ready none) :: pDef D :: [pOwn bW [.slice q L.length cc], pRow 4 q L.length cc (L.flatMap NdM.cells), pMany (L.flatMap NdM.rows), pOwn b5 [int (cT (f.fo.wlk [] 0) i)], pOwn b4 [int (cE (f.fo.wlk [] 0) i)]]))
    (fun _ _ => False) (fun i w1 w2 h h' => h.same h' hsz hfeet) (fun _ _ _ h _ => h.elim) (fun i w' h => ⟨h.own 2 rfl, Sep.treL h 3 4 rfl rfl⟩) ?_ w8 rfl hS
  · refine CallsR.mono h1 ?_
    rw [hW]
    rintro v w4 hor
    have hS := hor.resolve_right fun ⟨_, _, h⟩ => h
    rw [cT_all, cE_all] at hS
    refine ⟨.ready, none, by simp, by rw [← hrc]; exact hS.loopAt 0 rfl, fun w5 hl5 => aft_none ?_⟩
    replace hS := Sep.lose hS hl5
    refine sgo ?_
    refine wcdraw ?_
    refine qgo ?_
    refine QL_nil ?_
    intro w6 hf6
    replace hS := hS.grow hf6
    refine sgo ?_
    refine fp_mark (.inl rfl) (hS.noDef 0 rfl) ?_
    (first | refine fp1 (.inl rfl) rfl rfl ?_ | refine fp2 (.inl rfl) rfl rfl rfl ?_ | refine fp3 (.inl rfl) rfl rfl rfl rfl ?_ | refine fp0 (.inr rfl) rfl ?_ | refine fp0 (.inl rfl) rfl ?_ | refine fp1 (.inr rfl) rfl rfl ?_)
    exact ⟨rfl, hS.undef.frm⟩
  · subst hrc
    intro i w1 way nd h hx q2 c2 m2 w' hm2 hS2
    rw [hW] at hx
    obtain ⟨kp, hkp, hk⟩ := h.keep1
    have hS3 := hk.seq hS2
    have hlt : i < (f.fo.wlk [] 0).length := (List.getElem?_eq_some_iff.1 hx).1
    have hcT := cT_succ hx
    have hcE := cE_succ hx
    have hcl := cT_le (f.fo.wlk [] 0) i
    have hcl2 := cE_le (f.fo.wlk [] 0) i
    rw [← hm2] at hcT hcE
    have hw1 := hS2.frm.size
    refine yld_of (hS3.loopAt 3 rfl) rfl (by kernel_rfl) ?_
    obtain ⟨n, t, es, ap, ac, ks, kp2, kc⟩ := m2
    simp only [NdM.nd] at hcT hcE
    clear hm2
    refine sgo ?_
    refine wlalloc fun b7 w3 hb7 ho7 hf7 => ?_
    have hS := hS3.push (c := pOwn b7 _) hf7 ho7 (by simpa [pOwn] using hb7)
    refine sgo ?_
    refine ssta (vs := [str n, str t, .slice ap es.length ac, .slice kp2 ks.len kc]) hS 0 fun w4 hS => ?_
    replace hS : Sep w w4 (pOwn b7 [str n, str t, .slice ap es.length ac, .slice kp2 ks.len kc] :: pRow 1 q2 way.length c2 (ints way) :: pMany (NdM.rows ⟨n, t, es, ap, ac, ks, kp2, kc⟩) :: kp :: pLoop lr _ :: pDef D :: [pOwn bW [.slice q L.length cc], pRow 4 q L.length cc (L.flatMap NdM.cells), pMany (L.flatMap NdM.rows), pOwn b5 [int (cT (f.fo.wlk [] 0) i)], pOwn b4 [int (cE (f.fo.wlk [] 0) i)]]) := hS
    have hfin : ∀ {wz : World} {cz : List Plot} {vs : List Value} {y z : Plot} {st : Loop}, Sep w wz (pOwn b7 vs :: y :: z :: kp :: pLoop lr st :: cz) → ∃ N, Le N w1 wz ∧ ∀ x ∈ N, x < w8.heap.size := by
      intro wz cz vs y z st hz
      rw [hkp] at hz
      refine ⟨_, Sep.kept h hz (List.Mem.tail _ (List.Mem.tail _ (List.Mem.tail _ (List.Mem.head _)))) ?_, hfeet⟩
      have := hz.lt (List.Mem.head _) b7 (List.Mem.head _)
      omega
    refine sgo ?_
    refine ⟨hS.loopAt 4 rfl, fun w5 hl5 hL5 => ?_⟩
    obtain ⟨rb, hrb, hL5⟩ : ∃ rb : Loop, rb = _ ∧ LoopAt w5 lr rb := ⟨_, rfl, hL5⟩
    replace hS := hS.turnLoop 4 rfl hl5 hL5
    replace hS : Sep w w5 (pOwn b7 [str n, str t, .slice ap es.length ac, .slice kp2 ks.len kc] :: pRow 1 q2 way.length c2 (ints way) :: pMany (NdM.rows ⟨n, t, es, ap, ac, ks, kp2, kc⟩) :: kp :: pLoop lr rb :: pDef D :: [pOwn bW [.slice q L.length cc], pRow 4 q L.length cc (L.flatMap NdM.cells), pMany (L.flatMap NdM.rows), pOwn b5 [int (cT (f.fo.wlk [] 0) i)], pOwn b4 [int (cE (f.fo.wlk [] 0) i)]]) := hS
    refine sgo ?_
    refine wlbuild (cells := [str n, str t, .slice ap es.length ac, .slice kp2 ks.len kc]) ?_
    refine wlpure (oneText_ok n (str t) (.slice ap es.length ac) (.slice kp2 ks.len kc) _) fun w6 hf6 => ?_
    replace hS := hS.grow hf6
    have hs5 : Sg w6 (pb b5) [int (cT (f.fo.wlk [] 0) i)] := (hS.own 9 rfl).sg
    have hs4 : Sg w6 (pb b4) [int (cE (f.fo.wlk [] 0) i)] := (hS.own 10 rfl).sg
    refine sgo ?_
    (show WC _ _ _ _ _ _ _; first | refine WC_dec rfl (fun hc => ?_) (fun hc => ?_) | refine WC_cond rfl (fun hc => ?_) (fun hc => ?_))
    · have hn : n = [] := by simpa using hc
      simp [hn] at hcT hcE
      refine sgo ?_
      refine sst_int hS 9 fun w7 hS => ?_
      replace hS : Sep w w7 (pOwn b7 [str n, str t, .slice ap es.length ac, .slice kp2 ks.len kc] :: pRow 1 q2 way.length c2 (ints way) :: pMany (NdM.rows ⟨n, t, es, ap, ac, ks, kp2, kc⟩) :: kp :: pLoop lr rb :: pDef D :: [pOwn bW [.slice q L.length cc], pRow 4 q L.length cc (L.flatMap NdM.cells), pMany (L.flatMap NdM.rows), pOwn b5 [int (cT (f.fo.wlk [] 0) (i + 1))], pOwn b4 [int (cE (f.fo.wlk [] 0) (i + 1))]]) := by rw [hcT, hcE]; exact hS
      refine sgo ?_
      subst hrb
      refine rnd_normal (hS.loopAt 4 rfl) fun w9 hl9 hL9 => ?_
      replace hS := hS.turnLoop 4 rfl hl9 hL9
      obtain ⟨N, g1, g2⟩ := hfin hS
      exact ⟨N, g1, g2, (((hS.drop 0 rfl).drop 0 rfl).drop 0 rfl).drop 0 rfl⟩
    · have hn : ¬ n = [] := by simpa using hc
      simp [hn] at hcT hcE
      refine sgo ?_
      refine sst_int hS 10 fun w7 hS => ?_
      replace hS : Sep w w7 (pOwn b7 [str n, str t, .slice ap es.length ac, .slice kp2 ks.len kc] :: pRow 1 q2 way.length c2 (ints way) :: pMany (NdM.rows ⟨n, t, es, ap, ac, ks, kp2, kc⟩) :: kp :: pLoop lr rb :: pDef D :: [pOwn bW [.slice q L.length cc], pRow 4 q L.length cc (L.flatMap NdM.cells), pMany (L.flatMap NdM.rows), pOwn b5 [int (cT (f.fo.wlk [] 0) (i + 1))], pOwn b4 [int (cE (f.fo.wlk [] 0) (i + 1))]]) := by rw [hcT, hcE]; exact hS
      refine sgo ?_
      subst hrb
      refine rnd_normal (hS.loopAt 4 rfl) fun w9 hl9 hL9 => ?_
      replace hS := hS.turnLoop 4 rfl hl9 hL9
      obtain ⟨N, g1, g2⟩ := hfin hS
      exact ⟨N, g1, g2, (((hS.drop 0 rfl).drop 0 rfl).drop 0 rfl).drop 0 rfl⟩
end Go.Proofs.YtcdogceabkpnmaaDoor

/-
  Selectors: the ways that a selector means; the document's Query.
-/
set_option linter.unusedSimpArgs false
set_option linter.unusedVariables false
set_option linter.unnecessarySimpa false
namespace Go.Proofs.YtcdogceabkpnmaaDoor
open Go Go.Sv Go.RowKit

theorem qry_len (L : List Stp) (f : FoM) : ∀ (O : List El) (w : List Nat) (i : Nat), (qryF L O f.fo w i).length ≤ f.size := by
  induction f with
  | nil => intro O w i; exact Nat.le_refl _
  | cons n t es ap ac ks kp kc r ih1 ih2 =>
    intro O w i
    simp only [FoM.fo, qryF, FoM.size, List.length_append]
    have h2 := ih2 O w (i + 1)
    have h1 := ih1 (O ++ [⟨n, es⟩]) (w ++ [i]) 0
    split
    · simp; omega
    · rw [List.length_append]
      split <;> simp <;> omega
theorem qT_len {L : List Stp} {O : List El} {f : FoM} {w : List Nat} {i : Nat} : (qT L O f w i).length ≤ szT f i := by
  unfold qT szT ndT
  rw [← List.map_take]
  generalize f.list.take i = l
  suffices h : ∀ (l : List NdM) (j : Nat), (qryF L O (Fo.of (l.map NdM.nd)) w j).length ≤ (l.map fun m => 1 + m.kids.size).sum by
    exact h _ 0
  intro l
  induction l with
  | nil => intro j; exact Nat.le_refl _
  | cons m l ih =>
    intro j
    have h2 := ih (j + 1)
    have h1 := qry_len L m.kids (O ++ [⟨m.name, m.attrs⟩]) (w ++ [j]) 0
    simp only [List.map_cons, Fo.of, qryF, List.length_append, List.sum_cons, NdM.nd]
    split
    · simp; omega
    · rw [List.length_append]
      split <;> simp <;> omega
theorem map_len {V : List WayM} {x : List (List Nat)} (h : V.map WayM.l = x) : V.length = x.length := by rw [← h, List.length_map]
theorem ways_app (V W : List WayM) : ways V ++ ways W = ways (V ++ W) := by simp [ways]
def rqoP (b11 : Nat) (po : Option Addr) (co : Nat) (O : List NdM) (n t : List UInt8) (u v : Value) : PlanB Unit where
  pl k d := match k with
    | 0 => [pRow 4 (pb d.b) 0 0 []]
    | 2 => [pRow 4 d.p O.length d.c (O.flatMap NdM.cells)]
    | 4 => [pOwn d.b [str n, str t, u, v]]
    | 5 => [pRow 4 d.p (O.length + 1) d.c (O.flatMap NdM.cells ++ [str n, str t, u, v])]
    | _ => []
  con k := match k with
    | 0 => some 2
    | 2 => some 5
    | 4 => some 5
    | _ => none
  base k := match k with
    | _ => []
  fact k a := match k with
    | 0 => (a 0).v = .slice (pb (a 0).b) 0 0
    | 1 => (a 1).v = .slice po O.length co
    | 2 => (a 2).v = .slice (a 2).p O.length (a 2).c
    | 3 => (a 3).v = .agg ⟨[str n, str t, u, v]⟩
    | 4 => (a 4).v = .slice (pb (a 4).b) 1 1
    | 5 => (a 5).v = .slice (a 5).p (O.length + 1) (a 5).c
    | 6 => (a 6).v = .slice (a 5).p (O.length + 1) (a 5).c
    | _ => True
set_option maxHeartbeats 8000000 in
theorem rQuery_ok (M : List StM) (sp : Option Addr) (sc : Nat) : ∀ (k : Nat) (f : FoM) (p : Option Addr) (c : Nat), f.size < k → f.wt ≤ 1048576 → ∀ (way : List Nat) (pw : Option Addr) (cw : Nat) (O : List NdM) (po : Option Addr) (co : Nat),
    way.length + k ≤ 4194304 → O.length + k ≤ 4194304 → ∀ (w : World), Stps w (fun m => m.tests.flatMap Tst.ref) M sp → (∀ m ∈ O, m.small ∧ Im [] w m.ap (m.attrs.flatMap At.cells)) → Tre w p f → Im [] w pw (ints way) → Im [] w po (O.flatMap NdM.cells) →
      CallsR Tryd.prog 37 #[.slice sp M.length sc, .slice p f.len c, .slice po O.length co, .slice pw way.length cw] w fun v w' => ∃ (W' : List WayM) (q' : Option Addr) (cq' : Nat), v = .slice q' W'.length cq' ∧
        W'.map WayM.l = qryF (M.map StM.st) (O.map NdM.el) f.fo way 0 ∧ Sep w w' [pRow 1 q' W'.length cq' (ways W'), pMany (W'.map WayM.row)] := by
  intro k
  induction k with
  | zero => intro f p c hk; omega
  | succ k ih =>
    intro f p c hk hw way pw cw O po co hwl hol w hM hO hT hpw hos
    have hlw := FoM.len_wt f
    have hsw : f.size ≤ 1048576 := by have := size_wt f; omega
    have hol4 : (O.flatMap NdM.cells).length = O.length * 4 := fm_len NdM.clen O
    have hone := nodes_one O
    have hS : Sep w w [pRow 1 none 0 0 (ways []), pMany []] := (Sep.start w).zero.nilRow 1
    refine enter (l := [.slice sp M.length sc, .slice p f.len c, .slice po O.length co, .slice pw way.length cw]) Tryd.func37 rfl Tryd.ntmps37 (by kernel_rfl) rfl ?_
    refine sgo ?_
    refine wcloop (X := Nat × List WayM × Option Addr × Nat) (fun x => [(0, .slice sp M.length sc), (2, .slice po O.length co), (3, .slice pw way.length cw), (9, .slice x.2.2.1 x.2.1.length x.2.2.2), (14, .slice p f.len c), (15, int f.len), (16, int x.1)])
      (fun x wr => x.1 ≤ f.len ∧ x.2.1.map WayM.l = qT (M.map StM.st) (O.map NdM.el) f way x.1 ∧
        Sep w wr [pRow 1 x.2.2.1 x.2.1.length x.2.2.2 (ways x.2.1), pMany (x.2.1.map WayM.row)]) (fun x => f.len - x.1) (0, [], none, 0) ⟨rfl, rfl, rfl, rfl, rfl, rfl, rfl, trivial⟩ ⟨Nat.zero_le _, by simp [qT, ndT, Fo.of, qryF], hS⟩ ?_
    repeat clear hS
    rintro ⟨i, V, q1, c1⟩ wr ρ ⟨hil, hV, hS⟩
    dsimp only at hil hV hS ⊢
    refine sgo ?_
    (show WC _ _ _ _ _ _ _; first | refine WC_dec rfl (fun hc => ?_) (fun hc => ?_) | refine WC_cond rfl (fun hc => ?_) (fun hc => ?_))
    · have hlt : i < f.len := by omega
      have hIm := hT.im
      obtain ⟨m, hx, hm, hseg, hfl, hps, hat, hkT⟩ := tre_at hT hlt
      have hsz := FoM.size_mem hm
      have hsm := nd_small hw hm
      have hsn := qT_succ (L := M.map StM.st) (O := O.map NdM.el) way hx
      have hszs := szT_succ hx
      have hszl1 := szT_le f (i + 1)
      have hVl := map_len hV
      have hVq := qT_len (L := M.map StM.st) (O := O.map NdM.el) (f := f) (w := way) (i := i)
      have hih := ih m.kids m.kp m.kc (by omega) hsm.kids (way ++ [i])
      clear hc
      obtain ⟨n, t, es, ap, ac, ks, kp, kc⟩ := m
      replace hseg : ((f.list.flatMap NdM.cells).drop (i * 4)).take 4 = [str n, str t, .slice ap es.length ac, .slice kp ks.len kc] := hseg
      dsimp only at hsn hszs hih hat hkT hsz
      refine sgo ?_
      rw [hseg]
      refine salloc hS fun b11 w5 hS => ?_
      refine sgo ?_
      refine ssta (vs := [str n, str t, .slice ap es.length ac, .slice kp ks.len kc]) hS 0 fun w6 hS => ?_
      replace hS : Sep w w6 [pOwn b11 [str n, str t, .slice ap es.length ac, .slice kp ks.len kc], pRow 1 q1 V.length c1 (ways V), pMany (V.map WayM.row)] := hS
      refine sgo ?_
      (show WC _ _ _ _ _ _ _; first | refine WC_dec rfl (fun hc => ?_) (fun hc => ?_) | refine WC_cond rfl (fun hc => ?_) (fun hc => ?_))
      · rw [if_pos hc, List.append_nil] at hsn
        refine sgo ?_
        refine ⟨(i + 1, V, q1, c1), ⟨rfl, rfl, rfl, rfl, rfl, rfl, rfl, trivial⟩, ⟨hlt, by dsimp only; rw [hV, hsn], hS.tail⟩, by dsimp only; omega⟩
      · rw [if_neg hc] at hsn
        clear hc
        refine sgo ?_
        refine sb0 hS fun b2 w8 hS => ?_
        refine sgo ?_
        refine sapp hS 0 (hpw.sep hS).sg (fun q2 c2 w8 hS => ?_) (hl := by rw [ints_len, Nat.mul_one]) (h1 := ints_one way)
        rw [show 0 + way.length = way.length from Nat.zero_add _, List.nil_append] at hS
        rw [show 0 + way.length = way.length from Nat.zero_add _]
        refine sgo ?_
        refine sb1i hS fun b3 w9 hS => ?_
        refine sgo ?_
        refine sapp hS 1 (hS.own 0 rfl).sg (fun q4 c4 w10 hS => ?_)
        obtain ⟨wi, hwi⟩ : ∃ wi, wi = way ++ [i] := ⟨_, rfl⟩
        have hwil : wi.length = way.length + 1 := by rw [hwi]; simp
        rw [ints_snoc, ← hwi, ← hwil] at hS
        rw [← hwil]
        rw [← hwi] at hsn hih
        replace hS : Sep w w10 ([] ++ [pOwn b11 [str n, str t, .slice ap es.length ac, .slice kp ks.len kc], pRow 1 q4 wi.length c4 (ints wi), pRow 1 q1 V.length c1 (ways V), pMany (V.map WayM.row)]) := by
          have h2 : Sep w w10 [pOwn b3 [int i], pRow 1 q4 wi.length c4 (ints wi), pOwn b11 [str n, str t, .slice ap es.length ac, .slice kp ks.len kc], pRow 1 q1 V.length c1 (ways V), pMany (V.map WayM.row)] := hS
          exact h2.tail.front 1 rfl
        refine sgo ?_
        refine wcplanb (b := []) (rqoP b11 po co O n t (.slice ap es.length ac) (.slice kp ks.len kc)) ⟨.nilIface, none, 0, 0, ()⟩ hS rfl (fun j oj a a' hj he hd h => ?_) ⟨?_, ?_, ?_, ?_, ?_, ?_, ?_, trivial⟩ ?_
        · have hjl : j < 7 := (List.getElem?_eq_some_iff.1 hj).1
          match j, hjl with
          | 0, _ | 1, _ | 2, _ | 3, _ | 4, _ | 5, _ => first | (simp only [rqoP] at h ⊢; rw [← he]; exact h) | exact h
          | 6, _ => simp only [rqoP] at h ⊢; rw [← he, ← hd 5 (by cases hj; rfl)]; exact h
        · intro a σ' w' rest hσ hdep hS'   -- 0: buildSlice; pieces:  ..
          obtain ⟨b', w2, hy, hS2⟩ := y_bs0 (P := Tryd.prog) (t := 22) (d := some 30) hS'
          exact rule_y hy ⟨⟨.slice (pb b') 0 0, none, 0, b', ()⟩, rfl, rfl, hS2⟩
        · intro a σ' w' rest hσ hdep hS'   -- 1: move; pieces:  ..
          have e2 : σ' 2 = .slice po O.length co := (hσ 2 (notDstB rfl)).trans rfl
          exact rule_e [(2, _)] ⟨e2, trivial⟩ ⟨⟨.slice po O.length co, none, 0, 0, ()⟩, rfl, rfl, hS'⟩
        · intro a σ' w' rest hσ hdep hS'   -- 2: call; pieces: takes 0 ..
          have f0 := (hdep 0 _ rfl rfl).2
          have e30 := ((hdep 0 _ rfl rfl).1 30 rfl).trans f0
          have f1 := (hdep 1 _ rfl rfl).2
          have e31 := ((hdep 1 _ rfl rfl).1 31 rfl).trans f1
          obtain ⟨p2, c2, w2, hy, hS2⟩ := y_app (P := Tryd.prog) (t := 22) (t' := 22) (ty := 22) (d := some 32) (x := .tmp 30) (y := .tmp 31) (n := O.length) hS' 0 (hos.sep hS').sg rfl e30 e31 hol4 hone rfl (by decide) (by omega)
          rw [show 0 + O.length = O.length from Nat.zero_add _] at hy hS2
          exact rule_y hy ⟨⟨.slice p2 O.length c2, p2, c2, 0, ()⟩, rfl, rfl, hS2⟩
        · intro a σ' w' rest hσ hdep hS'   -- 3: load; pieces:  ..
          have e11 : σ' 11 = ptrAt (pb b11) 0 := (hσ 11 (notDstB rfl)).trans rfl
          exact rule_y (y_loada (l := [str n, str t, .slice ap es.length ac, .slice kp ks.len kc]) e11 (Sep.sgv hS' 0 rfl) (Nat.le_of_ble_eq_true rfl) ⟨_, rfl⟩) ⟨⟨.agg ⟨[str n, str t, .slice ap es.length ac, .slice kp ks.len kc]⟩, none, 0, 0, ()⟩, rfl, rfl, hS'⟩
        · intro a σ' w' rest hσ hdep hS'   -- 4: buildSlice; pieces:  ..
          have f3 := (hdep 3 _ rfl rfl).2
          have e33 := ((hdep 3 _ rfl rfl).1 33 rfl).trans f3
          obtain ⟨b', w2, hy, hS2⟩ := y_bs1 (P := Tryd.prog) (t := 22) (d := some 34) (x := .tmp 33) (vs := [str n, str t, .slice ap es.length ac, .slice kp ks.len kc]) (size := 4) hS' e33 rfl rfl (by decide) (by decide)
          exact rule_y hy ⟨⟨.slice (pb b') 1 1, none, 0, b', ()⟩, rfl, rfl, hS2⟩
        · intro a σ' w' rest hσ hdep hS'   -- 5: call; pieces: takes 2, takes 4 ..
          have f2 := (hdep 2 _ rfl rfl).2
          have e32 := ((hdep 2 _ rfl rfl).1 32 rfl).trans f2
          have f4 := (hdep 4 _ rfl rfl).2
          have e34 := ((hdep 4 _ rfl rfl).1 34 rfl).trans f4
          obtain ⟨p2, c2, w2, hy, hS2⟩ := y_app (P := Tryd.prog) (t := 22) (t' := 22) (ty := 22) (d := some 35) (x := .tmp 32) (y := .tmp 34) (n := 1) hS' 0 (hS'.own 1 rfl).sg rfl e32 e34 rfl (by simp [Value.oneCell']) rfl (by decide) (by omega)
          exact rule_y hy ⟨⟨.slice p2 (O.length + 1) c2, p2, c2, 0, ()⟩, rfl, rfl, hS2.drop 1 rfl⟩
        · intro a σ' w' rest hσ hdep hS'   -- 6: assign; pieces:  ..
          have f5 := (hdep 5 _ rfl rfl).2
          have e35 := ((hdep 5 _ rfl rfl).1 35 rfl).trans f5
          exact rule_e [(35, _)] ⟨e35, trivial⟩ ⟨⟨.slice (a 5).p (O.length + 1) (a 5).c, none, 0, 0, ()⟩, rfl, rfl, hS'⟩
        · intro a σ' w' hσ hA' hS'
          have h5 := hA' 5 _ rfl
          have h6 := hA' 6 _ rfl
          rw [frameOf (σ := σ') [(0, .slice sp M.length sc), (2, .slice po O.length co), (3, .slice pw way.length cw), (9, .slice q1 V.length c1), (10, int i), (11, ptrAt (pb b11) 0), (12, .slice q4 wi.length c4), (13, .slice (a 5).p (O.length + 1) (a 5).c), (14, .slice p f.len c), (15, int f.len), (16, int i)]
            ⟨(hσ 0 (notDst rfl)).trans rfl, (hσ 2 (notDst rfl)).trans rfl, (hσ 3 (notDst rfl)).trans rfl, (hσ 9 (notDst rfl)).trans rfl, (hσ 10 (notDst rfl)).trans rfl, (hσ 11 (notDst rfl)).trans rfl, (hσ 12 (notDst rfl)).trans rfl, (h6.1 13 rfl).trans h6.2, (hσ 14 (notDst rfl)).trans rfl, (hσ 15 (notDst rfl)).trans rfl, (hσ 16 (notDst rfl)).trans rfl, trivial⟩]
          obtain ⟨m, hme⟩ : ∃ m : NdM, m = ⟨n, t, es, ap, ac, ks, kp, kc⟩ := ⟨_, rfl⟩
          replace hS' : Sep w w' [pRow 4 (a 5).p (O.length + 1) (a 5).c (O.flatMap NdM.cells ++ m.cells), pOwn b11 [str n, str t, .slice ap es.length ac, .slice kp ks.len kc], pRow 1 q4 wi.length c4 (ints wi), pRow 1 q1 V.length c1 (ways V), pMany (V.map WayM.row)] := by rw [hme]; exact hS'
          generalize (a 5).p = pO at hS' ⊢
          generalize (a 5).c = cO at hS' ⊢
          obtain ⟨O', hO'⟩ : ∃ O', O' = O ++ [m] := ⟨_, rfl⟩
          have hOl : O'.length = O.length + 1 := by rw [hO']; simp
          rw [nodes_snoc, ← hO', ← hOl] at hS'
          have hOm : ∀ m' ∈ O', m'.small ∧ Im [] w m'.ap (m'.attrs.flatMap At.cells) := by
            intro m' hm'
            rw [hO'] at hm'
            rcases List.mem_append.1 hm' with h | h
            · exact hO m' h
            · obtain rfl := List.mem_singleton.1 h
              rw [hme]; exact ⟨hsm, hat⟩
          have hOe : O.map NdM.el ++ [NdM.el ⟨n, t, es, ap, ac, ks, kp, kc⟩] = O'.map NdM.el := by rw [hO', hme]; simp
          rw [hOe] at hsn
          rw [← hOl]
          clear hA' hσ h5 h6 a hO' hme hOe
          repeat clear hS
          have hS := hS'
          clear hS'
          have hqr : Qry w' (fun m => m.tests.flatMap Tst.ref) M sp O' pO := by
            have hM' := hM.frm hS.frm
            exact ⟨hM'.ms, hM'.mt, hS.im 0 rfl, fun m' hm' => ⟨(hOm m' hm').1, (hOm m' hm').2.frm hS.frm⟩, hM.m0, (fun h => by rw [h] at hOl; simp at hOl), hM.ml, by omega⟩
          refine sgo ?_
          refine wlpure (rMeans_ok M sp sc O' pO cO _ hqr) fun w12 hf12 => ?_
          replace hS := hS.grow hf12
          clear hqr
          generalize hmn : meansR (M.map StM.st) (O'.map NdM.el) = mn at *
          refine sgo ?_
          refine wcutt (X := List WayM × Option Addr × Nat) (fun x => [(0, .slice sp M.length sc), (2, .slice po O.length co), (3, .slice pw way.length cw), (9, .slice x.2.1 x.1.length x.2.2), (11, ptrAt (pb b11) 0), (12, .slice q4 wi.length c4), (13, .slice pO O'.length cO), (14, .slice p f.len c), (15, int f.len), (16, int i)])
            (fun x wr => x.1.map WayM.l = V.map WayM.l ++ (if mn = true then [wi] else []) ∧ x.1.length ≤ V.length + 1 ∧ Im [] wr q4 (ints wi) ∧
              Sep w wr [pRow 1 x.2.1 x.1.length x.2.2 (ways x.1), pMany (x.1.map WayM.row), pRow 4 pO O'.length cO (O'.flatMap NdM.cells), pOwn b11 [str n, str t, .slice ap es.length ac, .slice kp ks.len kc]]) ?_ ?_
          · cases mn with
            | false =>
              refine sgo ?_
              exact ⟨(V, q1, c1), ⟨rfl, rfl, rfl, rfl, rfl, rfl, rfl, rfl, rfl, rfl, trivial⟩, ⟨by simp, Nat.le_succ _, hS.im 2 rfl, by
                have h2 := hS.sel 5 [3, 4, 0, 1]
                simp only [List.filterMap_cons, List.filterMap_nil, List.getElem?_cons_succ, List.getElem?_cons_zero, List.drop_succ_cons, List.drop_zero, List.cons_append, List.nil_append] at h2
                exact h2⟩⟩
            | true =>
              refine sgo ?_
              refine sb1 (v := .slice q4 wi.length c4) hS fun b6 w14 hS => ?_
              refine sgo ?_
              refine sapp hS 4 (hS.own 0 rfl).sg (fun q6 c6 w15 hS => ?_)
              replace hS : Sep w w15 [pOwn b6 [.slice q4 wi.length c4], pRow 4 pO O'.length cO (O'.flatMap NdM.cells), pOwn b11 [str n, str t, .slice ap es.length ac, .slice kp ks.len kc], pRow 1 q4 wi.length c4 (ints wi), pRow 1 q6 (V.length + 1) c6 (ways V ++ [(⟨wi, q4, c4⟩ : WayM).val]), pMany (V.map WayM.row)] := hS
              have hVl2 : (V ++ [(⟨wi, q4, c4⟩ : WayM)]).length = V.length + 1 := by simp
              rw [ways_snoc, ← hVl2] at hS
              rw [← hVl2]
              refine sgo ?_
              have h2 := hS.sel 6 [3, 5, 4, 1, 2]
              simp only [List.filterMap_cons, List.filterMap_nil, List.getElem?_cons_succ, List.getElem?_cons_zero, List.drop_succ_cons, List.drop_zero, List.cons_append, List.nil_append] at h2
              have h3 := h2.more.front 1 rfl
              rw [show V.map WayM.row ++ [⟨1, q4, wi.length, c4, ints wi⟩] = (V ++ [(⟨wi, q4, c4⟩ : WayM)]).map WayM.row by simp [WayM.row]] at h3
              exact ⟨(V ++ [⟨wi, q4, c4⟩], q6, c6), ⟨rfl, rfl, rfl, rfl, rfl, rfl, rfl, rfl, rfl, rfl, trivial⟩, ⟨by simp, by dsimp only; omega, hS.im 3 rfl, h3⟩⟩
          · repeat clear hS
            rintro ⟨V2, q6, c6⟩ w13 ρ2 ⟨hV2, hV2l, hi4, hS⟩
            dsimp only at hV2 hV2l hi4 hS ⊢
            have hkq := qry_len (M.map StM.st) ks (O'.map NdM.el) wi 0
            refine sgo ?_
            refine wlcall (hih q4 c4 O' pO cO (by omega) (by omega) _ (hM.frm hS.frm) (fun m' hm' => ⟨(hOm m' hm').1, (hOm m' hm').2.frm hS.frm⟩) (hkT.frm hS.frm) hi4 (hS.im 2 rfl)) ?_
            rintro _ w14 ⟨V3, q7, c7, rfl, hV3, hS3⟩
            have hV3l := map_len hV3
            replace hS := hS.seq hS3
            clear hS3
            replace hS : Sep w w14 [pRow 1 q7 V3.length c7 (ways V3), pMany (V3.map WayM.row), pRow 1 q6 V2.length c6 (ways V2), pMany (V2.map WayM.row), pRow 4 pO O'.length cO (O'.flatMap NdM.cells), pOwn b11 [str n, str t, .slice ap es.length ac, .slice kp ks.len kc]] := hS
            refine sgo ?_
            refine sapp hS 2 (hS.row 0 rfl).sg (fun q8 c8 w15 hS => ?_) (hl := by rw [ways_len, Nat.mul_one]) (h1 := ways_one V3)
            replace hS : Sep w w15 [pRow 1 q7 V3.length c7 (ways V3), pMany (V3.map WayM.row), pRow 1 q8 (V2.length + V3.length) c8 (ways V2 ++ ways V3), pMany (V2.map WayM.row), pRow 4 pO O'.length cO (O'.flatMap NdM.cells), pOwn b11 [str n, str t, .slice ap es.length ac, .slice kp ks.len kc]] := hS
            have hVl4 : (V2 ++ V3).length = V2.length + V3.length := by simp
            rw [ways_app, ← hVl4] at hS
            rw [← hVl4]
            refine sgo ?_
            have h2 := hS.sel 6 [1, 3, 2]
            simp only [List.filterMap_cons, List.filterMap_nil, List.getElem?_cons_succ, List.getElem?_cons_zero, List.drop_succ_cons, List.drop_zero, List.cons_append, List.nil_append] at h2
            have h3 := h2.both.front 1 rfl
            rw [← List.map_append] at h3
            refine ⟨(i + 1, V2 ++ V3, q8, c8), ⟨rfl, rfl, rfl, rfl, rfl, rfl, rfl, trivial⟩, ⟨hlt, ?_, h3⟩, by dsimp only; omega⟩
            dsimp only
            rw [List.map_append, hV3, hV2, hV, hsn]
            simp only [List.append_assoc]
    · obtain rfl : i = f.len := by omega
      refine sgo ?_
      (first | refine fp1 (.inl rfl) rfl rfl ?_ | refine fp2 (.inl rfl) rfl rfl rfl ?_ | refine fp3 (.inl rfl) rfl rfl rfl rfl ?_ | refine fp0 (.inr rfl) rfl ?_ | refine fp0 (.inl rfl) rfl ?_ | refine fp1 (.inr rfl) rfl rfl ?_)
      rw [qT_all] at hV
      exact ⟨V, q1, c1, rfl, hV, hS⟩
end Go.Proofs.YtcdogceabkpnmaaDoor

/-
  Chapter 21: may trees be? dom.Check and sieveref21.May.
-/
set_option linter.unusedSimpArgs false
set_option linter.unusedVariables false
set_option linter.unnecessarySimpa false
namespace Go.Proofs.YtcdogceabkpnmaaDoor
open Go Go.Sv Go.RowKit
def Fo.isNil : Fo → Bool
  | .nil => true
  | .cons .. => false
/-- may trees be? -/
def Fo.may : Fo → Bool
  | .nil => true
  | .cons n t es ks r => (if n = [] then ((!decide (t = []) && validR t) && decide (es.length = 0)) && ks.isNil
      else (((nameR false n && decide (t = [])) && attrsR es) && ks.may) && !(voidR n && !ks.isNil)) && r.may
def ndMay (m : Nd) : Bool := if m.name = [] then ((!decide (m.text = []) && validR m.text) && decide (m.attrs.length = 0)) && m.kids.isNil
      else (((nameR false m.name && decide (m.text = [])) && attrsR m.attrs) && m.kids.may) && !(voidR m.name && !m.kids.isNil)
theorem may_of (l : List Nd) : (Fo.of l).may = l.all ndMay := by
  induction l with
  | nil => rfl
  | cons m l ih => simp only [Fo.of, Fo.may, List.all_cons, ih, ndMay]
theorem isNil_len (f : FoM) : f.fo.isNil = decide (f.len = 0) := by
  cases f with
  | nil => rfl
  | cons n t es ap ac ks kp kc r => simp [FoM.fo, Fo.isNil, FoM.len, FoM.list]
def mayT (f : FoM) (i : Nat) : Bool := (ndT f i).all ndMay
theorem mayT_all (f : FoM) : mayT f f.len = f.fo.may := by rw [mayT, ndT_all, fo_list, may_of]
theorem mayT_no {f : FoM} {i : Nat} {m : NdM} (h : f.list[i]? = some m) (hm : ndMay m.nd = false) : f.fo.may = false := by
  rw [fo_list, may_of, List.all_eq_false]
  exact ⟨m.nd, List.mem_map.2 ⟨m, List.mem_of_getElem? h, rfl⟩, by simp [hm]⟩
theorem mayT_succ {f : FoM} {i : Nat} {m : NdM} (h : f.list[i]? = some m) (hm : ndMay m.nd = true) (hi : mayT f i = true) : mayT f (i + 1) = true := by
  unfold mayT at *; rw [ndT_succ h, List.all_append, hi]; simp [hm]
theorem may_not {a b c e : Bool} {t : List UInt8} {k : Nat} (h : a = true → t = [] → b = true → c = true → (e = false ∨ k = 0) → False) : ((((a && decide (t = [])) && b) && c) && !(e && !decide (k = 0))) = false := by
  rw [Bool.eq_false_iff]
  intro h2
  simp only [Bool.and_eq_true, decide_eq_true_eq, Bool.not_eq_true', Bool.and_eq_false_iff, Bool.not_eq_false'] at h2
  obtain ⟨⟨⟨⟨h3, h4⟩, h5⟩, h6⟩, h7⟩ := h2
  exact h h3 h4 h5 h6 h7
theorem oneVoid_ok (n : List UInt8) (u v x : Value) (w : World) (hA : Asc w) : PureC Tryd.prog 62 #[.agg ⟨[str n, u, v, x]⟩] w (.bool (voidR n)) := by
  have hS := Sep.start w
  refine enter (l := [.agg ⟨[str n, u, v, x]⟩]) Tryd.func62 rfl Tryd.ntmps62 (by kernel_rfl) rfl ?_
  refine sgo ?_
  refine sbox (v := .agg ⟨[str n, u, v, x]⟩) hS fun b1 w1 hS => ?_
  replace hS : Sep w w1 [pOwn b1 [str n, u, v, x]] := hS
  refine sgo ?_
  refine wlpure (in0_ok n w1 (hA.frm hS.frm)) fun w2 hf2 => ?_
  replace hS := hS.grow hf2
  refine sgo ?_
  (first | refine fp1 (.inl rfl) rfl rfl ?_ | refine fp2 (.inl rfl) rfl rfl rfl ?_ | refine fp3 (.inl rfl) rfl rfl rfl rfl ?_ | refine fp0 (.inr rfl) rfl ?_ | refine fp0 (.inl rfl) rfl ?_ | refine fp1 (.inr rfl) rfl rfl ?_); refine ⟨?_, by (first | exact Frm.refl _ | assumption | exact Go.Sv.Sep.frm (by assumption) | (refine Frm.trans ?_ (by assumption); first | exact Frm.refl _ | assumption))⟩; (try simp only [realB, rv_true, Nat.reduceBEq, cond_true, cond_false, entG, real_lif, updGL])
set_option maxHeartbeats 4000000 in
theorem oneMay_ok (m : NdM) (hs : m.small) (w : World) (hA : Asc w) (hi : Im [] w m.ap (m.attrs.flatMap At.cells))
    (hkd : ∀ w', Frm w w' → PureC Tryd.prog 26 #[.slice m.kp m.kids.len m.kc] w' (int (if m.kids.fo.may then 0 else 210))) :
    PureC Tryd.prog 53 #[.agg ⟨m.cells⟩] w (.bool (ndMay m.nd)) := by
  have hnm := isNil_len m.kids
  obtain ⟨n, t, es, ap, ac, ks, kp, kc⟩ := m
  obtain ⟨h1, h2, h3, h4, h5, h6⟩ := hs
  dsimp only at hi hkd hnm h1 h2 h3 h4 h5 h6
  have hst : (Tok.mk 1 n [] es false 0 0 0).small := ⟨h1, by simp, h3, h4⟩
  have hS := Sep.start w
  refine enter (l := [.agg ⟨NdM.cells ⟨n, t, es, ap, ac, ks, kp, kc⟩⟩]) Tryd.func53 rfl Tryd.ntmps53 (by kernel_rfl) rfl ?_
  refine sgo ?_
  refine sbox (v := .agg ⟨NdM.cells ⟨n, t, es, ap, ac, ks, kp, kc⟩⟩) hS fun b1 w1 hS => ?_
  replace hS : Sep w w1 [pOwn b1 [str n, str t, .slice ap es.length ac, .slice kp ks.len kc]] := hS
  refine sgo ?_
  refine wlpure (oneText_ok n (str t) (.slice ap es.length ac) (.slice kp ks.len kc) _) fun w2 hf2 => ?_
  replace hS := hS.grow hf2
  refine sgo ?_
  by_cases hn : n = []
  · subst hn
    refine wcyes ?_ (ht := by simp)
    refine sgo ?_
    refine wls2bg (s := t) (by omega) fun q cc w3 hI hf3 => ?_
    refine wlcallgp (vals := [.slice (pb q) t.length cc]) (fun hg => valid_ok t (pb q) t.length cc rfl (hI hg).1 (by omega) [] w3 (hI hg).2.2) fun w4 hf4 => ?_
    rw [valid_eq]
    replace hS := (hS.grow hf3).grow hf4
    refine sgo ?_
    (first | refine fp1 (.inl rfl) rfl rfl ?_ | refine fp2 (.inl rfl) rfl rfl rfl ?_ | refine fp3 (.inl rfl) rfl rfl rfl rfl ?_ | refine fp0 (.inr rfl) rfl ?_ | refine fp0 (.inl rfl) rfl ?_ | refine fp1 (.inr rfl) rfl rfl ?_); refine ⟨?_, by (first | exact Frm.refl _ | assumption | exact Go.Sv.Sep.frm (by assumption) | (refine Frm.trans ?_ (by assumption); first | exact Frm.refl _ | assumption))⟩; (try simp only [realB, rv_true, Nat.reduceBEq, cond_true, cond_false, entG, real_lif, updGL])
    congr 1
    simp only [ndMay, NdM.nd, if_true, hnm, pkb_and]
    by_cases ht : t = [] <;> simp [ht, Bool.and_assoc]
  · refine wcno ?_ (ht := by simp [hn])
    refine sgo ?_
    refine wlbuild (cells := [int 1, str n, str [], .slice ap es.length ac, .bool false, int 0, int 0, int 0]) ?_
    refine salloc hS fun b3 w3 hS => ?_
    refine sgo ?_
    refine ssta (vs := [int 1, str n, str [], .slice ap es.length ac, .bool false, int 0, int 0, int 0]) hS 0 fun w4 hS => ?_
    replace hS : Sep w w4 [pOwn b3 [int 1, str n, str [], .slice ap es.length ac, .bool false, int 0, int 0, int 0], pOwn b1 [str n, str t, .slice ap es.length ac, .slice kp ks.len kc]] := hS
    refine sgo ?_
    refine wlcallgp (vals := [.agg ⟨Tok.cells ⟨1, n, [], es, false, 0, 0, 0⟩ ap ac⟩]) (fun _ => check_ok ⟨1, n, [], es, false, 0, 0, 0⟩ ap ac hst _ (hi.sep hS)) fun w5 hf5 => ?_
    replace hS := hS.grow hf5
    refine sgo ?_
    refine wlcallgp (vals := [.agg ⟨[str n, str t, .slice ap es.length ac, .slice kp ks.len kc]⟩]) (fun _ => oneVoid_ok n (str t) (.slice ap es.length ac) (.slice kp ks.len kc) _ (hA.frm hS.frm)) fun w6 hf6 => ?_
    replace hS := hS.grow hf6
    refine sgo ?_
    have hmk : mayR ⟨1, n, [], es, false, 0, 0, 0⟩ = (nameR false n && attrsR es) := by simp [mayR]
    have hmn : ndMay (NdM.nd ⟨n, t, es, ap, ac, ks, kp, kc⟩) = ((((nameR false n && decide (t = [])) && attrsR es) && ks.fo.may) && !(voidR n && !decide (ks.len = 0))) := by
      simp only [ndMay, NdM.nd, if_neg hn, hnm]
      by_cases ht : t = [] <;> simp [ht]
    rw [hmk] at *
    rw [hmn]
    (show WC _ _ _ _ _ _ _; first | refine WC_dec rfl (fun hc => ?_) (fun hc => ?_) | refine WC_cond rfl (fun hc => ?_) (fun hc => ?_))
    · refine sgo ?_
      (first | refine fp1 (.inl rfl) rfl rfl ?_ | refine fp2 (.inl rfl) rfl rfl rfl ?_ | refine fp3 (.inl rfl) rfl rfl rfl rfl ?_ | refine fp0 (.inr rfl) rfl ?_ | refine fp0 (.inl rfl) rfl ?_ | refine fp1 (.inr rfl) rfl rfl ?_); refine ⟨?_, by (first | exact Frm.refl _ | assumption | exact Go.Sv.Sep.frm (by assumption) | (refine Frm.trans ?_ (by assumption); first | exact Frm.refl _ | assumption))⟩; (try simp only [realB, rv_true, Nat.reduceBEq, cond_true, cond_false, entG, real_lif, updGL])
      congr 1
      simp only [pkb_or, pkb_and] at hc
      rw [may_not ?_]
      intro a1 a2 a3 a4 a5
      rcases a5 with a5 | a5 <;> simp [a1, a2, a3, a5] at hc
    · refine sgo ?_
      refine wlpure (hkd _ hS.frm) fun w7 hf7 => ?_
      replace hS := hS.grow hf7
      refine sgo ?_
      (first | refine fp1 (.inl rfl) rfl rfl ?_ | refine fp2 (.inl rfl) rfl rfl rfl ?_ | refine fp3 (.inl rfl) rfl rfl rfl rfl ?_ | refine fp0 (.inr rfl) rfl ?_ | refine fp0 (.inl rfl) rfl ?_ | refine fp1 (.inr rfl) rfl rfl ?_); refine ⟨?_, by (first | exact Frm.refl _ | assumption | exact Go.Sv.Sep.frm (by assumption) | (refine Frm.trans ?_ (by assumption); first | exact Frm.refl _ | assumption))⟩; (try simp only [realB, rv_true, Nat.reduceBEq, cond_true, cond_false, entG, real_lif, updGL])
      congr 1
      simp only [pkb_or, pkb_and] at hc
      cases hk1 : nameR false n <;> cases hk2 : attrsR es <;> simp [hk1, hk2] at hc
      obtain ⟨h7, h8⟩ := hc
      have h9 : (voidR n && !decide (ks.len = 0)) = false := by
        cases hv : voidR n
        · rfl
        · have := h8 hv
          simp; omega
      cases hk : ks.fo.may <;> simp [h7, h9]
set_option maxHeartbeats 4000000 in
theorem domCheck_ok : ∀ (k : Nat) (f : FoM) (p : Option Addr) (c : Nat), f.size < k → f.wt ≤ 1048576 → ∀ (w : World), Asc w → Tre w p f → PureC Tryd.prog 26 #[.slice p f.len c] w (int (if f.fo.may then 0 else 210)) := by
  intro k
  induction k with
  | zero => intro f p c hk; omega
  | succ k ih =>
    intro f p c hk hw w hA hT
    have hlw := FoM.len_wt f
    have hS := Sep.start w
    refine enter (l := [.slice p f.len c]) Tryd.func26 rfl Tryd.ntmps26 (by kernel_rfl) rfl ?_
    refine sgo ?_
    refine wcloop (X := Nat) (fun i => [(5, .slice p f.len c), (6, int f.len), (7, int i)]) (fun i wr => i ≤ f.len ∧ mayT f i = true ∧ Sep w wr []) (fun i => f.len - i) 0 ⟨rfl, rfl, rfl, trivial⟩ ⟨Nat.zero_le _, rfl, hS⟩ ?_
    clear hS
    rintro i wr ρ ⟨hil, hmt, hS⟩
    refine sgo ?_
    (show WC _ _ _ _ _ _ _; first | refine WC_dec rfl (fun hc => ?_) (fun hc => ?_) | refine WC_cond rfl (fun hc => ?_) (fun hc => ?_))
    · have hlt : i < f.len := by omega
      have hTw := hT.frm hS.frm
      have hIm := hTw.im
      obtain ⟨m, hx, hm, hseg, hfl, hps, hat, hkT⟩ := tre_at hT hlt
      have hsz := FoM.size_mem hm
      have hsm := nd_small hw hm
      have hih := fun w' (cs' : List Plot) (h : Sep w w' cs') => oneMay_ok m hsm w' (hA.frm h.frm) (hat.frm h.frm) (fun w2 h2 => ih m.kids m.kp m.kc (by omega) hsm.kids w2 (hA.frm (h.frm.trans h2)) (hkT.frm (h.frm.trans h2)))
      clear hc
      obtain ⟨n, t, es, ap, ac, ks, kp, kc⟩ := m
      refine sgo ?_
      rw [hseg]
      refine salloc hS fun b5 w5 hS => ?_
      refine sgo ?_
      refine ssta (vs := [str n, str t, .slice ap es.length ac, .slice kp ks.len kc]) hS 0 fun w6 hS => ?_
      replace hS : Sep w w6 [pOwn b5 [str n, str t, .slice ap es.length ac, .slice kp ks.len kc]] := hS
      refine sgo ?_
      refine wlbuild (cells := [str n, str t, .slice ap es.length ac, .slice kp ks.len kc]) ?_
      refine wlpure (hih _ _ hS) fun w7 hf7 => ?_
      replace hS := hS.grow hf7
      refine sgo ?_
      (show WC _ _ _ _ _ _ _; first | refine WC_dec rfl (fun hc => ?_) (fun hc => ?_) | refine WC_cond rfl (fun hc => ?_) (fun hc => ?_))
      · have hn : ndMay (NdM.nd ⟨n, t, es, ap, ac, ks, kp, kc⟩) = false := by simpa using hc
        refine sgo ?_
        (first | refine fp1 (.inl rfl) rfl rfl ?_ | refine fp2 (.inl rfl) rfl rfl rfl ?_ | refine fp3 (.inl rfl) rfl rfl rfl rfl ?_ | refine fp0 (.inr rfl) rfl ?_ | refine fp0 (.inl rfl) rfl ?_ | refine fp1 (.inr rfl) rfl rfl ?_); refine ⟨?_, by (first | exact Frm.refl _ | assumption | exact Go.Sv.Sep.frm (by assumption) | (refine Frm.trans ?_ (by assumption); first | exact Frm.refl _ | assumption))⟩; (try simp only [realB, rv_true, Nat.reduceBEq, cond_true, cond_false, entG, real_lif, updGL])
        rw [mayT_no hx hn]; rfl
      · have hn : ndMay (NdM.nd ⟨n, t, es, ap, ac, ks, kp, kc⟩) = true := by simpa using hc
        refine sgo ?_
        exact ⟨i + 1, ⟨rfl, rfl, rfl, trivial⟩, ⟨hlt, mayT_succ hx hn hmt, hS.tail⟩, (by (try dsimp only); omega)⟩
    · obtain rfl : i = f.len := by omega
      rw [mayT_all] at hmt
      refine sgo ?_
      (first | refine fp1 (.inl rfl) rfl rfl ?_ | refine fp2 (.inl rfl) rfl rfl rfl ?_ | refine fp3 (.inl rfl) rfl rfl rfl rfl ?_ | refine fp0 (.inr rfl) rfl ?_ | refine fp0 (.inl rfl) rfl ?_ | refine fp1 (.inr rfl) rfl rfl ?_); refine ⟨?_, by (first | exact Frm.refl _ | assumption | exact Go.Sv.Sep.frm (by assumption) | (refine Frm.trans ?_ (by assumption); first | exact Frm.refl _ | assumption))⟩; (try simp only [realB, rv_true, Nat.reduceBEq, cond_true, cond_false, entG, real_lif, updGL])
      rw [hmt]; rfl
end Go.Proofs.YtcdogceabkpnmaaDoor

/-
  Chapter 21: sievelaw21: p, text, lives.
-/
set_option linter.unusedSimpArgs false
set_option linter.unusedVariables false
set_option linter.unnecessarySimpa false
namespace Go.Sv
open Go Go.RowKit
section
variable {P : Program} {w0 w : World} {cs : List Plot} {σ : Env} {d : Option Tmp} {ty : TypeId} {pos : String} {af : Array Edge} {g : Option (Nat × Bool)} {t e : TypeId} {x : Operand} {zv : Value} {size bytes : Nat} {vs : List Value}
theorem y_bs1g [hu : Und P t (.slice e)] [hi : Inf P e zv size bytes] (hS : Sep w0 w cs) (hx : evl σ x = .agg ⟨vs⟩) (hv : vs.length = size) (hz : zv.cells.size = size) (hsz : 0 < size) (hm : size ≤ 16777216) :
    ∃ b w', Y P σ ⟨d, .buildSlice t 1 #[(0, x)], ty, pos, af, g⟩ w (.slice (pb b) 1 1) w' ∧ Sep w0 w' (pOwn b vs :: cs) := by
  refine ⟨w.heap.size, w.alloc (.cells ⟨vs⟩ e), Y.val ?_, hS.push (frm_alloc _ _) (own_alloc _ _ _) (by simp [pOwn])⟩
  simp only [execOp, List.map_toArray, List.map_cons, List.map_nil, hx, Sem.run_bind]
  rw [run_buildSlice1 (P := P) (t := t) (e := e) hz (by simpa [Value.cells] using hv) hsz hm]
  rfl
end
theorem sb1gt {P : Program} {n : Nat} {ds : Ctx} {ops : Array Oper} {Q : Exit → Ctx → Env → World → Prop} {rest : List Oper} {σ : GE} {w0 w : World} {cs : List Plot} {d : Nat} {ty t e : TypeId} {pos : String} {af : Array Edge} {x : Operand} {zv : Value} {size bytes j dj : Nat} {want b c : Bool} {vs : List Value} [hu : Und P t (.slice e)] [hi : Inf P e zv size bytes] (hS : Sep w0 w cs)
    (h : ∀ b w', Sep w0 w' (pOwn b vs :: cs) → WL P n ds ops Q rest (real (updG σ d ⟨.slice (pb b) 1 1, true⟩)) w') (hgt : (b && (c == want)) = true)
    (hj : (ops[j]?).bind (·.dst) = some dj := by rfl) (hσ : σ dj = ⟨.bool c, b⟩ := by rfl) (hx : (b && (c == want)) = true → evl (real σ) x = .agg ⟨vs⟩ := by exact fun hgd => evG hgd) (hv : vs.length = size := by first | rfl | (simp; done)) (hz : zv.cells.size = size := by rfl) (hsz : 0 < size := by decide) (hm : size ≤ 16777216 := by decide) :
    WL P n ds ops Q (⟨some d, .buildSlice t 1 #[(0, x)], ty, pos, af, some (j, want)⟩ :: rest) (real σ) w := by
  obtain ⟨b, w2, hy, hS2⟩ := y_bs1g (P := P) (t := t) (d := some d) (ty := ty) (pos := pos) (af := af) (g := some (j, want)) hS (hx hgt) hv hz hsz hm
  exact wlgt hy (h b w2 hS2) hj hσ hgt
end Go.Sv
namespace Go.Proofs.YtcdogceabkpnmaaDoor
open Go Go.Sv Go.RowKit
def txM (s : List UInt8) : NdM := ⟨[], s, [], none, 0, .nil, none, 0⟩
def elM (n : List UInt8) (L : List NdM) (p : Option Addr) (c : Nat) : NdM := ⟨n, [], [], none, 0, .of L, p, c⟩
theorem text21_ok (s : List UInt8) (w : World) : PureC Tryd.prog 44 #[str s] w (.agg ⟨(txM s).cells⟩) := by
  have hS := Sep.start w
  refine enter (l := [str s]) Tryd.func44 rfl Tryd.ntmps44 (by kernel_rfl) rfl ?_
  refine sgo ?_
  refine salloc hS fun b w1 hS => ?_
  refine sgo ?_
  refine wlbuild (cells := (txM s).cells) ?_
  refine ssta (vs := (txM s).cells) hS 0 fun w2 hS => ?_
  replace hS : Sep w w2 [pOwn b (txM s).cells] := hS
  refine sgo ?_
  exact fpc (l := (txM s).cells) (zv := .agg ⟨[str [], str [], .slice none 0 0, .slice none 0 0]⟩) (.inl rfl) rfl rfl rfl (hS.own 0 rfl) ⟨rfl, hS.frm⟩
theorem p21_ok (p : Option Addr) (n c : Nat) (w : World) : PureC Tryd.prog 43 #[.slice p n c] w (.agg ⟨[str [112], str [], .slice none 0 0, .slice p n c]⟩) := by
  have hS := Sep.start w
  refine enter (l := [.slice p n c]) Tryd.func43 rfl Tryd.ntmps43 (by kernel_rfl) rfl ?_
  refine sgo ?_
  refine salloc hS fun b w1 hS => ?_
  refine sgo ?_
  refine wlbuild (cells := [str [112], str [], .slice none 0 0, .slice p n c]) ?_
  refine ssta (vs := [str [112], str [], .slice none 0 0, .slice p n c]) hS 0 fun w2 hS => ?_
  replace hS : Sep w w2 [pOwn b [str [112], str [], .slice none 0 0, .slice p n c]] := hS
  refine sgo ?_
  exact fpc (l := [str [112], str [], .slice none 0 0, .slice p n c]) (zv := .agg ⟨[str [], str [], .slice none 0 0, .slice none 0 0]⟩) (.inl rfl) rfl rfl rfl (hS.own 0 rfl) ⟨rfl, hS.frm⟩
theorem nds_each {w : World} {L : List NdM} (h : ∀ r ∈ L, Im [] w r.ap (r.attrs.flatMap At.cells) ∧ Tre w r.kp r.kids) : Nds w (FoM.of L) := by
  induction L with
  | nil => trivial
  | cons m L ih =>
    have h1 := h m List.mem_cons_self
    exact ⟨h1.1, h1.2.im, h1.2.nds, ih fun r hr => h r (List.mem_cons_of_mem _ hr)⟩
theorem treOwn {w : World} {b : Nat} {L : List NdM} (ho : Own w b (L.flatMap NdM.cells)) (h : ∀ r ∈ L, Im [] w r.ap (r.attrs.flatMap At.cells) ∧ Tre w r.kp r.kids) : Tre w (pb b) (FoM.of L) :=
  ⟨by rw [FoM.list_of]; exact ho.im (by simp), nds_each h⟩
theorem treNil (w : World) (p : Option Addr) : Tre w p (FoM.of []) := ⟨Im.nil _ _ _, trivial⟩
theorem at_txM (w : World) (s : List UInt8) : Im [] w (txM s).ap ((txM s).attrs.flatMap At.cells) ∧ Tre w (txM s).kp (txM s).kids := ⟨Im.nil _ _ _, treNil w _⟩
theorem at_elM {w : World} {n : List UInt8} {L : List NdM} {p : Option Addr} {c : Nat} (h : Tre w p (FoM.of L)) : Im [] w (elM n L p c).ap ((elM n L p c).attrs.flatMap At.cells) ∧ Tre w (elM n L p c).kp (elM n L p c).kids := ⟨Im.nil _ _ _, h⟩
set_option maxHeartbeats 4000000 in
theorem lives21_ok (w : World) (hA : Asc w) : PureC Tryd.prog 15 #[] w (.bool true) := by
  refine enter (l := []) Tryd.func15 rfl Tryd.ntmps15 (by kernel_rfl) rfl ?_
  have hS := Sep.start w
  refine sgo ?_
  refine wlpure (text21_ok [97] _) fun w1 hf1 => ?_
  replace hS := hS.grow hf1
  refine sgo ?_
  refine wlpure (p21_ok none 0 0 _) fun w2 hf2 => ?_
  replace hS := hS.grow hf2
  refine sgo ?_
  refine wlbsr [(txM [97]).cells, [str [112], str [], .slice none 0 0, .slice none 0 0]] 2 (fun b w3 hb ho hf => ?_) (h1 := fun v hv => by simp only [List.mem_cons, List.not_mem_nil, or_false] at hv; rcases hv with rfl | rfl <;> rfl)
  replace hS : Sep w w3 [pOwn b ([txM [97], elM [112] [] none 0].flatMap NdM.cells)] := hS.push hf ho (by simpa [pOwn] using hb)
  refine sgo ?_
  refine wlpure (p21_ok (pb b) 2 2 _) fun w4 hf4 => ?_
  replace hS := hS.grow hf4
  refine sgo ?_
  refine sb1a (vs := [str [112], str [], .slice none 0 0, .slice (pb b) 2 2]) hS fun b2 w5 hS => ?_
  replace hS : Sep w w5 [pOwn b2 ([elM [112] [txM [97], elM [112] [] none 0] (pb b) 2].flatMap NdM.cells), pOwn b ([txM [97], elM [112] [] none 0].flatMap NdM.cells)] := hS
  refine sgo ?_
  have hT1 : Tre w5 (pb b2) (FoM.of [elM [112] [txM [97], elM [112] [] none 0] (pb b) 2]) := treOwn (hS.own 0 rfl) fun r hr => by
    rw [List.mem_singleton.1 hr]
    refine at_elM (treOwn (hS.own 1 rfl) fun r hr => ?_)
    simp only [List.mem_cons, List.not_mem_nil, or_false] at hr
    rcases hr with rfl | rfl
    · exact at_txM _ _
    · exact at_elM (treNil _ _)
  refine wlpure (domCount_ok (FoM.of [elM [112] [txM [97], elM [112] [] none 0] (pb b) 2]) (pb b2) 1 (by simp [FoM.of, FoM.wt, elM, txM]) w5 hT1) fun w6 hf6 => ?_
  replace hS := (hS.grow hf6).empty
  rw [show (FoM.of [elM [112] [txM [97], elM [112] [] none 0] (pb b) 2]).fo.elems = 2 from rfl, show (FoM.of [elM [112] [txM [97], elM [112] [] none 0] (pb b) 2]).fo.texts = 1 from rfl]
  refine sgo ?_
  refine wlpure (text21_ok [120] _) fun w7 hf7 => ?_
  replace hS := hS.grow hf7
  refine sgo ?_
  refine sb1a (vs := (txM [120]).cells) hS fun b3 w8 hS => ?_
  refine sgo ?_
  refine wlpure (p21_ok (pb b3) 1 1 _) fun w9 hf9 => ?_
  replace hS := hS.grow hf9
  refine sgo ?_
  refine sb1a (vs := [str [112], str [], .slice none 0 0, .slice (pb b3) 1 1]) hS fun b4 w10 hS => ?_
  refine sgo ?_
  refine wlpure (p21_ok (pb b4) 1 1 _) fun w11 hf11 => ?_
  replace hS := hS.grow hf11
  refine sgo ?_
  refine sb1a (vs := [str [112], str [], .slice none 0 0, .slice (pb b4) 1 1]) hS fun b5 w12 hS => ?_
  replace hS : Sep w w12 [pOwn b5 ([elM [112] [elM [112] [txM [120]] (pb b3) 1] (pb b4) 1].flatMap NdM.cells), pOwn b4 ([elM [112] [txM [120]] (pb b3) 1].flatMap NdM.cells), pOwn b3 ([txM [120]].flatMap NdM.cells)] := hS
  refine sgo ?_
  have hT2 : Tre w12 (pb b5) (FoM.of [elM [112] [elM [112] [txM [120]] (pb b3) 1] (pb b4) 1]) := treOwn (hS.own 0 rfl) fun r hr => by
    rw [List.mem_singleton.1 hr]
    refine at_elM (treOwn (hS.own 1 rfl) fun r hr => ?_)
    rw [List.mem_singleton.1 hr]
    refine at_elM (treOwn (hS.own 2 rfl) fun r hr => ?_)
    rw [List.mem_singleton.1 hr]
    exact at_txM _ _
  refine wlpure (domDepth_ok ((FoM.of [elM [112] [elM [112] [txM [120]] (pb b3) 1] (pb b4) 1]).size + 1) (FoM.of [elM [112] [elM [112] [txM [120]] (pb b3) 1] (pb b4) 1]) (pb b5) 1 (Nat.lt_succ_self _) (by simp [FoM.of, FoM.wt, elM, txM]) w12 hT2) fun w13 hf13 => ?_
  replace hS := (hS.grow hf13).empty
  rw [show (FoM.of [elM [112] [elM [112] [txM [120]] (pb b3) 1] (pb b4) 1]).fo.depth = 2 from rfl]
  refine sgo ?_
  refine wlcallgp (vals := [str [120]]) (fun _ => text21_ok [120] _) fun w14 hf14 => ?_
  replace hS := hS.grow hf14
  refine sb1gt (vs := (txM [120]).cells) hS (fun b6 w15 hS => ?_) ?_
  rotate_left
  · simp [pkb]
  refine wlgt (y_build (cells := [str [98, 114], str [], .slice none 0 0, .slice (pb b6) 1 1]) (by rw [bm2 (v := str [98, 114]) (u := .slice (pb b6) 1 1) rfl rfl]; simp [fillL, setSeg, Value.cells] <;> rfl)) ?_ (hgt := ?_)
  rotate_left
  · simp [pkb]
  refine sb1gt (vs := [str [98, 114], str [], .slice none 0 0, .slice (pb b6) 1 1]) hS (fun b7 w16 hS => ?_) ?_
  rotate_left
  · simp [pkb]
  replace hS : Sep w w16 [pOwn b7 ([elM [98, 114] [txM [120]] (pb b6) 1].flatMap NdM.cells), pOwn b6 ([txM [120]].flatMap NdM.cells)] := hS
  have hT3 : Tre w16 (pb b7) (FoM.of [elM [98, 114] [txM [120]] (pb b6) 1]) := treOwn (hS.own 0 rfl) fun r hr => by
    rw [List.mem_singleton.1 hr]
    refine at_elM (treOwn (hS.own 1 rfl) fun r hr => ?_)
    rw [List.mem_singleton.1 hr]
    exact at_txM _ _
  have hC := domCheck_ok ((FoM.of [elM [98, 114] [txM [120]] (pb b6) 1]).size + 1) (FoM.of [elM [98, 114] [txM [120]] (pb b6) 1]) (pb b7) 1 (Nat.lt_succ_self _) (by simp [FoM.of, FoM.wt, elM, txM]) w16 (hA.frm hS.frm) hT3
  rw [show (FoM.of [elM [98, 114] [txM [120]] (pb b6) 1]).fo.may = false by
    rw [show (FoM.of [elM [98, 114] [txM [120]] (pb b6) 1]).fo = .cons [98, 114] [] [] (.cons [] [120] [] .nil .nil) .nil from rfl]
    decide +kernel] at hC
  refine wlcallgp (vals := [.slice (pb b7) 1 1]) (fun _ => hC) fun w17 hf17 => ?_
  replace hS := hS.grow hf17
  refine sgo ?_
  (first | refine fp1 (.inl rfl) rfl rfl ?_ | refine fp2 (.inl rfl) rfl rfl rfl ?_ | refine fp3 (.inl rfl) rfl rfl rfl rfl ?_ | refine fp0 (.inr rfl) rfl ?_ | refine fp0 (.inl rfl) rfl ?_ | refine fp1 (.inr rfl) rfl rfl ?_); refine ⟨?_, by (first | exact Frm.refl _ | assumption | exact Go.Sv.Sep.frm (by assumption) | (refine Frm.trans ?_ (by assumption); first | exact Frm.refl _ | assumption))⟩; (try simp only [realB, rv_true, Nat.reduceBEq, cond_true, cond_false, entG, real_lif, updGL])
  rfl
end Go.Proofs.YtcdogceabkpnmaaDoor

/-
  Chapter 21: sieveref21.Diff; sameWay; DomDiffs.
-/
set_option linter.unusedSimpArgs false
set_option linter.unusedVariables false
set_option linter.unnecessarySimpa false
namespace Go.Proofs.YtcdogceabkpnmaaDoor
open Go Go.Sv Go.RowKit
end Go.Proofs.YtcdogceabkpnmaaDoor

/-
  Chapter 21: sieveref21: Merge; sievelaw21: spoil.
-/
set_option linter.unusedSimpArgs false
set_option linter.unusedVariables false
set_option linter.unnecessarySimpa false
namespace Go.Sv
open Go Go.RowKit
section
variable {w0 w w' : World} {cs : List Plot} {r : RowD} {rs A B : List RowD}
end
end Go.Sv
namespace Go.Proofs.YtcdogceabkpnmaaDoor
open Go Go.Sv Go.RowKit
/-- one node more, merged -/
def stepM (out : List Nd) (m : Nd) : List Nd := if m.name = [] then putT out m.text m.attrs m.kids else out ++ [⟨m.name, m.text, m.attrs, .of (m.kids.merge [])⟩]
def mgT (f : FoM) (i : Nat) : List Nd := (ndT f i).foldl stepM []
/-- the length of all texts up to a place -/
def tlT (f : FoM) (i : Nat) : Nat := ((ndT f i).map fun m => m.text.length).sum
end Go.Proofs.YtcdogceabkpnmaaDoor

/-
  Trees as events, and folded again: the plain part (chapter 21).
-/
set_option linter.unusedSimpArgs false
set_option linter.unusedVariables false
set_option linter.unnecessarySimpa false
namespace Go.Proofs.YtcdogceabkpnmaaDoor
open Go Go.Sv Go.RowKit
/-- the events that build trees -/
def Fo.events : Fo → List Ev
  | .nil => []
  | .cons n t es ks r =>
    (if n = [] then [⟨0, [], t, []⟩] else if voidR n then [⟨3, n, [], es⟩] else ⟨1, n, [], es⟩ :: ks.events ++ [⟨2, n, [], []⟩]) ++ r.events
/-- may trees be? (what of it matters here) -/
def Fo.plain : Fo → Prop
  | .nil => True
  | .cons n t es ks r => (if n = [] then t ≠ [] ∧ es = [] ∧ ks = .nil else t = [] ∧ ks.plain ∧ (voidR n = true → ks = .nil)) ∧ r.plain
end Go.Proofs.YtcdogceabkpnmaaDoor

/-
  Chapter 21: dom.Events, sieveref21.Events, sameEvents.
-/
set_option linter.unusedSimpArgs false
set_option linter.unusedVariables false
set_option linter.unnecessarySimpa false
namespace Go.Proofs.YtcdogceabkpnmaaDoor
open Go Go.Sv Go.RowKit
def ndEvs (m : Nd) : List Ev := if m.name = [] then [⟨0, [], m.text, []⟩] else if voidR m.name then [⟨3, m.name, [], m.attrs⟩] else ⟨1, m.name, [], m.attrs⟩ :: m.kids.events ++ [⟨2, m.name, [], []⟩]
def evT (f : FoM) (i : Nat) : List Ev := (ndT f i).flatMap ndEvs
end Go.Proofs.YtcdogceabkpnmaaDoor

/-
  Chapter 21: sieveref21.Events, sameEvents.
-/
set_option linter.unusedSimpArgs false
set_option linter.unusedVariables false
set_option linter.unnecessarySimpa false
namespace Go.Proofs.YtcdogceabkpnmaaDoor
open Go Go.Sv Go.RowKit
end Go.Proofs.YtcdogceabkpnmaaDoor

/-
  Chapter 21: sieveref18.Fold, of the events of trees.
-/
set_option linter.unusedSimpArgs false
set_option linter.unusedVariables false
set_option linter.unnecessarySimpa false
namespace Go.Proofs.YtcdogceabkpnmaaDoor
open Go Go.Sv Go.RowKit
def fvP (b5 : Nat) (q ap : Option Addr) (cc ac : Nat) (L : List NdM) (n : List UInt8) (es : List At) : PlanB (Option Addr × Nat) where
  pl k d := match k with
    | 3 => [pRow 2 (pb d.b) 0 0 []]
    | 6 => [pRow 2 d.x.1 es.length d.x.2 (es.flatMap At.cells)]
    | 8 => [pOwn d.b [str n, str [], .slice d.x.1 es.length d.x.2, .slice none 0 0]]
    | 9 => [pRow 4 d.p (L.length + 1) d.c (L.flatMap NdM.cells ++ [str n, str [], .slice d.x.1 es.length d.x.2, .slice none 0 0])]
    | _ => []
  con k := match k with
    | 3 => some 6
    | 8 => some 9
    | _ => none
  base k := match k with
    | 9 => [pRow 4 q L.length cc (L.flatMap NdM.cells)]
    | _ => []
  fact k a := match k with
    | 0 => (a 0).v = .slice q L.length cc
    | 1 => (a 1).v = ptrAt (pb b5) 1
    | 2 => (a 2).v = str n
    | 3 => (a 3).v = .slice (pb (a 3).b) 0 0
    | 4 => (a 4).v = ptrAt (pb b5) 3
    | 5 => (a 5).v = .slice ap es.length ac
    | 6 => (a 6).v = .slice (a 6).x.1 es.length (a 6).x.2
    | 7 => (a 7).v = .agg ⟨[str n, str [], .slice (a 7).x.1 es.length (a 7).x.2, .slice none 0 0]⟩ ∧ (a 7).x = (a 6).x
    | 8 => (a 8).v = .slice (pb (a 8).b) 1 1 ∧ (a 8).x = (a 7).x
    | 9 => (a 9).v = .slice (a 9).p (L.length + 1) (a 9).c ∧ (a 9).x = (a 8).x
    | 10 => (a 10).v = .slice (a 9).p (L.length + 1) (a 9).c
    | _ => True
def foP (b5 : Nat) (q ap : Option Addr) (cc ac : Nat) (kq : Option Addr) (kn kc : Nat) (L : List NdM) (n : List UInt8) (es : List At) : PlanB (Option Addr × Nat) where
  pl k d := match k with
    | 3 => [pRow 2 (pb d.b) 0 0 []]
    | 6 => [pRow 2 d.x.1 es.length d.x.2 (es.flatMap At.cells)]
    | 9 => [pOwn d.b [str n, str [], .slice d.x.1 es.length d.x.2, .slice kq kn kc]]
    | 10 => [pRow 4 d.p (L.length + 1) d.c (L.flatMap NdM.cells ++ [str n, str [], .slice d.x.1 es.length d.x.2, .slice kq kn kc])]
    | _ => []
  con k := match k with
    | 3 => some 6
    | 9 => some 10
    | _ => none
  base k := match k with
    | 10 => [pRow 4 q L.length cc (L.flatMap NdM.cells)]
    | _ => []
  fact k a := match k with
    | 0 => (a 0).v = .slice q L.length cc
    | 1 => (a 1).v = ptrAt (pb b5) 1
    | 2 => (a 2).v = str n
    | 3 => (a 3).v = .slice (pb (a 3).b) 0 0
    | 4 => (a 4).v = ptrAt (pb b5) 3
    | 5 => (a 5).v = .slice ap es.length ac
    | 6 => (a 6).v = .slice (a 6).x.1 es.length (a 6).x.2
    | 7 => (a 7).v = .slice kq kn kc
    | 8 => (a 8).v = .agg ⟨[str n, str [], .slice (a 8).x.1 es.length (a 8).x.2, .slice kq kn kc]⟩ ∧ (a 8).x = (a 6).x
    | 9 => (a 9).v = .slice (pb (a 9).b) 1 1 ∧ (a 9).x = (a 8).x
    | 10 => (a 10).v = .slice (a 10).p (L.length + 1) (a 10).c ∧ (a 10).x = (a 9).x
    | 11 => (a 11).v = .slice (a 10).p (L.length + 1) (a 10).c
    | _ => True
def Fo.size : Fo → Nat
  | .nil => 0
  | .cons _ _ _ ks r => 1 + ks.size + r.size
def tlL (l : List Nd) (i : Nat) : Nat := ((l.take i).map fun m => m.text.length).sum
end Go.Proofs.YtcdogceabkpnmaaDoor

/-
  Chapter 21: dom.Merge.
-/
set_option linter.unusedSimpArgs false
set_option linter.unusedVariables false
set_option linter.unnecessarySimpa false
namespace Go.Proofs.YtcdogceabkpnmaaDoor
open Go Go.Sv Go.RowKit
end Go.Proofs.YtcdogceabkpnmaaDoor

/-
  Chapter 21: sieveref21: Copy.
-/
set_option linter.unusedSimpArgs false
set_option linter.unusedVariables false
set_option linter.unnecessarySimpa false
namespace Go.Proofs.YtcdogceabkpnmaaDoor
open Go Go.Sv Go.RowKit
theorem bm4 {σ : Env} {x y z u : Operand} {v1 v2 v3 v4 : Value} {i j k m : Nat} (h : evl σ x = v1) (h2 : evl σ y = v2) (h3 : evl σ z = v3) (h4 : evl σ u = v4) : [(i, x), (j, y), (k, z), (m, u)].map (fun p => (p.1, evl σ p.2)) = [(i, v1), (j, v2), (k, v3), (m, v4)] := by simp [h, h2, h3, h4]
def cpyP (b5 : Nat) (q ap kp : Option Addr) (cc ac kc kl : Nat) (L : List NdM) (n t : List UInt8) (es : List At) (KL : List Nd) : PlanB (Option Addr × Nat × Option Addr × Nat × List NdM) where
  pl k d := match k with
    | 5 => [pRow 2 (pb d.b) 0 0 []]
    | 8 => [pRow 2 d.x.1 es.length d.x.2.1 (es.flatMap At.cells)]
    | 11 => [pRow 4 d.x.2.2.1 d.x.2.2.2.2.length d.x.2.2.2.1 (d.x.2.2.2.2.flatMap NdM.cells), pMany (d.x.2.2.2.2.flatMap NdM.rows)]
    | 13 => [pOwn d.b [str n, str t, .slice d.x.1 es.length d.x.2.1, .slice d.x.2.2.1 d.x.2.2.2.2.length d.x.2.2.2.1]]
    | 14 => [pRow 4 d.p (L.length + 1) d.c (L.flatMap NdM.cells ++ [str n, str t, .slice d.x.1 es.length d.x.2.1, .slice d.x.2.2.1 d.x.2.2.2.2.length d.x.2.2.2.1])]
    | _ => []
  con k := match k with
    | 5 => some 8
    | 13 => some 14
    | _ => none
  base k := match k with
    | 14 => [pRow 4 q L.length cc (L.flatMap NdM.cells)]
    | _ => []
  fact k a := match k with
    | 0 => (a 0).v = .slice q L.length cc
    | 1 => (a 1).v = ptrAt (pb b5) 0
    | 2 => (a 2).v = str n
    | 3 => (a 3).v = ptrAt (pb b5) 1
    | 4 => (a 4).v = str t
    | 5 => (a 5).v = .slice (pb (a 5).b) 0 0
    | 6 => (a 6).v = ptrAt (pb b5) 2
    | 7 => (a 7).v = .slice ap es.length ac
    | 8 => (a 8).v = .slice (a 8).x.1 es.length (a 8).x.2.1
    | 9 => (a 9).v = ptrAt (pb b5) 3
    | 10 => (a 10).v = .slice kp kl kc
    | 11 => (a 11).v = .slice (a 11).x.2.2.1 (a 11).x.2.2.2.2.length (a 11).x.2.2.2.1 ∧ (a 11).x.2.2.2.2.map NdM.nd = KL
    | 12 => (a 12).v = .agg ⟨[str n, str t, .slice (a 12).x.1 es.length (a 12).x.2.1, .slice (a 12).x.2.2.1 (a 12).x.2.2.2.2.length (a 12).x.2.2.2.1]⟩ ∧ (a 12).x = ((a 8).x.1, (a 8).x.2.1, (a 11).x.2.2)
    | 13 => (a 13).v = .slice (pb (a 13).b) 1 1 ∧ (a 13).x = (a 12).x
    | 14 => (a 14).v = .slice (a 14).p (L.length + 1) (a 14).c ∧ (a 14).x = (a 13).x
    | 15 => (a 15).v = .slice (a 14).p (L.length + 1) (a 14).c
    | _ => True
set_option maxHeartbeats 4000000 in
theorem copy21_ok : ∀ (k : Nat) (f : FoM) (p : Option Addr) (c : Nat), f.size < k → f.wt ≤ 1048576 → ∀ (w0 w : World) (cs : List Plot), Sep w0 w cs → Tre w p f →
    CallsR Tryd.prog 10 #[.slice p f.len c] w fun v w' => ∃ (q : Option Addr) (cc : Nat) (L : List NdM), v = .slice q L.length cc ∧ L.map NdM.nd = f.list.map NdM.nd ∧ Frm w w' ∧ Sep w0 w' (pRow 4 q L.length cc (L.flatMap NdM.cells) :: pMany (L.flatMap NdM.rows) :: cs) := by
  intro k
  induction k with
  | zero => intro f p c hk; omega
  | succ k ih =>
    intro f p c hk hw w0 w cs hS0 hT
    have hlw := FoM.len_wt f
    have hS := ((Sep.start w).zero).push (c := pRow 4 none 0 0 []) (Frm.refl _) (Row.nil _ 4) (rb_nil _)
    refine enter (l := [.slice p f.len c]) Tryd.func10 rfl Tryd.ntmps10 (by kernel_rfl) rfl ?_
    refine sgo ?_
    refine wcloop (X := Nat × Option Addr × Nat × List NdM) (fun x => [(3, .slice x.2.1 x.2.2.2.length x.2.2.1), (6, .slice p f.len c), (7, int f.len), (8, int x.1)])
      (fun x wr => x.1 ≤ f.len ∧ x.2.2.2.length = x.1 ∧ x.2.2.2.map NdM.nd = (f.list.map NdM.nd).take x.1 ∧ Sep w wr [pRow 4 x.2.1 x.2.2.2.length x.2.2.1 (x.2.2.2.flatMap NdM.cells), pMany (x.2.2.2.flatMap NdM.rows)])
      (fun x => f.len - x.1) (0, none, 0, []) ⟨rfl, rfl, rfl, rfl, trivial⟩ ⟨Nat.zero_le _, rfl, rfl, hS⟩ ?_
    clear hS
    rintro ⟨i, q, cc, L⟩ wr ρ ⟨hil, hLi, hev, hS⟩
    dsimp only at *
    refine sgo ?_
    (show WC _ _ _ _ _ _ _; first | refine WC_dec rfl (fun hc => ?_) (fun hc => ?_) | refine WC_cond rfl (fun hc => ?_) (fun hc => ?_))
    · have hlt : i < f.len := by omega
      have hTw := hT.frm hS.frm
      have hIm := hTw.im
      obtain ⟨m, hx, hm, hseg, hfl, hps, hat, hkT⟩ := tre_at hT hlt
      have hsz := FoM.size_mem hm
      have hsm := nd_small hw hm
      have hih := fun w' (cs' : List Plot) (h : Sep w w' cs') => ih m.kids m.kp m.kc (by omega) hsm.kids w w' cs' h (hkT.frm h.frm)
      have htk : (f.list.map NdM.nd).take (i + 1) = (f.list.map NdM.nd).take i ++ [m.nd] := by rw [List.take_add_one, List.getElem?_map, hx]; rfl
      have hes := hsm.attrs
      have hl1 := fm_len At.len m.attrs
      obtain ⟨n, t, es, ap, ac, ks, kp, kc⟩ := m
      dsimp only at hih hat hes hl1
      clear hc
      refine sgo ?_
      rw [hseg]
      refine salloc hS fun b5 w5 hS => ?_
      refine sgo ?_
      refine ssta (vs := [str n, str t, .slice ap es.length ac, .slice kp ks.len kc]) hS 0 fun w6 hS => ?_
      replace hS : Sep w w6 ([pRow 4 q L.length cc (L.flatMap NdM.cells)] ++ [pOwn b5 [str n, str t, .slice ap es.length ac, .slice kp ks.len kc], pMany (L.flatMap NdM.rows)]) := hS.perm (by exact List.Perm.swap _ _ _)
      refine sgo ?_
      refine wcplanb (b := [pRow 4 q L.length cc (L.flatMap NdM.cells)]) (cpyP b5 q ap kp cc ac kc ks.len L n t es (ks.list.map NdM.nd)) ⟨.nilIface, none, 0, 0, (none, 0, none, 0, [])⟩ hS rfl (fun j oj a a' hj he hd h => ?_) ⟨?_, ?_, ?_, ?_, ?_, ?_, ?_, ?_, ?_, ?_, ?_, ?_, ?_, ?_, ?_, ?_, trivial⟩ ?_
      · have hjl : j < 16 := (List.getElem?_eq_some_iff.1 hj).1
        match j, hjl with
        | 0, _ | 1, _ | 2, _ | 3, _ | 4, _ | 5, _ | 6, _ | 7, _ | 8, _ | 9, _ | 10, _ | 11, _ => first | (simp only [cpyP] at h ⊢; rw [← he]; exact h) | exact h
        | 12, _ => simp only [cpyP] at h ⊢; rw [← he, ← hd 8 (by cases hj; rfl), ← hd 11 (by cases hj; rfl)]; exact h
        | 13, _ => simp only [cpyP] at h ⊢; rw [← he, ← hd 12 (by cases hj; rfl)]; exact h
        | 14, _ => simp only [cpyP] at h ⊢; rw [← he, ← hd 13 (by cases hj; rfl)]; exact h
        | 15, _ => simp only [cpyP] at h ⊢; rw [← he, ← hd 14 (by cases hj; rfl)]; exact h
      · intro a σ' w' rest hσ hdep hS'   -- 0: move; pieces: sees 14 ..
        have e3 : σ' 3 = .slice q L.length cc := (hσ 3 (notDstB rfl)).trans rfl
        exact rule_e [(3, _)] ⟨e3, trivial⟩ ⟨⟨.slice q L.length cc, none, 0, 0, (none, 0, none, 0, [])⟩, rfl, rfl, hS'⟩
      · intro a σ' w' rest hσ hdep hS'   -- 1: fieldAddr; pieces:  ..
        have e5 : σ' 5 = ptrAt (pb b5) 0 := (hσ 5 (notDstB rfl)).trans rfl
        exact rule_y (y_field e5 ⟨_, rfl⟩ (by decide)) ⟨⟨ptrAt (pb b5) 0, none, 0, 0, (none, 0, none, 0, [])⟩, rfl, rfl, hS'⟩
      · intro a σ' w' rest hσ hdep hS'   -- 2: load; pieces:  ..
        have f1 := (hdep 1 _ rfl rfl).2
        have e13 := ((hdep 1 _ rfl rfl).1 13 rfl).trans f1
        exact rule_y (y_load e13 (Sep.sgv hS' 0 rfl) rfl) ⟨⟨str n, none, 0, 0, (none, 0, none, 0, [])⟩, rfl, rfl, hS'⟩
      · intro a σ' w' rest hσ hdep hS'   -- 3: fieldAddr; pieces:  ..
        have e5 : σ' 5 = ptrAt (pb b5) 0 := (hσ 5 (notDstB rfl)).trans rfl
        exact rule_y (y_field e5 ⟨_, rfl⟩ (by decide)) ⟨⟨ptrAt (pb b5) 1, none, 0, 0, (none, 0, none, 0, [])⟩, rfl, rfl, hS'⟩
      · intro a σ' w' rest hσ hdep hS'   -- 4: load; pieces:  ..
        have f3 := (hdep 3 _ rfl rfl).2
        have e15 := ((hdep 3 _ rfl rfl).1 15 rfl).trans f3
        exact rule_y (y_load e15 (Sep.sgv hS' 0 rfl) rfl) ⟨⟨str t, none, 0, 0, (none, 0, none, 0, [])⟩, rfl, rfl, hS'⟩
      · intro a σ' w' rest hσ hdep hS'   -- 5: buildSlice; pieces:  ..
        obtain ⟨b, w2, hy, hS2⟩ := y_bs0 (P := Tryd.prog) (t := 31) (d := some 17) hS'
        exact rule_y hy ⟨⟨.slice (pb b) 0 0, none, 0, b, (none, 0, none, 0, [])⟩, rfl, rfl, hS2⟩
      · intro a σ' w' rest hσ hdep hS'   -- 6: fieldAddr; pieces:  ..
        have e5 : σ' 5 = ptrAt (pb b5) 0 := (hσ 5 (notDstB rfl)).trans rfl
        exact rule_y (y_field e5 ⟨_, rfl⟩ (by decide)) ⟨⟨ptrAt (pb b5) 2, none, 0, 0, (none, 0, none, 0, [])⟩, rfl, rfl, hS'⟩
      · intro a σ' w' rest hσ hdep hS'   -- 7: load; pieces:  ..
        have f6 := (hdep 6 _ rfl rfl).2
        have e18 := ((hdep 6 _ rfl rfl).1 18 rfl).trans f6
        exact rule_y (y_load e18 (Sep.sgv hS' 0 rfl) rfl) ⟨⟨.slice ap es.length ac, none, 0, 0, (none, 0, none, 0, [])⟩, rfl, rfl, hS'⟩
      · intro a σ' w' rest hσ hdep hS'   -- 8: call; pieces: takes 5 ..
        have f5 := (hdep 5 _ rfl rfl).2
        have e17 := ((hdep 5 _ rfl rfl).1 17 rfl).trans f5
        have f7 := (hdep 7 _ rfl rfl).2
        have e19 := ((hdep 7 _ rfl rfl).1 19 rfl).trans f7
        obtain ⟨p2, c2, w2, hy, hS2⟩ := y_app (P := Tryd.prog) (t := 31) (t' := 31) (ty := 31) (d := some 20) (x := .tmp 17) (y := .tmp 19) (n := es.length) hS' 0 (hat.sep hS').sg rfl e17 e19 hl1 (att_one es) rfl (by decide) (by omega)
        rw [show 0 + es.length = es.length from Nat.zero_add _] at hy hS2
        exact rule_y hy ⟨⟨.slice p2 es.length c2, none, 0, 0, (p2, c2, none, 0, [])⟩, rfl, rfl, hS2⟩
      · intro a σ' w' rest hσ hdep hS'   -- 9: fieldAddr; pieces:  ..
        have e5 : σ' 5 = ptrAt (pb b5) 0 := (hσ 5 (notDstB rfl)).trans rfl
        exact rule_y (y_field e5 ⟨_, rfl⟩ (by decide)) ⟨⟨ptrAt (pb b5) 3, none, 0, 0, (none, 0, none, 0, [])⟩, rfl, rfl, hS'⟩
      · intro a σ' w' rest hσ hdep hS'   -- 10: load; pieces:  ..
        have f9 := (hdep 9 _ rfl rfl).2
        have e21 := ((hdep 9 _ rfl rfl).1 21 rfl).trans f9
        exact rule_y (y_load e21 (Sep.sgv hS' 0 rfl) rfl) ⟨⟨.slice kp ks.len kc, none, 0, 0, (none, 0, none, 0, [])⟩, rfl, rfl, hS'⟩
      · intro a σ' w' rest hσ hdep hS'   -- 11: call; pieces: sees 14 ..
        have f10 := (hdep 10 _ rfl rfl).2
        have e22 := ((hdep 10 _ rfl rfl).1 22 rfl).trans f10
        refine rule_call (vals := [.slice kp ks.len kc]) (hih w' _ hS') (fun v w2 hR => ?_) (am1 e22)
        obtain ⟨q3, c3, K, rfl, hK, -, hS2⟩ := hR
        exact ⟨⟨.slice q3 K.length c3, none, 0, 0, (none, 0, q3, c3, K)⟩, rfl, ⟨rfl, hK⟩, hS2⟩
      · intro a σ' w' rest hσ hdep hS'   -- 12: build; pieces:  ..
        have f2 := (hdep 2 _ rfl rfl).2
        have e14 := ((hdep 2 _ rfl rfl).1 14 rfl).trans f2
        have f4 := (hdep 4 _ rfl rfl).2
        have e16 := ((hdep 4 _ rfl rfl).1 16 rfl).trans f4
        have f8 := (hdep 8 _ rfl rfl).2
        have e20 := ((hdep 8 _ rfl rfl).1 20 rfl).trans f8
        have f11 := (hdep 11 _ rfl rfl).2
        have e23 := ((hdep 11 _ rfl rfl).1 23 rfl).trans f11.1
        exact rule_y (y_build (cells := [str n, str t, .slice (a 8).x.1 es.length (a 8).x.2.1, .slice (a 11).x.2.2.1 (a 11).x.2.2.2.2.length (a 11).x.2.2.2.1]) (by rw [bm4 (x := .tmp 14) (y := .tmp 16) (z := .tmp 20) (u := .tmp 23) e14 e16 e20 e23]; simp [fillL, setSeg, Value.cells] <;> rfl)) ⟨⟨.agg ⟨[str n, str t, .slice (a 8).x.1 es.length (a 8).x.2.1, .slice (a 11).x.2.2.1 (a 11).x.2.2.2.2.length (a 11).x.2.2.2.1]⟩, none, 0, 0, ((a 8).x.1, (a 8).x.2.1, (a 11).x.2.2)⟩, rfl, ⟨rfl, rfl⟩, hS'⟩
      · intro a σ' w' rest hσ hdep hS'   -- 13: buildSlice; pieces: sees 14 ..
        have f12 := (hdep 12 _ rfl rfl).2
        have e24 := ((hdep 12 _ rfl rfl).1 24 rfl).trans f12.1
        obtain ⟨b, w2, hy, hS2⟩ := y_bs1 (P := Tryd.prog) (t := 22) (d := some 25) (x := .tmp 24) (vs := [str n, str t, .slice (a 12).x.1 es.length (a 12).x.2.1, .slice (a 12).x.2.2.1 (a 12).x.2.2.2.2.length (a 12).x.2.2.2.1]) (size := 4) hS' e24 rfl rfl (by decide) (by decide)
        exact rule_y hy ⟨⟨.slice (pb b) 1 1, none, 0, b, (a 12).x⟩, rfl, ⟨rfl, rfl⟩, hS2⟩
      · intro a σ' w' rest hσ hdep hS'   -- 14: call; pieces: takes 13, base 14 ..
        have f0 := (hdep 0 _ rfl rfl).2
        have e12 := ((hdep 0 _ rfl rfl).1 12 rfl).trans f0
        have f13 := (hdep 13 _ rfl rfl).2
        have e25 := ((hdep 13 _ rfl rfl).1 25 rfl).trans f13.1
        obtain ⟨p2, c2, w2, hy, hS2⟩ := y_app (P := Tryd.prog) (t := 22) (t' := 22) (ty := 22) (d := some 26) (x := .tmp 12) (y := .tmp 25) (n := 1) hS' 1 (hS'.own 0 rfl).sg rfl e12 e25 rfl (by simp [Value.oneCell']) rfl (by decide) (by omega)
        exact rule_y hy ⟨⟨.slice p2 (L.length + 1) c2, p2, c2, 0, (a 13).x⟩, rfl, ⟨rfl, rfl⟩, hS2.drop 0 rfl⟩
      · intro a σ' w' rest hσ hdep hS'   -- 15: assign; pieces:  ..
        have f14 := (hdep 14 _ rfl rfl).2
        have e26 := ((hdep 14 _ rfl rfl).1 26 rfl).trans f14.1
        exact rule_e [(26, _)] ⟨e26, trivial⟩ ⟨⟨.slice (a 14).p (L.length + 1) (a 14).c, none, 0, 0, (none, 0, none, 0, [])⟩, rfl, rfl, hS'⟩
      · intro a σ' w' hσ hA' hS'
        have h15 := hA' 15 _ rfl
        have hK := (hA' 11 _ rfl).2.2
        rw [frameOf (σ := σ') [(3, .slice (a 14).p (L.length + 1) (a 14).c), (6, .slice p f.len c), (7, int f.len), (8, int i)] ⟨(h15.1 3 rfl).trans h15.2, (hσ 6 (notDst rfl)).trans rfl, (hσ 7 (notDst rfl)).trans rfl, (hσ 8 (notDst rfl)).trans rfl, trivial⟩]
        have hx12 := (hA' 12 _ rfl).2.2
        have hx13 := (hA' 13 _ rfl).2.2
        have hx14 := (hA' 14 _ rfl).2.2
        replace hS' : Sep w w' [pRow 2 (a 8).x.1 es.length (a 8).x.2.1 (es.flatMap At.cells), pRow 4 (a 11).x.2.2.1 (a 11).x.2.2.2.2.length (a 11).x.2.2.2.1 ((a 11).x.2.2.2.2.flatMap NdM.cells), pMany ((a 11).x.2.2.2.2.flatMap NdM.rows), pRow 4 (a 14).p (L.length + 1) (a 14).c (L.flatMap NdM.cells ++ [str n, str t, .slice (a 14).x.1 es.length (a 14).x.2.1, .slice (a 14).x.2.2.1 (a 14).x.2.2.2.2.length (a 14).x.2.2.2.1]), pOwn b5 [str n, str t, .slice ap es.length ac, .slice kp ks.len kc], pMany (L.flatMap NdM.rows)] := hS'
        rw [hx14, hx13, hx12] at hS'
        have hnx := Sep.putNode2 (m := ⟨n, t, es, (a 8).x.1, (a 8).x.2.1, .of (a 11).x.2.2.2.2, (a 11).x.2.2.1, (a 11).x.2.2.2.1⟩) (L := L) (b' := b5) (q := (a 14).p) (cc := (a 14).c) (by rw [NdM.cells, len_of, FoM.list_of, rows_of]; exact hS')
        refine sgo ?_
        refine ⟨(i + 1, (a 14).p, (a 14).c, L ++ [⟨n, t, es, (a 8).x.1, (a 8).x.2.1, .of (a 11).x.2.2.2.2, (a 11).x.2.2.1, (a 11).x.2.2.2.1⟩]), ⟨by dsimp only; rw [List.length_append]; rfl, rfl, rfl, rfl, trivial⟩, ⟨hlt, by simp [hLi], ?_, hnx⟩, (by (try dsimp only); omega)⟩
        dsimp only
        rw [htk, List.map_append, hev, List.map_cons, List.map_nil]
        congr 2
        show Nd.mk n t es (FoM.of (a 11).x.2.2.2.2).fo = Nd.mk n t es ks.fo
        rw [fo_of, hK, ← fo_list]
    · obtain rfl : i = f.len := by omega
      refine sgo ?_
      (first | refine fp1 (.inl rfl) rfl rfl ?_ | refine fp2 (.inl rfl) rfl rfl rfl ?_ | refine fp3 (.inl rfl) rfl rfl rfl rfl ?_ | refine fp0 (.inr rfl) rfl ?_ | refine fp0 (.inl rfl) rfl ?_ | refine fp1 (.inr rfl) rfl rfl ?_)
      refine ⟨q, cc, L, rfl, ?_, hS.frm, hS0.seq (ds := [_, _]) hS⟩
      rw [hev]
      exact List.take_of_length_le (by rw [List.length_map]; exact Nat.le_refl _)
end Go.Proofs.YtcdogceabkpnmaaDoor

/-
  Chapter 21: DomMerges walked.
-/
set_option linter.unusedSimpArgs false
set_option linter.unusedVariables false
set_option linter.unnecessarySimpa false
namespace Go.Proofs.YtcdogceabkpnmaaDoor
open Go Go.Sv Go.RowKit
theorem fo_copy {L : List NdM} {f : FoM} (h : L.map NdM.nd = f.list.map NdM.nd) : (FoM.of L).fo = f.fo := by rw [fo_of, h, ← fo_list]
end Go.Proofs.YtcdogceabkpnmaaDoor

/-
  Chapter 21: DomEvents walked.
-/
set_option linter.unusedSimpArgs false
set_option linter.unusedVariables false
set_option linter.unnecessarySimpa false
namespace Go.Proofs.YtcdogceabkpnmaaDoor
open Go Go.Sv Go.RowKit
end Go.Proofs.YtcdogceabkpnmaaDoor

/-
  Chapter 21: DomDiffs walked.
-/
set_option linter.unusedSimpArgs false
set_option linter.unusedVariables false
set_option linter.unnecessarySimpa false
namespace Go.Proofs.YtcdogceabkpnmaaDoor
open Go Go.Sv Go.RowKit
theorem ints_get {l : List Nat} {i x : Nat} (h : l[i]? = some x) : (ints l)[i]? = some (int x) := by simp [ints, h]
set_option maxHeartbeats 4000000 in
theorem sameWay_ok (l m : List Nat) (p q : Option Addr) (c d : Nat) (h1 : l.length ≤ 4194304) (h2 : m.length ≤ 4194304) (w : World) (hi : Im [] w p (ints l)) (hj : Im [] w q (ints m)) :
    PureC Tryd.prog 34 #[.slice p l.length c, .slice q m.length d] w (.bool (decide (l = m))) := by
  have hl1 := ints_len l
  have hl2 := ints_len m
  refine enter (l := [.slice p l.length c, .slice q m.length d]) Tryd.func34 rfl Tryd.ntmps34 (by kernel_rfl) rfl ?_
  refine sgo ?_
  (show WC _ _ _ _ _ _ _; first | refine WC_dec rfl (fun hc => ?_) (fun hc => ?_) | refine WC_cond rfl (fun hc => ?_) (fun hc => ?_))
  · refine sgo ?_
    (first | refine fp1 (.inl rfl) rfl rfl ?_ | refine fp2 (.inl rfl) rfl rfl rfl ?_ | refine fp3 (.inl rfl) rfl rfl rfl rfl ?_ | refine fp0 (.inr rfl) rfl ?_ | refine fp0 (.inl rfl) rfl ?_ | refine fp1 (.inr rfl) rfl rfl ?_); refine ⟨?_, by (first | exact Frm.refl _ | assumption | exact Go.Sv.Sep.frm (by assumption) | (refine Frm.trans ?_ (by assumption); first | exact Frm.refl _ | assumption))⟩; (try simp only [realB, rv_true, Nat.reduceBEq, cond_true, cond_false, entG, real_lif, updGL])
    rw [decide_eq_false]
    rintro rfl
    exact hc rfl
  have hle : l.length = m.length := by
    have : ¬ ((l.length : Int) ≠ m.length) := by simpa using hc
    omega
  clear hc
  refine sgo ?_
  refine wcloop (X := Nat) (fun i => [(0, .slice p l.length c), (1, .slice q m.length d), (12, int l.length), (13, int i)]) (fun i wr => i ≤ l.length ∧ l.take i = m.take i ∧ Frm w wr) (fun i => l.length - i) 0 ⟨rfl, rfl, rfl, rfl, trivial⟩ ⟨by omega, rfl, Frm.refl _⟩ ?_
  rintro i wr ρ ⟨hil, htk, hf⟩
  have hIr := hi.frm hf
  have hJr := hj.frm hf
  refine sgo ?_
  (show WC _ _ _ _ _ _ _; first | refine WC_dec rfl (fun hc => ?_) (fun hc => ?_) | refine WC_cond rfl (fun hc => ?_) (fun hc => ?_))
  · have hlt : i < l.length := by omega
    have hx : l[i]? = some l[i] := List.getElem?_eq_getElem hlt
    have hy : m[i]? = some m[i] := List.getElem?_eq_getElem (by omega)
    generalize l[i] = x at *
    generalize m[i] = y at *
    have g0 := ints_get hx
    have k0 := ints_get hy
    have hps : ∃ a, p = some a := hi.some (by omega)
    have hqs : ∃ a, q = some a := hj.some (by omega)
    clear hc
    refine sgo ?_
    (first | refine WC_seq ?_ | skip); refine wcdraw ?_
    refine qgo ?_
    refine QL_nil ?_; intro wd hwd
    have hfd := hf.trans hwd
    refine sgo ?_
    (show WC _ _ _ _ _ _ _; first | refine WC_dec rfl (fun hc => ?_) (fun hc => ?_) | refine WC_cond rfl (fun hc => ?_) (fun hc => ?_))
    · refine sgo ?_
      (first | refine fp1 (.inl rfl) rfl rfl ?_ | refine fp2 (.inl rfl) rfl rfl rfl ?_ | refine fp3 (.inl rfl) rfl rfl rfl rfl ?_ | refine fp0 (.inr rfl) rfl ?_ | refine fp0 (.inl rfl) rfl ?_ | refine fp1 (.inr rfl) rfl rfl ?_); refine ⟨?_, by (first | exact Frm.refl _ | assumption | exact Go.Sv.Sep.frm (by assumption) | (refine Frm.trans ?_ (by assumption); first | exact Frm.refl _ | assumption))⟩; (try simp only [realB, rv_true, Nat.reduceBEq, cond_true, cond_false, entG, real_lif, updGL])
      rw [decide_eq_false]
      rintro rfl
      rw [hx] at hy
      obtain rfl := Option.some.inj hy
      exact hc rfl
    · have hxy : x = y := by
        have : ¬ ((x : Int) ≠ y) := by simpa using hc
        omega
      refine sgo ?_
      refine ⟨i + 1, ⟨rfl, rfl, rfl, rfl, trivial⟩, ⟨by omega, ?_, hfd⟩, by omega⟩
      rw [← hxy] at hy
      exact take_eq_succ htk hx hy
  · obtain rfl : i = l.length := by omega
    refine sgo ?_
    (first | refine fp1 (.inl rfl) rfl rfl ?_ | refine fp2 (.inl rfl) rfl rfl rfl ?_ | refine fp3 (.inl rfl) rfl rfl rfl rfl ?_ | refine fp0 (.inr rfl) rfl ?_ | refine fp0 (.inl rfl) rfl ?_ | refine fp1 (.inr rfl) rfl rfl ?_); refine ⟨?_, by (first | exact Frm.refl _ | assumption | exact Go.Sv.Sep.frm (by assumption) | (refine Frm.trans ?_ (by assumption); first | exact Frm.refl _ | assumption))⟩; (try simp only [realB, rv_true, Nat.reduceBEq, cond_true, cond_false, entG, real_lif, updGL])
    rw [List.take_of_length_le (Nat.le_refl _), List.take_of_length_le (by omega)] at htk
    rw [decide_eq_true htk]
end Go.Proofs.YtcdogceabkpnmaaDoor

/-
  Chapter 21: DomQueries walked.
-/
set_option linter.unusedSimpArgs false
set_option linter.unusedVariables false
set_option linter.unnecessarySimpa false
namespace Go.Proofs.YtcdogceabkpnmaaDoor
open Go Go.Sv Go.RowKit

theorem stps_of {w0 w : World} {cs : List Plot} {s : List UInt8} {M : List StM} {row : StM → List Value} {q : Option Addr} {c : Nat} {mr : StM → RowD} (hS : Sep w0 w (pRow 3 q M.length c (M.flatMap StM.cells) :: pMany (M.map mr) :: cs))
    (hsel : selR s = some (M.map StM.st)) (hb : s.length ≤ 1048576) (hmr : ∀ m, (mr m).p = m.p ∧ (mr m).xs = row m) : Stps w row M q := by
  obtain ⟨h1, h2, h3⟩ := sel_fine hsel
  rw [List.length_map] at h2
  refine ⟨hS.im 0 rfl, fun m hm => ?_, fun h => h1 (by rw [h]; rfl), by omega⟩
  have h4 := h3 m.st (List.mem_map_of_mem hm)
  have h5 := RowD.im (hS.many 1 rfl (mr m) (List.mem_map_of_mem hm))
  rw [(hmr m).1, (hmr m).2] at h5
  have h6 : m.tests.length ≤ s.length := h4.1
  exact ⟨by omega, h4.2, h5⟩
set_option maxHeartbeats 2000000 in
theorem dQ_ok (s : List UInt8) (hb : s.length ≤ 1048576) (f : FoM) (p : Option Addr) (c : Nat) (hw : f.wt ≤ 1048576) (w : World) (hT : Tre w p f) :
    CallsR Tryd.prog 35 #[str s, .slice p f.len c] w fun v w' => ∃ (W : List WayM) (q : Option Addr) (cq e : Nat), v = .tuple #[.slice q W.length cq, int e] ∧ Sep w w' [pRow 1 q W.length cq (ways W), pMany (W.map WayM.row)] ∧
      ((selR s = none ∧ W = [] ∧ e = 211) ∨ (∃ L, selR s = some L ∧ e = 0 ∧ W.map WayM.l = qryF L [] f.fo [] 0)) := by
  have hS := Sep.start w
  have hsw : f.size ≤ 1048576 := by have := size_wt f; omega
  refine enter (l := [str s, .slice p f.len c]) Tryd.func35 rfl Tryd.ntmps35 (by kernel_rfl) rfl ?_
  refine sgo ?_
  refine wlbuild (cells := [str s, .bool true]) ?_
  refine sbox (v := .agg ⟨[str s, .bool true]⟩) hS fun b w1 hS => ?_
  replace hS : Sep w w1 [pOwn b [str s, .bool true]] := hS
  refine sgo ?_
  refine wlcall (dSteps_ok b s (by omega) w _ _ hS) ?_
  repeat clear hS
  rintro v w2 hD
  rcases hD with ⟨M, q, cq, hsel, rfl, hS⟩ | ⟨hsel, rfl, s', hS⟩
  · have hst : Stps w2 (fun m => m.tests.flatMap Tst.dom) M q := stps_of (mr := StM.drow) hS hsel hb fun m => ⟨rfl, rfl⟩
    refine sgo ?_
    have hS2 : Sep w2 w2 [pRow 1 none ([] : List WayM).length 0 (ways []), pMany (([] : List WayM).map WayM.row), pRow 1 none ([] : List Nat).length 0 (ints []), pRow 4 none ([] : List NdM).length 0 (([] : List NdM).flatMap NdM.cells)] := (((Sep.start w2).nilRow 4).nilRow 1).zero.nilRow 1
    refine wlcall (dQuery_ok M q cq (f.size + 1) f p c (Nat.lt_succ_self _) hw [] none 0 [] none 0 [] none 0 (by simp; omega) (by simp; omega) (by simp; omega) w2 w2 [] hst (by simp) (hT.frm hS.frm) hS2) ?_
    rintro _ w3 ⟨W, q', cq', rfl, hW, -, hS3⟩
    replace hS := hS.seq hS3
    refine sgo ?_
    (first | refine fp1 (.inl rfl) rfl rfl ?_ | refine fp2 (.inl rfl) rfl rfl rfl ?_ | refine fp3 (.inl rfl) rfl rfl rfl rfl ?_ | refine fp0 (.inr rfl) rfl ?_ | refine fp0 (.inl rfl) rfl ?_ | refine fp1 (.inr rfl) rfl rfl ?_)
    refine ⟨W, q', cq', 0, rfl, ?_, .inr ⟨_, hsel, rfl, hW⟩⟩
    exact hS.sub (((List.nil_sublist _).cons_cons _).cons_cons _)
  · refine sgo ?_
    (first | refine fp1 (.inl rfl) rfl rfl ?_ | refine fp2 (.inl rfl) rfl rfl rfl ?_ | refine fp3 (.inl rfl) rfl rfl rfl rfl ?_ | refine fp0 (.inr rfl) rfl ?_ | refine fp0 (.inl rfl) rfl ?_ | refine fp1 (.inr rfl) rfl rfl ?_)
    exact ⟨[], none, 0, 211, rfl, hS.empty.zero.nilRow 1, .inl ⟨hsel, rfl, rfl⟩⟩
theorem ways_read {w : World} {V : List WayM} (h : ∀ r ∈ V.map WayM.row, r.ok w) {x : WayM} (hx : x ∈ V) : Im [] w x.p (ints x.l) := RowD.im (h x.row (List.mem_map_of_mem hx))
set_option maxHeartbeats 4000000 in
theorem sameWays_ok (V W : List WayM) (p q : Option Addr) (c d : Nat) (h1 : V.length ≤ 4194304) (h2 : W.length ≤ 4194304) (w : World) (hi : Im [] w p (ways V)) (hj : Im [] w q (ways W))
    (hvi : ∀ x ∈ V, x.l.length ≤ 4194304 ∧ Im [] w x.p (ints x.l)) (hwi : ∀ x ∈ W, x.l.length ≤ 4194304 ∧ Im [] w x.p (ints x.l)) :
    PureC Tryd.prog 38 #[.slice p V.length c, .slice q W.length d] w (.bool (decide (V.map WayM.l = W.map WayM.l))) := by
  have hl1 := ways_len V
  have hl2 := ways_len W
  refine enter (l := [.slice p V.length c, .slice q W.length d]) Tryd.func38 rfl Tryd.ntmps38 (by kernel_rfl) rfl ?_
  refine sgo ?_
  (show WC _ _ _ _ _ _ _; first | refine WC_dec rfl (fun hc => ?_) (fun hc => ?_) | refine WC_cond rfl (fun hc => ?_) (fun hc => ?_))
  · refine sgo ?_
    (first | refine fp1 (.inl rfl) rfl rfl ?_ | refine fp2 (.inl rfl) rfl rfl rfl ?_ | refine fp3 (.inl rfl) rfl rfl rfl rfl ?_ | refine fp0 (.inr rfl) rfl ?_ | refine fp0 (.inl rfl) rfl ?_ | refine fp1 (.inr rfl) rfl rfl ?_); refine ⟨?_, by (first | exact Frm.refl _ | assumption | exact Go.Sv.Sep.frm (by assumption) | (refine Frm.trans ?_ (by assumption); first | exact Frm.refl _ | assumption))⟩; (try simp only [realB, rv_true, Nat.reduceBEq, cond_true, cond_false, entG, real_lif, updGL])
    rw [decide_eq_false]
    intro h
    have := congrArg List.length h
    rw [List.length_map, List.length_map] at this
    exact hc (by rw [this])
  have hle : V.length = W.length := by
    have : ¬ ((V.length : Int) ≠ W.length) := by simpa using hc
    omega
  clear hc
  refine sgo ?_
  refine wcloop (X := Nat) (fun i => [(0, .slice p V.length c), (1, .slice q W.length d), (12, int V.length), (13, int i)]) (fun i wr => i ≤ V.length ∧ (V.map WayM.l).take i = (W.map WayM.l).take i ∧ Frm w wr) (fun i => V.length - i) 0 ⟨rfl, rfl, rfl, rfl, trivial⟩ ⟨by omega, rfl, Frm.refl _⟩ ?_
  rintro i wr ρ ⟨hil, htk, hf⟩
  have hIr := hi.frm hf
  have hJr := hj.frm hf
  refine sgo ?_
  (show WC _ _ _ _ _ _ _; first | refine WC_dec rfl (fun hc => ?_) (fun hc => ?_) | refine WC_cond rfl (fun hc => ?_) (fun hc => ?_))
  · have hlt : i < V.length := by omega
    obtain ⟨x, hx⟩ : ∃ x, V[i]? = some x := ⟨_, List.getElem?_eq_getElem hlt⟩
    obtain ⟨y, hy⟩ : ∃ y, W[i]? = some y := ⟨_, List.getElem?_eq_getElem (by omega)⟩
    have g0 := ways_at hx
    have k0 := ways_at hy
    have hps : ∃ a, p = some a := hi.some (by omega)
    have hqs : ∃ a, q = some a := hj.some (by omega)
    have hvx := hvi x (List.mem_of_getElem? hx)
    have hwy := hwi y (List.mem_of_getElem? hy)
    have hxm : (V.map WayM.l)[i]? = some x.l := by rw [List.getElem?_map, hx]; rfl
    have hym : (W.map WayM.l)[i]? = some y.l := by rw [List.getElem?_map, hy]; rfl
    clear hc
    refine sgo ?_
    (first | refine WC_seq ?_ | skip); refine wcdraw ?_
    refine qgo ?_
    refine qlcallp (v := .bool (decide (x.l = y.l))) (fun w' hw' => ?_) ?_
    · exact sameWay_ok x.l y.l x.p y.p x.c y.c hvx.1 hwy.1 w' (hvx.2.frm (hf.trans hw')) (hwy.2.frm (hf.trans hw'))
    refine qgo ?_
    refine QL_nil ?_; intro wd hwd
    have hfd := hf.trans hwd
    refine sgo ?_
    by_cases hxy : x.l = y.l
    · rw [decide_eq_true hxy]
      refine sgo ?_
      refine ⟨i + 1, ⟨rfl, rfl, rfl, rfl, trivial⟩, ⟨by omega, ?_, hfd⟩, by omega⟩
      rw [← hxy] at hym
      exact take_eq_succ htk hxm hym
    · rw [decide_eq_false hxy]
      refine sgo ?_
      (first | refine fp1 (.inl rfl) rfl rfl ?_ | refine fp2 (.inl rfl) rfl rfl rfl ?_ | refine fp3 (.inl rfl) rfl rfl rfl rfl ?_ | refine fp0 (.inr rfl) rfl ?_ | refine fp0 (.inl rfl) rfl ?_ | refine fp1 (.inr rfl) rfl rfl ?_); refine ⟨?_, by (first | exact Frm.refl _ | assumption | exact Go.Sv.Sep.frm (by assumption) | (refine Frm.trans ?_ (by assumption); first | exact Frm.refl _ | assumption))⟩; (try simp only [realB, rv_true, Nat.reduceBEq, cond_true, cond_false, entG, real_lif, updGL])
      rw [decide_eq_false]
      intro h
      rw [h] at hxm
      rw [hxm] at hym
      exact hxy (Option.some.inj hym)
  · obtain rfl : i = V.length := by omega
    refine sgo ?_
    (first | refine fp1 (.inl rfl) rfl rfl ?_ | refine fp2 (.inl rfl) rfl rfl rfl ?_ | refine fp3 (.inl rfl) rfl rfl rfl rfl ?_ | refine fp0 (.inr rfl) rfl ?_ | refine fp0 (.inl rfl) rfl ?_ | refine fp1 (.inr rfl) rfl rfl ?_); refine ⟨?_, by (first | exact Frm.refl _ | assumption | exact Go.Sv.Sep.frm (by assumption) | (refine Frm.trans ?_ (by assumption); first | exact Frm.refl _ | assumption))⟩; (try simp only [realB, rv_true, Nat.reduceBEq, cond_true, cond_false, entG, real_lif, updGL])
    rw [List.take_of_length_le (by simp), List.take_of_length_le (by simp; omega)] at htk
    rw [decide_eq_true htk]
theorem qry_ways (L : List Stp) (f : FoM) : ∀ (O : List El) (w : List Nat) (i : Nat), ∀ x ∈ qryF L O f.fo w i, x.length ≤ w.length + f.size := by
  induction f with
  | nil => intro O w i x hx; cases hx
  | cons n t es ap ac ks kp kc r ih1 ih2 =>
    intro O w i x hx
    simp only [FoM.fo, qryF, List.mem_append] at hx
    simp only [FoM.size]
    rcases hx with hx | hx
    · split at hx
      · cases hx
      · rcases List.mem_append.1 hx with hx | hx
        · split at hx
          · obtain rfl := List.mem_singleton.1 hx
            simp; omega
          · cases hx
        · have := ih1 _ _ _ x hx
          simp at this
          omega
    · have := ih2 _ _ _ x hx
      omega
end Go.Proofs.YtcdogceabkpnmaaDoor

