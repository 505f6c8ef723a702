/-
  Our texts SvSep, SvEvA, SvNm, SvMend, SvMendB, SvIter, SvRunes, SvRunesB, SvMendC, SvPl1, SvLkA, SvLkB, SvLkC, SvLkD, SvLn, SvIn, SvInL, SvInN, SvEvC, SvTpA, SvTpB, SvEbA, SvTpI, SvSpl, SvEvN, SvEvW, SvLkE, SvEvX, SvRf, joined.
-/
import Derived.Test.YthgbpgjpnaanlaaDoorMg3
import Derived.Laws.Cover4
import Derived.Laws.MakeOwn
import Derived.Lib.LaidTab
/-
  Memory of one's own in pieces that lie apart, carried along as one fact.
-/
set_option linter.unusedSimpArgs false
set_option linter.unusedVariables false
set_option linter.unnecessarySimpa false
namespace Go.Sv
open Go Go.RowKit

theorem Own.of_block {w w' : World} {b : Nat} {l : List Value} (h : Own w b l) (hb : w'.heap[b]? = w.heap[b]?) : Own w' b l := by
  obtain ⟨t, h⟩ := h
  exact ⟨t, hb.trans h⟩
def pOwn (b : Nat) (l : List Value) : Plot where
  foot := [b]
  ok w := Own w b l
  view := (pb b, l)
  loc _ _ h hb := h.of_block (hb b (by simp))
  lt _ h x hx := by rw [List.mem_singleton.1 hx]; exact h.lt
  sg _ h := h.sg
def pRow (size : Nat) (p : Option Addr) (n c : Nat) (xs : List Value) : Plot where
  foot := rb p
  ok w := Row w size p n c xs
  view := (p, xs)
  loc _ _ h hb := h.of_block hb
  lt _ h := h.lt
  sg _ h := h.sg

section
variable {w0 w w' : World} {cs ds es : List Plot} {c c' a b : Plot} {M : List Nat} {i j : Nat}
theorem Sep.own {b : Nat} {l : List Value} (h : Sep w0 w cs) (i : Nat) (hi : cs[i]? = some (pOwn b l)) : Own w b l := h.at (c := pOwn b l) i hi
theorem Sep.row {s n c : Nat} {p : Option Addr} {l : List Value} (h : Sep w0 w cs) (i : Nat) (hi : cs[i]? = some (pRow s p n c l)) : Row w s p n c l := h.at (c := pRow s p n c l) i hi
/-- a piece that is written no more -/
theorem Sep.im {s n c : Nat} {p : Option Addr} {l : List Value} (h : Sep w0 w cs) (i : Nat) (hi : cs[i]? = some (pRow s p n c l)) : Im [] w p l := (h.row i hi).im (by simp)
end

/-! ## Operations on pieces -/
section
variable {P : Program} {n : Nat} {ds : Ctx} {ops : Array Oper} {Q : Exit → Ctx → Env → World → Prop} {rest : List Oper} {σ : GE} {w0 w : World} {v : Value} {d : Nat} {ty t t' e e' : TypeId} {pos : String} {af : Array Edge} {x y : Operand} {zv : Value} {size sz bytes : Nat} {p q : Option Addr} {l xs news vs : List Value} {b i m k c c' j : Nat} {cs : List Plot}
theorem salloc [hi : Inf P e zv size bytes] (hS : Sep w0 w cs) (h : ∀ b w', Sep w0 w' (pOwn b zv.cells.toList :: cs) → WL P n ds ops Q rest (real (updG σ d ⟨ptrAt (pb b) 0, true⟩)) w') :
    WL P n ds ops Q (⟨some d, .alloc e, ty, pos, af, none⟩ :: rest) (real σ) w :=
  wlalloc fun b w' hb ho hf => h b w' (hS.push hf ho (by simpa [pOwn] using hb))
theorem sbox (hS : Sep w0 w cs) (h : ∀ b w', Sep w0 w' (pOwn b v.cells.toList :: cs) → WL P n ds ops Q rest (real (updG σ d ⟨ptrAt (pb b) 0, true⟩)) w') (hx : evl (real σ) x = v := by rfl) :
    WL P n ds ops Q (⟨some d, .box e x, ty, pos, af, none⟩ :: rest) (real σ) w :=
  wlbox (fun b w' hb ho hf => h b w' (hS.push hf ho (by simpa [pOwn] using hb))) hx
theorem lm_own {b : Nat} {w w' : World} (h : Le [b] w w') : Lm [b] w [b] w' := ⟨h, fun _ hx _ => hx⟩
/-- a whole struct into the i-th piece -/
theorem ssta [hi : Inf P t zv size bytes] (hS : Sep w0 w cs) (i : Nat) (h : ∀ w', Sep w0 w' (cs.set i (pOwn b vs)) → WL P n ds ops Q rest (real σ) w') (hc : cs[i]? = some (pOwn b l) := by rfl)
    (hx : evl (real σ) x = ptrAt (pb b) 0 := by rfl) (hy : evl (real σ) y = .agg ⟨vs⟩ := by rfl) (hv : vs.length = size ∧ l.length = size := by first | exact ⟨rfl, rfl⟩ | (simp; done)) (h1 : (vs.all fun c => c.oneCell') = true := by rfl) :
    WL P n ds ops Q (⟨none, .store t x y, ty, pos, af, none⟩ :: rest) (real σ) w :=
  wlstorea0 (hS.own i hc) (fun w' ho hl => h w' (hS.upd i hc (lm_own hl) ho)) hx hy hv (List.all_eq_true.1 h1)
/-- one cell into the i-th piece -/
theorem sst1 [hi : Inf P t zv 1 bytes] (hS : Sep w0 w cs) (i : Nat) (h : ∀ w', Sep w0 w' (cs.set i (pOwn b (l.set j v))) → WL P n ds ops Q rest (real σ) w') (hc : cs[i]? = some (pOwn b l) := by rfl)
    (hx : evl (real σ) x = ptrAt (pb b) j := by rfl) (hy : evl (real σ) y = v := by rfl) (hv : v.cells = #[v] := by rfl) (h1 : v.oneCell' = true := by rfl) (hk : j < l.length := by first | decide | (simp; done)) :
    WL P n ds ops Q (⟨none, .store t x y, ty, pos, af, none⟩ :: rest) (real σ) w :=
  wlstore1 hx hy (hS.own i hc) hv h1 hk fun w' ho hl => h w' (hS.upd i hc (lm_own hl) ho)
theorem sapp [hu : Und P t (.slice e)] [hu' : Und P t' (.slice e')] [hi : Inf P e zv size bytes] (hS : Sep w0 w cs) (i : Nat) (hs : Sg w q news)
    (h : ∀ p' c' w', Sep w0 w' (cs.set i (pRow size p' (m + k) c' (xs ++ news))) → WL P n ds ops Q rest (real (updG σ d ⟨.slice p' (m + k) c', true⟩)) w') (hc : cs[i]? = some (pRow size p m c xs) := by rfl)
    (hx : evl (real σ) x = .slice p m c := by rfl) (hy : evl (real σ) y = .slice q k c' := by rfl) (hl : news.length = k * size := by first | rfl | (simp; done))
    (h1 : ∀ u ∈ news, u.oneCell' = true := by simp [Go.Value.oneCell']) (hz : zv.cells.size = size := by rfl) (hsz : 0 < size := by decide) (hb : (m + k) * bytes ≤ 140737488355328 ∧ m + k ≤ 9223372036854775807 := by omega) :
    WL P n ds ops Q (⟨some d, .call ⟨.builtin .append, #[x, y], #[t, t']⟩, ty, pos, af, none⟩ :: rest) (real σ) w :=
  wlapp (hS.row i hc) hs (fun p' c' w' hr hl => h p' c' w' (hS.upd i hc hl hr)) hx hy hl h1 hz hsz hb
/-- a slice written out, of one struct -/
theorem sb1a [hu : Und P t (.slice e)] [hi : Inf P e zv size bytes] (hS : Sep w0 w cs) (h : ∀ b w', Sep w0 w' (pOwn b vs :: cs) → WL P n ds ops Q rest (real (updG σ d ⟨.slice (pb b) 1 1, true⟩)) w')
    (hx : evl (real σ) x = .agg ⟨vs⟩ := by rfl) (hv : vs.length = size := by first | rfl | (simp; done)) (hz : zv.cells.size = size := by rfl) (hsz : 0 < size := by decide) (hm : size ≤ 16777216 := by decide) :
    WL P n ds ops Q (⟨some d, .buildSlice t 1 #[(0, x)], ty, pos, af, none⟩ :: rest) (real σ) w :=
  wlb1a (fun b w' hb ho hf => h b w' (hS.push hf ho (by simpa [pOwn] using hb))) hx hv hz hsz hm
/-- .. of one cell -/
theorem sb1 [hu : Und P t (.slice e)] [hi : Inf P e zv 1 bytes] (hS : Sep w0 w cs) (h : ∀ b w', Sep w0 w' (pOwn b [v] :: cs) → WL P n ds ops Q rest (real (updG σ d ⟨.slice (pb b) 1 1, true⟩)) w')
    (hx : evl (real σ) x = v := by rfl) (hv : v.cells = #[v] := by rfl) (hz : zv.cells.size = 1 := by rfl) :
    WL P n ds ops Q (⟨some d, .buildSlice t 1 #[(0, x)], ty, pos, af, none⟩ :: rest) (real σ) w :=
  wlb1v hx hv (fun b w' hb ho hf => h b w' (hS.push hf ho (by simpa [pOwn] using hb))) hz
theorem sb1s {s : List UInt8} [hu : Und P t (.slice e)] [hi : Inf P e zv 1 bytes] (hS : Sep w0 w cs) (h : ∀ b w', Sep w0 w' (pOwn b [str s] :: cs) → WL P n ds ops Q rest (real (updG σ d ⟨.slice (pb b) 1 1, true⟩)) w')
    (hx : evl (real σ) x = str s := by rfl) (hz : zv.cells.size = 1 := by rfl) :
    WL P n ds ops Q (⟨some d, .buildSlice t 1 #[(0, x)], ty, pos, af, none⟩ :: rest) (real σ) w := sb1 hS h hx rfl hz
theorem sst_str {s : List UInt8} [hi : Inf P t zv 1 bytes] (hS : Sep w0 w cs) (i : Nat) (h : ∀ w', Sep w0 w' (cs.set i (pOwn b (l.set j (str s)))) → WL P n ds ops Q rest (real σ) w') (hc : cs[i]? = some (pOwn b l) := by rfl)
    (hx : evl (real σ) x = ptrAt (pb b) j := by rfl) (hy : evl (real σ) y = str s := by rfl) (hk : j < l.length := by first | decide | (simp; done)) :
    WL P n ds ops Q (⟨none, .store t x y, ty, pos, af, none⟩ :: rest) (real σ) w := sst1 hS i h hc hx hy rfl rfl hk
theorem sst_int {kk : IntKind} {a : Int} [hi : Inf P t zv 1 bytes] (hS : Sep w0 w cs) (i : Nat) (h : ∀ w', Sep w0 w' (cs.set i (pOwn b (l.set j (.int kk a)))) → WL P n ds ops Q rest (real σ) w') (hc : cs[i]? = some (pOwn b l) := by rfl)
    (hx : evl (real σ) x = ptrAt (pb b) j := by rfl) (hy : evl (real σ) y = .int kk a := by rfl) (hk : j < l.length := by first | decide | (simp; done)) :
    WL P n ds ops Q (⟨none, .store t x y, ty, pos, af, none⟩ :: rest) (real σ) w := sst1 hS i h hc hx hy rfl rfl hk
theorem sst_bool {a : Bool} [hi : Inf P t zv 1 bytes] (hS : Sep w0 w cs) (i : Nat) (h : ∀ w', Sep w0 w' (cs.set i (pOwn b (l.set j (.bool a)))) → WL P n ds ops Q rest (real σ) w') (hc : cs[i]? = some (pOwn b l) := by rfl)
    (hx : evl (real σ) x = ptrAt (pb b) j := by rfl) (hy : evl (real σ) y = .bool a := by rfl) (hk : j < l.length := by first | decide | (simp; done)) :
    WL P n ds ops Q (⟨none, .store t x y, ty, pos, af, none⟩ :: rest) (real σ) w := sst1 hS i h hc hx hy rfl rfl hk
theorem sst_slice {a : Option Addr} {m1 m2 : Nat} [hi : Inf P t zv 1 bytes] (hS : Sep w0 w cs) (i : Nat) (h : ∀ w', Sep w0 w' (cs.set i (pOwn b (l.set j (.slice a m1 m2)))) → WL P n ds ops Q rest (real σ) w') (hc : cs[i]? = some (pOwn b l) := by rfl)
    (hx : evl (real σ) x = ptrAt (pb b) j := by rfl) (hy : evl (real σ) y = .slice a m1 m2 := by rfl) (hk : j < l.length := by first | decide | (simp; done)) :
    WL P n ds ops Q (⟨none, .store t x y, ty, pos, af, none⟩ :: rest) (real σ) w := sst1 hS i h hc hx hy rfl rfl hk
/-- .. of none -/
theorem sb0 [hu : Und P t (.slice e)] [hi : Inf P e zv size bytes] (hS : Sep w0 w cs) (h : ∀ b w', Sep w0 w' (pRow size (pb b) 0 0 [] :: cs) → WL P n ds ops Q rest (real (updG σ d ⟨.slice (pb b) 0 0, true⟩)) w') :
    WL P n ds ops Q (⟨some d, .buildSlice t 0 #[], ty, pos, af, none⟩ :: rest) (real σ) w :=
  wlb0 fun b w' hb ho hf => h b w' (hS.push hf ho (by simpa [pRow, rb] using hb))
end
/-! ## Many rows in one piece -/
structure RowD where
  size : Nat
  p : Option Addr
  n : Nat
  c : Nat
  xs : List Value
def RowD.ok (w : World) (r : RowD) : Prop := Row w r.size r.p r.n r.c r.xs
def RowD.apart (a b : RowD) : Prop := ∀ x ∈ rb a.p, x ∉ rb b.p
def pMany (rs : List RowD) : Plot where
  foot := rs.flatMap fun r => rb r.p
  ok w := (∀ r ∈ rs, r.ok w) ∧ rs.Pairwise RowD.apart
  view := (none, [])
  loc _ _ h hb := ⟨fun r hr => (h.1 r hr).of_block fun b hh => hb b (List.mem_flatMap.2 ⟨r, hr, hh⟩), h.2⟩
  lt _ h x hx := by
    obtain ⟨r, hr, hx⟩ := List.mem_flatMap.1 hx
    exact (h.1 r hr).lt x hx
  sg _ _ := .inl rfl
theorem many_nil (w : World) : (pMany []).ok w := ⟨by simp, .nil⟩
section
variable {w0 w w' : World} {cs ds : List Plot} {rs : List RowD} {r r' : RowD} {s n c i j : Nat} {p : Option Addr} {xs : List Value}
theorem Sep.zero (h : Sep w0 w cs) : Sep w0 w (pMany [] :: cs) := h.push (Frm.refl w) (many_nil w) (by simp [pMany])
theorem Sep.many (h : Sep w0 w cs) (i : Nat) (hi : cs[i]? = some (pMany rs)) : ∀ r ∈ rs, r.ok w := (h.at (c := pMany rs) i hi).1
/-- a row more among the many -/
theorem Sep.more (h : Sep w0 w (pRow s p n c xs :: pMany rs :: cs)) : Sep w0 w (pMany (rs ++ [⟨s, p, n, c, xs⟩]) :: cs) := by
  refine h.join (fun h1 h2 h3 => ⟨fun r hr => ?_, ?_⟩) (fun x hx => ?_)
  · rcases List.mem_append.1 hr with hr | hr
    · exact h2.1 r hr
    · rw [List.mem_singleton.1 hr]; exact h1
  · rw [List.pairwise_append]
    refine ⟨h2.2, List.pairwise_singleton _ _, fun a ha b hb x hx hx' => ?_⟩
    rw [List.mem_singleton.1 hb] at hx'
    exact h3 x hx' (List.mem_flatMap.2 ⟨a, ha, hx⟩)
  · obtain ⟨r, hr, hx⟩ := List.mem_flatMap.1 hx
    rcases List.mem_append.1 hr with hr | hr
    · exact .inr (List.mem_flatMap.2 ⟨r, hr, hx⟩)
    · rw [List.mem_singleton.1 hr] at hx; exact .inl hx
/-- two times many -/
theorem Sep.both {rs' : List RowD} (h : Sep w0 w (pMany rs :: pMany rs' :: cs)) : Sep w0 w (pMany (rs' ++ rs) :: cs) := by
  refine h.join (fun h1 h2 h3 => ⟨fun r hr => ?_, ?_⟩) (fun x hx => ?_)
  · rcases List.mem_append.1 hr with hr | hr
    · exact h2.1 r hr
    · exact h1.1 r hr
  · rw [List.pairwise_append]
    exact ⟨h2.2, h1.2, fun a ha b hb x hx hx' => h3 x (List.mem_flatMap.2 ⟨b, hb, hx'⟩) (List.mem_flatMap.2 ⟨a, ha, hx⟩)⟩
  · obtain ⟨r, hr, hx⟩ := List.mem_flatMap.1 hx
    rcases List.mem_append.1 hr with hr | hr
    · exact .inr (List.mem_flatMap.2 ⟨r, hr, hx⟩)
    · exact .inl (List.mem_flatMap.2 ⟨r, hr, hx⟩)
theorem set_apart {R : RowD → RowD → Prop} : ∀ {rs : List RowD} {i : Nat} {r r' : RowD}, rs.Pairwise R → rs[i]? = some r → (∀ x, R x r → R x r') → (∀ x, R r x → R r' x) → (rs.set i r').Pairwise R
  | [], i, r, r', _, h, _, _ => by simp at h
  | x :: rs, 0, r, r', hp, h, h1, h2 => by
    simp only [List.getElem?_cons_zero, Option.some.injEq] at h
    subst h
    rw [List.pairwise_cons] at hp
    simp only [List.set_cons_zero, List.pairwise_cons]
    exact ⟨fun y hy => h2 y (hp.1 y hy), hp.2⟩
  | x :: rs, i + 1, r, r', hp, h, h1, h2 => by
    simp only [List.getElem?_cons_succ] at h
    rw [List.pairwise_cons] at hp
    simp only [List.set_cons_succ, List.pairwise_cons]
    refine ⟨fun y hy => ?_, set_apart hp.2 h h1 h2⟩
    rcases List.mem_or_eq_of_mem_set hy with hy | rfl
    · exact hp.1 y hy
    · exact h1 x (hp.1 r (List.mem_of_getElem? h))
theorem rows_le : ∀ {rs : List RowD} {j : Nat} {r : RowD}, rs.Pairwise RowD.apart → rs[j]? = some r → (∀ x ∈ rs, x.ok w) → Le (rb r.p) w w' → ∀ (k : Nat) (x : RowD), rs[k]? = some x → k ≠ j → x.ok w' := by
  intro rs j r hp hj hok hl k x hk hne
  refine Row.le (hok x (List.mem_of_getElem? hk)) hl fun b hb hb' => ?_
  obtain ⟨hk1, rfl⟩ := List.getElem?_eq_some_iff.1 hk
  obtain ⟨hj1, rfl⟩ := List.getElem?_eq_some_iff.1 hj
  rw [List.pairwise_iff_getElem] at hp
  rcases Nat.lt_or_ge k j with h | h
  · exact hp k j hk1 hj1 h b hb hb'
  · exact hp j k hj1 hk1 (by omega) b hb' hb
/-- one of the many written -/
theorem Sep.wrote (h : Sep w0 w cs) (i : Nat) (hi : cs[i]? = some (pMany rs)) (hj : rs[j]? = some r) (hp : r'.p = r.p) (hl : Le (rb r.p) w w') (hr : r'.ok w') : Sep w0 w' (cs.set i (pMany (rs.set j r'))) := by
  have hok := h.at (c := pMany rs) i hi
  have hfeet : ∀ x, x ∈ (pMany (rs.set j r')).foot → x ∈ (pMany rs).foot := by
    intro x hx
    obtain ⟨y, hy, hxy⟩ := List.mem_flatMap.1 hx
    rcases List.mem_or_eq_of_mem_set hy with hy | hy
    · exact List.mem_flatMap.2 ⟨y, hy, hxy⟩
    · exact List.mem_flatMap.2 ⟨r, List.mem_of_getElem? hj, by rw [← hp, ← hy]; exact hxy⟩
  refine h.upd i hi ⟨hl.mono fun x hx _ => List.mem_flatMap.2 ⟨r, List.mem_of_getElem? hj, hx⟩, fun x hx _ => hfeet x hx⟩ ⟨fun x hx => ?_, ?_⟩
  · obtain ⟨k, hk, rfl⟩ := List.mem_iff_getElem.1 hx
    rw [List.getElem_set]
    split
    · exact hr
    · rename_i hne
      refine rows_le hok.2 hj hok.1 hl k _ (List.getElem?_eq_getElem (by simpa using hk)) (fun e => hne e.symm)
  · exact set_apart hok.2 hj (fun x hx y hy => by rw [hp]; exact hx y hy) (fun x hx y hy => hx y (by rwa [hp] at hy))
/-- what lies in one of the many -/
theorem RowD.im (h : r.ok w) : Im [] w r.p r.xs := Row.im h (by simp)
end
section
variable {P : Program} {n : Nat} {ds : Ctx} {ops : Array Oper} {Q : Exit → Ctx → Env → World → Prop} {rest : List Oper} {σ : GE} {w0 w : World} {v : Value} {ty t : TypeId} {pos : String} {af : Array Edge} {x y : Operand} {zv : Value} {sz bytes : Nat} {k j : Nat} {cs : List Plot} {rs : List RowD} {r : RowD}
end
/-! ## []byte(s), by whatever guard -/
section
variable {P : Program} {n : Nat} {ds : Ctx} {ops : Array Oper} {Q : Exit → Ctx → Env → World → Prop} {rest : List Oper} {σ : GE} {w : World} {d : Nat} {ty t t' e : TypeId} {pos : String} {af : Array Edge} {x : Operand} {s : List UInt8} {j dj : Nat} {want b c : Bool}
theorem y_s2b [hu : Und P t .string] [hu' : Und P t' (.slice e)] [he : Und P e (.int .u8)] {σ : Env} {dd : Option Nat} {g : Option (Nat × Bool)} (hx : evl σ x = str s) (hs : s.length ≤ 9223372036854775807) :
    ∃ b c w', w.heap.size ≤ b ∧ s.length ≤ c ∧ c ≤ 9223372036854775807 ∧ Im [] w' (pb b) (bs s) ∧ Frm w w' ∧ Y P σ ⟨dd, .convert t t' x, ty, pos, af, g⟩ w (.slice (pb b) s.length c) w' := by
  let c := grownCap w s.length 0 e
  let C : Array Value := (s.toArray.map fun b => Value.int .u8 b.toNat) ++ Array.replicate (c - s.length) (.int .u8 0)
  have hge : s.length ≤ c := grownCap_ge w s.length 0 e
  have hcm : c ≤ maxLen := grownCap_le_maxLen w s.length 0 e (by unfold maxLen; omega)
  have hsz : C.size = c := by simp [C]; omega
  have hheap : (w.drew.alloc (.cells C e)).heap[w.heap.size]? = some (.cells C e) := heap_alloc_new w.drew _
  let w' := (w.drew.alloc (.cells C e)).freeze ⟨w.heap.size, C.size, none⟩ 1
  have hw' : w'.heap[w.heap.size]? = some (.cells C e (C.size, C.size + 1)) := by
    simp only [w', World.freeze, Nat.one_ne_zero, if_false, Array.getElem?_modify, if_true]
    rw [hheap]; simp
  have hother : ∀ k, k < w.heap.size → w'.heap[k]? = w.heap[k]? := by
    intro k hk
    simp only [w', World.freeze, Nat.one_ne_zero, if_false, Array.getElem?_modify]
    rw [if_neg (by omega)]
    exact Below.heap_alloc w.drew _ k hk
  refine ⟨w.heap.size, c, w', Nat.le_refl _, hge, (by unfold maxLen at hcm; omega), ?_, ?_, Y.val ?_⟩
  · refine .inr ⟨_, rfl, fun i hi => ?_, (Array.getElem?_eq_some_iff.1 hw').1, by simp⟩
    have ea : (⟨w.heap.size, 0, none⟩ : Addr).add i = ⟨w.heap.size, i, none⟩ := by unfold Addr.add; split <;> simp_all
    rw [ea, cell_of_row w' _ i C e _ hw']
    have hi' : i < s.length := by simpa using hi
    have hlt : i < (s.toArray.map fun b => Value.int .u8 b.toNat).size := by simpa using hi'
    simp only [C]
    rw [Array.getElem?_append_left hlt]
    simp [bs, hi']
  · exact ⟨rfl, rfl, rfl, by simp [w', World.freeze], hother⟩
  · have e1 : (ByteArray.mk s.toArray).data = s.toArray := rfl
    simp only [execOp, hx, convert, underlying, Sem.run_bind, run_program, Result.andThen_ok, hu.ok, hu'.ok, he.ok, Sem.run_pure, Conv.stringToBytes, run_choose, Question.forced, size_str, newRow, run_newObj, markStringish, run_shape]
    have hshape : (w.drew.alloc (.cells C e)).shape? w.heap.size = some (e, C.size) := by simp only [World.shape?, hheap]
    have hr : (w.drew.heap.size) = w.heap.size := rfl
    simp only [Bool.false_eq_true, if_false, Result.andThen_ok, World.alloc_eq, e1]
    change (((Sem.run P (match (w.drew.alloc (.cells C e)).shape? w.heap.size with | some (_, n) => freeze { block := w.heap.size, off := n } 1 | _ => pure ()) (w.drew.alloc (.cells C e))).andThen _).andThen _) = _
    rw [hshape]
    simp only [run_freeze, Result.andThen_ok, Sem.run_pure]
    rfl
theorem wls2bg [hu : Und P t .string] [hu' : Und P t' (.slice e)] [he : Und P e (.int .u8)] (hs : s.length ≤ 9223372036854775807)
    (h : ∀ q cc w', ((b && (c == want)) = true → s.length ≤ cc ∧ cc ≤ 9223372036854775807 ∧ Im [] w' (pb q) (bs s)) → Frm w w' → WL P n ds ops Q rest (real (updG σ d ⟨.slice (pb q) s.length cc, b && (c == want)⟩)) w')
    (hj : (ops[j]?).bind (·.dst) = some dj := by rfl) (hσ : σ dj = ⟨.bool c, b⟩ := by rfl) (hx : (b && (c == want)) = true → evl (real σ) x = str s := by exact fun hgd => evG hgd) :
    WL P n ds ops Q (⟨some d, .convert t t' x, ty, pos, af, some (j, want)⟩ :: rest) (real σ) w := by
  have hw := wanted_real (ops := ops) (o := ⟨some d, .convert t t' x, ty, pos, af, some (j, want)⟩) rfl hj hσ
  cases hb : (b && (c == want)) with
  | true =>
    rw [hb] at hw
    obtain ⟨q, cc, w', h1, h2, h3, h4, h5, hy⟩ := y_s2b (P := P) (w := w) (dd := some d) (ty := ty) (pos := pos) (af := af) (t := t) (t' := t') (g := some (j, want)) (hx hb) hs
    refine WL_want hw hy ?_
    have := h q cc w' (fun _ => ⟨h2, h3, h4⟩) h5
    rw [hb] at this
    rw [← real_upd] at this
    exact this
  | false =>
    rw [hb] at hw
    refine WL_skip hw ?_
    have := h 0 0 w (fun h => by rw [hb] at h; cases h) (Frm.refl w)
    rw [hb] at this
    rw [← real_upd] at this
    exact this
end
end Go.Sv

/-
  Events: what they are, which may be, how they lie in memory.
-/
set_option linter.unusedSimpArgs false
set_option linter.unusedVariables false
set_option linter.unnecessarySimpa false
namespace Go.Proofs.YthgbpgjpnaanlaaDoor
open Go Go.Sv Go.RowKit

structure Ev where
  kind : Int
  name : List UInt8
  text : List UInt8
  attrs : List At
  deriving DecidableEq
def Ev.cells (e : Ev) (p : Option Addr) (c : Nat) : List Value := [int e.kind, str e.name, str e.text, .slice p e.attrs.length c]
structure EvM where
  e : Ev
  p : Option Addr
  c : Nat
def EvM.cells (m : EvM) : List Value := m.e.cells m.p m.c
theorem EvM.len (m : EvM) : m.cells.length = 4 := rfl
theorem ev_one (e : Ev) (p : Option Addr) (c : Nat) : ∀ u ∈ e.cells p c, u.oneCell' = true := by simp [Ev.cells, Value.oneCell']
structure Ev.small (t : Ev) : Prop where
  name : t.name.length ≤ 1048576
  text : t.text.length ≤ 1048576
  attrs : t.attrs.length ≤ 1048576
  each : ∀ x ∈ t.attrs, x.small
def Ev.wt (t : Ev) : Nat := 4 + t.name.length + t.text.length + (t.attrs.map At.wt).sum
theorem Ev.small_of {t : Ev} (h : t.wt ≤ 1048576) : t.small := by
  unfold Ev.wt at h
  refine ⟨by omega, by omega, ?_, fun x hx => ?_⟩
  · have := sum_len At.wt t.attrs (by intro x _; unfold At.wt; omega); omega
  · have h1 := sum_mem At.wt t.attrs hx
    have h2 : At.wt x = x.n.length + x.v.length + 3 := rfl
    exact ⟨by omega, by omega⟩
def evw (ms : List EvM) : Nat := (ms.map fun m => m.e.wt).sum
/-- a list of events that can be read -/
structure Evs (w : World) (p : Option Addr) (ms : List EvM) : Prop where
  im : Im [] w p (ms.flatMap EvM.cells)
  each : ∀ m ∈ ms, Im [] w m.p (m.e.attrs.flatMap At.cells)
theorem Evs.frm {w w' : World} {p : Option Addr} {ms : List EvM} (h : Evs w p ms) (hf : Frm w w') : Evs w' p ms := ⟨h.im.frm hf, fun m hm => (h.each m hm).frm hf⟩
/-- where an event's attributes lie, as a row -/
def EvM.row (m : EvM) : RowD := ⟨2, m.p, m.e.attrs.length, m.c, m.e.attrs.flatMap At.cells⟩
/-- a list of events in memory of one's own -/
def evP (q : Option Addr) (c : Nat) (ms : List EvM) : List Plot := [pRow 4 q ms.length c (ms.flatMap EvM.cells), pMany (ms.map EvM.row)]
theorem Sep.evs {w0 w : World} {cs : List Plot} {q : Option Addr} {n c : Nat} {ms : List EvM} (h : Sep w0 w cs) (i j : Nat) (hi : cs[i]? = some (pRow 4 q n c (ms.flatMap EvM.cells))) (hj : cs[j]? = some (pMany (ms.map EvM.row))) : Evs w q ms :=
  ⟨h.im i hi, fun m hm => RowD.im (h.many j hj m.row (List.mem_map_of_mem hm))⟩
def EvM.es (ms : List EvM) : List Ev := ms.map EvM.e

/-- the token that opens it -/
def Ev.start (e : Ev) : Tok := ⟨1, e.name, [], e.attrs, false, 0, 0, 0⟩
def Ev.close (e : Ev) : Tok := ⟨2, e.name, [], [], false, 0, 0, 0⟩
theorem Ev.start_small {e : Ev} (h : e.small) : e.start.small := ⟨h.name, by simp [Ev.start], h.attrs, h.each⟩
theorem Ev.close_small {e : Ev} (h : e.small) : e.close.small := ⟨h.name, by simp [Ev.close], by simp [Ev.close], by simp [Ev.close]⟩
end Go.Proofs.YthgbpgjpnaanlaaDoor

/-
  Packages names and sieveref04: classes of bytes, small letters. Blocks of bytes that []byte(s) made.
-/
set_option linter.unusedSimpArgs false
set_option linter.unusedVariables false
set_option linter.unnecessarySimpa false
namespace Go.Sv
open Go Go.RowKit
/-- a block that holds the bytes s and may be written there -/
def OwnB (w : World) (b : Nat) (s : List UInt8) : Prop := ∃ C ty lo hi, w.heap[b]? = some (.cells C ty (lo, hi)) ∧ C.toList.take s.length = bs s ∧ s.length ≤ lo
section
variable {P : Program} {w w' : World} {b i : Nat} {s : List UInt8}
theorem OwnB.lt (h : OwnB w b s) : b < w.heap.size := by
  obtain ⟨C, ty, lo, hi, h, _⟩ := h
  exact (Array.getElem?_eq_some_iff.1 h).1
theorem OwnB.le {M : List Nat} (h : OwnB w b s) (hl : Le M w w') (hb : b ∉ M) : OwnB w' b s := by
  have := h.lt
  obtain ⟨C, ty, lo, hi, h, h2⟩ := h
  exact ⟨C, ty, lo, hi, by rw [hl.block b this hb]; exact h, h2⟩
theorem OwnB.frm (h : OwnB w b s) (hl : Frm w w') : OwnB w' b s := h.le (M := []) hl.le (by simp)
theorem OwnB.sg (h : OwnB w b s) : Sg w (pb b) (bs s) := by
  obtain ⟨C, ty, lo, hi, h, h2, _⟩ := h
  refine .inr ⟨_, rfl, fun i hi' => ?_⟩
  have e : (⟨b, 0, none⟩ : Addr).add i = ⟨b, i, none⟩ := by unfold Addr.add; split <;> simp_all
  rw [e, cell_of_row w b i C ty _ h, ← h2]
  rw [List.getElem?_take_of_lt (by simpa using hi')]
  simp
theorem OwnB.im {M : List Nat} (h : OwnB w b s) (hb : b ∉ M) : Im M w (pb b) (bs s) := by
  rcases h.sg with hh | ⟨a, ha, h1⟩
  · exact .inl hh
  · obtain rfl := Option.some.inj ha
    exact .inr ⟨_, rfl, h1, h.lt, hb⟩
end
section
variable {P : Program} {n : Nat} {ds : Ctx} {ops : Array Oper} {Q : Exit → Ctx → Env → World → Prop} {rest : List Oper} {σ : GE} {w : World} {d : Nat} {ty t t' e : TypeId} {pos : String} {af : Array Edge} {x y : Operand} {zv : Value} {size bytes : Nat} {b i : Nat} {s : List UInt8}
end
end Go.Sv
namespace Go.Proofs.YthgbpgjpnaanlaaDoor
open Go Go.Sv Go.RowKit

def upperR (c : Nat) : Bool := decide (65 ≤ c) && decide (c ≤ 90)
def letterR (c : Nat) : Bool := upperR c || (decide (97 ≤ c) && decide (c ≤ 122))
def digitR (c : Nat) : Bool := decide (48 ≤ c) && decide (c ≤ 57)
def valueR (c : Nat) : Int := if digitR c then (c : Int) - 48 else if 97 ≤ c ∧ c ≤ 102 then (c : Int) - 97 + 10 else if 65 ≤ c ∧ c ≤ 70 then (c : Int) - 65 + 10 else -1
def hexR (c : Nat) : Bool := decide (0 ≤ valueR c)
def lowN (c : Nat) : Nat := if upperR c then c + 32 else c
def lowR (l : List UInt8) : List UInt8 := l.map fun c => UInt8.ofNat (lowN c.toNat)




















































































































































/-- the first i bytes are small -/
def lowTo (l : List UInt8) (i : Nat) : List UInt8 := lowR (l.take i) ++ l.drop i
end Go.Proofs.YthgbpgjpnaanlaaDoor

/-
  Texts mended: what that is; package sieveref01's Mend, walked.
-/
set_option linter.unusedSimpArgs false
set_option linter.unusedVariables false
set_option linter.unnecessarySimpa false
namespace Go.Proofs.YthgbpgjpnaanlaaDoor
open Go Go.Sv Go.RowKit

/-- a rune that is a character -/
def Good (r : Nat) : Prop := r < 1114112 ∧ ¬ (55296 ≤ r ∧ r ≤ 57343)
def runesN (l : List UInt8) : List Nat := (piecesR l).map fun x => x.r.toNat
/-- a text mended -/
def mendR (l : List UInt8) : List UInt8 := (runesN l).flatMap encR
def charR (r : Int) : Bool := decide (0 ≤ r ∧ r ≤ 1114111 ∧ (r < 55296 ∨ 57343 < r))
/-- a new slice of bytes -/
def NewB (w : World) (s : List UInt8) (v : Value) (w' : World) : Prop := Frm w w' ∧ ∃ q cc, v = .slice q s.length cc ∧ Row w' 1 q s.length cc (bs s) ∧ ∀ x ∈ rb q, w.heap.size ≤ x
end Go.Proofs.YthgbpgjpnaanlaaDoor

/-
  Package sieveref01: Bytes, Text, Runes, Mend.
-/
set_option linter.unusedSimpArgs false
set_option linter.unusedVariables false
set_option linter.unnecessarySimpa false
namespace Go.Proofs.YthgbpgjpnaanlaaDoor
open Go Go.Sv Go.RowKit

/-- runes as cells -/
def rs32 (rs : List Nat) : List Value := rs.map fun n : Nat => i32 n
/-- a new slice of runes -/
def NewR (w : World) (rs : List Nat) (v : Value) (w' : World) : Prop := Frm w w' ∧ ∃ q cc, v = .slice q rs.length cc ∧ Row w' 1 q rs.length cc (rs32 rs) ∧ ∀ x ∈ rb q, w.heap.size ≤ x
end Go.Proofs.YthgbpgjpnaanlaaDoor

/-
  Loops over functions; calls of function values.
-/
set_option linter.unusedSimpArgs false
set_option linter.unusedVariables false
set_option linter.unnecessarySimpa false
namespace Go.Sv
open Go Go.RowKit

/-- a loop's record -/
def LoopAt (w : World) (l : Nat) (r : Loop) : Prop := w.heap[l]? = some (.loop r)
theorem LoopAt.lt {w : World} {l : Nat} {r : Loop} (h : LoopAt w l r) : l < w.heap.size := (Array.getElem?_eq_some_iff.1 h).1
theorem LoopAt.le {w w' : World} {M : List Nat} {l : Nat} {r : Loop} (h : LoopAt w l r) (hl : Le M w w') (hm : l ∉ M) : LoopAt w' l r := (hl.block l h.lt hm).trans h
theorem LoopAt.frm {w w' : World} {l : Nat} {r : Loop} (h : LoopAt w l r) (hl : Frm w w') : LoopAt w' l r := h.le (M := []) hl.le (by simp)
/-- the block of a loop's deferred calls: there are none -/
def NoDef (w : World) (D : Nat) : Prop := w.heap[D]? = some (.deferred (some []))
theorem NoDef.lt {w : World} {D : Nat} (h : NoDef w D) : D < w.heap.size := (Array.getElem?_eq_some_iff.1 h).1
theorem NoDef.le {w w' : World} {M : List Nat} {D : Nat} (h : NoDef w D) (hl : Le M w w') (hm : D ∉ M) : NoDef w' D := (hl.block D h.lt hm).trans h
theorem NoDef.frm {w w' : World} {D : Nat} (h : NoDef w D) (hl : Frm w w') : NoDef w' D := h.le (M := []) hl.le (by simp)
theorem le_putObj (w : World) (l : Nat) (o : Obj) : Le [l] w (w.putObj l o) := ⟨rfl, rfl, rfl, by simp, fun k _ hk => World.putObj_heap_other (by simpa using hk)⟩

/-- yield, called with 'args': it answers a bool, and R holds then -/
def Yld (P : Program) (l : Nat) (args : List Value) (w : World) (R : Bool → World → Prop) : Prop :=
  ∃ r, LoopAt w l r ∧ args.toArray.size = r.params.size ∧ RoundIn Fence.wide 0 P l r.fn ((r.params.zip args.toArray).foldl (fun tmps (t, a) => tmps.setIfInBounds t a) r.tmps) r.assign r.body w fun e w' => ∃ b, e = .returned (.bool b) ∧ R b w'
theorem Yld.mono {P : Program} {l : Nat} {args : List Value} {w : World} {R R' : Bool → World → Prop} (h : Yld P l args w R) (hr : ∀ b w', R b w' → R' b w') : Yld P l args w R' := by
  obtain ⟨r, h1, h2, h3⟩ := h
  exact ⟨r, h1, h2, h3.mono fun _ _ ⟨b, he, hb⟩ => ⟨b, he, hr _ _ hb⟩⟩

theorem roundIn_fen {ro : Option Nat} {m n : Nat} {P : Program} {l : Nat} {f : FuncId} {tmps : Array Value} {assign body : Code} {w : World} {R : Ending → World → Prop} (h : RoundIn Fence.wide m P l f tmps assign body w R) : RoundIn (fen ro) n P l f tmps assign body w R := by
  refine ⟨fen_fn ro f, fun c cs _ => ?_⟩
  obtain ⟨e, w', hR, hs⟩ := h.2 c cs (room_wide _)
  cases ro <;> exact ⟨e, w', hR, hs⟩

section
variable {P : Program} {n : Nat} {ds : Ctx} {ops : Array Oper} {Q : Exit → Ctx → Env → World → Prop} {rest : List Oper} {σ : GE} {w : World} {v : Value} {d : Nat} {ty : TypeId} {pos : String} {af : Array Edge} {l : Nat} {xs : List Operand} {ats : Array TypeId} {x : Operand}
theorem run_call_yield {σ : Env} {dd : Option Tmp} {g : Option (Nat × Bool)} {r : Loop} {args : List Value} (hx : evl σ x = .func (.yield l) #[] #[]) (ha : xs.map (evl σ) = args) (hl : LoopAt w l r) (hs : args.toArray.size = r.params.size) :
    (execOp (evl σ) ⟨dd, .call ⟨.value x, xs.toArray, ats⟩, ty, pos, af, g⟩).run P w = .ok (.round l r.fn ((r.params.zip args.toArray).foldl (fun tmps (t, a) => tmps.setIfInBounds t a) r.tmps) r.assign r.body) w := by
  subst ha
  simp only [execOp, resolve, hx, Deferred.ofValue]
  simp only [Sem.run_bind, Sem.run_pure, Result.andThen_ok, invoke]
  have := run_yield (P := P) hl hs
  simpa using this
/-- a call of yield -/
theorem wlyield {args : List Value} {R : Bool → World → Prop} (hy : Yld P l args w R) (h : ∀ b w', R b w' → WL P n ds ops Q rest (real (updG σ d ⟨.bool b, true⟩)) w')
    (hx : evl (real σ) x = .func (.yield l) #[] #[] := by rfl) (ha : xs.map (evl (real σ)) = args := by first | rfl | exact am1 rfl | exact am2 rfl rfl) :
    WL P n ds ops Q (⟨some d, .call ⟨.value x, xs.toArray, ats⟩, ty, pos, af, none⟩ :: rest) (real σ) w := by
  obtain ⟨r, h1, h2, h3⟩ := hy
  refine WL_upon (by simp [Region.wanted]) fun hin K hK _ => ?_
  have hd := operIn_dst hin
  rw [run_call_yield hx ha h1 h2, Oper.uponIn_round]
  refine ⟨fun hx => (by rw [fen_depth] at hx; cases hx), roundIn_fen (m := 0) (h3.mono ?_)⟩
  rintro e w' ⟨b, rfl, hb⟩
  show K _ _
  rw [act_put hd]
  have := h b w' hb
  rw [← real_upd] at this
  exact hK _ _ this
/-- a call of a function value -/
theorem run_call_fv {σ : Env} {dd : Option Tmp} {g : Option (Nat × Bool)} {f : FuncId} [hf : Fnc P f] {first cap args : List Value} (hx : evl σ x = .func (.func f) ⟨first⟩ ⟨cap⟩) (ha : xs.map (evl σ) = args) :
    (execOp (evl σ) ⟨dd, .call ⟨.value x, xs.toArray, ats⟩, ty, pos, af, g⟩).run P w = .ok (.enter f (first ++ args ++ cap).toArray) w := by
  subst ha
  simp only [execOp, resolve, hx, Deferred.ofValue]
  simp only [Sem.run_bind, Sem.run_pure, Result.andThen_ok, invoke]
  have := run_callFunc (P := P) (f := f) (first ++ xs.map (evl σ) ++ cap).toArray w
  simpa using this
theorem wlcallv {f : FuncId} [hf : Fnc P f] {first cap args : List Value} {R : Value → World → Prop} (hc : CallsR P f (first ++ args ++ cap).toArray w R) (h : ∀ v w', R v w' → WL P n ds ops Q rest (real (updG σ d ⟨v, true⟩)) w')
    (hx : evl (real σ) x = .func (.func f) ⟨first⟩ ⟨cap⟩ := by rfl) (ha : xs.map (evl (real σ)) = args := by first | rfl | exact am1 rfl | exact am2 rfl rfl) :
    WL P n ds ops Q (⟨some d, .call ⟨.value x, xs.toArray, ats⟩, ty, pos, af, none⟩ :: rest) (real σ) w :=
  WL_enter (S := fun _ _ => False) (by simp [Region.wanted]) (run_call_fv hx ha) (Calls.mono hc fun _ _ h => .inl h) (fun v w' hR => by have := h v w' hR; rw [← real_upd] at this; exact this) fun _ _ h => h.elim
end

/-! ## the statement -/
/-- what a round leaves of the record -/
def rndP (rec : LoopState → Option Code → Loop) (l : Nat) (R : Bool → World → Prop) : Exit → Ctx → Env → World → Prop
  | .normal, _, _, w => LoopAt w l (rec .busy none) ∧ ∀ w', Le [l] w w' → LoopAt w' l (rec .ready none) → R true w'
  | .ret, _, _, w => LoopAt w l (rec .busy none) ∧ ∀ w', Le [l] w w' → LoopAt w' l (rec .done (some .ret)) → R false w'
  | .exit id, _, _, w => LoopAt w l (rec .busy none) ∧ ∀ w', Le [l] w w' → LoopAt w' l (rec .done (some (.exit id))) → R false w'
  | _, _, _, _ => False
/-- what follows the loop, by what a round left it for -/
def aftP (P : Program) (Q : Exit → Ctx → Env → World → Prop) (c : Ctx) (σ : Env) (w : World) : Option Code → Prop
  | none => Q .normal c σ w
  | some .ret => Q .ret c σ w
  | some (.exit id) => Q (.exit id) c σ w
  | some _ => False
section
variable {P : Program} {n : Nat} {ds : Ctx} {Q : Exit → Ctx → Env → World → Prop} {σ : GE} {w : World} {l D : Nat} {assign body : Code} {ps : List Tmp}
/-- the frame's slots with yield's arguments -/
def updZ (σ : Env) : List Tmp → List Value → Env
  | p :: ps, v :: vs => updZ (upd σ p v) ps vs
  | _, _ => σ
theorem zip_put (dd : List Deferred) : ∀ (ps : List Tmp) (vs : List Value) (σ : Env), ps.all (fun t => Nat.blt t n) = true →
    (ps.toArray.zip vs.toArray).foldl (fun tmps (t, a) => tmps.setIfInBounds t a) (act n dd σ).tmps = (act n dd (updZ σ ps vs)).tmps := by
  intro ps vs σ h
  rw [← Array.foldl_toList]
  have e : (ps.toArray.zip vs.toArray).toList = ps.zip vs := by simp
  rw [e]
  clear e
  induction ps generalizing vs σ with
  | nil => simp [updZ]
  | cons p ps ih =>
    cases vs with
    | nil => simp [updZ]
    | cons v vs =>
      simp only [List.all_cons, Bool.and_eq_true] at h
      simp only [List.zip_cons_cons, List.foldl_cons, updZ]
      have := act_put (ds := dd) (σ := σ) (d := some p) (v := v) (n := n) h.1
      have e2 : (act n dd σ).tmps.setIfInBounds p v = (act n dd (upd σ p v)).tmps := congrArg Act.tmps this
      rw [e2]
      exact ih vs (upd σ p v) h.2
def updZG (σ : GE) : List Tmp → List Value → GE
  | p :: ps, v :: vs => updZG (updG σ p ⟨v, true⟩) ps vs
  | _, _ => σ
theorem updZ_real : ∀ (ps : List Tmp) (vs : List Value) (σ : GE), updZ (real σ) ps vs = real (updZG σ ps vs)
  | [], _, σ => by simp [updZ, updZG]
  | _ :: _, [], σ => by simp [updZ, updZG]
  | p :: ps, v :: vs, σ => by
    simp only [updZ, updZG]
    rw [show upd (real σ) p v = real (updG σ p ⟨v, true⟩) from real_upd σ p ⟨v, true⟩]
    exact updZ_real ps vs _

/-- what the record of a loop is, but for how it stands -/
def recOf (P : Program) (n : Nat) (fn : FuncId) (dd : List Deferred) (σ : GE) (ps : List Tmp) (assign body : Code) (D : Nat) (st : LoopState) (pe : Option Code) : Loop :=
  { state := st, pending := pe, fn, tmps := (act n dd (real σ)).tmps, params := ps.toArray, assign, body, defers := D }
/-- a round, out of its code -/
theorem yld_of {fn : FuncId} {dd : List Deferred} {args : List Value} {R : Bool → World → Prop} (hl : LoopAt w l (recOf P n fn dd σ ps assign body D .ready none)) (hlen : args.length = ps.length) (hin : (ps.all (fun t => Nat.blt t n) && codeIn n true assign && codeIn n true body) = true)
    (h : WC P n ⟨[], some l⟩ assign (fun e c σ' w1 => match e with | .normal => LoopAt w1 l (recOf P n fn dd σ ps assign body D .ready none) ∧ ∀ w2, Le [l] w1 w2 → LoopAt w2 l (recOf P n fn dd σ ps assign body D .busy none) → WC P n c body (rndP (recOf P n fn dd σ ps assign body D) l R) σ' w2 | _ => False) (real (updZG σ ps args)) w) :
    Yld P l args w R := by
  simp only [Bool.and_eq_true] at hin
  obtain ⟨⟨hin1, hin2⟩, hin3⟩ := hin
  refine ⟨_, hl, by simpa [recOf] using hlen, ?_⟩
  have ez := zip_put (n := n) dd ps args (real σ) hin1
  have e0 : (recOf P n fn dd σ ps assign body D .ready none).params = ps.toArray := rfl
  have e1 : (recOf P n fn dd σ ps assign body D .ready none).tmps = (act n dd (real σ)).tmps := rfl
  rw [e0, e1, ez, updZ_real]
  refine roundIn_of_wpIn (F := Fence.wide) (n := 0) trivial ?_
  unfold WC at h
  refine wpIn_mono (h hin2) ?_
  rintro e a1 w1 ⟨d1, σ1, rfl, hq⟩
  cases e <;> try exact hq.elim
  obtain ⟨hl1, hb⟩ := hq
  refine ⟨_, run_beginRound hl1 rfl, ?_⟩
  have hb2 := hb _ (le_putObj w1 l _) (World.putObj_heap_same hl1.lt)
  unfold WC at hb2
  refine wpIn_mono (hb2 hin3) ?_
  rintro e a2 w3 ⟨d2, σ2, rfl, hq⟩
  cases e with
  | normal => exact ⟨_, _, run_endRound none hq.1, _, rfl, hq.2 _ (le_putObj _ _ _) (World.putObj_heap_same hq.1.lt)⟩
  | ret => exact ⟨_, _, run_endRound (some .ret) hq.1, _, rfl, hq.2 _ (le_putObj _ _ _) (World.putObj_heap_same hq.1.lt)⟩
  | exit id => exact ⟨_, _, run_endRound (some (.exit id)) hq.1, _, rfl, hq.2 _ (le_putObj _ _ _) (World.putObj_heap_same hq.1.lt)⟩
  | goto t => exact hq.elim
  | panic ch => exact hq.elim
  | outgrown => exact hq.elim

/-- a loop over a function: an outermost one -/
theorem wcrangef {g : Operand} {gf : FuncId} [hf : Fnc P gf] {cap : List Value} (hg : evl (real σ) g = .func (.func gf) #[] ⟨cap⟩) (hro : ds.ro = none)
    (hcall : ∀ fn l D w1, w.heap.size ≤ D → w.heap.size ≤ l → l ≠ D → Frm w w1 → LoopAt w1 l (recOf P n fn ds.ds σ ps assign body D .ready none) → NoDef w1 D →
      CallsR P gf ((.func (.yield l) #[] #[]) :: cap).toArray w1 fun _ w2 => ∃ st pe, st ≠ .busy ∧ LoopAt w2 l (recOf P n fn ds.ds σ ps assign body D st pe) ∧
        ∀ w3, Le [l] w2 w3 → aftP P Q ⟨{ target := .collected D, args := #[] } :: ds.ds, none⟩ (real σ) w3 pe) :
    WC P n ds (.rangeFunc g ps.toArray assign body) Q (real σ) w := by
  obtain ⟨dd, ro⟩ := ds
  dsimp only at hro hcall
  subst hro
  unfold WC
  intro hin
  simp only [codeIn, Bool.and_eq_true] at hin
  have hgin := hin.1.1.1
  refine wpIn_rangeFunc ?_
  intro fn _
  let w1 := (w.alloc (.deferred (some []))).alloc (.loop (recOf P n fn dd σ ps assign body w.heap.size .ready none))
  have hL : LoopAt w1 (w.heap.size + 1) (recOf P n fn dd σ ps assign body w.heap.size .ready none) := by
    have := World.alloc_heap_new (w.alloc (.deferred (some []))) (.loop (recOf P n fn dd σ ps assign body w.heap.size .ready none))
    rw [World.size_alloc] at this
    exact this
  have hF : Frm w w1 := (frm_alloc w _).trans (frm_alloc _ _)
  have hD : NoDef w1 w.heap.size := by
    have h0 := World.alloc_heap_new w (.deferred (some []))
    exact (Below.heap_alloc (w.alloc (.deferred (some []))) _ w.heap.size (by simp)).trans h0
  have hc := hcall fn (w.heap.size + 1) w.heap.size w1 (Nat.le_refl _) (by omega) (by omega) hF hL hD
  refine ⟨w.heap.size + 1, [{ target := .collected w.heap.size, args := #[] }], w1, { target := .fn (.func gf) ⟨cap⟩, args := #[.func (.yield (w.heap.size + 1)) #[] #[]] }, w1, gf, ((.func (.yield (w.heap.size + 1)) #[] #[]) :: cap).toArray, w1, ?_, ?_, ?_, ?_, ?_, ?_⟩
  · exact run_enterLoop_outer fn _ _ _ _
  · have : (act n dd (real σ)).eval g = .func (.func gf) #[] ⟨cap⟩ := by rw [act_eval hgin, hg]
    simp only [resolve, this, Deferred.ofValue]
    simp [Act.eval]
  · intro f' _; trivial
  · have := run_callFunc (P := P) (f := gf) ((.func (.yield (w.heap.size + 1)) #[] #[]) :: cap).toArray w1
    simpa [invoke] using this
  · intro h; simp [fen, Fence.wide] at h
  · refine callsIn_wide.2 (Calls.mono hc ?_)
    rintro e w2 ⟨v, rfl, st, pe, hst, hl2, hq⟩
    refine ⟨pe, _, run_endLoop hl2 hst, ?_⟩
    have hq2 := hq _ (le_putObj w2 (w.heap.size + 1) (.loop { (recOf P n fn dd σ ps assign body w.heap.size st pe) with state := .exhausted }))
    cases pe with
    | none => exact ⟨_, _, rfl, hq2⟩
    | some c =>
      cases c <;> try exact hq2.elim
      · exact wpIn_exit ⟨_, _, rfl, hq2⟩
      · exact wpIn_ret ⟨_, _, rfl, hq2⟩
end
section
variable {P : Program} {Q : Exit → Ctx → Env → World → Prop} {c : Ctx} {σ : Env} {w : World} {rec : LoopState → Option Code → Loop} {l : Nat} {R : Bool → World → Prop} {i : Nat}
theorem rnd_normal (hl : LoopAt w l (rec .busy none)) (h : ∀ w', Le [l] w w' → LoopAt w' l (rec .ready none) → R true w') : rndP rec l R .normal c σ w := ⟨hl, h⟩
theorem aft_none (h : Q .normal c σ w) : aftP P Q c σ w none := h
end
attribute [irreducible] rndP aftP
end Go.Sv

/-
  Package utf: All, Runes.
-/
set_option linter.unusedSimpArgs false
set_option linter.unusedVariables false
set_option linter.unnecessarySimpa false
namespace Go.Proofs.YthgbpgjpnaanlaaDoor
open Go Go.Sv Go.RowKit

/-- what All answers -/
def AllV (w : World) (l : List UInt8) (v : Value) (w' : World) : Prop :=
  Frm w w' ∧ ∃ b q c, v = .func (.func 132) #[] #[ptrAt (pb b) 0] ∧ Own w' b [.slice q l.length c] ∧ Im [] w' q (bs l) ∧ l.length ≤ c ∧ w.heap.size ≤ b ∧ ∀ x ∈ rb q, w.heap.size ≤ x
end Go.Proofs.YthgbpgjpnaanlaaDoor

/-
  Package utf: Runes, Mend.
-/
set_option linter.unusedSimpArgs false
set_option linter.unusedVariables false
set_option linter.unnecessarySimpa false
namespace Go.Proofs.YthgbpgjpnaanlaaDoor
open Go Go.Sv Go.RowKit

theorem Im.only {w : World} {p : Option Addr} {l : List Value} {M : List Nat} (h : Im [] w p l) (hM : ∀ b ∈ rb p, b < w.heap.size → b ∉ M) : Im M w p l := by
  rcases h with h | ⟨a, rfl, h1, h2, _⟩
  · exact .inl h
  · exact .inr ⟨a, rfl, h1, h2, hM _ (by simp [rb]) h2⟩

end Go.Proofs.YthgbpgjpnaanlaaDoor

/-
  Package utf: Mend.
-/
set_option linter.unusedSimpArgs false
set_option linter.unusedVariables false
set_option linter.unnecessarySimpa false
namespace Go.Proofs.YthgbpgjpnaanlaaDoor
open Go Go.Sv Go.RowKit

section
variable {P : Program} {w : World} {ty t t' e : TypeId} {pos : String} {af : Array Edge} {x : Operand} {p : Option Addr} {c : Nat}
end
section
variable {P : Program} {n : Nat} {ds : Ctx} {ops : Array Oper} {Q : Exit → Ctx → Env → World → Prop} {rest : List Oper} {σ : GE} {w : World} {d : Nat} {ty t t' e : TypeId} {pos : String} {af : Array Edge} {x : Operand}
end

end Go.Proofs.YthgbpgjpnaanlaaDoor

/-
  Runes as bytes, read again.
-/
set_option linter.unusedSimpArgs false
set_option linter.unusedVariables false
set_option linter.unnecessarySimpa false
namespace Go.Proofs.YthgbpgjpnaanlaaDoor
open Go Go.Sv Go.RowKit

end Go.Proofs.YthgbpgjpnaanlaaDoor

/-
  Package link: schemes; what is stripped.
-/
set_option linter.unusedSimpArgs false
set_option linter.unusedVariables false
set_option linter.unnecessarySimpa false
namespace Go.Sv
open Go Go.RowKit
section
variable {P : Program} {n : Nat} {ds : Ctx} {ops : Array Oper} {Q : Exit → Ctx → Env → World → Prop} {rest : List Oper} {σ : GE} {w : World} {d : Nat} {ty t e : TypeId} {pos : String} {af : Array Edge} {x y : Operand} {zv : Value} {size bytes c : Nat} {kl kc : IntKind}
/-- make of no elements, with room for c -/
theorem wlmake0 [hu : Und P t (.slice e)] [hi : Inf P e zv size bytes] (h : ∀ b w', w.heap.size ≤ b → Row w' size (pb b) 0 c [] → Frm w w' → WL P n ds ops Q rest (real (updG σ d ⟨.slice (pb b) 0 c, true⟩)) w')
    (hx : evl (real σ) x = .int kl 0 := by rfl) (hy : evl (real σ) y = .int kc c := by rfl) (hb : bytes * c ≤ 281474976710656 := by omega) (hc : c ≤ 9223372036854775807 := by omega) :
    WL P n ds ops Q (⟨some d, .makeSlice t x y, ty, pos, af, none⟩ :: rest) (real σ) w := by
  obtain ⟨i, h1, h2, h3, h4⟩ := inf_size (P := P) (t := e)
  subst h3 h4
  have hbI : (i.bytes : Int) * (c : Int) ≤ 281474976710656 := by
    have h : ((i.bytes * c : Nat) : Int) ≤ 281474976710656 := by omega
    rwa [Int.natCast_mul] at h
  have hr := run_make (P := P) w t e i zv hu.ok h1 h2 kl kc 0 c (Int.le_refl _) (by omega) hbI (by omega)
  simp only [Int.toNat_zero, Int.toNat_natCast] at hr
  refine wl (h w.heap.size (w.alloc (.cells (madeCells zv.cells (c * i.size)) e)) (Nat.le_refl _) ?_ (frm_alloc w _)) (Y.val ?_)
  · refine ⟨by simp, .inr ⟨_, 0, _, _, rfl, heap_alloc_new _ _, by omega, hc, by rw [size_madeCells]; omega, by simp⟩⟩
  · simp only [execOp, hx, hy, Sem.run_bind]
    rw [hr]
    rfl
end
end Go.Sv
namespace Go.Proofs.YthgbpgjpnaanlaaDoor
open Go Go.Sv Go.RowKit

def schB (c : Nat) : Bool := letterR c || digitR c || decide (c = 43 ∨ c = 45 ∨ c = 46)













/-- a scheme's end, behind its first byte -/
def schF : List UInt8 → Nat → Nat × Bool
  | [], _ => (0, false)
  | c :: t, i => if c.toNat = 58 then (i, true) else if schB c.toNat then schF t (i + 1) else (0, false)
def schemeR (l : List UInt8) : Nat × Bool := if l = [] ∨ letterR (at0 l 0) = false then (0, false) else schF (l.drop 1) 1
/-- what is left of runes behind leading blanks and controls -/
def cutL (rs : List Nat) : List Nat := rs.dropWhile fun r => decide (r ≤ 32)
def cutT (rs : List Nat) : List Nat := (cutL rs.reverse).reverse
def keepN (rs : List Nat) : List Nat := rs.filter fun r => decide (r ≠ 9 ∧ r ≠ 10 ∧ r ≠ 13)
def stripN (rs : List Nat) : List Nat := keepN (cutT (cutL rs))
def stripR (l : List UInt8) : List UInt8 := (stripN (runesN l)).flatMap encR
end Go.Proofs.YthgbpgjpnaanlaaDoor

/-
  Package link: Scheme, percent escapes.
-/
set_option linter.unusedSimpArgs false
set_option linter.unusedVariables false
set_option linter.unnecessarySimpa false
namespace Go.Sv
open Go Go.RowKit
end Go.Sv
namespace Go.Proofs.YthgbpgjpnaanlaaDoor
open Go Go.Sv Go.RowKit

/-- two hexadecimal digits ahead? -/
def codedR (l : List UInt8) (i : Nat) : Bool := decide (i + 2 < l.length) && hexR (at0 l (i + 1)) && hexR (at0 l (i + 2))































def codedS (t : List UInt8) : Bool := decide (1 < t.length) && hexR (at0 t 0) && hexR (at0 t 1)
def badB : List UInt8 := [34, 60, 62, 92, 94, 96, 123, 124, 125]
def escB (c : Nat) (coded : Bool) : Bool := decide (c ≤ 32) || decide (127 ≤ c) || decide (UInt8.ofNat c ∈ badB) || (decide (c = 37) && !coded)
def digs : List UInt8 := [48, 49, 50, 51, 52, 53, 54, 55, 56, 57, 65, 66, 67, 68, 69, 70]
def pct (c : Nat) : List UInt8 := [37, digs[c / 16]?.getD 0, digs[c % 16]?.getD 0]
def encC (c : Nat) (coded : Bool) : List UInt8 := if escB c coded then pct c else [UInt8.ofNat c]
def encL : List UInt8 → List UInt8
  | [] => []
  | c :: t => encC c.toNat (codedS t) ++ encL t
def encodeR (s : List UInt8) : List UInt8 := encL (mendR s)
end Go.Proofs.YthgbpgjpnaanlaaDoor

/-
  Package link: without percent escapes.
-/
set_option linter.unusedSimpArgs false
set_option linter.unusedVariables false
set_option linter.unnecessarySimpa false
namespace Go.Sv
open Go Go.RowKit
section
variable {P : Program} {σ : GE} {w0 : World} {d : Nat} {ty t e : TypeId} {pos : String} {af : Array Edge} {x : Operand} {zv v : Value} {bytes : Nat} {kk : IntKind} {a : Int} {K : Env → World → Prop}
end
end Go.Sv
namespace Go.Proofs.YthgbpgjpnaanlaaDoor
open Go Go.Sv Go.RowKit

def valN (c : Nat) : Nat := (valueR c).toNat
def decL : List UInt8 → List UInt8
  | [] => []
  | c :: t => if c = 37 ∧ codedS t = true then UInt8.ofNat (16 * valN (at0 t 0) + valN (at0 t 1)) :: decL (t.drop 2) else c :: decL t
termination_by l => l.length
decreasing_by
  · simp; omega
  · simp
def decodeR (s : List UInt8) : List UInt8 := mendR (decL (mendR s))
end Go.Proofs.YthgbpgjpnaanlaaDoor

/-
  Package sieveref12: Encode, Decode.
-/
set_option linter.unusedSimpArgs false
set_option linter.unusedVariables false
set_option linter.unnecessarySimpa false
namespace Go.Sv
open Go Go.RowKit
section
variable {P : Program} {n : Nat} {ds : Ctx} {ops : Array Oper} {Q : Exit → Ctx → Env → World → Prop} {rest : List Oper} {σ : GE} {w : World} {d : Nat} {ty t t' e : TypeId} {pos : String} {af : Array Edge} {x : Operand} {zv : Value} {bytes : Nat}
def enum (vs : List Value) (j : Nat) : List (Nat × Value) := (vs.zipIdx j).map fun p => (p.2, p.1)
theorem fill_enum : ∀ (vs : List Value) (j : Nat) (z : List Value), (∀ v ∈ vs, v.cells = #[v]) → j + vs.length ≤ z.length →
    Instr.fill (fun i => some (i * 1, 1)) z.toArray (enum vs j) = some (z.take j ++ vs ++ z.drop (j + vs.length)).toArray
  | [], j, z, _, _ => by simp [enum, Instr.fill]
  | v :: vs, j, z, hv, hj => by
    have h1 := hv v List.mem_cons_self
    simp only [List.length_cons] at hj
    have ih := fill_enum vs (j + 1) (z.set j v) (fun u hu => hv u (List.mem_cons_of_mem _ hu)) (by simp; omega)
    simp only [enum, List.zipIdx_cons, List.map_cons, Instr.fill]
    rw [h1]
    simp only [List.size_toArray, List.length_cons, List.length_nil, Nat.mul_one]
    rw [if_neg (by simp; omega)]
    have e : (#[v] : Array Value).zipIdx.foldl (fun cs (x : Value × Nat) => match x with | (c, k) => cs.setIfInBounds (j + k) c) z.toArray = (z.set j v).toArray := by
      simp
    rw [e]
    rw [enum] at ih
    simp only [Nat.mul_one] at ih
    rw [ih]
    congr 2
    have hjl : j < z.length := by omega
    rw [List.take_succ_eq_append_getElem (by simpa using hjl), List.take_set_of_le (Nat.le_refl _), List.drop_set_of_lt (by omega)]
    simp only [List.getElem_set_self, List.append_assoc, List.cons_append, List.nil_append, List.length_cons]
    rw [show j + 1 + vs.length = j + (vs.length + 1) from by omega]
end
end Go.Sv
namespace Go.Proofs.YthgbpgjpnaanlaaDoor
open Go Go.Sv Go.RowKit

end Go.Proofs.YthgbpgjpnaanlaaDoor

/-
  Slices written out of elements of many cells; regions that draw their order, by an invariant of the whole state.
-/
set_option linter.unusedSimpArgs false
set_option linter.unusedVariables false
set_option linter.unnecessarySimpa false
namespace Go.Sv
open Go Go.RowKit
theorem fill_rows (size : Nat) : ∀ (vs : List (List Value)) (j : Nat) (z : List Value), (∀ v ∈ vs, v.length = size) → (j + vs.length) * size ≤ z.length →
    Instr.fill (fun i => some (i * size, size)) z.toArray (enum (vs.map fun l => .agg l.toArray) j) = some (z.take (j * size) ++ vs.flatten ++ z.drop ((j + vs.length) * size)).toArray
  | [], j, z, _, _ => by simp [enum, Instr.fill]
  | v :: vs, j, z, hv, hj => by
    have h1 := hv v List.mem_cons_self
    simp only [List.length_cons] at hj
    have hj1 : (j + 1 + vs.length) * size ≤ z.length := by rw [show j + 1 + vs.length = j + (vs.length + 1) from by omega]; exact hj
    have hle : j * size + size ≤ z.length := by
      refine Nat.le_trans ?_ hj1
      rw [← Nat.succ_mul]
      exact Nat.mul_le_mul_right _ (by omega)
    have hlen : (setSeg z (j * size) v).length = z.length := by simp only [setSeg, List.length_append, List.length_take, List.length_drop, h1]; omega
    have ih := fill_rows size vs (j + 1) (setSeg z (j * size) v) (fun u hu => hv u (List.mem_cons_of_mem _ hu)) (by rw [hlen]; exact hj1)
    simp only [enum, List.map_cons, List.zipIdx_cons, Instr.fill]
    have hu : (Value.agg v.toArray).cells = v.toArray := rfl
    generalize Value.agg v.toArray = u at hu
    have hcond : ¬ ((u.cells.size ≠ size || j * size + u.cells.size > z.toArray.size) = true) := by simp [hu, h1]; omega
    simp only [hcond, if_false]
    have hf := foldl_setSeg (j * size) v 0 z.toArray (by simp [h1]; omega)
    have hf2 : u.cells.zipIdx.foldl (fun cs (x : Value × Nat) => cs.setIfInBounds (j * size + x.2) x.1) z.toArray = (setSeg z (j * size) v).toArray := by
      rw [hu, ← Array.foldl_toList]
      simpa [Array.toList_zipIdx] using hf
    rw [show (fun cs (x : Value × Nat) => match x with | (c, k) => cs.setIfInBounds (j * size + k) c) = (fun (cs : Array Value) (x : Value × Nat) => cs.setIfInBounds (j * size + x.2) x.1) from rfl, hf2]
    rw [enum] at ih
    rw [ih]
    congr 1
    have e1 : (setSeg z (j * size) v).take ((j + 1) * size) = z.take (j * size) ++ v := by
      simp only [setSeg]
      rw [Nat.succ_mul, List.take_left' (by simp only [List.length_append, List.length_take, h1]; omega)]
    have e2 : (setSeg z (j * size) v).drop ((j + 1 + vs.length) * size) = z.drop ((j + (vs.length + 1)) * size) := by
      simp only [setSeg, h1]
      rw [List.drop_append, List.drop_eq_nil_of_le (by simp only [List.length_append, List.length_take, h1]; rw [Nat.min_eq_left (by omega), ← Nat.succ_mul]; exact Nat.mul_le_mul_right _ (by omega)), List.nil_append, List.drop_drop]
      congr 1
      simp only [List.length_append, List.length_take, h1]
      have : (j + 1 + vs.length) * size = j * size + size + vs.length * size := by rw [Nat.add_mul, Nat.succ_mul]
      have h2 : (j + (vs.length + 1)) * size = j * size + size + vs.length * size := by rw [← Nat.add_assoc, Nat.add_mul, Nat.add_mul]; omega
      rw [Nat.min_eq_left (by omega), this, h2]
      omega
    rw [e1, e2]
    simp
section
variable {P : Program} {n : Nat} {ds : Ctx} {ops : Array Oper} {Q : Exit → Ctx → Env → World → Prop} {rest : List Oper} {σ : GE} {w : World} {d : Nat} {ty t t' e : TypeId} {pos : String} {af : Array Edge} {x : Operand} {zv : Value} {size bytes : Nat}
/-- a slice written out, of structs -/
theorem wlbsr [hu : Und P t (.slice e)] [hi : Inf P e zv size bytes] {ps : List (Nat × Operand)} (vs : List (List Value)) (k : Nat) (h : ∀ b w', w.heap.size ≤ b → Own w' b vs.flatten → Frm w w' → WL P n ds ops Q rest (real (updG σ d ⟨.slice (pb b) k k, true⟩)) w')
    (hps : ps.map (fun p => (p.1, evl (real σ) p.2)) = enum (vs.map fun l => .agg l.toArray) 0 := by rfl) (hk : vs.length = k := by rfl) (h1 : ∀ v ∈ vs, v.length = size := by simp) (hz : zv.cells.size = size := by rfl) (hk1 : k * size ≤ 16777216 := by decide) (hk0 : k * size ≠ 0 := by decide) :
    WL P n ds ops Q (⟨some d, .buildSlice t k ps.toArray, ty, pos, af, none⟩ :: rest) (real σ) w := by
  subst hk
  have hfl : ∀ l : List (List Value), (∀ v ∈ l, v.length = size) → l.flatten.length = l.length * size := by
    intro l
    induction l with
    | nil => simp
    | cons v l ih => intro h; simp only [List.flatten_cons, List.length_append, List.length_cons, Nat.succ_mul]; rw [h v List.mem_cons_self, ih fun u hu => h u (List.mem_cons_of_mem _ hu)]; omega
  refine wl (h w.heap.size (w.alloc (.cells vs.flatten.toArray e)) (Nat.le_refl _) (by have := own_alloc w vs.flatten.toArray e; simpa using this) (frm_alloc _ _)) (Y.val ?_)
  have hf := fill_rows size vs 0 ((Array.range (vs.length * size)).map (zv.cells[· % zv.cells.size]!)).toList h1 (by simp)
  have hpa : (ps.toArray.map fun (x : Nat × Operand) => match x with | (i, x) => (i, evl (real σ) x)).toList = enum (vs.map fun l => .agg l.toArray) 0 := by rw [← hps]; simp
  simp only [execOp, Instr.buildSlice, Sem.run_bind, underlying, run_program, Result.andThen_ok, hu.ok, Sem.run_pure, run_sizeOf (P := P) (t := e)]
  rw [if_neg (by omega), if_neg hk0]
  simp only [Sem.run_bind, Sem.run_pure, Result.andThen_ok, run_zeroValue (P := P) (t := e)]
  rw [hpa]
  simp only [Array.toArray_toList, Nat.zero_mul, Nat.zero_add] at hf
  rw [hf]
  have hz0 : List.drop (vs.length * size) (List.map (fun x => zv.cells[x % zv.cells.size]!) (List.range (vs.length * size))) = [] := List.drop_eq_nil_of_le (by simp)
  simp [newRow, hz0]
end

/-! ## Regions that draw their order, by an invariant -/
def fwdB (ops : Array Oper) : Bool := (List.range ops.size).all fun j => match ops[j]? with
  | some o => o.after.all fun e => !Region.binds .any e || decide (e.on < j)
  | none => true
theorem ready_of_fwd {ops : Array Oper} (hf : fwdB ops = true) {listed : Array Bool} (hsz : listed.size = ops.size) (hr : Region.ready .any ops listed = []) : ∀ k, k < ops.size → fl listed k = true := by
  intro k
  induction k using Nat.strongRecOn with
  | _ k ih =>
    intro hk
    cases hL : fl listed k with
    | true => rfl
    | false =>
      exfalso
      have hmem : k ∈ Region.ready .any ops listed := by
        refine mem_ready.2 ⟨?_, ops[k], by simp [hk], ?_⟩
        · simp only [fl, Array.getD_eq_getD_getElem?, show k < listed.size from by omega, Array.getElem?_eq_getElem, Option.getD_some] at hL ⊢
          exact hL
        · intro e he hb
          simp only [fwdB, List.all_eq_true, List.mem_range] at hf
          have h1 := hf k hk
          simp only [hk, Array.getElem?_eq_getElem] at h1
          have h2 := Array.all_eq_true_iff_forall_mem.1 h1 e he
          simp only [hb, Bool.not_true, Bool.false_or, decide_eq_true_eq] at h2
          exact ih e.on h2 (by omega)
      rw [hr] at hmem
      cases hmem
/-- what comes of an operation, whatever it yields -/
def comes (P : Program) (T : Value → World → Prop) : Result Next → Prop
  | .ok (.value u) w' => T u w'
  | .ok .skip w' => T undef w'
  | .ok (.enter f args) w' => Calls P f args w' (fun e w'' => ∃ v, e = .returned v ∧ T v w'')
  | _ => False
def StepI (P : Program) (ops : Array Oper) (S : (Nat → Bool) → Env → World → Prop) (k : Nat) (o : Oper) : Prop := ∀ L σ w, Up ops o k L → S L σ w →
  (Region.wanted o (yl ops σ) = true ∧ comes P (fun v w' => S (on L k) (updO σ o.dst v) w') ((execOp (evl σ) o).run P w)) ∨ (Region.wanted o (yl ops σ) = false ∧ S (on L k) (updO σ o.dst undef) w)
def StepsI (P : Program) (ops : Array Oper) (S : (Nat → Bool) → Env → World → Prop) : Nat → List Oper → Prop
  | _, [] => True
  | k, o :: l => StepI P ops S k o ∧ StepsI P ops S (k + 1) l
theorem stepsI_get {P : Program} {ops : Array Oper} {S : (Nat → Bool) → Env → World → Prop} : ∀ {l : List Oper} {k : Nat}, StepsI P ops S k l → ∀ j o, l[j]? = some o → StepI P ops S (k + j) o
  | [], _, _, j, o, h => by simp at h
  | x :: l, k, hs, 0, o, h => by simp only [List.getElem?_cons_zero, Option.some.injEq] at h; subst h; exact hs.1
  | x :: l, k, hs, j + 1, o, h => by
    have := stepsI_get hs.2 j o (by simpa using h)
    rwa [show k + 1 + j = k + (j + 1) from by omega] at this
section
variable {P : Program} {n : Nat} {ds : Ctx} {Q : Exit → Ctx → Env → World → Prop} {S : (Nat → Bool) → Env → World → Prop} {σ : Env} {w : World}
theorem comes_of_Y {o : Oper} {v : Value} {w w' : World} {T : Value → World → Prop} (hy : Y P σ o w v w') (hT : T v w') : comes P T ((execOp (evl σ) o).run P w) := by
  unfold Y at hy
  rcases hy with hy | ⟨hy, rfl⟩
  · rw [hy]; exact hT
  · rw [hy]; exact hT
end
end Go.Sv

/-
  Packages names and sieveref04: which names are in the set of void elements; texts parted by blanks.
-/
set_option linter.unusedSimpArgs false
set_option linter.unusedVariables false
set_option linter.unnecessarySimpa false
namespace Go.Proofs.YthgbpgjpnaanlaaDoor
open Go Go.Sv Go.RowKit

def strs (l : List (List UInt8)) : List Value := l.map fun s => str s
theorem strs_len (l : List (List UInt8)) : (strs l).length = l.length := by simp [strs]
theorem strs_at {l : List (List UInt8)} {i : Nat} {x : List UInt8} (h : l[i]? = some x) : (strs l)[i]? = some (str x) := by simp [strs, h]
theorem strs_get {l : List (List UInt8)} {i : Nat} (h : i < l.length) : (strs l)[i]? = some (str l[i]) := by simp [strs, h]
theorem strs_app (l m : List (List UInt8)) : strs (l ++ m) = strs l ++ strs m := by simp [strs]
theorem strs_snoc (l : List (List UInt8)) (x : List UInt8) : strs l ++ [str x] = strs (l ++ [x]) := (strs_app l [x]).symm
/-- the table of blanks holds what its initialiser lays -/
def Asc (w : World) : Prop := Lib.TabIs Tryd.prog w "strings.asciiSpace" .u8 Lib.asciiSpaceTab
theorem gAsc : Tryd.prog.globalNamed "strings.asciiSpace" = some 0 := by kernel_rfl
theorem Asc.frm {w w' : World} (h : Asc w) (hf : Frm w w') : Asc w' := by
  unfold Asc Lib.TabIs World.var? at h ⊢
  rw [gAsc] at h ⊢
  simp only [Option.bind_some] at h ⊢
  have hlt : 0 < w.heap.size := by
    rcases Nat.lt_or_ge 0 w.heap.size with h' | h'
    · exact h'
    · rw [Array.getElem?_eq_none h'] at h; cases h
  rw [hf.block _ hlt]
  exact h

/-! ## sieveref04: Fields -/
def blkR (c : UInt8) : Bool := decide (c = 9 ∨ c = 10 ∨ c = 12 ∨ c = 32)
def fgo : List UInt8 → List UInt8 → List (List UInt8)
  | cur, [] => if cur = [] then [] else [cur]
  | cur, b :: l => if blkR b then (if cur = [] then fgo [] l else cur :: fgo [] l) else fgo (cur ++ [b]) l
def fieldsR (s : List UInt8) : List (List UInt8) := fgo [] s
/-! ## the sets -/
def voidL : List (List UInt8) := fieldsR [97, 114, 101, 97, 32, 98, 97, 115, 101, 32, 98, 114, 32, 99, 111, 108, 32, 101, 109, 98, 101, 100, 32, 104, 114, 32, 105, 109, 103, 32, 105, 110, 112, 117, 116, 32, 108, 105, 110, 107, 32, 109, 101, 116, 97, 32, 115, 111, 117, 114, 99, 101, 32, 116, 114, 97, 99, 107, 32, 119, 98, 114]
def voidT : List UInt8 := [97, 114, 101, 97, 32, 98, 97, 115, 101, 32, 98, 114, 32, 99, 111, 108, 32, 101, 109, 98, 101, 100, 32, 104, 114, 32, 105, 109, 103, 32, 105, 110, 112, 117, 116, 32, 108, 105, 110, 107, 32, 109, 101, 116, 97, 32, 115, 111, 117, 114, 99, 101, 32, 116, 114, 97, 99, 107, 32, 119, 98, 114]
/-- is a name a void element's? -/
def voidR (n : List UInt8) : Bool := decide (n ∈ voidL)
theorem voidL_len : voidL.length = 13 := by decide
theorem void_fields : Lib.fields (voidT ++ [32]) = voidL := by decide +kernel
theorem isSet_ok (k : Nat) (hk : k < 16) (w : World) : PureC Tryd.prog 87 #[int k] w (.bool true) := by
  refine enter (l := [int k]) Tryd.func87 rfl Tryd.ntmps87 (by kernel_rfl) rfl ?_
  refine sgo ?_
  (first | refine fp1 (.inl rfl) rfl rfl ?_ | refine fp2 (.inl rfl) rfl rfl rfl ?_ | refine fp3 (.inl rfl) rfl rfl rfl rfl ?_ | refine fp0 (.inr rfl) rfl ?_ | refine fp0 (.inl rfl) rfl ?_ | refine fp1 (.inr rfl) rfl rfl ?_); refine ⟨?_, by (first | exact Frm.refl _ | assumption | exact Go.Sv.Sep.frm (by assumption) | (refine Frm.trans ?_ (by assumption); first | exact Frm.refl _ | assumption))⟩; (try simp only [realB, rv_true, Nat.reduceBEq, cond_true, cond_false, entG, real_lif, updGL])
  congr 1
  simp only [pkb_and, Bool.and_eq_true, decide_eq_true_eq]
  omega
end Go.Proofs.YthgbpgjpnaanlaaDoor

/-
  Package names: the sets' names.
-/
set_option linter.unusedSimpArgs false
set_option linter.unusedVariables false
set_option linter.unnecessarySimpa false
namespace Go.Proofs.YthgbpgjpnaanlaaDoor
open Go Go.Sv Go.RowKit
set_option maxHeartbeats 4000000 in
set_option maxRecDepth 100000 in
/-- the sets' names -/
theorem lists_ok (w : World) : CallsR Tryd.prog 89 #[] w fun v w' => Frm w w' ∧ ∃ vs : Array Value, v = .agg vs ∧ vs[0]? = some (str (voidT ++ [32])) := by
  refine enter (l := []) Tryd.func89 rfl Tryd.ntmps89 (by kernel_rfl) rfl ?_
  have hS := Sep.start w
  refine sgo ?_
  refine salloc hS fun b0 w0 hS => ?_
  refine sgo ?_
  refine salloc hS fun b1 w1 hS => ?_
  refine sgo ?_
  replace hS : Sep w w1 [pOwn b1 (strs (List.replicate 16 [])), pOwn b0 (strs (List.replicate 16 []))] := hS
  iterate 15 (refine sst_str hS 0 fun w2 hS => ?_; refine sgo ?_)
  refine sst_str hS 0 fun w2 hS => ?_
  obtain ⟨L, hlen, h1, h0, hS⟩ : ∃ L : List Value, L.length = 16 ∧ (L.all fun c => c.oneCell') = true ∧ L[0]? = some (str (voidT ++ [32])) ∧ Sep w w2 [pOwn b1 L, pOwn b0 (strs (List.replicate 16 []))] := ⟨_, by simp [strs], rfl, rfl, hS⟩
  refine sgo ?_
  refine ssta (vs := L) hS 1 (fun w3 hS => ?_) (hy := by rw [show (Value.agg ⟨L⟩) = .agg ⟨(L.drop 0).take 16⟩ from by rw [List.drop_zero, ← hlen, List.take_length]]; rfl) (hv := ⟨hlen, rfl⟩) (h1 := h1)
  refine sgo ?_
  have ho := hS.own 1 rfl
  refine fpc (l := L) (zv := .agg ⟨strs (List.replicate 16 [])⟩) (.inl rfl) rfl rfl rfl ho (hi := by rw [hlen]; infer_instance) ⟨hS.frm, _, rfl, by simpa using h0⟩
end Go.Proofs.YthgbpgjpnaanlaaDoor

/-
  Packages names and sieveref04: In, of the void elements.
-/
set_option linter.unusedSimpArgs false
set_option linter.unusedVariables false
set_option linter.unnecessarySimpa false
namespace Go.Proofs.YthgbpgjpnaanlaaDoor
open Go Go.Sv Go.RowKit

/-- strings.Fields, of ASCII -/
theorem strFields_ok (s : List UInt8) (hb : s.length ≤ 1048576) (ha : s.all (fun c => decide (c.toNat < 128)) = true) (w : World) (hA : Asc w) :
    CallsR Tryd.prog 88 #[str s] w fun v w' => ∃ b, v = .slice (pb b) (Lib.fields s).length (Lib.fields s).length ∧ Sep w w' [pOwn b (strs (Lib.fields s))] := by
  refine Calls.mono (Tryd.strings_Fields ⟨s.toArray⟩ w (by rw [ByteArray.size]; simp; omega) (fun j b hb => ?_) hA) ?_
  · have hm := List.mem_of_getElem? hb
    have := List.all_eq_true.1 ha b (by simpa using hm)
    simpa using this
  · rintro e w' ⟨rfl, rfl⟩
    refine ⟨_, rfl, w.heap.size, rfl, ?_⟩
    refine (Sep.start w).push (frm_alloc w _) (own_alloc w _ _) (by simp [pOwn])
theorem mem_at {α : Type} {l : List α} {x : α} (h : ∀ i : Nat, (hi : i < l.length) → l[i] ≠ x) : x ∉ l := by
  intro hm
  obtain ⟨i, hi, e⟩ := List.mem_iff_getElem.1 hm
  exact h i hi e
set_option maxHeartbeats 1000000 in
theorem in0_ok (n : List UInt8) (w : World) (hA : Asc w) : PureC Tryd.prog 58 #[str n, int 0] w (.bool (voidR n)) := by
  refine enter (l := [str n, int 0]) Tryd.func58 rfl Tryd.ntmps58 (by kernel_rfl) rfl ?_
  refine sgo ?_
  refine wlpure (isSet_ok 0 (by decide) _) fun w1 hf1 => ?_
  refine sgo ?_
  refine wlcall (lists_ok w1) ?_
  rintro _ w2 ⟨hf2, vs, rfl, h0⟩
  refine sgo ?_
  refine wlcall (strFields_ok (voidT ++ [32]) (by decide) (by decide) w2 ((hA.frm hf1).frm hf2)) ?_
  rintro _ w3 ⟨b, rfl, hS⟩
  rw [void_fields] at hS ⊢
  have hf := hf1.trans hf2
  replace hS : Sep w w3 [pOwn b (strs voidL)] := ⟨hf.trans hS.frm, hS.ok, fun c hc x hx => Nat.le_trans hf.size (hS.low c hc x hx), hS.apart⟩
  refine sgo ?_
  refine wcloop (X := Nat) (fun i => [(0, str n), (13, .slice (pb b) voidL.length voidL.length), (14, int voidL.length), (15, int i)])
    (fun i wr => i ≤ voidL.length ∧ (∀ j, (hj : j < voidL.length) → j < i → voidL[j] ≠ n) ∧ wr = w3) (fun i => voidL.length - i) 0 ⟨rfl, rfl, rfl, rfl, trivial⟩ ⟨Nat.zero_le _, fun _ _ h => absurd h (by omega), rfl⟩ ?_
  rintro i wr ρ ⟨hil, hj, rfl⟩
  refine sgo ?_
  (show WC _ _ _ _ _ _ _; first | refine WC_dec rfl (fun hc => ?_) (fun hc => ?_) | refine WC_cond rfl (fun hc => ?_) (fun hc => ?_))
  · have hlt : i < voidL.length := by omega
    have hvl := voidL_len
    have hg := strs_get hlt
    generalize hx : voidL[i] = x at *
    clear hc
    refine sgo ?_
    (show WC _ _ _ _ _ _ _; first | refine WC_dec rfl (fun hc => ?_) (fun hc => ?_) | refine WC_cond rfl (fun hc => ?_) (fun hc => ?_))
    · refine sgo ?_
      (first | refine fp1 (.inl rfl) rfl rfl ?_ | refine fp2 (.inl rfl) rfl rfl rfl ?_ | refine fp3 (.inl rfl) rfl rfl rfl rfl ?_ | refine fp0 (.inr rfl) rfl ?_ | refine fp0 (.inl rfl) rfl ?_ | refine fp1 (.inr rfl) rfl rfl ?_); refine ⟨?_, by (first | exact Frm.refl _ | assumption | exact Go.Sv.Sep.frm (by assumption) | (refine Frm.trans ?_ (by assumption); first | exact Frm.refl _ | assumption))⟩; (try simp only [realB, rv_true, Nat.reduceBEq, cond_true, cond_false, entG, real_lif, updGL])
      rw [voidR, decide_eq_true]
      rw [← hc, ← hx]; exact List.getElem_mem hlt
    · refine sgo ?_
      refine ⟨i + 1, ⟨rfl, rfl, rfl, rfl, trivial⟩, ⟨hlt, fun j hj' hji => ?_, rfl⟩, (by (try dsimp only); omega)⟩
      rcases Nat.lt_or_ge j i with h | h
      · exact hj j hj' h
      · obtain rfl : j = i := by omega
        rw [hx]; exact hc
  · refine sgo ?_
    (first | refine fp1 (.inl rfl) rfl rfl ?_ | refine fp2 (.inl rfl) rfl rfl rfl ?_ | refine fp3 (.inl rfl) rfl rfl rfl rfl ?_ | refine fp0 (.inr rfl) rfl ?_ | refine fp0 (.inl rfl) rfl ?_ | refine fp1 (.inr rfl) rfl rfl ?_); refine ⟨?_, by (first | exact Frm.refl _ | assumption | exact Go.Sv.Sep.frm (by assumption) | (refine Frm.trans ?_ (by assumption); first | exact Frm.refl _ | assumption))⟩; (try simp only [realB, rv_true, Nat.reduceBEq, cond_true, cond_false, entG, real_lif, updGL])
    rw [voidR, decide_eq_false]
    exact mem_at fun j hj' => hj j hj' (by omega)
end Go.Proofs.YthgbpgjpnaanlaaDoor

/-
  Packages event and sieveref18: which events may be.
-/
set_option linter.unusedSimpArgs false
set_option linter.unusedVariables false
set_option linter.unnecessarySimpa false
namespace Go.Sv
open Go Go.RowKit
section
variable {P : Program} {n : Nat} {ds : Ctx} {ops : Array Oper} {Q : Exit → Ctx → Env → World → Prop} {rest : List Oper} {σ : GE} {w : World} {d : Nat} {ty t : TypeId} {pos : String} {af : Array Edge} {zv : Value} {size bytes : Nat} {j dj : Nat} {want b c : Bool}
theorem bm2 {σ : Env} {x y : Operand} {v u : Value} {i k : Nat} (h : evl σ x = v) (h2 : evl σ y = u) : [(i, x), (k, y)].map (fun p => (p.1, evl σ p.2)) = [(i, v), (k, u)] := by simp [h, h2]
/-- a guarded literal of a struct -/
theorem wlgbuildv {pl : List (Nat × Nat)} {ps : List (Nat × Operand)} {vals : List (Nat × Value)} {cells : List Value} [hf : Flds P t pl] [hi : Inf P t zv size bytes]
    (hv : (b && (c == want)) = true → ps.map (fun p => (p.1, evl (real σ) p.2)) = vals)
    (h : WL P n ds ops Q rest (real (updG σ d ⟨.agg cells.toArray, b && (c == want)⟩)) w)
    (hc : fillL pl zv.cells.toList vals = some cells := by
      simp [Go.Sv.fillL, Go.Sv.setSeg, Go.Value.cells]
      first | done | rfl)
    (hj : (ops[j]?).bind (·.dst) = some dj := by rfl) (hσ : σ dj = ⟨.bool c, b⟩ := by rfl) :
    WL P n ds ops Q (⟨some d, .build t ps.toArray, ty, pos, af, some (j, want)⟩ :: rest) (real σ) w :=
  wlg h hj hσ fun hg => y_build (by rw [hv hg]; exact hc)
end
end Go.Sv
namespace Go.Proofs.YthgbpgjpnaanlaaDoor
open Go Go.Sv Go.RowKit

/-- may an event be? -/
def evR (e : Ev) : Bool :=
  if e.kind = 0 then !decide (e.text = []) && validR e.text && decide (e.name = []) && decide (e.attrs.length = 0)
  else if e.kind = 1 then decide (e.text = []) && mayR e.start && !voidR e.name
  else if e.kind = 3 then decide (e.text = []) && mayR e.start && voidR e.name
  else if e.kind = 2 then decide (e.text = []) && decide (e.attrs.length = 0) && mayR e.close
  else false

set_option maxHeartbeats 1000000 in
theorem evStart_ok (e : Ev) (p : Option Addr) (c : Nat) (hs : e.small) (w : World) (hi : Im [] w p (e.attrs.flatMap At.cells)) :
    PureC Tryd.prog 57 #[.agg ⟨e.cells p c⟩] w (.bool (mayR e.start)) := by
  obtain ⟨k, nm, tx, es⟩ := e
  refine enter (l := [.agg ⟨Ev.cells ⟨k, nm, tx, es⟩ p c⟩]) Tryd.func57 rfl Tryd.ntmps57 (by kernel_rfl) rfl ?_
  have hS := Sep.start w
  refine sgo ?_
  refine sbox (v := .agg ⟨Ev.cells ⟨k, nm, tx, es⟩ p c⟩) hS fun b w1 hS => ?_
  replace hS : Sep w w1 [pOwn b [int k, str nm, str tx, .slice p es.length c]] := hS
  refine sgo ?_
  refine wlbuild ?_
  refine wlpure (check_ok (Ev.start ⟨k, nm, tx, es⟩) p c (Ev.start_small hs) w1 (hi.sep hS)) fun w2 hf2 => ?_
  replace hS := hS.grow hf2
  refine sgo ?_
  (first | refine fp1 (.inl rfl) rfl rfl ?_ | refine fp2 (.inl rfl) rfl rfl rfl ?_ | refine fp3 (.inl rfl) rfl rfl rfl rfl ?_ | refine fp0 (.inr rfl) rfl ?_ | refine fp0 (.inl rfl) rfl ?_ | refine fp1 (.inr rfl) rfl rfl ?_); refine ⟨?_, by (first | exact Frm.refl _ | assumption | exact Go.Sv.Sep.frm (by assumption) | (refine Frm.trans ?_ (by assumption); first | exact Frm.refl _ | assumption))⟩; (try simp only [realB, rv_true, Nat.reduceBEq, cond_true, cond_false, entG, real_lif, updGL])
  cases mayR (Ev.start ⟨k, nm, tx, es⟩) <;> rfl
set_option maxHeartbeats 4000000 in
theorem evCheck_ok (e : Ev) (p : Option Addr) (c : Nat) (hs : e.small) (w : World) (hA : Asc w) (hi : Im [] w p (e.attrs.flatMap At.cells)) :
    PureC Tryd.prog 33 #[.agg ⟨e.cells p c⟩] w (int (if evR e then 0 else 180)) := by
  have hev : evR e = evR e := rfl
  obtain ⟨k, nm, tx, es⟩ := e
  have htx := hs.text
  dsimp only at htx hi
  conv at hev => lhs; unfold evR
  dsimp only at hev
  refine enter (l := [.agg ⟨Ev.cells ⟨k, nm, tx, es⟩ p c⟩]) Tryd.func33 rfl Tryd.ntmps33 (by kernel_rfl) rfl ?_
  have hS := Sep.start w
  refine sgo ?_
  refine sbox (v := .agg ⟨Ev.cells ⟨k, nm, tx, es⟩ p c⟩) hS fun b w1 hS => ?_
  replace hS : Sep w w1 [pOwn b [int k, str nm, str tx, .slice p es.length c]] := hS
  refine sgo ?_
  (show WC _ _ _ _ _ _ _; first | refine WC_dec rfl (fun hc => ?_) (fun hc => ?_) | refine WC_cond rfl (fun hc => ?_) (fun hc => ?_))
  · replace hc : k = 0 := hc
    subst hc
    refine sgo ?_
    refine wls2bg (s := tx) (by omega) fun q cc w2 hI hf2 => ?_
    refine wlcallgp (vals := [.slice (pb q) tx.length cc]) (fun hg => valid_ok tx (pb q) tx.length cc rfl (hI hg).1 (by omega) [] w2 (hI hg).2.2) fun w3 hf3 => ?_
    rw [valid_eq]
    replace hS := (hS.grow hf2).grow hf3
    refine sgo ?_
    have hB : pkb (pkb (pkb (decide (tx ≠ [])) (validR tx) false) (decide (nm = [])) false) (decide ((es.length : Int) = 0)) false = evR ⟨0, nm, tx, es⟩ := by
      rw [← hev, if_pos rfl]; simp [pkb_and]
    rw [hB]
    cases evR ⟨0, nm, tx, es⟩ <;> (refine sgo ?_; (first | refine fp1 (.inl rfl) rfl rfl ?_ | refine fp2 (.inl rfl) rfl rfl rfl ?_ | refine fp3 (.inl rfl) rfl rfl rfl rfl ?_ | refine fp0 (.inr rfl) rfl ?_ | refine fp0 (.inl rfl) rfl ?_ | refine fp1 (.inr rfl) rfl rfl ?_); refine ⟨?_, by (first | exact Frm.refl _ | assumption | exact Go.Sv.Sep.frm (by assumption) | (refine Frm.trans ?_ (by assumption); first | exact Frm.refl _ | assumption))⟩; (try simp only [realB, rv_true, Nat.reduceBEq, cond_true, cond_false, entG, real_lif, updGL]); first | rfl | (simp; done))
  replace hc : ¬ k = 0 := hc
  rw [if_neg hc] at hev
  have hk0 := hc
  clear hc
  refine sgo ?_
  (show WC _ _ _ _ _ _ _; first | refine WC_dec rfl (fun hc => ?_) (fun hc => ?_) | refine WC_cond rfl (fun hc => ?_) (fun hc => ?_))
  · replace hc : k = 1 := hc
    subst hc
    refine sgo ?_
    refine wlcallgp (vals := [.agg ⟨Ev.cells ⟨1, nm, tx, es⟩ p c⟩]) (fun hg => evStart_ok ⟨1, nm, tx, es⟩ p c hs w1 (hi.sep hS)) fun w3 hf3 => ?_
    replace hS := hS.grow hf3
    refine sgo ?_
    refine wlcallgp (vals := [str nm, int 0]) (fun hg => in0_ok nm w3 (hA.frm hS.frm)) fun w4 hf4 => ?_
    replace hS := hS.grow hf4
    refine sgo ?_
    have hB : pkb (pkb (decide (tx = [])) (mayR (Ev.start ⟨1, nm, tx, es⟩)) false) (!voidR nm) false = evR ⟨1, nm, tx, es⟩ := by
      rw [← hev, if_pos rfl]; simp [pkb_and]
    rw [hB]
    cases evR ⟨1, nm, tx, es⟩ <;> (refine sgo ?_; (first | refine fp1 (.inl rfl) rfl rfl ?_ | refine fp2 (.inl rfl) rfl rfl rfl ?_ | refine fp3 (.inl rfl) rfl rfl rfl rfl ?_ | refine fp0 (.inr rfl) rfl ?_ | refine fp0 (.inl rfl) rfl ?_ | refine fp1 (.inr rfl) rfl rfl ?_); refine ⟨?_, by (first | exact Frm.refl _ | assumption | exact Go.Sv.Sep.frm (by assumption) | (refine Frm.trans ?_ (by assumption); first | exact Frm.refl _ | assumption))⟩; (try simp only [realB, rv_true, Nat.reduceBEq, cond_true, cond_false, entG, real_lif, updGL]); first | rfl | (simp; done))
  replace hc : ¬ k = 1 := hc
  rw [if_neg hc] at hev
  have hk1 := hc
  clear hc
  refine sgo ?_
  (show WC _ _ _ _ _ _ _; first | refine WC_dec rfl (fun hc => ?_) (fun hc => ?_) | refine WC_cond rfl (fun hc => ?_) (fun hc => ?_))
  · replace hc : k = 3 := hc
    subst hc
    refine sgo ?_
    refine wlcallgp (vals := [.agg ⟨Ev.cells ⟨3, nm, tx, es⟩ p c⟩]) (fun hg => evStart_ok ⟨3, nm, tx, es⟩ p c hs w1 (hi.sep hS)) fun w3 hf3 => ?_
    replace hS := hS.grow hf3
    refine sgo ?_
    refine wlcallgp (vals := [str nm, int 0]) (fun hg => in0_ok nm w3 (hA.frm hS.frm)) fun w4 hf4 => ?_
    replace hS := hS.grow hf4
    refine sgo ?_
    have hB : pkb (pkb (decide (tx = [])) (mayR (Ev.start ⟨3, nm, tx, es⟩)) false) (voidR nm) false = evR ⟨3, nm, tx, es⟩ := by
      rw [← hev, if_pos rfl]; simp [pkb_and]
    rw [hB]
    cases evR ⟨3, nm, tx, es⟩ <;> (refine sgo ?_; (first | refine fp1 (.inl rfl) rfl rfl ?_ | refine fp2 (.inl rfl) rfl rfl rfl ?_ | refine fp3 (.inl rfl) rfl rfl rfl rfl ?_ | refine fp0 (.inr rfl) rfl ?_ | refine fp0 (.inl rfl) rfl ?_ | refine fp1 (.inr rfl) rfl rfl ?_); refine ⟨?_, by (first | exact Frm.refl _ | assumption | exact Go.Sv.Sep.frm (by assumption) | (refine Frm.trans ?_ (by assumption); first | exact Frm.refl _ | assumption))⟩; (try simp only [realB, rv_true, Nat.reduceBEq, cond_true, cond_false, entG, real_lif, updGL]); first | rfl | (simp; done))
  replace hc : ¬ k = 3 := hc
  rw [if_neg hc] at hev
  have hk3 := hc
  clear hc
  refine sgo ?_
  (show WC _ _ _ _ _ _ _; first | refine WC_dec rfl (fun hc => ?_) (fun hc => ?_) | refine WC_cond rfl (fun hc => ?_) (fun hc => ?_))
  · replace hc : k = 2 := hc
    subst hc
    refine sgo ?_
    refine wlgbuildv (vals := [(0, int 2), (1, str nm)]) (fun hg => bm2 rfl (evG hg)) ?_
    refine wlcallgp (vals := [.agg ⟨Tok.cells (Ev.close ⟨2, nm, tx, es⟩) none 0⟩]) (fun hg => check_ok (Ev.close ⟨2, nm, tx, es⟩) none 0 (Ev.close_small hs) w1 (Im.nil _ _ _)) fun w3 hf3 => ?_
    replace hS := hS.grow hf3
    refine sgo ?_
    have hB : pkb (pkb (decide (tx = [])) (decide ((es.length : Int) = 0)) false) (decide ((if mayR (Ev.close ⟨2, nm, tx, es⟩) = true then (0 : Int) else 70) = 0)) false = evR ⟨2, nm, tx, es⟩ := by
      rw [← hev, if_pos rfl]; cases mayR (Ev.close ⟨2, nm, tx, es⟩) <;> simp [pkb_and]
    rw [hB]
    cases evR ⟨2, nm, tx, es⟩ <;> (refine sgo ?_; (first | refine fp1 (.inl rfl) rfl rfl ?_ | refine fp2 (.inl rfl) rfl rfl rfl ?_ | refine fp3 (.inl rfl) rfl rfl rfl rfl ?_ | refine fp0 (.inr rfl) rfl ?_ | refine fp0 (.inl rfl) rfl ?_ | refine fp1 (.inr rfl) rfl rfl ?_); refine ⟨?_, by (first | exact Frm.refl _ | assumption | exact Go.Sv.Sep.frm (by assumption) | (refine Frm.trans ?_ (by assumption); first | exact Frm.refl _ | assumption))⟩; (try simp only [realB, rv_true, Nat.reduceBEq, cond_true, cond_false, entG, real_lif, updGL]); first | rfl | (simp; done))
  · replace hc : ¬ k = 2 := hc
    rw [if_neg hc] at hev
    rw [← hev]
    refine sgo ?_
    (first | refine fp1 (.inl rfl) rfl rfl ?_ | refine fp2 (.inl rfl) rfl rfl rfl ?_ | refine fp3 (.inl rfl) rfl rfl rfl rfl ?_ | refine fp0 (.inr rfl) rfl ?_ | refine fp0 (.inl rfl) rfl ?_ | refine fp1 (.inr rfl) rfl rfl ?_); refine ⟨?_, by (first | exact Frm.refl _ | assumption | exact Go.Sv.Sep.frm (by assumption) | (refine Frm.trans ?_ (by assumption); first | exact Frm.refl _ | assumption))⟩; (try simp only [realB, rv_true, Nat.reduceBEq, cond_true, cond_false, entG, real_lif, updGL])
    rfl

end Go.Proofs.YthgbpgjpnaanlaaDoor

/-
  Lines of tokens, read: plain laws.
-/
set_option linter.unusedSimpArgs false
set_option linter.unusedVariables false
set_option linter.unnecessarySimpa false
namespace Go.Proofs.YthgbpgjpnaanlaaDoor
open Go Go.Sv Go.RowKit

/-- behind a first mark: the text up to the next, and the rest -/
def unqR : List UInt8 → List UInt8 → Option (List UInt8 × List UInt8)
  | [], _ => none
  | c :: l, acc =>
    if c.toNat = 34 then some (acc, l)
    else if c.toNat = 9 then none
    else if c.toNat = 92 then
      match l with
      | [] => none
      | d :: l' => if d.toNat = 110 then unqR l' (acc ++ [10]) else if d.toNat = 116 then unqR l' (acc ++ [9]) else if d.toNat = 34 ∨ d.toNat = 92 then unqR l' (acc ++ [d]) else none
    else unqR l (acc ++ [c])
theorem unqR_cons (c : UInt8) (l acc : List UInt8) : unqR (c :: l) acc =
    if c.toNat = 34 then some (acc, l)
    else if c.toNat = 9 then none
    else if c.toNat = 92 then
      match l with
      | [] => none
      | d :: l' => if d.toNat = 110 then unqR l' (acc ++ [10]) else if d.toNat = 116 then unqR l' (acc ++ [9]) else if d.toNat = 34 ∨ d.toNat = 92 then unqR l' (acc ++ [d]) else none
    else unqR l (acc ++ [c]) := by
  cases l <;> rfl
/-- a quoted text at the front -/
def qtxR : List UInt8 → Option (List UInt8 × List UInt8)
  | [] => none
  | c :: l => if c.toNat = 34 then unqR l [] else none
theorem unqR_suf : ∀ (n : Nat) (l acc : List UInt8) (t r : List UInt8), l.length ≤ n → unqR l acc = some (t, r) → r <:+ l ∧ r.length < l.length ∧ t.length + r.length + 1 ≤ acc.length + l.length
  | n, [], acc, t, r, hn, h => by simp [unqR] at h
  | 0, c :: l, acc, t, r, hn, h => by simp at hn
  | n + 1, c :: l, acc, t, r, hn, h => by
    simp only [List.length_cons] at hn
    rw [unqR_cons] at h
    split at h
    · injection h with h; injection h with h1 h2
      subst h1 h2
      exact ⟨List.suffix_cons _ _, by simp, by simp; omega⟩
    split at h
    · cases h
    split at h
    · cases l with
      | nil => cases h
      | cons d l' =>
        simp only [List.length_cons] at hn
        have key : ∀ x : UInt8, unqR l' (acc ++ [x]) = some (t, r) → r <:+ c :: d :: l' ∧ r.length < (c :: d :: l').length ∧ t.length + r.length + 1 ≤ acc.length + (c :: d :: l').length := fun x hx => by
          obtain ⟨h1, h2, h3⟩ := unqR_suf n l' _ t r (by omega) hx
          simp only [List.length_append, List.length_cons, List.length_nil] at h3 ⊢
          exact ⟨h1.trans ((List.suffix_cons d l').trans (List.suffix_cons c _)), by omega, by omega⟩
        dsimp only at h
        split at h
        · exact key _ h
        split at h
        · exact key _ h
        split at h
        · exact key _ h
        · cases h
    · obtain ⟨h1, h2, h3⟩ := unqR_suf n l _ t r (by omega) h
      simp only [List.length_append, List.length_cons, List.length_nil] at h3 ⊢
      exact ⟨h1.trans (List.suffix_cons c l), by omega, by omega⟩
theorem textR_suf {s t r : List UInt8} (h : qtxR s = some (t, r)) : r <:+ s ∧ r.length < s.length ∧ t.length + r.length + 2 ≤ s.length := by
  cases s with
  | nil => cases h
  | cons c l =>
    by_cases hc : c.toNat = 34
    · rw [qtxR, if_pos hc] at h
      obtain ⟨h1, h2, h3⟩ := unqR_suf l.length l [] t r (Nat.le_refl _) h
      simp only [List.length_nil, List.length_cons] at h3 ⊢
      exact ⟨h1.trans (List.suffix_cons c l), by omega, by omega⟩
    · rw [qtxR, if_neg hc] at h
      cases h
theorem drop_at {l : List UInt8} {i : Nat} {c : UInt8} (h : l[i]? = some c) : l.drop i = c :: l.drop (i + 1) := by
  obtain ⟨hi, rfl⟩ := List.getElem?_eq_some_iff.1 h
  exact List.drop_eq_getElem_cons hi
theorem unq_out {l acc : List UInt8} {i : Nat} (h : l.length ≤ i) : unqR (l.drop i) acc = none := by
  rw [List.drop_eq_nil_of_le h, unqR]
theorem unq_mark {l acc : List UInt8} {i : Nat} {c : UInt8} (h : l[i]? = some c) (hc : c.toNat = 34) : unqR (l.drop i) acc = some (acc, l.drop (i + 1)) := by
  rw [drop_at h, unqR_cons, if_pos hc]
theorem unq_tab {l acc : List UInt8} {i : Nat} {c : UInt8} (h : l[i]? = some c) (hc : c.toNat = 9) : unqR (l.drop i) acc = none := by
  rw [drop_at h, unqR_cons, if_neg (by omega), if_pos hc]
theorem unq_one {l acc : List UInt8} {i : Nat} {c : UInt8} (h : l[i]? = some c) (h1 : c.toNat ≠ 34) (h2 : c.toNat ≠ 9) (h3 : c.toNat ≠ 92) : unqR (l.drop i) acc = unqR (l.drop (i + 1)) (acc ++ [c]) := by
  rw [drop_at h, unqR_cons, if_neg h1, if_neg h2, if_neg h3]
theorem unq_esc_out {l acc : List UInt8} {i : Nat} {c : UInt8} (h : l[i]? = some c) (hc : c.toNat = 92) (ho : l.length ≤ i + 1) : unqR (l.drop i) acc = none := by
  rw [drop_at h, unqR_cons, if_neg (by omega), if_neg (by omega), if_pos hc, List.drop_eq_nil_of_le ho]
theorem unq_esc_at {l acc : List UInt8} {i : Nat} {c d : UInt8} (h : l[i]? = some c) (hc : c.toNat = 92) (hd : l[i + 1]? = some d) : unqR (l.drop i) acc =
    if d.toNat = 110 then unqR (l.drop (i + 2)) (acc ++ [10]) else if d.toNat = 116 then unqR (l.drop (i + 2)) (acc ++ [9]) else if d.toNat = 34 ∨ d.toNat = 92 then unqR (l.drop (i + 2)) (acc ++ [d]) else none := by
  rw [drop_at h, unqR_cons, if_neg (by omega), if_neg (by omega), if_pos hc, drop_at hd]
/-- one attribute at the front: a blank, its name, =, its value -/
def at1R (s : List UInt8) : Option (At × List UInt8) :=
  match qtxR (s.drop 1) with
  | none => none
  | some (n, r) => if r.take 1 = [61] then (match qtxR (r.drop 1) with | none => none | some (v, r2) => some (⟨n, v⟩, r2)) else none
theorem at1R_suf {s r : List UInt8} {a : At} (h : at1R s = some (a, r)) : r <:+ s ∧ r.length < s.length ∧ a.n.length + a.v.length + r.length + 4 ≤ s.length := by
  unfold at1R at h
  cases h1 : qtxR (s.drop 1) with
  | none => rw [h1] at h; cases h
  | some x =>
    obtain ⟨n, r1⟩ := x
    rw [h1] at h
    dsimp only at h
    split at h
    · cases h2 : qtxR (r1.drop 1) with
      | none => rw [h2] at h; cases h
      | some y =>
        obtain ⟨v, r2⟩ := y
        rw [h2] at h
        injection h with h; injection h with h3 h4
        subst h3 h4
        obtain ⟨a1, a2, a3⟩ := textR_suf h1
        obtain ⟨b1, b2, b3⟩ := textR_suf h2
        rw [List.length_drop] at a2 a3 b2 b3
        exact ⟨b1.trans ((List.drop_suffix 1 _).trans (a1.trans (List.drop_suffix 1 _))), by omega, by dsimp only; omega⟩
    · cases h
/-- attributes at the front, as many as there are -/
def atsR (s : List UInt8) (acc : List At) : Option (List At × List UInt8) :=
  if s.take 2 = [32, 34] then
    match h : at1R s with
    | none => none
    | some (a, r) =>
      have := (at1R_suf h).2.1
      atsR r (acc ++ [a])
  else some (acc, s)
termination_by s.length
theorem atsR_yes {s : List UInt8} {acc : List At} {a : At} {r : List UInt8} (h : s.take 2 = [32, 34]) (h1 : at1R s = some (a, r)) : atsR s acc = atsR r (acc ++ [a]) := by
  rw [atsR, if_pos h]
  split
  · rename_i h2; rw [h1] at h2; cases h2
  · rename_i a' r' h2; rw [h1] at h2; injection h2 with h2; injection h2 with h3 h4; subst h3 h4; rfl
theorem atsR_bad {s : List UInt8} {acc : List At} (h : s.take 2 = [32, 34]) (h1 : at1R s = none) : atsR s acc = none := by
  rw [atsR, if_pos h]
  split
  · rfl
  · rename_i a' r' h2; rw [h1] at h2; cases h2
theorem atsR_end {s : List UInt8} {acc : List At} (h : ¬ s.take 2 = [32, 34]) : atsR s acc = some (acc, s) := by rw [atsR, if_neg h]
/-- the name or the text that a kind has -/
def headT (k : Nat) (s : List UInt8) : Option (List UInt8 × List UInt8 × List UInt8) :=
  if k = 4 then some ([], [], s)
  else if s.take 1 = [32] then
    match qtxR (s.drop 1) with
    | none => none
    | some (x, r) => if k = 1 ∨ k = 2 then some (x, [], r) else some ([], x, r)
  else none
/-- behind the kind's word -/
def tokR (k : Nat) (s : List UInt8) : Option Tok :=
  match headT k s with
  | none => none
  | some (nm, tx, r) =>
    match atsR r [] with
    | none => none
    | some (es, r2) => if (r2 = [] ∨ r2 = [32, 47]) ∧ mayR ⟨k, nm, tx, es, decide (r2 = [32, 47]), 0, 0, 0⟩ = true then some ⟨k, nm, tx, es, decide (r2 = [32, 47]), 0, 0, 0⟩ else none
def wordsL : List (List UInt8) := [wText, wStart, wEnd, wComment, wDoctype]
def readF : Nat → List (List UInt8) → List UInt8 → Option Tok
  | _, [], _ => none
  | k, x :: ws, s => if x.isPrefixOf s = true then tokR k (s.drop x.length) else readF (k + 1) ws s
/-- a line, read -/
def readR (s : List UInt8) : Option Tok := readF 0 wordsL s
/-! ## lines -/
def linesG : List UInt8 → List UInt8 → List (List UInt8)
  | [], cur => if cur = [] then [] else [cur]
  | c :: l, cur => if c.toNat = 10 then cur :: linesG l [] else linesG l (cur ++ [c])
/-- a text's lines; a last one may lack its end -/
def linesR (s : List UInt8) : List (List UInt8) := linesG s []
/-- the tokens of lines, or the number of the first that is none -/
def parseF : Nat → List (List UInt8) → List Tok → List Tok × Nat
  | _, [], acc => (acc, 0)
  | n, x :: ls, acc => match readR x with | none => ([], n) | some t => parseF (n + 1) ls (acc ++ [t])
def parseR (s : List UInt8) : List Tok × Nat := parseF 1 (linesR s) []
end Go.Proofs.YthgbpgjpnaanlaaDoor

/-
  Lines of tokens, read back: plain laws.
-/
set_option linter.unusedSimpArgs false
set_option linter.unusedVariables false
set_option linter.unnecessarySimpa false
namespace Go.Proofs.YthgbpgjpnaanlaaDoor
open Go Go.Sv Go.RowKit

theorem unq_esc : ∀ (s r acc : List UInt8), unqR (s.flatMap esc ++ 34 :: r) acc = some (acc ++ s, r)
  | [], r, acc => by
    rw [List.flatMap_nil, List.nil_append, List.append_nil, unqR_cons, if_pos (by decide)]
  | c :: s, r, acc => by
    have ih := fun acc => unq_esc s r acc
    rw [List.flatMap_cons, List.append_assoc]
    unfold esc
    split
    · rename_i h; subst h
      change unqR (92 :: 110 :: (s.flatMap esc ++ 34 :: r)) acc = _
      rw [unqR_cons, if_neg (by decide), if_neg (by decide), if_pos (by decide)]
      dsimp only
      rw [if_pos (by decide), ih, List.append_assoc]; rfl
    split
    · rename_i h; subst h
      change unqR (92 :: 116 :: (s.flatMap esc ++ 34 :: r)) acc = _
      rw [unqR_cons, if_neg (by decide), if_neg (by decide), if_pos (by decide)]
      dsimp only
      rw [if_neg (by decide), if_pos (by decide), ih, List.append_assoc]; rfl
    split
    · rename_i h; subst h
      change unqR (92 :: 34 :: (s.flatMap esc ++ 34 :: r)) acc = _
      rw [unqR_cons, if_neg (by decide), if_neg (by decide), if_pos (by decide)]
      dsimp only
      rw [if_neg (by decide), if_neg (by decide), if_pos (by decide), ih, List.append_assoc]; rfl
    split
    · rename_i h; subst h
      change unqR (92 :: 92 :: (s.flatMap esc ++ 34 :: r)) acc = _
      rw [unqR_cons, if_neg (by decide), if_neg (by decide), if_pos (by decide)]
      dsimp only
      rw [if_neg (by decide), if_neg (by decide), if_pos (by decide), ih, List.append_assoc]; rfl
    · rename_i h10 h9 h34 h92
      have key : ∀ n : UInt8, ¬ c = n → ¬ c.toNat = n.toNat := fun n h h' => h (UInt8.toNat_inj.1 h')
      change unqR (c :: (s.flatMap esc ++ 34 :: r)) acc = _
      rw [unqR_cons, if_neg (show ¬ c.toNat = 34 from key 34 h34), if_neg (show ¬ c.toNat = 9 from key 9 h9), if_neg (show ¬ c.toNat = 92 from key 92 h92), ih, List.append_assoc]; rfl
theorem text_quote (s r : List UInt8) : qtxR (quoteR s ++ r) = some (s, r) := by
  have e : quoteR s ++ r = 34 :: (s.flatMap esc ++ 34 :: r) := by unfold quoteR; simp
  rw [e, qtxR, if_pos (by decide), unq_esc]
  rfl
theorem at1_line (x : At) (r : List UInt8) : at1R (atLine x ++ r) = some (x, r) := by
  have e : atLine x ++ r = 32 :: (quoteR x.n ++ 61 :: (quoteR x.v ++ r)) := by unfold atLine; simp
  rw [e]
  unfold at1R
  rw [List.drop_succ_cons, List.drop_zero, text_quote]
  dsimp only
  rw [if_pos (show List.take 1 (61 :: (quoteR x.v ++ r)) = [61] from rfl), List.drop_succ_cons, List.drop_zero, text_quote]
theorem ats_line : ∀ (es : List At) (acc : List At) (tl : List UInt8), ¬ tl.take 2 = [32, 34] → atsR (es.flatMap atLine ++ tl) acc = some (acc ++ es, tl)
  | [], acc, tl, h => by rw [List.flatMap_nil, List.nil_append, List.append_nil, atsR_end h]
  | x :: es, acc, tl, h => by
    rw [List.flatMap_cons, List.append_assoc]
    have h2 : (atLine x ++ (es.flatMap atLine ++ tl)).take 2 = [32, 34] := by
      unfold atLine quoteR
      rfl
    rw [atsR_yes h2 (at1_line x _), ats_line es _ tl h, List.append_assoc]
    rfl
def zeroT (t : Tok) : Tok := { t with a := 0, b := 0, d := 0 }
theorem may_zero (t : Tok) : mayR (zeroT t) = mayR t := rfl
theorem tail_no (b : Bool) : ¬ (if b = true then [32, 47] else ([] : List UInt8)).take 2 = [32, 34] := by cases b <;> decide
theorem tail_self (b : Bool) : decide ((if b = true then [32, 47] else ([] : List UInt8)) = [32, 47]) = b := by cases b <;> rfl
theorem tok_line {t : Tok} {k : Nat} (h : mayR t = true) (hk : t.kind = k) (nm tx : List UInt8) (hn : t.name = nm) (ht : t.text = tx) {s : List UInt8} (hh : headT k s = some (nm, tx, t.attrs.flatMap atLine ++ (if t.self then [32, 47] else []))) : tokR k s = some (zeroT t) := by
  subst hn ht
  unfold tokR
  rw [hh]
  dsimp only
  rw [ats_line t.attrs [] _ (tail_no t.self)]
  dsimp only
  rw [tail_self, List.nil_append]
  have e : (⟨k, t.name, t.text, t.attrs, t.self, 0, 0, 0⟩ : Tok) = zeroT t := by unfold zeroT; rw [hk]
  rw [e, may_zero]
  refine if_pos ⟨?_, h⟩
  cases t.self
  · exact .inl rfl
  · exact .inr rfl
theorem read_line {t : Tok} (h : mayR t = true) : readR (lineR t) = some (zeroT t) := by
  have hf := (may_facts t h).kind
  have hkk : t.kind = 0 ∨ t.kind = 1 ∨ t.kind = 2 ∨ t.kind = 3 ∨ t.kind = 4 := by omega
  have hnn : t.kind = 0 ∨ t.kind = 3 ∨ t.kind = 4 → t.name = [] := fun hk => by
    unfold mayR bareR at h
    rcases hk with hk | hk | hk <;> rw [hk] at h <;> simp at h <;> simp [h]
  have htt : t.kind = 1 ∨ t.kind = 2 ∨ t.kind = 4 → t.text = [] := fun hk => by
    unfold mayR bareR at h
    rcases hk with hk | hk | hk <;> rw [hk] at h <;> simp at h <;> simp [h]
  have e : lineR t = wordR t.kind ++ ((if t.kind = 1 ∨ t.kind = 2 then 32 :: quoteR t.name else if t.kind = 0 ∨ t.kind = 3 then 32 :: quoteR t.text else []) ++ (t.attrs.flatMap atLine ++ (if t.self then [32, 47] else []))) := by
    unfold lineR headR; simp [List.append_assoc]
  rw [e]
  generalize hT : t.attrs.flatMap atLine ++ (if t.self then [32, 47] else []) = T
  have one : ∀ (k : Nat) (x : List UInt8), (k = 1 ∨ k = 2 ∨ k = 0 ∨ k = 3) → headT k (32 :: quoteR x ++ T) = if k = 1 ∨ k = 2 then some (x, [], T) else some ([], x, T) := by
    intro k x hk
    unfold headT
    rw [if_neg (by omega), if_pos (by rfl), show (32 :: quoteR x ++ T).drop 1 = quoteR x ++ T from rfl, text_quote]
  rcases hkk with hk | hk | hk | hk | hk
  · have hw : wordR t.kind = wText := by rw [hk]; rfl
    rw [hw, hk, if_neg (by decide), if_pos (by decide)]
    unfold readR wordsL readF
    rw [if_pos (by rfl)]
    refine tok_line h hk [] t.text (hnn (.inl hk)) rfl ?_
    rw [hT]
    have := one 0 t.text (by simp)
    rw [if_neg (by decide)] at this
    exact this
  · have hw : wordR t.kind = wStart := by rw [hk]; rfl
    rw [hw, hk, if_pos (by decide)]
    unfold readR wordsL readF readF
    rw [if_neg (by intro hh; cases hh), if_pos (by rfl)]
    refine tok_line h hk t.name [] rfl (htt (.inl hk)) ?_
    rw [hT]
    have := one 1 t.name (by simp)
    rw [if_pos (by decide)] at this
    exact this
  · have hw : wordR t.kind = wEnd := by rw [hk]; rfl
    rw [hw, hk, if_pos (by decide)]
    unfold readR wordsL readF readF readF
    rw [if_neg (by intro hh; cases hh), if_neg (by intro hh; cases hh), if_pos (by rfl)]
    refine tok_line h hk t.name [] rfl (htt (.inr (.inl hk))) ?_
    rw [hT]
    have := one 2 t.name (by simp)
    rw [if_pos (by decide)] at this
    exact this
  · have hw : wordR t.kind = wComment := by rw [hk]; rfl
    rw [hw, hk, if_neg (by decide), if_pos (by decide)]
    unfold readR wordsL readF readF readF readF
    rw [if_neg (by intro hh; cases hh), if_neg (by intro hh; cases hh), if_neg (by intro hh; cases hh), if_pos (by rfl)]
    refine tok_line h hk [] t.text (hnn (.inr (.inl hk))) rfl ?_
    rw [hT]
    have := one 3 t.text (by simp)
    rw [if_neg (by decide)] at this
    exact this
  · have hw : wordR t.kind = wDoctype := by rw [hk]; rfl
    rw [hw, hk, if_neg (by decide), if_neg (by decide), List.nil_append]
    unfold readR wordsL readF readF readF readF readF
    rw [if_neg (by intro hh; cases hh), if_neg (by intro hh; cases hh), if_neg (by intro hh; cases hh), if_neg (by intro hh; cases hh), if_pos (by rfl)]
    refine tok_line h hk [] [] (hnn (.inr (.inr hk))) (htt (.inr (.inr hk))) ?_
    rw [hT]
    rfl
/-! ## lines -/
theorem esc_no (c : UInt8) : ∀ x ∈ esc c, x.toNat ≠ 10 := by
  intro x hx
  unfold esc at hx
  split at hx
  · simp only [List.mem_cons, List.not_mem_nil, or_false] at hx; rcases hx with rfl | rfl <;> decide
  split at hx
  · simp only [List.mem_cons, List.not_mem_nil, or_false] at hx; rcases hx with rfl | rfl <;> decide
  split at hx
  · simp only [List.mem_cons, List.not_mem_nil, or_false] at hx; rcases hx with rfl | rfl <;> decide
  split at hx
  · simp only [List.mem_cons, List.not_mem_nil, or_false] at hx; rcases hx with rfl | rfl <;> decide
  · rename_i h10 _ _ _
    rw [List.mem_singleton.1 hx]
    exact fun h => h10 (UInt8.toNat_inj.1 h)
theorem quote_no (s : List UInt8) : ∀ x ∈ quoteR s, x.toNat ≠ 10 := by
  intro x hx
  unfold quoteR at hx
  simp only [List.mem_cons, List.mem_append, List.mem_flatMap, List.not_mem_nil, or_false] at hx
  rcases hx with (rfl | ⟨c, _, hx⟩) | rfl
  · decide
  · exact esc_no c x hx
  · decide
theorem line_no (t : Tok) : ∀ x ∈ lineR t, x.toNat ≠ 10 := by
  intro x hx
  unfold lineR headR at hx
  simp only [List.mem_append] at hx
  rcases hx with ((hx | hx) | hx) | hx
  · have key : ∀ w : List UInt8, (w.all fun x => !decide (x.toNat = 10)) = true → x ∈ w → x.toNat ≠ 10 := fun w hw hx => by
      have := List.all_eq_true.1 hw x hx; simpa using this
    unfold wordR at hx
    repeat' split at hx
    all_goals exact key _ (by decide) hx
  · repeat' split at hx
    · rcases List.mem_cons.1 hx with rfl | hx
      · decide
      · exact quote_no _ x hx
    · rcases List.mem_cons.1 hx with rfl | hx
      · decide
      · exact quote_no _ x hx
    · cases hx
  · obtain ⟨a, _, hx⟩ := List.mem_flatMap.1 hx
    unfold atLine at hx
    simp only [List.mem_cons, List.mem_append, List.not_mem_nil, or_false] at hx
    rcases hx with ((rfl | hx) | rfl) | hx
    · decide
    · exact quote_no _ x hx
    · decide
    · exact quote_no _ x hx
  · split at hx
    · simp only [List.mem_cons, List.not_mem_nil, or_false] at hx; rcases hx with rfl | rfl <;> decide
    · cases hx
theorem linesG_one : ∀ (l cur rest : List UInt8), (∀ x ∈ l, x.toNat ≠ 10) → linesG (l ++ 10 :: rest) cur = (cur ++ l) :: linesG rest []
  | [], cur, rest, _ => by rw [List.nil_append, linesG, if_pos (by decide), List.append_nil]
  | c :: l, cur, rest, h => by
    rw [List.cons_append, linesG, if_neg (h c (by simp)), linesG_one l _ rest fun x hx => h x (List.mem_cons_of_mem _ hx), List.append_assoc]
    rfl
end Go.Proofs.YthgbpgjpnaanlaaDoor

/-
  Events as lines, and read back: plain laws.
-/
set_option linter.unusedSimpArgs false
set_option linter.unusedVariables false
set_option linter.unnecessarySimpa false
namespace Go.Proofs.YthgbpgjpnaanlaaDoor
open Go Go.Sv Go.RowKit

/-- a line's first word, and that of the token that is printed like it -/
def ew0 (k : Int) : List UInt8 := if k = 0 then [116, 101, 120, 116] else if k = 1 then [111, 112, 101, 110] else if k = 2 then [99, 108, 111, 115, 101] else [118, 111, 105, 100]
def ew1 (k : Int) : List UInt8 := if k = 0 then wText else if k = 2 then wEnd else wStart
def evTok (e : Ev) : Tok := if e.kind = 0 then ⟨0, [], e.text, [], false, 0, 0, 0⟩ else if e.kind = 2 then e.close else e.start
theorem evR_kind {e : Ev} (h : evR e = true) : e.kind = 0 ∨ e.kind = 1 ∨ e.kind = 2 ∨ e.kind = 3 := by
  unfold evR at h
  split at h
  · left; assumption
  split at h
  · right; left; assumption
  split at h
  · right; right; right; assumption
  split at h
  · right; right; left; assumption
  · cases h
theorem evTok_may {e : Ev} (h : evR e = true) : mayR (evTok e) = true := by
  have hk := evR_kind h
  unfold evR at h
  unfold evTok
  rcases hk with hk | hk | hk | hk
  · rw [if_pos hk] at h ⊢
    simp only [Bool.and_eq_true] at h
    unfold mayR bareR
    simp [h.1.1.1, h.1.1.2]
  · rw [if_neg (by omega), if_pos hk] at h
    rw [if_neg (by omega), if_neg (by omega)]
    simp only [Bool.and_eq_true] at h
    exact h.1.2
  · rw [if_neg (by omega), if_neg (by omega), if_neg (by omega), if_pos hk] at h
    rw [if_neg (by omega), if_pos hk]
    simp only [Bool.and_eq_true] at h
    exact h.2
  · rw [if_neg (by omega), if_neg (by omega), if_pos hk] at h
    rw [if_neg (by omega), if_neg (by omega)]
    simp only [Bool.and_eq_true] at h
    exact h.1.2
theorem evTok_word {e : Ev} (h : evR e = true) : wordR (evTok e).kind = ew1 e.kind := by
  have hk := evR_kind h
  unfold evTok ew1
  rcases hk with hk | hk | hk | hk <;> rw [hk] <;> rfl
theorem line_blank {t : Tok} (h : t.kind = 0 ∨ t.kind = 1 ∨ t.kind = 2 ∨ t.kind = 3) : ∃ X, lineR t = wordR t.kind ++ 32 :: X := by
  unfold lineR headR
  by_cases h1 : t.kind = 1 ∨ t.kind = 2
  · rw [if_pos h1]
    exact ⟨quoteR t.name ++ (t.attrs.flatMap atLine ++ (if t.self then [32, 47] else [])), by simp⟩
  · rw [if_neg h1, if_pos (by omega)]
    exact ⟨quoteR t.text ++ (t.attrs.flatMap atLine ++ (if t.self then [32, 47] else [])), by simp⟩
/-- an event that may be, as a line -/
def evLine (e : Ev) : List UInt8 := ew0 e.kind ++ (lineR (evTok e)).drop (ew1 e.kind).length
theorem evTok_kind {e : Ev} (h : evR e = true) : (evTok e).kind = 0 ∨ (evTok e).kind = 1 ∨ (evTok e).kind = 2 ∨ (evTok e).kind = 3 := by
  unfold evTok
  rcases evR_kind h with hk | hk | hk | hk <;> rw [hk] <;> simp [Ev.start, Ev.close]
theorem evLine_eq {e : Ev} (h : evR e = true) : ∃ X, evLine e = ew0 e.kind ++ 32 :: X ∧ lineR (evTok e) = ew1 e.kind ++ 32 :: X := by
  obtain ⟨X, hX⟩ := line_blank (evTok_kind h)
  rw [evTok_word h] at hX
  refine ⟨X, ?_, hX⟩
  unfold evLine
  rw [hX, List.drop_left]
/-- what lies ahead of the first blank, and behind it -/
def cutB : List UInt8 → List UInt8 × List UInt8
  | [] => ([], [])
  | c :: l => if c.toNat = 32 then ([], l) else (c :: (cutB l).1, (cutB l).2)
theorem cutB_app : ∀ (x r : List UInt8), (∀ c ∈ x, c.toNat ≠ 32) → cutB (x ++ 32 :: r) = (x, r)
  | [], r, _ => by rw [List.nil_append, cutB, if_pos (by decide)]
  | c :: x, r, h => by rw [List.cons_append, cutB, if_neg (h c (by simp)), cutB_app x r fun d hd => h d (List.mem_cons_of_mem _ hd)]
def evWord (w : List UInt8) : Option Nat := (List.range 4).find? fun k => decide (ew0 k = w)
/-- the event of a line -/
def evRead (s : List UInt8) : Option Ev :=
  match evWord (cutB s).1 with
  | none => none
  | some k =>
    match parseR (ew1 k ++ 32 :: (cutB s).2) with
    | ([t], 0) => if (t.self = false ∧ evR ⟨k, t.name, t.text, t.attrs⟩ = true) ∧ (cutB s).2.all (fun c => !decide (c.toNat = 10)) = true then some ⟨k, t.name, t.text, t.attrs⟩ else none
    | _ => none
theorem linesR_one {l : List UInt8} (h : ∀ c ∈ l, c.toNat ≠ 10) (hne : l ≠ []) : linesR l = [l] := by
  have key : ∀ (l cur : List UInt8), (∀ c ∈ l, c.toNat ≠ 10) → linesG l cur = if cur ++ l = [] then [] else [cur ++ l] := by
    intro l
    induction l with
    | nil => intro cur _; simp [linesG]
    | cons c l ih =>
      intro cur h
      rw [linesG, if_neg (h c (by simp)), ih _ fun d hd => h d (List.mem_cons_of_mem _ hd)]
      simp
  unfold linesR
  rw [key l [] h, List.nil_append, if_neg hne]
theorem evTok_zero (e : Ev) : zeroT (evTok e) = evTok e := by
  unfold evTok
  split
  · rfl
  split <;> rfl
theorem evTok_back {e : Ev} {k : Nat} (h : evR e = true) (hk : e.kind = k) : (⟨k, (evTok e).name, (evTok e).text, (evTok e).attrs⟩ : Ev) = e ∧ (evTok e).self = false := by
  obtain ⟨ek, en, et, ea⟩ := e
  have hkk := evR_kind h
  unfold evR at h
  dsimp only at hk hkk h
  subst hk
  unfold evTok
  rcases hkk with hk | hk | hk | hk
  · rw [if_pos hk] at h
    simp only [Bool.and_eq_true, decide_eq_true_eq] at h
    obtain ⟨⟨⟨_, _⟩, h3⟩, h4⟩ := h
    have h5 := List.eq_nil_of_length_eq_zero h4
    dsimp only
    rw [if_pos hk, h3, h5]
    exact ⟨rfl, rfl⟩
  · rw [if_neg (by omega), if_pos hk] at h
    simp only [Bool.and_eq_true, decide_eq_true_eq] at h
    dsimp only
    rw [if_neg (by omega), if_neg (by omega), h.1.1]
    exact ⟨rfl, rfl⟩
  · rw [if_neg (by omega), if_neg (by omega), if_neg (by omega), if_pos hk] at h
    simp only [Bool.and_eq_true, decide_eq_true_eq] at h
    have h5 := List.eq_nil_of_length_eq_zero h.1.2
    dsimp only
    rw [if_neg (by omega), if_pos hk, h.1.1, h5]
    exact ⟨rfl, rfl⟩
  · rw [if_neg (by omega), if_neg (by omega), if_pos hk] at h
    simp only [Bool.and_eq_true, decide_eq_true_eq] at h
    dsimp only
    rw [if_neg (by omega), if_neg (by omega), h.1.1]
    exact ⟨rfl, rfl⟩
theorem parse_one {t : Tok} (h : mayR t = true) (hne : lineR t ≠ []) : parseR (lineR t) = ([zeroT t], 0) := by
  unfold parseR
  rw [linesR_one (line_no t) hne, parseF, read_line h]
  rfl
theorem evRead_back {e : Ev} (h : evR e = true) : evRead (evLine e) = some e := by
  obtain ⟨X, h1, h2⟩ := evLine_eq h
  obtain ⟨k, hk, hk4⟩ : ∃ k : Nat, e.kind = (k : Int) ∧ k < 4 := by
    rcases evR_kind h with hk | hk | hk | hk
    · exact ⟨0, hk, by decide⟩
    · exact ⟨1, hk, by decide⟩
    · exact ⟨2, hk, by decide⟩
    · exact ⟨3, hk, by decide⟩
  have hno : ∀ c ∈ ew0 e.kind, c.toNat ≠ 32 := by
    have key : ∀ w : List UInt8, (w.all fun x => !decide (x.toNat = 32)) = true → ∀ x ∈ w, x.toNat ≠ 32 := fun w hw x hx => by
      have := List.all_eq_true.1 hw x hx; simpa using this
    rw [hk]
    match k, hk4 with
    | 0, _ => exact key _ rfl
    | 1, _ => exact key _ rfl
    | 2, _ => exact key _ rfl
    | 3, _ => exact key _ rfl
  have hw : evWord (ew0 e.kind) = some k := by
    rw [hk]
    match k, hk4 with
    | 0, _ => rfl
    | 1, _ => rfl
    | 2, _ => rfl
    | 3, _ => rfl
  have hX : X.all (fun c => !decide (c.toNat = 10)) = true := by
    rw [List.all_eq_true]
    intro c hc
    have := line_no (evTok e) c (by rw [h2]; simp [hc])
    simpa using this
  obtain ⟨hb1, hb2⟩ := evTok_back h hk
  unfold evRead
  rw [h1, cutB_app _ _ hno]
  dsimp only
  rw [hw]
  show (match parseR (ew1 (k : Int) ++ 32 :: X) with
    | ([t], 0) => if (t.self = false ∧ evR ⟨k, t.name, t.text, t.attrs⟩ = true) ∧ X.all (fun c => !decide (c.toNat = 10)) = true then some (⟨k, t.name, t.text, t.attrs⟩ : Ev) else none
    | _ => none) = some e
  have h3 : ew1 (k : Int) ++ 32 :: X = lineR (evTok e) := by rw [← hk]; exact h2.symm
  rw [h3, parse_one (evTok_may h) (by rw [h2]; simp), evTok_zero]
  show (if ((evTok e).self = false ∧ evR ⟨k, (evTok e).name, (evTok e).text, (evTok e).attrs⟩ = true) ∧ X.all (fun c => !decide (c.toNat = 10)) = true then some (⟨k, (evTok e).name, (evTok e).text, (evTok e).attrs⟩ : Ev) else none) = some e
  rw [hb1, if_pos ⟨⟨hb2, h⟩, hX⟩]
end Go.Proofs.YthgbpgjpnaanlaaDoor

/-
  strings.Cut at a line's end; a text's lines, cut one by one.
-/
set_option linter.unusedSimpArgs false
set_option linter.unusedVariables false
set_option linter.unnecessarySimpa false
namespace Go.Proofs.YthgbpgjpnaanlaaDoor
open Go Go.Sv Go.RowKit

/-- what lies ahead of the first line's end, behind it, and whether there is one -/
def cutN : List UInt8 → List UInt8 × List UInt8 × Bool
  | [] => ([], [], false)
  | c :: l => if c.toNat = 10 then ([], l, true) else (c :: (cutN l).1, (cutN l).2)
theorem cutT_len : ∀ l : List UInt8, (cutN l).1.length ≤ l.length ∧ (cutN l).2.1.length ≤ l.length ∧ (l ≠ [] → (cutN l).2.1.length < l.length)
  | [] => ⟨Nat.le_refl _, Nat.le_refl _, fun h => absurd rfl h⟩
  | c :: l => by
    obtain ⟨h1, h2, _⟩ := cutT_len l
    unfold cutN
    split
    · exact ⟨Nat.zero_le _, by simp, fun _ => by simp⟩
    · dsimp only
      simp only [List.length_cons]
      exact ⟨by omega, by omega, fun _ => by omega⟩
theorem cutT_no : ∀ l : List UInt8, ∀ x ∈ (cutN l).1, x.toNat ≠ 10
  | [], x, hx => by cases hx
  | c :: l, x, hx => by
    unfold cutN at hx
    split at hx
    · cases hx
    · rename_i hc
      rcases List.mem_cons.1 hx with rfl | hx
      · exact hc
      · exact cutT_no l x hx
theorem index_cut : ∀ l : List UInt8, (Lib.indexByte l 10 = -1 ∧ cutN l = (l, [], false)) ∨ ∃ i : Nat, i < l.length ∧ Lib.indexByte l 10 = i ∧ cutN l = (l.take i, l.drop (i + 1), true)
  | [] => .inl ⟨rfl, rfl⟩
  | c :: l => by
    unfold Lib.indexByte cutN
    by_cases hc : c.toNat = 10
    · have : c = 10 := UInt8.toNat_inj.1 hc
      subst this
      exact .inr ⟨0, by simp, rfl, rfl⟩
    · have hne : (c == 10) = false := by
        rw [beq_eq_false_iff_ne]
        intro h
        subst h
        exact hc rfl
      rw [hne, if_neg hc]
      rcases index_cut l with ⟨h1, h2⟩ | ⟨i, h0, h1, h2⟩
      · left
        rw [h1, h2]
        exact ⟨rfl, rfl⟩
      · right
        refine ⟨i + 1, by simp; omega, ?_, ?_⟩
        · have : (Lib.indexByte l 10 == -1) = false := by rw [h1, beq_eq_false_iff_ne]; omega
          rw [this, h1]
          simp
        · rw [h2]; rfl
theorem linesG_cut : ∀ (l cur : List UInt8), linesG l cur = if (cutN l).2.2 = true then (cur ++ (cutN l).1) :: linesG (cutN l).2.1 [] else if cur ++ l = [] then [] else [cur ++ l]
  | [], cur => by simp [linesG, cutN]
  | c :: l, cur => by
    rw [show linesG (c :: l) cur = if c.toNat = 10 then cur :: linesG l [] else linesG l (cur ++ [c]) from rfl, show cutN (c :: l) = if c.toNat = 10 then ([], l, true) else (c :: (cutN l).1, (cutN l).2) from rfl]
    by_cases hc : c.toNat = 10
    · rw [if_pos hc, if_pos hc, if_pos rfl, List.append_nil]
    · rw [if_neg hc, if_neg hc, linesG_cut l]
      dsimp only
      simp only [List.append_assoc, List.cons_append, List.nil_append]
/-- a text's lines: the first, and those behind it -/
theorem lines_cut {s : List UInt8} (h : s ≠ []) : linesR s = (cutN s).1 :: linesR (cutN s).2.1 := by
  unfold linesR
  rw [linesG_cut s []]
  split
  · rfl
  · rename_i hf
    rcases index_cut s with ⟨_, h2⟩ | ⟨i, _, _, h2⟩
    · rw [h2, List.nil_append, if_neg h]
      rfl
    · rw [h2] at hf; exact absurd rfl hf
def cutV (s : List UInt8) : Value := .tuple #[str (cutN s).1, str (cutN s).2.1, .bool (cutN s).2.2]
theorem idx10_ok (s : List UInt8) (w : World) : PureC Tryd.prog 138 #[str s, str [10]] w (.int .i64 (Lib.indexByte s 10)) := by
  refine Calls.mono (Tryd.stringslite_Index_one ⟨s.toArray⟩ 10 w) ?_
  rintro e w' ⟨rfl, rfl⟩
  exact ⟨_, rfl, rfl, Frm.refl _⟩
set_option maxHeartbeats 1000000 in
theorem litCut_ok (s : List UInt8) (hb : s.length ≤ 16777216) (w : World) : PureC Tryd.prog 125 #[str s, str [10]] w (cutV s) := by
  have hix := fun w => idx10_ok s w
  unfold cutV
  refine enter (l := [str s, str [10]]) Tryd.func125 rfl Tryd.ntmps125 (by kernel_rfl) rfl ?_
  refine sgo ?_
  refine wlpure (hix _) fun w1 hf1 => ?_
  rcases index_cut s with ⟨h1, h2⟩ | ⟨i, hi, h1, h2⟩
  · rw [h1, h2]
    refine sgo ?_
    (first | refine fp1 (.inl rfl) rfl rfl ?_ | refine fp2 (.inl rfl) rfl rfl rfl ?_ | refine fp3 (.inl rfl) rfl rfl rfl rfl ?_ | refine fp0 (.inr rfl) rfl ?_ | refine fp0 (.inl rfl) rfl ?_ | refine fp1 (.inr rfl) rfl rfl ?_); refine ⟨?_, by (first | exact Frm.refl _ | assumption | exact Go.Sv.Sep.frm (by assumption) | (refine Frm.trans ?_ (by assumption); first | exact Frm.refl _ | assumption))⟩; (try simp only [realB, rv_true, Nat.reduceBEq, cond_true, cond_false, entG, real_lif, updGL])
    all_goals rfl
  · rw [h1, h2]
    refine sgo ?_
    refine wcyes ?_ (ht := by simp)
    refine sgo ?_
    refine wcdraw ?_
    refine qgo ?_
    have h10 : ([10] : List UInt8).length = 1 := rfl
    rw [h10]
    refine qgo ?_
    refine QL_nil ?_
    intro w2 hf2
    refine thn_normal ?_
    refine sgo ?_
    have e1 : ((i : Int) + ((1 : Nat) : Int)).toNat = i + 1 := by omega
    simp only [e1]
    have hf := hf1.trans hf2
    clear hf1 hf2
    (first | refine fp1 (.inl rfl) rfl rfl ?_ | refine fp2 (.inl rfl) rfl rfl rfl ?_ | refine fp3 (.inl rfl) rfl rfl rfl rfl ?_ | refine fp0 (.inr rfl) rfl ?_ | refine fp0 (.inl rfl) rfl ?_ | refine fp1 (.inr rfl) rfl rfl ?_); refine ⟨?_, by (first | exact Frm.refl _ | assumption | exact Go.Sv.Sep.frm (by assumption) | (refine Frm.trans ?_ (by assumption); first | exact Frm.refl _ | assumption))⟩; (try simp only [realB, rv_true, Nat.reduceBEq, cond_true, cond_false, entG, real_lif, updGL])
    all_goals rfl
theorem cut10_ok (s : List UInt8) (hb : s.length ≤ 16777216) (w : World) : PureC Tryd.prog 103 #[str s, str [10]] w (cutV s) := by
  have hix := fun w => litCut_ok s hb w
  unfold cutV at *
  refine enter (l := [str s, str [10]]) Tryd.func103 rfl Tryd.ntmps103 (by kernel_rfl) rfl ?_
  refine sgo ?_
  refine wlpure (hix _) fun w1 hf1 => ?_
  refine sgo ?_
  (first | refine fp1 (.inl rfl) rfl rfl ?_ | refine fp2 (.inl rfl) rfl rfl rfl ?_ | refine fp3 (.inl rfl) rfl rfl rfl rfl ?_ | refine fp0 (.inr rfl) rfl ?_ | refine fp0 (.inl rfl) rfl ?_ | refine fp1 (.inr rfl) rfl rfl ?_); refine ⟨?_, by (first | exact Frm.refl _ | assumption | exact Go.Sv.Sep.frm (by assumption) | (refine Frm.trans ?_ (by assumption); first | exact Frm.refl _ | assumption))⟩; (try simp only [realB, rv_true, Nat.reduceBEq, cond_true, cond_false, entG, real_lif, updGL])
  all_goals rfl
end Go.Proofs.YthgbpgjpnaanlaaDoor

/-
  strings.Split at a byte, as a law of lists; a text's lines.
-/
set_option linter.unusedSimpArgs false
set_option linter.unusedVariables false
set_option linter.unnecessarySimpa false
namespace Go.Sv
open Go Go.RowKit
theorem idx_none {c : UInt8} : ∀ {l : List UInt8}, (∀ x ∈ l, x ≠ c) → Lib.indexByte l c = -1
  | [], _ => rfl
  | b :: l, h => by
    have ih := idx_none (l := l) fun x hx => h x (List.mem_cons_of_mem _ hx)
    have hb : (b == c) = false := beq_eq_false_iff_ne.2 (h b List.mem_cons_self)
    unfold Lib.indexByte
    rw [hb, ih]
    rfl
theorem idx_at {c : UInt8} : ∀ {x r : List UInt8}, (∀ y ∈ x, y ≠ c) → Lib.indexByte (x ++ c :: r) c = (x.length : Int)
  | [], r, _ => by
    show Lib.indexByte (c :: r) c = _
    unfold Lib.indexByte
    rw [beq_self_eq_true]
    rfl
  | b :: x, r, h => by
    have ih := idx_at (x := x) (r := r) fun y hy => h y (List.mem_cons_of_mem _ hy)
    have hb : (b == c) = false := beq_eq_false_iff_ne.2 (h b List.mem_cons_self)
    show Lib.indexByte (b :: (x ++ c :: r)) c = _
    unfold Lib.indexByte
    have hne : ((x.length : Int) == -1) = false := by rw [beq_eq_false_iff_ne]; omega
    rw [hb, ih, hne]
    simp
/-- the pieces of a text between bytes -/
def spR (s : List UInt8) (c : UInt8) : List (List UInt8) := (Lib.splitB ⟨#[c]⟩ 0 (Lib.countB ⟨s.toArray⟩ ⟨#[c]⟩) ⟨s.toArray⟩).map fun x => x.data.toList
theorem spR_eq (s : List UInt8) (c : UInt8) : spR s c = Lib.splitK [c] 0 (Lib.count s [c]) s := Lib.splitB_data ⟨#[c]⟩ 0 _ ⟨s.toArray⟩
theorem spR_none {s : List UInt8} {c : UInt8} (h : ∀ x ∈ s, x ≠ c) : spR s c = [s] := by
  have hi : Lib.index s [c] = -1 := (Lib.index_one s c).trans (idx_none h)
  rw [spR_eq, Lib.count_miss hi]
  rfl
theorem spR_at {x r : List UInt8} {c : UInt8} (h : ∀ y ∈ x, y ≠ c) : spR (x ++ c :: r) c = x :: spR r c := by
  have hi : Lib.index (x ++ c :: r) [c] = (x.length : Int) := (Lib.index_one _ c).trans (idx_at h)
  have hd : (x ++ c :: r).drop (x.length + [c].length) = r := by
    have e : x ++ c :: r = (x ++ [c]) ++ r := by simp
    rw [e, show x.length + [c].length = (x ++ [c]).length by simp, List.drop_left]
  rw [spR_eq, spR_eq, Lib.count_hit (by simp) hi, hd, Nat.add_comm, Lib.splitK, if_neg (by rw [hi, beq_iff_eq]; omega), hi]
  simp only [Int.toNat_natCast, hd, Nat.add_zero]
  rw [List.take_left]
theorem spR_len (s : List UInt8) (c : UInt8) : (spR s c).length = Lib.countB ⟨s.toArray⟩ ⟨#[c]⟩ + 1 := by
  unfold spR
  rw [List.length_map, Lib.splitB_all ⟨#[c]⟩ (Nat.le_refl 1) 0 _ _ rfl]
/-! ## an end cut off -/
theorem trs_end (x : List UInt8) (c : UInt8) : Lib.trimSuffix (x ++ [c]) [c] = x := by
  unfold Lib.trimSuffix Lib.hasSuffix
  rw [if_pos (List.isSuffixOf_iff_suffix.2 (List.suffix_append x [c]))]
  simp
theorem trs_other {x : List UInt8} {a c : UInt8} (h : a ≠ c) : Lib.trimSuffix (x ++ [a]) [c] = x ++ [a] := by
  unfold Lib.trimSuffix Lib.hasSuffix
  rw [if_neg]
  intro hh
  obtain ⟨t, ht⟩ := List.isSuffixOf_iff_suffix.1 hh
  have := List.append_inj_right' ht rfl
  simp at this
  exact h this.symm
theorem trs_none {s : List UInt8} {c : UInt8} (h : ∀ x ∈ s, x ≠ c) : Lib.trimSuffix s [c] = s := by
  rcases List.eq_nil_or_concat s with rfl | ⟨x, a, rfl⟩
  · rfl
  · rw [List.concat_eq_append] at h ⊢
    exact trs_other (h a (by simp))
theorem trs_mid {x r : List UInt8} {c : UInt8} (h : r ≠ []) : Lib.trimSuffix (x ++ c :: r) [c] = x ++ c :: Lib.trimSuffix r [c] := by
  rcases List.eq_nil_or_concat r with rfl | ⟨y, a, rfl⟩
  · exact absurd rfl h
  · rw [List.concat_eq_append]
    have e : x ++ c :: (y ++ [a]) = (x ++ c :: y) ++ [a] := by simp
    rw [e]
    by_cases ha : a = c
    · subst ha
      rw [trs_end, trs_end]
    · rw [trs_other ha, trs_other ha, e]
theorem trs_len (s : List UInt8) (c : UInt8) : (Lib.trimSuffix s [c]).length ≤ s.length := by
  unfold Lib.trimSuffix
  split
  · rw [List.length_take]; omega
  · exact Nat.le_refl _
end Go.Sv
namespace Go.Proofs.YthgbpgjpnaanlaaDoor
open Go Go.Sv Go.RowKit

theorem ne10 {l : List UInt8} (h : ∀ x ∈ l, x.toNat ≠ 10) : ∀ x ∈ l, x ≠ (10 : UInt8) := fun x hx e => h x hx (by rw [e]; rfl)
theorem spl_lines : ∀ (n : Nat) (s : List UInt8), s.length ≤ n → s ≠ [] → spR (Lib.trimSuffix s [10]) 10 = linesR s
  | 0, s, hn, h => absurd (List.eq_nil_of_length_eq_zero (by omega)) h
  | n + 1, s, hn, h => by
    have hc := lines_cut h
    have hno := cutT_no s
    rcases index_cut s with ⟨h1, h2⟩ | ⟨i, hi, h1, h2⟩
    · rw [h2] at hc hno
      rw [hc, trs_none (ne10 hno), spR_none (ne10 hno)]
      rfl
    · rw [h2] at hc hno
      dsimp only at hc hno
      have hs : s = s.take i ++ 10 :: s.drop (i + 1) := by
        have hg := (Lib.indexByte_some h1).1
        have e1 := List.drop_eq_getElem_cons hi
        have e2 : s[i] = 10 := by rw [List.getElem?_eq_getElem hi] at hg; exact Option.some.inj hg
        rw [e2] at e1
        rw [← e1, List.take_append_drop]
      rw [hc]
      conv => lhs; rw [hs]
      by_cases hr : s.drop (i + 1) = []
      · rw [hr, trs_end, spR_none (ne10 hno)]
        rfl
      · rw [trs_mid hr, spR_at (ne10 hno), spl_lines n _ (by rw [List.length_drop]; omega) hr]
/-- the size cell of internal/bytealg holds a number -/
def MaxW (w : World) : Prop := ∃ m, w.cell? ⟨2, 0, none⟩ = some (.int .i64 m)
theorem MaxW.of_shape {w : World} (h : w.ShapedOpen Tryd.prog) : MaxW w := Tryd.laysM146.s1_3 w h
theorem MaxW.frm {w w' : World} (h : MaxW w) (hf : Frm w w') : MaxW w' := by
  obtain ⟨m, hm⟩ := h
  refine ⟨m, ?_⟩
  have hlt : 2 < w.heap.size := by
    rcases Nat.lt_or_ge 2 w.heap.size with h | h
    · exact h
    · unfold World.cell? at hm
      rw [Array.getElem?_eq_none h] at hm
      cases hm
  unfold World.cell? at hm ⊢
  rw [show w'.heap[2]? = w.heap[2]? from hf.block _ hlt]
  exact hm
theorem spSplit_ok (s : List UInt8) (c : UInt8) (hb : s.length ≤ 1073741824) (w : World) (hM : MaxW w) :
    CallsR Tryd.prog 75 #[str s, str [c]] w fun v w' => ∃ b, v = .slice (pb b) (spR s c).length (spR s c).length ∧ Sep w w' [pOwn b (strs (spR s c))] := by
  obtain ⟨m, hm⟩ := hM
  refine Calls.mono (Tryd.strings_Split ⟨s.toArray⟩ ⟨#[c]⟩ m w (by rw [ByteArray.size]; simp; omega) hm (Nat.le_refl 1)) ?_
  rintro e w' ⟨rfl, rfl⟩
  refine ⟨_, rfl, w.heap.size, ?_, ?_⟩
  · rw [spR_len]
  · refine (Sep.start w).push (frm_alloc w _) ?_ (by simp [pOwn])
    have e : strs (spR s c) = (Lib.splitB ⟨#[c]⟩ 0 (Lib.countB ⟨s.toArray⟩ ⟨#[c]⟩) ⟨s.toArray⟩).map Value.string := by
      unfold spR strs
      rw [List.map_map]
      refine List.map_congr_left fun x _ => ?_
      rfl
    rw [e]
    exact own_alloc w _ _
end Go.Proofs.YthgbpgjpnaanlaaDoor

/-
  How events nest: the plain part; the stack of names.
-/
set_option linter.unusedSimpArgs false
set_option linter.unusedVariables false
set_option linter.unnecessarySimpa false
namespace Go.Sv
open Go Go.RowKit
/-- a cut behind a piece of code -/
theorem wcutt {P : Program} {n : Nat} {ds : Ctx} {K : Ctx → Env → World → Prop} {Q : Exit → Ctx → Env → World → Prop} {σ : Env} {w : World} {a : Code} {X : Type} (sl : X → List (Nat × Value)) (I : X → World → Prop)
    (ha : WC P n ds a (thl ds (fun σ w => ∃ x, Has σ (sl x) ∧ I x w) Q) σ w) (hb : ∀ x w (ρ : GE), I x w → K ds (real (updGL ρ (sl x))) w) : WC P n ds a (thn K Q) σ w := by
  refine WC_mono ha ?_
  intro e c' σ' w' h
  unfold thl at h
  unfold thn
  cases e <;> try exact h
  obtain ⟨rfl, x, h1, h2⟩ := h
  have := hb x w' (lif σ') h2
  rw [← real_updL, updL_has h1] at this
  exact this
/-- two worlds that agree on the first B blocks -/
structure Same (B : Nat) (w w' : World) : Prop where
  os : w'.os = w.os
  tape : w'.tape = w.tape
  output : w'.output = w.output
  size : B ≤ w'.heap.size
  block : ∀ k, k < B → w'.heap[k]? = w.heap[k]?
theorem Same.of_frm {w0 w w' : World} (h : Frm w0 w) (h' : Frm w0 w') : Same w0.heap.size w w' := ⟨h'.os.trans h.os.symm, h'.tape.trans h.tape.symm, h'.output.trans h.output.symm, h'.size, fun k hk => (h'.block k hk).trans (h.block k hk).symm⟩
theorem Same.frm {w w1 w2 : World} (h : Frm w w1) (h' : Same w.heap.size w1 w2) : Frm w w2 := ⟨h'.os.trans h.os, h'.tape.trans h.tape, h'.output.trans h.output, h'.size, fun k hk => (h'.block k hk).trans (h.block k hk)⟩
theorem Same.of_sep {w0 w w' : World} {cs ds : List Plot} (h : Sep w0 w cs) (h' : Sep w0 w' ds) : Same w0.heap.size w w' := Same.of_frm h.frm h'.frm
theorem Own.same {B : Nat} {w w' : World} {b : Nat} {l : List Value} (h : Own w b l) (hs : Same B w w') (hb : b < B) : Own w' b l := h.of_block (hs.block b hb)
/-- what was there before has been written: the pieces stay -/
theorem Sep.rebase {w0 w w' : World} {cs : List Plot} {N : List Nat} (h : Sep w0 w cs) (hl : Le N w w') (hN : ∀ x ∈ N, x < w0.heap.size) : ∃ w1 : World, w1.heap.size = w0.heap.size ∧ Sep w1 w' cs := by
  have hsz : w0.heap.size ≤ w'.heap.size := Nat.le_trans h.frm.size hl.size
  refine ⟨{ w' with heap := w'.heap.extract 0 w0.heap.size }, by simp; omega, ⟨⟨rfl, rfl, rfl, by simp; omega, fun k hk => ?_⟩, fun c hc => ?_, fun c hc x hx => ?_, h.apart⟩⟩
  · simp at hk
    simp [Array.getElem?_extract, Nat.sub_zero]
    intro h1
    omega
  · refine c.loc w w' (h.ok c hc) fun x hx => hl.block x (h.lt hc x hx) fun hm => ?_
    have := hN x hm
    have := h.low c hc x hx
    omega
  · have := h.low c hc x hx
    simp
    omega
end Go.Sv
namespace Go.Proofs.YthgbpgjpnaanlaaDoor
open Go Go.Sv Go.RowKit

/-! ## The plain part -/
structure Lk where
  stack : List (List UInt8)
  most : Nat
  at_ : Nat
  err : Int
  good : Nat
def lkStep (k : Lk) (e : Ev) : Lk :=
  if k.err = 0 then
    if evR e then
      if e.kind = 1 then ⟨k.stack ++ [e.name], max k.most (k.stack.length + 1), 0, 0, k.good + 1⟩
      else if e.kind = 3 then ⟨k.stack, max k.most (k.stack.length + 1), 0, 0, k.good + 1⟩
      else if e.kind = 2 then (if k.stack.getLast? = some e.name then ⟨k.stack.dropLast, k.most, 0, 0, k.good + 1⟩ else { k with at_ := k.good, err := 181 })
      else ⟨k.stack, k.most, 0, 0, k.good + 1⟩
    else { k with at_ := k.good, err := 180 }
  else k
def lk0 : Lk := ⟨[], 0, 0, 0, 0⟩
/-- how events nest -/
def lkR (l : List Ev) : Lk := l.foldl lkStep lk0
theorem lk_bad {k : Lk} (h : k.err ≠ 0) (l : List Ev) : l.foldl lkStep k = k := by
  induction l with
  | nil => rfl
  | cons e l ih => rw [List.foldl_cons, lkStep, if_neg h, ih]
theorem lk_take {l : List Ev} {i : Nat} {e : Ev} (h : l[i]? = some e) : lkR (l.take (i + 1)) = lkStep (lkR (l.take i)) e := by
  rw [List.take_add_one, h, lkR, List.foldl_append]; rfl
theorem lk_split (l : List Ev) (i : Nat) : lkR l = (l.drop i).foldl lkStep (lkR (l.take i)) := by
  conv => lhs; rw [← List.take_append_drop i l, lkR, List.foldl_append]
  rfl
theorem lk_stop {l : List Ev} {i : Nat} (h : (lkR (l.take i)).err ≠ 0) : lkR l = lkR (l.take i) := by rw [lk_split l i, lk_bad h]
theorem lk_ok {l : List Ev} (h : (lkR l).err = 0) : (lkR l).at_ = 0 ∧ (lkR l).good = l.length ∧ (lkR l).stack.length ≤ l.length ∧ (lkR l).most ≤ l.length := by
  have key : ∀ (l : List Ev) (k : Lk), (l.foldl lkStep k).err = 0 → k.at_ = 0 → (l.foldl lkStep k).at_ = 0 ∧ (l.foldl lkStep k).good = k.good + l.length ∧ (l.foldl lkStep k).stack.length ≤ k.stack.length + l.length ∧ (l.foldl lkStep k).most ≤ max k.most k.stack.length + l.length := by
    intro l
    induction l with
    | nil => intro k h1 h2; exact ⟨h2, rfl, Nat.le_refl _, by simp [Nat.le_max_left]⟩
    | cons e l ih =>
      intro k h1 h2
      rw [List.foldl_cons] at h1 ⊢
      have hk : (lkStep k e).err = 0 := by
        apply Decidable.byContradiction
        intro hne
        rw [lk_bad hne] at h1
        exact hne h1
      have hs : (lkStep k e).at_ = 0 ∧ (lkStep k e).good = k.good + 1 ∧ (lkStep k e).stack.length ≤ k.stack.length + 1 ∧ (lkStep k e).most ≤ max k.most k.stack.length + 1 ∧ max (lkStep k e).most (lkStep k e).stack.length ≤ max k.most k.stack.length + 1 := by
        revert hk
        unfold lkStep
        split <;> (try split) <;> (try split) <;> (try split) <;> (try split) <;> (try split) <;> intro hk <;> simp at hk ⊢ <;> omega
      obtain ⟨g1, g2, g3, g4⟩ := ih _ h1 hs.1
      refine ⟨g1, by rw [g2, hs.2.1, List.length_cons]; omega, by rw [List.length_cons]; omega, by rw [List.length_cons]; omega⟩
  have := key l lk0 h rfl
  simpa [lkR, lk0] using this
/-- the first wrong one -/
theorem lk_err {l : List Ev} (h : (lkR l).err ≠ 0) : ∃ i, ∃ hi : i < l.length, (lkR (l.take i)).err = 0 ∧ lkR l = lkStep (lkR (l.take i)) l[i] := by
  have key : ∀ n, n ≤ l.length → (lkR (l.take n)).err = 0 ∨ ∃ i, ∃ hi : i < l.length, (lkR (l.take i)).err = 0 ∧ lkR l = lkStep (lkR (l.take i)) l[i] := by
    intro n
    induction n with
    | zero => intro _; exact .inl rfl
    | succ n ih =>
      intro hn
      rcases ih (by omega) with h1 | h1
      · have hx : l[n]? = some l[n] := List.getElem?_eq_getElem (by omega)
        by_cases h2 : (lkR (l.take (n + 1))).err = 0
        · exact .inl h2
        · exact .inr ⟨n, by omega, h1, by rw [lk_stop h2, lk_take hx]⟩
      · exact .inr h1
  rcases key l.length (Nat.le_refl _) with h1 | h1
  · rw [List.take_length] at h1; exact absurd h1 h
  · exact h1
/-- the wrong one, said -/
theorem lk_wrong {k : Lk} {e : Ev} (h0 : k.err = 0) (h : (lkStep k e).err ≠ 0) : lkStep k e = { k with at_ := k.good, err := if evR e then 181 else 180 } := by
  revert h
  unfold lkStep
  rw [if_pos h0]
  cases he : evR e with
  | false => intro _; rfl
  | true =>
    simp only [if_true]
    split
    · intro h; exact absurd rfl h
    · split
      · intro h; exact absurd rfl h
      · split
        · split
          · intro h; exact absurd rfl h
          · intro _; rfl
        · intro h; exact absurd rfl h
theorem lk_bound (l : List Ev) : (lkR l).stack.length ≤ l.length ∧ (lkR l).most ≤ l.length ∧ (lkR l).at_ ≤ l.length ∧ (lkR l).good ≤ l.length := by
  by_cases h : (lkR l).err = 0
  · obtain ⟨h1, h2, h3, h4⟩ := lk_ok h
    omega
  · obtain ⟨i, hi, h0, e⟩ := lk_err h
    have := lk_ok h0
    rw [e] at h ⊢
    rw [lk_wrong h0 h]
    simp only [List.length_take] at this
    dsimp only
    omega
/-- one that is right -/
theorem lk_right {k : Lk} {e : Ev} (h0 : k.err = 0) (h : (lkStep k e).err = 0) : evR e = true ∧ lkStep k e = ⟨if e.kind = 1 then k.stack ++ [e.name] else if e.kind = 2 then k.stack.dropLast else k.stack, if e.kind = 1 ∨ e.kind = 3 then max k.most (k.stack.length + 1) else k.most, 0, 0, k.good + 1⟩ := by
  revert h
  unfold lkStep
  rw [if_pos h0]
  cases he : evR e with
  | false => intro h; simp at h
  | true =>
    simp only [if_true]
    by_cases h1 : e.kind = 1
    · simp [h1]
    · rw [if_neg h1]
      by_cases h3 : e.kind = 3
      · simp [h3]
      · rw [if_neg h3]
        by_cases h2 : e.kind = 2
        · rw [if_pos h2]
          split
          · simp [h2]
          · intro h; simp at h
        · simp [h1, h2, h3]

/-! ## A stack of names in memory -/
/-- a stack: where it lies, and its names -/
def pStk (b : Nat) (p : Option Addr) (c : Nat) (st : List (List UInt8)) : List Plot := [pOwn b [.slice p st.length c], pRow 1 p st.length c (strs st)]
set_option maxHeartbeats 1000000 in
theorem push_ok (b : Nat) (p : Option Addr) (c : Nat) (st : List (List UInt8)) (x : List UInt8) (hb : st.length ≤ 1048576) (w0 w : World) (cs : List Plot) (hS : Sep w0 w (pOwn b [.slice p st.length c] :: pRow 1 p st.length c (strs st) :: cs)) :
    CallsR Tryd.prog 67 #[ptrAt (pb b) 0, str x] w fun _ w' => ∃ p' c', Sep w0 w' (pOwn b [.slice p' (st ++ [x]).length c'] :: pRow 1 p' (st ++ [x]).length c' (strs (st ++ [x])) :: cs) := by
  refine enter (l := [ptrAt (pb b) 0, str x]) Tryd.func67 rfl Tryd.ntmps67 (by kernel_rfl) rfl ?_
  refine sgo ?_
  refine sb1s hS fun b2 w2 hS => ?_
  refine sgo ?_
  refine sapp hS 2 (hS.own 0 rfl).sg fun p' c' w3 hS => ?_
  rw [strs_snoc] at hS
  have hn : st.length + 1 = (st ++ [x]).length := by simp
  rw [hn] at hS ⊢
  refine sgo ?_
  refine sst_slice hS 1 fun w4 hS => ?_
  refine sgo ?_
  (first | refine fp1 (.inl rfl) rfl rfl ?_ | refine fp2 (.inl rfl) rfl rfl rfl ?_ | refine fp3 (.inl rfl) rfl rfl rfl rfl ?_ | refine fp0 (.inr rfl) rfl ?_ | refine fp0 (.inl rfl) rfl ?_ | refine fp1 (.inr rfl) rfl rfl ?_)
  exact ⟨p', c', hS.tail⟩
set_option maxHeartbeats 1000000 in
theorem pop_ok (b : Nat) (p : Option Addr) (c : Nat) (st : List (List UInt8)) (hb : st.length ≤ 1048576) (h0 : st ≠ []) (w0 w : World) (cs : List Plot) (hS : Sep w0 w (pOwn b [.slice p st.length c] :: pRow 1 p st.length c (strs st) :: cs)) :
    CallsR Tryd.prog 69 #[ptrAt (pb b) 0] w fun _ w' => Sep w0 w' (pOwn b [.slice p st.dropLast.length c] :: pRow 1 p st.dropLast.length c (strs st.dropLast) :: cs) := by
  have hpos : 0 < st.length := List.length_pos_iff.2 h0
  have hle := (hS.row 1 rfl).le_cap
  refine enter (l := [ptrAt (pb b) 0]) Tryd.func69 rfl Tryd.ntmps69 (by kernel_rfl) rfl ?_
  refine sgo ?_
  refine wcdrawt 14 ?_
  refine qgo ?_
  refine QL_nil ?_
  intro w1 hf1
  replace hS := hS.grow hf1
  refine sgo ?_
  refine sst_slice hS 0 fun w4 hS => ?_
  refine sgo ?_
  (first | refine fp1 (.inl rfl) rfl rfl ?_ | refine fp2 (.inl rfl) rfl rfl rfl ?_ | refine fp3 (.inl rfl) rfl rfl rfl rfl ?_ | refine fp0 (.inr rfl) rfl ?_ | refine fp0 (.inl rfl) rfl ?_ | refine fp1 (.inr rfl) rfl rfl ?_)
  have hn : ((st.length : Int) - 1).toNat = st.dropLast.length := by simp
  rw [hn] at hS
  refine Sep.turn (c := pRow 1 p st.length c (strs st)) (c' := pRow 1 p st.dropLast.length c (strs st.dropLast)) hS 1 rfl (fun h => ?_) (fun x hx => hx)
  have := Row.take h (j := st.dropLast.length) (by simp)
  rw [Nat.mul_one] at this
  have e : (strs st).take st.dropLast.length = strs st.dropLast := by rw [strs, strs, ← List.map_take, List.length_dropLast, List.dropLast_eq_take]
  rw [e] at this
  exact this
set_option maxHeartbeats 1000000 in
theorem top_ok (b : Nat) (p : Option Addr) (c : Nat) (st : List (List UInt8)) (hb : st.length ≤ 1048576) (w0 w : World) (cs : List Plot) (hS : Sep w0 w (pOwn b [.slice p st.length c] :: pRow 1 p st.length c (strs st) :: cs)) :
    PureC Tryd.prog 78 #[ptrAt (pb b) 0] w (.tuple #[str (st.getLast?.getD []), .bool !decide (st = [])]) := by
  refine enter (l := [ptrAt (pb b) 0]) Tryd.func78 rfl Tryd.ntmps78 (by kernel_rfl) rfl ?_
  refine sgo ?_
  (show WC _ _ _ _ _ _ _; first | refine WC_dec rfl (fun hc => ?_) (fun hc => ?_) | refine WC_cond rfl (fun hc => ?_) (fun hc => ?_))
  · obtain rfl : st = [] := List.length_eq_zero_iff.1 (by omega)
    refine sgo ?_
    (first | refine fp1 (.inl rfl) rfl rfl ?_ | refine fp2 (.inl rfl) rfl rfl rfl ?_ | refine fp3 (.inl rfl) rfl rfl rfl rfl ?_ | refine fp0 (.inr rfl) rfl ?_ | refine fp0 (.inl rfl) rfl ?_ | refine fp1 (.inr rfl) rfl rfl ?_); refine ⟨?_, by (first | exact Frm.refl _ | assumption | exact Go.Sv.Sep.frm (by assumption) | (refine Frm.trans ?_ (by assumption); first | exact Frm.refl _ | assumption))⟩; (try simp only [realB, rv_true, Nat.reduceBEq, cond_true, cond_false, entG, real_lif, updGL])
    rfl
  · have h0 : st ≠ [] := fun h => hc (by rw [h]; rfl)
    have hpos : 0 < st.length := List.length_pos_iff.2 h0
    clear hc
    have hp : ∃ a, p = some a := (hS.row 1 rfl).sg.some (by rw [strs_len]; exact hpos)
    have hg : (strs st)[((st.length : Int) - 1).toNat]? = some (str (st.getLast?.getD [])) := by
      rw [show ((st.length : Int) - 1).toNat = st.length - 1 by omega, strs, List.getElem?_map, List.getLast?_eq_getElem?, List.getElem?_eq_getElem (by omega)]
      rfl
    refine sgo ?_
    refine wcdraw ?_
    refine qgo ?_
    refine QL_nil ?_
    intro w1 hf1
    refine sgo ?_
    (first | refine fp1 (.inl rfl) rfl rfl ?_ | refine fp2 (.inl rfl) rfl rfl rfl ?_ | refine fp3 (.inl rfl) rfl rfl rfl rfl ?_ | refine fp0 (.inr rfl) rfl ?_ | refine fp0 (.inl rfl) rfl ?_ | refine fp1 (.inr rfl) rfl rfl ?_); refine ⟨?_, by (first | exact Frm.refl _ | assumption | exact Go.Sv.Sep.frm (by assumption) | (refine Frm.trans ?_ (by assumption); first | exact Frm.refl _ | assumption))⟩; (try simp only [realB, rv_true, Nat.reduceBEq, cond_true, cond_false, entG, real_lif, updGL])
    simp [h0]
end Go.Proofs.YthgbpgjpnaanlaaDoor

/-
  Package event: walk.
-/
set_option linter.unusedSimpArgs false
set_option linter.unusedVariables false
set_option linter.unnecessarySimpa false
namespace Go.Proofs.YthgbpgjpnaanlaaDoor
open Go Go.Sv Go.RowKit

/-- the events alone -/
def evs (ms : List EvM) : List Ev := ms.map EvM.e
theorem evs_len (ms : List EvM) : (evs ms).length = ms.length := by simp [evs]
theorem evs_at {ms : List EvM} {i : Nat} {m : EvM} (h : ms[i]? = some m) : (evs ms)[i]? = some m.e := by simp [evs, h]
/-- how the first i nest -/
def lkI (ms : List EvM) (i : Nat) : Lk := lkR ((evs ms).take i)
theorem lkI_succ {ms : List EvM} {i : Nat} {m : EvM} (h : ms[i]? = some m) : lkI ms (i + 1) = lkStep (lkI ms i) m.e := lk_take (evs_at h)
theorem lkI_ok {ms : List EvM} {i : Nat} (hi : i ≤ ms.length) (h : (lkI ms i).err = 0) : (lkI ms i).at_ = 0 ∧ (lkI ms i).good = i ∧ (lkI ms i).stack.length ≤ i ∧ (lkI ms i).most ≤ i := by
  have := lk_ok h
  rw [List.length_take, evs_len, Nat.min_eq_left hi] at this
  exact this
theorem lkI_stop {ms : List EvM} {i : Nat} (h : (lkI ms i).err ≠ 0) : lkR (evs ms) = lkI ms i := lk_stop h
theorem lkI_all (ms : List EvM) : lkI ms ms.length = lkR (evs ms) := by rw [lkI, ← evs_len, List.take_length]

set_option maxHeartbeats 1000000 in
/-- walk, over whatever it is that sees -/
theorem walk_ok (ms : List EvM) (p : Option Addr) (c : Nat) (hn : ms.length ≤ 1048576) (hs : ∀ m ∈ ms, m.e.small) (f : FuncId) [hf : Fnc Tryd.prog f] (cap : List Value) (B : Nat) (J Jx : Nat → World → Prop)
    (hJE : ∀ i w, J i w → Evs w p ms ∧ Asc w) (hst : ∀ i w1 w2, J i w1 → Same B w1 w2 → J i w2) (hstx : ∀ i w1 w2, Jx i w1 → Same B w1 w2 → Jx i w2)
    (hsee : ∀ i w1 m, J i w1 → ms[i]? = some m → (lkI ms i).err = 0 → (lkI ms (i + 1)).err = 0 → CallsR Tryd.prog f ([int (lkI ms i).stack.length, .agg ⟨m.cells⟩] ++ cap).toArray w1 fun v w2 => ∃ bb N, v = .bool bb ∧ Le N w1 w2 ∧ (∀ x ∈ N, x < B) ∧ if bb then J (i + 1) w2 else Jx i w2)
    (w : World) (hB : B = w.heap.size) (h0 : J 0 w) :
    CallsR Tryd.prog 43 #[.slice p ms.length c, .func (.func f) #[] ⟨cap⟩] w fun v w' =>
      (J (lkR (evs ms)).good w' ∧ (lkR (evs ms)).err ≠ 0 ∧ v = .tuple #[int (lkR (evs ms)).at_, int (lkR (evs ms)).err, .slice none 0 0]) ∨
      (J ms.length w' ∧ (lkR (evs ms)).err = 0 ∧ ∃ q cc w0, v = .tuple #[int 0, int 0, .slice q (lkR (evs ms)).stack.length cc] ∧ w0.heap.size = B ∧ Sep w0 w' [pRow 1 q (lkR (evs ms)).stack.length cc (strs (lkR (evs ms)).stack)]) ∨
      ∃ i q n cc, i < ms.length ∧ (lkI ms (i + 1)).err = 0 ∧ Jx i w' ∧ v = .tuple #[int 0, int 0, .slice q n cc] := by
  refine enter (l := [.slice p ms.length c, .func (.func f) #[] ⟨cap⟩]) Tryd.func43 rfl Tryd.ntmps43 (by kernel_rfl) rfl ?_
  have hS := Sep.start w
  refine sgo ?_
  refine salloc hS fun b7 w7 hS => ?_
  replace hS : Sep w w7 [pOwn b7 [.slice none 0 0]] := hS
  replace hS := (hS.push (c := pRow 1 none 0 0 (strs [])) (Frm.refl w7) (Row.nil w7 1) (by simp [pRow, rb])).front 1 rfl
  have hJ7 := hst 0 _ _ h0 (hB ▸ Same.of_frm (Frm.refl w) hS.frm)
  refine sgo ?_
  refine wcloop (X := Nat × Option Addr × Nat) (fun x => [(1, .func (.func f) #[] ⟨cap⟩), (4, int 0), (5, int 0), (6, .slice none 0 0), (7, ptrAt (pb b7) 0), (13, .slice p ms.length c), (14, int ms.length), (15, int x.1)])
    (fun x wr => x.1 ≤ ms.length ∧ (lkI ms x.1).err = 0 ∧ J x.1 wr ∧ ∃ w0, w0.heap.size = B ∧ Sep w0 wr [pOwn b7 [.slice x.2.1 (lkI ms x.1).stack.length x.2.2], pRow 1 x.2.1 (lkI ms x.1).stack.length x.2.2 (strs (lkI ms x.1).stack)])
    (fun x => ms.length - x.1) (0, none, 0) ⟨rfl, rfl, rfl, rfl, rfl, rfl, rfl, rfl, trivial⟩ ⟨Nat.zero_le _, rfl, hJ7, w, hB.symm, hS⟩ ?_
  clear hS hJ7 h0
  rintro ⟨i, q, cc⟩ wr ρ ⟨hil, herr, hJ, w0, hw0, hS⟩
  dsimp only at *
  have hok := lkI_ok hil herr
  have hE := (hJE i wr hJ).1
  have hA := (hJE i wr hJ).2
  refine sgo ?_
  (show WC _ _ _ _ _ _ _; first | refine WC_dec rfl (fun hc => ?_) (fun hc => ?_) | refine WC_cond rfl (fun hc => ?_) (fun hc => ?_))
  · have hlt : i < ms.length := by omega
    have hx : ms[i]? = some ms[i] := List.getElem?_eq_getElem hlt
    have hmem : ms[i] ∈ ms := List.getElem_mem hlt
    have hseg := fm_seg EvM.len ms hx
    have hfl := fm_len EvM.len ms
    have hat := hE.each _ hmem
    have hsm := hs _ hmem
    have hps : ∃ a, p = some a := hE.im.sg.some (by omega)
    have hSg := hE.im.sg
    have hsuc := lkI_succ hx
    generalize ms[i] = m at *
    generalize hk : lkI ms i = k at *
    clear hc
    have hJat : ∀ w' ds, Sep w0 w' ds → J i w' := fun w' ds h => hst i wr w' hJ (hw0 ▸ Same.of_sep hS h)
    clear hat
    obtain ⟨⟨kd, nm, tx, es⟩, mp, mc⟩ := m
    refine sgo ?_
    rw [hseg]
    refine salloc hS fun b9 w9 hS => ?_
    refine sgo ?_
    refine ssta (vs := [int kd, str nm, str tx, .slice mp es.length mc]) hS 0 fun w10 hS => ?_
    replace hS : Sep w0 w10 [pOwn b9 [int kd, str nm, str tx, .slice mp es.length mc], pOwn b7 [.slice q k.stack.length cc], pRow 1 q k.stack.length cc (strs k.stack)] := hS
    have h10 := hJE i _ (hJat _ _ hS)
    refine sgo ?_
    refine wlpure (evCheck_ok ⟨kd, nm, tx, es⟩ mp mc hsm w10 h10.2 (h10.1.each _ hmem)) fun w11 hf11 => ?_
    replace hS := hS.grow hf11
    have hst1 : evR ⟨kd, nm, tx, es⟩ = false → lkStep k ⟨kd, nm, tx, es⟩ = { k with at_ := k.good, err := 180 } := by
      intro he; simp [lkStep, herr, he]
    cases he : evR ⟨kd, nm, tx, es⟩ with
    | false =>
      have hend := lkI_stop (ms := ms) (i := i + 1) (by rw [hsuc]; dsimp only; rw [hst1 he]; simp)
      rw [hsuc] at hend
      dsimp only at hend
      rw [hst1 he] at hend
      refine sgo ?_
      (first | refine fp1 (.inl rfl) rfl rfl ?_ | refine fp2 (.inl rfl) rfl rfl rfl ?_ | refine fp3 (.inl rfl) rfl rfl rfl rfl ?_ | refine fp0 (.inr rfl) rfl ?_ | refine fp0 (.inl rfl) rfl ?_ | refine fp1 (.inr rfl) rfl rfl ?_)
      refine .inl ⟨?_, ?_, ?_⟩
      · rw [hend]; exact hok.2.1 ▸ hJat _ _ hS
      · rw [hend]; exact (by decide : (180 : Int) ≠ 0)
      · rw [hend]; show _ = Value.tuple #[int k.good, int 180, .slice none 0 0]; rw [hok.2.1]; rfl
    | true =>
      refine sgo ?_
      refine wcutt (X := Unit) (fun _ => [(1, .func (.func f) #[] ⟨cap⟩), (4, int 0), (5, int 0), (6, .slice none 0 0), (7, ptrAt (pb b7) 0), (8, int i), (9, ptrAt (pb b9) 0), (13, .slice p ms.length c), (14, int ms.length), (15, int i)])
        (fun _ w' => (lkStep k ⟨kd, nm, tx, es⟩).err = 0 ∧ Sep w0 w' [pOwn b9 [int kd, str nm, str tx, .slice mp es.length mc], pOwn b7 [.slice q k.stack.length cc], pRow 1 q k.stack.length cc (strs k.stack)]) ?_ ?_
      · (show WC _ _ _ _ _ _ _; first | refine WC_dec rfl (fun hc => ?_) (fun hc => ?_) | refine WC_cond rfl (fun hc => ?_) (fun hc => ?_))
        · replace hc : kd = 2 := hc
          subst hc
          refine sgo ?_
          refine wlpure (top_ok b7 q cc k.stack (by omega) w0 w11 [] hS.tail) fun w12 hf12 => ?_
          replace hS := hS.grow hf12
          have h3 : lkStep k ⟨2, nm, tx, es⟩ = if k.stack.getLast? = some nm then ⟨k.stack.dropLast, k.most, 0, 0, k.good + 1⟩ else { k with at_ := k.good, err := 181 } := by
            simp [lkStep, herr, he]
          refine sgo ?_
          have hB2 : pkb (!(!decide (k.stack = []))) true (decide (k.stack.getLast?.getD [] ≠ nm)) = !decide (k.stack.getLast? = some nm) := by
            cases hl : k.stack.getLast? with
            | none => rw [List.getLast?_eq_none_iff.1 hl]; rfl
            | some z =>
              have hne : k.stack ≠ [] := by intro h; rw [h] at hl; cases hl
              simp [hne, pkb]
          rw [hB2]
          by_cases hl : k.stack.getLast? = some nm
          · rw [if_pos hl] at h3
            simp only [hl, decide_true, Bool.not_true]
            refine sgo ?_
            exact ⟨(), ⟨rfl, rfl, rfl, rfl, rfl, rfl, rfl, rfl, rfl, rfl, trivial⟩, by rw [h3], hS⟩
          · rw [if_neg hl] at h3
            have hend := lkI_stop (ms := ms) (i := i + 1) (by rw [hsuc]; dsimp only; rw [h3]; exact (by decide : (181 : Int) ≠ 0))
            rw [hsuc] at hend
            dsimp only at hend
            rw [h3] at hend
            simp only [hl, decide_false, Bool.not_false]
            refine sgo ?_
            (first | refine fp1 (.inl rfl) rfl rfl ?_ | refine fp2 (.inl rfl) rfl rfl rfl ?_ | refine fp3 (.inl rfl) rfl rfl rfl rfl ?_ | refine fp0 (.inr rfl) rfl ?_ | refine fp0 (.inl rfl) rfl ?_ | refine fp1 (.inr rfl) rfl rfl ?_)
            refine .inl ⟨?_, ?_, ?_⟩
            · rw [hend]; exact hok.2.1 ▸ hJat _ _ hS
            · rw [hend]; exact (by decide : (181 : Int) ≠ 0)
            · rw [hend]; show _ = Value.tuple #[int k.good, int 181, .slice none 0 0]; rw [hok.2.1]; rfl
        · replace hc : ¬ kd = 2 := hc
          refine sgo ?_
          refine ⟨(), ⟨rfl, rfl, rfl, rfl, rfl, rfl, rfl, rfl, rfl, rfl, trivial⟩, ?_, hS⟩
          simp only [lkStep, herr, he, if_true, if_neg hc]
          split <;> (try split) <;> rfl
      · clear hS
        rintro _ w12 ρ2 ⟨hright, hS⟩
        obtain ⟨-, hstep⟩ := lk_right herr hright
        dsimp only at hsuc
        have hsee' := hsee i w12 _ (hJat _ _ hS) hx (by rw [hk]; exact herr) (by rw [hsuc]; exact hright)
        rw [hk] at hsee'
        refine sgo ?_
        refine wlcallv (f := f) (first := []) (args := [int k.stack.length, .agg ⟨EvM.cells ⟨⟨kd, nm, tx, es⟩, mp, mc⟩⟩]) (cap := cap) hsee' ?_
        rintro _ w13 ⟨bb, N, rfl, hle, hN, hpost⟩
        obtain ⟨w1, hw1, hS⟩ := hS.rebase hle (by rw [hw0]; exact hN)
        rw [hw0] at hw1
        cases bb with
        | false =>
          simp only [Bool.false_eq_true, if_false] at hpost
          refine sgo ?_
          refine wcdraw ?_
          refine qgo ?_
          refine QL_nil ?_
          intro w14 hf14
          have hS4 := hS.grow hf14
          refine sgo ?_
          (first | refine fp1 (.inl rfl) rfl rfl ?_ | refine fp2 (.inl rfl) rfl rfl rfl ?_ | refine fp3 (.inl rfl) rfl rfl rfl rfl ?_ | refine fp0 (.inr rfl) rfl ?_ | refine fp0 (.inl rfl) rfl ?_ | refine fp1 (.inr rfl) rfl rfl ?_)
          exact .inr (.inr ⟨i, q, k.stack.length, cc, hlt, by rw [hsuc]; exact hright, hstx i _ _ hpost (hw1 ▸ Same.of_sep hS hS4), rfl⟩)
        | true =>
          simp only [if_true] at hpost
          have hjn : ∀ w' ds, Sep w1 w' ds → J (i + 1) w' := fun w' ds h => hst _ _ _ hpost (hw1 ▸ Same.of_sep hS h)
          refine sgo ?_
          (show WC _ _ _ _ _ _ _; first | refine WC_dec rfl (fun hc => ?_) (fun hc => ?_) | refine WC_cond rfl (fun hc => ?_) (fun hc => ?_))
          · replace hc : kd = 1 := hc
            subst hc
            refine sgo ?_
            refine wlcall (push_ok b7 q cc k.stack nm (by omega) w1 w13 [] hS.tail) ?_
            rintro _ w14 ⟨q', c', hS⟩
            refine sgo ?_
            refine ⟨(i + 1, q', c'), ⟨rfl, rfl, rfl, rfl, rfl, rfl, rfl, rfl, trivial⟩, ⟨hlt, by dsimp only; rw [hsuc]; exact hright, hjn _ _ hS, w1, hw1, ?_⟩, (by (try dsimp only); omega)⟩
            dsimp only
            rw [hsuc, hstep]
            exact hS
          · replace hc : ¬ kd = 1 := hc
            have hk1 := hc
            clear hc
            refine sgo ?_
            (show WC _ _ _ _ _ _ _; first | refine WC_dec rfl (fun hc => ?_) (fun hc => ?_) | refine WC_cond rfl (fun hc => ?_) (fun hc => ?_))
            · replace hc : kd = 2 := hc
              subst hc
              have hne : k.stack ≠ [] := by
                intro h
                revert hright
                simp [lkStep, herr, he, h]
              refine sgo ?_
              refine wlcall (pop_ok b7 q cc k.stack (by omega) hne w1 w13 [] hS.tail) ?_
              rintro _ w14 hS
              refine sgo ?_
              refine ⟨(i + 1, q, cc), ⟨rfl, rfl, rfl, rfl, rfl, rfl, rfl, rfl, trivial⟩, ⟨hlt, by dsimp only; rw [hsuc]; exact hright, hjn _ _ hS, w1, hw1, ?_⟩, (by (try dsimp only); omega)⟩
              dsimp only
              rw [hsuc, hstep]
              exact hS
            · replace hc : ¬ kd = 2 := hc
              have hk2 := hc
              clear hc
              refine sgo ?_
              refine ⟨(i + 1, q, cc), ⟨rfl, rfl, rfl, rfl, rfl, rfl, rfl, rfl, trivial⟩, ⟨hlt, by dsimp only; rw [hsuc]; exact hright, hjn _ _ hS, w1, hw1, ?_⟩, (by (try dsimp only); omega)⟩
              dsimp only
              rw [hsuc, hstep]
              dsimp only
              rw [if_neg hk1, if_neg hk2]
              exact hS.tail
  · obtain rfl : i = ms.length := by omega
    rw [lkI_all] at *
    clear hc
    refine sgo ?_
    refine wcdraw ?_
    refine qgo ?_
    refine QL_nil ?_
    intro w1 hf1
    have hS4 := hS.grow hf1
    refine sgo ?_
    (first | refine fp1 (.inl rfl) rfl rfl ?_ | refine fp2 (.inl rfl) rfl rfl rfl ?_ | refine fp3 (.inl rfl) rfl rfl rfl rfl ?_ | refine fp0 (.inr rfl) rfl ?_ | refine fp0 (.inl rfl) rfl ?_ | refine fp1 (.inr rfl) rfl rfl ?_)
    exact .inr (.inl ⟨hst _ _ _ hJ (hw0 ▸ Same.of_sep hS hS4), herr, q, cc, w0, rfl, hw0, hS4.tail⟩)
end Go.Proofs.YthgbpgjpnaanlaaDoor

/-
  Package link: paths without dot segments; the twins.
-/
set_option linter.unusedSimpArgs false
set_option linter.unusedVariables false
set_option linter.unnecessarySimpa false
namespace Go.Sv
open Go Go.RowKit
section
variable {P : Program} {σ : Env} {w : World} {d : Option Tmp} {ty t t' : TypeId} {pos : String} {af : Array Edge} {g : Option (Nat × Bool)} {x y : Operand} {a b : Int} {ats : Array TypeId}
theorem y_max (hx : evl σ x = int a) (hy : evl σ y = int b) : Y P σ ⟨d, .call ⟨.builtin .max, #[x, y], ats⟩, ty, pos, af, g⟩ w (int (max a b)) w := by
  refine Y.val ?_; simp only [execOp, resolve, Sem.run_bind, Sem.run_pure, Result.andThen_ok, invoke, builtin]
  have e : (if b > a then b else a) = max a b := by omega
  simp [hx, hy, Builtin.max_, Builtin.max2, e]
end
end Go.Sv
namespace Go.Proofs.YthgbpgjpnaanlaaDoor
open Go Go.Sv Go.RowKit

/-- how many bytes stand ahead of the first of some -/
def upR (l sm : List UInt8) : Nat := (l.takeWhile fun c => decide (c ∉ sm)).length
/-- the last place below n where c stands -/
def lastF (l : List UInt8) (c : Nat) : Nat → Int
  | 0 => -1
  | n + 1 => if at0 l n = c then n else lastF l c n
def lastR (l : List UInt8) (c : Nat) : Int := lastF l c l.length
def parR (l : List UInt8) : List UInt8 := l.take (max (lastR l 47) 0).toNat













def pfx (p l : List UInt8) : Bool := p.isPrefixOf l
/-- a segment's end -/
def segN (l : List UInt8) : Nat := 1 + upR (l.drop 1) [47]
def dotStep (l out : List UInt8) : List UInt8 × List UInt8 :=
  if pfx [46, 46, 47] l then (l.drop 3, out)
  else if pfx [46, 47] l then (l.drop 2, out)
  else if pfx [47, 46, 47] l then (l.drop 2, out)
  else if l = [47, 46] then ([47], out)
  else if pfx [47, 46, 46, 47] l then (l.drop 3, parR out)
  else if l = [47, 46, 46] then ([47], parR out)
  else if l = [46] ∨ l = [46, 46] then ([], out)
  else (l.drop (segN l), out ++ l.take (segN l))
def dotsF : Nat → List UInt8 → List UInt8 → List UInt8
  | 0, _, out => out
  | f + 1, l, out => if l = [] then out else dotsF f (dotStep l out).1 (dotStep l out).2
def dotsL (l out : List UInt8) : List UInt8 := dotsF l.length l out
end Go.Proofs.YthgbpgjpnaanlaaDoor

/-
  Package event: Nested, Open, Depth.
-/
set_option linter.unusedSimpArgs false
set_option linter.unusedVariables false
set_option linter.unnecessarySimpa false
namespace Go.Proofs.YthgbpgjpnaanlaaDoor
open Go Go.Sv Go.RowKit

theorem all_ok0 (d : Int) (e : Ev) (p : Option Addr) (c : Nat) (w : World) : PureC Tryd.prog 44 #[int d, .agg ⟨e.cells p c⟩] w (.bool true) := by
  refine enter (l := [int d, .agg ⟨e.cells p c⟩]) Tryd.func44 rfl Tryd.ntmps44 (by kernel_rfl) rfl ?_
  have hS := Sep.start w
  refine sgo ?_
  refine sbox (v := .agg ⟨e.cells p c⟩) hS fun b w1 hS => ?_
  refine sgo ?_
  (first | refine fp1 (.inl rfl) rfl rfl ?_ | refine fp2 (.inl rfl) rfl rfl rfl ?_ | refine fp3 (.inl rfl) rfl rfl rfl rfl ?_ | refine fp0 (.inr rfl) rfl ?_ | refine fp0 (.inl rfl) rfl ?_ | refine fp1 (.inr rfl) rfl rfl ?_); refine ⟨?_, by (first | exact Frm.refl _ | assumption | exact Go.Sv.Sep.frm (by assumption) | (refine Frm.trans ?_ (by assumption); first | exact Frm.refl _ | assumption))⟩; (try simp only [realB, rv_true, Nat.reduceBEq, cond_true, cond_false, entG, real_lif, updGL])
/-- walk, that nobody looks at -/
theorem walkAll_ok (ms : List EvM) (p : Option Addr) (c : Nat) (hn : ms.length ≤ 1048576) (hs : ∀ m ∈ ms, m.e.small) (w : World) (hA : Asc w) (hE : Evs w p ms) :
    CallsR Tryd.prog 43 #[.slice p ms.length c, .func (.func 44) #[] #[]] w fun v w' => Frm w w' ∧
      (((lkR (evs ms)).err ≠ 0 ∧ v = .tuple #[int (lkR (evs ms)).at_, int (lkR (evs ms)).err, .slice none 0 0]) ∨
      ((lkR (evs ms)).err = 0 ∧ ∃ q cc, v = .tuple #[int 0, int 0, .slice q (lkR (evs ms)).stack.length cc] ∧ Sep w w' [pRow 1 q (lkR (evs ms)).stack.length cc (strs (lkR (evs ms)).stack)])) := by
  refine CallsR.mono (walk_ok ms p c hn hs 44 [] w.heap.size (fun _ w' => Frm w w') (fun _ _ => False) (fun _ w' h => ⟨hE.frm h, hA.frm h⟩) (fun _ _ _ h h' => h'.frm h) (fun _ _ _ h _ => h)
    (fun i w1 m h _ _ _ => ?_) w rfl (Frm.refl w)) ?_
  · refine CallsR.mono (all_ok0 _ m.e m.p m.c w1) ?_
    rintro v w2 ⟨rfl, hf⟩
    exact ⟨true, [], rfl, hf.le, by simp, h.trans hf⟩
  · rintro v w' (⟨h1, h2, h3⟩ | ⟨h1, h2, q, cc, w0, h3, h4, h5⟩ | ⟨i, q, n, cc, _, _, h, _⟩)
    · exact ⟨h1, .inl ⟨h2, h3⟩⟩
    · refine ⟨h1, .inr ⟨h2, q, cc, h3, h1, h5.ok, fun c hc x hx => ?_, h5.apart⟩⟩
      rw [← h4]; exact h5.low c hc x hx
    · exact h.elim
theorem nested_ok (ms : List EvM) (p : Option Addr) (c : Nat) (hn : ms.length ≤ 1048576) (hs : ∀ m ∈ ms, m.e.small) (w : World) (hA : Asc w) (hE : Evs w p ms) :
    PureC Tryd.prog 15 #[.slice p ms.length c] w (.tuple #[int (lkR (evs ms)).at_, int (lkR (evs ms)).err]) := by
  refine enter (l := [.slice p ms.length c]) Tryd.func15 rfl Tryd.ntmps15 (by kernel_rfl) rfl ?_
  refine sgo ?_
  refine wlcall (walkAll_ok ms p c hn hs w hA hE) ?_
  rintro _ w1 ⟨hf, ⟨h2, rfl⟩ | ⟨h2, q, cc, rfl, hS⟩⟩
  · refine sgo ?_
    (first | refine fp1 (.inl rfl) rfl rfl ?_ | refine fp2 (.inl rfl) rfl rfl rfl ?_ | refine fp3 (.inl rfl) rfl rfl rfl rfl ?_ | refine fp0 (.inr rfl) rfl ?_ | refine fp0 (.inl rfl) rfl ?_ | refine fp1 (.inr rfl) rfl rfl ?_); refine ⟨?_, by (first | exact Frm.refl _ | assumption | exact Go.Sv.Sep.frm (by assumption) | (refine Frm.trans ?_ (by assumption); first | exact Frm.refl _ | assumption))⟩; (try simp only [realB, rv_true, Nat.reduceBEq, cond_true, cond_false, entG, real_lif, updGL])
  · have h0 := (lk_ok h2).1
    refine sgo ?_
    (first | refine fp1 (.inl rfl) rfl rfl ?_ | refine fp2 (.inl rfl) rfl rfl rfl ?_ | refine fp3 (.inl rfl) rfl rfl rfl rfl ?_ | refine fp0 (.inr rfl) rfl ?_ | refine fp0 (.inl rfl) rfl ?_ | refine fp1 (.inr rfl) rfl rfl ?_); refine ⟨?_, by (first | exact Frm.refl _ | assumption | exact Go.Sv.Sep.frm (by assumption) | (refine Frm.trans ?_ (by assumption); first | exact Frm.refl _ | assumption))⟩; (try simp only [realB, rv_true, Nat.reduceBEq, cond_true, cond_false, entG, real_lif, updGL])
    rw [h0, h2]; rfl
theorem open_ok (ms : List EvM) (p : Option Addr) (c : Nat) (hn : ms.length ≤ 1048576) (hs : ∀ m ∈ ms, m.e.small) (w : World) (hA : Asc w) (hE : Evs w p ms) :
    CallsR Tryd.prog 16 #[.slice p ms.length c] w fun v w' => Frm w w' ∧
      (((lkR (evs ms)).err ≠ 0 ∧ v = .tuple #[.slice none 0 0, int (lkR (evs ms)).err]) ∨
      ((lkR (evs ms)).err = 0 ∧ ∃ q cc, v = .tuple #[.slice q (lkR (evs ms)).stack.length cc, int 0] ∧ Sep w w' [pRow 1 q (lkR (evs ms)).stack.length cc (strs (lkR (evs ms)).stack)])) := by
  refine enter (l := [.slice p ms.length c]) Tryd.func16 rfl Tryd.ntmps16 (by kernel_rfl) rfl ?_
  refine sgo ?_
  refine wlcall (walkAll_ok ms p c hn hs w hA hE) ?_
  rintro _ w1 ⟨hf, ⟨h2, rfl⟩ | ⟨h2, q, cc, rfl, hS⟩⟩
  · refine sgo ?_
    (first | refine fp1 (.inl rfl) rfl rfl ?_ | refine fp2 (.inl rfl) rfl rfl rfl ?_ | refine fp3 (.inl rfl) rfl rfl rfl rfl ?_ | refine fp0 (.inr rfl) rfl ?_ | refine fp0 (.inl rfl) rfl ?_ | refine fp1 (.inr rfl) rfl rfl ?_)
    exact ⟨hf, .inl ⟨h2, rfl⟩⟩
  · refine sgo ?_
    (first | refine fp1 (.inl rfl) rfl rfl ?_ | refine fp2 (.inl rfl) rfl rfl rfl ?_ | refine fp3 (.inl rfl) rfl rfl rfl rfl ?_ | refine fp0 (.inr rfl) rfl ?_ | refine fp0 (.inl rfl) rfl ?_ | refine fp1 (.inr rfl) rfl rfl ?_)
    exact ⟨hf, .inr ⟨h2, q, cc, rfl, hS⟩⟩

def mostR (m d : Nat) (k : Int) : Nat := if k = 1 ∨ k = 3 then max m (d + 1) else m
set_option maxHeartbeats 1000000 in
theorem depth1_ok (d : Nat) (e : Ev) (p : Option Addr) (c : Nat) (b : Nat) (m : Nat) (hd : d ≤ 1048576) (w : World) (ho : Own w b [int m]) :
    CallsR Tryd.prog 45 #[int d, .agg ⟨e.cells p c⟩, ptrAt (pb b) 0] w fun v w' => v = .bool true ∧ Own w' b [int (mostR m d e.kind)] ∧ Le [b] w w' := by
  obtain ⟨k, nm, tx, es⟩ := e
  refine enter (l := [int d, .agg ⟨Ev.cells ⟨k, nm, tx, es⟩ p c⟩, ptrAt (pb b) 0]) Tryd.func45 rfl Tryd.ntmps45 (by kernel_rfl) rfl ?_
  refine sgo ?_
  refine wlbox (v := .agg ⟨Ev.cells ⟨k, nm, tx, es⟩ p c⟩) (hx := rfl) fun b4 w1 hb4 o4 hf1 => ?_
  have o1 := ho.frm hf1
  replace o4 : Own w1 b4 [int k, str nm, str tx, .slice p es.length c] := o4
  refine sgo ?_
  have hB : pkb (decide (k = 1)) true (decide (k = 3)) = decide (k = 1 ∨ k = 3) := by simp [pkb_or]
  rw [hB]
  (show WC _ _ _ _ _ _ _; first | refine WC_dec rfl (fun hc => ?_) (fun hc => ?_) | refine WC_cond rfl (fun hc => ?_) (fun hc => ?_))
  · have hk : k = 1 ∨ k = 3 := hc
    clear o4
    refine sgo ?_
    refine wl ?_ (y_max rfl rfl)
    refine wlst_int o1 (fun w2 o2 hl2 => ?_) 
    refine sgo ?_
    (first | refine fp1 (.inl rfl) rfl rfl ?_ | refine fp2 (.inl rfl) rfl rfl rfl ?_ | refine fp3 (.inl rfl) rfl rfl rfl rfl ?_ | refine fp0 (.inr rfl) rfl ?_ | refine fp0 (.inl rfl) rfl ?_ | refine fp1 (.inr rfl) rfl rfl ?_)
    refine ⟨rfl, ?_, (hf1.le).trans hl2⟩
    have e : (max (m : Int) (d + 1)) = ((mostR m d k : Nat) : Int) := by rw [mostR, if_pos hk]; omega
    rw [← e]; exact o2
  · have hk : ¬ (k = 1 ∨ k = 3) := hc
    refine sgo ?_
    (first | refine fp1 (.inl rfl) rfl rfl ?_ | refine fp2 (.inl rfl) rfl rfl rfl ?_ | refine fp3 (.inl rfl) rfl rfl rfl rfl ?_ | refine fp0 (.inr rfl) rfl ?_ | refine fp0 (.inl rfl) rfl ?_ | refine fp1 (.inr rfl) rfl rfl ?_)
    refine ⟨rfl, ?_, hf1.le⟩
    rw [mostR, if_neg hk]; exact o1
theorem lk_most {k : Lk} {e : Ev} (h0 : k.err = 0) (h : (lkStep k e).err = 0) : (lkStep k e).most = mostR k.most k.stack.length e.kind := by rw [(lk_right h0 h).2]; rfl
set_option maxHeartbeats 1000000 in
theorem depth_ok (ms : List EvM) (p : Option Addr) (c : Nat) (hn : ms.length ≤ 1048576) (hs : ∀ m ∈ ms, m.e.small) (w : World) (hA : Asc w) (hE : Evs w p ms) :
    PureC Tryd.prog 17 #[.slice p ms.length c] w (if (lkR (evs ms)).err = 0 then .tuple #[int (lkR (evs ms)).most, int 0] else .tuple #[int 0, int (lkR (evs ms)).err]) := by
  refine enter (l := [.slice p ms.length c]) Tryd.func17 rfl Tryd.ntmps17 (by kernel_rfl) rfl ?_
  refine sgo ?_
  refine wlalloc fun b4 w4 hb4 o4 hf4 => ?_
  replace o4 : Own w4 b4 [int 0] := o4
  refine sgo ?_
  refine wlst_int o4 (fun w5 o5 hl5 => ?_)
  replace o5 : Own w5 b4 [int ((0 : Nat) : Int)] := o5
  have hf5 : Frm w w5 := hf4.step hl5 (by simpa using hb4)
  have hlt := o5.lt
  refine sgo ?_
  refine wlcall (walk_ok ms p c hn hs 45 [ptrAt (pb b4) 0] w5.heap.size (fun i w' => Own w' b4 [int (lkI ms i).most] ∧ Frm w w') (fun _ _ => False) (fun _ w' h => ⟨hE.frm h.2, hA.frm h.2⟩)
    (fun _ w1 w2 h h' => ⟨h.1.same h' hlt, ?_⟩) (fun _ _ _ h _ => h) (fun i w1 m h hx h0 h1 => ?_) w5 rfl ⟨o5, hf5⟩) ?_
  · exact ⟨h'.os.trans h.2.os, h'.tape.trans h.2.tape, h'.output.trans h.2.output, Nat.le_trans hf5.size h'.size, fun k hk => (h'.block k (Nat.lt_of_lt_of_le hk hf5.size)).trans (h.2.block k hk)⟩
  · have hlen : i < ms.length := by
      rcases Nat.lt_or_ge i ms.length with h | h
      · exact h
      · rw [List.getElem?_eq_none h] at hx; cases hx
    have hb := lkI_ok (Nat.le_of_lt hlen) h0
    refine CallsR.mono (depth1_ok (lkI ms i).stack.length m.e m.p m.c b4 (lkI ms i).most (by omega) w1 h.1) ?_
    rintro v w2 ⟨rfl, ho, hl⟩
    refine ⟨true, [b4], rfl, hl, by simpa using hlt, ?_⟩
    rw [if_pos rfl, lkI_succ hx, lk_most h0 (by rw [← lkI_succ hx]; exact h1)]
    exact ⟨ho, h.2.step hl (by simpa using hb4)⟩
  · rintro v w' (⟨⟨h1, hf⟩, h2, rfl⟩ | ⟨⟨h1, hf⟩, h2, q, cc, w0, rfl, h4, h5⟩ | ⟨i, q, n, cc, _, _, h, _⟩)
    · rw [if_neg h2]
      refine sgo ?_
      refine wcyes ?_ (ht := by simpa using h2)
      refine sgo ?_
      (first | refine fp1 (.inl rfl) rfl rfl ?_ | refine fp2 (.inl rfl) rfl rfl rfl ?_ | refine fp3 (.inl rfl) rfl rfl rfl rfl ?_ | refine fp0 (.inr rfl) rfl ?_ | refine fp0 (.inl rfl) rfl ?_ | refine fp1 (.inr rfl) rfl rfl ?_); refine ⟨?_, by (first | exact Frm.refl _ | assumption | exact Go.Sv.Sep.frm (by assumption) | (refine Frm.trans ?_ (by assumption); first | exact Frm.refl _ | assumption))⟩; (try simp only [realB, rv_true, Nat.reduceBEq, cond_true, cond_false, entG, real_lif, updGL])
    · rw [if_pos h2]
      rw [lkI_all] at h1
      refine sgo ?_
      (first | refine fp1 (.inl rfl) rfl rfl ?_ | refine fp2 (.inl rfl) rfl rfl rfl ?_ | refine fp3 (.inl rfl) rfl rfl rfl rfl ?_ | refine fp0 (.inr rfl) rfl ?_ | refine fp0 (.inl rfl) rfl ?_ | refine fp1 (.inr rfl) rfl rfl ?_); refine ⟨?_, by (first | exact Frm.refl _ | assumption | exact Go.Sv.Sep.frm (by assumption) | (refine Frm.trans ?_ (by assumption); first | exact Frm.refl _ | assumption))⟩; (try simp only [realB, rv_true, Nat.reduceBEq, cond_true, cond_false, entG, real_lif, updGL])
    · exact h.elim
end Go.Proofs.YthgbpgjpnaanlaaDoor

/-
  Loops over functions, with memory in pieces.
-/
set_option linter.unusedSimpArgs false
set_option linter.unusedVariables false
set_option linter.unnecessarySimpa false
namespace Go.Sv
open Go Go.RowKit
def pLoop (l : Nat) (r : Loop) : Plot where
  foot := [l]
  ok w := LoopAt w l r
  view := (none, [])
  loc _ _ h hb := (hb l (by simp)).trans h
  lt _ h x hx := by rw [List.mem_singleton.1 hx]; exact h.lt
  sg _ _ := .inl rfl
def pDef (D : Nat) : Plot where
  foot := [D]
  ok w := NoDef w D
  view := (none, [])
  loc _ _ h hb := (hb D (by simp)).trans h
  lt _ h x hx := by rw [List.mem_singleton.1 hx]; exact h.lt
  sg _ _ := .inl rfl
section
variable {w0 w w' : World} {cs : List Plot} {l D i : Nat} {r r' : Loop}
theorem Sep.loop (h : Sep w0 w cs) (hf : Frm w w') (hL : LoopAt w' l r) (hN : NoDef w' D) (hl : w.heap.size ≤ l) (hD : w.heap.size ≤ D) (hne : l ≠ D) : Sep w0 w' (pLoop l r :: pDef D :: cs) := by
  refine h.seq (ds := [pLoop l r, pDef D]) ⟨hf, ?_, ?_, ?_⟩
  · intro c hc
    rcases List.mem_cons.1 hc with rfl | hc
    · exact hL
    · rw [List.mem_singleton.1 hc]; exact hN
  · intro c hc x hx
    rcases List.mem_cons.1 hc with rfl | hc
    · rw [List.mem_singleton.1 hx]; exact hl
    · rw [List.mem_singleton.1 hc] at hx; rw [List.mem_singleton.1 hx]; exact hD
  · rw [List.pairwise_cons]
    refine ⟨fun b hb x hx hx' => ?_, List.pairwise_singleton _ _⟩
    rw [List.mem_singleton.1 hb] at hx'
    rw [List.mem_singleton.1 hx] at hx'
    exact hne (List.mem_singleton.1 hx')
theorem Sep.loopAt (h : Sep w0 w cs) (i : Nat) (hi : cs[i]? = some (pLoop l r)) : LoopAt w l r := h.at (c := pLoop l r) i hi
theorem Sep.noDef (h : Sep w0 w cs) (i : Nat) (hi : cs[i]? = some (pDef D)) : NoDef w D := h.at (c := pDef D) i hi
theorem Sep.turnLoop (h : Sep w0 w cs) (i : Nat) (hi : cs[i]? = some (pLoop l r)) (hl : Le [l] w w') (hL : LoopAt w' l r') : Sep w0 w' (cs.set i (pLoop l r')) :=
  h.upd i hi (lm_own hl) hL
/-- a piece that is given away -/
theorem Sep.lose {c : Plot} (h : Sep w0 w (c :: cs)) (hl : Le c.foot w w') : Sep w0 w' cs := by
  have hp := h.apart
  rw [List.pairwise_cons] at hp
  exact h.tail.le hl (fun d hd x hx hm => hp.1 d hd x hm hx) (h.low _ List.mem_cons_self)
theorem Sep.undef (h : Sep w0 w (pDef D :: cs)) : Sep w0 (w.putObj D (.deferred none)) cs := h.lose (le_putObj w D _)
end
end Go.Sv

