/-
  Our texts SvKq, SvDw, SvDy, SvDqE, SvDqF, SvFv, SvDqG, SvDqI, SvDqH, SvDqJ, SvDqK, SvTpA, SvTpB, SvEbA, SvTpI, SvSpl, SvEbB, SvMr, SvMi, joined.
-/
import Derived.Test.YtcdogceabkpnmaaDoorMg4
import Derived.Maps.RangeRun
/-
  General steps, further.
-/
set_option linter.unusedSimpArgs false
set_option linter.unusedVariables false
set_option linter.unnecessarySimpa false
namespace Go.Sv
open Go Go.RowKit
/-- a guarded call, whose guard is known to say yes -/
theorem wlcallgt {P : Program} {n : Nat} {ds : Ctx} {ops : Array Oper} {Q : Exit → Ctx → Env → World → Prop} {rest : List Oper} {σ : GE} {w : World} {d : Nat} {ty : TypeId} {pos : String} {af : Array Edge} {j dj : Nat} {want b c : Bool} {f : FuncId} [hf : Fnc P f] {args : List Operand} {ats : Array TypeId} {vals : List Value} {R : Value → World → Prop}
    (hc : CallsR P f vals.toArray w R) (h : ∀ v w', R v w' → WL P n ds ops Q rest (real (updG σ d ⟨v, true⟩)) w') (hgt : (b && (c == want)) = true)
    (hj : (ops[j]?).bind (·.dst) = some dj := by rfl) (hσ : σ dj = ⟨.bool c, b⟩ := by rfl)
    (ha : (b && (c == want)) = true → args.map (evl (real σ)) = vals := by
    intro hgd
    first
    | exact Go.Sv.am1 (evG hgd)
    | exact Go.Sv.am2 (evG hgd) (evG hgd)
    | exact Go.Sv.am3 (evG hgd) (evG hgd) (evG hgd)) :
    WL P n ds ops Q (⟨some d, .call ⟨.value (.func f), args.toArray, ats⟩, ty, pos, af, some (j, want)⟩ :: rest) (real σ) w := by
  have hw := wanted_real (ops := ops) (o := ⟨some d, .call ⟨.value (.func f), args.toArray, ats⟩, ty, pos, af, some (j, want)⟩) rfl hj hσ
  rw [hgt] at hw
  refine WL_call_want (R := R) hw (by rw [← ha hgt] at hc; simpa using hc) fun v w' hr => ?_
  have := h v w' hr
  rw [← real_upd] at this
  exact this
/-- a slice of one -/
theorem y_slice1 {P : Program} {σ : Env} {w : World} {d : Option Tmp} {ty t e : TypeId} {pos : String} {af : Array Edge} {g : Option (Nat × Bool)} {x y' z' : Operand} {zv : Value} {size bytes n c i : Nat} {p : Option Addr} [hu : Und P t (.slice e)] [hi : Inf P e zv size bytes] (hx : evl σ x = .slice p n c) (hy : evl σ y' = int i) (hz : evl σ z' = int ((i : Int) + 1)) (h : i + 1 ≤ c) :
    Y P σ ⟨d, .slice t x (some y') (some z') none, ty, pos, af, g⟩ w (.slice (slp c i p (i * size)) 1 (c - i)) w := by
  have h1 := y_rslice (P := P) (w := w) (d := d) (ty := ty) (pos := pos) (af := af) (g := g) (t := t) (e := e) (i' := i) (j := i + 1) hx hy (hz.trans (show Value.int .i64 ((i : Int) + 1) = .int .i64 ((i + 1 : Nat) : Int) from by rw [Int.natCast_add]; rfl)) ⟨by omega, h⟩
  rwa [Nat.add_sub_cancel_left] at h1
end Go.Sv

/-
  Chapter 21: dom.Walk.
-/
set_option linter.unusedSimpArgs false
set_option linter.unusedVariables false
set_option linter.unnecessarySimpa false
namespace Go.Proofs.YtcdogceabkpnmaaDoor
open Go Go.Sv Go.RowKit
def ints (l : List Nat) : List Value := l.map fun i : Nat => int i
theorem ints_len (l : List Nat) : (ints l).length = l.length := by simp [ints]
theorem ints_one (l : List Nat) : ∀ u ∈ ints l, u.oneCell' = true := by
  intro u hu
  obtain ⟨x, _, rfl⟩ := List.mem_map.1 hu
  rfl
theorem ints_snoc (l : List Nat) (i : Nat) : ints l ++ [int i] = ints (l ++ [i]) := by simp [ints]
/-- every node with its way, each ahead of its kids -/
def Fo.wlk : Fo → List Nat → Nat → List (List Nat × Nd)
  | .nil, _, _ => []
  | .cons n t es ks r, w, i => (w ++ [i], ⟨n, t, es, ks⟩) :: ((if n = [] then [] else ks.wlk (w ++ [i]) 0) ++ r.wlk w (i + 1))
theorem wlk_append (l m : List Nd) (w : List Nat) (i : Nat) : (Fo.of (l ++ m)).wlk w i = (Fo.of l).wlk w i ++ (Fo.of m).wlk w (i + l.length) := by
  induction l generalizing i with
  | nil => rfl
  | cons x l ih =>
    simp only [List.cons_append, Fo.of, Fo.wlk, ih, List.length_cons, List.append_assoc]
    rw [show i + 1 + l.length = i + (l.length + 1) by omega]
def wkT (f : FoM) (w : List Nat) (i : Nat) : List (List Nat × Nd) := (Fo.of (ndT f i)).wlk w 0
theorem wkT_all (f : FoM) (w : List Nat) : wkT f w f.len = f.fo.wlk w 0 := by rw [wkT, ndT_all, fo_list]
theorem ndT_len {f : FoM} {i : Nat} (h : i ≤ f.len) : (ndT f i).length = i := by
  unfold ndT; rw [List.length_take, List.length_map]; exact Nat.min_eq_left h
theorem wkT_succ {f : FoM} {i : Nat} {m : NdM} (w : List Nat) (h : f.list[i]? = some m) : wkT f w (i + 1) = wkT f w i ++ ((w ++ [i], m.nd) :: (if m.name = [] then [] else m.kids.fo.wlk (w ++ [i]) 0)) := by
  have hi : i < f.len := (List.getElem?_eq_some_iff.1 h).1
  unfold wkT
  rw [ndT_succ h, wlk_append, ndT_len (by omega), Nat.zero_add]
  simp [Fo.of, Fo.wlk, NdM.nd]
theorem wkT_pre (f : FoM) (w : List Nat) (i : Nat) : ∃ rest, f.fo.wlk w 0 = wkT f w i ++ rest := by
  refine ⟨(Fo.of ((f.list.map NdM.nd).drop i)).wlk w (0 + ((f.list.map NdM.nd).take i).length), ?_⟩
  rw [fo_list]
  conv => lhs; rw [← List.take_append_drop i (f.list.map NdM.nd), wlk_append]
  rfl
theorem wkT_get {f : FoM} {i j : Nat} {w : List Nat} {x : List Nat × Nd} (h : (wkT f w i)[j]? = some x) : (f.fo.wlk w 0)[j]? = some x := by
  obtain ⟨rest, hr⟩ := wkT_pre f w i
  obtain ⟨hj, _⟩ := List.getElem?_eq_some_iff.1 h
  rw [hr, List.getElem?_append_left hj]
  exact h
/-- each slice of trees has room for them -/
def FoM.fit : FoM → Prop
  | .nil => True
  | .cons _ _ _ _ _ ks _ kc r => ks.len ≤ kc ∧ ks.fit ∧ r.fit
theorem fit_mem {f : FoM} (h : f.fit) {m : NdM} (hm : m ∈ f.list) : m.kids.len ≤ m.kc ∧ m.kids.fit := by
  induction f with
  | nil => cases hm
  | cons n t es ap ac ks kp kc r _ ih =>
    rcases List.mem_cons.1 hm with rfl | hm
    · exact ⟨h.1, h.2.1⟩
    · exact ih h.2.2 hm
theorem fit_rows {w : World} {f : FoM} (h : ∀ r ∈ f.rows, r.ok w) : f.fit := by
  induction f with
  | nil => trivial
  | cons n t es ap ac ks kp kc r ih1 ih2 =>
    simp only [FoM.rows, List.mem_cons, List.mem_append] at h
    exact ⟨(Row.le_cap (h ⟨4, kp, ks.len, kc, _⟩ (.inr (.inl rfl)))).1, ih1 fun x hx => h x (.inr (.inr (.inl hx))), ih2 fun x hx => h x (.inr (.inr (.inr hx)))⟩
theorem one_of {L : List NdM} {m : NdM} (h : L.map NdM.nd = [m.nd]) : ∃ m2, L = [m2] ∧ m2.nd = m.nd := by
  cases L with
  | nil => cases h
  | cons m2 l =>
    cases l with
    | nil => exact ⟨m2, rfl, by simpa using h⟩
    | cons m3 l => simp at h
theorem own1_ok (m : NdM) (p : Option Addr) (c : Nat) (hw : (FoM.of [m]).wt ≤ 1048576) (w0 w : World) (cs : List Plot) (hS : Sep w0 w cs) (hT : Tre w p (FoM.of [m])) :
    CallsR Tryd.prog 39 #[.slice p 1 c] w fun v w' => ∃ (q : Option Addr) (cc : Nat) (m2 : NdM), v = .slice q 1 cc ∧ m2.nd = m.nd ∧ (∃ a, q = some a) ∧ Frm w w' ∧ Sep w0 w' (pRow 4 q 1 cc m2.cells :: pMany m2.rows :: cs) := by
  refine CallsR.mono (own21_ok ((FoM.of [m]).size + 1) (FoM.of [m]) p c (Nat.lt_succ_self _) hw w0 w cs hS hT) ?_
  rintro v w' ⟨q, cc, L, rfl, hL, hf, hS⟩
  rw [FoM.list_of] at hL
  obtain ⟨m2, rfl, hm⟩ := one_of hL
  simp only [List.flatMap_cons, List.flatMap_nil, List.append_nil] at hS
  exact ⟨q, cc, m2, rfl, hm, (hS.row 0 rfl).sg.some (by rw [NdM.clen]; decide), hf, hS⟩
theorem of1 {w : World} {p : Option Addr} {f : FoM} (hT : Tre w p f) {i c : Nat} {m : NdM} (hx : f.list[i]? = some m) (hc : f.len ≤ c) : Tre w (slp c i p (i * 4)) (FoM.of [m]) := by
  have hi : i < f.len := (List.getElem?_eq_some_iff.1 hx).1
  have hm := List.mem_of_getElem? hx
  have hseg := fm_seg NdM.clen f.list hx
  have h1 := (hT.im.part (c := c) (i' := i) (size := 4) (fun h => by omega)).take 4
  rw [hseg] at h1
  refine ⟨by simpa [FoM.of, FoM.list] using h1, ?_⟩
  obtain ⟨h2, h3⟩ := hT.kid hm
  exact ⟨h2, h3.im, h3.nds, trivial⟩
theorem wt1 {f : FoM} {m : NdM} (hm : m ∈ f.list) : (FoM.of [m]).wt ≤ f.wt := by
  have := FoM.wt_mem hm
  simp only [FoM.of, FoM.wt]; omega
def dwkP (lr : Nat) (p ph : Option Addr) (fl c ch i : Nat) (wi : List Nat) (nd : Nd) : PlanB (Option Addr × Nat × NdM) where
  pl k d := match k with
    | 2 => [pRow 1 d.p wi.length d.c (ints wi)]
    | 8 => [pRow 4 d.x.1 1 d.x.2.1 d.x.2.2.cells, pMany d.x.2.2.rows]
    | 9 => [pRow 4 d.x.1 1 d.x.2.1 d.x.2.2.cells, pMany d.x.2.2.rows]
    | 10 => [pRow 4 d.x.1 1 d.x.2.1 d.x.2.2.cells, pMany d.x.2.2.rows]
    | _ => []
  con k := match k with
    | 8 => some 9
    | 9 => some 10
    | _ => none
  base k := match k with
    | _ => []
  fact k a := match k with
    | 0 => (a 0).v = .func (.yield lr) #[] #[]
    | 1 => (a 1).v = .slice ph wi.length ch
    | 2 => (a 2).v = .slice (a 2).p wi.length (a 2).c
    | 3 => (a 3).v = .slice p fl c
    | 4 => (a 4).v = int i
    | 5 => (a 5).v = int i
    | 6 => (a 6).v = int ((i : Int) + 1)
    | 7 => (a 7).v = .slice (slp c i p (i * 4)) 1 (c - i)
    | 8 => (a 8).v = .slice (a 8).x.1 1 (a 8).x.2.1 ∧ (a 8).x.2.2.nd = nd ∧ ∃ a', (a 8).x.1 = some a'
    | 9 => (a 9).v = ptrAt (a 9).x.1 (0 * 4) ∧ (a 9).x = (a 8).x ∧ ∃ a', (a 9).x.1 = some a'
    | 10 => (a 10).v = .agg ⟨(a 10).x.2.2.cells⟩ ∧ (a 10).x = (a 9).x
    | 11 => True
    | 12 => True
    | _ => True
/-- what yield answers to a node: its own way, its own copy -/
def YldAt (lr B : Nat) (whole : List (List Nat × Nd)) (J Jx : Nat → World → Prop) : Prop :=
  ∀ i w1 way nd, J i w1 → whole[i]? = some (way, nd) → ∀ q c (m2 : NdM) w', m2.nd = nd → Sep w1 w' [pRow 1 q way.length c (ints way), pMany m2.rows] →
    Yld Tryd.prog lr [.slice q way.length c, .agg ⟨m2.cells⟩] w' fun bb w2 => ∃ N, Le N w1 w2 ∧ (∀ x ∈ N, x < B) ∧ if bb then J (i + 1) w2 else Jx i w2
set_option maxHeartbeats 8000000 in
theorem walk21_ok (lr B : Nat) (whole : List (List Nat × Nd)) (J Jx : Nat → World → Prop) (hst : ∀ i w1 w2, J i w1 → Same B w1 w2 → J i w2) (hstx : ∀ i w1 w2, Jx i w1 → Same B w1 w2 → Jx i w2) (hY : YldAt lr B whole J Jx) :
    ∀ (k : Nat) (f : FoM) (p : Option Addr) (c : Nat), f.size < k → f.wt ≤ 1048576 → f.len ≤ c → f.fit → (∀ i w, J i w → Tre w p f) → ∀ (way : List Nat) (pw : Option Addr) (cw s : Nat), way.length + k ≤ 4194304 → (∀ j x, (f.fo.wlk way 0)[j]? = some x → whole[s + j]? = some x) →
      ∀ (w0 w : World) (cs : List Plot), w0.heap.size = B → Sep w0 w (pRow 1 pw way.length cw (ints way) :: cs) → J s w →
      CallsR Tryd.prog 41 #[.slice pw way.length cw, .slice p f.len c, .func (.yield lr) #[] #[]] w fun v w' => ∃ bb w0', v = .bool bb ∧ w0'.heap.size = B ∧ Sep w0' w' (pRow 1 pw way.length cw (ints way) :: cs) ∧ if bb then J (s + (f.fo.wlk way 0).length) w' else ∃ j, j < whole.length ∧ Jx j w' := by
  intro k
  induction k with
  | zero => intro f p c hk; omega
  | succ k ih =>
    intro f p c hk hw hfc hfit hJT way pw cw s hwl hwh w0 w cs hB0 hS hJ
    have hlw := FoM.len_wt f
    refine enter (l := [.slice pw way.length cw, .slice p f.len c, .func (.yield lr) #[] #[]]) Tryd.func41 rfl Tryd.ntmps41 (by kernel_rfl) rfl ?_
    refine sgo ?_
    refine wcloop (X := Nat) (fun i => [(0, .slice pw way.length cw), (1, .slice p f.len c), (2, .func (.yield lr) #[] #[]), (10, .slice p f.len c), (11, int f.len), (12, int i)])
      (fun i wr => i ≤ f.len ∧ J (s + (wkT f way i).length) wr ∧ ∃ w0', w0'.heap.size = B ∧ Sep w0' wr (pRow 1 pw way.length cw (ints way) :: cs)) (fun i => f.len - i) 0 ⟨rfl, rfl, rfl, rfl, rfl, rfl, trivial⟩ ⟨Nat.zero_le _, hJ, w0, hB0, hS⟩ ?_
    clear hS hJ hB0 w0
    rintro i wr ρ ⟨hil, hJ, w0, hB0, hS⟩
    have hS00 := hS
    refine sgo ?_
    (show WC _ _ _ _ _ _ _; first | refine WC_dec rfl (fun hc => ?_) (fun hc => ?_) | refine WC_cond rfl (fun hc => ?_) (fun hc => ?_))
    · have hlt : i < f.len := by omega
      have hT := hJT _ _ hJ
      have hIm := hT.im
      obtain ⟨m, hx, hm, hseg, hfl, hps, hat, hkT⟩ := tre_at hT hlt
      have hsz := FoM.size_mem hm
      have hsm := nd_small hw hm
      have hw1 := wt1 hm
      have hsn := wkT_succ way hx
      have hget : whole[s + (wkT f way i).length]? = some (way ++ [i], m.nd) := hwh _ _ (wkT_get (i := i + 1) (by rw [hsn]; simp))
      obtain ⟨hkc, hkf⟩ := fit_mem hfit hm
      have hih := ih m.kids m.kp m.kc (by omega) hsm.kids hkc hkf (fun i w h => ((hJT i w h).kid hm).2) (way ++ [i])
      clear hc
      obtain ⟨wi, hwi⟩ : ∃ wi, wi = way ++ [i] := ⟨_, rfl⟩
      rw [← hwi] at hget hsn hih
      have hwil : wi.length = way.length + 1 := by rw [hwi]; simp
      refine sgo ?_
      rw [hseg]
      refine salloc hS fun b8 w5 hS => ?_
      refine sgo ?_
      refine ssta (vs := m.cells) hS 0 (fun w6 hS => ?_) (hv := ⟨m.clen, rfl⟩) (h1 := List.all_eq_true.2 (nd_one m))
      replace hS : Sep w0 w6 (pOwn b8 m.cells :: pRow 1 pw way.length cw (ints way) :: cs) := hS
      refine sgo ?_
      refine sapp0 hS (hS.row 1 rfl).sg (fun q2 c2 w7 hS => ?_) (hl := by rw [ints_len, Nat.mul_one]) (h1 := ints_one way)
      refine sgo ?_
      refine sb1i hS fun b3 w8 hS => ?_
      refine sgo ?_
      refine sapp hS 1 (hS.own 0 rfl).sg (fun q4 c4 w9 hS => ?_)
      rw [ints_snoc, ← hwi, ← hwil] at hS
      rw [← hwil]
      replace hS : Sep w0 w9 (pRow 1 q4 wi.length c4 (ints wi) :: pOwn b8 m.cells :: pRow 1 pw way.length cw (ints way) :: cs) := hS.sel 4 [1, 2, 3]
      have hJ9 : J (s + (wkT f way i).length) w9 := hst _ _ _ hJ (hB0 ▸ Same.of_sep hS00 hS)
      have hown := fun w' (cs' : List Plot) (h : Sep w9 w' cs') => own1_ok m (slp c i p (i * 4)) (c - i) (by omega) w9 w' cs' h (of1 ((hJT _ _ hJ9).frm h.frm) hx hfc)
      have hh : Im [] w9 q4 (ints wi) := hS.im 0 rfl
      have hSo := hS
      clear hS
      have hS : Sep w9 w9 ([] ++ []) := Sep.start w9
      refine sgo ?_
      refine wcplant (b := []) 11 (dwkP lr p q4 f.len c c4 i wi m.nd) ⟨.nilIface, none, 0, 0, (none, 0, ⟨[], [], [], none, 0, .nil, none, 0⟩)⟩ hS rfl (fun j oj a a' hj he hd h => ?_) ?_ ?_
      · have hjl : j < 13 := (List.getElem?_eq_some_iff.1 hj).1
        match j, hjl with
        | 0, _ | 1, _ | 2, _ | 3, _ | 4, _ | 5, _ | 6, _ | 7, _ | 8, _ | 11, _ | 12, _ => first | (simp only [dwkP] at h ⊢; rw [← he]; exact h) | exact h
        | 9, _ => simp only [dwkP] at h ⊢; rw [← he, ← hd 8 (by cases hj; rfl)]; exact h
        | 10, _ => simp only [dwkP] at h ⊢; rw [← he, ← hd 9 (by cases hj; rfl)]; exact h
      · refine ⟨?_, ?_, ?_, ?_, ?_, ?_, ?_, ?_, ?_, ?_, ?_, trivial⟩
        · intro a σ' w' rest hσ hdep hS'   -- 0: move; pieces:  ..
          have e2 : σ' 2 = .func (.yield lr) #[] #[] := (hσ 2 (notDstB rfl)).trans rfl
          exact rule_e [(2, _)] ⟨e2, trivial⟩ ⟨⟨.func (.yield lr) #[] #[], none, 0, 0, (none, 0, ⟨[], [], [], none, 0, .nil, none, 0⟩)⟩, rfl, rfl, hS'⟩
        · intro a σ' w' rest hσ hdep hS'   -- 1: move; pieces:  ..
          have e9 : σ' 9 = .slice q4 wi.length c4 := (hσ 9 (notDstB rfl)).trans rfl
          exact rule_e [(9, _)] ⟨e9, trivial⟩ ⟨⟨.slice q4 wi.length c4, none, 0, 0, (none, 0, ⟨[], [], [], none, 0, .nil, none, 0⟩)⟩, rfl, rfl, hS'⟩
        · intro a σ' w' rest hσ hdep hS'   -- 2: call; pieces:  ..
          have f1 := (hdep 1 _ rfl rfl).2
          have e23 := ((hdep 1 _ rfl rfl).1 23 rfl).trans f1
          obtain ⟨p2, c2, w2, hy, hS2⟩ := y_app0 (P := Tryd.prog) (t := 30) (t' := 30) (ty := 30) (d := some 24) (x := .const (.slice none 0 0)) (y := .tmp 23) (n := wi.length) hS' (hh.sep hS').sg rfl e23 (show (ints wi).length = wi.length * 1 by rw [ints_len, Nat.mul_one]) (ints_one _) rfl (by decide) (by omega)
          exact rule_y hy ⟨⟨.slice p2 wi.length c2, p2, c2, 0, (none, 0, ⟨[], [], [], none, 0, .nil, none, 0⟩)⟩, rfl, rfl, hS2⟩
        · intro a σ' w' rest hσ hdep hS'   -- 3: move; pieces:  ..
          have e1 : σ' 1 = .slice p f.len c := (hσ 1 (notDstB rfl)).trans rfl
          exact rule_e [(1, _)] ⟨e1, trivial⟩ ⟨⟨.slice p f.len c, none, 0, 0, (none, 0, ⟨[], [], [], none, 0, .nil, none, 0⟩)⟩, rfl, rfl, hS'⟩
        · intro a σ' w' rest hσ hdep hS'   -- 4: move; pieces:  ..
          have e7 : σ' 7 = int i := (hσ 7 (notDstB rfl)).trans rfl
          exact rule_e [(7, _)] ⟨e7, trivial⟩ ⟨⟨int i, none, 0, 0, (none, 0, ⟨[], [], [], none, 0, .nil, none, 0⟩)⟩, rfl, rfl, hS'⟩
        · intro a σ' w' rest hσ hdep hS'   -- 5: move; pieces:  ..
          have e7 : σ' 7 = int i := (hσ 7 (notDstB rfl)).trans rfl
          exact rule_e [(7, _)] ⟨e7, trivial⟩ ⟨⟨int i, none, 0, 0, (none, 0, ⟨[], [], [], none, 0, .nil, none, 0⟩)⟩, rfl, rfl, hS'⟩
        · intro a σ' w' rest hσ hdep hS'   -- 6: binOp; pieces:  ..
          have f5 := (hdep 5 _ rfl rfl).2
          have e27 := ((hdep 5 _ rfl rfl).1 27 rfl).trans f5
          exact rule_y (y_add64 e27 rfl ⟨by omega, by omega⟩) ⟨⟨int ((i : Int) + 1), none, 0, 0, (none, 0, ⟨[], [], [], none, 0, .nil, none, 0⟩)⟩, rfl, rfl, hS'⟩
        · intro a σ' w' rest hσ hdep hS'   -- 7: slice; pieces:  ..
          have f3 := (hdep 3 _ rfl rfl).2
          have e25 := ((hdep 3 _ rfl rfl).1 25 rfl).trans f3
          have f4 := (hdep 4 _ rfl rfl).2
          have e26 := ((hdep 4 _ rfl rfl).1 26 rfl).trans f4
          have f6 := (hdep 6 _ rfl rfl).2
          have e28 := ((hdep 6 _ rfl rfl).1 28 rfl).trans f6
          exact rule_y (y_slice1 e25 e26 e28 (by omega)) ⟨⟨.slice (slp c i p (i * 4)) 1 (c - i), none, 0, 0, (none, 0, ⟨[], [], [], none, 0, .nil, none, 0⟩)⟩, rfl, rfl, hS'⟩
        · intro a σ' w' rest hσ hdep hS'   -- 8: call; pieces:  ..
          have f7 := (hdep 7 _ rfl rfl).2
          have e29 := ((hdep 7 _ rfl rfl).1 29 rfl).trans f7
          refine rule_call (vals := [.slice (slp c i p (i * 4)) 1 (c - i)]) (hown w' _ hS') (fun v w2 hR => ?_) (am1 e29)
          obtain ⟨q3, c3, m2, rfl, hm2, hq3, -, hS2⟩ := hR
          exact ⟨⟨.slice q3 1 c3, none, 0, 0, (q3, c3, m2)⟩, rfl, ⟨rfl, hm2, hq3⟩, hS2⟩
        · intro a σ' w' rest hσ hdep hS'   -- 9: indexAddr; pieces: takes 8 ..
          have f8 := (hdep 8 _ rfl rfl).2
          have e30 := ((hdep 8 _ rfl rfl).1 30 rfl).trans f8.1
          exact rule_y (y_idx (i := 0) e30 rfl (by decide) f8.2.2) ⟨⟨ptrAt (a 8).x.1 (0 * 4), none, 0, 0, (a 8).x⟩, rfl, ⟨rfl, rfl, f8.2.2⟩, hS'⟩
        · intro a σ' w' rest hσ hdep hS'   -- 10: load; pieces: takes 9 ..
          have f9 := (hdep 9 _ rfl rfl).2
          have e31 := ((hdep 9 _ rfl rfl).1 31 rfl).trans f9.1
          exact rule_y (y_loada e31 (hS'.sgv 0 rfl) (by rw [NdM.clen]; decide) f9.2.2) ⟨⟨.agg ⟨(a 9).x.2.2.cells⟩, none, 0, 0, (a 9).x⟩, rfl, ⟨rfl, rfl⟩, hS'⟩
      · intro a σ' w' hσ hA' hS'
        have h0 := hA' 0 _ rfl
        have h2 := hA' 2 _ rfl
        have h8 := hA' 8 _ rfl
        have h9 := hA' 9 _ rfl
        have h10 := hA' 10 _ rfl
        have hx10 : (a 10).x = (a 8).x := h10.2.2.trans h9.2.2.1
        rw [frameOf (σ := σ') [(0, .slice pw way.length cw), (1, .slice p f.len c), (2, .func (.yield lr) #[] #[]), (8, ptrAt (pb b8) 0), (9, .slice q4 wi.length c4), (10, .slice p f.len c), (11, int f.len), (12, int i), (22, .func (.yield lr) #[] #[]), (24, .slice (a 2).p wi.length (a 2).c), (32, .agg ⟨(a 8).x.2.2.cells⟩)]
          ⟨(hσ 0 (notDst rfl)).trans rfl, (hσ 1 (notDst rfl)).trans rfl, (hσ 2 (notDst rfl)).trans rfl, (hσ 8 (notDst rfl)).trans rfl, (hσ 9 (notDst rfl)).trans rfl, (hσ 10 (notDst rfl)).trans rfl, (hσ 11 (notDst rfl)).trans rfl, (hσ 12 (notDst rfl)).trans rfl, (h0.1 22 rfl).trans h0.2, (h2.1 24 rfl).trans h2.2, (h10.1 32 rfl).trans (h10.2.1.trans (by rw [hx10])), trivial⟩]
        replace hS' : Sep w9 w' [pRow 1 (a 2).p wi.length (a 2).c (ints wi), pRow 4 (a 10).x.1 1 (a 10).x.2.1 (a 10).x.2.2.cells, pMany (a 10).x.2.2.rows] := hS'
        rw [hx10] at hS'
        replace hS' : Sep w9 w' [pRow 1 (a 2).p wi.length (a 2).c (ints wi), pRow 4 (a 8).x.1 1 (a 8).x.2.1 (a 8).x.2.2.cells, pMany (a 8).x.2.2.rows] := hS'
        refine wlyield (hY _ w9 wi m.nd hJ9 hget (a 2).p (a 2).c (a 8).x.2.2 w' h8.2.2.1 (hS'.sel 3 [0, 2])) fun bb w2 hbb => ?_
        obtain ⟨N, hN1, hN2, hbb⟩ := hbb
        obtain ⟨wb, hwb, hS⟩ := hSo.rebase hN1 (fun x hx => by rw [hB0]; exact hN2 x hx)
        rw [hB0] at hwb
        clear hA' hS' hSo h0 h2 h8 h9 h10 hx10 hσ hown hh
        cases bb with
        | false =>
          refine sgo ?_
          (first | refine fp1 (.inl rfl) rfl rfl ?_ | refine fp2 (.inl rfl) rfl rfl rfl ?_ | refine fp3 (.inl rfl) rfl rfl rfl rfl ?_ | refine fp0 (.inr rfl) rfl ?_ | refine fp0 (.inl rfl) rfl ?_ | refine fp1 (.inr rfl) rfl rfl ?_)
          exact ⟨false, wb, rfl, hwb, hS.sel 3 [2], s + (wkT f way i).length, (List.getElem?_eq_some_iff.1 hget).1, hbb⟩
        | true =>
          replace hbb : J (s + (wkT f way i).length + 1) w2 := hbb
          obtain ⟨n, t, es, ap, ac, ks, kp, kc⟩ := m
          dsimp only [NdM.cells] at hS hih hsn hsm hkT hwh
          refine sgo ?_
          refine wlbuild (cells := [str n, str t, .slice ap es.length ac, .slice kp ks.len kc]) ?_
          refine wlpure (oneText_ok n (str t) (.slice ap es.length ac) (.slice kp ks.len kc) _) fun w3 hf3 => ?_
          have hJ3 : J (s + (wkT f way i).length + 1) w3 := hst _ _ _ hbb (hwb ▸ Same.of_sep hS (hS.grow hf3))
          replace hS := hS.grow hf3
          clear hbb
          by_cases hn : n = []
          · subst hn
            rw [if_pos rfl] at hsn
            refine sgo ?_
            refine wlskipg (.bool false) ?_ (hgt := by simp)
            refine sgo ?_
            refine ⟨i + 1, ⟨rfl, rfl, rfl, rfl, rfl, rfl, trivial⟩, ⟨hlt, ?_, wb, hwb, hS.sel 3 [2]⟩, (by (try dsimp only); omega)⟩
            rw [hsn, List.length_append]
            exact hJ3
          · rw [if_neg hn] at hsn
            rw [show decide (n = []) = false from decide_eq_false hn]
            refine sgo ?_
            have hwk : ∀ j x, (ks.fo.wlk wi 0)[j]? = some x → whole[s + (wkT f way i).length + 1 + j]? = some x := by
              intro j x h
              have h1 : (wkT f way (i + 1))[(wkT f way i).length + 1 + j]? = some x := by
                rw [hsn, List.getElem?_append_right (by omega), show (wkT f way i).length + 1 + j - (wkT f way i).length = j + 1 by omega, List.getElem?_cons_succ]
                exact h
              have := hwh _ _ (wkT_get h1)
              rwa [show s + ((wkT f way i).length + 1 + j) = s + (wkT f way i).length + 1 + j by omega] at this
            refine wlcallgt (vals := [.slice q4 wi.length c4, .slice kp ks.len kc, .func (.yield lr) #[] #[]]) (hih q4 c4 (s + (wkT f way i).length + 1) (by omega) hwk wb w3 _ hwb hS hJ3) (fun v5 w12 hR => ?_) rfl
            clear hS hwb hJ3
            obtain ⟨bb, wb2, rfl, hwb, hS, hbb⟩ := hR
            cases bb with
            | false =>
              refine sgo ?_
              (first | refine fp1 (.inl rfl) rfl rfl ?_ | refine fp2 (.inl rfl) rfl rfl rfl ?_ | refine fp3 (.inl rfl) rfl rfl rfl rfl ?_ | refine fp0 (.inr rfl) rfl ?_ | refine fp0 (.inl rfl) rfl ?_ | refine fp1 (.inr rfl) rfl rfl ?_)
              exact ⟨false, wb2, rfl, hwb, hS.sel 3 [2], hbb⟩
            | true =>
              refine sgo ?_
              refine ⟨i + 1, ⟨rfl, rfl, rfl, rfl, rfl, rfl, trivial⟩, ⟨hlt, ?_, wb2, hwb, hS.sel 3 [2]⟩, (by (try dsimp only); omega)⟩
              rw [hsn, List.length_append, List.length_cons, show s + ((wkT f way i).length + ((ks.fo.wlk wi 0).length + 1)) = s + (wkT f way i).length + 1 + (ks.fo.wlk wi 0).length by omega]
              exact hbb
    · obtain rfl : i = f.len := by omega
      refine sgo ?_
      (first | refine fp1 (.inl rfl) rfl rfl ?_ | refine fp2 (.inl rfl) rfl rfl rfl ?_ | refine fp3 (.inl rfl) rfl rfl rfl rfl ?_ | refine fp0 (.inr rfl) rfl ?_ | refine fp0 (.inl rfl) rfl ?_ | refine fp1 (.inr rfl) rfl rfl ?_)
      rw [wkT_all] at hJ
      exact ⟨true, w0, rfl, hB0, hS, hJ⟩
set_option maxHeartbeats 2000000 in
/-- dom.Walk: trees of its own, and a function over them -/
theorem domWalk_ok (f : FoM) (p : Option Addr) (c : Nat) (hw : f.wt ≤ 1048576) (w0 w : World) (cs : List Plot) (hS0 : Sep w0 w cs) (hT : Tre w p f) :
    CallsR Tryd.prog 12 #[.slice p f.len c] w fun v w' => ∃ (b : Nat) (q : Option Addr) (cc : Nat) (L : List NdM), v = .func (.func 40) #[] #[ptrAt (pb b) 0] ∧ L.map NdM.nd = f.list.map NdM.nd ∧ Frm w w' ∧ Sep w0 w' (pOwn b [.slice q L.length cc] :: pRow 4 q L.length cc (L.flatMap NdM.cells) :: pMany (L.flatMap NdM.rows) :: cs) := by
  have hS := Sep.start w
  refine enter (l := [.slice p f.len c]) Tryd.func12 rfl Tryd.ntmps12 (by kernel_rfl) rfl ?_
  refine sgo ?_
  refine sbox (v := .slice p f.len c) hS fun b w1 hS => ?_
  replace hS : Sep w w1 [pOwn b [.slice p f.len c]] := hS
  refine sgo ?_
  refine wlcall (own21_ok (f.size + 1) f p c (Nat.lt_succ_self _) hw w w1 _ hS (hT.frm hS.frm)) ?_
  rintro _ w2 ⟨q, cc, L, rfl, hL, -, hS⟩
  refine sgo ?_
  refine sst_slice hS 2 fun w3 hS => ?_
  replace hS : Sep w w3 [pRow 4 q L.length cc (L.flatMap NdM.cells), pMany (L.flatMap NdM.rows), pOwn b [.slice q L.length cc]] := hS
  refine sgo ?_
  (first | refine fp1 (.inl rfl) rfl rfl ?_ | refine fp2 (.inl rfl) rfl rfl rfl ?_ | refine fp3 (.inl rfl) rfl rfl rfl rfl ?_ | refine fp0 (.inr rfl) rfl ?_ | refine fp0 (.inl rfl) rfl ?_ | refine fp1 (.inr rfl) rfl rfl ?_)
  exact ⟨b, q, cc, L, rfl, hL, hS.frm, hS0.seq (ds := [_, _, _]) (hS.sel 3 [2, 0, 1])⟩
theorem wt_of_nd {L : List NdM} {f : FoM} (h : L.map NdM.nd = f.list.map NdM.nd) : (FoM.of L).wt = f.wt := by
  rw [wt_fo, wt_fo, fo_of, h, ← fo_list]
set_option maxHeartbeats 2000000 in
/-- .. called with yield -/
theorem walk1_ok21 (lr B bW : Nat) (L : List NdM) (q : Option Addr) (cc : Nat) (hw : (FoM.of L).wt ≤ 1048576) (hc : L.length ≤ cc) (hfit : (FoM.of L).fit) (hsz : (FoM.of L).size ≤ 4000000) (J Jx : Nat → World → Prop) (hst : ∀ i w1 w2, J i w1 → Same B w1 w2 → J i w2) (hstx : ∀ i w1 w2, Jx i w1 → Same B w1 w2 → Jx i w2)
    (hJE : ∀ i w, J i w → Own w bW [.slice q L.length cc] ∧ Tre w q (FoM.of L)) (hY : YldAt lr B ((FoM.of L).fo.wlk [] 0) J Jx) (w : World) (hB : w.heap.size = B) (h0 : J 0 w) :
    CallsR Tryd.prog 40 #[.func (.yield lr) #[] #[], ptrAt (pb bW) 0] w fun _ w' => J ((FoM.of L).fo.wlk [] 0).length w' ∨ ∃ j, j < ((FoM.of L).fo.wlk [] 0).length ∧ Jx j w' := by
  have ho := (hJE 0 w h0).1.sg
  have hS := ((Sep.start w)).push (c := pRow 1 none 0 0 []) (Frm.refl _) (Row.nil _ 1) (rb_nil _)
  refine enter (l := [.func (.yield lr) #[] #[], ptrAt (pb bW) 0]) Tryd.func40 rfl Tryd.ntmps40 (by kernel_rfl) rfl ?_
  refine sgo ?_
  have hwk := walk21_ok lr B ((FoM.of L).fo.wlk [] 0) J Jx hst hstx hY ((FoM.of L).size + 1) (FoM.of L) q cc (Nat.lt_succ_self _) hw (by rw [len_of]; exact hc) hfit (fun i w h => (hJE i w h).2) [] none 0 0 (by simp; omega) (fun j x h => by rw [Nat.zero_add]; exact h) w w [] hB hS h0
  rw [len_of] at hwk
  refine wlcall hwk ?_
  rintro _ w1 ⟨bb, w0', rfl, -, -, hbb⟩
  refine sgo ?_
  (first | refine fp1 (.inl rfl) rfl rfl ?_ | refine fp2 (.inl rfl) rfl rfl rfl ?_ | refine fp3 (.inl rfl) rfl rfl rfl rfl ?_ | refine fp0 (.inr rfl) rfl ?_ | refine fp0 (.inl rfl) rfl ?_ | refine fp1 (.inr rfl) rfl rfl ?_)
  cases bb with
  | true =>
    replace hbb : J (0 + ((FoM.of L).fo.wlk [] 0).length) w1 := hbb
    rw [Nat.zero_add] at hbb
    exact .inl hbb
  | false => exact .inr hbb
end Go.Proofs.YtcdogceabkpnmaaDoor

/-
  Chapter 21: Diff, dom's and the document's.
-/
set_option linter.unusedSimpArgs false
set_option linter.unusedVariables false
set_option linter.unnecessarySimpa false
namespace Go.Sv
open Go Go.RowKit
/-- a store into a block of one's own -/
theorem y_sst2 {P : Program} {σ : Env} {w0 w : World} {cs : List Plot} {ty t : TypeId} {pos : String} {af : Array Edge} {g : Option (Nat × Bool)} {x y : Operand} {zv v : Value} {size bytes b j : Nat} {l : List Value} [hi : Inf P t zv size bytes] (hS : Sep w0 w cs) (i : Nat) (hc : cs[i]? = some (pOwn b l)) (hx : evl σ x = ptrAt (pb b) j) (hy : evl σ y = v) (hv : v.cells.size = size) (hk : j + size ≤ l.length) (h1 : ∀ u ∈ v.cells.toList, u.oneCell' = true) :
    ∃ w', Y P σ ⟨none, .store t x y, ty, pos, af, g⟩ w undef w' ∧ Sep w0 w' (cs.set i (pOwn b (l.take j ++ v.cells.toList ++ l.drop (j + size)))) := by
  obtain ⟨w', hr, h2, h3⟩ := run_store_own (P := P) (t := t) (hS.own i hc) hv hk h1
  refine ⟨w', Y.skip ?_, hS.upd i hc (lm_own h3) h2⟩
  simp only [execOp, hx, hy]
  rw [Sem.run_bind, hr]
  rfl
end Go.Sv
namespace Go.Proofs.YtcdogceabkpnmaaDoor
open Go Go.Sv Go.RowKit
/-- the way of the first place where two lists of trees differ -/
def diffF : Fo → Fo → List Nat → Nat → Option (List Nat)
  | .nil, .nil, _, _ => none
  | .nil, .cons .., w, i => some (w ++ [i])
  | .cons .., .nil, w, i => some (w ++ [i])
  | .cons n t es ks r, .cons n2 t2 es2 ks2 r2, w, i => if n = n2 ∧ t = t2 ∧ es = es2 then
      (if n = [] then diffF r r2 w (i + 1) else match diffF ks ks2 (w ++ [i]) 0 with
        | some x => some x
        | none => diffF r r2 w (i + 1)) else some (w ++ [i])
def diffL (l m : List Nd) (w : List Nat) (i : Nat) : Option (List Nat) := diffF (Fo.of l) (Fo.of m) w i
def nds (f : FoM) : List Nd := f.list.map NdM.nd
def dfP (f g : FoM) (p q : Option Addr) (c dd i : Nat) (m m2 : NdM) : PlanB Unit where
  pl k d := match k with
    | 8 => [pOwn d.b [str [], str [], .slice none 0 0, .slice none 0 0]]
    | 9 => [pOwn d.b [str [], str [], .slice none 0 0, .slice none 0 0]]
    | 10 => [pOwn d.b m.cells]
    | 11 => [pOwn d.b m2.cells]
    | _ => []
  con k := match k with
    | 8 => some 10
    | 9 => some 11
    | _ => none
  base k := match k with
    | _ => []
  fact k a := match k with
    | 0 => (a 0).v = .slice p f.len c
    | 1 => (a 1).v = int i
    | 2 => (a 2).v = ptrAt p (i * 4)
    | 3 => (a 3).v = .agg ⟨((f.list.flatMap NdM.cells).drop (i * 4)).take 4⟩
    | 4 => (a 4).v = .slice q g.len dd
    | 5 => (a 5).v = int i
    | 6 => (a 6).v = ptrAt q (i * 4)
    | 7 => (a 7).v = .agg ⟨((g.list.flatMap NdM.cells).drop (i * 4)).take 4⟩
    | 8 => (a 8).v = ptrAt (pb (a 8).b) 0
    | 9 => (a 9).v = ptrAt (pb (a 9).b) 0
    | 10 => (a 10).b = (a 8).b
    | 11 => (a 11).b = (a 9).b
    | _ => True
def dgP (p q ph : Option Addr) (fl gl c dd ch i : Nat) (wi : List Nat) (m m2 : NdM) (r : Option (List Nat)) : PlanB Unit where
  pl k d := match k with
    | 11 => [pRow 1 d.p (r.getD []).length d.c (ints (r.getD []))]
    | _ => []
  con k := match k with
    | _ => none
  base k := match k with
    | _ => []
  fact k a := match k with
    | 0 => (a 0).v = .slice ph wi.length ch
    | 1 => (a 1).v = .slice p fl c
    | 2 => (a 2).v = int i
    | 3 => (a 3).v = ptrAt p (i * 4)
    | 4 => (a 4).v = ptrAt p (i * 4 + 3)
    | 5 => (a 5).v = .slice m.kp m.kids.len m.kc
    | 6 => (a 6).v = .slice q gl dd
    | 7 => (a 7).v = int i
    | 8 => (a 8).v = ptrAt q (i * 4)
    | 9 => (a 9).v = ptrAt q (i * 4 + 3)
    | 10 => (a 10).v = .slice m2.kp m2.kids.len m2.kc
    | 11 => (a 11).v = .tuple #[.slice (a 11).p (r.getD []).length (a 11).c, .bool r.isSome]
    | 12 => (a 12).v = .tuple #[.slice (a 12).p (r.getD []).length (a 12).c, .bool r.isSome] ∧ (a 12).p = (a 11).p ∧ (a 12).c = (a 11).c
    | 13 => (a 13).v = .slice (a 13).p (r.getD []).length (a 13).c ∧ (a 13).p = (a 12).p ∧ (a 13).c = (a 12).c
    | 14 => (a 14).v = .bool r.isSome
    | 15 => (a 15).v = .slice (a 15).p (r.getD []).length (a 15).c ∧ (a 15).p = (a 13).p ∧ (a 15).c = (a 13).c
    | 16 => (a 16).v = .bool r.isSome
    | _ => True
def rgP (p q ph : Option Addr) (fl gl c dd ch i : Nat) (wi : List Nat) (m m2 : NdM) (r : Option (List Nat)) : PlanB Unit where
  pl k d := match k with
    | 11 => [pRow 1 d.p (r.getD []).length d.c (ints (r.getD []))]
    | _ => []
  con k := match k with
    | _ => none
  base k := match k with
    | _ => []
  fact k a := match k with
    | 0 => (a 0).v = .slice p fl c
    | 1 => (a 1).v = int i
    | 2 => (a 2).v = ptrAt p (i * 4)
    | 3 => (a 3).v = ptrAt p (i * 4 + 3)
    | 4 => (a 4).v = .slice m.kp m.kids.len m.kc
    | 5 => (a 5).v = .slice q gl dd
    | 6 => (a 6).v = int i
    | 7 => (a 7).v = ptrAt q (i * 4)
    | 8 => (a 8).v = ptrAt q (i * 4 + 3)
    | 9 => (a 9).v = .slice m2.kp m2.kids.len m2.kc
    | 10 => (a 10).v = .slice ph wi.length ch
    | 11 => (a 11).v = .tuple #[.slice (a 11).p (r.getD []).length (a 11).c, .bool r.isSome]
    | 12 => (a 12).v = .tuple #[.slice (a 12).p (r.getD []).length (a 12).c, .bool r.isSome] ∧ (a 12).p = (a 11).p ∧ (a 12).c = (a 11).c
    | 13 => (a 13).v = .slice (a 13).p (r.getD []).length (a 13).c ∧ (a 13).p = (a 12).p ∧ (a 13).c = (a 12).c
    | 14 => (a 14).v = .bool r.isSome
    | 15 => (a 15).v = .slice (a 15).p (r.getD []).length (a 15).c ∧ (a 15).p = (a 13).p ∧ (a 15).c = (a 13).c
    | 16 => (a 16).v = .bool r.isSome
    | _ => True
end Go.Proofs.YtcdogceabkpnmaaDoor

/-
  Package dom, selectors: one step read.
-/
set_option linter.unusedSimpArgs false
set_option linter.unusedVariables false
set_option linter.unnecessarySimpa false
namespace Go.Sv
open Go Go.RowKit
/-- a test in memory, and a step -/
def Tst.dom (t : Tst) : List Value := [str t.attr, str t.value, .bool (decide (t.kind = 1)), .bool (decide (t.kind = 2))]
theorem Tst.dlen (t : Tst) : t.dom.length = 4 := rfl
end Go.Sv
namespace Go.Proofs.YtcdogceabkpnmaaDoor
open Go Go.Sv Go.RowKit

structure StM where
  name : List UInt8
  tests : List Tst
  child : Bool
  p : Option Addr
  c : Nat
def StM.st (m : StM) : Stp := ⟨m.name, m.tests, m.child⟩
def StM.cells (m : StM) : List Value := [str m.name, .slice m.p m.tests.length m.c, .bool m.child]
theorem StM.clen (m : StM) : m.cells.length = 3 := rfl
def StM.drow (m : StM) : RowD := ⟨4, m.p, m.tests.length, m.c, m.tests.flatMap Tst.dom⟩
theorem dom_snoc (l : List Tst) (x : Tst) : l.flatMap Tst.dom ++ x.dom = (l ++ [x]).flatMap Tst.dom := by simp
def cl93 (t : Tst) (u : List UInt8) : Option (Tst × List UInt8) := match u with
  | 93 :: r2 => some (t, r2)
  | _ => none
theorem cl93_no (t : Tst) {u : List UInt8} (h : ∀ r2, u ≠ 93 :: r2) : cl93 t u = none := by
  unfold cl93
  split
  · rename_i r2; exact absurd rfl (h r2)
  · rfl
theorem at_no61 {r : List UInt8} (h : nmR r ≠ []) (hn : ∀ r1, nmT r ≠ 61 :: r1) : markR 91 r = cl93 ⟨nmR r, [], 0⟩ (nmT r) := by
  by_cases h2 : ∃ r1, nmT r = 93 :: r1
  · obtain ⟨r1, h2⟩ := h2
    rw [at_any h h2, h2]; rfl
  · have h3 : ∀ r1, nmT r ≠ 93 :: r1 := fun r1 e => h2 ⟨r1, e⟩
    rw [at_bad h hn h3, cl93_no _ h3]
theorem at_61 {r r1 : List UInt8} (h : nmR r ≠ []) (h1 : nmT r = 61 :: r1) (h2 : nmR r1 ≠ []) : markR 91 r = cl93 ⟨nmR r, nmR r1, 1⟩ (nmT r1) := by
  by_cases h3 : ∃ r2, nmT r1 = 93 :: r2
  · obtain ⟨r2, h3⟩ := h3
    rw [at_val1 h h1 h2 h3, h3]; rfl
  · have h4 : ∀ r2, nmT r1 ≠ 93 :: r2 := fun r2 e => h3 ⟨r2, e⟩
    rw [at_val2 h h1 h4, cl93_no _ h4]
theorem head_cons {s : List UInt8} {c : UInt8} (h : s.head? = some c) : ∃ r, s = c :: r := by
  cases s with
  | nil => cases h
  | cons d r => exact ⟨r, by injection h with h; rw [h]⟩
def mkP (b b3 : Nat) (nm : List UInt8) (q : Option Addr) (cc : Nat) (acc : List Tst) (r : List UInt8) (t : Tst) : PlanB Unit where
  pl k d := match k with
    | 3 => [pOwn b [str (nmT r), .bool (!decide (nmR r = []))]]
    | 5 => [pOwn d.b t.dom]
    | 6 => [pRow 4 d.p (acc.length + 1) d.c (acc.flatMap Tst.dom ++ t.dom)]
    | 8 => [pOwn b3 [str nm, .slice d.p (acc.length + 1) d.c, .bool false]]
    | _ => []
  con k := match k with
    | 5 => some 6
    | _ => none
  base k := match k with
    | 3 => [pOwn b [str r, .bool true]]
    | 6 => [pRow 4 q acc.length cc (acc.flatMap Tst.dom)]
    | 8 => [pOwn b3 [str nm, .slice q acc.length cc, .bool false]]
    | _ => []
  fact k a := match k with
    | 0 => (a 0).v = ptrAt (pb b3) 1
    | 1 => (a 1).v = .slice q acc.length cc
    | 2 => (a 2).v = ptrAt (pb b) 0
    | 3 => (a 3).v = str (nmR r)
    | 4 => (a 4).v = .agg ⟨t.dom⟩
    | 5 => (a 5).v = .slice (pb (a 5).b) 1 1
    | 6 => (a 6).v = .slice (a 6).p (acc.length + 1) (a 6).c
    | 7 => (a 7).v = ptrAt (pb b3) 1
    | 8 => (a 8).p = (a 6).p ∧ (a 8).c = (a 6).c
    | _ => True
/-- what step answers -/
def DStep (w0 : World) (b : Nat) (s : List UInt8) (cs : List Plot) (R : Option (Stp × List UInt8)) (v : Value) (w' : World) : Prop :=
  ∃ (nm : List UInt8) (l : List Tst) (q : Option Addr) (c : Nat) (r : List UInt8) (ok : Bool), v = .agg ⟨[str nm, .slice q l.length c, .bool false]⟩ ∧ r.length ≤ s.length ∧ (if ok = true then R = some (⟨nm, l, false⟩, r) else R = none) ∧
    Sep w0 w' (pRow 4 q l.length c (l.flatMap Tst.dom) :: pOwn b [str r, .bool ok] :: cs)
set_option maxHeartbeats 8000000 in
theorem dStep_ok (b : Nat) (s : List UInt8) (hb : s.length ≤ 16777216) (w0 w : World) (cs : List Plot) (hS : Sep w0 w (pOwn b [str s, .bool true] :: cs)) :
    CallsR Tryd.prog 73 #[ptrAt (pb b) 0] w (DStep w0 b s cs (stepR s)) := by
  obtain ⟨R, hR⟩ : ∃ R, R = stepR s := ⟨_, rfl⟩
  rw [← hR]
  have htk := fun (t : List UInt8) (ok : Bool) (c : Nat) (hc : c < 256) (ht : t.length ≤ s.length) (w : World) (cs : List Plot) (hS : Sep w0 w (pOwn b [str t, .bool ok] :: cs)) => takes_ok b t ok c hc (by omega) w0 w cs hS
  have hmu := fun (t : List UInt8) (ok : Bool) (ht : t.length ≤ s.length) (w : World) (cs : List Plot) (hS : Sep w0 w (pOwn b [str t, .bool ok] :: cs)) => dMust_ok b t ok (by omega) w0 w cs hS
  refine enter (l := [ptrAt (pb b) 0]) Tryd.func73 rfl Tryd.ntmps73 (by kernel_rfl) rfl ?_
  refine sgo ?_
  refine salloc hS fun b2 w1 hS => ?_
  refine sgo ?_
  refine salloc hS fun b3 w2 hS => ?_
  replace hS : Sep w0 w2 (pOwn b [str s, .bool true] :: pOwn b3 [str [], .slice none 0 0, .bool false] :: pOwn b2 [str [], .slice none 0 0, .bool false] :: cs) := hS.front 2 rfl
  refine sgo ?_
  refine wlcall (htk s true 42 (by decide) (Nat.le_refl _) _ _ hS) ?_
  repeat clear hS
  rintro _ w3 ⟨x, rfl, hh⟩
  refine sgo ?_
  refine wcutt (X := List UInt8 × Bool × List UInt8) (fun x => [(0, ptrAt (pb b) 0), (2, ptrAt (pb b2) 0), (3, ptrAt (pb b3) 0), (4, .bool x.2.1)])
    (fun x wr => contR x.1 x.2.1 [] x.2.2 = R ∧ x.2.2.length ≤ s.length ∧ Sep w0 wr (pOwn b [str x.2.2, .bool true] :: pOwn b3 [str x.1, .slice none 0 0, .bool false] :: pOwn b2 [str [], .slice none 0 0, .bool false] :: cs)) ?_ ?_
  · cases x with
    | true =>
      obtain ⟨r, rfl, hS⟩ := hh
      rw [show (UInt8.ofNat 42) = 42 from rfl, step_cont_star] at hR
      refine sgo ?_
      exact ⟨([], true, r), ⟨rfl, rfl, rfl, rfl, trivial⟩, ⟨hR.symm, by simp, hS⟩⟩
    | false =>
      obtain ⟨hn, hS⟩ := hh
      rw [step_cont hn] at hR
      have hl := nmT_le s
      refine sgo ?_
      refine wlcall (dName_ok b s true hb w0 _ _ hS) ?_
      repeat clear hS
      rintro _ w4 ⟨rfl, hS⟩
      generalize nmR s = m at *
      generalize nmT s = u at *
      refine sgo ?_
      refine sst_str hS 1 fun w5 hS => ?_
      refine sgo ?_
      refine ⟨(m, !decide (m = []), u), ⟨rfl, rfl, rfl, ?_, trivial⟩, ⟨hR.symm, hl, hS⟩⟩
      exact congrArg Value.bool (by simp)
  clear hh hR
  rintro ⟨nm, sth, t0⟩ w4 ρ ⟨hR, ht0, hS⟩
  dsimp only at hR ht0 hS
  replace hS := hS.nilRow 4
  refine sgo ?_
  refine wcloop (X := Bool × List Tst × Option Addr × Nat × List UInt8) (fun _ => [(0, ptrAt (pb b) 0), (2, ptrAt (pb b2) 0), (3, ptrAt (pb b3) 0), (4, .bool sth)])
    (fun x wr => (if x.1 = true then contR nm sth x.2.1 x.2.2.2.2 = R else R = none) ∧ x.2.1.length + x.2.2.2.2.length ≤ s.length ∧
      Sep w0 wr (pOwn b [str x.2.2.2.2, .bool x.1] :: pRow 4 x.2.2.1 x.2.1.length x.2.2.2.1 (x.2.1.flatMap Tst.dom) :: pOwn b3 [str nm, .slice x.2.2.1 x.2.1.length x.2.2.2.1, .bool false] :: pOwn b2 [str [], .slice none 0 0, .bool false] :: cs))
    (fun x => x.2.2.2.2.length + (if x.1 = true then 1 else 0)) (true, [], none, 0, t0) ⟨rfl, rfl, rfl, rfl, trivial⟩ ⟨hR, by simpa using ht0, hS.sel 4 [1, 0, 2, 3]⟩ ?_
  clear hS hR ht0 t0
  rintro ⟨ok, acc, q, cc, t⟩ wr ρ1 ⟨hR, htl, hS⟩
  dsimp only at hR htl hS ⊢
  cases ok with
  | false =>
    refine sgo ?_
    refine ssta (vs := [str nm, .slice q acc.length cc, .bool false]) hS 3 fun w5 hS => ?_
    refine sgo ?_
    refine fpc (.inl rfl) rfl rfl rfl (hS.own 3 rfl) ?_
    exact ⟨nm, acc, q, cc, t, false, rfl, by omega, hR, hS.sel 4 [1, 0]⟩
  | true =>
    rw [if_pos rfl] at hR
    refine sgo ?_
    refine wlcall (htk t true 35 (by decide) (by omega) _ _ hS) ?_
    repeat clear hS
    rintro _ w5 ⟨x, rfl, hh⟩
    cases x with
    | true =>
      obtain ⟨r, rfl, hS⟩ := hh
      have hmust := hmu r true (by simp at htl; omega)
      rw [show (UInt8.ofNat 35) = 35 from rfl] at *
      refine sgo ?_
      refine wcplanb (b := [pOwn b [str r, .bool true]] ++ [pRow 4 q acc.length cc (acc.flatMap Tst.dom)] ++ [pOwn b3 [str nm, .slice q acc.length cc, .bool false]]) (mkP b b3 nm q cc acc r ⟨wId, nmR r, 1⟩) ⟨.nilIface, none, 0, 0, ()⟩ hS rfl (fun j oj a a' hj he hd h => ?_) ⟨?_, ?_, ?_, ?_, ?_, ?_, ?_, ?_, ?_, trivial⟩ ?_
      · have hjl : j < 9 := (List.getElem?_eq_some_iff.1 hj).1
        match j, hjl with
        | 0, _ | 1, _ | 2, _ | 3, _ | 4, _ | 5, _ | 6, _ | 7, _ => first | (simp only [mkP] at h ⊢; rw [← he]; exact h) | exact h
        | 8, _ => simp only [mkP] at h ⊢; rw [← he, ← hd 6 (by cases hj; rfl)]; exact h
      · intro a σ' w' rest hσ hdep hS'   -- 0: fieldAddr; pieces: sees 8 ..
        have e3 : σ' 3 = ptrAt (pb b3) 0 := (hσ 3 (notDstB rfl)).trans rfl
        exact rule_y (y_field e3 ⟨_, rfl⟩ (by decide)) ⟨⟨ptrAt (pb b3) 1, none, 0, 0, ()⟩, rfl, rfl, hS'⟩
      · intro a σ' w' rest hσ hdep hS'   -- 1: load; pieces: sees 6, sees 8 ..
        have f0 := (hdep 0 _ rfl rfl).2
        have e33 := ((hdep 0 _ rfl rfl).1 33 rfl).trans f0
        exact rule_y (y_load e33 (Sep.sgv hS' 1 rfl) rfl) ⟨⟨.slice q acc.length cc, none, 0, 0, ()⟩, rfl, rfl, hS'⟩
      · intro a σ' w' rest hσ hdep hS'   -- 2: move; pieces: sees 3, sees 8 ..
        have e0 : σ' 0 = ptrAt (pb b) 0 := (hσ 0 (notDstB rfl)).trans rfl
        exact rule_e [(0, _)] ⟨e0, trivial⟩ ⟨⟨ptrAt (pb b) 0, none, 0, 0, ()⟩, rfl, rfl, hS'⟩
      · intro a σ' w' rest hσ hdep hS'   -- 3: call; pieces: base 3, sees 6, sees 8 ..
        have f2 := (hdep 2 _ rfl rfl).2
        have e35 := ((hdep 2 _ rfl rfl).1 35 rfl).trans f2
        refine rule_call (vals := [ptrAt (pb b) 0]) (hmust w' _ hS') (fun v w2 hR => ?_) (am1 e35)
        obtain ⟨rfl, hS2⟩ := hR
        exact ⟨⟨str (nmR r), none, 0, 0, ()⟩, rfl, rfl, hS2⟩
      · intro a σ' w' rest hσ hdep hS'   -- 4: build; pieces: sees 8 ..
        have f3 := (hdep 3 _ rfl rfl).2
        have e36 := ((hdep 3 _ rfl rfl).1 36 rfl).trans f3
        exact rule_y (y_build (cells := (⟨wId, nmR r, 1⟩ : Tst).dom) (by rw [bm3 (v := str wId) (r := .bool true) (x := .const (.string ⟨#[105, 100]⟩)) (y := .tmp 36) (z := .const (.bool true)) rfl e36 rfl]; simp [fillL, setSeg, Value.cells, Tst.dom] <;> rfl)) ⟨⟨.agg ⟨(⟨wId, nmR r, 1⟩ : Tst).dom⟩, none, 0, 0, ()⟩, rfl, rfl, hS'⟩
      · intro a σ' w' rest hσ hdep hS'   -- 5: buildSlice; pieces: sees 6, sees 8 ..
        have f4 := (hdep 4 _ rfl rfl).2
        have e37 := ((hdep 4 _ rfl rfl).1 37 rfl).trans f4
        obtain ⟨b', w2, hy, hS2⟩ := y_bs1 (P := Tryd.prog) (t := 128) (d := some 38) (x := .tmp 37) (vs := (⟨wId, nmR r, 1⟩ : Tst).dom) (size := 4) hS' e37 rfl rfl (by decide) (by decide)
        exact rule_y hy ⟨⟨.slice (pb b') 1 1, none, 0, b', ()⟩, rfl, rfl, hS2⟩
      · intro a σ' w' rest hσ hdep hS'   -- 6: call; pieces: takes 5, base 6, sees 8 ..
        have f1 := (hdep 1 _ rfl rfl).2
        have e34 := ((hdep 1 _ rfl rfl).1 34 rfl).trans f1
        have f5 := (hdep 5 _ rfl rfl).2
        have e38 := ((hdep 5 _ rfl rfl).1 38 rfl).trans f5
        obtain ⟨p2, c2, w2, hy, hS2⟩ := y_app (P := Tryd.prog) (t := 128) (t' := 128) (ty := 128) (d := some 39) (x := .tmp 34) (y := .tmp 38) (n := 1) hS' 1 (hS'.own 0 rfl).sg rfl e34 e38 rfl (by simp [Value.oneCell', Tst.dom]) rfl (by decide) (by omega)
        exact rule_y hy ⟨⟨.slice p2 (acc.length + 1) c2, p2, c2, 0, ()⟩, rfl, rfl, hS2.drop 0 rfl⟩
      · intro a σ' w' rest hσ hdep hS'   -- 7: fieldAddr; pieces: sees 8 ..
        have e3 : σ' 3 = ptrAt (pb b3) 0 := (hσ 3 (notDstB rfl)).trans rfl
        exact rule_y (y_field e3 ⟨_, rfl⟩ (by decide)) ⟨⟨ptrAt (pb b3) 1, none, 0, 0, ()⟩, rfl, rfl, hS'⟩
      · intro a σ' w' rest hσ hdep hS'   -- 8: store; pieces: base 8 ..
        have f7 := (hdep 7 _ rfl rfl).2
        have e40 := ((hdep 7 _ rfl rfl).1 40 rfl).trans f7
        have f6 := (hdep 6 _ rfl rfl).2
        have e39 := ((hdep 6 _ rfl rfl).1 39 rfl).trans f6
        obtain ⟨w2, hy, hS2⟩ := y_sst2 (P := Tryd.prog) (t := 128) (x := .tmp 40) (y := .tmp 39) hS' 0 rfl e40 e39 rfl (Nat.le_of_ble_eq_true rfl) (by simp [Go.Value.cells, Go.Value.oneCell'])
        exact rule_y hy ⟨⟨undef, (a 6).p, (a 6).c, 0, ()⟩, rfl, ⟨rfl, rfl⟩, hS2⟩
      · intro a σ' w' hσ hA' hS'
        have h8 := hA' 8 _ rfl
        rw [frameOf (σ := σ') [(0, ptrAt (pb b) 0), (2, ptrAt (pb b2) 0), (3, ptrAt (pb b3) 0), (4, .bool sth)] ⟨(hσ 0 (notDst rfl)).trans rfl, (hσ 2 (notDst rfl)).trans rfl, (hσ 3 (notDst rfl)).trans rfl, (hσ 4 (notDst rfl)).trans rfl, trivial⟩]
        replace hS' : Sep w0 w' (pOwn b [str (nmT r), .bool (!decide (nmR r = []))] :: pRow 4 (a 6).p (acc.length + 1) (a 6).c (acc.flatMap Tst.dom ++ (⟨wId, nmR r, 1⟩ : Tst).dom) :: pOwn b3 [str nm, .slice (a 8).p (acc.length + 1) (a 8).c, .bool false] :: pOwn b2 [str [], .slice none 0 0, .bool false] :: cs) := hS'
        rw [h8.2.1, h8.2.2, dom_snoc, show acc.length + 1 = (acc ++ [(⟨wId, nmR r, 1⟩ : Tst)]).length by simp] at hS'
        generalize (a 6).p = q' at hS'
        generalize (a 6).c = cc' at hS'
        clear hA' hσ h8 a
        repeat clear hS
        have hl := nmT_le r
        rw [List.length_cons] at htl
        refine sgo ?_
        refine ⟨(!decide (nmR r = []), acc ++ [(⟨wId, nmR r, 1⟩ : Tst)], q', cc', nmT r), ⟨rfl, rfl, rfl, rfl, trivial⟩, ⟨?_, ?_, hS'⟩, ?_⟩
        · by_cases h0 : nmR r = []
          · have := cont_bad (nm := nm) (sth := sth) (acc := acc) (c := 35) (r := r) rfl (mark_none h0)
            simp [h0, ← hR, this]
          · have := cont_more (nm := nm) (sth := sth) (acc := acc) (c := 35) (r := r) rfl (mark_id h0)
            simp [h0, ← hR, this]
        · rw [List.length_append, List.length_singleton]; dsimp only; omega
        · simp only [if_true, List.length_cons]; split <;> omega
    | false =>
      obtain ⟨hn35, hS⟩ := hh
      refine sgo ?_
      refine wlcall (htk t true 46 (by decide) (by omega) _ _ hS) ?_
      repeat clear hS
      rintro _ w6 ⟨x, rfl, hh⟩
      cases x with
      | true =>
        obtain ⟨r, rfl, hS⟩ := hh
        have hmust := hmu r true (by simp at htl; omega)
        rw [show (UInt8.ofNat 46) = 46 from rfl] at *
        refine sgo ?_
        refine wcplanb (b := [pOwn b [str r, .bool true]] ++ [pRow 4 q acc.length cc (acc.flatMap Tst.dom)] ++ [pOwn b3 [str nm, .slice q acc.length cc, .bool false]]) (mkP b b3 nm q cc acc r ⟨wClass, nmR r, 2⟩) ⟨.nilIface, none, 0, 0, ()⟩ hS rfl (fun j oj a a' hj he hd h => ?_) ⟨?_, ?_, ?_, ?_, ?_, ?_, ?_, ?_, ?_, trivial⟩ ?_
        · have hjl : j < 9 := (List.getElem?_eq_some_iff.1 hj).1
          match j, hjl with
          | 0, _ | 1, _ | 2, _ | 3, _ | 4, _ | 5, _ | 6, _ | 7, _ => first | (simp only [mkP] at h ⊢; rw [← he]; exact h) | exact h
          | 8, _ => simp only [mkP] at h ⊢; rw [← he, ← hd 6 (by cases hj; rfl)]; exact h
        · intro a σ' w' rest hσ hdep hS'   -- 0: fieldAddr; pieces: sees 8 ..
          have e3 : σ' 3 = ptrAt (pb b3) 0 := (hσ 3 (notDstB rfl)).trans rfl
          exact rule_y (y_field e3 ⟨_, rfl⟩ (by decide)) ⟨⟨ptrAt (pb b3) 1, none, 0, 0, ()⟩, rfl, rfl, hS'⟩
        · intro a σ' w' rest hσ hdep hS'   -- 1: load; pieces: sees 6, sees 8 ..
          have f0 := (hdep 0 _ rfl rfl).2
          have e44 := ((hdep 0 _ rfl rfl).1 44 rfl).trans f0
          exact rule_y (y_load e44 (Sep.sgv hS' 1 rfl) rfl) ⟨⟨.slice q acc.length cc, none, 0, 0, ()⟩, rfl, rfl, hS'⟩
        · intro a σ' w' rest hσ hdep hS'   -- 2: move; pieces: sees 3, sees 8 ..
          have e0 : σ' 0 = ptrAt (pb b) 0 := (hσ 0 (notDstB rfl)).trans rfl
          exact rule_e [(0, _)] ⟨e0, trivial⟩ ⟨⟨ptrAt (pb b) 0, none, 0, 0, ()⟩, rfl, rfl, hS'⟩
        · intro a σ' w' rest hσ hdep hS'   -- 3: call; pieces: base 3, sees 6, sees 8 ..
          have f2 := (hdep 2 _ rfl rfl).2
          have e46 := ((hdep 2 _ rfl rfl).1 46 rfl).trans f2
          refine rule_call (vals := [ptrAt (pb b) 0]) (hmust w' _ hS') (fun v w2 hR => ?_) (am1 e46)
          obtain ⟨rfl, hS2⟩ := hR
          exact ⟨⟨str (nmR r), none, 0, 0, ()⟩, rfl, rfl, hS2⟩
        · intro a σ' w' rest hσ hdep hS'   -- 4: build; pieces: sees 8 ..
          have f3 := (hdep 3 _ rfl rfl).2
          have e47 := ((hdep 3 _ rfl rfl).1 47 rfl).trans f3
          exact rule_y (y_build (cells := (⟨wClass, nmR r, 2⟩ : Tst).dom) (by rw [bm3 (v := str wClass) (r := .bool true) (x := .const (.string ⟨#[99, 108, 97, 115, 115]⟩)) (y := .tmp 47) (z := .const (.bool true)) rfl e47 rfl]; simp [fillL, setSeg, Value.cells, Tst.dom] <;> rfl)) ⟨⟨.agg ⟨(⟨wClass, nmR r, 2⟩ : Tst).dom⟩, none, 0, 0, ()⟩, rfl, rfl, hS'⟩
        · intro a σ' w' rest hσ hdep hS'   -- 5: buildSlice; pieces: sees 6, sees 8 ..
          have f4 := (hdep 4 _ rfl rfl).2
          have e48 := ((hdep 4 _ rfl rfl).1 48 rfl).trans f4
          obtain ⟨b', w2, hy, hS2⟩ := y_bs1 (P := Tryd.prog) (t := 128) (d := some 49) (x := .tmp 48) (vs := (⟨wClass, nmR r, 2⟩ : Tst).dom) (size := 4) hS' e48 rfl rfl (by decide) (by decide)
          exact rule_y hy ⟨⟨.slice (pb b') 1 1, none, 0, b', ()⟩, rfl, rfl, hS2⟩
        · intro a σ' w' rest hσ hdep hS'   -- 6: call; pieces: takes 5, base 6, sees 8 ..
          have f1 := (hdep 1 _ rfl rfl).2
          have e45 := ((hdep 1 _ rfl rfl).1 45 rfl).trans f1
          have f5 := (hdep 5 _ rfl rfl).2
          have e49 := ((hdep 5 _ rfl rfl).1 49 rfl).trans f5
          obtain ⟨p2, c2, w2, hy, hS2⟩ := y_app (P := Tryd.prog) (t := 128) (t' := 128) (ty := 128) (d := some 50) (x := .tmp 45) (y := .tmp 49) (n := 1) hS' 1 (hS'.own 0 rfl).sg rfl e45 e49 rfl (by simp [Value.oneCell', Tst.dom]) rfl (by decide) (by omega)
          exact rule_y hy ⟨⟨.slice p2 (acc.length + 1) c2, p2, c2, 0, ()⟩, rfl, rfl, hS2.drop 0 rfl⟩
        · intro a σ' w' rest hσ hdep hS'   -- 7: fieldAddr; pieces: sees 8 ..
          have e3 : σ' 3 = ptrAt (pb b3) 0 := (hσ 3 (notDstB rfl)).trans rfl
          exact rule_y (y_field e3 ⟨_, rfl⟩ (by decide)) ⟨⟨ptrAt (pb b3) 1, none, 0, 0, ()⟩, rfl, rfl, hS'⟩
        · intro a σ' w' rest hσ hdep hS'   -- 8: store; pieces: base 8 ..
          have f7 := (hdep 7 _ rfl rfl).2
          have e51 := ((hdep 7 _ rfl rfl).1 51 rfl).trans f7
          have f6 := (hdep 6 _ rfl rfl).2
          have e50 := ((hdep 6 _ rfl rfl).1 50 rfl).trans f6
          obtain ⟨w2, hy, hS2⟩ := y_sst2 (P := Tryd.prog) (t := 128) (x := .tmp 51) (y := .tmp 50) hS' 0 rfl e51 e50 rfl (Nat.le_of_ble_eq_true rfl) (by simp [Go.Value.cells, Go.Value.oneCell'])
          exact rule_y hy ⟨⟨undef, (a 6).p, (a 6).c, 0, ()⟩, rfl, ⟨rfl, rfl⟩, hS2⟩
        · intro a σ' w' hσ hA' hS'
          have h8 := hA' 8 _ rfl
          rw [frameOf (σ := σ') [(0, ptrAt (pb b) 0), (2, ptrAt (pb b2) 0), (3, ptrAt (pb b3) 0), (4, .bool sth)] ⟨(hσ 0 (notDst rfl)).trans rfl, (hσ 2 (notDst rfl)).trans rfl, (hσ 3 (notDst rfl)).trans rfl, (hσ 4 (notDst rfl)).trans rfl, trivial⟩]
          replace hS' : Sep w0 w' (pOwn b [str (nmT r), .bool (!decide (nmR r = []))] :: pRow 4 (a 6).p (acc.length + 1) (a 6).c (acc.flatMap Tst.dom ++ (⟨wClass, nmR r, 2⟩ : Tst).dom) :: pOwn b3 [str nm, .slice (a 8).p (acc.length + 1) (a 8).c, .bool false] :: pOwn b2 [str [], .slice none 0 0, .bool false] :: cs) := hS'
          rw [h8.2.1, h8.2.2, dom_snoc, show acc.length + 1 = (acc ++ [(⟨wClass, nmR r, 2⟩ : Tst)]).length by simp] at hS'
          generalize (a 6).p = q' at hS'
          generalize (a 6).c = cc' at hS'
          clear hA' hσ h8 a
          repeat clear hS
          have hl := nmT_le r
          rw [List.length_cons] at htl
          refine sgo ?_
          refine ⟨(!decide (nmR r = []), acc ++ [(⟨wClass, nmR r, 2⟩ : Tst)], q', cc', nmT r), ⟨rfl, rfl, rfl, rfl, trivial⟩, ⟨?_, ?_, hS'⟩, ?_⟩
          · by_cases h0 : nmR r = []
            · have := cont_bad (nm := nm) (sth := sth) (acc := acc) (c := 46) (r := r) rfl (mark_none h0)
              simp [h0, ← hR, this]
            · have := cont_more (nm := nm) (sth := sth) (acc := acc) (c := 46) (r := r) rfl (mark_class h0)
              simp [h0, ← hR, this]
          · rw [List.length_append, List.length_singleton]; dsimp only; omega
          · simp only [if_true, List.length_cons]; split <;> omega
      | false =>
        obtain ⟨hn46, hS⟩ := hh
        refine sgo ?_
        refine wlcall (htk t true 91 (by decide) (by omega) _ _ hS) ?_
        repeat clear hS
        rintro _ w7 ⟨x, rfl, hh⟩
        cases x with
        | false =>
          obtain ⟨hn91, hS⟩ := hh
          have hcn : contR nm sth acc t = if sth = false ∧ acc = [] then none else some (⟨nm, acc, false⟩, t) := by
            cases t with
            | nil => exact cont_nil nm sth acc
            | cons d r =>
              refine cont_stop (decide_eq_false ?_)
              rintro (rfl | rfl | rfl)
              · exact hn35 r rfl
              · exact hn46 r rfl
              · exact hn91 r rfl
          rw [hR] at hcn
          refine sgo ?_
          refine sst_bool hS 0 fun w8 hS => ?_
          have hS3 : Sg w8 (pb b3) [str nm, .slice q acc.length cc, .bool false] := (hS.own 2 rfl).sg
          refine sgo ?_
          refine ssta (vs := [str nm, .slice q acc.length cc, .bool false]) hS 3 fun w9 hS => ?_
          refine sgo ?_
          refine fpc (.inl rfl) rfl rfl rfl (hS.own 3 rfl) ?_
          refine ⟨nm, acc, q, cc, t, _, rfl, by omega, ?_, hS.sel 4 [1, 0]⟩
          rw [pkb_or, hcn]
          cases sth <;> cases acc <;> simp
        | true =>
          obtain ⟨r, rfl, hS⟩ := hh
          rw [show (UInt8.ofNat 91) = 91 from rfl] at *
          refine sgo ?_
          refine wlcall (hmu r true (by simp at htl; omega) _ _ hS) ?_
          repeat clear hS
          rintro _ w8 ⟨rfl, hS⟩
          have hl := nmT_le r
          rw [List.length_cons] at htl
          obtain ⟨ok1, hok1⟩ : ∃ ok1, ok1 = (true && !decide (nmR r = [])) := ⟨_, rfl⟩
          rw [← hok1] at hS
          refine sgo ?_
          refine wlbuild ?_
          refine sgo ?_
          refine salloc hS fun b5 w9 hS => ?_
          refine sgo ?_
          refine ssta (vs := [str (nmR r), str [], .bool false, .bool false]) hS 0 fun w10 hS => ?_
          replace hS : Sep w0 w10 (pOwn b [str (nmT r), .bool ok1] :: pOwn b5 [str (nmR r), str [], .bool false, .bool false] :: pRow 4 q acc.length cc (acc.flatMap Tst.dom) :: pOwn b3 [str nm, .slice q acc.length cc, .bool false] :: pOwn b2 [str [], .slice none 0 0, .bool false] :: cs) := hS.front 1 rfl
          refine sgo ?_
          refine wlcall (htk (nmT r) ok1 61 (by decide) (by omega) _ _ hS) ?_
          repeat clear hS
          rintro _ w11 ⟨x2, rfl, hh⟩
          refine sgo ?_
          refine wcutt (X := Bool × List UInt8 × Nat × List UInt8) (fun _ => [(0, ptrAt (pb b) 0), (2, ptrAt (pb b2) 0), (3, ptrAt (pb b3) 0), (4, .bool sth), (5, ptrAt (pb b5) 0)])
            (fun x wr => (markR 91 r = if x.1 = true then cl93 ⟨nmR r, x.2.1, x.2.2.1⟩ x.2.2.2 else none) ∧ x.2.2.2.length ≤ r.length ∧ x.2.2.1 ≤ 1 ∧
              Sep w0 wr (pOwn b [str x.2.2.2, .bool x.1] :: pOwn b5 [str (nmR r), str x.2.1, .bool (decide (x.2.2.1 = 1)), .bool false] :: pRow 4 q acc.length cc (acc.flatMap Tst.dom) :: pOwn b3 [str nm, .slice q acc.length cc, .bool false] :: pOwn b2 [str [], .slice none 0 0, .bool false] :: cs)) ?_ ?_
          · cases x2 with
            | false =>
              obtain ⟨hn, hS⟩ := hh
              refine sgo ?_
              refine ⟨(ok1, [], 0, nmT r), ⟨rfl, rfl, rfl, rfl, rfl, trivial⟩, ⟨?_, hl, Nat.zero_le _, hS⟩⟩
              by_cases h0 : nmR r = []
              · rw [mark_none h0, hok1]; simp [h0]
              · rw [at_no61 h0 hn, hok1]; simp [h0]
            | true =>
              obtain ⟨r1, hr1, hS⟩ := hh
              rw [show (UInt8.ofNat 61) = 61 from rfl] at hr1
              have hl1 : r1.length + 1 ≤ r.length := by have := congrArg List.length hr1; rw [List.length_cons] at this; omega
              have hl2 := nmT_le r1
              refine sgo ?_
              refine wlcall (hmu r1 ok1 (by omega) _ _ hS) ?_
              repeat clear hS
              rintro _ w12 ⟨rfl, hS⟩
              refine sgo ?_
              refine sst_str hS 1 fun w13 hS => ?_
              refine sgo ?_
              refine sst_bool hS 1 fun w14 hS => ?_
              refine sgo ?_
              refine ⟨(ok1 && !decide (nmR r1 = []), nmR r1, 1, nmT r1), ⟨rfl, rfl, rfl, rfl, rfl, trivial⟩, ⟨?_, (by dsimp only; omega), Nat.le_refl _, hS⟩⟩
              by_cases h0 : nmR r = []
              · rw [mark_none h0, hok1]; simp [h0]
              · rw [hok1]
                by_cases h1 : nmR r1 = []
                · rw [at_val0 h0 hr1 h1]; simp [h0, h1]
                · rw [at_61 h0 hr1 h1]; simp [h0, h1]
          clear hh
          rintro ⟨ok2, val, kd, u⟩ w12 ρ2 ⟨hmk, hul, hkd, hS⟩
          dsimp only at hmk hul hkd hS
          obtain ⟨tt, htt⟩ : ∃ tt : Tst, tt = ⟨nmR r, val, kd⟩ := ⟨_, rfl⟩
          have hdom : ([str (nmR r), str val, .bool (decide (kd = 1)), .bool false] : List Value) = tt.dom := by
            rw [htt]; simp [Tst.dom]; omega
          rw [hdom] at hS
          have hS5 : Sg w12 (pb b5) tt.dom := (hS.own 1 rfl).sg
          have hS5' : Sg w12 (pb b5) [str tt.attr, str tt.value, .bool (decide (tt.kind = 1)), .bool (decide (tt.kind = 2))] := hS5
          have hfin : contR nm sth acc (91 :: r) = match (if ok2 = true then cl93 tt u else none) with | none => none | some (t, r1) => contR nm sth (acc ++ [t]) r1 := by
            rw [htt, ← hmk]
            cases hm : markR 91 r with
            | none => exact cont_bad rfl hm
            | some x => exact cont_more rfl hm
          rw [hR] at hfin
          clear hmk hR htt hdom hS5
          refine sgo ?_
          refine sb1a (vs := tt.dom) hS fun b6 w13 hS => ?_
          refine sgo ?_
          refine sapp hS 3 (hS.own 0 rfl).sg (fun q' cc' w14 hS => ?_) (h1 := by simp [Tst.dom, Value.oneCell'])
          refine sgo ?_
          refine sst_slice hS 4 fun w15 hS => ?_
          replace hS : Sep w0 w15 (pOwn b6 tt.dom :: pOwn b [str u, .bool ok2] :: pOwn b5 tt.dom :: pRow 4 q' (acc.length + 1) cc' (acc.flatMap Tst.dom ++ tt.dom) :: pOwn b3 [str nm, .slice q' (acc.length + 1) cc', .bool false] :: pOwn b2 [str [], .slice none 0 0, .bool false] :: cs) := hS
          rw [dom_snoc, show acc.length + 1 = (acc ++ [tt]).length by simp] at hS
          replace hS := hS.sel 6 [1, 3, 4, 5]
          simp only [List.filterMap_cons, List.filterMap_nil, List.getElem?_cons_succ, List.getElem?_cons_zero, List.drop_succ_cons, List.drop_zero, List.cons_append, List.nil_append] at hS
          have hal : (acc ++ [tt]).length = acc.length + 1 := by simp
          refine sgo ?_
          cases ok2 with
          | false =>
            refine sgo ?_
            refine wlskipg (.bool false) ?_ (hgt := by simp)
            refine sgo ?_
            refine sst_bool hS 0 fun w16 hS => ?_
            refine sgo ?_
            refine ⟨(false, acc ++ [tt], q', cc', u), ⟨rfl, rfl, rfl, rfl, trivial⟩, ⟨?_, ?_, hS⟩, ?_⟩
            · rw [hfin]; rfl
            · dsimp only; omega
            · simp only [if_true, List.length_cons]; (try dsimp only); (try split) <;> omega
          | true =>
            refine sgo ?_
            refine wlcallgt (vals := [ptrAt (pb b) 0, byt 93]) (htk u true 93 (by decide) (by omega) _ _ hS) (fun v w16 hR => ?_) rfl
            repeat clear hS
            obtain ⟨x3, rfl, hh⟩ := hR
            rw [if_pos rfl] at hfin
            cases x3 with
            | false =>
              obtain ⟨hn, hS⟩ := hh
              refine sgo ?_
              refine sst_bool hS 0 fun w17 hS => ?_
              refine sgo ?_
              refine ⟨(false, acc ++ [tt], q', cc', u), ⟨rfl, rfl, rfl, rfl, trivial⟩, ⟨?_, ?_, hS⟩, ?_⟩
              · rw [hfin, cl93_no _ hn]; rfl
              · dsimp only; omega
              · simp only [if_true, List.length_cons]; (try dsimp only); (try split) <;> omega
            | true =>
              obtain ⟨r2, rfl, hS⟩ := hh
              rw [List.length_cons] at hul
              refine sgo ?_
              refine sst_bool hS 0 fun w17 hS => ?_
              refine sgo ?_
              refine ⟨(true, acc ++ [tt], q', cc', r2), ⟨rfl, rfl, rfl, rfl, trivial⟩, ⟨?_, ?_, hS⟩, ?_⟩
              · rw [hfin]; rfl
              · dsimp only; omega
              · simp only [if_true, List.length_cons]; (try dsimp only); (try split) <;> omega
end Go.Proofs.YtcdogceabkpnmaaDoor

/-
  Package dom, selectors: all steps read.
-/
set_option linter.unusedSimpArgs false
set_option linter.unusedVariables false
set_option linter.unnecessarySimpa false
namespace Go.Proofs.YtcdogceabkpnmaaDoor
open Go Go.Sv Go.RowKit

theorem stm_snoc (l : List StM) (x : StM) : l.flatMap StM.cells ++ x.cells = (l ++ [x]).flatMap StM.cells := by simp
/-- what steps answers -/
def DSteps (w0 : World) (b : Nat) (cs : List Plot) (R : Option (List Stp)) (v : Value) (w' : World) : Prop :=
  (∃ (M : List StM) (q : Option Addr) (c : Nat), R = some (M.map StM.st) ∧ v = .slice q M.length c ∧ Sep w0 w' (pRow 3 q M.length c (M.flatMap StM.cells) :: pMany (M.map StM.drow) :: pOwn b [str [], .bool true] :: cs)) ∨
  (R = none ∧ v = .slice none 0 0 ∧ ∃ s', Sep w0 w' (pOwn b [str s', .bool false] :: cs))
set_option maxHeartbeats 8000000 in
theorem dSteps_ok (b : Nat) (s : List UInt8) (hb : s.length ≤ 16777215) (w0 w : World) (cs : List Plot) (hS : Sep w0 w (pOwn b [str s, .bool true] :: cs)) :
    CallsR Tryd.prog 57 #[ptrAt (pb b) 0] w (DSteps w0 b cs (selR s)) := by
  obtain ⟨R, hR⟩ : ∃ R, R = selR s := ⟨_, rfl⟩
  rw [← hR]
  rw [sel_start] at hR
  have hsb := skB_le s
  have hbl := fun (t : List UInt8) (ht : t.length ≤ s.length) (w : World) (cs : List Plot) (hS : Sep w0 w (pOwn b [str t, .bool true] :: cs)) => blanks_ok b t true (by omega) w0 w cs hS
  have htk := fun (t : List UInt8) (ht : t.length ≤ s.length) (w : World) (cs : List Plot) (hS : Sep w0 w (pOwn b [str t, .bool true] :: cs)) => takes_ok b t true 62 (by decide) (by omega) w0 w cs hS
  have hst := fun (t : List UInt8) (ht : t.length ≤ s.length) (w : World) (cs : List Plot) (hS : Sep w0 w (pOwn b [str t, .bool true] :: cs)) => dStep_ok b t (by omega) w0 w cs hS
  refine enter (l := [ptrAt (pb b) 0]) Tryd.func57 rfl Tryd.ntmps57 (by kernel_rfl) rfl ?_
  refine sgo ?_
  refine wlcall (hbl s (Nat.le_refl _) _ _ hS) ?_
  repeat clear hS
  rintro _ w1 ⟨rfl, hS⟩
  refine sgo ?_
  refine wlcall (hst (skB s) hsb _ _ hS) ?_
  repeat clear hS
  rintro _ w2 ⟨nm, l, q, c, r, ok, rfl, hr, hok, hS⟩
  refine sgo ?_
  refine sb1a (vs := [str nm, .slice q l.length c, .bool false]) hS fun b3 w3 hS => ?_
  refine sgo ?_
  refine wcloop (X := Bool × List StM × Option Addr × Nat × List UInt8) (fun x => [(0, ptrAt (pb b) 0), (3, .slice x.2.2.1 x.2.1.length x.2.2.2.1)])
    (fun x wr => (if x.1 = true then (tailR x.2.2.2.2).map (x.2.1.map StM.st ++ ·) = R else R = none) ∧ x.2.1.length + x.2.2.2.2.length ≤ s.length + 1 ∧ x.2.2.2.2.length ≤ s.length ∧
      Sep w0 wr (pOwn b [str x.2.2.2.2, .bool x.1] :: pRow 3 x.2.2.1 x.2.1.length x.2.2.2.1 (x.2.1.flatMap StM.cells) :: pMany (x.2.1.map StM.drow) :: cs))
    (fun x => x.2.2.2.2.length + (if x.1 = true then 1 else 0)) (ok, [⟨nm, l, false, q, c⟩], pb b3, 1, r) ⟨rfl, rfl, trivial⟩ ⟨?_, ?_, ?_, ?_⟩ ?_
  · cases ok with
    | false =>
      rw [if_neg Bool.false_ne_true] at hok ⊢
      rw [hR, selG_none hok]
    | true =>
      rw [if_pos rfl] at hok ⊢
      rw [hR, selG_some hok]
      rfl
  · dsimp only [List.length_singleton]; omega
  · dsimp only; omega
  · have h2 : Sep w0 w3 (pRow 4 q l.length c (l.flatMap Tst.dom) :: pMany [] :: pOwn b [str r, .bool ok] :: pOwn b3 [str nm, .slice q l.length c, .bool false] :: cs) := (hS.sel 3 [1, 2, 0]).zero.front 1 rfl
    have h3 := (h2.more.front 2 rfl).asRow (size := 3) (n := 1) rfl (by decide)
    exact (h3.front 2 rfl)
  clear hok hr hR
  repeat clear hS
  rintro ⟨ok, M, q, c, r⟩ wr ρ ⟨hR, hMl, hrl, hS⟩
  dsimp only at hR hMl hrl hS ⊢
  cases ok with
  | false =>
    refine sgo ?_
    refine sst_bool hS 0 fun w5 hS => ?_
    refine sgo ?_
    (first | refine fp1 (.inl rfl) rfl rfl ?_ | refine fp2 (.inl rfl) rfl rfl rfl ?_ | refine fp3 (.inl rfl) rfl rfl rfl rfl ?_ | refine fp0 (.inr rfl) rfl ?_ | refine fp0 (.inl rfl) rfl ?_ | refine fp1 (.inr rfl) rfl rfl ?_)
    exact .inr ⟨hR, rfl, r, hS.sel 3 [0]⟩
  | true =>
    rw [if_pos rfl] at hR
    have hkr := skB_le r
    refine sgo ?_
    refine wlcall (hbl r hrl _ _ hS) ?_
    repeat clear hS
    rintro _ w4 ⟨rfl, hS⟩
    refine sgo ?_
    (show WC _ _ _ _ _ _ _; first | refine WC_dec rfl (fun hc => ?_) (fun hc => ?_) | refine WC_cond rfl (fun hc => ?_) (fun hc => ?_))
    · refine sgo ?_
      (first | refine fp1 (.inl rfl) rfl rfl ?_ | refine fp2 (.inl rfl) rfl rfl rfl ?_ | refine fp3 (.inl rfl) rfl rfl rfl rfl ?_ | refine fp0 (.inr rfl) rfl ?_ | refine fp0 (.inl rfl) rfl ?_ | refine fp1 (.inr rfl) rfl rfl ?_)
      rw [hc] at hS
      unfold tailR at hR
      rw [if_pos hc] at hR
      refine .inl ⟨M, q, c, ?_, rfl, hS.sel 3 [1, 2, 0]⟩
      rw [← hR]; simp
    · refine sgo ?_
      refine wlcall (htk (skB r) (by omega) _ _ hS) ?_
      repeat clear hS
      rintro _ w5 ⟨x, rfl, hh⟩
      refine sgo ?_
      refine wcutt (X := List UInt8) (fun _ => [(0, ptrAt (pb b) 0), (3, .slice q M.length c), (4, .bool (decide ((skB r).length < r.length))), (5, .bool x)])
        (fun u wr => R = (if x = true ∨ (skB r).length < r.length then (selG x u).map (M.map StM.st ++ ·) else none) ∧ u.length ≤ (skB r).length ∧ (x = true → u.length < (skB r).length) ∧ Sep w0 wr (pOwn b [str u, .bool true] :: pRow 3 q M.length c (M.flatMap StM.cells) :: pMany (M.map StM.drow) :: cs)) ?_ ?_
      · cases x with
        | false =>
          obtain ⟨hn, hS⟩ := hh
          refine sgo ?_
          refine ⟨skB r, ⟨rfl, rfl, rfl, rfl, trivial⟩, ⟨?_, Nat.le_refl _, (fun h => by cases h), hS⟩⟩
          rw [← hR]
          unfold tailR
          rw [if_neg hc, if_neg (show ¬ (skB r).head? = some 62 from fun h => (head_cons h).elim fun g hg => hn g hg)]
          by_cases h2 : (skB r).length = r.length
          · rw [if_pos h2, if_neg (by simp; omega)]; rfl
          · rw [if_neg h2, if_pos (.inr (by omega))]
        | true =>
          obtain ⟨g, hg, hS⟩ := hh
          rw [show (UInt8.ofNat 62) = 62 from rfl] at hg
          have hgl : g.length + 1 = (skB r).length := by rw [hg]; rfl
          have hgs := skB_le g
          refine sgo ?_
          refine wlcall (hbl g (by omega) _ _ hS) ?_
          repeat clear hS
          rintro _ w6 ⟨rfl, hS⟩
          refine sgo ?_
          refine ⟨skB g, ⟨rfl, rfl, rfl, rfl, trivial⟩, ⟨?_, by omega, (fun _ => by omega), hS⟩⟩
          rw [← hR]
          unfold tailR
          rw [if_neg hc, if_pos (by rw [hg]; rfl), if_pos (.inl rfl), hg]
          rfl
      clear hh hR
      rintro u w6 ρ1 ⟨hR, hul, hux, hS⟩
      refine sgo ?_
      refine WC_cond rfl (fun hc => ?_) (fun hc => ?_)
      · have hno : ¬ (x = true ∨ (skB r).length < r.length) := by
          rw [pkb_and] at hc
          cases x <;> simp at hc ⊢ <;> omega
        rw [if_neg hno] at hR
        refine sgo ?_
        refine sst_bool hS 0 fun w7 hS => ?_
        refine sgo ?_
        (first | refine fp1 (.inl rfl) rfl rfl ?_ | refine fp2 (.inl rfl) rfl rfl rfl ?_ | refine fp3 (.inl rfl) rfl rfl rfl rfl ?_ | refine fp0 (.inr rfl) rfl ?_ | refine fp0 (.inl rfl) rfl ?_ | refine fp1 (.inr rfl) rfl rfl ?_)
        exact .inr ⟨hR, rfl, u, hS.sel 3 [0]⟩
      · rename_i hc1
        have hyes : x = true ∨ (skB r).length < r.length := by
          rw [pkb_and] at hc
          cases x <;> simp at hc ⊢ <;> omega
        rw [if_pos hyes] at hR
        clear hc
        refine sgo ?_
        refine wlcall (hst u (by omega) _ _ hS) ?_
        repeat clear hS
        rintro _ w7 ⟨nm2, l2, q2, c2, r2, ok2, rfl, hr2, hok, hS⟩
        refine sgo ?_
        refine salloc hS fun b6 w8 hS => ?_
        refine sgo ?_
        refine ssta (vs := [str nm2, .slice q2 l2.length c2, .bool false]) hS 0 fun w9 hS => ?_
        refine sgo ?_
        refine sst_bool hS 0 fun w10 hS => ?_
        replace hS : Sep w0 w10 (pOwn b6 [str nm2, .slice q2 l2.length c2, .bool x] :: pRow 4 q2 l2.length c2 (l2.flatMap Tst.dom) :: pOwn b [str r2, .bool ok2] :: pRow 3 q M.length c (M.flatMap StM.cells) :: pMany (M.map StM.drow) :: cs) := hS
        refine sgo ?_
        refine sb1a (vs := [str nm2, .slice q2 l2.length c2, .bool x]) hS fun b7 w11 hS => ?_
        refine sgo ?_
        refine sapp hS 4 (hS.own 0 rfl).sg (fun q3 c3 w12 hS => ?_)
        replace hS : Sep w0 w12 (pOwn b7 [str nm2, .slice q2 l2.length c2, .bool x] :: pOwn b6 [str nm2, .slice q2 l2.length c2, .bool x] :: pRow 4 q2 l2.length c2 (l2.flatMap Tst.dom) :: pOwn b [str r2, .bool ok2] :: pRow 3 q3 (M.length + 1) c3 (M.flatMap StM.cells ++ (⟨nm2, l2, x, q2, c2⟩ : StM).cells) :: pMany (M.map StM.drow) :: cs) := hS
        rw [stm_snoc] at hS
        have hS2 := hS.sel 6 [2, 5, 3, 4]
        simp only [List.filterMap_cons, List.filterMap_nil, List.getElem?_cons_succ, List.getElem?_cons_zero, List.drop_succ_cons, List.drop_zero, List.cons_append, List.nil_append] at hS2
        replace hS := hS2.more
        have hal : (M ++ [(⟨nm2, l2, x, q2, c2⟩ : StM)]).length = M.length + 1 := by simp
        rw [← hal] at hS ⊢
        refine sgo ?_
        have hlt : ok2 = true → r2.length < u.length := fun h => step_lt (by rw [if_pos h] at hok; exact hok)
        have hru : r2.length + (if ok2 = true then 1 else 0) < r.length + 1 ∧ M.length + 1 + r2.length ≤ s.length + 1 := by
          have hu1 : u.length + 1 ≤ r.length := by
            rcases hyes with h | h
            · have := hux h; omega
            · omega
          cases ok2 with
          | false => rw [if_neg Bool.false_ne_true]; omega
          | true => rw [if_pos rfl]; have := hlt rfl; omega
        refine ⟨(ok2, M ++ [⟨nm2, l2, x, q2, c2⟩], q3, c3, r2), ⟨rfl, rfl, trivial⟩, ⟨?_, ?_, ?_, ?_⟩, ?_⟩
        · cases ok2 with
          | false => rw [if_neg Bool.false_ne_true] at hok ⊢; rw [hR, selG_none hok]; rfl
          | true =>
            rw [if_pos rfl] at hok ⊢
            rw [hR, selG_some hok, Option.map_map]
            simp [Function.comp_def, StM.st]
        · dsimp only; rw [hal]; omega
        · dsimp only; omega
        · have h := hS.sel 3 [1, 2, 0]
          rw [show M.map StM.drow ++ [⟨4, q2, l2.length, c2, l2.flatMap Tst.dom⟩] = (M ++ [(⟨nm2, l2, x, q2, c2⟩ : StM)]).map StM.drow by simp [StM.drow]] at h
          exact h
        · dsimp only; rw [if_pos rfl]; omega
end Go.Proofs.YtcdogceabkpnmaaDoor

/-
  Arrays written out; calls of function values in regions that draw.
-/
set_option linter.unusedSimpArgs false
set_option linter.unusedVariables false
set_option linter.unnecessarySimpa false
namespace Go.Sv
open Go Go.RowKit
section
variable {P : Program} {n : Nat} {ds : Ctx} {ops : Array Oper} {Q : Exit → Ctx → Env → World → Prop} {C : World → Prop} {QE : Env → Prop} {rest : List Oper} {σ : GE} {w : World} {v : Value} {d : Nat} {ty t e : TypeId} {pos : String} {af : Array Edge} {x : Operand} {xs : List Operand} {ats : Array TypeId} {zv : Value} {zs : List Value} {bytes bytes' k : Nat}
theorem y_arr {σ : Env} {d : Option Tmp} {g : Option (Nat × Bool)} {ps : List (Nat × Operand)} [hu : Und P t (.array k e)] [hi : Inf P e zv 1 bytes] [hj : Inf P t (.agg ⟨zs⟩) k bytes'] (vs : List Value)
    (hps : ps.map (fun p => (p.1, evl σ p.2)) = enum vs 0) (hk : vs.length = k) (hz : zs.length = k) (h1 : ∀ v ∈ vs, v.cells = #[v]) :
    Y P σ ⟨d, .build t ps.toArray, ty, pos, af, g⟩ w (.agg ⟨vs⟩) w := by
  refine Y.val ?_
  have hf := fill_enum vs 0 zs h1 (by omega)
  have hpa : (ps.toArray.map fun (x : Nat × Operand) => match x with | (i, x) => (i, evl σ x)).toList = enum vs 0 := by rw [← hps]; simp
  simp only [execOp, Instr.build, Sem.run_bind, run_zeroValue (P := P) (t := t), Result.andThen_ok, underlying, run_program, hu.ok, Sem.run_pure, run_sizeOf (P := P) (t := e), Value.cells]
  rw [hpa]
  simp only [Nat.mul_one] at hf ⊢
  rw [hf]
  rw [List.take_zero, List.nil_append, List.drop_eq_nil_of_le (by omega), List.append_nil]
  rfl
end
end Go.Sv

/-
  The document's selectors: one step read.
-/
set_option linter.unusedSimpArgs false
set_option linter.unusedVariables false
set_option linter.unnecessarySimpa false
namespace Go.Sv
open Go Go.RowKit
/-- three results: a struct that lies in a cell, and two values -/
theorem fp_ctt {P : Program} {n : Nat} {fn : Func} {R : Value → World → Prop} {σ : Env} {w : World} {t1 t2 t3 : Nat} {y1 : TypeId} {ex : Exit} {b1 : Nat} {l : List Value} {zv : Value} {bytes : Nat} {ds : Ctx} (hex : ex = .ret ∨ ex = .normal) (hr : fn.results = #[.cell t1 y1, .tmp t2, .tmp t3])
    (ht : (Nat.blt t1 n && Nat.blt t2 n && Nat.blt t3 n) = true) (hp : σ t1 = .pointer (pb b1)) (o1 : Own w b1 l)
    [h1 : Agg P y1 true] [hi : Inf P y1 zv l.length bytes] (h : R (.tuple #[.agg l.toArray, σ t2, σ t3]) w) (hd : ds.ds = [] := by rfl) : fpost P n fn R ex ds σ w := by
  simp only [Bool.and_eq_true] at ht
  obtain ⟨⟨ht1, ht2⟩, ht3⟩ := ht
  obtain ⟨T1, o1⟩ := o1
  refine fp_of hex hd ?_ h
  have g : (act n ds.ds σ).tmps[t1]?.getD undef = .pointer (pb b1) := by
    have : (act n ds.ds σ).tmps.getD t1 undef = .pointer (pb b1) := by rw [act_getD ht1]; exact hp
    simpa using this
  have g2 : (act n ds.ds σ).tmps[t2]?.getD undef = σ t2 := by
    have : (act n ds.ds σ).tmps.getD t2 undef = σ t2 := by rw [act_getD ht2]
    simpa using this
  have g3 : (act n ds.ds σ).tmps[t3]?.getD undef = σ t3 := by
    have : (act n ds.ds σ).tmps.getD t3 undef = σ t3 := by rw [act_getD ht3]
    simpa using this
  obtain ⟨dd, hd1, hd2⟩ := h1.ok
  obtain ⟨i, hi1, hi2, hi3, hi4⟩ := inf_size (P := P) (t := y1)
  have c1 := run_loadVar_row (P := P) w b1 T1 y1 l.toArray (0, 0) dd o1 hd1 (by revert hd2; cases dd <;> exact id) (by rw [hi1]; simp [hi3])
  simp [results, hr, g, g2, g3, asAddr, pb, c1]
def howL (k : Nat) : List UInt8 := if k = 1 then [61] else if k = 2 then [46] else []
def Tst.ref (t : Tst) : List Value := [str t.attr, str t.value, str (howL t.kind)]
theorem Tst.rlen (t : Tst) : t.ref.length = 3 := rfl
end Go.Sv
namespace Go.Proofs.YtcdogceabkpnmaaDoor
open Go Go.Sv Go.RowKit

def StM.rrow (m : StM) : RowD := ⟨3, m.p, m.tests.length, m.c, m.tests.flatMap Tst.ref⟩
theorem ref_snoc (l : List Tst) (x : Tst) : l.flatMap Tst.ref ++ x.ref = (l ++ [x]).flatMap Tst.ref := by simp
theorem drop_cons {s : List UInt8} {k : Nat} {c : UInt8} (h : s[k]? = some c) : s.drop k = c :: s.drop (k + 1) := by
  obtain ⟨hi, rfl⟩ := List.getElem?_eq_some_iff.1 h
  exact List.drop_eq_getElem_cons hi
theorem nmT_at (s : List UInt8) (k : Nat) : s.drop (k + (nmR (s.drop k)).length) = nmT (s.drop k) := by
  rw [← List.drop_drop, nm_drop]
/-- what step answers -/
def RStep (w0 : World) (s : List UInt8) (cs : List Plot) (R : Option (Stp × List UInt8)) (v : Value) (w' : World) : Prop :=
  ∃ (nm : List UInt8) (l : List Tst) (q : Option Addr) (c : Nat) (k : Nat) (ok : Bool), v = .tuple #[.agg ⟨[str nm, .slice q l.length c, .bool false]⟩, int k, .bool ok] ∧ k ≤ s.length ∧ (if ok = true then R = some (⟨nm, l, false⟩, s.drop k) else R = none) ∧
    Sep w0 w' (pRow 3 q l.length c (l.flatMap Tst.ref) :: cs)
set_option maxHeartbeats 8000000 in
theorem rStep_ok (s : List UInt8) (hb : s.length ≤ 16777215) (at_ : Nat) (ha : at_ ≤ s.length) (w0 w : World) (cs : List Plot) (hS : Sep w0 w cs) :
    CallsR Tryd.prog 60 #[str s, int at_] w (RStep w0 s cs (stepR (s.drop at_))) := by
  obtain ⟨R, hR⟩ : ∃ R, R = stepR (s.drop at_) := ⟨_, rfl⟩
  rw [← hR]
  have hwd := fun (k : Nat) (hk : k ≤ s.length) (w : World) => word_ok s k hk (by omega) w
  have hle := fun (k : Nat) => nmR_le (s.drop k)
  refine enter (l := [str s, int at_]) Tryd.func60 rfl Tryd.ntmps60 (by kernel_rfl) rfl ?_
  refine sgo ?_
  refine salloc hS fun b4 w1 hS => ?_
  refine sgo ?_
  refine salloc hS fun b7 w2 hS => ?_
  replace hS : Sep w0 w2 (pOwn b7 [str [], .slice none 0 0, .bool false] :: pOwn b4 [str [], .slice none 0 0, .bool false] :: cs) := hS
  refine sgo ?_
  refine wcutt (X := List UInt8 × Bool × Nat) (fun x => [(0, str s), (1, int x.2.2), (4, ptrAt (pb b4) 0), (7, ptrAt (pb b7) 0), (8, int at_)])
    (fun x wr => contR x.1 x.2.1 [] (s.drop x.2.2) = R ∧ x.2.2 ≤ s.length ∧ at_ ≤ x.2.2 ∧ (x.2.1 = true ↔ at_ < x.2.2) ∧ Sep w0 wr (pOwn b7 [str x.1, .slice none 0 0, .bool false] :: pOwn b4 [str [], .slice none 0 0, .bool false] :: cs)) ?_ ?_
  · refine WC_cond rfl (fun hc => ?_) (fun hc => ?_)
    · simp only [pkb_and, Bool.and_eq_true, decide_eq_true_eq] at hc
      have hlt : at_ < s.length := by omega
      obtain ⟨c, hx⟩ : ∃ c, s[at_]? = some c := ⟨_, List.getElem?_eq_getElem hlt⟩
      have hc42 : c = 42 := by
        have := hc.2
        rw [hx] at this
        simp only [Option.getD_some] at this
        exact UInt8.toNat_inj.1 (show c.toNat = 42 by omega)
      subst hc42
      rw [drop_cons hx, step_cont_star] at hR
      refine sgo ?_
      exact ⟨([], true, at_ + 1), ⟨rfl, rfl, rfl, rfl, rfl, trivial⟩, ⟨hR.symm, hlt, by dsimp only; omega, by simp, hS⟩⟩
    · have hn : ∀ r, s.drop at_ ≠ 42 :: r := by
        intro r e
        have h1 : (s.drop at_)[0]? = some 42 := by rw [e]; rfl
        rw [List.getElem?_drop, Nat.add_zero] at h1
        have hlt : at_ < s.length := (List.getElem?_eq_some_iff.1 h1).1
        rw [h1] at hc
        simp [pkb_and] at hc
        omega
      rw [step_cont hn] at hR
      refine sgo ?_
      refine wlpure (hwd at_ ha _) fun w3 hf3 => ?_
      replace hS := hS.grow hf3
      have hl := hle at_
      rw [List.length_drop] at hl
      rw [← nmT_at] at hR
      generalize nmR (s.drop at_) = m at *
      refine sgo ?_
      refine sst_str hS 0 fun w5 hS => ?_
      refine sgo ?_
      refine ⟨(m, !decide (m = []), at_ + m.length), ⟨rfl, rfl, rfl, rfl, rfl, trivial⟩, ⟨hR.symm, by dsimp only; omega, by dsimp only; omega, ?_, hS⟩⟩
      cases m <;> simp
  clear hR
  repeat clear hS
  rintro ⟨nm, sth, k0⟩ w4 ρ ⟨hR, hk0, hk1, hsth, hS⟩
  dsimp only at hR hk0 hk1 hsth hS
  replace hS := hS.nilRow 3
  refine sgo ?_
  refine wcloop (X := List Tst × Option Addr × Nat × Nat) (fun x => [(0, str s), (1, int x.2.2.2), (4, ptrAt (pb b4) 0), (7, ptrAt (pb b7) 0), (8, int at_)])
    (fun x wr => contR nm sth x.1 (s.drop x.2.2.2) = R ∧ x.2.2.2 ≤ s.length ∧ at_ ≤ x.2.2.2 ∧ (at_ < x.2.2.2 ↔ (sth = true ∨ x.1 ≠ [])) ∧ x.1.length ≤ x.2.2.2 ∧
      Sep w0 wr (pRow 3 x.2.1 x.1.length x.2.2.1 (x.1.flatMap Tst.ref) :: pOwn b7 [str nm, .slice x.2.1 x.1.length x.2.2.1, .bool false] :: pOwn b4 [str [], .slice none 0 0, .bool false] :: cs))
    (fun x => s.length - x.2.2.2) ([], none, 0, k0) ⟨rfl, rfl, rfl, rfl, rfl, trivial⟩ ⟨hR, hk0, hk1, by simp [hsth], Nat.zero_le _, hS⟩ ?_
  clear hR hk0 hk1 hsth k0
  repeat clear hS
  rintro ⟨acc, q, cc, k⟩ wr ρ1 ⟨hR, hks, hka, hsth, hacc, hS⟩
  dsimp only at hR hks hka hsth hacc hS ⊢
  refine sgo ?_
  refine WC_cond rfl (fun hc => ?_) (fun hc => ?_)
  · simp only [pkb_and, pkb_or, Bool.and_eq_true, Bool.or_eq_true, decide_eq_true_eq] at hc
    have hlt : k < s.length := by omega
    obtain ⟨c, hx⟩ : ∃ c, s[k]? = some c := ⟨_, List.getElem?_eq_getElem hlt⟩
    have hg : s[k]?.getD 0 = c := by rw [hx]; rfl
    have hmk : isMark c = true := by
      have h := hc.2
      rw [hx] at h
      refine decide_eq_true ?_
      simp only [Option.getD_some] at h
      have ne : ∀ d : UInt8, c.toNat = d.toNat → c = d := fun d hd => UInt8.toNat_inj.1 hd
      rcases h with (h | h) | h
      · exact .inl (ne 35 (show c.toNat = 35 by omega))
      · exact .inr (.inl (ne 46 (show c.toNat = 46 by omega)))
      · exact .inr (.inr (ne 91 (show c.toNat = 91 by omega)))
    clear hc
    rw [drop_cons hx] at hR
    refine sgo ?_
    refine wlpure (hwd (k + 1) hlt _) fun w3 hf3 => ?_
    replace hS := hS.grow hf3
    simp only [hg]
    have hl := hle (k + 1)
    rw [List.length_drop] at hl
    have hT := nmT_at s (k + 1)
    obtain ⟨r, hr⟩ : ∃ r, r = s.drop (k + 1) := ⟨_, rfl⟩
    rw [← hr] at hl hT hR ⊢
    refine sgo ?_
    (show WC _ _ _ _ _ _ _; first | refine WC_dec rfl (fun hc => ?_) (fun hc => ?_) | refine WC_cond rfl (fun hc => ?_) (fun hc => ?_))
    · have hbad : R = none := by rw [← hR]; exact cont_bad hmk (mark_none hc)
      have hS7 : Sg w3 (pb b7) [str nm, .slice q acc.length cc, .bool false] := (hS.own 1 rfl).sg
      refine sgo ?_
      refine ssta (vs := [str nm, .slice q acc.length cc, .bool false]) hS 2 fun w5 hS => ?_
      refine sgo ?_
      refine fp_ctt (.inl rfl) rfl rfl rfl (hS.own 2 rfl) ?_
      exact ⟨nm, acc, q, cc, k, false, rfl, by omega, hbad, hS.sel 3 [0]⟩
    · have hn : nmR r ≠ [] := hc
      clear hc
      have hnl : 0 < (nmR r).length := List.length_pos_iff.2 hn
      have hrl : r.length = s.length - (k + 1) := by rw [hr, List.length_drop]
      refine sgo ?_
      (show WC _ _ _ _ _ _ _; first | refine WC_dec rfl (fun hc => ?_) (fun hc => ?_) | refine WC_cond rfl (fun hc => ?_) (fun hc => ?_))
      · have hc' : c = 35 := UInt8.toNat_inj.1 (show c.toNat = 35 by omega)
        subst hc'
        clear hc
        have hco := cont_more (nm := nm) (sth := sth) (acc := acc) (c := 35) (r := r) rfl (mark_id hn)
        rw [hR, ← hT] at hco
        clear hR
        refine sgo ?_
        refine wl ?_ (y_arr (zs := [str [], str [], str []]) (zv := str []) [str wId, str (nmR r), str [61]] rfl rfl rfl (by simp [Value.cells]))
        refine sgo ?_
        refine sb1a (vs := (⟨wId, nmR r, 1⟩ : Tst).ref) hS fun b6 w13 hS => ?_
        refine sgo ?_
        refine sapp hS 1 (hS.own 0 rfl).sg (fun q' cc' w14 hS => ?_) (h1 := by simp [Tst.ref, Value.oneCell'])
        refine sgo ?_
        refine sst_slice hS 2 fun w15 hS => ?_
        replace hS : Sep w0 w15 (pOwn b6 (⟨wId, nmR r, 1⟩ : Tst).ref :: pRow 3 q' (acc.length + 1) cc' (acc.flatMap Tst.ref ++ (⟨wId, nmR r, 1⟩ : Tst).ref) :: pOwn b7 [str nm, .slice q' (acc.length + 1) cc', .bool false] :: pOwn b4 [str [], .slice none 0 0, .bool false] :: cs) := hS
        have hal : (acc ++ [(⟨wId, nmR r, 1⟩ : Tst)]).length = acc.length + 1 := by simp
        rw [ref_snoc, ← hal] at hS
        refine sgo ?_
        refine ⟨(acc ++ [(⟨wId, nmR r, 1⟩ : Tst)], q', cc', k + 1 + (nmR r).length), ⟨rfl, rfl, rfl, rfl, rfl, trivial⟩, ⟨hco.symm, by dsimp only; omega, by dsimp only; omega, ?_, by dsimp only; rw [hal]; omega, hS.tail⟩, by dsimp only; omega⟩
        exact ⟨fun _ => .inr (by simp), fun _ => by dsimp only; omega⟩
      · have hc35 : ¬ c = 35 := fun h => hc (by rw [h]; rfl)
        clear hc
        refine sgo ?_
        (show WC _ _ _ _ _ _ _; first | refine WC_dec rfl (fun hc => ?_) (fun hc => ?_) | refine WC_cond rfl (fun hc => ?_) (fun hc => ?_))
        · have hc' : c = 46 := UInt8.toNat_inj.1 (show c.toNat = 46 by omega)
          subst hc'
          clear hc
          have hco := cont_more (nm := nm) (sth := sth) (acc := acc) (c := 46) (r := r) rfl (mark_class hn)
          rw [hR, ← hT] at hco
          clear hR
          refine sgo ?_
          refine wl ?_ (y_arr (zs := [str [], str [], str []]) (zv := str []) [str wClass, str (nmR r), str [46]] rfl rfl rfl (by simp [Value.cells]))
          refine sgo ?_
          refine sb1a (vs := (⟨wClass, nmR r, 2⟩ : Tst).ref) hS fun b6 w13 hS => ?_
          refine sgo ?_
          refine sapp hS 1 (hS.own 0 rfl).sg (fun q' cc' w14 hS => ?_) (h1 := by simp [Tst.ref, Value.oneCell'])
          refine sgo ?_
          refine sst_slice hS 2 fun w15 hS => ?_
          replace hS : Sep w0 w15 (pOwn b6 (⟨wClass, nmR r, 2⟩ : Tst).ref :: pRow 3 q' (acc.length + 1) cc' (acc.flatMap Tst.ref ++ (⟨wClass, nmR r, 2⟩ : Tst).ref) :: pOwn b7 [str nm, .slice q' (acc.length + 1) cc', .bool false] :: pOwn b4 [str [], .slice none 0 0, .bool false] :: cs) := hS
          have hal : (acc ++ [(⟨wClass, nmR r, 2⟩ : Tst)]).length = acc.length + 1 := by simp
          rw [ref_snoc, ← hal] at hS
          refine sgo ?_
          refine ⟨(acc ++ [(⟨wClass, nmR r, 2⟩ : Tst)], q', cc', k + 1 + (nmR r).length), ⟨rfl, rfl, rfl, rfl, rfl, trivial⟩, ⟨hco.symm, by dsimp only; omega, by dsimp only; omega, ?_, by dsimp only; rw [hal]; omega, hS.tail⟩, by dsimp only; omega⟩
          exact ⟨fun _ => .inr (by simp), fun _ => by dsimp only; omega⟩
        · have hc91 : c = 91 := by
            have hc46 : ¬ c = 46 := fun h => hc (by rw [h]; rfl)
            have := of_decide_eq_true hmk
            rcases this with h | h | h
            · exact absurd h hc35
            · exact absurd h hc46
            · exact h
          subst hc91
          clear hc
          obtain ⟨k1, hk1⟩ : ∃ k1, k1 = k + 1 + (nmR r).length := ⟨_, rfl⟩
          rw [← hk1] at hT
          have hk1i : ((k1 : Nat) : Int) = ((k + 1 + (nmR r).length : Nat) : Int) := by rw [hk1]
          rw [← hk1i]
          have hk1s : k1 ≤ s.length := by omega
          have hkk : k < k1 := by omega
          refine sgo ?_
          refine wl ?_ (y_arr (zs := [str [], str [], str []]) (zv := str []) [str (nmR r), str [], str []] rfl rfl rfl (by simp [Value.cells]))
          refine sgo ?_
          refine salloc hS fun b12 w9 hS => ?_
          refine sgo ?_
          refine ssta (vs := [str (nmR r), str [], str []]) hS 0 fun w10 hS => ?_
          replace hS : Sep w0 w10 (pOwn b12 [str (nmR r), str [], str []] :: pRow 3 q acc.length cc (acc.flatMap Tst.ref) :: pOwn b7 [str nm, .slice q acc.length cc, .bool false] :: pOwn b4 [str [], .slice none 0 0, .bool false] :: cs) := hS
          refine sgo ?_
          refine wcutt (X := List UInt8 × Nat × Nat) (fun x => [(0, str s), (1, int x.2.2), (4, ptrAt (pb b4) 0), (7, ptrAt (pb b7) 0), (8, int at_), (12, ptrAt (pb b12) 0)])
            (fun x wr => markR 91 r = cl93 ⟨nmR r, x.1, x.2.1⟩ (s.drop x.2.2) ∧ k1 ≤ x.2.2 ∧ x.2.2 ≤ s.length ∧
              Sep w0 wr (pOwn b12 [str (nmR r), str x.1, str (howL x.2.1)] :: pRow 3 q acc.length cc (acc.flatMap Tst.ref) :: pOwn b7 [str nm, .slice q acc.length cc, .bool false] :: pOwn b4 [str [], .slice none 0 0, .bool false] :: cs)) ?_ ?_
          · refine WC_cond rfl (fun hc => ?_) (fun hc => ?_)
            · simp only [pkb_and, Bool.and_eq_true, decide_eq_true_eq] at hc
              have hlt1 : k1 < s.length := by omega
              obtain ⟨c1, hx1⟩ : ∃ c1, s[k1]? = some c1 := ⟨_, List.getElem?_eq_getElem hlt1⟩
              have hc61 : c1 = 61 := by
                have := hc.2
                rw [hx1] at this
                simp only [Option.getD_some] at this
                exact UInt8.toNat_inj.1 (show c1.toNat = 61 by omega)
              subst hc61
              clear hc
              have hr1 : nmT r = 61 :: s.drop (k1 + 1) := by rw [← hT, drop_cons hx1]
              have hl2 := hle (k1 + 1)
              rw [List.length_drop] at hl2
              have hT2 := nmT_at s (k1 + 1)
              refine sgo ?_
              refine wlpure (hwd (k1 + 1) hlt1 _) fun w11 hf11 => ?_
              replace hS := hS.grow hf11
              obtain ⟨r1, hr1e⟩ : ∃ r1, r1 = s.drop (k1 + 1) := ⟨_, rfl⟩
              rw [← hr1e] at hr1 hl2 hT2 ⊢
              refine sgo ?_
              refine sst_str hS 0 fun w12 hS => ?_
              replace hS : Sep w0 w12 (pOwn b12 [str (nmR r), str (nmR r1), str []] :: pRow 3 q acc.length cc (acc.flatMap Tst.ref) :: pOwn b7 [str nm, .slice q acc.length cc, .bool false] :: pOwn b4 [str [], .slice none 0 0, .bool false] :: cs) := hS
              refine sgo ?_
              refine sst_str hS 0 fun w13 hS => ?_
              replace hS : Sep w0 w13 (pOwn b12 [str (nmR r), str (nmR r1), str [61]] :: pRow 3 q acc.length cc (acc.flatMap Tst.ref) :: pOwn b7 [str nm, .slice q acc.length cc, .bool false] :: pOwn b4 [str [], .slice none 0 0, .bool false] :: cs) := hS
              refine sgo ?_
              (show WC _ _ _ _ _ _ _; first | refine WC_dec rfl (fun hc => ?_) (fun hc => ?_) | refine WC_cond rfl (fun hc => ?_) (fun hc => ?_))
              · have hbad : R = none := by rw [← hR]; exact cont_bad rfl (at_val0 hn hr1 hc)
                have hS7 : Sg w13 (pb b7) [str nm, .slice q acc.length cc, .bool false] := (hS.own 2 rfl).sg
                refine sgo ?_
                refine ssta (vs := [str nm, .slice q acc.length cc, .bool false]) hS 3 fun w5 hS => ?_
                refine sgo ?_
                refine fp_ctt (.inl rfl) rfl rfl rfl (hS.own 3 rfl) ?_
                exact ⟨nm, acc, q, cc, k1 + 1 + (nmR r1).length, false, rfl, by omega, hbad, hS.sel 4 [1]⟩
              · refine sgo ?_
                refine ⟨(nmR r1, 1, k1 + 1 + (nmR r1).length), ⟨rfl, rfl, rfl, rfl, rfl, rfl, trivial⟩, ⟨?_, by dsimp only; omega, by dsimp only; omega, hS⟩⟩
                dsimp only
                rw [hT2]
                exact at_61 hn hr1 hc
            · have hn61 : ∀ r1, nmT r ≠ 61 :: r1 := by
                intro r1 e
                rw [← hT] at e
                have h1 : (s.drop k1)[0]? = some 61 := by rw [e]; rfl
                rw [List.getElem?_drop, Nat.add_zero] at h1
                have hlt : k1 < s.length := (List.getElem?_eq_some_iff.1 h1).1
                rw [h1] at hc
                simp [pkb_and] at hc
                omega
              refine sgo ?_
              refine ⟨([], 0, k1), ⟨rfl, rfl, rfl, rfl, rfl, rfl, trivial⟩, ⟨?_, Nat.le_refl _, hk1s, hS⟩⟩
              dsimp only
              rw [hT]
              exact at_no61 hn hn61
          repeat clear hS
          rintro ⟨val, kd, k2⟩ w11 ρ2 ⟨hmk2, hk12, hk2s, hS⟩
          dsimp only at hmk2 hk12 hk2s hS ⊢
          obtain ⟨tt, htt⟩ : ∃ tt : Tst, tt = ⟨nmR r, val, kd⟩ := ⟨_, rfl⟩
          replace hS : Sep w0 w11 (pOwn b12 tt.ref :: pRow 3 q acc.length cc (acc.flatMap Tst.ref) :: pOwn b7 [str nm, .slice q acc.length cc, .bool false] :: pOwn b4 [str [], .slice none 0 0, .bool false] :: cs) := by rw [htt]; exact hS
          rw [← htt] at hmk2
          have hS5 : Sg w11 (pb b12) [str tt.attr, str tt.value, str (howL tt.kind)] := (hS.own 0 rfl).sg
          have hS7 : Sg w11 (pb b7) [str nm, .slice q acc.length cc, .bool false] := (hS.own 2 rfl).sg
          have hfin : R = match cl93 tt (s.drop k2) with | none => none | some (t, r1) => contR nm sth (acc ++ [t]) r1 := by
            rw [← hmk2, ← hR]
            cases hm : markR 91 r with
            | none => exact cont_bad rfl hm
            | some x => exact cont_more rfl hm
          clear hmk2 htt hR hT hk1i
          refine sgo ?_
          refine WC_cond rfl (fun hc => ?_) (fun hc => ?_)
          · have hn93 : ∀ r1, s.drop k2 ≠ 93 :: r1 := by
              intro r1 e
              have h1 : (s.drop k2)[0]? = some 93 := by rw [e]; rfl
              rw [List.getElem?_drop, Nat.add_zero] at h1
              have hlt : k2 < s.length := (List.getElem?_eq_some_iff.1 h1).1
              rw [h1] at hc
              simp [pkb_or] at hc
              omega
            rw [cl93_no _ hn93] at hfin
            refine sgo ?_
            refine ssta (vs := [str nm, .slice q acc.length cc, .bool false]) hS 3 fun w5 hS => ?_
            refine sgo ?_
            refine fp_ctt (.inl rfl) rfl rfl rfl (hS.own 3 rfl) ?_
            exact ⟨nm, acc, q, cc, k2, false, rfl, by omega, hfin, hS.sel 4 [1]⟩
          · simp only [pkb_or, Bool.or_eq_false_iff, decide_eq_false_iff_not] at hc
            have hlt2 : k2 < s.length := by omega
            obtain ⟨c1, hx1⟩ : ∃ c1, s[k2]? = some c1 := ⟨_, List.getElem?_eq_getElem hlt2⟩
            have hc93 : c1 = 93 := by
              have := hc.2
              rw [hx1] at this
              simp only [Option.getD_some] at this
              exact UInt8.toNat_inj.1 (show c1.toNat = 93 by omega)
            subst hc93
            clear hc
            rw [drop_cons hx1] at hfin
            replace hfin : R = contR nm sth (acc ++ [tt]) (s.drop (k2 + 1)) := hfin
            refine sgo ?_
            refine sb1a (vs := tt.ref) hS fun b6 w13 hS => ?_
            refine sgo ?_
            refine sapp hS 2 (hS.own 0 rfl).sg (fun q' cc' w14 hS => ?_) (h1 := by simp [Tst.ref, Value.oneCell'])
            refine sgo ?_
            refine sst_slice hS 3 fun w15 hS => ?_
            replace hS : Sep w0 w15 (pOwn b6 tt.ref :: pOwn b12 tt.ref :: pRow 3 q' (acc.length + 1) cc' (acc.flatMap Tst.ref ++ tt.ref) :: pOwn b7 [str nm, .slice q' (acc.length + 1) cc', .bool false] :: pOwn b4 [str [], .slice none 0 0, .bool false] :: cs) := hS
            have hal : (acc ++ [tt]).length = acc.length + 1 := by simp
            rw [ref_snoc, ← hal] at hS
            refine sgo ?_
            refine ⟨(acc ++ [tt], q', cc', k2 + 1), ⟨rfl, rfl, rfl, rfl, rfl, trivial⟩, ⟨hfin.symm, by dsimp only; omega, by dsimp only; omega, ?_, by dsimp only; rw [hal]; omega, hS.tail.tail⟩, by dsimp only; omega⟩
            exact ⟨fun _ => .inr (by simp), fun _ => by dsimp only; omega⟩
  · have hS7 : Sg wr (pb b7) [str nm, .slice q acc.length cc, .bool false] := (hS.own 1 rfl).sg
    have hcn : R = if sth = false ∧ acc = [] then none else some (⟨nm, acc, false⟩, s.drop k) := by
      rw [← hR]
      rcases Nat.lt_or_ge k s.length with hlt | hge
      · obtain ⟨c, hx⟩ : ∃ c, s[k]? = some c := ⟨_, List.getElem?_eq_getElem hlt⟩
        rw [drop_cons hx]
        refine cont_stop (decide_eq_false ?_)
        rw [hx] at hc
        simp only [pkb_and, pkb_or, Option.getD_some] at hc
        rintro (rfl | rfl | rfl) <;> (simp at hc; omega)
      · rw [List.drop_eq_nil_of_le hge]
        exact cont_nil nm sth acc
    refine sgo ?_
    refine ssta (vs := [str nm, .slice q acc.length cc, .bool false]) hS 2 fun w5 hS => ?_
    refine sgo ?_
    refine fp_ctt (.inl rfl) rfl rfl rfl (hS.own 2 rfl) ?_
    refine ⟨nm, acc, q, cc, k, decide (at_ < k), ?_, by omega, ?_, hS.sel 3 [0]⟩
    · simp only [realB, rv_true, Nat.reduceBEq, cond_true, cond_false, entG, real_lif, updGL]
      rw [show decide ((at_ : Int) < (k : Int)) = decide (at_ < k) from decide_eq_decide.2 (by omega)]
    · by_cases h : at_ < k
      · rw [if_pos (decide_eq_true h), hcn, if_neg]
        rintro ⟨h1, h2⟩
        rcases hsth.1 h with h3 | h3
        · rw [h1] at h3; cases h3
        · exact h3 h2
      · rw [if_neg (by simp [h]), hcn, if_pos]
        refine ⟨?_, ?_⟩
        · cases sth with
          | false => rfl
          | true => exact absurd (hsth.2 (.inl rfl)) h
        · cases acc with
          | nil => rfl
          | cons x l => exact absurd (hsth.2 (.inr (by simp))) h
end Go.Proofs.YtcdogceabkpnmaaDoor

/-
  The document's selectors: all steps read.
-/
set_option linter.unusedSimpArgs false
set_option linter.unusedVariables false
set_option linter.unnecessarySimpa false
namespace Go.Proofs.YtcdogceabkpnmaaDoor
open Go Go.Sv Go.RowKit

theorem sk_more {s : List UInt8} {n : Nat} {c : UInt8} (h : s[n]? = some c) (hc : blB c = true) : skB (s.drop n) = skB (s.drop (n + 1)) := by
  rw [drop_cons h, skB_cons, if_pos hc]
theorem sk_stop {s : List UInt8} {n : Nat} {c : UInt8} (h : s[n]? = some c) (hc : blB c = false) : skB (s.drop n) = s.drop n := by
  rw [drop_cons h, skB_cons, hc, if_neg Bool.false_ne_true]
theorem sk_end {s : List UInt8} {n : Nat} (h : s.length ≤ n) : skB (s.drop n) = s.drop n := by
  rw [List.drop_eq_nil_of_le h]; rfl
theorem sk_suf (s : List UInt8) (n : Nat) (h : n ≤ s.length) : ∃ g, n ≤ g ∧ g ≤ s.length ∧ skB (s.drop n) = s.drop g := by
  refine ⟨n + ((s.drop n).takeWhile blB).length, Nat.le_add_right _ _, ?_, ?_⟩
  · have := (List.takeWhile_sublist blB (l := s.drop n)).length_le
    rw [List.length_drop] at this; omega
  · unfold skB
    rw [← List.drop_drop]
    conv => rhs; arg 2; rw [← List.takeWhile_append_dropWhile (p := blB) (l := s.drop n)]
    rw [List.drop_left]
/-- what Selector answers -/
def RSteps (w0 : World) (cs : List Plot) (R : Option (List Stp)) (v : Value) (w' : World) : Prop :=
  (∃ (M : List StM) (q : Option Addr) (c : Nat), R = some (M.map StM.st) ∧ v = .tuple #[.slice q M.length c, .bool true] ∧ Sep w0 w' (pRow 3 q M.length c (M.flatMap StM.cells) :: pMany (M.map StM.rrow) :: cs)) ∨
  (R = none ∧ v = .tuple #[.slice none 0 0, .bool false] ∧ Sep w0 w' cs)
set_option maxHeartbeats 8000000 in
theorem rSteps_ok (s : List UInt8) (hb : s.length ≤ 16777215) (w0 w : World) (cs : List Plot) (hS : Sep w0 w cs) :
    CallsR Tryd.prog 36 #[str s] w (RSteps w0 cs (selR s)) := by
  obtain ⟨R, hR⟩ : ∃ R, R = selR s := ⟨_, rfl⟩
  rw [← hR]
  rw [sel_start] at hR
  have hsb := skB_le s
  refine enter (l := [str s]) Tryd.func36 rfl Tryd.ntmps36 (by kernel_rfl) rfl ?_
  refine sgo ?_
  refine wcloop (X := List UInt8) (fun t => [(0, str t)]) (fun t wr => skB t = skB s ∧ t.length ≤ s.length ∧ Sep w0 wr cs) (fun t => t.length) s ⟨rfl, trivial⟩ ⟨rfl, Nat.le_refl _, hS⟩ ?_
  repeat clear hS
  rintro t wr ρ ⟨hsk, hle, hS⟩
  have hpos : t ≠ [] → 0 < t.length := List.length_pos_iff.2
  refine sgo ?_
  generalize hcg : t[0]?.getD 0 = c0
  refine wlcallgp (vals := [byt c0.toNat]) (fun _ => rBlank_ok c0.toNat _) fun w1 hf1 => ?_
  replace hS := hS.grow hf1
  refine sgo ?_
  refine WC_cond rfl (fun hc => ?_) (fun hc => ?_)
  · simp only [pkb_and, Bool.and_eq_true, decide_eq_true_eq] at hc
    obtain ⟨c, r, rfl⟩ := List.exists_cons_of_ne_nil hc.1
    replace hcg : c = c0 := hcg
    subst hcg
    rw [skB_cons, if_pos (show blB c = true from hc.2)] at hsk
    clear hc
    have hl1 : 1 ≤ (c :: r).length := by simp
    rw [List.length_cons] at hle
    refine sgo ?_
    exact ⟨r, ⟨rfl, trivial⟩, ⟨hsk, by omega, hS⟩, by simp⟩
  · have hst : skB t = t := by
      cases t with
      | nil => rfl
      | cons c r =>
        replace hcg : c = c0 := hcg
        subst hcg
        rw [skB_cons, if_neg]
        intro h
        rw [pkb_and] at hc
        have h2 : blN c.toNat = true := h
        simp [h2] at hc
    rw [hst] at hsk
    subst hsk
    clear hc hst hpos hcg
    generalize skB s = u at *
    refine sgo ?_
    refine wcutj (X := List UInt8) (fun t => [(0, str t)]) (fun t wr => (∃ b, u = t ++ b ∧ Bls b) ∧ Trm t ∧ Sep w0 wr cs) ?_ ?_
    · refine wcloop (X := List UInt8) (fun t => [(0, str t)]) (fun t wr => (∃ b, u = t ++ b ∧ Bls b) ∧ Sep w0 wr cs) (fun t => t.length) u ⟨rfl, trivial⟩ ⟨⟨[], by simp, fun c h => by cases h⟩, hS⟩ ?_
      repeat clear hS
      rintro t wr ρ ⟨⟨b, hub, hbl⟩, hS⟩
      have htl : t.length ≤ u.length := by rw [hub]; simp
      rcases List.eq_nil_or_concat t with rfl | ⟨y, c, rfl⟩
      · refine sgo ?_
        refine wlskipg (.bool false) ?_ (hgt := by simp)
        refine sgo ?_
        exact ⟨[], ⟨rfl, trivial⟩, ⟨⟨b, hub, hbl⟩, (fun c h => by cases h), hS⟩⟩
      · rw [List.concat_eq_append] at *
        have hy : (y ++ [c]).length = y.length + 1 := by simp
        have hi : (((y ++ [c]).length : Int) - 1).toNat = y.length := by omega
        have hg : (y ++ [c])[(((y ++ [c]).length : Int) - 1).toNat]?.getD 0 = c := by rw [hi]; simp
        have htk : (y ++ [c]).take (((y ++ [c]).length : Int) - 1).toNat = y := by rw [hi]; simp
        refine sgo ?_
        simp only [hg]
        refine wlcallgp (vals := [byt c.toNat]) (fun _ => rBlank_ok c.toNat _) fun w2 hf2 => ?_
        replace hS := hS.grow hf2
        refine sgo ?_
        refine WC_cond rfl (fun hc => ?_) (fun hc => ?_)
        · have hcb : blB c = true := by
            simp only [pkb_and, Bool.and_eq_true] at hc
            exact hc.2
          clear hc
          refine sgo ?_
          refine ⟨y, ⟨?_, trivial⟩, ⟨⟨c :: b, by rw [hub]; simp, ?_⟩, hS⟩, by omega⟩
          · show str _ = str _
            rw [htk]
          · intro d hd
            rcases List.mem_cons.1 hd with rfl | hd
            · exact hcb
            · exact hbl d hd
        · have hcb : blB c = false := by
            rw [pkb_and] at hc
            cases h : blB c with
            | false => rfl
            | true =>
              have h2 : blN c.toNat = true := h
              simp [h2] at hc
          clear hc
          refine sgo ?_
          refine ⟨y ++ [c], ⟨rfl, trivial⟩, ⟨⟨b, hub, hbl⟩, ?_, hS⟩⟩
          intro d hd
          simp at hd
          subst hd
          exact hcb
    · repeat clear hS
      rintro t w2 ρ1 ⟨⟨b, hub, hbl⟩, htr, hS⟩
      have htl : t.length ≤ s.length := by have := congrArg List.length hub; rw [List.length_append] at this; omega
      rw [hub, selG_app hbl] at hR
      clear hub hbl hle hsb b
      replace hS : Sep w0 w2 (pRow 3 none 0 0 [] :: pMany [] :: cs) := hS.zero.nilRow 3
      refine sgo ?_
      refine wcloop (X := Bool × List StM × Option Addr × Nat × Nat) (fun x => [(0, str t), (4, .slice x.2.2.1 x.2.1.length x.2.2.2.1), (5, .bool x.1), (6, int x.2.2.2.2)])
        (fun x wr => (selG x.1 (t.drop x.2.2.2.2)).map (x.2.1.map StM.st ++ ·) = R ∧ x.2.2.2.2 ≤ t.length ∧ x.2.1.length ≤ x.2.2.2.2 ∧ Sep w0 wr (pRow 3 x.2.2.1 x.2.1.length x.2.2.2.1 (x.2.1.flatMap StM.cells) :: pMany (x.2.1.map StM.rrow) :: cs))
        (fun x => t.length - x.2.2.2.2) (false, [], none, 0, 0) ⟨rfl, rfl, rfl, rfl, trivial⟩ ⟨?_, Nat.zero_le _, Nat.zero_le _, hS⟩ ?_
      · rw [hR]; simp
      clear hR
      repeat clear hS
      rintro ⟨ch, M, q, c, at_⟩ wr1 ρ2 ⟨hR, hat, hMl, hS⟩
      dsimp only at hR hat hMl hS ⊢
      refine sgo ?_
      refine wlcall (rStep_ok t (by omega) at_ hat w0 _ _ hS) ?_
      repeat clear hS
      rintro _ w3 ⟨nm2, l2, q2, c2, k, ok, rfl, hk, hok, hS⟩
      refine sgo ?_
      refine salloc hS fun b7 w4 hS => ?_
      refine sgo ?_
      refine ssta (vs := [str nm2, .slice q2 l2.length c2, .bool false]) hS 0 fun w5 hS => ?_
      replace hS : Sep w0 w5 (pOwn b7 [str nm2, .slice q2 l2.length c2, .bool false] :: pRow 3 q2 l2.length c2 (l2.flatMap Tst.ref) :: pRow 3 q M.length c (M.flatMap StM.cells) :: pMany (M.map StM.rrow) :: cs) := hS
      cases ok with
      | false =>
        rw [if_neg Bool.false_ne_true] at hok
        rw [selG_none hok] at hR
        refine sgo ?_
        (first | refine fp1 (.inl rfl) rfl rfl ?_ | refine fp2 (.inl rfl) rfl rfl rfl ?_ | refine fp3 (.inl rfl) rfl rfl rfl rfl ?_ | refine fp0 (.inr rfl) rfl ?_ | refine fp0 (.inl rfl) rfl ?_ | refine fp1 (.inr rfl) rfl rfl ?_)
        exact .inr ⟨hR.symm, rfl, hS.sub ((((List.sublist_cons_self _ _).cons _).cons _).cons _)⟩
      | true =>
        rw [if_pos rfl] at hok
        have hkl := step_lt hok
        rw [List.length_drop, List.length_drop] at hkl
        rw [selG_some hok, Option.map_map] at hR
        clear hok
        refine sgo ?_
        refine sst_bool hS 0 fun w6 hS => ?_
        replace hS : Sep w0 w6 (pOwn b7 (⟨nm2, l2, ch, q2, c2⟩ : StM).cells :: pRow 3 q2 l2.length c2 (l2.flatMap Tst.ref) :: pRow 3 q M.length c (M.flatMap StM.cells) :: pMany (M.map StM.rrow) :: cs) := hS
        have hS7 : Sg w6 (pb b7) [str nm2, .slice q2 l2.length c2, .bool ch] := (hS.own 0 rfl).sg
        refine sgo ?_
        refine sb1a (vs := (⟨nm2, l2, ch, q2, c2⟩ : StM).cells) hS fun b8 w7 hS => ?_
        refine sgo ?_
        refine sapp hS 3 (hS.own 0 rfl).sg (fun q3 c3 w8 hS => ?_) (h1 := by simp [StM.cells, Value.oneCell'])
        replace hS : Sep w0 w8 (pOwn b8 (⟨nm2, l2, ch, q2, c2⟩ : StM).cells :: pOwn b7 (⟨nm2, l2, ch, q2, c2⟩ : StM).cells :: pRow 3 q2 l2.length c2 (l2.flatMap Tst.ref) :: pRow 3 q3 (M.length + 1) c3 (M.flatMap StM.cells ++ (⟨nm2, l2, ch, q2, c2⟩ : StM).cells) :: pMany (M.map StM.rrow) :: cs) := hS
        obtain ⟨M', hM'⟩ : ∃ M', M' = M ++ [(⟨nm2, l2, ch, q2, c2⟩ : StM)] := ⟨_, rfl⟩
        have hal : M'.length = M.length + 1 := by rw [hM']; simp
        rw [stm_snoc, ← hM', ← hal] at hS
        have hS2 := hS.sel 5 [2, 4, 3]
        simp only [List.filterMap_cons, List.filterMap_nil, List.getElem?_cons_succ, List.getElem?_cons_zero, List.drop_succ_cons, List.drop_zero, List.cons_append, List.nil_append] at hS2
        replace hS2 := hS2.more
        rw [show M.map StM.rrow ++ [⟨3, q2, l2.length, c2, l2.flatMap Tst.ref⟩] = M'.map StM.rrow by rw [hM']; simp [StM.rrow]] at hS2
        replace hS := hS2.front 1 rfl
        replace hR : (tailR (t.drop k)).map (M'.map StM.st ++ ·) = R := by
          rw [← hR, hM']
          congr 1
          funext l
          simp [StM.st]
        rw [← hal]
        clear hM'
        refine sgo ?_
        (show WC _ _ _ _ _ _ _; first | refine WC_dec rfl (fun hc => ?_) (fun hc => ?_) | refine WC_cond rfl (fun hc => ?_) (fun hc => ?_))
        · have hkt : k = t.length := by omega
          refine sgo ?_
          (first | refine fp1 (.inl rfl) rfl rfl ?_ | refine fp2 (.inl rfl) rfl rfl rfl ?_ | refine fp3 (.inl rfl) rfl rfl rfl rfl ?_ | refine fp0 (.inr rfl) rfl ?_ | refine fp0 (.inl rfl) rfl ?_ | refine fp1 (.inr rfl) rfl rfl ?_)
          refine .inl ⟨M', q3, c3, ?_, rfl, hS.sel 2 [0, 1]⟩
          rw [← hR, hkt, List.drop_eq_nil_of_le (Nat.le_refl _)]
          simp [tailR, skB]
        · have hkt : k < t.length := by omega
          clear hc
          have hne : skB (t.drop k) ≠ [] := fun h => by
            have := trm_skip (trm_drop htr k) h
            have := congrArg List.length this
            rw [List.length_drop, List.length_nil] at this
            omega
          have hgap : ∀ (k : Nat), k ≤ t.length → ∃ g, k ≤ g ∧ g ≤ t.length ∧ skB (t.drop k) = t.drop g := fun k h => sk_suf t k h
          obtain ⟨g, hkg, hgt, hg⟩ := hgap k hk
          refine sgo ?_
          refine wcutj (X := Unit) (fun _ => [(0, str t), (4, .slice q3 M'.length c3), (5, .bool ch), (6, int at_), (8, int k), (10, int g)])
            (fun _ wr => Sep w0 wr (pRow 3 q3 M'.length c3 (M'.flatMap StM.cells) :: pMany (M'.map StM.rrow) :: cs)) ?_ ?_
          · refine wcloop (X := Nat) (fun n => [(0, str t), (4, .slice q3 M'.length c3), (5, .bool ch), (6, int at_), (8, int k), (10, int n)])
              (fun n wr => skB (t.drop n) = t.drop g ∧ n ≤ t.length ∧ Sep w0 wr (pRow 3 q3 M'.length c3 (M'.flatMap StM.cells) :: pMany (M'.map StM.rrow) :: cs)) (fun n => t.length - n) k ⟨rfl, rfl, rfl, rfl, rfl, rfl, trivial⟩ ⟨hg, hk, hS.sel 2 [0, 1]⟩ ?_
            repeat clear hS
            rintro n wr2 ρ3 ⟨hsn, hnt, hS⟩
            refine sgo ?_
            generalize hcg : t[n]?.getD 0 = c0
            refine wlcallgp (vals := [byt c0.toNat]) (fun _ => rBlank_ok c0.toNat _) fun w9 hf9 => ?_
            replace hS := hS.grow hf9
            refine sgo ?_
            refine WC_cond rfl (fun hc => ?_) (fun hc => ?_)
            · simp only [pkb_and, Bool.and_eq_true, decide_eq_true_eq] at hc
              have hlt : n < t.length := by omega
              have hx : t[n]? = some c0 := by rw [List.getElem?_eq_getElem hlt] at hcg ⊢; rw [← hcg]; rfl
              rw [sk_more hx hc.2] at hsn
              refine sgo ?_
              exact ⟨n + 1, ⟨rfl, rfl, rfl, rfl, rfl, rfl, trivial⟩, ⟨hsn, hlt, hS⟩, by omega⟩
            · have hn : skB (t.drop n) = t.drop n := by
                rcases Nat.lt_or_ge n t.length with hlt | hge
                · have hx : t[n]? = some c0 := by rw [List.getElem?_eq_getElem hlt] at hcg ⊢; rw [← hcg]; rfl
                  refine sk_stop hx ?_
                  cases h : blB c0 with
                  | false => rfl
                  | true =>
                    have h2 : blN c0.toNat = true := h
                    rw [pkb_and] at hc
                    simp [h2] at hc
                    omega
                · exact sk_end hge
              have hng : n = g := by
                rw [hn] at hsn
                have := congrArg List.length hsn
                rw [List.length_drop, List.length_drop] at this
                omega
              subst hng
              refine sgo ?_
              exact ⟨(), ⟨rfl, rfl, rfl, rfl, rfl, rfl, trivial⟩, hS⟩
          repeat clear hS
          rintro _ w9 ρ4 hS
          have hgl : g < t.length := by
            rcases Nat.lt_or_ge g t.length with h | h
            · exact h
            · rw [hg, List.drop_eq_nil_of_le h] at hne; exact absurd rfl hne
          obtain ⟨d, hx⟩ : ∃ d, t[g]? = some d := ⟨_, List.getElem?_eq_getElem hgl⟩
          have hgd : t[g]?.getD 0 = d := by rw [hx]; rfl
          unfold tailR at hR
          rw [if_neg hne, hg, drop_cons hx, List.head?_cons, List.drop_succ_cons, List.drop_zero] at hR
          rw [← drop_cons hx, List.length_drop, List.length_drop] at hR
          refine sgo ?_
          simp only [hgd]
          by_cases h62 : d = 62
          · subst h62
            rw [if_pos rfl] at hR
            obtain ⟨g2, hkg2, hgt2, hg2⟩ := hgap (g + 1) hgl
            rw [hg2] at hR
            rw [show pkb (decide ((g : Int) < t.length)) (decide ((((62 : UInt8).toNat : Nat) : Int) = 62)) false = true by rw [pkb_and]; simp; omega]
            refine sgo ?_
            refine wcno ?_ (ht := by rw [pkb_and]; rfl)
            refine sgo ?_
            refine wcutj (X := Unit) (fun _ => [(0, str t), (4, .slice q3 M'.length c3), (5, .bool true), (6, int at_), (8, int k), (10, int g2)])
              (fun _ wr => Sep w0 wr (pRow 3 q3 M'.length c3 (M'.flatMap StM.cells) :: pMany (M'.map StM.rrow) :: cs)) ?_ ?_
            · refine wcloop (X := Nat) (fun n => [(0, str t), (4, .slice q3 M'.length c3), (5, .bool true), (6, int at_), (8, int k), (10, int n)])
                (fun n wr => skB (t.drop n) = t.drop g2 ∧ n ≤ t.length ∧ Sep w0 wr (pRow 3 q3 M'.length c3 (M'.flatMap StM.cells) :: pMany (M'.map StM.rrow) :: cs)) (fun n => t.length - n) (g + 1) ⟨rfl, rfl, rfl, rfl, rfl, rfl, trivial⟩ ⟨hg2, hgl, hS⟩ ?_
              repeat clear hS
              rintro n wr2 ρ3 ⟨hsn, hnt, hS⟩
              refine sgo ?_
              generalize hcg2 : t[n]?.getD 0 = c9
              refine wlcallgp (vals := [byt c9.toNat]) (fun _ => rBlank_ok c9.toNat _) fun w9 hf9 => ?_
              replace hS := hS.grow hf9
              refine sgo ?_
              refine WC_cond rfl (fun hc => ?_) (fun hc => ?_)
              · simp only [pkb_and, Bool.and_eq_true, decide_eq_true_eq] at hc
                have hlt : n < t.length := by omega
                have hx : t[n]? = some c9 := by rw [List.getElem?_eq_getElem hlt] at hcg2 ⊢; rw [← hcg2]; rfl
                rw [sk_more hx hc.2] at hsn
                refine sgo ?_
                exact ⟨n + 1, ⟨rfl, rfl, rfl, rfl, rfl, rfl, trivial⟩, ⟨hsn, hlt, hS⟩, by omega⟩
              · have hn : skB (t.drop n) = t.drop n := by
                  rcases Nat.lt_or_ge n t.length with hlt | hge
                  · have hx : t[n]? = some c9 := by rw [List.getElem?_eq_getElem hlt] at hcg2 ⊢; rw [← hcg2]; rfl
                    refine sk_stop hx ?_
                    cases h : blB c9 with
                    | false => rfl
                    | true =>
                      have h2 : blN c9.toNat = true := h
                      rw [pkb_and] at hc
                      simp [h2] at hc
                      omega
                  · exact sk_end hge
                have hng : n = g2 := by
                  rw [hn] at hsn
                  have := congrArg List.length hsn
                  rw [List.length_drop, List.length_drop] at this
                  omega
                subst hng
                refine sgo ?_
                exact ⟨(), ⟨rfl, rfl, rfl, rfl, rfl, rfl, trivial⟩, hS⟩
            repeat clear hS
            rintro _ w9 ρ4 hS
            refine sgo ?_
            refine ⟨(true, M', q3, c3, g2), ⟨rfl, rfl, rfl, rfl, trivial⟩, ⟨hR, hgt2, by dsimp only; omega, hS⟩, by dsimp only; omega⟩
          · have hn62 : ¬ some d = some 62 := fun h => h62 (Option.some.inj h)
            rw [if_neg hn62] at hR
            rw [show pkb (decide ((g : Int) < t.length)) (decide (((d.toNat : Nat) : Int) = 62)) false = false by rw [pkb_and]; simp; intro _ h; exact h62 (UInt8.toNat_inj.1 (show d.toNat = 62 by omega))]
            refine sgo ?_
            (show WC _ _ _ _ _ _ _; first | refine WC_dec rfl (fun hc => ?_) (fun hc => ?_) | refine WC_cond rfl (fun hc => ?_) (fun hc => ?_))
            · have hgk : g = k := by omega
              rw [if_pos (by rw [hgk])] at hR
              refine sgo ?_
              (first | refine fp1 (.inl rfl) rfl rfl ?_ | refine fp2 (.inl rfl) rfl rfl rfl ?_ | refine fp3 (.inl rfl) rfl rfl rfl rfl ?_ | refine fp0 (.inr rfl) rfl ?_ | refine fp0 (.inl rfl) rfl ?_ | refine fp1 (.inr rfl) rfl rfl ?_)
              exact .inr ⟨hR.symm, rfl, hS.sub (((List.sublist_cons_self _ _).cons _))⟩
            · have hgk : ¬ g = k := by omega
              rw [if_neg (by omega)] at hR
              refine sgo ?_
              refine ⟨(false, M', q3, c3, g), ⟨rfl, rfl, rfl, rfl, trivial⟩, ⟨?_, hgt, by dsimp only; omega, hS⟩, by dsimp only; omega⟩
              exact hR
end Go.Proofs.YtcdogceabkpnmaaDoor

/-
  Selectors: what is read is small, and its words are not empty.
-/
set_option linter.unusedSimpArgs false
set_option linter.unusedVariables false
set_option linter.unnecessarySimpa false
namespace Go.Sv
def Tst.fine (t : Tst) : Prop := t.kind = 2 → t.value ≠ []
def Stp.fine (n : Nat) (p : Stp) : Prop := p.tests.length ≤ n ∧ ∀ t ∈ p.tests, t.fine
end Go.Sv
namespace Go.Proofs.YtcdogceabkpnmaaDoor
open Go Go.Sv Go.RowKit

theorem mark_fine {c : UInt8} {r r1 : List UInt8} {t : Tst} (h : markR c r = some (t, r1)) : t.fine := by
  unfold markR at h
  by_cases h0 : nmR r = []
  · rw [if_pos h0] at h; cases h
  rw [if_neg h0] at h
  split at h
  · injection h with h; injection h with h _; subst h; intro hk; cases hk
  split at h
  · injection h with h; injection h with h _; subst h; intro _; exact h0
  split at h
  · split at h
    · cases h
    · split at h
      · injection h with h; injection h with h _; subst h; intro hk; cases hk
      · cases h
  · injection h with h; injection h with h _; subst h; intro hk; cases hk
  · cases h
theorem marks_fine : ∀ (n : Nat) (s : List UInt8) (l : List Tst) (r : List UInt8), s.length ≤ n → marksR s = some (l, r) → l.length + r.length ≤ s.length ∧ ∀ t ∈ l, t.fine
  | _, [], l, r, _, h => by
    rw [marks_nil] at h
    injection h with h
    injection h with h1 h2
    subst h1 h2
    exact ⟨Nat.le_refl _, by simp⟩
  | 0, _ :: _, _, _, h, _ => by simp at h
  | n + 1, c :: q, l, r, hl, h => by
    simp only [List.length_cons] at hl ⊢
    rw [marks_step] at h
    split at h
    · cases hm : markR c q with
      | none => rw [hm] at h; cases h
      | some x =>
        obtain ⟨t, r1⟩ := x
        have h1 := markR_lt hm
        have h4 := mark_fine hm
        rw [hm] at h
        dsimp only at h
        cases hk : marksR r1 with
        | none => rw [hk] at h; cases h
        | some y =>
          obtain ⟨l2, r2⟩ := y
          rw [hk] at h
          injection h with h
          injection h with h2 h3
          subst h2 h3
          have := marks_fine n r1 l2 r2 (by omega) hk
          refine ⟨by simp only [List.length_cons]; omega, fun t' ht' => ?_⟩
          rcases List.mem_cons.1 ht' with rfl | ht'
          · exact h4
          · exact this.2 t' ht'
    · injection h with h
      injection h with h1 h2
      subst h1 h2
      exact ⟨by simp, by simp⟩
theorem step_fine {s r : List UInt8} {p : Stp} (h : stepR s = some (p, r)) : p.tests.length ≤ s.length ∧ ∀ t ∈ p.tests, t.fine := by
  by_cases hs : ∃ q, s = 42 :: q
  · obtain ⟨q, rfl⟩ := hs
    rw [step_star] at h
    cases hm : marksR q with
    | none => rw [hm] at h; cases h
    | some x =>
      obtain ⟨l, r1⟩ := x
      rw [hm] at h
      injection h with h
      injection h with h1 h
      subst h1
      have := marks_fine _ q l r1 (Nat.le_refl _) hm
      exact ⟨by simp; omega, this.2⟩
  · rw [step_other (fun r e => hs ⟨r, e⟩)] at h
    cases hm : marksR (nmT s) with
    | none => rw [hm] at h; cases h
    | some x =>
      obtain ⟨l, r1⟩ := x
      rw [hm] at h
      dsimp only at h
      have hml := marks_fine _ (nmT s) l r1 (Nat.le_refl _) hm
      have hnl := nmT_le s
      by_cases h0 : nmR s = [] ∧ l = []
      · rw [if_pos h0] at h; cases h
      · rw [if_neg h0] at h
        injection h with h
        injection h with h1 h
        subst h1
        exact ⟨by dsimp only; omega, hml.2⟩
theorem selG_fine : ∀ (n : Nat) (ch : Bool) (s : List UInt8) (L : List Stp), s.length ≤ n → selG ch s = some L → L ≠ [] ∧ L.length ≤ s.length ∧ ∀ p ∈ L, p.fine n := by
  intro n
  induction n with
  | zero =>
    intro ch s L hs h
    obtain rfl := List.eq_nil_of_length_eq_zero (Nat.le_zero.1 hs)
    rw [selG_none (by rfl)] at h
    cases h
  | succ n ih =>
    intro ch s L hs h
    cases hm : stepR s with
    | none => rw [selG_none hm] at h; cases h
    | some x =>
      obtain ⟨p, r⟩ := x
      have h1 := step_lt hm
      have h2 := step_fine hm
      have h4 := skB_le r
      have h5 := skB_le ((skB r).drop 1)
      rw [List.length_drop] at h5
      rw [selG_some hm] at h
      have key : ∀ l, tailR r = some l → l.length ≤ r.length ∧ ∀ p ∈ l, p.fine n := by
        intro l hl
        unfold tailR at hl
        split at hl
        · injection hl with hl; subst hl; exact ⟨Nat.zero_le _, by simp⟩
        split at hl
        · have := ih _ _ _ (by omega) hl; exact ⟨by omega, this.2.2⟩
        split at hl
        · cases hl
        · have := ih _ _ _ (by omega) hl; exact ⟨by omega, this.2.2⟩
      cases ht : tailR r with
      | none => rw [ht] at h; cases h
      | some l =>
        rw [ht] at h
        injection h with h
        subst h
        obtain ⟨k1, k2⟩ := key l ht
        refine ⟨by simp, by simp only [List.length_cons]; omega, fun q hq => ?_⟩
        rcases List.mem_cons.1 hq with rfl | hq
        · exact ⟨by dsimp only; omega, h2.2⟩
        · have := k2 q hq; exact ⟨by have := this.1; omega, this.2⟩
theorem sel_fine {s : List UInt8} {L : List Stp} (h : selR s = some L) : L ≠ [] ∧ L.length ≤ s.length ∧ ∀ p ∈ L, p.fine s.length := by
  have h1 := skB_le s
  have h2 := selG_fine s.length false (skB s) L h1 h
  exact ⟨h2.1, by omega, h2.2.2⟩
end Go.Proofs.YtcdogceabkpnmaaDoor

/-
  Selectors: does an element pass a test, does it fit a step; dom's and the document's.
-/
set_option linter.unusedSimpArgs false
set_option linter.unusedVariables false
set_option linter.unnecessarySimpa false
namespace Go.Proofs.YtcdogceabkpnmaaDoor
open Go Go.Sv Go.RowKit

set_option maxRecDepth 100000 in
theorem passes1_ok (r : Nat) (w : World) : PureC Tryd.prog 105 #[i32 r] w (.bool (blN r)) := by
  refine enter (l := [i32 r]) Tryd.func105 rfl Tryd.ntmps105 (by kernel_rfl) rfl ?_
  refine sgo ?_
  refine wlcallgp (vals := [byt r]) (fun _ => dBlank_ok r _) fun w1 hf1 => ?_
  refine sgo ?_
  (first | refine fp1 (.inl rfl) rfl rfl ?_ | refine fp2 (.inl rfl) rfl rfl rfl ?_ | refine fp3 (.inl rfl) rfl rfl rfl rfl ?_ | refine fp0 (.inr rfl) rfl ?_ | refine fp0 (.inl rfl) rfl ?_ | refine fp1 (.inr rfl) rfl rfl ?_); refine ⟨?_, by (first | exact Frm.refl _ | assumption | exact Go.Sv.Sep.frm (by assumption) | (refine Frm.trans ?_ (by assumption); first | exact Frm.refl _ | assumption))⟩; (try simp only [realB, rv_true, Nat.reduceBEq, cond_true, cond_false, entG, real_lif, updGL])
  refine congrArg Value.bool ?_
  unfold blN
  rw [Bool.eq_iff_iff]
  simp only [pkb_and, Bool.and_eq_true, decide_eq_true_eq]
  omega
set_option maxHeartbeats 1000000 in
theorem fieldsD_ok (s : List UInt8) (hb : s.length ≤ 16777216) (w : World) :
    CallsR Tryd.prog 103 #[str s, .func (.func 105) #[] #[]] w fun v w' => ∃ b, v = .slice (pb b) (fldR blN s).length (fldR blN s).length ∧ Sep w w' [pRow 1 (pb b) (fldR blN s).length (fldR blN s).length (strs (fldR blN s))] := by
  obtain ⟨h1, h2⟩ := fields_eq s blN blN blN_high (fun _ _ => rfl)
  refine Calls.mono (Tryd.strings_FieldsFunc_grows 105 #[] run_callFunc blN ⟨s.toArray⟩ w (by rw [size_str]; omega) fun W x hx hB => ?_) ?_
  · refine Calls.mono (passes1_ok x W) ?_
    rintro e w' ⟨v, rfl, rfl, hf⟩
    exact ⟨rfl, hf⟩
  · rintro e w' ⟨a, rfl, ha, hrow, hB⟩
    rw [h1, h2] at hrow
    refine ⟨_, rfl, a, ?_, ?_⟩
    · rw [h2]
    · exact (Sep.start w).push (c := pRow 1 (pb a) (fldR blN s).length (fldR blN s).length (strs (fldR blN s))) hB (rowT_row hrow) (by simpa [pRow, rb, pb] using ha)
set_option maxHeartbeats 4000000 in
theorem passes_ok (m : NdM) (t : Tst) (hs : m.small) (w : World) (hi : Im [] w m.ap (m.attrs.flatMap At.cells)) :
    PureC Tryd.prog 102 #[.agg ⟨m.cells⟩, .agg ⟨t.dom⟩] w (.bool (passL t m.attrs)) := by
  obtain ⟨n, tx, es, ap, ac, ks, kp, kc⟩ := m
  obtain ⟨-, -, hel, hsm, -⟩ := hs
  dsimp only at hi hel hsm ⊢
  obtain ⟨ta, tv, tk⟩ := t
  have hS := Sep.start w
  have hat := fm_len At.len es
  refine enter (l := [.agg ⟨NdM.cells ⟨n, tx, es, ap, ac, ks, kp, kc⟩⟩, .agg ⟨Tst.dom ⟨ta, tv, tk⟩⟩]) Tryd.func102 rfl Tryd.ntmps102 (by kernel_rfl) rfl ?_
  unfold NdM.cells Tst.dom
  dsimp only
  refine sgo ?_
  refine sbox (v := .agg ⟨[str n, str tx, .slice ap es.length ac, .slice kp ks.len kc]⟩) hS fun b2 w1 hS => ?_
  refine sgo ?_
  refine sbox (v := .agg ⟨[str ta, str tv, .bool (decide (tk = 1)), .bool (decide (tk = 2))]⟩) hS fun b3 w2 hS => ?_
  replace hS : Sep w w2 [pOwn b3 [str ta, str tv, .bool (decide (tk = 1)), .bool (decide (tk = 2))], pOwn b2 [str n, str tx, .slice ap es.length ac, .slice kp ks.len kc]] := hS
  refine sgo ?_
  obtain ⟨res, hres⟩ : ∃ res, res = passL ⟨ta, tv, tk⟩ es := ⟨_, rfl⟩
  rw [← hres]
  refine wcloop (X := Nat) (fun i => [(2, ptrAt (pb b2) 0), (3, ptrAt (pb b3) 0), (11, .slice ap es.length ac), (12, int es.length), (13, int i)])
    (fun i wr => i ≤ es.length ∧ passL ⟨ta, tv, tk⟩ (es.drop i) = res ∧ Sep w wr [pOwn b3 [str ta, str tv, .bool (decide (tk = 1)), .bool (decide (tk = 2))], pOwn b2 [str n, str tx, .slice ap es.length ac, .slice kp ks.len kc]])
    (fun i => es.length - i) 0 ⟨rfl, rfl, rfl, rfl, rfl, trivial⟩ ⟨Nat.zero_le _, hres.symm, hS⟩ ?_
  repeat clear hS
  rintro i wr ρ ⟨hil, hpre, hS⟩
  refine sgo ?_
  (show WC _ _ _ _ _ _ _; first | refine WC_dec rfl (fun hc => ?_) (fun hc => ?_) | refine WC_cond rfl (fun hc => ?_) (fun hc => ?_))
  · have hlt : i < es.length := by omega
    have hx : es[i]? = some es[i] := List.getElem?_eq_getElem hlt
    have hsx := att_at hx
    have hpa : ∃ a, ap = some a := hi.some (by omega)
    have hsmx := hsm _ (List.getElem_mem hlt)
    rw [passL_drop hx] at hpre
    generalize es[i] = x at *
    obtain ⟨xn, xv⟩ := x
    replace hsx : ((es.flatMap At.cells).drop (i * 2)).take 2 = [str xn, str xv] := hsx
    have hxv : xv.length ≤ 1048576 := hsmx.2
    dsimp only at hpre
    clear hc
    refine sgo ?_
    rw [hsx]
    refine salloc hS fun b6 w3 hS => ?_
    refine sgo ?_
    refine ssta (vs := [str xn, str xv]) hS 0 fun w4 hS => ?_
    replace hS : Sep w w4 [pOwn b6 [str xn, str xv], pOwn b3 [str ta, str tv, .bool (decide (tk = 1)), .bool (decide (tk = 2))], pOwn b2 [str n, str tx, .slice ap es.length ac, .slice kp ks.len kc]] := hS
    refine sgo ?_
    (show WC _ _ _ _ _ _ _; first | refine WC_dec rfl (fun hc => ?_) (fun hc => ?_) | refine WC_cond rfl (fun hc => ?_) (fun hc => ?_))
    · rw [if_neg hc] at hpre
      refine sgo ?_
      exact ⟨i + 1, ⟨rfl, rfl, rfl, rfl, rfl, trivial⟩, ⟨hlt, hpre, hS.sel 3 [1, 2]⟩, by omega⟩
    · have hc : xn = ta := by simpa using hc
      rw [if_pos hc] at hpre
      unfold pass1 at hpre
      dsimp only at hpre
      refine sgo ?_
      (show WC _ _ _ _ _ _ _; first | refine WC_dec rfl (fun hc => ?_) (fun hc => ?_) | refine WC_cond rfl (fun hc => ?_) (fun hc => ?_))
      · rw [if_pos hc] at hpre
        refine sgo ?_
        (first | refine fp1 (.inl rfl) rfl rfl ?_ | refine fp2 (.inl rfl) rfl rfl rfl ?_ | refine fp3 (.inl rfl) rfl rfl rfl rfl ?_ | refine fp0 (.inr rfl) rfl ?_ | refine fp0 (.inl rfl) rfl ?_ | refine fp1 (.inr rfl) rfl rfl ?_); refine ⟨?_, by (first | exact Frm.refl _ | assumption | exact Go.Sv.Sep.frm (by assumption) | (refine Frm.trans ?_ (by assumption); first | exact Frm.refl _ | assumption))⟩; (try simp only [realB, rv_true, Nat.reduceBEq, cond_true, cond_false, entG, real_lif, updGL])
        rw [← hpre]
      · rw [if_neg hc] at hpre
        clear hc
        refine sgo ?_
        (show WC _ _ _ _ _ _ _; first | refine WC_dec rfl (fun hc => ?_) (fun hc => ?_) | refine WC_cond rfl (fun hc => ?_) (fun hc => ?_))
        · rw [if_pos hc] at hpre
          refine sgo ?_
          refine wlcall (fieldsD_ok xv (by omega) _) ?_
          rintro _ w5 ⟨b9, rfl, hS9⟩
          replace hS := hS.seq hS9
          clear hS9
          have hfl := (hS.row 0 rfl).le_cap.2
          generalize fldR blN xv = L at *
          have hLn := strs_len L
          refine sgo ?_
          refine wcloop (X := Nat) (fun j => [(3, ptrAt (pb b3) 0), (35, .slice (pb b9) L.length L.length), (36, int L.length), (37, int j)])
            (fun j wr => j ≤ L.length ∧ ta ∉ [] ∧ tv ∉ L.take j ∧ Sep w wr [pRow 1 (pb b9) L.length L.length (strs L), pOwn b3 [str ta, str tv, .bool (decide (tk = 1)), .bool (decide (tk = 2))]])
            (fun j => L.length - j) 0 ⟨rfl, rfl, rfl, rfl, trivial⟩ ⟨Nat.zero_le _, by simp, by simp, hS.sel 4 [0, 2]⟩ ?_
          repeat clear hS
          rintro j wr2 ρ2 ⟨hjl, -, hjn, hS⟩
          refine sgo ?_
          (show WC _ _ _ _ _ _ _; first | refine WC_dec rfl (fun hc => ?_) (fun hc => ?_) | refine WC_cond rfl (fun hc => ?_) (fun hc => ?_))
          · have hlt2 : j < L.length := by omega
            obtain ⟨x, hx2⟩ : ∃ x, L[j]? = some x := ⟨_, List.getElem?_eq_getElem hlt2⟩
            have hxv2 := strs_at hx2
            have hpb9 : ∃ a, pb b9 = some a := ⟨_, rfl⟩
            clear hc
            have htx : L.take (j + 1) = L.take j ++ [x] := by rw [List.take_add_one, hx2]; rfl
            refine sgo ?_
            (show WC _ _ _ _ _ _ _; first | refine WC_dec rfl (fun hc => ?_) (fun hc => ?_) | refine WC_cond rfl (fun hc => ?_) (fun hc => ?_))
            · have hmem : tv ∈ L := by rw [← hc]; exact List.mem_of_getElem? hx2
              refine sgo ?_
              (first | refine fp1 (.inl rfl) rfl rfl ?_ | refine fp2 (.inl rfl) rfl rfl rfl ?_ | refine fp3 (.inl rfl) rfl rfl rfl rfl ?_ | refine fp0 (.inr rfl) rfl ?_ | refine fp0 (.inl rfl) rfl ?_ | refine fp1 (.inr rfl) rfl rfl ?_); refine ⟨?_, by (first | exact Frm.refl _ | assumption | exact Go.Sv.Sep.frm (by assumption) | (refine Frm.trans ?_ (by assumption); first | exact Frm.refl _ | assumption))⟩; (try simp only [realB, rv_true, Nat.reduceBEq, cond_true, cond_false, entG, real_lif, updGL])
              rw [← hpre, decide_eq_true hmem]
            · refine sgo ?_
              refine ⟨j + 1, ⟨rfl, rfl, rfl, rfl, trivial⟩, ⟨hlt2, by simp, ?_, hS⟩, by omega⟩
              rw [htx]
              intro h
              rcases List.mem_append.1 h with h | h
              · exact hjn h
              · exact hc (List.mem_singleton.1 h).symm
          · obtain rfl : j = L.length := by omega
            rw [List.take_length] at hjn
            refine sgo ?_
            (first | refine fp1 (.inl rfl) rfl rfl ?_ | refine fp2 (.inl rfl) rfl rfl rfl ?_ | refine fp3 (.inl rfl) rfl rfl rfl rfl ?_ | refine fp0 (.inr rfl) rfl ?_ | refine fp0 (.inl rfl) rfl ?_ | refine fp1 (.inr rfl) rfl rfl ?_); refine ⟨?_, by (first | exact Frm.refl _ | assumption | exact Go.Sv.Sep.frm (by assumption) | (refine Frm.trans ?_ (by assumption); first | exact Frm.refl _ | assumption))⟩; (try simp only [realB, rv_true, Nat.reduceBEq, cond_true, cond_false, entG, real_lif, updGL])
            rw [← hpre, decide_eq_false hjn]
        · rw [if_neg hc] at hpre
          refine sgo ?_
          (first | refine fp1 (.inl rfl) rfl rfl ?_ | refine fp2 (.inl rfl) rfl rfl rfl ?_ | refine fp3 (.inl rfl) rfl rfl rfl rfl ?_ | refine fp0 (.inr rfl) rfl ?_ | refine fp0 (.inl rfl) rfl ?_ | refine fp1 (.inr rfl) rfl rfl ?_); refine ⟨?_, by (first | exact Frm.refl _ | assumption | exact Go.Sv.Sep.frm (by assumption) | (refine Frm.trans ?_ (by assumption); first | exact Frm.refl _ | assumption))⟩; (try simp only [realB, rv_true, Nat.reduceBEq, cond_true, cond_false, entG, real_lif, updGL])
          rw [← hpre]
  · obtain rfl : i = es.length := by omega
    rw [List.drop_eq_nil_of_le (Nat.le_refl _)] at hpre
    refine sgo ?_
    (first | refine fp1 (.inl rfl) rfl rfl ?_ | refine fp2 (.inl rfl) rfl rfl rfl ?_ | refine fp3 (.inl rfl) rfl rfl rfl rfl ?_ | refine fp0 (.inr rfl) rfl ?_ | refine fp0 (.inl rfl) rfl ?_ | refine fp1 (.inr rfl) rfl rfl ?_); refine ⟨?_, by (first | exact Frm.refl _ | assumption | exact Go.Sv.Sep.frm (by assumption) | (refine Frm.trans ?_ (by assumption); first | exact Frm.refl _ | assumption))⟩; (try simp only [realB, rv_true, Nat.reduceBEq, cond_true, cond_false, entG, real_lif, updGL])
    rw [← hpre]; rfl
end Go.Proofs.YtcdogceabkpnmaaDoor

/-
  Selectors: does an element fit a step; dom's and the document's.
-/
set_option linter.unusedSimpArgs false
set_option linter.unusedVariables false
set_option linter.unnecessarySimpa false
namespace Go.Proofs.YtcdogceabkpnmaaDoor
open Go Go.Sv Go.RowKit

theorem dom_fm (l : List Tst) : (l.flatMap Tst.dom).length = l.length * 4 := fm_len Tst.dlen l
theorem ref_fm (l : List Tst) : (l.flatMap Tst.ref).length = l.length * 3 := fm_len Tst.rlen l
theorem all_drop {p : Tst → Bool} {l : List Tst} {i : Nat} {x : Tst} (h : l[i]? = some x) : (l.drop i).all p = (p x && (l.drop (i + 1)).all p) := by
  obtain ⟨hi, rfl⟩ := List.getElem?_eq_some_iff.1 h
  rw [List.drop_eq_getElem_cons hi]; rfl
set_option maxHeartbeats 4000000 in
theorem dFits_ok (m : NdM) (st : StM) (hs : m.small) (ht : st.tests.length ≤ 16777216) (w : World) (hi : Im [] w m.ap (m.attrs.flatMap At.cells)) (hj : Im [] w st.p (st.tests.flatMap Tst.dom)) :
    PureC Tryd.prog 90 #[.agg ⟨m.cells⟩, .agg ⟨st.cells⟩] w (.bool (fitR st.st m.name m.attrs)) := by
  have hpass := fun t w' (hf : Frm w w') => passes_ok m t hs w' (hi.frm hf)
  obtain ⟨n, tx, es, ap, ac, ks, kp, kc⟩ := m
  obtain ⟨sn, l, ch, sp, sc⟩ := st
  dsimp only at ht hj hpass ⊢
  have hS := Sep.start w
  have hat := dom_fm l
  refine enter (l := [.agg ⟨NdM.cells ⟨n, tx, es, ap, ac, ks, kp, kc⟩⟩, .agg ⟨StM.cells ⟨sn, l, ch, sp, sc⟩⟩]) Tryd.func90 rfl Tryd.ntmps90 (by kernel_rfl) rfl ?_
  unfold NdM.cells at hpass ⊢
  unfold StM.cells
  dsimp only at hpass ⊢
  refine sgo ?_
  refine sbox (v := .agg ⟨[str n, str tx, .slice ap es.length ac, .slice kp ks.len kc]⟩) hS fun b2 w1 hS => ?_
  refine sgo ?_
  refine sbox (v := .agg ⟨[str sn, .slice sp l.length sc, .bool ch]⟩) hS fun b3 w2 hS => ?_
  replace hS : Sep w w2 [pOwn b3 [str sn, .slice sp l.length sc, .bool ch], pOwn b2 [str n, str tx, .slice ap es.length ac, .slice kp ks.len kc]] := hS
  refine sgo ?_
  refine WC_cond rfl (fun hc => ?_) (fun hc => ?_)
  · have hno : fitR (⟨sn, l, ch, sp, sc⟩ : StM).st n es = false := by
      simp only [pkb_and, Bool.and_eq_true, decide_eq_true_eq] at hc
      unfold fitR StM.st
      dsimp only
      rw [decide_eq_false hc.1, decide_eq_false hc.2]; rfl
    refine sgo ?_
    (first | refine fp1 (.inl rfl) rfl rfl ?_ | refine fp2 (.inl rfl) rfl rfl rfl ?_ | refine fp3 (.inl rfl) rfl rfl rfl rfl ?_ | refine fp0 (.inr rfl) rfl ?_ | refine fp0 (.inl rfl) rfl ?_ | refine fp1 (.inr rfl) rfl rfl ?_); refine ⟨?_, by (first | exact Frm.refl _ | assumption | exact Go.Sv.Sep.frm (by assumption) | (refine Frm.trans ?_ (by assumption); first | exact Frm.refl _ | assumption))⟩; (try simp only [realB, rv_true, Nat.reduceBEq, cond_true, cond_false, entG, real_lif, updGL])
    rw [hno]
  have hres : fitR (⟨sn, l, ch, sp, sc⟩ : StM).st n es = l.all fun t => passL t es := by
    have hc2 : sn = [] ∨ sn = n := by
      rw [pkb_and] at hc
      by_cases h1 : sn = []
      · exact .inl h1
      · by_cases h2 : sn = n
        · exact .inr h2
        · simp [h1, h2] at hc
    unfold fitR StM.st
    dsimp only
    rcases hc2 with h | h
    · rw [decide_eq_true h]; simp
    · rw [decide_eq_true h]; simp
  rw [hres]
  clear hc hres
  obtain ⟨res, hres⟩ : ∃ res, res = l.all fun t => passL t es := ⟨_, rfl⟩
  rw [← hres]
  refine sgo ?_
  refine wcloop (X := Nat) (fun i => [(2, ptrAt (pb b2) 0), (19, .slice sp l.length sc), (20, int l.length), (21, int i)])
    (fun i wr => i ≤ l.length ∧ (l.drop i).all (fun t => passL t es) = res ∧ Sep w wr [pOwn b2 [str n, str tx, .slice ap es.length ac, .slice kp ks.len kc]])
    (fun i => l.length - i) 0 ⟨rfl, rfl, rfl, rfl, trivial⟩ ⟨Nat.zero_le _, hres.symm, hS.sel 2 [1]⟩ ?_
  clear hres
  repeat clear hS
  rintro i wr ρ ⟨hil, hpre, hS⟩
  refine sgo ?_
  (show WC _ _ _ _ _ _ _; first | refine WC_dec rfl (fun hc => ?_) (fun hc => ?_) | refine WC_cond rfl (fun hc => ?_) (fun hc => ?_))
  · have hlt : i < l.length := by omega
    have hx : l[i]? = some l[i] := List.getElem?_eq_getElem hlt
    have hsx := fm_seg Tst.dlen l hx
    have hpa : ∃ a, sp = some a := hj.some (by omega)
    rw [all_drop hx] at hpre
    generalize l[i] = t at *
    obtain ⟨ta, tv, tk⟩ := t
    replace hsx : ((l.flatMap Tst.dom).drop (i * 4)).take 4 = [str ta, str tv, .bool (decide (tk = 1)), .bool (decide (tk = 2))] := hsx
    clear hc
    refine sgo ?_
    rw [hsx]
    refine salloc hS fun b6 w3 hS => ?_
    refine sgo ?_
    refine ssta (vs := [str ta, str tv, .bool (decide (tk = 1)), .bool (decide (tk = 2))]) hS 0 fun w4 hS => ?_
    replace hS : Sep w w4 [pOwn b6 [str ta, str tv, .bool (decide (tk = 1)), .bool (decide (tk = 2))], pOwn b2 [str n, str tx, .slice ap es.length ac, .slice kp ks.len kc]] := hS
    refine sgo ?_
    refine wlpure (hpass ⟨ta, tv, tk⟩ _ hS.frm) fun w5 hf5 => ?_
    replace hS := hS.grow hf5
    refine sgo ?_
    cases hp : passL ⟨ta, tv, tk⟩ es with
    | false =>
      rw [hp, Bool.false_and] at hpre
      refine sgo ?_
      (first | refine fp1 (.inl rfl) rfl rfl ?_ | refine fp2 (.inl rfl) rfl rfl rfl ?_ | refine fp3 (.inl rfl) rfl rfl rfl rfl ?_ | refine fp0 (.inr rfl) rfl ?_ | refine fp0 (.inl rfl) rfl ?_ | refine fp1 (.inr rfl) rfl rfl ?_); refine ⟨?_, by (first | exact Frm.refl _ | assumption | exact Go.Sv.Sep.frm (by assumption) | (refine Frm.trans ?_ (by assumption); first | exact Frm.refl _ | assumption))⟩; (try simp only [realB, rv_true, Nat.reduceBEq, cond_true, cond_false, entG, real_lif, updGL])
      rw [← hpre]
    | true =>
      rw [hp, Bool.true_and] at hpre
      refine sgo ?_
      exact ⟨i + 1, ⟨rfl, rfl, rfl, rfl, trivial⟩, ⟨hlt, hpre, hS.sel 2 [1]⟩, by omega⟩
  · obtain rfl : i = l.length := by omega
    rw [List.drop_eq_nil_of_le (Nat.le_refl _)] at hpre
    refine sgo ?_
    (first | refine fp1 (.inl rfl) rfl rfl ?_ | refine fp2 (.inl rfl) rfl rfl rfl ?_ | refine fp3 (.inl rfl) rfl rfl rfl rfl ?_ | refine fp0 (.inr rfl) rfl ?_ | refine fp0 (.inl rfl) rfl ?_ | refine fp1 (.inr rfl) rfl rfl ?_); refine ⟨?_, by (first | exact Frm.refl _ | assumption | exact Go.Sv.Sep.frm (by assumption) | (refine Frm.trans ?_ (by assumption); first | exact Frm.refl _ | assumption))⟩; (try simp only [realB, rv_true, Nat.reduceBEq, cond_true, cond_false, entG, real_lif, updGL])
    rw [← hpre]; rfl
/-! ## the document's -/
theorem fEnd_mem (x : List (List UInt8) × List UInt8) (w : List UInt8) (hw : w ≠ []) : w ∈ fEnd x ↔ w ∈ x.1 ∨ w = x.2 := by
  unfold fEnd
  split
  · rename_i h
    rw [h]
    exact ⟨.inl, fun h => h.elim id fun h => absurd h hw⟩
  · simp
set_option maxHeartbeats 4000000 in
theorem hasWord_ok (v wd : List UInt8) (hw : wd ≠ []) (hb : v.length ≤ 16777216) (w : World) : PureC Tryd.prog 92 #[str v, str wd] w (.bool (decide (wd ∈ fldR blN v))) := by
  refine enter (l := [str v, str wd]) Tryd.func92 rfl Tryd.ntmps92 (by kernel_rfl) rfl ?_
  refine sgo ?_
  refine wcloop (X := Nat × Nat) (fun x => [(0, str v), (1, str wd), (5, int x.1), (6, int x.2)])
    (fun x wr => x.2 ≤ v.length + 1 ∧ x.1 ≤ x.2 ∧ (x.2 = v.length + 1 → wd ∉ fldR blN v) ∧ (x.2 ≤ v.length → wd ∉ (fFold blN (v.take x.2)).1 ∧ (v.drop x.1).take (x.2 - x.1) = (fFold blN (v.take x.2)).2) ∧ Frm w wr)
    (fun x => v.length + 1 - x.2) (0, 0) ⟨rfl, rfl, rfl, rfl, trivial⟩ ⟨Nat.zero_le _, Nat.le_refl _, (fun h => by cases h), fun _ => ⟨by simp [fFold], by simp [fFold]⟩, Frm.refl _⟩ ?_
  rintro ⟨a, i⟩ wr ρ ⟨hil, hai, hend, hin, hf⟩
  dsimp only at hil hai hend hin ⊢
  refine sgo ?_
  (show WC _ _ _ _ _ _ _; first | refine WC_dec rfl (fun hc => ?_) (fun hc => ?_) | refine WC_cond rfl (fun hc => ?_) (fun hc => ?_))
  · have hle : i ≤ v.length := by omega
    clear hc
    obtain ⟨hno, hcur⟩ := hin hle
    have hfin : i = v.length → (wd ∈ fldR blN v ↔ (v.drop a).take (i - a) = wd) := by
      rintro rfl
      rw [List.take_length] at hcur hno
      unfold fldR
      rw [fEnd_mem _ _ hw, hcur]
      exact ⟨fun h => h.elim (fun h => absurd h hno) Eq.symm, fun h => .inr h.symm⟩
    refine sgo ?_
    generalize hcg : v[i]?.getD 0 = c0
    refine wlcallgp (vals := [byt c0.toNat]) (fun _ => rBlank_ok c0.toNat _) fun w1 hf1 => ?_
    replace hf := hf.trans hf1
    refine sgo ?_
    refine WC_cond rfl (fun hc => ?_) (fun hc => ?_)
    · have hor : i = v.length ∨ (i < v.length ∧ blN c0.toNat = true) := by
        rw [pkb_or] at hc
        simp only [Bool.or_eq_true, decide_eq_true_eq] at hc
        rcases hc with h | h
        · exact .inl (by omega)
        · rcases Nat.lt_or_ge i v.length with h2 | h2
          · exact .inr ⟨h2, h⟩
          · exact .inl (by omega)
      clear hc
      refine sgo ?_
      (show WC _ _ _ _ _ _ _; first | refine WC_dec rfl (fun hc => ?_) (fun hc => ?_) | refine WC_cond rfl (fun hc => ?_) (fun hc => ?_))
      · refine sgo ?_
        (first | refine fp1 (.inl rfl) rfl rfl ?_ | refine fp2 (.inl rfl) rfl rfl rfl ?_ | refine fp3 (.inl rfl) rfl rfl rfl rfl ?_ | refine fp0 (.inr rfl) rfl ?_ | refine fp0 (.inl rfl) rfl ?_ | refine fp1 (.inr rfl) rfl rfl ?_); refine ⟨?_, by (first | exact Frm.refl _ | assumption | exact Go.Sv.Sep.frm (by assumption) | (refine Frm.trans ?_ (by assumption); first | exact Frm.refl _ | assumption))⟩; (try simp only [realB, rv_true, Nat.reduceBEq, cond_true, cond_false, entG, real_lif, updGL])
        refine congrArg Value.bool (decide_eq_true ?_).symm
        rcases hor with h | ⟨h, hbl⟩
        · exact (hfin h).2 hc
        · have hx : v[i]? = some c0 := by rw [List.getElem?_eq_getElem h] at hcg ⊢; rw [← hcg]; rfl
          refine fld_sub (i := i + 1) ?_
          rw [fFold_snoc hx]
          unfold fStep
          rw [if_pos hbl, ← hcur, hc, if_neg hw]
          simp
      · refine sgo ?_
        refine ⟨(i + 1, i + 1), ⟨rfl, rfl, rfl, rfl, trivial⟩, ⟨by dsimp only; omega, Nat.le_refl _, ?_, ?_, hf⟩, by dsimp only; omega⟩
        · intro h
          exact fun h2 => hc ((hfin (by dsimp only at h; omega)).1 h2)
        · intro h
          dsimp only at h ⊢
          rcases hor with h2 | ⟨h2, hbl⟩
          · omega
          have hx : v[i]? = some c0 := by rw [List.getElem?_eq_getElem h2] at hcg ⊢; rw [← hcg]; rfl
          rw [fFold_snoc hx]
          unfold fStep
          rw [if_pos hbl, ← hcur]
          by_cases h3 : (v.drop a).take (i - a) = []
          · rw [if_pos h3]
            exact ⟨hno, by rw [← hcur, h3]; simp⟩
          · rw [if_neg h3]
            refine ⟨fun h4 => ?_, by simp⟩
            rcases List.mem_append.1 h4 with h4 | h4
            · exact hno h4
            · exact hc (List.mem_singleton.1 h4).symm
    · have hlt : i < v.length ∧ blN c0.toNat = false := by
        rw [pkb_or] at hc
        simp only [Bool.or_eq_false_iff, decide_eq_false_iff_not] at hc
        exact ⟨by omega, hc.2⟩
      clear hc
      have hl1 := hlt.1
      have hx : v[i]? = some c0 := by rw [List.getElem?_eq_getElem hl1] at hcg ⊢; rw [← hcg]; rfl
      refine sgo ?_
      refine ⟨(a, i + 1), ⟨rfl, rfl, rfl, rfl, trivial⟩, ⟨by dsimp only; omega, by dsimp only; omega, fun h => by dsimp only at h; omega, fun h => ?_, hf⟩, by dsimp only; omega⟩
      dsimp only at h ⊢
      rw [fFold_snoc hx]
      unfold fStep
      rw [if_neg (by rw [hlt.2]; simp)]
      refine ⟨hno, ?_⟩
      rw [← hcur, show i + 1 - a = (i - a) + 1 by omega, List.take_add_one, List.getElem?_drop, show a + (i - a) = i by omega, hx]
      rfl
  · obtain rfl : i = v.length + 1 := by omega
    refine sgo ?_
    (first | refine fp1 (.inl rfl) rfl rfl ?_ | refine fp2 (.inl rfl) rfl rfl rfl ?_ | refine fp3 (.inl rfl) rfl rfl rfl rfl ?_ | refine fp0 (.inr rfl) rfl ?_ | refine fp0 (.inl rfl) rfl ?_ | refine fp1 (.inr rfl) rfl rfl ?_); refine ⟨?_, by (first | exact Frm.refl _ | assumption | exact Go.Sv.Sep.frm (by assumption) | (refine Frm.trans ?_ (by assumption); first | exact Frm.refl _ | assumption))⟩; (try simp only [realB, rv_true, Nat.reduceBEq, cond_true, cond_false, entG, real_lif, updGL])
    rw [decide_eq_false (hend rfl)]
theorem how2 (k : Nat) : howL k = [46] ↔ k = 2 := by
  unfold howL
  split
  · rename_i h; subst h; decide
  · split <;> simp_all
theorem how_pass (ta tv xn xv : List UInt8) (tk : Nat) : pkb (pkb (decide (howL tk = [])) true (pkb (decide (howL tk = [61])) (decide (xv = tv)) false)) true (pkb (decide (howL tk = [46])) (decide (tv ∈ fldR blN xv)) false) = pass1 ⟨ta, tv, tk⟩ ⟨xn, xv⟩ := by
  rw [pkb_or, pkb_or, pkb_and, pkb_and]
  unfold pass1
  dsimp only
  by_cases h1 : tk = 1
  · subst h1; simp [howL]
  · by_cases h2 : tk = 2
    · subst h2; simp [howL]
    · simp [howL, h1, h2]
set_option maxHeartbeats 8000000 in
theorem rFits_ok (m : NdM) (st : StM) (hs : m.small) (ht : st.tests.length ≤ 16777216) (hfn : ∀ t ∈ st.tests, t.fine) (w : World) (hi : Im [] w m.ap (m.attrs.flatMap At.cells)) (hj : Im [] w st.p (st.tests.flatMap Tst.ref)) :
    PureC Tryd.prog 77 #[.agg ⟨st.cells⟩, .agg ⟨m.cells⟩] w (.bool (fitR st.st m.name m.attrs)) := by
  obtain ⟨n, tx, es, ap, ac, ks, kp, kc⟩ := m
  obtain ⟨-, -, hel, hsm, -⟩ := hs
  obtain ⟨sn, l, ch, sp, sc⟩ := st
  dsimp only at ht hj hi hel hsm hfn ⊢
  have hS := Sep.start w
  have hat := ref_fm l
  have hat2 := fm_len At.len es
  refine enter (l := [.agg ⟨StM.cells ⟨sn, l, ch, sp, sc⟩⟩, .agg ⟨NdM.cells ⟨n, tx, es, ap, ac, ks, kp, kc⟩⟩]) Tryd.func77 rfl Tryd.ntmps77 (by kernel_rfl) rfl ?_
  unfold NdM.cells StM.cells
  dsimp only
  refine sgo ?_
  refine sbox (v := .agg ⟨[str sn, .slice sp l.length sc, .bool ch]⟩) hS fun b2 w1 hS => ?_
  refine sgo ?_
  refine sbox (v := .agg ⟨[str n, str tx, .slice ap es.length ac, .slice kp ks.len kc]⟩) hS fun b3 w2 hS => ?_
  replace hS : Sep w w2 [pOwn b3 [str n, str tx, .slice ap es.length ac, .slice kp ks.len kc], pOwn b2 [str sn, .slice sp l.length sc, .bool ch]] := hS
  refine sgo ?_
  refine WC_cond rfl (fun hc => ?_) (fun hc => ?_)
  · have hno : fitR (⟨sn, l, ch, sp, sc⟩ : StM).st n es = false := by
      simp only [pkb_and, Bool.and_eq_true, decide_eq_true_eq] at hc
      unfold fitR StM.st
      dsimp only
      rw [decide_eq_false hc.1, decide_eq_false hc.2]; rfl
    refine sgo ?_
    (first | refine fp1 (.inl rfl) rfl rfl ?_ | refine fp2 (.inl rfl) rfl rfl rfl ?_ | refine fp3 (.inl rfl) rfl rfl rfl rfl ?_ | refine fp0 (.inr rfl) rfl ?_ | refine fp0 (.inl rfl) rfl ?_ | refine fp1 (.inr rfl) rfl rfl ?_); refine ⟨?_, by (first | exact Frm.refl _ | assumption | exact Go.Sv.Sep.frm (by assumption) | (refine Frm.trans ?_ (by assumption); first | exact Frm.refl _ | assumption))⟩; (try simp only [realB, rv_true, Nat.reduceBEq, cond_true, cond_false, entG, real_lif, updGL])
    rw [hno]
  have hres : fitR (⟨sn, l, ch, sp, sc⟩ : StM).st n es = l.all fun t => passL t es := by
    have hc2 : sn = [] ∨ sn = n := by
      rw [pkb_and] at hc
      by_cases h1 : sn = []
      · exact .inl h1
      · by_cases h2 : sn = n
        · exact .inr h2
        · simp [h1, h2] at hc
    unfold fitR StM.st
    dsimp only
    rcases hc2 with h | h
    · rw [decide_eq_true h]; simp
    · rw [decide_eq_true h]; simp
  rw [hres]
  clear hc hres
  obtain ⟨res, hres⟩ : ∃ res, res = l.all fun t => passL t es := ⟨_, rfl⟩
  rw [← hres]
  refine sgo ?_
  refine wcloop (X := Nat) (fun i => [(3, ptrAt (pb b3) 0), (21, .slice sp l.length sc), (22, int l.length), (23, int i)])
    (fun i wr => i ≤ l.length ∧ (l.drop i).all (fun t => passL t es) = res ∧ Sep w wr [pOwn b3 [str n, str tx, .slice ap es.length ac, .slice kp ks.len kc]])
    (fun i => l.length - i) 0 ⟨rfl, rfl, rfl, rfl, trivial⟩ ⟨Nat.zero_le _, hres.symm, hS.sel 2 [0]⟩ ?_
  clear hres
  repeat clear hS
  rintro i wr ρ ⟨hil, hpre, hS⟩
  refine sgo ?_
  (show WC _ _ _ _ _ _ _; first | refine WC_dec rfl (fun hc => ?_) (fun hc => ?_) | refine WC_cond rfl (fun hc => ?_) (fun hc => ?_))
  · have hlt : i < l.length := by omega
    have hx : l[i]? = some l[i] := List.getElem?_eq_getElem hlt
    have hsx := fm_seg Tst.rlen l hx
    have hpa : ∃ a, sp = some a := hj.some (by omega)
    have hfx := hfn _ (List.getElem_mem hlt)
    rw [all_drop hx] at hpre
    generalize l[i] = t at *
    obtain ⟨ta, tv, tk⟩ := t
    replace hsx : ((l.flatMap Tst.ref).drop (i * 3)).take 3 = [str ta, str tv, str (howL tk)] := hsx
    clear hc
    refine sgo ?_
    rw [hsx]
    refine salloc hS fun b6 w3 hS => ?_
    refine sgo ?_
    refine ssta (vs := [str ta, str tv, str (howL tk)]) hS 0 fun w4 hS => ?_
    replace hS : Sep w w4 [pOwn b6 [str ta, str tv, str (howL tk)], pOwn b3 [str n, str tx, .slice ap es.length ac, .slice kp ks.len kc]] := hS
    refine sgo ?_
    refine wcutj (X := Unit) (fun _ => [(3, ptrAt (pb b3) 0), (7, .bool (passL ⟨ta, tv, tk⟩ es)), (21, .slice sp l.length sc), (22, int l.length), (23, int i)])
      (fun _ wr => Sep w wr [pOwn b3 [str n, str tx, .slice ap es.length ac, .slice kp ks.len kc]]) ?_ ?_
    · obtain ⟨rs, hrs⟩ : ∃ rs, rs = passL ⟨ta, tv, tk⟩ es := ⟨_, rfl⟩
      rw [← hrs]
      refine wcloop (X := Nat) (fun j => [(3, ptrAt (pb b3) 0), (6, ptrAt (pb b6) 0), (7, .bool false), (21, .slice sp l.length sc), (22, int l.length), (23, int i), (28, .slice ap es.length ac), (29, int es.length), (30, int j)])
        (fun j wr => j ≤ es.length ∧ passL ⟨ta, tv, tk⟩ (es.drop j) = rs ∧ Sep w wr [pOwn b6 [str ta, str tv, str (howL tk)], pOwn b3 [str n, str tx, .slice ap es.length ac, .slice kp ks.len kc]])
        (fun j => es.length - j) 0 ⟨rfl, rfl, rfl, rfl, rfl, rfl, rfl, rfl, rfl, trivial⟩ ⟨Nat.zero_le _, hrs.symm, hS⟩ ?_
      clear hpre hrs hsx
      repeat clear hS
      rintro j wr2 ρ2 ⟨hjl, hpre, hS⟩
      refine sgo ?_
      (show WC _ _ _ _ _ _ _; first | refine WC_dec rfl (fun hc => ?_) (fun hc => ?_) | refine WC_cond rfl (fun hc => ?_) (fun hc => ?_))
      · have hlt2 : j < es.length := by omega
        have hx2 : es[j]? = some es[j] := List.getElem?_eq_getElem hlt2
        have hsx2 := att_at hx2
        have hpa2 : ∃ a, ap = some a := hi.some (by omega)
        have hsmx := hsm _ (List.getElem_mem hlt2)
        rw [passL_drop hx2] at hpre
        generalize es[j] = x at *
        obtain ⟨xn, xv⟩ := x
        replace hsx2 : ((es.flatMap At.cells).drop (j * 2)).take 2 = [str xn, str xv] := hsx2
        have hxv : xv.length ≤ 1048576 := hsmx.2
        dsimp only at hpre
        clear hc
        refine sgo ?_
        rw [hsx2]
        refine salloc hS fun b9 w5 hS => ?_
        refine sgo ?_
        refine ssta (vs := [str xn, str xv]) hS 0 fun w6 hS => ?_
        replace hS : Sep w w6 [pOwn b9 [str xn, str xv], pOwn b6 [str ta, str tv, str (howL tk)], pOwn b3 [str n, str tx, .slice ap es.length ac, .slice kp ks.len kc]] := hS
        refine sgo ?_
        (show WC _ _ _ _ _ _ _; first | refine WC_dec rfl (fun hc => ?_) (fun hc => ?_) | refine WC_cond rfl (fun hc => ?_) (fun hc => ?_))
        · rw [if_pos hc] at hpre
          refine sgo ?_
          refine wlcallgp (vals := [str xv, str tv]) (fun hgd => hasWord_ok xv tv (hfx ?_) (by omega) _) fun w7 hf7 => ?_
          · rw [Bool.and_eq_true] at hgd
            exact (how2 tk).1 (by simpa using hgd.2)
          · replace hS := hS.grow hf7
            have hval : pkb (pkb (decide (howL tk = [])) true (pkb (decide (howL tk = [61])) (decide (xv = tv)) false)) true (pkb (decide (howL tk = [46])) (decide (tv ∈ fldR blN xv)) false) = rs := by
              rw [← hpre]; exact how_pass ta tv xn xv tk
            generalize fldR blN xv = L at *
            rw [← hval]
            refine sgo ?_
            exact ⟨(), ⟨rfl, rfl, rfl, rfl, rfl, trivial⟩, hS.sel 3 [2]⟩
        · rw [if_neg hc] at hpre
          refine sgo ?_
          exact ⟨j + 1, ⟨rfl, rfl, rfl, rfl, rfl, rfl, rfl, rfl, rfl, trivial⟩, ⟨hlt2, hpre, hS.sel 3 [1, 2]⟩, by omega⟩
      · obtain rfl : j = es.length := by omega
        rw [List.drop_eq_nil_of_le (Nat.le_refl _)] at hpre
        rw [← hpre]
        refine sgo ?_
        exact ⟨(), ⟨rfl, rfl, rfl, rfl, rfl, trivial⟩, hS.sel 2 [1]⟩
    · repeat clear hS
      rintro _ w5 ρ3 hS
      refine sgo ?_
      cases hp : passL ⟨ta, tv, tk⟩ es with
      | false =>
        rw [hp, Bool.false_and] at hpre
        refine sgo ?_
        (first | refine fp1 (.inl rfl) rfl rfl ?_ | refine fp2 (.inl rfl) rfl rfl rfl ?_ | refine fp3 (.inl rfl) rfl rfl rfl rfl ?_ | refine fp0 (.inr rfl) rfl ?_ | refine fp0 (.inl rfl) rfl ?_ | refine fp1 (.inr rfl) rfl rfl ?_); refine ⟨?_, by (first | exact Frm.refl _ | assumption | exact Go.Sv.Sep.frm (by assumption) | (refine Frm.trans ?_ (by assumption); first | exact Frm.refl _ | assumption))⟩; (try simp only [realB, rv_true, Nat.reduceBEq, cond_true, cond_false, entG, real_lif, updGL])
        rw [← hpre]
      | true =>
        rw [hp, Bool.true_and] at hpre
        refine sgo ?_
        exact ⟨i + 1, ⟨rfl, rfl, rfl, rfl, trivial⟩, ⟨hlt, hpre, hS⟩, by omega⟩
  · obtain rfl : i = l.length := by omega
    rw [List.drop_eq_nil_of_le (Nat.le_refl _)] at hpre
    refine sgo ?_
    (first | refine fp1 (.inl rfl) rfl rfl ?_ | refine fp2 (.inl rfl) rfl rfl rfl ?_ | refine fp3 (.inl rfl) rfl rfl rfl rfl ?_ | refine fp0 (.inr rfl) rfl ?_ | refine fp0 (.inl rfl) rfl ?_ | refine fp1 (.inr rfl) rfl rfl ?_); refine ⟨?_, by (first | exact Frm.refl _ | assumption | exact Go.Sv.Sep.frm (by assumption) | (refine Frm.trans ?_ (by assumption); first | exact Frm.refl _ | assumption))⟩; (try simp only [realB, rv_true, Nat.reduceBEq, cond_true, cond_false, entG, real_lif, updGL])
    rw [← hpre]; rfl
end Go.Proofs.YtcdogceabkpnmaaDoor

/-
  Lines of tokens, read: plain laws.
-/
set_option linter.unusedSimpArgs false
set_option linter.unusedVariables false
set_option linter.unnecessarySimpa false
namespace Go.Proofs.YtcdogceabkpnmaaDoor
open Go Go.Sv Go.RowKit

/-- behind a first mark: the text up to the next, and the rest -/
def unqR : List UInt8 → List UInt8 → Option (List UInt8 × List UInt8)
  | [], _ => none
  | c :: l, acc =>
    if c.toNat = 34 then some (acc, l)
    else if c.toNat = 9 then none
    else if c.toNat = 92 then
      match l with
      | [] => none
      | d :: l' => if d.toNat = 110 then unqR l' (acc ++ [10]) else if d.toNat = 116 then unqR l' (acc ++ [9]) else if d.toNat = 34 ∨ d.toNat = 92 then unqR l' (acc ++ [d]) else none
    else unqR l (acc ++ [c])
theorem unqR_cons (c : UInt8) (l acc : List UInt8) : unqR (c :: l) acc =
    if c.toNat = 34 then some (acc, l)
    else if c.toNat = 9 then none
    else if c.toNat = 92 then
      match l with
      | [] => none
      | d :: l' => if d.toNat = 110 then unqR l' (acc ++ [10]) else if d.toNat = 116 then unqR l' (acc ++ [9]) else if d.toNat = 34 ∨ d.toNat = 92 then unqR l' (acc ++ [d]) else none
    else unqR l (acc ++ [c]) := by
  cases l <;> rfl
/-- a quoted text at the front -/
def qtxR : List UInt8 → Option (List UInt8 × List UInt8)
  | [] => none
  | c :: l => if c.toNat = 34 then unqR l [] else none
theorem unqR_suf : ∀ (n : Nat) (l acc : List UInt8) (t r : List UInt8), l.length ≤ n → unqR l acc = some (t, r) → r <:+ l ∧ r.length < l.length ∧ t.length + r.length + 1 ≤ acc.length + l.length
  | n, [], acc, t, r, hn, h => by simp [unqR] at h
  | 0, c :: l, acc, t, r, hn, h => by simp at hn
  | n + 1, c :: l, acc, t, r, hn, h => by
    simp only [List.length_cons] at hn
    rw [unqR_cons] at h
    split at h
    · injection h with h; injection h with h1 h2
      subst h1 h2
      exact ⟨List.suffix_cons _ _, by simp, by simp; omega⟩
    split at h
    · cases h
    split at h
    · cases l with
      | nil => cases h
      | cons d l' =>
        simp only [List.length_cons] at hn
        have key : ∀ x : UInt8, unqR l' (acc ++ [x]) = some (t, r) → r <:+ c :: d :: l' ∧ r.length < (c :: d :: l').length ∧ t.length + r.length + 1 ≤ acc.length + (c :: d :: l').length := fun x hx => by
          obtain ⟨h1, h2, h3⟩ := unqR_suf n l' _ t r (by omega) hx
          simp only [List.length_append, List.length_cons, List.length_nil] at h3 ⊢
          exact ⟨h1.trans ((List.suffix_cons d l').trans (List.suffix_cons c _)), by omega, by omega⟩
        dsimp only at h
        split at h
        · exact key _ h
        split at h
        · exact key _ h
        split at h
        · exact key _ h
        · cases h
    · obtain ⟨h1, h2, h3⟩ := unqR_suf n l _ t r (by omega) h
      simp only [List.length_append, List.length_cons, List.length_nil] at h3 ⊢
      exact ⟨h1.trans (List.suffix_cons c l), by omega, by omega⟩
theorem textR_suf {s t r : List UInt8} (h : qtxR s = some (t, r)) : r <:+ s ∧ r.length < s.length ∧ t.length + r.length + 2 ≤ s.length := by
  cases s with
  | nil => cases h
  | cons c l =>
    by_cases hc : c.toNat = 34
    · rw [qtxR, if_pos hc] at h
      obtain ⟨h1, h2, h3⟩ := unqR_suf l.length l [] t r (Nat.le_refl _) h
      simp only [List.length_nil, List.length_cons] at h3 ⊢
      exact ⟨h1.trans (List.suffix_cons c l), by omega, by omega⟩
    · rw [qtxR, if_neg hc] at h
      cases h
/-- one attribute at the front: a blank, its name, =, its value -/
def at1R (s : List UInt8) : Option (At × List UInt8) :=
  match qtxR (s.drop 1) with
  | none => none
  | some (n, r) => if r.take 1 = [61] then (match qtxR (r.drop 1) with | none => none | some (v, r2) => some (⟨n, v⟩, r2)) else none
theorem at1R_suf {s r : List UInt8} {a : At} (h : at1R s = some (a, r)) : r <:+ s ∧ r.length < s.length ∧ a.n.length + a.v.length + r.length + 4 ≤ s.length := by
  unfold at1R at h
  cases h1 : qtxR (s.drop 1) with
  | none => rw [h1] at h; cases h
  | some x =>
    obtain ⟨n, r1⟩ := x
    rw [h1] at h
    dsimp only at h
    split at h
    · cases h2 : qtxR (r1.drop 1) with
      | none => rw [h2] at h; cases h
      | some y =>
        obtain ⟨v, r2⟩ := y
        rw [h2] at h
        injection h with h; injection h with h3 h4
        subst h3 h4
        obtain ⟨a1, a2, a3⟩ := textR_suf h1
        obtain ⟨b1, b2, b3⟩ := textR_suf h2
        rw [List.length_drop] at a2 a3 b2 b3
        exact ⟨b1.trans ((List.drop_suffix 1 _).trans (a1.trans (List.drop_suffix 1 _))), by omega, by dsimp only; omega⟩
    · cases h
/-- attributes at the front, as many as there are -/
def atsR (s : List UInt8) (acc : List At) : Option (List At × List UInt8) :=
  if s.take 2 = [32, 34] then
    match h : at1R s with
    | none => none
    | some (a, r) =>
      have := (at1R_suf h).2.1
      atsR r (acc ++ [a])
  else some (acc, s)
termination_by s.length
/-- the name or the text that a kind has -/
def headT (k : Nat) (s : List UInt8) : Option (List UInt8 × List UInt8 × List UInt8) :=
  if k = 4 then some ([], [], s)
  else if s.take 1 = [32] then
    match qtxR (s.drop 1) with
    | none => none
    | some (x, r) => if k = 1 ∨ k = 2 then some (x, [], r) else some ([], x, r)
  else none
/-- behind the kind's word -/
def tokR (k : Nat) (s : List UInt8) : Option Tok :=
  match headT k s with
  | none => none
  | some (nm, tx, r) =>
    match atsR r [] with
    | none => none
    | some (es, r2) => if (r2 = [] ∨ r2 = [32, 47]) ∧ mayR ⟨k, nm, tx, es, decide (r2 = [32, 47]), 0, 0, 0⟩ = true then some ⟨k, nm, tx, es, decide (r2 = [32, 47]), 0, 0, 0⟩ else none
def wordsL : List (List UInt8) := [wText, wStart, wEnd, wComment, wDoctype]
def readF : Nat → List (List UInt8) → List UInt8 → Option Tok
  | _, [], _ => none
  | k, x :: ws, s => if x.isPrefixOf s = true then tokR k (s.drop x.length) else readF (k + 1) ws s
/-- a line, read -/
def readR (s : List UInt8) : Option Tok := readF 0 wordsL s
/-! ## lines -/
def linesG : List UInt8 → List UInt8 → List (List UInt8)
  | [], cur => if cur = [] then [] else [cur]
  | c :: l, cur => if c.toNat = 10 then cur :: linesG l [] else linesG l (cur ++ [c])
/-- a text's lines; a last one may lack its end -/
def linesR (s : List UInt8) : List (List UInt8) := linesG s []
/-- the tokens of lines, or the number of the first that is none -/
def parseF : Nat → List (List UInt8) → List Tok → List Tok × Nat
  | _, [], acc => (acc, 0)
  | n, x :: ls, acc => match readR x with | none => ([], n) | some t => parseF (n + 1) ls (acc ++ [t])
def parseR (s : List UInt8) : List Tok × Nat := parseF 1 (linesR s) []
end Go.Proofs.YtcdogceabkpnmaaDoor

/-
  Lines of tokens, read back: plain laws.
-/
set_option linter.unusedSimpArgs false
set_option linter.unusedVariables false
set_option linter.unnecessarySimpa false
namespace Go.Proofs.YtcdogceabkpnmaaDoor
open Go Go.Sv Go.RowKit

def zeroT (t : Tok) : Tok := { t with a := 0, b := 0, d := 0 }
end Go.Proofs.YtcdogceabkpnmaaDoor

/-
  Events as lines, and read back: plain laws.
-/
set_option linter.unusedSimpArgs false
set_option linter.unusedVariables false
set_option linter.unnecessarySimpa false
namespace Go.Proofs.YtcdogceabkpnmaaDoor
open Go Go.Sv Go.RowKit

/-- a line's first word, and that of the token that is printed like it -/
def ew0 (k : Int) : List UInt8 := if k = 0 then [116, 101, 120, 116] else if k = 1 then [111, 112, 101, 110] else if k = 2 then [99, 108, 111, 115, 101] else [118, 111, 105, 100]
def ew1 (k : Int) : List UInt8 := if k = 0 then wText else if k = 2 then wEnd else wStart
def evTok (e : Ev) : Tok := if e.kind = 0 then ⟨0, [], e.text, [], false, 0, 0, 0⟩ else if e.kind = 2 then e.close else e.start
/-- an event that may be, as a line -/
def evLine (e : Ev) : List UInt8 := ew0 e.kind ++ (lineR (evTok e)).drop (ew1 e.kind).length
/-- what lies ahead of the first blank, and behind it -/
def cutB : List UInt8 → List UInt8 × List UInt8
  | [] => ([], [])
  | c :: l => if c.toNat = 32 then ([], l) else (c :: (cutB l).1, (cutB l).2)
def evWord (w : List UInt8) : Option Nat := (List.range 4).find? fun k => decide (ew0 k = w)
/-- the event of a line -/
def evRead (s : List UInt8) : Option Ev :=
  match evWord (cutB s).1 with
  | none => none
  | some k =>
    match parseR (ew1 k ++ 32 :: (cutB s).2) with
    | ([t], 0) => if (t.self = false ∧ evR ⟨k, t.name, t.text, t.attrs⟩ = true) ∧ (cutB s).2.all (fun c => !decide (c.toNat = 10)) = true then some ⟨k, t.name, t.text, t.attrs⟩ else none
    | _ => none
end Go.Proofs.YtcdogceabkpnmaaDoor

/-
  strings.Cut at a line's end; a text's lines, cut one by one.
-/
set_option linter.unusedSimpArgs false
set_option linter.unusedVariables false
set_option linter.unnecessarySimpa false
namespace Go.Proofs.YtcdogceabkpnmaaDoor
open Go Go.Sv Go.RowKit

/-- what lies ahead of the first line's end, behind it, and whether there is one -/
def cutN : List UInt8 → List UInt8 × List UInt8 × Bool
  | [] => ([], [], false)
  | c :: l => if c.toNat = 10 then ([], l, true) else (c :: (cutN l).1, (cutN l).2)
def cutV (s : List UInt8) : Value := .tuple #[str (cutN s).1, str (cutN s).2.1, .bool (cutN s).2.2]












































end Go.Proofs.YtcdogceabkpnmaaDoor

/-
  strings.Split at a byte, as a law of lists; a text's lines.
-/
set_option linter.unusedSimpArgs false
set_option linter.unusedVariables false
set_option linter.unnecessarySimpa false
namespace Go.Sv
open Go Go.RowKit
/-- the pieces of a text between bytes -/
def spR (s : List UInt8) (c : UInt8) : List (List UInt8) := (Lib.splitB ⟨#[c]⟩ 0 (Lib.countB ⟨s.toArray⟩ ⟨#[c]⟩) ⟨s.toArray⟩).map fun x => x.data.toList
end Go.Sv
namespace Go.Proofs.YtcdogceabkpnmaaDoor
open Go Go.Sv Go.RowKit

end Go.Proofs.YtcdogceabkpnmaaDoor

/-
  Events as lines, many, and read back; what closes events: plain laws.
-/
set_option linter.unusedSimpArgs false
set_option linter.unusedVariables false
set_option linter.unnecessarySimpa false
namespace Go.Proofs.YtcdogceabkpnmaaDoor
open Go Go.Sv Go.RowKit

def evLn (e : Ev) : List UInt8 := evLine e ++ [10]
def evLns (l : List Ev) : List UInt8 := l.flatMap evLn
def evPF : Nat → List (List UInt8) → List Ev → List Ev × Nat
  | _, [], acc => (acc, 0)
  | n, x :: ls, acc => match evRead x with | none => ([], n) | some e => evPF (n + 1) ls (acc ++ [e])
/-- the events of lines, and the number of the first line that is wrong -/
def evPR (s : List UInt8) : List Ev × Nat := evPF 1 (linesR s) []
end Go.Proofs.YtcdogceabkpnmaaDoor

/-
  Ranges over maps that the loop leaves alone.
-/
set_option linter.unusedSimpArgs false
set_option linter.unusedVariables false
set_option linter.unnecessarySimpa false
namespace Go.Sv
open Go Go.RowKit

/-- a range over the map in block m, its iterator in block r: these entries are still to come, in whatever order -/
def MIt (w : World) (r m : Nat) (left : List (Value × Value)) : Prop :=
  ∃ es since seen c0 clock, w.heap[r]? = some (.mapIter (some m) since seen c0) ∧ w.heap[m]? = some (.map es clock) ∧ (∀ x ∈ es.toList, x.born < since) ∧ since ≤ c0 ∧ (es.toList.map (·.born)).Nodup ∧ since ≤ clock ∧
    (leftOf es seen).toList.map (fun e => (e.key, e.val)) = left
section
variable {P : Program} {n : Nat} {ds : Ctx} {ops : Array Oper} {Q : Exit → Ctx → Env → World → Prop} {rest : List Oper} {σ : GE} {w w' : World} {d r m : Nat} {t k e ty : TypeId} {pos : String} {af : Array Edge} {x : Operand} {left : List (Value × Value)} {M : List Nat}
theorem MIt.lt (h : MIt w r m left) : r < w.heap.size ∧ m < w.heap.size := by
  obtain ⟨es, since, seen, c0, clock, h1, h2, _⟩ := h
  exact ⟨(Array.getElem?_eq_some_iff.1 h1).1, (Array.getElem?_eq_some_iff.1 h2).1⟩
theorem MIt.le (h : MIt w r m left) (hl : Le M w w') (hr : r ∉ M) (hm : m ∉ M) : MIt w' r m left := by
  obtain ⟨l1, l2⟩ := h.lt
  obtain ⟨es, since, seen, c0, clock, h1, h2, h3⟩ := h
  exact ⟨es, since, seen, c0, clock, (hl.block r l1 hr).trans h1, (hl.block m l2 hm).trans h2, h3⟩
theorem MIt.frm (h : MIt w r m left) (hf : Frm w w') : MIt w' r m left := h.le (M := []) hf.le (by simp) (by simp)
/-- the round's entry -/
def MCur (w : World) (r m : Nat) (kv : Value × Value) : Prop :=
  ∃ (es : Array MapEntry) (since : Nat) (seen : Array Nat) (clock : Nat) (e : MapEntry), w.heap[r]? = some (.mapIter (some m) since (seen.push e.born) clock) ∧ w.heap[m]? = some (.map es clock) ∧ e ∈ es.toList ∧ (es.toList.map (·.born)).Nodup ∧ (e.key, e.val) = kv
end
end Go.Sv

/-
  Maps with keys that are numbers.
-/
set_option linter.unusedSimpArgs false
set_option linter.unusedVariables false
set_option linter.unnecessarySimpa false
namespace Go.Sv
open Go Go.RowKit

def IMap (w : World) (m : Nat) (kv : List (Int × Value)) : Prop :=
  ∃ es clock, w.heap[m]? = some (.map es clock) ∧ es.toList.map (fun e => (e.key, e.val)) = kv.map (fun x => (Value.int .i64 x.1, x.2)) ∧ (∀ x ∈ es.toList, x.born < clock) ∧ (es.toList.map (·.born)).Nodup
section
variable {P : Program} {w w' : World} {m : Nat} {kv : List (Int × Value)} {s : Int}
theorem IMap.lt (h : IMap w m kv) : m < w.heap.size := by
  obtain ⟨es, cl, h, _⟩ := h
  exact (Array.getElem?_eq_some_iff.1 h).1
theorem IMap.le {M : List Nat} (h : IMap w m kv) (hl : Le M w w') (hm : m ∉ M) : IMap w' m kv := by
  have := h.lt
  obtain ⟨es, cl, h, h2⟩ := h
  exact ⟨es, cl, by rw [hl.block m this hm]; exact h, h2⟩
theorem IMap.frm (h : IMap w m kv) (hl : Frm w w') : IMap w' m kv := h.le (M := []) hl.le (by simp)
variable {σ : Env} {d : Option Tmp} {ty t t' kt vt : TypeId} {pos : String} {af : Array Edge} {g : Option (Nat × Bool)} {x y z : Operand} {zv : Value} {size bytes : Nat} {k : IntKind}
end
section
variable {P : Program} {n : Nat} {ds : Ctx} {ops : Array Oper} {Q : Exit → Ctx → Env → World → Prop} {rest : List Oper} {σ : GE} {w : World} {v : Value} {d m : Nat} {ty t kt vt : TypeId} {pos : String} {af : Array Edge} {x y z : Operand} {kv : List (Int × Value)} {s : Int} {k : IntKind} {zv : Value} {size bytes : Nat}
end
def pIMap (m : Nat) (kv : List (Int × Value)) : Plot where
  foot := [m]
  ok w := IMap w m kv
  view := (none, [])
  loc _ _ h hb := by
    obtain ⟨es, cl, h1, h2⟩ := h
    exact ⟨es, cl, (hb m (by simp)).trans h1, h2⟩
  lt _ h x hx := by rw [List.mem_singleton.1 hx]; exact h.lt
  sg _ _ := .inl rfl
/-- a map that is ranged over, and the range -/
def pMIt (r m : Nat) (left : List (Value × Value)) : Plot where
  foot := [r, m]
  ok w := MIt w r m left
  view := (none, [])
  loc _ _ h hb := by
    obtain ⟨es, since, seen, c0, clock, h1, h2, h3⟩ := h
    exact ⟨es, since, seen, c0, clock, (hb r (by simp)).trans h1, (hb m (by simp)).trans h2, h3⟩
  lt _ h x hx := by
    simp only [List.mem_cons, List.not_mem_nil, or_false] at hx
    rcases hx with rfl | rfl
    · exact h.lt.1
    · exact h.lt.2
  sg _ _ := .inl rfl
end Go.Sv

