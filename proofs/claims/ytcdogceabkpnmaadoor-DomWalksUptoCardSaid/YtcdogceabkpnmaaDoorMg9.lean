/-
  Our texts SvDmB, SvDm, SvDn, SvEvZ, SvDp, SvDq, SvDs, joined.
-/
import Derived.Test.YtcdogceabkpnmaaDoorMg8
/-
  Trees as events, and folded again: the plain part (chapter 21).
-/
set_option linter.unusedSimpArgs false
set_option linter.unusedVariables false
set_option linter.unnecessarySimpa false
namespace Go.Proofs.YtcdogceabkpnmaaDoor
open Go Go.Sv Go.RowKit
/-- the events that build trees -/
def Fo.events : Fo → List Ev
  | .nil => []
  | .cons n t es ks r =>
    (if n = [] then [⟨0, [], t, []⟩] else if voidR n then [⟨3, n, [], es⟩] else ⟨1, n, [], es⟩ :: ks.events ++ [⟨2, n, [], []⟩]) ++ r.events
/-- may trees be? (what of it matters here) -/
def Fo.plain : Fo → Prop
  | .nil => True
  | .cons n t es ks r => (if n = [] then t ≠ [] ∧ es = [] ∧ ks = .nil else t = [] ∧ ks.plain ∧ (voidR n = true → ks = .nil)) ∧ r.plain
end Go.Proofs.YtcdogceabkpnmaaDoor

/-
  Chapter 21: dom.Events, sieveref21.Events, sameEvents.
-/
set_option linter.unusedSimpArgs false
set_option linter.unusedVariables false
set_option linter.unnecessarySimpa false
namespace Go.Proofs.YtcdogceabkpnmaaDoor
open Go Go.Sv Go.RowKit
def ndEvs (m : Nd) : List Ev := if m.name = [] then [⟨0, [], m.text, []⟩] else if voidR m.name then [⟨3, m.name, [], m.attrs⟩] else ⟨1, m.name, [], m.attrs⟩ :: m.kids.events ++ [⟨2, m.name, [], []⟩]
theorem events_of (l : List Nd) : (Fo.of l).events = l.flatMap ndEvs := by
  induction l with
  | nil => rfl
  | cons m l ih => simp only [Fo.of, Fo.events, ih, List.flatMap_cons, ndEvs]
def evT (f : FoM) (i : Nat) : List Ev := (ndT f i).flatMap ndEvs
theorem evT_all (f : FoM) : evT f f.len = f.fo.events := by rw [evT, ndT_all, fo_list, events_of]
theorem evT_succ {f : FoM} {i : Nat} {m : NdM} (h : f.list[i]? = some m) : evT f (i + 1) = evT f i ++ ndEvs m.nd := by
  unfold evT; rw [ndT_succ h]; simp
theorem ev_wt (f : FoM) : f.fo.events.length ≤ f.wt := by
  induction f with
  | nil => exact Nat.le_refl _
  | cons n t es ap ac ks kp kc r ih1 ih2 =>
    simp only [FoM.fo, Fo.events, FoM.wt, List.length_append]
    split
    · simp; omega
    · split <;> simp <;> omega
theorem evT_le (f : FoM) (i : Nat) : (evT f i).length ≤ f.wt := by
  have h1 := sum_take_le (fun m : Nd => (ndEvs m).length) (f.list.map NdM.nd) i
  have h2 := congrArg List.length (evT_all f)
  have h3 := ev_wt f
  unfold evT ndT at *
  rw [List.take_of_length_le (i := f.len) (by rw [List.length_map]; exact Nat.le_refl _)] at h2
  rw [List.length_flatMap] at h2 ⊢
  omega
theorem ev_wtF (f : Fo) : f.events.length ≤ f.wt := by
  induction f with
  | nil => exact Nat.le_refl _
  | cons n t es ks r ih1 ih2 =>
    simp only [Fo.events, Fo.wt, List.length_append]
    split
    · simp; omega
    · split <;> simp <;> omega
theorem ndEvs_w (x : Nd) : (ndEvs x).length ≤ nW x := by
  unfold ndEvs nW
  have := ev_wtF x.kids
  split
  · simp; omega
  · split <;> simp <;> omega
theorem evT_pre {f : FoM} {i : Nat} {m : NdM} (h : f.list[i]? = some m) : (evT f i).length + m.kids.wt + 4 ≤ f.wt := by
  have := pre_wt h (fun x => (ndEvs x).length) ndEvs_w
  have e : (evT f i).length = ((ndT f i).map fun x => (ndEvs x).length).sum := by unfold evT; rw [List.length_flatMap]
  rw [e]
  unfold nW at this
  have e2 : m.nd.kids.wt = m.kids.wt := by rw [wt_fo]; rfl
  omega
/-- an event put behind others, its row to theirs -/
theorem Sep.putEv {w0 w : World} {cs : List Plot} {m : EvM} {ns : List EvM} {b : Nat} {vs : List Value} {q : Option Addr} {cc : Nat} (h : Sep w0 w (pOwn b vs :: pRow 2 m.p m.e.attrs.length m.c (m.e.attrs.flatMap At.cells) :: pRow 4 q (ns.length + 1) cc (ns.flatMap EvM.cells ++ m.cells) :: pMany (ns.map EvM.row) :: cs)) :
    Sep w0 w (pRow 4 q (ns ++ [m]).length cc ((ns ++ [m]).flatMap EvM.cells) :: pMany ((ns ++ [m]).map EvM.row) :: cs) := by
  have h1 := ((h.sel 4 [1, 3, 2]).more).front 1 rfl
  rw [evs_flat] at h1
  rw [List.length_append, List.map_append]
  exact h1
/-- .. that has no attributes -/
theorem Sep.putEv0 {w0 w : World} {cs : List Plot} {m : EvM} {ns : List EvM} {b : Nat} {vs : List Value} {q : Option Addr} {cc : Nat} (hm : m.p = none ∧ m.e.attrs = [] ∧ m.c = 0) (h : Sep w0 w (pOwn b vs :: pRow 4 q (ns.length + 1) cc (ns.flatMap EvM.cells ++ m.cells) :: pMany (ns.map EvM.row) :: cs)) :
    Sep w0 w (pRow 4 q (ns ++ [m]).length cc ((ns ++ [m]).flatMap EvM.cells) :: pMany ((ns ++ [m]).map EvM.row) :: cs) := by
  have h1 := h.push (c := pRow 2 none 0 0 []) (Frm.refl _) (Row.nil _ 2) (rb_nil _)
  refine Sep.putEv (b := b) (vs := vs) ?_
  rw [hm.1, hm.2.1, hm.2.2]
  exact h1.sel 4 [1, 0, 2, 3]
set_option maxHeartbeats 8000000 in
theorem domEvents1_ok : ∀ (k : Nat) (f : FoM) (p : Option Addr) (c : Nat), f.size < k → f.wt ≤ 1048576 → ∀ (ns : List EvM) (q : Option Addr) (cc : Nat), ns.length ≤ 2097152 → ∀ (w0 w : World) (cs : List Plot), Sep w0 w (pRow 4 q ns.length cc (ns.flatMap EvM.cells) :: pMany (ns.map EvM.row) :: cs) → Asc w0 → Tre w0 p f →
    ns.length + f.wt ≤ 2097152 →
    CallsR Tryd.prog 46 #[.slice q ns.length cc, .slice p f.len c] w fun v w' => ∃ (q2 : Option Addr) (c2 : Nat) (ms : List EvM), v = .slice q2 ms.length c2 ∧ evs ms = evs ns ++ f.fo.events ∧ Sep w0 w' (pRow 4 q2 ms.length c2 (ms.flatMap EvM.cells) :: pMany (ms.map EvM.row) :: cs) := by
  intro k
  induction k with
  | zero => intro f p c hk; omega
  | succ k ih =>
    intro f p c hk hw ns0 q cc hns w0 w cs hS hA hT hnw
    have hlw := FoM.len_wt f
    have hew := ev_wt f
    refine enter (l := [.slice q ns0.length cc, .slice p f.len c]) Tryd.func46 rfl Tryd.ntmps46 (by kernel_rfl) rfl ?_
    refine sgo ?_
    refine wcloop (X := Nat × Option Addr × Nat × List EvM) (fun x => [(0, .slice x.2.1 x.2.2.2.length x.2.2.1), (8, .slice p f.len c), (9, int f.len), (10, int x.1)])
      (fun x wr => x.1 ≤ f.len ∧ evs x.2.2.2 = evs ns0 ++ evT f x.1 ∧ Sep w0 wr (pRow 4 x.2.1 x.2.2.2.length x.2.2.1 (x.2.2.2.flatMap EvM.cells) :: pMany (x.2.2.2.map EvM.row) :: cs)) (fun x => f.len - x.1) (0, q, cc, ns0)
      ⟨rfl, rfl, rfl, rfl, trivial⟩ ⟨Nat.zero_le _, (List.append_nil _).symm, hS⟩ ?_
    clear hS
    rintro ⟨i, q, cc, ns⟩ wr ρ ⟨hil, hev, hS⟩
    dsimp only at *
    have hdl := evT_le f i
    have hnl : ns.length = ns0.length + (evT f i).length := by rw [← evs_len ns, hev, List.length_append, evs_len]
    refine sgo ?_
    (show WC _ _ _ _ _ _ _; first | refine WC_dec rfl (fun hc => ?_) (fun hc => ?_) | refine WC_cond rfl (fun hc => ?_) (fun hc => ?_))
    · have hlt : i < f.len := by omega
      have hTw := hT.frm hS.frm
      have hIm := hTw.im
      obtain ⟨m, hx, hm, hseg, hfl, hps, hat, hkT⟩ := tre_at hT hlt
      have hsn := evT_succ hx
      have hsz := FoM.size_mem hm
      have hwm := FoM.wt_mem hm
      have hdl2 := evT_le f (i + 1)
      have hsm := nd_small hw hm
      have hes := hsm.attrs
      have hl1 := fm_len At.len m.attrs
      have hkew := ev_wt m.kids
      have hih := fun w' q2 c2 (ms : List EvM) (cs' : List Plot) h1 h2 h3 => ih m.kids m.kp m.kc (by omega) hsm.kids ms q2 c2 h1 w0 w' cs' h2 hA hkT h3
      have hit : evT f i ++ ndEvs m.nd = evT f (i + 1) := hsn.symm
      have hwi := evT_pre hx
      obtain ⟨n, t, es, ap, ac, ks, kp, kc⟩ := m
      dsimp only [NdM.nd, ndEvs] at hsn hat hes hl1 hkew hih hwm hwi
      clear hc hit
      refine sgo ?_
      rw [hseg]
      refine salloc hS fun b5 w5 hS => ?_
      refine sgo ?_
      refine ssta (vs := [str n, str t, .slice ap es.length ac, .slice kp ks.len kc]) hS 0 fun w6 hS => ?_
      replace hS : Sep w0 w6 (pOwn b5 [str n, str t, .slice ap es.length ac, .slice kp ks.len kc] :: pRow 4 q ns.length cc (ns.flatMap EvM.cells) :: pMany (ns.map EvM.row) :: cs) := hS
      refine sgo ?_
      refine sapp0 hS (hat.sep hS).sg (fun q2 c2 w7 hS => ?_) (hl := by omega) (h1 := att_one es)
      refine sgo ?_
      refine wlbuild (cells := [str n, str t, .slice ap es.length ac, .slice kp ks.len kc]) ?_
      refine wlpure (oneText_ok n (str t) (.slice ap es.length ac) (.slice kp ks.len kc) _) fun w8 hf8 => ?_
      replace hS := hS.grow hf8
      refine sgo ?_
      by_cases hn : n = []
      · rw [if_pos hn] at hsn
        refine wcyes ?_ (ht := by simp [hn])
        refine sgo ?_
        refine wlbuild (cells := EvM.cells ⟨⟨0, [], t, []⟩, none, 0⟩) ?_
        refine sb1a (vs := EvM.cells ⟨⟨0, [], t, []⟩, none, 0⟩) hS fun b12 w9 hS => ?_
        refine sgo ?_
        refine sapp hS 3 (hS.own 0 rfl).sg (fun q4 c4 w10 hS => ?_) (h1 := ev_one _ _ _)
        refine sgo ?_
        refine ⟨(i + 1, q4, c4, ns ++ [⟨⟨0, [], t, []⟩, none, 0⟩]), ⟨by dsimp only; rw [List.length_append]; rfl, rfl, rfl, rfl, trivial⟩, ⟨hlt, ?_, Sep.putEv0 (b := b12) ⟨rfl, rfl, rfl⟩ (hS.sel 5 [0, 3, 4])⟩, (by (try dsimp only); omega)⟩
        dsimp only; rw [hsn, evs_snoc, hev, List.append_assoc]
      · rw [if_neg hn] at hsn
        refine wcno ?_ (ht := by simp [hn])
        refine sgo ?_
        refine wlbuild (cells := [str n, str t, .slice ap es.length ac, .slice kp ks.len kc]) ?_
        refine wlpure (oneVoid_ok n (str t) (.slice ap es.length ac) (.slice kp ks.len kc) _ (hA.frm hS.frm)) fun w9 hf9 => ?_
        replace hS := hS.grow hf9
        refine sgo ?_
        by_cases hv : voidR n = true
        · rw [if_pos hv] at hsn
          rw [hv]
          refine sgo ?_
          refine wlbuild (cells := EvM.cells ⟨⟨3, n, [], es⟩, q2, c2⟩) ?_
          refine sb1a (vs := EvM.cells ⟨⟨3, n, [], es⟩, q2, c2⟩) hS fun b12 w9 hS => ?_
          refine sgo ?_
          refine sapp hS 3 (hS.own 0 rfl).sg (fun q4 c4 w10 hS => ?_) (h1 := ev_one _ _ _)
          refine sgo ?_
          refine ⟨(i + 1, q4, c4, ns ++ [⟨⟨3, n, [], es⟩, q2, c2⟩]), ⟨by dsimp only; rw [List.length_append]; rfl, rfl, rfl, rfl, trivial⟩, ⟨hlt, ?_, Sep.putEv (b := b12) (hS.sel 5 [0, 1, 3, 4])⟩, (by (try dsimp only); omega)⟩
          dsimp only; rw [hsn, evs_snoc, hev, List.append_assoc]
        · rw [if_neg hv] at hsn
          rw [show voidR n = false by simpa using hv]
          refine sgo ?_
          refine wlbuild (cells := EvM.cells ⟨⟨1, n, [], es⟩, q2, c2⟩) ?_
          refine sb1a (vs := EvM.cells ⟨⟨1, n, [], es⟩, q2, c2⟩) hS fun b12 w9 hS => ?_
          refine sgo ?_
          refine sapp hS 3 (hS.own 0 rfl).sg (fun q4 c4 w10 hS => ?_) (h1 := ev_one _ _ _)
          have hS2 := Sep.putEv (m := ⟨⟨1, n, [], es⟩, q2, c2⟩) (b := b12) (hS.sel 5 [0, 1, 3, 4, 2])
          obtain ⟨ns2, hns2⟩ : ∃ ns2, ns2 = ns ++ [(⟨⟨1, n, [], es⟩, q2, c2⟩ : EvM)] := ⟨_, rfl⟩
          have hnl2 : ns2.length = ns.length + 1 := by rw [hns2]; simp
          have hev2 : evs ns2 = evs ns0 ++ evT f i ++ [⟨1, n, [], es⟩] := by rw [hns2, evs_snoc, hev]
          rw [← hns2] at hS2
          rw [← hnl2]
          clear hS
          refine sgo ?_
          refine wlcall (hih _ q4 c4 ns2 _ (by omega) hS2 (by omega)) ?_
          rintro _ w11 ⟨q5, c5, ms, rfl, hms, hS⟩
          have hml : ms.length = ns2.length + ks.fo.events.length := by rw [← evs_len ms, hms, List.length_append, evs_len]
          refine sgo ?_
          refine wlbuild (cells := EvM.cells ⟨⟨2, n, [], []⟩, none, 0⟩) ?_
          refine sb1a (vs := EvM.cells ⟨⟨2, n, [], []⟩, none, 0⟩) hS fun b13 w12 hS => ?_
          refine sgo ?_
          refine sapp hS 1 (hS.own 0 rfl).sg (fun q6 c6 w13 hS => ?_) (h1 := ev_one _ _ _)
          refine sgo ?_
          refine ⟨(i + 1, q6, c6, ms ++ [⟨⟨2, n, [], []⟩, none, 0⟩]), ⟨by dsimp only; rw [List.length_append]; rfl, rfl, rfl, rfl, trivial⟩, ⟨hlt, ?_, Sep.putEv0 (b := b13) ⟨rfl, rfl, rfl⟩ (hS.sel 4 [0, 1, 2])⟩, (by (try dsimp only); omega)⟩
          dsimp only; rw [hsn, evs_snoc, hms, hev2]; simp
    · obtain rfl : i = f.len := by omega
      rw [evT_all] at *
      refine sgo ?_
      (first | refine fp1 (.inl rfl) rfl rfl ?_ | refine fp2 (.inl rfl) rfl rfl rfl ?_ | refine fp3 (.inl rfl) rfl rfl rfl rfl ?_ | refine fp0 (.inr rfl) rfl ?_ | refine fp0 (.inl rfl) rfl ?_ | refine fp1 (.inr rfl) rfl rfl ?_)
      exact ⟨q, cc, ns, rfl, hev, hS⟩
end Go.Proofs.YtcdogceabkpnmaaDoor

/-
  Chapter 21: sieveref21.Events, sameEvents.
-/
set_option linter.unusedSimpArgs false
set_option linter.unusedVariables false
set_option linter.unnecessarySimpa false
namespace Go.Proofs.YtcdogceabkpnmaaDoor
open Go Go.Sv Go.RowKit
theorem evs_one (ms : List EvM) : ∀ u ∈ ms.flatMap EvM.cells, u.oneCell' = true := by
  intro u hu
  obtain ⟨m, _, hm⟩ := List.mem_flatMap.1 hu
  exact ev_one _ _ _ u hm
set_option maxHeartbeats 8000000 in
theorem refEvents_ok : ∀ (k : Nat) (f : FoM) (p : Option Addr) (c : Nat), f.size < k → f.wt ≤ 1048576 → ∀ (w0 w : World) (cs : List Plot), Sep w0 w cs → Tre w0 p f →
    CallsR Tryd.prog 21 #[.slice p f.len c] w fun v w' => ∃ (q2 : Option Addr) (c2 : Nat) (ms : List EvM), v = .slice q2 ms.length c2 ∧ evs ms = f.fo.events ∧ (∀ m ∈ ms, Im [] w0 m.p (m.e.attrs.flatMap At.cells)) ∧ Sep w0 w' (pRow 4 q2 ms.length c2 (ms.flatMap EvM.cells) :: cs) := by
  intro k
  induction k with
  | zero => intro f p c hk; omega
  | succ k ih =>
    intro f p c hk hw w0 w cs hS hT
    have hlw := FoM.len_wt f
    have hew := ev_wt f
    replace hS := hS.push (c := pRow 4 none 0 0 []) (Frm.refl _) (Row.nil _ 4) (rb_nil _)
    refine enter (l := [.slice p f.len c]) Tryd.func21 rfl Tryd.ntmps21 (by kernel_rfl) rfl ?_
    refine sgo ?_
    refine wcloop (X := Nat × Option Addr × Nat × List EvM) (fun x => [(3, .slice x.2.1 x.2.2.2.length x.2.2.1), (6, .slice p f.len c), (7, int f.len), (8, int x.1)])
      (fun x wr => x.1 ≤ f.len ∧ evs x.2.2.2 = evT f x.1 ∧ (∀ m ∈ x.2.2.2, Im [] w0 m.p (m.e.attrs.flatMap At.cells)) ∧ Sep w0 wr (pRow 4 x.2.1 x.2.2.2.length x.2.2.1 (x.2.2.2.flatMap EvM.cells) :: cs)) (fun x => f.len - x.1) (0, none, 0, [])
      ⟨rfl, rfl, rfl, rfl, trivial⟩ ⟨Nat.zero_le _, rfl, (fun m hm => by cases hm), hS⟩ ?_
    clear hS
    rintro ⟨i, q, cc, ns⟩ wr ρ ⟨hil, hev, hea, hS⟩
    dsimp only at *
    have hdl := evT_le f i
    have hnl : ns.length = (evT f i).length := by rw [← evs_len ns, hev]
    refine sgo ?_
    (show WC _ _ _ _ _ _ _; first | refine WC_dec rfl (fun hc => ?_) (fun hc => ?_) | refine WC_cond rfl (fun hc => ?_) (fun hc => ?_))
    · have hlt : i < f.len := by omega
      have hTw := hT.frm hS.frm
      have hIm := hTw.im
      obtain ⟨m, hx, hm, hseg, hfl, hps, hat, hkT⟩ := tre_at hT hlt
      have hsn := evT_succ hx
      have hsz := FoM.size_mem hm
      have hwm := FoM.wt_mem hm
      have hsm := nd_small hw hm
      have hkew := ev_wt m.kids
      have hih := fun w' (cs' : List Plot) (h : Sep w0 w' cs') => ih m.kids m.kp m.kc (by omega) hsm.kids w0 w' cs' h hkT
      obtain ⟨n, t, es, ap, ac, ks, kp, kc⟩ := m
      dsimp only [NdM.nd, ndEvs] at hsn hat hkew hih hwm
      clear hc
      have hput : ∀ (ns : List EvM) (m2 : EvM) (wz : World) (b : Nat) (vs : List Value) (p' : Option Addr) (c' : Nat) (cs' : List Plot), Sep w0 wz (pOwn b vs :: pRow 4 p' (ns.length + 1) c' (ns.flatMap EvM.cells ++ m2.cells) :: cs') → Sep w0 wz (pRow 4 p' (ns ++ [m2]).length c' ((ns ++ [m2]).flatMap EvM.cells) :: cs') := by
        intro ns m2 wz b vs p' c' cs' h
        replace h := h.tail
        rw [evs_flat] at h
        rw [List.length_append]
        exact h
      have hone : ∀ (ns : List EvM) (m2 : EvM), (∀ m ∈ ns, Im [] w0 m.p (m.e.attrs.flatMap At.cells)) → Im [] w0 m2.p (m2.e.attrs.flatMap At.cells) → ∀ m ∈ ns ++ [m2], Im [] w0 m.p (m.e.attrs.flatMap At.cells) := by
        intro ns m2 h1 h2 m hm
        rcases List.mem_append.1 hm with hm | hm
        · exact h1 m hm
        · rw [List.mem_singleton.1 hm]; exact h2
      refine sgo ?_
      rw [hseg]
      refine salloc hS fun b5 w5 hS => ?_
      refine sgo ?_
      refine ssta (vs := [str n, str t, .slice ap es.length ac, .slice kp ks.len kc]) hS 0 fun w6 hS => ?_
      replace hS : Sep w0 w6 (pOwn b5 [str n, str t, .slice ap es.length ac, .slice kp ks.len kc] :: pRow 4 q ns.length cc (ns.flatMap EvM.cells) :: cs) := hS
      refine sgo ?_
      by_cases hn : n = []
      · rw [if_pos hn] at hsn
        refine wcyes ?_ (ht := by simp [hn])
        refine sgo ?_
        refine wlbuild (cells := EvM.cells ⟨⟨0, [], t, []⟩, none, 0⟩) ?_
        refine sb1a (vs := EvM.cells ⟨⟨0, [], t, []⟩, none, 0⟩) hS fun b12 w9 hS => ?_
        refine sgo ?_
        refine sapp hS 2 (hS.own 0 rfl).sg (fun q4 c4 w10 hS => ?_) (h1 := ev_one _ _ _)
        refine sgo ?_
        refine ⟨(i + 1, q4, c4, ns ++ [⟨⟨0, [], t, []⟩, none, 0⟩]), ⟨by dsimp only; rw [List.length_append]; rfl, rfl, rfl, rfl, trivial⟩, ⟨hlt, ?_, hone _ _ hea (Im.nil _ _ _), hput ns _ _ b12 _ _ _ _ (hS.sel 3 [0, 2])⟩, (by (try dsimp only); omega)⟩
        dsimp only; rw [hsn, evs_snoc, hev]
      · rw [if_neg hn] at hsn
        refine wcno ?_ (ht := by simp [hn])
        refine sgo ?_
        refine wlpure (refIn0_ok n _) fun w9 hf9 => ?_
        replace hS := hS.grow hf9
        refine sgo ?_
        by_cases hv : voidR n = true
        · rw [if_pos hv] at hsn
          rw [hv]
          refine sgo ?_
          refine wlbuild (cells := EvM.cells ⟨⟨3, n, [], es⟩, ap, ac⟩) ?_
          refine sb1a (vs := EvM.cells ⟨⟨3, n, [], es⟩, ap, ac⟩) hS fun b12 w9 hS => ?_
          refine sgo ?_
          refine sapp hS 2 (hS.own 0 rfl).sg (fun q4 c4 w10 hS => ?_) (h1 := ev_one _ _ _)
          refine sgo ?_
          refine ⟨(i + 1, q4, c4, ns ++ [⟨⟨3, n, [], es⟩, ap, ac⟩]), ⟨by dsimp only; rw [List.length_append]; rfl, rfl, rfl, rfl, trivial⟩, ⟨hlt, ?_, hone _ _ hea hat, hput ns _ _ b12 _ _ _ _ (hS.sel 3 [0, 2])⟩, (by (try dsimp only); omega)⟩
          dsimp only; rw [hsn, evs_snoc, hev]
        · rw [if_neg hv] at hsn
          rw [show voidR n = false by simpa using hv]
          refine sgo ?_
          refine wlbuild (cells := EvM.cells ⟨⟨1, n, [], es⟩, ap, ac⟩) ?_
          refine sb1a (vs := EvM.cells ⟨⟨1, n, [], es⟩, ap, ac⟩) hS fun b12 w9 hS => ?_
          refine sgo ?_
          refine sapp hS 2 (hS.own 0 rfl).sg (fun q4 c4 w10 hS => ?_) (h1 := ev_one _ _ _)
          have hS2 := hput ns ⟨⟨1, n, [], es⟩, ap, ac⟩ _ b12 _ _ _ (pOwn b5 [str n, str t, .slice ap es.length ac, .slice kp ks.len kc] :: cs) (hS.sel 3 [0, 2, 1])
          obtain ⟨ns2, hns2⟩ : ∃ ns2, ns2 = ns ++ [(⟨⟨1, n, [], es⟩, ap, ac⟩ : EvM)] := ⟨_, rfl⟩
          have hnl2 : ns2.length = ns.length + 1 := by rw [hns2]; simp
          have hev2 : evs ns2 = evT f i ++ [⟨1, n, [], es⟩] := by rw [hns2, evs_snoc, hev]
          have hea2 := hone ns ⟨⟨1, n, [], es⟩, ap, ac⟩ hea hat
          rw [← hns2] at hS2 hea2
          rw [← hnl2]
          clear hS
          have hS := hS2
          clear hS2
          refine sgo ?_
          refine wlcall (hih _ _ hS) ?_
          rintro _ w11 ⟨q5, c5, ms, rfl, hms, hma, hS⟩
          have hml : ms.length = ks.fo.events.length := by rw [← evs_len ms, hms]
          refine sgo ?_
          refine sapp hS 1 (hS.row 0 rfl).sg (fun q6 c6 w13 hS => ?_) (hl := fm_len EvM.len ms) (h1 := evs_one ms)
          have hfl3 : ns2.flatMap EvM.cells ++ ms.flatMap EvM.cells = (ns2 ++ ms).flatMap EvM.cells := by simp
          obtain ⟨ns3, hns3⟩ : ∃ ns3, ns3 = ns2 ++ ms := ⟨_, rfl⟩
          have hnl3 : ns3.length = ns2.length + ms.length := by rw [hns3]; simp
          have hev3 : evs ns3 = evT f i ++ [⟨1, n, [], es⟩] ++ ks.fo.events := by rw [hns3, evs, List.map_append]; exact congr (congrArg _ hev2) hms
          have hea3 : ∀ m ∈ ns3, Im [] w0 m.p (m.e.attrs.flatMap At.cells) := by
            intro m hm
            rw [hns3] at hm
            rcases List.mem_append.1 hm with hm | hm
            · exact hea2 m hm
            · exact hma m hm
          rw [hfl3, ← hns3, ← hnl3] at hS
          rw [← hnl3]
          replace hS : Sep w0 w13 (pRow 4 q6 ns3.length c6 (ns3.flatMap EvM.cells) :: pOwn b5 [str n, str t, .slice ap es.length ac, .slice kp ks.len kc] :: cs) := hS.sel 3 [1, 2]
          refine sgo ?_
          refine wlbuild (cells := EvM.cells ⟨⟨2, n, [], []⟩, none, 0⟩) ?_
          refine sb1a (vs := EvM.cells ⟨⟨2, n, [], []⟩, none, 0⟩) hS fun b13 w12 hS => ?_
          refine sgo ?_
          refine sapp hS 1 (hS.own 0 rfl).sg (fun q7 c7 w13 hS => ?_) (h1 := ev_one _ _ _)
          refine sgo ?_
          refine ⟨(i + 1, q7, c7, ns3 ++ [⟨⟨2, n, [], []⟩, none, 0⟩]), ⟨by dsimp only; rw [List.length_append]; rfl, rfl, rfl, rfl, trivial⟩, ⟨hlt, ?_, hone _ _ hea3 (Im.nil _ _ _), hput ns3 _ _ b13 _ _ _ _ (hS.sel 3 [0, 1])⟩, (by (try dsimp only); omega)⟩
          dsimp only; rw [hsn, evs_snoc, hev3]; simp
    · obtain rfl : i = f.len := by omega
      rw [evT_all] at *
      refine sgo ?_
      (first | refine fp1 (.inl rfl) rfl rfl ?_ | refine fp2 (.inl rfl) rfl rfl rfl ?_ | refine fp3 (.inl rfl) rfl rfl rfl rfl ?_ | refine fp0 (.inr rfl) rfl ?_ | refine fp0 (.inl rfl) rfl ?_ | refine fp1 (.inr rfl) rfl rfl ?_)
      exact ⟨q, cc, ns, rfl, hev, hea, hS⟩
theorem ev_get {ms : List EvM} {i : Nat} {m : EvM} (hx : ms[i]? = some m) : (ms.flatMap EvM.cells)[i * 4]? = some (int m.e.kind) ∧ (ms.flatMap EvM.cells)[i * 4 + 1]? = some (str m.e.name) ∧ (ms.flatMap EvM.cells)[i * 4 + 2]? = some (str m.e.text) ∧ (ms.flatMap EvM.cells)[i * 4 + 3]? = some (.slice m.p m.e.attrs.length m.c) := by
  have g0 := fm_get EvM.len ms i 0 (by decide)
  have g1 := fm_get EvM.len ms i 1 (by decide)
  have g2 := fm_get EvM.len ms i 2 (by decide)
  have g3 := fm_get EvM.len ms i 3 (by decide)
  rw [hx] at g0 g1 g2 g3
  exact ⟨g0, g1, g2, g3⟩
set_option maxHeartbeats 4000000 in
theorem sameEvents_ok (ms ns : List EvM) (p q : Option Addr) (c cc : Nat) (h1 : ms.length ≤ 1048577) (h2 : ns.length ≤ 1048577) (hs : ∀ m ∈ ms, m.e.small) (hs2 : ∀ m ∈ ns, m.e.small) (w : World) (hE : Evs w p ms) (hF : Evs w q ns) :
    PureC Tryd.prog 22 #[.slice p ms.length c, .slice q ns.length cc] w (.bool (decide (evs ms = evs ns))) := by
  refine enter (l := [.slice p ms.length c, .slice q ns.length cc]) Tryd.func22 rfl Tryd.ntmps22 (by kernel_rfl) rfl ?_
  have hS := Sep.start w
  refine sgo ?_
  (show WC _ _ _ _ _ _ _; first | refine WC_dec rfl (fun hc => ?_) (fun hc => ?_) | refine WC_cond rfl (fun hc => ?_) (fun hc => ?_))
  · have hne : evs ms ≠ evs ns := by
      intro h
      have := congrArg List.length h
      rw [evs_len, evs_len] at this
      exact hc (by rw [this])
    refine sgo ?_
    (first | refine fp1 (.inl rfl) rfl rfl ?_ | refine fp2 (.inl rfl) rfl rfl rfl ?_ | refine fp3 (.inl rfl) rfl rfl rfl rfl ?_ | refine fp0 (.inr rfl) rfl ?_ | refine fp0 (.inl rfl) rfl ?_ | refine fp1 (.inr rfl) rfl rfl ?_); refine ⟨?_, by (first | exact Frm.refl _ | assumption | exact Go.Sv.Sep.frm (by assumption) | (refine Frm.trans ?_ (by assumption); first | exact Frm.refl _ | assumption))⟩; (try simp only [realB, rv_true, Nat.reduceBEq, cond_true, cond_false, entG, real_lif, updGL])
    rw [decide_eq_false hne]
  have hle : ms.length = ns.length := by
    have : ¬ ((ms.length : Int) ≠ ns.length) := by simpa using hc
    omega
  clear hc
  refine sgo ?_
  refine wcloop (X := Nat) (fun i => [(0, .slice p ms.length c), (1, .slice q ns.length cc), (12, int ms.length), (13, int i)])
    (fun i wr => i ≤ ms.length ∧ (evs ms).take i = (evs ns).take i ∧ Sep w wr []) (fun i => ms.length - i) 0 ⟨rfl, rfl, rfl, rfl, trivial⟩ ⟨Nat.zero_le _, rfl, hS⟩ ?_
  clear hS
  rintro i wr ρ ⟨hil, hpre, hS⟩
  have hEr := hE.frm hS.frm
  have hFr := hF.frm hS.frm
  have hIm := hEr.im
  have hIn := hFr.im
  refine sgo ?_
  (show WC _ _ _ _ _ _ _; first | refine WC_dec rfl (fun hc => ?_) (fun hc => ?_) | refine WC_cond rfl (fun hc => ?_) (fun hc => ?_))
  · have hlt : i < ms.length := by omega
    have hx : ms[i]? = some ms[i] := List.getElem?_eq_getElem hlt
    have hy : ns[i]? = some ns[i] := List.getElem?_eq_getElem (by omega)
    have hat := hEr.each _ (List.getElem_mem hlt)
    have hau := hFr.each _ (List.getElem_mem (show i < ns.length by omega))
    have hsm := hs _ (List.getElem_mem hlt)
    have hsn := hs2 _ (List.getElem_mem (show i < ns.length by omega))
    have hps : ∃ q, p = some q := hIm.sg.some (by have := fm_len EvM.len ms; omega)
    have hqs : ∃ a, q = some a := hIn.sg.some (by have := fm_len EvM.len ns; omega)
    have htx : (evs ms).take (i + 1) = (evs ms).take i ++ [ms[i].e] := by rw [List.take_add_one, evs_at hx]; rfl
    have hty : (evs ns).take (i + 1) = (evs ns).take i ++ [ns[i].e] := by rw [List.take_add_one, evs_at hy]; rfl
    generalize ms[i] = m at *
    generalize ns[i] = n at *
    obtain ⟨g0, g1, g2, g3⟩ := ev_get hx
    obtain ⟨k0, k1, k2, k3⟩ := ev_get hy
    have hsa := fun w' (h : Frm wr w') => sameAttrs_ok m.e.attrs n.e.attrs m.p n.p m.c n.c hsm.attrs hsn.attrs w' (hat.frm h) (hau.frm h)
    clear hc
    obtain ⟨⟨ka, na, ta, es⟩, ap, ac⟩ := m
    obtain ⟨⟨kb, nb, tb, fs⟩, bp, bc⟩ := n
    dsimp only at *
    refine sgo ?_
    refine wcdraw ?_
    refine qgo ?_
    refine qlcallgp (vals := [.slice ap es.length ac, .slice bp fs.length bc]) (v := .bool (decide (es = fs))) (fun hg w' hw' => hsa w' hw') ?_
    refine qgo ?_
    refine QL_nil ?_; intro wd hwd
    replace hS := hS.grow hwd
    refine sgo ?_
    (show WC _ _ _ _ _ _ _; first | refine WC_dec rfl (fun hc => ?_) (fun hc => ?_) | refine WC_cond rfl (fun hc => ?_) (fun hc => ?_))
    · have hne : evs ms ≠ evs ns := by
        intro h
        rw [h] at htx
        rw [htx] at hty
        have := List.append_cancel_left hty
        simp at this
        simp [this, pkb_or] at hc
      refine sgo ?_
      (first | refine fp1 (.inl rfl) rfl rfl ?_ | refine fp2 (.inl rfl) rfl rfl rfl ?_ | refine fp3 (.inl rfl) rfl rfl rfl rfl ?_ | refine fp0 (.inr rfl) rfl ?_ | refine fp0 (.inl rfl) rfl ?_ | refine fp1 (.inr rfl) rfl rfl ?_); refine ⟨?_, by (first | exact Frm.refl _ | assumption | exact Go.Sv.Sep.frm (by assumption) | (refine Frm.trans ?_ (by assumption); first | exact Frm.refl _ | assumption))⟩; (try simp only [realB, rv_true, Nat.reduceBEq, cond_true, cond_false, entG, real_lif, updGL])
      rw [decide_eq_false hne]
    · refine sgo ?_
      refine ⟨i + 1, ⟨rfl, rfl, rfl, rfl, trivial⟩, ⟨hlt, ?_, hS⟩, (by (try dsimp only); omega)⟩
      rw [htx, hty, hpre]
      simp [pkb_or] at hc
      rw [hc.1.1.1, hc.1.1.2, hc.1.2, hc.2]
  · obtain rfl : i = ms.length := by omega
    refine sgo ?_
    (first | refine fp1 (.inl rfl) rfl rfl ?_ | refine fp2 (.inl rfl) rfl rfl rfl ?_ | refine fp3 (.inl rfl) rfl rfl rfl rfl ?_ | refine fp0 (.inr rfl) rfl ?_ | refine fp0 (.inl rfl) rfl ?_ | refine fp1 (.inr rfl) rfl rfl ?_); refine ⟨?_, by (first | exact Frm.refl _ | assumption | exact Go.Sv.Sep.frm (by assumption) | (refine Frm.trans ?_ (by assumption); first | exact Frm.refl _ | assumption))⟩; (try simp only [realB, rv_true, Nat.reduceBEq, cond_true, cond_false, entG, real_lif, updGL])
    rw [← evs_len ms, List.take_length, evs_len, hle, ← evs_len ns, List.take_length] at hpre
    rw [hpre, decide_eq_true rfl]
end Go.Proofs.YtcdogceabkpnmaaDoor

/-
  sieveref18: At.
-/
set_option linter.unusedSimpArgs false
set_option linter.unusedVariables false
set_option linter.unnecessarySimpa false
namespace Go.Proofs.YtcdogceabkpnmaaDoor
open Go Go.Sv Go.RowKit

theorem greater_ok (a b : Int) (w : World) : PureC Tryd.prog 82 #[int a, int b] w (int (max a b)) := by
  refine enter (l := [int a, int b]) Tryd.func82 rfl Tryd.ntmps82 (by kernel_rfl) rfl ?_
  refine sgo ?_
  (show WC _ _ _ _ _ _ _; first | refine WC_dec rfl (fun hc => ?_) (fun hc => ?_) | refine WC_cond rfl (fun hc => ?_) (fun hc => ?_))
  · refine sgo ?_
    (first | refine fp1 (.inl rfl) rfl rfl ?_ | refine fp2 (.inl rfl) rfl rfl rfl ?_ | refine fp3 (.inl rfl) rfl rfl rfl rfl ?_ | refine fp0 (.inr rfl) rfl ?_ | refine fp0 (.inl rfl) rfl ?_ | refine fp1 (.inr rfl) rfl rfl ?_); refine ⟨?_, by (first | exact Frm.refl _ | assumption | exact Go.Sv.Sep.frm (by assumption) | (refine Frm.trans ?_ (by assumption); first | exact Frm.refl _ | assumption))⟩; (try simp only [realB, rv_true, Nat.reduceBEq, cond_true, cond_false, entG, real_lif, updGL])
    rw [Int.max_eq_left (by omega)]
  · refine sgo ?_
    (first | refine fp1 (.inl rfl) rfl rfl ?_ | refine fp2 (.inl rfl) rfl rfl rfl ?_ | refine fp3 (.inl rfl) rfl rfl rfl rfl ?_ | refine fp0 (.inr rfl) rfl ?_ | refine fp0 (.inl rfl) rfl ?_ | refine fp1 (.inr rfl) rfl rfl ?_); refine ⟨?_, by (first | exact Frm.refl _ | assumption | exact Go.Sv.Sep.frm (by assumption) | (refine Frm.trans ?_ (by assumption); first | exact Frm.refl _ | assumption))⟩; (try simp only [realB, rv_true, Nat.reduceBEq, cond_true, cond_false, entG, real_lif, updGL])
    rw [Int.max_eq_right (by omega)]
def Lk.cells (k : Lk) (q : Option Addr) (c : Nat) : List Value := [.slice q k.stack.length c, int k.most, int k.at_, int k.err, int k.good]

theorem lk_next {k : Lk} {e : Ev} (h0 : k.err = 0) (he : evR e = true) : lkStep k e =
    if e.kind = 1 then ⟨k.stack ++ [e.name], max k.most (k.stack.length + 1), 0, 0, k.good + 1⟩
      else if e.kind = 3 then ⟨k.stack, max k.most (k.stack.length + 1), 0, 0, k.good + 1⟩
      else if e.kind = 2 then (if k.stack.getLast? = some e.name then ⟨k.stack.dropLast, k.most, 0, 0, k.good + 1⟩ else { k with at_ := k.good, err := 181 })
      else ⟨k.stack, k.most, 0, 0, k.good + 1⟩ := by
  rw [lkStep, if_pos h0, if_pos he]
set_option maxHeartbeats 2000000 in
theorem at_ok (ms : List EvM) (p : Option Addr) (c : Nat) (hn : ms.length ≤ 1048576) (hs : ∀ m ∈ ms, m.e.small) (w0 w : World) (cs : List Plot) (hS0 : Sep w0 w cs) (hE : Evs w p ms) :
    CallsR Tryd.prog 69 #[.slice p ms.length c] w fun v w' => ∃ q cc, v = .agg ⟨(lkR (evs ms)).cells q cc⟩ ∧ Frm w w' ∧ Sep w0 w' (pRow 1 q (lkR (evs ms)).stack.length cc (strs (lkR (evs ms)).stack) :: cs) := by
  have hS := Sep.start w
  refine enter (l := [.slice p ms.length c]) Tryd.func69 rfl Tryd.ntmps69 (by kernel_rfl) rfl ?_
  refine sgo ?_
  refine salloc hS fun b2 w2 hS => ?_
  refine sgo ?_
  refine salloc hS fun b3 w3 hS => ?_
  replace hS : Sep w w3 [pOwn b3 [.slice none 0 0, int 0, int 0, int 0, int 0], pOwn b2 [.slice none 0 0, int 0, int 0, int 0, int 0]] := hS
  replace hS := (hS.push (c := pRow 1 none 0 0 (strs [])) (Frm.refl w3) (Row.nil w3 1) (by simp [pRow, rb]))
  refine sgo ?_
  refine wcloop (X := Nat × Option Addr × Nat) (fun x => [(0, .slice p ms.length c), (2, ptrAt (pb b2) 0), (3, ptrAt (pb b3) 0), (7, .slice p ms.length c), (8, int ms.length), (9, int x.1)])
    (fun x wr => x.1 ≤ ms.length ∧ (lkI ms x.1).err = 0 ∧ Sep w wr [pRow 1 x.2.1 (lkI ms x.1).stack.length x.2.2 (strs (lkI ms x.1).stack), pOwn b3 [.slice x.2.1 (lkI ms x.1).stack.length x.2.2, int (lkI ms x.1).most, int 0, int 0, int 0], pOwn b2 [.slice none 0 0, int 0, int 0, int 0, int 0]])
    (fun x => ms.length - x.1) (0, none, 0) ⟨rfl, rfl, rfl, rfl, rfl, rfl, trivial⟩ ⟨Nat.zero_le _, rfl, hS⟩ ?_
  clear hS
  rintro ⟨i, q, cc⟩ wr ρ ⟨hil, herr, hS⟩
  dsimp only at *
  have hok := lkI_ok hil herr
  refine sgo ?_
  (show WC _ _ _ _ _ _ _; first | refine WC_dec rfl (fun hc => ?_) (fun hc => ?_) | refine WC_cond rfl (fun hc => ?_) (fun hc => ?_))
  · have hlt : i < ms.length := by omega
    have hx : ms[i]? = some ms[i] := List.getElem?_eq_getElem hlt
    have hmem : ms[i] ∈ ms := List.getElem_mem hlt
    have hseg := fm_seg EvM.len ms hx
    have hfl := fm_len EvM.len ms
    have hat := hE.each _ hmem
    have hsm := hs _ hmem
    have hps : ∃ a, p = some a := hE.im.sg.some (by omega)
    have hIm := hE.im
    have hsuc := lkI_succ hx
    generalize ms[i] = m at *
    generalize hk : lkI ms i = k at *
    clear hc
    obtain ⟨⟨kd, nm, tx, es⟩, mp, mc⟩ := m
    dsimp only at hsuc hat
    refine sgo ?_
    rw [hseg]
    refine salloc hS fun b5 w5 hS => ?_
    refine sgo ?_
    refine ssta (vs := [int kd, str nm, str tx, .slice mp es.length mc]) hS 0 fun w6 hS => ?_
    replace hS : Sep w w6 [pOwn b5 [int kd, str nm, str tx, .slice mp es.length mc], pRow 1 q k.stack.length cc (strs k.stack), pOwn b3 [.slice q k.stack.length cc, int k.most, int 0, int 0, int 0], pOwn b2 [.slice none 0 0, int 0, int 0, int 0, int 0]] := hS
    refine sgo ?_
    refine wlpure (refEvCheck_ok ⟨kd, nm, tx, es⟩ mp mc hsm w6 (hat.sep hS)) fun w7 hf7 => ?_
    replace hS := hS.grow hf7
    cases he : evR ⟨kd, nm, tx, es⟩ with
    | false =>
      have hst1 : lkStep k ⟨kd, nm, tx, es⟩ = { k with at_ := k.good, err := 180 } := by simp [lkStep, herr, he]
      have hend := lkI_stop (ms := ms) (i := i + 1) (by rw [hsuc, hst1]; exact (by decide : (180 : Int) ≠ 0))
      rw [hsuc, hst1] at hend
      refine sgo ?_
      refine wlbuild ?_
      refine ssta (vs := [.slice q k.stack.length cc, int k.most, int i, int 180, int i]) hS 3 fun w8 hS => ?_
      refine sgo ?_
      refine fpc (l := [.slice q k.stack.length cc, int k.most, int i, int 180, int i]) (.inl rfl) rfl rfl rfl (hS.own 3 rfl) ⟨q, cc, ?_, hS.frm, ?_⟩
      · rw [hend]; simp only [Lk.cells, hok.2.1]
      · rw [hend]; exact hS0.seq (ds := [_]) (hS.tail.sub (List.Sublist.cons_cons _ (List.nil_sublist _)))
    | true =>
      have hst1 := lk_next (e := ⟨kd, nm, tx, es⟩) herr he
      dsimp only at hst1
      refine sgo ?_
      (show WC _ _ _ _ _ _ _; first | refine WC_dec rfl (fun hc => ?_) (fun hc => ?_) | refine WC_cond rfl (fun hc => ?_) (fun hc => ?_))
      · replace hc : kd = 1 := hc
        subst hc
        rw [if_pos rfl] at hst1
        rw [hst1] at hsuc
        refine sgo ?_
        refine sb1s hS fun b9 w9 hS => ?_
        refine sgo ?_
        refine sapp hS 2 (hS.own 0 rfl).sg fun q' c' w10 hS => ?_
        rw [strs_snoc] at hS
        have hnl : k.stack.length + 1 = (k.stack ++ [nm]).length := by simp
        rw [hnl] at hS ⊢
        refine sgo ?_
        refine sst_slice hS 3 fun w11 hS => ?_
        refine sgo ?_
        refine wlpure (greater_ok _ _ _) fun w12 hf12 => ?_
        replace hS := hS.grow hf12
        have e : max (k.most : Int) ((k.stack ++ [nm]).length : Int) = ((max k.most (k.stack.length + 1) : Nat) : Int) := by rw [← hnl]; omega
        rw [e]
        refine sgo ?_
        refine sst_int hS 3 fun w13 hS => ?_
        refine sgo ?_
        refine ⟨(i + 1, q', c'), ⟨rfl, rfl, rfl, rfl, rfl, rfl, trivial⟩, ⟨hlt, by dsimp only; rw [hsuc], ?_⟩, (by (try dsimp only); omega)⟩
        dsimp only
        rw [hsuc]
        exact hS.tail.tail
      · replace hc : ¬ kd = 1 := hc
        have hk1 := hc
        clear hc
        rw [if_neg hk1] at hst1
        refine sgo ?_
        (show WC _ _ _ _ _ _ _; first | refine WC_dec rfl (fun hc => ?_) (fun hc => ?_) | refine WC_cond rfl (fun hc => ?_) (fun hc => ?_))
        · replace hc : kd = 3 := hc
          subst hc
          rw [if_pos rfl] at hst1
          rw [hst1] at hsuc
          refine sgo ?_
          refine wlpure (greater_ok _ _ _) fun w12 hf12 => ?_
          replace hS := hS.grow hf12
          have e : max (k.most : Int) ((k.stack.length : Int) + 1) = ((max k.most (k.stack.length + 1) : Nat) : Int) := by omega
          rw [e]
          refine sgo ?_
          refine sst_int hS 2 fun w13 hS => ?_
          refine sgo ?_
          refine ⟨(i + 1, q, cc), ⟨rfl, rfl, rfl, rfl, rfl, rfl, trivial⟩, ⟨hlt, by dsimp only; rw [hsuc], ?_⟩, (by (try dsimp only); omega)⟩
          dsimp only
          rw [hsuc]
          exact hS.tail
        · replace hc : ¬ kd = 3 := hc
          have hk3 := hc
          clear hc
          rw [if_neg hk3] at hst1
          refine sgo ?_
          (show WC _ _ _ _ _ _ _; first | refine WC_dec rfl (fun hc => ?_) (fun hc => ?_) | refine WC_cond rfl (fun hc => ?_) (fun hc => ?_))
          · replace hc : kd = 2 := hc
            subst hc
            rw [if_pos rfl] at hst1
            refine sgo ?_
            by_cases he0 : k.stack = []
            · have hst2 : lkStep k ⟨2, nm, tx, es⟩ = { k with at_ := k.good, err := 181 } := by rw [hst1, if_neg (by rw [he0]; simp)]
              have hend := lkI_stop (ms := ms) (i := i + 1) (by rw [hsuc, hst2]; exact (by decide : (181 : Int) ≠ 0))
              rw [hsuc, hst2] at hend
              have hl0 : k.stack.length = 0 := by rw [he0]; rfl
              refine wcdraw ?_
              refine qgo ?_
              refine qlg (v := .nilIface) ?_ rfl rfl (fun hh => absurd hh (by simp [hl0])) 
              refine qlg (v := str []) ?_ rfl rfl (fun hh => absurd hh (by simp [hl0])) 
              refine qgo ?_
              refine QL_nil ?_
              intro w8 hf8
              replace hS := hS.grow hf8
              refine sgo ?_
              refine wcyes ?_ (ht := by simp [pkb_or, hl0])
              refine sgo ?_
              refine wlbuild ?_
              refine ssta (vs := [.slice q k.stack.length cc, int k.most, int i, int 181, int i]) hS 3 fun w8 hS => ?_
              refine sgo ?_
              refine fpc (l := [.slice q k.stack.length cc, int k.most, int i, int 181, int i]) (.inl rfl) rfl rfl rfl (hS.own 3 rfl) ⟨q, cc, ?_, hS.frm, ?_⟩
              · rw [hend]; simp only [Lk.cells, hok.2.1]
              · rw [hend]; exact hS0.seq (ds := [_]) (hS.tail.sub (List.Sublist.cons_cons _ (List.nil_sublist _)))
            · have hpos : 0 < k.stack.length := List.length_pos_iff.2 he0
              have hq : ∃ a, q = some a := (hS.row 1 rfl).sg.some (by rw [strs_len]; exact hpos)
              have hle := (hS.row 1 rfl).le_cap
              have hg : (strs k.stack)[((k.stack.length : Int) - 1).toNat]? = some (str (k.stack.getLast?.getD [])) := by
                rw [show ((k.stack.length : Int) - 1).toNat = k.stack.length - 1 by omega, strs, List.getElem?_map, List.getLast?_eq_getElem?, List.getElem?_eq_getElem (by omega)]
                rfl
              refine wcdraw ?_
              refine qgo ?_
              refine QL_nil ?_
              intro w8 hf8
              replace hS := hS.grow hf8
              have hB2 : pkb (decide ((k.stack.length : Int) - 1 < 0)) true (decide (k.stack.getLast?.getD [] ≠ nm)) = !decide (k.stack.getLast? = some nm) := by
                have h1 : decide ((k.stack.length : Int) - 1 < 0) = false := decide_eq_false (by omega)
                rw [h1]
                cases hl : k.stack.getLast? with
                | none => exact absurd (List.getLast?_eq_none_iff.1 hl) he0
                | some z => simp [pkb]
              refine sgo ?_
              by_cases hl : k.stack.getLast? = some nm
              · rw [if_pos hl] at hst1
                rw [hst1] at hsuc
                refine wcno ?_ (ht := by rw [hB2]; simp [hl])
                clear hB2 hg
                refine sgo ?_
                refine sb0 hS fun b9 w9 hS => ?_
                refine sgo ?_
                have hdl : ((k.stack.length : Int) - 1).toNat = k.stack.dropLast.length := by simp
                have hrt := (hS.row 2 rfl).take (j := k.stack.dropLast.length) (by simp)
                rw [Nat.mul_one, show (strs k.stack).take k.stack.dropLast.length = strs k.stack.dropLast from by rw [strs, strs, ← List.map_take, List.length_dropLast, List.dropLast_eq_take]] at hrt
                rw [hdl]
                refine sapp hS 0 hrt.sg (fun q' c' w10 hS => ?_) (h1 := strs_one _) (hl := by rw [strs_len, Nat.mul_one]) (hb := by simp; omega)
                rw [List.nil_append, Nat.zero_add] at hS
                rw [Nat.zero_add]
                refine sgo ?_
                refine sst_slice hS 3 fun w11 hS => ?_
                refine sgo ?_
                refine ⟨(i + 1, q', c'), ⟨rfl, rfl, rfl, rfl, rfl, rfl, trivial⟩, ⟨hlt, by dsimp only; rw [hsuc], ?_⟩, (by (try dsimp only); omega)⟩
                dsimp only
                rw [hsuc]
                have h2 := hS.drop 1 rfl
                have h3 := h2.drop 1 rfl
                simp only [Nat.zero_add] at h3
                exact h3
              · rw [if_neg hl] at hst1
                have hend := lkI_stop (ms := ms) (i := i + 1) (by rw [hsuc, hst1]; exact (by decide : (181 : Int) ≠ 0))
                rw [hsuc, hst1] at hend
                refine wcyes ?_ (ht := by rw [hB2]; simp [hl])
                refine sgo ?_
                refine wlbuild ?_
                refine ssta (vs := [.slice q k.stack.length cc, int k.most, int i, int 181, int i]) hS 3 fun w8 hS => ?_
                refine sgo ?_
                refine fpc (l := [.slice q k.stack.length cc, int k.most, int i, int 181, int i]) (.inl rfl) rfl rfl rfl (hS.own 3 rfl) ⟨q, cc, ?_, hS.frm, ?_⟩
                · rw [hend]; simp only [Lk.cells, hok.2.1]
                · rw [hend]; exact hS0.seq (ds := [_]) (hS.tail.sub (List.Sublist.cons_cons _ (List.nil_sublist _)))
          · replace hc : ¬ kd = 2 := hc
            rw [if_neg hc] at hst1
            rw [hst1] at hsuc
            refine sgo ?_
            refine ⟨(i + 1, q, cc), ⟨rfl, rfl, rfl, rfl, rfl, rfl, trivial⟩, ⟨hlt, by dsimp only; rw [hsuc], ?_⟩, (by (try dsimp only); omega)⟩
            dsimp only
            rw [hsuc]
            exact hS.tail
  · obtain rfl : i = ms.length := by omega
    rw [lkI_all] at *
    clear hc
    refine sgo ?_
    refine sst_int hS 1 fun w8 hS => ?_
    refine sgo ?_
    refine ssta (vs := [.slice q (lkR (evs ms)).stack.length cc, int (lkR (evs ms)).most, int 0, int 0, int ms.length]) hS 2 fun w9 hS => ?_
    refine sgo ?_
    refine fpc (l := [.slice q (lkR (evs ms)).stack.length cc, int (lkR (evs ms)).most, int 0, int 0, int ms.length]) (.inl rfl) rfl rfl rfl (hS.own 2 rfl) ⟨q, cc, ?_, hS.frm, ?_⟩
    · simp only [Lk.cells, hok.2.1, hok.1, herr]; rfl
    · exact hS0.seq (ds := [_]) (hS.sub (List.Sublist.cons_cons _ (List.nil_sublist _)))
end Go.Proofs.YtcdogceabkpnmaaDoor

/-
  Chapter 21: sieveref18.Fold, of the events of trees.
-/
set_option linter.unusedSimpArgs false
set_option linter.unusedVariables false
set_option linter.unnecessarySimpa false
namespace Go.Proofs.YtcdogceabkpnmaaDoor
open Go Go.Sv Go.RowKit
def fvP (b5 : Nat) (q ap : Option Addr) (cc ac : Nat) (L : List NdM) (n : List UInt8) (es : List At) : PlanB (Option Addr × Nat) where
  pl k d := match k with
    | 3 => [pRow 2 (pb d.b) 0 0 []]
    | 6 => [pRow 2 d.x.1 es.length d.x.2 (es.flatMap At.cells)]
    | 8 => [pOwn d.b [str n, str [], .slice d.x.1 es.length d.x.2, .slice none 0 0]]
    | 9 => [pRow 4 d.p (L.length + 1) d.c (L.flatMap NdM.cells ++ [str n, str [], .slice d.x.1 es.length d.x.2, .slice none 0 0])]
    | _ => []
  con k := match k with
    | 3 => some 6
    | 8 => some 9
    | _ => none
  base k := match k with
    | 9 => [pRow 4 q L.length cc (L.flatMap NdM.cells)]
    | _ => []
  fact k a := match k with
    | 0 => (a 0).v = .slice q L.length cc
    | 1 => (a 1).v = ptrAt (pb b5) 1
    | 2 => (a 2).v = str n
    | 3 => (a 3).v = .slice (pb (a 3).b) 0 0
    | 4 => (a 4).v = ptrAt (pb b5) 3
    | 5 => (a 5).v = .slice ap es.length ac
    | 6 => (a 6).v = .slice (a 6).x.1 es.length (a 6).x.2
    | 7 => (a 7).v = .agg ⟨[str n, str [], .slice (a 7).x.1 es.length (a 7).x.2, .slice none 0 0]⟩ ∧ (a 7).x = (a 6).x
    | 8 => (a 8).v = .slice (pb (a 8).b) 1 1 ∧ (a 8).x = (a 7).x
    | 9 => (a 9).v = .slice (a 9).p (L.length + 1) (a 9).c ∧ (a 9).x = (a 8).x
    | 10 => (a 10).v = .slice (a 9).p (L.length + 1) (a 9).c
    | _ => True
def foP (b5 : Nat) (q ap : Option Addr) (cc ac : Nat) (kq : Option Addr) (kn kc : Nat) (L : List NdM) (n : List UInt8) (es : List At) : PlanB (Option Addr × Nat) where
  pl k d := match k with
    | 3 => [pRow 2 (pb d.b) 0 0 []]
    | 6 => [pRow 2 d.x.1 es.length d.x.2 (es.flatMap At.cells)]
    | 9 => [pOwn d.b [str n, str [], .slice d.x.1 es.length d.x.2, .slice kq kn kc]]
    | 10 => [pRow 4 d.p (L.length + 1) d.c (L.flatMap NdM.cells ++ [str n, str [], .slice d.x.1 es.length d.x.2, .slice kq kn kc])]
    | _ => []
  con k := match k with
    | 3 => some 6
    | 9 => some 10
    | _ => none
  base k := match k with
    | 10 => [pRow 4 q L.length cc (L.flatMap NdM.cells)]
    | _ => []
  fact k a := match k with
    | 0 => (a 0).v = .slice q L.length cc
    | 1 => (a 1).v = ptrAt (pb b5) 1
    | 2 => (a 2).v = str n
    | 3 => (a 3).v = .slice (pb (a 3).b) 0 0
    | 4 => (a 4).v = ptrAt (pb b5) 3
    | 5 => (a 5).v = .slice ap es.length ac
    | 6 => (a 6).v = .slice (a 6).x.1 es.length (a 6).x.2
    | 7 => (a 7).v = .slice kq kn kc
    | 8 => (a 8).v = .agg ⟨[str n, str [], .slice (a 8).x.1 es.length (a 8).x.2, .slice kq kn kc]⟩ ∧ (a 8).x = (a 6).x
    | 9 => (a 9).v = .slice (pb (a 9).b) 1 1 ∧ (a 9).x = (a 8).x
    | 10 => (a 10).v = .slice (a 10).p (L.length + 1) (a 10).c ∧ (a 10).x = (a 9).x
    | 11 => (a 11).v = .slice (a 10).p (L.length + 1) (a 10).c
    | _ => True
/-- a slice of events, but for the first -/
theorem Evs.tail1 {w : World} {p : Option Addr} {c : Nat} {m : EvM} {ms : List EvM} (h : Evs w p (m :: ms)) (hc : (m :: ms).length ≤ c) : Evs w (slp c 1 p (1 * 4)) ms := by
  have h1 := h.im.part (c := c) (i' := 1) (size := 4) (fun hc1 => by
    have : ms = [] := by cases ms with
      | nil => rfl
      | cons x l => simp only [List.length_cons] at hc; omega
    subst this
    rfl)
  exact ⟨h1, fun x hx => h.each x (List.mem_cons_of_mem _ hx)⟩
theorem plain_cons {m : Nd} {l : List Nd} (h : (Fo.of (m :: l)).plain) : (if m.name = [] then m.text ≠ [] ∧ m.attrs = [] ∧ m.kids = .nil else m.text = [] ∧ m.kids.plain ∧ (voidR m.name = true → m.kids = .nil)) ∧ (Fo.of l).plain := h
def Fo.size : Fo → Nat
  | .nil => 0
  | .cons _ _ _ ks r => 1 + ks.size + r.size
theorem Fo.of_list (f : Fo) : Fo.of f.list = f := of_list0 f
theorem size_drop (l : List Nd) (i : Nat) : (Fo.of (l.drop i)).size ≤ (Fo.of l).size := by
  induction l generalizing i with
  | nil => simp
  | cons m l ih =>
    cases i with
    | zero => exact Nat.le_refl _
    | succ i => have := ih i; simp only [List.drop_succ_cons, Fo.of, Fo.size]; omega
theorem wt_drop (l : List Nd) (i : Nat) : (Fo.of (l.drop i)).wt + ((l.take i).map nW).sum = (Fo.of l).wt := by
  rw [wt_of, wt_of]
  conv => rhs; rw [← List.take_append_drop i l, List.map_append, List.sum_append]
  omega
theorem plain_drop (l : List Nd) (i : Nat) (h : (Fo.of l).plain) : (Fo.of (l.drop i)).plain := by
  induction l generalizing i with
  | nil => simp [Fo.of, Fo.plain]
  | cons m l ih =>
    cases i with
    | zero => exact h
    | succ i => exact ih i h.2
def tlL (l : List Nd) (i : Nat) : Nat := ((l.take i).map fun m => m.text.length).sum
theorem tlL_succ {l : List Nd} {i : Nat} {m : Nd} (h : l[i]? = some m) : tlL l (i + 1) = tlL l i + m.text.length := by
  unfold tlL; rw [List.take_add_one, h]; simp
theorem tlL_le (l : List Nd) (i : Nat) : tlL l i ≤ (Fo.of l).wt := by
  have h1 := sum_take_le (fun m : Nd => m.text.length) l i
  have h2 := sum_le2 (l := l) (g := fun m : Nd => m.text.length) (h := nW) fun m _ => by unfold nW; omega
  rw [wt_of]
  unfold tlL
  omega
theorem fold_len (l : List Nd) : ∀ out, (l.foldl stepM out).length ≤ out.length + l.length := by
  induction l with
  | nil => intro out; simp
  | cons m l ih =>
    intro out
    have h1 := ih (stepM out m)
    have h2 : (stepM out m).length ≤ out.length + 1 := by
      unfold stepM
      split
      · rcases List.eq_nil_or_concat out with rfl | ⟨r, x, rfl⟩
        · rw [putT_nil]; split <;> simp
        · rw [List.concat_eq_append, putT_snoc]
          split
          · omega
          · split <;> simp
      · simp
    simp only [List.foldl_cons, List.length_cons]
    omega
theorem Sep.putTx {w0 w : World} {cs : List Plot} {t : List UInt8} {L : List NdM} {b b' : Nat} {vs vs' : List Value} {q : Option Addr} {cc : Nat} (h : Sep w0 w (pOwn b vs :: pOwn b' vs' :: pRow 4 q (L.length + 1) cc (L.flatMap NdM.cells ++ (txM t).cells) :: pMany (L.flatMap NdM.rows) :: cs)) :
    Sep w0 w (pRow 4 q (L ++ [txM t]).length cc ((L ++ [txM t]).flatMap NdM.cells) :: pMany ((L ++ [txM t]).flatMap NdM.rows) :: cs) := by
  have h1 := ((h.zero).push (c := pRow 4 none 0 0 []) (Frm.refl _) (Row.nil _ 4) (rb_nil _)).push (c := pRow 2 none 0 0 []) (Frm.refl _) (Row.nil _ 2) (rb_nil _)
  exact Sep.putNode (m := txM t) (L := L) (b := b) (b' := b') (vs := vs) (vs' := vs') (h1.sel 7 [3, 1, 2, 0, 4, 5, 6])
theorem Sep.putEl0 {w0 w : World} {cs : List Plot} {n : List UInt8} {es : List At} {ap : Option Addr} {ac : Nat} {L : List NdM} {b' : Nat} {vs' : List Value} {q : Option Addr} {cc : Nat} (h : Sep w0 w (pRow 2 ap es.length ac (es.flatMap At.cells) :: pRow 4 q (L.length + 1) cc (L.flatMap NdM.cells ++ [str n, str [], .slice ap es.length ac, .slice none 0 0]) :: pOwn b' vs' :: pMany (L.flatMap NdM.rows) :: cs)) :
    Sep w0 w (pRow 4 q (L ++ [(⟨n, [], es, ap, ac, .nil, none, 0⟩ : NdM)]).length cc ((L ++ [(⟨n, [], es, ap, ac, .nil, none, 0⟩ : NdM)]).flatMap NdM.cells) :: pMany ((L ++ [(⟨n, [], es, ap, ac, .nil, none, 0⟩ : NdM)]).flatMap NdM.rows) :: cs) := by
  have h1 := ((h.zero).push (c := pRow 4 none 0 0 []) (Frm.refl _) (Row.nil _ 4) (rb_nil _))
  exact Sep.putNode2 (m := ⟨n, [], es, ap, ac, .nil, none, 0⟩) (L := L) (b' := b') (vs' := vs') (h1.sel 6 [2, 0, 1, 3, 4, 5])
set_option maxHeartbeats 8000000 in
theorem refFold1_ok : ∀ (k : Nat) (gl : List Nd) (rest : List Ev) (ms : List EvM) (p : Option Addr) (c : Nat), (Fo.of gl).size < k → (Fo.of gl).wt ≤ 1048576 → (Fo.of gl).plain → (rest = [] ∨ ∃ e r, rest = e :: r ∧ e.kind = 2) → evs ms = (Fo.of gl).events ++ rest → ms.length ≤ c → ms.length ≤ 2097152 → (∀ m ∈ ms, m.e.small) → ∀ (w0 w : World) (cs : List Plot), Sep w0 w cs → Evs w0 p ms →
    CallsR Tryd.prog 52 #[.slice p ms.length c] w fun v w' => ∃ (q : Option Addr) (cc : Nat) (L : List NdM) (p2 : Option Addr) (c2 : Nat) (ms2 : List EvM), v = .tuple #[.slice q L.length cc, .slice p2 ms2.length c2] ∧ L.map NdM.nd = gl.foldl stepM [] ∧ evs ms2 = rest ∧ ms2.length ≤ c2 ∧ ms2.length ≤ ms.length ∧ (∀ m ∈ ms2, m.e.small) ∧ Evs w0 p2 ms2 ∧ Sep w0 w' (pRow 4 q L.length cc (L.flatMap NdM.cells) :: pMany (L.flatMap NdM.rows) :: cs) := by
  intro k
  induction k with
  | zero => intro gl rest ms p c hk; omega
  | succ k ih =>
    intro gl rest ms0 p c hk hw hpl hrest hev0 hc0 hms0 hsm0 w0 w cs hS0 hE0
    have hS := (hS0.zero).push (c := pRow 4 none 0 0 []) (Frm.refl _) (Row.nil _ 4) (rb_nil _)
    refine enter (l := [.slice p ms0.length c]) Tryd.func52 rfl Tryd.ntmps52 (by kernel_rfl) rfl ?_
    refine sgo ?_
    refine wcloop (X := Nat × (Option Addr × Nat × List EvM) × Option Addr × Nat × List NdM) (fun x => [(0, .slice x.2.1.1 x.2.1.2.2.length x.2.1.2.1), (4, .slice x.2.2.1 x.2.2.2.2.length x.2.2.2.1)])
      (fun x wr => x.1 ≤ gl.length ∧ x.2.2.2.2.length ≤ x.1 ∧ (∀ m ∈ x.2.2.2.2, m.text.length ≤ tlL gl x.1) ∧ x.2.2.2.2.map NdM.nd = (gl.take x.1).foldl stepM [] ∧ evs x.2.1.2.2 = (Fo.of (gl.drop x.1)).events ++ rest ∧ x.2.1.2.2.length ≤ x.2.1.2.1 ∧ x.2.1.2.2.length ≤ ms0.length ∧ (∀ m ∈ x.2.1.2.2, m.e.small) ∧ Evs w0 x.2.1.1 x.2.1.2.2 ∧
        Sep w0 wr (pRow 4 x.2.2.1 x.2.2.2.2.length x.2.2.2.1 (x.2.2.2.2.flatMap NdM.cells) :: pMany (x.2.2.2.2.flatMap NdM.rows) :: cs))
      (fun x => gl.length - x.1) (0, (p, c, ms0), none, 0, []) ⟨rfl, rfl, trivial⟩ ⟨Nat.zero_le _, Nat.zero_le _, (fun m hm => by cases hm), rfl, hev0, hc0, Nat.le_refl _, hsm0, hE0, hS⟩ ?_
    clear hS hev0 hc0 hsm0 hE0
    rintro ⟨i, ⟨p, c, ms⟩, q, cc, L⟩ wr ρ ⟨hil, hLi, htx, hev, hem, hmc, hml, hsm, hE, hS⟩
    dsimp only at *
    have hEr := hE.frm hS.frm
    have hIm := hEr.im
    have hwd := wt_drop gl i
    have hLw : L.length ≤ 1048576 := by
      have h1 : gl.length ≤ (Fo.of gl).wt := by
        rw [wt_of]
        have := sum_len nW gl (by intro m _; unfold nW; omega)
        omega
      omega
    refine sgo ?_
    by_cases hend : i = gl.length
    · -- nothing of these trees is left
      subst hend
      rw [List.drop_length] at hem
      rw [List.take_length] at hev
      replace hem : evs ms = rest := hem
      rcases hrest with rfl | ⟨e, r, rfl, he2⟩
      · have hms : ms = [] := by
          have := congrArg List.length hem
          rw [evs_len] at this
          exact List.length_eq_zero_iff.1 this
        subst hms
        refine sgo ?_
        refine wlskipg (.pointer none) ?_ (hgt := by simp)
        refine wlskipg (.pointer none) ?_ (hgt := by simp)
        refine wlskipg (int 0) ?_ (hgt := by simp)
        refine wlskipg (.bool false) ?_ (hgt := by simp)
        refine sgo ?_
        (first | refine fp1 (.inl rfl) rfl rfl ?_ | refine fp2 (.inl rfl) rfl rfl rfl ?_ | refine fp3 (.inl rfl) rfl rfl rfl rfl ?_ | refine fp0 (.inr rfl) rfl ?_ | refine fp0 (.inl rfl) rfl ?_ | refine fp1 (.inr rfl) rfl rfl ?_)
        exact ⟨q, cc, L, p, c, [], rfl, hev, rfl, hmc, hml, hsm, hE, hS⟩
      · match ms, hem with
        | m :: ms1, hem =>
          have hme : m.e = e := by injection hem
          have hx : (m :: ms1)[0]? = some m := rfl
          obtain ⟨g0, g1, g2, g3⟩ := ev_get hx
          have hps : ∃ a, p = some a := hIm.sg.some (by rw [fm_len EvM.len]; simp)
          have hgd : (true && (decide ((((m :: ms1).length : Nat) : Int) > 0) == true)) = true := by simp
          refine wlgt (y_idx (i := 0) (evG hgd) rfl (by simp) hps) ?_ (hgt := hgd)
          refine wlgt (y_field rfl hps (by decide)) ?_ (hgt := hgd)
          refine wlgt (y_load rfl hIm.sg g0) ?_ (hgt := hgd)
          refine wlgt (y_neq rfl rfl) ?_ (hgt := hgd)
          refine sgo ?_
          refine wcno ?_ (ht := by rw [hme, he2]; simp [pkb])
          refine sgo ?_
          (first | refine fp1 (.inl rfl) rfl rfl ?_ | refine fp2 (.inl rfl) rfl rfl rfl ?_ | refine fp3 (.inl rfl) rfl rfl rfl rfl ?_ | refine fp0 (.inr rfl) rfl ?_ | refine fp0 (.inl rfl) rfl ?_ | refine fp1 (.inr rfl) rfl rfl ?_)
          exact ⟨q, cc, L, p, c, m :: ms1, rfl, hev, hem, hmc, hml, hsm, hE, hS⟩
    · have hlt : i < gl.length := by omega
      have hx0 : gl[i]? = some gl[i] := List.getElem?_eq_getElem hlt
      have hdr : gl.drop i = gl[i] :: gl.drop (i + 1) := List.drop_eq_getElem_cons hlt
      have hpd := plain_drop gl i hpl
      have htl := tlL_succ hx0
      have htl2 := tlL_le gl (i + 1)
      have hszd := size_drop gl i
      have hstp : (gl.take (i + 1)).foldl stepM [] = stepM ((gl.take i).foldl stepM []) gl[i] := by rw [List.take_add_one, hx0, List.foldl_append]; rfl
      rw [hdr] at hem hpd hszd
      rw [← hev] at hstp
      generalize gl[i] = nd at *
      have hnw : 4 + nd.name.length + nd.text.length + (nd.attrs.map At.wt).sum + nd.kids.wt ≤ 1048576 := by
        have h1 : (Fo.of (nd :: gl.drop (i + 1))).wt = 4 + nd.name.length + nd.text.length + (nd.attrs.map At.wt).sum + nd.kids.wt + (Fo.of (gl.drop (i + 1))).wt := rfl
        rw [hdr] at hwd
        omega
      have hnsz : nd.kids.size < (Fo.of gl).size := by
        have h1 : (Fo.of (nd :: gl.drop (i + 1))).size = 1 + nd.kids.size + (Fo.of (gl.drop (i + 1))).size := rfl
        omega
      have hes : nd.attrs.length ≤ 1048576 := by
        have := sum_len At.wt nd.attrs (by intro x _; unfold At.wt; omega)
        omega
      obtain ⟨hp1, hp2⟩ := plain_cons hpd
      replace hem : evs ms = ndEvs nd ++ ((Fo.of (gl.drop (i + 1))).events ++ rest) := by rw [hem, ← List.append_assoc]; rfl
      clear hdr hwd hszd hpd hx0
      obtain ⟨e0, E1, hE1, he2⟩ : ∃ e0 E1, ndEvs nd ++ ((Fo.of (gl.drop (i + 1))).events ++ rest) = e0 :: E1 ∧ e0.kind ≠ 2 := by
        unfold ndEvs
        split
        · exact ⟨_, _, rfl, show (0 : Int) ≠ 2 by decide⟩
        · split
          · exact ⟨_, _, rfl, show (3 : Int) ≠ 2 by decide⟩
          · exact ⟨_, _, rfl, show (1 : Int) ≠ 2 by decide⟩
      have hem0 := hem
      rw [hE1] at hem
      match ms, hem with
      | m :: ms1, hem =>
      have hme : m.e = e0 := by injection hem
      have hm1 : evs ms1 = E1 := by injection hem
      have hx : (m :: ms1)[0]? = some m := rfl
      obtain ⟨g0, g1, g2, g3⟩ := ev_get hx
      have hseg := fm_seg EvM.len (m :: ms1) hx
      have hfl := fm_len EvM.len (m :: ms1)
      have hps : ∃ a, p = some a := hIm.sg.some (by rw [hfl]; simp)
      have hgd : (true && (decide ((((m :: ms1).length : Nat) : Int) > 0) == true)) = true := by simp
      have hE1' := hE.tail1 hmc
      have hat := hE.each m List.mem_cons_self
      have hc1 : ms1.length ≤ c - 1 := by simp only [List.length_cons] at hmc; omega
      have hl1 : ms1.length ≤ ms0.length := by simp only [List.length_cons] at hml; omega
      have hsm1 : ∀ x ∈ ms1, x.e.small := fun x hx => hsm x (List.mem_cons_of_mem _ hx)
      refine wlgt (y_idx (i := 0) (evG hgd) rfl (by simp) hps) ?_ (hgt := hgd)
      refine wlgt (y_field rfl hps (by decide)) ?_ (hgt := hgd)
      refine wlgt (y_load rfl hIm.sg g0) ?_ (hgt := hgd)
      refine wlgt (y_neq rfl rfl) ?_ (hgt := hgd)
      refine sgo ?_
      refine wcyes ?_ (ht := by rw [hme]; simp [pkb, he2])
      refine sgo ?_
      refine wl ?_ (y_idx (i := 0) rfl rfl (by simp) hps)
      refine wl ?_ (y_loada rfl hIm.sg (by rw [hfl]; simp only [List.length_cons]; omega) hps)
      rw [hseg]
      obtain ⟨⟨kd, nm, tx, es⟩, mp, mc⟩ := m
      replace hme : (⟨kd, nm, tx, es⟩ : Ev) = e0 := hme
      subst hme
      refine salloc hS fun b5 w5 hS => ?_
      refine sgo ?_
      refine ssta (vs := [int kd, str nm, str tx, .slice mp es.length mc]) hS 0 fun w6 hS => ?_
      replace hS : Sep w0 w6 (pOwn b5 [int kd, str nm, str tx, .slice mp es.length mc] :: pRow 4 q L.length cc (L.flatMap NdM.cells) :: pMany (L.flatMap NdM.rows) :: cs) := hS
      refine sgo ?_
      refine wl ?_ (y_rslice_from (i' := 1) rfl rfl ⟨by simp, hmc⟩)
      rw [show (⟨⟨kd, nm, tx, es⟩, mp, mc⟩ :: ms1 : List EvM).length - 1 = ms1.length from rfl]
      clear hE g0 g1 g2 g3 hseg hfl hps hgd hx
      refine sgo ?_
      by_cases hn : nd.name = []
      · -- a text
        rw [if_pos hn] at hp1
        obtain ⟨ht0, ha0, hk0⟩ := hp1
        have hE0 : ndEvs nd = [⟨0, [], nd.text, []⟩] := by unfold ndEvs; rw [if_pos hn]
        rw [hE0] at hE1
        injection hE1 with h1 h2
        injection h1 with h3 h4 h5 h6
        subst h3 h4 h5 h6
        rw [← h2] at hm1
        have hst : stepM (L.map NdM.nd) nd = putT (L.map NdM.nd) nd.text [] .nil := by
          unfold stepM; rw [if_pos hn, ha0, hk0]
        rw [hst] at hstp
        refine sgo ?_
        by_cases hL : L = []
        · subst hL
          replace hstp : (gl.take (i + 1)).foldl stepM [] = ([] : List NdM).map NdM.nd ++ [(txM nd.text).nd] := by rw [hstp, List.map_nil, putT_nil, if_neg ht0]; rfl
          refine wlskipg (.pointer none) ?_ (hgt := by simp)
          refine wlskipg (.pointer none) ?_ (hgt := by simp)
          refine wlskipg (str []) ?_ (hgt := by simp)
          refine wlskipg (.bool false) ?_ (hgt := by simp)
          refine sgo ?_
          refine wlbuild (cells := (txM nd.text).cells) ?_
          refine sb1a (vs := (txM nd.text).cells) hS fun b12 w12 hS => ?_
          refine sgo ?_
          refine sapp hS 2 (hS.own 0 rfl).sg (fun q4 c4 w13 hS => ?_) (h1 := nd_one _)
          refine sgo ?_
          refine ⟨(i + 1, (slp c 1 p (1 * 4), c - 1, ms1), q4, c4, [] ++ [txM nd.text]), ⟨rfl, rfl, trivial⟩, ⟨hlt, by simp, ?_, ?_, hm1, hc1, hl1, hsm1, hE1', Sep.putTx (b := b12) (b' := b5) hS⟩, (by (try dsimp only); omega)⟩
          · intro m hm
            rw [List.nil_append] at hm
            rw [List.mem_singleton.1 hm]
            show nd.text.length ≤ _
            dsimp only; omega
          · dsimp only; rw [hstp]; rfl
        · have hpos : 0 < L.length := List.length_pos_iff.2 hL
          have hx0 : L[L.length - 1]? = some (L[L.length - 1]'(by omega)) := List.getElem?_eq_getElem (by omega)
          have hm0 : L[L.length - 1]'(by omega) ∈ L := List.getElem_mem _
          obtain ⟨hg0, hg1, -, -⟩ := nd_get hx0
          have hsp : L = L.take (L.length - 1) ++ [L[L.length - 1]'(by omega)] := by
            have h := List.take_append_drop (L.length - 1) L
            rw [List.drop_eq_getElem_cons (by omega)] at h
            have h2 : L.drop (L.length - 1 + 1) = [] := List.drop_eq_nil_of_le (by omega)
            rw [h2] at h
            exact h.symm
          have hmt := htx _ hm0
          have hfl2 := fm_len NdM.clen L
          have hqs : ∃ a, q = some a := (hS.row 1 rfl).sg.some (by omega)
          generalize L[L.length - 1]'(by omega) = m0 at *
          have hesp : L.map NdM.nd = (L.take (L.length - 1)).map NdM.nd ++ [m0.nd] := by have h := congrArg (List.map NdM.nd) hsp; rw [List.map_append] at h; exact h
          rw [hesp, putT_snoc, if_neg ht0] at hstp
          have e9 : ((L.length : Int) - 1).toNat = L.length - 1 := by omega
          rw [← e9] at hg0 hg1
          have hsgq : Sg w6 q (L.flatMap NdM.cells) := (hS.row 1 rfl).sg
          have hgd : (true && (decide ((0 : Int) ≤ (L.length : Int) - 1) == true)) = true := by simp; omega
          refine wlgt (y_idxI (n := L.length) (i := (L.length : Int) - 1) (evG hgd) (evG hgd) ⟨by omega, by omega⟩ hqs) ?_ (hgt := hgd)
          refine wlgt (y_field rfl hqs (by decide)) ?_ (hgt := hgd)
          refine wlgt (y_load rfl hsgq hg0) ?_ (hgt := hgd)
          refine wlgt (y_seql rfl rfl) ?_ (hgt := hgd)
          refine sgo ?_
          by_cases hn0 : m0.name = []
          · rw [if_pos (show m0.nd.name = [] from hn0)] at hstp
            refine wcyes ?_ (ht := by simp [pkb, hn0]; omega)
            (first | refine WC_seq ?_ | skip)
            refine wcdrawt 10 ?_
            refine qgo ?_
            refine QL_nil ?_
            intro w8 hf8
            replace hS := hS.grow hf8
            refine srst (v := str (m0.text ++ nd.text)) (j := ((L.length : Int) - 1).toNat * 4 + 1) hS 1 (fun w9 hS => ?_) (hk := by rw [hfl2]; omega)
            have hll : (L.take (L.length - 1)).length = L.length - 1 := by rw [List.length_take]; omega
            have hft := flat_text (L.take (L.length - 1)) m0 (m0.text ++ nd.text)
            rw [← hsp, hll] at hft
            rw [e9] at hS
            have hl9 : (L.take (L.length - 1) ++ [{ m0 with text := m0.text ++ nd.text }]).length = L.length := by rw [List.length_append, hll]; simp; omega
            have hr9 : (L.take (L.length - 1) ++ [{ m0 with text := m0.text ++ nd.text }]).flatMap NdM.rows = L.flatMap NdM.rows := by
              conv => rhs; rw [hsp]
              rw [List.flatMap_append, List.flatMap_append]; rfl
            replace hS : Sep w0 w9 (pRow 4 q L.length cc ((L.take (L.length - 1) ++ [{ m0 with text := m0.text ++ nd.text }]).flatMap NdM.cells) :: pMany (L.flatMap NdM.rows) :: cs) := by rw [← hft]; exact hS.sel 3 [1, 2]
            refine sgo ?_
            refine ⟨(i + 1, (slp c 1 p (1 * 4), c - 1, ms1), q, cc, L.take (L.length - 1) ++ [{ m0 with text := m0.text ++ nd.text }]), ⟨rfl, ?_, trivial⟩, ⟨hlt, Nat.le_trans (Nat.le_of_eq hl9) (by omega), ?_, ?_, hm1, hc1, hl1, hsm1, hE1', ?_⟩, (by (try dsimp only); omega)⟩
            · dsimp only; rw [hl9]; rfl
            · intro m2 hm
              rcases List.mem_append.1 hm with hm | hm
              · have := htx m2 (List.mem_of_mem_take hm); dsimp only; omega
              · rw [List.mem_singleton.1 hm]; dsimp only; rw [List.length_append]; omega
            · dsimp only; rw [hstp, List.map_append]; rfl
            · dsimp only; rw [hl9, hr9]; exact hS
          · rw [if_neg (show ¬ m0.nd.name = [] from hn0), ← hesp] at hstp
            refine wcno ?_ (ht := by simp [pkb, hn0])
            refine sgo ?_
            refine wlbuild (cells := (txM nd.text).cells) ?_
            refine sb1a (vs := (txM nd.text).cells) hS fun b12 w12 hS => ?_
            refine sgo ?_
            refine sapp hS 2 (hS.own 0 rfl).sg (fun q4 c4 w13 hS => ?_) (h1 := nd_one _)
            refine sgo ?_
            refine ⟨(i + 1, (slp c 1 p (1 * 4), c - 1, ms1), q4, c4, L ++ [txM nd.text]), ⟨rfl, by dsimp only; rw [List.length_append]; rfl, trivial⟩, ⟨hlt, by simp; omega, ?_, ?_, hm1, hc1, hl1, hsm1, hE1', Sep.putTx (b := b12) (b' := b5) hS⟩, (by (try dsimp only); omega)⟩
            · intro m hm
              rcases List.mem_append.1 hm with hm | hm
              · have := htx m hm; dsimp only; omega
              · rw [List.mem_singleton.1 hm]
                show nd.text.length ≤ _
                dsimp only; omega
            · rw [List.map_append, hstp]; rfl
      · rw [if_neg hn] at hp1
        obtain ⟨htx0, hkp, hvk⟩ := hp1
        by_cases hv : voidR nd.name = true
        · have hk0 := hvk hv
          have hE0 : ndEvs nd = [⟨3, nd.name, [], nd.attrs⟩] := by unfold ndEvs; rw [if_neg hn, if_pos hv]
          rw [hE0] at hE1
          injection hE1 with h1 h2
          injection h1 with h3 h4 h5 h6
          subst h3 h4 h5 h6
          rw [← h2] at hm1
          have hl1a := fm_len At.len nd.attrs
          have hst : stepM (L.map NdM.nd) nd = L.map NdM.nd ++ [⟨nd.name, [], nd.attrs, .nil⟩] := by
            unfold stepM; rw [if_neg hn, htx0, hk0]; rfl
          rw [hst] at hstp
          replace hS : Sep w0 w6 ([pRow 4 q L.length cc (L.flatMap NdM.cells)] ++ (pOwn b5 [int 3, str nd.name, str [], .slice mp nd.attrs.length mc] :: pMany (L.flatMap NdM.rows) :: cs)) := hS.sel 3 [1, 0, 2]
          refine sgo ?_
          refine wcplanb (b := [pRow 4 q L.length cc (L.flatMap NdM.cells)]) (fvP b5 q mp cc mc L nd.name nd.attrs) ⟨.nilIface, none, 0, 0, (none, 0)⟩ hS rfl (fun j oj a a' hj he hd h => ?_) ⟨?_, ?_, ?_, ?_, ?_, ?_, ?_, ?_, ?_, ?_, ?_, trivial⟩ ?_
          · have hjl : j < 11 := (List.getElem?_eq_some_iff.1 hj).1
            match j, hjl with
            | 0, _ | 1, _ | 2, _ | 3, _ | 4, _ | 5, _ | 6, _ => first | (simp only [fvP] at h ⊢; rw [← he]; exact h) | exact h
            | 7, _ => simp only [fvP] at h ⊢; rw [← he, ← hd 6 (by cases hj; rfl)]; exact h
            | 8, _ => simp only [fvP] at h ⊢; rw [← he, ← hd 7 (by cases hj; rfl)]; exact h
            | 9, _ => simp only [fvP] at h ⊢; rw [← he, ← hd 8 (by cases hj; rfl)]; exact h
            | 10, _ => simp only [fvP] at h ⊢; rw [← he, ← hd 9 (by cases hj; rfl)]; exact h
          · intro a σ' w' rest hσ hdep hS'   -- 0: move; pieces: sees 9 ..
            have e4 : σ' 4 = .slice q L.length cc := (hσ 4 (notDstB rfl)).trans rfl
            exact rule_e [(4, _)] ⟨e4, trivial⟩ ⟨⟨.slice q L.length cc, none, 0, 0, (none, 0)⟩, rfl, rfl, hS'⟩
          · intro a σ' w' rest hσ hdep hS'   -- 1: fieldAddr; pieces:  ..
            have e5 : σ' 5 = ptrAt (pb b5) 0 := (hσ 5 (notDstB rfl)).trans rfl
            exact rule_y (y_field e5 ⟨_, rfl⟩ (by decide)) ⟨⟨ptrAt (pb b5) 1, none, 0, 0, (none, 0)⟩, rfl, rfl, hS'⟩
          · intro a σ' w' rest hσ hdep hS'   -- 2: load; pieces:  ..
            have f1 := (hdep 1 _ rfl rfl).2
            have e78 := ((hdep 1 _ rfl rfl).1 78 rfl).trans f1
            exact rule_y (y_load e78 (Sep.sgv hS' 0 rfl) rfl) ⟨⟨str nd.name, none, 0, 0, (none, 0)⟩, rfl, rfl, hS'⟩
          · intro a σ' w' rest hσ hdep hS'   -- 3: buildSlice; pieces:  ..
            obtain ⟨b, w2, hy, hS2⟩ := y_bs0 (P := Tryd.prog) (t := 31) (d := some 80) hS'
            exact rule_y hy ⟨⟨.slice (pb b) 0 0, none, 0, b, (none, 0)⟩, rfl, rfl, hS2⟩
          · intro a σ' w' rest hσ hdep hS'   -- 4: fieldAddr; pieces:  ..
            have e5 : σ' 5 = ptrAt (pb b5) 0 := (hσ 5 (notDstB rfl)).trans rfl
            exact rule_y (y_field e5 ⟨_, rfl⟩ (by decide)) ⟨⟨ptrAt (pb b5) 3, none, 0, 0, (none, 0)⟩, rfl, rfl, hS'⟩
          · intro a σ' w' rest hσ hdep hS'   -- 5: load; pieces:  ..
            have f4 := (hdep 4 _ rfl rfl).2
            have e81 := ((hdep 4 _ rfl rfl).1 81 rfl).trans f4
            exact rule_y (y_load e81 (Sep.sgv hS' 0 rfl) rfl) ⟨⟨.slice mp nd.attrs.length mc, none, 0, 0, (none, 0)⟩, rfl, rfl, hS'⟩
          · intro a σ' w' rest hσ hdep hS'   -- 6: call; pieces: takes 3, sees 9 ..
            have f3 := (hdep 3 _ rfl rfl).2
            have e80 := ((hdep 3 _ rfl rfl).1 80 rfl).trans f3
            have f5 := (hdep 5 _ rfl rfl).2
            have e82 := ((hdep 5 _ rfl rfl).1 82 rfl).trans f5
            obtain ⟨p2, c2, w2, hy, hS2⟩ := y_app (P := Tryd.prog) (t := 31) (t' := 31) (ty := 31) (d := some 83) (x := .tmp 80) (y := .tmp 82) (n := nd.attrs.length) hS' 0 (hat.sep hS').sg rfl e80 e82 hl1a (att_one nd.attrs) rfl (by decide) (by omega)
            rw [show 0 + nd.attrs.length = nd.attrs.length from Nat.zero_add _] at hy hS2
            exact rule_y hy ⟨⟨.slice p2 nd.attrs.length c2, none, 0, 0, (p2, c2)⟩, rfl, rfl, hS2⟩
          · intro a σ' w' rest hσ hdep hS'   -- 7: build; pieces:  ..
            have f2 := (hdep 2 _ rfl rfl).2
            have e79 := ((hdep 2 _ rfl rfl).1 79 rfl).trans f2
            have f6 := (hdep 6 _ rfl rfl).2
            have e83 := ((hdep 6 _ rfl rfl).1 83 rfl).trans f6
            exact rule_y (y_build (cells := [str nd.name, str [], .slice (a 6).x.1 nd.attrs.length (a 6).x.2, .slice none 0 0]) (by rw [bm2 (x := .tmp 79) (y := .tmp 83) e79 e83]; simp [fillL, setSeg, Value.cells] <;> rfl)) ⟨⟨.agg ⟨[str nd.name, str [], .slice (a 6).x.1 nd.attrs.length (a 6).x.2, .slice none 0 0]⟩, none, 0, 0, (a 6).x⟩, rfl, ⟨rfl, rfl⟩, hS'⟩
          · intro a σ' w' rest hσ hdep hS'   -- 8: buildSlice; pieces: sees 9 ..
            have f7 := (hdep 7 _ rfl rfl).2
            have e84 := ((hdep 7 _ rfl rfl).1 84 rfl).trans f7.1
            obtain ⟨b, w2, hy, hS2⟩ := y_bs1 (P := Tryd.prog) (t := 22) (d := some 85) (x := .tmp 84) (vs := [str nd.name, str [], .slice (a 7).x.1 nd.attrs.length (a 7).x.2, .slice none 0 0]) (size := 4) hS' e84 rfl rfl (by decide) (by decide)
            exact rule_y hy ⟨⟨.slice (pb b) 1 1, none, 0, b, (a 7).x⟩, rfl, ⟨rfl, rfl⟩, hS2⟩
          · intro a σ' w' rest hσ hdep hS'   -- 9: call; pieces: takes 8, base 9 ..
            have f0 := (hdep 0 _ rfl rfl).2
            have e77 := ((hdep 0 _ rfl rfl).1 77 rfl).trans f0
            have f8 := (hdep 8 _ rfl rfl).2
            have e85 := ((hdep 8 _ rfl rfl).1 85 rfl).trans f8.1
            obtain ⟨p2, c2, w2, hy, hS2⟩ := y_app (P := Tryd.prog) (t := 22) (t' := 22) (ty := 22) (d := some 86) (x := .tmp 77) (y := .tmp 85) (n := 1) hS' 1 (hS'.own 0 rfl).sg rfl e77 e85 rfl (by simp [Value.oneCell']) rfl (by decide) (by omega)
            exact rule_y hy ⟨⟨.slice p2 (L.length + 1) c2, p2, c2, 0, (a 8).x⟩, rfl, ⟨rfl, rfl⟩, hS2.drop 0 rfl⟩
          · intro a σ' w' rest hσ hdep hS'   -- 10: assign; pieces:  ..
            have f9 := (hdep 9 _ rfl rfl).2
            have e86 := ((hdep 9 _ rfl rfl).1 86 rfl).trans f9.1
            exact rule_e [(86, _)] ⟨e86, trivial⟩ ⟨⟨.slice (a 9).p (L.length + 1) (a 9).c, none, 0, 0, (none, 0)⟩, rfl, rfl, hS'⟩
          · intro a σ' w' hσ hA' hS'
            have h10 := hA' 10 _ rfl
            rw [frameOf (σ := σ') [(0, .slice (slp c 1 p (1 * 4)) ms1.length (c - 1)), (4, .slice (a 9).p (L.length + 1) (a 9).c)] ⟨(hσ 0 (notDst rfl)).trans rfl, (h10.1 4 rfl).trans h10.2, trivial⟩]
            have hx7 := (hA' 7 _ rfl).2.2
            have hx8 := (hA' 8 _ rfl).2.2
            have hx9 := (hA' 9 _ rfl).2.2
            replace hS' : Sep w0 w' (pRow 2 (a 6).x.1 nd.attrs.length (a 6).x.2 (nd.attrs.flatMap At.cells) :: pRow 4 (a 9).p (L.length + 1) (a 9).c (L.flatMap NdM.cells ++ [str nd.name, str [], .slice (a 9).x.1 nd.attrs.length (a 9).x.2, .slice none 0 0]) :: pOwn b5 [int 3, str nd.name, str [], .slice mp nd.attrs.length mc] :: pMany (L.flatMap NdM.rows) :: cs) := hS'
            rw [hx9, hx8, hx7] at hS'
            have hnx := Sep.putEl0 (n := nd.name) (es := nd.attrs) (L := L) hS'
            refine sgo ?_
            refine ⟨(i + 1, (slp c 1 p (1 * 4), c - 1, ms1), (a 9).p, (a 9).c, L ++ [⟨nd.name, [], nd.attrs, (a 6).x.1, (a 6).x.2, .nil, none, 0⟩]), ⟨rfl, by dsimp only; rw [List.length_append]; rfl, trivial⟩, ⟨hlt, by simp; omega, ?_, ?_, hm1, hc1, hl1, hsm1, hE1', hnx⟩, (by (try dsimp only); omega)⟩
            · intro m hm
              rcases List.mem_append.1 hm with hm | hm
              · have := htx m hm; dsimp only; omega
              · rw [List.mem_singleton.1 hm]; exact Nat.zero_le _
            · rw [List.map_append, hstp]; rfl
        · have hE0 : ndEvs nd = ⟨1, nd.name, [], nd.attrs⟩ :: nd.kids.events ++ [⟨2, nd.name, [], []⟩] := by unfold ndEvs; rw [if_neg hn, if_neg hv]
          rw [hE0] at hE1
          simp only [List.cons_append, List.append_assoc] at hE1
          injection hE1 with h1 h2
          injection h1 with h3 h4 h5 h6
          subst h3 h4 h5 h6
          rw [← h2] at hm1
          have hl1a := fm_len At.len nd.attrs
          have hst : stepM (L.map NdM.nd) nd = L.map NdM.nd ++ [⟨nd.name, [], nd.attrs, .of (nd.kids.merge [])⟩] := by
            unfold stepM; rw [if_neg hn, htx0]
          rw [hst] at hstp
          refine sgo ?_
          refine wlcall (ih nd.kids.list (⟨2, nd.name, [], []⟩ :: ((Fo.of (gl.drop (i + 1))).events ++ rest)) ms1 (slp c 1 p (1 * 4)) (c - 1) (by rw [of_list0]; omega) (by rw [of_list0]; omega) (by rw [of_list0]; exact hkp) (.inr ⟨_, _, rfl, rfl⟩) (by rw [of_list0, hm1]; rfl) hc1 (by omega) hsm1 w0 w6 _ hS hE1') ?_
          clear hS
          rintro _ w7 ⟨q3, c3, K, p4, c4, ms2, rfl, hK, hms2, hmc2, hml2, hsm2, hE2, hS⟩
          have hKm : K.map NdM.nd = nd.kids.merge [] := by rw [hK, ← merge_of, of_list0]
          have hkl : K.length ≤ 4194304 := by
            have h1 := congrArg List.length hK
            rw [List.length_map] at h1
            have h2 := fold_len nd.kids.list []
            have h3 : nd.kids.list.length ≤ nd.kids.wt := by
              have h4 := sum_len nW nd.kids.list (by intro m _; unfold nW; omega)
              have h5 := wt_of nd.kids.list
              rw [of_list0] at h5
              omega
            simp only [List.length_nil] at h2
            omega
          match ms2, hms2 with
          | m2 :: ms3, hms2 =>
          have hm3 : evs ms3 = (Fo.of (gl.drop (i + 1))).events ++ rest := by injection hms2
          have hE3 := hE2.tail1 hmc2
          have hc3 : ms3.length ≤ c4 - 1 := by simp only [List.length_cons] at hmc2; omega
          have hl3 : ms3.length ≤ ms0.length := by simp only [List.length_cons] at hml2; omega
          have hsm3 : ∀ x ∈ ms3, x.e.small := fun x hx => hsm2 x (List.mem_cons_of_mem _ hx)
          replace hS : Sep w0 w7 ([pRow 4 q L.length cc (L.flatMap NdM.cells)] ++ (pOwn b5 [int 1, str nd.name, str [], .slice mp nd.attrs.length mc] :: pRow 4 q3 K.length c3 (K.flatMap NdM.cells) :: pMany (K.flatMap NdM.rows) :: pMany (L.flatMap NdM.rows) :: cs)) := hS.sel 5 [3, 2, 0, 1, 4]
          refine sgo ?_
          refine wcplanb (b := [pRow 4 q L.length cc (L.flatMap NdM.cells)]) (foP b5 q mp cc mc q3 K.length c3 L nd.name nd.attrs) ⟨.nilIface, none, 0, 0, (none, 0)⟩ hS rfl (fun j oj a a' hj he hd h => ?_) ⟨?_, ?_, ?_, ?_, ?_, ?_, ?_, ?_, ?_, ?_, ?_, ?_, trivial⟩ ?_
          · have hjl : j < 12 := (List.getElem?_eq_some_iff.1 hj).1
            match j, hjl with
            | 0, _ | 1, _ | 2, _ | 3, _ | 4, _ | 5, _ | 6, _ | 7, _ => first | (simp only [foP] at h ⊢; rw [← he]; exact h) | exact h
            | 8, _ => simp only [foP] at h ⊢; rw [← he, ← hd 6 (by cases hj; rfl)]; exact h
            | 9, _ => simp only [foP] at h ⊢; rw [← he, ← hd 8 (by cases hj; rfl)]; exact h
            | 10, _ => simp only [foP] at h ⊢; rw [← he, ← hd 9 (by cases hj; rfl)]; exact h
            | 11, _ => simp only [foP] at h ⊢; rw [← he, ← hd 10 (by cases hj; rfl)]; exact h
          · intro a σ' w' rest hσ hdep hS'   -- 0: move; pieces: sees 10 ..
            have e4 : σ' 4 = .slice q L.length cc := (hσ 4 (notDstB rfl)).trans rfl
            exact rule_e [(4, _)] ⟨e4, trivial⟩ ⟨⟨.slice q L.length cc, none, 0, 0, (none, 0)⟩, rfl, rfl, hS'⟩
          · intro a σ' w' rest hσ hdep hS'   -- 1: fieldAddr; pieces:  ..
            have e5 : σ' 5 = ptrAt (pb b5) 0 := (hσ 5 (notDstB rfl)).trans rfl
            exact rule_y (y_field e5 ⟨_, rfl⟩ (by decide)) ⟨⟨ptrAt (pb b5) 1, none, 0, 0, (none, 0)⟩, rfl, rfl, hS'⟩
          · intro a σ' w' rest hσ hdep hS'   -- 2: load; pieces:  ..
            have f1 := (hdep 1 _ rfl rfl).2
            have e32 := ((hdep 1 _ rfl rfl).1 32 rfl).trans f1
            exact rule_y (y_load e32 (Sep.sgv hS' 0 rfl) rfl) ⟨⟨str nd.name, none, 0, 0, (none, 0)⟩, rfl, rfl, hS'⟩
          · intro a σ' w' rest hσ hdep hS'   -- 3: buildSlice; pieces:  ..
            obtain ⟨b, w2, hy, hS2⟩ := y_bs0 (P := Tryd.prog) (t := 31) (d := some 34) hS'
            exact rule_y hy ⟨⟨.slice (pb b) 0 0, none, 0, b, (none, 0)⟩, rfl, rfl, hS2⟩
          · intro a σ' w' rest hσ hdep hS'   -- 4: fieldAddr; pieces:  ..
            have e5 : σ' 5 = ptrAt (pb b5) 0 := (hσ 5 (notDstB rfl)).trans rfl
            exact rule_y (y_field e5 ⟨_, rfl⟩ (by decide)) ⟨⟨ptrAt (pb b5) 3, none, 0, 0, (none, 0)⟩, rfl, rfl, hS'⟩
          · intro a σ' w' rest hσ hdep hS'   -- 5: load; pieces:  ..
            have f4 := (hdep 4 _ rfl rfl).2
            have e35 := ((hdep 4 _ rfl rfl).1 35 rfl).trans f4
            exact rule_y (y_load e35 (Sep.sgv hS' 0 rfl) rfl) ⟨⟨.slice mp nd.attrs.length mc, none, 0, 0, (none, 0)⟩, rfl, rfl, hS'⟩
          · intro a σ' w' rest hσ hdep hS'   -- 6: call; pieces: takes 3, sees 10 ..
            have f3 := (hdep 3 _ rfl rfl).2
            have e34 := ((hdep 3 _ rfl rfl).1 34 rfl).trans f3
            have f5 := (hdep 5 _ rfl rfl).2
            have e36 := ((hdep 5 _ rfl rfl).1 36 rfl).trans f5
            obtain ⟨p2, c2, w2, hy, hS2⟩ := y_app (P := Tryd.prog) (t := 31) (t' := 31) (ty := 31) (d := some 37) (x := .tmp 34) (y := .tmp 36) (n := nd.attrs.length) hS' 0 (hat.sep hS').sg rfl e34 e36 hl1a (att_one nd.attrs) rfl (by decide) (by omega)
            rw [show 0 + nd.attrs.length = nd.attrs.length from Nat.zero_add _] at hy hS2
            exact rule_y hy ⟨⟨.slice p2 nd.attrs.length c2, none, 0, 0, (p2, c2)⟩, rfl, rfl, hS2⟩
          · intro a σ' w' rest hσ hdep hS'   -- 7: move; pieces:  ..
            have e7 : σ' 7 = .slice q3 K.length c3 := (hσ 7 (notDstB rfl)).trans rfl
            exact rule_e [(7, _)] ⟨e7, trivial⟩ ⟨⟨.slice q3 K.length c3, none, 0, 0, (none, 0)⟩, rfl, rfl, hS'⟩
          · intro a σ' w' rest hσ hdep hS'   -- 8: build; pieces:  ..
            have f2 := (hdep 2 _ rfl rfl).2
            have e33 := ((hdep 2 _ rfl rfl).1 33 rfl).trans f2
            have f6 := (hdep 6 _ rfl rfl).2
            have e37 := ((hdep 6 _ rfl rfl).1 37 rfl).trans f6
            have f7 := (hdep 7 _ rfl rfl).2
            have e38 := ((hdep 7 _ rfl rfl).1 38 rfl).trans f7
            exact rule_y (y_build (cells := [str nd.name, str [], .slice (a 6).x.1 nd.attrs.length (a 6).x.2, .slice q3 K.length c3]) (by rw [bm3 (x := .tmp 33) (y := .tmp 37) (z := .tmp 38) e33 e37 e38]; simp [fillL, setSeg, Value.cells] <;> rfl)) ⟨⟨.agg ⟨[str nd.name, str [], .slice (a 6).x.1 nd.attrs.length (a 6).x.2, .slice q3 K.length c3]⟩, none, 0, 0, (a 6).x⟩, rfl, ⟨rfl, rfl⟩, hS'⟩
          · intro a σ' w' rest hσ hdep hS'   -- 9: buildSlice; pieces: sees 10 ..
            have f8 := (hdep 8 _ rfl rfl).2
            have e39 := ((hdep 8 _ rfl rfl).1 39 rfl).trans f8.1
            obtain ⟨b, w2, hy, hS2⟩ := y_bs1 (P := Tryd.prog) (t := 22) (d := some 40) (x := .tmp 39) (vs := [str nd.name, str [], .slice (a 8).x.1 nd.attrs.length (a 8).x.2, .slice q3 K.length c3]) (size := 4) hS' e39 rfl rfl (by decide) (by decide)
            exact rule_y hy ⟨⟨.slice (pb b) 1 1, none, 0, b, (a 8).x⟩, rfl, ⟨rfl, rfl⟩, hS2⟩
          · intro a σ' w' rest hσ hdep hS'   -- 10: call; pieces: takes 9, base 10 ..
            have f0 := (hdep 0 _ rfl rfl).2
            have e31 := ((hdep 0 _ rfl rfl).1 31 rfl).trans f0
            have f9 := (hdep 9 _ rfl rfl).2
            have e40 := ((hdep 9 _ rfl rfl).1 40 rfl).trans f9.1
            obtain ⟨p2, c2, w2, hy, hS2⟩ := y_app (P := Tryd.prog) (t := 22) (t' := 22) (ty := 22) (d := some 41) (x := .tmp 31) (y := .tmp 40) (n := 1) hS' 1 (hS'.own 0 rfl).sg rfl e31 e40 rfl (by simp [Value.oneCell']) rfl (by decide) (by omega)
            exact rule_y hy ⟨⟨.slice p2 (L.length + 1) c2, p2, c2, 0, (a 9).x⟩, rfl, ⟨rfl, rfl⟩, hS2.drop 0 rfl⟩
          · intro a σ' w' rest hσ hdep hS'   -- 11: assign; pieces:  ..
            have f10 := (hdep 10 _ rfl rfl).2
            have e41 := ((hdep 10 _ rfl rfl).1 41 rfl).trans f10.1
            exact rule_e [(41, _)] ⟨e41, trivial⟩ ⟨⟨.slice (a 10).p (L.length + 1) (a 10).c, none, 0, 0, (none, 0)⟩, rfl, rfl, hS'⟩
          · intro a σ' w' hσ hA' hS'
            have h11 := hA' 11 _ rfl
            rw [frameOf (σ := σ') [(4, .slice (a 10).p (L.length + 1) (a 10).c), (8, .slice p4 (m2 :: ms3).length c4)] ⟨(h11.1 4 rfl).trans h11.2, (hσ 8 (notDst rfl)).trans rfl, trivial⟩]
            have hx8 := (hA' 8 _ rfl).2.2
            have hx9 := (hA' 9 _ rfl).2.2
            have hx10 := (hA' 10 _ rfl).2.2
            replace hS' : Sep w0 w' (pRow 2 (a 6).x.1 nd.attrs.length (a 6).x.2 (nd.attrs.flatMap At.cells) :: pRow 4 (a 10).p (L.length + 1) (a 10).c (L.flatMap NdM.cells ++ [str nd.name, str [], .slice (a 10).x.1 nd.attrs.length (a 10).x.2, .slice q3 K.length c3]) :: pOwn b5 [int 1, str nd.name, str [], .slice mp nd.attrs.length mc] :: pRow 4 q3 K.length c3 (K.flatMap NdM.cells) :: pMany (K.flatMap NdM.rows) :: pMany (L.flatMap NdM.rows) :: cs) := hS'
            rw [hx10, hx9, hx8] at hS'
            have hnx := Sep.putNode2 (m := ⟨nd.name, [], nd.attrs, (a 6).x.1, (a 6).x.2, .of K, q3, c3⟩) (L := L) (b' := b5) (q := (a 10).p) (cc := (a 10).c) (by dsimp only [NdM.cells]; rw [len_of, FoM.list_of, rows_of]; exact hS'.sel 6 [0, 3, 4, 1, 2, 5])
            refine sgo ?_
            refine wl ?_ (y_rslice_from (i' := 1) rfl rfl ⟨by simp, hmc2⟩)
            rw [show (m2 :: ms3).length - 1 = ms3.length from rfl]
            refine sgo ?_
            refine ⟨(i + 1, (slp c4 1 p4 (1 * 4), c4 - 1, ms3), (a 10).p, (a 10).c, L ++ [⟨nd.name, [], nd.attrs, (a 6).x.1, (a 6).x.2, .of K, q3, c3⟩]), ⟨rfl, by dsimp only; rw [List.length_append]; rfl, trivial⟩, ⟨hlt, by simp; omega, ?_, ?_, hm3, hc3, hl3, hsm3, hE3, hnx⟩, (by (try dsimp only); omega)⟩
            · intro m hm
              rcases List.mem_append.1 hm with hm | hm
              · have := htx m hm; dsimp only; omega
              · rw [List.mem_singleton.1 hm]; exact Nat.zero_le _
            · rw [List.map_append, hstp]
              show L.map NdM.nd ++ [Nd.mk nd.name [] nd.attrs (FoM.of K).fo] = _
              rw [fo_of, hKm]
end Go.Proofs.YtcdogceabkpnmaaDoor

/-
  Chapter 21: DomEvents walked.
-/
set_option linter.unusedSimpArgs false
set_option linter.unusedVariables false
set_option linter.unnecessarySimpa false
namespace Go.Proofs.YtcdogceabkpnmaaDoor
open Go Go.Sv Go.RowKit
theorem may_plain (f : Fo) (h : f.may = true) : f.plain := by
  induction f with
  | nil => trivial
  | cons n t es ks r ih1 ih2 =>
    simp only [Fo.may, Bool.and_eq_true] at h
    obtain ⟨h1, h2⟩ := h
    refine ⟨?_, ih2 h2⟩
    have hnil : ks.isNil = true → ks = .nil := by cases ks <;> simp [Fo.isNil]
    split
    · rename_i hn
      rw [if_pos hn] at h1
      simp only [Bool.and_eq_true, Bool.not_eq_true', decide_eq_false_iff_not, decide_eq_true_eq] at h1
      exact ⟨h1.1.1.1, List.length_eq_zero_iff.1 h1.1.2, hnil h1.2⟩
    · rename_i hn
      rw [if_neg hn] at h1
      simp only [Bool.and_eq_true, Bool.not_eq_true', decide_eq_true_eq, Bool.and_eq_false_iff, Bool.not_eq_false'] at h1
      refine ⟨h1.1.1.1.2, ih1 h1.1.2, fun hv => ?_⟩
      rcases h1.2 with h3 | h3
      · rw [hv] at h3; cases h3
      · exact hnil h3
theorem lk_events (f : Fo) : ∀ k : Lk, f.may = true → k.err = 0 → (f.events.foldl lkStep k).err = 0 ∧ (f.events.foldl lkStep k).stack = k.stack := by
  induction f with
  | nil => intro k _ h; exact ⟨h, rfl⟩
  | cons n t es ks r ih1 ih2 =>
    intro k h hk
    simp only [Fo.may, Bool.and_eq_true] at h
    obtain ⟨h1, h2⟩ := h
    simp only [Fo.events]
    by_cases hn : n = []
    · rw [if_pos hn] at h1 ⊢
      simp only [Bool.and_eq_true, Bool.not_eq_true', decide_eq_false_iff_not, decide_eq_true_eq] at h1
      have he : evR ⟨0, [], t, []⟩ = true := by simp [evR, h1.1.1.1, h1.1.1.2]
      rw [List.foldl_append, List.foldl_cons, List.foldl_nil, lk_next hk he, if_neg (by simp), if_neg (by simp), if_neg (by simp)]
      have h3 := ih2 ⟨k.stack, k.most, 0, 0, k.good + 1⟩ h2 rfl
      exact h3
    · rw [if_neg hn] at h1 ⊢
      simp only [Bool.and_eq_true, Bool.not_eq_true', decide_eq_true_eq, Bool.and_eq_false_iff, Bool.not_eq_false'] at h1
      obtain ⟨⟨⟨⟨a1, a2⟩, a3⟩, a4⟩, a5⟩ := h1
      by_cases hv : voidR n = true
      · rw [if_pos hv]
        have he : evR ⟨3, n, [], es⟩ = true := by simp [evR, mayR, Ev.start, a1, a3, hv]
        rw [List.foldl_append, List.foldl_cons, List.foldl_nil, lk_next hk he, if_neg (by simp), if_pos (by rfl)]
        have h3 := ih2 ⟨k.stack, max k.most (k.stack.length + 1), 0, 0, k.good + 1⟩ h2 rfl
        exact h3
      · rw [if_neg hv]
        have hv0 : voidR n = false := by simpa using hv
        have he : evR ⟨1, n, [], es⟩ = true := by simp [evR, mayR, Ev.start, a1, a3, hv0]
        have he2 : evR ⟨2, n, [], []⟩ = true := by simp [evR, mayR, Ev.close, a1]
        rw [List.foldl_append, List.cons_append, List.foldl_cons, List.foldl_append, List.foldl_cons, List.foldl_nil, lk_next hk he, if_pos rfl]
        obtain ⟨h3, h4⟩ := ih1 ⟨k.stack ++ [n], max k.most (k.stack.length + 1), 0, 0, k.good + 1⟩ a4 rfl
        rw [lk_next h3 he2, if_neg (by simp), if_neg (by simp), if_pos (by rfl), h4, if_pos (by simp)]
        obtain ⟨h5, h6⟩ := ih2 _ h2 (show (⟨(k.stack ++ [n]).dropLast, _, 0, 0, _⟩ : Lk).err = 0 from rfl)
        refine ⟨h5, h6.trans ?_⟩
        simp
theorem lk_whole {f : Fo} (h : f.may = true) : (lkR f.events).err = 0 ∧ (lkR f.events).stack = [] := lk_events f lk0 h rfl
set_option maxHeartbeats 4000000 in
theorem domEvents_ok (f : FoM) (p : Option Addr) (c : Nat) (hw : f.wt ≤ 1048576) (w0 w : World) (cs : List Plot) (hS0 : Sep w0 w cs) (hA : Asc w) (hT : Tre w p f) :
    CallsR Tryd.prog 19 #[.slice p f.len c] w fun v w' => ∃ (q : Option Addr) (cc : Nat) (ms : List EvM), v = .tuple #[.slice q ms.length cc, int (if f.fo.may then 0 else 210)] ∧ evs ms = (if f.fo.may then f.fo.events else []) ∧ Frm w w' ∧ Sep w0 w' (pRow 4 q ms.length cc (ms.flatMap EvM.cells) :: pMany (ms.map EvM.row) :: cs) := by
  have hS := ((Sep.start w).zero).push (c := pRow 4 none 0 0 []) (Frm.refl _) (Row.nil _ 4) (rb_nil _)
  refine enter (l := [.slice p f.len c]) Tryd.func19 rfl Tryd.ntmps19 (by kernel_rfl) rfl ?_
  refine sgo ?_
  refine wlpure (domCheck_ok (f.size + 1) f p c (Nat.lt_succ_self _) hw w hA hT) fun w1 hf1 => ?_
  replace hS := hS.grow hf1
  refine sgo ?_
  cases hm : f.fo.may with
  | true =>
    refine sgo ?_
    refine wlcall (domEvents1_ok (f.size + 1) f p c (Nat.lt_succ_self _) hw [] none 0 (by rw [List.length_nil]; omega) w w1 [] hS hA hT (by rw [List.length_nil]; omega)) ?_
    rintro _ w2 ⟨q, cc, ms, rfl, hms, hS⟩
    refine sgo ?_
    (first | refine fp1 (.inl rfl) rfl rfl ?_ | refine fp2 (.inl rfl) rfl rfl rfl ?_ | refine fp3 (.inl rfl) rfl rfl rfl rfl ?_ | refine fp0 (.inr rfl) rfl ?_ | refine fp0 (.inl rfl) rfl ?_ | refine fp1 (.inr rfl) rfl rfl ?_)
    exact ⟨q, cc, ms, rfl, hms, hS.frm, hS0.seq (ds := [_, _]) hS⟩
  | false =>
    refine sgo ?_
    (first | refine fp1 (.inl rfl) rfl rfl ?_ | refine fp2 (.inl rfl) rfl rfl rfl ?_ | refine fp3 (.inl rfl) rfl rfl rfl rfl ?_ | refine fp0 (.inr rfl) rfl ?_ | refine fp0 (.inl rfl) rfl ?_ | refine fp1 (.inr rfl) rfl rfl ?_)
    exact ⟨none, 0, [], rfl, rfl, hS.frm, hS0.seq (ds := [_, _]) hS⟩
set_option maxHeartbeats 4000000 in
theorem refFold_ok (g : Fo) (ms : List EvM) (p : Option Addr) (c : Nat) (hw : g.wt ≤ 1048576) (hm : g.may = true) (hev : evs ms = g.events) (hc : ms.length ≤ c) (hn : ms.length ≤ 1048576) (hs : ∀ m ∈ ms, m.e.small) (w0 w : World) (cs : List Plot) (hS0 : Sep w0 w cs) (hE : Evs w p ms) :
    CallsR Tryd.prog 23 #[.slice p ms.length c] w fun v w' => ∃ (q : Option Addr) (cc : Nat) (L : List NdM), v = .tuple #[.slice q L.length cc, .bool true] ∧ L.map NdM.nd = g.merge [] ∧ Frm w w' ∧ Sep w0 w' (pRow 4 q L.length cc (L.flatMap NdM.cells) :: pMany (L.flatMap NdM.rows) :: cs) := by
  have hS := Sep.start w
  obtain ⟨hl1, hl2⟩ := lk_whole hm
  rw [← hev] at hl1 hl2
  have hcomp : PureC Tryd.prog 51 #[.slice p ms.length c] w (.bool true) := by
    have hS := Sep.start w
    refine enter (l := [.slice p ms.length c]) Tryd.func51 rfl Tryd.ntmps51 (by kernel_rfl) rfl ?_
    refine sgo ?_
    refine wlcall (at_ok ms p c hn hs w w _ hS hE) ?_
    rintro _ w1 ⟨q1, c1, rfl, -, hS⟩
    refine sgo ?_
    refine salloc hS fun b3 w3 hS => ?_
    refine sgo ?_
    refine ssta (vs := [.slice q1 0 c1, int (lkR (evs ms)).most, int (lkR (evs ms)).at_, int 0, int (lkR (evs ms)).good]) hS 0 (fun w4 hS => ?_) (hy := by show Value.agg ⟨Lk.cells _ _ _⟩ = _; unfold Lk.cells; rw [hl1, hl2]; rfl)
    replace hS : Sep w w4 [pOwn b3 [.slice q1 0 c1, int (lkR (evs ms)).most, int (lkR (evs ms)).at_, int 0, int (lkR (evs ms)).good], pRow 1 q1 (lkR (evs ms)).stack.length c1 (strs (lkR (evs ms)).stack)] := hS
    refine sgo ?_
    (first | refine fp1 (.inl rfl) rfl rfl ?_ | refine fp2 (.inl rfl) rfl rfl rfl ?_ | refine fp3 (.inl rfl) rfl rfl rfl rfl ?_ | refine fp0 (.inr rfl) rfl ?_ | refine fp0 (.inl rfl) rfl ?_ | refine fp1 (.inr rfl) rfl rfl ?_); refine ⟨?_, by (first | exact Frm.refl _ | assumption | exact Go.Sv.Sep.frm (by assumption) | (refine Frm.trans ?_ (by assumption); first | exact Frm.refl _ | assumption))⟩; (try simp only [realB, rv_true, Nat.reduceBEq, cond_true, cond_false, entG, real_lif, updGL])
    rfl
  refine enter (l := [.slice p ms.length c]) Tryd.func23 rfl Tryd.ntmps23 (by kernel_rfl) rfl ?_
  refine sgo ?_
  refine wlpure hcomp fun w1 hf1 => ?_
  replace hS := hS.grow hf1
  refine sgo ?_
  refine wlcall (refFold1_ok (g.size + 1) g.list [] ms p c (by rw [of_list0]; exact Nat.lt_succ_self _) (by rw [of_list0]; exact hw) (by rw [of_list0]; exact may_plain g hm) (.inl rfl) (by rw [of_list0, List.append_nil]; exact hev) hc (by omega) hs w w1 _ hS hE) ?_
  rintro _ w2 ⟨q, cc, L, p2, c2, ms2, rfl, hL, hm2, -, -, -, -, hS⟩
  refine sgo ?_
  (first | refine fp1 (.inl rfl) rfl rfl ?_ | refine fp2 (.inl rfl) rfl rfl rfl ?_ | refine fp3 (.inl rfl) rfl rfl rfl rfl ?_ | refine fp0 (.inr rfl) rfl ?_ | refine fp0 (.inl rfl) rfl ?_ | refine fp1 (.inr rfl) rfl rfl ?_)
  exact ⟨q, cc, L, rfl, by rw [hL, ← merge_of, of_list0], hS.frm, hS0.seq (ds := [_, _]) (hS.sel 2 [0, 1])⟩
theorem ev_small_tree (f : Fo) (hw : f.wt ≤ 1048576) : ∀ e ∈ f.events, e.small := by
  induction f with
  | nil => intro e he; cases he
  | cons n t es ks r ih1 ih2 =>
    intro e he
    simp only [Fo.wt] at hw
    have hat : ∀ x ∈ es, x.small := fun x hx => by
      have h1 := sum_mem At.wt es hx
      have h2 : At.wt x = x.n.length + x.v.length + 3 := rfl
      exact ⟨by omega, by omega⟩
    have hal : es.length ≤ 1048576 := by
      have := sum_len At.wt es (by intro x _; unfold At.wt; omega)
      omega
    simp only [Fo.events, List.mem_append] at he
    rcases he with he | he
    · split at he
      · rw [List.mem_singleton.1 he]
        exact ⟨Nat.zero_le _, by dsimp only; omega, Nat.zero_le _, fun x hx => by cases hx⟩
      · split at he
        · rw [List.mem_singleton.1 he]
          exact ⟨by dsimp only; omega, Nat.zero_le _, hal, hat⟩
        · simp only [List.cons_append, List.mem_cons, List.mem_append, List.not_mem_nil, or_false] at he
          rcases he with rfl | he | rfl
          · exact ⟨by dsimp only; omega, Nat.zero_le _, hal, hat⟩
          · exact ih1 (by omega) e he
          · exact ⟨by dsimp only; omega, Nat.zero_le _, Nat.zero_le _, fun x hx => by cases hx⟩
    · exact ih2 (by omega) e he
end Go.Proofs.YtcdogceabkpnmaaDoor

/-
  Chapter 21: DomEvents walked.
-/
set_option linter.unusedSimpArgs false
set_option linter.unusedVariables false
set_option linter.unnecessarySimpa false
namespace Go.Proofs.YtcdogceabkpnmaaDoor
open Go Go.Sv Go.RowKit
theorem flat_evname (l1 l2 : List EvM) (m : EvM) (v : List UInt8) : ((l1 ++ m :: l2).flatMap EvM.cells).take (l1.length * 4 + 1) ++ [str v] ++ ((l1 ++ m :: l2).flatMap EvM.cells).drop (l1.length * 4 + 1 + 1) = (l1 ++ { m with e := { m.e with name := v } } :: l2).flatMap EvM.cells := by
  have hF := fm_len EvM.len l1
  rw [List.flatMap_append, List.flatMap_append, List.flatMap_cons, List.flatMap_cons]
  generalize l1.flatMap EvM.cells = F at *
  rw [← hF, List.take_append, List.drop_append, List.take_of_length_le (by omega), List.drop_eq_nil_of_le (by omega)]
  rw [show F.length + 1 - F.length = 1 by omega, show F.length + 1 + 1 - F.length = 2 by omega]
  simp [EvM.cells, Ev.cells]
set_option maxHeartbeats 8000000 in
theorem domEventsLaw_ok (f : FoM) (p : Option Addr) (c : Nat) (hw : f.wt ≤ 1048576) (w : World) (hA : Asc w) (hT : Tre w p f) : PureC Tryd.prog 5 #[.slice p f.len c] w (.bool true) := by
  have hS := Sep.start w
  have hew := ev_wt f
  have hsm : ∀ (ms : List EvM), evs ms = f.fo.events → ∀ m ∈ ms, m.e.small := by
    intro ms h m hm
    refine ev_small_tree f.fo (by rw [← wt_fo]; exact hw) m.e ?_
    rw [← h]
    exact List.mem_map.2 ⟨m, hm, rfl⟩
  have hlen : ∀ (ms : List EvM), evs ms = f.fo.events → ms.length ≤ 1048576 := by
    intro ms h
    rw [← evs_len, h]; omega
  refine enter (l := [.slice p f.len c]) Tryd.func5 rfl Tryd.ntmps5 (by kernel_rfl) rfl ?_
  refine sgo ?_
  refine wlcall (copy21_ok (f.size + 1) f p c (Nat.lt_succ_self _) hw w w _ hS hT) ?_
  rintro _ w1 ⟨qg, cg, G, rfl, hG, -, hS⟩
  have hGw : (FoM.of G).wt ≤ 1048576 := by rw [wt_of_nd hG]; exact hw
  have hGf := fo_copy hG
  refine sgo ?_
  have hM := domEvents_ok (FoM.of G) qg cg hGw w w1 _ hS (hA.frm hS.frm) (Sep.treL hS 0 1 rfl rfl)
  rw [len_of, hGf] at hM
  refine wlcall hM ?_
  clear hM
  rintro _ w2 ⟨q1, c1, M1, rfl, hM1, -, hS⟩
  refine sgo ?_
  have hM := domEvents_ok (FoM.of G) qg cg hGw w w2 _ hS (hA.frm hS.frm) (Sep.treL hS 2 3 rfl rfl)
  rw [len_of, hGf] at hM
  refine wlcall hM ?_
  clear hM
  rintro _ w3 ⟨q2, c2, M2, rfl, hM2, -, hS⟩
  refine sgo ?_
  refine wlpure (refMay21_ok (f.size + 1) f p c (Nat.lt_succ_self _) hw _ (hT.frm hS.frm)) fun w4 hf4 => ?_
  replace hS := hS.grow hf4
  cases hm : f.fo.may with
  | false =>
    rw [hm] at hM1
    have hM0 : M1 = [] := by
      have := congrArg List.length hM1
      rw [evs_len] at this
      exact List.length_eq_zero_iff.1 this
    subst hM0
    refine sgo ?_
    refine wlcallgp (vals := []) (fun _ => lives21_ok _ (hA.frm hS.frm)) (fun w13 hf13 => ?_) (ha := fun _ => rfl)
    replace hS := hS.grow hf13
    refine sgo ?_
    (first | refine fp1 (.inl rfl) rfl rfl ?_ | refine fp2 (.inl rfl) rfl rfl rfl ?_ | refine fp3 (.inl rfl) rfl rfl rfl rfl ?_ | refine fp0 (.inr rfl) rfl ?_ | refine fp0 (.inl rfl) rfl ?_ | refine fp1 (.inr rfl) rfl rfl ?_); refine ⟨?_, by (first | exact Frm.refl _ | assumption | exact Go.Sv.Sep.frm (by assumption) | (refine Frm.trans ?_ (by assumption); first | exact Frm.refl _ | assumption))⟩; (try simp only [realB, rv_true, Nat.reduceBEq, cond_true, cond_false, entG, real_lif, updGL])
    try rfl
  | true =>
    rw [hm, if_pos rfl] at hM1 hM2
    have hl1 := hlen M1 hM1
    have hl2 := hlen M2 hM2
    have hs1 := hsm M1 hM1
    have hs2 := hsm M2 hM2
    refine sgo ?_
    refine wlcall (refEvents_ok (f.size + 1) f p c (Nat.lt_succ_self _) hw w w4 _ hS hT) ?_
    rintro _ w5 ⟨q3, c3, W, rfl, hW, hWa, hS⟩
    have hlW := hlen W hW
    have hsW := hsm W hW
    refine sgo ?_
    have hEW : Evs w5 q3 W := ⟨hS.im 0 rfl, fun m hm => (hWa m hm).frm hS.frm⟩
    have hE := sameEvents_ok M1 W q1 q3 c1 c3 (by omega) (by omega) hs1 hsW w5 (Sep.evs hS 3 4 rfl rfl) hEW
    rw [decide_eq_true (hM1.trans hW.symm)] at hE
    refine wlcallgp (vals := [.slice q1 M1.length c1, .slice q3 W.length c3]) (fun _ => hE) fun w6 hf6 => ?_
    clear hE hEW
    replace hS := hS.grow hf6
    refine sgo ?_
    have hcap := (hS.row 3 rfl).le_cap.1
    refine wlcall (refFold_ok f.fo M1 q1 c1 (by rw [← wt_fo]; exact hw) hm hM1 hcap hl1 hs1 w w6 _ hS (Sep.evs hS 3 4 rfl rfl)) ?_
    rintro _ w7 ⟨q4, c4, K, rfl, hK, -, hS⟩
    have hKw : (FoM.of K).wt ≤ 1048576 := Nat.le_trans (merged_wt hK) hw
    refine sgo ?_
    have hrun : ∀ w' cs', Sep w w' cs' → CallsR Tryd.prog 10 #[.slice p f.len c] w' fun v w'' => ∃ (q : Option Addr) (cc : Nat) (L : List NdM), v = .slice q L.length cc ∧ L.map NdM.nd = f.list.map NdM.nd ∧ Frm w' w'' ∧ Sep w w'' (pRow 4 q L.length cc (L.flatMap NdM.cells) :: pMany (L.flatMap NdM.rows) :: cs') := fun w' cs' h => copy21_ok (f.size + 1) f p c (Nat.lt_succ_self _) hw w w' cs' h (hT.frm h.frm)
    refine wlcallgt (vals := [.slice p f.len c]) (hrun _ _ hS) (fun v w8 hR => ?_) rfl
    obtain ⟨q5, c5, C, rfl, hC, -, hS⟩ := hR
    have hCw : (FoM.of C).wt ≤ 1048576 := by rw [wt_of_nd hC]; exact hw
    refine wlcallgt (vals := [.slice q5 C.length c5]) (refMerge21_ok ((FoM.of C).size + 1) C q5 c5 (Nat.lt_succ_self _) hCw w w8 _ hS) (fun v w9 hR => ?_) rfl
    obtain ⟨q6, c6, N, rfl, hN, hS⟩ := hR
    rw [fo_copy hC] at hN
    have hNw := Nat.le_trans (merged_wt hN) hw
    have hE := refEqual21_ok ((FoM.of K).size + 1) (FoM.of K) (FoM.of N) q4 q6 c4 c6 (Nat.lt_succ_self _) hKw hNw w9 (Sep.treL hS 2 3 rfl rfl) (Sep.treL hS 0 1 rfl rfl)
    rw [len_of, len_of, decide_eq_true (fo_same (hK.trans hN.symm))] at hE
    refine wlcallgp (vals := [.slice q4 K.length c4, .slice q6 N.length c6]) (fun _ => hE) fun w10 hf10 => ?_
    clear hE
    replace hS := hS.grow hf10
    replace hS : Sep w w10 [pRow 4 q1 M1.length c1 (M1.flatMap EvM.cells), pMany (M1.map EvM.row), pRow 4 q3 W.length c3 (W.flatMap EvM.cells), pRow 4 q2 M2.length c2 (M2.flatMap EvM.cells), pMany (M2.map EvM.row), pRow 4 qg G.length cg (G.flatMap NdM.cells), pMany (G.flatMap NdM.rows)] := hS.sel 11 [7, 8, 4, 5, 6, 9, 10]
    refine sgo ?_
    refine wcloop (X := Nat × List EvM) (fun x => [(0, .slice p f.len c), (3, .slice qg G.length cg), (4, .slice q1 M1.length c1), (6, .slice q2 M2.length c2), (8, .slice q3 W.length c3), (64, int M1.length), (65, int x.1)])
      (fun x wr => x.1 ≤ M1.length ∧ x.2.length = M1.length ∧ x.2.drop x.1 = M1.drop x.1 ∧ Sep w wr [pRow 4 q1 M1.length c1 (x.2.flatMap EvM.cells), pMany ((M1.drop x.1).map EvM.row), pRow 4 q3 W.length c3 (W.flatMap EvM.cells), pRow 4 q2 M2.length c2 (M2.flatMap EvM.cells), pMany (M2.map EvM.row), pRow 4 qg G.length cg (G.flatMap NdM.cells), pMany (G.flatMap NdM.rows)])
      (fun x => M1.length - x.1) (0, M1) ⟨rfl, rfl, rfl, rfl, rfl, rfl, rfl, trivial⟩ ⟨Nat.zero_le _, rfl, rfl, hS⟩ ?_
    clear hS
    rintro ⟨i, L⟩ wr ρ ⟨hil, hLl, hdL, hS⟩
    dsimp only at *
    refine sgo ?_
    (show WC _ _ _ _ _ _ _; first | refine WC_dec rfl (fun hc => ?_) (fun hc => ?_) | refine WC_cond rfl (fun hc => ?_) (fun hc => ?_))
    · have hlt : i < M1.length := by omega
      have hx : M1[i]? = some M1[i] := List.getElem?_eq_getElem hlt
      have hxL : L[i]? = some M1[i] := by
        have h1 := congrArg (fun l : List EvM => l[0]?) hdL
        simp only [List.getElem?_drop, Nat.add_zero] at h1
        rw [h1, hx]
      have hfl := fm_len EvM.len L
      have hps : ∃ a, q1 = some a := (hS.row 0 rfl).sg.some (by omega)
      have hdr : M1.drop i = M1[i] :: M1.drop (i + 1) := List.drop_eq_getElem_cons hlt
      have hes := (hs1 _ (List.getElem_mem hlt)).attrs
      rw [hdr] at hS
      generalize M1[i] = m at *
      clear hc
      replace hS := Sep.uncons (hS.front 1 rfl)
      obtain ⟨l1, l2, hL2, hl1'⟩ : ∃ l1 l2, L = l1 ++ m :: l2 ∧ l1.length = i := by
        obtain ⟨h1, h2⟩ := List.getElem?_eq_some_iff.1 hxL
        exact ⟨L.take i, L.drop (i + 1), by rw [← h2, List.getElem_cons_drop, List.take_append_drop], by rw [List.length_take]; omega⟩
      obtain ⟨⟨kd, nm, tx, es⟩, ap, ac⟩ := m
      subst hL2
      have hdl2 : l2 = M1.drop (i + 1) := by
        rw [List.drop_append, List.drop_eq_nil_of_le (by omega), show i - l1.length = 0 by omega, hdr] at hdL
        simpa using hdL
      subst hl1'
      dsimp only at *
      replace hS : Sep w wr (pRow 4 q1 M1.length c1 ((l1 ++ ⟨⟨kd, nm, tx, es⟩, ap, ac⟩ :: l2).flatMap EvM.cells) :: pRow 2 ap es.length ac (es.flatMap At.cells) :: pMany ((M1.drop (l1.length + 1)).map EvM.row) :: [pRow 4 q3 W.length c3 (W.flatMap EvM.cells), pRow 4 q2 M2.length c2 (M2.flatMap EvM.cells), pMany (M2.map EvM.row), pRow 4 qg G.length cg (G.flatMap NdM.cells), pMany (G.flatMap NdM.rows)]) := hS.sel 3 [2, 0, 1]
      refine sgo ?_
      refine srst (v := str [63]) (j := l1.length * 4 + 1) hS 0 (fun w2 hS => ?_) (hk := by rw [hfl, hLl]; omega)
      replace hS : Sep w w2 (pRow 4 q1 M1.length c1 ((l1 ++ ⟨⟨kd, [63], tx, es⟩, ap, ac⟩ :: l2).flatMap EvM.cells) :: pRow 2 ap es.length ac (es.flatMap At.cells) :: pMany ((M1.drop (l1.length + 1)).map EvM.row) :: [pRow 4 q3 W.length c3 (W.flatMap EvM.cells), pRow 4 q2 M2.length c2 (M2.flatMap EvM.cells), pMany (M2.map EvM.row), pRow 4 qg G.length cg (G.flatMap NdM.cells), pMany (G.flatMap NdM.rows)]) := by
        have := flat_evname l1 l2 ⟨⟨kd, nm, tx, es⟩, ap, ac⟩ [63]
        rw [← this]; exact hS
      obtain ⟨L3, hL3⟩ : ∃ L3, L3 = l1 ++ (⟨⟨kd, [63], tx, es⟩, ap, ac⟩ : EvM) :: l2 := ⟨_, rfl⟩
      have hx3 : L3[l1.length]? = some ⟨⟨kd, [63], tx, es⟩, ap, ac⟩ := by rw [hL3]; simp
      have hLl3 : L3.length = M1.length := by rw [← hLl, hL3]; simp
      have hdr3 : L3.drop (l1.length + 1) = M1.drop (l1.length + 1) := by rw [hL3, ← hdl2]; simp
      rw [← hL3] at hS
      obtain ⟨g0, g1, g2, g3⟩ := ev_get hx3
      dsimp only at g0 g1 g2 g3
      have hfl3 := fm_len EvM.len L3
      clear hL3 hxL hdL hLl hfl
      have hsg3 : Sg w2 q1 (L3.flatMap EvM.cells) := (hS.row 0 rfl).sg
      refine sgo ?_
      refine wcloop (X := Nat × List Value) (fun x => [(0, .slice p f.len c), (3, .slice qg G.length cg), (4, .slice q1 M1.length c1), (6, .slice q2 M2.length c2), (8, .slice q3 W.length c3), (11, int l1.length), (64, int M1.length), (65, int l1.length), (77, int es.length), (78, int x.1)])
        (fun x wr => x.1 ≤ es.length ∧ Sep w wr (pRow 4 q1 M1.length c1 (L3.flatMap EvM.cells) :: pRow 2 ap es.length ac x.2 :: pMany ((M1.drop (l1.length + 1)).map EvM.row) :: [pRow 4 q3 W.length c3 (W.flatMap EvM.cells), pRow 4 q2 M2.length c2 (M2.flatMap EvM.cells), pMany (M2.map EvM.row), pRow 4 qg G.length cg (G.flatMap NdM.cells), pMany (G.flatMap NdM.rows)]))
        (fun x => es.length - x.1) (0, es.flatMap At.cells) ⟨rfl, rfl, rfl, rfl, rfl, rfl, rfl, rfl, rfl, rfl, trivial⟩ ⟨Nat.zero_le _, hS⟩ ?_
      clear hS hsg3
      rintro ⟨j, xs⟩ wr2 ρ4 ⟨hjl, hS⟩
      dsimp only at *
      have hsg3 : Sg wr2 q1 (L3.flatMap EvM.cells) := (hS.row 0 rfl).sg
      refine sgo ?_
      (show WC _ _ _ _ _ _ _; first | refine WC_dec rfl (fun hc => ?_) (fun hc => ?_) | refine WC_cond rfl (fun hc => ?_) (fun hc => ?_))
      · have hlt2 : j < es.length := by omega
        have hxl : xs.length = es.length * 2 := (hS.row 1 rfl).len
        have hqp : ∃ a, ap = some a := (hS.row 1 rfl).sg.some (by omega)
        clear hc
        refine sgo ?_
        refine srst (v := str [63]) (j := j * 2) hS 1 (fun w6 hS => ?_) (hk := by omega)
        refine sgo ?_
        exact ⟨(j + 1, _), ⟨rfl, rfl, rfl, rfl, rfl, rfl, rfl, rfl, rfl, rfl, trivial⟩, ⟨hlt2, hS⟩, (by (try dsimp only); omega)⟩
      · clear hc
        refine sgo ?_
        exact ⟨(l1.length + 1, L3), ⟨rfl, rfl, rfl, rfl, rfl, rfl, rfl, trivial⟩, ⟨hlt, hLl3, hdr3, hS.sel 3 [0, 2]⟩, (by (try dsimp only); omega)⟩
    · clear hc
      refine sgo ?_
      have hEW : Evs wr q3 W := ⟨hS.im 2 rfl, fun m hm => (hWa m hm).frm hS.frm⟩
      have hE := sameEvents_ok M2 W q2 q3 c2 c3 (by omega) (by omega) hs2 hsW wr (Sep.evs hS 3 4 rfl rfl) hEW
      rw [decide_eq_true (hM2.trans hW.symm)] at hE
      refine wlpure hE fun w11 hf11 => ?_
      clear hE hEW
      replace hS := hS.grow hf11
      refine sgo ?_
      have hE := refEqual21_ok ((FoM.of G).size + 1) (FoM.of G) f qg p cg c (Nat.lt_succ_self _) hGw hw w11 (Sep.treL hS 5 6 rfl rfl) (hT.frm hS.frm)
      rw [len_of, decide_eq_true hGf] at hE
      refine wlcallgp (vals := [.slice qg G.length cg, .slice p f.len c]) (fun _ => hE) fun w12 hf12 => ?_
      clear hE
      replace hS := hS.grow hf12
      refine sgo ?_
      refine wlcallgp (vals := []) (fun _ => lives21_ok _ (hA.frm hS.frm)) (fun w13 hf13 => ?_) (ha := fun _ => rfl)
      replace hS := hS.grow hf13
      refine sgo ?_
      (first | refine fp1 (.inl rfl) rfl rfl ?_ | refine fp2 (.inl rfl) rfl rfl rfl ?_ | refine fp3 (.inl rfl) rfl rfl rfl rfl ?_ | refine fp0 (.inr rfl) rfl ?_ | refine fp0 (.inl rfl) rfl ?_ | refine fp1 (.inr rfl) rfl rfl ?_); refine ⟨?_, by (first | exact Frm.refl _ | assumption | exact Go.Sv.Sep.frm (by assumption) | (refine Frm.trans ?_ (by assumption); first | exact Frm.refl _ | assumption))⟩; (try simp only [realB, rv_true, Nat.reduceBEq, cond_true, cond_false, entG, real_lif, updGL])
      try rfl
end Go.Proofs.YtcdogceabkpnmaaDoor

