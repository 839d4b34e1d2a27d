/- Walks: the automaton: a state's next one; an edge is set. -/
import Derived.Test.YtnheonhmnepifaaDoorPA4
import Derived.Test.YtnheonhmnepifaaDoorLN0
namespace Go.Proofs
open Go Go.Abs
set_option linter.unusedSimpArgs false
set_option linter.unusedVariables false
set_option maxRecDepth 20000
def encE (e : UInt8 × Nat) : List AV := [.int .u8 (e.1.toNat : Int), .int .i64 (e.2 : Int)]
def flatE (es : List (UInt8 × Nat)) : List AV := (es.map encE).flatten
theorem flatE_len (es : List (UInt8 × Nat)) : (flatE es).length = es.length * 2 := by
  unfold flatE
  induction es with
  | nil => rfl
  | cons e es ih => simp only [List.map_cons, List.flatten_cons, List.length_append, List.length_cons, ih, encE, List.length_nil]; omega
theorem flatE_drop : ∀ (es : List (UInt8 × Nat)) (i : Nat), (flatE es).drop (i * 2) = flatE (es.drop i)
  | es, 0 => by simp
  | [], i + 1 => by simp [flatE]
  | e :: es, i + 1 => by
    have : (i + 1) * 2 = i * 2 + 2 := by omega
    rw [this, List.drop_succ_cons, ← flatE_drop es i]
    simp [flatE, encE]
theorem flatE_get {es : List (UInt8 × Nat)} {i : Nat} {e : UInt8 × Nat} (h : es[i]? = some e) : ((flatE es).drop (i * 2)).take 2 = encE e ∧ i * 2 + 2 ≤ (flatE es).length := by
  obtain ⟨hlt, rfl⟩ := List.getElem?_eq_some_iff.1 h
  rw [flatE_drop, flatE_len, List.drop_eq_getElem_cons hlt]
  refine ⟨?_, by omega⟩
  unfold flatE
  rw [List.map_cons, List.flatten_cons]
  rfl
theorem flatE_head {es : List (UInt8 × Nat)} {i : Nat} {e : UInt8 × Nat} (h : es[i]? = some e) : ((flatE es).drop (i * 2)).head? = some (.int .u8 (e.1.toNat : Int)) := by
  obtain ⟨hlt, rfl⟩ := List.getElem?_eq_some_iff.1 h
  rw [flatE_drop, List.drop_eq_getElem_cons hlt]
  unfold flatE
  rw [List.map_cons, List.flatten_cons]
  rfl
theorem flatE_set : ∀ {es : List (UInt8 × Nat)} {i : Nat} {c : UInt8} {t u : Nat}, es[i]? = some (c, t) → (flatE es).set (i * 2 + 1) (.int .i64 (u : Int)) = flatE (es.set i (c, u))
  | [], i, c, t, u, h => by simp at h
  | e :: es, 0, c, t, u, h => by
    simp at h
    subst h
    simp [flatE, encE]
  | e :: es, i + 1, c, t, u, h => by
    have ih := flatE_set (es := es) (i := i) (u := u) (by simpa using h)
    have : (i + 1) * 2 + 1 = (i * 2 + 1) + 1 + 1 := by omega
    rw [this]
    simp only [flatE, List.map_cons, List.flatten_cons, encE, List.cons_append, List.nil_append, List.set_cons_succ] at ih ⊢
    rw [ih]
theorem flatE_app (es : List (UInt8 × Nat)) (c : UInt8) (t : Nat) : flatE es ++ [.int .u8 (c.toNat : Int), .int .i64 (t : Int)] = flatE (es ++ [(c, t)]) := by
  simp [flatE, encE]
/-- The first place of a sign among the edges. -/
theorem nxE_at {c : UInt8} : ∀ {es : List (UInt8 × Nat)} {i : Nat} {t : Nat}, es[i]? = some (c, t) → (∀ j e, j < i → es[j]? = some e → ¬ e.1 = c) → nxE es c = some t ∧ ∀ u, setE es c u = es.set i (c, u)
  | [], i, t, h, _ => by simp at h
  | e :: es, 0, t, h, _ => by
    simp at h
    subst h
    exact ⟨by simp [nxE], fun u => by simp [setE]⟩
  | e :: es, i + 1, t, h, hn => by
    have he : ¬ e.1 = c := hn 0 e (by omega) (by simp)
    obtain ⟨h1, h2⟩ := nxE_at (es := es) (i := i) (t := t) (by simpa using h) (fun j x hj hx => hn (j + 1) x (by omega) (by simpa using hx))
    exact ⟨by rw [nxE, if_neg he]; exact h1, fun u => by rw [setE, if_neg he, h2, List.set_cons_succ]⟩
theorem nxE_no {c : UInt8} : ∀ {es : List (UInt8 × Nat)}, (∀ j e, j < es.length → es[j]? = some e → ¬ e.1 = c) → nxE es c = none ∧ ∀ u, setE es c u = es ++ [(c, u)]
  | [], _ => ⟨rfl, fun _ => rfl⟩
  | e :: es, hn => by
    have he : ¬ e.1 = c := hn 0 e (by simp) (by simp)
    obtain ⟨h1, h2⟩ := nxE_no (es := es) (fun j x hj hx => hn (j + 1) x (by simp; omega) (by simpa using hx))
    exact ⟨by rw [nxE, if_neg he]; exact h1, fun u => by rw [setE, if_neg he, h2]; rfl⟩
/-- A state's edges, as they lie in the heap. -/
def EdgeV (G : Heap) (v : AV) (es : List (UInt8 × Nat)) : Prop := (v = .sl [] .exact ∧ es = []) ∨ ∃ e, v = .ms e 0 es.length 2 ∧ G e = some (.cells (flatE es))
def nxI (es : List (UInt8 × Nat)) (c : UInt8) : Int := match nxE es c with
  | some t => (t : Int)
  | none => -1
theorem u8_eq {a b : UInt8} : decide ((a.toNat : Int) = (b.toNat : Int)) = decide (a = b) := by
  rw [decide_eq_decide]
  exact ⟨fun h => UInt8.toNat_inj.1 (by omega), fun h => by rw [h]⟩
set_option maxHeartbeats 1600000 in
theorem next_calls {G : Heap} {sid s : Nat} {cs : List AV} {v : AV} {es : List (UInt8 × Nat)} {c : UInt8} (hs : G sid = some (.cells cs)) (hv : (cs.drop (s + 3)).head? = some v) (hE : EdgeV G v es) (hl : es.length ≤ 1000000) :
    ACalls Tryd.prog 118 [.ptr sid s, .int .u8 (c.toNat : Int)] G fun x G' => x = .int .i64 (nxI es c) ∧ G' = G := by
  rcases hE with ⟨rfl, rfl⟩ | ⟨e, rfl, he⟩
  · refine ACalls.of_code (X := { pure := pu0 }) pu0_ok Tryd.func118 (by kernel_rfl) rfl (by kernel_rfl) (Nat.le_of_ble_eq_true rfl) ?_
    simp -implicitDefEqProofs only [go_sem, tys, regs0, Nat.reduceEqDiff, Nat.reduceAdd, Nat.reduceLeDiff, Nat.reduceLT, Nat.reduceMul, Int.natCast_one, Int.natCast_zero, Int.reduceEq, Int.reduceLT, Int.reduceLE, Int.reduceAdd, Int.reduceSub, Int.reduceToNat, UInt8.reduceToNat, Tryd.f118, hs, hv]
    refine aloop_intro (σ := Unit) (fun _ => [(11, .int .i64 0), (12, .int .i64 0)]) (fun _ G' => G' = G) (fun _ => 0) () ?_ rfl ?_
    · simp -implicitDefEqProofs only [go_sem, tys, regs0, Nat.reduceEqDiff, Nat.reduceAdd, Nat.reduceLeDiff, Nat.reduceLT, Nat.reduceMul, Int.natCast_one, Int.natCast_zero, Int.reduceEq, Int.reduceLT, Int.reduceLE, Int.reduceAdd, Int.reduceSub, Int.reduceToNat, UInt8.reduceToNat]
    · rintro u r G' hr rfl
      have h11 := hr.1
      have h12 := hr.2.1
      simp -implicitDefEqProofs only [go_sem, tys, regs0, Nat.reduceEqDiff, Nat.reduceAdd, Nat.reduceLeDiff, Nat.reduceLT, Nat.reduceMul, Int.natCast_one, Int.natCast_zero, Int.reduceEq, Int.reduceLT, Int.reduceLE, Int.reduceAdd, Int.reduceSub, Int.reduceToNat, UInt8.reduceToNat, h11, h12]
      exact Done.now ⟨rfl, rfl⟩
  · refine ACalls.of_code (X := { pure := pu0 }) pu0_ok Tryd.func118 (by kernel_rfl) rfl (by kernel_rfl) (Nat.le_of_ble_eq_true rfl) ?_
    simp -implicitDefEqProofs only [go_sem, tys, regs0, Nat.reduceEqDiff, Nat.reduceAdd, Nat.reduceLeDiff, Nat.reduceLT, Nat.reduceMul, Int.natCast_one, Int.natCast_zero, Int.reduceEq, Int.reduceLT, Int.reduceLE, Int.reduceAdd, Int.reduceSub, Int.reduceToNat, UInt8.reduceToNat, Tryd.f118, hs, hv]
    refine aloop_intro (σ := Nat) (fun i => [(1, .int .u8 (c.toNat : Int)), (10, .ms e 0 es.length 2), (11, .int .i64 es.length), (12, .int .i64 (i : Int))])
      (fun i G' => G.Sub G' ∧ i ≤ es.length ∧ ∀ j x, j < i → es[j]? = some x → ¬ x.1 = c) (fun i => es.length - i) 0 ?_ ?_ ?_
    · simp -implicitDefEqProofs only [go_sem, tys, regs0, Nat.reduceEqDiff, Nat.reduceAdd, Nat.reduceLeDiff, Nat.reduceLT, Nat.reduceMul, Int.natCast_one, Int.natCast_zero, Int.reduceEq, Int.reduceLT, Int.reduceLE, Int.reduceAdd, Int.reduceSub, Int.reduceToNat, UInt8.reduceToNat]
    · exact ⟨Heap.Sub.rfl' G, Nat.zero_le _, fun j x hj => by omega⟩
    · intro i r G hv hI
      have h1 := hv.1
      have h10 := hv.2.1
      have h11 := hv.2.2.1
      have h12 := hv.2.2.2.1
      have hS := hI.1
      have hi := hI.2.1
      have hn := hI.2.2
      clear hv hI
      simp -implicitDefEqProofs only [go_sem, tys, regs0, Nat.reduceEqDiff, Nat.reduceAdd, Nat.reduceLeDiff, Nat.reduceLT, Nat.reduceMul, Int.natCast_one, Int.natCast_zero, Int.reduceEq, Int.reduceLT, Int.reduceLE, Int.reduceAdd, Int.reduceSub, Int.reduceToNat, UInt8.reduceToNat, h1, h10, h11, h12]
      refine cnd_intro (fun g => ?_) (fun g => ?_)
      · simp only [decide_eq_true_eq] at g
        obtain ⟨x, hx⟩ : ∃ x, es[i]? = some x := getD_get' (by omega)
        obtain ⟨f1, f2⟩ := flatE_get hx
        have he2 := hS e _ he
        have w : IntKind.i64.wrap ((i : Int) + 1) = ((i + 1 : Nat) : Int) := by rw [Go.IntWalk.i64_in _ (by omega)]; omega
        have f3 : 2 ≤ (flatE es).length - i * 2 := by omega
        simp -implicitDefEqProofs only [go_sem, tys, regs0, Nat.reduceEqDiff, Nat.reduceAdd, Nat.reduceLeDiff, Nat.reduceLT, Nat.reduceMul, Int.natCast_one, Int.natCast_zero, Int.reduceEq, Int.reduceLT, Int.reduceLE, Int.reduceAdd, Int.reduceSub, Int.reduceToNat, UInt8.reduceToNat, h1, h10, h11, h12, he2, g, Int.toNat_natCast, Nat.zero_add, f1, List.length_drop, f3, encE]
        with_reducible refine nwC_intro fun y hy => ?_
        by_cases hc : x.1 = c
        · have hd : decide ((x.1.toNat : Int) = (c.toNat : Int)) = true := by rw [u8_eq, decide_eq_true hc]
          simp -implicitDefEqProofs only [go_sem, tys, regs0, Nat.reduceEqDiff, Nat.reduceAdd, Nat.reduceLeDiff, Nat.reduceLT, Nat.reduceMul, Int.natCast_one, Int.natCast_zero, Int.reduceEq, Int.reduceLT, Int.reduceLE, Int.reduceAdd, Int.reduceSub, Int.reduceToNat, UInt8.reduceToNat, h1, h10, h11, h12, hd]
          refine Done.drop (hS.put' (sub_none hS hy) _) ⟨?_, rfl⟩
          have := (nxE_at (c := c) (t := x.2) (by rw [hx, ← hc]) hn).1
          unfold nxI
          rw [this]
        · have hd : decide ((x.1.toNat : Int) = (c.toNat : Int)) = false := by rw [u8_eq, decide_eq_false hc]
          simp -implicitDefEqProofs only [go_sem, tys, regs0, Nat.reduceEqDiff, Nat.reduceAdd, Nat.reduceLeDiff, Nat.reduceLT, Nat.reduceMul, Int.natCast_one, Int.natCast_zero, Int.reduceEq, Int.reduceLT, Int.reduceLE, Int.reduceAdd, Int.reduceSub, Int.reduceToNat, UInt8.reduceToNat, h1, h10, h11, h12, hd, w]
          refine Again.mk (i + 1) (by simp -implicitDefEqProofs only [go_sem, tys, regs0, Nat.reduceEqDiff, Nat.reduceAdd, Nat.reduceLeDiff, Nat.reduceLT, Nat.reduceMul, Int.natCast_one, Int.natCast_zero, Int.reduceEq, Int.reduceLT, Int.reduceLE, Int.reduceAdd, Int.reduceSub, Int.reduceToNat, UInt8.reduceToNat, h1, h10, h11, h12]) ⟨hS.put' (sub_none hS hy) _, by omega, fun j z hj hz => ?_⟩ (by omega)
          by_cases ej : j = i
          · subst ej; rw [hx] at hz; cases hz; exact hc
          · exact hn j z (by omega) hz
      · simp only [decide_eq_false_iff_not] at g
        have e1 : i = es.length := by omega
        subst e1
        simp -implicitDefEqProofs only [go_sem, tys, regs0, Nat.reduceEqDiff, Nat.reduceAdd, Nat.reduceLeDiff, Nat.reduceLT, Nat.reduceMul, Int.natCast_one, Int.natCast_zero, Int.reduceEq, Int.reduceLT, Int.reduceLE, Int.reduceAdd, Int.reduceSub, Int.reduceToNat, UInt8.reduceToNat, h1, h10, h11, h12]
        refine Done.drop hS ⟨?_, rfl⟩
        have := (nxE_no (c := c) hn).1
        unfold nxI
        rw [this]
/-- What setting an edge leaves. -/
def SetPost (G G' : Heap) (sid s : Nat) (cs : List AV) (v v' : AV) (es : List (UInt8 × Nat)) (c : UInt8) (t : Nat) : Prop :=
  EdgeV G' v' (setE es c t) ∧ G' sid = some (.cells (cs.set (s + 3) v')) ∧ (∀ i o, G i = some o → ¬ i = sid → (∀ n, v ≠ .ms i 0 n 2) → G' i = some o) ∧ (∀ e n, v' = .ms e 0 n 2 → G e = none ∨ v = .ms e 0 es.length 2) ∧ v' ≠ .sl [] .exact
set_option maxHeartbeats 3200000 in
theorem set_calls {G : Heap} {sid s : Nat} {cs : List AV} {v : AV} {es : List (UInt8 × Nat)} {c : UInt8} {t : Nat} (hs : G sid = some (.cells cs)) (hv : (cs.drop (s + 3)).head? = some v) (hE : EdgeV G v es) (hl : es.length ≤ 1000000) (hne : ∀ n, v ≠ .ms sid 0 n 2) :
    ACalls Tryd.prog 129 [.ptr sid s, .int .u8 (c.toNat : Int), .int .i64 (t : Int)] G fun x G' => x = .tup [] ∧ ∃ v', SetPost G G' sid s cs v v' es c t := by
  have hlt : s + 3 < cs.length := by
    rw [List.head?_drop] at hv
    exact (List.getElem?_eq_some_iff.1 hv).1
  rcases hE with ⟨rfl, rfl⟩ | ⟨e, rfl, he⟩
  · refine ACalls.of_code (X := { pure := pu0, ms := fun t => decide (t = 43) }) pu0_ok Tryd.func129 (by kernel_rfl) rfl (by kernel_rfl) (Nat.le_of_ble_eq_true rfl) ?_
    simp -implicitDefEqProofs only [go_sem, tys, regs0, Nat.reduceEqDiff, Nat.reduceAdd, Nat.reduceLeDiff, Nat.reduceLT, Nat.reduceMul, Int.natCast_one, Int.natCast_zero, Int.reduceEq, Int.reduceLT, Int.reduceLE, Int.reduceAdd, Int.reduceSub, Int.reduceToNat, UInt8.reduceToNat, Tryd.f129, hs, hv]
    refine aloop_intro (σ := Unit) (fun _ => [(0, .ptr sid s), (1, .int .u8 (c.toNat : Int)), (2, .int .i64 (t : Int)), (11, .int .i64 0), (12, .int .i64 0)]) (fun _ G' => G' = G) (fun _ => 0) () ?_ rfl ?_
    · simp -implicitDefEqProofs only [go_sem, tys, regs0, Nat.reduceEqDiff, Nat.reduceAdd, Nat.reduceLeDiff, Nat.reduceLT, Nat.reduceMul, Int.natCast_one, Int.natCast_zero, Int.reduceEq, Int.reduceLT, Int.reduceLE, Int.reduceAdd, Int.reduceSub, Int.reduceToNat, UInt8.reduceToNat]
    · rintro u r G' hr rfl
      have h0 := hr.1
      have h1 := hr.2.1
      have h2 := hr.2.2.1
      have h11 := hr.2.2.2.1
      have h12 := hr.2.2.2.2.1
      simp -implicitDefEqProofs only [go_sem, tys, regs0, Nat.reduceEqDiff, Nat.reduceAdd, Nat.reduceLeDiff, Nat.reduceLT, Nat.reduceMul, Int.natCast_one, Int.natCast_zero, Int.reduceEq, Int.reduceLT, Int.reduceLE, Int.reduceAdd, Int.reduceSub, Int.reduceToNat, UInt8.reduceToNat, h0, h1, h2, h11, h12, hs, hv, decide_true]
      refine app_ms0 (by simp) (by simp) (by simp) (fun e' he' => ?_)
      have n1 : ¬ sid = e' := fun x => by rw [← x, hs] at he'; cases he'
      have n2 : ¬ e' = sid := fun x => n1 x.symm
      simp -implicitDefEqProofs only [go_sem, tys, regs0, Nat.reduceEqDiff, Nat.reduceAdd, Nat.reduceLeDiff, Nat.reduceLT, Nat.reduceMul, Int.natCast_one, Int.natCast_zero, Int.reduceEq, Int.reduceLT, Int.reduceLE, Int.reduceAdd, Int.reduceSub, Int.reduceToNat, UInt8.reduceToNat, h0, h1, h2, put_ne, n1, hs]
      refine ⟨by omega, Done.now ⟨rfl, .ms e' 0 1 2, ?_, put_same _ _ _, fun i o hi hne2 _ => ?_, fun e n h => ?_, by simp⟩⟩
      · refine .inr ⟨e', rfl, ?_⟩
        rw [put_ne _ _ _ _ n2, put_same]
        simp [setE, flatE, encE]
      · have n3 : ¬ i = e' := fun x => by rw [x, he'] at hi; cases hi
        rw [put_ne _ _ _ _ hne2, put_ne _ _ _ _ n3]; exact hi
      · cases h; exact .inl he'
  · have n0 : ¬ sid = e := fun x => hne es.length (by rw [x])
    have n0' : ¬ e = sid := fun x => n0 x.symm
    have hfl := flatE_len es
    refine ACalls.of_code (X := { pure := pu0, ms := fun t => decide (t = 43) }) pu0_ok Tryd.func129 (by kernel_rfl) rfl (by kernel_rfl) (Nat.le_of_ble_eq_true rfl) ?_
    simp -implicitDefEqProofs only [go_sem, tys, regs0, Nat.reduceEqDiff, Nat.reduceAdd, Nat.reduceLeDiff, Nat.reduceLT, Nat.reduceMul, Int.natCast_one, Int.natCast_zero, Int.reduceEq, Int.reduceLT, Int.reduceLE, Int.reduceAdd, Int.reduceSub, Int.reduceToNat, UInt8.reduceToNat, Tryd.f129, hs, hv]
    refine aloop_intro (σ := Nat) (fun i => [(0, .ptr sid s), (1, .int .u8 (c.toNat : Int)), (2, .int .i64 (t : Int)), (11, .int .i64 es.length), (12, .int .i64 (i : Int))])
      (fun i G' => G' = G ∧ i ≤ es.length ∧ ∀ j x, j < i → es[j]? = some x → ¬ x.1 = c) (fun i => es.length - i) 0 ?_ ?_ ?_
    · simp -implicitDefEqProofs only [go_sem, tys, regs0, Nat.reduceEqDiff, Nat.reduceAdd, Nat.reduceLeDiff, Nat.reduceLT, Nat.reduceMul, Int.natCast_one, Int.natCast_zero, Int.reduceEq, Int.reduceLT, Int.reduceLE, Int.reduceAdd, Int.reduceSub, Int.reduceToNat, UInt8.reduceToNat]
    · exact ⟨rfl, Nat.zero_le _, fun j x hj => by omega⟩
    · intro i r G hv hI
      have h0 := hv.1
      have h1 := hv.2.1
      have h2 := hv.2.2.1
      have h11 := hv.2.2.2.1
      have h12 := hv.2.2.2.2.1
      have hG := hI.1.symm
      have hi := hI.2.1
      have hn := hI.2.2
      clear hv hI
      subst hG
      simp -implicitDefEqProofs only [go_sem, tys, regs0, Nat.reduceEqDiff, Nat.reduceAdd, Nat.reduceLeDiff, Nat.reduceLT, Nat.reduceMul, Int.natCast_one, Int.natCast_zero, Int.reduceEq, Int.reduceLT, Int.reduceLE, Int.reduceAdd, Int.reduceSub, Int.reduceToNat, UInt8.reduceToNat, h0, h1, h2, h11, h12]
      refine cnd_intro (fun g => ?_) (fun g => ?_)
      · simp only [decide_eq_true_eq] at g
        obtain ⟨x, hx⟩ : ∃ x, es[i]? = some x := getD_get' (by omega)
        have f1 := flatE_head hx
        have w : IntKind.i64.wrap ((i : Int) + 1) = ((i + 1 : Nat) : Int) := by rw [Go.IntWalk.i64_in _ (by omega)]; omega
        by_cases hc : x.1 = c
        · have hd : decide ((x.1.toNat : Int) = (c.toNat : Int)) = true := by rw [u8_eq, decide_eq_true hc]
          have hx2 : es[i]? = some (c, x.2) := by rw [hx, ← hc]
          have f2 := flatE_set (u := t) hx2
          simp -implicitDefEqProofs only [go_sem, tys, regs0, Nat.reduceEqDiff, Nat.reduceAdd, Nat.reduceLeDiff, Nat.reduceLT, Nat.reduceMul, Int.natCast_one, Int.natCast_zero, Int.reduceEq, Int.reduceLT, Int.reduceLE, Int.reduceAdd, Int.reduceSub, Int.reduceToNat, UInt8.reduceToNat, h0, h1, h2, h11, h12, hs, hv, g, he, Int.toNat_natCast, Nat.zero_add, f1, hd, f2, hfl]
          refine ⟨by omega, Done.now ⟨rfl, .ms e 0 es.length 2, ?_, ?_, fun j o hj hne2 hno => ?_, fun e' n h => ?_, by simp⟩⟩
          · have := (nxE_at hx2 hn).2 t
            rw [this]
            exact .inr ⟨e, by rw [List.length_set], put_same _ _ _⟩
          · rw [put_ne _ _ _ _ n0, hs]
            congr 2
            rw [List.head?_drop] at hv
            refine List.ext_getElem? fun j => ?_
            rw [List.getElem?_set]
            split
            · rename_i ej; subst ej; simp [hlt]; exact (List.getElem?_eq_some_iff.1 hv).2
            · rfl
          · rw [put_ne _ _ _ _ (fun x => hno es.length (by rw [x]))]; exact hj
          · cases h; exact .inr rfl
        · have hd : decide ((x.1.toNat : Int) = (c.toNat : Int)) = false := by rw [u8_eq, decide_eq_false hc]
          simp -implicitDefEqProofs only [go_sem, tys, regs0, Nat.reduceEqDiff, Nat.reduceAdd, Nat.reduceLeDiff, Nat.reduceLT, Nat.reduceMul, Int.natCast_one, Int.natCast_zero, Int.reduceEq, Int.reduceLT, Int.reduceLE, Int.reduceAdd, Int.reduceSub, Int.reduceToNat, UInt8.reduceToNat, h0, h1, h2, h11, h12, hs, hv, g, he, Int.toNat_natCast, Nat.zero_add, f1, hd, w]
          refine Again.mk (i + 1) (by simp -implicitDefEqProofs only [go_sem, tys, regs0, Nat.reduceEqDiff, Nat.reduceAdd, Nat.reduceLeDiff, Nat.reduceLT, Nat.reduceMul, Int.natCast_one, Int.natCast_zero, Int.reduceEq, Int.reduceLT, Int.reduceLE, Int.reduceAdd, Int.reduceSub, Int.reduceToNat, UInt8.reduceToNat, h0, h1, h2, h11, h12]) ⟨rfl, by omega, fun j z hj hz => ?_⟩ (by omega)
          by_cases ej : j = i
          · subst ej; rw [hx] at hz; cases hz; exact hc
          · exact hn j z (by omega) hz
      · simp only [decide_eq_false_iff_not] at g
        have e1 : i = es.length := by omega
        subst e1
        obtain ⟨q1, q2⟩ := nxE_no (c := c) hn
        simp -implicitDefEqProofs only [go_sem, tys, regs0, Nat.reduceEqDiff, Nat.reduceAdd, Nat.reduceLeDiff, Nat.reduceLT, Nat.reduceMul, Int.natCast_one, Int.natCast_zero, Int.reduceEq, Int.reduceLT, Int.reduceLE, Int.reduceAdd, Int.reduceSub, Int.reduceToNat, UInt8.reduceToNat, h0, h1, h2, h11, h12, hs, hv, decide_true]
        refine app_ms he hfl (by simp; omega) (by simp; omega) (fun e' he' => ?_)
        have n1 : ¬ sid = e' := fun x => by rw [← x, hs] at he'; cases he'
        have n2 : ¬ e' = sid := fun x => n1 x.symm
        simp -implicitDefEqProofs only [go_sem, tys, regs0, Nat.reduceEqDiff, Nat.reduceAdd, Nat.reduceLeDiff, Nat.reduceLT, Nat.reduceMul, Int.natCast_one, Int.natCast_zero, Int.reduceEq, Int.reduceLT, Int.reduceLE, Int.reduceAdd, Int.reduceSub, Int.reduceToNat, UInt8.reduceToNat, h0, h1, h2, put_ne, n1, hs, del_ne, n0]
        refine ⟨by omega, Done.now ⟨rfl, .ms e' 0 (es.length + 1) 2, ?_, put_same _ _ _, fun i o hi hne2 hno => ?_, fun e2 n h => ?_, by simp⟩⟩
        · rw [q2]
          refine .inr ⟨e', by rw [List.length_append]; rfl, ?_⟩
          rw [put_ne _ _ _ _ n2, put_same]
          congr 2
          rw [← flatE_app]; simp
        · have n3 : ¬ i = e' := fun x => by rw [x, he'] at hi; cases hi
          rw [put_ne _ _ _ _ hne2, put_ne _ _ _ _ n3, del_ne (fun x => hno es.length (by rw [x]))]; exact hi
        · cases h; exact .inl he'
end Go.Proofs
