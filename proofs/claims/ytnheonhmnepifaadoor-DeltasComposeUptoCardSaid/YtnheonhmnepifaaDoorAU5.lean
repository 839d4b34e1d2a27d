/- Walks: the automaton of a text; how far it reads. -/
import Derived.Test.YtnheonhmnepifaaDoorAU4
namespace Go.Proofs
open Go Go.Abs
set_option linter.unusedSimpArgs false
set_option linter.unusedVariables false
set_option maxRecDepth 20000
theorem ND.auto0 : ND auto0 := fun s => by
  cases s with
  | zero => simp [Go.Proofs.auto0, gS]
  | succ s =>
    have : gS Go.Proofs.auto0 (s + 1) = Ste.z := by unfold gS List.getD; simp [Go.Proofs.auto0]
    rw [this]; simp [Ste.z]
def NewQ (T : Bytes) (H : Heap) (x : AV) (G : Heap) : Prop := ∃ A S last, x = .ptr A 0 ∧ AOk T S last ∧ AH0 H G A S last ∧ ND S
def NewI (T : Bytes) (H : Heap) (A : Nat) (t : Nat × List Ste × Nat) (G : Heap) : Prop := t.1 ≤ T.length ∧ AOk (T.take t.1) t.2.1 t.2.2 ∧ AH0 H G A t.2.1 t.2.2 ∧ ND t.2.1
theorem newAutomaton_calls (T : Bytes) (H : Heap) (hT : T.length ≤ 65536) : ACalls Tryd.prog 76 [.str T] H (NewQ T H) := by
  refine ACalls.of_code (X := { pure := pu0 }) pu0_ok Tryd.func76 (by kernel_rfl) rfl (by kernel_rfl) (Nat.le_of_ble_eq_true rfl) ?_
  simp -implicitDefEqProofs only [go_sem, tys, regs0, Nat.reduceEqDiff, Nat.reduceAdd, Nat.reduceLeDiff, Nat.reduceLT, Nat.reduceMul, Int.natCast_one, Int.natCast_zero, Int.reduceEq, Int.reduceLT, Int.reduceLE, Int.reduceAdd, Int.reduceSub, Int.reduceToNat, UInt8.reduceToNat, Tryd.f76]
  with_reducible refine nwC_intro fun A hA => ?_
  simp -implicitDefEqProofs only [go_sem, tys, regs0, Nat.reduceEqDiff, Nat.reduceAdd, Nat.reduceLeDiff, Nat.reduceLT, Nat.reduceMul, Int.natCast_one, Int.natCast_zero, Int.reduceEq, Int.reduceLT, Int.reduceLE, Int.reduceAdd, Int.reduceSub, Int.reduceToNat, UInt8.reduceToNat]
  refine aloop_intro (σ := Nat × List Ste × Nat) (fun t => [(0, .str T), (3, .ptr A 0), (4, .int .i64 t.1)]) (NewI T H A) (fun t => T.length - t.1) (0, auto0, 0) ?_ ?_ ?_
  · simp -implicitDefEqProofs only [go_sem, tys, regs0, Nat.reduceEqDiff, Nat.reduceAdd, Nat.reduceLeDiff, Nat.reduceLT, Nat.reduceMul, Int.natCast_one, Int.natCast_zero, Int.reduceEq, Int.reduceLT, Int.reduceLE, Int.reduceAdd, Int.reduceSub, Int.reduceToNat, UInt8.reduceToNat]
  · exact ⟨Nat.zero_le _, auto0_ok, .inr ⟨rfl, rfl, (Heap.Sub.rfl' H).put' hA _, hA, put_same _ _ _⟩, ND.auto0⟩
  · rintro ⟨i, S, last⟩ r G hv ⟨hi, hok, hH, hN⟩
    have h0 := hv.1
    have h3 := hv.2.1
    have h4 := hv.2.2.1
    clear hv
    simp only at h0 h3 h4 hi hok hH hN
    by_cases hlt : i < T.length
    · have y1 : decide ((i : Int) < T.length) = true := decide_eq_true (by omega)
      obtain ⟨c, hc⟩ : ∃ c, T[i]? = some c := getD_get' hlt
      have htk : T.take (i + 1) = T.take i ++ [c] := by rw [List.take_add_one, hc]; rfl
      have hl : (T.take i).length = i := by rw [List.length_take]; omega
      have hadd := add_calls hok (by rw [hl]; omega) hN c hH
      have hok2 := hok.add c
      rw [hl] at hadd hok2
      rw [← htk] at hok2
      have w1 : IntKind.i64.wrap ((i : Int) + 1) = ((i + 1 : Nat) : Int) := by rw [Go.IntWalk.i64_in _ (by omega)]; omega
      simp -implicitDefEqProofs only [go_sem, tys, regs0, Nat.reduceEqDiff, Nat.reduceAdd, Nat.reduceLeDiff, Nat.reduceLT, Nat.reduceMul, Int.natCast_one, Int.natCast_zero, Int.reduceEq, Int.reduceLT, Int.reduceLE, Int.reduceAdd, Int.reduceSub, Int.reduceToNat, UInt8.reduceToNat, h0, h3, h4, y1, hc, w1, Int.toNat_natCast]
      refine hadd.mono ?_
      rintro x G2 ⟨rfl, hH2, hN2⟩
      simp -implicitDefEqProofs only [go_sem, tys, regs0, Nat.reduceEqDiff, Nat.reduceAdd, Nat.reduceLeDiff, Nat.reduceLT, Nat.reduceMul, Int.natCast_one, Int.natCast_zero, Int.reduceEq, Int.reduceLT, Int.reduceLE, Int.reduceAdd, Int.reduceSub, Int.reduceToNat, UInt8.reduceToNat, h0, h3, h4, w1]
      exact Again.mk (i + 1, addL S last c (i + 1), S.length) (by simp -implicitDefEqProofs only [go_sem, tys, regs0, Nat.reduceEqDiff, Nat.reduceAdd, Nat.reduceLeDiff, Nat.reduceLT, Nat.reduceMul, Int.natCast_one, Int.natCast_zero, Int.reduceEq, Int.reduceLT, Int.reduceLE, Int.reduceAdd, Int.reduceSub, Int.reduceToNat, UInt8.reduceToNat, h0, h3, h4]) ⟨by simp only; omega, hok2, hH2, hN2⟩ (by simp only; omega)
    · have y1 : decide ((i : Int) < T.length) = false := decide_eq_false (by omega)
      obtain rfl : i = T.length := by omega
      rw [List.take_length] at hok
      simp -implicitDefEqProofs only [go_sem, tys, regs0, Nat.reduceEqDiff, Nat.reduceAdd, Nat.reduceLeDiff, Nat.reduceLT, Nat.reduceMul, Int.natCast_one, Int.natCast_zero, Int.reduceEq, Int.reduceLT, Int.reduceLE, Int.reduceAdd, Int.reduceSub, Int.reduceToNat, UInt8.reduceToNat, h0, h3, h4, y1]
      exact Done.now ⟨A, S, last, rfl, hok, hH, hN⟩
structure ARs (H G : Heap) (A sid : Nat) (S : List Ste) (ev : Nat → AV) : Prop where
  nA : H A = none
  nS : H sid = none
  hA : ∃ last, G A = some (.cells [.ms sid 0 S.length 4, .int .i64 last])
  hS : G sid = some (.cells (flatS S.length (gS S) ev))
  ed : ∀ s, s < S.length → EdgeV G (ev s) (gS S s).edges
  fr : ∀ s e n, s < S.length → ev s = .ms e 0 n 2 → H e = none
/-- The automaton is there, to be read. -/
def AR (H G : Heap) (A : Nat) (S : List Ste) : Prop := (∃ sid ev, ARs H G A sid S ev) ∨ (S = auto0 ∧ H A = none ∧ G A = some (.cells [.sl [[.int .i64 0, .int .i64 0, .int .i64 (-1), .sl [] .exact]] .exact, .int .i64 0]))
theorem AH0.ar {H G : Heap} {A : Nat} {S : List Ste} {last : Nat} (h : AH0 H G A S last) : AR H G A S := by
  rcases h with ⟨sid, ev, h⟩ | ⟨h1, _, h2, h3, h4⟩
  · exact .inl ⟨sid, ev, h.nA, h.nS, ⟨_, h.hA⟩, h.hS, h.ed, fun s e n hs he => (h.fr s e n hs he).1⟩
  · exact .inr ⟨h1, h3, h4⟩
theorem AR.kept {H G G' : Heap} {A : Nat} {S : List Ste} (h : AR H G A S) (hk : Kept G G') : AR H G' A S := by
  rcases h with ⟨sid, ev, h⟩ | ⟨h1, h2, h3⟩
  · obtain ⟨last, hA⟩ := h.hA
    exact .inl ⟨sid, ev, h.nA, h.nS, ⟨last, hk.cells hA⟩, hk.cells h.hS, fun s hs => (h.ed s hs).mono fun e n he => by rw [((h.ed s hs).there he).1, hk.cells ((h.ed s hs).there he).1], h.fr⟩
  · exact .inr ⟨h1, h2, hk.cells h3⟩
theorem AR.put {H G : Heap} {A : Nat} {S : List Ste} (h : AR H G A S) {i : Nat} {o : AObj} (hi : H i = some o) (o' : AObj) : AR H (G.put i o') A S := by
  have ne : ∀ j, H j = none → ¬ j = i := fun j hj e => by rw [e, hi] at hj; cases hj
  rcases h with ⟨sid, ev, h⟩ | ⟨h1, h2, h3⟩
  · obtain ⟨last, hA⟩ := h.hA
    exact .inl ⟨sid, ev, h.nA, h.nS, ⟨last, by rw [put_ne _ _ _ _ (ne _ h.nA)]; exact hA⟩, by rw [put_ne _ _ _ _ (ne _ h.nS)]; exact h.hS, fun s hs => (h.ed s hs).mono fun e n he => put_ne _ _ _ _ (ne _ (h.fr s e n hs he)), h.fr⟩
  · exact .inr ⟨h1, h2, by rw [put_ne _ _ _ _ (ne _ h2)]; exact h3⟩
theorem flatS_1 {n s : Nat} (hs : s < n) (g : Nat → Ste) (ev : Nat → AV) : ((flatS n g ev).drop (s * 4 + 1)).head? = some (.int .i64 ((g s).fin : Int)) := flatS_j (j := 1) hs g ev rfl
theorem next_r (c : UInt8) (G : Heap) : ACalls Tryd.prog 118 [.rptr [.int .i64 0, .int .i64 0, .int .i64 (-1), .sl [] .exact], .int .u8 (c.toNat : Int)] G fun x G' => x = .int .i64 (-1) ∧ G' = G := by
  refine ACalls.of_code (X := { pure := pu0 }) pu0_ok Tryd.func118 (by kernel_rfl) rfl (by kernel_rfl) (Nat.le_of_ble_eq_true rfl) ?_
  simp -implicitDefEqProofs only [go_sem, tys, regs0, Nat.reduceEqDiff, Nat.reduceAdd, Nat.reduceLeDiff, Nat.reduceLT, Nat.reduceMul, Int.natCast_one, Int.natCast_zero, Int.reduceEq, Int.reduceLT, Int.reduceLE, Int.reduceAdd, Int.reduceSub, Int.reduceToNat, UInt8.reduceToNat, Tryd.f118]
  refine aloop_intro (σ := Unit) (fun _ => [(11, .int .i64 0), (12, .int .i64 0)]) (fun _ G' => G' = G) (fun _ => 0) () ?_ rfl ?_
  · simp -implicitDefEqProofs only [go_sem, tys, regs0, Nat.reduceEqDiff, Nat.reduceAdd, Nat.reduceLeDiff, Nat.reduceLT, Nat.reduceMul, Int.natCast_one, Int.natCast_zero, Int.reduceEq, Int.reduceLT, Int.reduceLE, Int.reduceAdd, Int.reduceSub, Int.reduceToNat, UInt8.reduceToNat]
  · rintro u r G' hr rfl
    have h11 := hr.1
    have h12 := hr.2.1
    simp -implicitDefEqProofs only [go_sem, tys, regs0, Nat.reduceEqDiff, Nat.reduceAdd, Nat.reduceLeDiff, Nat.reduceLT, Nat.reduceMul, Int.natCast_one, Int.natCast_zero, Int.reduceEq, Int.reduceLT, Int.reduceLE, Int.reduceAdd, Int.reduceSub, Int.reduceToNat, UInt8.reduceToNat, h11, h12]
    exact Done.now ⟨rfl, rfl⟩
def LongQ (S : List Ste) (w : Bytes) (G : Heap) (x : AV) (G' : Heap) : Prop := x = .tup [.int .i64 (((gS S (readL S 0 w).2).fin : Int) - ((readL S 0 w).1 : Int)), .int .i64 ((readL S 0 w).1 : Int)] ∧ G' = G
def LongI (S : List Ste) (w : Bytes) (G : Heap) (t : Nat × Nat) (G' : Heap) : Prop := G' = G ∧ t.1 ≤ w.length ∧ t.2 < S.length ∧ readL S 0 w = (t.1 + (readL S t.2 (w.drop t.1)).1, (readL S t.2 (w.drop t.1)).2)
theorem longest_calls {H G : Heap} {A : Nat} {S : List Ste} (h : AR H G A S) (hN : ND S) (hL : Lk S) (hfin : ∀ s, s < S.length → (gS S s).fin ≤ 65536) (w : Bytes) (hw : w.length ≤ 65536) :
    ACalls Tryd.prog 77 [.ptr A 0, .str w] G (LongQ S w G) := by
  rcases h with ⟨sid, ev, h⟩ | ⟨rfl, _, hA⟩
  · obtain ⟨last, hA⟩ := h.hA
    have hS := h.hS
    refine ACalls.of_code (X := { pure := pu0 }) pu0_ok Tryd.func77 (by kernel_rfl) rfl (by kernel_rfl) (Nat.le_of_ble_eq_true rfl) ?_
    simp -implicitDefEqProofs only [go_sem, tys, regs0, Nat.reduceEqDiff, Nat.reduceAdd, Nat.reduceLeDiff, Nat.reduceLT, Nat.reduceMul, Int.natCast_one, Int.natCast_zero, Int.reduceEq, Int.reduceLT, Int.reduceLE, Int.reduceAdd, Int.reduceSub, Int.reduceToNat, UInt8.reduceToNat, Tryd.f77]
    refine aloop_intro (σ := Nat × Nat) (fun t => [(0, .ptr A 0), (1, .str w), (5, .int .i64 t.1), (6, .int .i64 t.2)]) (LongI S w G) (fun t => w.length - t.1) (0, 0) ?_ ?_ ?_
    · simp -implicitDefEqProofs only [go_sem, tys, regs0, Nat.reduceEqDiff, Nat.reduceAdd, Nat.reduceLeDiff, Nat.reduceLT, Nat.reduceMul, Int.natCast_one, Int.natCast_zero, Int.reduceEq, Int.reduceLT, Int.reduceLE, Int.reduceAdd, Int.reduceSub, Int.reduceToNat, UInt8.reduceToNat]
    · exact ⟨rfl, Nat.zero_le _, hL.pos, by simp⟩
    · rintro ⟨n, s⟩ r G' hv ⟨rfl, hn, hs, hr⟩
      have h0 := hv.1
      have h1 := hv.2.1
      have h5 := hv.2.2.1
      have h6 := hv.2.2.2.1
      clear hv
      simp only at h0 h1 h5 h6 hn hs hr
      have hs' : (s : Int) < (S.length : Int) := by omega
      have hj1 := flatS_1 hs (gS S) ev
      have hj3 := flatS_j (j := 3) hs (gS S) ev rfl
      have hf := hfin s hs
      have w2 : IntKind.i64.wrap (((gS S s).fin : Int) - (n : Int)) = ((gS S s).fin : Int) - (n : Int) := Go.IntWalk.i64_in _ (by omega)
      by_cases hlt : n < w.length
      · have y1 : decide ((n : Int) < w.length) = true := decide_eq_true (by omega)
        obtain ⟨c, hc⟩ : ∃ c, w[n]? = some c := getD_get' hlt
        have hdc := drop_cons hc
        have hnx := next_calls (c := c) hS hj3 (h.ed s hs) (Nat.le_trans (hN.len s) (by decide))
        have w1 : IntKind.i64.wrap ((n : Int) + 1) = ((n + 1 : Nat) : Int) := by rw [Go.IntWalk.i64_in _ (by omega)]; omega
        rw [hdc, readL] at hr
        simp -implicitDefEqProofs only [go_sem, tys, regs0, Nat.reduceEqDiff, Nat.reduceAdd, Nat.reduceLeDiff, Nat.reduceLT, Nat.reduceMul, Int.natCast_one, Int.natCast_zero, Int.reduceEq, Int.reduceLT, Int.reduceLE, Int.reduceAdd, Int.reduceSub, Int.reduceToNat, UInt8.reduceToNat, h0, h1, h5, h6, y1, hA, hs', hc, Int.toNat_natCast, Nat.zero_add]
        refine hnx.pure_next _ ?_
        cases hq : nxE (gS S s).edges c with
        | some t =>
          have hnI : nxI (gS S s).edges c = (t : Int) := by unfold nxI; rw [hq]
          have y2 : decide ((t : Int) < 0) = false := by simp
          rw [hq] at hr
          simp only at hr
          rw [hnI]
          simp -implicitDefEqProofs only [go_sem, tys, regs0, Nat.reduceEqDiff, Nat.reduceAdd, Nat.reduceLeDiff, Nat.reduceLT, Nat.reduceMul, Int.natCast_one, Int.natCast_zero, Int.reduceEq, Int.reduceLT, Int.reduceLE, Int.reduceAdd, Int.reduceSub, Int.reduceToNat, UInt8.reduceToNat, h0, h1, h5, h6, y2, w1]
          exact Again.mk (n + 1, t) (by simp -implicitDefEqProofs only [go_sem, tys, regs0, Nat.reduceEqDiff, Nat.reduceAdd, Nat.reduceLeDiff, Nat.reduceLT, Nat.reduceMul, Int.natCast_one, Int.natCast_zero, Int.reduceEq, Int.reduceLT, Int.reduceLE, Int.reduceAdd, Int.reduceSub, Int.reduceToNat, UInt8.reduceToNat, h0, h1, h5, h6]) ⟨rfl, by simp only; omega, hL.edge s c t hs hq, by rw [hr]; simp only; congr 1; omega⟩ (by simp only; omega)
        | none =>
          have hnI : nxI (gS S s).edges c = -1 := by unfold nxI; rw [hq]
          rw [hq] at hr
          simp only at hr
          rw [hnI]
          simp -implicitDefEqProofs only [go_sem, tys, regs0, Nat.reduceEqDiff, Nat.reduceAdd, Nat.reduceLeDiff, Nat.reduceLT, Nat.reduceMul, Int.natCast_one, Int.natCast_zero, Int.reduceEq, Int.reduceLT, Int.reduceLE, Int.reduceAdd, Int.reduceSub, Int.reduceToNat, UInt8.reduceToNat, h0, h1, h5, h6, hA, hS, hs', Int.toNat_natCast, Nat.zero_add, hj1, w2]
          refine Done.now ⟨?_, rfl⟩
          rw [hr]
          simp
      · have y1 : decide ((n : Int) < w.length) = false := decide_eq_false (by omega)
        rw [List.drop_eq_nil_of_le (by omega), readL] at hr
        simp -implicitDefEqProofs only [go_sem, tys, regs0, Nat.reduceEqDiff, Nat.reduceAdd, Nat.reduceLeDiff, Nat.reduceLT, Nat.reduceMul, Int.natCast_one, Int.natCast_zero, Int.reduceEq, Int.reduceLT, Int.reduceLE, Int.reduceAdd, Int.reduceSub, Int.reduceToNat, UInt8.reduceToNat, h0, h1, h5, h6, y1, hA, hS, hs', Int.toNat_natCast, Nat.zero_add, hj1, w2]
        refine Done.now ⟨?_, rfl⟩
        rw [hr]
        simp
  · have hr : readL auto0 0 w = (0, 0) := by cases w <;> rfl
    have hz : (gS auto0 0).fin = 0 := rfl
    refine ACalls.of_code (X := { pure := pu0 }) pu0_ok Tryd.func77 (by kernel_rfl) rfl (by kernel_rfl) (Nat.le_of_ble_eq_true rfl) ?_
    simp -implicitDefEqProofs only [go_sem, tys, regs0, Nat.reduceEqDiff, Nat.reduceAdd, Nat.reduceLeDiff, Nat.reduceLT, Nat.reduceMul, Int.natCast_one, Int.natCast_zero, Int.reduceEq, Int.reduceLT, Int.reduceLE, Int.reduceAdd, Int.reduceSub, Int.reduceToNat, UInt8.reduceToNat, Tryd.f77]
    refine aloop_intro (σ := Unit) (fun t => [(0, .ptr A 0), (1, .str w), (5, .int .i64 0), (6, .int .i64 0)]) (fun _ G' => G' = G) (fun t => 0) () ?_ rfl ?_
    · simp -implicitDefEqProofs only [go_sem, tys, regs0, Nat.reduceEqDiff, Nat.reduceAdd, Nat.reduceLeDiff, Nat.reduceLT, Nat.reduceMul, Int.natCast_one, Int.natCast_zero, Int.reduceEq, Int.reduceLT, Int.reduceLE, Int.reduceAdd, Int.reduceSub, Int.reduceToNat, UInt8.reduceToNat]
    · rintro u r G' hv rfl
      have h0 := hv.1
      have h1 := hv.2.1
      have h5 := hv.2.2.1
      have h6 := hv.2.2.2.1
      clear hv
      by_cases hlt : 0 < w.length
      · have y1 : decide ((0 : Int) < w.length) = true := decide_eq_true (by omega)
        obtain ⟨c, hc⟩ : ∃ c, w[0]? = some c := getD_get' hlt
        have hnx := next_r c G'
        simp -implicitDefEqProofs only [go_sem, tys, regs0, Nat.reduceEqDiff, Nat.reduceAdd, Nat.reduceLeDiff, Nat.reduceLT, Nat.reduceMul, Int.natCast_one, Int.natCast_zero, Int.reduceEq, Int.reduceLT, Int.reduceLE, Int.reduceAdd, Int.reduceSub, Int.reduceToNat, UInt8.reduceToNat, h0, h1, h5, h6, y1, hA, hc]
        refine hnx.pure_next _ ?_
        simp -implicitDefEqProofs only [go_sem, tys, regs0, Nat.reduceEqDiff, Nat.reduceAdd, Nat.reduceLeDiff, Nat.reduceLT, Nat.reduceMul, Int.natCast_one, Int.natCast_zero, Int.reduceEq, Int.reduceLT, Int.reduceLE, Int.reduceAdd, Int.reduceSub, Int.reduceToNat, UInt8.reduceToNat, h0, h1, h5, h6, hA]
        refine Done.now ⟨?_, rfl⟩
        rw [hr]; rfl
      · have y1 : decide ((0 : Int) < w.length) = false := decide_eq_false (by omega)
        simp -implicitDefEqProofs only [go_sem, tys, regs0, Nat.reduceEqDiff, Nat.reduceAdd, Nat.reduceLeDiff, Nat.reduceLT, Nat.reduceMul, Int.natCast_one, Int.natCast_zero, Int.reduceEq, Int.reduceLT, Int.reduceLE, Int.reduceAdd, Int.reduceSub, Int.reduceToNat, UInt8.reduceToNat, h0, h1, h5, h6, y1, hA]
        refine Done.now ⟨?_, rfl⟩
        rw [hr]; rfl
end Go.Proofs
