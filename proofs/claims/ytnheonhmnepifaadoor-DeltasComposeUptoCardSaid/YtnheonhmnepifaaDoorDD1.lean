/- Walks: pieces are checked, on both sides. -/
import Derived.Test.YtnheonhmnepifaaDoorK5
import Derived.Test.YtnheonhmnepifaaDoorPD1
import Derived.Test.YtnheonhmnepifaaDoorB2
import Derived.Test.YtnheonhmnepifaaDoorLN0
namespace Go.Proofs
open Go Go.Abs
set_option linter.unusedSimpArgs false
set_option linter.unusedVariables false
theorem outside_calls (n a b : Int) (H : Heap) : ACalls Tryd.prog 96 [.int .i64 n, .int .i64 a, .int .i64 b] H fun x H' => x = .bool (decide (n < a) || decide (b < n)) ∧ H' = H := by
  refine ACalls.of_code (X := { pure := pu0 }) pu0_ok Tryd.func96 (by kernel_rfl) rfl (by kernel_rfl) (Nat.le_of_ble_eq_true rfl) ?_
  simp -implicitDefEqProofs only [go_sem, tys, regs0, Nat.reduceEqDiff, Nat.reduceAdd, Nat.reduceLeDiff, Nat.reduceLT, Nat.reduceMul, Int.natCast_one, Int.natCast_zero, Int.reduceEq, Int.reduceLT, Int.reduceLE, Int.reduceAdd, Int.reduceSub, Int.reduceToNat, UInt8.reduceToNat, Tryd.f96]
  simp +contextual -implicitDefEqProofs only [go_sem, gd_M, tys, regs0, Nat.reduceEqDiff, Nat.reduceAdd, Nat.reduceLeDiff, Nat.reduceLT, Nat.reduceMul, Int.natCast_one, Int.natCast_zero, Int.reduceEq, Int.reduceLT, Int.reduceLE, Int.reduceAdd, Int.reduceSub, Int.reduceToNat, UInt8.reduceToNat]
  exact Done.now ⟨rfl, rfl⟩
theorem pair_tup {s1 s2 a b : Int} (h : (s1, s2) = (a, b)) : AV.tup [.int .i64 a, .int .i64 b] = .tup [.int .i64 s1, .int .i64 s2] := by cases h; rfl
def sOut : List AV → Option AV := fn3 (.int .i64) (.int .i64) (.int .i64) fun n a b => some (.bool (decide (n < a) || decide (b < n)))
theorem sOut_eq (n a b : Int) : sOut [.int .i64 n, .int .i64 a, .int .i64 b] = some (.bool (decide (n < a) || decide (b < n))) := rfl
def puD1 : Pures := putP 96 sOut puM
theorem puD1_ok : PuOK Tryd.prog puD1 := by
  refine PuOK.put puM_ok ?_
  intro xs v hv H
  obtain ⟨x, y, z, p, q, r, rfl, h1, h2, h3, h4⟩ := fn3_some hv
  cases Rd.int_some h1; cases Rd.int_some h2; cases Rd.int_some h3; cases h4
  exact outside_calls _ _ _ H
set_option maxHeartbeats 1600000 in
theorem checkSteps_calls (l : List PieceV) (t : Tail) (old : Int) (H : Heap) (hl : l.length ≤ 1099511627776) (hr : ∀ p ∈ l, pcR p) (ho : inI old) :
    ACalls Tryd.prog 33 [.sl (l.map encPc) t, .int .i64 old] H fun x H' => x = .tup [.int .i64 (stepsV l old).1, .int .i64 (stepsV l old).2] ∧ H' = H := by
  have hS := stepsV.eq_1 l old
  generalize stepsV l old = sv at hS
  obtain ⟨s1, s2⟩ := sv
  refine ACalls.of_code (X := { pure := puD1 }) puD1_ok Tryd.func33 (by kernel_rfl) rfl (by kernel_rfl) (Nat.le_of_ble_eq_true rfl) ?_
  simp -implicitDefEqProofs only [go_sem, tys, regs0, Nat.reduceEqDiff, Nat.reduceAdd, Nat.reduceLeDiff, Nat.reduceLT, Nat.reduceMul, Int.natCast_one, Int.natCast_zero, Int.reduceEq, Int.reduceLT, Int.reduceLE, Int.reduceAdd, Int.reduceSub, Int.reduceToNat, UInt8.reduceToNat, Tryd.f33, puD1, sOut_eq]
  refine cnd_intro (fun h => ?_) (fun h => ?_)
  · have h' : old < 0 ∨ 65536 < old := by simpa using h
    rw [if_pos h'] at hS
    cases hS
    simp -implicitDefEqProofs only [go_sem, tys, regs0, Nat.reduceEqDiff, Nat.reduceAdd, Nat.reduceLeDiff, Nat.reduceLT, Nat.reduceMul, Int.natCast_one, Int.natCast_zero, Int.reduceEq, Int.reduceLT, Int.reduceLE, Int.reduceAdd, Int.reduceSub, Int.reduceToNat, UInt8.reduceToNat]
    exact Done.now ⟨rfl, rfl⟩
  have h' : ¬ (old < 0 ∨ 65536 < old) := by simpa using h
  rw [if_neg h'] at hS
  simp -implicitDefEqProofs only [go_sem, tys, regs0, Nat.reduceEqDiff, Nat.reduceAdd, Nat.reduceLeDiff, Nat.reduceLT, Nat.reduceMul, Int.natCast_one, Int.natCast_zero, Int.reduceEq, Int.reduceLT, Int.reduceLE, Int.reduceAdd, Int.reduceSub, Int.reduceToNat, UInt8.reduceToNat]
  refine cnd_intro (fun h2 => ?_) (fun h2 => ?_)
  · rw [if_pos (by simpa using h2)] at hS
    cases hS
    simp -implicitDefEqProofs only [go_sem, tys, regs0, Nat.reduceEqDiff, Nat.reduceAdd, Nat.reduceLeDiff, Nat.reduceLT, Nat.reduceMul, Int.natCast_one, Int.natCast_zero, Int.reduceEq, Int.reduceLT, Int.reduceLE, Int.reduceAdd, Int.reduceSub, Int.reduceToNat, UInt8.reduceToNat]
    exact Done.now ⟨rfl, rfl⟩
  have h2' : ¬ (5000 : Int) < l.length := by simpa using h2
  rw [if_neg h2'] at hS
  simp -implicitDefEqProofs only [go_sem, tys, regs0, Nat.reduceEqDiff, Nat.reduceAdd, Nat.reduceLeDiff, Nat.reduceLT, Nat.reduceMul, Int.natCast_one, Int.natCast_zero, Int.reduceEq, Int.reduceLT, Int.reduceLE, Int.reduceAdd, Int.reduceSub, Int.reduceToNat, UInt8.reduceToNat]
  refine aloop_intro (σ := Nat) (fun i => [(0, .sl (l.map encPc) t), (1, .int .i64 old), (6, .int .i64 (pcSum (l.take i))), (14, .sl (l.map encPc) t), (15, .int .i64 l.length), (16, .int .i64 i)])
    (fun i G => H.Sub G ∧ i ≤ l.length ∧ fst0 ((l.take i).map (pcE old)) = 0 ∧ 0 ≤ pcSum (l.take i) ∧ pcSum (l.take i) ≤ 4194304 * i) (fun i => l.length - i) 0 ?_ ?_ ?_
  · simp -implicitDefEqProofs only [go_sem, tys, regs0, Nat.reduceEqDiff, Nat.reduceAdd, Nat.reduceLeDiff, Nat.reduceLT, Nat.reduceMul, Int.natCast_one, Int.natCast_zero, Int.reduceEq, Int.reduceLT, Int.reduceLE, Int.reduceAdd, Int.reduceSub, Int.reduceToNat, UInt8.reduceToNat]
    simp [pcSum]
  · exact ⟨Heap.Sub.rfl' H, by omega, by simp [fst0], by simp [pcSum], by simp [pcSum]⟩
  · intro i r G hv hI
    have h0 := hv.1
    have h1 := hv.2.1
    have h6 := hv.2.2.1
    have h14 := hv.2.2.2.1
    have h15 := hv.2.2.2.2.1
    have h16 := hv.2.2.2.2.2.1
    have hB := hI.1
    have hi := hI.2.1
    have hz := hI.2.2.1
    have hs0 := hI.2.2.2.1
    have hs1 := hI.2.2.2.2
    clear hv hI
    simp -implicitDefEqProofs only [go_sem, tys, regs0, Nat.reduceEqDiff, Nat.reduceAdd, Nat.reduceLeDiff, Nat.reduceLT, Nat.reduceMul, Int.natCast_one, Int.natCast_zero, Int.reduceEq, Int.reduceLT, Int.reduceLE, Int.reduceAdd, Int.reduceSub, Int.reduceToNat, UInt8.reduceToNat, h0, h1, h6, h14, h15, h16]
    refine cnd_intro (fun h => ?_) (fun h => ?_)
    · simp only [decide_eq_true_eq] at h
      obtain ⟨p, hp⟩ : ∃ p, l[i]? = some p := getD_get' (by omega)
      have hrp := hr p (List.mem_of_getElem? hp)
      have he : (l.map (pcE old))[i]? = some (pcE old p) := by rw [List.getElem?_map, hp]; rfl
      rw [List.map_take] at hz
      have f1 := fst0_at hz he
      have f2 := fst0_succ hz he
      rw [← List.map_take] at f2
      have f3 := pcSum_succ hp
      have f4 := pcSize_ok hrp (by omega : old ≤ 65536)
      simp -implicitDefEqProofs only [go_sem, tys, regs0, Nat.reduceEqDiff, Nat.reduceAdd, Nat.reduceLeDiff, Nat.reduceLT, Nat.reduceMul, Int.natCast_one, Int.natCast_zero, Int.reduceEq, Int.reduceLT, Int.reduceLE, Int.reduceAdd, Int.reduceSub, Int.reduceToNat, UInt8.reduceToNat, h0, h1, h6, h14, h15, h16, hp, encPc]
      with_reducible refine nwC_intro fun id hid => ?_
      have hid2 := sub_none hB hid
      have hi5 : i ≤ 5000 := by omega
      have hpe := pcE.eq_1 old p
      have hps := pcSize.eq_1 p
      have r1 := hrp.1
      have r2 := hrp.2.1
      have r3 := hrp.2.2
      unfold inI at r1 r2
      generalize pcE old p = pe at *
      generalize pcSize p = ps at *
      simp +contextual -implicitDefEqProofs only [go_sem, gd_M, tys, regs0, Nat.reduceEqDiff, Nat.reduceAdd, Nat.reduceLeDiff, Nat.reduceLT, Nat.reduceMul, Int.natCast_one, Int.natCast_zero, Int.reduceEq, Int.reduceLT, Int.reduceLE, Int.reduceAdd, Int.reduceSub, Int.reduceToNat, UInt8.reduceToNat, h0, h1, h6, h14, h15, h16]
      refine cnd_intro (fun g => ?_) (fun g => ?_)
      · simp only [decide_eq_true_eq] at g
        rw [if_pos g] at hpe hps
        simp +contextual -implicitDefEqProofs only [go_sem, gd_M, tys, regs0, Nat.reduceEqDiff, Nat.reduceAdd, Nat.reduceLeDiff, Nat.reduceLT, Nat.reduceMul, Int.natCast_one, Int.natCast_zero, Int.reduceEq, Int.reduceLT, Int.reduceLE, Int.reduceAdd, Int.reduceSub, Int.reduceToNat, UInt8.reduceToNat, h0, h1, h6, h14, h15, h16]
        refine cnd_intro (fun g2 => ?_) (fun g2 => ?_)
        · rw [if_pos (by simpa using g2)] at hpe
          rw [f1 (by omega), if_pos (by omega), hpe] at hS
          simp +contextual -implicitDefEqProofs only [go_sem, gd_M, tys, regs0, Nat.reduceEqDiff, Nat.reduceAdd, Nat.reduceLeDiff, Nat.reduceLT, Nat.reduceMul, Int.natCast_one, Int.natCast_zero, Int.reduceEq, Int.reduceLT, Int.reduceLE, Int.reduceAdd, Int.reduceSub, Int.reduceToNat, UInt8.reduceToNat, h0, h1, h6, h14, h15, h16]
          exact Done.drop (hB.put' hid2 _) ⟨pair_tup hS, rfl⟩
        · rw [if_neg (by simpa using g2)] at hpe
          have f5 := f4 hpe
          simp +contextual -implicitDefEqProofs (disch := omega) only [go_sem, gd_M, tys, regs0, Nat.reduceEqDiff, Nat.reduceAdd, Nat.reduceLeDiff, Nat.reduceLT, Nat.reduceMul, Int.natCast_one, Int.natCast_zero, Int.reduceEq, Int.reduceLT, Int.reduceLE, Int.reduceAdd, Int.reduceSub, Int.reduceToNat, UInt8.reduceToNat, Go.IntWalk.i64_in, h0, h1, h6, h14, h15, h16]
          exact Again.mk (i + 1) (by simp -implicitDefEqProofs only [go_sem, tys, regs0, Nat.reduceEqDiff, Nat.reduceAdd, Nat.reduceLeDiff, Nat.reduceLT, Nat.reduceMul, Int.natCast_one, Int.natCast_zero, Int.reduceEq, Int.reduceLT, Int.reduceLE, Int.reduceAdd, Int.reduceSub, Int.reduceToNat, UInt8.reduceToNat, h0, h1, h6, h14, h15, h16, f3, hps]; simp) ⟨hB.put' hid2 _, by omega, f2 hpe, by omega, by omega⟩ (by omega)
      · simp only [decide_eq_false_iff_not] at g
        rw [if_neg g] at hpe hps
        have hw : 1 ≤ p.long → p.long ≤ old → IntKind.i64.wrap (old - p.long) = old - p.long := fun e1 e2 => Go.IntWalk.i64_in _ (by omega)
        simp +contextual -implicitDefEqProofs only [go_sem, gd_M, tys, regs0, Nat.reduceEqDiff, Nat.reduceAdd, Nat.reduceLeDiff, Nat.reduceLT, Nat.reduceMul, Int.natCast_one, Int.natCast_zero, Int.reduceEq, Int.reduceLT, Int.reduceLE, Int.reduceAdd, Int.reduceSub, Int.reduceToNat, UInt8.reduceToNat, h0, h1, h6, h14, h15, h16]
        refine cnd_intro (fun g2 => ?_) (fun g2 => ?_)
        · have g3 : p.at_ < 0 ∨ p.long < 1 ∨ old < p.long ∨ old - p.long < p.at_ := by
            simp only [Bool.or_eq_true, decide_eq_true_eq] at g2
            by_cases e1 : 1 ≤ p.long
            · by_cases e2 : p.long ≤ old
              · rw [hw e1 e2] at g2; omega
              · omega
            · omega
          rw [if_pos g3] at hpe
          rw [f1 (by omega), if_pos (by omega), hpe] at hS
          simp +contextual -implicitDefEqProofs only [go_sem, gd_M, tys, regs0, Nat.reduceEqDiff, Nat.reduceAdd, Nat.reduceLeDiff, Nat.reduceLT, Nat.reduceMul, Int.natCast_one, Int.natCast_zero, Int.reduceEq, Int.reduceLT, Int.reduceLE, Int.reduceAdd, Int.reduceSub, Int.reduceToNat, UInt8.reduceToNat, h0, h1, h6, h14, h15, h16]
          exact Done.drop (hB.put' hid2 _) ⟨pair_tup hS, rfl⟩
        · have g3 : ¬ (p.at_ < 0 ∨ p.long < 1 ∨ old < p.long ∨ old - p.long < p.at_) := by
            simp only [Bool.or_eq_false_iff, decide_eq_false_iff_not] at g2
            have := hw (by omega) (by omega)
            rw [this] at g2
            omega
          rw [if_neg g3] at hpe
          have f5 := f4 hpe
          simp +contextual -implicitDefEqProofs (disch := omega) only [go_sem, gd_M, tys, regs0, Nat.reduceEqDiff, Nat.reduceAdd, Nat.reduceLeDiff, Nat.reduceLT, Nat.reduceMul, Int.natCast_one, Int.natCast_zero, Int.reduceEq, Int.reduceLT, Int.reduceLE, Int.reduceAdd, Int.reduceSub, Int.reduceToNat, UInt8.reduceToNat, Go.IntWalk.i64_in, h0, h1, h6, h14, h15, h16]
          exact Again.mk (i + 1) (by simp -implicitDefEqProofs only [go_sem, tys, regs0, Nat.reduceEqDiff, Nat.reduceAdd, Nat.reduceLeDiff, Nat.reduceLT, Nat.reduceMul, Int.natCast_one, Int.natCast_zero, Int.reduceEq, Int.reduceLT, Int.reduceLE, Int.reduceAdd, Int.reduceSub, Int.reduceToNat, UInt8.reduceToNat, h0, h1, h6, h14, h15, h16, f3, hps]; simp) ⟨hB.put' hid2 _, by omega, f2 hpe, by omega, by omega⟩ (by omega)
    · simp only [decide_eq_false_iff_not] at h
      have e : i = l.length := by omega
      subst e
      rw [List.take_length] at h6 hs0 hs1 hz
      rw [if_neg (by simp [hz])] at hS
      simp -implicitDefEqProofs only [go_sem, tys, regs0, Nat.reduceEqDiff, Nat.reduceAdd, Nat.reduceLeDiff, Nat.reduceLT, Nat.reduceMul, Int.natCast_one, Int.natCast_zero, Int.reduceEq, Int.reduceLT, Int.reduceLE, Int.reduceAdd, Int.reduceSub, Int.reduceToNat, UInt8.reduceToNat, h0, h1, h6, h14, h15, h16]
      refine cnd_intro (fun g => ?_) (fun g => ?_)
      · rw [if_pos (by simpa using g)] at hS
        simp -implicitDefEqProofs only [go_sem, tys, regs0, Nat.reduceEqDiff, Nat.reduceAdd, Nat.reduceLeDiff, Nat.reduceLT, Nat.reduceMul, Int.natCast_one, Int.natCast_zero, Int.reduceEq, Int.reduceLT, Int.reduceLE, Int.reduceAdd, Int.reduceSub, Int.reduceToNat, UInt8.reduceToNat, h0, h1, h6]
        exact Done.drop hB ⟨pair_tup hS, rfl⟩
      · rw [if_neg (by simpa using g)] at hS
        simp -implicitDefEqProofs only [go_sem, tys, regs0, Nat.reduceEqDiff, Nat.reduceAdd, Nat.reduceLeDiff, Nat.reduceLT, Nat.reduceMul, Int.natCast_one, Int.natCast_zero, Int.reduceEq, Int.reduceLT, Int.reduceLE, Int.reduceAdd, Int.reduceSub, Int.reduceToNat, UInt8.reduceToNat, h0, h1, h6]
        exact Done.drop hB ⟨pair_tup hS, rfl⟩
set_option maxHeartbeats 1600000 in
theorem piecesError_calls (l : List PieceV) (t : Tail) (old : Int) (H : Heap) (hl : l.length ≤ 1099511627776) (hr : ∀ p ∈ l, pcR p) (ho : inI old) :
    ACalls Tryd.prog 34 [.sl (l.map encPc) t, .int .i64 old] H fun x H' => x = .tup [.int .i64 (stepsV l old).1, .int .i64 (stepsV l old).2] ∧ H' = H := by
  have hS := stepsV.eq_1 l old
  generalize stepsV l old = sv at hS
  obtain ⟨s1, s2⟩ := sv
  refine ACalls.of_code (X := { pure := puM }) puM_ok Tryd.func34 (by kernel_rfl) rfl (by kernel_rfl) (Nat.le_of_ble_eq_true rfl) ?_
  simp -implicitDefEqProofs only [go_sem, tys, regs0, Nat.reduceEqDiff, Nat.reduceAdd, Nat.reduceLeDiff, Nat.reduceLT, Nat.reduceMul, Int.natCast_one, Int.natCast_zero, Int.reduceEq, Int.reduceLT, Int.reduceLE, Int.reduceAdd, Int.reduceSub, Int.reduceToNat, UInt8.reduceToNat, Tryd.f34]
  simp +contextual -implicitDefEqProofs only [go_sem, gd_M, tys, regs0, Nat.reduceEqDiff, Nat.reduceAdd, Nat.reduceLeDiff, Nat.reduceLT, Nat.reduceMul, Int.natCast_one, Int.natCast_zero, Int.reduceEq, Int.reduceLT, Int.reduceLE, Int.reduceAdd, Int.reduceSub, Int.reduceToNat, UInt8.reduceToNat]
  refine cnd_intro (fun h => ?_) (fun h => ?_)
  · have h' : old < 0 ∨ 65536 < old := by simpa using h
    rw [if_pos h'] at hS
    cases hS
    simp -implicitDefEqProofs only [go_sem, tys, regs0, Nat.reduceEqDiff, Nat.reduceAdd, Nat.reduceLeDiff, Nat.reduceLT, Nat.reduceMul, Int.natCast_one, Int.natCast_zero, Int.reduceEq, Int.reduceLT, Int.reduceLE, Int.reduceAdd, Int.reduceSub, Int.reduceToNat, UInt8.reduceToNat]
    exact Done.now ⟨rfl, rfl⟩
  have h' : ¬ (old < 0 ∨ 65536 < old) := by simpa using h
  rw [if_neg h'] at hS
  simp -implicitDefEqProofs only [go_sem, tys, regs0, Nat.reduceEqDiff, Nat.reduceAdd, Nat.reduceLeDiff, Nat.reduceLT, Nat.reduceMul, Int.natCast_one, Int.natCast_zero, Int.reduceEq, Int.reduceLT, Int.reduceLE, Int.reduceAdd, Int.reduceSub, Int.reduceToNat, UInt8.reduceToNat]
  refine cnd_intro (fun h2 => ?_) (fun h2 => ?_)
  · rw [if_pos (by simpa using h2)] at hS
    cases hS
    simp -implicitDefEqProofs only [go_sem, tys, regs0, Nat.reduceEqDiff, Nat.reduceAdd, Nat.reduceLeDiff, Nat.reduceLT, Nat.reduceMul, Int.natCast_one, Int.natCast_zero, Int.reduceEq, Int.reduceLT, Int.reduceLE, Int.reduceAdd, Int.reduceSub, Int.reduceToNat, UInt8.reduceToNat]
    exact Done.now ⟨rfl, rfl⟩
  have h2' : ¬ (5000 : Int) < l.length := by simpa using h2
  rw [if_neg h2'] at hS
  simp -implicitDefEqProofs only [go_sem, tys, regs0, Nat.reduceEqDiff, Nat.reduceAdd, Nat.reduceLeDiff, Nat.reduceLT, Nat.reduceMul, Int.natCast_one, Int.natCast_zero, Int.reduceEq, Int.reduceLT, Int.reduceLE, Int.reduceAdd, Int.reduceSub, Int.reduceToNat, UInt8.reduceToNat]
  refine aloop_intro (σ := Nat) (fun i => [(0, .sl (l.map encPc) t), (1, .int .i64 old), (6, .int .i64 (pcSum (l.take i))), (18, .sl (l.map encPc) t), (19, .int .i64 l.length), (20, .int .i64 i)])
    (fun i G => H.Sub G ∧ i ≤ l.length ∧ fst0 ((l.take i).map (pcE old)) = 0 ∧ 0 ≤ pcSum (l.take i) ∧ pcSum (l.take i) ≤ 4194304 * i) (fun i => l.length - i) 0 ?_ ?_ ?_
  · simp -implicitDefEqProofs only [go_sem, tys, regs0, Nat.reduceEqDiff, Nat.reduceAdd, Nat.reduceLeDiff, Nat.reduceLT, Nat.reduceMul, Int.natCast_one, Int.natCast_zero, Int.reduceEq, Int.reduceLT, Int.reduceLE, Int.reduceAdd, Int.reduceSub, Int.reduceToNat, UInt8.reduceToNat]
    simp [pcSum]
  · exact ⟨Heap.Sub.rfl' H, by omega, by simp [fst0], by simp [pcSum], by simp [pcSum]⟩
  · intro i r G hv hI
    have h0 := hv.1
    have h1 := hv.2.1
    have h6 := hv.2.2.1
    have h18 := hv.2.2.2.1
    have h19 := hv.2.2.2.2.1
    have h20 := hv.2.2.2.2.2.1
    have hB := hI.1
    have hi := hI.2.1
    have hz := hI.2.2.1
    have hs0 := hI.2.2.2.1
    have hs1 := hI.2.2.2.2
    clear hv hI
    simp -implicitDefEqProofs only [go_sem, tys, regs0, Nat.reduceEqDiff, Nat.reduceAdd, Nat.reduceLeDiff, Nat.reduceLT, Nat.reduceMul, Int.natCast_one, Int.natCast_zero, Int.reduceEq, Int.reduceLT, Int.reduceLE, Int.reduceAdd, Int.reduceSub, Int.reduceToNat, UInt8.reduceToNat, h0, h1, h6, h18, h19, h20]
    refine cnd_intro (fun h => ?_) (fun h => ?_)
    · simp only [decide_eq_true_eq] at h
      obtain ⟨p, hp⟩ : ∃ p, l[i]? = some p := getD_get' (by omega)
      have hrp := hr p (List.mem_of_getElem? hp)
      have he : (l.map (pcE old))[i]? = some (pcE old p) := by rw [List.getElem?_map, hp]; rfl
      rw [List.map_take] at hz
      have f1 := fst0_at hz he
      have f2 := fst0_succ hz he
      rw [← List.map_take] at f2
      have f3 := pcSum_succ hp
      have f4 := pcSize_ok hrp (by omega : old ≤ 65536)
      simp -implicitDefEqProofs only [go_sem, tys, regs0, Nat.reduceEqDiff, Nat.reduceAdd, Nat.reduceLeDiff, Nat.reduceLT, Nat.reduceMul, Int.natCast_one, Int.natCast_zero, Int.reduceEq, Int.reduceLT, Int.reduceLE, Int.reduceAdd, Int.reduceSub, Int.reduceToNat, UInt8.reduceToNat, h0, h1, h6, h18, h19, h20, hp, encPc]
      with_reducible refine nwC_intro fun id hid => ?_
      have hid2 := sub_none hB hid
      have hi5 : i ≤ 5000 := by omega
      have hpe := pcE.eq_1 old p
      have hps := pcSize.eq_1 p
      have r1 := hrp.1
      have r2 := hrp.2.1
      have r3 := hrp.2.2
      unfold inI at r1 r2
      generalize pcE old p = pe at *
      generalize pcSize p = ps at *
      simp +contextual -implicitDefEqProofs only [go_sem, gd_M, tys, regs0, Nat.reduceEqDiff, Nat.reduceAdd, Nat.reduceLeDiff, Nat.reduceLT, Nat.reduceMul, Int.natCast_one, Int.natCast_zero, Int.reduceEq, Int.reduceLT, Int.reduceLE, Int.reduceAdd, Int.reduceSub, Int.reduceToNat, UInt8.reduceToNat, h0, h1, h6, h18, h19, h20]
      refine cnd_intro (fun g => ?_) (fun g => ?_)
      · simp only [decide_eq_true_eq] at g
        rw [if_pos g] at hpe hps
        simp +contextual -implicitDefEqProofs only [go_sem, gd_M, tys, regs0, Nat.reduceEqDiff, Nat.reduceAdd, Nat.reduceLeDiff, Nat.reduceLT, Nat.reduceMul, Int.natCast_one, Int.natCast_zero, Int.reduceEq, Int.reduceLT, Int.reduceLE, Int.reduceAdd, Int.reduceSub, Int.reduceToNat, UInt8.reduceToNat, h0, h1, h6, h18, h19, h20]
        refine cnd_intro (fun g2 => ?_) (fun g2 => ?_)
        · rw [if_pos (by simpa using g2)] at hpe
          rw [f1 (by omega), if_pos (by omega), hpe] at hS
          simp +contextual -implicitDefEqProofs only [go_sem, gd_M, tys, regs0, Nat.reduceEqDiff, Nat.reduceAdd, Nat.reduceLeDiff, Nat.reduceLT, Nat.reduceMul, Int.natCast_one, Int.natCast_zero, Int.reduceEq, Int.reduceLT, Int.reduceLE, Int.reduceAdd, Int.reduceSub, Int.reduceToNat, UInt8.reduceToNat, h0, h1, h6, h18, h19, h20]
          exact Done.drop (hB.put' hid2 _) ⟨pair_tup hS, rfl⟩
        · rw [if_neg (by simpa using g2)] at hpe
          have f5 := f4 hpe
          simp +contextual -implicitDefEqProofs (disch := omega) only [go_sem, gd_M, tys, regs0, Nat.reduceEqDiff, Nat.reduceAdd, Nat.reduceLeDiff, Nat.reduceLT, Nat.reduceMul, Int.natCast_one, Int.natCast_zero, Int.reduceEq, Int.reduceLT, Int.reduceLE, Int.reduceAdd, Int.reduceSub, Int.reduceToNat, UInt8.reduceToNat, Go.IntWalk.i64_in, h0, h1, h6, h18, h19, h20]
          exact Again.mk (i + 1) (by simp -implicitDefEqProofs only [go_sem, tys, regs0, Nat.reduceEqDiff, Nat.reduceAdd, Nat.reduceLeDiff, Nat.reduceLT, Nat.reduceMul, Int.natCast_one, Int.natCast_zero, Int.reduceEq, Int.reduceLT, Int.reduceLE, Int.reduceAdd, Int.reduceSub, Int.reduceToNat, UInt8.reduceToNat, h0, h1, h6, h18, h19, h20, f3, hps]; simp) ⟨hB.put' hid2 _, by omega, f2 hpe, by omega, by omega⟩ (by omega)
      · simp only [decide_eq_false_iff_not] at g
        rw [if_neg g] at hpe hps
        have hw : 0 ≤ p.at_ → p.at_ ≤ old → IntKind.i64.wrap (old - p.at_) = old - p.at_ := fun e1 e2 => Go.IntWalk.i64_in _ (by omega)
        simp +contextual -implicitDefEqProofs only [go_sem, gd_M, tys, regs0, Nat.reduceEqDiff, Nat.reduceAdd, Nat.reduceLeDiff, Nat.reduceLT, Nat.reduceMul, Int.natCast_one, Int.natCast_zero, Int.reduceEq, Int.reduceLT, Int.reduceLE, Int.reduceAdd, Int.reduceSub, Int.reduceToNat, UInt8.reduceToNat, h0, h1, h6, h18, h19, h20]
        refine cnd_intro (fun g2 => ?_) (fun g2 => ?_)
        · have g3 : p.at_ < 0 ∨ p.long < 1 ∨ old < p.long ∨ old - p.long < p.at_ := by
            simp only [Bool.or_eq_true, decide_eq_true_eq] at g2
            by_cases e1 : 0 ≤ p.at_
            · by_cases e2 : p.at_ ≤ old
              · rw [hw e1 e2] at g2; omega
              · omega
            · omega
          rw [if_pos g3] at hpe
          rw [f1 (by omega), if_pos (by omega), hpe] at hS
          simp +contextual -implicitDefEqProofs only [go_sem, gd_M, tys, regs0, Nat.reduceEqDiff, Nat.reduceAdd, Nat.reduceLeDiff, Nat.reduceLT, Nat.reduceMul, Int.natCast_one, Int.natCast_zero, Int.reduceEq, Int.reduceLT, Int.reduceLE, Int.reduceAdd, Int.reduceSub, Int.reduceToNat, UInt8.reduceToNat, h0, h1, h6, h18, h19, h20]
          exact Done.drop (hB.put' hid2 _) ⟨pair_tup hS, rfl⟩
        · have g3 : ¬ (p.at_ < 0 ∨ p.long < 1 ∨ old < p.long ∨ old - p.long < p.at_) := by
            simp only [Bool.or_eq_false_iff, decide_eq_false_iff_not] at g2
            have := hw (by omega) (by omega)
            rw [this] at g2
            omega
          rw [if_neg g3] at hpe
          have f5 := f4 hpe
          simp +contextual -implicitDefEqProofs (disch := omega) only [go_sem, gd_M, tys, regs0, Nat.reduceEqDiff, Nat.reduceAdd, Nat.reduceLeDiff, Nat.reduceLT, Nat.reduceMul, Int.natCast_one, Int.natCast_zero, Int.reduceEq, Int.reduceLT, Int.reduceLE, Int.reduceAdd, Int.reduceSub, Int.reduceToNat, UInt8.reduceToNat, Go.IntWalk.i64_in, h0, h1, h6, h18, h19, h20]
          exact Again.mk (i + 1) (by simp -implicitDefEqProofs only [go_sem, tys, regs0, Nat.reduceEqDiff, Nat.reduceAdd, Nat.reduceLeDiff, Nat.reduceLT, Nat.reduceMul, Int.natCast_one, Int.natCast_zero, Int.reduceEq, Int.reduceLT, Int.reduceLE, Int.reduceAdd, Int.reduceSub, Int.reduceToNat, UInt8.reduceToNat, h0, h1, h6, h18, h19, h20, f3, hps]; simp) ⟨hB.put' hid2 _, by omega, f2 hpe, by omega, by omega⟩ (by omega)
    · simp only [decide_eq_false_iff_not] at h
      have e : i = l.length := by omega
      subst e
      rw [List.take_length] at h6 hs0 hs1 hz
      rw [if_neg (by simp [hz])] at hS
      simp -implicitDefEqProofs only [go_sem, tys, regs0, Nat.reduceEqDiff, Nat.reduceAdd, Nat.reduceLeDiff, Nat.reduceLT, Nat.reduceMul, Int.natCast_one, Int.natCast_zero, Int.reduceEq, Int.reduceLT, Int.reduceLE, Int.reduceAdd, Int.reduceSub, Int.reduceToNat, UInt8.reduceToNat, h0, h1, h6, h18, h19, h20]
      refine cnd_intro (fun g => ?_) (fun g => ?_)
      · rw [if_pos (by simpa using g)] at hS
        simp -implicitDefEqProofs only [go_sem, tys, regs0, Nat.reduceEqDiff, Nat.reduceAdd, Nat.reduceLeDiff, Nat.reduceLT, Nat.reduceMul, Int.natCast_one, Int.natCast_zero, Int.reduceEq, Int.reduceLT, Int.reduceLE, Int.reduceAdd, Int.reduceSub, Int.reduceToNat, UInt8.reduceToNat, h0, h1, h6]
        exact Done.drop hB ⟨pair_tup hS, rfl⟩
      · rw [if_neg (by simpa using g)] at hS
        simp -implicitDefEqProofs only [go_sem, tys, regs0, Nat.reduceEqDiff, Nat.reduceAdd, Nat.reduceLeDiff, Nat.reduceLT, Nat.reduceMul, Int.natCast_one, Int.natCast_zero, Int.reduceEq, Int.reduceLT, Int.reduceLE, Int.reduceAdd, Int.reduceSub, Int.reduceToNat, UInt8.reduceToNat, h0, h1, h6]
        exact Done.drop hB ⟨pair_tup hS, rfl⟩
end Go.Proofs
