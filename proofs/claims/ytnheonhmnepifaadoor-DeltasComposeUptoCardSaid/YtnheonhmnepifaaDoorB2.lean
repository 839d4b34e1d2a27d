/- Walks: strings.Join with nothing between. -/
import Derived.Test.YtnheonhmnepifaaDoorB1
import Derived.Test.YtnheonhmnepifaaDoorC0
namespace Go.Proofs
open Go Go.Abs
set_option linter.unusedSimpArgs false
set_option linter.unusedVariables false
theorem flat_take {l : List Bytes} {i : Nat} {c : Bytes} (h : l[i]? = some c) : (l.take (i + 1)).flatten = (l.take i).flatten ++ c := by
  rw [List.take_add_one, h]; simp
theorem flat_take_le (l : List Bytes) (i : Nat) : (l.take i).flatten.length ≤ l.flatten.length := by
  conv => rhs; rw [← List.take_append_drop i l, List.flatten_append, List.length_append]
  omega
set_option maxHeartbeats 800000 in
theorem join_calls (l : List Bytes) (t : Tail) (H : Heap) (hl : l.length ≤ 1099511627776) (hb' : l.flatten.length ≤ 140737488355328) :
    ACalls Tryd.prog 61 [.sl (l.map encS) t, .str []] H fun x H' => x = .str l.flatten ∧ H' = H := by
  by_cases h0 : l.length = 0
  · have e : l = [] := List.eq_nil_of_length_eq_zero h0
    subst e
    refine ACalls.of_code (X := { pure := pu0 }) pu0_ok Tryd.func61 (by kernel_rfl) rfl (by kernel_rfl) (Nat.le_of_ble_eq_true rfl) ?_
    simp -implicitDefEqProofs only [go_sem, tys, regs0, Nat.reduceEqDiff, Nat.reduceAdd, Nat.reduceLeDiff, Nat.reduceLT, Nat.reduceMul, Int.natCast_one, Int.natCast_zero, Int.reduceEq, Int.reduceLT, Int.reduceLE, Int.reduceAdd, Int.reduceSub, Int.reduceToNat, UInt8.reduceToNat, Tryd.f61]
    exact Done.now ⟨rfl, rfl⟩
  by_cases h1 : l.length = 1
  · obtain ⟨s, rfl⟩ := List.length_eq_one_iff.1 h1
    refine ACalls.of_code (X := { pure := pu0 }) pu0_ok Tryd.func61 (by kernel_rfl) rfl (by kernel_rfl) (Nat.le_of_ble_eq_true rfl) ?_
    simp -implicitDefEqProofs only [go_sem, tys, regs0, Nat.reduceEqDiff, Nat.reduceAdd, Nat.reduceLeDiff, Nat.reduceLT, Nat.reduceMul, Int.natCast_one, Int.natCast_zero, Int.reduceEq, Int.reduceLT, Int.reduceLE, Int.reduceAdd, Int.reduceSub, Int.reduceToNat, UInt8.reduceToNat, Tryd.f61, encS]
    exact Done.now ⟨by simp, rfl⟩
  have d0 : decide ((l.length : Int) = 0) = false := decide_eq_false (by omega)
  have d1 : decide ((l.length : Int) = 1) = false := decide_eq_false (by omega)
  refine ACalls.of_code (X := { pure := pu0, ms := fun t => decide (t = 8) }) pu0_ok Tryd.func61 (by kernel_rfl) rfl (by kernel_rfl) (Nat.le_of_ble_eq_true rfl) ?_
  simp -implicitDefEqProofs only [go_sem, tys, regs0, Nat.reduceEqDiff, Nat.reduceAdd, Nat.reduceLeDiff, Nat.reduceLT, Nat.reduceMul, Int.natCast_one, Int.natCast_zero, Int.reduceEq, Int.reduceLT, Int.reduceLE, Int.reduceAdd, Int.reduceSub, Int.reduceToNat, UInt8.reduceToNat, Tryd.f61, d0, d1]
  refine aloop_intro (σ := Nat) (fun i => [(0, .sl (l.map encS) t), (1, .str []), (5, .int .i64 ((l.take i).flatten.length : Int)), (39, .sl (l.map encS) t), (40, .int .i64 l.length), (41, .int .i64 i)]) (fun i G => G = H ∧ i ≤ l.length) (fun i => l.length - i) 0 ?_ ?_ ?_
  · simp -implicitDefEqProofs only [go_sem, tys, regs0, Nat.reduceEqDiff, Nat.reduceAdd, Nat.reduceLeDiff, Nat.reduceLT, Nat.reduceMul, Int.natCast_one, Int.natCast_zero, Int.reduceEq, Int.reduceLT, Int.reduceLE, Int.reduceAdd, Int.reduceSub, Int.reduceToNat, UInt8.reduceToNat]
    simp
  · simp
  · intro i r G hv hI
    have h0 := hv.1
    have h1 := hv.2.1
    have h5 := hv.2.2.1
    have h39 := hv.2.2.2.1
    have h40 := hv.2.2.2.2.1
    have h41 := hv.2.2.2.2.2.1
    have hG := hI.1.symm
    have hi := hI.2
    clear hv hI
    subst hG
    simp -implicitDefEqProofs only [go_sem, tys, regs0, Nat.reduceEqDiff, Nat.reduceAdd, Nat.reduceLeDiff, Nat.reduceLT, Nat.reduceMul, Int.natCast_one, Int.natCast_zero, Int.reduceEq, Int.reduceLT, Int.reduceLE, Int.reduceAdd, Int.reduceSub, Int.reduceToNat, UInt8.reduceToNat, h0, h1, h5, h39, h40, h41]
    refine cnd_intro (fun h => ?_) (fun h => ?_)
    · simp only [decide_eq_true_eq] at h
      obtain ⟨c, hc⟩ : ∃ c, l[i]? = some c := ⟨l[i]'(by omega), List.getElem?_eq_getElem _⟩
      have f1 := flat_take_le l i
      have f2 := flat_take hc
      have f3 := flat_take_le l (i + 1)
      rw [f2, List.length_append] at f3
      have d2 : decide (9223372036854775807 - (((l.take i).flatten.length : Nat) : Int) < (c.length : Int)) = false := decide_eq_false (by omega)
      simp -implicitDefEqProofs (disch := omega) only [go_sem, tys, regs0, Nat.reduceEqDiff, Nat.reduceAdd, Nat.reduceLeDiff, Nat.reduceLT, Nat.reduceMul, Int.natCast_one, Int.natCast_zero, Int.reduceEq, Int.reduceLT, Int.reduceLE, Int.reduceAdd, Int.reduceSub, Int.reduceToNat, UInt8.reduceToNat, Go.IntWalk.i64_in, h0, h1, h5, h39, h40, h41, hc, encS, d2]
      refine Again.mk (i + 1) (by simp -implicitDefEqProofs only [go_sem, tys, regs0, Nat.reduceEqDiff, Nat.reduceAdd, Nat.reduceLeDiff, Nat.reduceLT, Nat.reduceMul, Int.natCast_one, Int.natCast_zero, Int.reduceEq, Int.reduceLT, Int.reduceLE, Int.reduceAdd, Int.reduceSub, Int.reduceToNat, UInt8.reduceToNat, h0, h1, h5, h39, h40, h41, f2, List.length_append]; simp) ⟨rfl, by omega⟩ (by omega)
    · simp only [decide_eq_false_iff_not] at h
      have e : i = l.length := by omega
      subst e
      rw [List.take_length] at h5
      simp -implicitDefEqProofs only [go_sem, tys, regs0, Nat.reduceEqDiff, Nat.reduceAdd, Nat.reduceLeDiff, Nat.reduceLT, Nat.reduceMul, Int.natCast_one, Int.natCast_zero, Int.reduceEq, Int.reduceLT, Int.reduceLE, Int.reduceAdd, Int.reduceSub, Int.reduceToNat, UInt8.reduceToNat, h0, h1, h5, h39, h40, h41]
      refine nwT_intro fun b hb => ?_
      simp -implicitDefEqProofs only [go_sem, tys, regs0, Nat.reduceEqDiff, Nat.reduceAdd, Nat.reduceLeDiff, Nat.reduceLT, Nat.reduceMul, Int.natCast_one, Int.natCast_zero, Int.reduceEq, Int.reduceLT, Int.reduceLE, Int.reduceAdd, Int.reduceSub, Int.reduceToNat, UInt8.reduceToNat, h0, h1, h5]
      have hsub : H.Sub (H.put b (.cells [.nilp, .snil])) := (Heap.Sub.rfl' H).put' hb _
      refine bldGrow_k hsub hb (put_same _ _ _) hb' (fun G1 hG1 _ => ?_)
      obtain ⟨c0, hc0⟩ : ∃ c, l[0]? = some c := ⟨l[0]'(by omega), List.getElem?_eq_getElem _⟩
      have f0 : (l.take (0 + 1)).flatten = c0 := by rw [flat_take hc0]; simp
      have f1 := flat_take_le l (0 + 1)
      rw [f0] at f1
      simp -implicitDefEqProofs (disch := omega) only [go_sem, tys, regs0, Nat.reduceEqDiff, Nat.reduceAdd, Nat.reduceLeDiff, Nat.reduceLT, Nat.reduceMul, Int.natCast_one, Int.natCast_zero, Int.reduceEq, Int.reduceLT, Int.reduceLE, Int.reduceAdd, Int.reduceSub, Int.reduceToNat, UInt8.reduceToNat, Go.IntWalk.i64_in, h0, h1, h5, Int.toNat_zero, Int.le_refl, hc0, encS]
      refine writeString_k hG1 (by simp; omega) (fun G2 hG2 _ => ?_)
      rw [List.nil_append] at hG2
      have hlm : (((l.map encS).take l.length).drop 1) = (l.drop 1).map encS := by
        rw [List.take_of_length_le (by simp), List.map_drop]
      have hle : (1 : Int) ≤ l.length := by omega
      simp -implicitDefEqProofs (disch := omega) only [go_sem, tys, regs0, Nat.reduceEqDiff, Nat.reduceAdd, Nat.reduceLeDiff, Nat.reduceLT, Nat.reduceMul, Int.natCast_one, Int.natCast_zero, Int.reduceEq, Int.reduceLT, Int.reduceLE, Int.reduceAdd, Int.reduceSub, Int.reduceToNat, UInt8.reduceToNat, Go.IntWalk.i64_in, h0, h1, Int.toNat_one, hlm, hle, Int.le_refl, encS, List.length_drop]
      refine aloop_intro (σ := Nat) (fun i => [(1, .str []), (8, bldP b), (63, .sl ((l.drop 1).map encS) (cutTail (some (.const (.int .i64 1))) none t)), (64, .int .i64 ((l.length - 1 : Nat) : Int)), (65, .int .i64 i)])
        (fun i G => BldG (!decide (l.flatten.length = 0)) H G b (l.take (i + 1)).flatten ∧ i ≤ l.length - 1) (fun i => l.length - 1 - i) 0 ?_ ?_ ?_
      · simp -implicitDefEqProofs only [go_sem, tys, regs0, Nat.reduceEqDiff, Nat.reduceAdd, Nat.reduceLeDiff, Nat.reduceLT, Nat.reduceMul, Int.natCast_one, Int.natCast_zero, Int.reduceEq, Int.reduceLT, Int.reduceLE, Int.reduceAdd, Int.reduceSub, Int.reduceToNat, UInt8.reduceToNat, h1]
      · rw [f0]; exact ⟨hG2, by omega⟩
      · intro i r G hv hI
        have h1 := hv.1
        have h8 := hv.2.1
        have h63 := hv.2.2.1
        have h64 := hv.2.2.2.1
        have h65 := hv.2.2.2.2.1
        have hB := hI.1
        have hi := hI.2
        clear hv hI
        simp -implicitDefEqProofs only [go_sem, tys, regs0, Nat.reduceEqDiff, Nat.reduceAdd, Nat.reduceLeDiff, Nat.reduceLT, Nat.reduceMul, Int.natCast_one, Int.natCast_zero, Int.reduceEq, Int.reduceLT, Int.reduceLE, Int.reduceAdd, Int.reduceSub, Int.reduceToNat, UInt8.reduceToNat, h1, h8, h63, h64, h65]
        refine cnd_intro (fun h => ?_) (fun h => ?_)
        · simp only [decide_eq_true_eq] at h
          obtain ⟨c, hc⟩ : ∃ c, l[i + 1]? = some c := ⟨l[i + 1]'(by omega), List.getElem?_eq_getElem _⟩
          have hc2 : (l.drop 1)[i]? = some c := by rw [List.getElem?_drop, Nat.add_comm]; exact hc
          have f2 := flat_take hc
          have f3 := flat_take_le l (i + 1 + 1)
          have f4 := flat_take_le l (i + 1)
          rw [f2, List.length_append] at f3
          simp -implicitDefEqProofs (disch := omega) only [go_sem, tys, regs0, Nat.reduceEqDiff, Nat.reduceAdd, Nat.reduceLeDiff, Nat.reduceLT, Nat.reduceMul, Int.natCast_one, Int.natCast_zero, Int.reduceEq, Int.reduceLT, Int.reduceLE, Int.reduceAdd, Int.reduceSub, Int.reduceToNat, UInt8.reduceToNat, Go.IntWalk.i64_in, h1, h8, h63, h64, h65, hc2, encS]
          refine writeString_k hB (by rw [List.length_nil]; omega) (fun G3 hG3 _ => ?_)
          simp -implicitDefEqProofs (disch := omega) only [go_sem, tys, regs0, Nat.reduceEqDiff, Nat.reduceAdd, Nat.reduceLeDiff, Nat.reduceLT, Nat.reduceMul, Int.natCast_one, Int.natCast_zero, Int.reduceEq, Int.reduceLT, Int.reduceLE, Int.reduceAdd, Int.reduceSub, Int.reduceToNat, UInt8.reduceToNat, Go.IntWalk.i64_in, h1, h8, h63, h64, h65, hc2, encS]
          refine writeString_k hG3 (by rw [List.append_nil]; omega) (fun G4 hG4 _ => ?_)
          simp -implicitDefEqProofs (disch := omega) only [go_sem, tys, regs0, Nat.reduceEqDiff, Nat.reduceAdd, Nat.reduceLeDiff, Nat.reduceLT, Nat.reduceMul, Int.natCast_one, Int.natCast_zero, Int.reduceEq, Int.reduceLT, Int.reduceLE, Int.reduceAdd, Int.reduceSub, Int.reduceToNat, UInt8.reduceToNat, Go.IntWalk.i64_in, h1, h8, h63, h64, h65, hc2, encS]
          rw [List.append_nil, ← f2] at hG4
          exact Again.mk (i + 1) (by simp -implicitDefEqProofs only [go_sem, tys, regs0, Nat.reduceEqDiff, Nat.reduceAdd, Nat.reduceLeDiff, Nat.reduceLT, Nat.reduceMul, Int.natCast_one, Int.natCast_zero, Int.reduceEq, Int.reduceLT, Int.reduceLE, Int.reduceAdd, Int.reduceSub, Int.reduceToNat, UInt8.reduceToNat, h1, h8, h63, h64, h65]; exact rfl) ⟨hG4, by omega⟩ (by omega)
        · simp only [decide_eq_false_iff_not] at h
          have e : i + 1 = l.length := by omega
          rw [e, List.take_length] at hB
          simp -implicitDefEqProofs only [go_sem, tys, regs0, Nat.reduceEqDiff, Nat.reduceAdd, Nat.reduceLeDiff, Nat.reduceLT, Nat.reduceMul, Int.natCast_one, Int.natCast_zero, Int.reduceEq, Int.reduceLT, Int.reduceLE, Int.reduceAdd, Int.reduceSub, Int.reduceToNat, UInt8.reduceToNat, h1, h8, h63, h64, h65]
          refine bldString_k hB hb' (fun hn => by intro e; rw [e] at hn; simp at hn) ?_
          simp -implicitDefEqProofs only [go_sem, tys, regs0, Nat.reduceEqDiff, Nat.reduceAdd, Nat.reduceLeDiff, Nat.reduceLT, Nat.reduceMul, Int.natCast_one, Int.natCast_zero, Int.reduceEq, Int.reduceLT, Int.reduceLE, Int.reduceAdd, Int.reduceSub, Int.reduceToNat, UInt8.reduceToNat]
          exact Done.drop hB.sub ⟨rfl, rfl⟩
end Go.Proofs
