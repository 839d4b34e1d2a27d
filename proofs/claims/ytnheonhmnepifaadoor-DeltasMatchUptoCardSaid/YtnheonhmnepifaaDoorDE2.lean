/- Walks: the law DeltasMatch. -/
import Derived.Test.YtnheonhmnepifaaDoorDE1
namespace Go.Proofs
open Go Go.Abs
set_option linter.unusedSimpArgs false
set_option linter.unusedVariables false
set_option maxRecDepth 20000
def MatI (md : DeltaV) (i7 : Nat) (H : Heap) (i : Nat) (G : Heap) : Prop := G i7 = some (.cells (encDl md .unk)) ∧ H.Sub G ∧ i ≤ md.ps.length
set_option maxHeartbeats 6400000 in
theorem dmatch_calls (a b : Bytes) (H : Heap) (ha : a.length ≤ 1048576) (hb : b.length ≤ 1048576) :
    ACalls Tryd.prog 9 [.str a, .str b] H fun x H' => x = .bool true ∧ H' = H := by
  have q1 := sMake_eq a b (by omega) (by omega)
  have q2 := sMake_eq b a (by omega) (by omega)
  have hok := makeV_ok (a := a) (b := b)
  have hap := make_made (a := a) (b := b)
  have hap2 := make_made (a := b) (b := a)
  have hr1 := makeV_dlR a b
  have hr2 := makeV_dlR b a
  have hl1 := makeV_len a b
  have hl2 := makeV_len b a
  have e2 : makeT b a = .tup [.agg (encDl (makeV b a).1 .unk), .int .i64 (makeV b a).2] := rfl
  have hback := fun (d : DeltaV) (G : Heap) (h1 : dlR d) (h2 : applyV a d = (b, 0)) => back_calls a b d .unk G h1 h2 (by omega) (by omega)
  rw [e2] at hback
  clear e2
  generalize makeV a b = mv at *
  obtain ⟨md, mf⟩ := mv
  generalize makeV b a = mw at *
  obtain ⟨wd, wf⟩ := mw
  simp only at q1 q2 hok hap hap2 hr1 hr2 hl1 hl2 hback
  have q3 := sSame_eq md md .unk .unk (by omega)
  have q4 := sSame_eq wd wd .unk .unk (by omega)
  have hu : encDl md .unk = [.int .i64 md.old, .int .i64 md.new, .str md.osum, .str md.nsum, .sl (md.ps.map encPc) .unk] := rfl
  have hu2 : encDl wd .unk = [.int .i64 wd.old, .int .i64 wd.new, .str wd.osum, .str wd.nsum, .sl (wd.ps.map encPc) .unk] := rfl
  rw [hu] at q1 q3
  rw [hu2] at q2 q4
  by_cases g : ¬ mf = 0
  · have y1 : decide (¬ mf = 0) = true := decide_eq_true g
    refine ACalls.of_code (X := { pure := puH }) puH_ok Tryd.func9 (by kernel_rfl) rfl (by kernel_rfl) (Nat.le_of_ble_eq_true rfl) ?_
    simp -implicitDefEqProofs only [go_sem, tys, regs0, Nat.reduceEqDiff, Nat.reduceAdd, Nat.reduceLeDiff, Nat.reduceLT, Nat.reduceMul, Int.natCast_one, Int.natCast_zero, Int.reduceEq, Int.reduceLT, Int.reduceLE, Int.reduceAdd, Int.reduceSub, Int.reduceToNat, UInt8.reduceToNat, Tryd.f9]
    simp -implicitDefEqProofs only [go_sem, tys, regs0, Nat.reduceEqDiff, Nat.reduceAdd, Nat.reduceLeDiff, Nat.reduceLT, Nat.reduceMul, Int.natCast_one, Int.natCast_zero, Int.reduceEq, Int.reduceLT, Int.reduceLE, Int.reduceAdd, Int.reduceSub, Int.reduceToNat, UInt8.reduceToNat, puH, puF, puP8, puP7, puP6, puP5, puM, puN, pu0, sLandD, q1]
    with_reducible refine nwC_intro fun i5 hi5 => ?_
    simp -implicitDefEqProofs only [go_sem, tys, regs0, Nat.reduceEqDiff, Nat.reduceAdd, Nat.reduceLeDiff, Nat.reduceLT, Nat.reduceMul, Int.natCast_one, Int.natCast_zero, Int.reduceEq, Int.reduceLT, Int.reduceLE, Int.reduceAdd, Int.reduceSub, Int.reduceToNat, UInt8.reduceToNat, puH, puF, puP8, puP7, puP6, puP5, puM, puN, pu0, sLandD, q1]
    with_reducible refine nwC_intro fun i7 hi7 => ?_
    have n1 := (heap_none hi7).1
    have n2 := (heap_none hi7).2.1
    have hi7H := (heap_none hi7).2.2
    simp -implicitDefEqProofs only [go_sem, tys, regs0, Nat.reduceEqDiff, Nat.reduceAdd, Nat.reduceLeDiff, Nat.reduceLT, Nat.reduceMul, Int.natCast_one, Int.natCast_zero, Int.reduceEq, Int.reduceLT, Int.reduceLE, Int.reduceAdd, Int.reduceSub, Int.reduceToNat, UInt8.reduceToNat, puH, puF, puP8, puP7, puP6, puP5, puM, puN, pu0, q1, q3, y1, put_ne, n1, n2]
    exact Done.drop (by repeat' first | exact Heap.Sub.rfl' H | exact hi7H | exact hi5 | refine Heap.Sub.put' ?_ ?_ _) ⟨rfl, rfl⟩
  have g : mf = 0 := Decidable.not_not.1 g
  subst g
  have hap := hap rfl
  obtain ⟨_, hE⟩ := hok rfl
  have p1 := sTD_eq vApply a md .unk
  rw [vApply, if_pos ⟨hr1, by omega⟩, hap] at p1
  have p2 := sCheck_eq md .unk hr1
  have p3 := sDl_eq vFresh md .unk
  rw [vFresh, if_pos hr1, if_pos hE, hE] at p3
  have p4 := sDl_eq vCost md .unk
  rw [vCost, if_pos hr1, if_pos hE, hE] at p4
  have p5 := sDl_eq vPD md .unk
  rw [vPD, if_pos ⟨hr1, hE⟩] at p5
  have hpl := print_len hr1 hE
  rw [hE] at p2
  rw [hu] at p1 p2 p3 p4 p5
  have hback := fun G => hback md G hr1 hap
  rw [hu] at hback
  rw [hu2] at hback
  refine ACalls.of_code (X := { pure := puH }) puH_ok Tryd.func9 (by kernel_rfl) rfl (by kernel_rfl) (Nat.le_of_ble_eq_true rfl) ?_
  simp -implicitDefEqProofs only [go_sem, tys, regs0, Nat.reduceEqDiff, Nat.reduceAdd, Nat.reduceLeDiff, Nat.reduceLT, Nat.reduceMul, Int.natCast_one, Int.natCast_zero, Int.reduceEq, Int.reduceLT, Int.reduceLE, Int.reduceAdd, Int.reduceSub, Int.reduceToNat, UInt8.reduceToNat, Tryd.f9]
  simp -implicitDefEqProofs only [go_sem, tys, regs0, Nat.reduceEqDiff, Nat.reduceAdd, Nat.reduceLeDiff, Nat.reduceLT, Nat.reduceMul, Int.natCast_one, Int.natCast_zero, Int.reduceEq, Int.reduceLT, Int.reduceLE, Int.reduceAdd, Int.reduceSub, Int.reduceToNat, UInt8.reduceToNat, puH, puF, puP8, puP7, puP6, puP5, puM, puN, pu0, sLandD, q1]
  with_reducible refine nwC_intro fun i5 hi5 => ?_
  simp -implicitDefEqProofs only [go_sem, tys, regs0, Nat.reduceEqDiff, Nat.reduceAdd, Nat.reduceLeDiff, Nat.reduceLT, Nat.reduceMul, Int.natCast_one, Int.natCast_zero, Int.reduceEq, Int.reduceLT, Int.reduceLE, Int.reduceAdd, Int.reduceSub, Int.reduceToNat, UInt8.reduceToNat, puH, puF, puP8, puP7, puP6, puP5, puM, puN, pu0, sLandD, q1]
  with_reducible refine nwC_intro fun i7 hi7 => ?_
  have n1 := (heap_none hi7).1
  have n2 := (heap_none hi7).2.1
  have hi7H := (heap_none hi7).2.2
  simp -implicitDefEqProofs only [go_sem, tys, regs0, Nat.reduceEqDiff, Nat.reduceAdd, Nat.reduceLeDiff, Nat.reduceLT, Nat.reduceMul, Int.natCast_one, Int.natCast_zero, Int.reduceEq, Int.reduceLT, Int.reduceLE, Int.reduceAdd, Int.reduceSub, Int.reduceToNat, UInt8.reduceToNat, puH, puF, puP8, puP7, puP6, puP5, puM, puN, pu0, q1, q3, p1, p2, put_ne, n1, n2]
  have hB0 := put_same (H.put i5 (.cells [.int .i64 md.old, .int .i64 md.new, .str md.osum, .str md.nsum, .sl (md.ps.map encPc) .unk])) i7 (.cells [.int .i64 md.old, .int .i64 md.new, .str md.osum, .str md.nsum, .sl (md.ps.map encPc) .unk])
  have hS0 : H.Sub ((H.put i5 (.cells [.int .i64 md.old, .int .i64 md.new, .str md.osum, .str md.nsum, .sl (md.ps.map encPc) .unk])).put i7 (.cells [.int .i64 md.old, .int .i64 md.new, .str md.osum, .str md.nsum, .sl (md.ps.map encPc) .unk])) := ((Heap.Sub.rfl' H).put' hi5 _).put' hi7H _
  generalize (H.put i5 (.cells [.int .i64 md.old, .int .i64 md.new, .str md.osum, .str md.nsum, .sl (md.ps.map encPc) .unk])).put i7 (.cells [.int .i64 md.old, .int .i64 md.new, .str md.osum, .str md.nsum, .sl (md.ps.map encPc) .unk]) = G0 at *
  have hfl := fresh_len hr1.2.2.2.2.2
  refine aloop_intro (σ := Nat) (fun i => [(0, .str a), (1, .str b), (7, .ptr i7 0), (10, .int .i64 (freshV (md.ps.take i))), (62, .sl (md.ps.map encPc) .unk), (63, .int .i64 md.ps.length), (64, .int .i64 i)]) (MatI md i7 H) (fun i => md.ps.length - i) 0 ?_ ?_ ?_
  · simp -implicitDefEqProofs only [go_sem, tys, regs0, Nat.reduceEqDiff, Nat.reduceAdd, Nat.reduceLeDiff, Nat.reduceLT, Nat.reduceMul, Int.natCast_one, Int.natCast_zero, Int.reduceEq, Int.reduceLT, Int.reduceLE, Int.reduceAdd, Int.reduceSub, Int.reduceToNat, UInt8.reduceToNat]
    simp [freshV]
  · exact ⟨hB0, hS0, Nat.zero_le _⟩
  clear hB0 hS0 hi7 n1 n2 hi7H
  rintro i r G hv ⟨hB, hS, hi⟩
  have h0 := hv.1
  have h1 := hv.2.1
  have h7 := hv.2.2.1
  have h10 := hv.2.2.2.1
  have h62 := hv.2.2.2.2.1
  have h63 := hv.2.2.2.2.2.1
  have h64 := hv.2.2.2.2.2.2.1
  clear hv
  rw [hu] at hB
  by_cases gi : i < md.ps.length
  · have y1 : decide ((i : Int) < md.ps.length) = true := decide_eq_true (by omega)
    obtain ⟨p, hp⟩ : ∃ p, md.ps[i]? = some p := getD_get' gi
    have u1 := hfl i
    have u2 := hfl (i + 1)
    have u3 := freshV_succ hp
    have u5 := (hr1.2.2.2.2.2 p (List.mem_of_getElem? hp)).2.2
    simp -implicitDefEqProofs only [go_sem, tys, regs0, Nat.reduceEqDiff, Nat.reduceAdd, Nat.reduceLeDiff, Nat.reduceLT, Nat.reduceMul, Int.natCast_one, Int.natCast_zero, Int.reduceEq, Int.reduceLT, Int.reduceLE, Int.reduceAdd, Int.reduceSub, Int.reduceToNat, UInt8.reduceToNat, h0, h1, h7, h10, h62, h63, h64, y1, hp, encPc]
    with_reducible refine nwC_intro fun id2 hid2 => ?_
    have m1 : ¬ i7 = id2 := fun e => by subst e; rw [hB] at hid2; cases hid2
    simp -implicitDefEqProofs (disch := omega) only [go_sem, tys, regs0, Nat.reduceEqDiff, Nat.reduceAdd, Nat.reduceLeDiff, Nat.reduceLT, Nat.reduceMul, Int.natCast_one, Int.natCast_zero, Int.reduceEq, Int.reduceLT, Int.reduceLE, Int.reduceAdd, Int.reduceSub, Int.reduceToNat, UInt8.reduceToNat, Go.IntWalk.i64_in, h0, h1, h7, h10, h62, h63, h64]
    exact Again.mk (i + 1) (by simp -implicitDefEqProofs only [go_sem, tys, regs0, Nat.reduceEqDiff, Nat.reduceAdd, Nat.reduceLeDiff, Nat.reduceLT, Nat.reduceMul, Int.natCast_one, Int.natCast_zero, Int.reduceEq, Int.reduceLT, Int.reduceLE, Int.reduceAdd, Int.reduceSub, Int.reduceToNat, UInt8.reduceToNat, h0, h1, h7, h10, h62, h63, h64, u3]; exact rfl) ⟨by rw [put_ne _ _ _ _ m1]; exact hB, hS.put' (sub_none hS hid2) _, by omega⟩ (by omega)
  · have e : i = md.ps.length := by omega
    subst e
    have y1 : decide ((md.ps.length : Int) < md.ps.length) = false := decide_eq_false (by omega)
    rw [List.take_length] at h10
    simp -implicitDefEqProofs only [go_sem, tys, regs0, Nat.reduceEqDiff, Nat.reduceAdd, Nat.reduceLeDiff, Nat.reduceLT, Nat.reduceMul, Int.natCast_one, Int.natCast_zero, Int.reduceEq, Int.reduceLT, Int.reduceLE, Int.reduceAdd, Int.reduceSub, Int.reduceToNat, UInt8.reduceToNat, h0, h1, h7, h10, h62, h63, h64, y1, hB, puH, puF, puP8, puP7, puP6, puP5, puM, puN, pu0, p3, p4, p5, q2]
    with_reducible refine nwC_intro fun i15 hi15 => ?_
    have m1 : ¬ i7 = i15 := fun e => by subst e; rw [hB] at hi15; cases hi15
    have m2 : ¬ i15 = i7 := fun e => m1 e.symm
    have hi15H := sub_none hS hi15
    simp -implicitDefEqProofs only [go_sem, tys, regs0, Nat.reduceEqDiff, Nat.reduceAdd, Nat.reduceLeDiff, Nat.reduceLT, Nat.reduceMul, Int.natCast_one, Int.natCast_zero, Int.reduceEq, Int.reduceLT, Int.reduceLE, Int.reduceAdd, Int.reduceSub, Int.reduceToNat, UInt8.reduceToNat, h0, h1, h7, h10, hB, put_ne, m1, m2]
    refine (hback _).pure_next _ ?_
    simp -implicitDefEqProofs only [go_sem, tys, regs0, Nat.reduceEqDiff, Nat.reduceAdd, Nat.reduceLeDiff, Nat.reduceLT, Nat.reduceMul, Int.natCast_one, Int.natCast_zero, Int.reduceEq, Int.reduceLT, Int.reduceLE, Int.reduceAdd, Int.reduceSub, Int.reduceToNat, UInt8.reduceToNat, h0, h1, h7, h10, hB, put_ne, m1, m2]
    with_reducible refine nwC_intro fun i17 hi17 => ?_
    have k1 := (heap_none hi17).1
    have k2 := (heap_none hi17).2.1
    have hi17G := (heap_none hi17).2.2
    have hi17H := sub_none hS hi17G
    have m3 : ¬ i7 = i17 := fun e => by subst e; rw [hB] at hi17G; cases hi17G
    have m4 : ¬ i17 = i7 := fun e => m3 e.symm
    have p6 := sTD_eq vApply b wd .unk
    rw [vApply, if_pos ⟨hr2, by omega⟩] at p6
    rw [hu2] at p6
    by_cases gw : wf = 0
    · subst gw
      rw [hap2 rfl] at p6
      simp -implicitDefEqProofs only [go_sem, tys, regs0, Nat.reduceEqDiff, Nat.reduceAdd, Nat.reduceLeDiff, Nat.reduceLT, Nat.reduceMul, Int.natCast_one, Int.natCast_zero, Int.reduceEq, Int.reduceLT, Int.reduceLE, Int.reduceAdd, Int.reduceSub, Int.reduceToNat, UInt8.reduceToNat, h0, h1, h7, h10, hB, put_ne, m1, m2, m3, m4, k1, k2, puH, puF, puP8, puP7, puP6, puP5, puM, puN, pu0, q4, p6]
      exact Done.drop (by repeat' first | exact hS | exact hi15H | exact hi17H | refine Heap.Sub.put' ?_ ?_ _) ⟨rfl, rfl⟩
    · have y2 : decide (¬ wf = 0) = true := decide_eq_true gw
      have y3 : decide (wf = 0) = false := decide_eq_false gw
      simp -implicitDefEqProofs only [go_sem, tys, regs0, Nat.reduceEqDiff, Nat.reduceAdd, Nat.reduceLeDiff, Nat.reduceLT, Nat.reduceMul, Int.natCast_one, Int.natCast_zero, Int.reduceEq, Int.reduceLT, Int.reduceLE, Int.reduceAdd, Int.reduceSub, Int.reduceToNat, UInt8.reduceToNat, h0, h1, h7, h10, hB, put_ne, m1, m2, m3, m4, k1, k2, puH, puF, puP8, puP7, puP6, puP5, puM, puN, pu0, q4, p6, y2]
      exact Done.drop (by repeat' first | exact hS | exact hi15H | exact hi17H | refine Heap.Sub.put' ?_ ?_ _) ⟨rfl, rfl⟩
end Go.Proofs
