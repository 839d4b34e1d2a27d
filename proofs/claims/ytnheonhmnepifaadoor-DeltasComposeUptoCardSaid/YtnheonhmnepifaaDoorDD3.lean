/- Walks: deltas are checked. -/
import Derived.Test.YtnheonhmnepifaaDoorDD2
namespace Go.Proofs
open Go Go.Abs
set_option linter.unusedSimpArgs false
set_option linter.unusedVariables false
def sSteps : List AV → Option AV := fn2 (Rd.list decPc) (.int .i64) fun l old => if psR l ∧ inI old then some (.tup [.int .i64 (stepsV l old).1, .int .i64 (stepsV l old).2]) else none
theorem sSteps_eq (l : List PieceV) (t : Tail) (old : Int) (h : psR l) (h2 : inI old) : sSteps [.sl (l.map encPc) t, .int .i64 old] = some (.tup [.int .i64 (stepsV l old).1, .int .i64 (stepsV l old).2]) := by
  show ((Rd.list decPc).rd (.sl (l.map encPc) t)).bind _ = _
  rw [Rd.list_eq (enc := encPc) decPc_enc l t]
  simp only [Option.bind_some, Rd.int_eq, if_pos (And.intro h h2)]
theorem sSteps_ok {P : Program} {f : FuncId} (h : ∀ l t old H, psR l → inI old → ACalls P f [.sl (l.map encPc) t, .int .i64 old] H fun x H' => x = .tup [.int .i64 (stepsV l old).1, .int .i64 (stepsV l old).2] ∧ H' = H) : ∀ xs v, sSteps xs = some v → ∀ H, ACalls P f xs H fun x H' => x = v ∧ H' = H := by
  intro xs v hv H
  obtain ⟨x, y, p, q, rfl, h1, h2, h3⟩ := fn2_some hv
  split at h3
  · rename_i hh
    cases h3
    obtain ⟨t, rfl⟩ := Rd.list_some (enc := encPc) (fun _ _ => decPc_some) h1
    cases Rd.int_some h2
    exact h p t q H hh.1 hh.2
  · cases h3
def sEqPc : List AV → Option AV := fn2 (Rd.list decPc) (Rd.list decPc) fun a b => if a.length ≤ 1099511627776 then some (.bool (decide (a = b))) else none
theorem sEqPc_eq (a b : List PieceV) (t t' : Tail) (h : a.length ≤ 1099511627776) : sEqPc [.sl (a.map encPc) t, .sl (b.map encPc) t'] = some (.bool (decide (a = b))) := by
  show ((Rd.list decPc).rd (.sl (a.map encPc) t)).bind _ = _
  rw [Rd.list_eq (enc := encPc) decPc_enc a t]
  show ((Rd.list decPc).rd (.sl (b.map encPc) t')).bind _ = _
  rw [Rd.list_eq (enc := encPc) decPc_enc b t']
  simp only [Option.bind_some, if_pos h]
def puD2 : Pures := putP 83 sEqPc (putP 59 sFirst (putP 82 sWhen (putP 33 sSteps (putP 34 sSteps puD1))))
theorem puD2_ok : PuOK Tryd.prog puD2 := by
  refine PuOK.put (PuOK.put (PuOK.put (PuOK.put (PuOK.put puD1_ok (sSteps_ok fun l t old H h1 h2 => piecesError_calls l t old H h1.1 h1.2 h2)) (sSteps_ok fun l t old H h1 h2 => checkSteps_calls l t old H h1.1 h1.2 h2)) (sWhen_ok when_calls)) (sFirst_ok first_calls)) ?_
  intro xs v hv H
  obtain ⟨x, y, p, q, rfl, h1, h2, h3⟩ := fn2_some hv
  split at h3
  · cases h3
    obtain ⟨t, rfl⟩ := Rd.list_some (enc := encPc) (fun _ _ => decPc_some) h1
    obtain ⟨t', rfl⟩ := Rd.list_some (enc := encPc) (fun _ _ => decPc_some) h2
    exact eqPc_calls _ _ _ _ H ‹_›
  · cases h3
set_option maxHeartbeats 1600000 in
theorem dCheck_calls (d : DeltaV) (t : Tail) (H : Heap) (hr : dlR d) : ACalls Tryd.prog 40 [.agg (encDl d t)] H fun x H' => x = .int .i64 (deltaE d) ∧ H' = H := by
  have hE := deltaE.eq_1 d
  obtain ⟨h1, h2, h3, h4, h5⟩ := hr
  have hs := fun t => sSteps_eq d.ps t d.old h5 h1
  generalize deltaE d = de at *
  generalize stepsV d.ps d.old = sv at *
  obtain ⟨s1, s2⟩ := sv
  obtain ⟨o, n, a, b, l⟩ := d
  simp only at hE h1 h2 h3 h4 h5 hs
  refine ACalls.of_code (X := { pure := puD2 }) puD2_ok Tryd.func40 (by kernel_rfl) rfl (by kernel_rfl) (Nat.le_of_ble_eq_true rfl) ?_
  simp -implicitDefEqProofs only [go_sem, tys, regs0, Nat.reduceEqDiff, Nat.reduceAdd, Nat.reduceLeDiff, Nat.reduceLT, Nat.reduceMul, Int.natCast_one, Int.natCast_zero, Int.reduceEq, Int.reduceLT, Int.reduceLE, Int.reduceAdd, Int.reduceSub, Int.reduceToNat, UInt8.reduceToNat, Tryd.f40, encDl]
  with_reducible refine nwC_intro fun id hid => ?_
  simp +contextual -implicitDefEqProofs only [go_sem, gd_M, tys, regs0, Nat.reduceEqDiff, Nat.reduceAdd, Nat.reduceLeDiff, Nat.reduceLT, Nat.reduceMul, Int.natCast_one, Int.natCast_zero, Int.reduceEq, Int.reduceLT, Int.reduceLE, Int.reduceAdd, Int.reduceSub, Int.reduceToNat, UInt8.reduceToNat, puD2, puD1, puM, puN, sOut_eq, sStr_eq, h3, h4, hs]
  refine cnd_intro (fun g => ?_) (fun g => ?_)
  · rw [if_pos (by simp only [Bool.or_eq_true, decide_eq_true_eq] at g; omega)] at hE
    simp +contextual -implicitDefEqProofs only [go_sem, gd_M, tys, regs0, Nat.reduceEqDiff, Nat.reduceAdd, Nat.reduceLeDiff, Nat.reduceLT, Nat.reduceMul, Int.natCast_one, Int.natCast_zero, Int.reduceEq, Int.reduceLT, Int.reduceLE, Int.reduceAdd, Int.reduceSub, Int.reduceToNat, UInt8.reduceToNat]
    exact Done.drop1 hid ⟨by rw [hE], rfl⟩
  rw [if_neg (by simp only [Bool.or_eq_false_iff, decide_eq_false_iff_not] at g; omega)] at hE
  simp +contextual -implicitDefEqProofs only [go_sem, gd_M, tys, regs0, Nat.reduceEqDiff, Nat.reduceAdd, Nat.reduceLeDiff, Nat.reduceLT, Nat.reduceMul, Int.natCast_one, Int.natCast_zero, Int.reduceEq, Int.reduceLT, Int.reduceLE, Int.reduceAdd, Int.reduceSub, Int.reduceToNat, UInt8.reduceToNat, puD2, puD1, puM, puN, sOut_eq, sStr_eq, h3, h4, hs]
  refine cnd_intro (fun g2 => ?_) (fun g2 => ?_)
  · rw [if_pos (by simpa using g2)] at hE
    simp +contextual -implicitDefEqProofs only [go_sem, gd_M, tys, regs0, Nat.reduceEqDiff, Nat.reduceAdd, Nat.reduceLeDiff, Nat.reduceLT, Nat.reduceMul, Int.natCast_one, Int.natCast_zero, Int.reduceEq, Int.reduceLT, Int.reduceLE, Int.reduceAdd, Int.reduceSub, Int.reduceToNat, UInt8.reduceToNat]
    exact Done.drop1 hid ⟨by rw [hE], rfl⟩
  rw [if_neg (by simpa using g2)] at hE
  simp +contextual -implicitDefEqProofs only [go_sem, gd_M, tys, regs0, Nat.reduceEqDiff, Nat.reduceAdd, Nat.reduceLeDiff, Nat.reduceLT, Nat.reduceMul, Int.natCast_one, Int.natCast_zero, Int.reduceEq, Int.reduceLT, Int.reduceLE, Int.reduceAdd, Int.reduceSub, Int.reduceToNat, UInt8.reduceToNat, puD2, puD1, puM, puN, sOut_eq, sStr_eq, h3, h4, hs]
  refine cnd_intro (fun g3 => ?_) (fun g3 => ?_)
  · simp only [Bool.and_eq_true, decide_eq_true_eq] at g3
    rw [if_neg (by omega), if_pos g3.2] at hE
    simp +contextual -implicitDefEqProofs only [go_sem, gd_M, tys, regs0, Nat.reduceEqDiff, Nat.reduceAdd, Nat.reduceLeDiff, Nat.reduceLT, Nat.reduceMul, Int.natCast_one, Int.natCast_zero, Int.reduceEq, Int.reduceLT, Int.reduceLE, Int.reduceAdd, Int.reduceSub, Int.reduceToNat, UInt8.reduceToNat]
    exact Done.drop1 hid ⟨by rw [hE], rfl⟩
  · have hE' : de = s2 := by
      by_cases e : s2 = 0
      · have : s1 = n := by simpa [e] using g3
        rw [if_neg (by omega), if_neg (by omega)] at hE; omega
      · rw [if_pos e] at hE; exact hE
    simp +contextual -implicitDefEqProofs only [go_sem, gd_M, tys, regs0, Nat.reduceEqDiff, Nat.reduceAdd, Nat.reduceLeDiff, Nat.reduceLT, Nat.reduceMul, Int.natCast_one, Int.natCast_zero, Int.reduceEq, Int.reduceLT, Int.reduceLE, Int.reduceAdd, Int.reduceSub, Int.reduceToNat, UInt8.reduceToNat]
    exact Done.drop1 hid ⟨by rw [hE'], rfl⟩
set_option maxHeartbeats 1600000 in
theorem rDelta_calls (d : DeltaV) (t : Tail) (H : Heap) (hr : dlR d) : ACalls Tryd.prog 24 [.agg (encDl d t)] H fun x H' => x = .int .i64 (deltaE d) ∧ H' = H := by
  have hE := deltaE.eq_1 d
  obtain ⟨h1, h2, h3, h4, h5⟩ := hr
  have hs := fun t => sSteps_eq d.ps t d.old h5 h1
  generalize deltaE d = de at *
  generalize stepsV d.ps d.old = sv at *
  obtain ⟨s1, s2⟩ := sv
  obtain ⟨o, n, a, b, l⟩ := d
  simp only at hE h1 h2 h3 h4 h5 hs
  refine ACalls.of_code (X := { pure := puD2 }) puD2_ok Tryd.func24 (by kernel_rfl) rfl (by kernel_rfl) (Nat.le_of_ble_eq_true rfl) ?_
  simp -implicitDefEqProofs only [go_sem, tys, regs0, Nat.reduceEqDiff, Nat.reduceAdd, Nat.reduceLeDiff, Nat.reduceLT, Nat.reduceMul, Int.natCast_one, Int.natCast_zero, Int.reduceEq, Int.reduceLT, Int.reduceLE, Int.reduceAdd, Int.reduceSub, Int.reduceToNat, UInt8.reduceToNat, Tryd.f24, encDl]
  with_reducible refine nwC_intro fun id hid => ?_
  simp +contextual -implicitDefEqProofs only [go_sem, gd_M, tys, regs0, Nat.reduceEqDiff, Nat.reduceAdd, Nat.reduceLeDiff, Nat.reduceLT, Nat.reduceMul, Int.natCast_one, Int.natCast_zero, Int.reduceEq, Int.reduceLT, Int.reduceLE, Int.reduceAdd, Int.reduceSub, Int.reduceToNat, UInt8.reduceToNat, puD2, puD1, puM, puN, sOut_eq, sStr_eq, h3, h4, hs]
  refine cnd_intro (fun g => ?_) (fun g => ?_)
  · rw [if_pos (by simp only [Bool.or_eq_true, decide_eq_true_eq] at g; omega)] at hE
    simp +contextual -implicitDefEqProofs only [go_sem, gd_M, tys, regs0, Nat.reduceEqDiff, Nat.reduceAdd, Nat.reduceLeDiff, Nat.reduceLT, Nat.reduceMul, Int.natCast_one, Int.natCast_zero, Int.reduceEq, Int.reduceLT, Int.reduceLE, Int.reduceAdd, Int.reduceSub, Int.reduceToNat, UInt8.reduceToNat]
    exact Done.drop1 hid ⟨by rw [hE], rfl⟩
  rw [if_neg (by simp only [Bool.or_eq_false_iff, decide_eq_false_iff_not] at g; omega)] at hE
  simp +contextual -implicitDefEqProofs only [go_sem, gd_M, tys, regs0, Nat.reduceEqDiff, Nat.reduceAdd, Nat.reduceLeDiff, Nat.reduceLT, Nat.reduceMul, Int.natCast_one, Int.natCast_zero, Int.reduceEq, Int.reduceLT, Int.reduceLE, Int.reduceAdd, Int.reduceSub, Int.reduceToNat, UInt8.reduceToNat, puD2, puD1, puM, puN, sOut_eq, sStr_eq, h3, h4, hs]
  refine cnd_intro (fun g2 => ?_) (fun g2 => ?_)
  · rw [if_pos (by simpa using g2)] at hE
    simp +contextual -implicitDefEqProofs only [go_sem, gd_M, tys, regs0, Nat.reduceEqDiff, Nat.reduceAdd, Nat.reduceLeDiff, Nat.reduceLT, Nat.reduceMul, Int.natCast_one, Int.natCast_zero, Int.reduceEq, Int.reduceLT, Int.reduceLE, Int.reduceAdd, Int.reduceSub, Int.reduceToNat, UInt8.reduceToNat]
    exact Done.drop1 hid ⟨by rw [hE], rfl⟩
  rw [if_neg (by simpa using g2)] at hE
  simp +contextual -implicitDefEqProofs only [go_sem, gd_M, tys, regs0, Nat.reduceEqDiff, Nat.reduceAdd, Nat.reduceLeDiff, Nat.reduceLT, Nat.reduceMul, Int.natCast_one, Int.natCast_zero, Int.reduceEq, Int.reduceLT, Int.reduceLE, Int.reduceAdd, Int.reduceSub, Int.reduceToNat, UInt8.reduceToNat, puD2, puD1, puM, puN, sOut_eq, sStr_eq, sWhen_eq, sFirst_two, h3, h4, hs]
  refine Done.drop1 hid ⟨?_, rfl⟩
  rw [hE]
  simp only [fst0]
  by_cases e : s2 = 0 <;> by_cases e2 : s1 = n <;> simp [e, e2]
set_option maxHeartbeats 1600000 in
theorem sameDelta_calls (a b : DeltaV) (t t' : Tail) (H : Heap) (hr : a.ps.length ≤ 1099511627776) : ACalls Tryd.prog 25 [.agg (encDl a t), .agg (encDl b t')] H fun x H' => x = .bool (decide (a = b)) ∧ H' = H := by
  have hs := fun t t' => sEqPc_eq a.ps b.ps t t' hr
  obtain ⟨o, n, os, ns, l⟩ := a
  obtain ⟨o', n', os', ns', l'⟩ := b
  simp only at hs
  refine ACalls.of_code (X := { pure := puD2 }) puD2_ok Tryd.func25 (by kernel_rfl) rfl (by kernel_rfl) (Nat.le_of_ble_eq_true rfl) ?_
  simp -implicitDefEqProofs only [go_sem, tys, regs0, Nat.reduceEqDiff, Nat.reduceAdd, Nat.reduceLeDiff, Nat.reduceLT, Nat.reduceMul, Int.natCast_one, Int.natCast_zero, Int.reduceEq, Int.reduceLT, Int.reduceLE, Int.reduceAdd, Int.reduceSub, Int.reduceToNat, UInt8.reduceToNat, Tryd.f25, encDl]
  with_reducible refine nwC_intro fun id hid => ?_
  simp +contextual -implicitDefEqProofs only [go_sem, gd_M, tys, regs0, Nat.reduceEqDiff, Nat.reduceAdd, Nat.reduceLeDiff, Nat.reduceLT, Nat.reduceMul, Int.natCast_one, Int.natCast_zero, Int.reduceEq, Int.reduceLT, Int.reduceLE, Int.reduceAdd, Int.reduceSub, Int.reduceToNat, UInt8.reduceToNat]
  with_reducible refine nwC_intro fun id2 hid2 => ?_
  have n1 := (heap_none hid2).1
  have n2 := (heap_none hid2).2.1
  have n3 := (heap_none hid2).2.2
  simp +contextual -implicitDefEqProofs only [go_sem, gd_M, tys, regs0, Nat.reduceEqDiff, Nat.reduceAdd, Nat.reduceLeDiff, Nat.reduceLT, Nat.reduceMul, Int.natCast_one, Int.natCast_zero, Int.reduceEq, Int.reduceLT, Int.reduceLE, Int.reduceAdd, Int.reduceSub, Int.reduceToNat, UInt8.reduceToNat, puD2, hs, put_ne, n1, n2]
  refine Done.drop2 hid n3 ⟨?_, rfl⟩
  congr 1
  rw [Bool.eq_iff_iff]
  simp [DeltaV.mk.injEq, and_assoc]
end Go.Proofs
