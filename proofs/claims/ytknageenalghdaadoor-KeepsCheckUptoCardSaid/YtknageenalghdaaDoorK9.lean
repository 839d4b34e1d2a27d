/- Walks: what is held, one by one. -/
import Derived.Test.YtknageenalghdaaDoorK8
import Derived.Test.YtknageenalghdaaDoorK3b
import Derived.Test.YtknageenalghdaaDoorP5
namespace Go.Proofs
open Go Go.Abs
set_option linter.unusedSimpArgs false
set_option linter.unusedVariables false
theorem decHeld_eq (a : Bytes) (k : Int) (b c d : Bytes) : decHeld [.str a, .int .i64 k, .str b, .str c, .str d] = some ⟨a, k, b, c, d⟩ := rfl
attribute [go_sem] decHeld_eq
theorem isKind_calls (k : Int) (H : Heap) : ACalls Tryd.prog 25 [.int .i64 k] H fun x H' => x = .bool (decide (1 ≤ k) && decide (k ≤ 6)) ∧ H' = H := by
  refine ACalls.of_code (X := { pure := puI }) puI_ok Tryd.func25 (by kernel_rfl) rfl (by kernel_rfl) (Nat.le_of_ble_eq_true rfl) ?_
  simp -implicitDefEqProofs only [go_sem, tys, regs0, Nat.reduceEqDiff, Nat.reduceAdd, Nat.reduceLeDiff, Nat.reduceLT, Nat.reduceMul, Int.natCast_one, Int.natCast_zero, Int.reduceEq, Int.reduceLT, Int.reduceLE, Int.reduceAdd, Int.reduceSub, Int.reduceToNat, UInt8.reduceToNat, Tryd.f25]
  repeat' (first | (with_reducible refine gd_intro (fun h => ?_) (fun h => ?_) <;> first | (exact absurd h (by decide)) | (simp at h; done) | simp -implicitDefEqProofs (disch := omega) only [go_sem, tys, regs0, Nat.reduceEqDiff, Nat.reduceAdd, Nat.reduceLeDiff, Nat.reduceLT, Nat.reduceMul, Int.natCast_one, Int.natCast_zero, Int.reduceEq, Int.reduceLT, Int.reduceLE, Int.reduceAdd, Int.reduceSub, Int.reduceToNat, UInt8.reduceToNat, Go.IntWalk.i64_in, *]) | (with_reducible refine cnd_intro (fun h => ?_) (fun h => ?_) <;> first | (exact absurd h (by decide)) | (simp at h; done) | simp -implicitDefEqProofs (disch := omega) only [go_sem, tys, regs0, Nat.reduceEqDiff, Nat.reduceAdd, Nat.reduceLeDiff, Nat.reduceLT, Nat.reduceMul, Int.natCast_one, Int.natCast_zero, Int.reduceEq, Int.reduceLT, Int.reduceLE, Int.reduceAdd, Int.reduceSub, Int.reduceToNat, UInt8.reduceToNat, Go.IntWalk.i64_in, *]))
  all_goals (refine Done.now ⟨?_, rfl⟩; simp_all)
theorem thingK_calls (k : Int) (H : Heap) : ACalls Tryd.prog 28 [.int .i64 k] H fun x H' => x = .int .i64 (thing k + 1) ∧ H' = H := by
  refine ACalls.of_code (X := { pure := puI }) puI_ok Tryd.func28 (by kernel_rfl) rfl (by kernel_rfl) (Nat.le_of_ble_eq_true rfl) ?_
  simp -implicitDefEqProofs only [go_sem, tys, regs0, Nat.reduceEqDiff, Nat.reduceAdd, Nat.reduceLeDiff, Nat.reduceLT, Nat.reduceMul, Int.natCast_one, Int.natCast_zero, Int.reduceEq, Int.reduceLT, Int.reduceLE, Int.reduceAdd, Int.reduceSub, Int.reduceToNat, UInt8.reduceToNat, Tryd.f28]
  repeat' (first | (with_reducible refine gd_intro (fun h => ?_) (fun h => ?_) <;> first | (exact absurd h (by decide)) | (simp at h; done) | simp -implicitDefEqProofs (disch := omega) only [go_sem, tys, regs0, Nat.reduceEqDiff, Nat.reduceAdd, Nat.reduceLeDiff, Nat.reduceLT, Nat.reduceMul, Int.natCast_one, Int.natCast_zero, Int.reduceEq, Int.reduceLT, Int.reduceLE, Int.reduceAdd, Int.reduceSub, Int.reduceToNat, UInt8.reduceToNat, Go.IntWalk.i64_in, *]) | (with_reducible refine cnd_intro (fun h => ?_) (fun h => ?_) <;> first | (exact absurd h (by decide)) | (simp at h; done) | simp -implicitDefEqProofs (disch := omega) only [go_sem, tys, regs0, Nat.reduceEqDiff, Nat.reduceAdd, Nat.reduceLeDiff, Nat.reduceLT, Nat.reduceMul, Int.natCast_one, Int.natCast_zero, Int.reduceEq, Int.reduceLT, Int.reduceLE, Int.reduceAdd, Int.reduceSub, Int.reduceToNat, UInt8.reduceToNat, Go.IntWalk.i64_in, *]))
  all_goals (refine Done.now ⟨?_, rfl⟩; simp_all [thing])
def sKind : List AV → Option AV := fn1 (.int .i64) fun k => some (.bool (decide (1 ≤ k) && decide (k ≤ 6)))
theorem sKind_eq (k : Int) : sKind [.int .i64 k] = some (.bool (decide (1 ≤ k) && decide (k ≤ 6))) := rfl
def sThingK : List AV → Option AV := fn1 (.int .i64) fun k => some (.int .i64 (thing k + 1))
theorem sThingK_eq (k : Int) : sThingK [.int .i64 k] = some (.int .i64 (thing k + 1)) := rfl
def puH1 : Pures := putP 49 (sStr sumB) (putP 25 sKind (putP 28 sThingK puI))
theorem puH1_ok : PuOK Tryd.prog puH1 := by
  refine PuOK.put (PuOK.put (PuOK.put puI_ok ?_) ?_) (sStr_ok kIsSum_calls) <;> intro xs v hv H <;> obtain ⟨x, s, rfl, h1, h2⟩ := fn1_some hv <;> cases h2 <;> cases Rd.int_some h1
  · exact thingK_calls _ H
  · exact isKind_calls _ H
theorem heldPlace_calls (h : HeldV) (H : Heap) : ACalls Tryd.prog 27 [.agg (encHeld h)] H fun x H' => x = .agg [.int .i64 (thing h.kind + 1), .str h.path] ∧ H' = H := by
  refine ACalls.of_code (X := { pure := puH1 }) puH1_ok Tryd.func27 (by kernel_rfl) rfl (by kernel_rfl) (Nat.le_of_ble_eq_true rfl) ?_
  simp -implicitDefEqProofs only [go_sem, tys, regs0, Nat.reduceEqDiff, Nat.reduceAdd, Nat.reduceLeDiff, Nat.reduceLT, Nat.reduceMul, Int.natCast_one, Int.natCast_zero, Int.reduceEq, Int.reduceLT, Int.reduceLE, Int.reduceAdd, Int.reduceSub, Int.reduceToNat, UInt8.reduceToNat, Tryd.f27, encHeld]
  with_reducible refine nwC_intro fun id hid => ?_
  simp -implicitDefEqProofs only [go_sem, tys, regs0, Nat.reduceEqDiff, Nat.reduceAdd, Nat.reduceLeDiff, Nat.reduceLT, Nat.reduceMul, Int.natCast_one, Int.natCast_zero, Int.reduceEq, Int.reduceLT, Int.reduceLE, Int.reduceAdd, Int.reduceSub, Int.reduceToNat, UInt8.reduceToNat]
  with_reducible refine nwC_intro fun id2 hid2 => ?_
  have n1 := (heap_none hid2).1
  have n2 := (heap_none hid2).2.1
  have hid3 := (heap_none hid2).2.2
  clear hid2
  simp -implicitDefEqProofs only [go_sem, tys, regs0, Nat.reduceEqDiff, Nat.reduceAdd, Nat.reduceLeDiff, Nat.reduceLT, Nat.reduceMul, Int.natCast_one, Int.natCast_zero, Int.reduceEq, Int.reduceLT, Int.reduceLE, Int.reduceAdd, Int.reduceSub, Int.reduceToNat, UInt8.reduceToNat, puH1, sThingK_eq, put_ne, n1, n2]
  exact Done.drop2 hid hid3 ⟨rfl, rfl⟩
def sPlace : List AV → Option AV := fn1 (Rd.agg decHeld) fun h => some (.agg [.int .i64 (thing h.kind + 1), .str h.path])
theorem share_calls (a b : HeldV) (H : Heap) : ACalls Tryd.prog 32 [.agg (encHeld a), .agg (encHeld b)] H fun x H' => x = .bool (shareB a b) ∧ H' = H := by
  refine ACalls.of_code (X := { pure := puH1 }) puH1_ok Tryd.func32 (by kernel_rfl) rfl (by kernel_rfl) (Nat.le_of_ble_eq_true rfl) ?_
  simp -implicitDefEqProofs only [go_sem, tys, regs0, Nat.reduceEqDiff, Nat.reduceAdd, Nat.reduceLeDiff, Nat.reduceLT, Nat.reduceMul, Int.natCast_one, Int.natCast_zero, Int.reduceEq, Int.reduceLT, Int.reduceLE, Int.reduceAdd, Int.reduceSub, Int.reduceToNat, UInt8.reduceToNat, Tryd.f32, encHeld]
  with_reducible refine nwC_intro fun id hid => ?_
  simp -implicitDefEqProofs only [go_sem, tys, regs0, Nat.reduceEqDiff, Nat.reduceAdd, Nat.reduceLeDiff, Nat.reduceLT, Nat.reduceMul, Int.natCast_one, Int.natCast_zero, Int.reduceEq, Int.reduceLT, Int.reduceLE, Int.reduceAdd, Int.reduceSub, Int.reduceToNat, UInt8.reduceToNat]
  with_reducible refine nwC_intro fun id2 hid2 => ?_
  have n1 := (heap_none hid2).1
  have n2 := (heap_none hid2).2.1
  have hid3 := (heap_none hid2).2.2
  clear hid2
  simp -implicitDefEqProofs only [go_sem, tys, regs0, Nat.reduceEqDiff, Nat.reduceAdd, Nat.reduceLeDiff, Nat.reduceLT, Nat.reduceMul, Int.natCast_one, Int.natCast_zero, Int.reduceEq, Int.reduceLT, Int.reduceLE, Int.reduceAdd, Int.reduceSub, Int.reduceToNat, UInt8.reduceToNat, put_ne, n1, n2]
  repeat' (first | (with_reducible refine gd_intro (fun h => ?_) (fun h => ?_) <;> first | (exact absurd h (by decide)) | (simp at h; done) | simp -implicitDefEqProofs (disch := omega) only [go_sem, tys, regs0, Nat.reduceEqDiff, Nat.reduceAdd, Nat.reduceLeDiff, Nat.reduceLT, Nat.reduceMul, Int.natCast_one, Int.natCast_zero, Int.reduceEq, Int.reduceLT, Int.reduceLE, Int.reduceAdd, Int.reduceSub, Int.reduceToNat, UInt8.reduceToNat, Go.IntWalk.i64_in, put_ne, n1, n2, *]) | (with_reducible refine cnd_intro (fun h => ?_) (fun h => ?_) <;> first | (exact absurd h (by decide)) | (simp at h; done) | simp -implicitDefEqProofs (disch := omega) only [go_sem, tys, regs0, Nat.reduceEqDiff, Nat.reduceAdd, Nat.reduceLeDiff, Nat.reduceLT, Nat.reduceMul, Int.natCast_one, Int.natCast_zero, Int.reduceEq, Int.reduceLT, Int.reduceLE, Int.reduceAdd, Int.reduceSub, Int.reduceToNat, UInt8.reduceToNat, Go.IntWalk.i64_in, put_ne, n1, n2, *]))
  all_goals refine Done.drop2 hid hid3 ⟨?_, rfl⟩
  all_goals simp_all [shareB]
def sShare : List AV → Option AV := fn2 (Rd.agg decHeld) (Rd.agg decHeld) fun a b => some (.bool (shareB a b))
def puH2 : Pures := putP 32 sShare (putP 27 sPlace puH1)
theorem puH2_ok : PuOK Tryd.prog puH2 := by
  refine PuOK.put (PuOK.put puH1_ok ?_) ?_ <;> intro xs v hv H
  · obtain ⟨x, s, rfl, h1, h2⟩ := fn1_some hv
    cases h2
    cases Rd.agg_some (fun _ _ => decHeld_some) h1
    exact heldPlace_calls s H
  · obtain ⟨x, y, p, q, rfl, h1, h2, h3⟩ := fn2_some hv
    cases h3
    cases Rd.agg_some (fun _ _ => decHeld_some) h1
    cases Rd.agg_some (fun _ _ => decHeld_some) h2
    exact share_calls _ _ H
set_option maxHeartbeats 3200000 in
theorem heldFault_calls (h : HeldV) (H : Heap) (hr : heldR h) : ACalls Tryd.prog 30 [.agg (encHeld h)] H fun x H' => x = .int .i64 (heldErr h) ∧ H' = H := by
  obtain ⟨o, k, p, s, b⟩ := h
  obtain ⟨r1, r2, r3, r4⟩ := hr
  simp only at r1 r2 r3 r4
  have hR : Room = 1099511627776 := rfl
  have q1 : o.length ≤ 1099511627776 := by omega
  have q2 : p.length ≤ 1099511627776 := by omega
  have q3 : s.length ≤ 1099511627776 := by omega
  have q4 : b.length + 1 ≤ 1099511627776 := by omega
  have q5 : ((1 + b.length : Nat) : Int) ≤ 9223372036854775807 := by omega
  refine ACalls.of_code (X := { pure := puH2 }) puH2_ok Tryd.func30 (by kernel_rfl) rfl (by kernel_rfl) (Nat.le_of_ble_eq_true rfl) ?_
  simp -implicitDefEqProofs only [go_sem, tys, regs0, Nat.reduceEqDiff, Nat.reduceAdd, Nat.reduceLeDiff, Nat.reduceLT, Nat.reduceMul, Int.natCast_one, Int.natCast_zero, Int.reduceEq, Int.reduceLT, Int.reduceLE, Int.reduceAdd, Int.reduceSub, Int.reduceToNat, UInt8.reduceToNat, Tryd.f30, encHeld]
  with_reducible refine nwC_intro fun id hid => ?_
  simp -implicitDefEqProofs only [go_sem, tys, regs0, Nat.reduceEqDiff, Nat.reduceAdd, Nat.reduceLeDiff, Nat.reduceLT, Nat.reduceMul, Int.natCast_one, Int.natCast_zero, Int.reduceEq, Int.reduceLT, Int.reduceLE, Int.reduceAdd, Int.reduceSub, Int.reduceToNat, UInt8.reduceToNat, puH2, puH1, puI, puC5, puC4, puC3, puC2, puC1, puM, puN, sStr_eq, sKind_eq, sSum_eq, hR, q1, q2, q3]
  repeat' (first | (with_reducible refine gd_intro (fun h => ?_) (fun h => ?_) <;> first | (exact absurd h (by decide)) | (simp at h; done) | simp -implicitDefEqProofs (disch := omega) only [go_sem, tys, regs0, Nat.reduceEqDiff, Nat.reduceAdd, Nat.reduceLeDiff, Nat.reduceLT, Nat.reduceMul, Int.natCast_one, Int.natCast_zero, Int.reduceEq, Int.reduceLT, Int.reduceLE, Int.reduceAdd, Int.reduceSub, Int.reduceToNat, UInt8.reduceToNat, Go.IntWalk.i64_in, puH2, puH1, puI, puC5, puC4, puC3, puC2, puC1, puM, puN, sStr_eq, sKind_eq, sSum_eq, hR, *]) | (with_reducible refine cnd_intro (fun h => ?_) (fun h => ?_) <;> first | (exact absurd h (by decide)) | (simp at h; done) | simp -implicitDefEqProofs (disch := omega) only [go_sem, tys, regs0, Nat.reduceEqDiff, Nat.reduceAdd, Nat.reduceLeDiff, Nat.reduceLT, Nat.reduceMul, Int.natCast_one, Int.natCast_zero, Int.reduceEq, Int.reduceLT, Int.reduceLE, Int.reduceAdd, Int.reduceSub, Int.reduceToNat, UInt8.reduceToNat, Go.IntWalk.i64_in, puH2, puH1, puI, puC5, puC4, puC3, puC2, puC1, puM, puN, sStr_eq, sKind_eq, sSum_eq, hR, *]))
  all_goals refine Done.drop1 hid ⟨?_, rfl⟩
  all_goals clear hid hR r1 r2 r3 r4 q1 q2 q3 q4 q5
  all_goals congr 1
  all_goals simp only [Bool.not_eq_true', Bool.not_eq_false', Bool.and_eq_true, Bool.and_eq_false_iff, decide_eq_true_eq, decide_eq_false_iff_not, Int.not_le, Int.not_lt, ne_eq, Decidable.not_not, List.singleton_append, List.cons_append, List.nil_append] at *
  all_goals first
    | (simp_all [heldErr, named, badSum]; done)
    | (simp_all [heldErr, named, badSum]; omega)
    | skip
end Go.Proofs
