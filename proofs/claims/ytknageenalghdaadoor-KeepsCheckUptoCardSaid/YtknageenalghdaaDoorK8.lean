/- Walks: items, of the program and of the reference. -/
import Derived.Test.YtknageenalghdaaDoorK7
namespace Go.Proofs
open Go Go.Abs
set_option linter.unusedSimpArgs false
set_option linter.unusedVariables false
def changeOf (x : ChgV) : ChgV := if x.kind = 5 then ⟨3, .zero, x.set, .zero⟩ else if x.kind = 6 then ⟨5, .zero, .zero, x.svc⟩ else ⟨1, x.file, .zero, .zero⟩
def changeOf2 (x : ChgV) : ChgV := ⟨if x.kind = 5 then 3 else if x.kind = 6 then 5 else 1, x.file, x.set, x.svc⟩
def itemErr (x : ChgV) : Int := if x.kind < 1 ∨ 6 < x.kind then 1 else if chgErr (changeOf x) ≠ 0 then chgErr (changeOf x) else if x ≠ ⟨x.kind, (changeOf x).file, (changeOf x).set, (changeOf x).svc⟩ ∨ x.svc.on = true then 2 else 0
theorem item_same (x : ChgV) (h : ¬ (x.kind < 1 ∨ 6 < x.kind)) : firstOf [chgErr (changeOf2 x), if x.svc.on then 2 else 0] = itemErr x := by
  have f0 : (changeOf x).kind = 1 ∨ (changeOf x).kind = 3 ∨ (changeOf x).kind = 5 := by
    unfold changeOf; split
    · simp
    · split <;> simp
  have f1 : (changeOf2 x).kind = (changeOf x).kind := by
    unfold changeOf changeOf2
    by_cases h5 : x.kind = 5
    · simp [h5]
    · by_cases h6 : x.kind = 6
      · simp [h6]
      · simp [h5, h6]
  have f2 : partErr (changeOf2 x) = partErr (changeOf x) := by
    unfold changeOf changeOf2
    by_cases h5 : x.kind = 5
    · simp [h5, partErr]
    · by_cases h6 : x.kind = 6
      · simp [h6, partErr]
      · simp [h5, h6, partErr]
  have f3 : kept (changeOf2 x) = changeOf x := by
    unfold changeOf changeOf2
    by_cases h5 : x.kind = 5
    · simp [h5, kept]
    · by_cases h6 : x.kind = 6
      · simp [h6, kept]
      · simp [h5, h6, kept]
  have f4 : kept (changeOf x) = changeOf x := by
    unfold changeOf
    by_cases h5 : x.kind = 5
    · simp [h5, kept]
    · by_cases h6 : x.kind = 6
      · simp [h6, kept]
      · simp [h5, h6, kept]
  have f5 : (x = ⟨x.kind, (changeOf x).file, (changeOf x).set, (changeOf x).svc⟩) ↔ changeOf2 x = changeOf x := by
    clear f0 f2 f3 f4
    generalize changeOf x = d at f1 ⊢
    obtain ⟨dk, df, ds, dv⟩ := d
    obtain ⟨k, f, s, v⟩ := x
    unfold changeOf2 at f1 ⊢
    simp only at f1 ⊢
    rw [f1]
    simp
  have g1 : chgErr (changeOf x) = partErr (changeOf x) := by
    rw [chgErr, if_neg (by omega), f4]
    simp
    intro e; exact e.symm
  have g2 : chgErr (changeOf2 x) = if partErr (changeOf x) ≠ 0 then partErr (changeOf x) else if changeOf2 x ≠ changeOf x then 2 else 0 := by
    rw [chgErr, if_neg (by rw [f1]; omega), f2, f3]
  rw [itemErr, if_neg h, g1, g2]
  simp only [firstOf, ne_eq, f5]
  clear g1 g2 f0 f1 f2 f3 f4 f5
  generalize partErr (changeOf x) = e
  generalize x.svc.on = on
  by_cases a1 : e = 0 <;> by_cases a2 : changeOf2 x = changeOf x <;> cases on <;> simp [a1, a2]
def puC3 : Pures := putP 18 sChgE (putP 40 sChgE puC2)
theorem puC3_ok : PuOK Tryd.prog puC3 := PuOK.put (PuOK.put puC2_ok (sChgE_ok checkChange_calls)) (sChgE_ok rChangeError_calls)
theorem changeOf_calls (c : ChgV) (H : Heap) : ACalls Tryd.prog 39 [.agg (encChg c)] H fun x H' => x = .agg (encChg (changeOf c)) ∧ H' = H := by
  obtain ⟨k, ⟨a, b, r⟩, ⟨x, y⟩, ⟨p, q, u, v⟩⟩ := c
  refine ACalls.of_code (X := { pure := puC3 }) puC3_ok Tryd.func39 (by kernel_rfl) rfl (by kernel_rfl) (Nat.le_of_ble_eq_true rfl) ?_
  simp -implicitDefEqProofs only [go_sem, tys, regs0, Nat.reduceEqDiff, Nat.reduceAdd, Nat.reduceLeDiff, Nat.reduceLT, Nat.reduceMul, Int.natCast_one, Int.natCast_zero, Int.reduceEq, Int.reduceLT, Int.reduceLE, Int.reduceAdd, Int.reduceSub, Int.reduceToNat, UInt8.reduceToNat, Tryd.f39, encChg]
  with_reducible refine nwC_intro fun id hid => ?_
  simp -implicitDefEqProofs only [go_sem, tys, regs0, Nat.reduceEqDiff, Nat.reduceAdd, Nat.reduceLeDiff, Nat.reduceLT, Nat.reduceMul, Int.natCast_one, Int.natCast_zero, Int.reduceEq, Int.reduceLT, Int.reduceLE, Int.reduceAdd, Int.reduceSub, Int.reduceToNat, UInt8.reduceToNat]
  with_reducible refine nwC_intro fun id2 hid2 => ?_
  have n1 := (heap_none hid2).1
  have n2 := (heap_none hid2).2.1
  have hid3 := (heap_none hid2).2.2
  clear hid2
  simp -implicitDefEqProofs only [go_sem, tys, regs0, Nat.reduceEqDiff, Nat.reduceAdd, Nat.reduceLeDiff, Nat.reduceLT, Nat.reduceMul, Int.natCast_one, Int.natCast_zero, Int.reduceEq, Int.reduceLT, Int.reduceLE, Int.reduceAdd, Int.reduceSub, Int.reduceToNat, UInt8.reduceToNat, put_ne, n1, n2]
  repeat' (first | (with_reducible refine gd_intro (fun h => ?_) (fun h => ?_) <;> first | (exact absurd h (by decide)) | (simp at h; done) | simp -implicitDefEqProofs (disch := omega) only [go_sem, tys, regs0, Nat.reduceEqDiff, Nat.reduceAdd, Nat.reduceLeDiff, Nat.reduceLT, Nat.reduceMul, Int.natCast_one, Int.natCast_zero, Int.reduceEq, Int.reduceLT, Int.reduceLE, Int.reduceAdd, Int.reduceSub, Int.reduceToNat, UInt8.reduceToNat, Go.IntWalk.i64_in, put_ne, n1, n2, *]) | (with_reducible refine cnd_intro (fun h => ?_) (fun h => ?_) <;> first | (exact absurd h (by decide)) | (simp at h; done) | simp -implicitDefEqProofs (disch := omega) only [go_sem, tys, regs0, Nat.reduceEqDiff, Nat.reduceAdd, Nat.reduceLeDiff, Nat.reduceLT, Nat.reduceMul, Int.natCast_one, Int.natCast_zero, Int.reduceEq, Int.reduceLT, Int.reduceLE, Int.reduceAdd, Int.reduceSub, Int.reduceToNat, UInt8.reduceToNat, Go.IntWalk.i64_in, put_ne, n1, n2, *]))
  all_goals refine Done.drop2 hid hid3 ⟨?_, rfl⟩
  all_goals simp only [decide_eq_true_eq, decide_eq_false_iff_not] at *
  all_goals simp_all [changeOf, encChg, FileV.zero, SetV.zero, SvcV.zero]
theorem thingR_calls (k : Int) (H : Heap) : ACalls Tryd.prog 24 [.int .i64 k] H fun x H' => x = .int .i64 (if k = 5 then 1 else if k = 6 then 2 else 0) ∧ H' = H := by
  refine ACalls.of_code (X := { pure := puC3 }) puC3_ok Tryd.func24 (by kernel_rfl) rfl (by kernel_rfl) (Nat.le_of_ble_eq_true rfl) ?_
  simp -implicitDefEqProofs only [go_sem, tys, regs0, Nat.reduceEqDiff, Nat.reduceAdd, Nat.reduceLeDiff, Nat.reduceLT, Nat.reduceMul, Int.natCast_one, Int.natCast_zero, Int.reduceEq, Int.reduceLT, Int.reduceLE, Int.reduceAdd, Int.reduceSub, Int.reduceToNat, UInt8.reduceToNat, Tryd.f24]
  repeat' (first | (with_reducible refine gd_intro (fun h => ?_) (fun h => ?_) <;> first | (exact absurd h (by decide)) | (simp at h; done) | simp -implicitDefEqProofs (disch := omega) only [go_sem, tys, regs0, Nat.reduceEqDiff, Nat.reduceAdd, Nat.reduceLeDiff, Nat.reduceLT, Nat.reduceMul, Int.natCast_one, Int.natCast_zero, Int.reduceEq, Int.reduceLT, Int.reduceLE, Int.reduceAdd, Int.reduceSub, Int.reduceToNat, UInt8.reduceToNat, Go.IntWalk.i64_in, *]) | (with_reducible refine cnd_intro (fun h => ?_) (fun h => ?_) <;> first | (exact absurd h (by decide)) | (simp at h; done) | simp -implicitDefEqProofs (disch := omega) only [go_sem, tys, regs0, Nat.reduceEqDiff, Nat.reduceAdd, Nat.reduceLeDiff, Nat.reduceLT, Nat.reduceMul, Int.natCast_one, Int.natCast_zero, Int.reduceEq, Int.reduceLT, Int.reduceLE, Int.reduceAdd, Int.reduceSub, Int.reduceToNat, UInt8.reduceToNat, Go.IntWalk.i64_in, *]))
  all_goals (refine Done.now ⟨?_, rfl⟩; simp_all)
def sThingR : List AV → Option AV := fn1 (.int .i64) fun k => some (.int .i64 (if k = 5 then 1 else if k = 6 then 2 else 0))
theorem sThingR_eq (k : Int) : sThingR [.int .i64 k] = some (.int .i64 (if k = 5 then 1 else if k = 6 then 2 else 0)) := rfl
def sChOf : List AV → Option AV := fn1 (Rd.agg decChg) fun c => some (.agg (encChg (changeOf c)))
def puC4 : Pures := putP 24 sThingR (putP 39 sChOf puC3)
theorem puC4_ok : PuOK Tryd.prog puC4 := by
  refine PuOK.put (PuOK.put puC3_ok ?_) ?_ <;> intro xs v hv H <;> obtain ⟨x, s, rfl, h1, h2⟩ := fn1_some hv <;> cases h2
  · cases Rd.agg_some (fun _ _ => decChg_some) h1; exact changeOf_calls s H
  · cases Rd.int_some h1; exact thingR_calls _ H
theorem changeR_calls (c : ChgV) (H : Heap) : ACalls Tryd.prog 19 [.agg (encChg c)] H fun x H' => x = .agg (encChg (changeOf2 c)) ∧ H' = H := by
  obtain ⟨k, ⟨a, b, r⟩, ⟨x, y⟩, ⟨p, q, u, v⟩⟩ := c
  have t0 : ((0 : Int)).toNat = 0 := rfl
  have t1 : ((1 : Int)).toNat = 1 := rfl
  have t2 : ((2 : Int)).toNat = 2 := rfl
  by_cases h5 : k = 5
  · subst h5
    refine ACalls.of_code (X := { pure := puC4 }) puC4_ok Tryd.func19 (by kernel_rfl) rfl (by kernel_rfl) (Nat.le_of_ble_eq_true rfl) ?_
    simp -implicitDefEqProofs only [go_sem, tys, regs0, Nat.reduceEqDiff, Nat.reduceAdd, Nat.reduceLeDiff, Nat.reduceLT, Nat.reduceMul, Int.natCast_one, Int.natCast_zero, Int.reduceEq, Int.reduceLT, Int.reduceLE, Int.reduceAdd, Int.reduceSub, Int.reduceToNat, UInt8.reduceToNat, Tryd.f19, encChg]
    with_reducible refine nwC_intro fun id hid => ?_
    simp -implicitDefEqProofs (disch := omega) only [go_sem, tys, regs0, Nat.reduceEqDiff, Nat.reduceAdd, Nat.reduceLeDiff, Nat.reduceLT, Nat.reduceMul, Int.natCast_one, Int.natCast_zero, Int.reduceEq, Int.reduceLT, Int.reduceLE, Int.reduceAdd, Int.reduceSub, Int.reduceToNat, UInt8.reduceToNat, Go.IntWalk.i64_in, puC4, sThingR_eq, t0, t1, t2, *]
    with_reducible refine nwC_intro fun id2 hid2 => ?_
    have n1 := (heap_none hid2).1
    have n2 := (heap_none hid2).2.1
    have hid3 := (heap_none hid2).2.2
    clear hid2
    simp -implicitDefEqProofs (disch := omega) only [go_sem, tys, regs0, Nat.reduceEqDiff, Nat.reduceAdd, Nat.reduceLeDiff, Nat.reduceLT, Nat.reduceMul, Int.natCast_one, Int.natCast_zero, Int.reduceEq, Int.reduceLT, Int.reduceLE, Int.reduceAdd, Int.reduceSub, Int.reduceToNat, UInt8.reduceToNat, Go.IntWalk.i64_in, puC4, sThingR_eq, t0, t1, t2, put_ne, *]
    refine Done.drop2 hid hid3 ⟨?_, rfl⟩
    simp [changeOf2]
  · by_cases h6 : k = 6
    · subst h6
      refine ACalls.of_code (X := { pure := puC4 }) puC4_ok Tryd.func19 (by kernel_rfl) rfl (by kernel_rfl) (Nat.le_of_ble_eq_true rfl) ?_
      simp -implicitDefEqProofs only [go_sem, tys, regs0, Nat.reduceEqDiff, Nat.reduceAdd, Nat.reduceLeDiff, Nat.reduceLT, Nat.reduceMul, Int.natCast_one, Int.natCast_zero, Int.reduceEq, Int.reduceLT, Int.reduceLE, Int.reduceAdd, Int.reduceSub, Int.reduceToNat, UInt8.reduceToNat, Tryd.f19, encChg]
      with_reducible refine nwC_intro fun id hid => ?_
      simp -implicitDefEqProofs (disch := omega) only [go_sem, tys, regs0, Nat.reduceEqDiff, Nat.reduceAdd, Nat.reduceLeDiff, Nat.reduceLT, Nat.reduceMul, Int.natCast_one, Int.natCast_zero, Int.reduceEq, Int.reduceLT, Int.reduceLE, Int.reduceAdd, Int.reduceSub, Int.reduceToNat, UInt8.reduceToNat, Go.IntWalk.i64_in, puC4, sThingR_eq, t0, t1, t2, *]
      with_reducible refine nwC_intro fun id2 hid2 => ?_
      have n1 := (heap_none hid2).1
      have n2 := (heap_none hid2).2.1
      have hid3 := (heap_none hid2).2.2
      clear hid2
      simp -implicitDefEqProofs (disch := omega) only [go_sem, tys, regs0, Nat.reduceEqDiff, Nat.reduceAdd, Nat.reduceLeDiff, Nat.reduceLT, Nat.reduceMul, Int.natCast_one, Int.natCast_zero, Int.reduceEq, Int.reduceLT, Int.reduceLE, Int.reduceAdd, Int.reduceSub, Int.reduceToNat, UInt8.reduceToNat, Go.IntWalk.i64_in, puC4, sThingR_eq, t0, t1, t2, put_ne, *]
      refine Done.drop2 hid hid3 ⟨?_, rfl⟩
      simp [changeOf2]
    · refine ACalls.of_code (X := { pure := puC4 }) puC4_ok Tryd.func19 (by kernel_rfl) rfl (by kernel_rfl) (Nat.le_of_ble_eq_true rfl) ?_
      simp -implicitDefEqProofs only [go_sem, tys, regs0, Nat.reduceEqDiff, Nat.reduceAdd, Nat.reduceLeDiff, Nat.reduceLT, Nat.reduceMul, Int.natCast_one, Int.natCast_zero, Int.reduceEq, Int.reduceLT, Int.reduceLE, Int.reduceAdd, Int.reduceSub, Int.reduceToNat, UInt8.reduceToNat, Tryd.f19, encChg]
      with_reducible refine nwC_intro fun id hid => ?_
      simp -implicitDefEqProofs (disch := omega) only [go_sem, tys, regs0, Nat.reduceEqDiff, Nat.reduceAdd, Nat.reduceLeDiff, Nat.reduceLT, Nat.reduceMul, Int.natCast_one, Int.natCast_zero, Int.reduceEq, Int.reduceLT, Int.reduceLE, Int.reduceAdd, Int.reduceSub, Int.reduceToNat, UInt8.reduceToNat, Go.IntWalk.i64_in, puC4, sThingR_eq, t0, t1, t2, h5, h6, *]
      with_reducible refine nwC_intro fun id2 hid2 => ?_
      have n1 := (heap_none hid2).1
      have n2 := (heap_none hid2).2.1
      have hid3 := (heap_none hid2).2.2
      clear hid2
      simp -implicitDefEqProofs (disch := omega) only [go_sem, tys, regs0, Nat.reduceEqDiff, Nat.reduceAdd, Nat.reduceLeDiff, Nat.reduceLT, Nat.reduceMul, Int.natCast_one, Int.natCast_zero, Int.reduceEq, Int.reduceLT, Int.reduceLE, Int.reduceAdd, Int.reduceSub, Int.reduceToNat, UInt8.reduceToNat, Go.IntWalk.i64_in, puC4, sThingR_eq, t0, t1, t2, h5, h6, put_ne, *]
      refine Done.drop2 hid hid3 ⟨?_, rfl⟩
      simp [changeOf2, h5, h6]
def sChOf2 : List AV → Option AV := fn1 (Rd.agg decChg) fun c => some (.agg (encChg (changeOf2 c)))
def puC5 : Pures := putP 19 sChOf2 puC4
theorem puC5_ok : PuOK Tryd.prog puC5 := by
  refine PuOK.put puC4_ok ?_
  intro xs v hv H
  obtain ⟨x, s, rfl, h1, h2⟩ := fn1_some hv
  cases h2
  cases Rd.agg_some (fun _ _ => decChg_some) h1; exact changeR_calls s H
theorem chgR_of (x : ChgV) (h : chgR x) : chgR (changeOf x) ∧ chgR (changeOf2 x) := by
  have z1 : fileR .zero := ⟨by simp [FileV.zero], by simp [FileV.zero]⟩
  have z2 : setR .zero := ⟨by simp [SetV.zero], by simp [SetV.zero]⟩
  have z3 : svcR .zero := ⟨by simp [SvcV.zero], by simp [SvcV.zero]⟩
  refine ⟨?_, ⟨h.1, h.2.1, h.2.2⟩⟩
  unfold changeOf
  split
  · exact ⟨z1, h.2.1, z3⟩
  · split
    · exact ⟨z1, z2, h.2.2⟩
    · exact ⟨h.1, z2, z3⟩
theorem itemFault_calls (c : ChgV) (H : Heap) (hr : chgR c) : ACalls Tryd.prog 16 [.agg (encChg c)] H fun x H' => x = .int .i64 (itemErr c) ∧ H' = H := by
  have hr2 := (chgR_of c hr).1
  unfold itemErr
  generalize hd : changeOf c = d at *
  obtain ⟨k, ⟨a, b, r⟩, ⟨x, y⟩, ⟨p, q, u, v⟩⟩ := c
  obtain ⟨k', ⟨a', b', r'⟩, ⟨x', y'⟩, ⟨p', q', u', v'⟩⟩ := d
  have hsp : sChOf [.agg (encChg ⟨k, ⟨a, b, r⟩, ⟨x, y⟩, ⟨p, q, u, v⟩⟩)] = some (.agg (encChg ⟨k', ⟨a', b', r'⟩, ⟨x', y'⟩, ⟨p', q', u', v'⟩⟩)) := by
    rw [← hd]; rfl
  simp only [encChg] at hsp
  by_cases hk1 : k < 1
  · rw [if_pos (.inl hk1)]
    have d1 : decide (k < 1) = true := by simpa using hk1
    refine ACalls.of_code (X := { pure := puC5 }) puC5_ok Tryd.func16 (by kernel_rfl) rfl (by kernel_rfl) (Nat.le_of_ble_eq_true rfl) ?_
    simp -implicitDefEqProofs only [go_sem, tys, regs0, Nat.reduceEqDiff, Nat.reduceAdd, Nat.reduceLeDiff, Nat.reduceLT, Nat.reduceMul, Int.natCast_one, Int.natCast_zero, Int.reduceEq, Int.reduceLT, Int.reduceLE, Int.reduceAdd, Int.reduceSub, Int.reduceToNat, UInt8.reduceToNat, Tryd.f16, encChg]
    with_reducible refine nwC_intro fun id hid => ?_
    simp -implicitDefEqProofs only [go_sem, tys, regs0, Nat.reduceEqDiff, Nat.reduceAdd, Nat.reduceLeDiff, Nat.reduceLT, Nat.reduceMul, Int.natCast_one, Int.natCast_zero, Int.reduceEq, Int.reduceLT, Int.reduceLE, Int.reduceAdd, Int.reduceSub, Int.reduceToNat, UInt8.reduceToNat, d1]
    exact Done.drop1 hid ⟨rfl, rfl⟩
  by_cases hk2 : 6 < k
  · rw [if_pos (.inr hk2)]
    have d1 : decide (k < 1) = false := by simpa using hk1
    have d2 : decide (6 < k) = true := by simpa using hk2
    refine ACalls.of_code (X := { pure := puC5 }) puC5_ok Tryd.func16 (by kernel_rfl) rfl (by kernel_rfl) (Nat.le_of_ble_eq_true rfl) ?_
    simp -implicitDefEqProofs only [go_sem, tys, regs0, Nat.reduceEqDiff, Nat.reduceAdd, Nat.reduceLeDiff, Nat.reduceLT, Nat.reduceMul, Int.natCast_one, Int.natCast_zero, Int.reduceEq, Int.reduceLT, Int.reduceLE, Int.reduceAdd, Int.reduceSub, Int.reduceToNat, UInt8.reduceToNat, Tryd.f16, encChg]
    with_reducible refine nwC_intro fun id hid => ?_
    simp -implicitDefEqProofs only [go_sem, tys, regs0, Nat.reduceEqDiff, Nat.reduceAdd, Nat.reduceLeDiff, Nat.reduceLT, Nat.reduceMul, Int.natCast_one, Int.natCast_zero, Int.reduceEq, Int.reduceLT, Int.reduceLE, Int.reduceAdd, Int.reduceSub, Int.reduceToNat, UInt8.reduceToNat, d1, d2]
    exact Done.drop1 hid ⟨rfl, rfl⟩
  have hk : ¬ (k < 1 ∨ 6 < k) := by omega
  · rw [if_neg hk]
    have d1 : decide (k < 1) = false := by simp; omega
    have d2 : decide (6 < k) = false := by simp; omega
    refine ACalls.of_code (X := { pure := puC5 }) puC5_ok Tryd.func16 (by kernel_rfl) rfl (by kernel_rfl) (Nat.le_of_ble_eq_true rfl) ?_
    simp -implicitDefEqProofs only [go_sem, tys, regs0, Nat.reduceEqDiff, Nat.reduceAdd, Nat.reduceLeDiff, Nat.reduceLT, Nat.reduceMul, Int.natCast_one, Int.natCast_zero, Int.reduceEq, Int.reduceLT, Int.reduceLE, Int.reduceAdd, Int.reduceSub, Int.reduceToNat, UInt8.reduceToNat, Tryd.f16, encChg]
    with_reducible refine nwC_intro fun id hid => ?_
    simp -implicitDefEqProofs only [go_sem, tys, regs0, Nat.reduceEqDiff, Nat.reduceAdd, Nat.reduceLeDiff, Nat.reduceLT, Nat.reduceMul, Int.natCast_one, Int.natCast_zero, Int.reduceEq, Int.reduceLT, Int.reduceLE, Int.reduceAdd, Int.reduceSub, Int.reduceToNat, UInt8.reduceToNat, puC5, puC4, hsp, d1, d2]
    with_reducible refine nwC_intro fun id2 hid2 => ?_
    have n1 := (heap_none hid2).1
    have n2 := (heap_none hid2).2.1
    have hid3 := (heap_none hid2).2.2
    clear hid2
    simp -implicitDefEqProofs only [go_sem, tys, regs0, Nat.reduceEqDiff, Nat.reduceAdd, Nat.reduceLeDiff, Nat.reduceLT, Nat.reduceMul, Int.natCast_one, Int.natCast_zero, Int.reduceEq, Int.reduceLT, Int.reduceLE, Int.reduceAdd, Int.reduceSub, Int.reduceToNat, UInt8.reduceToNat, put_ne, n1, n2, puC5, puC4, puC3, sChgE, hr2]
    repeat' (first | (with_reducible refine gd_intro (fun h => ?_) (fun h => ?_) <;> first | (exact absurd h (by decide)) | (simp at h; done) | simp -implicitDefEqProofs (disch := omega) only [go_sem, tys, regs0, Nat.reduceEqDiff, Nat.reduceAdd, Nat.reduceLeDiff, Nat.reduceLT, Nat.reduceMul, Int.natCast_one, Int.natCast_zero, Int.reduceEq, Int.reduceLT, Int.reduceLE, Int.reduceAdd, Int.reduceSub, Int.reduceToNat, UInt8.reduceToNat, Go.IntWalk.i64_in, put_ne, n1, n2, puC5, puC4, puC3, sChgE, hr2, *]) | (with_reducible refine cnd_intro (fun h => ?_) (fun h => ?_) <;> first | (exact absurd h (by decide)) | (simp at h; done) | simp -implicitDefEqProofs (disch := omega) only [go_sem, tys, regs0, Nat.reduceEqDiff, Nat.reduceAdd, Nat.reduceLeDiff, Nat.reduceLT, Nat.reduceMul, Int.natCast_one, Int.natCast_zero, Int.reduceEq, Int.reduceLT, Int.reduceLE, Int.reduceAdd, Int.reduceSub, Int.reduceToNat, UInt8.reduceToNat, Go.IntWalk.i64_in, put_ne, n1, n2, puC5, puC4, puC3, sChgE, hr2, *]))
    · refine Done.drop2 hid hid3 ⟨?_, rfl⟩
      simp only [Bool.not_eq_true', decide_eq_false_iff_not, decide_eq_true_eq] at h
      rw [if_pos (by simpa using h)]
    · with_reducible refine nwC_intro fun id4 hid4 => ?_
      have m1 := (heap_none hid4).1
      have m2 := (heap_none hid4).2.1
      have m3 := (heap_none (heap_none hid4).2.2).1
      have m4 := (heap_none (heap_none hid4).2.2).2.1
      have hid5 := (heap_none (heap_none hid4).2.2).2.2
      clear hid4
      simp -implicitDefEqProofs (disch := omega) only [go_sem, tys, regs0, Nat.reduceEqDiff, Nat.reduceAdd, Nat.reduceLeDiff, Nat.reduceLT, Nat.reduceMul, Int.natCast_one, Int.natCast_zero, Int.reduceEq, Int.reduceLT, Int.reduceLE, Int.reduceAdd, Int.reduceSub, Int.reduceToNat, UInt8.reduceToNat, Go.IntWalk.i64_in, put_ne, neq_litI, *]
      repeat' (first | (with_reducible refine gd_intro (fun h => ?_) (fun h => ?_) <;> first | (exact absurd h (by decide)) | (simp at h; done) | simp -implicitDefEqProofs (disch := omega) only [go_sem, tys, regs0, Nat.reduceEqDiff, Nat.reduceAdd, Nat.reduceLeDiff, Nat.reduceLT, Nat.reduceMul, Int.natCast_one, Int.natCast_zero, Int.reduceEq, Int.reduceLT, Int.reduceLE, Int.reduceAdd, Int.reduceSub, Int.reduceToNat, UInt8.reduceToNat, Go.IntWalk.i64_in, put_ne, neq_litI, *]) | (with_reducible refine cnd_intro (fun h => ?_) (fun h => ?_) <;> first | (exact absurd h (by decide)) | (simp at h; done) | simp -implicitDefEqProofs (disch := omega) only [go_sem, tys, regs0, Nat.reduceEqDiff, Nat.reduceAdd, Nat.reduceLeDiff, Nat.reduceLT, Nat.reduceMul, Int.natCast_one, Int.natCast_zero, Int.reduceEq, Int.reduceLT, Int.reduceLE, Int.reduceAdd, Int.reduceSub, Int.reduceToNat, UInt8.reduceToNat, Go.IntWalk.i64_in, put_ne, neq_litI, *]))
      all_goals refine Done.drop3 hid hid3 hid5 ⟨?_, rfl⟩
      all_goals clear hid hid3 hid5 m1 m2 m3 m4 n1 n2 hd hsp hr hr2
      all_goals congr 1
      all_goals simp only [Bool.not_eq_true', Bool.not_eq_false', decide_eq_false_iff_not, decide_eq_true_eq] at *
      all_goals simp_all
theorem itemError_calls (c : ChgV) (H : Heap) (hr : chgR c) : ACalls Tryd.prog 6 [.agg (encChg c)] H fun x H' => x = .int .i64 (itemErr c) ∧ H' = H := by
  have hr2 := (chgR_of c hr).2
  by_cases hk1 : c.kind < 1
  · have e : itemErr c = 1 := by rw [itemErr, if_pos (.inl hk1)]
    rw [e]
    obtain ⟨k, ⟨a, b, r⟩, ⟨x, y⟩, ⟨p, q, u, v⟩⟩ := c
    have d1 : decide (k < 1) = true := by simpa using hk1
    refine ACalls.of_code (X := { pure := puC5 }) puC5_ok Tryd.func6 (by kernel_rfl) rfl (by kernel_rfl) (Nat.le_of_ble_eq_true rfl) ?_
    simp -implicitDefEqProofs only [go_sem, tys, regs0, Nat.reduceEqDiff, Nat.reduceAdd, Nat.reduceLeDiff, Nat.reduceLT, Nat.reduceMul, Int.natCast_one, Int.natCast_zero, Int.reduceEq, Int.reduceLT, Int.reduceLE, Int.reduceAdd, Int.reduceSub, Int.reduceToNat, UInt8.reduceToNat, Tryd.f6, encChg]
    with_reducible refine nwC_intro fun id hid => ?_
    simp -implicitDefEqProofs only [go_sem, tys, regs0, Nat.reduceEqDiff, Nat.reduceAdd, Nat.reduceLeDiff, Nat.reduceLT, Nat.reduceMul, Int.natCast_one, Int.natCast_zero, Int.reduceEq, Int.reduceLT, Int.reduceLE, Int.reduceAdd, Int.reduceSub, Int.reduceToNat, UInt8.reduceToNat, d1]
    exact Done.drop1 hid ⟨rfl, rfl⟩
  by_cases hk2 : 6 < c.kind
  · have e : itemErr c = 1 := by rw [itemErr, if_pos (.inr hk2)]
    rw [e]
    obtain ⟨k, ⟨a, b, r⟩, ⟨x, y⟩, ⟨p, q, u, v⟩⟩ := c
    have d1 : decide (k < 1) = false := by simpa using hk1
    have d2 : decide (6 < k) = true := by simpa using hk2
    refine ACalls.of_code (X := { pure := puC5 }) puC5_ok Tryd.func6 (by kernel_rfl) rfl (by kernel_rfl) (Nat.le_of_ble_eq_true rfl) ?_
    simp -implicitDefEqProofs only [go_sem, tys, regs0, Nat.reduceEqDiff, Nat.reduceAdd, Nat.reduceLeDiff, Nat.reduceLT, Nat.reduceMul, Int.natCast_one, Int.natCast_zero, Int.reduceEq, Int.reduceLT, Int.reduceLE, Int.reduceAdd, Int.reduceSub, Int.reduceToNat, UInt8.reduceToNat, Tryd.f6, encChg]
    with_reducible refine nwC_intro fun id hid => ?_
    simp -implicitDefEqProofs only [go_sem, tys, regs0, Nat.reduceEqDiff, Nat.reduceAdd, Nat.reduceLeDiff, Nat.reduceLT, Nat.reduceMul, Int.natCast_one, Int.natCast_zero, Int.reduceEq, Int.reduceLT, Int.reduceLE, Int.reduceAdd, Int.reduceSub, Int.reduceToNat, UInt8.reduceToNat, d1, d2]
    exact Done.drop1 hid ⟨rfl, rfl⟩
  rw [← item_same c (by omega)]
  generalize hd : changeOf2 c = d at *
  obtain ⟨k, ⟨a, b, r⟩, ⟨x, y⟩, ⟨p, q, u, v⟩⟩ := c
  obtain ⟨k', ⟨a', b', r'⟩, ⟨x', y'⟩, ⟨p', q', u', v'⟩⟩ := d
  have hsp : sChOf2 [.agg (encChg ⟨k, ⟨a, b, r⟩, ⟨x, y⟩, ⟨p, q, u, v⟩⟩)] = some (.agg (encChg ⟨k', ⟨a', b', r'⟩, ⟨x', y'⟩, ⟨p', q', u', v'⟩⟩)) := by
    rw [← hd]; rfl
  simp only [encChg] at hsp
  have d1 : decide (k < 1) = false := by simpa using hk1
  have d2 : decide (6 < k) = false := by simpa using hk2
  refine ACalls.of_code (X := { pure := puC5 }) puC5_ok Tryd.func6 (by kernel_rfl) rfl (by kernel_rfl) (Nat.le_of_ble_eq_true rfl) ?_
  simp -implicitDefEqProofs only [go_sem, tys, regs0, Nat.reduceEqDiff, Nat.reduceAdd, Nat.reduceLeDiff, Nat.reduceLT, Nat.reduceMul, Int.natCast_one, Int.natCast_zero, Int.reduceEq, Int.reduceLT, Int.reduceLE, Int.reduceAdd, Int.reduceSub, Int.reduceToNat, UInt8.reduceToNat, Tryd.f6, encChg]
  with_reducible refine nwC_intro fun id hid => ?_
  simp -implicitDefEqProofs (disch := omega) only [go_sem, tys, regs0, Nat.reduceEqDiff, Nat.reduceAdd, Nat.reduceLeDiff, Nat.reduceLT, Nat.reduceMul, Int.natCast_one, Int.natCast_zero, Int.reduceEq, Int.reduceLT, Int.reduceLE, Int.reduceAdd, Int.reduceSub, Int.reduceToNat, UInt8.reduceToNat, Go.IntWalk.i64_in, puC5, puC4, puC3, puC2, puC1, sChgE, sWhen_eq, sFirst, *]
  exact Done.drop1 hid ⟨rfl, rfl⟩
def sItemE : List AV → Option AV := fn1 (Rd.agg decChg) fun f => if chgR f then some (.int .i64 (itemErr f)) else none
theorem sItemE_ok {P : Program} {f : FuncId} (h : ∀ a H, chgR a → ACalls P f [.agg (encChg a)] H fun x H' => x = .int .i64 (itemErr a) ∧ H' = H) : ∀ xs v, sItemE xs = some v → ∀ H, ACalls P f xs H fun x H' => x = v ∧ H' = H := by
  intro xs v hv H
  obtain ⟨x, s, rfl, h1, h2⟩ := fn1_some hv
  split at h2
  · cases h2; cases Rd.agg_some (fun _ _ => decChg_some) h1; exact h s H ‹_›
  · cases h2
def puI : Pures := putP 16 sItemE (putP 6 sItemE puC5)
theorem puI_ok : PuOK Tryd.prog puI := PuOK.put (PuOK.put puC5_ok (sItemE_ok itemError_calls)) (sItemE_ok itemFault_calls)
end Go.Proofs
