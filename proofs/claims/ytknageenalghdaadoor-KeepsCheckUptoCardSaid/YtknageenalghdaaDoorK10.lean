/- Walks: the order of what is held. -/
import Derived.Test.YtknageenalghdaaDoorK9
namespace Go.Proofs
open Go Go.Abs
set_option linter.unusedSimpArgs false
set_option linter.unusedVariables false
def sHeldE : List AV → Option AV := fn1 (Rd.agg decHeld) fun h => if heldR h then some (.int .i64 (heldErr h)) else none
def sHeldC : List AV → Option AV := fn2 (Rd.agg decHeld) (Rd.agg decHeld) fun a b => some (.int .i64 (heldCmp a b))
theorem thing_range (k : Int) : 0 ≤ thing k ∧ thing k ≤ 2 := by
  unfold thing; split
  · omega
  · split <;> omega
def ordH (n : Nat) : Option (List (List Nat)) := if n = 4 then some [[0, 1, 2, 3, 4, 5, 6, 7], [0, 1, 2, 3, 4, 5, 7, 6], [0, 1, 2, 3, 4, 6, 5, 7], [0, 1, 2, 3, 5, 4, 6, 7], [0, 1, 2, 3, 5, 4, 7, 6], [0, 1, 2, 3, 5, 7, 4, 6]] else none
set_option maxHeartbeats 3200000 in
theorem compareHeld_calls (a b : HeldV) (H : Heap) : ACalls Tryd.prog 31 [.agg (encHeld a), .agg (encHeld b)] H fun x H' => x = .int .i64 (heldCmp a b) ∧ H' = H := by
  obtain ⟨o, k, p, s, d⟩ := a
  obtain ⟨o', k', p', s', d'⟩ := b
  have t1 := thing_range k
  have t2 := thing_range k'
  refine ACalls.of_code (X := { pure := puH2, orders := ordH }) puH2_ok Tryd.func31 (by kernel_rfl) rfl (by kernel_rfl) (Nat.le_of_ble_eq_true rfl) ?_
  simp -implicitDefEqProofs only [go_sem, tys, regs0, Nat.reduceEqDiff, Nat.reduceAdd, Nat.reduceLeDiff, Nat.reduceLT, Nat.reduceMul, Int.natCast_one, Int.natCast_zero, Int.reduceEq, Int.reduceLT, Int.reduceLE, Int.reduceAdd, Int.reduceSub, Int.reduceToNat, UInt8.reduceToNat, Tryd.f31, encHeld]
  with_reducible refine nwC_intro fun id hid => ?_
  simp -implicitDefEqProofs only [go_sem, tys, regs0, Nat.reduceEqDiff, Nat.reduceAdd, Nat.reduceLeDiff, Nat.reduceLT, Nat.reduceMul, Int.natCast_one, Int.natCast_zero, Int.reduceEq, Int.reduceLT, Int.reduceLE, Int.reduceAdd, Int.reduceSub, Int.reduceToNat, UInt8.reduceToNat]
  with_reducible refine nwC_intro fun id2 hid2 => ?_
  have n1 := (heap_none hid2).1
  have n2 := (heap_none hid2).2.1
  have hid3 := (heap_none hid2).2.2
  clear hid2
  simp -implicitDefEqProofs only [go_sem, tys, regs0, Nat.reduceEqDiff, Nat.reduceAdd, Nat.reduceLeDiff, Nat.reduceLT, Nat.reduceMul, Int.natCast_one, Int.natCast_zero, Int.reduceEq, Int.reduceLT, Int.reduceLE, Int.reduceAdd, Int.reduceSub, Int.reduceToNat, UInt8.reduceToNat, puH2, puH1, puI, puC5, puC4, puC3, puC2, puC1, puM, puN, puR1, puV3, puV2, puV1, puK, puK5, sCmpS_eq, put_ne, n1, n2]
  repeat' (first | (with_reducible refine gd_intro (fun h => ?_) (fun h => ?_) <;> first | (exact absurd h (by decide)) | (simp at h; done) | simp -implicitDefEqProofs (disch := omega) only [go_sem, tys, regs0, Nat.reduceEqDiff, Nat.reduceAdd, Nat.reduceLeDiff, Nat.reduceLT, Nat.reduceMul, Int.natCast_one, Int.natCast_zero, Int.reduceEq, Int.reduceLT, Int.reduceLE, Int.reduceAdd, Int.reduceSub, Int.reduceToNat, UInt8.reduceToNat, Go.IntWalk.i64_in, put_ne, n1, n2, *]) | (with_reducible refine cnd_intro (fun h => ?_) (fun h => ?_) <;> first | (exact absurd h (by decide)) | (simp at h; done) | simp -implicitDefEqProofs (disch := omega) only [go_sem, tys, regs0, Nat.reduceEqDiff, Nat.reduceAdd, Nat.reduceLeDiff, Nat.reduceLT, Nat.reduceMul, Int.natCast_one, Int.natCast_zero, Int.reduceEq, Int.reduceLT, Int.reduceLE, Int.reduceAdd, Int.reduceSub, Int.reduceToNat, UInt8.reduceToNat, Go.IntWalk.i64_in, put_ne, n1, n2, *]))
  · refine Done.drop (by repeat (first | exact Heap.Sub.rfl' _ | refine Heap.Sub.put' ?_ (by assumption) _)) ⟨?_, rfl⟩
    simp only [decide_eq_true_eq] at h
    simp [heldCmp, h]
  rw [acode_draw]
  intro ord hord
  simp only [List.mem_cons, List.not_mem_nil, or_false] at hord
  rcases hord with rfl | rfl | rfl | rfl | rfl | rfl
  all_goals rw [aops_order _ _ _ _ _ _ _ (by rfl)]
  all_goals simp -implicitDefEqProofs only [go_sem, tys, regs0, Nat.reduceEqDiff, Nat.reduceAdd, Nat.reduceLeDiff, Nat.reduceLT, Nat.reduceMul, Int.natCast_one, Int.natCast_zero, Int.reduceEq, Int.reduceLT, Int.reduceLE, Int.reduceAdd, Int.reduceSub, Int.reduceToNat, UInt8.reduceToNat, stripO, puH2, sPlace, put_ne, n1, n2]
  all_goals
    with_reducible refine nwC_intro fun id4 hid4 => ?_
    have m1 := (heap_none hid4).1
    have m2 := (heap_none hid4).2.1
    have m3 := (heap_none (heap_none hid4).2.2).1
    have m4 := (heap_none (heap_none hid4).2.2).2.1
    have hid5 := (heap_none (heap_none hid4).2.2).2.2
  all_goals simp -implicitDefEqProofs only [go_sem, tys, regs0, Nat.reduceEqDiff, Nat.reduceAdd, Nat.reduceLeDiff, Nat.reduceLT, Nat.reduceMul, Int.natCast_one, Int.natCast_zero, Int.reduceEq, Int.reduceLT, Int.reduceLE, Int.reduceAdd, Int.reduceSub, Int.reduceToNat, UInt8.reduceToNat, put_ne, n1, n2, m1, m2, m3, m4]
  all_goals
    with_reducible refine nwC_intro fun id6 hid6 => ?_
    have k1 := (heap_none hid6).1
    have k2 := (heap_none hid6).2.1
    have hid7 : H id6 = none := by
      have e1 := (heap_none hid6).2.2
      first
        | exact (heap_none (heap_none e1).2.2).2.2
        | exact (heap_none e1).2.2
    have k3 : ¬ id6 = id4 := by
      intro e; subst e
      first
        | exact k1 rfl
        | exact (heap_none (heap_none hid6).2.2).1 rfl
    have k4 : ¬ id4 = id6 := fun e => k3 e.symm
  all_goals simp -implicitDefEqProofs only [go_sem, tys, regs0, Nat.reduceEqDiff, Nat.reduceAdd, Nat.reduceLeDiff, Nat.reduceLT, Nat.reduceMul, Int.natCast_one, Int.natCast_zero, Int.reduceEq, Int.reduceLT, Int.reduceLE, Int.reduceAdd, Int.reduceSub, Int.reduceToNat, UInt8.reduceToNat, put_ne, n1, n2, m1, m2, m3, m4, k1, k2, k3, k4]
  all_goals repeat' (first | (with_reducible refine gd_intro (fun h => ?_) (fun h => ?_) <;> first | (exact absurd h (by decide)) | (simp at h; done) | simp -implicitDefEqProofs (disch := omega) only [go_sem, tys, regs0, Nat.reduceEqDiff, Nat.reduceAdd, Nat.reduceLeDiff, Nat.reduceLT, Nat.reduceMul, Int.natCast_one, Int.natCast_zero, Int.reduceEq, Int.reduceLT, Int.reduceLE, Int.reduceAdd, Int.reduceSub, Int.reduceToNat, UInt8.reduceToNat, Go.IntWalk.i64_in, puH2, puH1, puI, puC5, puC4, puC3, puC2, puC1, puM, puN, puR1, puV3, puV2, puV1, puK, puK5, sCmpS_eq, put_ne, n1, n2, *]) | (with_reducible refine cnd_intro (fun h => ?_) (fun h => ?_) <;> first | (exact absurd h (by decide)) | (simp at h; done) | simp -implicitDefEqProofs (disch := omega) only [go_sem, tys, regs0, Nat.reduceEqDiff, Nat.reduceAdd, Nat.reduceLeDiff, Nat.reduceLT, Nat.reduceMul, Int.natCast_one, Int.natCast_zero, Int.reduceEq, Int.reduceLT, Int.reduceLE, Int.reduceAdd, Int.reduceSub, Int.reduceToNat, UInt8.reduceToNat, Go.IntWalk.i64_in, puH2, puH1, puI, puC5, puC4, puC3, puC2, puC1, puM, puN, puR1, puV3, puV2, puV1, puK, puK5, sCmpS_eq, put_ne, n1, n2, *]))
  all_goals refine Done.drop (by repeat (first | exact Heap.Sub.rfl' _ | refine Heap.Sub.put' ?_ (by assumption) _)) ⟨?_, rfl⟩
  all_goals clear hid hid3 hid4 hid5 hid6 hid7 m1 m2 m3 m4 n1 n2 k1 k2 k3 k4
  all_goals congr 1
  all_goals simp only [decide_eq_true_eq, decide_eq_false_iff_not, Decidable.not_not] at *
  all_goals unfold heldCmp
  all_goals simp only [*, ne_eq, not_true_eq_false, if_false]
  all_goals first
    | (rw [if_pos (by omega)]; omega)
    | (rw [if_neg (by omega)])
/-! ### The reference's order -/
theorem orI_calls (l : List Int) (t : Tail) (H : Heap) (hl : l.length ≤ 1099511627776) : ACalls Tryd.prog 46 [.sl (l.map encI) t] H fun x H' => x = .int .i64 (firstOf l) ∧ H' = H := by
  refine ACalls.of_code (X := { pure := puH2 }) puH2_ok Tryd.func46 (by kernel_rfl) rfl (by kernel_rfl) (Nat.le_of_ble_eq_true rfl) ?_
  simp -implicitDefEqProofs only [go_sem, tys, regs0, Nat.reduceEqDiff, Nat.reduceAdd, Nat.reduceLeDiff, Nat.reduceLT, Nat.reduceMul, Int.natCast_one, Int.natCast_zero, Int.reduceEq, Int.reduceLT, Int.reduceLE, Int.reduceAdd, Int.reduceSub, Int.reduceToNat, UInt8.reduceToNat, Tryd.f46]
  refine aloop_intro (σ := Nat) (fun i => [(3, .int .i64 0), (6, .sl (l.map encI) t), (7, .int .i64 l.length), (8, .int .i64 i)]) (fun i G => G = H ∧ i ≤ l.length ∧ firstOf (l.take i) = 0) (fun i => l.length - i) 0 ?_ ?_ ?_
  · simp -implicitDefEqProofs only [go_sem, tys, regs0, Nat.reduceEqDiff, Nat.reduceAdd, Nat.reduceLeDiff, Nat.reduceLT, Nat.reduceMul, Int.natCast_one, Int.natCast_zero, Int.reduceEq, Int.reduceLT, Int.reduceLE, Int.reduceAdd, Int.reduceSub, Int.reduceToNat, UInt8.reduceToNat]
  · simp [firstOf]
  · intro i r G hv hI
    have h3 := hv.1
    have h5 := hv.2.1
    have h6 := hv.2.2.1
    have h7 := hv.2.2.2.1
    have hG := hI.1.symm
    have hi := hI.2.1
    have hz := hI.2.2
    clear hv hI
    subst hG
    simp -implicitDefEqProofs only [go_sem, tys, regs0, Nat.reduceEqDiff, Nat.reduceAdd, Nat.reduceLeDiff, Nat.reduceLT, Nat.reduceMul, Int.natCast_one, Int.natCast_zero, Int.reduceEq, Int.reduceLT, Int.reduceLE, Int.reduceAdd, Int.reduceSub, Int.reduceToNat, UInt8.reduceToNat, h3, h5, h6, h7]
    refine cnd_intro (fun h => ?_) (fun h => ?_)
    · simp only [decide_eq_true_eq] at h
      obtain ⟨c, hc⟩ : ∃ c, l[i]? = some c := ⟨l[i]'(by omega), List.getElem?_eq_getElem _⟩
      simp -implicitDefEqProofs only [go_sem, tys, regs0, Nat.reduceEqDiff, Nat.reduceAdd, Nat.reduceLeDiff, Nat.reduceLT, Nat.reduceMul, Int.natCast_one, Int.natCast_zero, Int.reduceEq, Int.reduceLT, Int.reduceLE, Int.reduceAdd, Int.reduceSub, Int.reduceToNat, UInt8.reduceToNat, h3, h5, h6, h7, hc, encI]
      refine cnd_intro (fun g => ?_) (fun g => ?_)
      · simp -implicitDefEqProofs only [go_sem, tys, regs0, Nat.reduceEqDiff, Nat.reduceAdd, Nat.reduceLeDiff, Nat.reduceLT, Nat.reduceMul, Int.natCast_one, Int.natCast_zero, Int.reduceEq, Int.reduceLT, Int.reduceLE, Int.reduceAdd, Int.reduceSub, Int.reduceToNat, UInt8.reduceToNat, h3, h5, h6, h7, hc]
        simp only [decide_eq_true_eq] at g
        exact Done.now ⟨by rw [firstOf_at hz hc g], rfl⟩
      · simp -implicitDefEqProofs (disch := omega) only [go_sem, tys, regs0, Nat.reduceEqDiff, Nat.reduceAdd, Nat.reduceLeDiff, Nat.reduceLT, Nat.reduceMul, Int.natCast_one, Int.natCast_zero, Int.reduceEq, Int.reduceLT, Int.reduceLE, Int.reduceAdd, Int.reduceSub, Int.reduceToNat, UInt8.reduceToNat, Go.IntWalk.i64_in, h3, h5, h6, h7, hc]
        simp only [decide_eq_false_iff_not, Decidable.not_not] at g
        exact Again.mk (i + 1) (by simp -implicitDefEqProofs only [go_sem, tys, regs0, Nat.reduceEqDiff, Nat.reduceAdd, Nat.reduceLeDiff, Nat.reduceLT, Nat.reduceMul, Int.natCast_one, Int.natCast_zero, Int.reduceEq, Int.reduceLT, Int.reduceLE, Int.reduceAdd, Int.reduceSub, Int.reduceToNat, UInt8.reduceToNat, h3, h5, h6, h7]; exact rfl) ⟨rfl, by omega, firstOf_succ hz hc g⟩ (by omega)
    · simp only [decide_eq_false_iff_not] at h
      have e : i = l.length := by omega
      subst e
      rw [List.take_length] at hz
      simp -implicitDefEqProofs only [go_sem, tys, regs0, Nat.reduceEqDiff, Nat.reduceAdd, Nat.reduceLeDiff, Nat.reduceLT, Nat.reduceMul, Int.natCast_one, Int.natCast_zero, Int.reduceEq, Int.reduceLT, Int.reduceLE, Int.reduceAdd, Int.reduceSub, Int.reduceToNat, UInt8.reduceToNat, h3, h5, h6, h7]
      exact Done.now ⟨by rw [hz], rfl⟩
def puH3 : Pures := putP 46 sFirst (putP 31 sHeldC (putP 30 sHeldE puH2))
theorem puH3_ok : PuOK Tryd.prog puH3 := by
  refine PuOK.put (PuOK.put (PuOK.put puH2_ok ?_) ?_) ?_ <;> intro xs v hv H
  · obtain ⟨x, s, rfl, h1, h2⟩ := fn1_some hv
    split at h2
    · cases h2
      cases Rd.agg_some (fun _ _ => decHeld_some) h1
      exact heldFault_calls s H ‹_›
    · cases h2
  · obtain ⟨x, y, p, q, rfl, h1, h2, h3⟩ := fn2_some hv
    cases h3
    cases Rd.agg_some (fun _ _ => decHeld_some) h1
    cases Rd.agg_some (fun _ _ => decHeld_some) h2
    exact compareHeld_calls _ _ H
  · obtain ⟨x, l, rfl, h1, h2⟩ := fn1_some hv
    split at h2
    · rename_i hl
      cases h2
      obtain ⟨t, rfl⟩ := Rd.list_some (fun _ _ => decI_some) h1
      exact orI_calls l t H hl
    · cases h2
theorem heldOrder_calls (a b : HeldV) (H : Heap) : ACalls Tryd.prog 23 [.agg (encHeld a), .agg (encHeld b)] H fun x H' => x = .int .i64 (heldCmp a b) ∧ H' = H := by
  obtain ⟨o, k, p, s, d⟩ := a
  obtain ⟨o', k', p', s', d'⟩ := b
  have t1 := thing_range k
  have t2 := thing_range k'
  have e1 : ∀ k, (if k = 5 then 1 else if k = 6 then 2 else 0) = thing k := fun _ => rfl
  refine ACalls.of_code (X := { pure := puH3 }) puH3_ok Tryd.func23 (by kernel_rfl) rfl (by kernel_rfl) (Nat.le_of_ble_eq_true rfl) ?_
  simp -implicitDefEqProofs only [go_sem, tys, regs0, Nat.reduceEqDiff, Nat.reduceAdd, Nat.reduceLeDiff, Nat.reduceLT, Nat.reduceMul, Int.natCast_one, Int.natCast_zero, Int.reduceEq, Int.reduceLT, Int.reduceLE, Int.reduceAdd, Int.reduceSub, Int.reduceToNat, UInt8.reduceToNat, Tryd.f23, encHeld]
  with_reducible refine nwC_intro fun id hid => ?_
  simp -implicitDefEqProofs only [go_sem, tys, regs0, Nat.reduceEqDiff, Nat.reduceAdd, Nat.reduceLeDiff, Nat.reduceLT, Nat.reduceMul, Int.natCast_one, Int.natCast_zero, Int.reduceEq, Int.reduceLT, Int.reduceLE, Int.reduceAdd, Int.reduceSub, Int.reduceToNat, UInt8.reduceToNat]
  with_reducible refine nwC_intro fun id2 hid2 => ?_
  have n1 := (heap_none hid2).1
  have n2 := (heap_none hid2).2.1
  have hid3 := (heap_none hid2).2.2
  clear hid2
  simp -implicitDefEqProofs (disch := omega) only [go_sem, tys, regs0, Nat.reduceEqDiff, Nat.reduceAdd, Nat.reduceLeDiff, Nat.reduceLT, Nat.reduceMul, Int.natCast_one, Int.natCast_zero, Int.reduceEq, Int.reduceLT, Int.reduceLE, Int.reduceAdd, Int.reduceSub, Int.reduceToNat, UInt8.reduceToNat, Go.IntWalk.i64_in, puH3, puH2, puH1, puI, puC5, puC4, puC3, puC2, puC1, puM, puN, puR1, puV3, puV2, puV1, puK, puK5, sCmpS_eq, sThingR_eq, sFirst, put_ne, *]
  refine Done.drop (by repeat (first | exact Heap.Sub.rfl' _ | refine Heap.Sub.put' ?_ (by assumption) _)) ⟨?_, rfl⟩
  congr 1
  simp only [firstOf, heldCmp]
  by_cases a1 : Lib.compareBytes o o' = 0
  · by_cases a2 : thing k = thing k'
    · by_cases a3 : Lib.compareBytes p p' = 0 <;> simp [a1, a2, a3]
    · have : ¬ thing k - thing k' = 0 := by omega
      simp [a1, a2, this]
  · simp [a1]
theorem sHeldC_ok {P : Program} {f : FuncId} (h : ∀ a b H, ACalls P f [.agg (encHeld a), .agg (encHeld b)] H fun x H' => x = .int .i64 (heldCmp a b) ∧ H' = H) : ∀ xs v, sHeldC xs = some v → ∀ H, ACalls P f xs H fun x H' => x = v ∧ H' = H := by
  intro xs v hv H
  obtain ⟨x, y, p, q, rfl, h1, h2, h3⟩ := fn2_some hv
  cases h3
  cases Rd.agg_some (fun _ _ => decHeld_some) h1
  cases Rd.agg_some (fun _ _ => decHeld_some) h2
  exact h _ _ H
def puH4 : Pures := putP 23 sHeldC puH3
theorem puH4_ok : PuOK Tryd.prog puH4 := PuOK.put puH3_ok (sHeldC_ok heldOrder_calls)
end Go.Proofs
