/- Walks: a keep is checked by the reference. -/
import Derived.Test.YtknageenalghdaaDoorK11
namespace Go.Proofs
open Go Go.Abs
set_option linter.unusedSimpArgs false
set_option linter.unusedVariables false
theorem errAt_first (l : List HeldV) (i : Nat) (c cp : HeldV) (hat : errAt l i = if heldErr c ≠ 0 then heldErr c else if 0 < i ∧ 0 ≤ heldCmp cp c then 7 else 0) : errAt l i = firstOf [if nameB c.owner = false then 5 else 0, if c.kind < 1 ∨ 6 < c.kind then 1 else 0, if named c = false then 5 else 0, if badSum c = true then 2 else 0, if 0 < i ∧ 0 ≤ heldCmp cp c then 7 else 0] := by
  rw [hat, heldErr]
  simp only [firstOf]
  by_cases a1 : nameB c.owner = false <;> by_cases a2 : c.kind < 1 ∨ 6 < c.kind <;> by_cases a3 : named c = false <;> by_cases a4 : badSum c = true <;> by_cases a5 : 0 < i ∧ 0 ≤ heldCmp cp c <;> simp only [a1, a2, a3, a4, a5, if_true, if_false, ne_eq, not_true_eq_false, not_false_eq_true, if_pos, and_self] <;> simp
set_option maxHeartbeats 6400000 in
theorem keepError_calls (l : List HeldV) (t : Tail) (H : Heap) (hr : keepR l) : ACalls Tryd.prog 7 [.agg [.sl (l.map encHeld) t]] H fun x H' => x = .int .i64 (keepErr l) ∧ H' = H := by
  have hlen := hr.1
  by_cases h5 : 5000 < l.length
  · have d1 : decide ((5000 : Int) < l.length) = true := by simp; omega
    refine ACalls.of_code (X := { pure := puH4 }) puH4_ok Tryd.func7 (by kernel_rfl) rfl (by kernel_rfl) (Nat.le_of_ble_eq_true rfl) ?_
    simp -implicitDefEqProofs only [go_sem, tys, regs0, Nat.reduceEqDiff, Nat.reduceAdd, Nat.reduceLeDiff, Nat.reduceLT, Nat.reduceMul, Int.natCast_one, Int.natCast_zero, Int.reduceEq, Int.reduceLT, Int.reduceLE, Int.reduceAdd, Int.reduceSub, Int.reduceToNat, UInt8.reduceToNat, Tryd.f7]
    with_reducible refine nwC_intro fun id hid => ?_
    simp -implicitDefEqProofs only [go_sem, tys, regs0, Nat.reduceEqDiff, Nat.reduceAdd, Nat.reduceLeDiff, Nat.reduceLT, Nat.reduceMul, Int.natCast_one, Int.natCast_zero, Int.reduceEq, Int.reduceLT, Int.reduceLE, Int.reduceAdd, Int.reduceSub, Int.reduceToNat, UInt8.reduceToNat, d1]
    exact Done.drop1 hid ⟨by rw [keepErr, if_pos h5], rfl⟩
  have d1 : decide ((5000 : Int) < l.length) = false := by simp; omega
  have hk : keepErr l = if firstOf (errs l) ≠ 0 then firstOf (errs l) else if confl [] l then 11 else 0 := by rw [keepErr, if_neg h5]
  have hR : Room = 1099511627776 := rfl
  refine ACalls.of_code (X := { pure := puH4 }) puH4_ok Tryd.func7 (by kernel_rfl) rfl (by kernel_rfl) (Nat.le_of_ble_eq_true rfl) ?_
  simp -implicitDefEqProofs only [go_sem, tys, regs0, Nat.reduceEqDiff, Nat.reduceAdd, Nat.reduceLeDiff, Nat.reduceLT, Nat.reduceMul, Int.natCast_one, Int.natCast_zero, Int.reduceEq, Int.reduceLT, Int.reduceLE, Int.reduceAdd, Int.reduceSub, Int.reduceToNat, UInt8.reduceToNat, Tryd.f7]
  with_reducible refine nwC_intro fun id hid => ?_
  simp -implicitDefEqProofs only [go_sem, tys, regs0, Nat.reduceEqDiff, Nat.reduceAdd, Nat.reduceLeDiff, Nat.reduceLT, Nat.reduceMul, Int.natCast_one, Int.natCast_zero, Int.reduceEq, Int.reduceLT, Int.reduceLE, Int.reduceAdd, Int.reduceSub, Int.reduceToNat, UInt8.reduceToNat, d1]
  refine aloop_intro (σ := Nat) (fun i => [(1, .ptr id 0), (19, .sl (l.map encHeld) t), (20, .int .i64 l.length), (21, .int .i64 i)])
    (fun i G => H.Sub G ∧ G id = some (.cells [.sl (l.map encHeld) t]) ∧ i ≤ l.length ∧ firstOf ((errs l).take i) = 0) (fun i => l.length - i) 0 ?_ ?_ ?_
  · simp -implicitDefEqProofs only [go_sem, tys, regs0, Nat.reduceEqDiff, Nat.reduceAdd, Nat.reduceLeDiff, Nat.reduceLT, Nat.reduceMul, Int.natCast_one, Int.natCast_zero, Int.reduceEq, Int.reduceLT, Int.reduceLE, Int.reduceAdd, Int.reduceSub, Int.reduceToNat, UInt8.reduceToNat]
  · exact ⟨(Heap.Sub.rfl' H).put' hid _, put_same _ _ _, by omega, by simp [firstOf]⟩
  · intro i r G hv hI
    have h1 := hv.1
    have h19 := hv.2.1
    have h20 := hv.2.2.1
    have h21 := hv.2.2.2.1
    have hS := hI.1
    have gid := hI.2.1
    have hi := hI.2.2.1
    have hz := hI.2.2.2
    clear hv hI
    simp -implicitDefEqProofs only [go_sem, tys, regs0, Nat.reduceEqDiff, Nat.reduceAdd, Nat.reduceLeDiff, Nat.reduceLT, Nat.reduceMul, Int.natCast_one, Int.natCast_zero, Int.reduceEq, Int.reduceLT, Int.reduceLE, Int.reduceAdd, Int.reduceSub, Int.reduceToNat, UInt8.reduceToNat, h1, h19, h20, h21]
    refine cnd_intro (fun h => ?_) (fun h => ?_)
    · simp only [decide_eq_true_eq] at h
      have hi2 : i < l.length := by omega
      have hc := getD_get hi2
      have hrc := keepR_at hr hi2
      have he := errs_get hi2
      have hat : errAt l i = if heldErr (l.getD i default) ≠ 0 then heldErr (l.getD i default) else if 0 < i ∧ 0 ≤ heldCmp (l.getD (i - 1) default) (l.getD i default) then 7 else 0 := rfl
      have hcp : 0 < i → l[i - 1]? = some (l.getD (i - 1) default) := fun h0 => getD_get (by omega)
      generalize l.getD i default = c at hc hrc hat
      generalize l.getD (i - 1) default = cp at hcp hat
      have hat := errAt_first l i c cp hat
      obtain ⟨o, k, p, s, d⟩ := c
      obtain ⟨o', k', p', s', d'⟩ := cp
      obtain ⟨r1, r2, r3, r4⟩ := hrc
      simp only at r1 r2 r3 r4 hat
      have q1 : o.length ≤ 1099511627776 := by omega
      have q2 : p.length ≤ 1099511627776 := by omega
      have q3 : s.length ≤ 1099511627776 := by omega
      have q4 : d.length + 1 ≤ 1099511627776 := by omega
      have q5 : ((1 + d.length : Nat) : Int) ≤ 9223372036854775807 := by omega
      have e1 : 0 < i → ((i : Int) - 1).toNat = i - 1 := fun _ => by omega
      have hsn := firstOf_at hz he
      have hsu := firstOf_succ hz he
      clear hz he
      simp -implicitDefEqProofs only [go_sem, tys, regs0, Nat.reduceEqDiff, Nat.reduceAdd, Nat.reduceLeDiff, Nat.reduceLT, Nat.reduceMul, Int.natCast_one, Int.natCast_zero, Int.reduceEq, Int.reduceLT, Int.reduceLE, Int.reduceAdd, Int.reduceSub, Int.reduceToNat, UInt8.reduceToNat, h1, h19, h20, h21, hc, encHeld]
      with_reducible refine nwC_intro fun id4 h4 => ?_
      have n1 := (Sub.ne gid h4).1
      have n2 := (Sub.ne gid h4).2
      have hS2 := Sub.more hS h4
      have hb : (if badSum ⟨o, k, p, s, d⟩ = true then (2 : Int) else 0) = if (sumB s = false ∨ ¬d = [] ∧ ¬k = 3) ∨ (k = 3 ∧ ¬s = sumOf (114 :: d)) ∧ ¬s = sumOf (45 :: d) then 2 else 0 := by simp [badSum]
      rw [hb] at hat
      have hatA : k = 6 → errAt l i = firstOf [if nameB o = false then 5 else 0, if k < 1 ∨ 6 < k then 1 else 0, if nameB p = false then 5 else 0, if (sumB s = false ∨ ¬d = [] ∧ ¬k = 3) ∨ (k = 3 ∧ ¬s = sumOf (114 :: d)) ∧ ¬s = sumOf (45 :: d) then 2 else 0, if 0 < i ∧ 0 ≤ heldCmp ⟨o', k', p', s', d'⟩ ⟨o, k, p, s, d⟩ then 7 else 0] := fun e => by
        rw [hat, show named ⟨o, k, p, s, d⟩ = nameB p from if_pos e]
      have hatB : ¬ k = 6 → errAt l i = firstOf [if nameB o = false then 5 else 0, if k < 1 ∨ 6 < k then 1 else 0, if pathB p = false then 5 else 0, if (sumB s = false ∨ ¬d = [] ∧ ¬k = 3) ∨ (k = 3 ∧ ¬s = sumOf (114 :: d)) ∧ ¬s = sumOf (45 :: d) then 2 else 0, if 0 < i ∧ 0 ≤ heldCmp ⟨o', k', p', s', d'⟩ ⟨o, k, p, s, d⟩ then 7 else 0] := fun e => by
        rw [hat, show named ⟨o, k, p, s, d⟩ = pathB p from if_neg e]
      clear hat hb
      with_reducible refine Or.elim (Nat.eq_zero_or_pos i) (fun h0 => ?_) (fun h0 => ?_)
      · have d2 : decide ((0 : Int) < i) = false := by simp; omega
        have e0 : ∀ q : Prop, (0 < i ∧ q) = False := fun q => by simp; omega
        simp only [e0, if_false] at hatA hatB
        clear e0
        simp +contextual -implicitDefEqProofs (disch := omega) only [go_sem, gd_M, tys, regs0, Nat.reduceEqDiff, Nat.reduceAdd, Nat.reduceLeDiff, Nat.reduceLT, Nat.reduceMul, Int.natCast_one, Int.natCast_zero, Int.reduceEq, Int.reduceLT, Int.reduceLE, Int.reduceAdd, Int.reduceSub, Int.reduceToNat, UInt8.reduceToNat, Go.IntWalk.i64_in, h1, h19, h20, h21, put_ne, n1, n2, gid, puH4, puH3, puH2, puH1, puI, puC5, puC4, puC3, puC2, puC1, puM, puN, sStr_eq, sKind_eq, sSum_eq, sWhen_eq, sFirst, puR1, sHeldC, hR, q1, q2, q3, q4, q5, d2]
        refine cnd_intro (fun h6 => ?_) (fun h6 => ?_)
        · simp only [decide_eq_true_eq, decide_eq_false_iff_not] at h6
          simp +contextual -implicitDefEqProofs (disch := omega) only [go_sem, gd_M, tys, regs0, Nat.reduceEqDiff, Nat.reduceAdd, Nat.reduceLeDiff, Nat.reduceLT, Nat.reduceMul, Int.natCast_one, Int.natCast_zero, Int.reduceEq, Int.reduceLT, Int.reduceLE, Int.reduceAdd, Int.reduceSub, Int.reduceToNat, UInt8.reduceToNat, Go.IntWalk.i64_in, h1, h19, h20, h21, put_ne, n1, n2, gid, puH4, puH3, puH2, puH1, puI, puC5, puC4, puC3, puC2, puC1, puM, puN, sStr_eq, sKind_eq, sSum_eq, sWhen_eq, sFirst, puR1, sHeldC, hR, q1, q2, q3, q4, q5, d2]
          refine cnd_intro (fun g => ?_) (fun g => ?_)
          · simp +contextual -implicitDefEqProofs (disch := omega) only [go_sem, gd_M, tys, regs0, Nat.reduceEqDiff, Nat.reduceAdd, Nat.reduceLeDiff, Nat.reduceLT, Nat.reduceMul, Int.natCast_one, Int.natCast_zero, Int.reduceEq, Int.reduceLT, Int.reduceLE, Int.reduceAdd, Int.reduceSub, Int.reduceToNat, UInt8.reduceToNat, Go.IntWalk.i64_in, h1, h19, h20, h21, put_ne, n1, n2, gid, puH4, puH3, puH2, puH1, puI, puC5, puC4, puC3, puC2, puC1, puM, puN, sStr_eq, sKind_eq, sSum_eq, sWhen_eq, sFirst, puR1, sHeldC]
            simp only [decide_eq_true_eq] at g
            refine Done.drop (hS2 _) ⟨?_, rfl⟩
            rw [← hatA h6] at g ⊢
            rw [hk, hsn g, if_pos g]
          · simp +contextual -implicitDefEqProofs (disch := omega) only [go_sem, gd_M, tys, regs0, Nat.reduceEqDiff, Nat.reduceAdd, Nat.reduceLeDiff, Nat.reduceLT, Nat.reduceMul, Int.natCast_one, Int.natCast_zero, Int.reduceEq, Int.reduceLT, Int.reduceLE, Int.reduceAdd, Int.reduceSub, Int.reduceToNat, UInt8.reduceToNat, Go.IntWalk.i64_in, h1, h19, h20, h21, put_ne, n1, n2, gid, puH4, puH3, puH2, puH1, puI, puC5, puC4, puC3, puC2, puC1, puM, puN, sStr_eq, sKind_eq, sSum_eq, sWhen_eq, sFirst, puR1, sHeldC]
            simp only [decide_eq_false_iff_not, Decidable.not_not] at g
            rw [← hatA h6] at g
            exact Again.mk (i + 1) (by simp -implicitDefEqProofs (disch := omega) only [go_sem, tys, regs0, Nat.reduceEqDiff, Nat.reduceAdd, Nat.reduceLeDiff, Nat.reduceLT, Nat.reduceMul, Int.natCast_one, Int.natCast_zero, Int.reduceEq, Int.reduceLT, Int.reduceLE, Int.reduceAdd, Int.reduceSub, Int.reduceToNat, UInt8.reduceToNat, Go.IntWalk.i64_in, h1, h19, h20, h21]; exact rfl) ⟨hS2 _, by rw [put_ne _ _ _ _ n2]; exact gid, by omega, hsu g⟩ (by omega)
        · simp only [decide_eq_true_eq, decide_eq_false_iff_not] at h6
          simp +contextual -implicitDefEqProofs (disch := omega) only [go_sem, gd_M, tys, regs0, Nat.reduceEqDiff, Nat.reduceAdd, Nat.reduceLeDiff, Nat.reduceLT, Nat.reduceMul, Int.natCast_one, Int.natCast_zero, Int.reduceEq, Int.reduceLT, Int.reduceLE, Int.reduceAdd, Int.reduceSub, Int.reduceToNat, UInt8.reduceToNat, Go.IntWalk.i64_in, h1, h19, h20, h21, put_ne, n1, n2, gid, puH4, puH3, puH2, puH1, puI, puC5, puC4, puC3, puC2, puC1, puM, puN, sStr_eq, sKind_eq, sSum_eq, sWhen_eq, sFirst, puR1, sHeldC, hR, q1, q2, q3, q4, q5, d2]
          refine cnd_intro (fun g => ?_) (fun g => ?_)
          · simp +contextual -implicitDefEqProofs (disch := omega) only [go_sem, gd_M, tys, regs0, Nat.reduceEqDiff, Nat.reduceAdd, Nat.reduceLeDiff, Nat.reduceLT, Nat.reduceMul, Int.natCast_one, Int.natCast_zero, Int.reduceEq, Int.reduceLT, Int.reduceLE, Int.reduceAdd, Int.reduceSub, Int.reduceToNat, UInt8.reduceToNat, Go.IntWalk.i64_in, h1, h19, h20, h21, put_ne, n1, n2, gid, puH4, puH3, puH2, puH1, puI, puC5, puC4, puC3, puC2, puC1, puM, puN, sStr_eq, sKind_eq, sSum_eq, sWhen_eq, sFirst, puR1, sHeldC]
            simp only [decide_eq_true_eq] at g
            refine Done.drop (hS2 _) ⟨?_, rfl⟩
            rw [← hatB h6] at g ⊢
            rw [hk, hsn g, if_pos g]
          · simp +contextual -implicitDefEqProofs (disch := omega) only [go_sem, gd_M, tys, regs0, Nat.reduceEqDiff, Nat.reduceAdd, Nat.reduceLeDiff, Nat.reduceLT, Nat.reduceMul, Int.natCast_one, Int.natCast_zero, Int.reduceEq, Int.reduceLT, Int.reduceLE, Int.reduceAdd, Int.reduceSub, Int.reduceToNat, UInt8.reduceToNat, Go.IntWalk.i64_in, h1, h19, h20, h21, put_ne, n1, n2, gid, puH4, puH3, puH2, puH1, puI, puC5, puC4, puC3, puC2, puC1, puM, puN, sStr_eq, sKind_eq, sSum_eq, sWhen_eq, sFirst, puR1, sHeldC]
            simp only [decide_eq_false_iff_not, Decidable.not_not] at g
            rw [← hatB h6] at g
            exact Again.mk (i + 1) (by simp -implicitDefEqProofs (disch := omega) only [go_sem, tys, regs0, Nat.reduceEqDiff, Nat.reduceAdd, Nat.reduceLeDiff, Nat.reduceLT, Nat.reduceMul, Int.natCast_one, Int.natCast_zero, Int.reduceEq, Int.reduceLT, Int.reduceLE, Int.reduceAdd, Int.reduceSub, Int.reduceToNat, UInt8.reduceToNat, Go.IntWalk.i64_in, h1, h19, h20, h21]; exact rfl) ⟨hS2 _, by rw [put_ne _ _ _ _ n2]; exact gid, by omega, hsu g⟩ (by omega)
      · have d2 : decide ((0 : Int) < i) = true := by simp; omega
        have hcp' := hcp h0
        have e1' := e1 h0
        have e0 : ∀ q : Prop, (0 < i ∧ q) = q := fun q => by simp [h0]
        simp only [e0] at hatA hatB
        clear e0
        simp +contextual -implicitDefEqProofs (disch := omega) only [go_sem, gd_M, tys, regs0, Nat.reduceEqDiff, Nat.reduceAdd, Nat.reduceLeDiff, Nat.reduceLT, Nat.reduceMul, Int.natCast_one, Int.natCast_zero, Int.reduceEq, Int.reduceLT, Int.reduceLE, Int.reduceAdd, Int.reduceSub, Int.reduceToNat, UInt8.reduceToNat, Go.IntWalk.i64_in, h1, h19, h20, h21, put_ne, n1, n2, gid, puH4, puH3, puH2, puH1, puI, puC5, puC4, puC3, puC2, puC1, puM, puN, sStr_eq, sKind_eq, sSum_eq, sWhen_eq, sFirst, puR1, sHeldC, hR, q1, q2, q3, q4, q5, d2, hcp', e1']
        refine cnd_intro (fun h6 => ?_) (fun h6 => ?_)
        · simp only [decide_eq_true_eq, decide_eq_false_iff_not] at h6
          simp +contextual -implicitDefEqProofs (disch := omega) only [go_sem, gd_M, tys, regs0, Nat.reduceEqDiff, Nat.reduceAdd, Nat.reduceLeDiff, Nat.reduceLT, Nat.reduceMul, Int.natCast_one, Int.natCast_zero, Int.reduceEq, Int.reduceLT, Int.reduceLE, Int.reduceAdd, Int.reduceSub, Int.reduceToNat, UInt8.reduceToNat, Go.IntWalk.i64_in, h1, h19, h20, h21, put_ne, n1, n2, gid, puH4, puH3, puH2, puH1, puI, puC5, puC4, puC3, puC2, puC1, puM, puN, sStr_eq, sKind_eq, sSum_eq, sWhen_eq, sFirst, puR1, sHeldC, hR, q1, q2, q3, q4, q5, d2, hcp', e1', encHeld]
          refine ⟨by omega, ?_⟩
          refine cnd_intro (fun g => ?_) (fun g => ?_)
          · simp +contextual -implicitDefEqProofs (disch := omega) only [go_sem, gd_M, tys, regs0, Nat.reduceEqDiff, Nat.reduceAdd, Nat.reduceLeDiff, Nat.reduceLT, Nat.reduceMul, Int.natCast_one, Int.natCast_zero, Int.reduceEq, Int.reduceLT, Int.reduceLE, Int.reduceAdd, Int.reduceSub, Int.reduceToNat, UInt8.reduceToNat, Go.IntWalk.i64_in, h1, h19, h20, h21, put_ne, n1, n2, gid, puH4, puH3, puH2, puH1, puI, puC5, puC4, puC3, puC2, puC1, puM, puN, sStr_eq, sKind_eq, sSum_eq, sWhen_eq, sFirst, puR1, sHeldC]
            simp only [decide_eq_true_eq] at g
            refine Done.drop (hS2 _) ⟨?_, rfl⟩
            rw [← hatA h6] at g ⊢
            rw [hk, hsn g, if_pos g]
          · simp +contextual -implicitDefEqProofs (disch := omega) only [go_sem, gd_M, tys, regs0, Nat.reduceEqDiff, Nat.reduceAdd, Nat.reduceLeDiff, Nat.reduceLT, Nat.reduceMul, Int.natCast_one, Int.natCast_zero, Int.reduceEq, Int.reduceLT, Int.reduceLE, Int.reduceAdd, Int.reduceSub, Int.reduceToNat, UInt8.reduceToNat, Go.IntWalk.i64_in, h1, h19, h20, h21, put_ne, n1, n2, gid, puH4, puH3, puH2, puH1, puI, puC5, puC4, puC3, puC2, puC1, puM, puN, sStr_eq, sKind_eq, sSum_eq, sWhen_eq, sFirst, puR1, sHeldC]
            simp only [decide_eq_false_iff_not, Decidable.not_not] at g
            rw [← hatA h6] at g
            exact Again.mk (i + 1) (by simp -implicitDefEqProofs (disch := omega) only [go_sem, tys, regs0, Nat.reduceEqDiff, Nat.reduceAdd, Nat.reduceLeDiff, Nat.reduceLT, Nat.reduceMul, Int.natCast_one, Int.natCast_zero, Int.reduceEq, Int.reduceLT, Int.reduceLE, Int.reduceAdd, Int.reduceSub, Int.reduceToNat, UInt8.reduceToNat, Go.IntWalk.i64_in, h1, h19, h20, h21]; exact rfl) ⟨hS2 _, by rw [put_ne _ _ _ _ n2]; exact gid, by omega, hsu g⟩ (by omega)
        · simp only [decide_eq_true_eq, decide_eq_false_iff_not] at h6
          simp +contextual -implicitDefEqProofs (disch := omega) only [go_sem, gd_M, tys, regs0, Nat.reduceEqDiff, Nat.reduceAdd, Nat.reduceLeDiff, Nat.reduceLT, Nat.reduceMul, Int.natCast_one, Int.natCast_zero, Int.reduceEq, Int.reduceLT, Int.reduceLE, Int.reduceAdd, Int.reduceSub, Int.reduceToNat, UInt8.reduceToNat, Go.IntWalk.i64_in, h1, h19, h20, h21, put_ne, n1, n2, gid, puH4, puH3, puH2, puH1, puI, puC5, puC4, puC3, puC2, puC1, puM, puN, sStr_eq, sKind_eq, sSum_eq, sWhen_eq, sFirst, puR1, sHeldC, hR, q1, q2, q3, q4, q5, d2, hcp', e1', encHeld]
          refine ⟨by omega, ?_⟩
          refine cnd_intro (fun g => ?_) (fun g => ?_)
          · simp +contextual -implicitDefEqProofs (disch := omega) only [go_sem, gd_M, tys, regs0, Nat.reduceEqDiff, Nat.reduceAdd, Nat.reduceLeDiff, Nat.reduceLT, Nat.reduceMul, Int.natCast_one, Int.natCast_zero, Int.reduceEq, Int.reduceLT, Int.reduceLE, Int.reduceAdd, Int.reduceSub, Int.reduceToNat, UInt8.reduceToNat, Go.IntWalk.i64_in, h1, h19, h20, h21, put_ne, n1, n2, gid, puH4, puH3, puH2, puH1, puI, puC5, puC4, puC3, puC2, puC1, puM, puN, sStr_eq, sKind_eq, sSum_eq, sWhen_eq, sFirst, puR1, sHeldC]
            simp only [decide_eq_true_eq] at g
            refine Done.drop (hS2 _) ⟨?_, rfl⟩
            rw [← hatB h6] at g ⊢
            rw [hk, hsn g, if_pos g]
          · simp +contextual -implicitDefEqProofs (disch := omega) only [go_sem, gd_M, tys, regs0, Nat.reduceEqDiff, Nat.reduceAdd, Nat.reduceLeDiff, Nat.reduceLT, Nat.reduceMul, Int.natCast_one, Int.natCast_zero, Int.reduceEq, Int.reduceLT, Int.reduceLE, Int.reduceAdd, Int.reduceSub, Int.reduceToNat, UInt8.reduceToNat, Go.IntWalk.i64_in, h1, h19, h20, h21, put_ne, n1, n2, gid, puH4, puH3, puH2, puH1, puI, puC5, puC4, puC3, puC2, puC1, puM, puN, sStr_eq, sKind_eq, sSum_eq, sWhen_eq, sFirst, puR1, sHeldC]
            simp only [decide_eq_false_iff_not, Decidable.not_not] at g
            rw [← hatB h6] at g
            exact Again.mk (i + 1) (by simp -implicitDefEqProofs (disch := omega) only [go_sem, tys, regs0, Nat.reduceEqDiff, Nat.reduceAdd, Nat.reduceLeDiff, Nat.reduceLT, Nat.reduceMul, Int.natCast_one, Int.natCast_zero, Int.reduceEq, Int.reduceLT, Int.reduceLE, Int.reduceAdd, Int.reduceSub, Int.reduceToNat, UInt8.reduceToNat, Go.IntWalk.i64_in, h1, h19, h20, h21]; exact rfl) ⟨hS2 _, by rw [put_ne _ _ _ _ n2]; exact gid, by omega, hsu g⟩ (by omega)
    · simp only [decide_eq_false_iff_not] at h
      have e : i = l.length := by omega
      subst e
      rw [← errs_len, List.take_length] at hz
      simp -implicitDefEqProofs only [go_sem, tys, regs0, Nat.reduceEqDiff, Nat.reduceAdd, Nat.reduceLeDiff, Nat.reduceLT, Nat.reduceMul, Int.natCast_one, Int.natCast_zero, Int.reduceEq, Int.reduceLT, Int.reduceLE, Int.reduceAdd, Int.reduceSub, Int.reduceToNat, UInt8.reduceToNat, h1, h19, h20, h21, gid]
      with_reducible refine nwM_intro fun mid hmid => ?_
      have hmH := Sub.fresh hS hmid
      have m1 := (Sub.ne gid hmid).1
      have m2 := (Sub.ne gid hmid).2
      simp -implicitDefEqProofs only [go_sem, tys, regs0, Nat.reduceEqDiff, Nat.reduceAdd, Nat.reduceLeDiff, Nat.reduceLT, Nat.reduceMul, Int.natCast_one, Int.natCast_zero, Int.reduceEq, Int.reduceLT, Int.reduceLE, Int.reduceAdd, Int.reduceSub, Int.reduceToNat, UInt8.reduceToNat, h1, h19, h20, h21, gid, put_ne, m1, m2]
      refine aloop_intro (σ := Nat) (fun i => [(8, .map mid), (113, .sl (l.map encHeld) t), (114, .int .i64 l.length), (115, .int .i64 i)])
        (fun i G' => H.Sub G' ∧ (∃ es, G' mid = some (.map (.st [.int .i64, .str]) es) ∧ MapOK 0 es (l.take i).reverse) ∧ i ≤ l.length ∧ confl [] l = confl (l.take i).reverse (l.drop i)) (fun i => l.length - i) 0 ?_ ?_ ?_
      · simp -implicitDefEqProofs only [go_sem, tys, regs0, Nat.reduceEqDiff, Nat.reduceAdd, Nat.reduceLeDiff, Nat.reduceLT, Nat.reduceMul, Int.natCast_one, Int.natCast_zero, Int.reduceEq, Int.reduceLT, Int.reduceLE, Int.reduceAdd, Int.reduceSub, Int.reduceToNat, UInt8.reduceToNat]
      · exact ⟨Sub.more hS hmid _, ⟨[], put_same _ _ _, MapOK.nil 0⟩, by omega, by simp⟩
      · intro i r G hv hI
        have r8 := hv.1
        have r113 := hv.2.1
        have r114 := hv.2.2.1
        have r115 := hv.2.2.2.1
        have hS2 := hI.1
        have hes := hI.2.1
        have hi2 := hI.2.2.1
        have hcf := hI.2.2.2
        clear hv hI
        simp -implicitDefEqProofs only [go_sem, tys, regs0, Nat.reduceEqDiff, Nat.reduceAdd, Nat.reduceLeDiff, Nat.reduceLT, Nat.reduceMul, Int.natCast_one, Int.natCast_zero, Int.reduceEq, Int.reduceLT, Int.reduceLE, Int.reduceAdd, Int.reduceSub, Int.reduceToNat, UInt8.reduceToNat, r8, r113, r114, r115]
        refine cnd_intro (fun h => ?_) (fun h => ?_)
        · simp only [decide_eq_true_eq] at h
          have hi3 : i < l.length := by omega
          have hc := getD_get hi3
          rw [drop_at hi3, confl_step, ← take_rev hi3] at hcf
          have hmo := hes.choose_spec.2
          have hmi := hes.choose_spec.1
          generalize hes.choose = es at hmo hmi
          have hset := fun x => MapOK.set hmo x
          have hc1 := hmo (l.getD i default)
          have hset := hset (l.getD i default)
          with_reducible refine held_cases (l.getD i default) (fun o k p s d hce => ?_)
          rw [hce] at hc hset hc1 hcf
          have htr := take_rev hi3
          rw [hce] at htr
          simp -implicitDefEqProofs only [go_sem, tys, regs0, Nat.reduceEqDiff, Nat.reduceAdd, Nat.reduceLeDiff, Nat.reduceLT, Nat.reduceMul, Int.natCast_one, Int.natCast_zero, Int.reduceEq, Int.reduceLT, Int.reduceLE, Int.reduceAdd, Int.reduceSub, Int.reduceToNat, UInt8.reduceToNat, r8, r113, r114, r115, hc, encHeld]
          with_reducible refine nwC_intro fun id4 h4 => ?_
          have n1 := (Sub.ne hmi h4).1
          have n2 := (Sub.ne hmi h4).2
          have e1 : ∀ k, (if k = 5 then 1 else if k = 6 then 2 else 0) = thing k := fun _ => rfl
          simp only [keyH, Int.add_zero] at hset
          simp +contextual -implicitDefEqProofs only [go_sem, gd_M, tys, regs0, Nat.reduceEqDiff, Nat.reduceAdd, Nat.reduceLeDiff, Nat.reduceLT, Nat.reduceMul, Int.natCast_one, Int.natCast_zero, Int.reduceEq, Int.reduceLT, Int.reduceLE, Int.reduceAdd, Int.reduceSub, Int.reduceToNat, UInt8.reduceToNat, r8, r113, r114, r115, put_ne, n1, n2, hmi, puH4, puH3, puH2, puH1, puI, puC5, puC4, puC3, puC2, puC1, puM, puN, sThingR_eq, e1]
          with_reducible refine nwC_intro fun id5 h5' => ?_
          have j1 : ¬ id5 = id4 := (heap_none h5').1
          have j2 : ¬ id4 = id5 := (heap_none h5').2.1
          have h5'' : G id5 = none := (heap_none h5').2.2
          have j3 := (Sub.ne hmi h5'').1
          have j4 := (Sub.ne hmi h5'').2
          with_reducible refine opt_cases ((l.take i).reverse.find? (sameP ⟨o, k, p, s, d⟩)) (fun hf => ?_) (fun x hf => ?_)
          · rw [hf] at hc1 hcf
            simp only [keyH, Int.add_zero, Option.map_none] at hc1
            simp +contextual -implicitDefEqProofs only [go_sem, gd_M, tys, regs0, Nat.reduceEqDiff, Nat.reduceAdd, Nat.reduceLeDiff, Nat.reduceLT, Nat.reduceMul, Int.natCast_one, Int.natCast_zero, Int.reduceEq, Int.reduceLT, Int.reduceLE, Int.reduceAdd, Int.reduceSub, Int.reduceToNat, UInt8.reduceToNat, r8, r113, r114, r115, put_ne, n1, n2, j1, j2, j3, j4, hmi, hc1, puH4, puH3, puH2, puH1, puI, puC5, puC4, puC3, puC2, puC1, puM, puN, sThingR_eq, e1]
            with_reducible refine nwC_intro fun id9 h9 => ?_
            have i1 : ¬ id9 = id5 := (heap_none h9).1
            have i2 : ¬ id5 = id9 := (heap_none h9).2.1
            have k1 : ¬ id9 = id4 := (heap_none (heap_none h9).2.2).1
            have k2 : ¬ id4 = id9 := (heap_none (heap_none h9).2.2).2.1
            have h9' : G id9 = none := (heap_none (heap_none h9).2.2).2.2
            have k3 := (Sub.ne hmi h9').1
            have k4 := (Sub.ne hmi h9').2
            have hS3 := Sub.more (Sub.more (Sub.more hS2 h4 (.cells [.str o, .int .i64 k, .str p, .str s, .str d])) h5' (.cells [.int .i64 (thing k), .str p])) h9
            simp +contextual -implicitDefEqProofs only [go_sem, gd_M, tys, regs0, Nat.reduceEqDiff, Nat.reduceAdd, Nat.reduceLeDiff, Nat.reduceLT, Nat.reduceMul, Int.natCast_one, Int.natCast_zero, Int.reduceEq, Int.reduceLT, Int.reduceLE, Int.reduceAdd, Int.reduceSub, Int.reduceToNat, UInt8.reduceToNat, put_ne, n1, n2, j1, j2, j3, j4, i1, i2, k1, k2, k3, k4, hmi, r8, r113, r114, r115, Option.isSome_none]
            simp only [Bool.false_or] at hcf
            exact Again.mk (i + 1) (by simp -implicitDefEqProofs (disch := omega) only [go_sem, tys, regs0, Nat.reduceEqDiff, Nat.reduceAdd, Nat.reduceLeDiff, Nat.reduceLT, Nat.reduceMul, Int.natCast_one, Int.natCast_zero, Int.reduceEq, Int.reduceLT, Int.reduceLE, Int.reduceAdd, Int.reduceSub, Int.reduceToNat, UInt8.reduceToNat, Go.IntWalk.i64_in, r8, r113, r114, r115]; exact rfl) ⟨Heap.Sub.put' (hS3 _) hmH _, ⟨_, put_same _ _ _, by rw [htr]; exact hset⟩, by omega, hcf⟩ (by omega)
          · obtain ⟨o', k', p', s', d'⟩ := x
            rw [hf] at hc1 hcf
            simp only [keyH, Int.add_zero, Option.map_some] at hc1
            simp +contextual -implicitDefEqProofs only [go_sem, gd_M, tys, regs0, Nat.reduceEqDiff, Nat.reduceAdd, Nat.reduceLeDiff, Nat.reduceLT, Nat.reduceMul, Int.natCast_one, Int.natCast_zero, Int.reduceEq, Int.reduceLT, Int.reduceLE, Int.reduceAdd, Int.reduceSub, Int.reduceToNat, UInt8.reduceToNat, r8, r113, r114, r115, put_ne, n1, n2, j1, j2, j3, j4, hmi, hc1, puH4, puH3, puH2, puH1, puI, puC5, puC4, puC3, puC2, puC1, puM, puN, sThingR_eq, e1, encHeld]
            with_reducible refine nwC_intro fun id9 h9 => ?_
            have i1 : ¬ id9 = id5 := (heap_none h9).1
            have i2 : ¬ id5 = id9 := (heap_none h9).2.1
            have k1 : ¬ id9 = id4 := (heap_none (heap_none h9).2.2).1
            have k2 : ¬ id4 = id9 := (heap_none (heap_none h9).2.2).2.1
            have h9' : G id9 = none := (heap_none (heap_none h9).2.2).2.2
            have k3 := (Sub.ne hmi h9').1
            have k4 := (Sub.ne hmi h9').2
            have hS3 := Sub.more (Sub.more (Sub.more hS2 h4 (.cells [.str o, .int .i64 k, .str p, .str s, .str d])) h5' (.cells [.int .i64 (thing k), .str p])) h9
            simp +contextual -implicitDefEqProofs only [go_sem, gd_M, tys, regs0, Nat.reduceEqDiff, Nat.reduceAdd, Nat.reduceLeDiff, Nat.reduceLT, Nat.reduceMul, Int.natCast_one, Int.natCast_zero, Int.reduceEq, Int.reduceLT, Int.reduceLE, Int.reduceAdd, Int.reduceSub, Int.reduceToNat, UInt8.reduceToNat, put_ne, n1, n2, j1, j2, j3, j4, i1, i2, k1, k2, k3, k4, hmi, r8, r113, r114, r115, Option.isSome_some]
            refine cnd_intro (fun g => ?_) (fun g => ?_)
            · simp +contextual -implicitDefEqProofs only [go_sem, gd_M, tys, regs0, Nat.reduceEqDiff, Nat.reduceAdd, Nat.reduceLeDiff, Nat.reduceLT, Nat.reduceMul, Int.natCast_one, Int.natCast_zero, Int.reduceEq, Int.reduceLT, Int.reduceLE, Int.reduceAdd, Int.reduceSub, Int.reduceToNat, UInt8.reduceToNat, put_ne, n1, n2, j1, j2, j3, j4, i1, i2, k1, k2, k3, k4, hmi, r8, r113, r114, r115]
              refine Done.drop (hS3 _) ⟨?_, rfl⟩
              rw [hk, if_neg (by simp [hz]), hcf]
              have : shareB ⟨o', k', p', s', d'⟩ ⟨o, k, p, s, d⟩ = false := by simp only [Bool.or_eq_true, decide_eq_true_eq] at g; simp [shareB]; intro a b c; rcases g with (g | g) | g <;> exact g (by assumption)
              simp [this]
            · simp +contextual -implicitDefEqProofs only [go_sem, gd_M, tys, regs0, Nat.reduceEqDiff, Nat.reduceAdd, Nat.reduceLeDiff, Nat.reduceLT, Nat.reduceMul, Int.natCast_one, Int.natCast_zero, Int.reduceEq, Int.reduceLT, Int.reduceLE, Int.reduceAdd, Int.reduceSub, Int.reduceToNat, UInt8.reduceToNat, put_ne, n1, n2, j1, j2, j3, j4, i1, i2, k1, k2, k3, k4, hmi, r8, r113, r114, r115]
              have : shareB ⟨o', k', p', s', d'⟩ ⟨o, k, p, s, d⟩ = true := by simp at g; simp [shareB, g]
              simp only [this, Bool.not_true, Bool.false_or] at hcf
              exact Again.mk (i + 1) (by simp -implicitDefEqProofs (disch := omega) only [go_sem, tys, regs0, Nat.reduceEqDiff, Nat.reduceAdd, Nat.reduceLeDiff, Nat.reduceLT, Nat.reduceMul, Int.natCast_one, Int.natCast_zero, Int.reduceEq, Int.reduceLT, Int.reduceLE, Int.reduceAdd, Int.reduceSub, Int.reduceToNat, UInt8.reduceToNat, Go.IntWalk.i64_in, r8, r113, r114, r115]; exact rfl) ⟨Heap.Sub.put' (hS3 _) hmH _, ⟨_, put_same _ _ _, by rw [htr]; exact hset⟩, by omega, hcf⟩ (by omega)
        · simp only [decide_eq_false_iff_not] at h
          have e : i = l.length := by omega
          subst e
          simp -implicitDefEqProofs only [go_sem, tys, regs0, Nat.reduceEqDiff, Nat.reduceAdd, Nat.reduceLeDiff, Nat.reduceLT, Nat.reduceMul, Int.natCast_one, Int.natCast_zero, Int.reduceEq, Int.reduceLT, Int.reduceLE, Int.reduceAdd, Int.reduceSub, Int.reduceToNat, UInt8.reduceToNat, r8, r113, r114, r115]
          refine Done.drop hS2 ⟨?_, rfl⟩
          rw [List.drop_length] at hcf
          rw [hk, if_neg (by simp [hz]), hcf]
          simp [confl]
end Go.Proofs
