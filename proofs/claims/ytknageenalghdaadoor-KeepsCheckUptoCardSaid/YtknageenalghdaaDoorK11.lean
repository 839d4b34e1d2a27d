/- Walks: a keep is checked, by the program and by the reference. -/
import Derived.Test.YtknageenalghdaaDoorK10
namespace Go.Proofs
open Go Go.Abs
set_option linter.unusedSimpArgs false
set_option linter.unusedVariables false
def keepR (l : List HeldV) : Prop := l.length ≤ 1048576 ∧ ∀ h ∈ l, heldR h
theorem keepR_at {l : List HeldV} (h : keepR l) {i : Nat} (hi : i < l.length) : heldR (l.getD i default) := by
  have e : l.getD i default = l[i] := by simp [List.getD, hi]
  rw [e]; exact h.2 _ (List.getElem_mem hi)
theorem getD_get {l : List HeldV} {i : Nat} (hi : i < l.length) : l[i]? = some (l.getD i default) := by
  simp [List.getD, hi]
theorem Sub.fresh {H G : Heap} (h : H.Sub G) {id : Nat} (hid : G id = none) : H id = none := by
  cases hh : H id with
  | none => rfl
  | some o => have := h id o hh; rw [hid] at this; cases this
theorem Sub.ne {G : Heap} {id i : Nat} {o : AObj} (h : G id = some o) (hi : G i = none) : ¬ i = id ∧ ¬ id = i := by
  constructor <;> intro e <;> subst e <;> rw [h] at hi <;> cases hi
theorem Sub.more {H G : Heap} (h : H.Sub G) {id : Nat} (hid : G id = none) (o : AObj) : H.Sub (G.put id o) := Heap.Sub.put' h (Sub.fresh h hid) o
theorem confl_step {seen : List HeldV} {l : List HeldV} {h : HeldV} : confl seen (h :: l) = ((match seen.find? (sameP h) with | some x => !shareB x h | none => false) || confl (h :: seen) l) := rfl
theorem drop_at {l : List HeldV} {i : Nat} (hi : i < l.length) : l.drop i = l.getD i default :: l.drop (i + 1) := by
  have e : l.getD i default = l[i] := by simp [List.getD, hi]
  rw [e]; exact List.drop_eq_getElem_cons hi
theorem take_rev {l : List HeldV} {i : Nat} (hi : i < l.length) : (l.take (i + 1)).reverse = l.getD i default :: (l.take i).reverse := by
  rw [List.take_add_one, getD_get hi]; simp
theorem held_cases (h : HeldV) {Q : Prop} (f : ∀ o k p s d, h = ⟨o, k, p, s, d⟩ → Q) : Q := f _ _ _ _ _ rfl
set_option maxHeartbeats 6400000 in
theorem check_calls (l : List HeldV) (t : Tail) (H : Heap) (hr : keepR l) : ACalls Tryd.prog 10 [.agg [.sl (l.map encHeld) t]] H fun x H' => x = .int .i64 (keepErr l) ∧ H' = H := by
  have hlen := hr.1
  by_cases h5 : 5000 < l.length
  · have d1 : decide ((5000 : Int) < l.length) = true := by simp; omega
    refine ACalls.of_code (X := { pure := puH4 }) puH4_ok Tryd.func10 (by kernel_rfl) rfl (by kernel_rfl) (Nat.le_of_ble_eq_true rfl) ?_
    simp -implicitDefEqProofs only [go_sem, tys, regs0, Nat.reduceEqDiff, Nat.reduceAdd, Nat.reduceLeDiff, Nat.reduceLT, Nat.reduceMul, Int.natCast_one, Int.natCast_zero, Int.reduceEq, Int.reduceLT, Int.reduceLE, Int.reduceAdd, Int.reduceSub, Int.reduceToNat, UInt8.reduceToNat, Tryd.f10]
    with_reducible refine nwC_intro fun id hid => ?_
    simp -implicitDefEqProofs only [go_sem, tys, regs0, Nat.reduceEqDiff, Nat.reduceAdd, Nat.reduceLeDiff, Nat.reduceLT, Nat.reduceMul, Int.natCast_one, Int.natCast_zero, Int.reduceEq, Int.reduceLT, Int.reduceLE, Int.reduceAdd, Int.reduceSub, Int.reduceToNat, UInt8.reduceToNat, d1]
    exact Done.drop1 hid ⟨by rw [keepErr, if_pos h5], rfl⟩
  have d1 : decide ((5000 : Int) < l.length) = false := by simp; omega
  have hk : keepErr l = if firstOf (errs l) ≠ 0 then firstOf (errs l) else if confl [] l then 11 else 0 := by rw [keepErr, if_neg h5]
  refine ACalls.of_code (X := { pure := puH4 }) puH4_ok Tryd.func10 (by kernel_rfl) rfl (by kernel_rfl) (Nat.le_of_ble_eq_true rfl) ?_
  simp -implicitDefEqProofs only [go_sem, tys, regs0, Nat.reduceEqDiff, Nat.reduceAdd, Nat.reduceLeDiff, Nat.reduceLT, Nat.reduceMul, Int.natCast_one, Int.natCast_zero, Int.reduceEq, Int.reduceLT, Int.reduceLE, Int.reduceAdd, Int.reduceSub, Int.reduceToNat, UInt8.reduceToNat, Tryd.f10]
  with_reducible refine nwC_intro fun id hid => ?_
  simp -implicitDefEqProofs only [go_sem, tys, regs0, Nat.reduceEqDiff, Nat.reduceAdd, Nat.reduceLeDiff, Nat.reduceLT, Nat.reduceMul, Int.natCast_one, Int.natCast_zero, Int.reduceEq, Int.reduceLT, Int.reduceLE, Int.reduceAdd, Int.reduceSub, Int.reduceToNat, UInt8.reduceToNat, d1]
  refine aloop_intro (σ := Nat) (fun i => [(1, .ptr id 0), (16, .sl (l.map encHeld) t), (17, .int .i64 l.length), (18, .int .i64 i)])
    (fun i G => H.Sub G ∧ G id = some (.cells [.sl (l.map encHeld) t]) ∧ i ≤ l.length ∧ firstOf ((errs l).take i) = 0) (fun i => l.length - i) 0 ?_ ?_ ?_
  · simp -implicitDefEqProofs only [go_sem, tys, regs0, Nat.reduceEqDiff, Nat.reduceAdd, Nat.reduceLeDiff, Nat.reduceLT, Nat.reduceMul, Int.natCast_one, Int.natCast_zero, Int.reduceEq, Int.reduceLT, Int.reduceLE, Int.reduceAdd, Int.reduceSub, Int.reduceToNat, UInt8.reduceToNat]
  · exact ⟨(Heap.Sub.rfl' H).put' hid _, put_same _ _ _, by omega, by simp [firstOf]⟩
  · intro i r G hv hI
    have h1 := hv.1
    have h16 := hv.2.1
    have h17 := hv.2.2.1
    have h18 := hv.2.2.2.1
    have hS := hI.1
    have gid := hI.2.1
    have hi := hI.2.2.1
    have hz := hI.2.2.2
    clear hv hI
    simp -implicitDefEqProofs only [go_sem, tys, regs0, Nat.reduceEqDiff, Nat.reduceAdd, Nat.reduceLeDiff, Nat.reduceLT, Nat.reduceMul, Int.natCast_one, Int.natCast_zero, Int.reduceEq, Int.reduceLT, Int.reduceLE, Int.reduceAdd, Int.reduceSub, Int.reduceToNat, UInt8.reduceToNat, h1, h16, h17, h18]
    refine cnd_intro (fun h => ?_) (fun h => ?_)
    · simp only [decide_eq_true_eq] at h
      have hi2 : i < l.length := by omega
      have hc := getD_get hi2
      have hrc := keepR_at hr hi2
      have he := errs_get hi2
      have hat : errAt l i = if heldErr (l.getD i default) ≠ 0 then heldErr (l.getD i default) else if 0 < i ∧ 0 ≤ heldCmp (l.getD (i - 1) default) (l.getD i default) then 7 else 0 := rfl
      have hcp : 0 < i → l[i - 1]? = some (l.getD (i - 1) default) := fun h0 => getD_get (by omega)
      generalize l.getD i default = c at hc hrc hat
      generalize l.getD (i - 1) default = cp at hcp hat
      obtain ⟨o, k, p, s, d⟩ := c
      obtain ⟨o', k', p', s', d'⟩ := cp
      have e1 : 0 < i → ((i : Int) - 1).toNat = i - 1 := fun _ => by omega
      simp -implicitDefEqProofs only [go_sem, tys, regs0, Nat.reduceEqDiff, Nat.reduceAdd, Nat.reduceLeDiff, Nat.reduceLT, Nat.reduceMul, Int.natCast_one, Int.natCast_zero, Int.reduceEq, Int.reduceLT, Int.reduceLE, Int.reduceAdd, Int.reduceSub, Int.reduceToNat, UInt8.reduceToNat, h1, h16, h17, h18, hc, encHeld]
      with_reducible refine nwC_intro fun id4 h4 => ?_
      have n1 := (Sub.ne gid h4).1
      have n2 := (Sub.ne gid h4).2
      simp -implicitDefEqProofs only [go_sem, tys, regs0, Nat.reduceEqDiff, Nat.reduceAdd, Nat.reduceLeDiff, Nat.reduceLT, Nat.reduceMul, Int.natCast_one, Int.natCast_zero, Int.reduceEq, Int.reduceLT, Int.reduceLE, Int.reduceAdd, Int.reduceSub, Int.reduceToNat, UInt8.reduceToNat, h1, h16, h17, h18, put_ne, n1, n2, gid, puH4, puH3, sHeldE, hrc]
      refine cnd_intro (fun g => ?_) (fun g => ?_)
      · simp -implicitDefEqProofs only [go_sem, tys, regs0, Nat.reduceEqDiff, Nat.reduceAdd, Nat.reduceLeDiff, Nat.reduceLT, Nat.reduceMul, Int.natCast_one, Int.natCast_zero, Int.reduceEq, Int.reduceLT, Int.reduceLE, Int.reduceAdd, Int.reduceSub, Int.reduceToNat, UInt8.reduceToNat, h1, h16, h17, h18, put_ne, n1, n2, gid]
        simp only [decide_eq_true_eq] at g
        refine Done.drop (Sub.more hS h4 _) ⟨?_, rfl⟩
        have : errAt l i ≠ 0 := by rw [hat, if_pos g]; exact g
        rw [hk, firstOf_at hz he this, if_pos this, hat, if_pos g]
      · simp only [decide_eq_false_iff_not, Decidable.not_not] at g
        rw [g] at hat
        simp only [ne_eq, not_true_eq_false, if_false] at hat
        with_reducible refine Or.elim (Nat.eq_zero_or_pos i) (fun h0 => ?_) (fun h0 => ?_)
        · have d2 : decide ((0 : Int) < i) = false := by simp; omega
          have hat0 : errAt l i = 0 := by rw [hat, if_neg (by omega)]
          simp -implicitDefEqProofs (disch := omega) only [go_sem, tys, regs0, Nat.reduceEqDiff, Nat.reduceAdd, Nat.reduceLeDiff, Nat.reduceLT, Nat.reduceMul, Int.natCast_one, Int.natCast_zero, Int.reduceEq, Int.reduceLT, Int.reduceLE, Int.reduceAdd, Int.reduceSub, Int.reduceToNat, UInt8.reduceToNat, Go.IntWalk.i64_in, h1, h16, h17, h18, put_ne, n1, n2, gid, d2]
          exact Again.mk (i + 1) (by simp -implicitDefEqProofs only [go_sem, tys, regs0, Nat.reduceEqDiff, Nat.reduceAdd, Nat.reduceLeDiff, Nat.reduceLT, Nat.reduceMul, Int.natCast_one, Int.natCast_zero, Int.reduceEq, Int.reduceLT, Int.reduceLE, Int.reduceAdd, Int.reduceSub, Int.reduceToNat, UInt8.reduceToNat, h1, h16, h17, h18]; exact rfl) ⟨Sub.more hS h4 _, by rw [put_ne _ _ _ _ n2]; exact gid, by omega, firstOf_succ hz he hat0⟩ (by omega)
        · have d2 : decide ((0 : Int) < i) = true := by simp; omega
          have hcp' := hcp h0
          have e1' := e1 h0
          simp -implicitDefEqProofs (disch := omega) only [go_sem, tys, regs0, Nat.reduceEqDiff, Nat.reduceAdd, Nat.reduceLeDiff, Nat.reduceLT, Nat.reduceMul, Int.natCast_one, Int.natCast_zero, Int.reduceEq, Int.reduceLT, Int.reduceLE, Int.reduceAdd, Int.reduceSub, Int.reduceToNat, UInt8.reduceToNat, Go.IntWalk.i64_in, h1, h16, h17, h18, put_ne, n1, n2, gid, d2, hcp', e1', encHeld, puH4, puH3, sHeldC]
          refine ⟨by omega, ?_⟩
          refine cnd_intro (fun g2 => ?_) (fun g2 => ?_)
          · simp -implicitDefEqProofs (disch := omega) only [go_sem, tys, regs0, Nat.reduceEqDiff, Nat.reduceAdd, Nat.reduceLeDiff, Nat.reduceLT, Nat.reduceMul, Int.natCast_one, Int.natCast_zero, Int.reduceEq, Int.reduceLT, Int.reduceLE, Int.reduceAdd, Int.reduceSub, Int.reduceToNat, UInt8.reduceToNat, Go.IntWalk.i64_in, h1, h16, h17, h18, put_ne, n1, n2, gid]
            simp only [decide_eq_true_eq] at g2
            refine Done.drop (Sub.more hS h4 _) ⟨?_, rfl⟩
            have h7 : errAt l i = 7 := by rw [hat, if_pos ⟨h0, g2⟩]
            have hn : errAt l i ≠ 0 := by rw [h7]; decide
            rw [hk, firstOf_at hz he hn, if_pos hn, h7]
          · simp only [decide_eq_false_iff_not] at g2
            have hat0 : errAt l i = 0 := by rw [hat, if_neg (fun e => g2 e.2)]
            simp -implicitDefEqProofs (disch := omega) only [go_sem, tys, regs0, Nat.reduceEqDiff, Nat.reduceAdd, Nat.reduceLeDiff, Nat.reduceLT, Nat.reduceMul, Int.natCast_one, Int.natCast_zero, Int.reduceEq, Int.reduceLT, Int.reduceLE, Int.reduceAdd, Int.reduceSub, Int.reduceToNat, UInt8.reduceToNat, Go.IntWalk.i64_in, h1, h16, h17, h18, put_ne, n1, n2, gid]
            exact Again.mk (i + 1) (by simp -implicitDefEqProofs only [go_sem, tys, regs0, Nat.reduceEqDiff, Nat.reduceAdd, Nat.reduceLeDiff, Nat.reduceLT, Nat.reduceMul, Int.natCast_one, Int.natCast_zero, Int.reduceEq, Int.reduceLT, Int.reduceLE, Int.reduceAdd, Int.reduceSub, Int.reduceToNat, UInt8.reduceToNat, h1, h16, h17, h18]; exact rfl) ⟨Sub.more hS h4 _, by rw [put_ne _ _ _ _ n2]; exact gid, by omega, firstOf_succ hz he hat0⟩ (by omega)
    · simp only [decide_eq_false_iff_not] at h
      have e : i = l.length := by omega
      subst e
      rw [← errs_len, List.take_length] at hz
      simp -implicitDefEqProofs only [go_sem, tys, regs0, Nat.reduceEqDiff, Nat.reduceAdd, Nat.reduceLeDiff, Nat.reduceLT, Nat.reduceMul, Int.natCast_one, Int.natCast_zero, Int.reduceEq, Int.reduceLT, Int.reduceLE, Int.reduceAdd, Int.reduceSub, Int.reduceToNat, UInt8.reduceToNat, h1, h16, h17, h18, gid]
      with_reducible refine nwM_intro fun mid hmid => ?_
      have hmH := Sub.fresh hS hmid
      have m1 := (Sub.ne gid hmid).1
      have m2 := (Sub.ne gid hmid).2
      simp -implicitDefEqProofs only [go_sem, tys, regs0, Nat.reduceEqDiff, Nat.reduceAdd, Nat.reduceLeDiff, Nat.reduceLT, Nat.reduceMul, Int.natCast_one, Int.natCast_zero, Int.reduceEq, Int.reduceLT, Int.reduceLE, Int.reduceAdd, Int.reduceSub, Int.reduceToNat, UInt8.reduceToNat, h1, h16, h17, h18, gid, put_ne, m1, m2]
      refine aloop_intro (σ := Nat) (fun i => [(6, .map mid), (44, .sl (l.map encHeld) t), (45, .int .i64 l.length), (46, .int .i64 i)])
        (fun i G' => H.Sub G' ∧ (∃ es, G' mid = some (.map (.st [.int .i64, .str]) es) ∧ MapOK 1 es (l.take i).reverse) ∧ i ≤ l.length ∧ confl [] l = confl (l.take i).reverse (l.drop i)) (fun i => l.length - i) 0 ?_ ?_ ?_
      · simp -implicitDefEqProofs only [go_sem, tys, regs0, Nat.reduceEqDiff, Nat.reduceAdd, Nat.reduceLeDiff, Nat.reduceLT, Nat.reduceMul, Int.natCast_one, Int.natCast_zero, Int.reduceEq, Int.reduceLT, Int.reduceLE, Int.reduceAdd, Int.reduceSub, Int.reduceToNat, UInt8.reduceToNat]
      · exact ⟨Sub.more hS hmid _, ⟨[], put_same _ _ _, MapOK.nil 1⟩, by omega, by simp⟩
      · intro i r G hv hI
        have q6 := hv.1
        have q44 := hv.2.1
        have q45 := hv.2.2.1
        have q46 := hv.2.2.2.1
        have hS2 := hI.1
        have hes := hI.2.1
        have hi2 := hI.2.2.1
        have hcf := hI.2.2.2
        clear hv hI
        simp -implicitDefEqProofs only [go_sem, tys, regs0, Nat.reduceEqDiff, Nat.reduceAdd, Nat.reduceLeDiff, Nat.reduceLT, Nat.reduceMul, Int.natCast_one, Int.natCast_zero, Int.reduceEq, Int.reduceLT, Int.reduceLE, Int.reduceAdd, Int.reduceSub, Int.reduceToNat, UInt8.reduceToNat, q6, q44, q45, q46]
        refine cnd_intro (fun h => ?_) (fun h => ?_)
        · simp only [decide_eq_true_eq] at h
          have hi3 : i < l.length := by omega
          have hc := getD_get hi3
          rw [drop_at hi3, confl_step, ← take_rev hi3] at hcf
          have hmo := hes.choose_spec.2
          have hmi := hes.choose_spec.1
          generalize hes.choose = es at hmo hmi
          have hset := fun x => MapOK.set hmo x
          have hc1 := hmo (l.getD i default)
          have hset := hset (l.getD i default)
          with_reducible refine held_cases (l.getD i default) (fun o k p s d hce => ?_)
          rw [hce] at hc hset hc1 hcf
          have htr := take_rev hi3
          rw [hce] at htr
          simp -implicitDefEqProofs only [go_sem, tys, regs0, Nat.reduceEqDiff, Nat.reduceAdd, Nat.reduceLeDiff, Nat.reduceLT, Nat.reduceMul, Int.natCast_one, Int.natCast_zero, Int.reduceEq, Int.reduceLT, Int.reduceLE, Int.reduceAdd, Int.reduceSub, Int.reduceToNat, UInt8.reduceToNat, q6, q44, q45, q46, hc, encHeld]
          with_reducible refine nwC_intro fun id4 h4 => ?_
          have n1 := (Sub.ne hmi h4).1
          have n2 := (Sub.ne hmi h4).2
          with_reducible refine opt_cases ((l.take i).reverse.find? (sameP ⟨o, k, p, s, d⟩)) (fun hf => ?_) (fun x hf => ?_)
          · rw [hf] at hc1 hcf
            simp only [keyH, Option.map_none] at hc1
            simp -implicitDefEqProofs only [go_sem, tys, regs0, Nat.reduceEqDiff, Nat.reduceAdd, Nat.reduceLeDiff, Nat.reduceLT, Nat.reduceMul, Int.natCast_one, Int.natCast_zero, Int.reduceEq, Int.reduceLT, Int.reduceLE, Int.reduceAdd, Int.reduceSub, Int.reduceToNat, UInt8.reduceToNat, q6, q44, q45, q46, put_ne, n1, n2, hmi, hc1, puH4, puH3, puH2, sPlace]
            with_reducible refine nwC_intro fun id9 h9 => ?_
            have k1 : ¬ id9 = id4 := (heap_none h9).1
            have k2 : ¬ id4 = id9 := (heap_none h9).2.1
            have h9' : G id9 = none := (heap_none h9).2.2
            have k3 := (Sub.ne hmi h9').1
            have k4 := (Sub.ne hmi h9').2
            have hS3 := Sub.more (Sub.more hS2 h4 (.cells [.str o, .int .i64 k, .str p, .str s, .str d])) h9
            simp -implicitDefEqProofs only [go_sem, tys, regs0, Nat.reduceEqDiff, Nat.reduceAdd, Nat.reduceLeDiff, Nat.reduceLT, Nat.reduceMul, Int.natCast_one, Int.natCast_zero, Int.reduceEq, Int.reduceLT, Int.reduceLE, Int.reduceAdd, Int.reduceSub, Int.reduceToNat, UInt8.reduceToNat, put_ne, n1, n2, k1, k2, k3, k4, hmi, q6, q44, q45, q46, Option.isSome_none, puH4, puH3, puH2, sPlace]
            simp only [Bool.false_or] at hcf
            exact Again.mk (i + 1) (by simp -implicitDefEqProofs (disch := omega) only [go_sem, tys, regs0, Nat.reduceEqDiff, Nat.reduceAdd, Nat.reduceLeDiff, Nat.reduceLT, Nat.reduceMul, Int.natCast_one, Int.natCast_zero, Int.reduceEq, Int.reduceLT, Int.reduceLE, Int.reduceAdd, Int.reduceSub, Int.reduceToNat, UInt8.reduceToNat, Go.IntWalk.i64_in, q6, q44, q45, q46]; exact rfl) ⟨Heap.Sub.put' (hS3 _) hmH _, ⟨_, put_same _ _ _, by rw [htr]; exact hset⟩, by omega, hcf⟩ (by omega)
          · obtain ⟨o', k', p', s', d'⟩ := x
            rw [hf] at hc1 hcf
            simp only [keyH, Option.map_some] at hc1
            simp -implicitDefEqProofs only [go_sem, tys, regs0, Nat.reduceEqDiff, Nat.reduceAdd, Nat.reduceLeDiff, Nat.reduceLT, Nat.reduceMul, Int.natCast_one, Int.natCast_zero, Int.reduceEq, Int.reduceLT, Int.reduceLE, Int.reduceAdd, Int.reduceSub, Int.reduceToNat, UInt8.reduceToNat, q6, q44, q45, q46, put_ne, n1, n2, hmi, hc1, puH4, puH3, puH2, sPlace, encHeld]
            with_reducible refine nwC_intro fun id9 h9 => ?_
            have k1 : ¬ id9 = id4 := (heap_none h9).1
            have k2 : ¬ id4 = id9 := (heap_none h9).2.1
            have h9' : G id9 = none := (heap_none h9).2.2
            have k3 := (Sub.ne hmi h9').1
            have k4 := (Sub.ne hmi h9').2
            have hS3 := Sub.more (Sub.more hS2 h4 (.cells [.str o, .int .i64 k, .str p, .str s, .str d])) h9
            simp -implicitDefEqProofs only [go_sem, tys, regs0, Nat.reduceEqDiff, Nat.reduceAdd, Nat.reduceLeDiff, Nat.reduceLT, Nat.reduceMul, Int.natCast_one, Int.natCast_zero, Int.reduceEq, Int.reduceLT, Int.reduceLE, Int.reduceAdd, Int.reduceSub, Int.reduceToNat, UInt8.reduceToNat, put_ne, n1, n2, k1, k2, k3, k4, hmi, q6, q44, q45, q46, Option.isSome_some, puH4, puH3, puH2, sPlace, sShare]
            refine cnd_intro (fun g => ?_) (fun g => ?_)
            · simp -implicitDefEqProofs only [go_sem, tys, regs0, Nat.reduceEqDiff, Nat.reduceAdd, Nat.reduceLeDiff, Nat.reduceLT, Nat.reduceMul, Int.natCast_one, Int.natCast_zero, Int.reduceEq, Int.reduceLT, Int.reduceLE, Int.reduceAdd, Int.reduceSub, Int.reduceToNat, UInt8.reduceToNat, put_ne, n1, n2, k1, k2, k3, k4, hmi, q6, q44, q45, q46]
              refine Done.drop (hS3 _) ⟨?_, rfl⟩
              rw [hk, if_neg (by simp [hz]), hcf]
              simp [g]
            · simp -implicitDefEqProofs only [go_sem, tys, regs0, Nat.reduceEqDiff, Nat.reduceAdd, Nat.reduceLeDiff, Nat.reduceLT, Nat.reduceMul, Int.natCast_one, Int.natCast_zero, Int.reduceEq, Int.reduceLT, Int.reduceLE, Int.reduceAdd, Int.reduceSub, Int.reduceToNat, UInt8.reduceToNat, put_ne, n1, n2, k1, k2, k3, k4, hmi, q6, q44, q45, q46, puH4, puH3, puH2, sPlace]
              simp only [g, Bool.false_or] at hcf
              exact Again.mk (i + 1) (by simp -implicitDefEqProofs (disch := omega) only [go_sem, tys, regs0, Nat.reduceEqDiff, Nat.reduceAdd, Nat.reduceLeDiff, Nat.reduceLT, Nat.reduceMul, Int.natCast_one, Int.natCast_zero, Int.reduceEq, Int.reduceLT, Int.reduceLE, Int.reduceAdd, Int.reduceSub, Int.reduceToNat, UInt8.reduceToNat, Go.IntWalk.i64_in, q6, q44, q45, q46]; exact rfl) ⟨Heap.Sub.put' (hS3 _) hmH _, ⟨_, put_same _ _ _, by rw [htr]; exact hset⟩, by omega, hcf⟩ (by omega)
        · simp only [decide_eq_false_iff_not] at h
          have e : i = l.length := by omega
          subst e
          simp -implicitDefEqProofs only [go_sem, tys, regs0, Nat.reduceEqDiff, Nat.reduceAdd, Nat.reduceLeDiff, Nat.reduceLT, Nat.reduceMul, Int.natCast_one, Int.natCast_zero, Int.reduceEq, Int.reduceLT, Int.reduceLE, Int.reduceAdd, Int.reduceSub, Int.reduceToNat, UInt8.reduceToNat, q6, q44, q45, q46]
          refine Done.drop hS2 ⟨?_, rfl⟩
          rw [List.drop_length] at hcf
          rw [hk, if_neg (by simp [hz]), hcf]
          simp [confl]
end Go.Proofs
