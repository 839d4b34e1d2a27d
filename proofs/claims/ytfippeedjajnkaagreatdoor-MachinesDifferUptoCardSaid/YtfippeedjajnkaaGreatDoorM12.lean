/-
  Walks and plain laws, part 12.
-/
import Derived.Test.YtfippeedjajnkaaGreatDoorM9
import Derived.Test.YtfippeedjajnkaaGreatDoorM10
import Derived.Test.YtfippeedjajnkaaGreatDoorM11
/- The law MachinesDiffer. -/
namespace Go.Proofs
open Go Go.Abs
open Nat (reduceEqDiff reduceAdd reduceLeDiff reduceLT reduceMul)
open Int (reduceEq reduceLE reduceSub reduceToNat)
set_option linter.unusedSimpArgs false
set_option linter.unusedVariables false
set_option maxRecDepth 20000
theorem eqChg_calls_ne (cx cy : Bool) (a b : ChgV) : bin Tryz.prog .neq 45 cx cy (.agg (encChg a)) (.agg (encChg b)) = some (.bool (decide ¬ a = b)) := by
  rw [neq_chg]; simp
theorem eqChg_calls (a b : List ChgV) (t t' : Tail) (H : Heap) (ha : a.length ≤ 1099511627776) : ACalls Tryz.prog 12 [.sl (a.map encChg) t, .sl (b.map encChg) t'] H fun x H' => x = .bool (decide (a = b)) ∧ H' = H := by
  by_cases hl : ¬ a.length = b.length
  · have d1 : decide (¬ (a.length : Int) = b.length) = true := by simp; omega
    refine ACalls.of_code (X := { pure := pu0 }) pu0_ok Tryz.func12 (by kernel_rfl) rfl (by kernel_rfl) (Nat.le_of_ble_eq_true rfl) ?_
    simp -implicitDefEqProofs only [go_sem, reduceEqDiff, reduceAdd, reduceLeDiff, reduceLT, reduceMul, reduceEq, Int.reduceLT, reduceLE, Int.reduceAdd, reduceSub, reduceToNat, UInt8.reduceToNat, Tryz.f12, d1]
    refine Done.now ⟨?_, rfl⟩
    have : ¬ a = b := fun e => hl (by rw [e])
    simp [this]
  · have hl : a.length = b.length := Decidable.not_not.1 hl
    have d1 : decide (¬ (a.length : Int) = b.length) = false := by simp; omega
    refine ACalls.of_code (X := { pure := pu0 }) pu0_ok Tryz.func12 (by kernel_rfl) rfl (by kernel_rfl) (Nat.le_of_ble_eq_true rfl) ?_
    simp -implicitDefEqProofs only [go_sem, reduceEqDiff, reduceAdd, reduceLeDiff, reduceLT, reduceMul, reduceEq, Int.reduceLT, reduceLE, Int.reduceAdd, reduceSub, reduceToNat, UInt8.reduceToNat, Tryz.f12, d1]
    refine aloop_intro (σ := Nat) (fun i => [(0, .sl (a.map encChg) t), (1, .sl (b.map encChg) t'), (12, .int .i64 a.length), (13, .int .i64 i)])
      (fun i G => G = H ∧ i ≤ a.length ∧ a.take i = b.take i) (fun i => a.length - i) 0 ?_ ?_ ?_
    · simp -implicitDefEqProofs only [go_sem, reduceEqDiff, reduceAdd, reduceLeDiff, reduceLT, reduceMul, reduceEq, Int.reduceLT, reduceLE, Int.reduceAdd, reduceSub, reduceToNat, UInt8.reduceToNat]
    · simp
    · intro i r G hv hI
      have h0 := hv.1
      have h1 := hv.2.1
      have h12 := hv.2.2.1
      have h13 := hv.2.2.2.1
      have hG := hI.1.symm
      have hi := hI.2.1
      have hp := hI.2.2
      clear hv hI
      subst hG
      simp -implicitDefEqProofs only [go_sem, reduceEqDiff, reduceAdd, reduceLeDiff, reduceLT, reduceMul, reduceEq, Int.reduceLT, reduceLE, Int.reduceAdd, reduceSub, reduceToNat, UInt8.reduceToNat, h0, h1, h12, h13]
      refine cnd_intro (fun h => ?_) (fun h => ?_)
      · simp only [decide_eq_true_eq] at h
        obtain ⟨x, hx⟩ := get_some (l := a) (i := i) (by omega)
        obtain ⟨y, hy⟩ := get_some (l := b) (i := i) (by omega)
        have ht := take_eq_succ hx hy
        have hn := fun cx cy => eqChg_calls_ne cx cy x y
        obtain ⟨xkind, ⟨xpath, xdata, xruns⟩, ⟨xkey, xvalue⟩, ⟨xname, xspath, xauto, xon⟩⟩ := x
        obtain ⟨ykind, ⟨ypath, ydata, yruns⟩, ⟨ykey, yvalue⟩, ⟨yname, yspath, yauto, yon⟩⟩ := y
        simp only [encChg] at hn
        simp -implicitDefEqProofs only [go_sem, reduceEqDiff, reduceAdd, reduceLeDiff, reduceLT, reduceMul, reduceEq, Int.reduceLT, reduceLE, Int.reduceAdd, reduceSub, reduceToNat, UInt8.reduceToNat, h0, h1, h12, h13, hx, hy, encChg, hn]
        refine cnd_intro (fun g => ?_) (fun g => ?_)
        · simp -implicitDefEqProofs only [go_sem, reduceEqDiff, reduceAdd, reduceLeDiff, reduceLT, reduceMul, reduceEq, Int.reduceLT, reduceLE, Int.reduceAdd, reduceSub, reduceToNat, UInt8.reduceToNat]
          refine Done.now ⟨?_, rfl⟩
          have : ¬ a = b := fun e => by subst e; rw [hx] at hy; cases hy; simp at g
          simp [this]
        · simp -implicitDefEqProofs (disch := omega) only [go_sem, reduceEqDiff, reduceAdd, reduceLeDiff, reduceLT, reduceMul, reduceEq, Int.reduceLT, reduceLE, Int.reduceAdd, reduceSub, reduceToNat, UInt8.reduceToNat, Go.IntWalk.i64_in, h0, h1, h12, h13]
          simp only [decide_eq_false_iff_not, Decidable.not_not] at g
          exact Again.mk (i + 1) (by simp -implicitDefEqProofs only [go_sem, reduceEqDiff, reduceAdd, reduceLeDiff, reduceLT, reduceMul, reduceEq, Int.reduceLT, reduceLE, Int.reduceAdd, reduceSub, reduceToNat, UInt8.reduceToNat, h0, h1, h12, h13]; exact rfl) ⟨rfl, by omega, ht.2 ⟨hp, g⟩⟩ (by omega)
      · simp only [decide_eq_false_iff_not] at h
        have e : i = a.length := by omega
        rw [e, List.take_length, hl, List.take_length] at hp
        simp -implicitDefEqProofs only [go_sem, reduceEqDiff, reduceAdd, reduceLeDiff, reduceLT, reduceMul, reduceEq, Int.reduceLT, reduceLE, Int.reduceAdd, reduceSub, reduceToNat, UInt8.reduceToNat]
        exact Done.now ⟨by simp [hp], rfl⟩

def mdOT : OT := .seg [0] (.or (.seg [1, 2, 3, 4, 5] .done) (.seg [2, 1, 3, 4, 5] .done))
def MdQ (H : Heap) (i3 i4 : Nat) (f : Bool) (r : Regs) (G : Heap) : Prop := ∃ (a b : MacV) (ta tb tc td ua ub uc ud : Tail), MacOK a ∧ MacOK b ∧ H.Sub G ∧ G i3 = some (.cells (encMac a ta tb tc td)) ∧ G i4 = some (.cells (encMac b ua ub uc ud)) ∧ r 2 = .bool f ∧ r 3 = .ptr i3 0 ∧ r 4 = .ptr i4 0
theorem facts_take {a b : MacV} (ha : MacOK a) (hb : MacOK b) : MacOK { b with facts := a.facts } :=
  ⟨ha.l1, hb.l2, hb.l3, hb.l4, ha.e1, ha.a1, hb.e2, hb.a2, hb.ap, hb.e3, hb.a3, hb.e4, hb.a4⟩
/-- Behind the taking over of facts. -/
def MdQ2 (H : Heap) (i3 i4 : Nat) (r : Regs) (G : Heap) : Prop := ∃ (a b : MacV) (ta tb tc td ua ub uc ud : Tail), MacOK a ∧ MacOK b ∧ H.Sub G ∧ G i3 = some (.cells (encMac a ta tb tc td)) ∧ G i4 = some (.cells (encMac b ua ub uc ud)) ∧ r 3 = .ptr i3 0 ∧ r 4 = .ptr i4 0
set_option maxHeartbeats 12800000 in
theorem machinesDiffer_calls (m0 n0 : MacV) (xa xb xc xd za zb zc zd : Tail) (f : Bool) (H : Heap) (hr1 : macR m0) (hr2 : macR n0) :
    ACalls Tryz.prog 3 [.agg (encMac m0 xa xb xc xd), .agg (encMac n0 za zb zc zd), .bool f] H fun x H' => x = .bool true ∧ H' = H := by
  have hS := Heap.Sub.rfl' H
  refine ACalls.of_code (X := { pure := pu0, tree := fun n => if n = 3 then some mdOT else none }) pu0_ok Tryz.func3 (by kernel_rfl) rfl (by kernel_rfl) (Nat.le_of_ble_eq_true rfl) ?_
  have k1 := fun G => fit_calls m0 xa xb xc xd G hr1
  have k2 := fun G => fit_calls n0 za zb zc zd G hr2
  unfold encMac at k1 k2
  simp -implicitDefEqProofs only [go_sem, reduceEqDiff, reduceAdd, reduceLeDiff, reduceLT, reduceMul, reduceEq, Int.reduceLT, reduceLE, Int.reduceAdd, reduceSub, reduceToNat, UInt8.reduceToNat, Tryz.f3, encMac]
  with_reducible refine nwC_intro fun i3 hi3 => ?_
  generalize E3 : Heap.put H i3 _ = G1
  have hO_3 := obj_new E3 hi3 hS
  have n3 := hO_3.1
  have hS := hO_3.2.1
  have g3 := hO_3.2.2.1
  clear hO_3
  simp -implicitDefEqProofs only [go_sem, reduceEqDiff, reduceAdd, reduceLeDiff, reduceLT, reduceMul, reduceEq, Int.reduceLT, reduceLE, Int.reduceAdd, reduceSub, reduceToNat, UInt8.reduceToNat]
  with_reducible refine nwC_intro fun i4 hi4 => ?_
  generalize E4 : Heap.put G1 i4 _ = G2
  have hO_4 := obj_new E4 hi4 hS
  have n4 := hO_4.1
  have hS := hO_4.2.1
  have g4 := hO_4.2.2.1
  have d3_4 := obj_ne g3 hi4
  have g3 := hO_4.2.2.2 _ _ g3
  clear hO_4
  simp -implicitDefEqProofs only [go_sem, reduceEqDiff, reduceAdd, reduceLeDiff, reduceLT, reduceMul, reduceEq, Int.reduceLT, reduceLE, Int.reduceAdd, reduceSub, reduceToNat, UInt8.reduceToNat]
  refine (landed_calls G2).pure_next _ ?_
  simp -implicitDefEqProofs only [go_sem, reduceEqDiff, reduceAdd, reduceLeDiff, reduceLT, reduceMul, reduceEq, Int.reduceLT, reduceLE, Int.reduceAdd, reduceSub, reduceToNat, UInt8.reduceToNat]
  with_reducible refine acode_mid (MdQ H i3 i4 f) ?_ ?_
  rotate_left
  · rw [acode_tree (t := mdOT) rfl (by rfl)]
    simp -implicitDefEqProofs only [go_sem, reduceEqDiff, reduceAdd, reduceLeDiff, reduceLT, reduceMul, reduceEq, Int.reduceLT, reduceLE, Int.reduceAdd, reduceSub, reduceToNat, UInt8.reduceToNat, mdOT, stripO, g3, g4]
    refine ⟨?_, ?_⟩
    · refine (k1 G2).mono ?_
      rintro x G9 ⟨a, ta, tb, tc, td, rfl, hA, rfl⟩
      simp -implicitDefEqProofs only [go_sem, reduceEqDiff, reduceAdd, reduceLeDiff, reduceLT, reduceMul, reduceEq, Int.reduceLT, reduceLE, Int.reduceAdd, reduceSub, reduceToNat, UInt8.reduceToNat, g4]
      refine (k2 G9).mono ?_
      rintro x G8 ⟨b, ua, ub, uc, ud, rfl, hB, rfl⟩
      have eb := encMac.eq_1 b ua ub uc ud
      have ea := encMac.eq_1 a ta tb tc td
      try rw [ea]
      try rw [eb]
      simp -implicitDefEqProofs only [go_sem, reduceEqDiff, reduceAdd, reduceLeDiff, reduceLT, reduceMul, reduceEq, Int.reduceLT, reduceLE, Int.reduceAdd, reduceSub, reduceToNat, UInt8.reduceToNat, g3]
      have g3' := put_same G8 i3 (.cells [.sl (a.facts.map encSet) ta, .sl (a.files.map encFile) tb, .sl (a.sets.map encSet) tc, .sl (a.svcs.map encSvc) td])
      have g4' : (G8.put i3 (.cells [.sl (a.facts.map encSet) ta, .sl (a.files.map encFile) tb, .sl (a.sets.map encSet) tc, .sl (a.svcs.map encSvc) td])) i4 = _ := (put_ne _ _ _ _ (fun e => d3_4 e.symm)).trans g4
      try simp -implicitDefEqProofs only [go_sem, reduceEqDiff, reduceAdd, reduceLeDiff, reduceLT, reduceMul, reduceEq, Int.reduceLT, reduceLE, Int.reduceAdd, reduceSub, reduceToNat, UInt8.reduceToNat, g4']
      refine ⟨a, b, ta, tb, tc, td, ua, ub, uc, ud, hA, hB, (hS.put' n3 _).put' n4 _, ?_, put_same _ _ _, by simp -implicitDefEqProofs only [go_sem, reduceEqDiff, reduceAdd, reduceLeDiff, reduceLT, reduceMul, reduceEq, Int.reduceLT, reduceLE, Int.reduceAdd, reduceSub, reduceToNat, UInt8.reduceToNat], by simp -implicitDefEqProofs only [go_sem, reduceEqDiff, reduceAdd, reduceLeDiff, reduceLT, reduceMul, reduceEq, Int.reduceLT, reduceLE, Int.reduceAdd, reduceSub, reduceToNat, UInt8.reduceToNat], by simp -implicitDefEqProofs only [go_sem, reduceEqDiff, reduceAdd, reduceLeDiff, reduceLT, reduceMul, reduceEq, Int.reduceLT, reduceLE, Int.reduceAdd, reduceSub, reduceToNat, UInt8.reduceToNat]⟩
      rw [put_ne _ _ _ _ d3_4]
      exact put_same _ _ _
    · refine (k1 G2).mono ?_
      rintro x G9 ⟨a, ta, tb, tc, td, rfl, hA, rfl⟩
      simp -implicitDefEqProofs only [go_sem, reduceEqDiff, reduceAdd, reduceLeDiff, reduceLT, reduceMul, reduceEq, Int.reduceLT, reduceLE, Int.reduceAdd, reduceSub, reduceToNat, UInt8.reduceToNat]
      refine (k2 G9).mono ?_
      rintro x G8 ⟨b, ua, ub, uc, ud, rfl, hB, rfl⟩
      have eb := encMac.eq_1 b ua ub uc ud
      have ea := encMac.eq_1 a ta tb tc td
      try rw [ea]
      try rw [eb]
      simp -implicitDefEqProofs only [go_sem, reduceEqDiff, reduceAdd, reduceLeDiff, reduceLT, reduceMul, reduceEq, Int.reduceLT, reduceLE, Int.reduceAdd, reduceSub, reduceToNat, UInt8.reduceToNat, g3]
      have g3' := put_same G8 i3 (.cells [.sl (a.facts.map encSet) ta, .sl (a.files.map encFile) tb, .sl (a.sets.map encSet) tc, .sl (a.svcs.map encSvc) td])
      have g4' : (G8.put i3 (.cells [.sl (a.facts.map encSet) ta, .sl (a.files.map encFile) tb, .sl (a.sets.map encSet) tc, .sl (a.svcs.map encSvc) td])) i4 = _ := (put_ne _ _ _ _ (fun e => d3_4 e.symm)).trans g4
      try simp -implicitDefEqProofs only [go_sem, reduceEqDiff, reduceAdd, reduceLeDiff, reduceLT, reduceMul, reduceEq, Int.reduceLT, reduceLE, Int.reduceAdd, reduceSub, reduceToNat, UInt8.reduceToNat, g4']
      refine ⟨a, b, ta, tb, tc, td, ua, ub, uc, ud, hA, hB, (hS.put' n3 _).put' n4 _, ?_, put_same _ _ _, by simp -implicitDefEqProofs only [go_sem, reduceEqDiff, reduceAdd, reduceLeDiff, reduceLT, reduceMul, reduceEq, Int.reduceLT, reduceLE, Int.reduceAdd, reduceSub, reduceToNat, UInt8.reduceToNat], by simp -implicitDefEqProofs only [go_sem, reduceEqDiff, reduceAdd, reduceLeDiff, reduceLT, reduceMul, reduceEq, Int.reduceLT, reduceLE, Int.reduceAdd, reduceSub, reduceToNat, UInt8.reduceToNat], by simp -implicitDefEqProofs only [go_sem, reduceEqDiff, reduceAdd, reduceLeDiff, reduceLT, reduceMul, reduceEq, Int.reduceLT, reduceLE, Int.reduceAdd, reduceSub, reduceToNat, UInt8.reduceToNat]⟩
      rw [put_ne _ _ _ _ d3_4]
      exact put_same _ _ _
  clear g3 g4 hS k1 k2
  rintro r G ⟨a, b, ta, tb, tc, td, ua, ub, uc, ud, hA, hB, hS, g3, g4, e2, e3, e4⟩
  unfold encMac at g3 g4
  rw [seqK_normal, acode_seq]
  with_reducible refine acode_mid (MdQ2 H i3 i4) ?_ ?_
  rotate_left
  · cases f with
    | true =>
      have y : (!true) = false := rfl
      simp -implicitDefEqProofs only [go_sem, reduceEqDiff, reduceAdd, reduceLeDiff, reduceLT, reduceMul, reduceEq, Int.reduceLT, reduceLE, Int.reduceAdd, reduceSub, reduceToNat, UInt8.reduceToNat, e2, e3, e4]
      exact ⟨a, b, ta, tb, tc, td, ua, ub, uc, ud, hA, hB, hS, g3, g4, by simp -implicitDefEqProofs only [go_sem, reduceEqDiff, reduceAdd, reduceLeDiff, reduceLT, reduceMul, reduceEq, Int.reduceLT, reduceLE, Int.reduceAdd, reduceSub, reduceToNat, UInt8.reduceToNat, e3], by simp -implicitDefEqProofs only [go_sem, reduceEqDiff, reduceAdd, reduceLeDiff, reduceLT, reduceMul, reduceEq, Int.reduceLT, reduceLE, Int.reduceAdd, reduceSub, reduceToNat, UInt8.reduceToNat, e4]⟩
    | false =>
      simp -implicitDefEqProofs only [go_sem, reduceEqDiff, reduceAdd, reduceLeDiff, reduceLT, reduceMul, reduceEq, Int.reduceLT, reduceLE, Int.reduceAdd, reduceSub, reduceToNat, UInt8.reduceToNat, e2, e3, e4, g3, g4]
      have dd : ¬ i3 = i4 := d3_4
      refine ⟨a, { b with facts := a.facts }, ta, tb, tc, td, ta, ub, uc, ud, hA, facts_take hA hB, hS.put' n4 _, ?_, ?_, by simp -implicitDefEqProofs only [go_sem, reduceEqDiff, reduceAdd, reduceLeDiff, reduceLT, reduceMul, reduceEq, Int.reduceLT, reduceLE, Int.reduceAdd, reduceSub, reduceToNat, UInt8.reduceToNat, e3], by simp -implicitDefEqProofs only [go_sem, reduceEqDiff, reduceAdd, reduceLeDiff, reduceLT, reduceMul, reduceEq, Int.reduceLT, reduceLE, Int.reduceAdd, reduceSub, reduceToNat, UInt8.reduceToNat, e4]⟩
      · rw [put_ne _ _ _ _ dd]; exact g3
      · exact put_same _ _ _
  clear hA hB hS g3 g4 e2 e3 e4
  rintro r G ⟨a, b, ta, tb, tc, td, ua, ub, uc, ud, hA, hB, hS, g3, g4, e3, e4⟩
  have k1 := fun G => rDiff_calls a b ta tb tc td ua ub uc ud G hA hB
  have k2 := fun G => dDiff_calls a b ta tb tc td ua ub uc ud G hA.R hB.R
  have k3 := fun G => eqSet_calls a.facts b.facts ta ua G hA.R.1.1
  have hv := dDiffA.eq_1 a b
  rw [if_neg (by simp [(macErr_ok a).2 hA]), if_neg (by simp [(macErr_ok b).2 hB])] at hv
  unfold encMac at g3 g4 k1 k2
  rw [seqK_normal]
  simp -implicitDefEqProofs only [go_sem, reduceEqDiff, reduceAdd, reduceLeDiff, reduceLT, reduceMul, reduceEq, Int.reduceLT, reduceLE, Int.reduceAdd, reduceSub, reduceToNat, UInt8.reduceToNat, e3, e4, g3, g4]
  refine (k1 G).pure_next _ ?_
  simp -implicitDefEqProofs only [go_sem, reduceEqDiff, reduceAdd, reduceLeDiff, reduceLT, reduceMul, reduceEq, Int.reduceLT, reduceLE, Int.reduceAdd, reduceSub, reduceToNat, UInt8.reduceToNat, e3, e4, g3, g4]
  refine (k2 G).pure_next _ ?_
  by_cases c0 : a.facts = b.facts
  rotate_left
  · have y1 : decide (a.facts = b.facts) = false := decide_eq_false c0
    have z1 : decide ((11 : Int) = 11) = true := rfl
    have z2 : decide ((0 : Int) = 0) = true := rfl
    rw [if_pos c0] at hv
    rw [y1] at k3
    rw [hv]
    simp -implicitDefEqProofs only [go_sem, reduceEqDiff, reduceAdd, reduceLeDiff, reduceLT, reduceMul, reduceEq, Int.reduceLT, reduceLE, Int.reduceAdd, reduceSub, reduceToNat, UInt8.reduceToNat, e3, e4, g3, g4]
    refine (k3 G).pure_next _ ?_
    simp -implicitDefEqProofs only [go_sem, reduceEqDiff, reduceAdd, reduceLeDiff, reduceLT, reduceMul, reduceEq, Int.reduceLT, reduceLE, Int.reduceAdd, reduceSub, reduceToNat, UInt8.reduceToNat, z1, z2, List.length_nil, Int.natCast_zero]
    exact Done.drop hS ⟨rfl, rfl⟩
  have y1 : decide (a.facts = b.facts) = true := decide_eq_true c0
  rw [if_neg (by simpa using c0)] at hv
  rw [y1] at k3
  rw [hv]
  have hlead : applyV a (diffV a b) = .ok b := by
    unfold applyV
    rw [if_neg (by simp [(macErr_ok a).2 hA])]
    exact diff_leads hA hB c0
  have hdl := diff_len hA hB
  have k5 := fun G => applyP_calls a (diffV a b) ta tb tc td .unk G hA.R (by omega) (diff_R hA hB)
  have k6 := fun G => eqChg_calls (diffV a b) (diffV a b) .unk .unk G (by omega)
  have k7 := fun G => rSame_calls b b .unk .unk .unk .unk ua ub uc ud G hB.R
  rw [show decide (diffV a b = diffV a b) = true from decide_eq_true rfl] at k6
  rw [show decide (b = b) = true from decide_eq_true rfl] at k7
  rw [hlead] at k5
  unfold applyA encMac at k5
  unfold encMac at k7
  have z2 : decide ((0 : Int) = 0) = true := rfl
  simp -implicitDefEqProofs only [go_sem, reduceEqDiff, reduceAdd, reduceLeDiff, reduceLT, reduceMul, reduceEq, Int.reduceLT, reduceLE, Int.reduceAdd, reduceSub, reduceToNat, UInt8.reduceToNat, e3, e4, g3, g4]
  refine (k3 G).pure_next _ ?_
  simp -implicitDefEqProofs only [go_sem, reduceEqDiff, reduceAdd, reduceLeDiff, reduceLT, reduceMul, reduceEq, Int.reduceLT, reduceLE, Int.reduceAdd, reduceSub, reduceToNat, UInt8.reduceToNat, e3, e4, g3, g4]
  refine (k5 G).pure_next _ ?_
  simp -implicitDefEqProofs only [go_sem, reduceEqDiff, reduceAdd, reduceLeDiff, reduceLT, reduceMul, reduceEq, Int.reduceLT, reduceLE, Int.reduceAdd, reduceSub, reduceToNat, UInt8.reduceToNat]
  with_reducible refine nwC_intro fun i10 hi10 => ?_
  generalize E10 : Heap.put G i10 _ = G5
  have hO_10 := obj_new E10 hi10 hS
  have n10 := hO_10.1
  have hS := hO_10.2.1
  have g10 := hO_10.2.2.1
  have d3_10 := obj_ne g3 hi10
  have g3 := hO_10.2.2.2 _ _ g3
  have d4_10 := obj_ne g4 hi10
  have g4 := hO_10.2.2.2 _ _ g4
  clear hO_10
  simp -implicitDefEqProofs only [go_sem, reduceEqDiff, reduceAdd, reduceLeDiff, reduceLT, reduceMul, reduceEq, Int.reduceLT, reduceLE, Int.reduceAdd, reduceSub, reduceToNat, UInt8.reduceToNat, g10, e3, e4]
  generalize E10 : Heap.put G5 i10 _ = G6
  have hS := obj_sub E10 n10 hS
  have g10 := obj_at E10
  have g3 := obj_keep E10 (by first | exact d3_10 | exact fun e => d10_3 e.symm) g3
  have g4 := obj_keep E10 (by first | exact d4_10 | exact fun e => d10_4 e.symm) g4
  try simp -implicitDefEqProofs only [go_sem, reduceEqDiff, reduceAdd, reduceLeDiff, reduceLT, reduceMul, reduceEq, Int.reduceLT, reduceLE, Int.reduceAdd, reduceSub, reduceToNat, UInt8.reduceToNat, z2, e3, e4]
  refine (k6 G6).pure_next _ ?_
  simp -implicitDefEqProofs only [go_sem, reduceEqDiff, reduceAdd, reduceLeDiff, reduceLT, reduceMul, reduceEq, Int.reduceLT, reduceLE, Int.reduceAdd, reduceSub, reduceToNat, UInt8.reduceToNat, z2, g10, g4, e3, e4]
  refine (k7 G6).pure_next _ ?_
  simp -implicitDefEqProofs only [go_sem, reduceEqDiff, reduceAdd, reduceLeDiff, reduceLT, reduceMul, reduceEq, Int.reduceLT, reduceLE, Int.reduceAdd, reduceSub, reduceToNat, UInt8.reduceToNat]
  exact Done.drop hS ⟨rfl, rfl⟩
end Go.Proofs
