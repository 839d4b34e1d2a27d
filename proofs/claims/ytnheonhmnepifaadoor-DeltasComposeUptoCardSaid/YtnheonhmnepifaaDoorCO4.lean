/- Walks: the law DeltasCompose. -/
import Derived.Test.YtnheonhmnepifaaDoorCO3
namespace Go.Proofs
open Go Go.Abs
set_option linter.unusedSimpArgs false
set_option linter.unusedVariables false
set_option maxRecDepth 20000
def CmQ (a c : Bytes) (md wd : DeltaV) (mixed : Bool) (H : Heap) (i15 i17 : Nat) (r : Regs) (G : Heap) : Prop := ∃ X tX, dlR X ∧ (mixed = false → X = wd) ∧ H.Sub G ∧ H i17 = none ∧
  G i15 = some (.cells (encDl md .unk)) ∧ G i17 = some (.cells (encDl X tX)) ∧ agrees r [(0, .str a), (2, .str c), (4, .bool mixed), (15, .ptr i15 0), (17, .ptr i17 0)]
theorem composeV_len (d e : DeltaV) : (composeV d e).1.ps.length ≤ 5000 := by
  unfold composeV
  split
  · exact Nat.zero_le _
  · split
    · exact Nat.zero_le _
    · split
      · exact Nat.zero_le _
      · split
        · exact Nat.zero_le _
        · simp only; omega
theorem dlR_of {d : DeltaV} (h : deltaE d = 0) (h1 : d.osum.length ≤ 1099511627776) (h2 : d.nsum.length ≤ 1099511627776) : dlR d := by
  obtain ⟨a1, a2, a3, a4, a5, a6, a7, a8⟩ := deltaE_ok h
  obtain ⟨f1, f2, f3, f4, f5, f6⟩ := stepsV_ok a7
  refine ⟨⟨by omega, by omega⟩, ⟨by omega, by omega⟩, h1, h2, by omega, fun p hp => ?_⟩
  obtain ⟨i, hi, hpi⟩ := List.getElem_of_mem hp
  have hpi : d.ps[i]? = some p := by rw [List.getElem?_eq_getElem hi, hpi]
  have s1 := pcSum_succ hpi
  have s2 := pcSum_take f4 i
  have s3 := pcSum_take f4 (i + 1)
  have hE := f4 p hp
  by_cases hd : p.data = []
  · have := pcE_copy hE hd
    exact ⟨⟨by omega, by omega⟩, ⟨by omega, by omega⟩, by rw [hd]; simp⟩
  · have g := pcE_data hE hd
    have hs : pcSize p = p.data.length := by unfold pcSize; rw [if_pos hd]
    exact ⟨⟨by omega, by omega⟩, ⟨by omega, by omega⟩, by omega⟩
set_option maxHeartbeats 6400000 in
theorem dcompose_calls (a b c : Bytes) (o : DeltaV) (t : Tail) (mixed : Bool) (H : Heap) (ho : dlR o) (ha : a.length ≤ 1048576) (hb : b.length ≤ 1048576) (hc : c.length ≤ 1048576) :
    ACalls Tryd.prog 5 [.str a, .str b, .str c, .agg (encDl o t), .bool mixed] H fun x H' => x = .bool true ∧ H' = H := by
  have q1 := sMake_eq a b (by omega) (by omega)
  have q2 := sMake_eq b c (by omega) (by omega)
  have hok := makeV_ok (a := a) (b := b)
  have hap := make_made (a := a) (b := b)
  have hap2 := make_made (a := b) (b := c)
  have hr1 := makeV_dlR a b
  have hr2 := makeV_dlR b c
  generalize makeV a b = mv at *
  obtain ⟨md, mf⟩ := mv
  generalize makeV b c = mw at *
  obtain ⟨wd, wf⟩ := mw
  simp only at q1 q2 hok hap hap2 hr1 hr2
  have hu : encDl md .unk = [.int .i64 md.old, .int .i64 md.new, .str md.osum, .str md.nsum, .sl (md.ps.map encPc) .unk] := rfl
  have hu2 : encDl wd .unk = [.int .i64 wd.old, .int .i64 wd.new, .str wd.osum, .str wd.nsum, .sl (wd.ps.map encPc) .unk] := rfl
  have hu3 : encDl o t = [.int .i64 o.old, .int .i64 o.new, .str o.osum, .str o.nsum, .sl (o.ps.map encPc) t] := rfl
  rw [hu] at q1
  rw [hu2] at q2
  rw [hu3]
  refine ACalls.of_code (X := { pure := puJ }) puJ_ok Tryd.func5 (by kernel_rfl) rfl (by kernel_rfl) (Nat.le_of_ble_eq_true rfl) ?_
  simp -implicitDefEqProofs only [go_sem, tys, regs0, Nat.reduceEqDiff, Nat.reduceAdd, Nat.reduceLeDiff, Nat.reduceLT, Nat.reduceMul, Int.natCast_one, Int.natCast_zero, Int.reduceEq, Int.reduceLT, Int.reduceLE, Int.reduceAdd, Int.reduceSub, Int.reduceToNat, UInt8.reduceToNat, Tryd.f5]
  with_reducible refine nwC_intro fun i8 hi8 => ?_
  simp -implicitDefEqProofs only [go_sem, tys, regs0, Nat.reduceEqDiff, Nat.reduceAdd, Nat.reduceLeDiff, Nat.reduceLT, Nat.reduceMul, Int.natCast_one, Int.natCast_zero, Int.reduceEq, Int.reduceLT, Int.reduceLE, Int.reduceAdd, Int.reduceSub, Int.reduceToNat, UInt8.reduceToNat, puJ, puH, puF, puP8, puP7, puP6, puP5, puM, puN, pu0, sLandD, q1]
  have hS8 := (Heap.Sub.rfl' H).put' hi8 (.cells [.int .i64 o.old, .int .i64 o.new, .str o.osum, .str o.nsum, .sl (o.ps.map encPc) t])
  have g8 := put_same H i8 (.cells [.int .i64 o.old, .int .i64 o.new, .str o.osum, .str o.nsum, .sl (o.ps.map encPc) t])
  generalize H.put i8 (.cells [.int .i64 o.old, .int .i64 o.new, .str o.osum, .str o.nsum, .sl (o.ps.map encPc) t]) = G8 at *
  with_reducible refine nwC_intro fun i11 hi11 => ?_
  simp -implicitDefEqProofs only [go_sem, tys, regs0, Nat.reduceEqDiff, Nat.reduceAdd, Nat.reduceLeDiff, Nat.reduceLT, Nat.reduceMul, Int.natCast_one, Int.natCast_zero, Int.reduceEq, Int.reduceLT, Int.reduceLE, Int.reduceAdd, Int.reduceSub, Int.reduceToNat, UInt8.reduceToNat, puJ, puH, puF, puP8, puP7, puP6, puP5, puM, puN, pu0, q1, q2]
  have hS11 := hS8.put' (sub_none hS8 hi11) (.cells [.int .i64 md.old, .int .i64 md.new, .str md.osum, .str md.nsum, .sl (md.ps.map encPc) .unk])
  have n8 : ¬ i8 = i11 := fun x => by rw [← x, g8] at hi11; cases hi11
  have g8 := (show (G8.put i11 (.cells [.int .i64 md.old, .int .i64 md.new, .str md.osum, .str md.nsum, .sl (md.ps.map encPc) .unk])) i8 = G8 i8 from put_ne _ _ _ _ n8).trans g8
  generalize G8.put i11 (.cells [.int .i64 md.old, .int .i64 md.new, .str md.osum, .str md.nsum, .sl (md.ps.map encPc) .unk]) = G11 at *
  with_reducible refine nwC_intro fun i13 hi13 => ?_
  simp -implicitDefEqProofs only [go_sem, tys, regs0, Nat.reduceEqDiff, Nat.reduceAdd, Nat.reduceLeDiff, Nat.reduceLT, Nat.reduceMul, Int.natCast_one, Int.natCast_zero, Int.reduceEq, Int.reduceLT, Int.reduceLE, Int.reduceAdd, Int.reduceSub, Int.reduceToNat, UInt8.reduceToNat, puJ, puH, puF, puP8, puP7, puP6, puP5, puM, puN, pu0, q1, q2]
  have hS13 := hS11.put' (sub_none hS11 hi13) (.cells [.int .i64 wd.old, .int .i64 wd.new, .str wd.osum, .str wd.nsum, .sl (wd.ps.map encPc) .unk])
  have n8 : ¬ i8 = i13 := fun x => by rw [← x, g8] at hi13; cases hi13
  have g8 := (show (G11.put i13 (.cells [.int .i64 wd.old, .int .i64 wd.new, .str wd.osum, .str wd.nsum, .sl (wd.ps.map encPc) .unk])) i8 = G11 i8 from put_ne _ _ _ _ n8).trans g8
  generalize G11.put i13 (.cells [.int .i64 wd.old, .int .i64 wd.new, .str wd.osum, .str wd.nsum, .sl (wd.ps.map encPc) .unk]) = G13 at *
  with_reducible refine nwC_intro fun i15 hi15 => ?_
  simp -implicitDefEqProofs only [go_sem, tys, regs0, Nat.reduceEqDiff, Nat.reduceAdd, Nat.reduceLeDiff, Nat.reduceLT, Nat.reduceMul, Int.natCast_one, Int.natCast_zero, Int.reduceEq, Int.reduceLT, Int.reduceLE, Int.reduceAdd, Int.reduceSub, Int.reduceToNat, UInt8.reduceToNat, puJ, puH, puF, puP8, puP7, puP6, puP5, puM, puN, pu0, q1, q2]
  have hS15 := hS13.put' (sub_none hS13 hi15) (.cells [.int .i64 md.old, .int .i64 md.new, .str md.osum, .str md.nsum, .sl (md.ps.map encPc) .unk])
  have n8 : ¬ i8 = i15 := fun x => by rw [← x, g8] at hi15; cases hi15
  have g8 := (show (G13.put i15 (.cells [.int .i64 md.old, .int .i64 md.new, .str md.osum, .str md.nsum, .sl (md.ps.map encPc) .unk])) i8 = G13 i8 from put_ne _ _ _ _ n8).trans g8
  have g15 := put_same G13 i15 (.cells [.int .i64 md.old, .int .i64 md.new, .str md.osum, .str md.nsum, .sl (md.ps.map encPc) .unk])
  generalize G13.put i15 (.cells [.int .i64 md.old, .int .i64 md.new, .str md.osum, .str md.nsum, .sl (md.ps.map encPc) .unk]) = G15 at *
  with_reducible refine nwC_intro fun i17 hi17 => ?_
  simp -implicitDefEqProofs only [go_sem, tys, regs0, Nat.reduceEqDiff, Nat.reduceAdd, Nat.reduceLeDiff, Nat.reduceLT, Nat.reduceMul, Int.natCast_one, Int.natCast_zero, Int.reduceEq, Int.reduceLT, Int.reduceLE, Int.reduceAdd, Int.reduceSub, Int.reduceToNat, UInt8.reduceToNat, puJ, puH, puF, puP8, puP7, puP6, puP5, puM, puN, pu0, q1, q2]
  have hi17H := sub_none hS15 hi17
  have hS17 := hS15.put' hi17H (.cells [.int .i64 wd.old, .int .i64 wd.new, .str wd.osum, .str wd.nsum, .sl (wd.ps.map encPc) .unk])
  have n8 : ¬ i8 = i17 := fun x => by rw [← x, g8] at hi17; cases hi17
  have n15 : ¬ i15 = i17 := fun x => by rw [← x, g15] at hi17; cases hi17
  have g8 := (show (G15.put i17 (.cells [.int .i64 wd.old, .int .i64 wd.new, .str wd.osum, .str wd.nsum, .sl (wd.ps.map encPc) .unk])) i8 = G15 i8 from put_ne _ _ _ _ n8).trans g8
  have g15 := (show (G15.put i17 (.cells [.int .i64 wd.old, .int .i64 wd.new, .str wd.osum, .str wd.nsum, .sl (wd.ps.map encPc) .unk])) i15 = G15 i15 from put_ne _ _ _ _ n15).trans g15
  have g17 := put_same G15 i17 (.cells [.int .i64 wd.old, .int .i64 wd.new, .str wd.osum, .str wd.nsum, .sl (wd.ps.map encPc) .unk])
  generalize G15.put i17 (.cells [.int .i64 wd.old, .int .i64 wd.new, .str wd.osum, .str wd.nsum, .sl (wd.ps.map encPc) .unk]) = G17 at *
  by_cases gm : ¬ mf = 0
  · have y1 : decide (¬ mf = 0) = true := decide_eq_true gm
    simp -implicitDefEqProofs only [go_sem, tys, regs0, Nat.reduceEqDiff, Nat.reduceAdd, Nat.reduceLeDiff, Nat.reduceLT, Nat.reduceMul, Int.natCast_one, Int.natCast_zero, Int.reduceEq, Int.reduceLT, Int.reduceLE, Int.reduceAdd, Int.reduceSub, Int.reduceToNat, UInt8.reduceToNat, y1]
    exact Done.drop hS17 ⟨rfl, rfl⟩
  have gm : mf = 0 := Decidable.not_not.1 gm
  subst gm
  by_cases gw : ¬ wf = 0
  · have y1 : decide (¬ wf = 0) = true := decide_eq_true gw
    simp -implicitDefEqProofs only [go_sem, tys, regs0, Nat.reduceEqDiff, Nat.reduceAdd, Nat.reduceLeDiff, Nat.reduceLT, Nat.reduceMul, Int.natCast_one, Int.natCast_zero, Int.reduceEq, Int.reduceLT, Int.reduceLE, Int.reduceAdd, Int.reduceSub, Int.reduceToNat, UInt8.reduceToNat, y1]
    exact Done.drop hS17 ⟨rfl, rfl⟩
  have gw : wf = 0 := Decidable.not_not.1 gw
  subst gw
  have hap := hap rfl
  have hap2 := hap2 rfl
  obtain ⟨_, hE⟩ := hok rfl
  simp -implicitDefEqProofs only [go_sem, tys, regs0, Nat.reduceEqDiff, Nat.reduceAdd, Nat.reduceLeDiff, Nat.reduceLT, Nat.reduceMul, Int.natCast_one, Int.natCast_zero, Int.reduceEq, Int.reduceLT, Int.reduceLE, Int.reduceAdd, Int.reduceSub, Int.reduceToNat, UInt8.reduceToNat]
  with_reducible refine cnd_mid (CmQ a c md wd mixed H i15 i17) ?_ ?_
  rotate_left
  · refine cnd_intro (fun g => ?_) (fun g => ?_)
    · subst g
      simp -implicitDefEqProofs only [go_sem, tys, regs0, Nat.reduceEqDiff, Nat.reduceAdd, Nat.reduceLeDiff, Nat.reduceLT, Nat.reduceMul, Int.natCast_one, Int.natCast_zero, Int.reduceEq, Int.reduceLT, Int.reduceLE, Int.reduceAdd, Int.reduceSub, Int.reduceToNat, UInt8.reduceToNat, g8, g17]
      have hS := hS17.put' hi17H (.cells [.int .i64 o.old, .int .i64 o.new, .str o.osum, .str o.nsum, .sl (o.ps.map encPc) t])
      exact ⟨o, t, ho, fun h => (by cases h), hS, hi17H, by rw [put_ne _ _ _ _ n15]; exact g15, put_same _ _ _, by simp -implicitDefEqProofs only [go_sem, tys, regs0, Nat.reduceEqDiff, Nat.reduceAdd, Nat.reduceLeDiff, Nat.reduceLT, Nat.reduceMul, Int.natCast_one, Int.natCast_zero, Int.reduceEq, Int.reduceLT, Int.reduceLE, Int.reduceAdd, Int.reduceSub, Int.reduceToNat, UInt8.reduceToNat]⟩
    · subst g
      exact ⟨wd, .unk, hr2, fun _ => rfl, hS17, hi17H, g15, g17, by simp -implicitDefEqProofs only [go_sem, tys, regs0, Nat.reduceEqDiff, Nat.reduceAdd, Nat.reduceLeDiff, Nat.reduceLT, Nat.reduceMul, Int.natCast_one, Int.natCast_zero, Int.reduceEq, Int.reduceLT, Int.reduceLE, Int.reduceAdd, Int.reduceSub, Int.reduceToNat, UInt8.reduceToNat]⟩
  clear g8 g15 g17 hS17 q1 q2
  rintro r G ⟨X, tX, hX, hXw, hS, _, g15, g17, hv⟩
  have h0 := hv.1
  have h2 := hv.2.1
  have h4 := hv.2.2.1
  have h15 := hv.2.2.2.1
  have h17 := hv.2.2.2.2.1
  clear hv
  have hcc := fun G => compose_calls md X .unk tX G hr1 hX
  have hcd := fun G (h : deltaE X = 0) => composed_calls md X .unk tX G hr1 hX hE h
  have q3 := sCheck_eq X tX hX
  have hkl := composeV_len md X
  have q4 := sSame_eq (composeV md X).1 (composeV md X).1 .unk .unk (by omega)
  have q5 := sSame_eq DeltaV.zero DeltaV.zero .unk .exact (by decide)
  have q6 := sTD_eq vApply a (composeV md X).1 .unk
  have hXE : deltaE X ≠ 0 → composeV md X = (DeltaV.zero, deltaE X) := fun h => by unfold composeV; rw [if_neg (by simpa using hE), if_pos h]
  have hfin : mixed = false → (composeV md X).2 = 0 → applyV a (composeV md X).1 = (c, 0) := fun h1 h2 => by
    rw [hXw h1] at h2 ⊢
    unfold composeV at h2 ⊢
    split at h2
    · rename_i h; exact absurd h2 h
    rename_i k1
    split at h2
    · rename_i h; exact absurd h2 h
    rename_i k2
    split at h2
    · cases h2
    rename_i k3
    split at h2
    · cases h2
    rename_i k4
    rw [if_neg k1, if_neg k2, if_neg k3, if_neg k4]
    exact compose_apply hap hap2 (by omega)
  have hdl : mixed = false → (composeV md X).2 = 0 → dlR (composeV md X).1 := fun h1 h2 => by
    have h3 := hfin h1 h2
    unfold applyV at h3
    split at h3
    · rename_i h; exact absurd (Prod.mk.inj h3).2 h
    · rename_i h
      refine dlR_of (Decidable.not_not.1 h) ?_ ?_
      · unfold composeV; repeat' split
        all_goals first | exact hr1.2.2.1 | exact Nat.zero_le _
      · unfold composeV; repeat' split
        all_goals first | exact hX.2.2.2.1 | exact Nat.zero_le _
  generalize composeV md X = K at *
  obtain ⟨kd, kf⟩ := K
  simp only at hcc hcd q4 q6 hfin hdl hkl
  have hu4 : encDl kd .unk = [.int .i64 kd.old, .int .i64 kd.new, .str kd.osum, .str kd.nsum, .sl (kd.ps.map encPc) .unk] := rfl
  have hu5 : encDl X tX = [.int .i64 X.old, .int .i64 X.new, .str X.osum, .str X.nsum, .sl (X.ps.map encPc) tX] := rfl
  rw [hu] at g15
  rw [hu5] at g17 q3
  simp only [hu, hu4, hu5] at hcc hcd q4 q6
  simp -implicitDefEqProofs only [go_sem, tys, regs0, Nat.reduceEqDiff, Nat.reduceAdd, Nat.reduceLeDiff, Nat.reduceLT, Nat.reduceMul, Int.natCast_one, Int.natCast_zero, Int.reduceEq, Int.reduceLT, Int.reduceLE, Int.reduceAdd, Int.reduceSub, Int.reduceToNat, UInt8.reduceToNat, h0, h2, h4, h15, h17, g15, g17]
  refine (hcc _).pure_next _ ?_
  simp -implicitDefEqProofs only [go_sem, tys, regs0, Nat.reduceEqDiff, Nat.reduceAdd, Nat.reduceLeDiff, Nat.reduceLT, Nat.reduceMul, Int.natCast_one, Int.natCast_zero, Int.reduceEq, Int.reduceLT, Int.reduceLE, Int.reduceAdd, Int.reduceSub, Int.reduceToNat, UInt8.reduceToNat, h0, h2, h4, h15, h17]
  with_reducible refine nwC_intro fun i19 hi19 => ?_
  have hi19H := sub_none hS hi19
  have m15 : ¬ i15 = i19 := fun x => by rw [← x, g15] at hi19; cases hi19
  have m17 : ¬ i17 = i19 := fun x => by rw [← x, g17] at hi19; cases hi19
  have hS19 := hS.put' hi19H (.cells [.int .i64 kd.old, .int .i64 kd.new, .str kd.osum, .str kd.nsum, .sl (kd.ps.map encPc) .unk])
  by_cases gX : deltaE X = 0
  rotate_left
  · have y1 : decide (¬ deltaE X = 0) = true := decide_eq_true gX
    have hk := hXE gX
    obtain ⟨rfl, rfl⟩ := Prod.mk.inj hk
    unfold encDl at q5
    simp only [DeltaV.zero, List.map_nil] at q5
    simp only [DeltaV.zero, List.map_nil] at hS19
    simp -implicitDefEqProofs only [go_sem, tys, regs0, Nat.reduceEqDiff, Nat.reduceAdd, Nat.reduceLeDiff, Nat.reduceLT, Nat.reduceMul, Int.natCast_one, Int.natCast_zero, Int.reduceEq, Int.reduceLT, Int.reduceLE, Int.reduceAdd, Int.reduceSub, Int.reduceToNat, UInt8.reduceToNat, h0, h2, h4, h15, h17, g15, g17, put_ne, m15, m17, puJ, puH, puF, puP8, puP7, puP6, puP5, puM, puN, pu0, q3, y1, q5, DeltaV.zero, List.map_nil]
    exact Done.drop hS19 ⟨rfl, rfl⟩
  rw [gX] at q3
  simp -implicitDefEqProofs only [go_sem, tys, regs0, Nat.reduceEqDiff, Nat.reduceAdd, Nat.reduceLeDiff, Nat.reduceLT, Nat.reduceMul, Int.natCast_one, Int.natCast_zero, Int.reduceEq, Int.reduceLT, Int.reduceLE, Int.reduceAdd, Int.reduceSub, Int.reduceToNat, UInt8.reduceToNat, h0, h2, h4, h15, h17, g15, g17, put_ne, m15, m17, puJ, puH, puF, puP8, puP7, puP6, puP5, puM, puN, pu0, q3]
  have hcd := fun G => hcd G gX
  refine (hcd _).pure_next _ ?_
  simp -implicitDefEqProofs only [go_sem, tys, regs0, Nat.reduceEqDiff, Nat.reduceAdd, Nat.reduceLeDiff, Nat.reduceLT, Nat.reduceMul, Int.natCast_one, Int.natCast_zero, Int.reduceEq, Int.reduceLT, Int.reduceLE, Int.reduceAdd, Int.reduceSub, Int.reduceToNat, UInt8.reduceToNat, h0, h2, h4, h15, h17, g15, g17, put_ne, m15, m17]
  with_reducible refine nwC_intro fun i21 hi21 => ?_
  have k1 := (heap_none hi21).1
  have k2 := (heap_none hi21).2.1
  have hi21H := sub_none hS19 hi21
  have hS21 := hS19.put' hi21H (.cells [.int .i64 kd.old, .int .i64 kd.new, .str kd.osum, .str kd.nsum, .sl (kd.ps.map encPc) .unk])
  by_cases gk : kf = 0
  rotate_left
  · have y1 : decide (¬ kf = 0) = true := decide_eq_true gk
    simp -implicitDefEqProofs only [go_sem, tys, regs0, Nat.reduceEqDiff, Nat.reduceAdd, Nat.reduceLeDiff, Nat.reduceLT, Nat.reduceMul, Int.natCast_one, Int.natCast_zero, Int.reduceEq, Int.reduceLT, Int.reduceLE, Int.reduceAdd, Int.reduceSub, Int.reduceToNat, UInt8.reduceToNat, h0, h2, h4, h15, h17, g15, g17, put_ne, m15, m17, k1, k2, puJ, puH, puF, puP8, puP7, puP6, puP5, puM, puN, pu0, q4, y1]
    exact Done.drop hS21 ⟨rfl, rfl⟩
  subst gk
  cases mixed with
  | true =>
    simp -implicitDefEqProofs only [go_sem, tys, regs0, Nat.reduceEqDiff, Nat.reduceAdd, Nat.reduceLeDiff, Nat.reduceLT, Nat.reduceMul, Int.natCast_one, Int.natCast_zero, Int.reduceEq, Int.reduceLT, Int.reduceLE, Int.reduceAdd, Int.reduceSub, Int.reduceToNat, UInt8.reduceToNat, h0, h2, h4, h15, h17, g15, g17, put_ne, m15, m17, k1, k2, puJ, puH, puF, puP8, puP7, puP6, puP5, puM, puN, pu0, q4]
    exact Done.drop hS21 ⟨rfl, rfl⟩
  | false =>
    rw [vApply, if_pos ⟨hdl rfl rfl, by omega⟩, hfin rfl rfl] at q6
    simp -implicitDefEqProofs only [go_sem, tys, regs0, Nat.reduceEqDiff, Nat.reduceAdd, Nat.reduceLeDiff, Nat.reduceLT, Nat.reduceMul, Int.natCast_one, Int.natCast_zero, Int.reduceEq, Int.reduceLT, Int.reduceLE, Int.reduceAdd, Int.reduceSub, Int.reduceToNat, UInt8.reduceToNat, h0, h2, h4, h15, h17, g15, g17, put_ne, m15, m17, k1, k2, puJ, puH, puF, puP8, puP7, puP6, puP5, puM, puN, pu0, q4, q6]
    exact Done.drop hS21 ⟨rfl, rfl⟩
end Go.Proofs
