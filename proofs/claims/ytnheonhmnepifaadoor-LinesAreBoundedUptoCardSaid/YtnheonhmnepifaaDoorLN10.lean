/- Walks: two sides are put together, on the program's side. -/
import Derived.Test.YtnheonhmnepifaaDoorLN9
namespace Go.Proofs
open Go Go.Abs
set_option linter.unusedSimpArgs false
set_option linter.unusedVariables false
set_option maxRecDepth 20000
def ot19m : OT := .seg [0, 1, 2, 3, 4, 7, 8, 9] (.or (.seg [5, 6] (.or (.seg [10, 11, 12, 13, 14] .done) (.seg [12] (.or (.seg [10, 11, 13, 14] .done) (.seg [13, 10, 11, 14] .done))))) (.or (.seg [10, 11] (.or (.seg [5, 6, 12, 13, 14] .done) (.seg [12, 5, 6, 13, 14] .done))) (.seg [12, 5, 6] (.or (.seg [10, 11, 13, 14] .done) (.seg [13, 10, 11, 14] .done)))))
def ot24m : OT := .or (.seg [0, 1, 2, 3, 4] .done) (.seg [1, 0, 2, 3, 4] .done)
/-- The answer's tuple. -/
def mergeT (base a b : Bytes) : AV := .tup [.str (mergeV base a b).1, .int .i64 (mergeV base a b).2.1, .int .i64 (mergeV base a b).2.2]
theorem told_ok {a b : Bytes} (h : linesE a b = 0) : toldV a b = pairsV a b := if_pos h
theorem rise_len : ∀ {l : List (Nat × Nat)} {i k n m : Nat}, Rise i k n m l → l.length ≤ n - i
  | [], _, _, _, _, _ => Nat.zero_le _
  | p :: l, i, k, n, m, h => by
    have h1 := h.1
    have h2 := h.2.1
    have := rise_len h.2.2.2.2
    simp only [List.length_cons]
    omega
theorem rise_lt : ∀ {l : List (Nat × Nat)} {i k n m : Nat}, Rise i k n m l → ∀ p ∈ l, p.1 < n ∧ p.2 < m
  | [], _, _, _, _, _, p, hp => by cases hp
  | q :: l, i, k, n, m, h, p, hp => by
    rcases List.mem_cons.1 hp with rfl | hp
    · exact ⟨h.2.1, h.2.2.2.1⟩
    · exact rise_lt h.2.2.2.2 p hp
theorem keep_new {G : Heap} {i j : Nat} {o o' : AObj} (hi : G i = none) (hj : G j = some o) : (G.put i o') j = some o := by
  rw [put_ne _ _ _ _ (fun e => by rw [e, hi] at hj; cases hj)]; exact hj
theorem ne_new {G : Heap} {i j : Nat} {o : AObj} (hi : G i = none) (hj : G j = some o) : ¬ j = i ∧ ¬ i = j := ⟨fun e => (by rw [e, hi] at hj; cases hj), fun e => (by rw [← e, hi] at hj; cases hj)⟩
/-- .. and all of it is small. -/
theorem mergeP_small {base a b : Bytes} (h1 : linesE base a = 0) (h2 : linesE base b = 0) (n : Nat) (hn : n ≤ (linesV base).length) : (mergeP (linesV base) (linesV a) (linesV b) (pairsV base a) (pairsV base b) n).out.length ≤ 1000000000 ∧ (mergeP (linesV base) (linesV a) (linesV b) (pairsV base a) (pairsV base b) n).n ≤ 1000 := by
  have o1 := linesE_ok h1
  have o2 := linesE_ok h2
  have h := mergeP_len (linesV base) (linesV a) (linesV b) (pairsV base a) (pairsV base b) n
  rw [linesV_flat, linesV_flat, linesV_flat] at h
  have h3 : n * (base.length + a.length + b.length + 26) ≤ 1000 * 200000 := Nat.mul_le_mul (by omega) (by omega)
  omega
theorem MC.moveB {H G : Heap} {q : MI} {x y z : List Bytes} {s : MS} {l : Bytes} (h : MC H G q x y z s) (hB : BldOK H G q.op l) (i k m : Int) : BldOK H (((G.put q.ip (.cells [.int .i64 i])).put q.kp (.cells [.int .i64 k])).put q.mp (.cells [.int .i64 m])) q.op l := by
  have n := MI.ne h.nd
  have f1 : H q.ip = none := h.fr _ (by simp [MI.l])
  have f2 : H q.kp = none := h.fr _ (by simp [MI.l])
  have f3 : H q.mp = none := h.fr _ (by simp [MI.l])
  have e1 := hB.set f1 h.hi (by simp only [n, not_false_eq_true]) [.int .i64 i]
  have e2 := e1.set f2 (i := q.kp) (cs := [.int .i64 (s.k : Int)]) (by rw [put_ne _ _ _ _ (by simp only [n, not_false_eq_true])]; exact h.hk) (by simp only [n, not_false_eq_true]) [.int .i64 k]
  exact e2.set f3 (i := q.mp) (cs := [.int .i64 (s.m : Int)]) (by rw [put_ne _ _ _ _ (by simp only [n, not_false_eq_true]), put_ne _ _ _ _ (by simp only [n, not_false_eq_true])]; exact h.hm) (by simp only [n, not_false_eq_true]) [.int .i64 m]
theorem mok_mb {x y z : List Bytes} {pa pb : List (Nat × Nat)} {n j k : Nat} {s : MS} (h : MOk y z pa pb n s) (hn : n ≤ x.length) (hj : lk n pa = some j) (hk : lk n pb = some k) (r1 : Rise 0 0 x.length y.length pa) (r2 : Rise 0 0 x.length z.length pb)
    (l1 : x.length ≤ 1000) (l2 : y.length ≤ 1000) (l3 : z.length ≤ 1000) (f1 : x.flatten.length ≤ 65536) (f2 : y.flatten.length ≤ 65536) (f3 : z.flatten.length ≤ 65536) (o1 : s.out.length ≤ 1000000000) (o2 : s.n ≤ 1000) : MB x y z s n j k := by
  obtain ⟨_, _, _, h1, _⟩ := lk_some r1 hj
  obtain ⟨_, _, _, h2, _⟩ := lk_some r2 hk
  exact ⟨h.1, hn, h.2.2.2.1 n j (Nat.le_refl _) hj, by omega, h.2.2.2.2 n k (Nat.le_refl _) hk, by omega, l1, l2, l3, f1, f2, f3, o1, by omega⟩
theorem mok_end {x y z : List Bytes} {pa pb : List (Nat × Nat)} {s : MS} (h : MOk y z pa pb x.length s)
    (l1 : x.length ≤ 1000) (l2 : y.length ≤ 1000) (l3 : z.length ≤ 1000) (f1 : x.flatten.length ≤ 65536) (f2 : y.flatten.length ≤ 65536) (f3 : z.flatten.length ≤ 65536) (o1 : s.out.length ≤ 1000000000) (o2 : s.n ≤ 1000) : MB x y z s x.length y.length z.length :=
  ⟨h.1, Nat.le_refl _, h.2.1, Nat.le_refl _, h.2.2.1, Nat.le_refl _, l1, l2, l3, f1, f2, f3, o1, by omega⟩
theorem mok_out {y z : List Bytes} {pa pb : List (Nat × Nat)} {n : Nat} {s t : MS} (h : MOk y z pa pb n s) (e1 : t.i = s.i) (e2 : t.k = s.k) (e3 : t.m = s.m) : MOk y z pa pb n t := by
  unfold MOk at *
  rw [e1, e2, e3]
  exact h
set_option maxHeartbeats 12800000 in
theorem merge_calls (base a b : Bytes) (H : Heap) (hl0 : base.length ≤ 1099511627776) (hl1 : a.length ≤ 1099511627776) (hl2 : b.length ≤ 1099511627776) : ACalls Tryd.prog 19 [.str base, .str a, .str b] H fun v H' => v = mergeT base a b ∧ H' = H := by
  have t1 := sTold_eq base a hl0 hl1
  have t2 := sTold_eq base b hl0 hl2
  have hV := mergeV.eq_1 base a b
  by_cases c1 : ¬ linesE base a = 0
  · have y1 : decide (¬ linesE base a = 0) = true := decide_eq_true c1
    rw [if_pos c1] at hV
    refine ACalls.of_code (X := { pure := puZ, ms := fun t => decide (t = 17), tree := fun n => if n = 19 then some ot19m else if n = 24 then some ot24m else none }) puZ_ok Tryd.func19 (by kernel_rfl) rfl (by kernel_rfl) (Nat.le_of_ble_eq_true rfl) ?_
    simp -implicitDefEqProofs only [go_sem, tys, regs0, Nat.reduceEqDiff, Nat.reduceAdd, Nat.reduceLeDiff, Nat.reduceLT, Nat.reduceMul, Int.natCast_one, Int.natCast_zero, Int.reduceEq, Int.reduceLT, Int.reduceLE, Int.reduceAdd, Int.reduceSub, Int.reduceToNat, UInt8.reduceToNat, Tryd.f19, puZ, t1, y1]
    exact Done.now ⟨by unfold mergeT; rw [hV], rfl⟩
  have y1 : decide (¬ linesE base a = 0) = false := decide_eq_false c1
  rw [if_neg c1] at hV
  by_cases c2 : ¬ linesE base b = 0
  · have y2 : decide (¬ linesE base b = 0) = true := decide_eq_true c2
    rw [if_pos c2] at hV
    refine ACalls.of_code (X := { pure := puZ, ms := fun t => decide (t = 17), tree := fun n => if n = 19 then some ot19m else if n = 24 then some ot24m else none }) puZ_ok Tryd.func19 (by kernel_rfl) rfl (by kernel_rfl) (Nat.le_of_ble_eq_true rfl) ?_
    simp -implicitDefEqProofs only [go_sem, tys, regs0, Nat.reduceEqDiff, Nat.reduceAdd, Nat.reduceLeDiff, Nat.reduceLT, Nat.reduceMul, Int.natCast_one, Int.natCast_zero, Int.reduceEq, Int.reduceLT, Int.reduceLE, Int.reduceAdd, Int.reduceSub, Int.reduceToNat, UInt8.reduceToNat, Tryd.f19, puZ, t1, y1, t2, y2]
    exact Done.now ⟨by unfold mergeT; rw [hV], rfl⟩
  have y2 : decide (¬ linesE base b = 0) = false := decide_eq_false c2
  rw [if_neg c2] at hV
  have hE1 : linesE base a = 0 := Decidable.not_not.1 c1
  have hE2 : linesE base b = 0 := Decidable.not_not.1 c2
  rw [told_ok hE1] at t1
  rw [told_ok hE2] at t2
  have q0 := sLines_eq base hl0
  have q1 := sLines_eq a hl1
  have q2 := sLines_eq b hl2
  have o1 := linesE_ok hE1
  have o2 := linesE_ok hE2
  have r1 := pairs_rise base a
  have r2 := pairs_rise base b
  have rl1 := rise_len r1
  have rl2 := rise_len r2
  have s1 := fun t => sPlc_eq (pairsV base a) (linesV base).length t (by omega) (by omega) (fun p hp => (rise_lt r1 p hp).1)
  have s2 := fun t => sPlc_eq (pairsV base b) (linesV base).length t (by omega) (by omega) (fun p hp => (rise_lt r2 p hp).1)
  have g1 := fun n hn => plcV_get (n := n) r1 hn
  have g2 := fun n hn => plcV_get (n := n) r2 hn
  have f0 := linesV_flat base
  have f1 := linesV_flat a
  have f2 := linesV_flat b
  have hD := mergeD_eq base a b
  have hsm := fun n hn => mergeP_small hE1 hE2 n hn
  have hps : ∀ n, mergeP (linesV base) (linesV a) (linesV b) (pairsV base a) (pairsV base b) (n + 1) = _ := fun n => mergeP_succ _ _ _ _ _ n
  refine ACalls.of_code (X := { pure := puZ, ms := fun t => decide (t = 17), tree := fun n => if n = 19 then some ot19m else if n = 24 then some ot24m else none }) puZ_ok Tryd.func19 (by kernel_rfl) rfl (by kernel_rfl) (Nat.le_of_ble_eq_true rfl) ?_
  simp -implicitDefEqProofs only [go_sem, tys, regs0, Nat.reduceEqDiff, Nat.reduceAdd, Nat.reduceLeDiff, Nat.reduceLT, Nat.reduceMul, Int.natCast_one, Int.natCast_zero, Int.reduceEq, Int.reduceLT, Int.reduceLE, Int.reduceAdd, Int.reduceSub, Int.reduceToNat, UInt8.reduceToNat, Tryd.f19, puZ, t1, y1, t2, y2, q0, q1, q2]
  generalize linesV base = x at *
  generalize linesV a = y at *
  generalize linesV b = z at *
  generalize pairsV base a = pa at *
  generalize pairsV base b = pb at *
  with_reducible refine nwC_intro fun xp hxp => ?_
  simp -implicitDefEqProofs only [go_sem, tys, regs0, Nat.reduceEqDiff, Nat.reduceAdd, Nat.reduceLeDiff, Nat.reduceLT, Nat.reduceMul, Int.natCast_one, Int.natCast_zero, Int.reduceEq, Int.reduceLT, Int.reduceLE, Int.reduceAdd, Int.reduceSub, Int.reduceToNat, UInt8.reduceToNat]
  with_reducible refine nwC_intro fun yp hyp => ?_
  have n1 := heap_none hyp
  simp -implicitDefEqProofs only [go_sem, tys, regs0, Nat.reduceEqDiff, Nat.reduceAdd, Nat.reduceLeDiff, Nat.reduceLT, Nat.reduceMul, Int.natCast_one, Int.natCast_zero, Int.reduceEq, Int.reduceLT, Int.reduceLE, Int.reduceAdd, Int.reduceSub, Int.reduceToNat, UInt8.reduceToNat]
  with_reducible refine nwC_intro fun zp hzp => ?_
  have n2 := heap_none hzp
  have n3 := heap_none n2.2.2
  have mx1 := n1.1
  have mx2 := n1.2.1
  have mx3 := n2.1
  have mx4 := n2.2.1
  have mx5 := n3.1
  have mx6 := n3.2.1
  simp -implicitDefEqProofs only [go_sem, tys, regs0, Nat.reduceEqDiff, Nat.reduceAdd, Nat.reduceLeDiff, Nat.reduceLT, Nat.reduceMul, Int.natCast_one, Int.natCast_zero, Int.reduceEq, Int.reduceLT, Int.reduceLE, Int.reduceAdd, Int.reduceSub, Int.reduceToNat, UInt8.reduceToNat, put_ne, mx1, mx2, mx3, mx4, mx5, mx6]
  have k1 := n1.2.2
  have k2 := n3.2.2
  have hS : H.Sub ((((((H.put xp (.cells [.sl [] .exact])).put yp (.cells [.sl [] .exact])).put zp (.cells [.sl [] .exact])).put xp (.cells [.sl (x.map encS) .unk])).put yp (.cells [.sl (y.map encS) .unk])).put zp (.cells [.sl (z.map encS) .unk])) := ((((((Heap.Sub.rfl' H).put' hxp _).put' k1 _).put' k2 _).put' hxp _).put' k1 _).put' k2 _
  have hx : ((((((H.put xp (.cells [.sl [] .exact])).put yp (.cells [.sl [] .exact])).put zp (.cells [.sl [] .exact])).put xp (.cells [.sl (x.map encS) .unk])).put yp (.cells [.sl (y.map encS) .unk])).put zp (.cells [.sl (z.map encS) .unk])) xp = some (.cells [.sl (x.map encS) .unk]) := by simp only [put_ne, put_same, mx1, mx2, mx3, mx4, mx5, mx6, not_false_eq_true]
  have hy : ((((((H.put xp (.cells [.sl [] .exact])).put yp (.cells [.sl [] .exact])).put zp (.cells [.sl [] .exact])).put xp (.cells [.sl (x.map encS) .unk])).put yp (.cells [.sl (y.map encS) .unk])).put zp (.cells [.sl (z.map encS) .unk])) yp = some (.cells [.sl (y.map encS) .unk]) := by simp only [put_ne, put_same, mx1, mx2, mx3, mx4, mx5, mx6, not_false_eq_true]
  have hz : ((((((H.put xp (.cells [.sl [] .exact])).put yp (.cells [.sl [] .exact])).put zp (.cells [.sl [] .exact])).put xp (.cells [.sl (x.map encS) .unk])).put yp (.cells [.sl (y.map encS) .unk])).put zp (.cells [.sl (z.map encS) .unk])) zp = some (.cells [.sl (z.map encS) .unk]) := put_same _ _ _
  generalize (((((H.put xp (.cells [.sl [] .exact])).put yp (.cells [.sl [] .exact])).put zp (.cells [.sl [] .exact])).put xp (.cells [.sl (x.map encS) .unk])).put yp (.cells [.sl (y.map encS) .unk])).put zp (.cells [.sl (z.map encS) .unk]) = G at *
  have kx := hxp
  have ky := k1
  have kz := k2
  clear hxp hyp hzp n1 n2 n3 k1 k2
  rw [acode_draw]
  simp -implicitDefEqProofs only [go_sem, tys, regs0, Nat.reduceEqDiff, Nat.reduceAdd, Nat.reduceLeDiff, Nat.reduceLT, Nat.reduceMul, Int.natCast_one, Int.natCast_zero, Int.reduceEq, Int.reduceLT, Int.reduceLE, Int.reduceAdd, Int.reduceSub, Int.reduceToNat, UInt8.reduceToNat, hx, hy, hz, puZ, s1, s2]
  refine nwT_intro fun bp hbp => ?_
  have hB0 := BldG.new hS hbp
  have b1 := ne_new hbp hx
  have b2 := ne_new hbp hy
  have b3 := ne_new hbp hz
  have kb := sub_none hS hbp
  have hS := hS.put' kb (.cells [.nilp, .snil])
  have hx := keep_new (o' := .cells [.nilp, .snil]) hbp hx
  have hy := keep_new (o' := .cells [.nilp, .snil]) hbp hy
  have hz := keep_new (o' := .cells [.nilp, .snil]) hbp hz
  have hb := put_same G bp (.cells [.nilp, .snil])
  clear hbp
  simp -implicitDefEqProofs only [go_sem, tys, regs0, Nat.reduceEqDiff, Nat.reduceAdd, Nat.reduceLeDiff, Nat.reduceLT, Nat.reduceMul, Int.natCast_one, Int.natCast_zero, Int.reduceEq, Int.reduceLT, Int.reduceLE, Int.reduceAdd, Int.reduceSub, Int.reduceToNat, UInt8.reduceToNat]
  generalize G.put bp (.cells [.nilp, .snil]) = G1 at *
  with_reducible refine nwC_intro fun cp hcp => ?_
  have c1 := ne_new hcp hx
  have c2 := ne_new hcp hy
  have c3 := ne_new hcp hz
  have c4 := ne_new hcp hb
  have kc := sub_none hS hcp
  have hx := keep_new (o' := .cells [.int .i64 0]) hcp hx
  have hy := keep_new (o' := .cells [.int .i64 0]) hcp hy
  have hz := keep_new (o' := .cells [.int .i64 0]) hcp hz
  have hb := keep_new (o' := .cells [.int .i64 0]) hcp hb
  have hcc := put_same G1 cp (.cells [.int .i64 0])
  have hS := hS.put' kc (.cells [.int .i64 0])
  have hB0 := hB0.put hcp (.cells [.int .i64 0])
  clear hcp
  simp -implicitDefEqProofs only [go_sem, tys, regs0, Nat.reduceEqDiff, Nat.reduceAdd, Nat.reduceLeDiff, Nat.reduceLT, Nat.reduceMul, Int.natCast_one, Int.natCast_zero, Int.reduceEq, Int.reduceLT, Int.reduceLE, Int.reduceAdd, Int.reduceSub, Int.reduceToNat, UInt8.reduceToNat]
  generalize G1.put cp (.cells [.int .i64 0]) = G2 at *
  with_reducible refine nwC_intro fun ip hip => ?_
  have i1 := ne_new hip hx
  have i2 := ne_new hip hy
  have i3 := ne_new hip hz
  have i4 := ne_new hip hb
  have i5 := ne_new hip hcc
  have ki := sub_none hS hip
  have hx := keep_new (o' := .cells [.int .i64 0]) hip hx
  have hy := keep_new (o' := .cells [.int .i64 0]) hip hy
  have hz := keep_new (o' := .cells [.int .i64 0]) hip hz
  have hb := keep_new (o' := .cells [.int .i64 0]) hip hb
  have hcc := keep_new (o' := .cells [.int .i64 0]) hip hcc
  have hic := put_same G2 ip (.cells [.int .i64 0])
  have hS := hS.put' ki (.cells [.int .i64 0])
  have hB0 := hB0.put hip (.cells [.int .i64 0])
  clear hip
  simp -implicitDefEqProofs only [go_sem, tys, regs0, Nat.reduceEqDiff, Nat.reduceAdd, Nat.reduceLeDiff, Nat.reduceLT, Nat.reduceMul, Int.natCast_one, Int.natCast_zero, Int.reduceEq, Int.reduceLT, Int.reduceLE, Int.reduceAdd, Int.reduceSub, Int.reduceToNat, UInt8.reduceToNat]
  generalize G2.put ip (.cells [.int .i64 0]) = G3 at *
  with_reducible refine nwC_intro fun kp hkp => ?_
  have k1 := ne_new hkp hx
  have k2 := ne_new hkp hy
  have k3 := ne_new hkp hz
  have k4 := ne_new hkp hb
  have k5 := ne_new hkp hcc
  have k6 := ne_new hkp hic
  have kk := sub_none hS hkp
  have hx := keep_new (o' := .cells [.int .i64 0]) hkp hx
  have hy := keep_new (o' := .cells [.int .i64 0]) hkp hy
  have hz := keep_new (o' := .cells [.int .i64 0]) hkp hz
  have hb := keep_new (o' := .cells [.int .i64 0]) hkp hb
  have hcc := keep_new (o' := .cells [.int .i64 0]) hkp hcc
  have hic := keep_new (o' := .cells [.int .i64 0]) hkp hic
  have hkc := put_same G3 kp (.cells [.int .i64 0])
  have hS := hS.put' kk (.cells [.int .i64 0])
  have hB0 := hB0.put hkp (.cells [.int .i64 0])
  clear hkp
  simp -implicitDefEqProofs only [go_sem, tys, regs0, Nat.reduceEqDiff, Nat.reduceAdd, Nat.reduceLeDiff, Nat.reduceLT, Nat.reduceMul, Int.natCast_one, Int.natCast_zero, Int.reduceEq, Int.reduceLT, Int.reduceLE, Int.reduceAdd, Int.reduceSub, Int.reduceToNat, UInt8.reduceToNat]
  generalize G3.put kp (.cells [.int .i64 0]) = G4 at *
  with_reducible refine nwC_intro fun mp hmp => ?_
  have m1 := ne_new hmp hx
  have m2 := ne_new hmp hy
  have m3 := ne_new hmp hz
  have m4 := ne_new hmp hb
  have m5 := ne_new hmp hcc
  have m6 := ne_new hmp hic
  have m7 := ne_new hmp hkc
  have km := sub_none hS hmp
  have hx := keep_new (o' := .cells [.int .i64 0]) hmp hx
  have hy := keep_new (o' := .cells [.int .i64 0]) hmp hy
  have hz := keep_new (o' := .cells [.int .i64 0]) hmp hz
  have hb := keep_new (o' := .cells [.int .i64 0]) hmp hb
  have hcc := keep_new (o' := .cells [.int .i64 0]) hmp hcc
  have hic := keep_new (o' := .cells [.int .i64 0]) hmp hic
  have hkc := keep_new (o' := .cells [.int .i64 0]) hmp hkc
  have hmc := put_same G4 mp (.cells [.int .i64 0])
  have hS := hS.put' km (.cells [.int .i64 0])
  have hB0 := hB0.put hmp (.cells [.int .i64 0])
  clear hmp
  simp -implicitDefEqProofs only [go_sem, tys, regs0, Nat.reduceEqDiff, Nat.reduceAdd, Nat.reduceLeDiff, Nat.reduceLT, Nat.reduceMul, Int.natCast_one, Int.natCast_zero, Int.reduceEq, Int.reduceLT, Int.reduceLE, Int.reduceAdd, Int.reduceSub, Int.reduceToNat, UInt8.reduceToNat]
  generalize G4.put mp (.cells [.int .i64 0]) = G5 at *
  have z1 := heap_put_id hic
  have z2 := heap_put_id hkc
  have z3 := heap_put_id hmc
  simp -implicitDefEqProofs only [go_sem, tys, regs0, Nat.reduceEqDiff, Nat.reduceAdd, Nat.reduceLeDiff, Nat.reduceLT, Nat.reduceMul, Int.natCast_one, Int.natCast_zero, Int.reduceEq, Int.reduceLT, Int.reduceLE, Int.reduceAdd, Int.reduceSub, Int.reduceToNat, UInt8.reduceToNat, hic, hkc, hmc, z1, z2, z3]
  have hC0 : MC H G5 ⟨xp, yp, zp, ip, kp, mp, cp, bp⟩ x y z ms0 := ⟨hS, by simp [MI.l, m1, m2, m3, m4, m5, m6, m7, i1, i2, i3, i4, i5, k1, k2, k3, k4, k5, k6, c1, c2, c3, c4, b1, b2, b3, mx1, mx2, mx3, mx4, mx5, mx6], by
    intro j hj
    simp only [MI.l, List.mem_cons, List.not_mem_nil, or_false] at hj
    rcases hj with rfl | rfl | rfl | rfl | rfl | rfl | rfl | rfl
    · exact kx
    · exact ky
    · exact kz
    · exact ki
    · exact kk
    · exact km
    · exact kc
    · exact kb, hx, hy, hz, hic, hkc, hmc, hcc⟩
  have hB0 : BldOK H G5 bp ms0.out := hB0
  clear z1 z2 z3 hx hy hz hb hic hkc hmc hcc m1 m2 m3 m4 m5 m6 m7 i1 i2 i3 i4 i5 k1 k2 k3 k4 k5 k6 c1 c2 c3 c4 b1 b2 b3 mx1 mx2 mx3 mx4 mx5 mx6 kx ky kz ki kk km kc kb hS
  clear t1 t2 q0 q1 q2 s1 s2 y1 y2
  generalize hq : (⟨xp, yp, zp, ip, kp, mp, cp, bp⟩ : MI) = q at *
  obtain rfl : xp = q.xp := by rw [← hq]
  obtain rfl : yp = q.yp := by rw [← hq]
  obtain rfl : zp = q.zp := by rw [← hq]
  obtain rfl : ip = q.ip := by rw [← hq]
  obtain rfl : kp = q.kp := by rw [← hq]
  obtain rfl : mp = q.mp := by rw [← hq]
  obtain rfl : cp = q.cp := by rw [← hq]
  obtain rfl : bp = q.op := by rw [← hq]
  clear hq
  have hx0 := hC0.hx
  simp -implicitDefEqProofs only [go_sem, tys, regs0, Nat.reduceEqDiff, Nat.reduceAdd, Nat.reduceLeDiff, Nat.reduceLT, Nat.reduceMul, Int.natCast_one, Int.natCast_zero, Int.reduceEq, Int.reduceLT, Int.reduceLE, Int.reduceAdd, Int.reduceSub, Int.reduceToNat, UInt8.reduceToNat, hx0]
  have z1 : x.flatten.length ≤ 65536 := by rw [f0]; omega
  have z2 : y.flatten.length ≤ 65536 := by rw [f1]; omega
  have z3 : z.flatten.length ≤ 65536 := by rw [f2]; omega
  have z4 : x.length ≤ 1000 := o1.2.1
  have z5 : y.length ≤ 1000 := o1.2.2.2
  have z6 : z.length ≤ 1000 := o2.2.2.2
  refine aloop_intro (σ := Nat) (fun n => [(12, .ptr q.xp 0), (13, .ptr q.yp 0), (14, .ptr q.zp 0), (15, .sl ((plcV x.length pa).map encI) .unk), (16, .sl ((plcV x.length pb).map encI) .unk), (17, bldP q.op), (18, .ptr q.cp 0), (19, .ptr q.ip 0), (20, .ptr q.kp 0), (21, .ptr q.mp 0),
      (22, .func 67 [.ptr q.xp 0, .ptr q.ip 0, .ptr q.yp 0, .ptr q.kp 0, .ptr q.zp 0, .ptr q.mp 0, bldP q.op, .ptr q.cp 0]), (57, .sl (x.map encS) .unk), (58, .int .i64 x.length), (59, .int .i64 (n : Int))])
    (fun n G => MC H G q x y z (mergeP x y z pa pb n) ∧ BldOK H G q.op (mergeP x y z pa pb n).out ∧ MOk y z pa pb n (mergeP x y z pa pb n) ∧ n ≤ x.length) (fun n => x.length - n) 0 ?_ ?_ ?_
  · simp -implicitDefEqProofs only [go_sem, tys, regs0, Nat.reduceEqDiff, Nat.reduceAdd, Nat.reduceLeDiff, Nat.reduceLT, Nat.reduceMul, Int.natCast_one, Int.natCast_zero, Int.reduceEq, Int.reduceLT, Int.reduceLE, Int.reduceAdd, Int.reduceSub, Int.reduceToNat, UInt8.reduceToNat]
  · exact ⟨hC0, hB0, mok_zero _ _ _ _, Nat.zero_le _⟩
  · rintro n r G hv ⟨hC, hB, hO, hn⟩
    have h12 := hv.1
    have h13 := hv.2.1
    have h14 := hv.2.2.1
    have h15 := hv.2.2.2.1
    have h16 := hv.2.2.2.2.1
    have h17 := hv.2.2.2.2.2.1
    have h18 := hv.2.2.2.2.2.2.1
    have h19 := hv.2.2.2.2.2.2.2.1
    have h20 := hv.2.2.2.2.2.2.2.2.1
    have h21 := hv.2.2.2.2.2.2.2.2.2.1
    have h22 := hv.2.2.2.2.2.2.2.2.2.2.1
    have h57 := hv.2.2.2.2.2.2.2.2.2.2.2.1
    have h58 := hv.2.2.2.2.2.2.2.2.2.2.2.2.1
    have h59 := hv.2.2.2.2.2.2.2.2.2.2.2.2.2.1
    clear hv
    simp -implicitDefEqProofs only [go_sem, tys, regs0, Nat.reduceEqDiff, Nat.reduceAdd, Nat.reduceLeDiff, Nat.reduceLT, Nat.reduceMul, Int.natCast_one, Int.natCast_zero, Int.reduceEq, Int.reduceLT, Int.reduceLE, Int.reduceAdd, Int.reduceSub, Int.reduceToNat, UInt8.reduceToNat, h12, h13, h14, h15, h16, h17, h18, h19, h20, h21, h22, h57, h58, h59]
    refine cnd_intro (fun g => ?_) (fun g => ?_)
    · simp only [decide_eq_true_eq] at g
      have hlt : n < x.length := by omega
      have p1 := g1 n hlt
      have p2 := g2 n hlt
      have hst := hps n
      obtain ⟨c, hc⟩ : ∃ c, x[n]? = some c := getD_get' hlt
      have wn : IntKind.i64.wrap ((n : Int) + 1) = ((n + 1 : Nat) : Int) := by rw [Go.IntWalk.i64_in _ (by omega)]; omega
      cases hj : lk n pa with
      | none =>
        rw [hj] at p1
        simp only at p1
        have hT : tripF pa pb n = none := by rw [tripF, hj]; rfl
        rw [hT] at hst
        simp only at hst
        simp -implicitDefEqProofs only [go_sem, tys, regs0, Nat.reduceEqDiff, Nat.reduceAdd, Nat.reduceLeDiff, Nat.reduceLT, Nat.reduceMul, Int.natCast_one, Int.natCast_zero, Int.reduceEq, Int.reduceLT, Int.reduceLE, Int.reduceAdd, Int.reduceSub, Int.reduceToNat, UInt8.reduceToNat, h12, h13, h14, h15, h16, h17, h18, h19, h20, h21, h22, h57, h58, h59, p1, encI, wn]
        exact Again.mk (n + 1) (by simp -implicitDefEqProofs only [go_sem, tys, regs0, Nat.reduceEqDiff, Nat.reduceAdd, Nat.reduceLeDiff, Nat.reduceLT, Nat.reduceMul, Int.natCast_one, Int.natCast_zero, Int.reduceEq, Int.reduceLT, Int.reduceLE, Int.reduceAdd, Int.reduceSub, Int.reduceToNat, UInt8.reduceToNat, h12, h13, h14, h15, h16, h17, h18, h19, h20, h21, h22, h57, h58, h59]) ⟨by rw [hst]; exact hC, by rw [hst]; exact hB, by rw [hst]; exact hO.skip, by omega⟩ (by omega)
      | some j =>
        rw [hj] at p1
        simp only at p1
        have y1 : decide ((j : Int) < 0) = false := by simp
        cases hk : lk n pb with
        | none =>
          rw [hk] at p2
          simp only at p2
          have hT : tripF pa pb n = none := by rw [tripF, hj, hk]; rfl
          rw [hT] at hst
          simp only at hst
          simp -implicitDefEqProofs only [go_sem, tys, regs0, Nat.reduceEqDiff, Nat.reduceAdd, Nat.reduceLeDiff, Nat.reduceLT, Nat.reduceMul, Int.natCast_one, Int.natCast_zero, Int.reduceEq, Int.reduceLT, Int.reduceLE, Int.reduceAdd, Int.reduceSub, Int.reduceToNat, UInt8.reduceToNat, h12, h13, h14, h15, h16, h17, h18, h19, h20, h21, h22, h57, h58, h59, p1, p2, encI, y1, wn]
          exact Again.mk (n + 1) (by simp -implicitDefEqProofs only [go_sem, tys, regs0, Nat.reduceEqDiff, Nat.reduceAdd, Nat.reduceLeDiff, Nat.reduceLT, Nat.reduceMul, Int.natCast_one, Int.natCast_zero, Int.reduceEq, Int.reduceLT, Int.reduceLE, Int.reduceAdd, Int.reduceSub, Int.reduceToNat, UInt8.reduceToNat, h12, h13, h14, h15, h16, h17, h18, h19, h20, h21, h22, h57, h58, h59]) ⟨by rw [hst]; exact hC, by rw [hst]; exact hB, by rw [hst]; exact hO.skip, by omega⟩ (by omega)
        | some k =>
          rw [hk] at p2
          simp only at p2
          have y2 : decide ((k : Int) < 0) = false := by simp
          have hT : tripF pa pb n = some (n, j, k) := by rw [tripF, hj, hk]; rfl
          rw [hT] at hst
          simp only at hst
          have hss := hsm n hn
          have hMB := mok_mb hO hn hj hk r1 r2 z4 z5 z6 z1 z2 z3 hss.1 hss.2
          have hjy := hMB.a4
          have hkz := hMB.a6
          have hpl := partV_len x y z (mergeP x y z pa pb n) n j k
          have hstep : MOk y z pa pb (n + 1) (stepV x y z (mergeP x y z pa pb n) (n, j, k)) := MOk.step (M := 0) (M' := 0) r1 r2 hj hk
          have hcl : c.length ≤ 65536 := by
            have := getD_le x n
            rw [List.getD, hc, Option.getD_some] at this
            omega
          have hgd : x.getD n [] = c := by rw [List.getD, hc, Option.getD_some]
          have wj : IntKind.i64.wrap ((j : Int) + 1) = ((j + 1 : Nat) : Int) := by rw [Go.IntWalk.i64_in _ (by omega)]; omega
          have wk : IntKind.i64.wrap ((k : Int) + 1) = ((k + 1 : Nat) : Int) := by rw [Go.IntWalk.i64_in _ (by omega)]; omega
          unfold stepV at hst
          simp only at hst
          rw [hgd] at hst
          simp -implicitDefEqProofs only [go_sem, tys, regs0, Nat.reduceEqDiff, Nat.reduceAdd, Nat.reduceLeDiff, Nat.reduceLT, Nat.reduceMul, Int.natCast_one, Int.natCast_zero, Int.reduceEq, Int.reduceLT, Int.reduceLE, Int.reduceAdd, Int.reduceSub, Int.reduceToNat, UInt8.reduceToNat, h12, h13, h14, h15, h16, h17, h18, h19, h20, h21, h22, h57, h58, h59, p1, p2, encI, y1, y2]
          rw [acode_draw]
          simp -implicitDefEqProofs only [go_sem, tys, regs0, Nat.reduceEqDiff, Nat.reduceAdd, Nat.reduceLeDiff, Nat.reduceLT, Nat.reduceMul, Int.natCast_one, Int.natCast_zero, Int.reduceEq, Int.reduceLT, Int.reduceLE, Int.reduceAdd, Int.reduceSub, Int.reduceToNat, UInt8.reduceToNat, h12, h13, h14, h15, h16, h17, h18, h19, h20, h21, h22, h57, h58, h59, p1, p2, encI, puZ, puH3]
          refine put_k hC hB hMB (fun G1 hC1 hB1 => ?_)
          have hx1 := hC1.hx
          simp -implicitDefEqProofs only [go_sem, tys, regs0, Nat.reduceEqDiff, Nat.reduceAdd, Nat.reduceLeDiff, Nat.reduceLT, Nat.reduceMul, Int.natCast_one, Int.natCast_zero, Int.reduceEq, Int.reduceLT, Int.reduceLE, Int.reduceAdd, Int.reduceSub, Int.reduceToNat, UInt8.reduceToNat, h12, h13, h14, h15, h16, h17, h18, h19, h20, h21, h22, h57, h58, h59, hx1, hc, encS, puZ, puH3]
          refine writeString_k hB1 (by omega) (fun G2 hB2 hk2 => ?_)
          have hC2 := hC1.kept hB1 hk2 hB2.sub
          have hi2 := hC2.hi
          have hkk2 := hC2.hk
          have hm2 := hC2.hm
          have n0 := MI.ne hC2.nd
          simp -implicitDefEqProofs only [go_sem, tys, regs0, Nat.reduceEqDiff, Nat.reduceAdd, Nat.reduceLeDiff, Nat.reduceLT, Nat.reduceMul, Int.natCast_one, Int.natCast_zero, Int.reduceEq, Int.reduceLT, Int.reduceLE, Int.reduceAdd, Int.reduceSub, Int.reduceToNat, UInt8.reduceToNat, h12, h13, h14, h15, h16, h17, h18, h19, h20, h21, h22, h57, h58, h59]
          rw [acode_tree (t := ot19m) rfl (by rfl)]
          simp -implicitDefEqProofs only [go_sem, tys, regs0, Nat.reduceEqDiff, Nat.reduceAdd, Nat.reduceLeDiff, Nat.reduceLT, Nat.reduceMul, Int.natCast_one, Int.natCast_zero, Int.reduceEq, Int.reduceLT, Int.reduceLE, Int.reduceAdd, Int.reduceSub, Int.reduceToNat, UInt8.reduceToNat, h12, h13, h14, h15, h16, h17, h18, h19, h20, h21, h22, h57, h58, h59, ot19m, stripO, p1, p2, encI, wn, wj, wk, hi2, hkk2, hm2, put_ne, n0]
          have hfin := hC2.move (n + 1) (j + 1) (k + 1) ((partV x y z (mergeP x y z pa pb n) n j k).out ++ c)
          have hfinB := hC2.moveB hB2 ((n + 1 : Nat) : Int) ((j + 1 : Nat) : Int) ((k + 1 : Nat) : Int)
          repeat' (with_reducible refine And.intro ?_ ?_)
          all_goals exact Again.mk (n + 1) (by simp -implicitDefEqProofs only [go_sem, tys, regs0, Nat.reduceEqDiff, Nat.reduceAdd, Nat.reduceLeDiff, Nat.reduceLT, Nat.reduceMul, Int.natCast_one, Int.natCast_zero, Int.reduceEq, Int.reduceLT, Int.reduceLE, Int.reduceAdd, Int.reduceSub, Int.reduceToNat, UInt8.reduceToNat, h12, h13, h14, h15, h16, h17, h18, h19, h20, h21, h22, h57, h58, h59]) ⟨by rw [hst]; exact hfin, by rw [hst]; exact hfinB, by rw [hst]; exact mok_out hstep rfl rfl rfl, by omega⟩ (by omega)
    · simp only [decide_eq_false_iff_not] at g
      have e : n = x.length := by omega
      subst e
      have hss := hsm x.length (Nat.le_refl _)
      have hMB := mok_end hO z4 z5 z6 z1 z2 z3 hss.1 hss.2
      have hpl := partV_len x y z (mergeP x y z pa pb x.length) x.length y.length z.length
      have hx := hC.hx
      have hy := hC.hy
      have hz := hC.hz
      simp -implicitDefEqProofs only [go_sem, tys, regs0, Nat.reduceEqDiff, Nat.reduceAdd, Nat.reduceLeDiff, Nat.reduceLT, Nat.reduceMul, Int.natCast_one, Int.natCast_zero, Int.reduceEq, Int.reduceLT, Int.reduceLE, Int.reduceAdd, Int.reduceSub, Int.reduceToNat, UInt8.reduceToNat, h12, h13, h14, h15, h16, h17, h18, h19, h20, h21, h22, h57, h58, h59, hx, hy, hz, puZ, puH3]
      refine put_k hC hB hMB (fun G1 hC1 hB1 => ?_)
      rw [← hD] at hC1 hB1 hpl
      simp -implicitDefEqProofs only [go_sem, tys, regs0, Nat.reduceEqDiff, Nat.reduceAdd, Nat.reduceLeDiff, Nat.reduceLT, Nat.reduceMul, Int.natCast_one, Int.natCast_zero, Int.reduceEq, Int.reduceLT, Int.reduceLE, Int.reduceAdd, Int.reduceSub, Int.reduceToNat, UInt8.reduceToNat, h17, h18, puZ, puH3]
      refine bldLen_k hB1 ?_
      have hc1 := hC1.hc
      by_cases cb : 65536 < (mergeD base a b).out.length
      · have y : decide ((65536 : Int) < ((mergeD base a b).out.length : Int)) = true := decide_eq_true (by omega)
        rw [if_pos cb] at hV
        simp -implicitDefEqProofs only [go_sem, tys, regs0, Nat.reduceEqDiff, Nat.reduceAdd, Nat.reduceLeDiff, Nat.reduceLT, Nat.reduceMul, Int.natCast_one, Int.natCast_zero, Int.reduceEq, Int.reduceLT, Int.reduceLE, Int.reduceAdd, Int.reduceSub, Int.reduceToNat, UInt8.reduceToNat, y]
        exact Done.drop hC1.sub ⟨by unfold mergeT; rw [hV], rfl⟩
      · have y : decide ((65536 : Int) < ((mergeD base a b).out.length : Int)) = false := decide_eq_false (by omega)
        rw [if_neg cb] at hV
        simp -implicitDefEqProofs only [go_sem, tys, regs0, Nat.reduceEqDiff, Nat.reduceAdd, Nat.reduceLeDiff, Nat.reduceLT, Nat.reduceMul, Int.natCast_one, Int.natCast_zero, Int.reduceEq, Int.reduceLT, Int.reduceLE, Int.reduceAdd, Int.reduceSub, Int.reduceToNat, UInt8.reduceToNat, y]
        rw [acode_tree (t := ot24m) rfl (by rfl)]
        simp -implicitDefEqProofs only [go_sem, tys, regs0, Nat.reduceEqDiff, Nat.reduceAdd, Nat.reduceLeDiff, Nat.reduceLT, Nat.reduceMul, Int.natCast_one, Int.natCast_zero, Int.reduceEq, Int.reduceLT, Int.reduceLE, Int.reduceAdd, Int.reduceSub, Int.reduceToNat, UInt8.reduceToNat, h17, h18, hc1, ot24m, stripO, puZ, puH3]
        refine ⟨?_, ?_⟩
        all_goals
          refine bldString_k hB1 (by omega) (fun e => by cases e) ?_
          simp -implicitDefEqProofs only [go_sem, tys, regs0, Nat.reduceEqDiff, Nat.reduceAdd, Nat.reduceLeDiff, Nat.reduceLT, Nat.reduceMul, Int.natCast_one, Int.natCast_zero, Int.reduceEq, Int.reduceLT, Int.reduceLE, Int.reduceAdd, Int.reduceSub, Int.reduceToNat, UInt8.reduceToNat, h17, h18, hc1]
          exact Done.drop hC1.sub ⟨by unfold mergeT; rw [hV], rfl⟩
def sMerge : List AV → Option AV := fn3 .str .str .str fun s a b => if s.length ≤ 1099511627776 ∧ a.length ≤ 1099511627776 ∧ b.length ≤ 1099511627776 then some (mergeT s a b) else none
theorem sMerge_eq (s a b : Bytes) (hs : s.length ≤ 1099511627776) (ha : a.length ≤ 1099511627776) (hb : b.length ≤ 1099511627776) : sMerge [.str s, .str a, .str b] = some (.tup [.str (mergeV s a b).1, .int .i64 (mergeV s a b).2.1, .int .i64 (mergeV s a b).2.2]) := by
  unfold sMerge
  rw [fn3_eq, Rd.str_eq, Rd.str_eq, Rd.str_eq]
  simp only [Option.bind_some, if_pos (And.intro hs (And.intro ha hb))]
  rfl
theorem sMerge_ok {P : Program} {f : FuncId} (h : ∀ s a b H, s.length ≤ 1099511627776 → a.length ≤ 1099511627776 → b.length ≤ 1099511627776 → ACalls P f [.str s, .str a, .str b] H fun v H' => v = mergeT s a b ∧ H' = H) : ∀ xs v, sMerge xs = some v → ∀ H, ACalls P f xs H fun x H' => x = v ∧ H' = H := by
  intro xs v hv H
  obtain ⟨x, y, z, p, q, r, rfl, h1, h2, h3, h4⟩ := fn3_some hv
  cases Rd.str_some h1
  cases Rd.str_some h2
  cases Rd.str_some h3
  obtain ⟨⟨h5, h6, h7⟩, rfl⟩ := some_if h4
  exact h p q r H h5 h6 h7
end Go.Proofs
