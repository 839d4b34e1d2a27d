/- Walks: two sides are put together, on the reference's side. -/
import Derived.Test.YtnheonhmnepifaaDoorLN10
namespace Go.Proofs
open Go Go.Abs
set_option linter.unusedSimpArgs false
set_option linter.unusedVariables false
set_option maxRecDepth 20000
def ot17r : OT := .seg [0, 1, 2, 3, 6, 7, 8, 9] (.or (.seg [4, 5] (.or (.seg [10, 11, 12, 13, 14] .done) (.seg [12] (.or (.seg [10, 11, 13, 14] .done) (.seg [13, 10, 11, 14] .done))))) (.or (.seg [10, 11] (.or (.seg [4, 5, 12, 13, 14] .done) (.seg [12, 4, 5, 13, 14] .done))) (.seg [12, 4, 5] (.or (.seg [10, 11, 13, 14] .done) (.seg [13, 10, 11, 14] .done)))))
theorem lk_mem {N M : Nat} : ∀ {l : List (Nat × Nat)} {i k : Nat}, Rise i k N M l → ∀ p ∈ l, lk p.1 l = some p.2
  | [], _, _, _, p, hp => by cases hp
  | q :: l, i, k, h, p, hp => by
    rcases List.mem_cons.1 hp with rfl | hp
    · rw [lk, if_pos rfl]
    · have h2 := lk_mem h.2.2.2.2 p hp
      have h3 := (lk_some h.2.2.2.2 h2).1
      rw [lk, if_neg (by omega), h2]
theorem rise_drop {N M : Nat} : ∀ {l : List (Nat × Nat)} {i k t : Nat} {p : Nat × Nat}, Rise i k N M l → l[t]? = some p → Rise (p.1 + 1) (p.2 + 1) N M (l.drop (t + 1))
  | [], _, _, _, _, _, h => by simp at h
  | q :: l, i, k, 0, p, h, hp => by
    simp at hp
    subst hp
    exact h.2.2.2.2
  | q :: l, i, k, t + 1, p, h, hp => by
    rw [List.drop_succ_cons]
    exact rise_drop h.2.2.2.2 (by simpa using hp)
theorem rise_ge {N M : Nat} : ∀ {l : List (Nat × Nat)} {i k : Nat}, Rise i k N M l → ∀ p ∈ l, i ≤ p.1
  | [], _, _, _, p, hp => by cases hp
  | q :: l, i, k, h, p, hp => by
    rcases List.mem_cons.1 hp with rfl | hp
    · exact h.1
    · have := rise_ge h.2.2.2.2 p hp
      have := h.1
      omega
theorem mergeR_small {base a b : Bytes} (h1 : linesE base a = 0) (h2 : linesE base b = 0) (n : Nat) (hn : n ≤ (linesV base).length) : (mergeR (linesV base) (linesV a) (linesV b) (pairsV base a) (pairsV base b) n).out.length ≤ 1000000000 ∧ (mergeR (linesV base) (linesV a) (linesV b) (pairsV base a) (pairsV base b) n).n ≤ 1000 := by
  have o1 := linesE_ok h1
  have o2 := linesE_ok h2
  have h := mergeR_len (linesV base) (linesV a) (linesV b) (pairsV base a) (pairsV base b) n
  rw [linesV_flat, linesV_flat, linesV_flat] at h
  have h3 : n * (base.length + a.length + b.length + 26) ≤ 1000 * 200000 := Nat.mul_le_mul (by omega) (by omega)
  omega
def ROk (y z : List Bytes) (pa pb : List (Nat × Nat)) (N t : Nat) (s : MS) : Prop := ∃ n, MOk y z pa pb n s ∧ n ≤ N ∧ ∀ p ∈ pa.drop t, n ≤ p.1
set_option maxHeartbeats 12800000 in
theorem mergeTexts_calls (base a b : Bytes) (H : Heap) (hl0 : base.length ≤ 1099511627776) (hl1 : a.length ≤ 1099511627776) (hl2 : b.length ≤ 1099511627776) : ACalls Tryd.prog 18 [.str base, .str a, .str b] H fun v H' => v = mergeT base a b ∧ H' = H := by
  have t1 := sLinesE_eq base a hl0 hl1
  have t2 := sLinesE_eq base b hl0 hl2
  have hV := mergeV.eq_1 base a b
  by_cases c0 : ¬ fst0 [linesE base a, linesE base b] = 0
  · have y1 : decide (¬ fst0 [linesE base a, linesE base b] = 0) = true := decide_eq_true c0
    have hV2 : mergeV base a b = ([], 0, fst0 [linesE base a, linesE base b]) := by
      rw [hV]
      by_cases c1 : linesE base a = 0
      · have e : fst0 [linesE base a, linesE base b] = linesE base b := by
          simp only [fst0, c1, if_true]
          split
          · rename_i h; exact h.symm
          · rfl
        rw [if_neg (by simpa using c1), e]
        rw [e] at c0
        rw [if_pos c0]
      · have e : fst0 [linesE base a, linesE base b] = linesE base a := by simp [fst0, c1]
        rw [if_pos c1, e]
    refine ACalls.of_code (X := { pure := puZ, tree := fun n => if n = 17 then some ot17r else none }) puZ_ok Tryd.func18 (by kernel_rfl) rfl (by kernel_rfl) (Nat.le_of_ble_eq_true rfl) ?_
    simp -implicitDefEqProofs only [go_sem, tys, regs0, Nat.reduceEqDiff, Nat.reduceAdd, Nat.reduceLeDiff, Nat.reduceLT, Nat.reduceMul, Int.natCast_one, Int.natCast_zero, Int.reduceEq, Int.reduceLT, Int.reduceLE, Int.reduceAdd, Int.reduceSub, Int.reduceToNat, UInt8.reduceToNat, Tryd.f18, puZ, t1, t2, sFirst_two, y1]
    exact Done.now ⟨by unfold mergeT; rw [hV2], rfl⟩
  have y1 : decide (¬ fst0 [linesE base a, linesE base b] = 0) = false := decide_eq_false c0
  have hz0 : fst0 [linesE base a, linesE base b] = 0 := Decidable.not_not.1 c0
  have hE1 : linesE base a = 0 := by
    by_cases c1 : linesE base a = 0
    · exact c1
    · have e : fst0 [linesE base a, linesE base b] = linesE base a := by simp [fst0, c1]
      rw [← e]; exact hz0
  have hE2 : linesE base b = 0 := by
    by_cases c2 : linesE base b = 0
    · exact c2
    · have e : fst0 [linesE base a, linesE base b] = linesE base b := by simp [fst0, hE1, c2]
      rw [← e]; exact hz0
  rw [if_neg (by simpa using hE1), if_neg (by simpa using hE2)] at hV
  have q0 := sLines_eq base hl0
  have q1 := sLines_eq a hl1
  have q2 := sLines_eq b hl2
  have o1 := linesE_ok hE1
  have o2 := linesE_ok hE2
  have r1 := pairs_rise base a
  have r2 := pairs_rise base b
  have rl1 := rise_len r1
  have rl2 := rise_len r2
  have s1 : ∀ t t', sCommon [.sl ((linesV base).map encS) t, .sl ((linesV a).map encS) t'] = some (.sl ((pairsV base a).map encP) .unk) := fun t t' => sCommon_eq _ _ t t' (by omega) (by omega)
  have s2 : ∀ t t', sCommon [.sl ((linesV base).map encS) t, .sl ((linesV b).map encS) t'] = some (.sl ((pairsV base b).map encP) .unk) := fun t t' => sCommon_eq _ _ t t' (by omega) (by omega)
  have f0 := linesV_flat base
  have f1 := linesV_flat a
  have f2 := linesV_flat b
  have hD : mergeD base a b = _ := rfl
  unfold mergeD at hD
  have hsm := fun n hn => mergeR_small hE1 hE2 n hn
  have hps : ∀ n p, (pairsV base a)[n]? = some p → mergeR (linesV base) (linesV a) (linesV b) (pairsV base a) (pairsV base b) (n + 1) = _ := fun n p hp => mergeR_succ hp
  have hD2 : partV (linesV base) (linesV a) (linesV b) (mergeR (linesV base) (linesV a) (linesV b) (pairsV base a) (pairsV base b) (pairsV base a).length) (linesV base).length (linesV a).length (linesV b).length = mergeD base a b := rfl
  clear hD
  refine ACalls.of_code (X := { pure := puZ, tree := fun n => if n = 17 then some ot17r else none }) puZ_ok Tryd.func18 (by kernel_rfl) rfl (by kernel_rfl) (Nat.le_of_ble_eq_true rfl) ?_
  simp -implicitDefEqProofs only [go_sem, tys, regs0, Nat.reduceEqDiff, Nat.reduceAdd, Nat.reduceLeDiff, Nat.reduceLT, Nat.reduceMul, Int.natCast_one, Int.natCast_zero, Int.reduceEq, Int.reduceLT, Int.reduceLE, Int.reduceAdd, Int.reduceSub, Int.reduceToNat, UInt8.reduceToNat, Tryd.f18, puZ, t1, t2, sFirst_two, y1, q0, q1, q2]
  generalize linesV base = x at *
  generalize linesV a = y at *
  generalize linesV b = z at *
  generalize pairsV base a = pa at *
  generalize pairsV base b = pb at *
  with_reducible refine nwC_intro fun xp hxp => ?_
  simp -implicitDefEqProofs only [go_sem, tys, regs0, Nat.reduceEqDiff, Nat.reduceAdd, Nat.reduceLeDiff, Nat.reduceLT, Nat.reduceMul, Int.natCast_one, Int.natCast_zero, Int.reduceEq, Int.reduceLT, Int.reduceLE, Int.reduceAdd, Int.reduceSub, Int.reduceToNat, UInt8.reduceToNat]
  with_reducible refine nwC_intro fun yp hyp => ?_
  have n1 := heap_none hyp
  simp -implicitDefEqProofs only [go_sem, tys, regs0, Nat.reduceEqDiff, Nat.reduceAdd, Nat.reduceLeDiff, Nat.reduceLT, Nat.reduceMul, Int.natCast_one, Int.natCast_zero, Int.reduceEq, Int.reduceLT, Int.reduceLE, Int.reduceAdd, Int.reduceSub, Int.reduceToNat, UInt8.reduceToNat]
  with_reducible refine nwC_intro fun zp hzp => ?_
  have n2 := heap_none hzp
  have n3 := heap_none n2.2.2
  have mx1 := n1.1
  have mx2 := n1.2.1
  have mx3 := n2.1
  have mx4 := n2.2.1
  have mx5 := n3.1
  have mx6 := n3.2.1
  simp -implicitDefEqProofs only [go_sem, tys, regs0, Nat.reduceEqDiff, Nat.reduceAdd, Nat.reduceLeDiff, Nat.reduceLT, Nat.reduceMul, Int.natCast_one, Int.natCast_zero, Int.reduceEq, Int.reduceLT, Int.reduceLE, Int.reduceAdd, Int.reduceSub, Int.reduceToNat, UInt8.reduceToNat, put_ne, mx1, mx2, mx3, mx4, mx5, mx6]
  have k1 := n1.2.2
  have k2 := n3.2.2
  have hS : H.Sub ((((((H.put xp (.cells [.sl [] .exact])).put yp (.cells [.sl [] .exact])).put zp (.cells [.sl [] .exact])).put xp (.cells [.sl (x.map encS) .unk])).put yp (.cells [.sl (y.map encS) .unk])).put zp (.cells [.sl (z.map encS) .unk])) := ((((((Heap.Sub.rfl' H).put' hxp _).put' k1 _).put' k2 _).put' hxp _).put' k1 _).put' k2 _
  have hx : ((((((H.put xp (.cells [.sl [] .exact])).put yp (.cells [.sl [] .exact])).put zp (.cells [.sl [] .exact])).put xp (.cells [.sl (x.map encS) .unk])).put yp (.cells [.sl (y.map encS) .unk])).put zp (.cells [.sl (z.map encS) .unk])) xp = some (.cells [.sl (x.map encS) .unk]) := by simp only [put_ne, put_same, mx1, mx2, mx3, mx4, mx5, mx6, not_false_eq_true]
  have hy : ((((((H.put xp (.cells [.sl [] .exact])).put yp (.cells [.sl [] .exact])).put zp (.cells [.sl [] .exact])).put xp (.cells [.sl (x.map encS) .unk])).put yp (.cells [.sl (y.map encS) .unk])).put zp (.cells [.sl (z.map encS) .unk])) yp = some (.cells [.sl (y.map encS) .unk]) := by simp only [put_ne, put_same, mx1, mx2, mx3, mx4, mx5, mx6, not_false_eq_true]
  have hz : ((((((H.put xp (.cells [.sl [] .exact])).put yp (.cells [.sl [] .exact])).put zp (.cells [.sl [] .exact])).put xp (.cells [.sl (x.map encS) .unk])).put yp (.cells [.sl (y.map encS) .unk])).put zp (.cells [.sl (z.map encS) .unk])) zp = some (.cells [.sl (z.map encS) .unk]) := put_same _ _ _
  generalize (((((H.put xp (.cells [.sl [] .exact])).put yp (.cells [.sl [] .exact])).put zp (.cells [.sl [] .exact])).put xp (.cells [.sl (x.map encS) .unk])).put yp (.cells [.sl (y.map encS) .unk])).put zp (.cells [.sl (z.map encS) .unk]) = G at *
  have kx := hxp
  have ky := k1
  have kz := k2
  clear hxp hyp hzp n1 n2 n3 k1 k2
  rw [acode_draw]
  simp -implicitDefEqProofs only [go_sem, tys, regs0, Nat.reduceEqDiff, Nat.reduceAdd, Nat.reduceLeDiff, Nat.reduceLT, Nat.reduceMul, Int.natCast_one, Int.natCast_zero, Int.reduceEq, Int.reduceLT, Int.reduceLE, Int.reduceAdd, Int.reduceSub, Int.reduceToNat, UInt8.reduceToNat, hx, hy, hz, puZ, s1, s2]
  with_reducible refine nwC_intro fun bp hbp => ?_
  have b1 := ne_new hbp hx
  have b2 := ne_new hbp hy
  have b3 := ne_new hbp hz
  have kb := sub_none hS hbp
  have hS := hS.put' kb (.cells [.str []])
  have hx := keep_new (o' := .cells [.str []]) hbp hx
  have hy := keep_new (o' := .cells [.str []]) hbp hy
  have hz := keep_new (o' := .cells [.str []]) hbp hz
  have hb := put_same G bp (.cells [.str []])
  clear hbp
  simp -implicitDefEqProofs only [go_sem, tys, regs0, Nat.reduceEqDiff, Nat.reduceAdd, Nat.reduceLeDiff, Nat.reduceLT, Nat.reduceMul, Int.natCast_one, Int.natCast_zero, Int.reduceEq, Int.reduceLT, Int.reduceLE, Int.reduceAdd, Int.reduceSub, Int.reduceToNat, UInt8.reduceToNat]
  generalize G.put bp (.cells [.str []]) = G1 at *
  with_reducible refine nwC_intro fun cp hcp => ?_
  have c1 := ne_new hcp hx
  have c2 := ne_new hcp hy
  have c3 := ne_new hcp hz
  have c4 := ne_new hcp hb
  have kc := sub_none hS hcp
  have hx := keep_new (o' := .cells [.int .i64 0]) hcp hx
  have hy := keep_new (o' := .cells [.int .i64 0]) hcp hy
  have hz := keep_new (o' := .cells [.int .i64 0]) hcp hz
  have hb := keep_new (o' := .cells [.int .i64 0]) hcp hb
  have hcc := put_same G1 cp (.cells [.int .i64 0])
  have hS := hS.put' kc (.cells [.int .i64 0])
  clear hcp
  simp -implicitDefEqProofs only [go_sem, tys, regs0, Nat.reduceEqDiff, Nat.reduceAdd, Nat.reduceLeDiff, Nat.reduceLT, Nat.reduceMul, Int.natCast_one, Int.natCast_zero, Int.reduceEq, Int.reduceLT, Int.reduceLE, Int.reduceAdd, Int.reduceSub, Int.reduceToNat, UInt8.reduceToNat]
  generalize G1.put cp (.cells [.int .i64 0]) = G2 at *
  with_reducible refine nwC_intro fun ip hip => ?_
  have i1 := ne_new hip hx
  have i2 := ne_new hip hy
  have i3 := ne_new hip hz
  have i4 := ne_new hip hb
  have i5 := ne_new hip hcc
  have ki := sub_none hS hip
  have hx := keep_new (o' := .cells [.int .i64 0]) hip hx
  have hy := keep_new (o' := .cells [.int .i64 0]) hip hy
  have hz := keep_new (o' := .cells [.int .i64 0]) hip hz
  have hb := keep_new (o' := .cells [.int .i64 0]) hip hb
  have hcc := keep_new (o' := .cells [.int .i64 0]) hip hcc
  have hic := put_same G2 ip (.cells [.int .i64 0])
  have hS := hS.put' ki (.cells [.int .i64 0])
  clear hip
  simp -implicitDefEqProofs only [go_sem, tys, regs0, Nat.reduceEqDiff, Nat.reduceAdd, Nat.reduceLeDiff, Nat.reduceLT, Nat.reduceMul, Int.natCast_one, Int.natCast_zero, Int.reduceEq, Int.reduceLT, Int.reduceLE, Int.reduceAdd, Int.reduceSub, Int.reduceToNat, UInt8.reduceToNat]
  generalize G2.put ip (.cells [.int .i64 0]) = G3 at *
  with_reducible refine nwC_intro fun kp hkp => ?_
  have k1 := ne_new hkp hx
  have k2 := ne_new hkp hy
  have k3 := ne_new hkp hz
  have k4 := ne_new hkp hb
  have k5 := ne_new hkp hcc
  have k6 := ne_new hkp hic
  have kk := sub_none hS hkp
  have hx := keep_new (o' := .cells [.int .i64 0]) hkp hx
  have hy := keep_new (o' := .cells [.int .i64 0]) hkp hy
  have hz := keep_new (o' := .cells [.int .i64 0]) hkp hz
  have hb := keep_new (o' := .cells [.int .i64 0]) hkp hb
  have hcc := keep_new (o' := .cells [.int .i64 0]) hkp hcc
  have hic := keep_new (o' := .cells [.int .i64 0]) hkp hic
  have hkc := put_same G3 kp (.cells [.int .i64 0])
  have hS := hS.put' kk (.cells [.int .i64 0])
  clear hkp
  simp -implicitDefEqProofs only [go_sem, tys, regs0, Nat.reduceEqDiff, Nat.reduceAdd, Nat.reduceLeDiff, Nat.reduceLT, Nat.reduceMul, Int.natCast_one, Int.natCast_zero, Int.reduceEq, Int.reduceLT, Int.reduceLE, Int.reduceAdd, Int.reduceSub, Int.reduceToNat, UInt8.reduceToNat]
  generalize G3.put kp (.cells [.int .i64 0]) = G4 at *
  with_reducible refine nwC_intro fun mp hmp => ?_
  have m1 := ne_new hmp hx
  have m2 := ne_new hmp hy
  have m3 := ne_new hmp hz
  have m4 := ne_new hmp hb
  have m5 := ne_new hmp hcc
  have m6 := ne_new hmp hic
  have m7 := ne_new hmp hkc
  have km := sub_none hS hmp
  have hx := keep_new (o' := .cells [.int .i64 0]) hmp hx
  have hy := keep_new (o' := .cells [.int .i64 0]) hmp hy
  have hz := keep_new (o' := .cells [.int .i64 0]) hmp hz
  have hb := keep_new (o' := .cells [.int .i64 0]) hmp hb
  have hcc := keep_new (o' := .cells [.int .i64 0]) hmp hcc
  have hic := keep_new (o' := .cells [.int .i64 0]) hmp hic
  have hkc := keep_new (o' := .cells [.int .i64 0]) hmp hkc
  have hmc := put_same G4 mp (.cells [.int .i64 0])
  have hS := hS.put' km (.cells [.int .i64 0])
  clear hmp
  simp -implicitDefEqProofs only [go_sem, tys, regs0, Nat.reduceEqDiff, Nat.reduceAdd, Nat.reduceLeDiff, Nat.reduceLT, Nat.reduceMul, Int.natCast_one, Int.natCast_zero, Int.reduceEq, Int.reduceLT, Int.reduceLE, Int.reduceAdd, Int.reduceSub, Int.reduceToNat, UInt8.reduceToNat]
  generalize G4.put mp (.cells [.int .i64 0]) = G5 at *
  have z1 := heap_put_id hic
  have z2 := heap_put_id hkc
  have z3 := heap_put_id hmc
  simp -implicitDefEqProofs only [go_sem, tys, regs0, Nat.reduceEqDiff, Nat.reduceAdd, Nat.reduceLeDiff, Nat.reduceLT, Nat.reduceMul, Int.natCast_one, Int.natCast_zero, Int.reduceEq, Int.reduceLT, Int.reduceLE, Int.reduceAdd, Int.reduceSub, Int.reduceToNat, UInt8.reduceToNat, hic, hkc, hmc, z1, z2, z3]
  have hC0 : MC H G5 ⟨xp, yp, zp, ip, kp, mp, cp, bp⟩ x y z ms0 := ⟨hS, by simp [MI.l, m1, m2, m3, m4, m5, m6, m7, i1, i2, i3, i4, i5, k1, k2, k3, k4, k5, k6, c1, c2, c3, c4, b1, b2, b3, mx1, mx2, mx3, mx4, mx5, mx6], by
    intro j hj
    simp only [MI.l, List.mem_cons, List.not_mem_nil, or_false] at hj
    rcases hj with rfl | rfl | rfl | rfl | rfl | rfl | rfl | rfl
    · exact kx
    · exact ky
    · exact kz
    · exact ki
    · exact kk
    · exact km
    · exact kc
    · exact kb, hx, hy, hz, hic, hkc, hmc, hcc⟩
  have hB0 : G5 bp = some (.cells [.str ms0.out]) := hb
  clear z1 z2 z3 hx hy hz hb hic hkc hmc hcc m1 m2 m3 m4 m5 m6 m7 i1 i2 i3 i4 i5 k1 k2 k3 k4 k5 k6 c1 c2 c3 c4 b1 b2 b3 mx1 mx2 mx3 mx4 mx5 mx6 kx ky kz ki kk km kc kb hS
  clear t1 t2 q0 q1 q2 s1 s2 y1
  generalize hq : (⟨xp, yp, zp, ip, kp, mp, cp, bp⟩ : MI) = q at *
  obtain rfl : xp = q.xp := by rw [← hq]
  obtain rfl : yp = q.yp := by rw [← hq]
  obtain rfl : zp = q.zp := by rw [← hq]
  obtain rfl : ip = q.ip := by rw [← hq]
  obtain rfl : kp = q.kp := by rw [← hq]
  obtain rfl : mp = q.mp := by rw [← hq]
  obtain rfl : cp = q.cp := by rw [← hq]
  obtain rfl : bp = q.op := by rw [← hq]
  clear hq
  have z1 : x.flatten.length ≤ 65536 := by rw [f0]; omega
  have z2 : y.flatten.length ≤ 65536 := by rw [f1]; omega
  have z3 : z.flatten.length ≤ 65536 := by rw [f2]; omega
  have z4 : x.length ≤ 1000 := o1.2.1
  have z5 : y.length ≤ 1000 := o1.2.2.2
  have z6 : z.length ≤ 1000 := o2.2.2.2
  refine aloop_intro (σ := Nat) (fun n => [(10, .ptr q.xp 0), (11, .ptr q.yp 0), (12, .ptr q.zp 0), (14, .sl (pb.map encP) .unk), (15, .ptr q.op 0), (16, .ptr q.cp 0), (17, .ptr q.ip 0), (18, .ptr q.kp 0), (19, .ptr q.mp 0),
      (20, .func 60 [.ptr q.xp 0, .ptr q.ip 0, .ptr q.yp 0, .ptr q.kp 0, .ptr q.zp 0, .ptr q.mp 0, .ptr q.op 0, .ptr q.cp 0]), (48, .sl (pa.map encP) .unk), (49, .int .i64 pa.length), (50, .int .i64 (n : Int))])
    (fun n G => MC H G q x y z (mergeR x y z pa pb n) ∧ G q.op = some (.cells [.str (mergeR x y z pa pb n).out]) ∧ ROk y z pa pb x.length n (mergeR x y z pa pb n) ∧ n ≤ pa.length) (fun n => pa.length - n) 0 ?_ ?_ ?_
  · simp -implicitDefEqProofs only [go_sem, tys, regs0, Nat.reduceEqDiff, Nat.reduceAdd, Nat.reduceLeDiff, Nat.reduceLT, Nat.reduceMul, Int.natCast_one, Int.natCast_zero, Int.reduceEq, Int.reduceLT, Int.reduceLE, Int.reduceAdd, Int.reduceSub, Int.reduceToNat, UInt8.reduceToNat]
  · exact ⟨hC0, hB0, ⟨0, mok_zero _ _ _ _, Nat.zero_le _, fun _ _ => Nat.zero_le _⟩, Nat.zero_le _⟩
  · rintro n r G hv ⟨hC, hB, hO, hn⟩
    have h10 := hv.1
    have h11 := hv.2.1
    have h12 := hv.2.2.1
    have h14 := hv.2.2.2.1
    have h15 := hv.2.2.2.2.1
    have h16 := hv.2.2.2.2.2.1
    have h17 := hv.2.2.2.2.2.2.1
    have h18 := hv.2.2.2.2.2.2.2.1
    have h19 := hv.2.2.2.2.2.2.2.2.1
    have h20 := hv.2.2.2.2.2.2.2.2.2.1
    have h48 := hv.2.2.2.2.2.2.2.2.2.2.1
    have h49 := hv.2.2.2.2.2.2.2.2.2.2.2.1
    have h50 := hv.2.2.2.2.2.2.2.2.2.2.2.2.1
    clear hv
    obtain ⟨n', hO, hn', hge⟩ := hO
    simp -implicitDefEqProofs only [go_sem, tys, regs0, Nat.reduceEqDiff, Nat.reduceAdd, Nat.reduceLeDiff, Nat.reduceLT, Nat.reduceMul, Int.natCast_one, Int.natCast_zero, Int.reduceEq, Int.reduceLT, Int.reduceLE, Int.reduceAdd, Int.reduceSub, Int.reduceToNat, UInt8.reduceToNat, h10, h11, h12, h14, h15, h16, h17, h18, h19, h20, h48, h49, h50]
    refine cnd_intro (fun g => ?_) (fun g => ?_)
    · simp only [decide_eq_true_eq] at g
      obtain ⟨p, hp⟩ : ∃ p, pa[n]? = some p := getD_get' (by omega)
      have hpm := List.mem_of_getElem? hp
      have hlk := lk_mem r1 p hpm
      have hdr := drop_get hp
      have hnp : n' ≤ p.1 := hge p (by rw [hdr]; exact List.mem_cons_self ..)
      have hpx := rise_lt r1 p hpm
      have hO := hO.to hnp
      have hst := hps n p hp
      have hge2 := rise_ge (rise_drop r1 hp)
      have hpb : pb.length ≤ 1000 := by omega
      obtain ⟨c, hc⟩ : ∃ c, x[p.1]? = some c := getD_get' hpx.1
      have wn : IntKind.i64.wrap ((n : Int) + 1) = ((n + 1 : Nat) : Int) := by rw [Go.IntWalk.i64_in _ (by omega)]; omega
      simp -implicitDefEqProofs only [go_sem, tys, regs0, Nat.reduceEqDiff, Nat.reduceAdd, Nat.reduceLeDiff, Nat.reduceLT, Nat.reduceMul, Int.natCast_one, Int.natCast_zero, Int.reduceEq, Int.reduceLT, Int.reduceLE, Int.reduceAdd, Int.reduceSub, Int.reduceToNat, UInt8.reduceToNat, h10, h11, h12, h14, h15, h16, h17, h18, h19, h20, h48, h49, h50, hp, encP]
      with_reducible refine nwC_intro fun v hv => ?_
      have hC1 := hC.new hv (.cells [.int .i64 (p.1 : Int), .int .i64 (p.2 : Int)])
      have hB1 := keep_new (o' := .cells [.int .i64 (p.1 : Int), .int .i64 (p.2 : Int)]) hv hB
      have hv1 := put_same G v (.cells [.int .i64 (p.1 : Int), .int .i64 (p.2 : Int)])
      have hvq : ∀ w ∈ q.l, ¬ v = w := by
        intro w hw e
        subst e
        simp only [MI.l, List.mem_cons, List.not_mem_nil, or_false] at hw
        rcases hw with e | e | e | e | e | e | e | e
        · rw [e, hC.hx] at hv; cases hv
        · rw [e, hC.hy] at hv; cases hv
        · rw [e, hC.hz] at hv; cases hv
        · rw [e, hC.hi] at hv; cases hv
        · rw [e, hC.hk] at hv; cases hv
        · rw [e, hC.hm] at hv; cases hv
        · rw [e, hC.hc] at hv; cases hv
        · rw [e, hB] at hv; cases hv
      clear hv
      simp -implicitDefEqProofs only [go_sem, tys, regs0, Nat.reduceEqDiff, Nat.reduceAdd, Nat.reduceLeDiff, Nat.reduceLT, Nat.reduceMul, Int.natCast_one, Int.natCast_zero, Int.reduceEq, Int.reduceLT, Int.reduceLE, Int.reduceAdd, Int.reduceSub, Int.reduceToNat, UInt8.reduceToNat, h10, h11, h12, h14, h15, h16, h17, h18, h19, h20, h48, h49, h50]
      generalize G.put v (.cells [.int .i64 (p.1 : Int), .int .i64 (p.2 : Int)]) = G1 at *
      refine (idxF_calls pb p.1 _ .unk hv1 hpb).pure_next _ ?_
      have hlb := lk_idx (n := p.1) (l := pb)
      cases hu : idx p.1 (pb.map (·.1)) with
      | none =>
        rw [hu] at hlb
        simp only [Option.bind_none] at hlb
        have hT : tripG pb p = none := by rw [tripG, hlb]; rfl
        rw [hT] at hst
        simp only at hst
        simp -implicitDefEqProofs only [go_sem, tys, regs0, Nat.reduceEqDiff, Nat.reduceAdd, Nat.reduceLeDiff, Nat.reduceLT, Nat.reduceMul, Int.natCast_one, Int.natCast_zero, Int.reduceEq, Int.reduceLT, Int.reduceLE, Int.reduceAdd, Int.reduceSub, Int.reduceToNat, UInt8.reduceToNat, h10, h11, h12, h14, h15, h16, h17, h18, h19, h20, h48, h49, h50, idxI, wn]
        exact Again.mk (n + 1) (by simp -implicitDefEqProofs only [go_sem, tys, regs0, Nat.reduceEqDiff, Nat.reduceAdd, Nat.reduceLeDiff, Nat.reduceLT, Nat.reduceMul, Int.natCast_one, Int.natCast_zero, Int.reduceEq, Int.reduceLT, Int.reduceLE, Int.reduceAdd, Int.reduceSub, Int.reduceToNat, UInt8.reduceToNat, h10, h11, h12, h14, h15, h16, h17, h18, h19, h20, h48, h49, h50]) ⟨by rw [hst]; exact hC1, by rw [hst]; exact hB1, by rw [hst]; exact ⟨p.1 + 1, hO.skip, by omega, hge2⟩, by omega⟩ (by omega)
      | some u =>
        obtain ⟨w, hw⟩ : ∃ w, pb[u]? = some w := by
          have := idx_lt hu
          rw [List.length_map] at this
          exact getD_get' this
        have hwe := (idx_some hu).1
        rw [List.getElem?_map, hw] at hwe
        rw [hu] at hlb
        simp only [Option.bind_some, hw, Option.map_some] at hlb
        have y2 : decide ((u : Int) < 0) = false := by simp
        have hT : tripG pb p = some (p.1, p.2, w.2) := by rw [tripG, hlb]; rfl
        rw [hT] at hst
        simp only at hst
        have hss := hsm n (by omega)
        have hMB := mok_mb hO (by omega) hlk hlb r1 r2 z4 z5 z6 z1 z2 z3 hss.1 hss.2
        have hjy := hMB.a4
        have hkz := hMB.a6
        have hpl := partV_len x y z (mergeR x y z pa pb n) p.1 p.2 w.2
        have hstep : MOk y z pa pb (p.1 + 1) (stepV x y z (mergeR x y z pa pb n) (p.1, p.2, w.2)) := MOk.step (M := 0) (M' := 0) r1 r2 hlk hlb
        have hcl : c.length ≤ 65536 := by
          have := getD_le x p.1
          rw [List.getD, hc, Option.getD_some] at this
          omega
        have hgd : x.getD p.1 [] = c := by rw [List.getD, hc, Option.getD_some]
        have wi : IntKind.i64.wrap ((p.1 : Int) + 1) = ((p.1 + 1 : Nat) : Int) := by rw [Go.IntWalk.i64_in _ (by omega)]; omega
        have wj : IntKind.i64.wrap ((p.2 : Int) + 1) = ((p.2 + 1 : Nat) : Int) := by rw [Go.IntWalk.i64_in _ (by omega)]; omega
        have wk : IntKind.i64.wrap ((w.2 : Int) + 1) = ((w.2 + 1 : Nat) : Int) := by rw [Go.IntWalk.i64_in _ (by omega)]; omega
        unfold stepV at hst
        simp only at hst
        rw [hgd] at hst
        simp -implicitDefEqProofs only [go_sem, tys, regs0, Nat.reduceEqDiff, Nat.reduceAdd, Nat.reduceLeDiff, Nat.reduceLT, Nat.reduceMul, Int.natCast_one, Int.natCast_zero, Int.reduceEq, Int.reduceLT, Int.reduceLE, Int.reduceAdd, Int.reduceSub, Int.reduceToNat, UInt8.reduceToNat, h10, h11, h12, h14, h15, h16, h17, h18, h19, h20, h48, h49, h50, idxI, y2]
        rw [acode_draw]
        simp -implicitDefEqProofs only [go_sem, tys, regs0, Nat.reduceEqDiff, Nat.reduceAdd, Nat.reduceLeDiff, Nat.reduceLT, Nat.reduceMul, Int.natCast_one, Int.natCast_zero, Int.reduceEq, Int.reduceLT, Int.reduceLE, Int.reduceAdd, Int.reduceSub, Int.reduceToNat, UInt8.reduceToNat, h10, h11, h12, h14, h15, h16, h17, h18, h19, h20, h48, h49, h50, hv1, hw, encP, puZ, puH3, Int.toNat_one, Int.toNat_zero, Nat.zero_mul, Nat.one_mul]
        refine part_k hC1 hB1 hMB (fun G2 hC2 hB2 hF2 => ?_)
        have hx2 := hC2.hx
        have hv2 := (hF2 v hvq).trans hv1
        simp -implicitDefEqProofs only [go_sem, tys, regs0, Nat.reduceEqDiff, Nat.reduceAdd, Nat.reduceLeDiff, Nat.reduceLT, Nat.reduceMul, Int.natCast_one, Int.natCast_zero, Int.reduceEq, Int.reduceLT, Int.reduceLE, Int.reduceAdd, Int.reduceSub, Int.reduceToNat, UInt8.reduceToNat, h10, h11, h12, h14, h15, h16, h17, h18, h19, h20, h48, h49, h50]
        rw [acode_draw]
        simp -implicitDefEqProofs (disch := (first | omega | (simp only [List.length_append, List.length_cons, List.length_nil]; omega))) only [go_sem, binS_addD, tys, regs0, Nat.reduceEqDiff, Nat.reduceAdd, Nat.reduceLeDiff, Nat.reduceLT, Nat.reduceMul, Int.natCast_one, Int.natCast_zero, Int.reduceEq, Int.reduceLT, Int.reduceLE, Int.reduceAdd, Int.reduceSub, Int.reduceToNat, UInt8.reduceToNat, Go.IntWalk.i64_in, h10, h11, h12, h14, h15, h16, h17, h18, h19, h20, h48, h49, h50, hB2, hx2, hv2, hc, encS, Int.toNat_zero, Nat.zero_mul]
        have hC3 := hC2.op (.cells [.str ((partV x y z (mergeR x y z pa pb n) p.1 p.2 w.2).out ++ c)])
        have hv3 := (put_ne G2 q.op v (.cells [.str ((partV x y z (mergeR x y z pa pb n) p.1 p.2 w.2).out ++ c)]) (hvq _ (by simp [MI.l]))).trans hv2
        have hB3 := put_same G2 q.op (.cells [.str ((partV x y z (mergeR x y z pa pb n) p.1 p.2 w.2).out ++ c)])
        generalize G2.put q.op (.cells [.str ((partV x y z (mergeR x y z pa pb n) p.1 p.2 w.2).out ++ c)]) = G3 at *
        have hi2 := hC3.hi
        have hkk2 := hC3.hk
        have hm2 := hC3.hm
        have n0 := MI.ne hC3.nd
        have e1 : ¬ v = q.ip := hvq _ (by simp [MI.l])
        have e2 : ¬ v = q.kp := hvq _ (by simp [MI.l])
        have e3 : ¬ v = q.mp := hvq _ (by simp [MI.l])
        rw [acode_tree (t := ot17r) rfl (by rfl)]
        simp -implicitDefEqProofs only [go_sem, tys, regs0, Nat.reduceEqDiff, Nat.reduceAdd, Nat.reduceLeDiff, Nat.reduceLT, Nat.reduceMul, Int.natCast_one, Int.natCast_zero, Int.reduceEq, Int.reduceLT, Int.reduceLE, Int.reduceAdd, Int.reduceSub, Int.reduceToNat, UInt8.reduceToNat, h10, h11, h12, h14, h15, h16, h17, h18, h19, h20, h48, h49, h50, ot17r, stripO, hv3, hw, encP, wn, wi, wj, wk, hi2, hkk2, hm2, put_ne, n0, e1, e2, e3, Int.toNat_one, Int.toNat_zero, Nat.zero_mul, Nat.one_mul]
        have hfin := hC3.move (p.1 + 1) (p.2 + 1) (w.2 + 1) ((partV x y z (mergeR x y z pa pb n) p.1 p.2 w.2).out ++ c)
        have hfinB : (((G3.put q.ip (.cells [.int .i64 ((p.1 + 1 : Nat) : Int)])).put q.kp (.cells [.int .i64 ((p.2 + 1 : Nat) : Int)])).put q.mp (.cells [.int .i64 ((w.2 + 1 : Nat) : Int)])) q.op = some (.cells [.str ((partV x y z (mergeR x y z pa pb n) p.1 p.2 w.2).out ++ c)]) := by
          simp only [put_ne, n0, not_false_eq_true]; exact hB3
        repeat' (with_reducible refine And.intro ?_ ?_)
        all_goals exact Again.mk (n + 1) (by simp -implicitDefEqProofs only [go_sem, tys, regs0, Nat.reduceEqDiff, Nat.reduceAdd, Nat.reduceLeDiff, Nat.reduceLT, Nat.reduceMul, Int.natCast_one, Int.natCast_zero, Int.reduceEq, Int.reduceLT, Int.reduceLE, Int.reduceAdd, Int.reduceSub, Int.reduceToNat, UInt8.reduceToNat, h10, h11, h12, h14, h15, h16, h17, h18, h19, h20, h48, h49, h50]) ⟨by rw [hst]; exact hfin, by rw [hst]; exact hfinB, by rw [hst]; exact ⟨p.1 + 1, mok_out hstep rfl rfl rfl, by omega, hge2⟩, by omega⟩ (by omega)
    · simp only [decide_eq_false_iff_not] at g
      have e : n = pa.length := by omega
      subst e
      have hO := hO.to hn'
      have hss := hsm pa.length (by omega)
      have hMB := mok_end hO z4 z5 z6 z1 z2 z3 hss.1 hss.2
      have hx := hC.hx
      have hy := hC.hy
      have hz := hC.hz
      simp -implicitDefEqProofs only [go_sem, tys, regs0, Nat.reduceEqDiff, Nat.reduceAdd, Nat.reduceLeDiff, Nat.reduceLT, Nat.reduceMul, Int.natCast_one, Int.natCast_zero, Int.reduceEq, Int.reduceLT, Int.reduceLE, Int.reduceAdd, Int.reduceSub, Int.reduceToNat, UInt8.reduceToNat, h10, h11, h12, h14, h15, h16, h17, h18, h19, h20, h48, h49, h50, hx, hy, hz, puZ, puH3]
      refine part_k hC hB hMB (fun G1 hC1 hB1 hF1 => ?_)
      rw [hD2] at hC1 hB1
      have hc1 := hC1.hc
      by_cases cb : 65536 < (mergeD base a b).out.length
      · have y : decide ((65536 : Int) < ((mergeD base a b).out.length : Int)) = true := decide_eq_true (by omega)
        rw [if_pos cb] at hV
        simp -implicitDefEqProofs only [go_sem, tys, regs0, Nat.reduceEqDiff, Nat.reduceAdd, Nat.reduceLeDiff, Nat.reduceLT, Nat.reduceMul, Int.natCast_one, Int.natCast_zero, Int.reduceEq, Int.reduceLT, Int.reduceLE, Int.reduceAdd, Int.reduceSub, Int.reduceToNat, UInt8.reduceToNat, h15, h16, hB1, y]
        exact Done.drop hC1.sub ⟨by unfold mergeT; rw [hV], rfl⟩
      · have y : decide ((65536 : Int) < ((mergeD base a b).out.length : Int)) = false := decide_eq_false (by omega)
        rw [if_neg cb] at hV
        simp -implicitDefEqProofs only [go_sem, tys, regs0, Nat.reduceEqDiff, Nat.reduceAdd, Nat.reduceLeDiff, Nat.reduceLT, Nat.reduceMul, Int.natCast_one, Int.natCast_zero, Int.reduceEq, Int.reduceLT, Int.reduceLE, Int.reduceAdd, Int.reduceSub, Int.reduceToNat, UInt8.reduceToNat, h15, h16, hB1, y]
        rw [acode_draw]
        simp -implicitDefEqProofs only [go_sem, tys, regs0, Nat.reduceEqDiff, Nat.reduceAdd, Nat.reduceLeDiff, Nat.reduceLT, Nat.reduceMul, Int.natCast_one, Int.natCast_zero, Int.reduceEq, Int.reduceLT, Int.reduceLE, Int.reduceAdd, Int.reduceSub, Int.reduceToNat, UInt8.reduceToNat, h15, h16, hB1, hc1]
        exact Done.drop hC1.sub ⟨by unfold mergeT; rw [hV], rfl⟩
end Go.Proofs
