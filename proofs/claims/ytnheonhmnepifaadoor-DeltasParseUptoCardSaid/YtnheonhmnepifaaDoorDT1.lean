/- Walks: the law DeltasParse. -/
import Derived.Test.YtnheonhmnepifaaDoorDL1
namespace Go.Proofs
open Go Go.Abs
set_option linter.unusedSimpArgs false
set_option linter.unusedVariables false
set_option maxRecDepth 20000
def summedV (s : Bytes) : Bytes := s ++ rawB (hexN (sumOf s))
theorem summed_calls (s : Bytes) (H : Heap) (hs : s.length ≤ 1099511627776) : ACalls Tryd.prog 29 [.str s] H fun x H' => x = .str (summedV s) ∧ H' = H := by
  have hR : Room = 1099511627776 := rfl
  have q1 := sRaw_eq _ (sumOf_form s)
  have q2 := rawB_len (hexN (sumOf s))
  refine ACalls.of_code (X := { pure := puP4 }) puP4_ok Tryd.func29 (by kernel_rfl) rfl (by kernel_rfl) (Nat.le_of_ble_eq_true rfl) ?_
  simp -implicitDefEqProofs (disch := (first | omega | (simp only [List.length_append, List.length_cons, List.length_nil]; omega))) only [go_sem, binS_addD, tys, regs0, Nat.reduceEqDiff, Nat.reduceAdd, Nat.reduceLeDiff, Nat.reduceLT, Nat.reduceMul, Int.natCast_one, Int.natCast_zero, Int.reduceEq, Int.reduceLT, Int.reduceLE, Int.reduceAdd, Int.reduceSub, Int.reduceToNat, UInt8.reduceToNat, Go.IntWalk.i64_in, Tryd.f29, puP4, puM, puN, pu0, sSum_eq, hR, hs, q1]
  exact Done.now ⟨rfl, rfl⟩
def sSummed : List AV → Option AV := fn1 .str fun s => if s.length ≤ 1099511627776 then some (.str (summedV s)) else none
theorem sSummed_eq (s : Bytes) (h : s.length ≤ 1099511627776) : sSummed [.str s] = some (.str (summedV s)) := by
  unfold sSummed
  rw [fn1_eq, Rd.str_eq]
  simp only [Option.bind_some, if_pos h]
theorem sSummed_ok : ∀ xs v, sSummed xs = some v → ∀ H, ACalls Tryd.prog 29 xs H fun x H' => x = v ∧ H' = H := by
  intro xs v hv H
  obtain ⟨x, s, rfl, h1, h2⟩ := fn1_some hv
  cases Rd.str_some h1
  obtain ⟨h3, rfl⟩ := some_if h2
  exact summed_calls s H h3
def puT : Pures := putP 29 sSummed puG
theorem puT_ok : PuOK Tryd.prog puT := .put puG_ok sSummed_ok
theorem xorB (x y : UInt8) : xorI .u8 (x.toNat : Int) (y.toNat : Int) = ((x ^^^ y).toNat : Int) := by
  have hx := x.toNat_lt
  have hy := y.toNat_lt
  have e : (BitVec.ofInt IntKind.u8.bits (x.toNat : Int) ^^^ BitVec.ofInt IntKind.u8.bits (y.toNat : Int)).toNat = (x ^^^ y).toNat := by
    show (BitVec.ofInt 8 (x.toNat : Int) ^^^ BitVec.ofInt 8 (y.toNat : Int)).toNat = (x ^^^ y).toNat
    rw [BitVec.ofInt_natCast, BitVec.ofInt_natCast, BitVec.toNat_xor, UInt8.toNat_xor]
    simp only [BitVec.toNat_ofNat]
    rw [Nat.mod_eq_of_lt (show x.toNat < 2 ^ 8 by simpa using hx), Nat.mod_eq_of_lt (show y.toNat < 2 ^ 8 by simpa using hy)]
  unfold xorI
  rw [e]
  exact Go.IntWalk.u8_in _ (by have := (x ^^^ y).toNat_lt; omega)
theorem tmod_in (x : Int) (m : Nat) (hm : 0 < m) : -(m : Int) < x.tmod m ∧ x.tmod m < m := by
  have h1 := Int.tmod_lt_of_pos x (b := (m : Int)) (by omega)
  refine ⟨?_, h1⟩
  by_cases h : 0 ≤ x
  · have := Int.tmod_nonneg (m : Int) h
    omega
  · have h3 := Int.tmod_lt_of_pos (-x) (b := (m : Int)) (by omega)
    rw [Int.neg_tmod] at h3
    omega
def ot10t : OT := .seg [0, 2, 3, 4, 5, 6] (.or (.seg [1, 7, 8, 9] .done) (.seg [7, 1, 8, 9] .done))
set_option maxHeartbeats 6400000 in
theorem dparse_calls (a b : Bytes) (at_ cut : Int) (y : UInt8) (summed : Bool) (H : Heap) (ha : a.length ≤ 1048576) (hb : b.length ≤ 1048576) (h1 : inI at_) (h2 : inI cut) :
    ACalls Tryd.prog 6 [.str a, .str b, .int .i64 at_, .int .i64 cut, .int .u8 y.toNat, .bool summed] H fun x H' => x = .bool true ∧ H' = H := by
  have q6 := sMake_eq a b (by omega) (by omega)
  have hok := makeV_ok (a := a) (b := b)
  generalize makeV a b = mv at *
  obtain ⟨md, mf⟩ := mv
  unfold encDl at q6
  simp only at q6 hok
  refine ACalls.of_code (X := { pure := puT, tree := fun n => if n = 10 then some ot10t else none }) puT_ok Tryd.func6 (by kernel_rfl) rfl (by kernel_rfl) (Nat.le_of_ble_eq_true rfl) ?_
  simp -implicitDefEqProofs only [go_sem, tys, regs0, Nat.reduceEqDiff, Nat.reduceAdd, Nat.reduceLeDiff, Nat.reduceLT, Nat.reduceMul, Int.natCast_one, Int.natCast_zero, Int.reduceEq, Int.reduceLT, Int.reduceLE, Int.reduceAdd, Int.reduceSub, Int.reduceToNat, UInt8.reduceToNat, Tryd.f6, puT, puG, puF, puP8, puP7, puP6, puP5, puM, puN, pu0, sLandD, q6]
  with_reducible refine nwC_intro fun i13 hi13 => ?_
  simp -implicitDefEqProofs only [go_sem, tys, regs0, Nat.reduceEqDiff, Nat.reduceAdd, Nat.reduceLeDiff, Nat.reduceLT, Nat.reduceMul, Int.natCast_one, Int.natCast_zero, Int.reduceEq, Int.reduceLT, Int.reduceLE, Int.reduceAdd, Int.reduceSub, Int.reduceToNat, UInt8.reduceToNat]
  refine cnd_intro (fun g => ?_) (fun g => ?_)
  · simp -implicitDefEqProofs only [go_sem, tys, regs0, Nat.reduceEqDiff, Nat.reduceAdd, Nat.reduceLeDiff, Nat.reduceLT, Nat.reduceMul, Int.natCast_one, Int.natCast_zero, Int.reduceEq, Int.reduceLT, Int.reduceLE, Int.reduceAdd, Int.reduceSub, Int.reduceToNat, UInt8.reduceToNat]
    exact Done.drop1 hi13 ⟨rfl, rfl⟩
  simp only [decide_eq_false_iff_not, Decidable.not_not] at g
  obtain ⟨hmr, hmE⟩ := hok g
  have hl := print_len hmr hmE
  have p3 := sDl_eq vPD md .unk
  rw [vPD, if_pos ⟨hmr, hmE⟩] at p3
  unfold encDl at p3
  have hpl : 12 ≤ (printB md).length := by
    unfold printB bodyB headB
    simp only [List.length_append, rawB_len, List.length_cons]
    omega
  generalize printB md = k at *
  simp -implicitDefEqProofs only [go_sem, tys, regs0, Nat.reduceEqDiff, Nat.reduceAdd, Nat.reduceLeDiff, Nat.reduceLT, Nat.reduceMul, Int.natCast_one, Int.natCast_zero, Int.reduceEq, Int.reduceLT, Int.reduceLE, Int.reduceAdd, Int.reduceSub, Int.reduceToNat, UInt8.reduceToNat, puT, puG, puF, puP8, puP7, puP6, puP5, puM, puN, pu0, p3]
  refine conv_bytes (by simp -implicitDefEqProofs only [go_sem, tys, regs0, Nat.reduceEqDiff, Nat.reduceAdd, Nat.reduceLeDiff, Nat.reduceLT, Nat.reduceMul, Int.natCast_one, Int.natCast_zero, Int.reduceEq, Int.reduceLT, Int.reduceLE, Int.reduceAdd, Int.reduceSub, Int.reduceToNat, UInt8.reduceToNat]) (by simp -implicitDefEqProofs only [go_sem, tys, regs0, Nat.reduceEqDiff, Nat.reduceAdd, Nat.reduceLeDiff, Nat.reduceLT, Nat.reduceMul, Int.natCast_one, Int.natCast_zero, Int.reduceEq, Int.reduceLT, Int.reduceLE, Int.reduceAdd, Int.reduceSub, Int.reduceToNat, UInt8.reduceToNat]) (fun ik hik => ?_)
  obtain ⟨m, hm⟩ : ∃ m, m = k.length - 8 := ⟨_, rfl⟩
  have w1 : IntKind.i64.wrap ((k.length : Int) - 8) = (m : Int) := by rw [Go.IntWalk.i64_in _ (by omega)]; omega
  have w0 : ((m : Int) - 0).toNat = m := by omega
  have ht := tmod_in at_ m (by omega)
  have w2 : IntKind.i64.wrap (at_.tmod m + m) = at_.tmod m + m := Go.IntWalk.i64_in _ (by omega)
  obtain ⟨j, hj, hjm⟩ : ∃ j : Nat, (at_.tmod m + m).tmod m = (j : Int) ∧ j < m := by
    have h3 := Int.tmod_nonneg (a := at_.tmod m + m) m (by omega)
    have h4 := Int.tmod_lt_of_pos (at_.tmod m + m) (b := (m : Int)) (by omega)
    exact ⟨((at_.tmod m + m).tmod m).toNat, by omega, by omega⟩
  obtain ⟨c, hc⟩ : ∃ c, k[j]? = some c := getD_get' (by omega)
  have hx := xorB c y
  have w3 : ((j : Int)).toNat * 1 = j := by omega
  have hhd : (List.drop (j * 1) (k.map fun b => AV.int .u8 (b.toNat : Int))).head? = some (.int .u8 c.toNat) := by rw [Nat.mul_one, List.head?_drop, List.getElem?_map, hc]; rfl
  obtain ⟨q, hq, hqm⟩ : ∃ q : Nat, (m : Int) - min (max cut 0) (m : Int) = q ∧ q ≤ m := ⟨((m : Int) - min (max cut 0) (m : Int)).toNat, by omega, by omega⟩
  have w4 : IntKind.i64.wrap ((m : Int) - min (max cut 0) (m : Int)) = (q : Int) := by rw [hq]; exact Go.IntWalk.i64_in _ (by omega)
  simp -implicitDefEqProofs only [go_sem, tys, regs0, Nat.reduceEqDiff, Nat.reduceAdd, Nat.reduceLeDiff, Nat.reduceLT, Nat.reduceMul, Int.natCast_one, Int.natCast_zero, Int.reduceEq, Int.reduceLT, Int.reduceLE, Int.reduceAdd, Int.reduceSub, Int.reduceToNat, UInt8.reduceToNat, w1, w0, w2, hj, w3]
  refine ⟨by omega, by omega, by omega, by omega, ?_⟩
  simp -implicitDefEqProofs only [go_sem, tys, regs0, Nat.reduceEqDiff, Nat.reduceAdd, Nat.reduceLeDiff, Nat.reduceLT, Nat.reduceMul, Int.natCast_one, Int.natCast_zero, Int.reduceEq, Int.reduceLT, Int.reduceLE, Int.reduceAdd, Int.reduceSub, Int.reduceToNat, UInt8.reduceToNat, w1, w0, w2, hj, w3, hhd, hx, w4]
  refine ⟨by omega, by omega, by omega, ?_⟩
  have hset : (k.map fun b => AV.int .u8 (b.toNat : Int)).set (j * 1) (.int .u8 ((c ^^^ y).toNat : Int)) = (k.set j (c ^^^ y)).map fun b => AV.int .u8 (b.toNat : Int) := by rw [Nat.mul_one, List.map_set]
  rw [hset]
  have hkl : (k.set j (c ^^^ y)).length = k.length := List.length_set
  generalize k.set j (c ^^^ y) = k2 at *
  have hiH := (heap_none hik).2.2
  have hB := put_same (H.put i13 (.cells [.int .i64 md.old, .int .i64 md.new, .str md.osum, .str md.nsum, .sl (md.ps.map encPc) .unk])) ik (.cells (k2.map fun b => AV.int .u8 (b.toNat : Int)))
  have hS := ((Heap.Sub.rfl' H).put' hi13 (.cells [.int .i64 md.old, .int .i64 md.new, .str md.osum, .str md.nsum, .sl (md.ps.map encPc) .unk])).put' hiH (.cells (k2.map fun b => AV.int .u8 (b.toNat : Int)))
  generalize (H.put i13 (.cells [.int .i64 md.old, .int .i64 md.new, .str md.osum, .str md.nsum, .sl (md.ps.map encPc) .unk])).put ik (.cells (k2.map fun b => AV.int .u8 (b.toNat : Int))) = G at *
  have w5 : ((q : Int) - 0).toNat = q := by omega
  have w6 : ((k.length : Int) - m).toNat = 8 := by omega
  have hq8 : (k2.take q).length ≤ 2097152 := by rw [List.length_take]; omega
  have hm8 : (k2.drop m).length = 8 := by rw [List.length_drop]; omega
  with_reducible refine acode_mid (fun r G' => G' = G ∧ agrees r [(5, .bool summed), (16, .ms ik 0 q 1), (17, .str (k2.take q ++ k2.drop m))]) ?_ ?_
  rotate_left
  · rw [acode_tree (t := ot10t) rfl (by rfl)]
    simp -implicitDefEqProofs only [go_sem, tys, regs0, Nat.reduceEqDiff, Nat.reduceAdd, Nat.reduceLeDiff, Nat.reduceLT, Nat.reduceMul, Int.natCast_one, Int.natCast_zero, Int.reduceEq, Int.reduceLT, Int.reduceLE, Int.reduceAdd, Int.reduceSub, Int.reduceToNat, UInt8.reduceToNat, ot10t, stripO, w1, w5, w6, Int.toNat_natCast]
    have c1 : ((k2.map fun b => AV.int .u8 (b.toNat : Int)).drop 0).take q = (k2.take q).map fun b => AV.int .u8 (b.toNat : Int) := by rw [List.drop_zero, List.map_take]
    have c2 : ((k2.map fun b => AV.int .u8 (b.toNat : Int)).drop (m * 1)).take 8 = (k2.drop m).map fun b => AV.int .u8 (b.toNat : Int) := by rw [Nat.mul_one, ← List.map_drop]; exact List.take_of_length_le (by rw [List.length_map]; omega)
    refine ⟨⟨by omega, by omega⟩, ?_⟩
    have hlc : (k2.map fun b => AV.int .u8 (b.toNat : Int)).length = k.length := by rw [List.length_map, hkl]
    repeat' first
      | (with_reducible refine And.intro ?_ ?_)
      | (refine conv_ms (l := k2.take q) (by simp -implicitDefEqProofs only [go_sem, tys, regs0, Nat.reduceEqDiff, Nat.reduceAdd, Nat.reduceLeDiff, Nat.reduceLT, Nat.reduceMul, Int.natCast_one, Int.natCast_zero, Int.reduceEq, Int.reduceLT, Int.reduceLE, Int.reduceAdd, Int.reduceSub, Int.reduceToNat, UInt8.reduceToNat]) (by simp -implicitDefEqProofs only [go_sem, tys, regs0, Nat.reduceEqDiff, Nat.reduceAdd, Nat.reduceLeDiff, Nat.reduceLT, Nat.reduceMul, Int.natCast_one, Int.natCast_zero, Int.reduceEq, Int.reduceLT, Int.reduceLE, Int.reduceAdd, Int.reduceSub, Int.reduceToNat, UInt8.reduceToNat]) hB (by omega) c1 ?_
         simp -implicitDefEqProofs (disch := (first | omega | (simp only [List.length_append, List.length_cons, List.length_nil]; omega))) only [go_sem, binS_addD, tys, regs0, Nat.reduceEqDiff, Nat.reduceAdd, Nat.reduceLeDiff, Nat.reduceLT, Nat.reduceMul, Int.natCast_one, Int.natCast_zero, Int.reduceEq, Int.reduceLT, Int.reduceLE, Int.reduceAdd, Int.reduceSub, Int.reduceToNat, UInt8.reduceToNat, Go.IntWalk.i64_in, stripO])
      | (refine conv_ms (l := k2.drop m) (by simp -implicitDefEqProofs only [go_sem, tys, regs0, Nat.reduceEqDiff, Nat.reduceAdd, Nat.reduceLeDiff, Nat.reduceLT, Nat.reduceMul, Int.natCast_one, Int.natCast_zero, Int.reduceEq, Int.reduceLT, Int.reduceLE, Int.reduceAdd, Int.reduceSub, Int.reduceToNat, UInt8.reduceToNat]) (by simp -implicitDefEqProofs only [go_sem, tys, regs0, Nat.reduceEqDiff, Nat.reduceAdd, Nat.reduceLeDiff, Nat.reduceLT, Nat.reduceMul, Int.natCast_one, Int.natCast_zero, Int.reduceEq, Int.reduceLT, Int.reduceLE, Int.reduceAdd, Int.reduceSub, Int.reduceToNat, UInt8.reduceToNat]) hB (by omega) c2 ?_
         simp -implicitDefEqProofs (disch := (first | omega | (simp only [List.length_append, List.length_cons, List.length_nil]; omega))) only [go_sem, binS_addD, tys, regs0, Nat.reduceEqDiff, Nat.reduceAdd, Nat.reduceLeDiff, Nat.reduceLT, Nat.reduceMul, Int.natCast_one, Int.natCast_zero, Int.reduceEq, Int.reduceLT, Int.reduceLE, Int.reduceAdd, Int.reduceSub, Int.reduceToNat, UInt8.reduceToNat, Go.IntWalk.i64_in, stripO])
  rintro r G' ⟨rfl, hv⟩
  have h5 := hv.1
  have h16 := hv.2.1
  have h17 := hv.2.2.1
  clear hv
  simp -implicitDefEqProofs only [go_sem, tys, regs0, Nat.reduceEqDiff, Nat.reduceAdd, Nat.reduceLeDiff, Nat.reduceLT, Nat.reduceMul, Int.natCast_one, Int.natCast_zero, Int.reduceEq, Int.reduceLT, Int.reduceLE, Int.reduceAdd, Int.reduceSub, Int.reduceToNat, UInt8.reduceToNat, h5, h16, h17]
  have hsl : (k2.take q ++ k2.drop m).length ≤ 1099511627776 := by rw [List.length_append]; omega
  generalize k2.take q ++ k2.drop m = s0 at *
  with_reducible refine cnd_mid (fun r G2 => G2 = G' ∧ ∃ s : Bytes, s.length ≤ 1099511627776 ∧ agrees r [(17, .str s)]) ?_ ?_
  rotate_left
  · refine cnd_intro (fun g => ?_) (fun g => ?_)
    · simp -implicitDefEqProofs only [go_sem, tys, regs0, Nat.reduceEqDiff, Nat.reduceAdd, Nat.reduceLeDiff, Nat.reduceLT, Nat.reduceMul, Int.natCast_one, Int.natCast_zero, Int.reduceEq, Int.reduceLT, Int.reduceLE, Int.reduceAdd, Int.reduceSub, Int.reduceToNat, UInt8.reduceToNat, h5, h16, h17]
      refine conv_ms (l := k2.take q) (by simp -implicitDefEqProofs only [go_sem, tys, regs0, Nat.reduceEqDiff, Nat.reduceAdd, Nat.reduceLeDiff, Nat.reduceLT, Nat.reduceMul, Int.natCast_one, Int.natCast_zero, Int.reduceEq, Int.reduceLT, Int.reduceLE, Int.reduceAdd, Int.reduceSub, Int.reduceToNat, UInt8.reduceToNat]) (by simp -implicitDefEqProofs only [go_sem, tys, regs0, Nat.reduceEqDiff, Nat.reduceAdd, Nat.reduceLeDiff, Nat.reduceLT, Nat.reduceMul, Int.natCast_one, Int.natCast_zero, Int.reduceEq, Int.reduceLT, Int.reduceLE, Int.reduceAdd, Int.reduceSub, Int.reduceToNat, UInt8.reduceToNat]) hB (by rw [List.length_map]; omega) (by rw [List.drop_zero, List.map_take]) ?_
      have q1 := sSummed_eq (k2.take q) (by omega)
      simp -implicitDefEqProofs only [go_sem, tys, regs0, Nat.reduceEqDiff, Nat.reduceAdd, Nat.reduceLeDiff, Nat.reduceLT, Nat.reduceMul, Int.natCast_one, Int.natCast_zero, Int.reduceEq, Int.reduceLT, Int.reduceLE, Int.reduceAdd, Int.reduceSub, Int.reduceToNat, UInt8.reduceToNat, puT, puG, puF, puP8, puP7, puP6, puP5, puM, puN, pu0, q1]
      exact ⟨summedV (k2.take q), by unfold summedV; rw [List.length_append, rawB_len]; omega, by simp -implicitDefEqProofs only [go_sem, tys, regs0, Nat.reduceEqDiff, Nat.reduceAdd, Nat.reduceLeDiff, Nat.reduceLT, Nat.reduceMul, Int.natCast_one, Int.natCast_zero, Int.reduceEq, Int.reduceLT, Int.reduceLE, Int.reduceAdd, Int.reduceSub, Int.reduceToNat, UInt8.reduceToNat]⟩
    · simp -implicitDefEqProofs only [go_sem, tys, regs0, Nat.reduceEqDiff, Nat.reduceAdd, Nat.reduceLeDiff, Nat.reduceLT, Nat.reduceMul, Int.natCast_one, Int.natCast_zero, Int.reduceEq, Int.reduceLT, Int.reduceLE, Int.reduceAdd, Int.reduceSub, Int.reduceToNat, UInt8.reduceToNat, h5, h16, h17]
      exact ⟨s0, hsl, by simp -implicitDefEqProofs only [go_sem, tys, regs0, Nat.reduceEqDiff, Nat.reduceAdd, Nat.reduceLeDiff, Nat.reduceLT, Nat.reduceMul, Int.natCast_one, Int.natCast_zero, Int.reduceEq, Int.reduceLT, Int.reduceLE, Int.reduceAdd, Int.reduceSub, Int.reduceToNat, UInt8.reduceToNat, h17]⟩
  rintro r G2 ⟨rfl, s, hs, hv⟩
  have h17 := hv.1
  clear hv
  have q3 := sParse_eq s hs
  have q5 := sSame_eq (parseV s).1 (parseV s).1 .unk .unk (parseV_len s)
  generalize parseV s = pv at *
  obtain ⟨pd, pf⟩ := pv
  unfold encDl at q3 q5
  simp only at q3 q5
  simp -implicitDefEqProofs only [go_sem, tys, regs0, Nat.reduceEqDiff, Nat.reduceAdd, Nat.reduceLeDiff, Nat.reduceLT, Nat.reduceMul, Int.natCast_one, Int.natCast_zero, Int.reduceEq, Int.reduceLT, Int.reduceLE, Int.reduceAdd, Int.reduceSub, Int.reduceToNat, UInt8.reduceToNat, h17, puT, puG, puF, puP8, puP7, puP6, puP5, puM, puN, pu0, q3]
  with_reducible refine nwC_intro fun i18 hi18 => ?_
  simp -implicitDefEqProofs only [go_sem, tys, regs0, Nat.reduceEqDiff, Nat.reduceAdd, Nat.reduceLeDiff, Nat.reduceLT, Nat.reduceMul, Int.natCast_one, Int.natCast_zero, Int.reduceEq, Int.reduceLT, Int.reduceLE, Int.reduceAdd, Int.reduceSub, Int.reduceToNat, UInt8.reduceToNat, h17, puT, puG, puF, puP8, puP7, puP6, puP5, puM, puN, pu0, q3]
  with_reducible refine nwC_intro fun i20 hi20 => ?_
  have n1 := (heap_none hi20).1
  have n2 := (heap_none hi20).2.1
  have hi20G := (heap_none hi20).2.2
  simp -implicitDefEqProofs only [go_sem, tys, regs0, Nat.reduceEqDiff, Nat.reduceAdd, Nat.reduceLeDiff, Nat.reduceLT, Nat.reduceMul, Int.natCast_one, Int.natCast_zero, Int.reduceEq, Int.reduceLT, Int.reduceLE, Int.reduceAdd, Int.reduceSub, Int.reduceToNat, UInt8.reduceToNat, h17, puT, puG, puF, puP8, puP7, puP6, puP5, puM, puN, pu0, q3, q5, put_ne, n1, n2]
  exact Done.drop ((hS.put' (sub_none hS hi18) _).put' (sub_none hS hi20G) _) ⟨rfl, rfl⟩
end Go.Proofs
