/- Walks: sums, of the program and of the reference. -/
import Derived.Test.YtnheonhmnepifaaDoorD1
import Derived.Test.YtnheonhmnepifaaDoorP3
namespace Go.Proofs
open Go Go.Abs
set_option linter.unusedSimpArgs false
set_option linter.unusedVariables false
def encB (b : UInt8) : AV := .int .u8 b.toNat
set_option maxHeartbeats 1600000 in
theorem sumOf_calls (s : Bytes) (H : Heap) (hs : s.length ≤ Room) : ACalls Tryd.prog 75 [.str s] H fun x H' => x = .str (sumOf s) ∧ H' = H := by
  have hR : Room = 1099511627776 := rfl
  rw [hR] at hs
  clear hR
  refine ACalls.of_code (X := { pure := puN }) puN_ok Tryd.func75 (by kernel_rfl) rfl (by kernel_rfl) (Nat.le_of_ble_eq_true rfl) ?_
  simp -implicitDefEqProofs only [go_sem, tys, regs0, Nat.reduceEqDiff, Nat.reduceAdd, Nat.reduceLeDiff, Nat.reduceLT, Nat.reduceMul, Int.natCast_one, Int.natCast_zero, Int.reduceEq, Int.reduceLT, Int.reduceLE, Int.reduceAdd, Int.reduceSub, Int.reduceToNat, UInt8.reduceToNat, Tryd.f75]
  refine aloop_intro (σ := Nat) (fun i => [(0, .str s), (3, .int .u64 (fnv (s.take i))), (4, .int .i64 i)]) (fun i G => G = H ∧ i ≤ s.length) (fun i => s.length - i) 0 ?_ ?_ ?_
  · simp -implicitDefEqProofs only [go_sem, tys, regs0, Nat.reduceEqDiff, Nat.reduceAdd, Nat.reduceLeDiff, Nat.reduceLT, Nat.reduceMul, Int.natCast_one, Int.natCast_zero, Int.reduceEq, Int.reduceLT, Int.reduceLE, Int.reduceAdd, Int.reduceSub, Int.reduceToNat, UInt8.reduceToNat]
    simp [fnv]
  · simp
  · intro i r G hv hI
    have h0 := hv.1
    have h3 := hv.2.1
    have h4 := hv.2.2.1
    have hG := hI.1.symm
    have hi := hI.2
    clear hv hI
    subst hG
    simp -implicitDefEqProofs only [go_sem, tys, regs0, Nat.reduceEqDiff, Nat.reduceAdd, Nat.reduceLeDiff, Nat.reduceLT, Nat.reduceMul, Int.natCast_one, Int.natCast_zero, Int.reduceEq, Int.reduceLT, Int.reduceLE, Int.reduceAdd, Int.reduceSub, Int.reduceToNat, UInt8.reduceToNat, h0, h3, h4]
    refine cnd_intro (fun h => ?_) (fun h => ?_)
    · simp only [decide_eq_true_eq] at h
      obtain ⟨c, hc⟩ : ∃ c, s[i]? = some c := ⟨s[i]'(by omega), List.getElem?_eq_getElem _⟩
      simp -implicitDefEqProofs (disch := omega) only [go_sem, tys, regs0, Nat.reduceEqDiff, Nat.reduceAdd, Nat.reduceLeDiff, Nat.reduceLT, Nat.reduceMul, Int.natCast_one, Int.natCast_zero, Int.reduceEq, Int.reduceLT, Int.reduceLE, Int.reduceAdd, Int.reduceSub, Int.reduceToNat, UInt8.reduceToNat, Go.IntWalk.i64_in, h0, h3, h4, hc, u64_byte]
      refine Again.mk (i + 1) (by simp -implicitDefEqProofs only [go_sem, tys, regs0, Nat.reduceEqDiff, Nat.reduceAdd, Nat.reduceLeDiff, Nat.reduceLT, Nat.reduceMul, Int.natCast_one, Int.natCast_zero, Int.reduceEq, Int.reduceLT, Int.reduceLE, Int.reduceAdd, Int.reduceSub, Int.reduceToNat, UInt8.reduceToNat, h0, h3, h4]; rw [fnv_succ hc]; exact ⟨rfl, rfl⟩) ⟨rfl, by omega⟩ (by omega)
    · simp only [decide_eq_false_iff_not] at h
      have e : i = s.length := by omega
      subst e
      rw [List.take_length, fnvN_eq] at h3
      have hn := fnvN_lt s
      unfold sumOf
      generalize fnvN s = n at *
      simp -implicitDefEqProofs only [go_sem, tys, regs0, Nat.reduceEqDiff, Nat.reduceAdd, Nat.reduceLeDiff, Nat.reduceLT, Nat.reduceMul, Int.natCast_one, Int.natCast_zero, Int.reduceEq, Int.reduceLT, Int.reduceLE, Int.reduceAdd, Int.reduceSub, Int.reduceToNat, UInt8.reduceToNat, h0, h3, h4]
      with_reducible refine makeSlice_ms (e := tiU8) ?_ ?_ ?_ ?_ ?_ ?_
      · simp -implicitDefEqProofs only [go_sem, tys, regs0, Nat.reduceEqDiff, Nat.reduceAdd, Nat.reduceLeDiff, Nat.reduceLT, Nat.reduceMul, Int.natCast_one, Int.natCast_zero, Int.reduceEq, Int.reduceLT, Int.reduceLE, Int.reduceAdd, Int.reduceSub, Int.reduceToNat, UInt8.reduceToNat]
      · decide
      · omega
      · decide
      · decide
      intro id hid
      simp -implicitDefEqProofs only [go_sem, tys, regs0, Nat.reduceEqDiff, Nat.reduceAdd, Nat.reduceLeDiff, Nat.reduceLT, Nat.reduceMul, Int.natCast_one, Int.natCast_zero, Int.reduceEq, Int.reduceLT, Int.reduceLE, Int.reduceAdd, Int.reduceSub, Int.reduceToNat, UInt8.reduceToNat, h0, h3, h4]
      refine aloop_intro (σ := Nat) (fun i => [(0, .str s), (3, .int .u64 n), (5, .ms id 0 16 1), (22, .int .i64 16), (23, .int .i64 i)]) (fun i G => G = H.put id (.cells (fillL (.int .u8 0) (((hexPad 16 n).take i).map encB) 16)) ∧ i ≤ 16) (fun i => 16 - i) 0 ?_ ?_ ?_
      · simp -implicitDefEqProofs only [go_sem, tys, regs0, Nat.reduceEqDiff, Nat.reduceAdd, Nat.reduceLeDiff, Nat.reduceLT, Nat.reduceMul, Int.natCast_one, Int.natCast_zero, Int.reduceEq, Int.reduceLT, Int.reduceLE, Int.reduceAdd, Int.reduceSub, Int.reduceToNat, UInt8.reduceToNat, h0, h3]
      · refine ⟨?_, by omega⟩
        congr 1
      · intro i r G hv hI
        have h0 := hv.1
        have h3 := hv.2.1
        have h5 := hv.2.2.1
        have h22 := hv.2.2.2.1
        have h23 := hv.2.2.2.2.1
        have hG := hI.1.symm
        have hi := hI.2
        clear hv hI
        subst hG
        have hlen : (((hexPad 16 n).take i).map encB).length = i := by simp [hexPad_len]; omega
        simp -implicitDefEqProofs only [go_sem, tys, regs0, Nat.reduceEqDiff, Nat.reduceAdd, Nat.reduceLeDiff, Nat.reduceLT, Nat.reduceMul, Int.natCast_one, Int.natCast_zero, Int.reduceEq, Int.reduceLT, Int.reduceLE, Int.reduceAdd, Int.reduceSub, Int.reduceToNat, UInt8.reduceToNat, h0, h3, h5, h22, h23]
        refine cnd_intro (fun h => ?_) (fun h => ?_)
        · simp only [decide_eq_true_eq] at h
          have e2 := shrN n (60 - 4 * i) ((60 : Int) - 4 * i) (by omega) (by omega)
          have hlt : n / 2 ^ (60 - 4 * i) < 18446744073709551616 := Nat.lt_of_le_of_lt (Nat.div_le_self _ _) hn
          have e3 := and15 _ hlt
          have e4 := dig_get (n / 2 ^ (60 - 4 * i) % 16) (Nat.mod_lt _ (by omega))
          simp -implicitDefEqProofs (disch := omega) only [go_sem, tys, regs0, Nat.reduceEqDiff, Nat.reduceAdd, Nat.reduceLeDiff, Nat.reduceLT, Nat.reduceMul, Int.natCast_one, Int.natCast_zero, Int.reduceEq, Int.reduceLT, Int.reduceLE, Int.reduceAdd, Int.reduceSub, Int.reduceToNat, UInt8.reduceToNat, Go.IntWalk.i64_in, h0, h3, h5, h22, h23, e2, e3, e4]
          refine ⟨by omega, by omega, by rw [fillL_len (by omega)]; omega, ?_⟩
          have hg := hexPad_get2 n i (by omega)
          clear e2 e3 e4 hlt
          generalize dig (n / 2 ^ (60 - 4 * i) % 16) = d at hg
          have e5 : (fillL (AV.int .u8 0) (((hexPad 16 n).take i).map encB) 16).set (i * 1) (.int .u8 (d.toNat : Int)) = fillL (.int .u8 0) (((hexPad 16 n).take (i + 1)).map encB) 16 := by
            have := fillL_set (z := AV.int .u8 0) (done := ((hexPad 16 n).take i).map encB) (n := 16) (by omega) (encB d)
            rw [hlen] at this
            rw [Nat.mul_one]
            have e6 : ((hexPad 16 n).take i).map encB ++ [encB d] = ((hexPad 16 n).take (i + 1)).map encB := by
              rw [List.take_add_one, hg, List.map_append]
              rfl
            rw [e6] at this
            exact this
          rw [e5]
          exact Again.mk (i + 1) (by simp -implicitDefEqProofs only [go_sem, tys, regs0, Nat.reduceEqDiff, Nat.reduceAdd, Nat.reduceLeDiff, Nat.reduceLT, Nat.reduceMul, Int.natCast_one, Int.natCast_zero, Int.reduceEq, Int.reduceLT, Int.reduceLE, Int.reduceAdd, Int.reduceSub, Int.reduceToNat, UInt8.reduceToNat, h0, h3, h5, h22, h23]; exact rfl) ⟨rfl, by omega⟩ (by omega)
        · simp only [decide_eq_false_iff_not] at h
          have e : i = 16 := by omega
          subst e
          simp -implicitDefEqProofs only [go_sem, tys, regs0, Nat.reduceEqDiff, Nat.reduceAdd, Nat.reduceLeDiff, Nat.reduceLT, Nat.reduceMul, Int.natCast_one, Int.natCast_zero, Int.reduceEq, Int.reduceLT, Int.reduceLE, Int.reduceAdd, Int.reduceSub, Int.reduceToNat, UInt8.reduceToNat, h0, h3, h5, h22, h23]
          have ef : fillL (AV.int .u8 0) (((hexPad 16 n).take 16).map encB) 16 = (hexPad 16 n).map encB := by
            rw [List.take_of_length_le (by rw [hexPad_len]; omega)]
            have := fillL_full (z := AV.int .u8 0) (done := (hexPad 16 n).map encB)
            rwa [List.length_map, hexPad_len] at this
          rw [ef]
          with_reducible refine conv_ms (l := hexPad 16 n) ?_ ?_ (put_same _ _ _) ?_ ?_ ?_
          · simp -implicitDefEqProofs only [go_sem, tys, regs0, Nat.reduceEqDiff, Nat.reduceAdd, Nat.reduceLeDiff, Nat.reduceLT, Nat.reduceMul, Int.natCast_one, Int.natCast_zero, Int.reduceEq, Int.reduceLT, Int.reduceLE, Int.reduceAdd, Int.reduceSub, Int.reduceToNat, UInt8.reduceToNat]
          · simp -implicitDefEqProofs only [go_sem, tys, regs0, Nat.reduceEqDiff, Nat.reduceAdd, Nat.reduceLeDiff, Nat.reduceLT, Nat.reduceMul, Int.natCast_one, Int.natCast_zero, Int.reduceEq, Int.reduceLT, Int.reduceLE, Int.reduceAdd, Int.reduceSub, Int.reduceToNat, UInt8.reduceToNat]
          · simp [hexPad_len]
          · rw [List.drop_zero, List.take_of_length_le (by simp [hexPad_len])]; rfl
          simp -implicitDefEqProofs only [go_sem, tys, regs0, Nat.reduceEqDiff, Nat.reduceAdd, Nat.reduceLeDiff, Nat.reduceLT, Nat.reduceMul, Int.natCast_one, Int.natCast_zero, Int.reduceEq, Int.reduceLT, Int.reduceLE, Int.reduceAdd, Int.reduceSub, Int.reduceToNat, UInt8.reduceToNat]
          exact Done.drop (fun i o ho => by rw [put_ne]; exact ho; intro e; subst e; rw [hid] at ho; cases ho) ⟨rfl, rfl⟩
/-! ### The reference's: the digits without zeros, and zeros before them -/
theorem isPow2_calls (H : Heap) : ACalls Tryd.prog 150 [.int .i64 16] H fun x H' => x = .bool true ∧ H' = H := by
  refine ACalls.of_code (X := { pure := puN }) puN_ok Tryd.func150 (by kernel_rfl) rfl (by kernel_rfl) (Nat.le_of_ble_eq_true rfl) ?_
  simp -implicitDefEqProofs only [go_sem, tys, regs0, Nat.reduceEqDiff, Nat.reduceAdd, Nat.reduceLeDiff, Nat.reduceLT, Nat.reduceMul, Int.natCast_one, Int.natCast_zero, Int.reduceEq, Int.reduceLT, Int.reduceLE, Int.reduceAdd, Int.reduceSub, Int.reduceToNat, UInt8.reduceToNat, Tryd.f150]
  exact Done.now ⟨by rw [show IntKind.i64.wrap 15 = 15 from by decide, show andI .i64 16 15 = 0 from by decide]; rfl, rfl⟩
theorem tz64_calls (H : Heap) : ACalls Tryd.prog 161 [.int .u64 16] H fun x H' => x = .int .i64 4 ∧ H' = H := by
  have e1 : IntKind.u64.wrap (-16) = 18446744073709551600 := by decide
  have e2 : andI .u64 16 18446744073709551600 = 16 := by decide
  have e3 : IntKind.u64.wrap (16 * 285870213051353865) = 4573923408821661840 := by decide
  have e4 : shrI .u64 4573923408821661840 58 = 15 := by decide
  have e5 : IntKind.i64.wrap 4 = 4 := by decide
  have e6 : IntKind.u64.wrap 4573923408821661840 = 4573923408821661840 := by decide
  refine ACalls.of_code (X := { pure := puN }) puN_ok Tryd.func161 (by kernel_rfl) rfl (by kernel_rfl) (Nat.le_of_ble_eq_true rfl) ?_
  simp -implicitDefEqProofs only [go_sem, tys, regs0, Nat.reduceEqDiff, Nat.reduceAdd, Nat.reduceLeDiff, Nat.reduceLT, Nat.reduceMul, Int.natCast_one, Int.natCast_zero, Int.reduceEq, Int.reduceLT, Int.reduceLE, Int.reduceAdd, Int.reduceSub, Int.reduceToNat, UInt8.reduceToNat, Tryd.f161, e1, e2, e3, e4, e5, e6, Int.reduceMul]
  exact Done.now ⟨rfl, rfl⟩
theorem tz_calls (H : Heap) : ACalls Tryd.prog 151 [.int .u64 16] H fun x H' => x = .int .i64 4 ∧ H' = H := by
  refine ACalls.of_code (X := { pure := pu0 }) pu0_ok Tryd.func151 (by kernel_rfl) rfl (by kernel_rfl) (Nat.le_of_ble_eq_true rfl) ?_
  simp -implicitDefEqProofs only [go_sem, tys, regs0, Nat.reduceEqDiff, Nat.reduceAdd, Nat.reduceLeDiff, Nat.reduceLT, Nat.reduceMul, Int.natCast_one, Int.natCast_zero, Int.reduceEq, Int.reduceLT, Int.reduceLE, Int.reduceAdd, Int.reduceSub, Int.reduceToNat, UInt8.reduceToNat, Tryd.f151]
  refine ACalls.pure_next _ (tz64_calls _) ?_
  simp -implicitDefEqProofs only [go_sem, tys, regs0, Nat.reduceEqDiff, Nat.reduceAdd, Nat.reduceLeDiff, Nat.reduceLT, Nat.reduceMul, Int.natCast_one, Int.natCast_zero, Int.reduceEq, Int.reduceLT, Int.reduceLE, Int.reduceAdd, Int.reduceSub, Int.reduceToNat, UInt8.reduceToNat]
  exact Done.now ⟨rfl, rfl⟩
def sPow2 : List AV → Option AV := fn1 (.int .i64) fun n => if n = 16 then some (.bool true) else none
theorem sPow2_eq (n : Int) : sPow2 [.int .i64 n] = if n = 16 then some (.bool true) else none := rfl
def sTz : List AV → Option AV := fn1 (.int .u64) fun n => if n = 16 then some (.int .i64 4) else none
theorem sTz_eq (n : Int) : sTz [.int .u64 n] = if n = 16 then some (.int .i64 4) else none := rfl
def puS1 : Pures := putP 151 sTz (putP 150 sPow2 puN)
theorem puS1_ok : PuOK Tryd.prog puS1 := by
  refine PuOK.put (PuOK.put puN_ok ?_) ?_ <;> intro xs v h H <;> obtain ⟨x, n, rfl, h1, h2⟩ := fn1_some h <;> cases Rd.int_some h1 <;> split at h2 <;> cases h2 <;> rename_i hn <;> subst hn
  · exact isPow2_calls H
  · exact tz_calls H
theorem pow4 (u k : Nat) (h : u < 16 ^ (k + 1)) : u / 16 < 16 ^ k := by
  rw [Nat.div_lt_iff_lt_mul (by omega), ← Nat.pow_succ]; exact h
set_option maxHeartbeats 1600000 in
theorem formatBits_calls (n : Nat) (hn : n < 18446744073709551616) (H : Heap) :
    ACalls Tryd.prog 135 [.sl [] .exact, .int .u64 n, .int .i64 16, .bool false, .bool false] H fun x H' => x = .tup [.sl [] .exact, .str (hexMin n)] ∧ H' = H := by
  have c1 : IntKind.u64.wrap 4 = 4 := by decide
  have c2 : IntKind.u64.wrap 16 = 16 := by decide
  have c3 : IntKind.u64.wrap 15 = 15 := by decide
  have c4 : IntKind.i64.wrap 64 = 64 := by decide
  refine ACalls.of_code (X := { pure := puS1 }) puS1_ok Tryd.func135 (by kernel_rfl) rfl (by kernel_rfl) (Nat.le_of_ble_eq_true rfl) ?_
  simp -implicitDefEqProofs only [go_sem, tys, regs0, Nat.reduceEqDiff, Nat.reduceAdd, Nat.reduceLeDiff, Nat.reduceLT, Nat.reduceMul, Int.natCast_one, Int.natCast_zero, Int.reduceEq, Int.reduceLT, Int.reduceLE, Int.reduceAdd, Int.reduceSub, Int.reduceToNat, UInt8.reduceToNat, Tryd.f135, puS1, sTz_eq, sPow2_eq, c1, c2, c3]
  refine nwC_intro fun id hid => ?_
  simp -implicitDefEqProofs only [go_sem, tys, regs0, Nat.reduceEqDiff, Nat.reduceAdd, Nat.reduceLeDiff, Nat.reduceLT, Nat.reduceMul, Int.natCast_one, Int.natCast_zero, Int.reduceEq, Int.reduceLT, Int.reduceLE, Int.reduceAdd, Int.reduceSub, Int.reduceToNat, UInt8.reduceToNat, puS1, sTz_eq, sPow2_eq, c1, c2, c3]
  have hz : ∀ l : List AV, l = fillR (.int .u8 0) 65 [] → H.put id (.cells l) = H.put id (.cells (fillR (.int .u8 0) 65 [])) := fun l h => by rw [h]
  rw [hz _ (by rfl)]
  clear hz
  refine aloop_intro (σ := Bytes × Nat) (fun p => [(1, .int .u64 p.2), (3, .bool false), (4, .bool false), (10, .sl [] .exact), (12, .ptr id 0), (13, .int .i64 ((65 - p.1.length : Nat) : Int)), (14, .int .u64 4), (15, .int .u64 16), (16, .int .u64 15)])
    (fun p G => G = H.put id (.cells (fillR (.int .u8 0) (65 - p.1.length) (p.1.map encB))) ∧ p.1.length ≤ 15 ∧ p.2 < 16 ^ (16 - p.1.length) ∧ hexMin n = hexMin p.2 ++ p.1) (fun p => p.2) ([], n) ?_ ?_ ?_
  · simp -implicitDefEqProofs only [go_sem, tys, regs0, Nat.reduceEqDiff, Nat.reduceAdd, Nat.reduceLeDiff, Nat.reduceLT, Nat.reduceMul, Int.natCast_one, Int.natCast_zero, Int.reduceEq, Int.reduceLT, Int.reduceLE, Int.reduceAdd, Int.reduceSub, Int.reduceToNat, UInt8.reduceToNat]
    rfl
  · exact ⟨rfl, by simp, by simpa using hn, by simp⟩
  · intro p r G hv hI
    have h1 := hv.1
    have h3 := hv.2.1
    have h4 := hv.2.2.1
    have h10 := hv.2.2.2.1
    have h12 := hv.2.2.2.2.1
    have h13 := hv.2.2.2.2.2.1
    have h14 := hv.2.2.2.2.2.2.1
    have h15 := hv.2.2.2.2.2.2.2.1
    have h16 := hv.2.2.2.2.2.2.2.2.1
    have hG := hI.1.symm
    have ht := hI.2.1
    have hu := hI.2.2.1
    have hm := hI.2.2.2
    clear hv hI
    subst hG
    obtain ⟨t, u⟩ := p
    simp only at h1 h13 ht hu hm ⊢
    simp -implicitDefEqProofs only [go_sem, tys, regs0, Nat.reduceEqDiff, Nat.reduceAdd, Nat.reduceLeDiff, Nat.reduceLT, Nat.reduceMul, Int.natCast_one, Int.natCast_zero, Int.reduceEq, Int.reduceLT, Int.reduceLE, Int.reduceAdd, Int.reduceSub, Int.reduceToNat, UInt8.reduceToNat, h1, h15]
    refine cnd_intro (fun h => ?_) (fun h => ?_)
    · simp only [decide_eq_true_eq] at h
      have hu16 : 16 ≤ u := by omega
      have hlen : t.length ≤ 14 := by
        rcases Nat.lt_or_ge t.length 15 with h | h
        · omega
        · have : t.length = 15 := by omega
          rw [this] at hu; simp at hu; omega
      have hub : u < 18446744073709551616 := Nat.lt_of_lt_of_le hu (by have := Nat.pow_le_pow_right (n := 16) (by omega) (show 16 - t.length ≤ 16 by omega); simpa using this)
      have e1 : (((65 - t.length : Nat) : Int) - 1).toNat = 65 - t.length - 1 := by omega
      have e2 := and15 u hub
      have e3 := dig_get36 (u % 16) (Nat.mod_lt _ (by omega))
      have e4 := shrN u 4 4 (by omega) (by omega)
      simp -implicitDefEqProofs (disch := omega) only [go_sem, tys, regs0, Nat.reduceEqDiff, Nat.reduceAdd, Nat.reduceLeDiff, Nat.reduceLT, Nat.reduceMul, Int.natCast_one, Int.natCast_zero, Int.reduceEq, Int.reduceLT, Int.reduceLE, Int.reduceAdd, Int.reduceSub, Int.reduceToNat, UInt8.reduceToNat, Go.IntWalk.i64_in, h1, h3, h4, h10, h12, h13, h14, h15, h16, e1, e2, e3, e4]
      have hset : (fillR (AV.int .u8 0) (65 - t.length) (t.map encB)).set ((65 - t.length - 1) * 1) (.int .u8 ((dig (u % 16)).toNat : Int)) = fillR (.int .u8 0) (65 - (dig (u % 16) :: t).length) ((dig (u % 16) :: t).map encB) := by
        rw [Nat.mul_one]
        have := fillR_set (z := AV.int .u8 0) (i := 65 - t.length) (t := t.map encB) (by omega) (encB (dig (u % 16)))
        rw [show 65 - (dig (u % 16) :: t).length = 65 - t.length - 1 from by simp; omega, List.map_cons]
        exact this
      rw [hset]
      refine ⟨⟨by omega, by omega⟩, by rw [fillR_len]; simp; omega, ?_⟩
      have hpos : (((65 - t.length : Nat) : Int) - 1) = ((65 - (dig (u % 16) :: t).length : Nat) : Int) := by simp; omega
      rw [hpos]
      refine Again.mk (dig (u % 16) :: t, u / 2 ^ 4) (by simp -implicitDefEqProofs only [go_sem, tys, regs0, Nat.reduceEqDiff, Nat.reduceAdd, Nat.reduceLeDiff, Nat.reduceLT, Nat.reduceMul, Int.natCast_one, Int.natCast_zero, Int.reduceEq, Int.reduceLT, Int.reduceLE, Int.reduceAdd, Int.reduceSub, Int.reduceToNat, UInt8.reduceToNat, h1, h3, h4, h10, h12, h13, h14, h15, h16]) ⟨rfl, by simp; omega, ?_, ?_⟩ (show u / 2 ^ 4 < u from by omega)
      · have : 16 - t.length = (16 - (dig (u % 16) :: t).length) + 1 := by simp; omega
        rw [this] at hu
        exact pow4 u _ hu
      · rw [hm, hexMin_big (by omega)]; simp
    · simp only [decide_eq_false_iff_not] at h
      have hu16 : u < 16 := by omega
      have e1 : (((65 - t.length : Nat) : Int) - 1).toNat = 65 - t.length - 1 := by omega
      have e3 := dig_get36 u hu16
      simp -implicitDefEqProofs (disch := omega) only [go_sem, tys, regs0, Nat.reduceEqDiff, Nat.reduceAdd, Nat.reduceLeDiff, Nat.reduceLT, Nat.reduceMul, Int.natCast_one, Int.natCast_zero, Int.reduceEq, Int.reduceLT, Int.reduceLE, Int.reduceAdd, Int.reduceSub, Int.reduceToNat, UInt8.reduceToNat, Go.IntWalk.i64_in, h1, h3, h4, h10, h12, h13, h14, h15, h16, e1, e3]
      have hset : (fillR (AV.int .u8 0) (65 - t.length) (t.map encB)).set ((65 - t.length - 1) * 1) (.int .u8 ((dig u).toNat : Int)) = fillR (.int .u8 0) (65 - t.length - 1) ((dig u :: t).map encB) := by
        rw [Nat.mul_one]
        exact fillR_set (z := AV.int .u8 0) (i := 65 - t.length) (t := t.map encB) (by omega) (encB (dig u))
      rw [hset]
      have hl2 : (fillR (AV.int .u8 0) (65 - t.length - 1) ((dig u :: t).map encB)).length = 65 := by rw [fillR_len]; simp; omega
      have hn2 : (65 - (((65 - t.length : Nat) : Int) - 1)).toNat = (dig u :: t).length := by simp; omega
      rw [hl2, hn2, Nat.mul_one]
      refine ⟨⟨by omega, by omega⟩, by rw [fillR_len]; simp; omega, by omega, by omega, by omega, ?_⟩
      with_reducible refine conv_ms (l := dig u :: t) ?_ ?_ (put_same _ _ _) ?_ ?_ ?_
      · simp -implicitDefEqProofs only [go_sem, tys, regs0, Nat.reduceEqDiff, Nat.reduceAdd, Nat.reduceLeDiff, Nat.reduceLT, Nat.reduceMul, Int.natCast_one, Int.natCast_zero, Int.reduceEq, Int.reduceLT, Int.reduceLE, Int.reduceAdd, Int.reduceSub, Int.reduceToNat, UInt8.reduceToNat]
      · simp -implicitDefEqProofs only [go_sem, tys, regs0, Nat.reduceEqDiff, Nat.reduceAdd, Nat.reduceLeDiff, Nat.reduceLT, Nat.reduceMul, Int.natCast_one, Int.natCast_zero, Int.reduceEq, Int.reduceLT, Int.reduceLE, Int.reduceAdd, Int.reduceSub, Int.reduceToNat, UInt8.reduceToNat]
      · rw [hl2]; simp; omega
      · rw [fillR_drop, List.take_of_length_le (by simp)]; rfl
      simp -implicitDefEqProofs only [go_sem, tys, regs0, Nat.reduceEqDiff, Nat.reduceAdd, Nat.reduceLeDiff, Nat.reduceLT, Nat.reduceMul, Int.natCast_one, Int.natCast_zero, Int.reduceEq, Int.reduceLT, Int.reduceLE, Int.reduceAdd, Int.reduceSub, Int.reduceToNat, UInt8.reduceToNat, h1, h3, h4, h10, h12, h13, h14, h15, h16]
      refine Done.drop (fun i o ho => by rw [put_ne]; exact ho; intro e; subst e; rw [hid] at ho; cases ho) ⟨?_, rfl⟩
      rw [hm, hexMin_small hu16]; rfl
end Go.Proofs
