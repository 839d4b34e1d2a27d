/- Walks: sums are read; numbers and sums as bytes, on the reference's side. -/
import Derived.Test.YtnheonhmnepifaaDoorDD5
import Derived.Test.YtnheonhmnepifaaDoorPP1
namespace Go.Proofs
open Go Go.Abs
set_option linter.unusedSimpArgs false
set_option linter.unusedVariables false
set_option maxRecDepth 20000
theorem lower_calls (c : Int) (H : Heap) : ACalls Tryd.prog 141 [.int .u8 c] H fun x H' => x = .int .u8 (orI .u8 c 32) ∧ H' = H := by
  refine ACalls.of_code (X := { pure := pu0 }) pu0_ok Tryd.func141 (by kernel_rfl) rfl (by kernel_rfl) (Nat.le_of_ble_eq_true rfl) ?_
  simp -implicitDefEqProofs only [go_sem, tys, regs0, Nat.reduceEqDiff, Nat.reduceAdd, Nat.reduceLeDiff, Nat.reduceLT, Nat.reduceMul, Int.natCast_one, Int.natCast_zero, Int.reduceEq, Int.reduceLT, Int.reduceLE, Int.reduceAdd, Int.reduceSub, Int.reduceToNat, UInt8.reduceToNat, Tryd.f141]
  exact Done.now ⟨rfl, rfl⟩
def sLower : List AV → Option AV := fn1 (.int .u8) fun c => some (.int .u8 (orI .u8 c 32))
theorem sLower_eq (c : Int) : sLower [.int .u8 c] = some (.int .u8 (orI .u8 c 32)) := rfl
def puP1 : Pures := putP 141 sLower pu0
theorem puP1_ok : PuOK Tryd.prog puP1 := by
  refine PuOK.put pu0_ok ?_
  intro xs v hv H
  obtain ⟨x, p, rfl, h1, h2⟩ := fn1_some hv
  cases Rd.int_some h1; cases h2
  exact lower_calls _ H
set_option maxHeartbeats 1600000 in
theorem parseUintI_calls (s : Bytes) (H : Heap) (hs : sumB s = true) : ACalls Tryd.prog 130 [.str s, .int .i64 16, .int .i64 64] H fun x H' => x = .tup [.int .u64 (hexN s), .nilIface] ∧ H' = H := by
  have hlen := sumB_len hs
  have hne : ¬ s = [] := by rintro rfl; simp at hlen
  have c1 : IntKind.u64.wrap (shlI .u64 1 64 - 1) = 18446744073709551615 := by decide
  have c2 : IntKind.u8.wrap 16 = 16 := by decide
  have c3 : IntKind.u64.wrap 16 = 16 := by decide
  have c4 : IntKind.u64.wrap 64 = 64 := by decide
  refine ACalls.of_code (X := { pure := puP1 }) puP1_ok Tryd.func130 (by kernel_rfl) rfl (by kernel_rfl) (Nat.le_of_ble_eq_true rfl) ?_
  simp -implicitDefEqProofs only [go_sem, tys, regs0, Nat.reduceEqDiff, Nat.reduceAdd, Nat.reduceLeDiff, Nat.reduceLT, Nat.reduceMul, Int.natCast_one, Int.natCast_zero, Int.reduceEq, Int.reduceLT, Int.reduceLE, Int.reduceAdd, Int.reduceSub, Int.reduceToNat, UInt8.reduceToNat, Tryd.f130, hne, c1, c2, c3, c4]
  refine conv_bytes (by simp -implicitDefEqProofs only [go_sem, tys, regs0, Nat.reduceEqDiff, Nat.reduceAdd, Nat.reduceLeDiff, Nat.reduceLT, Nat.reduceMul, Int.natCast_one, Int.natCast_zero, Int.reduceEq, Int.reduceLT, Int.reduceLE, Int.reduceAdd, Int.reduceSub, Int.reduceToNat, UInt8.reduceToNat]) (by simp -implicitDefEqProofs only [go_sem, tys, regs0, Nat.reduceEqDiff, Nat.reduceAdd, Nat.reduceLeDiff, Nat.reduceLT, Nat.reduceMul, Int.natCast_one, Int.natCast_zero, Int.reduceEq, Int.reduceLT, Int.reduceLE, Int.reduceAdd, Int.reduceSub, Int.reduceToNat, UInt8.reduceToNat]) (fun id hid => ?_)
  simp -implicitDefEqProofs only [go_sem, tys, regs0, Nat.reduceEqDiff, Nat.reduceAdd, Nat.reduceLeDiff, Nat.reduceLT, Nat.reduceMul, Int.natCast_one, Int.natCast_zero, Int.reduceEq, Int.reduceLT, Int.reduceLE, Int.reduceAdd, Int.reduceSub, Int.reduceToNat, UInt8.reduceToNat, hlen]
  have hcl : (s.map fun b : UInt8 => AV.int .u8 b.toNat).length = 16 := by rw [List.length_map, hlen]
  refine aloop_intro (σ := Nat) (fun i => [(1, .int .i64 16), (8, .bool false), (10, .int .u64 1152921504606846976), (11, .int .u64 18446744073709551615), (12, .bool false), (13, .int .u64 (hexN (s.take i))), (99, .ms id 0 16 1), (100, .int .i64 16), (101, .int .i64 i)])
    (fun i G => G = H.put id (.cells (s.map fun b => .int .u8 b.toNat)) ∧ i ≤ 16) (fun i => 16 - i) 0 ?_ ?_ ?_
  · simp -implicitDefEqProofs only [go_sem, tys, regs0, Nat.reduceEqDiff, Nat.reduceAdd, Nat.reduceLeDiff, Nat.reduceLT, Nat.reduceMul, Int.natCast_one, Int.natCast_zero, Int.reduceEq, Int.reduceLT, Int.reduceLE, Int.reduceAdd, Int.reduceSub, Int.reduceToNat, UInt8.reduceToNat]
    simp [hexN]
  · exact ⟨rfl, by omega⟩
  · intro i r G hv hI
    have h1 := hv.1
    have h8 := hv.2.1
    have h10 := hv.2.2.1
    have h11 := hv.2.2.2.1
    have h12 := hv.2.2.2.2.1
    have h13 := hv.2.2.2.2.2.1
    have h99 := hv.2.2.2.2.2.2.1
    have h100 := hv.2.2.2.2.2.2.2.1
    have h101 := hv.2.2.2.2.2.2.2.2.1
    have hG := hI.1.symm
    have hi := hI.2
    clear hv hI
    subst hG
    simp -implicitDefEqProofs only [go_sem, tys, regs0, Nat.reduceEqDiff, Nat.reduceAdd, Nat.reduceLeDiff, Nat.reduceLT, Nat.reduceMul, Int.natCast_one, Int.natCast_zero, Int.reduceEq, Int.reduceLT, Int.reduceLE, Int.reduceAdd, Int.reduceSub, Int.reduceToNat, UInt8.reduceToNat, h1, h8, h10, h11, h12, h13, h99, h100, h101]
    refine cnd_intro (fun g => ?_) (fun g => ?_)
    · simp only [decide_eq_true_eq] at g
      obtain ⟨c, hc⟩ : ∃ c, s[i]? = some c := ⟨s[i]'(by omega), List.getElem?_eq_getElem _⟩
      have hx := sumB_at hs hc
      have hd := dgV_lt hx
      have hcells : ((s.map fun b : UInt8 => AV.int .u8 b.toNat).drop i).head? = some (.int .u8 c.toNat) := by
        rw [List.head?_drop, List.getElem?_map, hc]; rfl
      have hn := hexN_lt hs i
      have hp15 : 16 ^ i ≤ 16 ^ 15 := Nat.pow_le_pow_right (by omega) (by omega)
      have hsu := hexN_succ hc
      have hcl2 := c.toNat_lt
      have hn15 : hexN (s.take i) < 1152921504606846976 := Nat.lt_of_lt_of_le hn (by simpa using hp15)
      have hx2 := hx
      simp only [isHx, Bool.or_eq_true, Bool.and_eq_true, decide_eq_true_eq] at hx2
      generalize hexN (s.take i) = n at *
      generalize hdv : dgV c = d at *
      have w1 : IntKind.u64.wrap ((n : Int) * 16) = n * 16 := Go.IntWalk.u64_in _ (by omega)
      have w2 : IntKind.u64.wrap (d : Int) = d := Go.IntWalk.u64_in _ (by omega)
      have w3 : IntKind.u64.wrap ((n : Int) * 16 + d) = n * 16 + d := Go.IntWalk.u64_in _ (by omega)
      have t1 : decide ((16 : Int) ≤ d) = false := decide_eq_false (by omega)
      have t2 : decide ((1152921504606846976 : Int) ≤ n) = false := decide_eq_false (by omega)
      have t3 : decide ((n : Int) * 16 + d < n * 16) = false := decide_eq_false (by omega)
      have t4 : decide ((18446744073709551615 : Int) < (n : Int) * 16 + d) = false := decide_eq_false (by omega)
      have t0 : decide ((c.toNat : Int) = 95) = false := decide_eq_false (by omega)
      have w9 : IntKind.i64.wrap ((i : Int) + 1) = i + 1 := Go.IntWalk.i64_in _ (by omega)
      have t5 : decide ((48 : Int) ≤ (c.toNat : Int)) = true := decide_eq_true (by omega)
      unfold dgV at hdv
      by_cases h57 : c.toNat ≤ 57
      · rw [if_pos h57] at hdv
        have t6 : decide ((c.toNat : Int) ≤ 57) = true := decide_eq_true (by omega)
        have w4 : IntKind.u8.wrap ((c.toNat : Int) - 48) = d := by
          rw [show ((c.toNat : Int) - 48) = (d : Int) from by omega]
          exact (wrap8 d).trans (u8_of (by omega))
        simp -implicitDefEqProofs only [go_sem, tys, regs0, Nat.reduceEqDiff, Nat.reduceAdd, Nat.reduceLeDiff, Nat.reduceLT, Nat.reduceMul, Int.natCast_one, Int.natCast_zero, Int.reduceEq, Int.reduceLT, Int.reduceLE, Int.reduceAdd, Int.reduceSub, Int.reduceToNat, UInt8.reduceToNat, h1, h8, h10, h11, h12, h13, h99, h100, h101, Int.natCast_nonneg, Int.toNat_natCast, Nat.zero_add, Nat.mul_one, g, hcells, t0, t5, t6, w4, w2, t1, t2, w1, w3, t3, t4, c2, c3, w9]
        exact Again.mk (i + 1) (by simp -implicitDefEqProofs only [go_sem, tys, regs0, Nat.reduceEqDiff, Nat.reduceAdd, Nat.reduceLeDiff, Nat.reduceLT, Nat.reduceMul, Int.natCast_one, Int.natCast_zero, Int.reduceEq, Int.reduceLT, Int.reduceLE, Int.reduceAdd, Int.reduceSub, Int.reduceToNat, UInt8.reduceToNat, h1, h8, h10, h11, h12, h13, h99, h100, h101, hsu]; simp) ⟨rfl, by omega⟩ (by omega)
      · rw [if_neg h57] at hdv
        have t6 : decide ((c.toNat : Int) ≤ 57) = false := decide_eq_false (by omega)
        have t7 : decide ((97 : Int) ≤ (c.toNat : Int)) = true := decide_eq_true (by omega)
        have t8 : decide ((c.toNat : Int) ≤ 122) = true := decide_eq_true (by omega)
        have w0 := or32 hx h57
        have w4 : IntKind.u8.wrap (IntKind.u8.wrap ((c.toNat : Int) - 97) + 10) = d := by
          have e : IntKind.u8.wrap ((c.toNat : Int) - 97) = ((c.toNat - 97 : Nat) : Int) := by
            rw [show ((c.toNat : Int) - 97) = ((c.toNat - 97 : Nat) : Int) from by omega]
            exact (wrap8 _).trans (u8_of (by omega))
          rw [e, show (((c.toNat - 97 : Nat) : Int) + 10) = (d : Int) from by omega]
          exact (wrap8 d).trans (u8_of (by omega))
        simp -implicitDefEqProofs only [go_sem, tys, regs0, Nat.reduceEqDiff, Nat.reduceAdd, Nat.reduceLeDiff, Nat.reduceLT, Nat.reduceMul, Int.natCast_one, Int.natCast_zero, Int.reduceEq, Int.reduceLT, Int.reduceLE, Int.reduceAdd, Int.reduceSub, Int.reduceToNat, UInt8.reduceToNat, h1, h8, h10, h11, h12, h13, h99, h100, h101, Int.natCast_nonneg, Int.toNat_natCast, Nat.zero_add, Nat.mul_one, g, hcells, t0, t5, t6, t7, t8, w0, w4, w2, t1, t2, w1, w3, t3, t4, c2, c3, w9, puP1, sLower_eq]
        exact Again.mk (i + 1) (by simp -implicitDefEqProofs only [go_sem, tys, regs0, Nat.reduceEqDiff, Nat.reduceAdd, Nat.reduceLeDiff, Nat.reduceLT, Nat.reduceMul, Int.natCast_one, Int.natCast_zero, Int.reduceEq, Int.reduceLT, Int.reduceLE, Int.reduceAdd, Int.reduceSub, Int.reduceToNat, UInt8.reduceToNat, h1, h8, h10, h11, h12, h13, h99, h100, h101, hsu]; simp) ⟨rfl, by omega⟩ (by omega)
    · have e : i = 16 := by
        simp only [decide_eq_false_iff_not] at g
        omega
      subst e
      rw [List.take_of_length_le (by omega)] at h13
      simp -implicitDefEqProofs only [go_sem, tys, regs0, Nat.reduceEqDiff, Nat.reduceAdd, Nat.reduceLeDiff, Nat.reduceLT, Nat.reduceMul, Int.natCast_one, Int.natCast_zero, Int.reduceEq, Int.reduceLT, Int.reduceLE, Int.reduceAdd, Int.reduceSub, Int.reduceToNat, UInt8.reduceToNat, h1, h8, h10, h11, h12, h13, h99, h100, h101]
      exact Done.drop1 hid ⟨rfl, rfl⟩
def sPU : List AV → Option AV := fn3 .str (.int .i64) (.int .i64) fun s a b => if sumB s = true ∧ a = 16 ∧ b = 64 then some (.tup [.int .u64 (hexN s), .nilIface]) else none
theorem sPU_eq (s : Bytes) (h : sumB s = true) : sPU [.str s, .int .i64 16, .int .i64 64] = some (.tup [.int .u64 (hexN s), .nilIface]) := by
  simp only [sPU, fn3_eq, Rd.str_eq, Rd.int_eq, Option.bind_some]
  rw [if_pos ⟨h, trivial, trivial⟩]
theorem sPU_ok {P : Program} {f : FuncId} (h : ∀ s H, sumB s = true → ACalls P f [.str s, .int .i64 16, .int .i64 64] H fun x H' => x = .tup [.int .u64 (hexN s), .nilIface] ∧ H' = H) : ∀ xs v, sPU xs = some v → ∀ H, ACalls P f xs H fun x H' => x = v ∧ H' = H := by
  intro xs v hv H
  obtain ⟨x, y, z, p, q, r, rfl, h1, h2, h3, h4⟩ := fn3_some hv
  split at h4
  · rename_i hh
    obtain ⟨hs, rfl, rfl⟩ := hh
    cases h4
    cases Rd.str_some h1; cases Rd.int_some h2; cases Rd.int_some h3
    exact h p H hs
  · cases h4
def puP2 : Pures := putP 130 sPU pu0
theorem puP2_ok : PuOK Tryd.prog puP2 := PuOK.put pu0_ok (sPU_ok parseUintI_calls)
theorem parseUint_calls (s : Bytes) (H : Heap) (hs : sumB s = true) : ACalls Tryd.prog 119 [.str s, .int .i64 16, .int .i64 64] H fun x H' => x = .tup [.int .u64 (hexN s), .nilIface] ∧ H' = H := by
  have h := sPU_eq s hs
  refine ACalls.of_code (X := { pure := puP2 }) puP2_ok Tryd.func119 (by kernel_rfl) rfl (by kernel_rfl) (Nat.le_of_ble_eq_true rfl) ?_
  simp -implicitDefEqProofs only [go_sem, tys, regs0, Nat.reduceEqDiff, Nat.reduceAdd, Nat.reduceLeDiff, Nat.reduceLT, Nat.reduceMul, Int.natCast_one, Int.natCast_zero, Int.reduceEq, Int.reduceLT, Int.reduceLE, Int.reduceAdd, Int.reduceSub, Int.reduceToNat, UInt8.reduceToNat, Tryd.f119, puP2, h]
  exact Done.now ⟨rfl, rfl⟩
def puP3 : Pures := putP 119 sPU pu0
theorem puP3_ok : PuOK Tryd.prog puP3 := PuOK.put pu0_ok (sPU_ok parseUint_calls)
theorem str_len_le {a b : Bytes} {k : Nat} (h : a.length + b.length ≤ k) (hk : k ≤ 9223372036854775807) : (((a.length + b.length : Nat)) : Int) ≤ 9223372036854775807 := by omega
set_option maxHeartbeats 1600000 in
theorem groups_calls (n : Nat) (H : Heap) (hn : n < 4398046511104) : ACalls Tryd.prog 84 [.int .i64 n] H fun x H' => x = .str (groupsB n) ∧ H' = H := by
  refine ACalls.of_code (X := { pure := pu0 }) pu0_ok Tryd.func84 (by kernel_rfl) rfl (by kernel_rfl) (Nat.le_of_ble_eq_true rfl) ?_
  simp -implicitDefEqProofs only [go_sem, tys, regs0, Nat.reduceEqDiff, Nat.reduceAdd, Nat.reduceLeDiff, Nat.reduceLT, Nat.reduceMul, Int.natCast_one, Int.natCast_zero, Int.reduceEq, Int.reduceLT, Int.reduceLE, Int.reduceAdd, Int.reduceSub, Int.reduceToNat, UInt8.reduceToNat, Tryd.f84]
  have hgl := groupsB_len 5 n (by simpa using hn)
  refine aloop_intro (σ := Nat × Bytes) (fun s => [(0, .int .i64 s.1), (3, .str s.2)]) (fun s G => G = H ∧ groupsB n = s.2 ++ groupsB s.1 ∧ s.1 < 4398046511104) (fun s => s.1) (n, []) ?_ ?_ ?_
  · simp -implicitDefEqProofs only [go_sem, tys, regs0, Nat.reduceEqDiff, Nat.reduceAdd, Nat.reduceLeDiff, Nat.reduceLT, Nat.reduceMul, Int.natCast_one, Int.natCast_zero, Int.reduceEq, Int.reduceLT, Int.reduceLE, Int.reduceAdd, Int.reduceSub, Int.reduceToNat, UInt8.reduceToNat]
  · exact ⟨rfl, rfl, hn⟩
  · intro s r G hv hI
    obtain ⟨m, out⟩ := s
    have h0 := hv.1
    have h3 := hv.2.1
    have hG := hI.1.symm
    have hg := hI.2.1
    have hm := hI.2.2
    clear hv hI
    simp only at h0 h3 hg hm
    subst hG
    have ho : out.length ≤ 6 := by rw [hg, List.length_append] at hgl; omega
    simp -implicitDefEqProofs only [go_sem, tys, regs0, Nat.reduceEqDiff, Nat.reduceAdd, Nat.reduceLeDiff, Nat.reduceLT, Nat.reduceMul, Int.natCast_one, Int.natCast_zero, Int.reduceEq, Int.reduceLT, Int.reduceLE, Int.reduceAdd, Int.reduceSub, Int.reduceToNat, UInt8.reduceToNat, h0, h3]
    refine cnd_intro (fun g => ?_) (fun g => ?_)
    · simp only [decide_eq_true_eq] at g
      have a1 := and127 m (by omega)
      have a2 : IntKind.u8.wrap ((m % 128 : Nat) : Int) = ((m % 128 : Nat) : Int) := (wrap8 _).trans (u8_of (by omega))
      have a3 : orI .u8 ((m % 128 : Nat) : Int) 128 = ((UInt8.ofNat (m % 128 + 128)).toNat : Int) := by rw [u8_of (by omega)]; exact or128b (m % 128) (Nat.mod_lt _ (by omega))
      have a4 := shrI64 m 7 7 rfl (by omega)
      rw [groupsB_big (n := m) (by omega)] at hg
      generalize UInt8.ofNat (m % 128 + 128) = b at *
      have hle : (((out.length + [b].length : Nat)) : Int) ≤ 9223372036854775807 := by simp; omega
      simp -implicitDefEqProofs only [go_sem, tys, regs0, Nat.reduceEqDiff, Nat.reduceAdd, Nat.reduceLeDiff, Nat.reduceLT, Nat.reduceMul, Int.natCast_one, Int.natCast_zero, Int.reduceEq, Int.reduceLT, Int.reduceLE, Int.reduceAdd, Int.reduceSub, Int.reduceToNat, UInt8.reduceToNat, h0, h3, a1, a2, a3, a4]
      refine conv_sl (l := [b]) (by simp -implicitDefEqProofs only [go_sem, tys, regs0, Nat.reduceEqDiff, Nat.reduceAdd, Nat.reduceLeDiff, Nat.reduceLT, Nat.reduceMul, Int.natCast_one, Int.natCast_zero, Int.reduceEq, Int.reduceLT, Int.reduceLE, Int.reduceAdd, Int.reduceSub, Int.reduceToNat, UInt8.reduceToNat]) (by simp -implicitDefEqProofs only [go_sem, tys, regs0, Nat.reduceEqDiff, Nat.reduceAdd, Nat.reduceLeDiff, Nat.reduceLT, Nat.reduceMul, Int.natCast_one, Int.natCast_zero, Int.reduceEq, Int.reduceLT, Int.reduceLE, Int.reduceAdd, Int.reduceSub, Int.reduceToNat, UInt8.reduceToNat]) ?_
      simp -implicitDefEqProofs only [go_sem, tys, regs0, Nat.reduceEqDiff, Nat.reduceAdd, Nat.reduceLeDiff, Nat.reduceLT, Nat.reduceMul, Int.natCast_one, Int.natCast_zero, Int.reduceEq, Int.reduceLT, Int.reduceLE, Int.reduceAdd, Int.reduceSub, Int.reduceToNat, UInt8.reduceToNat, h0, h3, a4, hle]
      refine ⟨by simp; omega, ?_⟩
      exact Again.mk (m / 2 ^ 7, out ++ [b]) (by simp -implicitDefEqProofs only [go_sem, tys, regs0, Nat.reduceEqDiff, Nat.reduceAdd, Nat.reduceLeDiff, Nat.reduceLT, Nat.reduceMul, Int.natCast_one, Int.natCast_zero, Int.reduceEq, Int.reduceLT, Int.reduceLE, Int.reduceAdd, Int.reduceSub, Int.reduceToNat, UInt8.reduceToNat, h0, h3]) ⟨rfl, by simpa using hg, by simp only; omega⟩ (by simp only; omega)
    · simp only [decide_eq_false_iff_not] at g
      have a2 := wrap8 m
      rw [groupsB_small (n := m) (by omega)] at hg
      generalize UInt8.ofNat m = b at *
      simp -implicitDefEqProofs only [go_sem, tys, regs0, Nat.reduceEqDiff, Nat.reduceAdd, Nat.reduceLeDiff, Nat.reduceLT, Nat.reduceMul, Int.natCast_one, Int.natCast_zero, Int.reduceEq, Int.reduceLT, Int.reduceLE, Int.reduceAdd, Int.reduceSub, Int.reduceToNat, UInt8.reduceToNat, h0, h3, a2]
      refine conv_sl (l := [b]) (by simp -implicitDefEqProofs only [go_sem, tys, regs0, Nat.reduceEqDiff, Nat.reduceAdd, Nat.reduceLeDiff, Nat.reduceLT, Nat.reduceMul, Int.natCast_one, Int.natCast_zero, Int.reduceEq, Int.reduceLT, Int.reduceLE, Int.reduceAdd, Int.reduceSub, Int.reduceToNat, UInt8.reduceToNat]) (by simp -implicitDefEqProofs only [go_sem, tys, regs0, Nat.reduceEqDiff, Nat.reduceAdd, Nat.reduceLeDiff, Nat.reduceLT, Nat.reduceMul, Int.natCast_one, Int.natCast_zero, Int.reduceEq, Int.reduceLT, Int.reduceLE, Int.reduceAdd, Int.reduceSub, Int.reduceToNat, UInt8.reduceToNat]) ?_
      simp -implicitDefEqProofs only [go_sem, tys, regs0, Nat.reduceEqDiff, Nat.reduceAdd, Nat.reduceLeDiff, Nat.reduceLT, Nat.reduceMul, Int.natCast_one, Int.natCast_zero, Int.reduceEq, Int.reduceLT, Int.reduceLE, Int.reduceAdd, Int.reduceSub, Int.reduceToNat, UInt8.reduceToNat, h0, h3]
      exact ⟨by simp; omega, Done.now ⟨by rw [hg], rfl⟩⟩
set_option maxHeartbeats 1600000 in
theorem rawSum_calls (s : Bytes) (H : Heap) (hs : sumB s = true) : ACalls Tryd.prog 85 [.str s] H fun x H' => x = .str (rawB (hexN s)) ∧ H' = H := by
  have h := sPU_eq s hs
  have hn := hexN_all hs
  have hrl := rawB_len (hexN s)
  have hrg := fun i hi => rawB_get (n := hexN s) (i := i) hi
  generalize hexN s = n at *
  refine ACalls.of_code (X := { pure := puP3 }) puP3_ok Tryd.func85 (by kernel_rfl) rfl (by kernel_rfl) (Nat.le_of_ble_eq_true rfl) ?_
  simp -implicitDefEqProofs only [go_sem, tys, regs0, Nat.reduceEqDiff, Nat.reduceAdd, Nat.reduceLeDiff, Nat.reduceLT, Nat.reduceMul, Int.natCast_one, Int.natCast_zero, Int.reduceEq, Int.reduceLT, Int.reduceLE, Int.reduceAdd, Int.reduceSub, Int.reduceToNat, UInt8.reduceToNat, Tryd.f85, puP3, h]
  with_reducible refine makeSlice_ms (e := tiU8) ?_ ?_ ?_ ?_ ?_ ?_
  · simp -implicitDefEqProofs only [go_sem, tys, regs0, Nat.reduceEqDiff, Nat.reduceAdd, Nat.reduceLeDiff, Nat.reduceLT, Nat.reduceMul, Int.natCast_one, Int.natCast_zero, Int.reduceEq, Int.reduceLT, Int.reduceLE, Int.reduceAdd, Int.reduceSub, Int.reduceToNat, UInt8.reduceToNat]
  · decide
  · decide
  · decide
  · decide
  intro id hid
  simp -implicitDefEqProofs only [go_sem, tys, regs0, Nat.reduceEqDiff, Nat.reduceAdd, Nat.reduceLeDiff, Nat.reduceLT, Nat.reduceMul, Int.natCast_one, Int.natCast_zero, Int.reduceEq, Int.reduceLT, Int.reduceLE, Int.reduceAdd, Int.reduceSub, Int.reduceToNat, UInt8.reduceToNat]
  refine aloop_intro (σ := Nat) (fun i => [(3, .int .u64 n), (5, .ms id 0 8 1), (14, .int .i64 8), (15, .int .i64 i)]) (fun i G => G = H.put id (.cells (fillL (.int .u8 0) (((rawB n).take i).map encB) 8)) ∧ i ≤ 8) (fun i => 8 - i) 0 ?_ ?_ ?_
  · simp -implicitDefEqProofs only [go_sem, tys, regs0, Nat.reduceEqDiff, Nat.reduceAdd, Nat.reduceLeDiff, Nat.reduceLT, Nat.reduceMul, Int.natCast_one, Int.natCast_zero, Int.reduceEq, Int.reduceLT, Int.reduceLE, Int.reduceAdd, Int.reduceSub, Int.reduceToNat, UInt8.reduceToNat]
  · exact ⟨rfl, by omega⟩
  · intro i r G hv hI
    have h3 := hv.1
    have h5 := hv.2.1
    have h14 := hv.2.2.1
    have h15 := hv.2.2.2.1
    have hG := hI.1.symm
    have hi := hI.2
    clear hv hI
    subst hG
    have hlen : (((rawB n).take i).map encB).length = i := by simp [rawB_len]; omega
    simp -implicitDefEqProofs only [go_sem, tys, regs0, Nat.reduceEqDiff, Nat.reduceAdd, Nat.reduceLeDiff, Nat.reduceLT, Nat.reduceMul, Int.natCast_one, Int.natCast_zero, Int.reduceEq, Int.reduceLT, Int.reduceLE, Int.reduceAdd, Int.reduceSub, Int.reduceToNat, UInt8.reduceToNat, h3, h5, h14, h15]
    refine cnd_intro (fun g => ?_) (fun g => ?_)
    · simp only [decide_eq_true_eq] at g
      have a1 := shrN n (56 - 8 * i) ((56 : Int) - 8 * i) (by omega) (by omega)
      have a2 := wrap8 (n / 2 ^ (56 - 8 * i))
      have hg := hrg i (by omega)
      generalize UInt8.ofNat (n / 2 ^ (56 - 8 * i)) = b at *
      have hfl : (fillL (AV.int .u8 0) (((rawB n).take i).map encB) 8).length = 8 := fillL_len (by omega)
      simp -implicitDefEqProofs (disch := omega) only [go_sem, tys, regs0, Nat.reduceEqDiff, Nat.reduceAdd, Nat.reduceLeDiff, Nat.reduceLT, Nat.reduceMul, Int.natCast_one, Int.natCast_zero, Int.reduceEq, Int.reduceLT, Int.reduceLE, Int.reduceAdd, Int.reduceSub, Int.reduceToNat, UInt8.reduceToNat, Go.IntWalk.i64_in, h3, h5, h14, h15, a1, a2, hfl]
      refine ⟨by omega, by omega, ?_⟩
      have e5 : (fillL (AV.int .u8 0) (((rawB n).take i).map encB) 8).set (i * 1) (.int .u8 (b.toNat : Int)) = fillL (.int .u8 0) (((rawB n).take (i + 1)).map encB) 8 := by
        have := fillL_set (z := AV.int .u8 0) (done := ((rawB n).take i).map encB) (n := 8) (by omega) (encB b)
        rw [hlen] at this
        rw [Nat.mul_one]
        have e6 : ((rawB n).take i).map encB ++ [encB b] = ((rawB n).take (i + 1)).map encB := by
          rw [List.take_add_one, hg, List.map_append]
          rfl
        rw [e6] at this
        exact this
      rw [e5]
      exact ⟨by omega, Again.mk (i + 1) (by simp -implicitDefEqProofs only [go_sem, tys, regs0, Nat.reduceEqDiff, Nat.reduceAdd, Nat.reduceLeDiff, Nat.reduceLT, Nat.reduceMul, Int.natCast_one, Int.natCast_zero, Int.reduceEq, Int.reduceLT, Int.reduceLE, Int.reduceAdd, Int.reduceSub, Int.reduceToNat, UInt8.reduceToNat, h3, h5, h14, h15]; exact rfl) ⟨rfl, by omega⟩ (by omega)⟩
    · simp only [decide_eq_false_iff_not] at g
      have e : i = 8 := by omega
      subst e
      simp -implicitDefEqProofs only [go_sem, tys, regs0, Nat.reduceEqDiff, Nat.reduceAdd, Nat.reduceLeDiff, Nat.reduceLT, Nat.reduceMul, Int.natCast_one, Int.natCast_zero, Int.reduceEq, Int.reduceLT, Int.reduceLE, Int.reduceAdd, Int.reduceSub, Int.reduceToNat, UInt8.reduceToNat, h3, h5, h14, h15]
      have ef : fillL (AV.int .u8 0) (((rawB n).take 8).map encB) 8 = (rawB n).map encB := by
        rw [List.take_of_length_le (by rw [hrl]; omega)]
        have := fillL_full (z := AV.int .u8 0) (done := (rawB n).map encB)
        rwa [List.length_map, hrl] at this
      rw [ef]
      with_reducible refine conv_ms (l := rawB n) ?_ ?_ (put_same _ _ _) ?_ ?_ ?_
      · simp -implicitDefEqProofs only [go_sem, tys, regs0, Nat.reduceEqDiff, Nat.reduceAdd, Nat.reduceLeDiff, Nat.reduceLT, Nat.reduceMul, Int.natCast_one, Int.natCast_zero, Int.reduceEq, Int.reduceLT, Int.reduceLE, Int.reduceAdd, Int.reduceSub, Int.reduceToNat, UInt8.reduceToNat]
      · simp -implicitDefEqProofs only [go_sem, tys, regs0, Nat.reduceEqDiff, Nat.reduceAdd, Nat.reduceLeDiff, Nat.reduceLT, Nat.reduceMul, Int.natCast_one, Int.natCast_zero, Int.reduceEq, Int.reduceLT, Int.reduceLE, Int.reduceAdd, Int.reduceSub, Int.reduceToNat, UInt8.reduceToNat]
      · simp [rawB_len]
      · rw [List.drop_zero, List.take_of_length_le (by simp [rawB_len])]; rfl
      simp -implicitDefEqProofs only [go_sem, tys, regs0, Nat.reduceEqDiff, Nat.reduceAdd, Nat.reduceLeDiff, Nat.reduceLT, Nat.reduceMul, Int.natCast_one, Int.natCast_zero, Int.reduceEq, Int.reduceLT, Int.reduceLE, Int.reduceAdd, Int.reduceSub, Int.reduceToNat, UInt8.reduceToNat]
      exact Done.drop (fun i o ho => by rw [put_ne]; exact ho; intro e; subst e; rw [hid] at ho; cases ho) ⟨rfl, rfl⟩
end Go.Proofs
