/- Walks: the reference's SumOf. -/
import Derived.Test.YtnheonhmnepifaaDoorK4
namespace Go.Proofs
open Go Go.Abs
set_option linter.unusedSimpArgs false
set_option linter.unusedVariables false
def preB (p s : Bytes) : Bool := decide (s.take p.length = p)
theorem preB_long {p s : Bytes} (h : s.length < p.length) : preB p s = false := by
  unfold preB
  rw [decide_eq_false_iff_not]
  intro e
  have := congrArg List.length e
  rw [List.length_take] at this
  omega
def sPre : List AV → Option AV := fn2 .str .str fun s p => some (.bool (preB p s))
theorem sPre_eq (s p : Bytes) : sPre [.str s, .str p] = some (.bool (preB p s)) := rfl
theorem sPre_ok {P : Program} {f : FuncId} (h : ∀ s p H, ACalls P f [.str s, .str p] H fun x H' => x = .bool (preB p s) ∧ H' = H) : ∀ xs v, sPre xs = some v → ∀ H, ACalls P f xs H fun x H' => x = v ∧ H' = H := by
  intro xs v hv H
  obtain ⟨x, y, p, q, rfl, h1, h2, h3⟩ := fn2_some hv
  cases h3
  cases Rd.str_some h1
  cases Rd.str_some h2
  exact h _ _ _
theorem hasPrefixL_calls (s p : Bytes) (H : Heap) : ACalls Tryd.prog 115 [.str s, .str p] H fun x H' => x = .bool (preB p s) ∧ H' = H := by
  refine ACalls.of_code (X := { pure := puS1 }) puS1_ok Tryd.func115 (by kernel_rfl) rfl (by kernel_rfl) (Nat.le_of_ble_eq_true rfl) ?_
  simp -implicitDefEqProofs only [go_sem, tys, regs0, Nat.reduceEqDiff, Nat.reduceAdd, Nat.reduceLeDiff, Nat.reduceLT, Nat.reduceMul, Int.natCast_one, Int.natCast_zero, Int.reduceEq, Int.reduceLT, Int.reduceLE, Int.reduceAdd, Int.reduceSub, Int.reduceToNat, UInt8.reduceToNat, Tryd.f115]
  refine gd_intro (fun h => ?_) (fun h => ?_)
  · have h' := h
    simp only [decide_eq_true_eq] at h'
    simp -implicitDefEqProofs only [go_sem, tys, regs0, Nat.reduceEqDiff, Nat.reduceAdd, Nat.reduceLeDiff, Nat.reduceLT, Nat.reduceMul, Int.natCast_one, Int.natCast_zero, Int.reduceEq, Int.reduceLT, Int.reduceLE, Int.reduceAdd, Int.reduceSub, Int.reduceToNat, UInt8.reduceToNat, h, Int.toNat_natCast]
    exact ⟨h', Done.now ⟨rfl, rfl⟩⟩
  · have h' := h
    simp only [decide_eq_false_iff_not] at h'
    simp -implicitDefEqProofs only [go_sem, tys, regs0, Nat.reduceEqDiff, Nat.reduceAdd, Nat.reduceLeDiff, Nat.reduceLT, Nat.reduceMul, Int.natCast_one, Int.natCast_zero, Int.reduceEq, Int.reduceLT, Int.reduceLE, Int.reduceAdd, Int.reduceSub, Int.reduceToNat, UInt8.reduceToNat, h]
    exact Done.now ⟨by rw [preB_long (by omega)], rfl⟩
def puS2 : Pures := putP 115 sPre puS1
theorem puS2_ok : PuOK Tryd.prog puS2 := PuOK.put puS1_ok (sPre_ok hasPrefixL_calls)
theorem hasPrefix_calls (s p : Bytes) (H : Heap) : ACalls Tryd.prog 73 [.str s, .str p] H fun x H' => x = .bool (preB p s) ∧ H' = H := by
  refine ACalls.of_code (X := { pure := puS2 }) puS2_ok Tryd.func73 (by kernel_rfl) rfl (by kernel_rfl) (Nat.le_of_ble_eq_true rfl) ?_
  simp -implicitDefEqProofs only [go_sem, tys, regs0, Nat.reduceEqDiff, Nat.reduceAdd, Nat.reduceLeDiff, Nat.reduceLT, Nat.reduceMul, Int.natCast_one, Int.natCast_zero, Int.reduceEq, Int.reduceLT, Int.reduceLE, Int.reduceAdd, Int.reduceSub, Int.reduceToNat, UInt8.reduceToNat, Tryd.f73, puS2, sPre_eq]
  exact Done.now ⟨rfl, rfl⟩
theorem mul64_calls (k : Nat) (hk : k ≤ 16) (H : Heap) : ACalls Tryd.prog 114 [.int .u64 1, .int .u64 k] H fun x H' => x = .tup [.int .u64 0, .int .u64 k] ∧ H' = H := by
  have a1 : andI .u64 1 4294967295 = 1 := by decide
  have a2 : shrI .u64 1 32 = 0 := by decide
  have a3 : andI .u64 0 4294967295 = 0 := by decide
  have a4 : shrI .u64 0 32 = 0 := by decide
  have a5 := and32 k (by omega)
  have a6 := shr32 k (by omega)
  have a7 : IntKind.u64.wrap k = k := Go.IntWalk.u64_in _ (by omega)
  have a8 : IntKind.u64.wrap 0 = 0 := by decide
  refine ACalls.of_code (X := { pure := puS2 }) puS2_ok Tryd.func114 (by kernel_rfl) rfl (by kernel_rfl) (Nat.le_of_ble_eq_true rfl) ?_
  simp -implicitDefEqProofs only [go_sem, tys, regs0, Nat.reduceEqDiff, Nat.reduceAdd, Nat.reduceLeDiff, Nat.reduceLT, Nat.reduceMul, Int.natCast_one, Int.natCast_zero, Int.reduceEq, Int.reduceLT, Int.reduceLE, Int.reduceAdd, Int.reduceSub, Int.reduceToNat, UInt8.reduceToNat, Tryd.f114, a1, a2, a3, a4, a5, a6, a7, a8, Int.one_mul, Int.zero_mul, Int.mul_zero, Int.add_zero, Int.zero_add]
  exact Done.now ⟨rfl, rfl⟩
def sMul : List AV → Option AV := fn2 (.int .u64) (.int .u64) fun a b => if a = 1 ∧ 0 ≤ b ∧ b ≤ 16 then some (.tup [.int .u64 0, .int .u64 b]) else none
theorem sMul_eq (a b : Int) : sMul [.int .u64 a, .int .u64 b] = if a = 1 ∧ 0 ≤ b ∧ b ≤ 16 then some (.tup [.int .u64 0, .int .u64 b]) else none := rfl
theorem sMul_ok {P : Program} {f : FuncId} (h : ∀ (k : Nat), k ≤ 16 → ∀ H, ACalls P f [.int .u64 1, .int .u64 k] H fun x H' => x = .tup [.int .u64 0, .int .u64 k] ∧ H' = H) : ∀ xs v, sMul xs = some v → ∀ H, ACalls P f xs H fun x H' => x = v ∧ H' = H := by
  intro xs v hv H
  obtain ⟨x, y, p, q, rfl, h1, h2, h3⟩ := fn2_some hv
  cases Rd.int_some h1
  cases Rd.int_some h2
  split at h3
  · rename_i hc
    obtain ⟨rfl, h0, h16⟩ := hc
    cases h3
    obtain ⟨k, rfl⟩ : ∃ k : Nat, q = k := ⟨q.toNat, by omega⟩
    exact h k (by omega) H
  · cases h3
def puS3 : Pures := putP 114 sMul (putP 73 sPre puS2)
theorem puS3_ok : PuOK Tryd.prog puS3 := PuOK.put (PuOK.put puS2_ok (sPre_ok hasPrefix_calls)) (sMul_ok mul64_calls)
theorem mul_calls (k : Nat) (hk : k ≤ 16) (H : Heap) : ACalls Tryd.prog 72 [.int .u64 1, .int .u64 k] H fun x H' => x = .tup [.int .u64 0, .int .u64 k] ∧ H' = H := by
  have hk' : (0 : Int) ≤ k ∧ (k : Int) ≤ 16 := by omega
  refine ACalls.of_code (X := { pure := puS3 }) puS3_ok Tryd.func72 (by kernel_rfl) rfl (by kernel_rfl) (Nat.le_of_ble_eq_true rfl) ?_
  simp -implicitDefEqProofs only [go_sem, tys, regs0, Nat.reduceEqDiff, Nat.reduceAdd, Nat.reduceLeDiff, Nat.reduceLT, Nat.reduceMul, Int.natCast_one, Int.natCast_zero, Int.reduceEq, Int.reduceLT, Int.reduceLE, Int.reduceAdd, Int.reduceSub, Int.reduceToNat, UInt8.reduceToNat, Tryd.f72, puS3, sMul_eq, hk']
  exact Done.now ⟨rfl, rfl⟩
def puS4 : Pures := putP 72 sMul puS3
theorem puS4_ok : PuOK Tryd.prog puS4 := PuOK.put puS3_ok (sMul_ok mul_calls)
theorem preB_ne (a : UInt8) (h : a ≠ 48) (l m : Bytes) : preB [48] ((a :: l).append m) = false := by
  unfold preB
  rw [decide_eq_false_iff_not]
  intro e
  have := congrArg List.head? e
  simp at this
  exact h this
theorem preB_eq48 (l : Bytes) : preB [48] (48 :: l) = true := by simp [preB]
theorem zeros (k : Nat) (h : k ≤ 64) : ((List.replicate 64 48 : Bytes).take k) = List.replicate k 48 := by rw [List.take_replicate, Nat.min_eq_left h]
set_option maxHeartbeats 1600000 in
set_option maxRecDepth 100000 in
theorem repeat_calls (k : Nat) (hk : k ≤ 16) (H : Heap) : ACalls Tryd.prog 20 [.str [48], .int .i64 k] H fun x H' => x = .str (List.replicate k 48) ∧ H' = H := by
  have a0 : IntKind.u64.wrap k = k := Go.IntWalk.u64_in _ (by omega)
  have a1 : IntKind.u64.wrap 1 = 1 := by decide
  have a2 : IntKind.i64.wrap k = k := Go.IntWalk.i64_in _ (by omega)
  have hk' : (0 : Int) ≤ k ∧ (k : Int) ≤ 16 := by omega
  have d1 : decide ((k : Int) < 0) = false := by simp
  have d2 : decide ((9223372036854775807 : Int) < k) = false := by simp; omega
  have d3 : decide ((k : Int) ≤ 128) = true := by simp; omega
  have d4 : decide ((k : Int) ≤ 64) = true := by simp; omega
  by_cases k0 : k = 0
  · subst k0
    refine ACalls.of_code (X := { pure := puS4 }) puS4_ok Tryd.func20 (by kernel_rfl) rfl (by kernel_rfl) (Nat.le_of_ble_eq_true rfl) ?_
    simp -implicitDefEqProofs only [go_sem, tys, regs0, Nat.reduceEqDiff, Nat.reduceAdd, Nat.reduceLeDiff, Nat.reduceLT, Nat.reduceMul, Int.natCast_one, Int.natCast_zero, Int.reduceEq, Int.reduceLT, Int.reduceLE, Int.reduceAdd, Int.reduceSub, Int.reduceToNat, UInt8.reduceToNat, Tryd.f20]
    exact Done.now ⟨rfl, rfl⟩
  by_cases k1 : k = 1
  · subst k1
    refine ACalls.of_code (X := { pure := puS4 }) puS4_ok Tryd.func20 (by kernel_rfl) rfl (by kernel_rfl) (Nat.le_of_ble_eq_true rfl) ?_
    simp -implicitDefEqProofs only [go_sem, tys, regs0, Nat.reduceEqDiff, Nat.reduceAdd, Nat.reduceLeDiff, Nat.reduceLT, Nat.reduceMul, Int.natCast_one, Int.natCast_zero, Int.reduceEq, Int.reduceLT, Int.reduceLE, Int.reduceAdd, Int.reduceSub, Int.reduceToNat, UInt8.reduceToNat, Tryd.f20]
    exact Done.now ⟨rfl, rfl⟩
  have d5 : decide ((k : Int) = 0) = false := by simp; omega
  have d6 : decide ((k : Int) = 1) = false := by simp; omega
  have q1 := preB_ne 32 (by decide)
  have q2 := preB_ne 45 (by decide)
  refine ACalls.of_code (X := { pure := puS4 }) puS4_ok Tryd.func20 (by kernel_rfl) rfl (by kernel_rfl) (Nat.le_of_ble_eq_true rfl) ?_
  simp -implicitDefEqProofs only [go_sem, tys, regs0, Nat.reduceEqDiff, Nat.reduceAdd, Nat.reduceLeDiff, Nat.reduceLT, Nat.reduceMul, Int.natCast_one, Int.natCast_zero, Int.reduceEq, Int.reduceLT, Int.reduceLE, Int.reduceAdd, Int.reduceSub, Int.reduceToNat, UInt8.reduceToNat, Tryd.f20, puS4, puS3, sPre_eq, sMul_eq, hk', a0, a1, a2, d1, d2, d3, d4, d5, d6, q1, q2, preB_eq48]
  exact ⟨by omega, Done.now ⟨congrArg AV.str (zeros k (by omega)), rfl⟩⟩
def sFB : List AV → Option AV
  | [.sl [] .exact, .int .u64 u, .int .i64 b, .bool false, .bool false] => if 0 ≤ u ∧ u < 18446744073709551616 ∧ b = 16 then some (.tup [.sl [] .exact, .str (hexMin u.toNat)]) else none
  | _ => none
theorem sFB_eq (n : Nat) : sFB [.sl [] .exact, .int .u64 n, .int .i64 16, .bool false, .bool false] = if n < 18446744073709551616 then some (.tup [.sl [] .exact, .str (hexMin n)]) else none := by
  by_cases h : n < 18446744073709551616
  · have : (0 : Int) ≤ n ∧ (n : Int) < 18446744073709551616 ∧ (16 : Int) = 16 := by omega
    simp [sFB, h]
    omega
  · have : ¬ (n : Int) < 18446744073709551616 := by omega
    simp [sFB, h, this]
def puS5 : Pures := putP 135 sFB puS4
theorem puS5_ok : PuOK Tryd.prog puS5 := by
  refine PuOK.put puS4_ok ?_
  intro xs v h H
  unfold sFB at h
  split at h
  · split at h
    · rename_i u b hc
      obtain ⟨h0, h1, rfl⟩ := hc
      cases h
      obtain ⟨n, rfl⟩ : ∃ n : Nat, u = n := ⟨u.toNat, by omega⟩
      exact formatBits_calls n (by omega) H
    · cases h
  · cases h
theorem formatUintI_calls (n : Nat) (hn : n < 18446744073709551616) (H : Heap) : ACalls Tryd.prog 120 [.int .u64 n, .int .i64 16] H fun x H' => x = .str (hexMin n) ∧ H' = H := by
  refine ACalls.of_code (X := { pure := puS5 }) puS5_ok Tryd.func120 (by kernel_rfl) rfl (by kernel_rfl) (Nat.le_of_ble_eq_true rfl) ?_
  simp -implicitDefEqProofs only [go_sem, tys, regs0, Nat.reduceEqDiff, Nat.reduceAdd, Nat.reduceLeDiff, Nat.reduceLT, Nat.reduceMul, Int.natCast_one, Int.natCast_zero, Int.reduceEq, Int.reduceLT, Int.reduceLE, Int.reduceAdd, Int.reduceSub, Int.reduceToNat, UInt8.reduceToNat, Tryd.f120, puS5, sFB_eq, hn]
  exact Done.now ⟨rfl, rfl⟩
def fitsU (u : Int) : Bool := decide (0 ≤ u) && decide (u < 18446744073709551616)
theorem fitsU_nat {n : Nat} (h : n < 18446744073709551616) : fitsU (n : Int) = true := by simp [fitsU]; omega
theorem fitsU_out {u : Int} (h : fitsU u = true) : 0 ≤ u ∧ u < 18446744073709551616 := by simpa [fitsU] using h
def sFU : List AV → Option AV := fn2 (.int .u64) (.int .i64) fun u b => if fitsU u = true ∧ b = 16 then some (.str (hexMin u.toNat)) else none
theorem sFU_eq0 (x y : Int) : sFU [.int .u64 x, .int .i64 y] = if fitsU x = true ∧ y = 16 then some (.str (hexMin x.toNat)) else none := by
  simp only [sFU, fn2_eq, Rd.int_eq, Option.bind_some]
theorem sFU_eq (n : Nat) (hn : n < 18446744073709551616) : sFU [.int .u64 n, .int .i64 16] = some (.str (hexMin n)) := by
  rw [sFU_eq0, if_pos ⟨fitsU_nat hn, rfl⟩, Int.toNat_natCast]
theorem sFU_ok {P : Program} {f : FuncId} (h : ∀ (n : Nat), n < 18446744073709551616 → ∀ H, ACalls P f [.int .u64 n, .int .i64 16] H fun x H' => x = .str (hexMin n) ∧ H' = H) : ∀ xs v, sFU xs = some v → ∀ H, ACalls P f xs H fun x H' => x = v ∧ H' = H := by
  intro xs v hv H
  obtain ⟨x, y, p, q, rfl, h1, h2, h3⟩ := fn2_some hv
  cases Rd.int_some h1
  cases Rd.int_some h2
  split at h3
  · rename_i hc
    obtain ⟨hf, rfl⟩ := hc
    obtain ⟨h0, h16⟩ := fitsU_out hf
    cases h3
    obtain ⟨k, rfl⟩ : ∃ k : Nat, p = k := ⟨p.toNat, by omega⟩
    exact h k (by omega) H
  · cases h3
def puS6 : Pures := putP 120 sFU puS5
theorem puS6_ok : PuOK Tryd.prog puS6 := PuOK.put puS5_ok (sFU_ok formatUintI_calls)
theorem formatUint_calls (n : Nat) (hn : n < 18446744073709551616) (H : Heap) : ACalls Tryd.prog 89 [.int .u64 n, .int .i64 16] H fun x H' => x = .str (hexMin n) ∧ H' = H := by
  refine ACalls.of_code (X := { pure := puS6 }) puS6_ok Tryd.func89 (by kernel_rfl) rfl (by kernel_rfl) (Nat.le_of_ble_eq_true rfl) ?_
  simp -implicitDefEqProofs only [go_sem, tys, regs0, Nat.reduceEqDiff, Nat.reduceAdd, Nat.reduceLeDiff, Nat.reduceLT, Nat.reduceMul, Int.natCast_one, Int.natCast_zero, Int.reduceEq, Int.reduceLT, Int.reduceLE, Int.reduceAdd, Int.reduceSub, Int.reduceToNat, UInt8.reduceToNat, Tryd.f89, puS6, sFU_eq n hn]
  exact Done.now ⟨rfl, rfl⟩
def sRep : List AV → Option AV := fn2 .str (.int .i64) fun s k => if s = [48] ∧ 0 ≤ k ∧ k ≤ 16 then some (.str (List.replicate k.toNat 48)) else none
theorem sRep_eq (k : Nat) (hk : k ≤ 16) : sRep [.str [48], .int .i64 k] = some (.str (List.replicate k 48)) := by
  have h : ([48] : Bytes) = [48] ∧ (0 : Int) ≤ k ∧ (k : Int) ≤ 16 := ⟨rfl, by omega, by omega⟩
  simp only [sRep, fn2_eq, Rd.int_eq, Rd.str_eq, Option.bind_some]
  rw [if_pos ⟨trivial, h.2⟩, Int.toNat_natCast]
def puS7 : Pures := putP 20 sRep (putP 89 sFU puS6)
theorem puS7_ok : PuOK Tryd.prog puS7 := by
  refine PuOK.put (PuOK.put puS6_ok (sFU_ok formatUint_calls)) ?_
  intro xs v hv H
  obtain ⟨x, y, p, q, rfl, h1, h2, h3⟩ := fn2_some hv
  cases Rd.str_some h1
  cases Rd.int_some h2
  split at h3
  · rename_i hc
    obtain ⟨rfl, h0, h16⟩ := hc
    cases h3
    obtain ⟨k, rfl⟩ : ∃ k : Nat, q = k := ⟨q.toNat, by omega⟩
    exact repeat_calls k (by omega) H
  · cases h3
theorem rSumOf_calls (s : Bytes) (H : Heap) (hs : s.length ≤ Room) : ACalls Tryd.prog 35 [.str s] H fun x H' => x = .str (sumOf s) ∧ H' = H := by
  have hR : Room = 1099511627776 := rfl
  rw [hR] at hs
  clear hR
  refine ACalls.of_code (X := { pure := puS7 }) puS7_ok Tryd.func35 (by kernel_rfl) rfl (by kernel_rfl) (Nat.le_of_ble_eq_true rfl) ?_
  simp -implicitDefEqProofs only [go_sem, tys, regs0, Nat.reduceEqDiff, Nat.reduceAdd, Nat.reduceLeDiff, Nat.reduceLT, Nat.reduceMul, Int.natCast_one, Int.natCast_zero, Int.reduceEq, Int.reduceLT, Int.reduceLE, Int.reduceAdd, Int.reduceSub, Int.reduceToNat, UInt8.reduceToNat, Tryd.f35]
  refine aloop_intro (σ := Nat) (fun i => [(0, .str s), (3, .int .u64 (fnv (s.take i))), (7, .int .i64 s.length), (8, .int .i64 i)]) (fun i G => G = H ∧ i ≤ s.length) (fun i => s.length - i) 0 ?_ ?_ ?_
  · simp -implicitDefEqProofs only [go_sem, tys, regs0, Nat.reduceEqDiff, Nat.reduceAdd, Nat.reduceLeDiff, Nat.reduceLT, Nat.reduceMul, Int.natCast_one, Int.natCast_zero, Int.reduceEq, Int.reduceLT, Int.reduceLE, Int.reduceAdd, Int.reduceSub, Int.reduceToNat, UInt8.reduceToNat]
    simp [fnv]
  · simp
  · intro i r G hv hI
    have h0 := hv.1
    have h3 := hv.2.1
    have h7 := hv.2.2.1
    have h8 := hv.2.2.2.1
    have hG := hI.1.symm
    have hi := hI.2
    clear hv hI
    subst hG
    simp -implicitDefEqProofs only [go_sem, tys, regs0, Nat.reduceEqDiff, Nat.reduceAdd, Nat.reduceLeDiff, Nat.reduceLT, Nat.reduceMul, Int.natCast_one, Int.natCast_zero, Int.reduceEq, Int.reduceLT, Int.reduceLE, Int.reduceAdd, Int.reduceSub, Int.reduceToNat, UInt8.reduceToNat, h0, h3, h7, h8]
    refine cnd_intro (fun h => ?_) (fun h => ?_)
    · simp only [decide_eq_true_eq] at h
      obtain ⟨c, hc⟩ : ∃ c, s[i]? = some c := ⟨s[i]'(by omega), List.getElem?_eq_getElem _⟩
      simp -implicitDefEqProofs (disch := omega) only [go_sem, tys, regs0, Nat.reduceEqDiff, Nat.reduceAdd, Nat.reduceLeDiff, Nat.reduceLT, Nat.reduceMul, Int.natCast_one, Int.natCast_zero, Int.reduceEq, Int.reduceLT, Int.reduceLE, Int.reduceAdd, Int.reduceSub, Int.reduceToNat, UInt8.reduceToNat, Go.IntWalk.i64_in, h0, h3, h7, h8, hc, u64_byte]
      refine Again.mk (i + 1) (by simp -implicitDefEqProofs only [go_sem, tys, regs0, Nat.reduceEqDiff, Nat.reduceAdd, Nat.reduceLeDiff, Nat.reduceLT, Nat.reduceMul, Int.natCast_one, Int.natCast_zero, Int.reduceEq, Int.reduceLT, Int.reduceLE, Int.reduceAdd, Int.reduceSub, Int.reduceToNat, UInt8.reduceToNat, h0, h3, h7, h8]; rw [fnv_succ hc]; exact ⟨rfl, rfl⟩) ⟨rfl, by omega⟩ (by omega)
    · simp only [decide_eq_false_iff_not] at h
      have e : i = s.length := by omega
      subst e
      rw [List.take_length, fnvN_eq] at h3
      have hn := fnvN_lt s
      unfold sumOf
      generalize fnvN s = n at *
      obtain ⟨hl, hp⟩ := hexMin_pad 15 n (by simpa using hn)
      have e1 : (16 : Int) - ((hexMin n).length : Int) = ((16 - (hexMin n).length : Nat) : Int) := by omega
      have e2 := sRep_eq (16 - (hexMin n).length) (by omega)
      have e3 := sFU_eq n hn
      have e4 : ((16 - (hexMin n).length : Nat) : Int) = ((16 - (hexMin n).length : Nat) : Int) := rfl
      simp -implicitDefEqProofs (disch := omega) only [go_sem, tys, regs0, Nat.reduceEqDiff, Nat.reduceAdd, Nat.reduceLeDiff, Nat.reduceLT, Nat.reduceMul, Int.natCast_one, Int.natCast_zero, Int.reduceEq, Int.reduceLT, Int.reduceLE, Int.reduceAdd, Int.reduceSub, Int.reduceToNat, UInt8.reduceToNat, Go.IntWalk.i64_in, h0, h3, h7, h8, puS7, e3, e1, e2]
      exact ⟨by simp; omega, Done.now ⟨congrArg AV.str hp.symm, rfl⟩⟩
def sSum : List AV → Option AV := fn1 .str fun s => if s.length ≤ Room then some (.str (sumOf s)) else none
theorem sSum_eq (s : Bytes) : sSum [.str s] = if s.length ≤ Room then some (.str (sumOf s)) else none := rfl
theorem sSum_ok {P : Program} {f : FuncId} (h : ∀ s H, s.length ≤ Room → ACalls P f [.str s] H fun x H' => x = .str (sumOf s) ∧ H' = H) : ∀ xs v, sSum xs = some v → ∀ H, ACalls P f xs H fun x H' => x = v ∧ H' = H := by
  intro xs v hv H
  obtain ⟨x, s, rfl, h1, h2⟩ := fn1_some hv
  split at h2
  · cases h2
    cases Rd.str_some h1
    exact h s H ‹_›
  · cases h2
/-- What both sides know of sums. -/
def puM : Pures := putP 75 sSum (putP 35 sSum puN)
theorem puM_ok : PuOK Tryd.prog puM := PuOK.put (PuOK.put puN_ok (sSum_ok rSumOf_calls)) (sSum_ok sumOf_calls)
end Go.Proofs
