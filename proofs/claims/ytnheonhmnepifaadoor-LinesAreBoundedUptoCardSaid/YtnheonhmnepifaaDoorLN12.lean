/- Walks: the laws LinesMatch and LinesAreBounded. -/
import Derived.Test.YtnheonhmnepifaaDoorLN11
namespace Go.Proofs
open Go Go.Abs
set_option linter.unusedSimpArgs false
set_option linter.unusedVariables false
set_option maxRecDepth 20000
theorem eqP_ne (cx cy : Bool) (a b : Nat × Nat) : bin Tryd.prog .neq 32 cx cy (.agg (encP a)) (.agg (encP b)) = some (.bool (decide ¬ a = b)) := by
  have hr : List.range 2 = [0, 1] := rfl
  have h : eqT Tryd.prog 6 32 (.agg (encP a)) (.agg (encP b)) = some (decide (a = b)) := by
    obtain ⟨x1, x2⟩ := a
    obtain ⟨y1, y2⟩ := b
    simp only [encP, eqT, tys, hr, eqItems, readC, TD.agg, if_true, List.drop_zero, List.drop_succ_cons, List.head?_cons, Bool.false_eq_true, if_false, Option.some.injEq, Bool.and_true, Nat.zero_mul, Nat.one_mul]
    rw [Bool.eq_iff_iff]
    simp [Prod.mk.injEq]
    omega
  have e : eqA Tryd.prog 32 cx cy (.agg (encP a)) (.agg (encP b)) = some (decide (a = b)) := by
    unfold eqA
    simp only [tys, if_true]
    exact h
  show (eqA Tryd.prog 32 cx cy (.agg (encP a)) (.agg (encP b))).map (fun b => AV.bool (!b)) = _
  rw [e]
  simp
theorem eqP_calls (a b : List (Nat × Nat)) (t t' : Tail) (H : Heap) (ha : a.length ≤ 1099511627776) : ACalls Tryd.prog 17 [.sl (a.map encP) t, .sl (b.map encP) t'] H fun x H' => x = .bool (decide (a = b)) ∧ H' = H := by
  by_cases hl : ¬ a.length = b.length
  · have d1 : decide (¬ (a.length : Int) = b.length) = true := by simp; omega
    refine ACalls.of_code (X := { pure := pu0 }) pu0_ok Tryd.func17 (by kernel_rfl) rfl (by kernel_rfl) (Nat.le_of_ble_eq_true rfl) ?_
    simp -implicitDefEqProofs only [go_sem, tys, regs0, Nat.reduceEqDiff, Nat.reduceAdd, Nat.reduceLeDiff, Nat.reduceLT, Nat.reduceMul, Int.natCast_one, Int.natCast_zero, Int.reduceEq, Int.reduceLT, Int.reduceLE, Int.reduceAdd, Int.reduceSub, Int.reduceToNat, UInt8.reduceToNat, Tryd.f17, d1]
    refine Done.now ⟨?_, rfl⟩
    have : ¬ a = b := fun e => hl (by rw [e])
    simp [this]
  · have hl : a.length = b.length := Decidable.not_not.1 hl
    have d1 : decide (¬ (a.length : Int) = b.length) = false := by simp; omega
    refine ACalls.of_code (X := { pure := pu0 }) pu0_ok Tryd.func17 (by kernel_rfl) rfl (by kernel_rfl) (Nat.le_of_ble_eq_true rfl) ?_
    simp -implicitDefEqProofs only [go_sem, tys, regs0, Nat.reduceEqDiff, Nat.reduceAdd, Nat.reduceLeDiff, Nat.reduceLT, Nat.reduceMul, Int.natCast_one, Int.natCast_zero, Int.reduceEq, Int.reduceLT, Int.reduceLE, Int.reduceAdd, Int.reduceSub, Int.reduceToNat, UInt8.reduceToNat, Tryd.f17, d1]
    refine aloop_intro (σ := Nat) (fun i => [(0, .sl (a.map encP) t), (1, .sl (b.map encP) t'), (12, .int .i64 a.length), (13, .int .i64 i)])
      (fun i G => G = H ∧ i ≤ a.length ∧ a.take i = b.take i) (fun i => a.length - i) 0 ?_ ?_ ?_
    · simp -implicitDefEqProofs only [go_sem, tys, regs0, Nat.reduceEqDiff, Nat.reduceAdd, Nat.reduceLeDiff, Nat.reduceLT, Nat.reduceMul, Int.natCast_one, Int.natCast_zero, Int.reduceEq, Int.reduceLT, Int.reduceLE, Int.reduceAdd, Int.reduceSub, Int.reduceToNat, UInt8.reduceToNat]
    · simp
    · intro i r G hv hI
      have h0 := hv.1
      have h1 := hv.2.1
      have h12 := hv.2.2.1
      have h13 := hv.2.2.2.1
      have hG := hI.1.symm
      have hi := hI.2.1
      have hp := hI.2.2
      clear hv hI
      subst hG
      simp -implicitDefEqProofs only [go_sem, tys, regs0, Nat.reduceEqDiff, Nat.reduceAdd, Nat.reduceLeDiff, Nat.reduceLT, Nat.reduceMul, Int.natCast_one, Int.natCast_zero, Int.reduceEq, Int.reduceLT, Int.reduceLE, Int.reduceAdd, Int.reduceSub, Int.reduceToNat, UInt8.reduceToNat, h0, h1, h12, h13]
      refine cnd_intro (fun h => ?_) (fun h => ?_)
      · simp only [decide_eq_true_eq] at h
        obtain ⟨x, hx⟩ := get_some (l := a) (i := i) (by omega)
        obtain ⟨y, hy⟩ := get_some (l := b) (i := i) (by omega)
        have ht := take_eq_succ hx hy
        have hn := fun cx cy => eqP_ne cx cy x y
        obtain ⟨x1, x2⟩ := x
        obtain ⟨y1, y2⟩ := y
        simp only [encP] at hn
        simp -implicitDefEqProofs only [go_sem, tys, regs0, Nat.reduceEqDiff, Nat.reduceAdd, Nat.reduceLeDiff, Nat.reduceLT, Nat.reduceMul, Int.natCast_one, Int.natCast_zero, Int.reduceEq, Int.reduceLT, Int.reduceLE, Int.reduceAdd, Int.reduceSub, Int.reduceToNat, UInt8.reduceToNat, h0, h1, h12, h13, hx, hy, encP, hn]
        refine cnd_intro (fun g => ?_) (fun g => ?_)
        · simp -implicitDefEqProofs only [go_sem, tys, regs0, Nat.reduceEqDiff, Nat.reduceAdd, Nat.reduceLeDiff, Nat.reduceLT, Nat.reduceMul, Int.natCast_one, Int.natCast_zero, Int.reduceEq, Int.reduceLT, Int.reduceLE, Int.reduceAdd, Int.reduceSub, Int.reduceToNat, UInt8.reduceToNat]
          refine Done.now ⟨?_, rfl⟩
          have : ¬ a = b := fun e => by subst e; rw [hx] at hy; cases hy; simp at g
          simp [this]
        · simp -implicitDefEqProofs (disch := omega) only [go_sem, tys, regs0, Nat.reduceEqDiff, Nat.reduceAdd, Nat.reduceLeDiff, Nat.reduceLT, Nat.reduceMul, Int.natCast_one, Int.natCast_zero, Int.reduceEq, Int.reduceLT, Int.reduceLE, Int.reduceAdd, Int.reduceSub, Int.reduceToNat, UInt8.reduceToNat, Go.IntWalk.i64_in, h0, h1, h12, h13]
          simp only [decide_eq_false_iff_not, Decidable.not_not] at g
          exact Again.mk (i + 1) (by simp -implicitDefEqProofs only [go_sem, tys, regs0, Nat.reduceEqDiff, Nat.reduceAdd, Nat.reduceLeDiff, Nat.reduceLT, Nat.reduceMul, Int.natCast_one, Int.natCast_zero, Int.reduceEq, Int.reduceLT, Int.reduceLE, Int.reduceAdd, Int.reduceSub, Int.reduceToNat, UInt8.reduceToNat, h0, h1, h12, h13]; exact rfl) ⟨rfl, by omega, ht.2 ⟨hp, g⟩⟩ (by omega)
      · simp only [decide_eq_false_iff_not] at h
        have e : i = a.length := by omega
        rw [e, List.take_length, hl, List.take_length] at hp
        simp -implicitDefEqProofs only [go_sem, tys, regs0, Nat.reduceEqDiff, Nat.reduceAdd, Nat.reduceLeDiff, Nat.reduceLT, Nat.reduceMul, Int.natCast_one, Int.natCast_zero, Int.reduceEq, Int.reduceLT, Int.reduceLE, Int.reduceAdd, Int.reduceSub, Int.reduceToNat, UInt8.reduceToNat]
        exact Done.now ⟨by simp [hp], rfl⟩
def sEqP : List AV → Option AV := fn2 (Rd.list decP) (Rd.list decP) fun a b => if a.length ≤ 1099511627776 then some (.bool (decide (a = b))) else none
theorem sEqP_eq (a b : List (Nat × Nat)) (t t' : Tail) (h : a.length ≤ 1099511627776) : sEqP [.sl (a.map encP) t, .sl (b.map encP) t'] = some (.bool (decide (a = b))) := by
  unfold sEqP
  rw [fn2_eq, Rd.list_eq decP_enc, Rd.list_eq decP_enc]
  simp only [Option.bind_some, if_pos h]
theorem sEqP_ok : ∀ xs v, sEqP xs = some v → ∀ H, ACalls Tryd.prog 17 xs H fun x H' => x = v ∧ H' = H := by
  intro xs v hv H
  obtain ⟨x, y, p, q, rfl, h1, h2, h3⟩ := fn2_some hv
  obtain ⟨t, rfl⟩ := Rd.list_some (fun _ _ => decP_some) h1
  obtain ⟨t', rfl⟩ := Rd.list_some (fun _ _ => decP_some) h2
  obtain ⟨h4, rfl⟩ := some_if h3
  exact eqP_calls p q t t' H h4
/-! ### Repeat -/
theorem mul64n_calls (k : Nat) (hk : k ≤ 1100) (H : Heap) : ACalls Tryd.prog 114 [.int .u64 1, .int .u64 k] H fun x H' => x = .tup [.int .u64 0, .int .u64 k] ∧ H' = H := by
  have a1 : andI .u64 1 4294967295 = 1 := by decide
  have a2 : shrI .u64 1 32 = 0 := by decide
  have a3 : andI .u64 0 4294967295 = 0 := by decide
  have a4 : shrI .u64 0 32 = 0 := by decide
  have a5 := and32 k (by omega)
  have a6 := shr32 k (by omega)
  have a7 : IntKind.u64.wrap k = k := Go.IntWalk.u64_in _ (by omega)
  have a8 : IntKind.u64.wrap 0 = 0 := by decide
  refine ACalls.of_code (X := { pure := pu0 }) pu0_ok Tryd.func114 (by kernel_rfl) rfl (by kernel_rfl) (Nat.le_of_ble_eq_true rfl) ?_
  simp -implicitDefEqProofs only [go_sem, tys, regs0, Nat.reduceEqDiff, Nat.reduceAdd, Nat.reduceLeDiff, Nat.reduceLT, Nat.reduceMul, Int.natCast_one, Int.natCast_zero, Int.reduceEq, Int.reduceLT, Int.reduceLE, Int.reduceAdd, Int.reduceSub, Int.reduceToNat, UInt8.reduceToNat, Tryd.f114, a1, a2, a3, a4, a5, a6, a7, a8, Int.one_mul, Int.zero_mul, Int.mul_zero, Int.add_zero, Int.zero_add]
  exact Done.now ⟨rfl, rfl⟩
def sMulN : List AV → Option AV := fn2 (.int .u64) (.int .u64) fun a b => if a = 1 ∧ 0 ≤ b ∧ b ≤ 1100 then some (.tup [.int .u64 0, .int .u64 b]) else none
theorem sMulN_eq (a b : Int) : sMulN [.int .u64 a, .int .u64 b] = if a = 1 ∧ 0 ≤ b ∧ b ≤ 1100 then some (.tup [.int .u64 0, .int .u64 b]) else none := rfl
theorem sMulN_ok {P : Program} {f : FuncId} (h : ∀ (k : Nat), k ≤ 1100 → ∀ H, ACalls P f [.int .u64 1, .int .u64 k] H fun x H' => x = .tup [.int .u64 0, .int .u64 k] ∧ H' = H) : ∀ xs v, sMulN xs = some v → ∀ H, ACalls P f xs H fun x H' => x = v ∧ H' = H := by
  intro xs v hv H
  obtain ⟨x, y, p, q, rfl, h1, h2, h3⟩ := fn2_some hv
  cases Rd.int_some h1
  cases Rd.int_some h2
  obtain ⟨⟨rfl, h0, h16⟩, rfl⟩ := some_if h3
  obtain ⟨k, rfl⟩ : ∃ k : Nat, q = k := ⟨q.toNat, by omega⟩
  exact h k (by omega) H
def puR1 : Pures := putP 114 sMulN pu0
theorem puR1_ok : PuOK Tryd.prog puR1 := .put .zero (sMulN_ok mul64n_calls)
theorem muln_calls (k : Nat) (hk : k ≤ 1100) (H : Heap) : ACalls Tryd.prog 72 [.int .u64 1, .int .u64 k] H fun x H' => x = .tup [.int .u64 0, .int .u64 k] ∧ H' = H := by
  have hk' : (0 : Int) ≤ k ∧ (k : Int) ≤ 1100 := by omega
  refine ACalls.of_code (X := { pure := puR1 }) puR1_ok Tryd.func72 (by kernel_rfl) rfl (by kernel_rfl) (Nat.le_of_ble_eq_true rfl) ?_
  simp -implicitDefEqProofs only [go_sem, tys, regs0, Nat.reduceEqDiff, Nat.reduceAdd, Nat.reduceLeDiff, Nat.reduceLT, Nat.reduceMul, Int.natCast_one, Int.natCast_zero, Int.reduceEq, Int.reduceLT, Int.reduceLE, Int.reduceAdd, Int.reduceSub, Int.reduceToNat, UInt8.reduceToNat, Tryd.f72, puR1, sMulN_eq, hk']
  exact Done.now ⟨rfl, rfl⟩
def puR2 : Pures := putP 72 sMulN pu0
theorem puR2_ok : PuOK Tryd.prog puR2 := .put .zero (sMulN_ok muln_calls)
set_option maxHeartbeats 3200000 in
set_option maxRecDepth 100000 in
theorem repeatN_calls (k : Nat) (hk : k ≤ 1100) (H : Heap) : ACalls Tryd.prog 20 [.str [10], .int .i64 k] H fun x H' => x = .str (List.replicate k 10) ∧ H' = H := by
  have a0 : IntKind.u64.wrap k = k := Go.IntWalk.u64_in _ (by omega)
  have a1 : IntKind.u64.wrap 1 = 1 := by decide
  have a2 : IntKind.i64.wrap k = k := Go.IntWalk.i64_in _ (by omega)
  have hk' : (0 : Int) ≤ k ∧ (k : Int) ≤ 1100 := by omega
  have d1 : decide ((k : Int) < 0) = false := by simp
  have d2 : decide ((9223372036854775807 : Int) < k) = false := by simp; omega
  have d3 : decide ((8192 : Int) < k) = false := by simp; omega
  by_cases k0 : k = 0
  · subst k0
    refine ACalls.of_code (X := { pure := puR2 }) puR2_ok Tryd.func20 (by kernel_rfl) rfl (by kernel_rfl) (Nat.le_of_ble_eq_true rfl) ?_
    simp -implicitDefEqProofs only [go_sem, tys, regs0, Nat.reduceEqDiff, Nat.reduceAdd, Nat.reduceLeDiff, Nat.reduceLT, Nat.reduceMul, Int.natCast_one, Int.natCast_zero, Int.reduceEq, Int.reduceLT, Int.reduceLE, Int.reduceAdd, Int.reduceSub, Int.reduceToNat, UInt8.reduceToNat, Tryd.f20]
    exact Done.now ⟨rfl, rfl⟩
  by_cases k1 : k = 1
  · subst k1
    refine ACalls.of_code (X := { pure := puR2 }) puR2_ok Tryd.func20 (by kernel_rfl) rfl (by kernel_rfl) (Nat.le_of_ble_eq_true rfl) ?_
    simp -implicitDefEqProofs only [go_sem, tys, regs0, Nat.reduceEqDiff, Nat.reduceAdd, Nat.reduceLeDiff, Nat.reduceLT, Nat.reduceMul, Int.natCast_one, Int.natCast_zero, Int.reduceEq, Int.reduceLT, Int.reduceLE, Int.reduceAdd, Int.reduceSub, Int.reduceToNat, UInt8.reduceToNat, Tryd.f20]
    exact Done.now ⟨rfl, rfl⟩
  have d5 : decide ((k : Int) = 0) = false := by simp; omega
  have d6 : decide ((k : Int) = 1) = false := by simp; omega
  refine ACalls.of_code (X := { pure := puR2, ms := fun t => decide (t = 9) }) puR2_ok Tryd.func20 (by kernel_rfl) rfl (by kernel_rfl) (Nat.le_of_ble_eq_true rfl) ?_
  simp -implicitDefEqProofs only [go_sem, tys, regs0, Nat.reduceEqDiff, Nat.reduceAdd, Nat.reduceLeDiff, Nat.reduceLT, Nat.reduceMul, Int.natCast_one, Int.natCast_zero, Int.reduceEq, Int.reduceLT, Int.reduceLE, Int.reduceAdd, Int.reduceSub, Int.reduceToNat, UInt8.reduceToNat, Tryd.f20, puR2, sMulN_eq, hk', a0, a1, a2, d1, d2, d3, d5, d6, Int.toNat_zero, Int.le_refl]
  refine nwT_intro fun b hb => ?_
  have hsub : H.Sub (H.put b (.cells [.nilp, .snil])) := (Heap.Sub.rfl' H).put' hb _
  simp -implicitDefEqProofs only [go_sem, tys, regs0, Nat.reduceEqDiff, Nat.reduceAdd, Nat.reduceLeDiff, Nat.reduceLT, Nat.reduceMul, Int.natCast_one, Int.natCast_zero, Int.reduceEq, Int.reduceLT, Int.reduceLE, Int.reduceAdd, Int.reduceSub, Int.reduceToNat, UInt8.reduceToNat]
  refine bldGrow_k hsub hb (put_same _ _ _) (by omega) (fun G1 hG1 _ => ?_)
  have hg : (!decide (k = 0)) = true := by simp [k0]
  rw [hg] at hG1
  simp -implicitDefEqProofs only [go_sem, tys, regs0, Nat.reduceEqDiff, Nat.reduceAdd, Nat.reduceLeDiff, Nat.reduceLT, Nat.reduceMul, Int.natCast_one, Int.natCast_zero, Int.reduceEq, Int.reduceLT, Int.reduceLE, Int.reduceAdd, Int.reduceSub, Int.reduceToNat, UInt8.reduceToNat]
  refine writeString_k hG1 (by simp) (fun G2 hG2 _ => ?_)
  rw [List.nil_append] at hG2
  simp -implicitDefEqProofs only [go_sem, tys, regs0, Nat.reduceEqDiff, Nat.reduceAdd, Nat.reduceLeDiff, Nat.reduceLT, Nat.reduceMul, Int.natCast_one, Int.natCast_zero, Int.reduceEq, Int.reduceLT, Int.reduceLE, Int.reduceAdd, Int.reduceSub, Int.reduceToNat, UInt8.reduceToNat]
  refine aloop_intro (σ := Nat) (fun m => [(7, .int .i64 (k : Int)), (8, .int .i64 (k : Int)), (9, bldP b)]) (fun m G => BldG true H G b (List.replicate m 10) ∧ 1 ≤ m ∧ m ≤ k) (fun m => k - m) 1 ?_ ?_ ?_
  · simp -implicitDefEqProofs only [go_sem, tys, regs0, Nat.reduceEqDiff, Nat.reduceAdd, Nat.reduceLeDiff, Nat.reduceLT, Nat.reduceMul, Int.natCast_one, Int.natCast_zero, Int.reduceEq, Int.reduceLT, Int.reduceLE, Int.reduceAdd, Int.reduceSub, Int.reduceToNat, UInt8.reduceToNat]
  · exact ⟨hG2, Nat.le_refl _, by omega⟩
  · intro m r G hv hI
    have h7 := hv.1
    have h8 := hv.2.1
    have h9 := hv.2.2.1
    have hB := hI.1
    have h1 := hI.2.1
    have hm := hI.2.2
    clear hv hI
    simp -implicitDefEqProofs only [go_sem, tys, regs0, Nat.reduceEqDiff, Nat.reduceAdd, Nat.reduceLeDiff, Nat.reduceLT, Nat.reduceMul, Int.natCast_one, Int.natCast_zero, Int.reduceEq, Int.reduceLT, Int.reduceLE, Int.reduceAdd, Int.reduceSub, Int.reduceToNat, UInt8.reduceToNat, h7, h8, h9]
    refine bldLen_k hB ?_
    have hlen : ((List.replicate m (10 : UInt8)).length : Int) = (m : Int) := by simp
    by_cases c : m < k
    · have y : decide ((m : Int) < (k : Int)) = true := decide_eq_true (by omega)
      simp -implicitDefEqProofs only [go_sem, tys, regs0, Nat.reduceEqDiff, Nat.reduceAdd, Nat.reduceLeDiff, Nat.reduceLT, Nat.reduceMul, Int.natCast_one, Int.natCast_zero, Int.reduceEq, Int.reduceLT, Int.reduceLE, Int.reduceAdd, Int.reduceSub, Int.reduceToNat, UInt8.reduceToNat, h7, h8, h9, hlen, y]
      refine bldLen_k hB ?_
      have w : IntKind.i64.wrap ((k : Int) - m) = (k : Int) - m := Go.IntWalk.i64_in _ (by omega)
      simp -implicitDefEqProofs only [go_sem, tys, regs0, Nat.reduceEqDiff, Nat.reduceAdd, Nat.reduceLeDiff, Nat.reduceLT, Nat.reduceMul, Int.natCast_one, Int.natCast_zero, Int.reduceEq, Int.reduceLT, Int.reduceLE, Int.reduceAdd, Int.reduceSub, Int.reduceToNat, UInt8.reduceToNat, h7, h8, h9, hlen, w]
      refine bldLen_k hB ?_
      obtain ⟨q, hq, hq1, hq2⟩ : ∃ q : Nat, min (min ((k : Int) - m) (m : Int)) (k : Int) = (q : Int) ∧ q ≤ m ∧ 1 ≤ q ∧ m + q ≤ k := ⟨min (min (k - m) m) k, by omega, by omega, by omega⟩
      simp -implicitDefEqProofs only [go_sem, tys, regs0, Nat.reduceEqDiff, Nat.reduceAdd, Nat.reduceLeDiff, Nat.reduceLT, Nat.reduceMul, Int.natCast_one, Int.natCast_zero, Int.reduceEq, Int.reduceLT, Int.reduceLE, Int.reduceAdd, Int.reduceSub, Int.reduceToNat, UInt8.reduceToNat, h7, h8, h9, hlen, hq]
      refine bldString_k hB (by simp; omega) (fun _ e => by have := congrArg List.length e; simp at this; omega) ?_
      have l1 : (q : Int) ≤ ((List.replicate m (10 : UInt8)).length : Int) := by simp; omega
      have e1 : (List.replicate m (10 : UInt8)).take q = List.replicate q 10 := by rw [List.take_replicate, Nat.min_eq_left hq1]
      simp -implicitDefEqProofs only [go_sem, tys, regs0, Nat.reduceEqDiff, Nat.reduceAdd, Nat.reduceLeDiff, Nat.reduceLT, Nat.reduceMul, Int.natCast_one, Int.natCast_zero, Int.reduceEq, Int.reduceLT, Int.reduceLE, Int.reduceAdd, Int.reduceSub, Int.reduceToNat, UInt8.reduceToNat, h7, h8, h9, l1, e1, Int.toNat_natCast, Int.toNat_zero, Int.le_refl]
      refine writeString_k hB (by simp; omega) (fun G3 hG3 _ => ?_)
      rw [List.replicate_append_replicate] at hG3
      simp -implicitDefEqProofs only [go_sem, tys, regs0, Nat.reduceEqDiff, Nat.reduceAdd, Nat.reduceLeDiff, Nat.reduceLT, Nat.reduceMul, Int.natCast_one, Int.natCast_zero, Int.reduceEq, Int.reduceLT, Int.reduceLE, Int.reduceAdd, Int.reduceSub, Int.reduceToNat, UInt8.reduceToNat, h7, h8, h9]
      exact Again.mk (m + q) (by simp -implicitDefEqProofs only [go_sem, tys, regs0, Nat.reduceEqDiff, Nat.reduceAdd, Nat.reduceLeDiff, Nat.reduceLT, Nat.reduceMul, Int.natCast_one, Int.natCast_zero, Int.reduceEq, Int.reduceLT, Int.reduceLE, Int.reduceAdd, Int.reduceSub, Int.reduceToNat, UInt8.reduceToNat, h7, h8, h9]) ⟨hG3, by omega, by omega⟩ (by omega)
    · have e : m = k := by omega
      subst e
      have y : decide ((m : Int) < (m : Int)) = false := decide_eq_false (by omega)
      simp -implicitDefEqProofs only [go_sem, tys, regs0, Nat.reduceEqDiff, Nat.reduceAdd, Nat.reduceLeDiff, Nat.reduceLT, Nat.reduceMul, Int.natCast_one, Int.natCast_zero, Int.reduceEq, Int.reduceLT, Int.reduceLE, Int.reduceAdd, Int.reduceSub, Int.reduceToNat, UInt8.reduceToNat, h7, h8, h9, hlen, y]
      refine bldString_k hB (by simp; omega) (fun _ e => by have := congrArg List.length e; simp at this; omega) ?_
      simp -implicitDefEqProofs only [go_sem, tys, regs0, Nat.reduceEqDiff, Nat.reduceAdd, Nat.reduceLeDiff, Nat.reduceLT, Nat.reduceMul, Int.natCast_one, Int.natCast_zero, Int.reduceEq, Int.reduceLT, Int.reduceLE, Int.reduceAdd, Int.reduceSub, Int.reduceToNat, UInt8.reduceToNat]
      exact Done.drop hB.sub ⟨rfl, rfl⟩
def sRepN : List AV → Option AV := fn2 .str (.int .i64) fun s k => if s = [10] ∧ 0 ≤ k ∧ k ≤ 1100 then some (.str (List.replicate k.toNat 10)) else none
theorem sRepN_eq (k : Nat) (hk : k ≤ 1100) : sRepN [.str [10], .int .i64 k] = some (.str (List.replicate k 10)) := by
  unfold sRepN
  rw [fn2_eq, Rd.str_eq, Rd.int_eq]
  simp only [Option.bind_some]
  rw [if_pos ⟨trivial, by omega, by omega⟩, Int.toNat_natCast]
theorem sRepN_ok : ∀ xs v, sRepN xs = some v → ∀ H, ACalls Tryd.prog 20 xs H fun x H' => x = v ∧ H' = H := by
  intro xs v hv H
  obtain ⟨x, y, s, k, rfl, h1, h2, h3⟩ := fn2_some hv
  cases Rd.str_some h1
  cases Rd.int_some h2
  obtain ⟨⟨rfl, h4, h5⟩, rfl⟩ := some_if h3
  have := repeatN_calls k.toNat (by omega) H
  rwa [Int.toNat_of_nonneg h4] at this
def puY : Pures := putP 17 sEqP (putP 19 sMerge (putP 18 sMerge (putP 20 sRepN puZ)))
theorem puY_ok : PuOK Tryd.prog puY := .put (.put (.put (.put puZ_ok sRepN_ok) (sMerge_ok mergeTexts_calls)) (sMerge_ok merge_calls)) sEqP_ok
theorem told_len (a b : Bytes) (ha : a.length ≤ 1099511627776) : (toldV a b).length ≤ 1099511627776 := by
  unfold toldV
  split
  · rename_i h
    have h1 := linesE_ok h
    have := rise_len (pairs_rise a b)
    omega
  · simp
set_option maxHeartbeats 6400000 in
theorem linesMatch_calls (base a b : Bytes) (H : Heap) (h0 : base.length ≤ 1099511627776) (h1 : a.length ≤ 1099511627776) (h2 : b.length ≤ 1099511627776) :
    ACalls Tryd.prog 3 [.str base, .str a, .str b] H fun x H' => x = .bool true ∧ H' = H := by
  have t1 := sTold_eq base a h0 h1
  have e1 := sLinesE_eq base a h0 h1
  have e2 := sLinesE_eq base b h0 h2
  have m1 := sMerge_eq base a b h0 h1 h2
  have m2 := sMerge_eq base base b h0 h0 h2
  have m3 := sMerge_eq base a base h0 h1 h0
  have q0 := sLines_eq base h0
  have q1 := sLines_eq a h1
  have tq := fun t t' => sEqP_eq (toldV base a) (toldV base a) t t' (told_len base a h0)
  refine ACalls.of_code (X := { pure := puY }) puY_ok Tryd.func3 (by kernel_rfl) rfl (by kernel_rfl) (Nat.le_of_ble_eq_true rfl) ?_
  simp -implicitDefEqProofs only [go_sem, tys, regs0, Nat.reduceEqDiff, Nat.reduceAdd, Nat.reduceLeDiff, Nat.reduceLT, Nat.reduceMul, Int.natCast_one, Int.natCast_zero, Int.reduceEq, Int.reduceLT, Int.reduceLE, Int.reduceAdd, Int.reduceSub, Int.reduceToNat, UInt8.reduceToNat, Tryd.f3, puY, puZ, puH3, sLandD, e1]
  with_reducible refine cnd_mid (fun r G => G = H ∧ ∃ t, agrees r [(0, .str base), (1, .str a), (2, .str b), (7, .int .i64 (linesE base a)), (8, .sl ((toldV base a).map encP) t)]) ?_ ?_
  rotate_left
  · by_cases c : linesE base a = 0
    · have y : decide (linesE base a = 0) = true := decide_eq_true c
      have o1 := linesE_ok c
      have hs : ∀ t t', sCommon [.sl ((linesV base).map encS) t, .sl ((linesV a).map encS) t'] = some (.sl ((toldV base a).map encP) .unk) := fun t t' => by rw [told_ok c]; exact sCommon_eq _ _ t t' (by omega) (by omega)
      simp -implicitDefEqProofs only [go_sem, tys, regs0, Nat.reduceEqDiff, Nat.reduceAdd, Nat.reduceLeDiff, Nat.reduceLT, Nat.reduceMul, Int.natCast_one, Int.natCast_zero, Int.reduceEq, Int.reduceLT, Int.reduceLE, Int.reduceAdd, Int.reduceSub, Int.reduceToNat, UInt8.reduceToNat, y, puY, puZ, puH3, q0, q1, hs]
      exact ⟨.unk, by simp -implicitDefEqProofs only [go_sem, tys, regs0, Nat.reduceEqDiff, Nat.reduceAdd, Nat.reduceLeDiff, Nat.reduceLT, Nat.reduceMul, Int.natCast_one, Int.natCast_zero, Int.reduceEq, Int.reduceLT, Int.reduceLE, Int.reduceAdd, Int.reduceSub, Int.reduceToNat, UInt8.reduceToNat]⟩
    · have y : decide (linesE base a = 0) = false := decide_eq_false c
      have ht : toldV base a = [] := if_neg c
      simp -implicitDefEqProofs only [go_sem, tys, regs0, Nat.reduceEqDiff, Nat.reduceAdd, Nat.reduceLeDiff, Nat.reduceLT, Nat.reduceMul, Int.natCast_one, Int.natCast_zero, Int.reduceEq, Int.reduceLT, Int.reduceLE, Int.reduceAdd, Int.reduceSub, Int.reduceToNat, UInt8.reduceToNat, y]
      exact ⟨.exact, by simp -implicitDefEqProofs only [go_sem, tys, regs0, Nat.reduceEqDiff, Nat.reduceAdd, Nat.reduceLeDiff, Nat.reduceLT, Nat.reduceMul, Int.natCast_one, Int.natCast_zero, Int.reduceEq, Int.reduceLT, Int.reduceLE, Int.reduceAdd, Int.reduceSub, Int.reduceToNat, UInt8.reduceToNat, ht]⟩
  rintro r G ⟨rfl, t, hv⟩
  have g0 := hv.1
  have g1 := hv.2.1
  have g2 := hv.2.2.1
  have g7 := hv.2.2.2.1
  have g8 := hv.2.2.2.2.1
  clear hv
  by_cases c1 : linesE base a = 0
  · by_cases c2 : linesE base b = 0
    · have y1 : decide (¬ linesE base a = 0) = false := decide_eq_false (by simpa using c1)
      have y2 : decide (¬ linesE base b = 0) = false := decide_eq_false (by simpa using c2)
      rw [mergeV_left c2] at m2
      rw [mergeV_right c1] at m3
      simp -implicitDefEqProofs only [go_sem, tys, regs0, Nat.reduceEqDiff, Nat.reduceAdd, Nat.reduceLeDiff, Nat.reduceLT, Nat.reduceMul, Int.natCast_one, Int.natCast_zero, Int.reduceEq, Int.reduceLT, Int.reduceLE, Int.reduceAdd, Int.reduceSub, Int.reduceToNat, UInt8.reduceToNat, g0, g1, g2, g7, g8, puY, puZ, puH3, t1, tq, m1, m2, m3, e1, e2, y1, y2]
      exact Done.now ⟨rfl, rfl⟩
    · have y1 : decide (¬ linesE base a = 0) = false := decide_eq_false (by simpa using c1)
      have y2 : decide (¬ linesE base b = 0) = true := decide_eq_true c2
      simp -implicitDefEqProofs only [go_sem, tys, regs0, Nat.reduceEqDiff, Nat.reduceAdd, Nat.reduceLeDiff, Nat.reduceLT, Nat.reduceMul, Int.natCast_one, Int.natCast_zero, Int.reduceEq, Int.reduceLT, Int.reduceLE, Int.reduceAdd, Int.reduceSub, Int.reduceToNat, UInt8.reduceToNat, g0, g1, g2, g7, g8, puY, puZ, puH3, t1, tq, m1, e1, e2, y1, y2]
      exact Done.now ⟨rfl, rfl⟩
  · have y1 : decide (¬ linesE base a = 0) = true := decide_eq_true c1
    simp -implicitDefEqProofs only [go_sem, tys, regs0, Nat.reduceEqDiff, Nat.reduceAdd, Nat.reduceLeDiff, Nat.reduceLT, Nat.reduceMul, Int.natCast_one, Int.natCast_zero, Int.reduceEq, Int.reduceLT, Int.reduceLE, Int.reduceAdd, Int.reduceSub, Int.reduceToNat, UInt8.reduceToNat, g0, g1, g2, g7, g8, puY, puZ, puH3, t1, tq, m1, e1, e2, y1]
    exact Done.now ⟨rfl, rfl⟩
set_option maxHeartbeats 6400000 in
theorem linesBounded_calls (a : Bytes) (many : Int) (H : Heap) (h0 : a.length ≤ 1099511627776) :
    ACalls Tryd.prog 4 [.str a, .int .i64 many] H fun x H' => x = .bool true ∧ H' = H := by
  obtain ⟨k, hk, hk2⟩ : ∃ k : Nat, min (max many 0) 1100 = (k : Int) ∧ k ≤ 1100 := ⟨(min (max many 0) 1100).toNat, by omega, by omega⟩
  have rq := sRepN_eq k hk2
  have h1 : (List.replicate k (10 : UInt8)).length ≤ 1099511627776 := by simp; omega
  have hn : ([] : Bytes).length ≤ 1099511627776 := by simp
  generalize (List.replicate k (10 : UInt8) : Bytes) = b at *
  have t1 := sTold_eq a b h0 h1
  have e1 := sLinesE_eq a b h0 h1
  have m1 := sMerge_eq b a [] h1 h0 hn
  have q0 := sLines_eq a h0
  have q1 := sLines_eq b h1
  have tq := fun t t' => sEqP_eq (toldV a b) (toldV a b) t t' (told_len a b h0)
  refine ACalls.of_code (X := { pure := puY }) puY_ok Tryd.func4 (by kernel_rfl) rfl (by kernel_rfl) (Nat.le_of_ble_eq_true rfl) ?_
  simp -implicitDefEqProofs only [go_sem, tys, regs0, Nat.reduceEqDiff, Nat.reduceAdd, Nat.reduceLeDiff, Nat.reduceLT, Nat.reduceMul, Int.natCast_one, Int.natCast_zero, Int.reduceEq, Int.reduceLT, Int.reduceLE, Int.reduceAdd, Int.reduceSub, Int.reduceToNat, UInt8.reduceToNat, Tryd.f4, puY, puZ, puH3, sLandD, hk, rq, e1]
  with_reducible refine cnd_mid (fun r G => G = H ∧ ∃ t, agrees r [(0, .str a), (5, .str b), (6, .int .i64 (linesE a b)), (7, .sl ((toldV a b).map encP) t)]) ?_ ?_
  rotate_left
  · by_cases c : linesE a b = 0
    · have y : decide (linesE a b = 0) = true := decide_eq_true c
      have o1 := linesE_ok c
      have hs : ∀ t t', sCommon [.sl ((linesV a).map encS) t, .sl ((linesV b).map encS) t'] = some (.sl ((toldV a b).map encP) .unk) := fun t t' => by rw [told_ok c]; exact sCommon_eq _ _ t t' (by omega) (by omega)
      simp -implicitDefEqProofs only [go_sem, tys, regs0, Nat.reduceEqDiff, Nat.reduceAdd, Nat.reduceLeDiff, Nat.reduceLT, Nat.reduceMul, Int.natCast_one, Int.natCast_zero, Int.reduceEq, Int.reduceLT, Int.reduceLE, Int.reduceAdd, Int.reduceSub, Int.reduceToNat, UInt8.reduceToNat, y, puY, puZ, puH3, q0, q1, hs]
      exact ⟨.unk, by simp -implicitDefEqProofs only [go_sem, tys, regs0, Nat.reduceEqDiff, Nat.reduceAdd, Nat.reduceLeDiff, Nat.reduceLT, Nat.reduceMul, Int.natCast_one, Int.natCast_zero, Int.reduceEq, Int.reduceLT, Int.reduceLE, Int.reduceAdd, Int.reduceSub, Int.reduceToNat, UInt8.reduceToNat]⟩
    · have y : decide (linesE a b = 0) = false := decide_eq_false c
      have ht : toldV a b = [] := if_neg c
      simp -implicitDefEqProofs only [go_sem, tys, regs0, Nat.reduceEqDiff, Nat.reduceAdd, Nat.reduceLeDiff, Nat.reduceLT, Nat.reduceMul, Int.natCast_one, Int.natCast_zero, Int.reduceEq, Int.reduceLT, Int.reduceLE, Int.reduceAdd, Int.reduceSub, Int.reduceToNat, UInt8.reduceToNat, y]
      exact ⟨.exact, by simp -implicitDefEqProofs only [go_sem, tys, regs0, Nat.reduceEqDiff, Nat.reduceAdd, Nat.reduceLeDiff, Nat.reduceLT, Nat.reduceMul, Int.natCast_one, Int.natCast_zero, Int.reduceEq, Int.reduceLT, Int.reduceLE, Int.reduceAdd, Int.reduceSub, Int.reduceToNat, UInt8.reduceToNat, ht]⟩
  rintro r G ⟨rfl, t, hv⟩
  have g0 := hv.1
  have g5 := hv.2.1
  have g6 := hv.2.2.1
  have g7 := hv.2.2.2.1
  clear hv
  simp -implicitDefEqProofs only [go_sem, tys, regs0, Nat.reduceEqDiff, Nat.reduceAdd, Nat.reduceLeDiff, Nat.reduceLT, Nat.reduceMul, Int.natCast_one, Int.natCast_zero, Int.reduceEq, Int.reduceLT, Int.reduceLE, Int.reduceAdd, Int.reduceSub, Int.reduceToNat, UInt8.reduceToNat, g0, g5, g6, g7, puY, puZ, puH3, t1, tq, m1]
  exact Done.now ⟨rfl, rfl⟩
end Go.Proofs
