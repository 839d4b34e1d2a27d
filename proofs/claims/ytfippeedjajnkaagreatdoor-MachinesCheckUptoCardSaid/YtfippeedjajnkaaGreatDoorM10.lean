/-
  Walks and plain laws, part 10.
-/
import Derived.Test.YtfippeedjajnkaaGreatDoorM8
import Derived.Test.YtfippeedjajnkaaGreatDoorM9
import Derived.Test.YtfippeedjajnkaaGreatDoorM4
import Derived.Test.YtfippeedjajnkaaGreatDoorM1
/- Walks: the difference of two machines, on the program's side. -/
namespace Go.Proofs
open Go Go.Abs
open Nat (reduceEqDiff reduceAdd reduceLeDiff reduceLT reduceMul)
open Int (reduceEq reduceLE reduceSub reduceToNat)
set_option linter.unusedSimpArgs false
set_option linter.unusedVariables false
set_option maxRecDepth 20000
/-- Behind a loop of diff. -/
def DiffQ (H : Heap) (P : List ChgV) (l : List (Nat × AV)) (r : Regs) (G : Heap) : Prop := ∃ tl, AppOK H G 10 (P.map encChg) tl ∧ r 11 = .sl (P.map encChg) tl ∧ agrees r l
set_option maxHeartbeats 12800000 in
theorem diffL_calls (L1 : List FileV) (L2 : List SetV) (L3 : List SvcV) (L4 : List FileV) (L5 : List SetV) (L6 : List SvcV) (a b : MacV) (ta tb tc td ua ub uc ud : Tail) (H : Heap)
    (s1 : sidesV (·.path) a.files b.files = (L1, L4)) (s2 : sidesV (·.key) a.sets b.sets = (L2, L5)) (s3 : sidesV (·.name) a.svcs b.svcs = (L3, L6)) (hA : MacOK a) (hB : MacOK b)
    (n1 : L1.length ≤ 10000) (n2 : L2.length ≤ 10000) (n3 : L3.length ≤ 10000) (n4 : L4.length ≤ 10000) (n5 : L5.length ≤ 10000) (n6 : L6.length ≤ 10000) :
    ACalls Tryz.prog 55 [.agg (encMac a ta tb tc td), .agg (encMac b ua ub uc ud)] H fun x H' => x = .sl ((L1.map rmF ++ L2.map rmS ++ L3.map rmV ++ L4.map ptF ++ L5.map ptS ++ L6.map ptV).map encChg) .unk ∧ H' = H := by
  have hS := Heap.Sub.rfl' H
  have qa2 := hA.l2; have qa3 := hA.l3; have qa4 := hA.l4
  have qb2 := hB.l2; have qb3 := hB.l3; have qb4 := hB.l4
  refine ACalls.of_code (X := { pure := pu0 }) pu0_ok Tryz.func55 (by kernel_rfl) rfl (by kernel_rfl) (Nat.le_of_ble_eq_true rfl) ?_
  simp -implicitDefEqProofs only [go_sem, reduceEqDiff, reduceAdd, reduceLeDiff, reduceLT, reduceMul, reduceEq, Int.reduceLT, reduceLE, Int.reduceAdd, reduceSub, reduceToNat, UInt8.reduceToNat, Tryz.f55, encMac]
  with_reducible refine nwC_intro fun ia hia => ?_
  generalize Ea : Heap.put H ia _ = G1
  have hO_a := obj_new Ea hia hS
  have na := hO_a.1
  have hS := hO_a.2.1
  have ga := hO_a.2.2.1
  clear hO_a
  simp -implicitDefEqProofs only [go_sem, reduceEqDiff, reduceAdd, reduceLeDiff, reduceLT, reduceMul, reduceEq, Int.reduceLT, reduceLE, Int.reduceAdd, reduceSub, reduceToNat, UInt8.reduceToNat]
  with_reducible refine nwC_intro fun jb hjb => ?_
  generalize Eb : Heap.put G1 jb _ = G2
  have hO_b := obj_new Eb hjb hS
  have nb := hO_b.1
  have hS := hO_b.2.1
  have gb := hO_b.2.2.1
  have da_b := obj_ne ga hjb
  have ga := hO_b.2.2.2 _ _ ga
  clear hO_b
  have c1 := sidesF_calls a.files b.files tb ub G2 (by omega) (by omega)
  have c2 := sidesS_calls a.sets b.sets tc uc G2 (by omega) (by omega)
  have c3 := sidesV_calls a.svcs b.svcs td ud G2 (by omega) (by omega)
  rw [s1] at c1
  rw [s2] at c2
  rw [s3] at c3
  simp -implicitDefEqProofs only [go_sem, reduceEqDiff, reduceAdd, reduceLeDiff, reduceLT, reduceMul, reduceEq, Int.reduceLT, reduceLE, Int.reduceAdd, reduceSub, reduceToNat, UInt8.reduceToNat, ga, gb]
  refine c1.pure_next _ ?_
  simp -implicitDefEqProofs only [go_sem, reduceEqDiff, reduceAdd, reduceLeDiff, reduceLT, reduceMul, reduceEq, Int.reduceLT, reduceLE, Int.reduceAdd, reduceSub, reduceToNat, UInt8.reduceToNat, ga, gb]
  refine c2.pure_next _ ?_
  simp -implicitDefEqProofs only [go_sem, reduceEqDiff, reduceAdd, reduceLeDiff, reduceLT, reduceMul, reduceEq, Int.reduceLT, reduceLE, Int.reduceAdd, reduceSub, reduceToNat, UInt8.reduceToNat, ga, gb]
  refine c3.pure_next _ ?_
  simp -implicitDefEqProofs only [go_sem, reduceEqDiff, reduceAdd, reduceLeDiff, reduceLT, reduceMul, reduceEq, Int.reduceLT, reduceLE, Int.reduceAdd, reduceSub, reduceToNat, UInt8.reduceToNat, ga, gb]
  have hO : AppOK H G2 10 (([] : List ChgV).map encChg) .exact := AppOK.nil hS
  clear ga gb c1 c2 c3 Ea Eb hS
  with_reducible refine aloop_cut 0 (DiffQ H (L1.map rmF) [(7, .sl (L2.map encSet) .unk), (9, .sl (L3.map encSvc) .unk), (6, .sl (L4.map encFile) .unk), (8, .sl (L5.map encSet) .unk), (10, .sl (L6.map encSvc) .unk)]) ?_ ?_
  rotate_left
  · refine aloop_intro (σ := Nat × Tail) (fun s => [(11, .sl (((L1.take s.1).map rmF).map encChg) s.2), (48, .sl (L1.map encFile) .unk), (49, .int .i64 L1.length), (50, .int .i64 s.1), (7, .sl (L2.map encSet) .unk), (9, .sl (L3.map encSvc) .unk), (6, .sl (L4.map encFile) .unk), (8, .sl (L5.map encSet) .unk), (10, .sl (L6.map encSvc) .unk)])
      (fun s G => s.1 ≤ L1.length ∧ AppOK H G 10 (((L1.take s.1).map rmF).map encChg) s.2) (fun s => L1.length - s.1) (0, .exact) ?_ ?_ ?_
    · simp -implicitDefEqProofs only [go_sem, reduceEqDiff, reduceAdd, reduceLeDiff, reduceLT, reduceMul, reduceEq, Int.reduceLT, reduceLE, Int.reduceAdd, reduceSub, reduceToNat, UInt8.reduceToNat, List.take_zero, List.map_nil, List.append_nil]
    · exact ⟨Nat.zero_le _, by simpa using hO⟩
    clear hO
    rintro ⟨i, tl⟩ r G hv ⟨hi, hO⟩
    simp only at hi hO
    have e11 := hv.1
    have ea := hv.2.1
    have eb := hv.2.2.1
    have ec := hv.2.2.2.1
    have f7 := hv.2.2.2.2.1
    have f9 := hv.2.2.2.2.2.1
    have f6 := hv.2.2.2.2.2.2.1
    have f8 := hv.2.2.2.2.2.2.2.1
    have f10 := hv.2.2.2.2.2.2.2.2.1
    simp only at e11 ec
    clear hv
    by_cases g : i < L1.length
    rotate_left
    · have y0 : decide ((i : Int) < L1.length) = false := decide_eq_false (by omega)
      obtain rfl : i = L1.length := by omega
      rw [List.take_length] at hO e11
      simp -implicitDefEqProofs only [go_sem, reduceEqDiff, reduceAdd, reduceLeDiff, reduceLT, reduceMul, reduceEq, Int.reduceLT, reduceLE, Int.reduceAdd, reduceSub, reduceToNat, UInt8.reduceToNat, e11, f7, f9, f6, f8, f10, ea, eb, ec, y0]
      refine ⟨tl, hO, by simp -implicitDefEqProofs only [go_sem, reduceEqDiff, reduceAdd, reduceLeDiff, reduceLT, reduceMul, reduceEq, Int.reduceLT, reduceLE, Int.reduceAdd, reduceSub, reduceToNat, UInt8.reduceToNat, e11, f7, f9, f6, f8, f10], ?_⟩
      simp -implicitDefEqProofs only [go_sem, reduceEqDiff, reduceAdd, reduceLeDiff, reduceLT, reduceMul, reduceEq, Int.reduceLT, reduceLE, Int.reduceAdd, reduceSub, reduceToNat, UInt8.reduceToNat, e11, f7, f9, f6, f8, f10]
    have y0 : decide ((i : Int) < L1.length) = true := decide_eq_true (by omega)
    obtain ⟨x, hx⟩ : ∃ x, L1[i]? = some x := getD_get' g
    have ws : IntKind.i64.wrap ((i : Int) + 1) = ((i + 1 : Nat) : Int) := by rw [Go.IntWalk.i64_in _ (by omega)]; omega
    have hU : ∀ (x : FileV), x ∈ L1 → (encFile x).length = 3 := fun _ _ => rfl
    have hnew : ((L1.take i).map rmF).map encChg ++ [encChg (rmF x)] = ((L1.take (i + 1)).map rmF).map encChg := by rw [List.take_add_one, hx]; simp
    have hlen : ((L1.take i).map rmF).length ≤ 100000 := by simp; omega
    obtain ⟨p, d, ru⟩ := x
    simp only [encChg, rmF, FileV.zero, SetV.zero, SvcV.zero] at hnew
    simp -implicitDefEqProofs only [go_sem, reduceEqDiff, reduceAdd, reduceLeDiff, reduceLT, reduceMul, reduceEq, Int.reduceLT, reduceLE, Int.reduceAdd, reduceSub, reduceToNat, UInt8.reduceToNat, e11, f7, f9, f6, f8, f10, ea, eb, ec, y0, hx]
    refine ⟨hU, Nat.le_refl _, ?_⟩
    simp only [encFile, List.take_succ_cons, List.take_zero, List.take_nil]
    with_reducible refine nwC_intro fun i5 hi5 => ?_
    simp -implicitDefEqProofs only [go_sem, reduceEqDiff, reduceAdd, reduceLeDiff, reduceLT, reduceMul, reduceEq, Int.reduceLT, reduceLE, Int.reduceAdd, reduceSub, reduceToNat, UInt8.reduceToNat]
    replace hO := hO.put hi5 (.cells [.str p, .str d, .bool ru])
    have g5 := put_same G i5 (.cells [.str p, .str d, .bool ru])
    generalize G.put i5 (.cells [.str p, .str d, .bool ru]) = G6 at *
    simp -implicitDefEqProofs only [go_sem, reduceEqDiff, reduceAdd, reduceLeDiff, reduceLT, reduceMul, reduceEq, Int.reduceLT, reduceLE, Int.reduceAdd, reduceSub, reduceToNat, UInt8.reduceToNat, e11, f7, f9, f6, f8, f10, ea, eb, ec, g5]
    refine AppOK.step hO (fun z hz => by obtain ⟨q, -, rfl⟩ := List.mem_map.1 hz; rfl) (by simp) (by rw [List.length_map]; simp at hlen ⊢; omega) (by rw [List.length_map]; simp at hlen ⊢; omega) fun tl' G' hO' hK => ?_
    rw [hnew] at hO' ⊢
    simp -implicitDefEqProofs only [go_sem, reduceEqDiff, reduceAdd, reduceLeDiff, reduceLT, reduceMul, reduceEq, Int.reduceLT, reduceLE, Int.reduceAdd, reduceSub, reduceToNat, UInt8.reduceToNat, e11, f7, f9, f6, f8, f10, ea, eb, ec, ws]
    exact Again.mk (i + 1, tl') (by simp -implicitDefEqProofs only [go_sem, reduceEqDiff, reduceAdd, reduceLeDiff, reduceLT, reduceMul, reduceEq, Int.reduceLT, reduceLE, Int.reduceAdd, reduceSub, reduceToNat, UInt8.reduceToNat, e11, f7, f9, f6, f8, f10, ea, eb, ec]) ⟨by simp only; omega, hO'⟩ (by simp only; omega)
  clear hO
  rintro r G ⟨tl, hO, e11, hv⟩
  have f7 := hv.1
  have f9 := hv.2.1
  have f6 := hv.2.2.1
  have f8 := hv.2.2.2.1
  have f10 := hv.2.2.2.2.1
  clear hv
  simp -implicitDefEqProofs only [go_sem, reduceEqDiff, reduceAdd, reduceLeDiff, reduceLT, reduceMul, reduceEq, Int.reduceLT, reduceLE, Int.reduceAdd, reduceSub, reduceToNat, UInt8.reduceToNat, e11, f7, f9, f6, f8, f10]
  with_reducible refine aloop_cut 2 (DiffQ H (L1.map rmF ++ L2.map rmS) [(9, .sl (L3.map encSvc) .unk), (6, .sl (L4.map encFile) .unk), (8, .sl (L5.map encSet) .unk), (10, .sl (L6.map encSvc) .unk)]) ?_ ?_
  rotate_left
  · refine aloop_intro (σ := Nat × Tail) (fun s => [(11, .sl (((L1.map rmF) ++ (L2.take s.1).map rmS).map encChg) s.2), (62, .sl (L2.map encSet) .unk), (63, .int .i64 L2.length), (64, .int .i64 s.1), (9, .sl (L3.map encSvc) .unk), (6, .sl (L4.map encFile) .unk), (8, .sl (L5.map encSet) .unk), (10, .sl (L6.map encSvc) .unk)])
      (fun s G => s.1 ≤ L2.length ∧ AppOK H G 10 (((L1.map rmF) ++ (L2.take s.1).map rmS).map encChg) s.2) (fun s => L2.length - s.1) (0, tl) ?_ ?_ ?_
    · simp -implicitDefEqProofs only [go_sem, reduceEqDiff, reduceAdd, reduceLeDiff, reduceLT, reduceMul, reduceEq, Int.reduceLT, reduceLE, Int.reduceAdd, reduceSub, reduceToNat, UInt8.reduceToNat, e11, f7, f9, f6, f8, f10, List.take_zero, List.map_nil, List.append_nil]
    · exact ⟨Nat.zero_le _, by simpa using hO⟩
    clear hO e11 f7 f9 f6 f8 f10
    rintro ⟨i, tl⟩ r G hv ⟨hi, hO⟩
    simp only at hi hO
    have e11 := hv.1
    have ea := hv.2.1
    have eb := hv.2.2.1
    have ec := hv.2.2.2.1
    have f9 := hv.2.2.2.2.1
    have f6 := hv.2.2.2.2.2.1
    have f8 := hv.2.2.2.2.2.2.1
    have f10 := hv.2.2.2.2.2.2.2.1
    simp only at e11 ec
    clear hv
    by_cases g : i < L2.length
    rotate_left
    · have y0 : decide ((i : Int) < L2.length) = false := decide_eq_false (by omega)
      obtain rfl : i = L2.length := by omega
      rw [List.take_length] at hO e11
      simp -implicitDefEqProofs only [go_sem, reduceEqDiff, reduceAdd, reduceLeDiff, reduceLT, reduceMul, reduceEq, Int.reduceLT, reduceLE, Int.reduceAdd, reduceSub, reduceToNat, UInt8.reduceToNat, e11, f9, f6, f8, f10, ea, eb, ec, y0]
      refine ⟨tl, hO, by simp -implicitDefEqProofs only [go_sem, reduceEqDiff, reduceAdd, reduceLeDiff, reduceLT, reduceMul, reduceEq, Int.reduceLT, reduceLE, Int.reduceAdd, reduceSub, reduceToNat, UInt8.reduceToNat, e11, f9, f6, f8, f10], ?_⟩
      simp -implicitDefEqProofs only [go_sem, reduceEqDiff, reduceAdd, reduceLeDiff, reduceLT, reduceMul, reduceEq, Int.reduceLT, reduceLE, Int.reduceAdd, reduceSub, reduceToNat, UInt8.reduceToNat, e11, f9, f6, f8, f10]
    have y0 : decide ((i : Int) < L2.length) = true := decide_eq_true (by omega)
    obtain ⟨x, hx⟩ : ∃ x, L2[i]? = some x := getD_get' g
    have ws : IntKind.i64.wrap ((i : Int) + 1) = ((i + 1 : Nat) : Int) := by rw [Go.IntWalk.i64_in _ (by omega)]; omega
    have hU : ∀ (x : SetV), x ∈ L2 → (encSet x).length = 2 := fun _ _ => rfl
    have hnew : ((L1.map rmF) ++ (L2.take i).map rmS).map encChg ++ [encChg (rmS x)] = ((L1.map rmF) ++ (L2.take (i + 1)).map rmS).map encChg := by rw [List.take_add_one, hx]; simp
    have hlen : ((L1.map rmF) ++ (L2.take i).map rmS).length ≤ 100000 := by simp; omega
    obtain ⟨p, d⟩ := x
    simp only [encChg, rmS, FileV.zero, SetV.zero, SvcV.zero] at hnew
    simp -implicitDefEqProofs only [go_sem, reduceEqDiff, reduceAdd, reduceLeDiff, reduceLT, reduceMul, reduceEq, Int.reduceLT, reduceLE, Int.reduceAdd, reduceSub, reduceToNat, UInt8.reduceToNat, e11, f9, f6, f8, f10, ea, eb, ec, y0, hx]
    refine ⟨hU, Nat.le_refl _, ?_⟩
    simp only [encSet, List.take_succ_cons, List.take_zero, List.take_nil]
    with_reducible refine nwC_intro fun i5 hi5 => ?_
    simp -implicitDefEqProofs only [go_sem, reduceEqDiff, reduceAdd, reduceLeDiff, reduceLT, reduceMul, reduceEq, Int.reduceLT, reduceLE, Int.reduceAdd, reduceSub, reduceToNat, UInt8.reduceToNat]
    replace hO := hO.put hi5 (.cells [.str p, .str d])
    have g5 := put_same G i5 (.cells [.str p, .str d])
    generalize G.put i5 (.cells [.str p, .str d]) = G6 at *
    simp -implicitDefEqProofs only [go_sem, reduceEqDiff, reduceAdd, reduceLeDiff, reduceLT, reduceMul, reduceEq, Int.reduceLT, reduceLE, Int.reduceAdd, reduceSub, reduceToNat, UInt8.reduceToNat, e11, f9, f6, f8, f10, ea, eb, ec, g5]
    refine AppOK.step hO (fun z hz => by obtain ⟨q, -, rfl⟩ := List.mem_map.1 hz; rfl) (by simp) (by rw [List.length_map]; simp at hlen ⊢; omega) (by rw [List.length_map]; simp at hlen ⊢; omega) fun tl' G' hO' hK => ?_
    rw [hnew] at hO' ⊢
    simp -implicitDefEqProofs only [go_sem, reduceEqDiff, reduceAdd, reduceLeDiff, reduceLT, reduceMul, reduceEq, Int.reduceLT, reduceLE, Int.reduceAdd, reduceSub, reduceToNat, UInt8.reduceToNat, e11, f9, f6, f8, f10, ea, eb, ec, ws]
    exact Again.mk (i + 1, tl') (by simp -implicitDefEqProofs only [go_sem, reduceEqDiff, reduceAdd, reduceLeDiff, reduceLT, reduceMul, reduceEq, Int.reduceLT, reduceLE, Int.reduceAdd, reduceSub, reduceToNat, UInt8.reduceToNat, e11, f9, f6, f8, f10, ea, eb, ec]) ⟨by simp only; omega, hO'⟩ (by simp only; omega)
  clear hO e11 f7 f9 f6 f8 f10
  rintro r G ⟨tl, hO, e11, hv⟩
  have f9 := hv.1
  have f6 := hv.2.1
  have f8 := hv.2.2.1
  have f10 := hv.2.2.2.1
  clear hv
  simp -implicitDefEqProofs only [go_sem, reduceEqDiff, reduceAdd, reduceLeDiff, reduceLT, reduceMul, reduceEq, Int.reduceLT, reduceLE, Int.reduceAdd, reduceSub, reduceToNat, UInt8.reduceToNat, e11, f9, f6, f8, f10]
  with_reducible refine aloop_cut 4 (DiffQ H (L1.map rmF ++ L2.map rmS ++ L3.map rmV) [(6, .sl (L4.map encFile) .unk), (8, .sl (L5.map encSet) .unk), (10, .sl (L6.map encSvc) .unk)]) ?_ ?_
  rotate_left
  · refine aloop_intro (σ := Nat × Tail) (fun s => [(11, .sl (((L1.map rmF ++ L2.map rmS) ++ (L3.take s.1).map rmV).map encChg) s.2), (76, .sl (L3.map encSvc) .unk), (77, .int .i64 L3.length), (78, .int .i64 s.1), (6, .sl (L4.map encFile) .unk), (8, .sl (L5.map encSet) .unk), (10, .sl (L6.map encSvc) .unk)])
      (fun s G => s.1 ≤ L3.length ∧ AppOK H G 10 (((L1.map rmF ++ L2.map rmS) ++ (L3.take s.1).map rmV).map encChg) s.2) (fun s => L3.length - s.1) (0, tl) ?_ ?_ ?_
    · simp -implicitDefEqProofs only [go_sem, reduceEqDiff, reduceAdd, reduceLeDiff, reduceLT, reduceMul, reduceEq, Int.reduceLT, reduceLE, Int.reduceAdd, reduceSub, reduceToNat, UInt8.reduceToNat, e11, f9, f6, f8, f10, List.take_zero, List.map_nil, List.append_nil]
    · exact ⟨Nat.zero_le _, by simpa using hO⟩
    clear hO e11 f9 f6 f8 f10
    rintro ⟨i, tl⟩ r G hv ⟨hi, hO⟩
    simp only at hi hO
    have e11 := hv.1
    have ea := hv.2.1
    have eb := hv.2.2.1
    have ec := hv.2.2.2.1
    have f6 := hv.2.2.2.2.1
    have f8 := hv.2.2.2.2.2.1
    have f10 := hv.2.2.2.2.2.2.1
    simp only at e11 ec
    clear hv
    by_cases g : i < L3.length
    rotate_left
    · have y0 : decide ((i : Int) < L3.length) = false := decide_eq_false (by omega)
      obtain rfl : i = L3.length := by omega
      rw [List.take_length] at hO e11
      simp -implicitDefEqProofs only [go_sem, reduceEqDiff, reduceAdd, reduceLeDiff, reduceLT, reduceMul, reduceEq, Int.reduceLT, reduceLE, Int.reduceAdd, reduceSub, reduceToNat, UInt8.reduceToNat, e11, f6, f8, f10, ea, eb, ec, y0]
      refine ⟨tl, hO, by simp -implicitDefEqProofs only [go_sem, reduceEqDiff, reduceAdd, reduceLeDiff, reduceLT, reduceMul, reduceEq, Int.reduceLT, reduceLE, Int.reduceAdd, reduceSub, reduceToNat, UInt8.reduceToNat, e11, f6, f8, f10], ?_⟩
      simp -implicitDefEqProofs only [go_sem, reduceEqDiff, reduceAdd, reduceLeDiff, reduceLT, reduceMul, reduceEq, Int.reduceLT, reduceLE, Int.reduceAdd, reduceSub, reduceToNat, UInt8.reduceToNat, e11, f6, f8, f10]
    have y0 : decide ((i : Int) < L3.length) = true := decide_eq_true (by omega)
    obtain ⟨x, hx⟩ : ∃ x, L3[i]? = some x := getD_get' g
    have ws : IntKind.i64.wrap ((i : Int) + 1) = ((i + 1 : Nat) : Int) := by rw [Go.IntWalk.i64_in _ (by omega)]; omega
    have hU : ∀ (x : SvcV), x ∈ L3 → (encSvc x).length = 4 := fun _ _ => rfl
    have hnew : ((L1.map rmF ++ L2.map rmS) ++ (L3.take i).map rmV).map encChg ++ [encChg (rmV x)] = ((L1.map rmF ++ L2.map rmS) ++ (L3.take (i + 1)).map rmV).map encChg := by rw [List.take_add_one, hx]; simp
    have hlen : ((L1.map rmF ++ L2.map rmS) ++ (L3.take i).map rmV).length ≤ 100000 := by simp; omega
    obtain ⟨p, d, au, on⟩ := x
    simp only [encChg, rmV, FileV.zero, SetV.zero, SvcV.zero] at hnew
    simp -implicitDefEqProofs only [go_sem, reduceEqDiff, reduceAdd, reduceLeDiff, reduceLT, reduceMul, reduceEq, Int.reduceLT, reduceLE, Int.reduceAdd, reduceSub, reduceToNat, UInt8.reduceToNat, e11, f6, f8, f10, ea, eb, ec, y0, hx]
    refine ⟨hU, Nat.le_refl _, ?_⟩
    simp only [encSvc, List.take_succ_cons, List.take_zero, List.take_nil]
    with_reducible refine nwC_intro fun i5 hi5 => ?_
    simp -implicitDefEqProofs only [go_sem, reduceEqDiff, reduceAdd, reduceLeDiff, reduceLT, reduceMul, reduceEq, Int.reduceLT, reduceLE, Int.reduceAdd, reduceSub, reduceToNat, UInt8.reduceToNat]
    replace hO := hO.put hi5 (.cells [.str p, .str d, .bool au, .bool on])
    have g5 := put_same G i5 (.cells [.str p, .str d, .bool au, .bool on])
    generalize G.put i5 (.cells [.str p, .str d, .bool au, .bool on]) = G6 at *
    simp -implicitDefEqProofs only [go_sem, reduceEqDiff, reduceAdd, reduceLeDiff, reduceLT, reduceMul, reduceEq, Int.reduceLT, reduceLE, Int.reduceAdd, reduceSub, reduceToNat, UInt8.reduceToNat, e11, f6, f8, f10, ea, eb, ec, g5]
    refine AppOK.step hO (fun z hz => by obtain ⟨q, -, rfl⟩ := List.mem_map.1 hz; rfl) (by simp) (by rw [List.length_map]; simp at hlen ⊢; omega) (by rw [List.length_map]; simp at hlen ⊢; omega) fun tl' G' hO' hK => ?_
    rw [hnew] at hO' ⊢
    simp -implicitDefEqProofs only [go_sem, reduceEqDiff, reduceAdd, reduceLeDiff, reduceLT, reduceMul, reduceEq, Int.reduceLT, reduceLE, Int.reduceAdd, reduceSub, reduceToNat, UInt8.reduceToNat, e11, f6, f8, f10, ea, eb, ec, ws]
    exact Again.mk (i + 1, tl') (by simp -implicitDefEqProofs only [go_sem, reduceEqDiff, reduceAdd, reduceLeDiff, reduceLT, reduceMul, reduceEq, Int.reduceLT, reduceLE, Int.reduceAdd, reduceSub, reduceToNat, UInt8.reduceToNat, e11, f6, f8, f10, ea, eb, ec]) ⟨by simp only; omega, hO'⟩ (by simp only; omega)
  clear hO e11 f9 f6 f8 f10
  rintro r G ⟨tl, hO, e11, hv⟩
  have f6 := hv.1
  have f8 := hv.2.1
  have f10 := hv.2.2.1
  clear hv
  simp -implicitDefEqProofs only [go_sem, reduceEqDiff, reduceAdd, reduceLeDiff, reduceLT, reduceMul, reduceEq, Int.reduceLT, reduceLE, Int.reduceAdd, reduceSub, reduceToNat, UInt8.reduceToNat, e11, f6, f8, f10]
  with_reducible refine aloop_cut 6 (DiffQ H (L1.map rmF ++ L2.map rmS ++ L3.map rmV ++ L4.map ptF) [(8, .sl (L5.map encSet) .unk), (10, .sl (L6.map encSvc) .unk)]) ?_ ?_
  rotate_left
  · refine aloop_intro (σ := Nat × Tail) (fun s => [(11, .sl (((L1.map rmF ++ L2.map rmS ++ L3.map rmV) ++ (L4.take s.1).map ptF).map encChg) s.2), (90, .sl (L4.map encFile) .unk), (91, .int .i64 L4.length), (92, .int .i64 s.1), (8, .sl (L5.map encSet) .unk), (10, .sl (L6.map encSvc) .unk)])
      (fun s G => s.1 ≤ L4.length ∧ AppOK H G 10 (((L1.map rmF ++ L2.map rmS ++ L3.map rmV) ++ (L4.take s.1).map ptF).map encChg) s.2) (fun s => L4.length - s.1) (0, tl) ?_ ?_ ?_
    · simp -implicitDefEqProofs only [go_sem, reduceEqDiff, reduceAdd, reduceLeDiff, reduceLT, reduceMul, reduceEq, Int.reduceLT, reduceLE, Int.reduceAdd, reduceSub, reduceToNat, UInt8.reduceToNat, e11, f6, f8, f10, List.take_zero, List.map_nil, List.append_nil]
    · exact ⟨Nat.zero_le _, by simpa using hO⟩
    clear hO e11 f6 f8 f10
    rintro ⟨i, tl⟩ r G hv ⟨hi, hO⟩
    simp only at hi hO
    have e11 := hv.1
    have ea := hv.2.1
    have eb := hv.2.2.1
    have ec := hv.2.2.2.1
    have f8 := hv.2.2.2.2.1
    have f10 := hv.2.2.2.2.2.1
    simp only at e11 ec
    clear hv
    by_cases g : i < L4.length
    rotate_left
    · have y0 : decide ((i : Int) < L4.length) = false := decide_eq_false (by omega)
      obtain rfl : i = L4.length := by omega
      rw [List.take_length] at hO e11
      simp -implicitDefEqProofs only [go_sem, reduceEqDiff, reduceAdd, reduceLeDiff, reduceLT, reduceMul, reduceEq, Int.reduceLT, reduceLE, Int.reduceAdd, reduceSub, reduceToNat, UInt8.reduceToNat, e11, f8, f10, ea, eb, ec, y0]
      refine ⟨tl, hO, by simp -implicitDefEqProofs only [go_sem, reduceEqDiff, reduceAdd, reduceLeDiff, reduceLT, reduceMul, reduceEq, Int.reduceLT, reduceLE, Int.reduceAdd, reduceSub, reduceToNat, UInt8.reduceToNat, e11, f8, f10], ?_⟩
      simp -implicitDefEqProofs only [go_sem, reduceEqDiff, reduceAdd, reduceLeDiff, reduceLT, reduceMul, reduceEq, Int.reduceLT, reduceLE, Int.reduceAdd, reduceSub, reduceToNat, UInt8.reduceToNat, e11, f8, f10]
    have y0 : decide ((i : Int) < L4.length) = true := decide_eq_true (by omega)
    obtain ⟨x, hx⟩ : ∃ x, L4[i]? = some x := getD_get' g
    have ws : IntKind.i64.wrap ((i : Int) + 1) = ((i + 1 : Nat) : Int) := by rw [Go.IntWalk.i64_in _ (by omega)]; omega
    have hU : ∀ (x : FileV), x ∈ L4 → (encFile x).length = 3 := fun _ _ => rfl
    have hnew : ((L1.map rmF ++ L2.map rmS ++ L3.map rmV) ++ (L4.take i).map ptF).map encChg ++ [encChg (ptF x)] = ((L1.map rmF ++ L2.map rmS ++ L3.map rmV) ++ (L4.take (i + 1)).map ptF).map encChg := by rw [List.take_add_one, hx]; simp
    have hlen : ((L1.map rmF ++ L2.map rmS ++ L3.map rmV) ++ (L4.take i).map ptF).length ≤ 100000 := by simp; omega
    obtain ⟨p, d, ru⟩ := x
    simp only [encChg, ptF, FileV.zero, SetV.zero, SvcV.zero] at hnew
    simp -implicitDefEqProofs only [go_sem, reduceEqDiff, reduceAdd, reduceLeDiff, reduceLT, reduceMul, reduceEq, Int.reduceLT, reduceLE, Int.reduceAdd, reduceSub, reduceToNat, UInt8.reduceToNat, e11, f8, f10, ea, eb, ec, y0, hx]
    refine ⟨hU, Nat.le_refl _, ?_⟩
    simp only [encFile, List.take_succ_cons, List.take_zero, List.take_nil]
    with_reducible refine nwC_intro fun i5 hi5 => ?_
    simp -implicitDefEqProofs only [go_sem, reduceEqDiff, reduceAdd, reduceLeDiff, reduceLT, reduceMul, reduceEq, Int.reduceLT, reduceLE, Int.reduceAdd, reduceSub, reduceToNat, UInt8.reduceToNat]
    replace hO := hO.put hi5 (.cells [.str p, .str d, .bool ru])
    have g5 := put_same G i5 (.cells [.str p, .str d, .bool ru])
    generalize G.put i5 (.cells [.str p, .str d, .bool ru]) = G6 at *
    simp -implicitDefEqProofs only [go_sem, reduceEqDiff, reduceAdd, reduceLeDiff, reduceLT, reduceMul, reduceEq, Int.reduceLT, reduceLE, Int.reduceAdd, reduceSub, reduceToNat, UInt8.reduceToNat, e11, f8, f10, ea, eb, ec, g5]
    refine AppOK.step hO (fun z hz => by obtain ⟨q, -, rfl⟩ := List.mem_map.1 hz; rfl) (by simp) (by rw [List.length_map]; simp at hlen ⊢; omega) (by rw [List.length_map]; simp at hlen ⊢; omega) fun tl' G' hO' hK => ?_
    rw [hnew] at hO' ⊢
    simp -implicitDefEqProofs only [go_sem, reduceEqDiff, reduceAdd, reduceLeDiff, reduceLT, reduceMul, reduceEq, Int.reduceLT, reduceLE, Int.reduceAdd, reduceSub, reduceToNat, UInt8.reduceToNat, e11, f8, f10, ea, eb, ec, ws]
    exact Again.mk (i + 1, tl') (by simp -implicitDefEqProofs only [go_sem, reduceEqDiff, reduceAdd, reduceLeDiff, reduceLT, reduceMul, reduceEq, Int.reduceLT, reduceLE, Int.reduceAdd, reduceSub, reduceToNat, UInt8.reduceToNat, e11, f8, f10, ea, eb, ec]) ⟨by simp only; omega, hO'⟩ (by simp only; omega)
  clear hO e11 f6 f8 f10
  rintro r G ⟨tl, hO, e11, hv⟩
  have f8 := hv.1
  have f10 := hv.2.1
  clear hv
  simp -implicitDefEqProofs only [go_sem, reduceEqDiff, reduceAdd, reduceLeDiff, reduceLT, reduceMul, reduceEq, Int.reduceLT, reduceLE, Int.reduceAdd, reduceSub, reduceToNat, UInt8.reduceToNat, e11, f8, f10]
  with_reducible refine aloop_cut 8 (DiffQ H (L1.map rmF ++ L2.map rmS ++ L3.map rmV ++ L4.map ptF ++ L5.map ptS) [(10, .sl (L6.map encSvc) .unk)]) ?_ ?_
  rotate_left
  · refine aloop_intro (σ := Nat × Tail) (fun s => [(11, .sl (((L1.map rmF ++ L2.map rmS ++ L3.map rmV ++ L4.map ptF) ++ (L5.take s.1).map ptS).map encChg) s.2), (102, .sl (L5.map encSet) .unk), (103, .int .i64 L5.length), (104, .int .i64 s.1), (10, .sl (L6.map encSvc) .unk)])
      (fun s G => s.1 ≤ L5.length ∧ AppOK H G 10 (((L1.map rmF ++ L2.map rmS ++ L3.map rmV ++ L4.map ptF) ++ (L5.take s.1).map ptS).map encChg) s.2) (fun s => L5.length - s.1) (0, tl) ?_ ?_ ?_
    · simp -implicitDefEqProofs only [go_sem, reduceEqDiff, reduceAdd, reduceLeDiff, reduceLT, reduceMul, reduceEq, Int.reduceLT, reduceLE, Int.reduceAdd, reduceSub, reduceToNat, UInt8.reduceToNat, e11, f8, f10, List.take_zero, List.map_nil, List.append_nil]
    · exact ⟨Nat.zero_le _, by simpa using hO⟩
    clear hO e11 f8 f10
    rintro ⟨i, tl⟩ r G hv ⟨hi, hO⟩
    simp only at hi hO
    have e11 := hv.1
    have ea := hv.2.1
    have eb := hv.2.2.1
    have ec := hv.2.2.2.1
    have f10 := hv.2.2.2.2.1
    simp only at e11 ec
    clear hv
    by_cases g : i < L5.length
    rotate_left
    · have y0 : decide ((i : Int) < L5.length) = false := decide_eq_false (by omega)
      obtain rfl : i = L5.length := by omega
      rw [List.take_length] at hO e11
      simp -implicitDefEqProofs only [go_sem, reduceEqDiff, reduceAdd, reduceLeDiff, reduceLT, reduceMul, reduceEq, Int.reduceLT, reduceLE, Int.reduceAdd, reduceSub, reduceToNat, UInt8.reduceToNat, e11, f10, ea, eb, ec, y0]
      refine ⟨tl, hO, by simp -implicitDefEqProofs only [go_sem, reduceEqDiff, reduceAdd, reduceLeDiff, reduceLT, reduceMul, reduceEq, Int.reduceLT, reduceLE, Int.reduceAdd, reduceSub, reduceToNat, UInt8.reduceToNat, e11, f10], ?_⟩
      simp -implicitDefEqProofs only [go_sem, reduceEqDiff, reduceAdd, reduceLeDiff, reduceLT, reduceMul, reduceEq, Int.reduceLT, reduceLE, Int.reduceAdd, reduceSub, reduceToNat, UInt8.reduceToNat, e11, f10]
    have y0 : decide ((i : Int) < L5.length) = true := decide_eq_true (by omega)
    obtain ⟨x, hx⟩ : ∃ x, L5[i]? = some x := getD_get' g
    have ws : IntKind.i64.wrap ((i : Int) + 1) = ((i + 1 : Nat) : Int) := by rw [Go.IntWalk.i64_in _ (by omega)]; omega
    have hU : ∀ (x : SetV), x ∈ L5 → (encSet x).length = 2 := fun _ _ => rfl
    have hnew : ((L1.map rmF ++ L2.map rmS ++ L3.map rmV ++ L4.map ptF) ++ (L5.take i).map ptS).map encChg ++ [encChg (ptS x)] = ((L1.map rmF ++ L2.map rmS ++ L3.map rmV ++ L4.map ptF) ++ (L5.take (i + 1)).map ptS).map encChg := by rw [List.take_add_one, hx]; simp
    have hlen : ((L1.map rmF ++ L2.map rmS ++ L3.map rmV ++ L4.map ptF) ++ (L5.take i).map ptS).length ≤ 100000 := by simp; omega
    obtain ⟨p, d⟩ := x
    simp only [encChg, ptS, FileV.zero, SetV.zero, SvcV.zero] at hnew
    simp -implicitDefEqProofs only [go_sem, reduceEqDiff, reduceAdd, reduceLeDiff, reduceLT, reduceMul, reduceEq, Int.reduceLT, reduceLE, Int.reduceAdd, reduceSub, reduceToNat, UInt8.reduceToNat, e11, f10, ea, eb, ec, y0, hx]
    refine ⟨hU, Nat.le_refl _, ?_⟩
    simp only [encSet, List.take_succ_cons, List.take_zero, List.take_nil]
    with_reducible refine nwC_intro fun i5 hi5 => ?_
    simp -implicitDefEqProofs only [go_sem, reduceEqDiff, reduceAdd, reduceLeDiff, reduceLT, reduceMul, reduceEq, Int.reduceLT, reduceLE, Int.reduceAdd, reduceSub, reduceToNat, UInt8.reduceToNat]
    replace hO := hO.put hi5 (.cells [.str p, .str d])
    have g5 := put_same G i5 (.cells [.str p, .str d])
    generalize G.put i5 (.cells [.str p, .str d]) = G6 at *
    simp -implicitDefEqProofs only [go_sem, reduceEqDiff, reduceAdd, reduceLeDiff, reduceLT, reduceMul, reduceEq, Int.reduceLT, reduceLE, Int.reduceAdd, reduceSub, reduceToNat, UInt8.reduceToNat, e11, f10, ea, eb, ec, g5]
    refine AppOK.step hO (fun z hz => by obtain ⟨q, -, rfl⟩ := List.mem_map.1 hz; rfl) (by simp) (by rw [List.length_map]; simp at hlen ⊢; omega) (by rw [List.length_map]; simp at hlen ⊢; omega) fun tl' G' hO' hK => ?_
    rw [hnew] at hO' ⊢
    simp -implicitDefEqProofs only [go_sem, reduceEqDiff, reduceAdd, reduceLeDiff, reduceLT, reduceMul, reduceEq, Int.reduceLT, reduceLE, Int.reduceAdd, reduceSub, reduceToNat, UInt8.reduceToNat, e11, f10, ea, eb, ec, ws]
    exact Again.mk (i + 1, tl') (by simp -implicitDefEqProofs only [go_sem, reduceEqDiff, reduceAdd, reduceLeDiff, reduceLT, reduceMul, reduceEq, Int.reduceLT, reduceLE, Int.reduceAdd, reduceSub, reduceToNat, UInt8.reduceToNat, e11, f10, ea, eb, ec]) ⟨by simp only; omega, hO'⟩ (by simp only; omega)
  clear hO e11 f8 f10
  rintro r G ⟨tl, hO, e11, hv⟩
  have f10 := hv.1
  clear hv
  simp -implicitDefEqProofs only [go_sem, reduceEqDiff, reduceAdd, reduceLeDiff, reduceLT, reduceMul, reduceEq, Int.reduceLT, reduceLE, Int.reduceAdd, reduceSub, reduceToNat, UInt8.reduceToNat, e11, f10]
  with_reducible refine aloop_cut 10 (DiffQ H (L1.map rmF ++ L2.map rmS ++ L3.map rmV ++ L4.map ptF ++ L5.map ptS ++ L6.map ptV) []) ?_ ?_
  rotate_left
  · refine aloop_intro (σ := Nat × Tail) (fun s => [(11, .sl (((L1.map rmF ++ L2.map rmS ++ L3.map rmV ++ L4.map ptF ++ L5.map ptS) ++ (L6.take s.1).map ptV).map encChg) s.2), (114, .sl (L6.map encSvc) .unk), (115, .int .i64 L6.length), (116, .int .i64 s.1)])
      (fun s G => s.1 ≤ L6.length ∧ AppOK H G 10 (((L1.map rmF ++ L2.map rmS ++ L3.map rmV ++ L4.map ptF ++ L5.map ptS) ++ (L6.take s.1).map ptV).map encChg) s.2) (fun s => L6.length - s.1) (0, tl) ?_ ?_ ?_
    · simp -implicitDefEqProofs only [go_sem, reduceEqDiff, reduceAdd, reduceLeDiff, reduceLT, reduceMul, reduceEq, Int.reduceLT, reduceLE, Int.reduceAdd, reduceSub, reduceToNat, UInt8.reduceToNat, e11, f10, List.take_zero, List.map_nil, List.append_nil]
    · exact ⟨Nat.zero_le _, by simpa using hO⟩
    clear hO e11 f10
    rintro ⟨i, tl⟩ r G hv ⟨hi, hO⟩
    simp only at hi hO
    have e11 := hv.1
    have ea := hv.2.1
    have eb := hv.2.2.1
    have ec := hv.2.2.2.1
    simp only at e11 ec
    clear hv
    by_cases g : i < L6.length
    rotate_left
    · have y0 : decide ((i : Int) < L6.length) = false := decide_eq_false (by omega)
      obtain rfl : i = L6.length := by omega
      rw [List.take_length] at hO e11
      simp -implicitDefEqProofs only [go_sem, reduceEqDiff, reduceAdd, reduceLeDiff, reduceLT, reduceMul, reduceEq, Int.reduceLT, reduceLE, Int.reduceAdd, reduceSub, reduceToNat, UInt8.reduceToNat, e11, ea, eb, ec, y0]
      refine ⟨tl, hO, by simp -implicitDefEqProofs only [go_sem, reduceEqDiff, reduceAdd, reduceLeDiff, reduceLT, reduceMul, reduceEq, Int.reduceLT, reduceLE, Int.reduceAdd, reduceSub, reduceToNat, UInt8.reduceToNat, e11], ?_⟩
      trivial
    have y0 : decide ((i : Int) < L6.length) = true := decide_eq_true (by omega)
    obtain ⟨x, hx⟩ : ∃ x, L6[i]? = some x := getD_get' g
    have ws : IntKind.i64.wrap ((i : Int) + 1) = ((i + 1 : Nat) : Int) := by rw [Go.IntWalk.i64_in _ (by omega)]; omega
    have hU : ∀ (x : SvcV), x ∈ L6 → (encSvc x).length = 4 := fun _ _ => rfl
    have hnew : ((L1.map rmF ++ L2.map rmS ++ L3.map rmV ++ L4.map ptF ++ L5.map ptS) ++ (L6.take i).map ptV).map encChg ++ [encChg (ptV x)] = ((L1.map rmF ++ L2.map rmS ++ L3.map rmV ++ L4.map ptF ++ L5.map ptS) ++ (L6.take (i + 1)).map ptV).map encChg := by rw [List.take_add_one, hx]; simp
    have hlen : ((L1.map rmF ++ L2.map rmS ++ L3.map rmV ++ L4.map ptF ++ L5.map ptS) ++ (L6.take i).map ptV).length ≤ 100000 := by simp; omega
    obtain ⟨p, d, au, on⟩ := x
    simp only [encChg, ptV, FileV.zero, SetV.zero, SvcV.zero] at hnew
    simp -implicitDefEqProofs only [go_sem, reduceEqDiff, reduceAdd, reduceLeDiff, reduceLT, reduceMul, reduceEq, Int.reduceLT, reduceLE, Int.reduceAdd, reduceSub, reduceToNat, UInt8.reduceToNat, e11, ea, eb, ec, y0, hx]
    refine ⟨hU, Nat.le_refl _, ?_⟩
    simp only [encSvc, List.take_succ_cons, List.take_zero, List.take_nil]
    with_reducible refine nwC_intro fun i5 hi5 => ?_
    simp -implicitDefEqProofs only [go_sem, reduceEqDiff, reduceAdd, reduceLeDiff, reduceLT, reduceMul, reduceEq, Int.reduceLT, reduceLE, Int.reduceAdd, reduceSub, reduceToNat, UInt8.reduceToNat]
    replace hO := hO.put hi5 (.cells [.str p, .str d, .bool au, .bool on])
    have g5 := put_same G i5 (.cells [.str p, .str d, .bool au, .bool on])
    generalize G.put i5 (.cells [.str p, .str d, .bool au, .bool on]) = G6 at *
    simp -implicitDefEqProofs only [go_sem, reduceEqDiff, reduceAdd, reduceLeDiff, reduceLT, reduceMul, reduceEq, Int.reduceLT, reduceLE, Int.reduceAdd, reduceSub, reduceToNat, UInt8.reduceToNat, e11, ea, eb, ec, g5]
    refine AppOK.step hO (fun z hz => by obtain ⟨q, -, rfl⟩ := List.mem_map.1 hz; rfl) (by simp) (by rw [List.length_map]; simp at hlen ⊢; omega) (by rw [List.length_map]; simp at hlen ⊢; omega) fun tl' G' hO' hK => ?_
    rw [hnew] at hO' ⊢
    simp -implicitDefEqProofs only [go_sem, reduceEqDiff, reduceAdd, reduceLeDiff, reduceLT, reduceMul, reduceEq, Int.reduceLT, reduceLE, Int.reduceAdd, reduceSub, reduceToNat, UInt8.reduceToNat, e11, ea, eb, ec, ws]
    exact Again.mk (i + 1, tl') (by simp -implicitDefEqProofs only [go_sem, reduceEqDiff, reduceAdd, reduceLeDiff, reduceLT, reduceMul, reduceEq, Int.reduceLT, reduceLE, Int.reduceAdd, reduceSub, reduceToNat, UInt8.reduceToNat, e11, ea, eb, ec]) ⟨by simp only; omega, hO'⟩ (by simp only; omega)
  clear hO e11 f10
  rintro r G ⟨tl, hO, e11, hv⟩
  clear hv
  simp -implicitDefEqProofs only [go_sem, reduceEqDiff, reduceAdd, reduceLeDiff, reduceLT, reduceMul, reduceEq, Int.reduceLT, reduceLE, Int.reduceAdd, reduceSub, reduceToNat, UInt8.reduceToNat, e11]
  exact Done.wk 1 (Done.drop hO.sub ⟨rfl, rfl⟩)
theorem diff_calls (a b : MacV) (ta tb tc td ua ub uc ud : Tail) (H : Heap) (hA : MacOK a) (hB : MacOK b) :
    ACalls Tryz.prog 55 [.agg (encMac a ta tb tc td), .agg (encMac b ua ub uc ud)] H fun x H' => x = .sl ((diffV a b).map encChg) .unk ∧ H' = H := by
  have h1 := List.length_filter_le (fun x : FileV => (getK (·.path) x.path b.files).isNone) a.files
  have h2 := List.length_filter_le (fun x : SetV => (getK (·.key) x.key b.sets).isNone) a.sets
  have h3 := List.length_filter_le (fun x : SvcV => (getK (·.name) x.name b.svcs).isNone) a.svcs
  have h4 := List.length_filter_le (fun x : FileV => decide (getK (·.path) x.path a.files ≠ some x)) b.files
  have h5 := List.length_filter_le (fun x : SetV => decide (getK (·.key) x.key a.sets ≠ some x)) b.sets
  have h6 := List.length_filter_le (fun x : SvcV => decide (getK (·.name) x.name a.svcs ≠ some x)) b.svcs
  have := hA.l2; have := hA.l3; have := hA.l4; have := hB.l2; have := hB.l3; have := hB.l4
  exact diffL_calls _ _ _ _ _ _ a b ta tb tc td ua ub uc ud H (sides_eq _ _ hA.a2 hB.a2) (sides_eq _ _ hA.a3 hB.a3) (sides_eq _ _ hA.a4 hB.a4) hA hB (Nat.le_trans h1 (by omega)) (Nat.le_trans h2 (by omega)) (Nat.le_trans h3 (by omega)) (Nat.le_trans h4 (by omega)) (Nat.le_trans h5 (by omega)) (Nat.le_trans h6 (by omega))
end Go.Proofs

/- Walks: Diff, on the program's side. -/
namespace Go.Proofs
open Go Go.Abs
open Nat (reduceEqDiff reduceAdd reduceLeDiff reduceLT reduceMul)
open Int (reduceEq reduceLE reduceSub reduceToNat)
set_option linter.unusedSimpArgs false
set_option linter.unusedVariables false
set_option maxRecDepth 20000
theorem indexA_agg (P : Program) (t : TypeId) (cs : List AV) (k : IntKind) (n : Int) : indexA P t (.agg cs) (.int k n) = match arrayE P t with
    | some (len, e) => if 0 ≤ n ∧ n < len then readC e.desc.agg e.size (cs.drop (n.toNat * e.size)) else none
    | none => none := rfl
def dDiffA (a b : MacV) : AV := if macErr a ≠ 0 then .tup [.sl [] .unk, .int .i64 (macErr a)] else if macErr b ≠ 0 then .tup [.sl [] .unk, .int .i64 (macErr b)]
  else if a.facts ≠ b.facts then .tup [.sl [] .unk, .int .i64 11] else .tup [.sl ((diffV a b).map encChg) .unk, .int .i64 0]
set_option maxHeartbeats 6400000 in
theorem dDiff_calls (a b : MacV) (ta tb tc td ua ub uc ud : Tail) (H : Heap) (hA : macR a) (hB : macR b) :
    ACalls Tryz.prog 9 [.agg (encMac a ta tb tc td), .agg (encMac b ua ub uc ud)] H fun x H' => x = dDiffA a b ∧ H' = H := by
  have hS := Heap.Sub.rfl' H
  have k1 := fun G => check_calls a ta tb tc td G hA
  have k2 := fun G => check_calls b ua ub uc ud G hB
  have k3 := fun G => eqSet_calls a.facts b.facts ta ua G hA.1.1
  have k4 := fun G h1 h2 => diff_calls a b ta tb tc td ua ub uc ud G h1 h2
  have hv := dDiffA.eq_1 a b
  unfold encMac at k1 k2 k4
  refine ACalls.of_code (X := { pure := pu0 }) pu0_ok Tryz.func9 (by kernel_rfl) rfl (by kernel_rfl) (Nat.le_of_ble_eq_true rfl) ?_
  simp -implicitDefEqProofs only [go_sem, reduceEqDiff, reduceAdd, reduceLeDiff, reduceLT, reduceMul, reduceEq, Int.reduceLT, reduceLE, Int.reduceAdd, reduceSub, reduceToNat, UInt8.reduceToNat, Tryz.f9, encMac]
  with_reducible refine nwC_intro fun i2 hi2 => ?_
  generalize E2 : Heap.put H i2 _ = G1
  have hO_2 := obj_new E2 hi2 hS
  have n2 := hO_2.1
  have hS := hO_2.2.1
  have g2 := hO_2.2.2.1
  clear hO_2
  simp -implicitDefEqProofs only [go_sem, reduceEqDiff, reduceAdd, reduceLeDiff, reduceLT, reduceMul, reduceEq, Int.reduceLT, reduceLE, Int.reduceAdd, reduceSub, reduceToNat, UInt8.reduceToNat]
  with_reducible refine nwC_intro fun i3 hi3 => ?_
  generalize E3 : Heap.put G1 i3 _ = G2
  have hO_3 := obj_new E3 hi3 hS
  have n3 := hO_3.1
  have hS := hO_3.2.1
  have g3 := hO_3.2.2.1
  have d2_3 := obj_ne g2 hi3
  have g2 := hO_3.2.2.2 _ _ g2
  clear hO_3
  simp -implicitDefEqProofs only [go_sem, reduceEqDiff, reduceAdd, reduceLeDiff, reduceLT, reduceMul, reduceEq, Int.reduceLT, reduceLE, Int.reduceAdd, reduceSub, reduceToNat, UInt8.reduceToNat, g2, g3]
  refine aloop_intro (σ := Nat) (fun i => [(2, .ptr i2 0), (3, .ptr i3 0), (11, .agg [.sl (a.facts.map encSet) ta, .sl (a.files.map encFile) tb, .sl (a.sets.map encSet) tc, .sl (a.svcs.map encSvc) td, .sl (b.facts.map encSet) ua, .sl (b.files.map encFile) ub, .sl (b.sets.map encSet) uc, .sl (b.svcs.map encSvc) ud]), (12, .int .i64 i)])
    (fun i G => i ≤ 2 ∧ G2.Sub G ∧ (0 < i → macErr a = 0) ∧ (1 < i → macErr b = 0)) (fun i => 2 - i) 0 ?_ ?_ ?_
  · simp -implicitDefEqProofs only [go_sem, reduceEqDiff, reduceAdd, reduceLeDiff, reduceLT, reduceMul, reduceEq, Int.reduceLT, reduceLE, Int.reduceAdd, reduceSub, reduceToNat, UInt8.reduceToNat]
  · exact ⟨by omega, fun _ _ h => h, fun h => absurd h (by omega), fun h => absurd h (by omega)⟩
  rintro i r G hvv ⟨hi, hS3, ha, hb⟩
  have e2 := hvv.1
  have e3 := hvv.2.1
  have e11 := hvv.2.2.1
  have e12 := hvv.2.2.2.1
  clear hvv
  have g2' := hS3 _ _ g2
  have g3' := hS3 _ _ g3
  have hSG : H.Sub G := fun i o h => hS3 _ _ (hS _ _ h)
  obtain rfl | rfl | rfl : i = 0 ∨ i = 1 ∨ i = 2 := by omega
  · have y0 : decide ((0 : Int) < 2) = true := rfl
    have w : IntKind.i64.wrap (0 + 1) = 1 := rfl
    simp only [Int.natCast_zero] at e12
    simp -implicitDefEqProofs only [go_sem, reduceEqDiff, reduceAdd, reduceLeDiff, reduceLT, reduceMul, reduceEq, Int.reduceLT, reduceLE, Int.reduceAdd, reduceSub, reduceToNat, UInt8.reduceToNat, e2, e3, e11, e12, y0, indexA_agg]
    with_reducible refine nwC_intro fun i7 hi7 => ?_
    have hS4 : G2.Sub (G.put i7 (.cells [.sl (a.facts.map encSet) ta, .sl (a.files.map encFile) tb, .sl (a.sets.map encSet) tc, .sl (a.svcs.map encSvc) td])) := hS3.put' (sub_none hS3 hi7) _
    have hSG4 : H.Sub (G.put i7 (.cells [.sl (a.facts.map encSet) ta, .sl (a.files.map encFile) tb, .sl (a.sets.map encSet) tc, .sl (a.svcs.map encSvc) td])) := fun i o h => hS4 _ _ (hS _ _ h)
    try simp -implicitDefEqProofs only [go_sem, reduceEqDiff, reduceAdd, reduceLeDiff, reduceLT, reduceMul, reduceEq, Int.reduceLT, reduceLE, Int.reduceAdd, reduceSub, reduceToNat, UInt8.reduceToNat]
    refine (k1 _).pure_next _ ?_
    by_cases c0 : macErr a = 0
    · have y1 : decide (¬ macErr a = 0) = false := decide_eq_false (by simpa using c0)
      simp -implicitDefEqProofs only [go_sem, reduceEqDiff, reduceAdd, reduceLeDiff, reduceLT, reduceMul, reduceEq, Int.reduceLT, reduceLE, Int.reduceAdd, reduceSub, reduceToNat, UInt8.reduceToNat, e2, e3, e11, e12, y1, w]
      exact Again.mk 1 (by simp -implicitDefEqProofs only [go_sem, reduceEqDiff, reduceAdd, reduceLeDiff, reduceLT, reduceMul, reduceEq, Int.reduceLT, reduceLE, Int.reduceAdd, reduceSub, reduceToNat, UInt8.reduceToNat, e2, e3, e11, e12]; exact rfl) ⟨by omega, hS4, fun _ => c0, fun h => absurd h (by omega)⟩ (by omega)
    · have y1 : decide (¬ macErr a = 0) = true := decide_eq_true c0
      rw [if_pos c0] at hv
      simp -implicitDefEqProofs only [go_sem, reduceEqDiff, reduceAdd, reduceLeDiff, reduceLT, reduceMul, reduceEq, Int.reduceLT, reduceLE, Int.reduceAdd, reduceSub, reduceToNat, UInt8.reduceToNat, e2, e3, e11, e12, y1]
      exact Done.wk 2 (Done.drop hSG4 ⟨by rw [hv]; rfl, rfl⟩)
  · have y0 : decide ((1 : Int) < 2) = true := rfl
    have w : IntKind.i64.wrap (1 + 1) = 2 := rfl
    have ha := ha (by omega)
    simp only [Int.natCast_one] at e12
    simp -implicitDefEqProofs only [go_sem, reduceEqDiff, reduceAdd, reduceLeDiff, reduceLT, reduceMul, reduceEq, Int.reduceLT, reduceLE, Int.reduceAdd, reduceSub, reduceToNat, UInt8.reduceToNat, e2, e3, e11, e12, y0, indexA_agg]
    with_reducible refine nwC_intro fun i7 hi7 => ?_
    have hS4 : G2.Sub (G.put i7 (.cells [.sl (b.facts.map encSet) ua, .sl (b.files.map encFile) ub, .sl (b.sets.map encSet) uc, .sl (b.svcs.map encSvc) ud])) := hS3.put' (sub_none hS3 hi7) _
    have hSG4 : H.Sub (G.put i7 (.cells [.sl (b.facts.map encSet) ua, .sl (b.files.map encFile) ub, .sl (b.sets.map encSet) uc, .sl (b.svcs.map encSvc) ud])) := fun i o h => hS4 _ _ (hS _ _ h)
    try simp -implicitDefEqProofs only [go_sem, reduceEqDiff, reduceAdd, reduceLeDiff, reduceLT, reduceMul, reduceEq, Int.reduceLT, reduceLE, Int.reduceAdd, reduceSub, reduceToNat, UInt8.reduceToNat]
    refine (k2 _).pure_next _ ?_
    by_cases c0 : macErr b = 0
    · have y1 : decide (¬ macErr b = 0) = false := decide_eq_false (by simpa using c0)
      simp -implicitDefEqProofs only [go_sem, reduceEqDiff, reduceAdd, reduceLeDiff, reduceLT, reduceMul, reduceEq, Int.reduceLT, reduceLE, Int.reduceAdd, reduceSub, reduceToNat, UInt8.reduceToNat, e2, e3, e11, e12, y1, w]
      exact Again.mk 2 (by simp -implicitDefEqProofs only [go_sem, reduceEqDiff, reduceAdd, reduceLeDiff, reduceLT, reduceMul, reduceEq, Int.reduceLT, reduceLE, Int.reduceAdd, reduceSub, reduceToNat, UInt8.reduceToNat, e2, e3, e11, e12]; exact rfl) ⟨by omega, hS4, fun _ => ha, fun _ => c0⟩ (by omega)
    · have y1 : decide (¬ macErr b = 0) = true := decide_eq_true c0
      rw [if_neg (by simpa using ha), if_pos c0] at hv
      simp -implicitDefEqProofs only [go_sem, reduceEqDiff, reduceAdd, reduceLeDiff, reduceLT, reduceMul, reduceEq, Int.reduceLT, reduceLE, Int.reduceAdd, reduceSub, reduceToNat, UInt8.reduceToNat, e2, e3, e11, e12, y1]
      exact Done.wk 2 (Done.drop hSG4 ⟨by rw [hv]; rfl, rfl⟩)
  · have y0 : decide ((2 : Int) < 2) = false := rfl
    have z2 : ((2 : Nat) : Int) = 2 := rfl
    have ha := ha (by omega)
    have hb := hb (by omega)
    have hMa := (macErr_ok a).1 ha
    have hMb := (macErr_ok b).1 hb
    rw [if_neg (by simpa using ha), if_neg (by simpa using hb)] at hv
    rw [z2] at e12
    simp -implicitDefEqProofs only [go_sem, reduceEqDiff, reduceAdd, reduceLeDiff, reduceLT, reduceMul, reduceEq, Int.reduceLT, reduceLE, Int.reduceAdd, reduceSub, reduceToNat, UInt8.reduceToNat, e2, e3, e11, e12, y0, g2', g3']
    refine (k3 G).pure_next _ ?_
    by_cases c0 : a.facts = b.facts
    · have y1 : decide (a.facts = b.facts) = true := decide_eq_true c0
      rw [if_neg (by simpa using c0)] at hv
      rw [y1]
      simp -implicitDefEqProofs only [go_sem, reduceEqDiff, reduceAdd, reduceLeDiff, reduceLT, reduceMul, reduceEq, Int.reduceLT, reduceLE, Int.reduceAdd, reduceSub, reduceToNat, UInt8.reduceToNat, e2, e3, g2', g3']
      refine (k4 G hMa hMb).pure_next _ ?_
      simp -implicitDefEqProofs only [go_sem, reduceEqDiff, reduceAdd, reduceLeDiff, reduceLT, reduceMul, reduceEq, Int.reduceLT, reduceLE, Int.reduceAdd, reduceSub, reduceToNat, UInt8.reduceToNat]
      exact Done.drop hSG ⟨hv.symm, rfl⟩
    · have y1 : decide (a.facts = b.facts) = false := decide_eq_false c0
      rw [if_pos c0] at hv
      rw [y1]
      simp -implicitDefEqProofs only [go_sem, reduceEqDiff, reduceAdd, reduceLeDiff, reduceLT, reduceMul, reduceEq, Int.reduceLT, reduceLE, Int.reduceAdd, reduceSub, reduceToNat, UInt8.reduceToNat]
      exact Done.wk 2 (Done.drop hSG ⟨by rw [hv]; rfl, rfl⟩)
end Go.Proofs

/- What every law begins with. -/
namespace Go.Proofs
open Go Go.Abs
open Nat (reduceEqDiff reduceAdd reduceLeDiff reduceLT reduceMul)
open Int (reduceEq reduceLE reduceSub reduceToNat)
set_option linter.unusedSimpArgs false
set_option linter.unusedVariables false
set_option maxRecDepth 20000
theorem landed_calls (H : Heap) : ACalls Tryz.prog 6 [] H fun x H' => x = .bool true ∧ H' = H := by
  have hR : Room = 1099511627776 := rfl
  have hn : nameB [97] = true := by decide
  refine ACalls.of_code (X := { pure := puN }) puN_ok Tryz.func6 (by kernel_rfl) rfl (by kernel_rfl) (Nat.le_of_ble_eq_true rfl) ?_
  simp -implicitDefEqProofs only [go_sem, reduceEqDiff, reduceAdd, reduceLeDiff, reduceLT, reduceMul, reduceEq, Int.reduceLT, reduceLE, Int.reduceAdd, reduceSub, reduceToNat, UInt8.reduceToNat, Tryz.f6, puN, sStr_eq, hR, hn]
  exact Done.now ⟨rfl, rfl⟩
end Go.Proofs

/- The law MachinesCheck. -/
namespace Go.Proofs
open Go Go.Abs
open Nat (reduceEqDiff reduceAdd reduceLeDiff reduceLT reduceMul)
open Int (reduceEq reduceLE reduceSub reduceToNat)
set_option linter.unusedSimpArgs false
set_option linter.unusedVariables false
set_option maxRecDepth 20000
noncomputable def sChkM := spF (fun p : MacV × Tail × Tail × Tail × Tail => [AV.agg (encMac p.1 p.2.1 p.2.2.1 p.2.2.2.1 p.2.2.2.2)]) (fun p => macR p.1) fun p => .int .i64 (macErr p.1)
theorem sChkM_eq (m : MacV) (a b c d : Tail) (h : macR m) : sChkM [.agg (encMac m a b c d)] = some (.int .i64 (macErr m)) := spF_eq (enc := fun p : MacV × Tail × Tail × Tail × Tail => [AV.agg (encMac p.1 p.2.1 p.2.2.1 p.2.2.2.1 p.2.2.2.2)]) (fun p q e => by
  simp only [List.cons.injEq, AV.agg.injEq, and_true] at e
  have h1 := decMac_enc p.1 p.2.1 p.2.2.1 p.2.2.2.1 p.2.2.2.2
  rw [e, decMac_enc] at h1
  rw [Option.some.inj h1]) (m, a, b, c, d) h
noncomputable def puMK : Pures := putP 15 sChkM (putP 14 sChkM pu0)
theorem puMK_dyn : isDyn puMK = false := by simp only [puMK, go_sem, Nat.reduceEqDiff]
attribute [go_sem] puMK_dyn
theorem puMK_ok : PuOK Tryz.prog puMK := .put (.put (pu0_ok) (spF_ok fun p H h => rCheck_calls p.1 _ _ _ _ H h)) (spF_ok fun p H h => check_calls p.1 _ _ _ _ H h)
set_option maxHeartbeats 25600000 in
theorem machinesCheck_calls (m n : MacV) (ta tb tc td ua ub uc ud : Tail) (k : Bytes) (l : List (List AV)) (t : Tail) (H : Heap) (hr : macR m) (hn : macR n) :
    ACalls Tryz.prog 4 [.agg (encMac m ta tb tc td), .agg (encMac n ua ub uc ud), .str k, .sl l t] H fun x H' => x = .bool true ∧ H' = H := by
  have hS := Heap.Sub.rfl' H
  have q1 := sChkM_eq m ta tb tc td hr
  have q2 := sChkM_eq n ua ub uc ud hn
  have kd := fun G => dDiff_calls m n ta tb tc td ua ub uc ud G hr hn
  have hv := dDiffA.eq_1 m n
  have y1 : decide (¬ macErr m = macErr m) = false := decide_eq_false (by simp)
  have z2 : decide ((0 : Int) = 0) = true := rfl
  by_cases c0 : macErr m = 0
  · have y0 : decide (macErr m = 0) = true := decide_eq_true c0
    unfold encMac at q1 q2 kd
    refine ACalls.of_code (X := { pure := puMK }) puMK_ok Tryz.func4 (by kernel_rfl) rfl (by kernel_rfl) (Nat.le_of_ble_eq_true rfl) ?_
    simp -implicitDefEqProofs only [go_sem, reduceEqDiff, reduceAdd, reduceLeDiff, reduceLT, reduceMul, reduceEq, Int.reduceLT, reduceLE, Int.reduceAdd, reduceSub, reduceToNat, UInt8.reduceToNat, Tryz.f4, encMac]
    with_reducible refine nwC_intro fun i4 hi4 => ?_
    generalize E4 : Heap.put H i4 _ = G1
    have hO_4 := obj_new E4 hi4 hS
    have n4 := hO_4.1
    have hS := hO_4.2.1
    have g4 := hO_4.2.2.1
    clear hO_4
    simp -implicitDefEqProofs only [go_sem, reduceEqDiff, reduceAdd, reduceLeDiff, reduceLT, reduceMul, reduceEq, Int.reduceLT, reduceLE, Int.reduceAdd, reduceSub, reduceToNat, UInt8.reduceToNat]
    with_reducible refine nwC_intro fun i5 hi5 => ?_
    generalize E5 : Heap.put G1 i5 _ = G2
    have hO_5 := obj_new E5 hi5 hS
    have n5 := hO_5.1
    have hS := hO_5.2.1
    have g5 := hO_5.2.2.1
    have d4_5 := obj_ne g4 hi5
    have g4 := hO_5.2.2.2 _ _ g4
    clear hO_5
    simp -implicitDefEqProofs only [go_sem, reduceEqDiff, reduceAdd, reduceLeDiff, reduceLT, reduceMul, reduceEq, Int.reduceLT, reduceLE, Int.reduceAdd, reduceSub, reduceToNat, UInt8.reduceToNat, puMK]
    refine (landed_calls G2).pure_next _ ?_
    simp -implicitDefEqProofs only [go_sem, reduceEqDiff, reduceAdd, reduceLeDiff, reduceLT, reduceMul, reduceEq, Int.reduceLT, reduceLE, Int.reduceAdd, reduceSub, reduceToNat, UInt8.reduceToNat, g4, g5, puMK, q1, q2, y1, y0]
    refine (kd G2).pure_next _ ?_
    rw [if_neg (by simpa using c0)] at hv
    by_cases c1 : macErr n = 0
    · have y3 : decide (macErr n = 0) = true := decide_eq_true c1
      rw [hv]
      rw [if_neg (by simpa using c1)]
      by_cases c2 : m.facts = n.facts
      · rw [if_neg (by simpa using c2)]
        simp -implicitDefEqProofs only [go_sem, reduceEqDiff, reduceAdd, reduceLeDiff, reduceLT, reduceMul, reduceEq, Int.reduceLT, reduceLE, Int.reduceAdd, reduceSub, reduceToNat, UInt8.reduceToNat, y3]
        exact Done.drop hS ⟨rfl, rfl⟩
      · rw [if_pos c2]
        simp -implicitDefEqProofs only [go_sem, reduceEqDiff, reduceAdd, reduceLeDiff, reduceLT, reduceMul, reduceEq, Int.reduceLT, reduceLE, Int.reduceAdd, reduceSub, reduceToNat, UInt8.reduceToNat, y3]
        exact Done.drop hS ⟨rfl, rfl⟩
    · have y3 : decide (macErr n = 0) = false := decide_eq_false c1
      have y4 : decide (macErr n = macErr n) = true := decide_eq_true rfl
      rw [hv, if_pos c1]
      simp -implicitDefEqProofs only [go_sem, reduceEqDiff, reduceAdd, reduceLeDiff, reduceLT, reduceMul, reduceEq, Int.reduceLT, reduceLE, Int.reduceAdd, reduceSub, reduceToNat, UInt8.reduceToNat, y3, y4, z2, List.length_nil, Int.natCast_zero]
      exact Done.drop hS ⟨rfl, rfl⟩
  have y0 : decide (macErr m = 0) = false := decide_eq_false c0
  have y5 : decide (macErr m = macErr m) = true := decide_eq_true rfl
  have k1 := fun G => size_err m ta tb tc td G hr c0
  have k2 := fun G => sum_err m ta tb tc td G hr c0
  have k3 := fun G => print_err m ta tb tc td G hr c0
  have k4 := fun G => boot_err m ta tb tc td G hr c0
  have k5 := fun G => fact_err m ta tb tc td k G hr c0
  have k6 := fun G => file_err m ta tb tc td k G hr c0
  have k7 := fun G => setting_err m ta tb tc td k G hr c0
  have k8 := fun G => service_err m ta tb tc td k G hr c0
  have k9 := fun G => below_err m ta tb tc td k G hr c0
  have k10 := fun G => apply_err m ta tb tc td l t G hr c0
  have k11 := fun G => undo_err m ta tb tc td l t G hr c0
  have k12 := fun G => newDisk_err m ta tb tc td G hr c0
  have kz := fun G => zeroM_calls .unk .unk .unk .unk G
  have nf := fun cx cy => eqFile_calls_ne cx cy FileV.zero FileV.zero
  have ns := fun cx cy => eqSvc_calls_ne cx cy SvcV.zero SvcV.zero
  have zf : decide (¬ FileV.zero = FileV.zero) = false := decide_eq_false (by simp)
  have zs : decide (¬ SvcV.zero = SvcV.zero) = false := decide_eq_false (by simp)
  rw [zf] at nf
  rw [zs] at ns
  rw [if_pos c0] at hv
  rw [hv] at kd
  have z3 : decide (¬ (0 : Int) = 0) = false := rfl
  have z4 : decide (¬ ([] : Bytes) = []) = false := decide_eq_false (by simp)
  have z5 : decide ((0 : Int) < 0) = false := rfl
  unfold encFile FileV.zero at nf
  unfold encSvc SvcV.zero at ns
  unfold encMac MacV.zero at k4 k10 kz
  unfold encMac at q1 q2 kd k1 k2 k3 k5 k6 k7 k8 k9 k11 k12
  unfold encFile FileV.zero at k6
  unfold encSvc SvcV.zero at k8
  simp only [List.map_nil] at k4 k10 kz
  refine ACalls.of_code (X := { pure := puMK }) puMK_ok Tryz.func4 (by kernel_rfl) rfl (by kernel_rfl) (Nat.le_of_ble_eq_true rfl) ?_
  simp -implicitDefEqProofs only [go_sem, reduceEqDiff, reduceAdd, reduceLeDiff, reduceLT, reduceMul, reduceEq, Int.reduceLT, reduceLE, Int.reduceAdd, reduceSub, reduceToNat, UInt8.reduceToNat, Tryz.f4, encMac]
  with_reducible refine nwC_intro fun i4 hi4 => ?_
  generalize E4 : Heap.put H i4 _ = G1
  have hO_4 := obj_new E4 hi4 hS
  have n4 := hO_4.1
  have hS := hO_4.2.1
  have g4 := hO_4.2.2.1
  clear hO_4
  simp -implicitDefEqProofs only [go_sem, reduceEqDiff, reduceAdd, reduceLeDiff, reduceLT, reduceMul, reduceEq, Int.reduceLT, reduceLE, Int.reduceAdd, reduceSub, reduceToNat, UInt8.reduceToNat]
  with_reducible refine nwC_intro fun i5 hi5 => ?_
  generalize E5 : Heap.put G1 i5 _ = G2
  have hO_5 := obj_new E5 hi5 hS
  have n5 := hO_5.1
  have hS := hO_5.2.1
  have g5 := hO_5.2.2.1
  have d4_5 := obj_ne g4 hi5
  have g4 := hO_5.2.2.2 _ _ g4
  clear hO_5
  simp -implicitDefEqProofs only [go_sem, reduceEqDiff, reduceAdd, reduceLeDiff, reduceLT, reduceMul, reduceEq, Int.reduceLT, reduceLE, Int.reduceAdd, reduceSub, reduceToNat, UInt8.reduceToNat, puMK]
  refine (landed_calls G2).pure_next _ ?_
  simp -implicitDefEqProofs only [go_sem, reduceEqDiff, reduceAdd, reduceLeDiff, reduceLT, reduceMul, reduceEq, Int.reduceLT, reduceLE, Int.reduceAdd, reduceSub, reduceToNat, UInt8.reduceToNat, g4, g5, puMK, q1, q2, y1, y0]
  refine (k1 G2).pure_next _ ?_
  simp -implicitDefEqProofs only [go_sem, reduceEqDiff, reduceAdd, reduceLeDiff, reduceLT, reduceMul, reduceEq, Int.reduceLT, reduceLE, Int.reduceAdd, reduceSub, reduceToNat, UInt8.reduceToNat, g4, puMK]
  refine (k2 G2).pure_next _ ?_
  simp -implicitDefEqProofs only [go_sem, reduceEqDiff, reduceAdd, reduceLeDiff, reduceLT, reduceMul, reduceEq, Int.reduceLT, reduceLE, Int.reduceAdd, reduceSub, reduceToNat, UInt8.reduceToNat, g4, puMK]
  refine (k3 G2).pure_next _ ?_
  simp -implicitDefEqProofs only [go_sem, reduceEqDiff, reduceAdd, reduceLeDiff, reduceLT, reduceMul, reduceEq, Int.reduceLT, reduceLE, Int.reduceAdd, reduceSub, reduceToNat, UInt8.reduceToNat, g4, puMK]
  refine (k4 G2).pure_next _ ?_
  simp -implicitDefEqProofs only [go_sem, reduceEqDiff, reduceAdd, reduceLeDiff, reduceLT, reduceMul, reduceEq, Int.reduceLT, reduceLE, Int.reduceAdd, reduceSub, reduceToNat, UInt8.reduceToNat, puMK]
  with_reducible refine nwC_intro fun i19 hi19 => ?_
  generalize E19 : Heap.put G2 i19 _ = G3
  have hO_19 := obj_new E19 hi19 hS
  have n19 := hO_19.1
  have hS := hO_19.2.1
  have g19 := hO_19.2.2.1
  have d4_19 := obj_ne g4 hi19
  have g4 := hO_19.2.2.2 _ _ g4
  have d5_19 := obj_ne g5 hi19
  have g5 := hO_19.2.2.2 _ _ g5
  clear hO_19
  simp -implicitDefEqProofs only [go_sem, reduceEqDiff, reduceAdd, reduceLeDiff, reduceLT, reduceMul, reduceEq, Int.reduceLT, reduceLE, Int.reduceAdd, reduceSub, reduceToNat, UInt8.reduceToNat, g19, puMK]
  generalize E19 : Heap.put G3 i19 _ = G4
  have hS := obj_sub E19 n19 hS
  have g19 := obj_at E19
  have g4 := obj_keep E19 (by first | exact d4_19 | exact fun e => d19_4 e.symm) g4
  have g5 := obj_keep E19 (by first | exact d5_19 | exact fun e => d19_5 e.symm) g5
  try simp -implicitDefEqProofs only [go_sem, reduceEqDiff, reduceAdd, reduceLeDiff, reduceLT, reduceMul, reduceEq, Int.reduceLT, reduceLE, Int.reduceAdd, reduceSub, reduceToNat, UInt8.reduceToNat, y1, z3, z4, g19, puMK]
  refine (kz G4).pure_next _ ?_
  simp -implicitDefEqProofs only [go_sem, reduceEqDiff, reduceAdd, reduceLeDiff, reduceLT, reduceMul, reduceEq, Int.reduceLT, reduceLE, Int.reduceAdd, reduceSub, reduceToNat, UInt8.reduceToNat, g4, puMK]
  refine (k5 G4).pure_next _ ?_
  simp -implicitDefEqProofs only [go_sem, reduceEqDiff, reduceAdd, reduceLeDiff, reduceLT, reduceMul, reduceEq, Int.reduceLT, reduceLE, Int.reduceAdd, reduceSub, reduceToNat, UInt8.reduceToNat, g4, puMK]
  refine (k6 G4).pure_next _ ?_
  simp -implicitDefEqProofs only [go_sem, reduceEqDiff, reduceAdd, reduceLeDiff, reduceLT, reduceMul, reduceEq, Int.reduceLT, reduceLE, Int.reduceAdd, reduceSub, reduceToNat, UInt8.reduceToNat, puMK]
  with_reducible refine nwC_intro fun i22 hi22 => ?_
  generalize E22 : Heap.put G4 i22 _ = G5
  have hO_22 := obj_new E22 hi22 hS
  have n22 := hO_22.1
  have hS := hO_22.2.1
  have g22 := hO_22.2.2.1
  have d4_22 := obj_ne g4 hi22
  have g4 := hO_22.2.2.2 _ _ g4
  have d5_22 := obj_ne g5 hi22
  have g5 := hO_22.2.2.2 _ _ g5
  have d19_22 := obj_ne g19 hi22
  have g19 := hO_22.2.2.2 _ _ g19
  clear hO_22
  simp -implicitDefEqProofs only [go_sem, reduceEqDiff, reduceAdd, reduceLeDiff, reduceLT, reduceMul, reduceEq, Int.reduceLT, reduceLE, Int.reduceAdd, reduceSub, reduceToNat, UInt8.reduceToNat, g22, puMK]
  generalize E22 : Heap.put G5 i22 _ = G6
  have hS := obj_sub E22 n22 hS
  have g22 := obj_at E22
  have g4 := obj_keep E22 (by first | exact d4_22 | exact fun e => d22_4 e.symm) g4
  have g5 := obj_keep E22 (by first | exact d5_22 | exact fun e => d22_5 e.symm) g5
  have g19 := obj_keep E22 (by first | exact d19_22 | exact fun e => d22_19 e.symm) g19
  try simp -implicitDefEqProofs only [go_sem, reduceEqDiff, reduceAdd, reduceLeDiff, reduceLT, reduceMul, reduceEq, Int.reduceLT, reduceLE, Int.reduceAdd, reduceSub, reduceToNat, UInt8.reduceToNat, g4, puMK]
  refine (k7 G6).pure_next _ ?_
  simp -implicitDefEqProofs only [go_sem, reduceEqDiff, reduceAdd, reduceLeDiff, reduceLT, reduceMul, reduceEq, Int.reduceLT, reduceLE, Int.reduceAdd, reduceSub, reduceToNat, UInt8.reduceToNat, g4, puMK]
  refine (k8 G6).pure_next _ ?_
  simp -implicitDefEqProofs only [go_sem, reduceEqDiff, reduceAdd, reduceLeDiff, reduceLT, reduceMul, reduceEq, Int.reduceLT, reduceLE, Int.reduceAdd, reduceSub, reduceToNat, UInt8.reduceToNat, puMK]
  with_reducible refine nwC_intro fun i24 hi24 => ?_
  generalize E24 : Heap.put G6 i24 _ = G7
  have hO_24 := obj_new E24 hi24 hS
  have n24 := hO_24.1
  have hS := hO_24.2.1
  have g24 := hO_24.2.2.1
  have d4_24 := obj_ne g4 hi24
  have g4 := hO_24.2.2.2 _ _ g4
  have d5_24 := obj_ne g5 hi24
  have g5 := hO_24.2.2.2 _ _ g5
  have d19_24 := obj_ne g19 hi24
  have g19 := hO_24.2.2.2 _ _ g19
  have d22_24 := obj_ne g22 hi24
  have g22 := hO_24.2.2.2 _ _ g22
  clear hO_24
  simp -implicitDefEqProofs only [go_sem, reduceEqDiff, reduceAdd, reduceLeDiff, reduceLT, reduceMul, reduceEq, Int.reduceLT, reduceLE, Int.reduceAdd, reduceSub, reduceToNat, UInt8.reduceToNat, g24, puMK]
  generalize E24 : Heap.put G7 i24 _ = G8
  have hS := obj_sub E24 n24 hS
  have g24 := obj_at E24
  have g4 := obj_keep E24 (by first | exact d4_24 | exact fun e => d24_4 e.symm) g4
  have g5 := obj_keep E24 (by first | exact d5_24 | exact fun e => d24_5 e.symm) g5
  have g19 := obj_keep E24 (by first | exact d19_24 | exact fun e => d24_19 e.symm) g19
  have g22 := obj_keep E24 (by first | exact d22_24 | exact fun e => d24_22 e.symm) g22
  simp -implicitDefEqProofs only [go_sem, reduceEqDiff, reduceAdd, reduceLeDiff, reduceLT, reduceMul, reduceEq, Int.reduceLT, reduceLE, Int.reduceAdd, reduceSub, reduceToNat, UInt8.reduceToNat, g4, puMK]
  refine (k9 G8).pure_next _ ?_
  simp -implicitDefEqProofs only [go_sem, reduceEqDiff, reduceAdd, reduceLeDiff, reduceLT, reduceMul, reduceEq, Int.reduceLT, reduceLE, Int.reduceAdd, reduceSub, reduceToNat, UInt8.reduceToNat, g4, g22, g24, y1, z3, z4, z5, nf, ns, List.length_nil, Int.natCast_zero, puMK]
  refine (k10 G8).pure_next _ ?_
  simp -implicitDefEqProofs only [go_sem, reduceEqDiff, reduceAdd, reduceLeDiff, reduceLT, reduceMul, reduceEq, Int.reduceLT, reduceLE, Int.reduceAdd, reduceSub, reduceToNat, UInt8.reduceToNat, g19, puMK]
  generalize E19 : Heap.put G8 i19 _ = G9
  have hS := obj_sub E19 n19 hS
  have g19 := obj_at E19
  have g4 := obj_keep E19 (by first | exact d4_19 | exact fun e => d19_4 e.symm) g4
  have g5 := obj_keep E19 (by first | exact d5_19 | exact fun e => d19_5 e.symm) g5
  have g22 := obj_keep E19 (by first | exact d22_19 | exact fun e => d19_22 e.symm) g22
  have g24 := obj_keep E19 (by first | exact d24_19 | exact fun e => d19_24 e.symm) g24
  try simp -implicitDefEqProofs only [go_sem, reduceEqDiff, reduceAdd, reduceLeDiff, reduceLT, reduceMul, reduceEq, Int.reduceLT, reduceLE, Int.reduceAdd, reduceSub, reduceToNat, UInt8.reduceToNat, g4, puMK]
  refine (k11 G9).pure_next _ ?_
  simp -implicitDefEqProofs only [go_sem, reduceEqDiff, reduceAdd, reduceLeDiff, reduceLT, reduceMul, reduceEq, Int.reduceLT, reduceLE, Int.reduceAdd, reduceSub, reduceToNat, UInt8.reduceToNat, g4, g5, puMK]
  refine (kd G9).pure_next _ ?_
  simp -implicitDefEqProofs only [go_sem, reduceEqDiff, reduceAdd, reduceLeDiff, reduceLT, reduceMul, reduceEq, Int.reduceLT, reduceLE, Int.reduceAdd, reduceSub, reduceToNat, UInt8.reduceToNat, g4, puMK]
  refine (k12 G9).pure_next _ ?_
  simp -implicitDefEqProofs only [go_sem, reduceEqDiff, reduceAdd, reduceLeDiff, reduceLT, reduceMul, reduceEq, Int.reduceLT, reduceLE, Int.reduceAdd, reduceSub, reduceToNat, UInt8.reduceToNat, g19, y5, puMK]
  refine (kz G9).pure_next _ ?_
  simp -implicitDefEqProofs only [go_sem, reduceEqDiff, reduceAdd, reduceLeDiff, reduceLT, reduceMul, reduceEq, Int.reduceLT, reduceLE, Int.reduceAdd, reduceSub, reduceToNat, UInt8.reduceToNat, z2, List.length_nil, Int.natCast_zero, puMK]
  exact Done.drop hS ⟨rfl, rfl⟩
end Go.Proofs
