/-
  Walks and plain laws, part 9.
-/
import Derived.Test.YtcmpnopbilhgpaaGreatDoorM7
import Derived.Test.YtcmpnopbilhgpaaGreatDoorM8
/- Walks: the difference of two machines, on the program's side. -/
namespace Go.Proofs
open Go Go.Abs
open Nat (reduceEqDiff reduceAdd reduceLeDiff reduceLT reduceMul)
open Int (reduceEq reduceLE reduceSub reduceToNat)
set_option linter.unusedSimpArgs false
set_option linter.unusedVariables false
set_option maxRecDepth 20000
/-- Behind a loop of diff. -/
def DiffQ (H : Heap) (P : List ChgV) (l : List (Nat × AV)) (r : Regs) (G : Heap) : Prop := ∃ tl, AppOK H G 10 (P.map encChg) tl ∧ r 11 = .sl (P.map encChg) tl ∧ agrees r l
set_option maxHeartbeats 12800000 in
theorem diffL_calls (L1 : List FileV) (L2 : List SetV) (L3 : List SvcV) (L4 : List FileV) (L5 : List SetV) (L6 : List SvcV) (a b : MacV) (ta tb tc td ua ub uc ud : Tail) (H : Heap)
    (s1 : sidesV (·.path) a.files b.files = (L1, L4)) (s2 : sidesV (·.key) a.sets b.sets = (L2, L5)) (s3 : sidesV (·.name) a.svcs b.svcs = (L3, L6)) (hA : MacOK a) (hB : MacOK b)
    (n1 : L1.length ≤ 10000) (n2 : L2.length ≤ 10000) (n3 : L3.length ≤ 10000) (n4 : L4.length ≤ 10000) (n5 : L5.length ≤ 10000) (n6 : L6.length ≤ 10000) :
    ACalls Tryz.prog 40 [.agg (encMac a ta tb tc td), .agg (encMac b ua ub uc ud)] H fun x H' => x = .sl ((L1.map rmF ++ L2.map rmS ++ L3.map rmV ++ L4.map ptF ++ L5.map ptS ++ L6.map ptV).map encChg) .unk ∧ H' = H := by
  have hS := Heap.Sub.rfl' H
  have qa2 := hA.l2; have qa3 := hA.l3; have qa4 := hA.l4
  have qb2 := hB.l2; have qb3 := hB.l3; have qb4 := hB.l4
  refine ACalls.of_code (X := { pure := pu0 }) pu0_ok Tryz.func40 (by kernel_rfl) rfl (by kernel_rfl) (Nat.le_of_ble_eq_true rfl) ?_
  simp -implicitDefEqProofs only [go_sem, reduceEqDiff, reduceAdd, reduceLeDiff, reduceLT, reduceMul, reduceEq, Int.reduceLT, reduceLE, Int.reduceAdd, reduceSub, reduceToNat, UInt8.reduceToNat, Tryz.f40, encMac]
  with_reducible refine nwC_intro fun ia hia => ?_
  generalize Ea : Heap.put H ia _ = G1
  have hO_a := obj_new Ea hia hS
  have na := hO_a.1
  have hS := hO_a.2.1
  have ga := hO_a.2.2.1
  clear hO_a
  simp -implicitDefEqProofs only [go_sem, reduceEqDiff, reduceAdd, reduceLeDiff, reduceLT, reduceMul, reduceEq, Int.reduceLT, reduceLE, Int.reduceAdd, reduceSub, reduceToNat, UInt8.reduceToNat]
  with_reducible refine nwC_intro fun jb hjb => ?_
  generalize Eb : Heap.put G1 jb _ = G2
  have hO_b := obj_new Eb hjb hS
  have nb := hO_b.1
  have hS := hO_b.2.1
  have gb := hO_b.2.2.1
  have da_b := obj_ne ga hjb
  have ga := hO_b.2.2.2 _ _ ga
  clear hO_b
  have c1 := sidesF_calls a.files b.files tb ub G2 (by omega) (by omega)
  have c2 := sidesS_calls a.sets b.sets tc uc G2 (by omega) (by omega)
  have c3 := sidesV_calls a.svcs b.svcs td ud G2 (by omega) (by omega)
  rw [s1] at c1
  rw [s2] at c2
  rw [s3] at c3
  simp -implicitDefEqProofs only [go_sem, reduceEqDiff, reduceAdd, reduceLeDiff, reduceLT, reduceMul, reduceEq, Int.reduceLT, reduceLE, Int.reduceAdd, reduceSub, reduceToNat, UInt8.reduceToNat, ga, gb]
  refine c1.pure_next _ ?_
  simp -implicitDefEqProofs only [go_sem, reduceEqDiff, reduceAdd, reduceLeDiff, reduceLT, reduceMul, reduceEq, Int.reduceLT, reduceLE, Int.reduceAdd, reduceSub, reduceToNat, UInt8.reduceToNat, ga, gb]
  refine c2.pure_next _ ?_
  simp -implicitDefEqProofs only [go_sem, reduceEqDiff, reduceAdd, reduceLeDiff, reduceLT, reduceMul, reduceEq, Int.reduceLT, reduceLE, Int.reduceAdd, reduceSub, reduceToNat, UInt8.reduceToNat, ga, gb]
  refine c3.pure_next _ ?_
  simp -implicitDefEqProofs only [go_sem, reduceEqDiff, reduceAdd, reduceLeDiff, reduceLT, reduceMul, reduceEq, Int.reduceLT, reduceLE, Int.reduceAdd, reduceSub, reduceToNat, UInt8.reduceToNat, ga, gb]
  have hO : AppOK H G2 10 (([] : List ChgV).map encChg) .exact := AppOK.nil hS
  clear ga gb c1 c2 c3 Ea Eb hS
  with_reducible refine aloop_cut 0 (DiffQ H (L1.map rmF) [(7, .sl (L2.map encSet) .unk), (9, .sl (L3.map encSvc) .unk), (6, .sl (L4.map encFile) .unk), (8, .sl (L5.map encSet) .unk), (10, .sl (L6.map encSvc) .unk)]) ?_ ?_
  rotate_left
  · refine aloop_intro (σ := Nat × Tail) (fun s => [(11, .sl (((L1.take s.1).map rmF).map encChg) s.2), (48, .sl (L1.map encFile) .unk), (49, .int .i64 L1.length), (50, .int .i64 s.1), (7, .sl (L2.map encSet) .unk), (9, .sl (L3.map encSvc) .unk), (6, .sl (L4.map encFile) .unk), (8, .sl (L5.map encSet) .unk), (10, .sl (L6.map encSvc) .unk)])
      (fun s G => s.1 ≤ L1.length ∧ AppOK H G 10 (((L1.take s.1).map rmF).map encChg) s.2) (fun s => L1.length - s.1) (0, .exact) ?_ ?_ ?_
    · simp -implicitDefEqProofs only [go_sem, reduceEqDiff, reduceAdd, reduceLeDiff, reduceLT, reduceMul, reduceEq, Int.reduceLT, reduceLE, Int.reduceAdd, reduceSub, reduceToNat, UInt8.reduceToNat, List.take_zero, List.map_nil, List.append_nil]
    · exact ⟨Nat.zero_le _, by simpa using hO⟩
    clear hO
    rintro ⟨i, tl⟩ r G hv ⟨hi, hO⟩
    simp only at hi hO
    have e11 := hv.1
    have ea := hv.2.1
    have eb := hv.2.2.1
    have ec := hv.2.2.2.1
    have f7 := hv.2.2.2.2.1
    have f9 := hv.2.2.2.2.2.1
    have f6 := hv.2.2.2.2.2.2.1
    have f8 := hv.2.2.2.2.2.2.2.1
    have f10 := hv.2.2.2.2.2.2.2.2.1
    simp only at e11 ec
    clear hv
    by_cases g : i < L1.length
    rotate_left
    · have y0 : decide ((i : Int) < L1.length) = false := decide_eq_false (by omega)
      obtain rfl : i = L1.length := by omega
      rw [List.take_length] at hO e11
      simp -implicitDefEqProofs only [go_sem, reduceEqDiff, reduceAdd, reduceLeDiff, reduceLT, reduceMul, reduceEq, Int.reduceLT, reduceLE, Int.reduceAdd, reduceSub, reduceToNat, UInt8.reduceToNat, e11, f7, f9, f6, f8, f10, ea, eb, ec, y0]
      refine ⟨tl, hO, by simp -implicitDefEqProofs only [go_sem, reduceEqDiff, reduceAdd, reduceLeDiff, reduceLT, reduceMul, reduceEq, Int.reduceLT, reduceLE, Int.reduceAdd, reduceSub, reduceToNat, UInt8.reduceToNat, e11, f7, f9, f6, f8, f10], ?_⟩
      simp -implicitDefEqProofs only [go_sem, reduceEqDiff, reduceAdd, reduceLeDiff, reduceLT, reduceMul, reduceEq, Int.reduceLT, reduceLE, Int.reduceAdd, reduceSub, reduceToNat, UInt8.reduceToNat, e11, f7, f9, f6, f8, f10]
    have y0 : decide ((i : Int) < L1.length) = true := decide_eq_true (by omega)
    obtain ⟨x, hx⟩ : ∃ x, L1[i]? = some x := getD_get' g
    have ws : IntKind.i64.wrap ((i : Int) + 1) = ((i + 1 : Nat) : Int) := by rw [Go.IntWalk.i64_in _ (by omega)]; omega
    have hU : ∀ (x : FileV), x ∈ L1 → (encFile x).length = 3 := fun _ _ => rfl
    have hnew : ((L1.take i).map rmF).map encChg ++ [encChg (rmF x)] = ((L1.take (i + 1)).map rmF).map encChg := by rw [List.take_add_one, hx]; simp
    have hlen : ((L1.take i).map rmF).length ≤ 100000 := by simp; omega
    obtain ⟨p, d, ru⟩ := x
    simp only [encChg, rmF, FileV.zero, SetV.zero, SvcV.zero] at hnew
    simp -implicitDefEqProofs only [go_sem, reduceEqDiff, reduceAdd, reduceLeDiff, reduceLT, reduceMul, reduceEq, Int.reduceLT, reduceLE, Int.reduceAdd, reduceSub, reduceToNat, UInt8.reduceToNat, e11, f7, f9, f6, f8, f10, ea, eb, ec, y0, hx]
    refine ⟨hU, Nat.le_refl _, ?_⟩
    simp only [encFile, List.take_succ_cons, List.take_zero, List.take_nil]
    with_reducible refine nwC_intro fun i5 hi5 => ?_
    simp -implicitDefEqProofs only [go_sem, reduceEqDiff, reduceAdd, reduceLeDiff, reduceLT, reduceMul, reduceEq, Int.reduceLT, reduceLE, Int.reduceAdd, reduceSub, reduceToNat, UInt8.reduceToNat]
    replace hO := hO.put hi5 (.cells [.str p, .str d, .bool ru])
    have g5 := put_same G i5 (.cells [.str p, .str d, .bool ru])
    generalize G.put i5 (.cells [.str p, .str d, .bool ru]) = G6 at *
    simp -implicitDefEqProofs only [go_sem, reduceEqDiff, reduceAdd, reduceLeDiff, reduceLT, reduceMul, reduceEq, Int.reduceLT, reduceLE, Int.reduceAdd, reduceSub, reduceToNat, UInt8.reduceToNat, e11, f7, f9, f6, f8, f10, ea, eb, ec, g5]
    refine AppOK.step hO (fun z hz => by obtain ⟨q, -, rfl⟩ := List.mem_map.1 hz; rfl) (by simp) (by rw [List.length_map]; simp at hlen ⊢; omega) (by rw [List.length_map]; simp at hlen ⊢; omega) fun tl' G' hO' hK => ?_
    rw [hnew] at hO' ⊢
    simp -implicitDefEqProofs only [go_sem, reduceEqDiff, reduceAdd, reduceLeDiff, reduceLT, reduceMul, reduceEq, Int.reduceLT, reduceLE, Int.reduceAdd, reduceSub, reduceToNat, UInt8.reduceToNat, e11, f7, f9, f6, f8, f10, ea, eb, ec, ws]
    exact Again.mk (i + 1, tl') (by simp -implicitDefEqProofs only [go_sem, reduceEqDiff, reduceAdd, reduceLeDiff, reduceLT, reduceMul, reduceEq, Int.reduceLT, reduceLE, Int.reduceAdd, reduceSub, reduceToNat, UInt8.reduceToNat, e11, f7, f9, f6, f8, f10, ea, eb, ec]) ⟨by simp only; omega, hO'⟩ (by simp only; omega)
  clear hO
  rintro r G ⟨tl, hO, e11, hv⟩
  have f7 := hv.1
  have f9 := hv.2.1
  have f6 := hv.2.2.1
  have f8 := hv.2.2.2.1
  have f10 := hv.2.2.2.2.1
  clear hv
  simp -implicitDefEqProofs only [go_sem, reduceEqDiff, reduceAdd, reduceLeDiff, reduceLT, reduceMul, reduceEq, Int.reduceLT, reduceLE, Int.reduceAdd, reduceSub, reduceToNat, UInt8.reduceToNat, e11, f7, f9, f6, f8, f10]
  with_reducible refine aloop_cut 2 (DiffQ H (L1.map rmF ++ L2.map rmS) [(9, .sl (L3.map encSvc) .unk), (6, .sl (L4.map encFile) .unk), (8, .sl (L5.map encSet) .unk), (10, .sl (L6.map encSvc) .unk)]) ?_ ?_
  rotate_left
  · refine aloop_intro (σ := Nat × Tail) (fun s => [(11, .sl (((L1.map rmF) ++ (L2.take s.1).map rmS).map encChg) s.2), (62, .sl (L2.map encSet) .unk), (63, .int .i64 L2.length), (64, .int .i64 s.1), (9, .sl (L3.map encSvc) .unk), (6, .sl (L4.map encFile) .unk), (8, .sl (L5.map encSet) .unk), (10, .sl (L6.map encSvc) .unk)])
      (fun s G => s.1 ≤ L2.length ∧ AppOK H G 10 (((L1.map rmF) ++ (L2.take s.1).map rmS).map encChg) s.2) (fun s => L2.length - s.1) (0, tl) ?_ ?_ ?_
    · simp -implicitDefEqProofs only [go_sem, reduceEqDiff, reduceAdd, reduceLeDiff, reduceLT, reduceMul, reduceEq, Int.reduceLT, reduceLE, Int.reduceAdd, reduceSub, reduceToNat, UInt8.reduceToNat, e11, f7, f9, f6, f8, f10, List.take_zero, List.map_nil, List.append_nil]
    · exact ⟨Nat.zero_le _, by simpa using hO⟩
    clear hO e11 f7 f9 f6 f8 f10
    rintro ⟨i, tl⟩ r G hv ⟨hi, hO⟩
    simp only at hi hO
    have e11 := hv.1
    have ea := hv.2.1
    have eb := hv.2.2.1
    have ec := hv.2.2.2.1
    have f9 := hv.2.2.2.2.1
    have f6 := hv.2.2.2.2.2.1
    have f8 := hv.2.2.2.2.2.2.1
    have f10 := hv.2.2.2.2.2.2.2.1
    simp only at e11 ec
    clear hv
    by_cases g : i < L2.length
    rotate_left
    · have y0 : decide ((i : Int) < L2.length) = false := decide_eq_false (by omega)
      obtain rfl : i = L2.length := by omega
      rw [List.take_length] at hO e11
      simp -implicitDefEqProofs only [go_sem, reduceEqDiff, reduceAdd, reduceLeDiff, reduceLT, reduceMul, reduceEq, Int.reduceLT, reduceLE, Int.reduceAdd, reduceSub, reduceToNat, UInt8.reduceToNat, e11, f9, f6, f8, f10, ea, eb, ec, y0]
      refine ⟨tl, hO, by simp -implicitDefEqProofs only [go_sem, reduceEqDiff, reduceAdd, reduceLeDiff, reduceLT, reduceMul, reduceEq, Int.reduceLT, reduceLE, Int.reduceAdd, reduceSub, reduceToNat, UInt8.reduceToNat, e11, f9, f6, f8, f10], ?_⟩
      simp -implicitDefEqProofs only [go_sem, reduceEqDiff, reduceAdd, reduceLeDiff, reduceLT, reduceMul, reduceEq, Int.reduceLT, reduceLE, Int.reduceAdd, reduceSub, reduceToNat, UInt8.reduceToNat, e11, f9, f6, f8, f10]
    have y0 : decide ((i : Int) < L2.length) = true := decide_eq_true (by omega)
    obtain ⟨x, hx⟩ : ∃ x, L2[i]? = some x := getD_get' g
    have ws : IntKind.i64.wrap ((i : Int) + 1) = ((i + 1 : Nat) : Int) := by rw [Go.IntWalk.i64_in _ (by omega)]; omega
    have hU : ∀ (x : SetV), x ∈ L2 → (encSet x).length = 2 := fun _ _ => rfl
    have hnew : ((L1.map rmF) ++ (L2.take i).map rmS).map encChg ++ [encChg (rmS x)] = ((L1.map rmF) ++ (L2.take (i + 1)).map rmS).map encChg := by rw [List.take_add_one, hx]; simp
    have hlen : ((L1.map rmF) ++ (L2.take i).map rmS).length ≤ 100000 := by simp; omega
    obtain ⟨p, d⟩ := x
    simp only [encChg, rmS, FileV.zero, SetV.zero, SvcV.zero] at hnew
    simp -implicitDefEqProofs only [go_sem, reduceEqDiff, reduceAdd, reduceLeDiff, reduceLT, reduceMul, reduceEq, Int.reduceLT, reduceLE, Int.reduceAdd, reduceSub, reduceToNat, UInt8.reduceToNat, e11, f9, f6, f8, f10, ea, eb, ec, y0, hx]
    refine ⟨hU, Nat.le_refl _, ?_⟩
    simp only [encSet, List.take_succ_cons, List.take_zero, List.take_nil]
    with_reducible refine nwC_intro fun i5 hi5 => ?_
    simp -implicitDefEqProofs only [go_sem, reduceEqDiff, reduceAdd, reduceLeDiff, reduceLT, reduceMul, reduceEq, Int.reduceLT, reduceLE, Int.reduceAdd, reduceSub, reduceToNat, UInt8.reduceToNat]
    replace hO := hO.put hi5 (.cells [.str p, .str d])
    have g5 := put_same G i5 (.cells [.str p, .str d])
    generalize G.put i5 (.cells [.str p, .str d]) = G6 at *
    simp -implicitDefEqProofs only [go_sem, reduceEqDiff, reduceAdd, reduceLeDiff, reduceLT, reduceMul, reduceEq, Int.reduceLT, reduceLE, Int.reduceAdd, reduceSub, reduceToNat, UInt8.reduceToNat, e11, f9, f6, f8, f10, ea, eb, ec, g5]
    refine AppOK.step hO (fun z hz => by obtain ⟨q, -, rfl⟩ := List.mem_map.1 hz; rfl) (by simp) (by rw [List.length_map]; simp at hlen ⊢; omega) (by rw [List.length_map]; simp at hlen ⊢; omega) fun tl' G' hO' hK => ?_
    rw [hnew] at hO' ⊢
    simp -implicitDefEqProofs only [go_sem, reduceEqDiff, reduceAdd, reduceLeDiff, reduceLT, reduceMul, reduceEq, Int.reduceLT, reduceLE, Int.reduceAdd, reduceSub, reduceToNat, UInt8.reduceToNat, e11, f9, f6, f8, f10, ea, eb, ec, ws]
    exact Again.mk (i + 1, tl') (by simp -implicitDefEqProofs only [go_sem, reduceEqDiff, reduceAdd, reduceLeDiff, reduceLT, reduceMul, reduceEq, Int.reduceLT, reduceLE, Int.reduceAdd, reduceSub, reduceToNat, UInt8.reduceToNat, e11, f9, f6, f8, f10, ea, eb, ec]) ⟨by simp only; omega, hO'⟩ (by simp only; omega)
  clear hO e11 f7 f9 f6 f8 f10
  rintro r G ⟨tl, hO, e11, hv⟩
  have f9 := hv.1
  have f6 := hv.2.1
  have f8 := hv.2.2.1
  have f10 := hv.2.2.2.1
  clear hv
  simp -implicitDefEqProofs only [go_sem, reduceEqDiff, reduceAdd, reduceLeDiff, reduceLT, reduceMul, reduceEq, Int.reduceLT, reduceLE, Int.reduceAdd, reduceSub, reduceToNat, UInt8.reduceToNat, e11, f9, f6, f8, f10]
  with_reducible refine aloop_cut 4 (DiffQ H (L1.map rmF ++ L2.map rmS ++ L3.map rmV) [(6, .sl (L4.map encFile) .unk), (8, .sl (L5.map encSet) .unk), (10, .sl (L6.map encSvc) .unk)]) ?_ ?_
  rotate_left
  · refine aloop_intro (σ := Nat × Tail) (fun s => [(11, .sl (((L1.map rmF ++ L2.map rmS) ++ (L3.take s.1).map rmV).map encChg) s.2), (76, .sl (L3.map encSvc) .unk), (77, .int .i64 L3.length), (78, .int .i64 s.1), (6, .sl (L4.map encFile) .unk), (8, .sl (L5.map encSet) .unk), (10, .sl (L6.map encSvc) .unk)])
      (fun s G => s.1 ≤ L3.length ∧ AppOK H G 10 (((L1.map rmF ++ L2.map rmS) ++ (L3.take s.1).map rmV).map encChg) s.2) (fun s => L3.length - s.1) (0, tl) ?_ ?_ ?_
    · simp -implicitDefEqProofs only [go_sem, reduceEqDiff, reduceAdd, reduceLeDiff, reduceLT, reduceMul, reduceEq, Int.reduceLT, reduceLE, Int.reduceAdd, reduceSub, reduceToNat, UInt8.reduceToNat, e11, f9, f6, f8, f10, List.take_zero, List.map_nil, List.append_nil]
    · exact ⟨Nat.zero_le _, by simpa using hO⟩
    clear hO e11 f9 f6 f8 f10
    rintro ⟨i, tl⟩ r G hv ⟨hi, hO⟩
    simp only at hi hO
    have e11 := hv.1
    have ea := hv.2.1
    have eb := hv.2.2.1
    have ec := hv.2.2.2.1
    have f6 := hv.2.2.2.2.1
    have f8 := hv.2.2.2.2.2.1
    have f10 := hv.2.2.2.2.2.2.1
    simp only at e11 ec
    clear hv
    by_cases g : i < L3.length
    rotate_left
    · have y0 : decide ((i : Int) < L3.length) = false := decide_eq_false (by omega)
      obtain rfl : i = L3.length := by omega
      rw [List.take_length] at hO e11
      simp -implicitDefEqProofs only [go_sem, reduceEqDiff, reduceAdd, reduceLeDiff, reduceLT, reduceMul, reduceEq, Int.reduceLT, reduceLE, Int.reduceAdd, reduceSub, reduceToNat, UInt8.reduceToNat, e11, f6, f8, f10, ea, eb, ec, y0]
      refine ⟨tl, hO, by simp -implicitDefEqProofs only [go_sem, reduceEqDiff, reduceAdd, reduceLeDiff, reduceLT, reduceMul, reduceEq, Int.reduceLT, reduceLE, Int.reduceAdd, reduceSub, reduceToNat, UInt8.reduceToNat, e11, f6, f8, f10], ?_⟩
      simp -implicitDefEqProofs only [go_sem, reduceEqDiff, reduceAdd, reduceLeDiff, reduceLT, reduceMul, reduceEq, Int.reduceLT, reduceLE, Int.reduceAdd, reduceSub, reduceToNat, UInt8.reduceToNat, e11, f6, f8, f10]
    have y0 : decide ((i : Int) < L3.length) = true := decide_eq_true (by omega)
    obtain ⟨x, hx⟩ : ∃ x, L3[i]? = some x := getD_get' g
    have ws : IntKind.i64.wrap ((i : Int) + 1) = ((i + 1 : Nat) : Int) := by rw [Go.IntWalk.i64_in _ (by omega)]; omega
    have hU : ∀ (x : SvcV), x ∈ L3 → (encSvc x).length = 4 := fun _ _ => rfl
    have hnew : ((L1.map rmF ++ L2.map rmS) ++ (L3.take i).map rmV).map encChg ++ [encChg (rmV x)] = ((L1.map rmF ++ L2.map rmS) ++ (L3.take (i + 1)).map rmV).map encChg := by rw [List.take_add_one, hx]; simp
    have hlen : ((L1.map rmF ++ L2.map rmS) ++ (L3.take i).map rmV).length ≤ 100000 := by simp; omega
    obtain ⟨p, d, au, on⟩ := x
    simp only [encChg, rmV, FileV.zero, SetV.zero, SvcV.zero] at hnew
    simp -implicitDefEqProofs only [go_sem, reduceEqDiff, reduceAdd, reduceLeDiff, reduceLT, reduceMul, reduceEq, Int.reduceLT, reduceLE, Int.reduceAdd, reduceSub, reduceToNat, UInt8.reduceToNat, e11, f6, f8, f10, ea, eb, ec, y0, hx]
    refine ⟨hU, Nat.le_refl _, ?_⟩
    simp only [encSvc, List.take_succ_cons, List.take_zero, List.take_nil]
    with_reducible refine nwC_intro fun i5 hi5 => ?_
    simp -implicitDefEqProofs only [go_sem, reduceEqDiff, reduceAdd, reduceLeDiff, reduceLT, reduceMul, reduceEq, Int.reduceLT, reduceLE, Int.reduceAdd, reduceSub, reduceToNat, UInt8.reduceToNat]
    replace hO := hO.put hi5 (.cells [.str p, .str d, .bool au, .bool on])
    have g5 := put_same G i5 (.cells [.str p, .str d, .bool au, .bool on])
    generalize G.put i5 (.cells [.str p, .str d, .bool au, .bool on]) = G6 at *
    simp -implicitDefEqProofs only [go_sem, reduceEqDiff, reduceAdd, reduceLeDiff, reduceLT, reduceMul, reduceEq, Int.reduceLT, reduceLE, Int.reduceAdd, reduceSub, reduceToNat, UInt8.reduceToNat, e11, f6, f8, f10, ea, eb, ec, g5]
    refine AppOK.step hO (fun z hz => by obtain ⟨q, -, rfl⟩ := List.mem_map.1 hz; rfl) (by simp) (by rw [List.length_map]; simp at hlen ⊢; omega) (by rw [List.length_map]; simp at hlen ⊢; omega) fun tl' G' hO' hK => ?_
    rw [hnew] at hO' ⊢
    simp -implicitDefEqProofs only [go_sem, reduceEqDiff, reduceAdd, reduceLeDiff, reduceLT, reduceMul, reduceEq, Int.reduceLT, reduceLE, Int.reduceAdd, reduceSub, reduceToNat, UInt8.reduceToNat, e11, f6, f8, f10, ea, eb, ec, ws]
    exact Again.mk (i + 1, tl') (by simp -implicitDefEqProofs only [go_sem, reduceEqDiff, reduceAdd, reduceLeDiff, reduceLT, reduceMul, reduceEq, Int.reduceLT, reduceLE, Int.reduceAdd, reduceSub, reduceToNat, UInt8.reduceToNat, e11, f6, f8, f10, ea, eb, ec]) ⟨by simp only; omega, hO'⟩ (by simp only; omega)
  clear hO e11 f9 f6 f8 f10
  rintro r G ⟨tl, hO, e11, hv⟩
  have f6 := hv.1
  have f8 := hv.2.1
  have f10 := hv.2.2.1
  clear hv
  simp -implicitDefEqProofs only [go_sem, reduceEqDiff, reduceAdd, reduceLeDiff, reduceLT, reduceMul, reduceEq, Int.reduceLT, reduceLE, Int.reduceAdd, reduceSub, reduceToNat, UInt8.reduceToNat, e11, f6, f8, f10]
  with_reducible refine aloop_cut 6 (DiffQ H (L1.map rmF ++ L2.map rmS ++ L3.map rmV ++ L4.map ptF) [(8, .sl (L5.map encSet) .unk), (10, .sl (L6.map encSvc) .unk)]) ?_ ?_
  rotate_left
  · refine aloop_intro (σ := Nat × Tail) (fun s => [(11, .sl (((L1.map rmF ++ L2.map rmS ++ L3.map rmV) ++ (L4.take s.1).map ptF).map encChg) s.2), (90, .sl (L4.map encFile) .unk), (91, .int .i64 L4.length), (92, .int .i64 s.1), (8, .sl (L5.map encSet) .unk), (10, .sl (L6.map encSvc) .unk)])
      (fun s G => s.1 ≤ L4.length ∧ AppOK H G 10 (((L1.map rmF ++ L2.map rmS ++ L3.map rmV) ++ (L4.take s.1).map ptF).map encChg) s.2) (fun s => L4.length - s.1) (0, tl) ?_ ?_ ?_
    · simp -implicitDefEqProofs only [go_sem, reduceEqDiff, reduceAdd, reduceLeDiff, reduceLT, reduceMul, reduceEq, Int.reduceLT, reduceLE, Int.reduceAdd, reduceSub, reduceToNat, UInt8.reduceToNat, e11, f6, f8, f10, List.take_zero, List.map_nil, List.append_nil]
    · exact ⟨Nat.zero_le _, by simpa using hO⟩
    clear hO e11 f6 f8 f10
    rintro ⟨i, tl⟩ r G hv ⟨hi, hO⟩
    simp only at hi hO
    have e11 := hv.1
    have ea := hv.2.1
    have eb := hv.2.2.1
    have ec := hv.2.2.2.1
    have f8 := hv.2.2.2.2.1
    have f10 := hv.2.2.2.2.2.1
    simp only at e11 ec
    clear hv
    by_cases g : i < L4.length
    rotate_left
    · have y0 : decide ((i : Int) < L4.length) = false := decide_eq_false (by omega)
      obtain rfl : i = L4.length := by omega
      rw [List.take_length] at hO e11
      simp -implicitDefEqProofs only [go_sem, reduceEqDiff, reduceAdd, reduceLeDiff, reduceLT, reduceMul, reduceEq, Int.reduceLT, reduceLE, Int.reduceAdd, reduceSub, reduceToNat, UInt8.reduceToNat, e11, f8, f10, ea, eb, ec, y0]
      refine ⟨tl, hO, by simp -implicitDefEqProofs only [go_sem, reduceEqDiff, reduceAdd, reduceLeDiff, reduceLT, reduceMul, reduceEq, Int.reduceLT, reduceLE, Int.reduceAdd, reduceSub, reduceToNat, UInt8.reduceToNat, e11, f8, f10], ?_⟩
      simp -implicitDefEqProofs only [go_sem, reduceEqDiff, reduceAdd, reduceLeDiff, reduceLT, reduceMul, reduceEq, Int.reduceLT, reduceLE, Int.reduceAdd, reduceSub, reduceToNat, UInt8.reduceToNat, e11, f8, f10]
    have y0 : decide ((i : Int) < L4.length) = true := decide_eq_true (by omega)
    obtain ⟨x, hx⟩ : ∃ x, L4[i]? = some x := getD_get' g
    have ws : IntKind.i64.wrap ((i : Int) + 1) = ((i + 1 : Nat) : Int) := by rw [Go.IntWalk.i64_in _ (by omega)]; omega
    have hU : ∀ (x : FileV), x ∈ L4 → (encFile x).length = 3 := fun _ _ => rfl
    have hnew : ((L1.map rmF ++ L2.map rmS ++ L3.map rmV) ++ (L4.take i).map ptF).map encChg ++ [encChg (ptF x)] = ((L1.map rmF ++ L2.map rmS ++ L3.map rmV) ++ (L4.take (i + 1)).map ptF).map encChg := by rw [List.take_add_one, hx]; simp
    have hlen : ((L1.map rmF ++ L2.map rmS ++ L3.map rmV) ++ (L4.take i).map ptF).length ≤ 100000 := by simp; omega
    obtain ⟨p, d, ru⟩ := x
    simp only [encChg, ptF, FileV.zero, SetV.zero, SvcV.zero] at hnew
    simp -implicitDefEqProofs only [go_sem, reduceEqDiff, reduceAdd, reduceLeDiff, reduceLT, reduceMul, reduceEq, Int.reduceLT, reduceLE, Int.reduceAdd, reduceSub, reduceToNat, UInt8.reduceToNat, e11, f8, f10, ea, eb, ec, y0, hx]
    refine ⟨hU, Nat.le_refl _, ?_⟩
    simp only [encFile, List.take_succ_cons, List.take_zero, List.take_nil]
    with_reducible refine nwC_intro fun i5 hi5 => ?_
    simp -implicitDefEqProofs only [go_sem, reduceEqDiff, reduceAdd, reduceLeDiff, reduceLT, reduceMul, reduceEq, Int.reduceLT, reduceLE, Int.reduceAdd, reduceSub, reduceToNat, UInt8.reduceToNat]
    replace hO := hO.put hi5 (.cells [.str p, .str d, .bool ru])
    have g5 := put_same G i5 (.cells [.str p, .str d, .bool ru])
    generalize G.put i5 (.cells [.str p, .str d, .bool ru]) = G6 at *
    simp -implicitDefEqProofs only [go_sem, reduceEqDiff, reduceAdd, reduceLeDiff, reduceLT, reduceMul, reduceEq, Int.reduceLT, reduceLE, Int.reduceAdd, reduceSub, reduceToNat, UInt8.reduceToNat, e11, f8, f10, ea, eb, ec, g5]
    refine AppOK.step hO (fun z hz => by obtain ⟨q, -, rfl⟩ := List.mem_map.1 hz; rfl) (by simp) (by rw [List.length_map]; simp at hlen ⊢; omega) (by rw [List.length_map]; simp at hlen ⊢; omega) fun tl' G' hO' hK => ?_
    rw [hnew] at hO' ⊢
    simp -implicitDefEqProofs only [go_sem, reduceEqDiff, reduceAdd, reduceLeDiff, reduceLT, reduceMul, reduceEq, Int.reduceLT, reduceLE, Int.reduceAdd, reduceSub, reduceToNat, UInt8.reduceToNat, e11, f8, f10, ea, eb, ec, ws]
    exact Again.mk (i + 1, tl') (by simp -implicitDefEqProofs only [go_sem, reduceEqDiff, reduceAdd, reduceLeDiff, reduceLT, reduceMul, reduceEq, Int.reduceLT, reduceLE, Int.reduceAdd, reduceSub, reduceToNat, UInt8.reduceToNat, e11, f8, f10, ea, eb, ec]) ⟨by simp only; omega, hO'⟩ (by simp only; omega)
  clear hO e11 f6 f8 f10
  rintro r G ⟨tl, hO, e11, hv⟩
  have f8 := hv.1
  have f10 := hv.2.1
  clear hv
  simp -implicitDefEqProofs only [go_sem, reduceEqDiff, reduceAdd, reduceLeDiff, reduceLT, reduceMul, reduceEq, Int.reduceLT, reduceLE, Int.reduceAdd, reduceSub, reduceToNat, UInt8.reduceToNat, e11, f8, f10]
  with_reducible refine aloop_cut 8 (DiffQ H (L1.map rmF ++ L2.map rmS ++ L3.map rmV ++ L4.map ptF ++ L5.map ptS) [(10, .sl (L6.map encSvc) .unk)]) ?_ ?_
  rotate_left
  · refine aloop_intro (σ := Nat × Tail) (fun s => [(11, .sl (((L1.map rmF ++ L2.map rmS ++ L3.map rmV ++ L4.map ptF) ++ (L5.take s.1).map ptS).map encChg) s.2), (102, .sl (L5.map encSet) .unk), (103, .int .i64 L5.length), (104, .int .i64 s.1), (10, .sl (L6.map encSvc) .unk)])
      (fun s G => s.1 ≤ L5.length ∧ AppOK H G 10 (((L1.map rmF ++ L2.map rmS ++ L3.map rmV ++ L4.map ptF) ++ (L5.take s.1).map ptS).map encChg) s.2) (fun s => L5.length - s.1) (0, tl) ?_ ?_ ?_
    · simp -implicitDefEqProofs only [go_sem, reduceEqDiff, reduceAdd, reduceLeDiff, reduceLT, reduceMul, reduceEq, Int.reduceLT, reduceLE, Int.reduceAdd, reduceSub, reduceToNat, UInt8.reduceToNat, e11, f8, f10, List.take_zero, List.map_nil, List.append_nil]
    · exact ⟨Nat.zero_le _, by simpa using hO⟩
    clear hO e11 f8 f10
    rintro ⟨i, tl⟩ r G hv ⟨hi, hO⟩
    simp only at hi hO
    have e11 := hv.1
    have ea := hv.2.1
    have eb := hv.2.2.1
    have ec := hv.2.2.2.1
    have f10 := hv.2.2.2.2.1
    simp only at e11 ec
    clear hv
    by_cases g : i < L5.length
    rotate_left
    · have y0 : decide ((i : Int) < L5.length) = false := decide_eq_false (by omega)
      obtain rfl : i = L5.length := by omega
      rw [List.take_length] at hO e11
      simp -implicitDefEqProofs only [go_sem, reduceEqDiff, reduceAdd, reduceLeDiff, reduceLT, reduceMul, reduceEq, Int.reduceLT, reduceLE, Int.reduceAdd, reduceSub, reduceToNat, UInt8.reduceToNat, e11, f10, ea, eb, ec, y0]
      refine ⟨tl, hO, by simp -implicitDefEqProofs only [go_sem, reduceEqDiff, reduceAdd, reduceLeDiff, reduceLT, reduceMul, reduceEq, Int.reduceLT, reduceLE, Int.reduceAdd, reduceSub, reduceToNat, UInt8.reduceToNat, e11, f10], ?_⟩
      simp -implicitDefEqProofs only [go_sem, reduceEqDiff, reduceAdd, reduceLeDiff, reduceLT, reduceMul, reduceEq, Int.reduceLT, reduceLE, Int.reduceAdd, reduceSub, reduceToNat, UInt8.reduceToNat, e11, f10]
    have y0 : decide ((i : Int) < L5.length) = true := decide_eq_true (by omega)
    obtain ⟨x, hx⟩ : ∃ x, L5[i]? = some x := getD_get' g
    have ws : IntKind.i64.wrap ((i : Int) + 1) = ((i + 1 : Nat) : Int) := by rw [Go.IntWalk.i64_in _ (by omega)]; omega
    have hU : ∀ (x : SetV), x ∈ L5 → (encSet x).length = 2 := fun _ _ => rfl
    have hnew : ((L1.map rmF ++ L2.map rmS ++ L3.map rmV ++ L4.map ptF) ++ (L5.take i).map ptS).map encChg ++ [encChg (ptS x)] = ((L1.map rmF ++ L2.map rmS ++ L3.map rmV ++ L4.map ptF) ++ (L5.take (i + 1)).map ptS).map encChg := by rw [List.take_add_one, hx]; simp
    have hlen : ((L1.map rmF ++ L2.map rmS ++ L3.map rmV ++ L4.map ptF) ++ (L5.take i).map ptS).length ≤ 100000 := by simp; omega
    obtain ⟨p, d⟩ := x
    simp only [encChg, ptS, FileV.zero, SetV.zero, SvcV.zero] at hnew
    simp -implicitDefEqProofs only [go_sem, reduceEqDiff, reduceAdd, reduceLeDiff, reduceLT, reduceMul, reduceEq, Int.reduceLT, reduceLE, Int.reduceAdd, reduceSub, reduceToNat, UInt8.reduceToNat, e11, f10, ea, eb, ec, y0, hx]
    refine ⟨hU, Nat.le_refl _, ?_⟩
    simp only [encSet, List.take_succ_cons, List.take_zero, List.take_nil]
    with_reducible refine nwC_intro fun i5 hi5 => ?_
    simp -implicitDefEqProofs only [go_sem, reduceEqDiff, reduceAdd, reduceLeDiff, reduceLT, reduceMul, reduceEq, Int.reduceLT, reduceLE, Int.reduceAdd, reduceSub, reduceToNat, UInt8.reduceToNat]
    replace hO := hO.put hi5 (.cells [.str p, .str d])
    have g5 := put_same G i5 (.cells [.str p, .str d])
    generalize G.put i5 (.cells [.str p, .str d]) = G6 at *
    simp -implicitDefEqProofs only [go_sem, reduceEqDiff, reduceAdd, reduceLeDiff, reduceLT, reduceMul, reduceEq, Int.reduceLT, reduceLE, Int.reduceAdd, reduceSub, reduceToNat, UInt8.reduceToNat, e11, f10, ea, eb, ec, g5]
    refine AppOK.step hO (fun z hz => by obtain ⟨q, -, rfl⟩ := List.mem_map.1 hz; rfl) (by simp) (by rw [List.length_map]; simp at hlen ⊢; omega) (by rw [List.length_map]; simp at hlen ⊢; omega) fun tl' G' hO' hK => ?_
    rw [hnew] at hO' ⊢
    simp -implicitDefEqProofs only [go_sem, reduceEqDiff, reduceAdd, reduceLeDiff, reduceLT, reduceMul, reduceEq, Int.reduceLT, reduceLE, Int.reduceAdd, reduceSub, reduceToNat, UInt8.reduceToNat, e11, f10, ea, eb, ec, ws]
    exact Again.mk (i + 1, tl') (by simp -implicitDefEqProofs only [go_sem, reduceEqDiff, reduceAdd, reduceLeDiff, reduceLT, reduceMul, reduceEq, Int.reduceLT, reduceLE, Int.reduceAdd, reduceSub, reduceToNat, UInt8.reduceToNat, e11, f10, ea, eb, ec]) ⟨by simp only; omega, hO'⟩ (by simp only; omega)
  clear hO e11 f8 f10
  rintro r G ⟨tl, hO, e11, hv⟩
  have f10 := hv.1
  clear hv
  simp -implicitDefEqProofs only [go_sem, reduceEqDiff, reduceAdd, reduceLeDiff, reduceLT, reduceMul, reduceEq, Int.reduceLT, reduceLE, Int.reduceAdd, reduceSub, reduceToNat, UInt8.reduceToNat, e11, f10]
  with_reducible refine aloop_cut 10 (DiffQ H (L1.map rmF ++ L2.map rmS ++ L3.map rmV ++ L4.map ptF ++ L5.map ptS ++ L6.map ptV) []) ?_ ?_
  rotate_left
  · refine aloop_intro (σ := Nat × Tail) (fun s => [(11, .sl (((L1.map rmF ++ L2.map rmS ++ L3.map rmV ++ L4.map ptF ++ L5.map ptS) ++ (L6.take s.1).map ptV).map encChg) s.2), (114, .sl (L6.map encSvc) .unk), (115, .int .i64 L6.length), (116, .int .i64 s.1)])
      (fun s G => s.1 ≤ L6.length ∧ AppOK H G 10 (((L1.map rmF ++ L2.map rmS ++ L3.map rmV ++ L4.map ptF ++ L5.map ptS) ++ (L6.take s.1).map ptV).map encChg) s.2) (fun s => L6.length - s.1) (0, tl) ?_ ?_ ?_
    · simp -implicitDefEqProofs only [go_sem, reduceEqDiff, reduceAdd, reduceLeDiff, reduceLT, reduceMul, reduceEq, Int.reduceLT, reduceLE, Int.reduceAdd, reduceSub, reduceToNat, UInt8.reduceToNat, e11, f10, List.take_zero, List.map_nil, List.append_nil]
    · exact ⟨Nat.zero_le _, by simpa using hO⟩
    clear hO e11 f10
    rintro ⟨i, tl⟩ r G hv ⟨hi, hO⟩
    simp only at hi hO
    have e11 := hv.1
    have ea := hv.2.1
    have eb := hv.2.2.1
    have ec := hv.2.2.2.1
    simp only at e11 ec
    clear hv
    by_cases g : i < L6.length
    rotate_left
    · have y0 : decide ((i : Int) < L6.length) = false := decide_eq_false (by omega)
      obtain rfl : i = L6.length := by omega
      rw [List.take_length] at hO e11
      simp -implicitDefEqProofs only [go_sem, reduceEqDiff, reduceAdd, reduceLeDiff, reduceLT, reduceMul, reduceEq, Int.reduceLT, reduceLE, Int.reduceAdd, reduceSub, reduceToNat, UInt8.reduceToNat, e11, ea, eb, ec, y0]
      refine ⟨tl, hO, by simp -implicitDefEqProofs only [go_sem, reduceEqDiff, reduceAdd, reduceLeDiff, reduceLT, reduceMul, reduceEq, Int.reduceLT, reduceLE, Int.reduceAdd, reduceSub, reduceToNat, UInt8.reduceToNat, e11], ?_⟩
      trivial
    have y0 : decide ((i : Int) < L6.length) = true := decide_eq_true (by omega)
    obtain ⟨x, hx⟩ : ∃ x, L6[i]? = some x := getD_get' g
    have ws : IntKind.i64.wrap ((i : Int) + 1) = ((i + 1 : Nat) : Int) := by rw [Go.IntWalk.i64_in _ (by omega)]; omega
    have hU : ∀ (x : SvcV), x ∈ L6 → (encSvc x).length = 4 := fun _ _ => rfl
    have hnew : ((L1.map rmF ++ L2.map rmS ++ L3.map rmV ++ L4.map ptF ++ L5.map ptS) ++ (L6.take i).map ptV).map encChg ++ [encChg (ptV x)] = ((L1.map rmF ++ L2.map rmS ++ L3.map rmV ++ L4.map ptF ++ L5.map ptS) ++ (L6.take (i + 1)).map ptV).map encChg := by rw [List.take_add_one, hx]; simp
    have hlen : ((L1.map rmF ++ L2.map rmS ++ L3.map rmV ++ L4.map ptF ++ L5.map ptS) ++ (L6.take i).map ptV).length ≤ 100000 := by simp; omega
    obtain ⟨p, d, au, on⟩ := x
    simp only [encChg, ptV, FileV.zero, SetV.zero, SvcV.zero] at hnew
    simp -implicitDefEqProofs only [go_sem, reduceEqDiff, reduceAdd, reduceLeDiff, reduceLT, reduceMul, reduceEq, Int.reduceLT, reduceLE, Int.reduceAdd, reduceSub, reduceToNat, UInt8.reduceToNat, e11, ea, eb, ec, y0, hx]
    refine ⟨hU, Nat.le_refl _, ?_⟩
    simp only [encSvc, List.take_succ_cons, List.take_zero, List.take_nil]
    with_reducible refine nwC_intro fun i5 hi5 => ?_
    simp -implicitDefEqProofs only [go_sem, reduceEqDiff, reduceAdd, reduceLeDiff, reduceLT, reduceMul, reduceEq, Int.reduceLT, reduceLE, Int.reduceAdd, reduceSub, reduceToNat, UInt8.reduceToNat]
    replace hO := hO.put hi5 (.cells [.str p, .str d, .bool au, .bool on])
    have g5 := put_same G i5 (.cells [.str p, .str d, .bool au, .bool on])
    generalize G.put i5 (.cells [.str p, .str d, .bool au, .bool on]) = G6 at *
    simp -implicitDefEqProofs only [go_sem, reduceEqDiff, reduceAdd, reduceLeDiff, reduceLT, reduceMul, reduceEq, Int.reduceLT, reduceLE, Int.reduceAdd, reduceSub, reduceToNat, UInt8.reduceToNat, e11, ea, eb, ec, g5]
    refine AppOK.step hO (fun z hz => by obtain ⟨q, -, rfl⟩ := List.mem_map.1 hz; rfl) (by simp) (by rw [List.length_map]; simp at hlen ⊢; omega) (by rw [List.length_map]; simp at hlen ⊢; omega) fun tl' G' hO' hK => ?_
    rw [hnew] at hO' ⊢
    simp -implicitDefEqProofs only [go_sem, reduceEqDiff, reduceAdd, reduceLeDiff, reduceLT, reduceMul, reduceEq, Int.reduceLT, reduceLE, Int.reduceAdd, reduceSub, reduceToNat, UInt8.reduceToNat, e11, ea, eb, ec, ws]
    exact Again.mk (i + 1, tl') (by simp -implicitDefEqProofs only [go_sem, reduceEqDiff, reduceAdd, reduceLeDiff, reduceLT, reduceMul, reduceEq, Int.reduceLT, reduceLE, Int.reduceAdd, reduceSub, reduceToNat, UInt8.reduceToNat, e11, ea, eb, ec]) ⟨by simp only; omega, hO'⟩ (by simp only; omega)
  clear hO e11 f10
  rintro r G ⟨tl, hO, e11, hv⟩
  clear hv
  simp -implicitDefEqProofs only [go_sem, reduceEqDiff, reduceAdd, reduceLeDiff, reduceLT, reduceMul, reduceEq, Int.reduceLT, reduceLE, Int.reduceAdd, reduceSub, reduceToNat, UInt8.reduceToNat, e11]
  exact Done.wk 1 (Done.drop hO.sub ⟨rfl, rfl⟩)
theorem diff_calls (a b : MacV) (ta tb tc td ua ub uc ud : Tail) (H : Heap) (hA : MacOK a) (hB : MacOK b) :
    ACalls Tryz.prog 40 [.agg (encMac a ta tb tc td), .agg (encMac b ua ub uc ud)] H fun x H' => x = .sl ((diffV a b).map encChg) .unk ∧ H' = H := by
  have h1 := List.length_filter_le (fun x : FileV => (getK (·.path) x.path b.files).isNone) a.files
  have h2 := List.length_filter_le (fun x : SetV => (getK (·.key) x.key b.sets).isNone) a.sets
  have h3 := List.length_filter_le (fun x : SvcV => (getK (·.name) x.name b.svcs).isNone) a.svcs
  have h4 := List.length_filter_le (fun x : FileV => decide (getK (·.path) x.path a.files ≠ some x)) b.files
  have h5 := List.length_filter_le (fun x : SetV => decide (getK (·.key) x.key a.sets ≠ some x)) b.sets
  have h6 := List.length_filter_le (fun x : SvcV => decide (getK (·.name) x.name a.svcs ≠ some x)) b.svcs
  have := hA.l2; have := hA.l3; have := hA.l4; have := hB.l2; have := hB.l3; have := hB.l4
  exact diffL_calls _ _ _ _ _ _ a b ta tb tc td ua ub uc ud H (sides_eq _ _ hA.a2 hB.a2) (sides_eq _ _ hA.a3 hB.a3) (sides_eq _ _ hA.a4 hB.a4) hA hB (Nat.le_trans h1 (by omega)) (Nat.le_trans h2 (by omega)) (Nat.le_trans h3 (by omega)) (Nat.le_trans h4 (by omega)) (Nat.le_trans h5 (by omega)) (Nat.le_trans h6 (by omega))
end Go.Proofs
