/-
  Walks and plain laws, part 2.
-/
import Derived.Test.YtloodfinfbmmkaaDoorM1
import Derived.Test.YtloodfinfbmmkaaDoorAbs4
import Derived.Test.YtloodfinfbmmkaaDoorTy
import Derived.IntWalk
import Derived.Lib.MakeNoZero
import Derived.Lib.Builder
/- Walks: names, paths, values, of the program and of the reference. -/
namespace Go.Proofs
open Go Go.Abs
set_option linter.unusedSimpArgs false
set_option linter.unusedVariables false
theorem isSmall_calls (c : Int) (H : Heap) : ACalls Tryd.prog 46 [.int .u8 c] H fun x H' => x = .bool (isSm c) ∧ H' = H := by
  refine ACalls.of_code (X := { pure := puK }) puK_ok Tryd.func46 (by kernel_rfl) rfl (by kernel_rfl) (Nat.le_of_ble_eq_true rfl) ?_
  simp -implicitDefEqProofs only [go_sem, tys, regs0, Nat.reduceEqDiff, Nat.reduceAdd, Nat.reduceLeDiff, Nat.reduceLT, Nat.reduceMul, Int.natCast_one, Int.natCast_zero, Int.reduceEq, Int.reduceLT, Int.reduceLE, Int.reduceAdd, Int.reduceSub, Int.reduceToNat, UInt8.reduceToNat, Tryd.f46]
  repeat' (first | (with_reducible refine gd_intro (fun h => ?_) (fun h => ?_) <;> first | (exact absurd h (by decide)) | (simp at h; done) | simp -implicitDefEqProofs (disch := omega) only [go_sem, tys, regs0, Nat.reduceEqDiff, Nat.reduceAdd, Nat.reduceLeDiff, Nat.reduceLT, Nat.reduceMul, Int.natCast_one, Int.natCast_zero, Int.reduceEq, Int.reduceLT, Int.reduceLE, Int.reduceAdd, Int.reduceSub, Int.reduceToNat, UInt8.reduceToNat, Go.IntWalk.i64_in, *]) | (with_reducible refine cnd_intro (fun h => ?_) (fun h => ?_) <;> first | (exact absurd h (by decide)) | (simp at h; done) | simp -implicitDefEqProofs (disch := omega) only [go_sem, tys, regs0, Nat.reduceEqDiff, Nat.reduceAdd, Nat.reduceLeDiff, Nat.reduceLT, Nat.reduceMul, Int.natCast_one, Int.natCast_zero, Int.reduceEq, Int.reduceLT, Int.reduceLE, Int.reduceAdd, Int.reduceSub, Int.reduceToNat, UInt8.reduceToNat, Go.IntWalk.i64_in, *]))
  all_goals (refine Done.now ⟨?_, rfl⟩; simp only [decide_eq_true_eq, decide_eq_false_iff_not] at h; simp [isSm, h])
theorem isDigit_calls (c : Int) (H : Heap) : ACalls Tryd.prog 47 [.int .u8 c] H fun x H' => x = .bool (isDg c) ∧ H' = H := by
  refine ACalls.of_code (X := { pure := puK }) puK_ok Tryd.func47 (by kernel_rfl) rfl (by kernel_rfl) (Nat.le_of_ble_eq_true rfl) ?_
  simp -implicitDefEqProofs only [go_sem, tys, regs0, Nat.reduceEqDiff, Nat.reduceAdd, Nat.reduceLeDiff, Nat.reduceLT, Nat.reduceMul, Int.natCast_one, Int.natCast_zero, Int.reduceEq, Int.reduceLT, Int.reduceLE, Int.reduceAdd, Int.reduceSub, Int.reduceToNat, UInt8.reduceToNat, Tryd.f47]
  repeat' (first | (with_reducible refine gd_intro (fun h => ?_) (fun h => ?_) <;> first | (exact absurd h (by decide)) | (simp at h; done) | simp -implicitDefEqProofs (disch := omega) only [go_sem, tys, regs0, Nat.reduceEqDiff, Nat.reduceAdd, Nat.reduceLeDiff, Nat.reduceLT, Nat.reduceMul, Int.natCast_one, Int.natCast_zero, Int.reduceEq, Int.reduceLT, Int.reduceLE, Int.reduceAdd, Int.reduceSub, Int.reduceToNat, UInt8.reduceToNat, Go.IntWalk.i64_in, *]) | (with_reducible refine cnd_intro (fun h => ?_) (fun h => ?_) <;> first | (exact absurd h (by decide)) | (simp at h; done) | simp -implicitDefEqProofs (disch := omega) only [go_sem, tys, regs0, Nat.reduceEqDiff, Nat.reduceAdd, Nat.reduceLeDiff, Nat.reduceLT, Nat.reduceMul, Int.natCast_one, Int.natCast_zero, Int.reduceEq, Int.reduceLT, Int.reduceLE, Int.reduceAdd, Int.reduceSub, Int.reduceToNat, UInt8.reduceToNat, Go.IntWalk.i64_in, *]))
  all_goals (refine Done.now ⟨?_, rfl⟩; simp only [decide_eq_true_eq, decide_eq_false_iff_not] at h; simp [isDg, h])
def puV1 : Pures := putP 46 (sByte isSm) (putP 47 (sByte isDg) puK)
theorem puV1_dyn : isDyn puV1 = false := by simp only [puV1, go_sem, Nat.reduceEqDiff]
attribute [go_sem] puV1_dyn
theorem puV1_ok : PuOK Tryd.prog puV1 := .put (.put (puK_ok) (sByte_ok isDigit_calls)) (sByte_ok isSmall_calls)
theorem isName1_calls (c : Int) (H : Heap) : ACalls Tryd.prog 45 [.int .u8 c] H fun x H' => x = .bool (isNm c) ∧ H' = H := by
  refine ACalls.of_code (X := { pure := puV1 }) puV1_ok Tryd.func45 (by kernel_rfl) rfl (by kernel_rfl) (Nat.le_of_ble_eq_true rfl) ?_
  simp -implicitDefEqProofs only [go_sem, tys, regs0, Nat.reduceEqDiff, Nat.reduceAdd, Nat.reduceLeDiff, Nat.reduceLT, Nat.reduceMul, Int.natCast_one, Int.natCast_zero, Int.reduceEq, Int.reduceLT, Int.reduceLE, Int.reduceAdd, Int.reduceSub, Int.reduceToNat, UInt8.reduceToNat, Tryd.f45, puV1, sByte_eq]
  repeat' (first | (with_reducible refine gd_intro (fun h => ?_) (fun h => ?_) <;> first | (exact absurd h (by decide)) | (simp at h; done) | simp -implicitDefEqProofs (disch := omega) only [go_sem, tys, regs0, Nat.reduceEqDiff, Nat.reduceAdd, Nat.reduceLeDiff, Nat.reduceLT, Nat.reduceMul, Int.natCast_one, Int.natCast_zero, Int.reduceEq, Int.reduceLT, Int.reduceLE, Int.reduceAdd, Int.reduceSub, Int.reduceToNat, UInt8.reduceToNat, Go.IntWalk.i64_in, puV1, sByte_eq, *]) | (with_reducible refine cnd_intro (fun h => ?_) (fun h => ?_) <;> first | (exact absurd h (by decide)) | (simp at h; done) | simp -implicitDefEqProofs (disch := omega) only [go_sem, tys, regs0, Nat.reduceEqDiff, Nat.reduceAdd, Nat.reduceLeDiff, Nat.reduceLT, Nat.reduceMul, Int.natCast_one, Int.natCast_zero, Int.reduceEq, Int.reduceLT, Int.reduceLE, Int.reduceAdd, Int.reduceSub, Int.reduceToNat, UInt8.reduceToNat, Go.IntWalk.i64_in, puV1, sByte_eq, *]))
  all_goals (refine Done.now ⟨?_, rfl⟩; simp_all [isNm])
theorem isPart1_calls (c : Int) (H : Heap) : ACalls Tryd.prog 91 [.int .u8 c] H fun x H' => x = .bool (isPt c) ∧ H' = H := by
  refine ACalls.of_code (X := { pure := puV1 }) puV1_ok Tryd.func91 (by kernel_rfl) rfl (by kernel_rfl) (Nat.le_of_ble_eq_true rfl) ?_
  simp -implicitDefEqProofs only [go_sem, tys, regs0, Nat.reduceEqDiff, Nat.reduceAdd, Nat.reduceLeDiff, Nat.reduceLT, Nat.reduceMul, Int.natCast_one, Int.natCast_zero, Int.reduceEq, Int.reduceLT, Int.reduceLE, Int.reduceAdd, Int.reduceSub, Int.reduceToNat, UInt8.reduceToNat, Tryd.f91, puV1, sByte_eq]
  repeat' (first | (with_reducible refine gd_intro (fun h => ?_) (fun h => ?_) <;> first | (exact absurd h (by decide)) | (simp at h; done) | simp -implicitDefEqProofs (disch := omega) only [go_sem, tys, regs0, Nat.reduceEqDiff, Nat.reduceAdd, Nat.reduceLeDiff, Nat.reduceLT, Nat.reduceMul, Int.natCast_one, Int.natCast_zero, Int.reduceEq, Int.reduceLT, Int.reduceLE, Int.reduceAdd, Int.reduceSub, Int.reduceToNat, UInt8.reduceToNat, Go.IntWalk.i64_in, puV1, sByte_eq, *]) | (with_reducible refine cnd_intro (fun h => ?_) (fun h => ?_) <;> first | (exact absurd h (by decide)) | (simp at h; done) | simp -implicitDefEqProofs (disch := omega) only [go_sem, tys, regs0, Nat.reduceEqDiff, Nat.reduceAdd, Nat.reduceLeDiff, Nat.reduceLT, Nat.reduceMul, Int.natCast_one, Int.natCast_zero, Int.reduceEq, Int.reduceLT, Int.reduceLE, Int.reduceAdd, Int.reduceSub, Int.reduceToNat, UInt8.reduceToNat, Go.IntWalk.i64_in, puV1, sByte_eq, *]))
  all_goals (refine Done.now ⟨?_, rfl⟩; simp_all [isPt] <;> omega)
theorem isValue1_calls (c : Int) (H : Heap) : ACalls Tryd.prog 90 [.int .u8 c] H fun x H' => x = .bool (isVl c) ∧ H' = H := by
  refine ACalls.of_code (X := { pure := puV1 }) puV1_ok Tryd.func90 (by kernel_rfl) rfl (by kernel_rfl) (Nat.le_of_ble_eq_true rfl) ?_
  simp -implicitDefEqProofs only [go_sem, tys, regs0, Nat.reduceEqDiff, Nat.reduceAdd, Nat.reduceLeDiff, Nat.reduceLT, Nat.reduceMul, Int.natCast_one, Int.natCast_zero, Int.reduceEq, Int.reduceLT, Int.reduceLE, Int.reduceAdd, Int.reduceSub, Int.reduceToNat, UInt8.reduceToNat, Tryd.f90, puV1, sByte_eq]
  repeat' (first | (with_reducible refine gd_intro (fun h => ?_) (fun h => ?_) <;> first | (exact absurd h (by decide)) | (simp at h; done) | simp -implicitDefEqProofs (disch := omega) only [go_sem, tys, regs0, Nat.reduceEqDiff, Nat.reduceAdd, Nat.reduceLeDiff, Nat.reduceLT, Nat.reduceMul, Int.natCast_one, Int.natCast_zero, Int.reduceEq, Int.reduceLT, Int.reduceLE, Int.reduceAdd, Int.reduceSub, Int.reduceToNat, UInt8.reduceToNat, Go.IntWalk.i64_in, puV1, sByte_eq, *]) | (with_reducible refine cnd_intro (fun h => ?_) (fun h => ?_) <;> first | (exact absurd h (by decide)) | (simp at h; done) | simp -implicitDefEqProofs (disch := omega) only [go_sem, tys, regs0, Nat.reduceEqDiff, Nat.reduceAdd, Nat.reduceLeDiff, Nat.reduceLT, Nat.reduceMul, Int.natCast_one, Int.natCast_zero, Int.reduceEq, Int.reduceLT, Int.reduceLE, Int.reduceAdd, Int.reduceSub, Int.reduceToNat, UInt8.reduceToNat, Go.IntWalk.i64_in, puV1, sByte_eq, *]))
  all_goals (refine Done.now ⟨?_, rfl⟩; simp_all [isVl] <;> omega)
theorem each_calls (s : Bytes) (most : Int) (f : FuncId) (p : Int → Bool) (H : Heap) (hs : s.length ≤ Room) (hf : ∀ c H, ACalls Tryd.prog f [.int .u8 c] H fun x H' => x = .bool (p c) ∧ H' = H) :
    ACalls Tryd.prog 44 [.str s, .int .i64 most, .func f []] H fun x H' => x = .bool (sEach p s most) ∧ H' = H := by
  have hR : Room = 1099511627776 := rfl
  rw [hR] at hs
  refine ACalls.of_code (X := {}) (fun _ _ h => nomatch h) Tryd.func44 (by kernel_rfl) rfl (by kernel_rfl) (Nat.le_of_ble_eq_true rfl) ?_
  simp -implicitDefEqProofs only [go_sem, tys, regs0, Nat.reduceEqDiff, Nat.reduceAdd, Nat.reduceLeDiff, Nat.reduceLT, Nat.reduceMul, Int.natCast_one, Int.natCast_zero, Int.reduceEq, Int.reduceLT, Int.reduceLE, Int.reduceAdd, Int.reduceSub, Int.reduceToNat, UInt8.reduceToNat, Tryd.f44]
  refine aloop_intro (σ := Nat) (fun i => [(0, .str s), (1, .int .i64 most), (2, .func f []), (7, .int .i64 i)]) (fun i G => G = H ∧ i ≤ s.length ∧ allB p (s.take i) = true) (fun i => s.length - i) 0 ?_ ?_ ?_
  · simp -implicitDefEqProofs only [go_sem, tys, regs0, Nat.reduceEqDiff, Nat.reduceAdd, Nat.reduceLeDiff, Nat.reduceLT, Nat.reduceMul, Int.natCast_one, Int.natCast_zero, Int.reduceEq, Int.reduceLT, Int.reduceLE, Int.reduceAdd, Int.reduceSub, Int.reduceToNat, UInt8.reduceToNat]
  · simp [allB]
  · intro i r G hv hI
    have h0 := hv.1
    have h1 := hv.2.1
    have h2 := hv.2.2.1
    have h7 := hv.2.2.2.1
    have hG := hI.1
    have hp := hI.2.2
    have hi := hI.2.1
    subst hG
    simp -implicitDefEqProofs only [go_sem, tys, regs0, Nat.reduceEqDiff, Nat.reduceAdd, Nat.reduceLeDiff, Nat.reduceLT, Nat.reduceMul, Int.natCast_one, Int.natCast_zero, Int.reduceEq, Int.reduceLT, Int.reduceLE, Int.reduceAdd, Int.reduceSub, Int.reduceToNat, UInt8.reduceToNat, h0, h1, h2, h7]
    refine cnd_intro (fun h => ?_) (fun h => ?_)
    · simp only [decide_eq_true_eq] at h
      obtain ⟨c, hc⟩ : ∃ c, s[i]? = some c := ⟨s[i]'(by omega), List.getElem?_eq_getElem _⟩
      simp -implicitDefEqProofs only [go_sem, tys, regs0, Nat.reduceEqDiff, Nat.reduceAdd, Nat.reduceLeDiff, Nat.reduceLT, Nat.reduceMul, Int.natCast_one, Int.natCast_zero, Int.reduceEq, Int.reduceLT, Int.reduceLE, Int.reduceAdd, Int.reduceSub, Int.reduceToNat, UInt8.reduceToNat, h0, h1, h2, h7, hc]
      refine ACalls.pure_next _ (hf c.toNat _) ?_
      simp -implicitDefEqProofs only [go_sem, tys, regs0, Nat.reduceEqDiff, Nat.reduceAdd, Nat.reduceLeDiff, Nat.reduceLT, Nat.reduceMul, Int.natCast_one, Int.natCast_zero, Int.reduceEq, Int.reduceLT, Int.reduceLE, Int.reduceAdd, Int.reduceSub, Int.reduceToNat, UInt8.reduceToNat, h0, h1, h2, h7, hc]
      refine cnd_intro (fun hpc => ?_) (fun hpc => ?_) <;> simp only [Bool.not_eq_true', Bool.not_eq_false'] at hpc
      · simp -implicitDefEqProofs only [go_sem, tys, regs0, Nat.reduceEqDiff, Nat.reduceAdd, Nat.reduceLeDiff, Nat.reduceLT, Nat.reduceMul, Int.natCast_one, Int.natCast_zero, Int.reduceEq, Int.reduceLT, Int.reduceLE, Int.reduceAdd, Int.reduceSub, Int.reduceToNat, UInt8.reduceToNat, h0, h1, h2, h7, hc]
        exact Done.now ⟨by rw [sEach_false hc hpc], rfl⟩
      · simp -implicitDefEqProofs (disch := omega) only [go_sem, tys, regs0, Nat.reduceEqDiff, Nat.reduceAdd, Nat.reduceLeDiff, Nat.reduceLT, Nat.reduceMul, Int.natCast_one, Int.natCast_zero, Int.reduceEq, Int.reduceLT, Int.reduceLE, Int.reduceAdd, Int.reduceSub, Int.reduceToNat, UInt8.reduceToNat, Go.IntWalk.i64_in, h0, h1, h2, h7, hc]
        exact Again.mk (i + 1) (by simp -implicitDefEqProofs only [go_sem, tys, regs0, Nat.reduceEqDiff, Nat.reduceAdd, Nat.reduceLeDiff, Nat.reduceLT, Nat.reduceMul, Int.natCast_one, Int.natCast_zero, Int.reduceEq, Int.reduceLT, Int.reduceLE, Int.reduceAdd, Int.reduceSub, Int.reduceToNat, UInt8.reduceToNat, h0, h1, h2, h7]; exact rfl) ⟨rfl, by omega, allB_succ hp hc hpc⟩ (by omega)
    · simp only [decide_eq_false_iff_not] at h
      have e : i = s.length := by omega
      subst e
      rw [List.take_length] at hp
      simp -implicitDefEqProofs only [go_sem, tys, regs0, Nat.reduceEqDiff, Nat.reduceAdd, Nat.reduceLeDiff, Nat.reduceLT, Nat.reduceMul, Int.natCast_one, Int.natCast_zero, Int.reduceEq, Int.reduceLT, Int.reduceLE, Int.reduceAdd, Int.reduceSub, Int.reduceToNat, UInt8.reduceToNat, h0, h1, h2, h7]
      refine gd_intro (fun hn => ?_) (fun hn => ?_) <;> simp -implicitDefEqProofs only [go_sem, tys, regs0, Nat.reduceEqDiff, Nat.reduceAdd, Nat.reduceLeDiff, Nat.reduceLT, Nat.reduceMul, Int.natCast_one, Int.natCast_zero, Int.reduceEq, Int.reduceLT, Int.reduceLE, Int.reduceAdd, Int.reduceSub, Int.reduceToNat, UInt8.reduceToNat, h0, h1, h2, h7, hn] <;> refine Done.now ⟨?_, rfl⟩ <;> simp only [sEach, hp, hn, ne_eq] <;> simp
def sEachP : List AV → Option AV
  | [.str s, .int .i64 most, .func f []] => if s.length ≤ Room then
      (if f = 45 then some (.bool (sEach isNm s most)) else if f = 91 then some (.bool (sEach isPt s most)) else if f = 90 then some (.bool (sEach isVl s most)) else none) else none
  | _ => none
theorem sEachP_eq (s : Bytes) (most : Int) (f : FuncId) : sEachP [.str s, .int .i64 most, .func f []] = if s.length ≤ Room then
      (if f = 45 then some (.bool (sEach isNm s most)) else if f = 91 then some (.bool (sEach isPt s most)) else if f = 90 then some (.bool (sEach isVl s most)) else none) else none := rfl
def puV2 : Pures := putP 44 sEachP puV1
theorem puV2_dyn : isDyn puV2 = false := by simp only [puV2, go_sem, Nat.reduceEqDiff]
attribute [go_sem] puV2_dyn
theorem puV2_ok : PuOK Tryd.prog puV2 := by
  refine PuOK.put puV1_ok ?_
  intro xs v h H
  unfold sEachP at h
  split at h
  · rename_i s most f
    split at h
    · rename_i hs
      split at h
      · rename_i hf; subst hf; cases h; exact each_calls s most _ isNm H hs isName1_calls
      · split at h
        · rename_i hf; subst hf; cases h; exact each_calls s most _ isPt H hs isPart1_calls
        · split at h
          · rename_i hf; subst hf; cases h; exact each_calls s most _ isVl H hs isValue1_calls
          · cases h
    · cases h
  · cases h
theorem isName_calls (s : Bytes) (H : Heap) (hs : s.length ≤ Room) : ACalls Tryd.prog 15 [.str s] H fun x H' => x = .bool (nameB s) ∧ H' = H := by
  refine ACalls.of_code (X := { pure := puV2 }) puV2_ok Tryd.func15 (by kernel_rfl) rfl (by kernel_rfl) (Nat.le_of_ble_eq_true rfl) ?_
  simp -implicitDefEqProofs only [go_sem, tys, regs0, Nat.reduceEqDiff, Nat.reduceAdd, Nat.reduceLeDiff, Nat.reduceLT, Nat.reduceMul, Int.natCast_one, Int.natCast_zero, Int.reduceEq, Int.reduceLT, Int.reduceLE, Int.reduceAdd, Int.reduceSub, Int.reduceToNat, UInt8.reduceToNat, Tryd.f15, puV2, puV1, sByte_eq, sEachP_eq, hs]
  refine gd_intro (fun hn => ?_) (fun hn => ?_)
  · obtain ⟨c, l, rfl⟩ : ∃ c l, s = c :: l := by
      cases s with
      | nil => simp [sEach] at hn
      | cons c l => exact ⟨c, l, rfl⟩
    simp -implicitDefEqProofs only [go_sem, tys, regs0, Nat.reduceEqDiff, Nat.reduceAdd, Nat.reduceLeDiff, Nat.reduceLT, Nat.reduceMul, Int.natCast_one, Int.natCast_zero, Int.reduceEq, Int.reduceLT, Int.reduceLE, Int.reduceAdd, Int.reduceSub, Int.reduceToNat, UInt8.reduceToNat, puV2, puV1, sByte_eq, hn, Int.toNat_zero, Int.le_refl]
    exact Done.now ⟨by simp [nameB, hn], rfl⟩
  · simp -implicitDefEqProofs only [go_sem, tys, regs0, Nat.reduceEqDiff, Nat.reduceAdd, Nat.reduceLeDiff, Nat.reduceLT, Nat.reduceMul, Int.natCast_one, Int.natCast_zero, Int.reduceEq, Int.reduceLT, Int.reduceLE, Int.reduceAdd, Int.reduceSub, Int.reduceToNat, UInt8.reduceToNat, puV2, puV1, sByte_eq, hn]
    exact Done.now ⟨by simp [nameB, hn], rfl⟩
theorem isPart_calls (s : Bytes) (H : Heap) (hs : s.length ≤ Room) : ACalls Tryd.prog 82 [.str s] H fun x H' => x = .bool (partB s) ∧ H' = H := by
  refine ACalls.of_code (X := { pure := puV2 }) puV2_ok Tryd.func82 (by kernel_rfl) rfl (by kernel_rfl) (Nat.le_of_ble_eq_true rfl) ?_
  simp -implicitDefEqProofs only [go_sem, tys, regs0, Nat.reduceEqDiff, Nat.reduceAdd, Nat.reduceLeDiff, Nat.reduceLT, Nat.reduceMul, Int.natCast_one, Int.natCast_zero, Int.reduceEq, Int.reduceLT, Int.reduceLE, Int.reduceAdd, Int.reduceSub, Int.reduceToNat, UInt8.reduceToNat, Tryd.f82, puV2, puV1, sByte_eq, sEachP_eq, hs]
  repeat' (first | (with_reducible refine gd_intro (fun h => ?_) (fun h => ?_) <;> first | (exact absurd h (by decide)) | (simp at h; done) | simp -implicitDefEqProofs (disch := omega) only [go_sem, tys, regs0, Nat.reduceEqDiff, Nat.reduceAdd, Nat.reduceLeDiff, Nat.reduceLT, Nat.reduceMul, Int.natCast_one, Int.natCast_zero, Int.reduceEq, Int.reduceLT, Int.reduceLE, Int.reduceAdd, Int.reduceSub, Int.reduceToNat, UInt8.reduceToNat, Go.IntWalk.i64_in, puV2, puV1, sEachP_eq, *]) | (with_reducible refine cnd_intro (fun h => ?_) (fun h => ?_) <;> first | (exact absurd h (by decide)) | (simp at h; done) | simp -implicitDefEqProofs (disch := omega) only [go_sem, tys, regs0, Nat.reduceEqDiff, Nat.reduceAdd, Nat.reduceLeDiff, Nat.reduceLT, Nat.reduceMul, Int.natCast_one, Int.natCast_zero, Int.reduceEq, Int.reduceLT, Int.reduceLE, Int.reduceAdd, Int.reduceSub, Int.reduceToNat, UInt8.reduceToNat, Go.IntWalk.i64_in, puV2, puV1, sEachP_eq, *]))
  all_goals (refine Done.now ⟨?_, rfl⟩; simp_all [partB])
theorem isValue_calls (s : Bytes) (H : Heap) (hs : s.length ≤ Room) : ACalls Tryd.prog 81 [.str s] H fun x H' => x = .bool (valueB s) ∧ H' = H := by
  refine ACalls.of_code (X := { pure := puV2 }) puV2_ok Tryd.func81 (by kernel_rfl) rfl (by kernel_rfl) (Nat.le_of_ble_eq_true rfl) ?_
  simp -implicitDefEqProofs only [go_sem, tys, regs0, Nat.reduceEqDiff, Nat.reduceAdd, Nat.reduceLeDiff, Nat.reduceLT, Nat.reduceMul, Int.natCast_one, Int.natCast_zero, Int.reduceEq, Int.reduceLT, Int.reduceLE, Int.reduceAdd, Int.reduceSub, Int.reduceToNat, UInt8.reduceToNat, Tryd.f81, puV2, puV1, sByte_eq, sEachP_eq, hs]
  repeat' (first | (with_reducible refine gd_intro (fun h => ?_) (fun h => ?_) <;> first | (exact absurd h (by decide)) | (simp at h; done) | simp -implicitDefEqProofs (disch := omega) only [go_sem, tys, regs0, Nat.reduceEqDiff, Nat.reduceAdd, Nat.reduceLeDiff, Nat.reduceLT, Nat.reduceMul, Int.natCast_one, Int.natCast_zero, Int.reduceEq, Int.reduceLT, Int.reduceLE, Int.reduceAdd, Int.reduceSub, Int.reduceToNat, UInt8.reduceToNat, Go.IntWalk.i64_in, puV2, puV1, sEachP_eq, *]) | (with_reducible refine cnd_intro (fun h => ?_) (fun h => ?_) <;> first | (exact absurd h (by decide)) | (simp at h; done) | simp -implicitDefEqProofs (disch := omega) only [go_sem, tys, regs0, Nat.reduceEqDiff, Nat.reduceAdd, Nat.reduceLeDiff, Nat.reduceLT, Nat.reduceMul, Int.natCast_one, Int.natCast_zero, Int.reduceEq, Int.reduceLT, Int.reduceLE, Int.reduceAdd, Int.reduceSub, Int.reduceToNat, UInt8.reduceToNat, Go.IntWalk.i64_in, puV2, puV1, sEachP_eq, *]))
  all_goals (refine Done.now ⟨?_, rfl⟩; simp_all [valueB])
def puV3 : Pures := putP 82 (sStr partB) puV2
theorem puV3_dyn : isDyn puV3 = false := by simp only [puV3, go_sem, Nat.reduceEqDiff]
attribute [go_sem] puV3_dyn
theorem puV3_ok : PuOK Tryd.prog puV3 := .put (puV2_ok) (sStr_ok isPart_calls)
theorem room_part {s p : Bytes} {c : UInt8} (hs : s.length ≤ Room) {i : Nat} (h : (splitB c s)[i]? = some p) : p.length ≤ Room := Nat.le_trans (splitB_mem s p (List.mem_of_getElem? h)) hs
theorem sSplit_room (s : Bytes) (c : UInt8) (h : s.length ≤ Room) : sSplit [.str s, .str [c]] = some (.sl ((splitB c s).map encS) .unk) := by rw [sSplit_eq, if_pos h]
theorem isPath_calls (s : Bytes) (H : Heap) (hs : s.length ≤ Room) : ACalls Tryd.prog 57 [.str s] H fun x H' => x = .bool (pathB s) ∧ H' = H := by
  refine ACalls.of_code (X := { pure := puV3 }) puV3_ok Tryd.func57 (by kernel_rfl) rfl (by kernel_rfl) (Nat.le_of_ble_eq_true rfl) ?_
  simp -implicitDefEqProofs only [go_sem, tys, regs0, Nat.reduceEqDiff, Nat.reduceAdd, Nat.reduceLeDiff, Nat.reduceLT, Nat.reduceMul, Int.natCast_one, Int.natCast_zero, Int.reduceEq, Int.reduceLT, Int.reduceLE, Int.reduceAdd, Int.reduceSub, Int.reduceToNat, UInt8.reduceToNat, Tryd.f57, puV3, puV2, puV1, puK, sSplit_room s _ hs]
  have hlen : (splitB 47 s).length ≤ 1099511627777 := by rw [splitB_len]; have := List.count_le_length (a := (47 : UInt8)) (l := s); have : Room = 1099511627776 := rfl; omega
  refine aloop_intro (σ := Nat) (fun i => [(0, .str s), (6, .sl ((splitB 47 s).map encS) .unk), (7, .int .i64 (splitB 47 s).length), (8, .int .i64 i)]) (fun i G => G = H ∧ i ≤ (splitB 47 s).length ∧ ((splitB 47 s).take i).all partB = true) (fun i => (splitB 47 s).length - i) 0 ?_ ?_ ?_
  · simp -implicitDefEqProofs only [go_sem, tys, regs0, Nat.reduceEqDiff, Nat.reduceAdd, Nat.reduceLeDiff, Nat.reduceLT, Nat.reduceMul, Int.natCast_one, Int.natCast_zero, Int.reduceEq, Int.reduceLT, Int.reduceLE, Int.reduceAdd, Int.reduceSub, Int.reduceToNat, UInt8.reduceToNat]
  · simp
  · rintro i r G ⟨h0, h6, h7, h8, -⟩ ⟨rfl, hi, hp⟩
    simp -implicitDefEqProofs only [go_sem, tys, regs0, Nat.reduceEqDiff, Nat.reduceAdd, Nat.reduceLeDiff, Nat.reduceLT, Nat.reduceMul, Int.natCast_one, Int.natCast_zero, Int.reduceEq, Int.reduceLT, Int.reduceLE, Int.reduceAdd, Int.reduceSub, Int.reduceToNat, UInt8.reduceToNat, h0, h6, h7, h8]
    refine cnd_intro (fun h => ?_) (fun h => ?_)
    · simp only [decide_eq_true_eq] at h
      obtain ⟨c, hc⟩ : ∃ c, (splitB 47 s)[i]? = some c := ⟨(splitB 47 s)[i]'(by omega), List.getElem?_eq_getElem _⟩
      have hr := room_part hs hc
      simp -implicitDefEqProofs only [go_sem, tys, regs0, Nat.reduceEqDiff, Nat.reduceAdd, Nat.reduceLeDiff, Nat.reduceLT, Nat.reduceMul, Int.natCast_one, Int.natCast_zero, Int.reduceEq, Int.reduceLT, Int.reduceLE, Int.reduceAdd, Int.reduceSub, Int.reduceToNat, UInt8.reduceToNat, h0, h6, h7, h8, hc, encS, puV3, sStr_eq, hr]
      refine cnd_intro (fun hpc => ?_) (fun hpc => ?_) <;> simp only [Bool.not_eq_true', Bool.not_eq_false'] at hpc
      · simp -implicitDefEqProofs only [go_sem, tys, regs0, Nat.reduceEqDiff, Nat.reduceAdd, Nat.reduceLeDiff, Nat.reduceLT, Nat.reduceMul, Int.natCast_one, Int.natCast_zero, Int.reduceEq, Int.reduceLT, Int.reduceLE, Int.reduceAdd, Int.reduceSub, Int.reduceToNat, UInt8.reduceToNat, h0, h6, h7, h8, hc]
        refine Done.now ⟨?_, rfl⟩
        have : (splitB 47 s).all partB = false := by rw [List.all_eq_false]; exact ⟨c, List.mem_of_getElem? hc, by simp [hpc]⟩
        simp [pathB, this]
      · simp -implicitDefEqProofs (disch := omega) only [go_sem, tys, regs0, Nat.reduceEqDiff, Nat.reduceAdd, Nat.reduceLeDiff, Nat.reduceLT, Nat.reduceMul, Int.natCast_one, Int.natCast_zero, Int.reduceEq, Int.reduceLT, Int.reduceLE, Int.reduceAdd, Int.reduceSub, Int.reduceToNat, UInt8.reduceToNat, Go.IntWalk.i64_in, h0, h6, h7, h8, hc]
        refine Again.mk (i + 1) (by simp -implicitDefEqProofs only [go_sem, tys, regs0, Nat.reduceEqDiff, Nat.reduceAdd, Nat.reduceLeDiff, Nat.reduceLT, Nat.reduceMul, Int.natCast_one, Int.natCast_zero, Int.reduceEq, Int.reduceLT, Int.reduceLE, Int.reduceAdd, Int.reduceSub, Int.reduceToNat, UInt8.reduceToNat, h0, h6, h7, h8]; exact rfl) ⟨rfl, by omega, ?_⟩ (by omega)
        rw [List.take_add_one, hc]
        simp [List.all_append, hp, hpc]
    · simp only [decide_eq_false_iff_not] at h
      have e : i = (splitB 47 s).length := by omega
      subst e
      rw [List.take_length] at hp
      simp -implicitDefEqProofs only [go_sem, tys, regs0, Nat.reduceEqDiff, Nat.reduceAdd, Nat.reduceLeDiff, Nat.reduceLT, Nat.reduceMul, Int.natCast_one, Int.natCast_zero, Int.reduceEq, Int.reduceLT, Int.reduceLE, Int.reduceAdd, Int.reduceSub, Int.reduceToNat, UInt8.reduceToNat, h0, h6, h7, h8]
      exact Done.now ⟨by simp [pathB, hp], rfl⟩
end Go.Proofs

/- Walks: the reference's names, paths, values; what has the form of a sum. -/
namespace Go.Proofs
open Go Go.Abs
set_option linter.unusedSimpArgs false
set_option linter.unusedVariables false
theorem name_iff (s : Bytes) (h : s ≠ []) : nameB s = (allB isNm s && isSm ((s.headD 0).toNat : Int) && decide ((s.length : Int) ≤ 40)) := by
  simp only [nameB, sEach, h, ne_eq, not_false_eq_true, decide_true, Bool.and_true]
  cases allB isNm s <;> cases isSm ((s.headD 0).toNat : Int) <;> simp
theorem rIsName_calls (s : Bytes) (H : Heap) (hs : s.length ≤ Room) : ACalls Tryd.prog 67 [.str s] H fun x H' => x = .bool (nameB s) ∧ H' = H := by
  have hR : Room = 1099511627776 := rfl
  rw [hR] at hs
  refine ACalls.of_code (X := { pure := puV3 }) puV3_ok Tryd.func67 (by kernel_rfl) rfl (by kernel_rfl) (Nat.le_of_ble_eq_true rfl) ?_
  simp -implicitDefEqProofs only [go_sem, tys, regs0, Nat.reduceEqDiff, Nat.reduceAdd, Nat.reduceLeDiff, Nat.reduceLT, Nat.reduceMul, Int.natCast_one, Int.natCast_zero, Int.reduceEq, Int.reduceLT, Int.reduceLE, Int.reduceAdd, Int.reduceSub, Int.reduceToNat, UInt8.reduceToNat, Tryd.f67]
  refine aloop_intro (σ := Nat) (fun i => [(0, .str s), (7, .int .i64 s.length), (8, .int .i64 i)]) (fun i G => G = H ∧ i ≤ s.length ∧ allB isNm (s.take i) = true ∧ (0 < i → isSm ((s.headD 0).toNat : Int) = true)) (fun i => s.length - i) 0 ?_ ?_ ?_
  · simp -implicitDefEqProofs only [go_sem, tys, regs0, Nat.reduceEqDiff, Nat.reduceAdd, Nat.reduceLeDiff, Nat.reduceLT, Nat.reduceMul, Int.natCast_one, Int.natCast_zero, Int.reduceEq, Int.reduceLT, Int.reduceLE, Int.reduceAdd, Int.reduceSub, Int.reduceToNat, UInt8.reduceToNat]
  · simp [allB]
  · intro i r G hv hI
    have h0 := hv.1
    have h7 := hv.2.1
    have h8 := hv.2.2.1
    have hG := hI.1.symm
    have hi := hI.2.1
    have hp := hI.2.2.1
    have hh := hI.2.2.2
    clear hv hI
    subst hG
    simp -implicitDefEqProofs only [go_sem, tys, regs0, Nat.reduceEqDiff, Nat.reduceAdd, Nat.reduceLeDiff, Nat.reduceLT, Nat.reduceMul, Int.natCast_one, Int.natCast_zero, Int.reduceEq, Int.reduceLT, Int.reduceLE, Int.reduceAdd, Int.reduceSub, Int.reduceToNat, UInt8.reduceToNat, h0, h7, h8]
    refine cnd_intro (fun h => ?_) (fun h => ?_)
    · simp only [decide_eq_true_eq] at h
      obtain ⟨c, hc⟩ : ∃ c, s[i]? = some c := ⟨s[i]'(by omega), List.getElem?_eq_getElem _⟩
      have hn := not_nil_of hc
      have hsm : i = 0 → s.headD 0 = c := fun e => by subst e; exact head_of hc
      have bad0 : i = 0 → isSm (c.toNat : Int) = false → nameB s = false := fun e1 e2 => by rw [name_iff s hn, hsm e1, e2]; simp
      have bad1 : isNm (c.toNat : Int) = false → nameB s = false := fun e => by rw [nameB, sEach_false hc e]; rfl
      have good : (i = 0 → isSm (c.toNat : Int) = true) → isNm (c.toNat : Int) = true → allB isNm (s.take (i + 1)) = true ∧ (0 < i + 1 → isSm ((s.headD 0).toNat : Int) = true) := fun e1 e2 =>
        ⟨allB_succ hp hc e2, fun _ => by
          rcases Nat.eq_zero_or_pos i with e | e
          · rw [hsm e]; exact e1 e
          · exact hh e⟩
      clear hp hsm hh
      generalize hcn : (c.toNat : Int) = k at *
      simp -implicitDefEqProofs only [go_sem, tys, regs0, Nat.reduceEqDiff, Nat.reduceAdd, Nat.reduceLeDiff, Nat.reduceLT, Nat.reduceMul, Int.natCast_one, Int.natCast_zero, Int.reduceEq, Int.reduceLT, Int.reduceLE, Int.reduceAdd, Int.reduceSub, Int.reduceToNat, UInt8.reduceToNat, h0, h7, h8, hc, hcn]
      clear hc
      repeat' (first | (with_reducible refine gd_intro (fun h => ?_) (fun h => ?_) <;> first | (exact absurd h (by decide)) | (simp at h; done) | simp -implicitDefEqProofs (disch := omega) only [go_sem, tys, regs0, Nat.reduceEqDiff, Nat.reduceAdd, Nat.reduceLeDiff, Nat.reduceLT, Nat.reduceMul, Int.natCast_one, Int.natCast_zero, Int.reduceEq, Int.reduceLT, Int.reduceLE, Int.reduceAdd, Int.reduceSub, Int.reduceToNat, UInt8.reduceToNat, Go.IntWalk.i64_in, *]) | (with_reducible refine cnd_intro (fun h => ?_) (fun h => ?_) <;> first | (exact absurd h (by decide)) | (simp at h; done) | simp -implicitDefEqProofs (disch := omega) only [go_sem, tys, regs0, Nat.reduceEqDiff, Nat.reduceAdd, Nat.reduceLeDiff, Nat.reduceLT, Nat.reduceMul, Int.natCast_one, Int.natCast_zero, Int.reduceEq, Int.reduceLT, Int.reduceLE, Int.reduceAdd, Int.reduceSub, Int.reduceToNat, UInt8.reduceToNat, Go.IntWalk.i64_in, *]))
      all_goals first
        | (refine Done.now ⟨?_, rfl⟩
           simp only [decide_eq_true_eq, decide_eq_false_iff_not, Bool.not_eq_true', Bool.not_eq_false', Decidable.not_not, Int.not_lt, Int.not_le, ne_eq] at *
           first
            | (rw [bad0 (by omega) (by simp [isSm]; omega)]; done)
            | (rw [bad1 (by simp [isNm, isSm, isDg]; omega)]; done))
        | (simp only [decide_eq_true_eq, decide_eq_false_iff_not, Bool.not_eq_true', Bool.not_eq_false', Decidable.not_not, Int.not_lt, Int.not_le, ne_eq] at *
           exact Again.mk (i + 1) (by simp -implicitDefEqProofs only [go_sem, tys, regs0, Nat.reduceEqDiff, Nat.reduceAdd, Nat.reduceLeDiff, Nat.reduceLT, Nat.reduceMul, Int.natCast_one, Int.natCast_zero, Int.reduceEq, Int.reduceLT, Int.reduceLE, Int.reduceAdd, Int.reduceSub, Int.reduceToNat, UInt8.reduceToNat, h0, h7, h8]; exact rfl) ⟨rfl, by omega, good (by simp [isSm]; omega) (by simp [isNm, isSm, isDg]; omega)⟩ (by omega))
    · simp only [decide_eq_false_iff_not] at h
      have e : i = s.length := by omega
      subst e
      rw [List.take_length] at hp
      simp -implicitDefEqProofs only [go_sem, tys, regs0, Nat.reduceEqDiff, Nat.reduceAdd, Nat.reduceLeDiff, Nat.reduceLT, Nat.reduceMul, Int.natCast_one, Int.natCast_zero, Int.reduceEq, Int.reduceLT, Int.reduceLE, Int.reduceAdd, Int.reduceSub, Int.reduceToNat, UInt8.reduceToNat, h0, h7, h8]
      repeat' (first | (with_reducible refine gd_intro (fun h => ?_) (fun h => ?_) <;> first | (exact absurd h (by decide)) | (simp at h; done) | simp -implicitDefEqProofs (disch := omega) only [go_sem, tys, regs0, Nat.reduceEqDiff, Nat.reduceAdd, Nat.reduceLeDiff, Nat.reduceLT, Nat.reduceMul, Int.natCast_one, Int.natCast_zero, Int.reduceEq, Int.reduceLT, Int.reduceLE, Int.reduceAdd, Int.reduceSub, Int.reduceToNat, UInt8.reduceToNat, Go.IntWalk.i64_in, *]) | (with_reducible refine cnd_intro (fun h => ?_) (fun h => ?_) <;> first | (exact absurd h (by decide)) | (simp at h; done) | simp -implicitDefEqProofs (disch := omega) only [go_sem, tys, regs0, Nat.reduceEqDiff, Nat.reduceAdd, Nat.reduceLeDiff, Nat.reduceLT, Nat.reduceMul, Int.natCast_one, Int.natCast_zero, Int.reduceEq, Int.reduceLT, Int.reduceLE, Int.reduceAdd, Int.reduceSub, Int.reduceToNat, UInt8.reduceToNat, Go.IntWalk.i64_in, *]))
      all_goals refine Done.now ⟨?_, rfl⟩
      all_goals simp only [decide_eq_true_eq, decide_eq_false_iff_not, Bool.not_eq_true', Bool.not_eq_false', Decidable.not_not, Int.not_lt, Int.not_le, ne_eq] at *
      · cases s with
        | nil => simp at hR h
        | cons b l => rw [name_iff _ (by simp), hp, hh (by simp)]; simp
      · have : s = [] := by simpa using h
        subst this; rfl
theorem rIsPart_calls (s : Bytes) (H : Heap) (hs : s.length ≤ Room) : ACalls Tryd.prog 88 [.str s] H fun x H' => x = .bool (partB s) ∧ H' = H := by
  have hR : Room = 1099511627776 := rfl
  rw [hR] at hs
  clear hR
  refine ACalls.of_code (X := { pure := puV3 }) puV3_ok Tryd.func88 (by kernel_rfl) rfl (by kernel_rfl) (Nat.le_of_ble_eq_true rfl) ?_
  simp -implicitDefEqProofs only [go_sem, tys, regs0, Nat.reduceEqDiff, Nat.reduceAdd, Nat.reduceLeDiff, Nat.reduceLT, Nat.reduceMul, Int.natCast_one, Int.natCast_zero, Int.reduceEq, Int.reduceLT, Int.reduceLE, Int.reduceAdd, Int.reduceSub, Int.reduceToNat, UInt8.reduceToNat, Tryd.f88]
  refine aloop_intro (σ := Nat) (fun i => [(0, .str s), (6, .int .i64 s.length), (7, .int .i64 i)]) (fun i G => G = H ∧ i ≤ s.length ∧ allB isPt (s.take i) = true) (fun i => s.length - i) 0 ?_ ?_ ?_
  · simp -implicitDefEqProofs only [go_sem, tys, regs0, Nat.reduceEqDiff, Nat.reduceAdd, Nat.reduceLeDiff, Nat.reduceLT, Nat.reduceMul, Int.natCast_one, Int.natCast_zero, Int.reduceEq, Int.reduceLT, Int.reduceLE, Int.reduceAdd, Int.reduceSub, Int.reduceToNat, UInt8.reduceToNat]
  · simp [allB]
  · intro i r G hv hI
    have h0 := hv.1
    have h7 := hv.2.1
    have h8 := hv.2.2.1
    have hG := hI.1.symm
    have hi := hI.2.1
    have hp := hI.2.2
    clear hv hI
    subst hG
    simp -implicitDefEqProofs only [go_sem, tys, regs0, Nat.reduceEqDiff, Nat.reduceAdd, Nat.reduceLeDiff, Nat.reduceLT, Nat.reduceMul, Int.natCast_one, Int.natCast_zero, Int.reduceEq, Int.reduceLT, Int.reduceLE, Int.reduceAdd, Int.reduceSub, Int.reduceToNat, UInt8.reduceToNat, h0, h7, h8]
    refine cnd_intro (fun h => ?_) (fun h => ?_)
    · simp only [decide_eq_true_eq] at h
      obtain ⟨c, hc⟩ : ∃ c, s[i]? = some c := ⟨s[i]'(by omega), List.getElem?_eq_getElem _⟩
      have bad1 : isPt (c.toNat : Int) = false → partB s = false := fun e => by simp [partB, sEach, allB_false hc e, not_nil_of hc]
      have good : isPt (c.toNat : Int) = true → allB isPt (s.take (i + 1)) = true := fun e2 => allB_succ hp hc e2
      clear hp
      generalize hcn : (c.toNat : Int) = k at *
      simp -implicitDefEqProofs only [go_sem, tys, regs0, Nat.reduceEqDiff, Nat.reduceAdd, Nat.reduceLeDiff, Nat.reduceLT, Nat.reduceMul, Int.natCast_one, Int.natCast_zero, Int.reduceEq, Int.reduceLT, Int.reduceLE, Int.reduceAdd, Int.reduceSub, Int.reduceToNat, UInt8.reduceToNat, h0, h7, h8, hc, hcn]
      repeat' (first | (with_reducible refine gd_intro (fun h => ?_) (fun h => ?_) <;> first | (exact absurd h (by decide)) | (simp at h; done) | simp -implicitDefEqProofs (disch := omega) only [go_sem, tys, regs0, Nat.reduceEqDiff, Nat.reduceAdd, Nat.reduceLeDiff, Nat.reduceLT, Nat.reduceMul, Int.natCast_one, Int.natCast_zero, Int.reduceEq, Int.reduceLT, Int.reduceLE, Int.reduceAdd, Int.reduceSub, Int.reduceToNat, UInt8.reduceToNat, Go.IntWalk.i64_in, *]) | (with_reducible refine cnd_intro (fun h => ?_) (fun h => ?_) <;> first | (exact absurd h (by decide)) | (simp at h; done) | simp -implicitDefEqProofs (disch := omega) only [go_sem, tys, regs0, Nat.reduceEqDiff, Nat.reduceAdd, Nat.reduceLeDiff, Nat.reduceLT, Nat.reduceMul, Int.natCast_one, Int.natCast_zero, Int.reduceEq, Int.reduceLT, Int.reduceLE, Int.reduceAdd, Int.reduceSub, Int.reduceToNat, UInt8.reduceToNat, Go.IntWalk.i64_in, *]))
      all_goals first
        | (refine Done.now ⟨?_, rfl⟩
           simp only [decide_eq_true_eq, decide_eq_false_iff_not, Bool.not_eq_true', Bool.not_eq_false', Decidable.not_not, Int.not_lt, Int.not_le, ne_eq] at *
           rw [bad1 (by simp [isPt, isSm, isDg]; omega)]; done)
        | (simp only [decide_eq_true_eq, decide_eq_false_iff_not, Bool.not_eq_true', Bool.not_eq_false', Decidable.not_not, Int.not_lt, Int.not_le, ne_eq] at *
           exact Again.mk (i + 1) (by simp -implicitDefEqProofs only [go_sem, tys, regs0, Nat.reduceEqDiff, Nat.reduceAdd, Nat.reduceLeDiff, Nat.reduceLT, Nat.reduceMul, Int.natCast_one, Int.natCast_zero, Int.reduceEq, Int.reduceLT, Int.reduceLE, Int.reduceAdd, Int.reduceSub, Int.reduceToNat, UInt8.reduceToNat, h0, h7, h8]; exact rfl) ⟨rfl, by omega, good (by simp [isPt, isSm, isDg]; omega)⟩ (by omega))
    · simp only [decide_eq_false_iff_not] at h
      have e : i = s.length := by omega
      subst e
      rw [List.take_length] at hp
      simp -implicitDefEqProofs only [go_sem, tys, regs0, Nat.reduceEqDiff, Nat.reduceAdd, Nat.reduceLeDiff, Nat.reduceLT, Nat.reduceMul, Int.natCast_one, Int.natCast_zero, Int.reduceEq, Int.reduceLT, Int.reduceLE, Int.reduceAdd, Int.reduceSub, Int.reduceToNat, UInt8.reduceToNat, h0, h7, h8]
      repeat' (first | (with_reducible refine gd_intro (fun h => ?_) (fun h => ?_) <;> first | (exact absurd h (by decide)) | (simp at h; done) | simp -implicitDefEqProofs (disch := omega) only [go_sem, tys, regs0, Nat.reduceEqDiff, Nat.reduceAdd, Nat.reduceLeDiff, Nat.reduceLT, Nat.reduceMul, Int.natCast_one, Int.natCast_zero, Int.reduceEq, Int.reduceLT, Int.reduceLE, Int.reduceAdd, Int.reduceSub, Int.reduceToNat, UInt8.reduceToNat, Go.IntWalk.i64_in, *]) | (with_reducible refine cnd_intro (fun h => ?_) (fun h => ?_) <;> first | (exact absurd h (by decide)) | (simp at h; done) | simp -implicitDefEqProofs (disch := omega) only [go_sem, tys, regs0, Nat.reduceEqDiff, Nat.reduceAdd, Nat.reduceLeDiff, Nat.reduceLT, Nat.reduceMul, Int.natCast_one, Int.natCast_zero, Int.reduceEq, Int.reduceLT, Int.reduceLE, Int.reduceAdd, Int.reduceSub, Int.reduceToNat, UInt8.reduceToNat, Go.IntWalk.i64_in, *]))
      all_goals refine Done.now ⟨?_, rfl⟩
      all_goals try simp only [decide_eq_true_eq, decide_eq_false_iff_not, Bool.not_eq_true', Bool.not_eq_false', Decidable.not_not, Int.not_lt, Int.not_le, ne_eq] at *
      all_goals (by_cases hn : s = [] <;> simp_all [partB, sEach] <;> omega)

theorem rIsValue_calls (s : Bytes) (H : Heap) (hs : s.length ≤ Room) : ACalls Tryd.prog 68 [.str s] H fun x H' => x = .bool (valueB s) ∧ H' = H := by
  have hR : Room = 1099511627776 := rfl
  rw [hR] at hs
  clear hR
  refine ACalls.of_code (X := { pure := puV3 }) puV3_ok Tryd.func68 (by kernel_rfl) rfl (by kernel_rfl) (Nat.le_of_ble_eq_true rfl) ?_
  simp -implicitDefEqProofs only [go_sem, tys, regs0, Nat.reduceEqDiff, Nat.reduceAdd, Nat.reduceLeDiff, Nat.reduceLT, Nat.reduceMul, Int.natCast_one, Int.natCast_zero, Int.reduceEq, Int.reduceLT, Int.reduceLE, Int.reduceAdd, Int.reduceSub, Int.reduceToNat, UInt8.reduceToNat, Tryd.f68]
  refine aloop_intro (σ := Nat) (fun i => [(0, .str s), (5, .int .i64 s.length), (6, .int .i64 i)]) (fun i G => G = H ∧ i ≤ s.length ∧ allB isVl (s.take i) = true) (fun i => s.length - i) 0 ?_ ?_ ?_
  · simp -implicitDefEqProofs only [go_sem, tys, regs0, Nat.reduceEqDiff, Nat.reduceAdd, Nat.reduceLeDiff, Nat.reduceLT, Nat.reduceMul, Int.natCast_one, Int.natCast_zero, Int.reduceEq, Int.reduceLT, Int.reduceLE, Int.reduceAdd, Int.reduceSub, Int.reduceToNat, UInt8.reduceToNat]
  · simp [allB]
  · intro i r G hv hI
    have h0 := hv.1
    have h7 := hv.2.1
    have h8 := hv.2.2.1
    have hG := hI.1.symm
    have hi := hI.2.1
    have hp := hI.2.2
    clear hv hI
    subst hG
    simp -implicitDefEqProofs only [go_sem, tys, regs0, Nat.reduceEqDiff, Nat.reduceAdd, Nat.reduceLeDiff, Nat.reduceLT, Nat.reduceMul, Int.natCast_one, Int.natCast_zero, Int.reduceEq, Int.reduceLT, Int.reduceLE, Int.reduceAdd, Int.reduceSub, Int.reduceToNat, UInt8.reduceToNat, h0, h7, h8]
    refine cnd_intro (fun h => ?_) (fun h => ?_)
    · simp only [decide_eq_true_eq] at h
      obtain ⟨c, hc⟩ : ∃ c, s[i]? = some c := ⟨s[i]'(by omega), List.getElem?_eq_getElem _⟩
      have bad1 : isVl (c.toNat : Int) = false → valueB s = false := fun e => by simp [valueB, sEach, allB_false hc e, not_nil_of hc]
      have good : isVl (c.toNat : Int) = true → allB isVl (s.take (i + 1)) = true := fun e2 => allB_succ hp hc e2
      clear hp
      generalize hcn : (c.toNat : Int) = k at *
      simp -implicitDefEqProofs only [go_sem, tys, regs0, Nat.reduceEqDiff, Nat.reduceAdd, Nat.reduceLeDiff, Nat.reduceLT, Nat.reduceMul, Int.natCast_one, Int.natCast_zero, Int.reduceEq, Int.reduceLT, Int.reduceLE, Int.reduceAdd, Int.reduceSub, Int.reduceToNat, UInt8.reduceToNat, h0, h7, h8, hc, hcn]
      repeat' (first | (with_reducible refine gd_intro (fun h => ?_) (fun h => ?_) <;> first | (exact absurd h (by decide)) | (simp at h; done) | simp -implicitDefEqProofs (disch := omega) only [go_sem, tys, regs0, Nat.reduceEqDiff, Nat.reduceAdd, Nat.reduceLeDiff, Nat.reduceLT, Nat.reduceMul, Int.natCast_one, Int.natCast_zero, Int.reduceEq, Int.reduceLT, Int.reduceLE, Int.reduceAdd, Int.reduceSub, Int.reduceToNat, UInt8.reduceToNat, Go.IntWalk.i64_in, *]) | (with_reducible refine cnd_intro (fun h => ?_) (fun h => ?_) <;> first | (exact absurd h (by decide)) | (simp at h; done) | simp -implicitDefEqProofs (disch := omega) only [go_sem, tys, regs0, Nat.reduceEqDiff, Nat.reduceAdd, Nat.reduceLeDiff, Nat.reduceLT, Nat.reduceMul, Int.natCast_one, Int.natCast_zero, Int.reduceEq, Int.reduceLT, Int.reduceLE, Int.reduceAdd, Int.reduceSub, Int.reduceToNat, UInt8.reduceToNat, Go.IntWalk.i64_in, *]))
      all_goals first
        | (refine Done.now ⟨?_, rfl⟩
           simp only [decide_eq_true_eq, decide_eq_false_iff_not, Bool.not_eq_true', Bool.not_eq_false', Decidable.not_not, Int.not_lt, Int.not_le, ne_eq] at *
           rw [bad1 (by simp [isVl]; omega)]; done)
        | (simp only [decide_eq_true_eq, decide_eq_false_iff_not, Bool.not_eq_true', Bool.not_eq_false', Decidable.not_not, Int.not_lt, Int.not_le, ne_eq] at *
           exact Again.mk (i + 1) (by simp -implicitDefEqProofs only [go_sem, tys, regs0, Nat.reduceEqDiff, Nat.reduceAdd, Nat.reduceLeDiff, Nat.reduceLT, Nat.reduceMul, Int.natCast_one, Int.natCast_zero, Int.reduceEq, Int.reduceLT, Int.reduceLE, Int.reduceAdd, Int.reduceSub, Int.reduceToNat, UInt8.reduceToNat, h0, h7, h8]; exact rfl) ⟨rfl, by omega, good (by simp [isVl]; omega)⟩ (by omega))
    · simp only [decide_eq_false_iff_not] at h
      have e : i = s.length := by omega
      subst e
      rw [List.take_length] at hp
      simp -implicitDefEqProofs only [go_sem, tys, regs0, Nat.reduceEqDiff, Nat.reduceAdd, Nat.reduceLeDiff, Nat.reduceLT, Nat.reduceMul, Int.natCast_one, Int.natCast_zero, Int.reduceEq, Int.reduceLT, Int.reduceLE, Int.reduceAdd, Int.reduceSub, Int.reduceToNat, UInt8.reduceToNat, h0, h7, h8]
      repeat' (first | (with_reducible refine gd_intro (fun h => ?_) (fun h => ?_) <;> first | (exact absurd h (by decide)) | (simp at h; done) | simp -implicitDefEqProofs (disch := omega) only [go_sem, tys, regs0, Nat.reduceEqDiff, Nat.reduceAdd, Nat.reduceLeDiff, Nat.reduceLT, Nat.reduceMul, Int.natCast_one, Int.natCast_zero, Int.reduceEq, Int.reduceLT, Int.reduceLE, Int.reduceAdd, Int.reduceSub, Int.reduceToNat, UInt8.reduceToNat, Go.IntWalk.i64_in, *]) | (with_reducible refine cnd_intro (fun h => ?_) (fun h => ?_) <;> first | (exact absurd h (by decide)) | (simp at h; done) | simp -implicitDefEqProofs (disch := omega) only [go_sem, tys, regs0, Nat.reduceEqDiff, Nat.reduceAdd, Nat.reduceLeDiff, Nat.reduceLT, Nat.reduceMul, Int.natCast_one, Int.natCast_zero, Int.reduceEq, Int.reduceLT, Int.reduceLE, Int.reduceAdd, Int.reduceSub, Int.reduceToNat, UInt8.reduceToNat, Go.IntWalk.i64_in, *]))
      all_goals refine Done.now ⟨?_, rfl⟩
      all_goals try simp only [decide_eq_true_eq, decide_eq_false_iff_not, Bool.not_eq_true', Bool.not_eq_false', Decidable.not_not, Int.not_lt, Int.not_le, ne_eq] at *
      all_goals (by_cases hn : s = [] <;> simp_all [valueB, sEach] <;> omega)

def puR1 : Pures := putP 88 (sStr partB) (putP 68 (sStr valueB) (putP 67 (sStr nameB) puV3))
theorem puR1_dyn : isDyn puR1 = false := by simp only [puR1, go_sem, Nat.reduceEqDiff]
attribute [go_sem] puR1_dyn
theorem puR1_ok : PuOK Tryd.prog puR1 := .put (.put (.put (puV3_ok) (sStr_ok rIsName_calls)) (sStr_ok rIsValue_calls)) (sStr_ok rIsPart_calls)
theorem rIsPath_calls (s : Bytes) (H : Heap) (hs : s.length ≤ Room) : ACalls Tryd.prog 76 [.str s] H fun x H' => x = .bool (pathB s) ∧ H' = H := by
  refine ACalls.of_code (X := { pure := puR1 }) puR1_ok Tryd.func76 (by kernel_rfl) rfl (by kernel_rfl) (Nat.le_of_ble_eq_true rfl) ?_
  simp -implicitDefEqProofs only [go_sem, tys, regs0, Nat.reduceEqDiff, Nat.reduceAdd, Nat.reduceLeDiff, Nat.reduceLT, Nat.reduceMul, Int.natCast_one, Int.natCast_zero, Int.reduceEq, Int.reduceLT, Int.reduceLE, Int.reduceAdd, Int.reduceSub, Int.reduceToNat, UInt8.reduceToNat, Tryd.f76, puR1, puV3, puV2, puV1, puK, sSplit_room s _ hs]
  have hlen : (splitB 47 s).length ≤ 1099511627777 := by rw [splitB_len]; have := List.count_le_length (a := (47 : UInt8)) (l := s); have : Room = 1099511627776 := rfl; omega
  refine aloop_intro (σ := Nat) (fun i => [(0, .str s), (6, .sl ((splitB 47 s).map encS) .unk), (7, .int .i64 (splitB 47 s).length), (8, .int .i64 i)]) (fun i G => G = H ∧ i ≤ (splitB 47 s).length ∧ ((splitB 47 s).take i).all partB = true) (fun i => (splitB 47 s).length - i) 0 ?_ ?_ ?_
  · simp -implicitDefEqProofs only [go_sem, tys, regs0, Nat.reduceEqDiff, Nat.reduceAdd, Nat.reduceLeDiff, Nat.reduceLT, Nat.reduceMul, Int.natCast_one, Int.natCast_zero, Int.reduceEq, Int.reduceLT, Int.reduceLE, Int.reduceAdd, Int.reduceSub, Int.reduceToNat, UInt8.reduceToNat]
  · simp
  · intro i r G hv hI
    have h0 := hv.1
    have h6 := hv.2.1
    have h7 := hv.2.2.1
    have h8 := hv.2.2.2.1
    have hG := hI.1.symm
    have hi := hI.2.1
    have hp := hI.2.2
    clear hv hI
    subst hG
    simp -implicitDefEqProofs only [go_sem, tys, regs0, Nat.reduceEqDiff, Nat.reduceAdd, Nat.reduceLeDiff, Nat.reduceLT, Nat.reduceMul, Int.natCast_one, Int.natCast_zero, Int.reduceEq, Int.reduceLT, Int.reduceLE, Int.reduceAdd, Int.reduceSub, Int.reduceToNat, UInt8.reduceToNat, h0, h6, h7, h8]
    refine cnd_intro (fun h => ?_) (fun h => ?_)
    · simp only [decide_eq_true_eq] at h
      obtain ⟨c, hc⟩ : ∃ c, (splitB 47 s)[i]? = some c := ⟨(splitB 47 s)[i]'(by omega), List.getElem?_eq_getElem _⟩
      have hr := room_part hs hc
      simp -implicitDefEqProofs only [go_sem, tys, regs0, Nat.reduceEqDiff, Nat.reduceAdd, Nat.reduceLeDiff, Nat.reduceLT, Nat.reduceMul, Int.natCast_one, Int.natCast_zero, Int.reduceEq, Int.reduceLT, Int.reduceLE, Int.reduceAdd, Int.reduceSub, Int.reduceToNat, UInt8.reduceToNat, h0, h6, h7, h8, hc, encS, puR1, sStr_eq, hr]
      refine cnd_intro (fun hpc => ?_) (fun hpc => ?_) <;> simp only [Bool.not_eq_true', Bool.not_eq_false'] at hpc
      · simp -implicitDefEqProofs only [go_sem, tys, regs0, Nat.reduceEqDiff, Nat.reduceAdd, Nat.reduceLeDiff, Nat.reduceLT, Nat.reduceMul, Int.natCast_one, Int.natCast_zero, Int.reduceEq, Int.reduceLT, Int.reduceLE, Int.reduceAdd, Int.reduceSub, Int.reduceToNat, UInt8.reduceToNat, h0, h6, h7, h8, hc]
        refine Done.now ⟨?_, rfl⟩
        have : (splitB 47 s).all partB = false := by rw [List.all_eq_false]; exact ⟨c, List.mem_of_getElem? hc, by simp [hpc]⟩
        simp [pathB, this]
      · simp -implicitDefEqProofs (disch := omega) only [go_sem, tys, regs0, Nat.reduceEqDiff, Nat.reduceAdd, Nat.reduceLeDiff, Nat.reduceLT, Nat.reduceMul, Int.natCast_one, Int.natCast_zero, Int.reduceEq, Int.reduceLT, Int.reduceLE, Int.reduceAdd, Int.reduceSub, Int.reduceToNat, UInt8.reduceToNat, Go.IntWalk.i64_in, h0, h6, h7, h8, hc]
        refine Again.mk (i + 1) (by simp -implicitDefEqProofs only [go_sem, tys, regs0, Nat.reduceEqDiff, Nat.reduceAdd, Nat.reduceLeDiff, Nat.reduceLT, Nat.reduceMul, Int.natCast_one, Int.natCast_zero, Int.reduceEq, Int.reduceLT, Int.reduceLE, Int.reduceAdd, Int.reduceSub, Int.reduceToNat, UInt8.reduceToNat, h0, h6, h7, h8]; exact rfl) ⟨rfl, by omega, ?_⟩ (by omega)
        rw [List.take_add_one, hc]
        simp [List.all_append, hp, hpc]
    · simp only [decide_eq_false_iff_not] at h
      have e : i = (splitB 47 s).length := by omega
      subst e
      rw [List.take_length] at hp
      simp -implicitDefEqProofs only [go_sem, tys, regs0, Nat.reduceEqDiff, Nat.reduceAdd, Nat.reduceLeDiff, Nat.reduceLT, Nat.reduceMul, Int.natCast_one, Int.natCast_zero, Int.reduceEq, Int.reduceLT, Int.reduceLE, Int.reduceAdd, Int.reduceSub, Int.reduceToNat, UInt8.reduceToNat, h0, h6, h7, h8]
      exact Done.now ⟨by simp [pathB, hp], rfl⟩
def puN : Pures := putP 76 (sStr pathB) (putP 57 (sStr pathB) (putP 15 (sStr nameB) (putP 81 (sStr valueB) puR1)))
theorem puN_dyn : isDyn puN = false := by simp only [puN, go_sem, Nat.reduceEqDiff]
attribute [go_sem] puN_dyn
theorem puN_ok : PuOK Tryd.prog puN := .put (.put (.put (.put (puR1_ok) (sStr_ok isValue_calls)) (sStr_ok isName_calls)) (sStr_ok isPath_calls)) (sStr_ok rIsPath_calls)
end Go.Proofs

/- Walks: sums, of the program and of the reference. -/
namespace Go.Proofs
open Go Go.Abs
set_option linter.unusedSimpArgs false
set_option linter.unusedVariables false
def encB (b : UInt8) : AV := .int .u8 b.toNat
/-! ### The reference's: the digits without zeros, and zeros before them -/
def sPow2 : List AV → Option AV := fn1 (.int .i64) fun n => if n = 16 then some (.bool true) else none
theorem sPow2_eq (n : Int) : sPow2 [.int .i64 n] = if n = 16 then some (.bool true) else none := rfl
def sTz : List AV → Option AV := fn1 (.int .u64) fun n => if n = 16 then some (.int .i64 4) else none
theorem sTz_eq (n : Int) : sTz [.int .u64 n] = if n = 16 then some (.int .i64 4) else none := rfl
def puS1 : Pures := puN
theorem puS1_dyn : isDyn puS1 = isDyn puN := rfl
attribute [go_sem] puS1_dyn
theorem puS1_ok : PuOK Tryd.prog puS1 := puN_ok
theorem pow4 (u k : Nat) (h : u < 16 ^ (k + 1)) : u / 16 < 16 ^ k := by
  rw [Nat.div_lt_iff_lt_mul (by omega), ← Nat.pow_succ]; exact h
end Go.Proofs

/- Walks: the reference's SumOf. -/
namespace Go.Proofs
open Go Go.Abs
set_option linter.unusedSimpArgs false
set_option linter.unusedVariables false
def preB (p s : Bytes) : Bool := decide (s.take p.length = p)
theorem preB_long {p s : Bytes} (h : s.length < p.length) : preB p s = false := by
  unfold preB
  rw [decide_eq_false_iff_not]
  intro e
  have := congrArg List.length e
  rw [List.length_take] at this
  omega
def sPre : List AV → Option AV := fn2 .str .str fun s p => some (.bool (preB p s))
theorem sPre_eq (s p : Bytes) : sPre [.str s, .str p] = some (.bool (preB p s)) := rfl
theorem sPre_ok {P : Program} {f : FuncId} (h : ∀ s p H, ACalls P f [.str s, .str p] H fun x H' => x = .bool (preB p s) ∧ H' = H) : ∀ xs v, sPre xs = some v → ∀ H, ACalls P f xs H fun x H' => x = v ∧ H' = H := by
  intro xs v hv H
  obtain ⟨x, y, p, q, rfl, h1, h2, h3⟩ := fn2_some hv
  cases h3
  cases Rd.str_some h1
  cases Rd.str_some h2
  exact h _ _ _
def puS2 : Pures := puS1
theorem puS2_dyn : isDyn puS2 = isDyn puS1 := rfl
attribute [go_sem] puS2_dyn
theorem puS2_ok : PuOK Tryd.prog puS2 := puS1_ok
def sMul : List AV → Option AV := fn2 (.int .u64) (.int .u64) fun a b => if a = 1 ∧ 0 ≤ b ∧ b ≤ 16 then some (.tup [.int .u64 0, .int .u64 b]) else none
theorem sMul_eq (a b : Int) : sMul [.int .u64 a, .int .u64 b] = if a = 1 ∧ 0 ≤ b ∧ b ≤ 16 then some (.tup [.int .u64 0, .int .u64 b]) else none := rfl
theorem sMul_ok {P : Program} {f : FuncId} (h : ∀ (k : Nat), k ≤ 16 → ∀ H, ACalls P f [.int .u64 1, .int .u64 k] H fun x H' => x = .tup [.int .u64 0, .int .u64 k] ∧ H' = H) : ∀ xs v, sMul xs = some v → ∀ H, ACalls P f xs H fun x H' => x = v ∧ H' = H := by
  intro xs v hv H
  obtain ⟨x, y, p, q, rfl, h1, h2, h3⟩ := fn2_some hv
  cases Rd.int_some h1
  cases Rd.int_some h2
  split at h3
  · rename_i hc
    obtain ⟨rfl, h0, h16⟩ := hc
    cases h3
    obtain ⟨k, rfl⟩ : ∃ k : Nat, q = k := ⟨q.toNat, by omega⟩
    exact h k (by omega) H
  · cases h3
def puS3 : Pures := puS2
theorem puS3_dyn : isDyn puS3 = isDyn puS2 := rfl
attribute [go_sem] puS3_dyn
theorem puS3_ok : PuOK Tryd.prog puS3 := puS2_ok
def puS4 : Pures := puS3
theorem puS4_dyn : isDyn puS4 = isDyn puS3 := rfl
attribute [go_sem] puS4_dyn
theorem puS4_ok : PuOK Tryd.prog puS4 := puS3_ok
theorem preB_ne (a : UInt8) (h : a ≠ 48) (l m : Bytes) : preB [48] ((a :: l).append m) = false := by
  unfold preB
  rw [decide_eq_false_iff_not]
  intro e
  have := congrArg List.head? e
  simp at this
  exact h this
theorem preB_eq48 (l : Bytes) : preB [48] (48 :: l) = true := by simp [preB]
theorem zeros (k : Nat) (h : k ≤ 64) : ((List.replicate 64 48 : Bytes).take k) = List.replicate k 48 := by rw [List.take_replicate, Nat.min_eq_left h]
def sFB : List AV → Option AV
  | [.sl [] .exact, .int .u64 u, .int .i64 b, .bool false, .bool false] => if 0 ≤ u ∧ u < 18446744073709551616 ∧ b = 16 then some (.tup [.sl [] .exact, .str (hexMin u.toNat)]) else none
  | _ => none
theorem sFB_eq (n : Nat) : sFB [.sl [] .exact, .int .u64 n, .int .i64 16, .bool false, .bool false] = if n < 18446744073709551616 then some (.tup [.sl [] .exact, .str (hexMin n)]) else none := by
  by_cases h : n < 18446744073709551616
  · have : (0 : Int) ≤ n ∧ (n : Int) < 18446744073709551616 ∧ (16 : Int) = 16 := by omega
    simp [sFB, h]
    omega
  · have : ¬ (n : Int) < 18446744073709551616 := by omega
    simp [sFB, h, this]
def puS5 : Pures := puS4
theorem puS5_dyn : isDyn puS5 = isDyn puS4 := rfl
attribute [go_sem] puS5_dyn
theorem puS5_ok : PuOK Tryd.prog puS5 := puS4_ok
def fitsU (u : Int) : Bool := decide (0 ≤ u) && decide (u < 18446744073709551616)
theorem fitsU_nat {n : Nat} (h : n < 18446744073709551616) : fitsU (n : Int) = true := by simp [fitsU]; omega
theorem fitsU_out {u : Int} (h : fitsU u = true) : 0 ≤ u ∧ u < 18446744073709551616 := by simpa [fitsU] using h
def sFU : List AV → Option AV := fn2 (.int .u64) (.int .i64) fun u b => if fitsU u = true ∧ b = 16 then some (.str (hexMin u.toNat)) else none
theorem sFU_eq0 (x y : Int) : sFU [.int .u64 x, .int .i64 y] = if fitsU x = true ∧ y = 16 then some (.str (hexMin x.toNat)) else none := by
  simp only [sFU, fn2_eq, Rd.int_eq, Option.bind_some]
theorem sFU_eq (n : Nat) (hn : n < 18446744073709551616) : sFU [.int .u64 n, .int .i64 16] = some (.str (hexMin n)) := by
  rw [sFU_eq0, if_pos ⟨fitsU_nat hn, rfl⟩, Int.toNat_natCast]
theorem sFU_ok {P : Program} {f : FuncId} (h : ∀ (n : Nat), n < 18446744073709551616 → ∀ H, ACalls P f [.int .u64 n, .int .i64 16] H fun x H' => x = .str (hexMin n) ∧ H' = H) : ∀ xs v, sFU xs = some v → ∀ H, ACalls P f xs H fun x H' => x = v ∧ H' = H := by
  intro xs v hv H
  obtain ⟨x, y, p, q, rfl, h1, h2, h3⟩ := fn2_some hv
  cases Rd.int_some h1
  cases Rd.int_some h2
  split at h3
  · rename_i hc
    obtain ⟨hf, rfl⟩ := hc
    obtain ⟨h0, h16⟩ := fitsU_out hf
    cases h3
    obtain ⟨k, rfl⟩ : ∃ k : Nat, p = k := ⟨p.toNat, by omega⟩
    exact h k (by omega) H
  · cases h3
def puS6 : Pures := puS5
theorem puS6_dyn : isDyn puS6 = isDyn puS5 := rfl
attribute [go_sem] puS6_dyn
theorem puS6_ok : PuOK Tryd.prog puS6 := puS5_ok
def sRep : List AV → Option AV := fn2 .str (.int .i64) fun s k => if s = [48] ∧ 0 ≤ k ∧ k ≤ 16 then some (.str (List.replicate k.toNat 48)) else none
theorem sRep_eq (k : Nat) (hk : k ≤ 16) : sRep [.str [48], .int .i64 k] = some (.str (List.replicate k 48)) := by
  have h : ([48] : Bytes) = [48] ∧ (0 : Int) ≤ k ∧ (k : Int) ≤ 16 := ⟨rfl, by omega, by omega⟩
  simp only [sRep, fn2_eq, Rd.int_eq, Rd.str_eq, Option.bind_some]
  rw [if_pos ⟨trivial, h.2⟩, Int.toNat_natCast]
def puS7 : Pures := puS6
theorem puS7_dyn : isDyn puS7 = isDyn puS6 := rfl
attribute [go_sem] puS7_dyn
theorem puS7_ok : PuOK Tryd.prog puS7 := puS6_ok
def sSum : List AV → Option AV := fn1 .str fun s => if s.length ≤ Room then some (.str (sumOf s)) else none
theorem sSum_eq (s : Bytes) : sSum [.str s] = if s.length ≤ Room then some (.str (sumOf s)) else none := rfl
theorem sSum_ok {P : Program} {f : FuncId} (h : ∀ s H, s.length ≤ Room → ACalls P f [.str s] H fun x H' => x = .str (sumOf s) ∧ H' = H) : ∀ xs v, sSum xs = some v → ∀ H, ACalls P f xs H fun x H' => x = v ∧ H' = H := by
  intro xs v hv H
  obtain ⟨x, s, rfl, h1, h2⟩ := fn1_some hv
  split at h2
  · cases h2
    cases Rd.str_some h1
    exact h s H ‹_›
  · cases h2
def puM : Pures := puN
theorem puM_dyn : isDyn puM = isDyn puN := rfl
attribute [go_sem] puM_dyn
theorem puM_ok : PuOK Tryd.prog puM := puN_ok
end Go.Proofs

/- Walks: strings.Builder. -/
namespace Go.Proofs
open Go Go.Abs
set_option linter.unusedSimpArgs false
set_option linter.unusedVariables false

/-- Bytes as cells of a slice. -/
def bcell (b : UInt8) : List AV := [.int .u8 b.toNat]
theorem bcell_len (l : Bytes) : Unif 1 (l.map bcell) := by
  intro c hc
  simp only [List.mem_map] at hc
  obtain ⟨b, _, rfl⟩ := hc
  rfl
abbrev bldP (b : Nat) : AV := .tptr 72 2 b
theorem noEscape_calls (T sz id : Nat) (H : Heap) : ACalls Tryd.prog 87 [.tptr T sz id] H fun y H' => y = .tptr T sz id ∧ H' = H :=
  ACalls.of_extern (e := Extern.AbiNoEscape.same) Tryd.func87 (by kernel_rfl) rfl (by kernel_rfl) (by kernel_rfl) fun C H w vs hv => by
    obtain ⟨v, rfl, h1⟩ := reprL_one hv
    exact ⟨v, Lib.run_noEscape (P := Tryd.prog) w v, h1⟩
theorem heap_put_id {H : Heap} {b : Nat} {o : AObj} (h : H b = some o) : H.put b o = H := by
  funext i
  unfold Heap.put
  split
  · rename_i e; subst e; exact h.symm
  · rfl
theorem _root_.Go.Abs.ACalls.next1 {P : Program} {f : FuncId} {args : List AV} {H H1 : Heap} {K : K1} {x : AV} (h : ACalls P f args H fun y H' => y = x ∧ H' = H1) (hK : K x H1) : ACalls P f args H K := by
  refine h.mono ?_
  rintro x H' ⟨rfl, rfl⟩
  exact hK
def addrOK (b : Nat) (p : AV) : Prop := p = .nilp ∨ p = bldP b
theorem copyCheck_calls {G : Heap} {b : Nat} {p buf : AV} (hp : addrOK b p) (h3 : G b = some (.cells [p, buf])) :
    ACalls Tryd.prog 73 [bldP b] G fun x G' => x = .tup [] ∧ G' = G.put b (.cells [bldP b, buf]) := by
  rcases hp with rfl | rfl
  · refine ACalls.of_code (X := { pure := pu0 }) pu0_ok Tryd.func73 (by kernel_rfl) rfl (by kernel_rfl) (Nat.le_of_ble_eq_true rfl) ?_
    simp -implicitDefEqProofs only [go_sem, tys, regs0, Nat.reduceEqDiff, Nat.reduceAdd, Nat.reduceLeDiff, Nat.reduceLT, Nat.reduceMul, Int.natCast_one, Int.natCast_zero, Int.reduceEq, Int.reduceLT, Int.reduceLE, Int.reduceAdd, Int.reduceSub, Int.reduceToNat, UInt8.reduceToNat, Tryd.f73, h3]
    refine (noEscape_calls _ _ _ _).pure_next _ ?_
    simp -implicitDefEqProofs only [go_sem, tys, regs0, Nat.reduceEqDiff, Nat.reduceAdd, Nat.reduceLeDiff, Nat.reduceLT, Nat.reduceMul, Int.natCast_one, Int.natCast_zero, Int.reduceEq, Int.reduceLT, Int.reduceLE, Int.reduceAdd, Int.reduceSub, Int.reduceToNat, UInt8.reduceToNat, h3]
    exact Done.now ⟨rfl, rfl⟩
  · refine ACalls.of_code (X := { pure := pu0 }) pu0_ok Tryd.func73 (by kernel_rfl) rfl (by kernel_rfl) (Nat.le_of_ble_eq_true rfl) ?_
    simp -implicitDefEqProofs only [go_sem, tys, regs0, Nat.reduceEqDiff, Nat.reduceAdd, Nat.reduceLeDiff, Nat.reduceLT, Nat.reduceMul, Int.natCast_one, Int.natCast_zero, Int.reduceEq, Int.reduceLT, Int.reduceLE, Int.reduceAdd, Int.reduceSub, Int.reduceToNat, UInt8.reduceToNat, Tryd.f73, h3]
    exact Done.now ⟨rfl, (heap_put_id h3).symm⟩
/-- The builder 'b' holds these bytes; 'H': what there is beside it. -/
def BufOK (g : Bool) (H G : Heap) (b : Nat) (buf : AV) (l : Bytes) : Prop := buf = .snil ∧ l = [] ∨ ∃ t, buf = .sl (l.map bcell) (.tok t 1 (some 5)) ∧ H t = none ∧ G t = some (.tail l.length) ∧ ¬ t = b ∧ (g = false → l ≠ [])
/-- .. 'g': it may have got room, and hold nothing. -/
def BldG (g : Bool) (H G : Heap) (b : Nat) (l : Bytes) : Prop := H.Sub G ∧ H b = none ∧ ∃ p buf, G b = some (.cells [p, buf]) ∧ addrOK b p ∧ BufOK g H G b buf l
abbrev BldOK (H G : Heap) (b : Nat) (l : Bytes) : Prop := BldG false H G b l
/-- What a builder's writing leaves of other objects. -/
def tokOf (G : Heap) (b : Nat) : Option Nat := match G b with
  | some (.cells [_, .sl _ (.tok t _ _)]) => some t
  | _ => none
def BKept (b : Nat) (G G' : Heap) : Prop := ∀ i o, G i = some o → ¬ i = b → tokOf G b ≠ some i → G' i = some o
theorem BldG.sub {g : Bool} {H G : Heap} {b : Nat} {l : Bytes} (h : BldG g H G b l) : H.Sub G := h.1
theorem BldG.tok {g : Bool} {H G : Heap} {b : Nat} {l : Bytes} (h : BldG g H G b l) {t : Nat} (ht : tokOf G b = some t) : H t = none := by
  obtain ⟨_, _, p, buf, h3, h4, h5⟩ := h
  unfold tokOf at ht
  rw [h3] at ht
  rcases h5 with ⟨rfl, -⟩ | ⟨t', rfl, h6, -⟩
  · cases ht
  · cases ht; exact h6
/-- Objects that stand beside stay. -/
theorem BldG.kept {g : Bool} {H G G' : Heap} {b : Nat} {l : Bytes} (h : BldG g H G b l) (hk : BKept b G G') {i : Nat} {o : AObj} (hi : H i = some o) : G' i = some o :=
  hk i o (h.1 i o hi) (fun e => by subst e; rw [h.2.1] at hi; cases hi) (fun e => by rw [h.tok e] at hi; cases hi)
theorem BldG.put {g : Bool} {H G : Heap} {b : Nat} {l : Bytes} (h : BldG g H G b l) {i : Nat} (hi : G i = none) (o : AObj) : BldG g H (G.put i o) b l := by
  obtain ⟨h1, h2, p, buf, h3, h4, h5⟩ := h
  have hH : H i = none := by
    cases hh : H i with
    | none => rfl
    | some x => have := h1 i x hh; rw [hi] at this; cases this
  have hb : ¬ b = i := fun e => by subst e; rw [h3] at hi; cases hi
  refine ⟨h1.put' hH o, h2, p, buf, by rw [put_ne _ _ _ _ hb]; exact h3, h4, ?_⟩
  rcases h5 with h5 | ⟨t, t1, t2, t3, t4, t9⟩
  · exact .inl h5
  · have ht : ¬ t = i := fun e => by subst e; rw [t3] at hi; cases hi
    exact .inr ⟨t, t1, t2, by rw [put_ne _ _ _ _ ht]; exact t3, t4, t9⟩
/-- A new builder. -/
theorem BldG.new {H G : Heap} (h : H.Sub G) {b : Nat} (hb : G b = none) : BldOK H (G.put b (.cells [.nilp, .snil])) b [] := by
  have hH : H b = none := by
    cases hh : H b with
    | none => rfl
    | some x => have := h b x hh; rw [hb] at this; cases this
  exact ⟨h.put' hH _, hH, _, _, put_same _ _ _, .inl rfl, .inl ⟨rfl, rfl⟩⟩
theorem app_snil {et : Option TypeId} {e : TI} {new : List (List AV)} {H : Heap} {K : K1} (h1 : new.length * e.bytes ≤ 140737488355328) (h2 : new.length ≤ 4611686018427387904) (h0 : new = [] → K .snil H)
    (h : new ≠ [] → ∀ id', H id' = none → K (.sl new (.tok id' e.size et)) (H.put id' (.tail (new.length * e.size)))) : appK et false e .snil new H K :=
  ⟨h0, fun hn => ⟨h1, h2, fun id' hid => h hn id' hid⟩⟩
theorem app_tok' {et : Option TypeId} {e : TI} {es new : List (List AV)} {id : Nat} {H : Heap} {K : K1} (hu : Unif e.size es) (ht : H id = some (.tail (es.length * e.size))) (h1 : (es.length + new.length) * e.bytes ≤ 140737488355328) (h2 : es.length + new.length ≤ 4611686018427387904)
    (h : ∀ id', H id' = none → K (.sl (es ++ new) (.tok id' e.size et)) ((H.del id).put id' (.tail ((es ++ new).length * e.size)))) : appK et false e (.sl es (.tok id e.size et)) new H K :=
  app_tok hu ht h1 h2 fun id' hid => by rw [if_pos rfl]; exact h id' hid

theorem writeString_calls {g : Bool} {H G : Heap} {b : Nat} {l s : Bytes} (h : BldG g H G b l) (hl : l.length + s.length ≤ 140737488355328) :
    ACalls Tryd.prog 31 [bldP b, .str s] G fun x G' => x = .tup [.int .i64 s.length, .nilIface] ∧ BldG g H G' b (l ++ s) ∧ BKept b G G' := by
  obtain ⟨h1, h2, p, buf, h3, h4, h5⟩ := h
  have hc := copyCheck_calls h4 h3
  have hm : (s.map fun b : UInt8 => [AV.int .u8 b.toNat]) = s.map bcell := rfl
  rcases h5 with ⟨rfl, rfl⟩ | ⟨t, rfl, t2, t3, t4, t9⟩
  · refine ACalls.of_code (X := { pure := pu0 }) pu0_ok Tryd.func31 (by kernel_rfl) rfl (by kernel_rfl) (Nat.le_of_ble_eq_true rfl) ?_
    simp -implicitDefEqProofs only [go_sem, tys, regs0, Nat.reduceEqDiff, Nat.reduceAdd, Nat.reduceLeDiff, Nat.reduceLT, Nat.reduceMul, Int.natCast_one, Int.natCast_zero, Int.reduceEq, Int.reduceLT, Int.reduceLE, Int.reduceAdd, Int.reduceSub, Int.reduceToNat, UInt8.reduceToNat, Tryd.f31]
    refine hc.next1 ?_
    simp -implicitDefEqProofs only [go_sem, tys, regs0, Nat.reduceEqDiff, Nat.reduceAdd, Nat.reduceLeDiff, Nat.reduceLT, Nat.reduceMul, Int.natCast_one, Int.natCast_zero, Int.reduceEq, Int.reduceLT, Int.reduceLE, Int.reduceAdd, Int.reduceSub, Int.reduceToNat, UInt8.reduceToNat, hm]
    refine app_snil (by simp at hl ⊢; omega) (by simp at hl ⊢; omega) (fun hn => ?_) (fun hn t' ht' => ?_)
    · have hs : s = [] := by simpa using hn
      subst hs
      simp -implicitDefEqProofs only [go_sem, tys, regs0, Nat.reduceEqDiff, Nat.reduceAdd, Nat.reduceLeDiff, Nat.reduceLT, Nat.reduceMul, Int.natCast_one, Int.natCast_zero, Int.reduceEq, Int.reduceLT, Int.reduceLE, Int.reduceAdd, Int.reduceSub, Int.reduceToNat, UInt8.reduceToNat]
      refine Done.now ⟨rfl, ⟨h1.put' h2 _, h2, _, _, put_same _ _ _, .inr rfl, .inl ⟨rfl, rfl⟩⟩, fun i o hi hb _ => by rw [put_ne _ _ _ _ hb]; exact hi⟩
    · have n1 := (heap_none ht').1
      have n2 := (heap_none ht').2.1
      have n3 := (heap_none ht').2.2
      have n4 : H t' = none := by
        cases hh : H t' with
        | none => rfl
        | some x => have := h1 t' x hh; rw [n3] at this; cases this
      simp -implicitDefEqProofs only [go_sem, tys, regs0, Nat.reduceEqDiff, Nat.reduceAdd, Nat.reduceLeDiff, Nat.reduceLT, Nat.reduceMul, Int.natCast_one, Int.natCast_zero, Int.reduceEq, Int.reduceLT, Int.reduceLE, Int.reduceAdd, Int.reduceSub, Int.reduceToNat, UInt8.reduceToNat, put_ne, n2]
      refine Done.now ⟨rfl, ⟨((h1.put' h2 _).put' n4 _).put' h2 _, h2, _, _, put_same _ _ _, .inr rfl, .inr ⟨t', rfl, n4, ?_, n1, fun _ => by simpa using hn⟩⟩, fun i o hi hb _ => ?_⟩
      · rw [put_ne _ _ _ _ n1, put_same]; simp
      · have n5 : ¬ i = t' := fun e => by subst e; rw [n3] at hi; cases hi
        rw [put_ne _ _ _ _ hb, put_ne _ _ _ _ n5, put_ne _ _ _ _ hb]; exact hi
  · have htk : tokOf G b = some t := by simp [tokOf, h3]
    have t5 : (G.put b (.cells [bldP b, .sl (l.map bcell) (.tok t 1 (some 5))])) t = some (.tail ((l.map bcell).length * 1)) := by
      rw [put_ne _ _ _ _ t4]; simpa using t3
    refine ACalls.of_code (X := { pure := pu0 }) pu0_ok Tryd.func31 (by kernel_rfl) rfl (by kernel_rfl) (Nat.le_of_ble_eq_true rfl) ?_
    simp -implicitDefEqProofs only [go_sem, tys, regs0, Nat.reduceEqDiff, Nat.reduceAdd, Nat.reduceLeDiff, Nat.reduceLT, Nat.reduceMul, Int.natCast_one, Int.natCast_zero, Int.reduceEq, Int.reduceLT, Int.reduceLE, Int.reduceAdd, Int.reduceSub, Int.reduceToNat, UInt8.reduceToNat, Tryd.f31]
    refine hc.next1 ?_
    simp -implicitDefEqProofs only [go_sem, tys, regs0, Nat.reduceEqDiff, Nat.reduceAdd, Nat.reduceLeDiff, Nat.reduceLT, Nat.reduceMul, Int.natCast_one, Int.natCast_zero, Int.reduceEq, Int.reduceLT, Int.reduceLE, Int.reduceAdd, Int.reduceSub, Int.reduceToNat, UInt8.reduceToNat, hm]
    refine app_tok' (e := tiU8) (bcell_len l) t5 (by simp at hl ⊢; omega) (by simp at hl ⊢; omega) (fun t' ht' => ?_)
    have n1 := (heap_none ht').1
    have n2 := (heap_none ht').2.1
    have n3 := (heap_none ht').2.2
    have n4 : H t' = none := by
      cases hh : H t' with
      | none => rfl
      | some x => have := h1 t' x hh; rw [n3] at this; cases this
    have n6 : ¬ b = t := fun e => t4 e.symm
    have n7 : H.Sub ((G.put b (.cells [bldP b, .sl (l.map bcell) (.tok t 1 (some 5))])).del t) := fun i o hi => by
      rw [del_ne (fun e => by subst e; rw [t2] at hi; cases hi)]
      exact h1.put' h2 _ i o hi
    simp -implicitDefEqProofs only [go_sem, tys, regs0, Nat.reduceEqDiff, Nat.reduceAdd, Nat.reduceLeDiff, Nat.reduceLT, Nat.reduceMul, Int.natCast_one, Int.natCast_zero, Int.reduceEq, Int.reduceLT, Int.reduceLE, Int.reduceAdd, Int.reduceSub, Int.reduceToNat, UInt8.reduceToNat, put_ne, n2, del_ne, n6]
    refine Done.now ⟨rfl, ⟨(n7.put' n4 _).put' h2 _, h2, _, _, put_same _ _ _, .inr rfl, .inr ⟨t', by rw [List.map_append], n4, ?_, n1, fun e => by simp [t9 e]⟩⟩, fun i o hi hb hk => ?_⟩
    · rw [put_ne _ _ _ _ n1, put_same]; simp
    · have n5 : ¬ i = t' := fun e => by subst e; rw [n3] at hi; cases hi
      have n8 : ¬ i = t := fun e => hk (by rw [htk, e])
      rw [put_ne _ _ _ _ hb, put_ne _ _ _ _ n5, del_ne n8, put_ne _ _ _ _ hb]; exact hi
theorem bldString_calls {g : Bool} {H G : Heap} {b : Nat} {l : Bytes} (h : BldG g H G b l) (hl : l.length ≤ 140737488355328) (hg : g = true → l ≠ []) : ACalls Tryd.prog 36 [bldP b] G fun x G' => x = .str l ∧ G' = G := by
  obtain ⟨h1, h2, p, buf, h3, h4, h5⟩ := h
  rcases h5 with ⟨rfl, rfl⟩ | ⟨t, rfl, t2, t3, t4, t9⟩
  · refine ACalls.of_code (X := { pure := pu0 }) pu0_ok Tryd.func36 (by kernel_rfl) rfl (by kernel_rfl) (Nat.le_of_ble_eq_true rfl) ?_
    simp -implicitDefEqProofs only [go_sem, tys, regs0, Nat.reduceEqDiff, Nat.reduceAdd, Nat.reduceLeDiff, Nat.reduceLT, Nat.reduceMul, Int.natCast_one, Int.natCast_zero, Int.reduceEq, Int.reduceLT, Int.reduceLE, Int.reduceAdd, Int.reduceSub, Int.reduceToNat, UInt8.reduceToNat, Tryd.f36, h3]
    exact Done.now ⟨rfl, rfl⟩
  · have hm : l.map bcell = l.map fun b : UInt8 => [AV.int .u8 b.toNat] := rfl
    have hl0 : ¬ l = [] := by cases g with
      | true => exact hg rfl
      | false => exact t9 rfl
    refine ACalls.of_code (X := { pure := pu0 }) pu0_ok Tryd.func36 (by kernel_rfl) rfl (by kernel_rfl) (Nat.le_of_ble_eq_true rfl) ?_
    simp -implicitDefEqProofs only [go_sem, tys, regs0, Nat.reduceEqDiff, Nat.reduceAdd, Nat.reduceLeDiff, Nat.reduceLT, Nat.reduceMul, Int.natCast_one, Int.natCast_zero, Int.reduceEq, Int.reduceLT, Int.reduceLE, Int.reduceAdd, Int.reduceSub, Int.reduceToNat, UInt8.reduceToNat, Tryd.f36, h3, hm, hl0]
    exact ⟨by omega, Done.now ⟨rfl, rfl⟩⟩
/-- The orders of the region in which room is got. -/
def growOrd (n : Nat) : Option (List (List Nat)) := if n = 0 then some [[0, 1, 2, 3, 4, 5, 6, 7, 9, 10, 11, 8, 12, 13, 14, 15], [0, 1, 2, 3, 4, 5, 6, 7, 9, 10, 11, 12, 13, 8, 14, 15]] else none
/-! ### In passing -/
theorem writeString_k {g : Bool} {H G : Heap} {b : Nat} {l s : Bytes} (h : BldG g H G b l) (hl : l.length + s.length ≤ 140737488355328) {K : K1} (hK : ∀ G', BldG g H G' b (l ++ s) → BKept b G G' → K (.tup [.int .i64 s.length, .nilIface]) G') :
    ACalls Tryd.prog 31 [bldP b, .str s] G K := by
  refine (writeString_calls h hl).mono ?_
  rintro x G' ⟨rfl, h1, h2⟩
  exact hK G' h1 h2
theorem bldString_k {g : Bool} {H G : Heap} {b : Nat} {l : Bytes} (h : BldG g H G b l) (hl : l.length ≤ 140737488355328) (hg : g = true → l ≠ []) {K : K1} (hK : K (.str l) G) : ACalls Tryd.prog 36 [bldP b] G K := (bldString_calls h hl hg).pure_next _ hK
end Go.Proofs

/- Small things: objects by name; pure functions by what they answer. -/
namespace Go.Proofs
open Go Go.Abs
set_option linter.unusedSimpArgs false
set_option linter.unusedVariables false
theorem getD_get' {α : Type} {l : List α} {i : Nat} (h : i < l.length) : ∃ c, l[i]? = some c := ⟨l[i], List.getElem?_eq_getElem h⟩
theorem sub_none {H G : Heap} (h : H.Sub G) {i : Nat} (hi : G i = none) : H i = none := by
  cases hh : H i with
  | none => rfl
  | some x => have := h i x hh; rw [hi] at this; cases this
theorem some_if {c : Prop} [Decidable c] {a v : AV} (h : (if c then some a else none) = some v) : c ∧ a = v := by
  split at h
  · cases h; exact ⟨‹_›, rfl⟩
  · cases h
theorem put_put' (H : Heap) (i : Nat) (a b : AObj) : (H.put i a).put i b = H.put i b := by
  funext j
  unfold Heap.put
  split <;> rfl
theorem put_comm' {H : Heap} {i j : Nat} (h : ¬ i = j) (a b : AObj) : (H.put i a).put j b = (H.put j b).put i a := by
  funext k
  unfold Heap.put
  by_cases e1 : k = j <;> by_cases e2 : k = i <;> simp_all
theorem put_self {H : Heap} {i : Nat} {a : AObj} (h : H i = some a) : H.put i a = H := by
  funext k
  unfold Heap.put
  split
  · rename_i e; rw [e, h]
  · rfl
theorem obj_new {H0 H G : Heap} {id : Nat} {o : AObj} (e : H.put id o = G) (hid : H id = none) (hS : H0.Sub H) : H0 id = none ∧ H0.Sub G ∧ G id = some o ∧ H.Sub G := by
  subst e
  exact ⟨sub_none hS hid, hS.put' (sub_none hS hid) o, put_same _ _ _, (Heap.Sub.rfl' H).put' hid o⟩
theorem obj_ne {G : Heap} {i j : Nat} {o : AObj} (hi : G i = some o) (hj : G j = none) : ¬ i = j := fun e => by rw [e, hj] at hi; cases hi
theorem obj_sub {H0 H G : Heap} {id : Nat} {o : AObj} (e : H.put id o = G) (hid : H0 id = none) (hS : H0.Sub H) : H0.Sub G := by
  subst e
  exact hS.put' hid o
theorem obj_at {H G : Heap} {id : Nat} {o : AObj} (e : H.put id o = G) : G id = some o := by
  subst e
  exact put_same _ _ _
theorem obj_keep {H G : Heap} {id i : Nat} {o x : AObj} (e : H.put id o = G) (hne : ¬ i = id) (h : H i = some x) : G i = some x := by
  subst e
  rw [put_ne _ _ _ _ hne]; exact h
/-- A function that answers one thing and leaves the heap alone, told by how its arguments are written. -/
def Pur (P : Program) (f : FuncId) (s : List AV → Option AV) : Prop := ∀ xs v, s xs = some v → ∀ H, ACalls P f xs H fun x H' => x = v ∧ H' = H
noncomputable def spF {α : Type} (enc : α → List AV) (pre : α → Prop) (F : α → AV) : List AV → Option AV :=
  open Classical in fun xs => if h : ∃ a, enc a = xs ∧ pre a then some (F h.choose) else none
theorem spF_eq {α : Type} {enc : α → List AV} {pre : α → Prop} {F : α → AV} (inj : ∀ a b, enc a = enc b → F a = F b) (a : α) (h : pre a) : spF enc pre F (enc a) = some (F a) := by
  have hx : ∃ b, enc b = enc a ∧ pre b := ⟨a, rfl, h⟩
  unfold spF
  rw [dif_pos hx, inj _ _ hx.choose_spec.1]
theorem spF_ok {P : Program} {f : FuncId} {α : Type} {enc : α → List AV} {pre : α → Prop} {F : α → AV} (h : ∀ a H, pre a → ACalls P f (enc a) H fun x H' => x = F a ∧ H' = H) : Pur P f (spF enc pre F) := by
  intro xs v hv H
  unfold spF at hv
  split at hv
  · rename_i hx
    obtain ⟨h1, h2⟩ := hx.choose_spec
    cases hv
    have := h hx.choose H h2
    rw [h1] at this
    exact this
  · cases hv
theorem Pur.use {P : Program} {f : FuncId} {s : List AV → Option AV} (h : Pur P f s) {xs : List AV} {v : AV} (e : s xs = some v) (H : Heap) : ACalls P f xs H fun x H' => x = v ∧ H' = H := h xs v e H
theorem take_eq_succ {α : Type} {a b : List α} {i : Nat} {x y : α} (ha : a[i]? = some x) (hb : b[i]? = some y) : a.take (i + 1) = b.take (i + 1) ↔ a.take i = b.take i ∧ x = y := by
  rw [List.take_add_one, List.take_add_one, ha, hb]
  constructor
  · intro h
    have hl : (a.take i).length = (b.take i).length := by
      have h1 : i < a.length := (List.getElem?_eq_some_iff.1 ha).1
      have h2 : i < b.length := (List.getElem?_eq_some_iff.1 hb).1
      simp; omega
    have := List.append_inj h hl
    exact ⟨this.1, by simpa using this.2⟩
  · rintro ⟨h1, rfl⟩; rw [h1]
theorem get_some {α : Type} {l : List α} {i : Nat} (h : i < l.length) : ∃ x, l[i]? = some x := ⟨l[i], List.getElem?_eq_getElem h⟩
end Go.Proofs
