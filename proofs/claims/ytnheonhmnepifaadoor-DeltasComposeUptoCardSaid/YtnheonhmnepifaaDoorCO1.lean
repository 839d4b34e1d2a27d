/- Walks: the size and a part of a piece. -/
import Derived.Test.YtnheonhmnepifaaDoorDE1
import Derived.Test.YtnheonhmnepifaaDoorPC1
namespace Go.Proofs
open Go Go.Abs
set_option linter.unusedSimpArgs false
set_option linter.unusedVariables false
set_option maxRecDepth 20000
theorem size_calls (p : PieceV) (H : Heap) : ACalls Tryd.prog 78 [.agg (encPc p)] H fun x H' => x = .int .i64 (pcSize p) ∧ H' = H := by
  refine ACalls.of_code (X := { pure := pu0 }) pu0_ok Tryd.func78 (by kernel_rfl) rfl (by kernel_rfl) (Nat.le_of_ble_eq_true rfl) ?_
  simp -implicitDefEqProofs only [go_sem, tys, regs0, Nat.reduceEqDiff, Nat.reduceAdd, Nat.reduceLeDiff, Nat.reduceLT, Nat.reduceMul, Int.natCast_one, Int.natCast_zero, Int.reduceEq, Int.reduceLT, Int.reduceLE, Int.reduceAdd, Int.reduceSub, Int.reduceToNat, UInt8.reduceToNat, Tryd.f78, encPc]
  with_reducible refine nwC_intro fun i1 hi1 => ?_
  by_cases hd : p.data = []
  · have y1 : decide (¬ p.data = []) = false := decide_eq_false (by simpa using hd)
    simp -implicitDefEqProofs only [go_sem, tys, regs0, Nat.reduceEqDiff, Nat.reduceAdd, Nat.reduceLeDiff, Nat.reduceLT, Nat.reduceMul, Int.natCast_one, Int.natCast_zero, Int.reduceEq, Int.reduceLT, Int.reduceLE, Int.reduceAdd, Int.reduceSub, Int.reduceToNat, UInt8.reduceToNat, y1]
    refine Done.drop1 hi1 ⟨?_, rfl⟩
    unfold pcSize
    rw [if_neg (by simpa using hd)]
  · have y1 : decide (¬ p.data = []) = true := decide_eq_true hd
    simp -implicitDefEqProofs only [go_sem, tys, regs0, Nat.reduceEqDiff, Nat.reduceAdd, Nat.reduceLeDiff, Nat.reduceLT, Nat.reduceMul, Int.natCast_one, Int.natCast_zero, Int.reduceEq, Int.reduceLT, Int.reduceLE, Int.reduceAdd, Int.reduceSub, Int.reduceToNat, UInt8.reduceToNat, y1]
    refine Done.drop1 hi1 ⟨?_, rfl⟩
    unfold pcSize
    rw [if_pos hd]
def partR (p : PieceV) (f t : Int) : Prop := 0 ≤ f ∧ f ≤ t ∧ t ≤ pcSize p ∧ t ≤ 1099511627776 ∧ 0 ≤ p.at_ ∧ p.at_ ≤ 1099511627776
instance (p : PieceV) (f t : Int) : Decidable (partR p f t) := inferInstanceAs (Decidable (_ ∧ _ ∧ _ ∧ _ ∧ _ ∧ _))
theorem part_calls (p : PieceV) (f t : Int) (H : Heap) (h : partR p f t) : ACalls Tryd.prog 79 [.agg (encPc p), .int .i64 f, .int .i64 t] H fun x H' => x = .agg (encPc (partV p f t)) ∧ H' = H := by
  obtain ⟨h1, h2, h3, h4, h5, h6⟩ := h
  refine ACalls.of_code (X := { pure := pu0 }) pu0_ok Tryd.func79 (by kernel_rfl) rfl (by kernel_rfl) (Nat.le_of_ble_eq_true rfl) ?_
  simp -implicitDefEqProofs only [go_sem, tys, regs0, Nat.reduceEqDiff, Nat.reduceAdd, Nat.reduceLeDiff, Nat.reduceLT, Nat.reduceMul, Int.natCast_one, Int.natCast_zero, Int.reduceEq, Int.reduceLT, Int.reduceLE, Int.reduceAdd, Int.reduceSub, Int.reduceToNat, UInt8.reduceToNat, Tryd.f79, encPc]
  with_reducible refine nwC_intro fun i1 hi1 => ?_
  simp -implicitDefEqProofs only [go_sem, tys, regs0, Nat.reduceEqDiff, Nat.reduceAdd, Nat.reduceLeDiff, Nat.reduceLT, Nat.reduceMul, Int.natCast_one, Int.natCast_zero, Int.reduceEq, Int.reduceLT, Int.reduceLE, Int.reduceAdd, Int.reduceSub, Int.reduceToNat, UInt8.reduceToNat]
  with_reducible refine nwC_intro fun i6 hi6 => ?_
  have n1 := (heap_none hi6).1
  have n2 := (heap_none hi6).2.1
  have hi6H := (heap_none hi6).2.2
  by_cases hd : p.data = []
  · have y1 : decide (¬ p.data = []) = false := decide_eq_false (by simpa using hd)
    have w1 : IntKind.i64.wrap (p.at_ + f) = p.at_ + f := Go.IntWalk.i64_in _ (by omega)
    have w2 : IntKind.i64.wrap (t - f) = t - f := Go.IntWalk.i64_in _ (by omega)
    simp -implicitDefEqProofs only [go_sem, tys, regs0, Nat.reduceEqDiff, Nat.reduceAdd, Nat.reduceLeDiff, Nat.reduceLT, Nat.reduceMul, Int.natCast_one, Int.natCast_zero, Int.reduceEq, Int.reduceLT, Int.reduceLE, Int.reduceAdd, Int.reduceSub, Int.reduceToNat, UInt8.reduceToNat, y1, put_ne, n1, n2, w1, w2]
    refine Done.drop (by repeat' first | exact Heap.Sub.rfl' H | exact hi6H | exact hi1 | refine Heap.Sub.put' ?_ ?_ _) ⟨?_, rfl⟩
    unfold partV
    rw [if_neg (by simpa using hd)]
  · have y1 : decide (¬ p.data = []) = true := decide_eq_true hd
    have hs : pcSize p = p.data.length := by unfold pcSize; rw [if_pos hd]
    simp -implicitDefEqProofs only [go_sem, tys, regs0, Nat.reduceEqDiff, Nat.reduceAdd, Nat.reduceLeDiff, Nat.reduceLT, Nat.reduceMul, Int.natCast_one, Int.natCast_zero, Int.reduceEq, Int.reduceLT, Int.reduceLE, Int.reduceAdd, Int.reduceSub, Int.reduceToNat, UInt8.reduceToNat, y1, put_ne, n1, n2]
    refine ⟨⟨by omega, by omega, by omega⟩, ?_⟩
    refine Done.drop (by repeat' first | exact Heap.Sub.rfl' H | exact hi6H | exact hi1 | refine Heap.Sub.put' ?_ ?_ _) ⟨?_, rfl⟩
    unfold partV
    rw [if_pos hd]
def sSize : List AV → Option AV := fn1 (Rd.agg decPc) fun p => some (.int .i64 (pcSize p))
theorem sSize_eq (p : PieceV) : sSize [.agg (encPc p)] = some (.int .i64 (pcSize p)) := rfl
theorem sSize_ok : ∀ xs v, sSize xs = some v → ∀ H, ACalls Tryd.prog 78 xs H fun x H' => x = v ∧ H' = H := by
  intro xs v hv H
  obtain ⟨x, p, rfl, h1, h2⟩ := fn1_some hv
  cases Rd.agg_some (fun _ _ => decPc_some) h1
  cases h2
  exact size_calls p H
def sPart : List AV → Option AV := fn3 (Rd.agg decPc) (.int .i64) (.int .i64) fun p f t => if partR p f t then some (.agg (encPc (partV p f t))) else none
theorem sPart_eq (p : PieceV) (f t : Int) (h : partR p f t) : sPart [.agg (encPc p), .int .i64 f, .int .i64 t] = some (.agg (encPc (partV p f t))) := by
  show (if partR p f t then some (AV.agg (encPc (partV p f t))) else none) = _
  rw [if_pos h]
theorem sPart_ok : ∀ xs v, sPart xs = some v → ∀ H, ACalls Tryd.prog 79 xs H fun x H' => x = v ∧ H' = H := by
  intro xs v hv H
  obtain ⟨x, y, z, p, f, t, rfl, h1, h2, h3, h4⟩ := fn3_some hv
  cases Rd.agg_some (fun _ _ => decPc_some) h1
  cases Rd.int_some h2
  cases Rd.int_some h3
  obtain ⟨h5, rfl⟩ := some_if h4
  exact part_calls p f t H h5
def puJ : Pures := putP 78 sSize (putP 79 sPart puH)
theorem puJ_ok : PuOK Tryd.prog puJ := .put (.put puH_ok sPart_ok) sSize_ok
end Go.Proofs
