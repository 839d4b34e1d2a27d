/- Plain law and walks: what is made answers as the law says. -/
import Derived.Test.YtnheonhmnepifaaDoorDM1
import Derived.Test.YtnheonhmnepifaaDoorAU6
namespace Go.Proofs
open Go Go.Abs
set_option linter.unusedSimpArgs false
set_option linter.unusedVariables false
set_option maxRecDepth 20000
theorem lcp_pre : ∀ x w : Bytes, w.take (lcp x w) = x.take (lcp x w)
  | x :: xs, y :: ys => by
    rw [lcp]
    split
    · rename_i e
      rw [List.take_succ_cons, List.take_succ_cons, lcp_pre xs ys, e]
    · rfl
  | [], _ => by simp [lcp]
  | _ :: _, [] => by simp [lcp]
theorem bestM_pre (a w : Bytes) : ∀ k, w.take (bestM a w k).2 = (a.drop (bestM a w k).1).take (bestM a w k).2
  | 0 => by simp [bestM]
  | k + 1 => by
    rw [bestM]
    split
    · exact lcp_pre _ _
    · exact bestM_pre a w k
theorem madeV_append (a : Bytes) (x y : List PieceV) : madeV a (x ++ y) = madeV a x ++ madeV a y := by simp [madeV]
theorem madeV_fl (a data : Bytes) : madeV a (fl data) = data := by
  unfold fl
  split
  · rename_i h
    simp [madeV, pcMade, h]
  · rename_i h
    have : data = [] := by simpa using h
    rw [this]; rfl
theorem mkR_made (a : Bytes) : ∀ (f : Nat) (w data : Bytes), w.length ≤ f → madeV a (mkR a f w data) = data ++ w := by
  intro f
  induction f with
  | zero =>
    intro w data h
    obtain rfl : w = [] := List.eq_nil_of_length_eq_zero (by omega)
    rw [mkR, madeV_fl, List.append_nil]
  | succ f ih =>
    intro w data h
    cases w with
    | nil => rw [mkR, madeV_fl, List.append_nil]
    | cons c w =>
      rw [List.length_cons] at h
      rw [mkR]
      split
      · rw [ih w _ (by omega)]; simp
      · rename_i h8
        have hp := bestM_pre a (c :: w) a.length
        have hb := bestM_ok a (c :: w) a.length
        generalize bestM a (c :: w) a.length = bm at *
        have e : ∀ p l, madeV a (p :: l) = pcMade a p ++ madeV a l := fun p l => by simp [madeV]
        rw [madeV_append, madeV_fl, e, ih _ _ (by rw [List.length_drop, List.length_cons]; omega), List.nil_append]
        have e2 : pcMade a ⟨bm.1, bm.2, []⟩ = (c :: w).take bm.2 := by
          unfold pcMade
          rw [if_neg (by simp), hp]
          simp only
          rw [show (((bm.1 : Int) + (bm.2 : Int)).toNat) = bm.1 + bm.2 by omega, Int.toNat_natCast, List.drop_take, Nat.add_sub_cancel_left]
        rw [e2, List.take_append_drop]
theorem makeV_len (a b : Bytes) : (makeV a b).1.ps.length ≤ 5000 := by
  unfold makeV
  split
  · exact Nat.zero_le _
  · split
    · exact Nat.zero_le _
    · simp only; omega
theorem makeV_dlR (a b : Bytes) : dlR (makeV a b).1 := by
  by_cases h : (makeV a b).2 = 0
  · exact (makeV_ok h).1
  · have : (makeV a b).1 = DeltaV.zero := by
      unfold makeV at h ⊢
      split
      · rfl
      · split
        · rfl
        · rename_i h1 h2
          rw [if_neg h1, if_neg h2] at h
          exact absurd rfl h
    rw [this]
    refine ⟨by decide, by decide, by decide, by decide, by decide, fun p hp => by cases hp⟩
theorem make_made {a b : Bytes} (h : (makeV a b).2 = 0) : applyV a (makeV a b).1 = (b, 0) := by
  have hE := (makeV_ok h).2
  unfold applyV
  rw [if_neg (by simpa using hE)]
  unfold makeV at h ⊢
  split at h
  · cases h
  · rename_i h1
    rw [if_neg h1]
    split at h
    · cases h
    · rename_i h2
      rw [if_neg h2]
      unfold patchV
      have hm := mkR_made a b.length b [] (Nat.le_refl _)
      rw [List.nil_append] at hm
      simp only [hm]
      simp
def puH : Pures := putP 22 sMake (putP 21 sMake puF)
theorem puH_ok : PuOK Tryd.prog puH := .put (.put puF_ok (sMake_ok fun a b H h1 h2 => rMake_calls a b H h1 h2)) (sMake_ok fun a b H h1 h2 => make_calls a b H h1 h2)
theorem back_calls (a b : Bytes) (d : DeltaV) (t : Tail) (H : Heap) (hr : dlR d) (hap : applyV a d = (b, 0)) (ha : a.length ≤ 1099511627776) (hb : b.length ≤ 1099511627776) :
    ACalls Tryd.prog 43 [.str a, .agg (encDl d t)] H fun x H' => x = makeT b a ∧ H' = H := by
  have q1 := sTD_eq vApply a d t
  rw [vApply, if_pos ⟨hr, ha⟩, hap] at q1
  have q2 := sMake_eq b a hb ha
  have e : makeT b a = .tup [.agg (encDl (makeV b a).1 .unk), .int .i64 (makeV b a).2] := rfl
  rw [e]
  generalize makeV b a = mv at *
  obtain ⟨md, mf⟩ := mv
  unfold encDl at q1 q2
  simp only at q1 q2
  refine ACalls.of_code (X := { pure := puH }) puH_ok Tryd.func43 (by kernel_rfl) rfl (by kernel_rfl) (Nat.le_of_ble_eq_true rfl) ?_
  simp -implicitDefEqProofs only [go_sem, tys, regs0, Nat.reduceEqDiff, Nat.reduceAdd, Nat.reduceLeDiff, Nat.reduceLT, Nat.reduceMul, Int.natCast_one, Int.natCast_zero, Int.reduceEq, Int.reduceLT, Int.reduceLE, Int.reduceAdd, Int.reduceSub, Int.reduceToNat, UInt8.reduceToNat, Tryd.f43, encDl]
  with_reducible refine nwC_intro fun i3 hi3 => ?_
  simp -implicitDefEqProofs only [go_sem, tys, regs0, Nat.reduceEqDiff, Nat.reduceAdd, Nat.reduceLeDiff, Nat.reduceLT, Nat.reduceMul, Int.natCast_one, Int.natCast_zero, Int.reduceEq, Int.reduceLT, Int.reduceLE, Int.reduceAdd, Int.reduceSub, Int.reduceToNat, UInt8.reduceToNat]
  with_reducible refine nwC_intro fun i4 hi4 => ?_
  have n1 := (heap_none hi4).1
  have n2 := (heap_none hi4).2.1
  have hi4H := (heap_none hi4).2.2
  simp -implicitDefEqProofs only [go_sem, tys, regs0, Nat.reduceEqDiff, Nat.reduceAdd, Nat.reduceLeDiff, Nat.reduceLT, Nat.reduceMul, Int.natCast_one, Int.natCast_zero, Int.reduceEq, Int.reduceLT, Int.reduceLE, Int.reduceAdd, Int.reduceSub, Int.reduceToNat, UInt8.reduceToNat, puH, puF, puP8, puP7, puP6, puP5, puM, puN, pu0, q1, q2, put_ne, n1, n2]
  exact Done.drop (by repeat' first | exact Heap.Sub.rfl' H | exact hi4H | exact hi3 | refine Heap.Sub.put' ?_ ?_ _) ⟨rfl, rfl⟩
end Go.Proofs
