/- Walks: what an owner holds; who holds a place. -/
import Derived.Test.YtknageenalghdaaDoorK12
namespace Go.Proofs
open Go Go.Abs
set_option linter.unusedSimpArgs false
set_option linter.unusedVariables false
def ownB (o : Bytes) (h : HeldV) : Bool := decide (h.owner = o)
def thingsL (o : Bytes) (l : List HeldV) : List HeldV := l.filter (ownB o)
theorem unif_enc {α : Type} {enc : α → List AV} {k : Nat} (h : ∀ a, (enc a).length = k) (l : List α) : Unif k (l.map enc) := by
  intro e he
  obtain ⟨a, -, rfl⟩ := List.mem_map.1 he
  exact h a
theorem filter_take {α : Type} {p : α → Bool} {l : List α} {i : Nat} {c : α} (hc : l[i]? = some c) : (l.take (i + 1)).filter p = if p c then (l.take i).filter p ++ [c] else (l.take i).filter p := by
  rw [List.take_add_one, hc, List.filter_append]
  by_cases h : p c = true <;> simp [h]
theorem filter_le {α : Type} (p : α → Bool) (l : List α) (i : Nat) : ((l.take i).filter p).length ≤ l.length := Nat.le_trans (List.length_filter_le _ _) (by simp; omega)
theorem things_calls (l : List HeldV) (t : Tail) (o : Bytes) (H : Heap) (hr : keepR l) : ACalls Tryd.prog 29 [.agg [.sl (l.map encHeld) t], .str o] H fun x H' => x = .sl ((thingsL o l).map encHeld) .unk ∧ H' = H := by
  have hlen := hr.1
  refine ACalls.of_code (X := { pure := puH4 }) puH4_ok Tryd.func29 (by kernel_rfl) rfl (by kernel_rfl) (Nat.le_of_ble_eq_true rfl) ?_
  simp -implicitDefEqProofs only [go_sem, tys, regs0, Nat.reduceEqDiff, Nat.reduceAdd, Nat.reduceLeDiff, Nat.reduceLT, Nat.reduceMul, Int.natCast_one, Int.natCast_zero, Int.reduceEq, Int.reduceLT, Int.reduceLE, Int.reduceAdd, Int.reduceSub, Int.reduceToNat, UInt8.reduceToNat, Tryd.f29]
  with_reducible refine nwC_intro fun id hid => ?_
  simp -implicitDefEqProofs only [go_sem, tys, regs0, Nat.reduceEqDiff, Nat.reduceAdd, Nat.reduceLeDiff, Nat.reduceLT, Nat.reduceMul, Int.natCast_one, Int.natCast_zero, Int.reduceEq, Int.reduceLT, Int.reduceLE, Int.reduceAdd, Int.reduceSub, Int.reduceToNat, UInt8.reduceToNat]
  refine aloop_intro (σ := Nat × Tail) (fun s => [(1, .str o), (5, .sl (((l.take s.1).filter (ownB o)).map encHeld) s.2), (9, .sl (l.map encHeld) t), (10, .int .i64 l.length), (11, .int .i64 s.1)])
    (fun s G => AppOK H G 5 (((l.take s.1).filter (ownB o)).map encHeld) s.2 ∧ s.1 ≤ l.length) (fun s => l.length - s.1) (0, .exact) ?_ ?_ ?_
  · simp -implicitDefEqProofs only [go_sem, tys, regs0, Nat.reduceEqDiff, Nat.reduceAdd, Nat.reduceLeDiff, Nat.reduceLT, Nat.reduceMul, Int.natCast_one, Int.natCast_zero, Int.reduceEq, Int.reduceLT, Int.reduceLE, Int.reduceAdd, Int.reduceSub, Int.reduceToNat, UInt8.reduceToNat]
    simp
  · exact ⟨by simpa using AppOK.nil ((Heap.Sub.rfl' H).put' hid _), by omega⟩
  · intro s r G hv hI
    obtain ⟨i, tl⟩ := s
    have h1 := hv.1
    have h5 := hv.2.1
    have h9 := hv.2.2.1
    have h10 := hv.2.2.2.1
    have h11 := hv.2.2.2.2.1
    have hA := hI.1
    have hi := hI.2
    clear hv hI
    simp only at h1 h5 h9 h10 h11 hA hi
    simp -implicitDefEqProofs only [go_sem, tys, regs0, Nat.reduceEqDiff, Nat.reduceAdd, Nat.reduceLeDiff, Nat.reduceLT, Nat.reduceMul, Int.natCast_one, Int.natCast_zero, Int.reduceEq, Int.reduceLT, Int.reduceLE, Int.reduceAdd, Int.reduceSub, Int.reduceToNat, UInt8.reduceToNat, h1, h5, h9, h10, h11]
    refine cnd_intro (fun h => ?_) (fun h => ?_)
    · simp only [decide_eq_true_eq] at h
      have hi2 : i < l.length := by omega
      have hc := getD_get hi2
      generalize l.getD i default = c at hc
      have hft := filter_take (p := ownB o) hc
      obtain ⟨ow, k, p, s, d⟩ := c
      simp -implicitDefEqProofs only [go_sem, tys, regs0, Nat.reduceEqDiff, Nat.reduceAdd, Nat.reduceLeDiff, Nat.reduceLT, Nat.reduceMul, Int.natCast_one, Int.natCast_zero, Int.reduceEq, Int.reduceLT, Int.reduceLE, Int.reduceAdd, Int.reduceSub, Int.reduceToNat, UInt8.reduceToNat, h1, h5, h9, h10, h11, hc, encHeld]
      with_reducible refine nwC_intro fun id4 h4 => ?_
      simp +contextual -implicitDefEqProofs only [go_sem, gd_M, tys, regs0, Nat.reduceEqDiff, Nat.reduceAdd, Nat.reduceLeDiff, Nat.reduceLT, Nat.reduceMul, Int.natCast_one, Int.natCast_zero, Int.reduceEq, Int.reduceLT, Int.reduceLE, Int.reduceAdd, Int.reduceSub, Int.reduceToNat, UInt8.reduceToNat, h1, h5, h9, h10, h11]
      refine cnd_intro (fun g => ?_) (fun g => ?_)
      · simp +contextual -implicitDefEqProofs only [go_sem, gd_M, tys, regs0, Nat.reduceEqDiff, Nat.reduceAdd, Nat.reduceLeDiff, Nat.reduceLT, Nat.reduceMul, Int.natCast_one, Int.natCast_zero, Int.reduceEq, Int.reduceLT, Int.reduceLE, Int.reduceAdd, Int.reduceSub, Int.reduceToNat, UInt8.reduceToNat, h1, h5, h9, h10, h11]
        simp only [decide_eq_true_eq] at g
        rw [if_pos (by simpa [ownB] using g)] at hft
        have hle := filter_le (ownB o) l i
        refine AppOK.step (hA.put h4 _) (unif_enc (enc := encHeld) (fun _ => rfl) _) (by simp) (by simp only [List.length_map, List.length_singleton]; omega) (by simp only [List.length_map, List.length_singleton]; omega) (fun tl' G' hA' hK => ?_)
        simp +contextual -implicitDefEqProofs (disch := omega) only [go_sem, gd_M, tys, regs0, Nat.reduceEqDiff, Nat.reduceAdd, Nat.reduceLeDiff, Nat.reduceLT, Nat.reduceMul, Int.natCast_one, Int.natCast_zero, Int.reduceEq, Int.reduceLT, Int.reduceLE, Int.reduceAdd, Int.reduceSub, Int.reduceToNat, UInt8.reduceToNat, Go.IntWalk.i64_in, h1, h5, h9, h10, h11]
        exact Again.mk (i + 1, tl') (by simp +contextual -implicitDefEqProofs (disch := omega) only [go_sem, gd_M, tys, regs0, Nat.reduceEqDiff, Nat.reduceAdd, Nat.reduceLeDiff, Nat.reduceLT, Nat.reduceMul, Int.natCast_one, Int.natCast_zero, Int.reduceEq, Int.reduceLT, Int.reduceLE, Int.reduceAdd, Int.reduceSub, Int.reduceToNat, UInt8.reduceToNat, Go.IntWalk.i64_in, h1, h5, h9, h10, h11, hft]; simp [encHeld]) ⟨by simp only [hft, List.map_append]; exact hA', by simp only; omega⟩ (by simp only; omega)
      · simp +contextual -implicitDefEqProofs (disch := omega) only [go_sem, gd_M, tys, regs0, Nat.reduceEqDiff, Nat.reduceAdd, Nat.reduceLeDiff, Nat.reduceLT, Nat.reduceMul, Int.natCast_one, Int.natCast_zero, Int.reduceEq, Int.reduceLT, Int.reduceLE, Int.reduceAdd, Int.reduceSub, Int.reduceToNat, UInt8.reduceToNat, Go.IntWalk.i64_in, h1, h5, h9, h10, h11]
        simp only [decide_eq_false_iff_not] at g
        rw [if_neg (by simpa [ownB] using g)] at hft
        exact Again.mk (i + 1, tl) (by simp +contextual -implicitDefEqProofs (disch := omega) only [go_sem, gd_M, tys, regs0, Nat.reduceEqDiff, Nat.reduceAdd, Nat.reduceLeDiff, Nat.reduceLT, Nat.reduceMul, Int.natCast_one, Int.natCast_zero, Int.reduceEq, Int.reduceLT, Int.reduceLE, Int.reduceAdd, Int.reduceSub, Int.reduceToNat, UInt8.reduceToNat, Go.IntWalk.i64_in, h1, h5, h9, h10, h11, hft]; simp [encHeld]) ⟨by simp only [hft]; exact hA.put h4 _, by simp only; omega⟩ (by simp only; omega)
    · simp only [decide_eq_false_iff_not] at h
      have e : i = l.length := by omega
      subst e
      simp -implicitDefEqProofs only [go_sem, tys, regs0, Nat.reduceEqDiff, Nat.reduceAdd, Nat.reduceLeDiff, Nat.reduceLT, Nat.reduceMul, Int.natCast_one, Int.natCast_zero, Int.reduceEq, Int.reduceLT, Int.reduceLE, Int.reduceAdd, Int.reduceSub, Int.reduceToNat, UInt8.reduceToNat, h1, h5, h9, h10, h11]
      rw [List.take_length] at *
      refine Done.wk 1 (Done.drop hA.sub ⟨rfl, rfl⟩)
end Go.Proofs
