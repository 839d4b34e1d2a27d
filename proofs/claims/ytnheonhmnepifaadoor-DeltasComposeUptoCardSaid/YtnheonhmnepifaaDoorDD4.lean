/- Walks: what pieces make, both sides. -/
import Derived.Test.YtnheonhmnepifaaDoorDD3
namespace Go.Proofs
open Go Go.Abs
set_option linter.unusedSimpArgs false
set_option linter.unusedVariables false
theorem take_len_le {l : List PieceV} {old : Int} {a : Bytes} (ha : (a.length : Int) = old) (hr : ∀ p ∈ l, pcR p) (h : ∀ p ∈ l, pcE old p = 0) (ho : old ≤ 65536) (i : Nat) : (madeV a (l.take i)).length ≤ 4194304 * i := by
  induction i with
  | zero => simp [madeV]
  | succ i ih =>
    cases hp : l[i]? with
    | none =>
      rw [List.take_add_one, hp]; simp; omega
    | some p =>
      have hm := List.mem_of_getElem? hp
      rw [madeV_succ hp, List.length_append]
      have h1 := pcMade_len (a := a) (p := p) (by rw [ha]; exact h p hm)
      have h2 := pcSize_ok (hr p hm) ho (h p hm)
      omega
set_option maxHeartbeats 1600000 in
theorem made_calls (a : Bytes) (l : List PieceV) (t : Tail) (H : Heap) (hr : psR l) (ha : a.length ≤ 65536) (h : ∀ p ∈ l, pcE a.length p = 0) (hl : l.length ≤ 5000) :
    ACalls Tryd.prog 36 [.str a, .sl (l.map encPc) t] H fun x H' => x = .str (madeV a l) ∧ H' = H := by
  refine ACalls.of_code (X := { pure := pu0, ms := fun t => decide (t = 5) }) pu0_ok Tryd.func36 (by kernel_rfl) rfl (by kernel_rfl) (Nat.le_of_ble_eq_true rfl) ?_
  simp -implicitDefEqProofs only [go_sem, tys, regs0, Nat.reduceEqDiff, Nat.reduceAdd, Nat.reduceLeDiff, Nat.reduceLT, Nat.reduceMul, Int.natCast_one, Int.natCast_zero, Int.reduceEq, Int.reduceLT, Int.reduceLE, Int.reduceAdd, Int.reduceSub, Int.reduceToNat, UInt8.reduceToNat, Tryd.f36]
  with_reducible refine nwT_intro fun b hb => ?_
  have hnew := BldG.new (Heap.Sub.rfl' H) hb
  simp -implicitDefEqProofs only [go_sem, tys, regs0, Nat.reduceEqDiff, Nat.reduceAdd, Nat.reduceLeDiff, Nat.reduceLT, Nat.reduceMul, Int.natCast_one, Int.natCast_zero, Int.reduceEq, Int.reduceLT, Int.reduceLE, Int.reduceAdd, Int.reduceSub, Int.reduceToNat, UInt8.reduceToNat]
  refine aloop_intro (σ := Nat) (fun i => [(0, .str a), (5, bldP b), (8, .sl (l.map encPc) t), (9, .int .i64 l.length), (10, .int .i64 i)])
    (fun i G => BldOK H G b (madeV a (l.take i)) ∧ i ≤ l.length) (fun i => l.length - i) 0 ?_ ?_ ?_
  · simp -implicitDefEqProofs only [go_sem, tys, regs0, Nat.reduceEqDiff, Nat.reduceAdd, Nat.reduceLeDiff, Nat.reduceLT, Nat.reduceMul, Int.natCast_one, Int.natCast_zero, Int.reduceEq, Int.reduceLT, Int.reduceLE, Int.reduceAdd, Int.reduceSub, Int.reduceToNat, UInt8.reduceToNat]
  · exact ⟨hnew, by omega⟩
  · intro i r G hv hI
    have h0 := hv.1
    have h5 := hv.2.1
    have h8 := hv.2.2.1
    have h9 := hv.2.2.2.1
    have h10 := hv.2.2.2.2.1
    have hB := hI.1
    have hi := hI.2
    clear hv hI
    simp -implicitDefEqProofs only [go_sem, tys, regs0, Nat.reduceEqDiff, Nat.reduceAdd, Nat.reduceLeDiff, Nat.reduceLT, Nat.reduceMul, Int.natCast_one, Int.natCast_zero, Int.reduceEq, Int.reduceLT, Int.reduceLE, Int.reduceAdd, Int.reduceSub, Int.reduceToNat, UInt8.reduceToNat, h0, h5, h8, h9, h10]
    refine cnd_intro (fun g => ?_) (fun g => ?_)
    · simp only [decide_eq_true_eq] at g
      obtain ⟨p, hp⟩ : ∃ p, l[i]? = some p := getD_get' (by omega)
      have hm := List.mem_of_getElem? hp
      have hrp := hr.2 p hm
      have hpe := h p hm
      have hlen := take_len_le (a := a) rfl hr.2 h (by omega) i
      have hms := madeV_succ (a := a) hp
      have hml := pcMade_len hpe
      have hms2 := pcSize_ok hrp (by omega) hpe
      have hpm := pcMade.eq_1 a p
      unfold pcE at hpe
      simp -implicitDefEqProofs only [go_sem, tys, regs0, Nat.reduceEqDiff, Nat.reduceAdd, Nat.reduceLeDiff, Nat.reduceLT, Nat.reduceMul, Int.natCast_one, Int.natCast_zero, Int.reduceEq, Int.reduceLT, Int.reduceLE, Int.reduceAdd, Int.reduceSub, Int.reduceToNat, UInt8.reduceToNat, h0, h5, h8, h9, h10, hp, encPc]
      with_reducible refine nwC_intro fun id hid => ?_
      have hB2 := hB.put hid (.cells [.int .i64 p.at_, .int .i64 p.long, .str p.data])
      simp -implicitDefEqProofs only [go_sem, tys, regs0, Nat.reduceEqDiff, Nat.reduceAdd, Nat.reduceLeDiff, Nat.reduceLT, Nat.reduceMul, Int.natCast_one, Int.natCast_zero, Int.reduceEq, Int.reduceLT, Int.reduceLE, Int.reduceAdd, Int.reduceSub, Int.reduceToNat, UInt8.reduceToNat]
      refine cnd_intro (fun g2 => ?_) (fun g2 => ?_)
      · simp only [decide_eq_true_eq] at g2
        rw [if_pos g2] at hpm
        simp -implicitDefEqProofs only [go_sem, tys, regs0, Nat.reduceEqDiff, Nat.reduceAdd, Nat.reduceLeDiff, Nat.reduceLT, Nat.reduceMul, Int.natCast_one, Int.natCast_zero, Int.reduceEq, Int.reduceLT, Int.reduceLE, Int.reduceAdd, Int.reduceSub, Int.reduceToNat, UInt8.reduceToNat, h0, h5, h8, h9, h10]
        refine writeString_k hB2 (by rw [← hpm]; omega) (fun G3 hG3 _ => ?_)
        rw [← hpm, ← hms] at hG3
        simp -implicitDefEqProofs (disch := omega) only [go_sem, tys, regs0, Nat.reduceEqDiff, Nat.reduceAdd, Nat.reduceLeDiff, Nat.reduceLT, Nat.reduceMul, Int.natCast_one, Int.natCast_zero, Int.reduceEq, Int.reduceLT, Int.reduceLE, Int.reduceAdd, Int.reduceSub, Int.reduceToNat, UInt8.reduceToNat, Go.IntWalk.i64_in, h0, h5, h8, h9, h10]
        exact Again.mk (i + 1) (by simp -implicitDefEqProofs only [go_sem, tys, regs0, Nat.reduceEqDiff, Nat.reduceAdd, Nat.reduceLeDiff, Nat.reduceLT, Nat.reduceMul, Int.natCast_one, Int.natCast_zero, Int.reduceEq, Int.reduceLT, Int.reduceLE, Int.reduceAdd, Int.reduceSub, Int.reduceToNat, UInt8.reduceToNat, h0, h5, h8, h9, h10]; exact rfl) ⟨hG3, by omega⟩ (by omega)
      · simp only [decide_eq_false_iff_not] at g2
        rw [if_neg g2] at hpm hpe
        have hx : 0 ≤ p.at_ ∧ 1 ≤ p.long ∧ p.at_ + p.long ≤ a.length := by
          split at hpe
          · omega
          · omega
        have hw : IntKind.i64.wrap (p.at_ + p.long) = p.at_ + p.long := Go.IntWalk.i64_in _ (by omega)
        simp -implicitDefEqProofs only [go_sem, tys, regs0, Nat.reduceEqDiff, Nat.reduceAdd, Nat.reduceLeDiff, Nat.reduceLT, Nat.reduceMul, Int.natCast_one, Int.natCast_zero, Int.reduceEq, Int.reduceLT, Int.reduceLE, Int.reduceAdd, Int.reduceSub, Int.reduceToNat, UInt8.reduceToNat, h0, h5, h8, h9, h10, hw]
        refine ⟨⟨hx.1, by omega, hx.2.2⟩, ?_⟩
        refine writeString_k hB2 (by rw [← hpm]; omega) (fun G3 hG3 _ => ?_)
        rw [← hpm, ← hms] at hG3
        simp -implicitDefEqProofs (disch := omega) only [go_sem, tys, regs0, Nat.reduceEqDiff, Nat.reduceAdd, Nat.reduceLeDiff, Nat.reduceLT, Nat.reduceMul, Int.natCast_one, Int.natCast_zero, Int.reduceEq, Int.reduceLT, Int.reduceLE, Int.reduceAdd, Int.reduceSub, Int.reduceToNat, UInt8.reduceToNat, Go.IntWalk.i64_in, h0, h5, h8, h9, h10]
        exact Again.mk (i + 1) (by simp -implicitDefEqProofs only [go_sem, tys, regs0, Nat.reduceEqDiff, Nat.reduceAdd, Nat.reduceLeDiff, Nat.reduceLT, Nat.reduceMul, Int.natCast_one, Int.natCast_zero, Int.reduceEq, Int.reduceLT, Int.reduceLE, Int.reduceAdd, Int.reduceSub, Int.reduceToNat, UInt8.reduceToNat, h0, h5, h8, h9, h10]; exact rfl) ⟨hG3, by omega⟩ (by omega)
    · simp only [decide_eq_false_iff_not] at g
      have e : i = l.length := by omega
      subst e
      have hlen := take_len_le (a := a) rfl hr.2 h (by omega) l.length
      rw [List.take_length] at hB hlen
      simp -implicitDefEqProofs only [go_sem, tys, regs0, Nat.reduceEqDiff, Nat.reduceAdd, Nat.reduceLeDiff, Nat.reduceLT, Nat.reduceMul, Int.natCast_one, Int.natCast_zero, Int.reduceEq, Int.reduceLT, Int.reduceLE, Int.reduceAdd, Int.reduceSub, Int.reduceToNat, UInt8.reduceToNat, h0, h5, h8, h9, h10]
      refine bldString_k hB (by omega) (fun e => by cases e) ?_
      simp -implicitDefEqProofs only [go_sem, tys, regs0, Nat.reduceEqDiff, Nat.reduceAdd, Nat.reduceLeDiff, Nat.reduceLT, Nat.reduceMul, Int.natCast_one, Int.natCast_zero, Int.reduceEq, Int.reduceLT, Int.reduceLE, Int.reduceAdd, Int.reduceSub, Int.reduceToNat, UInt8.reduceToNat]
      exact Done.drop hB.sub ⟨rfl, rfl⟩
end Go.Proofs
