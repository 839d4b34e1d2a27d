/- Walks: a delta is applied, both sides. -/
import Derived.Test.YtnheonhmnepifaaDoorDD10
namespace Go.Proofs
open Go Go.Abs
set_option linter.unusedSimpArgs false
set_option linter.unusedVariables false
set_option maxRecDepth 20000
def madeR (a : Bytes) (l : List PieceV) : Prop := psR l ∧ a.length ≤ 65536 ∧ (∀ p ∈ l, pcE a.length p = 0) ∧ l.length ≤ 5000
instance (a : Bytes) (l : List PieceV) : Decidable (madeR a l) := inferInstanceAs (Decidable (_ ∧ _ ∧ _ ∧ _))
def sMade : List AV → Option AV := fn2 .str (Rd.list decPc) fun a l => if madeR a l then some (.str (madeV a l)) else none
theorem sMade_eq (a : Bytes) (l : List PieceV) (t : Tail) (h : madeR a l) : sMade [.str a, .sl (l.map encPc) t] = some (.str (madeV a l)) := by
  unfold sMade
  rw [fn2_eq, Rd.str_eq]
  show ((Rd.list decPc).rd (.sl (l.map encPc) t)).bind _ = _
  rw [Rd.list_eq (enc := encPc) decPc_enc l t]
  simp only [Option.bind_some, if_pos h]
theorem sMade_ok {P : Program} {f : FuncId} (h : ∀ a l t H, madeR a l → ACalls P f [.str a, .sl (l.map encPc) t] H fun x H' => x = .str (madeV a l) ∧ H' = H) : ∀ xs v, sMade xs = some v → ∀ H, ACalls P f xs H fun x H' => x = v ∧ H' = H := by
  intro xs v hv H
  obtain ⟨x, y, p, q, rfl, h1, h2, h3⟩ := fn2_some hv
  obtain ⟨h4, rfl⟩ := some_if h3
  cases Rd.str_some h1
  obtain ⟨t, rfl⟩ := Rd.list_some (enc := encPc) (fun _ _ => decPc_some) h2
  exact h p q t H h4
def puP8 : Pures := putP 36 sMade puP7
theorem puP8_ok : PuOK Tryd.prog puP8 := PuOK.put puP7_ok (sMade_ok fun a l t H h => made_calls a l t H h.1 h.2.1 h.2.2.1 h.2.2.2)
def vPatch (s : Bytes) (d : DeltaV) (t : Tail) : Option AV := if dlR d ∧ deltaE d = 0 ∧ s.length ≤ 1099511627776 then some (.tup [.str (patchV s d).1, .int .i64 (patchV s d).2]) else none
def vApply (s : Bytes) (d : DeltaV) (t : Tail) : Option AV := if dlR d ∧ s.length ≤ 1099511627776 then some (.tup [.str (applyV s d).1, .int .i64 (applyV s d).2]) else none
theorem made_len {d : DeltaV} {s : Bytes} (hr : dlR d) (hE : deltaE d = 0) (hs : (s.length : Int) = d.old) : madeR s d.ps ∧ (madeV s d.ps).length ≤ 4194304 * d.ps.length ∧ d.ps.length ≤ 5000 := by
  obtain ⟨e1, e2, e3, e4, e5, e6, e7, e8⟩ := deltaE_ok hE
  obtain ⟨f1, f2, f3, f4, f5, f6⟩ := stepsV_ok e7
  have h := take_len_le (a := s) hs hr.2.2.2.2.2 f4 e2 d.ps.length
  rw [List.take_length] at h
  exact ⟨⟨hr.2.2.2.2, by omega, by rw [hs]; exact f4, f3⟩, h, f3⟩
set_option maxHeartbeats 1600000 in
theorem patch_calls (s : Bytes) (d : DeltaV) (t : Tail) (v : AV) (H : Heap) (h : vPatch s d t = some v) : ACalls Tryd.prog 41 [.str s, .agg (encDl d t)] H fun x H' => x = v ∧ H' = H := by
  obtain ⟨⟨hr, hE, hs⟩, rfl⟩ := some_if h
  have hR : Room = 1099511627776 := rfl
  have hv := patchV.eq_1 s d
  have hm := fun e => made_len (s := s) hr hE e
  have hq := fun e => sMade_eq s d.ps t (hm e).1
  by_cases c1 : (s.length : Int) = d.old
  · have k1 : decide (¬ (s.length : Int) = d.old) = false := decide_eq_false (by simpa using c1)
    by_cases c2 : sumOf s = d.osum
    · have k2 : decide (¬ sumOf s = d.osum) = false := decide_eq_false (by simpa using c2)
      have hq := hq c1
      obtain ⟨-, m1, m2⟩ := hm c1
      have hml : (madeV s d.ps).length ≤ 1099511627776 := by omega
      rw [if_neg (by simp [c1, c2])] at hv
      by_cases c3 : sumOf (madeV s d.ps) = d.nsum
      · have k3 : decide (¬ sumOf (madeV s d.ps) = d.nsum) = false := decide_eq_false (by simpa using c3)
        rw [if_neg (by simpa using c3)] at hv
        rw [hv]
        refine ACalls.of_code (X := { pure := puP8 }) puP8_ok Tryd.func41 (by kernel_rfl) rfl (by kernel_rfl) (Nat.le_of_ble_eq_true rfl) ?_
        simp -implicitDefEqProofs only [go_sem, tys, regs0, Nat.reduceEqDiff, Nat.reduceAdd, Nat.reduceLeDiff, Nat.reduceLT, Nat.reduceMul, Int.natCast_one, Int.natCast_zero, Int.reduceEq, Int.reduceLT, Int.reduceLE, Int.reduceAdd, Int.reduceSub, Int.reduceToNat, UInt8.reduceToNat, Tryd.f41, encDl]
        with_reducible refine nwC_intro fun id hid => ?_
        simp -implicitDefEqProofs only [go_sem, tys, regs0, Nat.reduceEqDiff, Nat.reduceAdd, Nat.reduceLeDiff, Nat.reduceLT, Nat.reduceMul, Int.natCast_one, Int.natCast_zero, Int.reduceEq, Int.reduceLT, Int.reduceLE, Int.reduceAdd, Int.reduceSub, Int.reduceToNat, UInt8.reduceToNat, puP8, puP7, puP6, puP5, puM, puN, pu0, sSum_eq, hR, hs, k1, k2, hq, hml, k3]
        exact Done.drop1 hid ⟨rfl, rfl⟩
      · have k3 : decide (¬ sumOf (madeV s d.ps) = d.nsum) = true := decide_eq_true c3
        rw [if_pos c3] at hv
        rw [hv]
        refine ACalls.of_code (X := { pure := puP8 }) puP8_ok Tryd.func41 (by kernel_rfl) rfl (by kernel_rfl) (Nat.le_of_ble_eq_true rfl) ?_
        simp -implicitDefEqProofs only [go_sem, tys, regs0, Nat.reduceEqDiff, Nat.reduceAdd, Nat.reduceLeDiff, Nat.reduceLT, Nat.reduceMul, Int.natCast_one, Int.natCast_zero, Int.reduceEq, Int.reduceLT, Int.reduceLE, Int.reduceAdd, Int.reduceSub, Int.reduceToNat, UInt8.reduceToNat, Tryd.f41, encDl]
        with_reducible refine nwC_intro fun id hid => ?_
        simp -implicitDefEqProofs only [go_sem, tys, regs0, Nat.reduceEqDiff, Nat.reduceAdd, Nat.reduceLeDiff, Nat.reduceLT, Nat.reduceMul, Int.natCast_one, Int.natCast_zero, Int.reduceEq, Int.reduceLT, Int.reduceLE, Int.reduceAdd, Int.reduceSub, Int.reduceToNat, UInt8.reduceToNat, puP8, puP7, puP6, puP5, puM, puN, pu0, sSum_eq, hR, hs, k1, k2, hq, hml, k3]
        exact Done.drop1 hid ⟨rfl, rfl⟩
    · have k2 : decide (¬ sumOf s = d.osum) = true := decide_eq_true c2
      rw [if_pos (.inr c2)] at hv
      rw [hv]
      refine ACalls.of_code (X := { pure := puP8 }) puP8_ok Tryd.func41 (by kernel_rfl) rfl (by kernel_rfl) (Nat.le_of_ble_eq_true rfl) ?_
      simp -implicitDefEqProofs only [go_sem, tys, regs0, Nat.reduceEqDiff, Nat.reduceAdd, Nat.reduceLeDiff, Nat.reduceLT, Nat.reduceMul, Int.natCast_one, Int.natCast_zero, Int.reduceEq, Int.reduceLT, Int.reduceLE, Int.reduceAdd, Int.reduceSub, Int.reduceToNat, UInt8.reduceToNat, Tryd.f41, encDl]
      with_reducible refine nwC_intro fun id hid => ?_
      simp -implicitDefEqProofs only [go_sem, tys, regs0, Nat.reduceEqDiff, Nat.reduceAdd, Nat.reduceLeDiff, Nat.reduceLT, Nat.reduceMul, Int.natCast_one, Int.natCast_zero, Int.reduceEq, Int.reduceLT, Int.reduceLE, Int.reduceAdd, Int.reduceSub, Int.reduceToNat, UInt8.reduceToNat, puP8, puP7, puP6, puP5, puM, puN, pu0, sSum_eq, hR, hs, k1, k2]
      exact Done.drop1 hid ⟨rfl, rfl⟩
  · have k1 : decide (¬ (s.length : Int) = d.old) = true := decide_eq_true c1
    rw [if_pos (.inl c1)] at hv
    rw [hv]
    refine ACalls.of_code (X := { pure := puP8 }) puP8_ok Tryd.func41 (by kernel_rfl) rfl (by kernel_rfl) (Nat.le_of_ble_eq_true rfl) ?_
    simp -implicitDefEqProofs only [go_sem, tys, regs0, Nat.reduceEqDiff, Nat.reduceAdd, Nat.reduceLeDiff, Nat.reduceLT, Nat.reduceMul, Int.natCast_one, Int.natCast_zero, Int.reduceEq, Int.reduceLT, Int.reduceLE, Int.reduceAdd, Int.reduceSub, Int.reduceToNat, UInt8.reduceToNat, Tryd.f41, encDl]
    with_reducible refine nwC_intro fun id hid => ?_
    simp -implicitDefEqProofs only [go_sem, tys, regs0, Nat.reduceEqDiff, Nat.reduceAdd, Nat.reduceLeDiff, Nat.reduceLT, Nat.reduceMul, Int.natCast_one, Int.natCast_zero, Int.reduceEq, Int.reduceLT, Int.reduceLE, Int.reduceAdd, Int.reduceSub, Int.reduceToNat, UInt8.reduceToNat, puP8, puP7, puP6, puP5, puM, puN, pu0, sSum_eq, hR, hs, k1]
    exact Done.drop1 hid ⟨rfl, rfl⟩
def ot14 : OT := .seg [2] (.or (.seg [0, 1, 3, 4] .done) (.seg [3, 0, 1, 4] .done))
set_option maxHeartbeats 1600000 in
theorem apply_calls (s : Bytes) (d : DeltaV) (t : Tail) (v : AV) (H : Heap) (h : vApply s d t = some v) : ACalls Tryd.prog 27 [.str s, .agg (encDl d t)] H fun x H' => x = v ∧ H' = H := by
  obtain ⟨⟨hr, hs⟩, rfl⟩ := some_if h
  have hR : Room = 1099511627776 := rfl
  have hc := sCheck_eq d t hr
  unfold encDl at hc
  have hav := applyV.eq_1 s d
  by_cases hE : ¬ deltaE d = 0
  · have hE2 : decide (¬ deltaE d = 0) = true := decide_eq_true hE
    rw [if_pos hE] at hav
    rw [hav]
    refine ACalls.of_code (X := { pure := puP5, ms := fun t => decide (t = 7), tree := fun n => if n = 14 then some ot14 else none }) puP5_ok Tryd.func27 (by kernel_rfl) rfl (by kernel_rfl) (Nat.le_of_ble_eq_true rfl) ?_
    simp -implicitDefEqProofs only [go_sem, tys, regs0, Nat.reduceEqDiff, Nat.reduceAdd, Nat.reduceLeDiff, Nat.reduceLT, Nat.reduceMul, Int.natCast_one, Int.natCast_zero, Int.reduceEq, Int.reduceLT, Int.reduceLE, Int.reduceAdd, Int.reduceSub, Int.reduceToNat, UInt8.reduceToNat, Tryd.f27, encDl]
    with_reducible refine nwC_intro fun idd hidd => ?_
    simp -implicitDefEqProofs only [go_sem, tys, regs0, Nat.reduceEqDiff, Nat.reduceAdd, Nat.reduceLeDiff, Nat.reduceLT, Nat.reduceMul, Int.natCast_one, Int.natCast_zero, Int.reduceEq, Int.reduceLT, Int.reduceLE, Int.reduceAdd, Int.reduceSub, Int.reduceToNat, UInt8.reduceToNat, puP5, hc, hE2]
    exact Done.drop1 hidd ⟨rfl, rfl⟩
  have hE : deltaE d = 0 := Decidable.not_not.1 hE
  rw [hE] at hc
  rw [if_neg (by simpa using hE)] at hav
  rw [hav]
  have hv := patchV.eq_1 s d
  by_cases c1 : (s.length : Int) = d.old
  · have k1 : decide (¬ (s.length : Int) = d.old) = false := decide_eq_false (by simpa using c1)
    by_cases c2 : sumOf s = d.osum
    · have k2 : decide (¬ sumOf s = d.osum) = false := decide_eq_false (by simpa using c2)
      obtain ⟨mr, m1, m2⟩ := made_len (s := s) hr hE c1
      obtain ⟨e1, e2, e3, e4, e5, e6, e7, e8⟩ := deltaE_ok hE
      obtain ⟨f1, f2, f3, f4, f5, f6⟩ := stepsV_ok e7
      have hml : (madeV s d.ps).length ≤ 1099511627776 := by omega
      rw [if_neg (by simp [c1, c2])] at hv
      rw [hv]
      refine ACalls.of_code (X := { pure := puP5, ms := fun t => decide (t = 7), tree := fun n => if n = 14 then some ot14 else none }) puP5_ok Tryd.func27 (by kernel_rfl) rfl (by kernel_rfl) (Nat.le_of_ble_eq_true rfl) ?_
      simp -implicitDefEqProofs only [go_sem, tys, regs0, Nat.reduceEqDiff, Nat.reduceAdd, Nat.reduceLeDiff, Nat.reduceLT, Nat.reduceMul, Int.natCast_one, Int.natCast_zero, Int.reduceEq, Int.reduceLT, Int.reduceLE, Int.reduceAdd, Int.reduceSub, Int.reduceToNat, UInt8.reduceToNat, Tryd.f27, encDl]
      with_reducible refine nwC_intro fun idd hidd => ?_
      simp -implicitDefEqProofs only [go_sem, tys, regs0, Nat.reduceEqDiff, Nat.reduceAdd, Nat.reduceLeDiff, Nat.reduceLT, Nat.reduceMul, Int.natCast_one, Int.natCast_zero, Int.reduceEq, Int.reduceLT, Int.reduceLE, Int.reduceAdd, Int.reduceSub, Int.reduceToNat, UInt8.reduceToNat, puP5, hc]
      rw [acode_draw]
      simp -implicitDefEqProofs only [go_sem, tys, regs0, Nat.reduceEqDiff, Nat.reduceAdd, Nat.reduceLeDiff, Nat.reduceLT, Nat.reduceMul, Int.natCast_one, Int.natCast_zero, Int.reduceEq, Int.reduceLT, Int.reduceLE, Int.reduceAdd, Int.reduceSub, Int.reduceToNat, UInt8.reduceToNat, puP5, puM, puN, pu0, sSum_eq, hR, hs, k1, k2]
      have hF : H.Sub (H.put idd (.cells (encDl d t))) := (Heap.Sub.rfl' H).put' hidd _
      have hB0 := put_same H idd (.cells (encDl d t))
      have hput : H.put idd (.cells (encDl d t)) = H.put idd (.cells [.int .i64 d.old, .int .i64 d.new, .str d.osum, .str d.nsum, .sl (d.ps.map encPc) t]) := rfl
      rw [← hput]
      generalize H.put idd (.cells (encDl d t)) = F at *
      unfold encDl at hB0
      with_reducible refine nwT_intro fun b hb => ?_
      have hnew := BldG.new (Heap.Sub.rfl' F) hb
      have hd0 := hnew.sub _ _ hB0
      simp -implicitDefEqProofs only [go_sem, tys, regs0, Nat.reduceEqDiff, Nat.reduceAdd, Nat.reduceLeDiff, Nat.reduceLT, Nat.reduceMul, Int.natCast_one, Int.natCast_zero, Int.reduceEq, Int.reduceLT, Int.reduceLE, Int.reduceAdd, Int.reduceSub, Int.reduceToNat, UInt8.reduceToNat, hd0]
      refine aloop_intro (σ := Nat) (fun i => [(0, .str s), (3, .ptr idd 0), (7, bldP b), (28, .sl (d.ps.map encPc) t), (29, .int .i64 d.ps.length), (30, .int .i64 i)])
        (fun i G => BldOK F G b (madeV s (d.ps.take i)) ∧ i ≤ d.ps.length) (fun i => d.ps.length - i) 0 ?_ ?_ ?_
      · simp -implicitDefEqProofs only [go_sem, tys, regs0, Nat.reduceEqDiff, Nat.reduceAdd, Nat.reduceLeDiff, Nat.reduceLT, Nat.reduceMul, Int.natCast_one, Int.natCast_zero, Int.reduceEq, Int.reduceLT, Int.reduceLE, Int.reduceAdd, Int.reduceSub, Int.reduceToNat, UInt8.reduceToNat]
      · exact ⟨hnew, by omega⟩
      · intro i r G hv hI
        have h0 := hv.1
        have h3 := hv.2.1
        have h7 := hv.2.2.1
        have h28 := hv.2.2.2.1
        have h29 := hv.2.2.2.2.1
        have h30 := hv.2.2.2.2.2.1
        have hB := hI.1
        have hi := hI.2
        clear hv hI
        simp -implicitDefEqProofs only [go_sem, tys, regs0, Nat.reduceEqDiff, Nat.reduceAdd, Nat.reduceLeDiff, Nat.reduceLT, Nat.reduceMul, Int.natCast_one, Int.natCast_zero, Int.reduceEq, Int.reduceLT, Int.reduceLE, Int.reduceAdd, Int.reduceSub, Int.reduceToNat, UInt8.reduceToNat, h0, h3, h7, h28, h29, h30]
        refine cnd_intro (fun g => ?_) (fun g => ?_)
        · simp only [decide_eq_true_eq] at g
          obtain ⟨p, hp⟩ : ∃ p, d.ps[i]? = some p := getD_get' (by omega)
          have hm := List.mem_of_getElem? hp
          have hrp := hr.2.2.2.2.2 p hm
          have hpe := f4 p hm
          rw [← c1] at hpe
          have hlen := take_len_le (a := s) c1 hr.2.2.2.2.2 f4 e2 i
          have hms := madeV_succ (a := s) hp
          have hml := pcMade_len hpe
          have hms2 := pcSize_ok hrp (by omega) hpe
          have hpm := pcMade.eq_1 s p
          unfold pcE at hpe
          simp -implicitDefEqProofs only [go_sem, tys, regs0, Nat.reduceEqDiff, Nat.reduceAdd, Nat.reduceLeDiff, Nat.reduceLT, Nat.reduceMul, Int.natCast_one, Int.natCast_zero, Int.reduceEq, Int.reduceLT, Int.reduceLE, Int.reduceAdd, Int.reduceSub, Int.reduceToNat, UInt8.reduceToNat, h0, h3, h7, h28, h29, h30, hp, encPc]
          with_reducible refine nwC_intro fun id hid => ?_
          have hB2 := hB.put hid (.cells [.int .i64 p.at_, .int .i64 p.long, .str p.data])
          simp -implicitDefEqProofs only [go_sem, tys, regs0, Nat.reduceEqDiff, Nat.reduceAdd, Nat.reduceLeDiff, Nat.reduceLT, Nat.reduceMul, Int.natCast_one, Int.natCast_zero, Int.reduceEq, Int.reduceLT, Int.reduceLE, Int.reduceAdd, Int.reduceSub, Int.reduceToNat, UInt8.reduceToNat]
          refine cnd_intro (fun g2 => ?_) (fun g2 => ?_)
          · simp only [decide_eq_true_eq] at g2
            rw [if_pos g2] at hpm
            simp -implicitDefEqProofs only [go_sem, tys, regs0, Nat.reduceEqDiff, Nat.reduceAdd, Nat.reduceLeDiff, Nat.reduceLT, Nat.reduceMul, Int.natCast_one, Int.natCast_zero, Int.reduceEq, Int.reduceLT, Int.reduceLE, Int.reduceAdd, Int.reduceSub, Int.reduceToNat, UInt8.reduceToNat, h0, h3, h7, h28, h29, h30]
            refine writeString_k hB2 (by rw [← hpm]; omega) (fun G3 hG3 _ => ?_)
            rw [← hpm, ← hms] at hG3
            simp -implicitDefEqProofs (disch := omega) only [go_sem, tys, regs0, Nat.reduceEqDiff, Nat.reduceAdd, Nat.reduceLeDiff, Nat.reduceLT, Nat.reduceMul, Int.natCast_one, Int.natCast_zero, Int.reduceEq, Int.reduceLT, Int.reduceLE, Int.reduceAdd, Int.reduceSub, Int.reduceToNat, UInt8.reduceToNat, Go.IntWalk.i64_in, h0, h3, h7, h28, h29, h30]
            exact Again.mk (i + 1) (by simp -implicitDefEqProofs only [go_sem, tys, regs0, Nat.reduceEqDiff, Nat.reduceAdd, Nat.reduceLeDiff, Nat.reduceLT, Nat.reduceMul, Int.natCast_one, Int.natCast_zero, Int.reduceEq, Int.reduceLT, Int.reduceLE, Int.reduceAdd, Int.reduceSub, Int.reduceToNat, UInt8.reduceToNat, h0, h3, h7, h28, h29, h30]; exact rfl) ⟨hG3, by omega⟩ (by omega)
          · simp only [decide_eq_false_iff_not] at g2
            rw [if_neg g2] at hpm hpe
            have hx : 0 ≤ p.at_ ∧ 1 ≤ p.long ∧ p.at_ + p.long ≤ s.length := by
              split at hpe
              · omega
              · omega
            have hw : IntKind.i64.wrap (p.at_ + p.long) = p.at_ + p.long := Go.IntWalk.i64_in _ (by omega)
            simp -implicitDefEqProofs only [go_sem, tys, regs0, Nat.reduceEqDiff, Nat.reduceAdd, Nat.reduceLeDiff, Nat.reduceLT, Nat.reduceMul, Int.natCast_one, Int.natCast_zero, Int.reduceEq, Int.reduceLT, Int.reduceLE, Int.reduceAdd, Int.reduceSub, Int.reduceToNat, UInt8.reduceToNat, h0, h3, h7, h28, h29, h30, hw]
            refine ⟨⟨hx.1, by omega, hx.2.2⟩, ?_⟩
            refine writeString_k hB2 (by rw [← hpm]; omega) (fun G3 hG3 _ => ?_)
            rw [← hpm, ← hms] at hG3
            simp -implicitDefEqProofs (disch := omega) only [go_sem, tys, regs0, Nat.reduceEqDiff, Nat.reduceAdd, Nat.reduceLeDiff, Nat.reduceLT, Nat.reduceMul, Int.natCast_one, Int.natCast_zero, Int.reduceEq, Int.reduceLT, Int.reduceLE, Int.reduceAdd, Int.reduceSub, Int.reduceToNat, UInt8.reduceToNat, Go.IntWalk.i64_in, h0, h3, h7, h28, h29, h30]
            exact Again.mk (i + 1) (by simp -implicitDefEqProofs only [go_sem, tys, regs0, Nat.reduceEqDiff, Nat.reduceAdd, Nat.reduceLeDiff, Nat.reduceLT, Nat.reduceMul, Int.natCast_one, Int.natCast_zero, Int.reduceEq, Int.reduceLT, Int.reduceLE, Int.reduceAdd, Int.reduceSub, Int.reduceToNat, UInt8.reduceToNat, h0, h3, h7, h28, h29, h30]; exact rfl) ⟨hG3, by omega⟩ (by omega)
        · simp only [decide_eq_false_iff_not] at g
          have e : i = d.ps.length := by omega
          subst e
          rw [List.take_length] at hB
          have hBd := hB.sub _ _ hB0
          have hS : H.Sub G := fun j o hj => hB.sub j o (hF j o hj)
          simp -implicitDefEqProofs only [go_sem, tys, regs0, Nat.reduceEqDiff, Nat.reduceAdd, Nat.reduceLeDiff, Nat.reduceLT, Nat.reduceMul, Int.natCast_one, Int.natCast_zero, Int.reduceEq, Int.reduceLT, Int.reduceLE, Int.reduceAdd, Int.reduceSub, Int.reduceToNat, UInt8.reduceToNat, h0, h3, h7, h28, h29, h30]
          rw [acode_tree (t := ot14) rfl (by rfl)]
          by_cases c3 : sumOf (madeV s d.ps) = d.nsum
          · have k3 : decide (¬ sumOf (madeV s d.ps) = d.nsum) = false := decide_eq_false (by simpa using c3)
            rw [if_neg (by simpa using c3)]
            simp -implicitDefEqProofs only [go_sem, tys, regs0, Nat.reduceEqDiff, Nat.reduceAdd, Nat.reduceLeDiff, Nat.reduceLT, Nat.reduceMul, Int.natCast_one, Int.natCast_zero, Int.reduceEq, Int.reduceLT, Int.reduceLE, Int.reduceAdd, Int.reduceSub, Int.reduceToNat, UInt8.reduceToNat, h0, h3, h7, h28, h29, h30, ot14, stripO, hBd]
            refine ⟨?_, ?_⟩
            all_goals
              refine bldString_k hB (by omega) (fun e => by cases e) ?_
              simp -implicitDefEqProofs only [go_sem, tys, regs0, Nat.reduceEqDiff, Nat.reduceAdd, Nat.reduceLeDiff, Nat.reduceLT, Nat.reduceMul, Int.natCast_one, Int.natCast_zero, Int.reduceEq, Int.reduceLT, Int.reduceLE, Int.reduceAdd, Int.reduceSub, Int.reduceToNat, UInt8.reduceToNat, h0, h3, h7, h28, h29, h30, stripO, puP5, puM, puN, pu0, sSum_eq, hR, hml, hBd, k3]
              refine bldString_k hB (by omega) (fun e => by cases e) ?_
              simp -implicitDefEqProofs only [go_sem, tys, regs0, Nat.reduceEqDiff, Nat.reduceAdd, Nat.reduceLeDiff, Nat.reduceLT, Nat.reduceMul, Int.natCast_one, Int.natCast_zero, Int.reduceEq, Int.reduceLT, Int.reduceLE, Int.reduceAdd, Int.reduceSub, Int.reduceToNat, UInt8.reduceToNat, h0, h3, h7]
              exact Done.drop hS ⟨rfl, rfl⟩
          · have k3 : decide (¬ sumOf (madeV s d.ps) = d.nsum) = true := decide_eq_true c3
            rw [if_pos c3]
            simp -implicitDefEqProofs only [go_sem, tys, regs0, Nat.reduceEqDiff, Nat.reduceAdd, Nat.reduceLeDiff, Nat.reduceLT, Nat.reduceMul, Int.natCast_one, Int.natCast_zero, Int.reduceEq, Int.reduceLT, Int.reduceLE, Int.reduceAdd, Int.reduceSub, Int.reduceToNat, UInt8.reduceToNat, h0, h3, h7, h28, h29, h30, ot14, stripO, hBd]
            refine ⟨?_, ?_⟩
            all_goals
              refine bldString_k hB (by omega) (fun e => by cases e) ?_
              simp -implicitDefEqProofs only [go_sem, tys, regs0, Nat.reduceEqDiff, Nat.reduceAdd, Nat.reduceLeDiff, Nat.reduceLT, Nat.reduceMul, Int.natCast_one, Int.natCast_zero, Int.reduceEq, Int.reduceLT, Int.reduceLE, Int.reduceAdd, Int.reduceSub, Int.reduceToNat, UInt8.reduceToNat, h0, h3, h7, h28, h29, h30, stripO, puP5, puM, puN, pu0, sSum_eq, hR, hml, hBd, k3]
              exact Done.drop hS ⟨rfl, rfl⟩
    · have k2 : decide (¬ sumOf s = d.osum) = true := decide_eq_true c2
      rw [if_pos (.inr c2)] at hv
      rw [hv]
      refine ACalls.of_code (X := { pure := puP5, ms := fun t => decide (t = 7), tree := fun n => if n = 14 then some ot14 else none }) puP5_ok Tryd.func27 (by kernel_rfl) rfl (by kernel_rfl) (Nat.le_of_ble_eq_true rfl) ?_
      simp -implicitDefEqProofs only [go_sem, tys, regs0, Nat.reduceEqDiff, Nat.reduceAdd, Nat.reduceLeDiff, Nat.reduceLT, Nat.reduceMul, Int.natCast_one, Int.natCast_zero, Int.reduceEq, Int.reduceLT, Int.reduceLE, Int.reduceAdd, Int.reduceSub, Int.reduceToNat, UInt8.reduceToNat, Tryd.f27, encDl]
      with_reducible refine nwC_intro fun idd hidd => ?_
      simp -implicitDefEqProofs only [go_sem, tys, regs0, Nat.reduceEqDiff, Nat.reduceAdd, Nat.reduceLeDiff, Nat.reduceLT, Nat.reduceMul, Int.natCast_one, Int.natCast_zero, Int.reduceEq, Int.reduceLT, Int.reduceLE, Int.reduceAdd, Int.reduceSub, Int.reduceToNat, UInt8.reduceToNat, puP5, hc]
      rw [acode_draw]
      simp -implicitDefEqProofs only [go_sem, tys, regs0, Nat.reduceEqDiff, Nat.reduceAdd, Nat.reduceLeDiff, Nat.reduceLT, Nat.reduceMul, Int.natCast_one, Int.natCast_zero, Int.reduceEq, Int.reduceLT, Int.reduceLE, Int.reduceAdd, Int.reduceSub, Int.reduceToNat, UInt8.reduceToNat, puP5, puM, puN, pu0, sSum_eq, hR, hs, k1, k2]
      exact Done.drop1 hidd ⟨rfl, rfl⟩
  · have k1 : decide (¬ (s.length : Int) = d.old) = true := decide_eq_true c1
    rw [if_pos (.inl c1)] at hv
    rw [hv]
    refine ACalls.of_code (X := { pure := puP5, ms := fun t => decide (t = 7), tree := fun n => if n = 14 then some ot14 else none }) puP5_ok Tryd.func27 (by kernel_rfl) rfl (by kernel_rfl) (Nat.le_of_ble_eq_true rfl) ?_
    simp -implicitDefEqProofs only [go_sem, tys, regs0, Nat.reduceEqDiff, Nat.reduceAdd, Nat.reduceLeDiff, Nat.reduceLT, Nat.reduceMul, Int.natCast_one, Int.natCast_zero, Int.reduceEq, Int.reduceLT, Int.reduceLE, Int.reduceAdd, Int.reduceSub, Int.reduceToNat, UInt8.reduceToNat, Tryd.f27, encDl]
    with_reducible refine nwC_intro fun idd hidd => ?_
    simp -implicitDefEqProofs only [go_sem, tys, regs0, Nat.reduceEqDiff, Nat.reduceAdd, Nat.reduceLeDiff, Nat.reduceLT, Nat.reduceMul, Int.natCast_one, Int.natCast_zero, Int.reduceEq, Int.reduceLT, Int.reduceLE, Int.reduceAdd, Int.reduceSub, Int.reduceToNat, UInt8.reduceToNat, puP5, hc]
    rw [acode_draw]
    simp -implicitDefEqProofs only [go_sem, tys, regs0, Nat.reduceEqDiff, Nat.reduceAdd, Nat.reduceLeDiff, Nat.reduceLT, Nat.reduceMul, Int.natCast_one, Int.natCast_zero, Int.reduceEq, Int.reduceLT, Int.reduceLE, Int.reduceAdd, Int.reduceSub, Int.reduceToNat, UInt8.reduceToNat, puP5, puM, puN, pu0, sSum_eq, hR, hs, k1]
    exact Done.drop1 hidd ⟨rfl, rfl⟩
end Go.Proofs
