/- Walks: ends of lines; what becomes of three parts; functions whose answers are known. -/
import Derived.Test.YtnheonhmnepifaaDoorLN7
namespace Go.Proofs
open Go Go.Abs
set_option linter.unusedSimpArgs false
set_option linter.unusedVariables false
set_option maxRecDepth 20000
theorem hasSuffixL_calls (s : Bytes) (c : UInt8) (H : Heap) (hs : s.length ≤ 1099511627776) : ACalls Tryd.prog 110 [.str s, .str [c]] H fun x H' => x = .bool (decide (s.getLast? = some c)) ∧ H' = H := by
  by_cases h : s = []
  · subst h
    refine ACalls.of_code (X := { pure := pu0 }) pu0_ok Tryd.func110 (by kernel_rfl) rfl (by kernel_rfl) (Nat.le_of_ble_eq_true rfl) ?_
    simp -implicitDefEqProofs only [go_sem, tys, regs0, Nat.reduceEqDiff, Nat.reduceAdd, Nat.reduceLeDiff, Nat.reduceLT, Nat.reduceMul, Int.natCast_one, Int.natCast_zero, Int.reduceEq, Int.reduceLT, Int.reduceLE, Int.reduceAdd, Int.reduceSub, Int.reduceToNat, UInt8.reduceToNat, Tryd.f110]
    exact Done.now ⟨by simp, rfl⟩
  · obtain ⟨s', d, rfl⟩ : ∃ s' d, s = s' ++ [d] := ⟨s.dropLast, s.getLast h, (List.dropLast_concat_getLast h).symm⟩
    have hl : ((s' ++ [d]).length : Int) = (s'.length : Int) + 1 := by simp
    rw [List.length_append, List.length_singleton] at hs
    have y1 : decide ((1 : Int) ≤ (s'.length : Int) + 1) = true := decide_eq_true (by omega)
    have w1 : IntKind.i64.wrap ((s'.length : Int) + 1 - 1) = (s'.length : Int) := by rw [Go.IntWalk.i64_in _ (by omega)]; omega
    have l1 : (s'.length : Int) ≤ (s'.length : Int) + 1 := by omega
    have e1 : ((s' ++ [d]).take ((s'.length : Int) + 1).toNat).drop s'.length = [d] := by
      rw [show ((s'.length : Int) + 1).toNat = s'.length + 1 by omega, List.take_of_length_le (by simp)]
      simp
    refine ACalls.of_code (X := { pure := pu0 }) pu0_ok Tryd.func110 (by kernel_rfl) rfl (by kernel_rfl) (Nat.le_of_ble_eq_true rfl) ?_
    simp -implicitDefEqProofs only [go_sem, tys, regs0, Nat.reduceEqDiff, Nat.reduceAdd, Nat.reduceLeDiff, Nat.reduceLT, Nat.reduceMul, Int.natCast_one, Int.natCast_zero, Int.reduceEq, Int.reduceLT, Int.reduceLE, Int.reduceAdd, Int.reduceSub, Int.reduceToNat, UInt8.reduceToNat, Tryd.f110, hl, y1, w1, l1, e1, Int.toNat_natCast, Int.le_refl]
    refine Done.now ⟨?_, rfl⟩
    simp
def sHasS : List AV → Option AV := fn2 .str .str fun s p => (one1 p).bind fun c => if s.length ≤ 1099511627776 then some (.bool (decide (s.getLast? = some c))) else none
theorem sHasS_eq (s : Bytes) (c : UInt8) (h : s.length ≤ 1099511627776) : sHasS [.str s, .str [c]] = some (.bool (decide (s.getLast? = some c))) := by
  unfold sHasS
  rw [fn2_eq, Rd.str_eq, Rd.str_eq]
  simp only [Option.bind_some, one1_eq, if_pos h]
theorem sHasS_ok {P : Program} {f : FuncId} (h : ∀ (s : Bytes) (c : UInt8) H, s.length ≤ 1099511627776 → ACalls P f [.str s, .str [c]] H fun x H' => x = .bool (decide (s.getLast? = some c)) ∧ H' = H) : ∀ xs v, sHasS xs = some v → ∀ H, ACalls P f xs H fun x H' => x = v ∧ H' = H := by
  intro xs v hv H
  obtain ⟨x, y, p, q, rfl, h1, h2, h3⟩ := fn2_some hv
  obtain ⟨c, rfl, h3⟩ := one_of h3
  cases Rd.str_some h1
  cases Rd.str_some h2
  obtain ⟨h4, rfl⟩ := some_if h3
  exact h p c H h4
def puH1 : Pures := putP 110 sHasS pu0
theorem puH1_ok : PuOK Tryd.prog puH1 := .put .zero (sHasS_ok hasSuffixL_calls)
theorem hasSuffix_calls (s : Bytes) (c : UInt8) (H : Heap) (hs : s.length ≤ 1099511627776) : ACalls Tryd.prog 63 [.str s, .str [c]] H fun x H' => x = .bool (decide (s.getLast? = some c)) ∧ H' = H := by
  have q := sHasS_eq s c hs
  refine ACalls.of_code (X := { pure := puH1 }) puH1_ok Tryd.func63 (by kernel_rfl) rfl (by kernel_rfl) (Nat.le_of_ble_eq_true rfl) ?_
  simp -implicitDefEqProofs only [go_sem, tys, regs0, Nat.reduceEqDiff, Nat.reduceAdd, Nat.reduceLeDiff, Nat.reduceLT, Nat.reduceMul, Int.natCast_one, Int.natCast_zero, Int.reduceEq, Int.reduceLT, Int.reduceLE, Int.reduceAdd, Int.reduceSub, Int.reduceToNat, UInt8.reduceToNat, Tryd.f63, puH1, q]
  exact Done.now ⟨rfl, rfl⟩
def puH2 : Pures := putP 63 sHasS puH1
theorem puH2_ok : PuOK Tryd.prog puH2 := .put puH1_ok (sHasS_ok hasSuffix_calls)
theorem ended_calls (s : Bytes) (H : Heap) (hs : s.length ≤ 1099511627776) : ACalls Tryd.prog 111 [.str s] H fun x H' => x = .str (endedV s) ∧ H' = H := by
  have q := sHasS_eq s 10 hs
  have hv := endedV.eq_1 s
  by_cases c1 : s = []
  · have y1 : decide (¬ s = []) = false := decide_eq_false (by simpa using c1)
    rw [if_neg (by simp [c1])] at hv
    refine ACalls.of_code (X := { pure := puH2 }) puH2_ok Tryd.func111 (by kernel_rfl) rfl (by kernel_rfl) (Nat.le_of_ble_eq_true rfl) ?_
    simp -implicitDefEqProofs only [go_sem, tys, regs0, Nat.reduceEqDiff, Nat.reduceAdd, Nat.reduceLeDiff, Nat.reduceLT, Nat.reduceMul, Int.natCast_one, Int.natCast_zero, Int.reduceEq, Int.reduceLT, Int.reduceLE, Int.reduceAdd, Int.reduceSub, Int.reduceToNat, UInt8.reduceToNat, Tryd.f111, y1]
    exact Done.now ⟨by rw [hv], rfl⟩
  have y1 : decide (¬ s = []) = true := decide_eq_true c1
  by_cases c2 : s.getLast? = some 10
  · have y2 : decide (s.getLast? = some 10) = true := decide_eq_true c2
    rw [if_neg (by simp [c2])] at hv
    refine ACalls.of_code (X := { pure := puH2 }) puH2_ok Tryd.func111 (by kernel_rfl) rfl (by kernel_rfl) (Nat.le_of_ble_eq_true rfl) ?_
    simp -implicitDefEqProofs only [go_sem, tys, regs0, Nat.reduceEqDiff, Nat.reduceAdd, Nat.reduceLeDiff, Nat.reduceLT, Nat.reduceMul, Int.natCast_one, Int.natCast_zero, Int.reduceEq, Int.reduceLT, Int.reduceLE, Int.reduceAdd, Int.reduceSub, Int.reduceToNat, UInt8.reduceToNat, Tryd.f111, puH2, y1, q, y2]
    exact Done.now ⟨by rw [hv], rfl⟩
  · have y2 : decide (s.getLast? = some 10) = false := decide_eq_false c2
    rw [if_pos ⟨c1, c2⟩] at hv
    refine ACalls.of_code (X := { pure := puH2 }) puH2_ok Tryd.func111 (by kernel_rfl) rfl (by kernel_rfl) (Nat.le_of_ble_eq_true rfl) ?_
    simp -implicitDefEqProofs (disch := (first | omega | (simp only [List.length_append, List.length_cons, List.length_nil]; omega))) only [go_sem, binS_addD, tys, regs0, Nat.reduceEqDiff, Nat.reduceAdd, Nat.reduceLeDiff, Nat.reduceLT, Nat.reduceMul, Int.natCast_one, Int.natCast_zero, Int.reduceEq, Int.reduceLT, Int.reduceLE, Int.reduceAdd, Int.reduceSub, Int.reduceToNat, UInt8.reduceToNat, Go.IntWalk.i64_in, Tryd.f111, puH2, y1, q, y2]
    exact Done.now ⟨by rw [hv], rfl⟩

theorem endedR_calls (s : Bytes) (H : Heap) (hs : s.length ≤ 1099511627776) : ACalls Tryd.prog 62 [.str s] H fun x H' => x = .str (endedV s) ∧ H' = H := by
  have q := sHasS_eq s 10 hs
  have hv := endedV.eq_1 s
  by_cases c1 : s = []
  · have y1 : decide (¬ s = []) = false := decide_eq_false (by simpa using c1)
    rw [if_neg (by simp [c1])] at hv
    refine ACalls.of_code (X := { pure := puH2 }) puH2_ok Tryd.func62 (by kernel_rfl) rfl (by kernel_rfl) (Nat.le_of_ble_eq_true rfl) ?_
    simp -implicitDefEqProofs only [go_sem, tys, regs0, Nat.reduceEqDiff, Nat.reduceAdd, Nat.reduceLeDiff, Nat.reduceLT, Nat.reduceMul, Int.natCast_one, Int.natCast_zero, Int.reduceEq, Int.reduceLT, Int.reduceLE, Int.reduceAdd, Int.reduceSub, Int.reduceToNat, UInt8.reduceToNat, Tryd.f62, y1]
    exact Done.now ⟨by rw [hv], rfl⟩
  have y1 : decide (¬ s = []) = true := decide_eq_true c1
  by_cases c2 : s.getLast? = some 10
  · have y2 : decide (s.getLast? = some 10) = true := decide_eq_true c2
    rw [if_neg (by simp [c2])] at hv
    refine ACalls.of_code (X := { pure := puH2 }) puH2_ok Tryd.func62 (by kernel_rfl) rfl (by kernel_rfl) (Nat.le_of_ble_eq_true rfl) ?_
    simp -implicitDefEqProofs only [go_sem, tys, regs0, Nat.reduceEqDiff, Nat.reduceAdd, Nat.reduceLeDiff, Nat.reduceLT, Nat.reduceMul, Int.natCast_one, Int.natCast_zero, Int.reduceEq, Int.reduceLT, Int.reduceLE, Int.reduceAdd, Int.reduceSub, Int.reduceToNat, UInt8.reduceToNat, Tryd.f62, puH2, y1, q, y2]
    exact Done.now ⟨by rw [hv], rfl⟩
  · have y2 : decide (s.getLast? = some 10) = false := decide_eq_false c2
    rw [if_pos ⟨c1, c2⟩] at hv
    refine ACalls.of_code (X := { pure := puH2 }) puH2_ok Tryd.func62 (by kernel_rfl) rfl (by kernel_rfl) (Nat.le_of_ble_eq_true rfl) ?_
    simp -implicitDefEqProofs (disch := (first | omega | (simp only [List.length_append, List.length_cons, List.length_nil]; omega))) only [go_sem, binS_addD, tys, regs0, Nat.reduceEqDiff, Nat.reduceAdd, Nat.reduceLeDiff, Nat.reduceLT, Nat.reduceMul, Int.natCast_one, Int.natCast_zero, Int.reduceEq, Int.reduceLT, Int.reduceLE, Int.reduceAdd, Int.reduceSub, Int.reduceToNat, UInt8.reduceToNat, Go.IntWalk.i64_in, Tryd.f62, puH2, y1, q, y2]
    exact Done.now ⟨by rw [hv], rfl⟩

def sEnded : List AV → Option AV := fn1 .str fun s => if s.length ≤ 1099511627776 then some (.str (endedV s)) else none
theorem sEnded_eq (s : Bytes) (h : s.length ≤ 1099511627776) : sEnded [.str s] = some (.str (endedV s)) := by
  unfold sEnded
  rw [fn1_eq, Rd.str_eq]
  simp only [Option.bind_some, if_pos h]
theorem sEnded_ok {P : Program} {f : FuncId} (h : ∀ s H, s.length ≤ 1099511627776 → ACalls P f [.str s] H fun x H' => x = .str (endedV s) ∧ H' = H) : ∀ xs v, sEnded xs = some v → ∀ H, ACalls P f xs H fun x H' => x = v ∧ H' = H := by
  intro xs v hv H
  obtain ⟨x, s, rfl, h1, h2⟩ := fn1_some hv
  cases Rd.str_some h1
  obtain ⟨h3, rfl⟩ := some_if h2
  exact h s H h3
def puH3 : Pures := putP 111 sEnded (putP 62 sEnded (putP 61 sJoin pu0))
theorem sJoin_ok : ∀ xs v, sJoin xs = some v → ∀ H, ACalls Tryd.prog 61 xs H fun x H' => x = v ∧ H' = H := by
  intro xs v hv H
  obtain ⟨x, y, p, q, rfl, h1, h2, h3⟩ := fn2_some hv
  obtain ⟨⟨rfl, hl, hb⟩, rfl⟩ := some_if h3
  obtain ⟨t, rfl⟩ := Rd.list_some (enc := encS) (fun _ _ => decS_some) h1
  cases Rd.str_some h2
  exact join_calls _ _ H hl hb
theorem puH3_ok : PuOK Tryd.prog puH3 := .put (.put (.put .zero sJoin_ok) (sEnded_ok endedR_calls)) (sEnded_ok ended_calls)
theorem settle_calls (s a b : Bytes) (H : Heap) (hs : s.length ≤ 1099511627776) (ha : a.length ≤ 1099511627776) (hb : b.length ≤ 1099511627776) :
    ACalls Tryd.prog 68 [.str s, .str a, .str b] H fun x H' => x = .tup [.str (settleV s a b).1, .bool (settleV s a b).2] ∧ H' = H := by
  have hv := settleV.eq_1 s a b
  by_cases c1 : a = s
  · have y1 : decide (a = s) = true := decide_eq_true c1
    rw [if_pos c1] at hv
    refine ACalls.of_code (X := { pure := puH3 }) puH3_ok Tryd.func68 (by kernel_rfl) rfl (by kernel_rfl) (Nat.le_of_ble_eq_true rfl) ?_
    simp -implicitDefEqProofs only [go_sem, tys, regs0, Nat.reduceEqDiff, Nat.reduceAdd, Nat.reduceLeDiff, Nat.reduceLT, Nat.reduceMul, Int.natCast_one, Int.natCast_zero, Int.reduceEq, Int.reduceLT, Int.reduceLE, Int.reduceAdd, Int.reduceSub, Int.reduceToNat, UInt8.reduceToNat, Tryd.f68, y1]
    exact Done.now ⟨by rw [hv], rfl⟩
  have y1 : decide (a = s) = false := decide_eq_false c1
  rw [if_neg c1] at hv
  by_cases c2 : b = s
  · have y2 : decide (b = s) = true := decide_eq_true c2
    rw [if_pos (.inl c2)] at hv
    refine ACalls.of_code (X := { pure := puH3 }) puH3_ok Tryd.func68 (by kernel_rfl) rfl (by kernel_rfl) (Nat.le_of_ble_eq_true rfl) ?_
    simp -implicitDefEqProofs only [go_sem, tys, regs0, Nat.reduceEqDiff, Nat.reduceAdd, Nat.reduceLeDiff, Nat.reduceLT, Nat.reduceMul, Int.natCast_one, Int.natCast_zero, Int.reduceEq, Int.reduceLT, Int.reduceLE, Int.reduceAdd, Int.reduceSub, Int.reduceToNat, UInt8.reduceToNat, Tryd.f68, y1, y2]
    exact Done.now ⟨by rw [hv], rfl⟩
  have y2 : decide (b = s) = false := decide_eq_false c2
  by_cases c3 : a = b
  · have y3 : decide (a = b) = true := decide_eq_true c3
    rw [if_pos (.inr c3)] at hv
    refine ACalls.of_code (X := { pure := puH3 }) puH3_ok Tryd.func68 (by kernel_rfl) rfl (by kernel_rfl) (Nat.le_of_ble_eq_true rfl) ?_
    simp -implicitDefEqProofs only [go_sem, tys, regs0, Nat.reduceEqDiff, Nat.reduceAdd, Nat.reduceLeDiff, Nat.reduceLT, Nat.reduceMul, Int.natCast_one, Int.natCast_zero, Int.reduceEq, Int.reduceLT, Int.reduceLE, Int.reduceAdd, Int.reduceSub, Int.reduceToNat, UInt8.reduceToNat, Tryd.f68, y1, y2, y3]
    exact Done.now ⟨by rw [hv], rfl⟩
  have y3 : decide (a = b) = false := decide_eq_false c3
  rw [if_neg (by simp [c2, c3])] at hv
  have q1 := sEnded_eq a ha
  have q2 := sEnded_eq b hb
  have l1 := endedV_len a
  have l2 := endedV_len b
  refine ACalls.of_code (X := { pure := puH3 }) puH3_ok Tryd.func68 (by kernel_rfl) rfl (by kernel_rfl) (Nat.le_of_ble_eq_true rfl) ?_
  simp -implicitDefEqProofs (disch := (first | omega | (simp only [List.length_append, List.length_cons, List.length_nil]; omega))) only [go_sem, binS_addD, tys, regs0, Nat.reduceEqDiff, Nat.reduceAdd, Nat.reduceLeDiff, Nat.reduceLT, Nat.reduceMul, Int.natCast_one, Int.natCast_zero, Int.reduceEq, Int.reduceLT, Int.reduceLE, Int.reduceAdd, Int.reduceSub, Int.reduceToNat, UInt8.reduceToNat, Go.IntWalk.i64_in, Tryd.f68, puH3, q1, q2, y1, y2, y3]
  exact Done.now ⟨by rw [hv]; rfl, rfl⟩
def sSettle : List AV → Option AV := fn3 .str .str .str fun s a b => if s.length ≤ 1099511627776 ∧ a.length ≤ 1099511627776 ∧ b.length ≤ 1099511627776 then some (.tup [.str (settleV s a b).1, .bool (settleV s a b).2]) else none
theorem sSettle_eq (s a b : Bytes) (hs : s.length ≤ 1099511627776) (ha : a.length ≤ 1099511627776) (hb : b.length ≤ 1099511627776) : sSettle [.str s, .str a, .str b] = some (.tup [.str (settleV s a b).1, .bool (settleV s a b).2]) := by
  unfold sSettle
  rw [fn3_eq, Rd.str_eq, Rd.str_eq, Rd.str_eq]
  simp only [Option.bind_some, if_pos (And.intro hs (And.intro ha hb))]
theorem sSettle_ok : ∀ xs v, sSettle xs = some v → ∀ H, ACalls Tryd.prog 68 xs H fun x H' => x = v ∧ H' = H := by
  intro xs v hv H
  obtain ⟨x, y, z, p, q, r, rfl, h1, h2, h3, h4⟩ := fn3_some hv
  cases Rd.str_some h1
  cases Rd.str_some h2
  cases Rd.str_some h3
  obtain ⟨⟨h5, h6, h7⟩, rfl⟩ := some_if h4
  exact settle_calls p q r H h5 h6 h7
def decP : List AV → Option (Nat × Nat)
  | [.int .i64 a, .int .i64 b] => if 0 ≤ a ∧ 0 ≤ b then some (a.toNat, b.toNat) else none
  | _ => none
theorem decP_enc (p : Nat × Nat) : decP (encP p) = some p := by simp [decP, encP]
theorem decP_some {c : List AV} {p : Nat × Nat} (h : decP c = some p) : c = encP p := by
  unfold decP at h
  split at h
  · split at h
    · rename_i hh
      cases h
      unfold encP
      rw [Int.toNat_of_nonneg hh.1, Int.toNat_of_nonneg hh.2]
    · cases h
  · cases h
def sPlc : List AV → Option AV := fn2 (Rd.list decP) (.int .i64) fun l n => if 0 ≤ n ∧ n ≤ 1000 ∧ l.length ≤ 1000 ∧ (∀ p ∈ l, p.1 < n.toNat) then some (.sl ((plcV n.toNat l).map encI) .unk) else none
theorem sPlc_eq (l : List (Nat × Nat)) (n : Nat) (t : Tail) (hn : n ≤ 1000) (hl : l.length ≤ 1000) (hm : ∀ p ∈ l, p.1 < n) : sPlc [.sl (l.map encP) t, .int .i64 (n : Int)] = some (.sl ((plcV n l).map encI) .unk) := by
  unfold sPlc
  rw [fn2_eq, Rd.list_eq decP_enc, Rd.int_eq]
  simp only [Option.bind_some, Int.toNat_natCast]
  rw [if_pos ⟨by omega, by omega, hl, hm⟩]
theorem sPlc_ok : ∀ xs v, sPlc xs = some v → ∀ H, ACalls Tryd.prog 66 xs H fun x H' => x = v ∧ H' = H := by
  intro xs v hv H
  obtain ⟨x, y, l, n, rfl, h1, h2, h3⟩ := fn2_some hv
  cases Rd.int_some h2
  obtain ⟨t, rfl⟩ := Rd.list_some (fun _ _ => decP_some) h1
  obtain ⟨⟨h4, h5, h6, h7⟩, rfl⟩ := some_if h3
  have := places_calls l n.toNat t H (by omega) h6 h7
  rwa [Int.toNat_of_nonneg h4] at this
/-- All that merging calls. -/
def puZ : Pures := putP 68 sSettle (putP 66 sPlc (putP 16 sTold (putP 13 sLinesE (putP 14 sCommon (putP 59 sFirst
  (putP 56 sLines (putP 52 sLines (putP 15 sLines (putP 12 sLandD puH3)))))))))
theorem puZ_ok : PuOK Tryd.prog puZ := .put (.put (.put (.put (.put (.put (.put (.put (.put (.put puH3_ok sLandD_ok) (sLines_ok linesL_calls)) (sLines_ok linesOfR_calls)) (sLines_ok linesOfD_calls)) (sFirst_ok first_calls)) (sCommon_ok pairs_calls)) sLinesE_ok) sTold_ok) sPlc_ok) sSettle_ok
end Go.Proofs
