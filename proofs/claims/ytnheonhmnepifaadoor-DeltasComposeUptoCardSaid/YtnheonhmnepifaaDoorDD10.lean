/- Walks: Cost, Fresh, Tidy, Patch. -/
import Derived.Test.YtnheonhmnepifaaDoorDD9
import Derived.Test.YtnheonhmnepifaaDoorDD5
namespace Go.Proofs
open Go Go.Abs
set_option linter.unusedSimpArgs false
set_option linter.unusedVariables false
set_option maxRecDepth 20000
def sDl (f : DeltaV → Tail → Option AV) : List AV → Option AV := fn1 (Rd.agg decDl) fun p => f p.1 p.2
theorem sDl_eq (f : DeltaV → Tail → Option AV) (d : DeltaV) (t : Tail) : sDl f [.agg (encDl d t)] = f d t := by
  show (decDl (encDl d t)).bind _ = _
  rw [decDl_enc]
  rfl
theorem sDl_ok {P : Program} {f : FuncId} {g : DeltaV → Tail → Option AV} (h : ∀ d t v H, g d t = some v → ACalls P f [.agg (encDl d t)] H fun x H' => x = v ∧ H' = H) : ∀ xs v, sDl g xs = some v → ∀ H, ACalls P f xs H fun x H' => x = v ∧ H' = H := by
  intro xs v hv H
  obtain ⟨x, p, rfl, h1, h2⟩ := fn1_some hv
  cases Rd.agg_some (fun _ _ => decDl_some) h1
  exact h p.1 p.2 v H h2
def sTD (f : Bytes → DeltaV → Tail → Option AV) : List AV → Option AV := fn2 .str (Rd.agg decDl) fun s p => f s p.1 p.2
theorem sTD_eq (f : Bytes → DeltaV → Tail → Option AV) (s : Bytes) (d : DeltaV) (t : Tail) : sTD f [.str s, .agg (encDl d t)] = f s d t := by
  unfold sTD
  rw [fn2_eq, Rd.str_eq]
  show (decDl (encDl d t)).bind _ = _
  rw [decDl_enc]
  rfl
theorem sTD_ok {P : Program} {f : FuncId} {g : Bytes → DeltaV → Tail → Option AV} (h : ∀ s d t v H, g s d t = some v → ACalls P f [.str s, .agg (encDl d t)] H fun x H' => x = v ∧ H' = H) : ∀ xs v, sTD g xs = some v → ∀ H, ACalls P f xs H fun x H' => x = v ∧ H' = H := by
  intro xs v hv H
  obtain ⟨x, y, p, q, rfl, h1, h2, h3⟩ := fn2_some hv
  cases Rd.str_some h1
  cases Rd.agg_some (fun _ _ => decDl_some) h2
  exact h p q.1 q.2 v H h3
/-- The answers. -/
def vPrint (d : DeltaV) (t : Tail) : Option AV := if dlR d then some (.tup [.str (if deltaE d = 0 then printB d else []), .int .i64 (deltaE d)]) else none
def vCost (d : DeltaV) (t : Tail) : Option AV := if dlR d then some (.tup [.int .i64 ((if deltaE d = 0 then printB d else []).length : Int), .int .i64 (deltaE d)]) else none
def vFresh (d : DeltaV) (t : Tail) : Option AV := if dlR d then some (.tup [.int .i64 (if deltaE d = 0 then freshV d.ps else 0), .int .i64 (deltaE d)]) else none
def vTidy (d : DeltaV) (t : Tail) : Option AV := if dlR d then some (.tup [.agg (if deltaE d = 0 then encDl (tidyV d) .unk else encDl DeltaV.zero .exact), .int .i64 (deltaE d)]) else none
theorem print_val (d : DeltaV) (t : Tail) (v : AV) (H : Heap) (h : vPrint d t = some v) : ACalls Tryd.prog 32 [.agg (encDl d t)] H fun x H' => x = v ∧ H' = H := by
  obtain ⟨hr, rfl⟩ := some_if h
  refine (print_calls d t H hr).mono ?_
  rintro x H' ⟨rfl, h2⟩
  refine ⟨?_, h2⟩
  by_cases hE : deltaE d = 0
  · rw [if_pos hE, if_pos hE, hE]
  · rw [if_neg hE, if_neg hE]
def puP6 : Pures := putP 32 (sDl vPrint) puP5
theorem puP6_ok : PuOK Tryd.prog puP6 := PuOK.put puP5_ok (sDl_ok print_val)
theorem cost_calls (d : DeltaV) (t : Tail) (v : AV) (H : Heap) (h : vCost d t = some v) : ACalls Tryd.prog 39 [.agg (encDl d t)] H fun x H' => x = v ∧ H' = H := by
  obtain ⟨hr, rfl⟩ := some_if h
  have hp := sDl_eq vPrint d t
  rw [vPrint, if_pos hr] at hp
  generalize (if deltaE d = 0 then printB d else []) = pb at *
  unfold encDl at hp
  refine ACalls.of_code (X := { pure := puP6 }) puP6_ok Tryd.func39 (by kernel_rfl) rfl (by kernel_rfl) (Nat.le_of_ble_eq_true rfl) ?_
  simp -implicitDefEqProofs only [go_sem, tys, regs0, Nat.reduceEqDiff, Nat.reduceAdd, Nat.reduceLeDiff, Nat.reduceLT, Nat.reduceMul, Int.natCast_one, Int.natCast_zero, Int.reduceEq, Int.reduceLT, Int.reduceLE, Int.reduceAdd, Int.reduceSub, Int.reduceToNat, UInt8.reduceToNat, Tryd.f39, encDl]
  with_reducible refine nwC_intro fun id hid => ?_
  simp -implicitDefEqProofs only [go_sem, tys, regs0, Nat.reduceEqDiff, Nat.reduceAdd, Nat.reduceLeDiff, Nat.reduceLT, Nat.reduceMul, Int.natCast_one, Int.natCast_zero, Int.reduceEq, Int.reduceLT, Int.reduceLE, Int.reduceAdd, Int.reduceSub, Int.reduceToNat, UInt8.reduceToNat, puP6, hp]
  exact Done.drop1 hid ⟨rfl, rfl⟩
theorem fresh_len {l : List PieceV} (hp : ∀ p ∈ l, pcR p) : ∀ i, 0 ≤ freshV (l.take i) ∧ freshV (l.take i) ≤ 4194304 * i
  | 0 => by simp [freshV]
  | i + 1 => by
    have h1 := fresh_len hp i
    cases h : l[i]? with
    | none =>
      rw [List.take_add_one, h]
      simp only [Option.toList_none, List.append_nil]
      omega
    | some p =>
      rw [freshV_succ h]
      have := (hp p (List.mem_of_getElem? h)).2.2
      omega
set_option maxHeartbeats 1600000 in
theorem fresh_calls (d : DeltaV) (t : Tail) (v : AV) (H : Heap) (h : vFresh d t = some v) : ACalls Tryd.prog 38 [.agg (encDl d t)] H fun x H' => x = v ∧ H' = H := by
  obtain ⟨hr, rfl⟩ := some_if h
  have hc := sCheck_eq d t hr
  unfold encDl at hc
  by_cases hE : ¬ deltaE d = 0
  · rw [if_neg hE]
    have hE2 : decide (¬ deltaE d = 0) = true := decide_eq_true hE
    refine ACalls.of_code (X := { pure := puP5 }) puP5_ok Tryd.func38 (by kernel_rfl) rfl (by kernel_rfl) (Nat.le_of_ble_eq_true rfl) ?_
    simp -implicitDefEqProofs only [go_sem, tys, regs0, Nat.reduceEqDiff, Nat.reduceAdd, Nat.reduceLeDiff, Nat.reduceLT, Nat.reduceMul, Int.natCast_one, Int.natCast_zero, Int.reduceEq, Int.reduceLT, Int.reduceLE, Int.reduceAdd, Int.reduceSub, Int.reduceToNat, UInt8.reduceToNat, Tryd.f38, encDl]
    with_reducible refine nwC_intro fun idd hidd => ?_
    simp -implicitDefEqProofs only [go_sem, tys, regs0, Nat.reduceEqDiff, Nat.reduceAdd, Nat.reduceLeDiff, Nat.reduceLT, Nat.reduceMul, Int.natCast_one, Int.natCast_zero, Int.reduceEq, Int.reduceLT, Int.reduceLE, Int.reduceAdd, Int.reduceSub, Int.reduceToNat, UInt8.reduceToNat, puP5, hc, hE2]
    exact Done.drop1 hidd ⟨rfl, rfl⟩
  have hE : deltaE d = 0 := Decidable.not_not.1 hE
  rw [if_pos hE, hE]
  rw [hE] at hc
  obtain ⟨e1, e2, e3, e4, e5, e6, e7, e8⟩ := deltaE_ok hE
  obtain ⟨f1, f2, f3, f4, f5, f6⟩ := stepsV_ok e7
  have hrp := hr.2.2.2.2.2
  have hfl := fresh_len hrp
  refine ACalls.of_code (X := { pure := puP5 }) puP5_ok Tryd.func38 (by kernel_rfl) rfl (by kernel_rfl) (Nat.le_of_ble_eq_true rfl) ?_
  simp -implicitDefEqProofs only [go_sem, tys, regs0, Nat.reduceEqDiff, Nat.reduceAdd, Nat.reduceLeDiff, Nat.reduceLT, Nat.reduceMul, Int.natCast_one, Int.natCast_zero, Int.reduceEq, Int.reduceLT, Int.reduceLE, Int.reduceAdd, Int.reduceSub, Int.reduceToNat, UInt8.reduceToNat, Tryd.f38, encDl]
  with_reducible refine nwC_intro fun idd hidd => ?_
  simp -implicitDefEqProofs only [go_sem, tys, regs0, Nat.reduceEqDiff, Nat.reduceAdd, Nat.reduceLeDiff, Nat.reduceLT, Nat.reduceMul, Int.natCast_one, Int.natCast_zero, Int.reduceEq, Int.reduceLT, Int.reduceLE, Int.reduceAdd, Int.reduceSub, Int.reduceToNat, UInt8.reduceToNat, puP5, hc]
  refine aloop_intro (σ := Nat) (fun i => [(5, .int .i64 (freshV (d.ps.take i))), (14, .sl (d.ps.map encPc) t), (15, .int .i64 d.ps.length), (16, .int .i64 i)])
    (fun i G => H.Sub G ∧ i ≤ d.ps.length) (fun i => d.ps.length - i) 0 ?_ ?_ ?_
  · simp -implicitDefEqProofs only [go_sem, tys, regs0, Nat.reduceEqDiff, Nat.reduceAdd, Nat.reduceLeDiff, Nat.reduceLT, Nat.reduceMul, Int.natCast_one, Int.natCast_zero, Int.reduceEq, Int.reduceLT, Int.reduceLE, Int.reduceAdd, Int.reduceSub, Int.reduceToNat, UInt8.reduceToNat]
    simp [freshV]
  · exact ⟨(Heap.Sub.rfl' H).put' hidd _, by omega⟩
  · rintro i r G hv ⟨hS, hi⟩
    have h5 := hv.1
    have h14 := hv.2.1
    have h15 := hv.2.2.1
    have h16 := hv.2.2.2.1
    clear hv
    simp -implicitDefEqProofs only [go_sem, tys, regs0, Nat.reduceEqDiff, Nat.reduceAdd, Nat.reduceLeDiff, Nat.reduceLT, Nat.reduceMul, Int.natCast_one, Int.natCast_zero, Int.reduceEq, Int.reduceLT, Int.reduceLE, Int.reduceAdd, Int.reduceSub, Int.reduceToNat, UInt8.reduceToNat, h5, h14, h15, h16]
    refine cnd_intro (fun g => ?_) (fun g => ?_)
    · simp only [decide_eq_true_eq] at g
      obtain ⟨p, hp⟩ : ∃ p, d.ps[i]? = some p := getD_get' (by omega)
      have q1 := hfl i
      have q2 := hfl (i + 1)
      have q3 := freshV_succ hp
      have q4 := (hrp p (List.mem_of_getElem? hp)).2.2
      simp -implicitDefEqProofs only [go_sem, tys, regs0, Nat.reduceEqDiff, Nat.reduceAdd, Nat.reduceLeDiff, Nat.reduceLT, Nat.reduceMul, Int.natCast_one, Int.natCast_zero, Int.reduceEq, Int.reduceLT, Int.reduceLE, Int.reduceAdd, Int.reduceSub, Int.reduceToNat, UInt8.reduceToNat, h5, h14, h15, h16, hp, encPc]
      with_reducible refine nwC_intro fun id hid => ?_
      simp -implicitDefEqProofs (disch := omega) only [go_sem, tys, regs0, Nat.reduceEqDiff, Nat.reduceAdd, Nat.reduceLeDiff, Nat.reduceLT, Nat.reduceMul, Int.natCast_one, Int.natCast_zero, Int.reduceEq, Int.reduceLT, Int.reduceLE, Int.reduceAdd, Int.reduceSub, Int.reduceToNat, UInt8.reduceToNat, Go.IntWalk.i64_in, h5, h14, h15, h16]
      exact Again.mk (i + 1) (by simp -implicitDefEqProofs only [go_sem, tys, regs0, Nat.reduceEqDiff, Nat.reduceAdd, Nat.reduceLeDiff, Nat.reduceLT, Nat.reduceMul, Int.natCast_one, Int.natCast_zero, Int.reduceEq, Int.reduceLT, Int.reduceLE, Int.reduceAdd, Int.reduceSub, Int.reduceToNat, UInt8.reduceToNat, h5, h14, h15, h16, q3]; exact rfl) ⟨hS.put' (sub_none hS hid) _, by omega⟩ (by omega)
    · simp only [decide_eq_false_iff_not] at g
      have e : i = d.ps.length := by omega
      subst e
      rw [List.take_length] at h5
      simp -implicitDefEqProofs only [go_sem, tys, regs0, Nat.reduceEqDiff, Nat.reduceAdd, Nat.reduceLeDiff, Nat.reduceLT, Nat.reduceMul, Int.natCast_one, Int.natCast_zero, Int.reduceEq, Int.reduceLT, Int.reduceLE, Int.reduceAdd, Int.reduceSub, Int.reduceToNat, UInt8.reduceToNat, h5]
      exact Done.drop hS ⟨rfl, rfl⟩
instance (m : Nat) (q : PieceV) : Decidable (bnd m q) := inferInstanceAs (Decidable ((_ → _ ∧ _ ∧ _ ∧ _) ∧ _))
instance (l : List PieceV) : Decidable (jR l) := inferInstanceAs (Decidable (_ ∧ ∀ p ∈ l, bnd 1 p))
def sJl : List AV → Option AV := fn1 (Rd.list decPc) fun l => if jR l then some (.sl ((joinedV l).map encPc) .unk) else none
theorem sJl_eq (l : List PieceV) (t : Tail) (h : jR l) : sJl [.sl (l.map encPc) t] = some (.sl ((joinedV l).map encPc) .unk) := by
  show ((Rd.list decPc).rd (.sl (l.map encPc) t)).bind _ = _
  rw [Rd.list_eq (enc := encPc) decPc_enc l t]
  simp only [Option.bind_some, if_pos h]
theorem sJl_ok {P : Program} {f : FuncId} (h : ∀ l t H, jR l → ACalls P f [.sl (l.map encPc) t] H fun x H' => x = .sl ((joinedV l).map encPc) .unk ∧ H' = H) : ∀ xs v, sJl xs = some v → ∀ H, ACalls P f xs H fun x H' => x = v ∧ H' = H := by
  intro xs v hv H
  obtain ⟨x, l, rfl, h1, h2⟩ := fn1_some hv
  obtain ⟨h3, rfl⟩ := some_if h2
  obtain ⟨t, rfl⟩ := Rd.list_some (enc := encPc) (fun _ _ => decPc_some) h1
  exact h l t H h3
def puP7 : Pures := putP 80 sJl (putP 42 sJl puP6)
theorem puP7_ok : PuOK Tryd.prog puP7 := PuOK.put (PuOK.put puP6_ok (sJl_ok rJoined_calls)) (sJl_ok joined_calls)
set_option maxHeartbeats 1600000 in
theorem tidy_calls (d : DeltaV) (t : Tail) (v : AV) (H : Heap) (h : vTidy d t = some v) : ACalls Tryd.prog 37 [.agg (encDl d t)] H fun x H' => x = v ∧ H' = H := by
  obtain ⟨hr, rfl⟩ := some_if h
  have hc := sCheck_eq d t hr
  unfold encDl at hc
  by_cases hE : ¬ deltaE d = 0
  · rw [if_neg hE]
    have hE2 : decide (¬ deltaE d = 0) = true := decide_eq_true hE
    refine ACalls.of_code (X := { pure := puP7 }) puP7_ok Tryd.func37 (by kernel_rfl) rfl (by kernel_rfl) (Nat.le_of_ble_eq_true rfl) ?_
    simp -implicitDefEqProofs only [go_sem, tys, regs0, Nat.reduceEqDiff, Nat.reduceAdd, Nat.reduceLeDiff, Nat.reduceLT, Nat.reduceMul, Int.natCast_one, Int.natCast_zero, Int.reduceEq, Int.reduceLT, Int.reduceLE, Int.reduceAdd, Int.reduceSub, Int.reduceToNat, UInt8.reduceToNat, Tryd.f37, encDl]
    with_reducible refine nwC_intro fun idd hidd => ?_
    simp -implicitDefEqProofs only [go_sem, tys, regs0, Nat.reduceEqDiff, Nat.reduceAdd, Nat.reduceLeDiff, Nat.reduceLT, Nat.reduceMul, Int.natCast_one, Int.natCast_zero, Int.reduceEq, Int.reduceLT, Int.reduceLE, Int.reduceAdd, Int.reduceSub, Int.reduceToNat, UInt8.reduceToNat]
    with_reducible refine nwC_intro fun id hid => ?_
    have hid0 := (heap_none hid).2.2
    have n1 : ¬ idd = id := (heap_none hid).2.1
    have n2 : ¬ id = idd := fun e => n1 e.symm
    simp -implicitDefEqProofs only [go_sem, tys, regs0, Nat.reduceEqDiff, Nat.reduceAdd, Nat.reduceLeDiff, Nat.reduceLT, Nat.reduceMul, Int.natCast_one, Int.natCast_zero, Int.reduceEq, Int.reduceLT, Int.reduceLE, Int.reduceAdd, Int.reduceSub, Int.reduceToNat, UInt8.reduceToNat, puP7, puP6, puP5, hc, hE2, put_ne, n1, n2, encDl]
    exact Done.drop (by repeat' first | exact Heap.Sub.rfl' H | exact hidd | exact hid0 | refine Heap.Sub.put' ?_ ?_ _) ⟨rfl, rfl⟩
  have hE : deltaE d = 0 := Decidable.not_not.1 hE
  rw [if_pos hE, hE]
  rw [hE] at hc
  obtain ⟨e1, e2, e3, e4, e5, e6, e7, e8⟩ := deltaE_ok hE
  have hj := sJl_eq d.ps t (jR_of hr.2.2.2.2 e7)
  refine ACalls.of_code (X := { pure := puP7 }) puP7_ok Tryd.func37 (by kernel_rfl) rfl (by kernel_rfl) (Nat.le_of_ble_eq_true rfl) ?_
  simp -implicitDefEqProofs only [go_sem, tys, regs0, Nat.reduceEqDiff, Nat.reduceAdd, Nat.reduceLeDiff, Nat.reduceLT, Nat.reduceMul, Int.natCast_one, Int.natCast_zero, Int.reduceEq, Int.reduceLT, Int.reduceLE, Int.reduceAdd, Int.reduceSub, Int.reduceToNat, UInt8.reduceToNat, Tryd.f37, encDl]
  with_reducible refine nwC_intro fun idd hidd => ?_
  simp -implicitDefEqProofs only [go_sem, tys, regs0, Nat.reduceEqDiff, Nat.reduceAdd, Nat.reduceLeDiff, Nat.reduceLT, Nat.reduceMul, Int.natCast_one, Int.natCast_zero, Int.reduceEq, Int.reduceLT, Int.reduceLE, Int.reduceAdd, Int.reduceSub, Int.reduceToNat, UInt8.reduceToNat]
  with_reducible refine nwC_intro fun id hid => ?_
  have hid0 := (heap_none hid).2.2
  have n1 : ¬ idd = id := (heap_none hid).2.1
  have n2 : ¬ id = idd := fun e => n1 e.symm
  simp -implicitDefEqProofs only [go_sem, tys, regs0, Nat.reduceEqDiff, Nat.reduceAdd, Nat.reduceLeDiff, Nat.reduceLT, Nat.reduceMul, Int.natCast_one, Int.natCast_zero, Int.reduceEq, Int.reduceLT, Int.reduceLE, Int.reduceAdd, Int.reduceSub, Int.reduceToNat, UInt8.reduceToNat, puP7, puP6, puP5, hc, hj, put_ne, n1, n2, encDl]
  exact Done.drop (by repeat' first | exact Heap.Sub.rfl' H | exact hidd | exact hid0 | refine Heap.Sub.put' ?_ ?_ _) ⟨rfl, rfl⟩
end Go.Proofs
