/- Walks: a delta is written, on the reference's side. -/
import Derived.Test.YtnheonhmnepifaaDoorDD6
namespace Go.Proofs
open Go Go.Abs
set_option linter.unusedSimpArgs false
set_option linter.unusedVariables false
set_option maxRecDepth 20000
def sGroups : List AV → Option AV := fn1 (.int .i64) fun n => if 0 ≤ n ∧ n < 4398046511104 then some (.str (groupsB n.toNat)) else none
theorem sGroups_eq (n : Int) (h : 0 ≤ n ∧ n < 4398046511104) : sGroups [.int .i64 n] = some (.str (groupsB n.toNat)) := by
  simp only [sGroups, fn1_eq, Rd.int_eq, Option.bind_some]
  rw [if_pos h]
def sRaw : List AV → Option AV := fn1 .str fun s => if sumB s = true then some (.str (rawB (hexN s))) else none
theorem sRaw_eq (s : Bytes) (h : sumB s = true) : sRaw [.str s] = some (.str (rawB (hexN s))) := by
  simp only [sRaw, fn1_eq, Rd.str_eq, Option.bind_some]
  rw [if_pos h]
def puP4 : Pures := putP 84 sGroups (putP 85 sRaw puM)
theorem puP4_ok : PuOK Tryd.prog puP4 := by
  refine PuOK.put (PuOK.put puM_ok ?_) ?_ <;> intro xs v hv H <;> obtain ⟨x, p, rfl, h1, h2⟩ := fn1_some hv <;> split at h2 <;> cases h2 <;> rename_i hc
  · cases Rd.str_some h1
    exact rawSum_calls p H hc
  · cases Rd.int_some h1
    obtain ⟨n, rfl⟩ : ∃ n : Nat, p = n := ⟨p.toNat, by omega⟩
    exact groups_calls n H (by omega)
theorem groups6 {n : Nat} (h : n < 4398046511104) : (groupsB n).length ≤ 6 := groupsB_len 5 n (by simpa using h)
theorem pieces_succ {l : List PieceV} {i : Nat} {p : PieceV} (h : l[i]? = some p) : ((l.take (i + 1)).map pieceB).flatten = ((l.take i).map pieceB).flatten ++ pieceB p := by
  rw [List.take_add_one, h]; simp
theorem pieceB_len {p : PieceV} (hr : pcR p) (h : p.data = [] → 0 ≤ p.at_ ∧ p.at_ ≤ 65536 ∧ 0 ≤ p.long ∧ p.long ≤ 65536) : (pieceB p).length ≤ 4194320 := by
  unfold pieceB
  split
  · rename_i hd
    have := groups6 (n := p.data.length) (by have := hr.2.2; omega)
    have := hr.2.2
    simp only [List.length_cons, List.length_append]
    omega
  · rename_i hd
    have := h (by simpa using hd)
    have h1 := groups6 (n := p.at_.toNat) (by omega)
    have h2 := groups6 (n := p.long.toNat) (by omega)
    simp only [List.length_cons, List.length_append]
    omega
theorem pieces_len {l : List PieceV} (hr : ∀ p ∈ l, pcR p) (h : ∀ p ∈ l, p.data = [] → 0 ≤ p.at_ ∧ p.at_ ≤ 65536 ∧ 0 ≤ p.long ∧ p.long ≤ 65536) : ∀ i, ((l.take i).map pieceB).flatten.length ≤ 4194320 * i
  | 0 => by simp
  | i + 1 => by
    have ih := pieces_len hr h i
    cases hp : l[i]? with
    | none => rw [List.take_add_one, hp]; simp only [Option.toList_none, List.append_nil]; omega
    | some p =>
      have hm := List.mem_of_getElem? hp
      rw [pieces_succ hp, List.length_append]
      have := pieceB_len (hr p hm) (h p hm)
      omega
theorem pc_small {old : Int} {p : PieceV} (ho : old ≤ 65536) (h : pcE old p = 0) : p.data = [] → 0 ≤ p.at_ ∧ p.at_ ≤ 65536 ∧ 0 ≤ p.long ∧ p.long ≤ 65536 := by
  intro e
  unfold pcE at h
  rw [if_neg (by simpa using e)] at h
  split at h <;> omega
theorem headB_len {d : DeltaV} (h1 : d.old ≤ 65536) (h2 : d.new ≤ 65536) (h3 : d.ps.length ≤ 5000) : (headB d).length ≤ 40 := by
  have a := groups6 (n := d.old.toNat) (by omega)
  have b := groups6 (n := d.new.toNat) (by omega)
  have c := groups6 (n := d.ps.length) (by omega)
  simp only [headB, List.length_append, rawB_len, List.length_cons, List.length_nil]
  omega
set_option maxHeartbeats 3200000 in
theorem printDelta_calls (d : DeltaV) (t : Tail) (H : Heap) (hr : dlR d) (hE : deltaE d = 0) : ACalls Tryd.prog 28 [.agg (encDl d t)] H fun x H' => x = .str (printB d) ∧ H' = H := by
  obtain ⟨e1, e2, e3, e4, e5, e6, e7, e8⟩ := deltaE_ok hE
  obtain ⟨f1, f2, f3, f4, f5, f6⟩ := stepsV_ok e7
  have hrp := hr.2.2.2.2.2
  have hsm : ∀ p ∈ d.ps, p.data = [] → 0 ≤ p.at_ ∧ p.at_ ≤ 65536 ∧ 0 ≤ p.long ∧ p.long ≤ 65536 := fun p hp => pc_small e2 (f4 p hp)
  have hpl := pieces_len hrp hsm
  have hhl := headB_len e2 e4 f3
  have g1 := sGroups_eq d.old (by omega)
  have g2 := sGroups_eq d.new (by omega)
  have g3 := sGroups_eq (d.ps.length : Int) (by omega)
  have g4 := sRaw_eq _ e5
  have g5 := sRaw_eq _ e6
  have l1 := groups6 (n := d.old.toNat) (by omega)
  have l2 := groups6 (n := d.new.toNat) (by omega)
  have l3 := groups6 (n := d.ps.length) (by omega)
  have l4 := rawB_len (hexN d.osum)
  have l5 := rawB_len (hexN d.nsum)
  refine ACalls.of_code (X := { pure := puP4, ms := fun t => decide (t = 4) }) puP4_ok Tryd.func28 (by kernel_rfl) rfl (by kernel_rfl) (Nat.le_of_ble_eq_true rfl) ?_
  simp -implicitDefEqProofs only [go_sem, tys, regs0, Nat.reduceEqDiff, Nat.reduceAdd, Nat.reduceLeDiff, Nat.reduceLT, Nat.reduceMul, Int.natCast_one, Int.natCast_zero, Int.reduceEq, Int.reduceLT, Int.reduceLE, Int.reduceAdd, Int.reduceSub, Int.reduceToNat, UInt8.reduceToNat, Tryd.f28, encDl]
  with_reducible refine nwC_intro fun idd hidd => ?_
  simp -implicitDefEqProofs (disch := (first | omega | (simp only [List.length_append, List.length_cons, List.length_nil]; omega))) only [go_sem, binS_addD, tys, regs0, Nat.reduceEqDiff, Nat.reduceAdd, Nat.reduceLeDiff, Nat.reduceLT, Nat.reduceMul, Int.natCast_one, Int.natCast_zero, Int.reduceEq, Int.reduceLT, Int.reduceLE, Int.reduceAdd, Int.reduceSub, Int.reduceToNat, UInt8.reduceToNat, Go.IntWalk.i64_in, puP4, g1, g2, g3, g4, g5, Int.toNat_natCast]
  with_reducible refine nwT_intro fun b hb => ?_
  have hhead : (79 :: 70 :: 68 :: 49 :: (groupsB d.old.toNat ++ groupsB d.new.toNat ++ rawB (hexN d.osum) ++ rawB (hexN d.nsum) ++ groupsB d.ps.length)) = headB d := by simp [headB]
  rw [hhead]
  have hbH := (heap_none hb).2.2
  have hnb := (heap_none hb).2.1
  have hnew := BldG.new ((Heap.Sub.rfl' H).put' hidd (.cells [.int .i64 d.old, .int .i64 d.new, .str d.osum, .str d.nsum, .sl (d.ps.map encPc) t])) hb
  simp -implicitDefEqProofs only [go_sem, tys, regs0, Nat.reduceEqDiff, Nat.reduceAdd, Nat.reduceLeDiff, Nat.reduceLT, Nat.reduceMul, Int.natCast_one, Int.natCast_zero, Int.reduceEq, Int.reduceLT, Int.reduceLE, Int.reduceAdd, Int.reduceSub, Int.reduceToNat, UInt8.reduceToNat]
  refine writeString_k hnew (by rw [List.length_nil]; omega) (fun G1 hG1 hK1 => ?_)
  rw [List.nil_append] at hG1
  have hd1 : G1 idd = some (.cells [.int .i64 d.old, .int .i64 d.new, .str d.osum, .str d.nsum, .sl (d.ps.map encPc) t]) := hK1 _ _ (by rw [put_ne _ _ _ _ hnb]; exact put_same _ _ _) hnb (by unfold tokOf; rw [put_same]; simp)
  simp -implicitDefEqProofs only [go_sem, tys, regs0, Nat.reduceEqDiff, Nat.reduceAdd, Nat.reduceLeDiff, Nat.reduceLT, Nat.reduceMul, Int.natCast_one, Int.natCast_zero, Int.reduceEq, Int.reduceLT, Int.reduceLE, Int.reduceAdd, Int.reduceSub, Int.reduceToNat, UInt8.reduceToNat, hd1]
  refine aloop_intro (σ := Nat) (fun i => [(4, bldP b), (31, .sl (d.ps.map encPc) t), (32, .int .i64 d.ps.length), (33, .int .i64 i)])
    (fun i G => BldOK H G b (headB d ++ ((d.ps.take i).map pieceB).flatten) ∧ i ≤ d.ps.length) (fun i => d.ps.length - i) 0 ?_ ?_ ?_
  · simp -implicitDefEqProofs only [go_sem, tys, regs0, Nat.reduceEqDiff, Nat.reduceAdd, Nat.reduceLeDiff, Nat.reduceLT, Nat.reduceMul, Int.natCast_one, Int.natCast_zero, Int.reduceEq, Int.reduceLT, Int.reduceLE, Int.reduceAdd, Int.reduceSub, Int.reduceToNat, UInt8.reduceToNat]
  · exact ⟨by simpa using hG1, by omega⟩
  · intro i r G hv hI
    have h4 := hv.1
    have h31 := hv.2.1
    have h32 := hv.2.2.1
    have h33 := hv.2.2.2.1
    have hB := hI.1
    have hi := hI.2
    clear hv hI
    simp -implicitDefEqProofs only [go_sem, tys, regs0, Nat.reduceEqDiff, Nat.reduceAdd, Nat.reduceLeDiff, Nat.reduceLT, Nat.reduceMul, Int.natCast_one, Int.natCast_zero, Int.reduceEq, Int.reduceLT, Int.reduceLE, Int.reduceAdd, Int.reduceSub, Int.reduceToNat, UInt8.reduceToNat, h4, h31, h32, h33]
    refine cnd_intro (fun g => ?_) (fun g => ?_)
    · simp only [decide_eq_true_eq] at g
      obtain ⟨p, hp⟩ : ∃ p, d.ps[i]? = some p := getD_get' (by omega)
      have hm := List.mem_of_getElem? hp
      have hrpp := hrp p hm
      have hpc := hsm p hm
      have hpi := hpl i
      have hps := pieces_succ hp
      have hpb := pieceB.eq_1 p
      have hpbl := pieceB_len hrpp hpc
      have r3 := hrpp.2.2
      simp -implicitDefEqProofs only [go_sem, tys, regs0, Nat.reduceEqDiff, Nat.reduceAdd, Nat.reduceLeDiff, Nat.reduceLT, Nat.reduceMul, Int.natCast_one, Int.natCast_zero, Int.reduceEq, Int.reduceLT, Int.reduceLE, Int.reduceAdd, Int.reduceSub, Int.reduceToNat, UInt8.reduceToNat, h4, h31, h32, h33, hp, encPc]
      with_reducible refine nwC_intro fun id hid => ?_
      have hB2 := hB.put hid (.cells [.int .i64 p.at_, .int .i64 p.long, .str p.data])
      simp -implicitDefEqProofs only [go_sem, tys, regs0, Nat.reduceEqDiff, Nat.reduceAdd, Nat.reduceLeDiff, Nat.reduceLT, Nat.reduceMul, Int.natCast_one, Int.natCast_zero, Int.reduceEq, Int.reduceLT, Int.reduceLE, Int.reduceAdd, Int.reduceSub, Int.reduceToNat, UInt8.reduceToNat, h4, h31, h32, h33]
      refine cnd_intro (fun g7 => ?_) (fun g7 => ?_)
      · simp only [decide_eq_true_eq] at g7
        rw [if_pos g7] at hpb
        have q1 := sGroups_eq (p.data.length : Int) (by omega)
        rw [Int.toNat_natCast] at q1
        have q2 := groups6 (n := p.data.length) (by omega)
        simp -implicitDefEqProofs (disch := (first | omega | (simp only [List.length_append, List.length_cons, List.length_nil]; omega))) only [go_sem, binS_addD, tys, regs0, Nat.reduceEqDiff, Nat.reduceAdd, Nat.reduceLeDiff, Nat.reduceLT, Nat.reduceMul, Int.natCast_one, Int.natCast_zero, Int.reduceEq, Int.reduceLT, Int.reduceLE, Int.reduceAdd, Int.reduceSub, Int.reduceToNat, UInt8.reduceToNat, Go.IntWalk.i64_in, h4, h31, h32, h33, puP4, q1]
        refine writeString_k hB2 (by rw [← hpb, List.length_append]; omega) (fun G3 hG3 _ => ?_)
        rw [← hpb, List.append_assoc, ← hps] at hG3
        simp -implicitDefEqProofs (disch := omega) only [go_sem, tys, regs0, Nat.reduceEqDiff, Nat.reduceAdd, Nat.reduceLeDiff, Nat.reduceLT, Nat.reduceMul, Int.natCast_one, Int.natCast_zero, Int.reduceEq, Int.reduceLT, Int.reduceLE, Int.reduceAdd, Int.reduceSub, Int.reduceToNat, UInt8.reduceToNat, Go.IntWalk.i64_in, h4, h31, h32, h33]
        exact Again.mk (i + 1) (by simp -implicitDefEqProofs only [go_sem, tys, regs0, Nat.reduceEqDiff, Nat.reduceAdd, Nat.reduceLeDiff, Nat.reduceLT, Nat.reduceMul, Int.natCast_one, Int.natCast_zero, Int.reduceEq, Int.reduceLT, Int.reduceLE, Int.reduceAdd, Int.reduceSub, Int.reduceToNat, UInt8.reduceToNat, h4, h31, h32, h33]; exact rfl) ⟨hG3, by omega⟩ (by omega)
      · simp only [decide_eq_false_iff_not] at g7
        rw [if_neg g7] at hpb
        have hpc2 := hpc (by simpa using g7)
        have q1 := sGroups_eq p.at_ (by omega)
        have q3 := sGroups_eq p.long (by omega)
        have q2 := groups6 (n := p.at_.toNat) (by omega)
        have q4 := groups6 (n := p.long.toNat) (by omega)
        simp -implicitDefEqProofs (disch := (first | omega | (simp only [List.length_append, List.length_cons, List.length_nil]; omega))) only [go_sem, binS_addD, tys, regs0, Nat.reduceEqDiff, Nat.reduceAdd, Nat.reduceLeDiff, Nat.reduceLT, Nat.reduceMul, Int.natCast_one, Int.natCast_zero, Int.reduceEq, Int.reduceLT, Int.reduceLE, Int.reduceAdd, Int.reduceSub, Int.reduceToNat, UInt8.reduceToNat, Go.IntWalk.i64_in, h4, h31, h32, h33, puP4, q1, q3]
        refine writeString_k hB2 (by rw [← hpb, List.length_append]; omega) (fun G3 hG3 _ => ?_)
        rw [← hpb, List.append_assoc, ← hps] at hG3
        simp -implicitDefEqProofs (disch := omega) only [go_sem, tys, regs0, Nat.reduceEqDiff, Nat.reduceAdd, Nat.reduceLeDiff, Nat.reduceLT, Nat.reduceMul, Int.natCast_one, Int.natCast_zero, Int.reduceEq, Int.reduceLT, Int.reduceLE, Int.reduceAdd, Int.reduceSub, Int.reduceToNat, UInt8.reduceToNat, Go.IntWalk.i64_in, h4, h31, h32, h33]
        exact Again.mk (i + 1) (by simp -implicitDefEqProofs only [go_sem, tys, regs0, Nat.reduceEqDiff, Nat.reduceAdd, Nat.reduceLeDiff, Nat.reduceLT, Nat.reduceMul, Int.natCast_one, Int.natCast_zero, Int.reduceEq, Int.reduceLT, Int.reduceLE, Int.reduceAdd, Int.reduceSub, Int.reduceToNat, UInt8.reduceToNat, h4, h31, h32, h33]; exact rfl) ⟨hG3, by omega⟩ (by omega)
    · simp only [decide_eq_false_iff_not] at g
      have e : i = d.ps.length := by omega
      subst e
      have hpi := hpl d.ps.length
      rw [List.take_length] at hB hpi
      have hbod : headB d ++ (d.ps.map pieceB).flatten = bodyB d := rfl
      rw [hbod] at hB
      have hbl : (bodyB d).length ≤ 40 + 4194320 * d.ps.length := by unfold bodyB; rw [List.length_append]; omega
      have hR : Room = 1099511627776 := rfl
      have hrm : (bodyB d).length ≤ 1099511627776 := by omega
      have q1 := sRaw_eq _ (sumOf_form (bodyB d))
      have q2 := rawB_len (hexN (sumOf (bodyB d)))
      simp -implicitDefEqProofs only [go_sem, tys, regs0, Nat.reduceEqDiff, Nat.reduceAdd, Nat.reduceLeDiff, Nat.reduceLT, Nat.reduceMul, Int.natCast_one, Int.natCast_zero, Int.reduceEq, Int.reduceLT, Int.reduceLE, Int.reduceAdd, Int.reduceSub, Int.reduceToNat, UInt8.reduceToNat, h4, h31, h32, h33]
      refine bldString_k hB (by omega) (fun e => by cases e) ?_
      simp -implicitDefEqProofs only [go_sem, tys, regs0, Nat.reduceEqDiff, Nat.reduceAdd, Nat.reduceLeDiff, Nat.reduceLT, Nat.reduceMul, Int.natCast_one, Int.natCast_zero, Int.reduceEq, Int.reduceLT, Int.reduceLE, Int.reduceAdd, Int.reduceSub, Int.reduceToNat, UInt8.reduceToNat, h4, h31, h32, h33]
      refine bldString_k hB (by omega) (fun e => by cases e) ?_
      simp -implicitDefEqProofs (disch := (first | omega | (simp only [List.length_append, List.length_cons, List.length_nil]; omega))) only [go_sem, binS_addD, tys, regs0, Nat.reduceEqDiff, Nat.reduceAdd, Nat.reduceLeDiff, Nat.reduceLT, Nat.reduceMul, Int.natCast_one, Int.natCast_zero, Int.reduceEq, Int.reduceLT, Int.reduceLE, Int.reduceAdd, Int.reduceSub, Int.reduceToNat, UInt8.reduceToNat, Go.IntWalk.i64_in, puP4, puM, puN, sSum_eq, hR, hrm, q1]
      exact Done.drop hB.sub ⟨rfl, rfl⟩
end Go.Proofs
