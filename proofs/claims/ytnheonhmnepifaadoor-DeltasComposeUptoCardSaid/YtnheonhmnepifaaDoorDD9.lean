/- Walks: a delta is written, on the program's side: all of it. -/
import Derived.Test.YtnheonhmnepifaaDoorDD8
namespace Go.Proofs
open Go Go.Abs
set_option linter.unusedSimpArgs false
set_option linter.unusedVariables false
set_option maxRecDepth 20000
def sCheck : List AV → Option AV := fn1 (Rd.agg decDl) fun p => if dlR p.1 then some (.int .i64 (deltaE p.1)) else none
theorem sCheck_eq (d : DeltaV) (t : Tail) (h : dlR d) : sCheck [.agg (encDl d t)] = some (.int .i64 (deltaE d)) := by
  show (decDl (encDl d t)).bind _ = _
  rw [decDl_enc]
  simp only [Option.bind_some, if_pos h]
theorem sCheck_ok {P : Program} {f : FuncId} (h : ∀ d t H, dlR d → ACalls P f [.agg (encDl d t)] H fun x H' => x = .int .i64 (deltaE d) ∧ H' = H) : ∀ xs v, sCheck xs = some v → ∀ H, ACalls P f xs H fun x H' => x = v ∧ H' = H := by
  intro xs v hv H
  obtain ⟨x, p, rfl, h1, h2⟩ := fn1_some hv
  split at h2
  · cases h2
    cases Rd.agg_some (fun _ _ => decDl_some) h1
    exact h p.1 p.2 H ‹_›
  · cases h2
def puP5 : Pures := putP 40 sCheck puM
theorem puP5_ok : PuOK Tryd.prog puP5 := PuOK.put puM_ok (sCheck_ok dCheck_calls)
def ot4 : OT := .seg [0, 1, 2, 3, 5] (.or (.seg [4, 6, 7, 8] .done) (.seg [6, 4, 7, 8] .done))
def ot5 : OT := .seg [0, 1, 2, 4, 7] (.or (.seg [3, 5] (.or (.seg [6, 8, 9, 10, 11] .done) (.seg [8, 9, 6, 10, 11] .done))) (.or (.seg [5] (.or (.seg [3] (.or (.seg [6, 8, 9, 10, 11] .done) (.seg [8, 9, 6, 10, 11] .done))) (.seg [8, 9, 3, 6, 10, 11] .done))) (.seg [8, 9] (.or (.seg [3, 5, 6, 10, 11] .done) (.seg [5, 3, 6, 10, 11] .done)))))
def ot10 : OT := .seg [0, 1, 3, 7] (.or (.seg [2, 4, 5] (.or (.seg [6, 8, 9, 10] .done) (.seg [8, 6, 9, 10] .done))) (.or (.seg [4, 5] (.or (.seg [2] (.or (.seg [6, 8, 9, 10] .done) (.seg [8, 6, 9, 10] .done))) (.seg [8, 2, 6, 9, 10] .done))) (.seg [8] (.or (.seg [2, 4, 5, 6, 9, 10] .done) (.seg [4, 5, 2, 6, 9, 10] .done)))))
def ot11 : OT := .seg [0, 1, 3, 6] (.or (.seg [2, 4] (.or (.seg [5, 7, 8, 9] .done) (.seg [7, 5, 8, 9] .done))) (.or (.seg [4] (.or (.seg [2] (.or (.seg [5, 7, 8, 9] .done) (.seg [7, 5, 8, 9] .done))) (.seg [7, 2, 5, 8, 9] .done))) (.seg [7] (.or (.seg [2, 4, 5, 8, 9] .done) (.seg [4, 2, 5, 8, 9] .done)))))
def printOT (n : Nat) : Option OT := if n = 4 then some ot4 else if n = 5 then some ot5 else if n = 10 then some ot10 else if n = 11 then some ot11 else none
def pmagic : Bytes := [79, 70, 68, 49]
theorem pmagic_cells : [[AV.int .u8 79], [AV.int .u8 70], [AV.int .u8 68], [AV.int .u8 49]] = pmagic.map bcell := rfl
def Mid1 (d : DeltaV) (t : Tail) (H : Heap) (idd : Nat) (l : Bytes) (r : Regs) (G : Heap) : Prop := ∃ tl, agrees r [(1, .ptr idd 0), (5, .sl (l.map bcell) tl)] ∧ AppG H G 1 (l.map bcell) tl ∧ G idd = some (.cells (encDl d t))
def Mid2 (d : DeltaV) (t : Tail) (H : Heap) (i : Nat) (l : Bytes) (r : Regs) (G : Heap) : Prop := ∃ tl, agrees r [(5, .sl (l.map bcell) tl), (33, .sl (d.ps.map encPc) t), (34, .int .i64 d.ps.length), (35, .int .i64 i)] ∧ AppG H G 1 (l.map bcell) tl
theorem one_cell (l : Bytes) : l.map bcell ++ [[AV.int .u8 1]] = (l ++ [1]).map bcell := by rw [List.map_append]; rfl
theorem zero_cell (l : Bytes) : l.map bcell ++ [[AV.int .u8 0]] = (l ++ [0]).map bcell := by rw [List.map_append]; rfl
set_option maxHeartbeats 6400000 in
theorem print_calls (d : DeltaV) (t : Tail) (H : Heap) (hr : dlR d) : ACalls Tryd.prog 32 [.agg (encDl d t)] H fun x H' => x = (if deltaE d = 0 then .tup [.str (printB d), .int .i64 0] else .tup [.str [], .int .i64 (deltaE d)]) ∧ H' = H := by
  have hc := sCheck_eq d t hr
  simp only [encDl] at hc
  by_cases hE : ¬ deltaE d = 0
  · rw [if_neg hE]
    have hE2 : decide (¬ deltaE d = 0) = true := decide_eq_true hE
    refine ACalls.of_code (X := { pure := puP5, tree := printOT }) puP5_ok Tryd.func32 (by kernel_rfl) rfl (by kernel_rfl) (Nat.le_of_ble_eq_true rfl) ?_
    simp -implicitDefEqProofs only [go_sem, tys, regs0, Nat.reduceEqDiff, Nat.reduceAdd, Nat.reduceLeDiff, Nat.reduceLT, Nat.reduceMul, Int.natCast_one, Int.natCast_zero, Int.reduceEq, Int.reduceLT, Int.reduceLE, Int.reduceAdd, Int.reduceSub, Int.reduceToNat, UInt8.reduceToNat, Tryd.f32, encDl]
    with_reducible refine nwC_intro fun idd hidd => ?_
    simp -implicitDefEqProofs only [go_sem, tys, regs0, Nat.reduceEqDiff, Nat.reduceAdd, Nat.reduceLeDiff, Nat.reduceLT, Nat.reduceMul, Int.natCast_one, Int.natCast_zero, Int.reduceEq, Int.reduceLT, Int.reduceLE, Int.reduceAdd, Int.reduceSub, Int.reduceToNat, UInt8.reduceToNat, puP5, hc, hE2]
    exact Done.drop1 hidd ⟨rfl, rfl⟩
  have hE : deltaE d = 0 := Decidable.not_not.1 hE
  rw [if_pos hE]
  rw [hE] at hc
  obtain ⟨e1, e2, e3, e4, e5, e6, e7, e8⟩ := deltaE_ok hE
  obtain ⟨f1, f2, f3, f4, f5, f6⟩ := stepsV_ok e7
  have hrp := hr.2.2.2.2.2
  have hsm : ∀ p ∈ d.ps, p.data = [] → 0 ≤ p.at_ ∧ p.at_ ≤ 65536 ∧ 0 ≤ p.long ∧ p.long ≤ 65536 := fun p hp => pc_small e2 (f4 p hp)
  have hpl := pieces_len hrp hsm
  have hhl := headB_len e2 e4 f3
  have l1 := groups6 (n := d.old.toNat) (by omega)
  have l2 := groups6 (n := d.new.toNat) (by omega)
  have l3 := groups6 (n := d.ps.length) (by omega)
  have l4 := rawB_len (hexN d.osum)
  have l5 := rawB_len (hexN d.nsum)
  refine ACalls.of_code (X := { pure := puP5, tree := printOT }) puP5_ok Tryd.func32 (by kernel_rfl) rfl (by kernel_rfl) (Nat.le_of_ble_eq_true rfl) ?_
  simp -implicitDefEqProofs only [go_sem, tys, regs0, Nat.reduceEqDiff, Nat.reduceAdd, Nat.reduceLeDiff, Nat.reduceLT, Nat.reduceMul, Int.natCast_one, Int.natCast_zero, Int.reduceEq, Int.reduceLT, Int.reduceLE, Int.reduceAdd, Int.reduceSub, Int.reduceToNat, UInt8.reduceToNat, Tryd.f32, encDl]
  with_reducible refine nwC_intro fun idd hidd => ?_
  simp -implicitDefEqProofs only [go_sem, tys, regs0, Nat.reduceEqDiff, Nat.reduceAdd, Nat.reduceLeDiff, Nat.reduceLT, Nat.reduceMul, Int.natCast_one, Int.natCast_zero, Int.reduceEq, Int.reduceLT, Int.reduceLE, Int.reduceAdd, Int.reduceSub, Int.reduceToNat, UInt8.reduceToNat, puP5, hc]
  have hA0 := AppG.new (k := 1) ((Heap.Sub.rfl' H).put' hidd (.cells (encDl d t))) (pmagic.map bcell)
  have hB0 := put_same H idd (.cells (encDl d t))
  with_reducible refine acode_mid (Mid1 d t H idd (pmagic ++ groupsB d.old.toNat ++ groupsB d.new.toNat)) ?_ ?_
  rotate_left
  · rw [acode_tree (t := ot4) rfl (by rfl)]
    unfold encDl at hB0 hA0
    have hm : pmagic.length = 4 := rfl
    have s1 := fun G tl K => putNumber_k (F := H) (G := G) (l := pmagic) (tl := tl) (n := d.old) (K := K) (by omega) (by omega)
    have s2 := fun G tl K => putNumber_k (F := H) (G := G) (l := pmagic ++ groupsB d.old.toNat) (tl := tl) (n := d.new) (K := K) (by omega) (by rw [List.length_append]; omega)
    rw [← pmagic_cells] at s1 hA0
    simp -implicitDefEqProofs only [go_sem, tys, regs0, Nat.reduceEqDiff, Nat.reduceAdd, Nat.reduceLeDiff, Nat.reduceLT, Nat.reduceMul, Int.natCast_one, Int.natCast_zero, Int.reduceEq, Int.reduceLT, Int.reduceLE, Int.reduceAdd, Int.reduceSub, Int.reduceToNat, UInt8.reduceToNat, ot4, stripO, encDl, puP5, puM, puN, pu0]
    refine ⟨?_, ?_⟩
    all_goals
      refine s1 _ _ _ hA0 (fun tl1 G1 hA1 hK1 => ?_)
      have hB1 := hK1.cells hB0
      simp -implicitDefEqProofs only [go_sem, tys, regs0, Nat.reduceEqDiff, Nat.reduceAdd, Nat.reduceLeDiff, Nat.reduceLT, Nat.reduceMul, Int.natCast_one, Int.natCast_zero, Int.reduceEq, Int.reduceLT, Int.reduceLE, Int.reduceAdd, Int.reduceSub, Int.reduceToNat, UInt8.reduceToNat, ot4, stripO, hB1, puP5, puM, puN, pu0]
      refine s2 _ _ _ hA1 (fun tl2 G2 hA2 hK2 => ?_)
      have hB2 := hK2.cells hB1
      simp -implicitDefEqProofs only [go_sem, tys, regs0, Nat.reduceEqDiff, Nat.reduceAdd, Nat.reduceLeDiff, Nat.reduceLT, Nat.reduceMul, Int.natCast_one, Int.natCast_zero, Int.reduceEq, Int.reduceLT, Int.reduceLE, Int.reduceAdd, Int.reduceSub, Int.reduceToNat, UInt8.reduceToNat, ot4, stripO, hB2, puP5, puM, puN, pu0]
      exact ⟨tl2, by simp -implicitDefEqProofs only [go_sem, tys, regs0, Nat.reduceEqDiff, Nat.reduceAdd, Nat.reduceLeDiff, Nat.reduceLT, Nat.reduceMul, Int.natCast_one, Int.natCast_zero, Int.reduceEq, Int.reduceLT, Int.reduceLE, Int.reduceAdd, Int.reduceSub, Int.reduceToNat, UInt8.reduceToNat], hA2, hB2⟩
  clear hA0 hB0
  rintro r G ⟨tl0, hv, hA0, hB0⟩
  have h1 := hv.1
  have h5 := hv.2.1
  clear hv
  simp -implicitDefEqProofs only [go_sem, tys, regs0, Nat.reduceEqDiff, Nat.reduceAdd, Nat.reduceLeDiff, Nat.reduceLT, Nat.reduceMul, Int.natCast_one, Int.natCast_zero, Int.reduceEq, Int.reduceLT, Int.reduceLE, Int.reduceAdd, Int.reduceSub, Int.reduceToNat, UInt8.reduceToNat, h1, h5]
  with_reducible refine acode_mid (Mid1 d t H idd (headB d)) ?_ ?_
  rotate_left
  · rw [acode_tree (t := ot5) rfl (by rfl)]
    unfold encDl at hB0
    have hm : pmagic.length = 4 := rfl
    have s1 := fun G tl K => putSum_k (F := H) (G := G) (l := pmagic ++ groupsB d.old.toNat ++ groupsB d.new.toNat) (tl := tl) (s := d.osum) (K := K) e5 (by simp only [List.length_append]; omega)
    have s2 := fun G tl K => putSum_k (F := H) (G := G) (l := pmagic ++ groupsB d.old.toNat ++ groupsB d.new.toNat ++ rawB (hexN d.osum)) (tl := tl) (s := d.nsum) (K := K) e6 (by simp only [List.length_append]; omega)
    have s3 := fun G tl K => putNumber_k (F := H) (G := G) (l := pmagic ++ groupsB d.old.toNat ++ groupsB d.new.toNat ++ rawB (hexN d.osum) ++ rawB (hexN d.nsum)) (tl := tl) (n := (d.ps.length : Int)) (K := K) (by omega) (by simp only [List.length_append]; omega)
    simp only [Int.toNat_natCast] at s3
    simp -implicitDefEqProofs only [go_sem, tys, regs0, Nat.reduceEqDiff, Nat.reduceAdd, Nat.reduceLeDiff, Nat.reduceLT, Nat.reduceMul, Int.natCast_one, Int.natCast_zero, Int.reduceEq, Int.reduceLT, Int.reduceLE, Int.reduceAdd, Int.reduceSub, Int.reduceToNat, UInt8.reduceToNat, h1, h5, hB0, ot5, stripO, puP5, puM, puN, pu0]
    repeat' first
      | (with_reducible refine And.intro ?_ ?_)
      | (refine s1 _ _ _ hA0 (fun tl1 G1 hA1 hK1 => ?_)
         have hB1 := hK1.cells hB0
         simp -implicitDefEqProofs only [go_sem, tys, regs0, Nat.reduceEqDiff, Nat.reduceAdd, Nat.reduceLeDiff, Nat.reduceLT, Nat.reduceMul, Int.natCast_one, Int.natCast_zero, Int.reduceEq, Int.reduceLT, Int.reduceLE, Int.reduceAdd, Int.reduceSub, Int.reduceToNat, UInt8.reduceToNat, h1, h5, stripO, hB1, puP5, puM, puN, pu0])
      | (refine s2 _ _ _ hA1 (fun tl2 G2 hA2 hK2 => ?_)
         have hB2 := hK2.cells hB1
         simp -implicitDefEqProofs only [go_sem, tys, regs0, Nat.reduceEqDiff, Nat.reduceAdd, Nat.reduceLeDiff, Nat.reduceLT, Nat.reduceMul, Int.natCast_one, Int.natCast_zero, Int.reduceEq, Int.reduceLT, Int.reduceLE, Int.reduceAdd, Int.reduceSub, Int.reduceToNat, UInt8.reduceToNat, h1, h5, stripO, hB2, puP5, puM, puN, pu0])
      | (refine s3 _ _ _ hA2 (fun tl3 G3 hA3 hK3 => ?_)
         have hB3 := hK3.cells hB2
         simp -implicitDefEqProofs only [go_sem, tys, regs0, Nat.reduceEqDiff, Nat.reduceAdd, Nat.reduceLeDiff, Nat.reduceLT, Nat.reduceMul, Int.natCast_one, Int.natCast_zero, Int.reduceEq, Int.reduceLT, Int.reduceLE, Int.reduceAdd, Int.reduceSub, Int.reduceToNat, UInt8.reduceToNat, h1, h5, stripO, hB3, puP5, puM, puN, pu0])
    all_goals exact ⟨tl3, by simp -implicitDefEqProofs only [go_sem, tys, regs0, Nat.reduceEqDiff, Nat.reduceAdd, Nat.reduceLeDiff, Nat.reduceLT, Nat.reduceMul, Int.natCast_one, Int.natCast_zero, Int.reduceEq, Int.reduceLT, Int.reduceLE, Int.reduceAdd, Int.reduceSub, Int.reduceToNat, UInt8.reduceToNat, h1]; exact rfl, hA3, hB3⟩
  clear hA0 hB0 h1 h5
  rintro r G ⟨tl0, hv, hA0, hB0⟩
  have h1 := hv.1
  have h5 := hv.2.1
  clear hv
  unfold encDl at hB0
  simp -implicitDefEqProofs only [go_sem, tys, regs0, Nat.reduceEqDiff, Nat.reduceAdd, Nat.reduceLeDiff, Nat.reduceLT, Nat.reduceMul, Int.natCast_one, Int.natCast_zero, Int.reduceEq, Int.reduceLT, Int.reduceLE, Int.reduceAdd, Int.reduceSub, Int.reduceToNat, UInt8.reduceToNat, h1, h5, hB0]
  refine aloop_intro (σ := Nat × Tail) (fun s => [(5, .sl ((headB d ++ ((d.ps.take s.1).map pieceB).flatten).map bcell) s.2), (33, .sl (d.ps.map encPc) t), (34, .int .i64 d.ps.length), (35, .int .i64 s.1)])
    (fun s G => AppG H G 1 ((headB d ++ ((d.ps.take s.1).map pieceB).flatten).map bcell) s.2 ∧ s.1 ≤ d.ps.length) (fun s => d.ps.length - s.1) (0, tl0) ?_ ?_ ?_
  · simp -implicitDefEqProofs only [go_sem, tys, regs0, Nat.reduceEqDiff, Nat.reduceAdd, Nat.reduceLeDiff, Nat.reduceLT, Nat.reduceMul, Int.natCast_one, Int.natCast_zero, Int.reduceEq, Int.reduceLT, Int.reduceLE, Int.reduceAdd, Int.reduceSub, Int.reduceToNat, UInt8.reduceToNat, h1, h5]
    simp
  · exact ⟨by simpa using hA0, by omega⟩
  · rintro ⟨i, tl1⟩ r G hv ⟨hA, hi⟩
    have h5 := hv.1
    have h33 := hv.2.1
    have h34 := hv.2.2.1
    have h35 := hv.2.2.2.1
    clear hv hA0 hB0
    simp only at h5 h33 h34 h35 hA hi
    simp -implicitDefEqProofs only [go_sem, tys, regs0, Nat.reduceEqDiff, Nat.reduceAdd, Nat.reduceLeDiff, Nat.reduceLT, Nat.reduceMul, Int.natCast_one, Int.natCast_zero, Int.reduceEq, Int.reduceLT, Int.reduceLE, Int.reduceAdd, Int.reduceSub, Int.reduceToNat, UInt8.reduceToNat, h5, h33, h34, h35]
    refine cnd_intro (fun g => ?_) (fun g => ?_)
    · simp only [decide_eq_true_eq] at g
      obtain ⟨p, hp⟩ : ∃ p, d.ps[i]? = some p := getD_get' (by omega)
      have hm := List.mem_of_getElem? hp
      have hrpp := hrp p hm
      have hpc := hsm p hm
      have hpi := hpl i
      have hps := pieces_succ hp
      have hpb := pieceB.eq_1 p
      have hpbl := pieceB_len hrpp hpc
      have r3 := hrpp.2.2
      generalize hout : headB d ++ ((d.ps.take i).map pieceB).flatten = out at *
      have hol : out.length ≤ 40 + 4194320 * i := by rw [← hout, List.length_append]; omega
      simp -implicitDefEqProofs only [go_sem, tys, regs0, Nat.reduceEqDiff, Nat.reduceAdd, Nat.reduceLeDiff, Nat.reduceLT, Nat.reduceMul, Int.natCast_one, Int.natCast_zero, Int.reduceEq, Int.reduceLT, Int.reduceLE, Int.reduceAdd, Int.reduceSub, Int.reduceToNat, UInt8.reduceToNat, h5, h33, h34, h35, hp, encPc]
      with_reducible refine nwC_intro fun id hid => ?_
      have hB2 := put_same G id (.cells [.int .i64 p.at_, .int .i64 p.long, .str p.data])
      have hA2 := hA.put hid (.cells [.int .i64 p.at_, .int .i64 p.long, .str p.data])
      simp -implicitDefEqProofs only [go_sem, tys, regs0, Nat.reduceEqDiff, Nat.reduceAdd, Nat.reduceLeDiff, Nat.reduceLT, Nat.reduceMul, Int.natCast_one, Int.natCast_zero, Int.reduceEq, Int.reduceLT, Int.reduceLE, Int.reduceAdd, Int.reduceSub, Int.reduceToNat, UInt8.reduceToNat, h5, h33, h34, h35]
      refine cnd_intro (fun g7 => ?_) (fun g7 => ?_)
      · simp only [decide_eq_true_eq] at g7
        rw [if_pos g7] at hpb
        have q2 := groups6 (n := p.data.length) (by omega)
        with_reducible refine acode_mid (Mid2 d t H i (out ++ pieceB p)) ?_ ?_
        · rintro r G ⟨tl0, hv, hA0⟩
          have h5 := hv.1
          have h33 := hv.2.1
          have h34 := hv.2.2.1
          have h35 := hv.2.2.2.1
          clear hv
          simp -implicitDefEqProofs (disch := omega) only [go_sem, tys, regs0, Nat.reduceEqDiff, Nat.reduceAdd, Nat.reduceLeDiff, Nat.reduceLT, Nat.reduceMul, Int.natCast_one, Int.natCast_zero, Int.reduceEq, Int.reduceLT, Int.reduceLE, Int.reduceAdd, Int.reduceSub, Int.reduceToNat, UInt8.reduceToNat, Go.IntWalk.i64_in, h5, h33, h34, h35]
          rw [← hout, List.append_assoc, ← hps] at hA0 h5
          exact Again.mk (i + 1, tl0) (by simp -implicitDefEqProofs only [go_sem, tys, regs0, Nat.reduceEqDiff, Nat.reduceAdd, Nat.reduceLeDiff, Nat.reduceLT, Nat.reduceMul, Int.natCast_one, Int.natCast_zero, Int.reduceEq, Int.reduceLT, Int.reduceLE, Int.reduceAdd, Int.reduceSub, Int.reduceToNat, UInt8.reduceToNat, h5, h33, h34, h35]; exact rfl) ⟨hA0, by simp only; omega⟩ (by simp only; omega)
        rw [acode_tree (t := ot10) rfl (by rfl)]
        have s2 := fun G tl K => putNumber_k (F := H) (G := G) (l := out ++ [1]) (tl := tl) (n := (p.data.length : Int)) (K := K) (by omega) (by simp only [List.length_append, List.length_cons, List.length_nil]; omega)
        simp only [Int.toNat_natCast] at s2
        simp -implicitDefEqProofs only [go_sem, tys, regs0, Nat.reduceEqDiff, Nat.reduceAdd, Nat.reduceLeDiff, Nat.reduceLT, Nat.reduceMul, Int.natCast_one, Int.natCast_zero, Int.reduceEq, Int.reduceLT, Int.reduceLE, Int.reduceAdd, Int.reduceSub, Int.reduceToNat, UInt8.reduceToNat, h5, h33, h34, h35, hB2, ot10, stripO, puP5, puM, puN, pu0]
        repeat' first
          | (with_reducible refine And.intro ?_ ?_)
          | (refine AppG.step hA2 (bcell_unif _) (by simp; omega) (by simp; omega) (fun tl2 G2 hA3 hK3 => ?_)
             rw [one_cell] at hA3
             have hB3 := hK3.cells hB2
             simp -implicitDefEqProofs only [go_sem, tys, regs0, Nat.reduceEqDiff, Nat.reduceAdd, Nat.reduceLeDiff, Nat.reduceLT, Nat.reduceMul, Int.natCast_one, Int.natCast_zero, Int.reduceEq, Int.reduceLT, Int.reduceLE, Int.reduceAdd, Int.reduceSub, Int.reduceToNat, UInt8.reduceToNat, h5, h33, h34, h35, stripO, hB3, one_cell, puP5, puM, puN, pu0])
          | (refine s2 _ _ _ hA3 (fun tl3 G3 hA4 hK4 => ?_)
             have hB4 := hK4.cells hB3
             simp -implicitDefEqProofs only [go_sem, tys, regs0, Nat.reduceEqDiff, Nat.reduceAdd, Nat.reduceLeDiff, Nat.reduceLT, Nat.reduceMul, Int.natCast_one, Int.natCast_zero, Int.reduceEq, Int.reduceLT, Int.reduceLE, Int.reduceAdd, Int.reduceSub, Int.reduceToNat, UInt8.reduceToNat, h5, h33, h34, h35, stripO, hB4, puP5, puM, puN, pu0])
          | (refine AppG.step (new := p.data.map bcell) hA4 (bcell_unif _) (by simp; omega) (by simp; omega) (fun tl4 G4 hA5 hK5 => ?_)
             rw [← List.map_append] at hA5 ⊢
             simp -implicitDefEqProofs only [go_sem, tys, regs0, Nat.reduceEqDiff, Nat.reduceAdd, Nat.reduceLeDiff, Nat.reduceLT, Nat.reduceMul, Int.natCast_one, Int.natCast_zero, Int.reduceEq, Int.reduceLT, Int.reduceLE, Int.reduceAdd, Int.reduceSub, Int.reduceToNat, UInt8.reduceToNat, h5, h33, h34, h35, stripO, puP5, puM, puN, pu0])
        all_goals
          have e : out ++ [1] ++ groupsB p.data.length ++ p.data = out ++ pieceB p := by rw [hpb]; simp
          exact ⟨tl4, by simp -implicitDefEqProofs only [go_sem, tys, regs0, Nat.reduceEqDiff, Nat.reduceAdd, Nat.reduceLeDiff, Nat.reduceLT, Nat.reduceMul, Int.natCast_one, Int.natCast_zero, Int.reduceEq, Int.reduceLT, Int.reduceLE, Int.reduceAdd, Int.reduceSub, Int.reduceToNat, UInt8.reduceToNat, h5, h33, h34, h35]; rw [← e], by rw [← e]; exact hA5⟩
      · simp only [decide_eq_false_iff_not] at g7
        rw [if_neg g7] at hpb
        have hpc2 := hpc (by simpa using g7)
        with_reducible refine acode_mid (Mid2 d t H i (out ++ pieceB p)) ?_ ?_
        · rintro r G ⟨tl0, hv, hA0⟩
          have h5 := hv.1
          have h33 := hv.2.1
          have h34 := hv.2.2.1
          have h35 := hv.2.2.2.1
          clear hv
          simp -implicitDefEqProofs (disch := omega) only [go_sem, tys, regs0, Nat.reduceEqDiff, Nat.reduceAdd, Nat.reduceLeDiff, Nat.reduceLT, Nat.reduceMul, Int.natCast_one, Int.natCast_zero, Int.reduceEq, Int.reduceLT, Int.reduceLE, Int.reduceAdd, Int.reduceSub, Int.reduceToNat, UInt8.reduceToNat, Go.IntWalk.i64_in, h5, h33, h34, h35]
          rw [← hout, List.append_assoc, ← hps] at hA0 h5
          exact Again.mk (i + 1, tl0) (by simp -implicitDefEqProofs only [go_sem, tys, regs0, Nat.reduceEqDiff, Nat.reduceAdd, Nat.reduceLeDiff, Nat.reduceLT, Nat.reduceMul, Int.natCast_one, Int.natCast_zero, Int.reduceEq, Int.reduceLT, Int.reduceLE, Int.reduceAdd, Int.reduceSub, Int.reduceToNat, UInt8.reduceToNat, h5, h33, h34, h35]; exact rfl) ⟨hA0, by simp only; omega⟩ (by simp only; omega)
        rw [acode_tree (t := ot11) rfl (by rfl)]
        have q2 := groups6 (n := p.at_.toNat) (by omega)
        have s2 := fun G tl K => putNumber_k (F := H) (G := G) (l := out ++ [0]) (tl := tl) (n := p.at_) (K := K) (by omega) (by simp only [List.length_append, List.length_cons, List.length_nil]; omega)
        have s3 := fun G tl K => putNumber_k (F := H) (G := G) (l := out ++ [0] ++ groupsB p.at_.toNat) (tl := tl) (n := p.long) (K := K) (by omega) (by simp only [List.length_append, List.length_cons, List.length_nil]; omega)
        simp -implicitDefEqProofs only [go_sem, tys, regs0, Nat.reduceEqDiff, Nat.reduceAdd, Nat.reduceLeDiff, Nat.reduceLT, Nat.reduceMul, Int.natCast_one, Int.natCast_zero, Int.reduceEq, Int.reduceLT, Int.reduceLE, Int.reduceAdd, Int.reduceSub, Int.reduceToNat, UInt8.reduceToNat, h5, h33, h34, h35, hB2, ot11, stripO, puP5, puM, puN, pu0]
        repeat' first
          | (with_reducible refine And.intro ?_ ?_)
          | (refine AppG.step hA2 (bcell_unif _) (by simp; omega) (by simp; omega) (fun tl2 G2 hA3 hK3 => ?_)
             rw [zero_cell] at hA3
             have hB3 := hK3.cells hB2
             simp -implicitDefEqProofs only [go_sem, tys, regs0, Nat.reduceEqDiff, Nat.reduceAdd, Nat.reduceLeDiff, Nat.reduceLT, Nat.reduceMul, Int.natCast_one, Int.natCast_zero, Int.reduceEq, Int.reduceLT, Int.reduceLE, Int.reduceAdd, Int.reduceSub, Int.reduceToNat, UInt8.reduceToNat, h5, h33, h34, h35, stripO, hB3, zero_cell, puP5, puM, puN, pu0])
          | (refine s2 _ _ _ hA3 (fun tl3 G3 hA4 hK4 => ?_)
             have hB4 := hK4.cells hB3
             simp -implicitDefEqProofs only [go_sem, tys, regs0, Nat.reduceEqDiff, Nat.reduceAdd, Nat.reduceLeDiff, Nat.reduceLT, Nat.reduceMul, Int.natCast_one, Int.natCast_zero, Int.reduceEq, Int.reduceLT, Int.reduceLE, Int.reduceAdd, Int.reduceSub, Int.reduceToNat, UInt8.reduceToNat, h5, h33, h34, h35, stripO, hB4, puP5, puM, puN, pu0])
          | (refine s3 _ _ _ hA4 (fun tl4 G4 hA5 hK5 => ?_)
             simp -implicitDefEqProofs only [go_sem, tys, regs0, Nat.reduceEqDiff, Nat.reduceAdd, Nat.reduceLeDiff, Nat.reduceLT, Nat.reduceMul, Int.natCast_one, Int.natCast_zero, Int.reduceEq, Int.reduceLT, Int.reduceLE, Int.reduceAdd, Int.reduceSub, Int.reduceToNat, UInt8.reduceToNat, h5, h33, h34, h35, stripO, puP5, puM, puN, pu0])
        all_goals
          have e : out ++ [0] ++ groupsB p.at_.toNat ++ groupsB p.long.toNat = out ++ pieceB p := by rw [hpb]; simp
          exact ⟨tl4, by simp -implicitDefEqProofs only [go_sem, tys, regs0, Nat.reduceEqDiff, Nat.reduceAdd, Nat.reduceLeDiff, Nat.reduceLT, Nat.reduceMul, Int.natCast_one, Int.natCast_zero, Int.reduceEq, Int.reduceLT, Int.reduceLE, Int.reduceAdd, Int.reduceSub, Int.reduceToNat, UInt8.reduceToNat, h5, h33, h34, h35]; rw [← e], by rw [← e]; exact hA5⟩
    · simp only [decide_eq_false_iff_not] at g
      have e : i = d.ps.length := by omega
      subst e
      have hpi := hpl d.ps.length
      rw [List.take_length] at hA hpi h5
      have hbod : headB d ++ (d.ps.map pieceB).flatten = bodyB d := rfl
      rw [hbod] at hA h5
      have hbl : (bodyB d).length ≤ 40 + 4194320 * d.ps.length := by unfold bodyB; rw [List.length_append]; omega
      have hR : Room = 1099511627776 := rfl
      have hrm : (bodyB d).length ≤ 1099511627776 := by omega
      have q2 := rawB_len (hexN (sumOf (bodyB d)))
      have s1 := fun G tl K => putSum_k (F := H) (G := G) (l := bodyB d) (tl := tl) (s := sumOf (bodyB d)) (K := K) (sumOf_form (bodyB d)) (by omega)
      simp -implicitDefEqProofs only [go_sem, tys, regs0, Nat.reduceEqDiff, Nat.reduceAdd, Nat.reduceLeDiff, Nat.reduceLT, Nat.reduceMul, Int.natCast_one, Int.natCast_zero, Int.reduceEq, Int.reduceLT, Int.reduceLE, Int.reduceAdd, Int.reduceSub, Int.reduceToNat, UInt8.reduceToNat, h5, h33, h34, h35]
      refine conv_sl (l := bodyB d) (by simp -implicitDefEqProofs only [go_sem, tys, regs0, Nat.reduceEqDiff, Nat.reduceAdd, Nat.reduceLeDiff, Nat.reduceLT, Nat.reduceMul, Int.natCast_one, Int.natCast_zero, Int.reduceEq, Int.reduceLT, Int.reduceLE, Int.reduceAdd, Int.reduceSub, Int.reduceToNat, UInt8.reduceToNat]) (by simp -implicitDefEqProofs only [go_sem, tys, regs0, Nat.reduceEqDiff, Nat.reduceAdd, Nat.reduceLeDiff, Nat.reduceLT, Nat.reduceMul, Int.natCast_one, Int.natCast_zero, Int.reduceEq, Int.reduceLT, Int.reduceLE, Int.reduceAdd, Int.reduceSub, Int.reduceToNat, UInt8.reduceToNat]) ?_
      simp -implicitDefEqProofs (disch := (first | omega | (simp only [List.length_append, List.length_cons, List.length_nil]; omega))) only [go_sem, binS_addD, tys, regs0, Nat.reduceEqDiff, Nat.reduceAdd, Nat.reduceLeDiff, Nat.reduceLT, Nat.reduceMul, Int.natCast_one, Int.natCast_zero, Int.reduceEq, Int.reduceLT, Int.reduceLE, Int.reduceAdd, Int.reduceSub, Int.reduceToNat, UInt8.reduceToNat, Go.IntWalk.i64_in, h5, puP5, puM, puN, pu0, sSum_eq, hR, hrm]
      refine s1 _ _ _ hA (fun tl3 G3 hA4 hK4 => ?_)
      simp -implicitDefEqProofs only [go_sem, tys, regs0, Nat.reduceEqDiff, Nat.reduceAdd, Nat.reduceLeDiff, Nat.reduceLT, Nat.reduceMul, Int.natCast_one, Int.natCast_zero, Int.reduceEq, Int.reduceLT, Int.reduceLE, Int.reduceAdd, Int.reduceSub, Int.reduceToNat, UInt8.reduceToNat, h5]
      refine conv_sl (l := bodyB d ++ rawB (hexN (sumOf (bodyB d)))) (by simp -implicitDefEqProofs only [go_sem, tys, regs0, Nat.reduceEqDiff, Nat.reduceAdd, Nat.reduceLeDiff, Nat.reduceLT, Nat.reduceMul, Int.natCast_one, Int.natCast_zero, Int.reduceEq, Int.reduceLT, Int.reduceLE, Int.reduceAdd, Int.reduceSub, Int.reduceToNat, UInt8.reduceToNat]) (by simp -implicitDefEqProofs only [go_sem, tys, regs0, Nat.reduceEqDiff, Nat.reduceAdd, Nat.reduceLeDiff, Nat.reduceLT, Nat.reduceMul, Int.natCast_one, Int.natCast_zero, Int.reduceEq, Int.reduceLT, Int.reduceLE, Int.reduceAdd, Int.reduceSub, Int.reduceToNat, UInt8.reduceToNat]) ?_
      simp -implicitDefEqProofs only [go_sem, tys, regs0, Nat.reduceEqDiff, Nat.reduceAdd, Nat.reduceLeDiff, Nat.reduceLT, Nat.reduceMul, Int.natCast_one, Int.natCast_zero, Int.reduceEq, Int.reduceLT, Int.reduceLE, Int.reduceAdd, Int.reduceSub, Int.reduceToNat, UInt8.reduceToNat, h5]
      exact Done.drop hA4.sub ⟨rfl, rfl⟩
end Go.Proofs
