/-
  Walks and plain laws, part 9.
-/
import Derived.Test.YtfippeedjajnkaaGreatDoorM8
import Derived.Test.YtfippeedjajnkaaGreatDoorM7
/- Walks: the program's machine, Apply. -/
namespace Go.Proofs
open Go Go.Abs
open Nat (reduceEqDiff reduceAdd reduceLeDiff reduceLT reduceMul)
open Int (reduceEq reduceLE reduceSub reduceToNat)
set_option linter.unusedSimpArgs false
set_option linter.unusedVariables false
set_option maxRecDepth 20000
def machOT : OT := .seg [0, 1, 2, 3, 5, 6, 7, 10, 11, 12, 15, 16, 17] (.or (.seg [4, 8] (.or (.seg [9, 13] (.or (.seg [14, 18, 19, 20, 21] .done) (.seg [18, 14, 19, 20, 21] .done))) (.or (.seg [13] (.or (.seg [9] (.or (.seg [14, 18, 19, 20, 21] .done) (.seg [18, 14, 19, 20, 21] .done))) (.seg [18, 9, 14, 19, 20, 21] .done))) (.seg [18] (.or (.seg [9, 13, 14, 19, 20, 21] .done) (.seg [13, 9, 14, 19, 20, 21] .done)))))) (.or (.seg [8] (.or (.seg [4] (.or (.seg [9, 13] (.or (.seg [14, 18, 19, 20, 21] .done) (.seg [18, 14, 19, 20, 21] .done))) (.or (.seg [13] (.or (.seg [9] (.or (.seg [14, 18, 19, 20, 21] .done) (.seg [18, 14, 19, 20, 21] .done))) (.seg [18, 9, 14, 19, 20, 21] .done))) (.seg [18] (.or (.seg [9, 13, 14, 19, 20, 21] .done) (.seg [13, 9, 14, 19, 20, 21] .done)))))) (.or (.seg [13] (.or (.seg [4] (.or (.seg [9] (.or (.seg [14, 18, 19, 20, 21] .done) (.seg [18, 14, 19, 20, 21] .done))) (.seg [18, 9, 14, 19, 20, 21] .done))) (.seg [18, 4, 9, 14, 19, 20, 21] .done))) (.seg [18] (.or (.seg [4] (.or (.seg [9, 13, 14, 19, 20, 21] .done) (.seg [13, 9, 14, 19, 20, 21] .done))) (.seg [13, 4, 9, 14, 19, 20, 21] .done)))))) (.or (.seg [13] (.or (.seg [4, 8] (.or (.seg [9] (.or (.seg [14, 18, 19, 20, 21] .done) (.seg [18, 14, 19, 20, 21] .done))) (.seg [18, 9, 14, 19, 20, 21] .done))) (.or (.seg [8] (.or (.seg [4] (.or (.seg [9] (.or (.seg [14, 18, 19, 20, 21] .done) (.seg [18, 14, 19, 20, 21] .done))) (.seg [18, 9, 14, 19, 20, 21] .done))) (.seg [18, 4, 9, 14, 19, 20, 21] .done))) (.seg [18] (.or (.seg [4, 8, 9, 14, 19, 20, 21] .done) (.seg [8, 4, 9, 14, 19, 20, 21] .done)))))) (.seg [18] (.or (.seg [4, 8] (.or (.seg [9, 13, 14, 19, 20, 21] .done) (.seg [13, 9, 14, 19, 20, 21] .done))) (.or (.seg [8] (.or (.seg [4] (.or (.seg [9, 13, 14, 19, 20, 21] .done) (.seg [13, 9, 14, 19, 20, 21] .done))) (.seg [13, 4, 9, 14, 19, 20, 21] .done))) (.seg [13] (.or (.seg [4, 8, 9, 14, 19, 20, 21] .done) (.seg [8, 4, 9, 14, 19, 20, 21] .done)))))))))
set_option maxHeartbeats 12800000 in
theorem machineB_calls {H H0 : Heap} {ib i1 i2 i3 i4 : Nat} {ta : Tail} {m : MacV} (hB : BM H H0 ib i1 i2 i3 i4 ta m) (hM : MacOK m) :
    ACalls Tryz.prog 91 [.ptr ib 0] H0 fun x H' => x = .agg (encMac m .unk .unk .unk .unk) ∧ H' = H0 := by
  obtain ⟨⟨l1, l2, l3, l4⟩, r1, r2, r3, r4⟩ := hM.R
  have q1 := hM.l2
  have q2 := hM.l3
  have q3 := hM.l4
  have hS := Heap.Sub.rfl' H0
  refine ACalls.of_code (X := { pure := pu0, tree := fun n => if n = 1 then some machOT else none }) pu0_ok Tryz.func91 (by kernel_rfl) rfl (by kernel_rfl) (Nat.le_of_ble_eq_true rfl) ?_
  simp -implicitDefEqProofs only [go_sem, reduceEqDiff, reduceAdd, reduceLeDiff, reduceLT, reduceMul, reduceEq, Int.reduceLT, reduceLE, Int.reduceAdd, reduceSub, reduceToNat, UInt8.reduceToNat, Tryz.f91]
  with_reducible refine nwC_intro fun j0 hj0 => ?_
  generalize E0 : Heap.put H0 j0 _ = G0
  have hO_0 := obj_new E0 hj0 hS
  have n0 := hO_0.1
  have hS := hO_0.2.1
  have g0 := hO_0.2.2.1
  clear hO_0
  have hB1 := BW.mono hB (fun i o h => hS i o h)
  have kb := hB1.b
  obtain ⟨es1, g1, m1⟩ := hB1.f
  obtain ⟨es3, g3, m3⟩ := hB1.s
  obtain ⟨es4, g4, m4⟩ := hB1.v
  have c0 := cloneSet_calls m.facts ta G0 l1
  have c1 := inOrderF_calls i1 es1 m.files G0 g1 m1 (by omega) (fun x hx => by have := pathB_len (fileErr_ok (hM.e2 x hx)).1; omega)
  have c3 := inOrderS_calls i3 es3 m.sets G0 g3 m3 (by omega) (fun x hx => by have := pathB_len (setErr_ok (hM.e3 x hx)).1; omega)
  have c4 := inOrderV_calls i4 es4 m.svcs G0 g4 m4 (by omega) (fun x hx => by have := nameB_len (svcErr_ok (hM.e4 x hx)).1; omega)
  simp -implicitDefEqProofs only [go_sem, reduceEqDiff, reduceAdd, reduceLeDiff, reduceLT, reduceMul, reduceEq, Int.reduceLT, reduceLE, Int.reduceAdd, reduceSub, reduceToNat, UInt8.reduceToNat]
  rw [acode_tree (t := machOT) rfl (by rfl)]
  simp -implicitDefEqProofs only [go_sem, reduceEqDiff, reduceAdd, reduceLeDiff, reduceLT, reduceMul, reduceEq, Int.reduceLT, reduceLE, Int.reduceAdd, reduceSub, reduceToNat, UInt8.reduceToNat, machOT, stripO, kb]
  have fin : Done Tryz.prog (fun x H' => x = .agg (encMac m .unk .unk .unk .unk) ∧ H' = H0) (.agg [.sl (m.facts.map encSet) .unk, .sl (m.files.map encFile) .unk, .sl (m.sets.map encSet) .unk, .sl (m.svcs.map encSvc) .unk]) (G0.put j0 (.cells [.sl (m.facts.map encSet) .unk, .sl (m.files.map encFile) .unk, .sl (m.sets.map encSet) .unk, .sl (m.svcs.map encSvc) .unk])) := Done.drop (hS.put' n0 _) ⟨rfl, rfl⟩
  repeat' (first
    | exact fin
    | refine And.intro ?_ ?_
    | (refine c0.pure_next _ ?_; simp -implicitDefEqProofs only [go_sem, reduceEqDiff, reduceAdd, reduceLeDiff, reduceLT, reduceMul, reduceEq, Int.reduceLT, reduceLE, Int.reduceAdd, reduceSub, reduceToNat, UInt8.reduceToNat, kb])
    | (refine c1.pure_next _ ?_; simp -implicitDefEqProofs only [go_sem, reduceEqDiff, reduceAdd, reduceLeDiff, reduceLT, reduceMul, reduceEq, Int.reduceLT, reduceLE, Int.reduceAdd, reduceSub, reduceToNat, UInt8.reduceToNat, kb])
    | (refine c3.pure_next _ ?_; simp -implicitDefEqProofs only [go_sem, reduceEqDiff, reduceAdd, reduceLeDiff, reduceLT, reduceMul, reduceEq, Int.reduceLT, reduceLE, Int.reduceAdd, reduceSub, reduceToNat, UInt8.reduceToNat, kb])
    | (refine c4.pure_next _ ?_; simp -implicitDefEqProofs only [go_sem, reduceEqDiff, reduceAdd, reduceLeDiff, reduceLT, reduceMul, reduceEq, Int.reduceLT, reduceLE, Int.reduceAdd, reduceSub, reduceToNat, UInt8.reduceToNat, kb, g0]))
end Go.Proofs

/- Walks: Apply, on the program's side. -/
namespace Go.Proofs
open Go Go.Abs
open Nat (reduceEqDiff reduceAdd reduceLeDiff reduceLT reduceMul)
open Int (reduceEq reduceLE reduceSub reduceToNat)
set_option linter.unusedSimpArgs false
set_option linter.unusedVariables false
set_option maxRecDepth 20000
def ApB (H : Heap) (ib i1 i2 i3 i4 j4 : Nat) (d : Except Int MacV) (r : Regs) (G : Heap) : Prop := ∃ n, d = .ok n ∧ MacOK n ∧ BM H G ib i1 i2 i3 i4 .unk n ∧ r 4 = .ptr j4 0 ∧ r 6 = .ptr ib 0
set_option maxHeartbeats 3200000 in
theorem apply_calls (m : MacV) (l : List ChgV) (ta tb tc td t : Tail) (H : Heap) (hM : MacOK m) (hl : l.length ≤ 1099511627776) (hc : ∀ c ∈ l, chgR c) :
    ACalls Tryz.prog 56 [.agg (encMac m ta tb tc td), .sl (l.map encChg) t] H fun x H' => x = applyA (doAll m l) ∧ H' = H := by
  obtain ⟨av, hv⟩ : ∃ av, av = doAll m l := ⟨_, rfl⟩
  rw [← hv]
  have hS := Heap.Sub.rfl' H
  refine ACalls.of_code (X := { pure := pu0 }) pu0_ok Tryz.func56 (by kernel_rfl) rfl (by kernel_rfl) (Nat.le_of_ble_eq_true rfl) ?_
  simp -implicitDefEqProofs only [go_sem, reduceEqDiff, reduceAdd, reduceLeDiff, reduceLT, reduceMul, reduceEq, Int.reduceLT, reduceLE, Int.reduceAdd, reduceSub, reduceToNat, UInt8.reduceToNat, Tryz.f56, encMac]
  with_reducible refine nwC_intro fun im him => ?_
  generalize Em : Heap.put H im _ = G1
  have hO_m := obj_new Em him hS
  have nm := hO_m.1
  have hS := hO_m.2.1
  have gm := hO_m.2.2.1
  clear hO_m
  simp -implicitDefEqProofs only [go_sem, reduceEqDiff, reduceAdd, reduceLeDiff, reduceLT, reduceMul, reduceEq, Int.reduceLT, reduceLE, Int.reduceAdd, reduceSub, reduceToNat, UInt8.reduceToNat]
  with_reducible refine nwC_intro fun j4 hj4 => ?_
  generalize E4 : Heap.put G1 j4 _ = G2
  have hO_4 := obj_new E4 hj4 hS
  have n4 := hO_4.1
  have hS := hO_4.2.1
  have g4 := hO_4.2.2.1
  have dm_4 := obj_ne gm hj4
  have gm := hO_4.2.2.2 _ _ gm
  clear hO_4
  have hwo := benchOf_calls m ta tb tc td G2 hM
  unfold encMac at hwo
  have g40 := g4
  simp -implicitDefEqProofs only [go_sem, reduceEqDiff, reduceAdd, reduceLeDiff, reduceLT, reduceMul, reduceEq, Int.reduceLT, reduceLE, Int.reduceAdd, reduceSub, reduceToNat, UInt8.reduceToNat, gm]
  refine hwo.mono ?_
  rintro x G3 ⟨ib, i1, i2, i3, i4, rfl, hR⟩
  clear hwo
  simp -implicitDefEqProofs only [go_sem, reduceEqDiff, reduceAdd, reduceLeDiff, reduceLT, reduceMul, reduceEq, Int.reduceLT, reduceLE, Int.reduceAdd, reduceSub, reduceToNat, UInt8.reduceToNat]
  with_reducible refine aloop_cut 0 (ApB G2 ib i1 i2 i3 i4 j4 av) ?_ ?_
  rotate_left
  · refine aloop_intro (σ := Nat × MacV) (fun s => [(4, .ptr j4 0), (6, .ptr ib 0), (12, .sl (l.map encChg) t), (13, .int .i64 l.length), (14, .int .i64 s.1)])
      (fun s G => s.1 ≤ l.length ∧ MacOK s.2 ∧ BM G2 G ib i1 i2 i3 i4 .unk s.2 ∧ av = doAll s.2 (l.drop s.1)) (fun s => l.length - s.1) (0, m) ?_ ?_ ?_
    · simp -implicitDefEqProofs only [go_sem, reduceEqDiff, reduceAdd, reduceLeDiff, reduceLT, reduceMul, reduceEq, Int.reduceLT, reduceLE, Int.reduceAdd, reduceSub, reduceToNat, UInt8.reduceToNat]
    · exact ⟨Nat.zero_le _, hM, hR, hv⟩
    clear hR hv hM
    rintro ⟨i, n⟩ r G hvv ⟨hi, hM, hR, hv⟩
    simp only at hi hM hR hv
    have e4 := hvv.1
    have e7 := hvv.2.1
    have ea := hvv.2.2.1
    have eb := hvv.2.2.2.1
    have ec := hvv.2.2.2.2.1
    simp only at ec
    clear hvv
    by_cases g : i < l.length
    rotate_left
    · have y0 : decide ((i : Int) < l.length) = false := decide_eq_false (by omega)
      obtain rfl : i = l.length := by omega
      rw [List.drop_length, doAll] at hv
      simp -implicitDefEqProofs only [go_sem, reduceEqDiff, reduceAdd, reduceLeDiff, reduceLT, reduceMul, reduceEq, Int.reduceLT, reduceLE, Int.reduceAdd, reduceSub, reduceToNat, UInt8.reduceToNat, e4, e7, ea, eb, ec, y0]
      exact ⟨n, hv, hM, hR, by simp -implicitDefEqProofs only [go_sem, reduceEqDiff, reduceAdd, reduceLeDiff, reduceLT, reduceMul, reduceEq, Int.reduceLT, reduceLE, Int.reduceAdd, reduceSub, reduceToNat, UInt8.reduceToNat, e4], by simp -implicitDefEqProofs only [go_sem, reduceEqDiff, reduceAdd, reduceLeDiff, reduceLT, reduceMul, reduceEq, Int.reduceLT, reduceLE, Int.reduceAdd, reduceSub, reduceToNat, UInt8.reduceToNat, e7]⟩
    have y1 : decide ((i : Int) < l.length) = true := decide_eq_true (by omega)
    obtain ⟨c, hx⟩ : ∃ x, l[i]? = some x := getD_get' g
    have ws : IntKind.i64.wrap ((i : Int) + 1) = ((i + 1 : Nat) : Int) := by rw [Go.IntWalk.i64_in _ (by omega)]; omega
    have hU : ∀ (a : ChgV), a ∈ l → (encChg a).length = 10 := fun _ _ => rfl
    rw [drop_at hx, doAll] at hv
    have hcc := hc c (List.mem_of_getElem? hx)
    have ht : (encChg c).take 10 = encChg c := rfl
    simp -implicitDefEqProofs only [go_sem, reduceEqDiff, reduceAdd, reduceLeDiff, reduceLT, reduceMul, reduceEq, Int.reduceLT, reduceLE, Int.reduceAdd, reduceSub, reduceToNat, UInt8.reduceToNat, e4, e7, ea, eb, ec, y1, hx]
    refine ⟨hU, Nat.le_refl _, ?_⟩
    rw [ht]
    simp only [encChg]
    with_reducible refine nwC_intro fun i5 hi5 => ?_
    simp -implicitDefEqProofs only [go_sem, reduceEqDiff, reduceAdd, reduceLeDiff, reduceLT, reduceMul, reduceEq, Int.reduceLT, reduceLE, Int.reduceAdd, reduceSub, reduceToNat, UInt8.reduceToNat]
    have hR2 : BM G2 (G.put i5 (.cells (encChg c))) ib i1 i2 i3 i4 .unk n := BW.put hR hi5 _
    have g5 := put_same G i5 (.cells (encChg c))
    unfold encChg at hR2 g5
    generalize G.put i5 _ = G6 at *
    have hdo := doB_calls hR2 hM hcc
    unfold encChg at hdo
    simp -implicitDefEqProofs only [go_sem, reduceEqDiff, reduceAdd, reduceLeDiff, reduceLT, reduceMul, reduceEq, Int.reduceLT, reduceLE, Int.reduceAdd, reduceSub, reduceToNat, UInt8.reduceToNat, e4, e7, ea, eb, ec, g5]
    refine hdo.mono ?_
    clear hdo
    rintro x G7 ⟨-, hx7⟩
    cases hd : doV n c with
    | error e =>
      rw [hd] at hx7 hv
      simp only at hv
      obtain ⟨rfl, hR7⟩ := hx7
      have he : ¬ e = 0 := doV_err hd
      have y2 : decide (¬ e = 0) = true := decide_eq_true he
      have g4 := hR7.sub _ _ g40
      rw [hv]
      simp -implicitDefEqProofs only [go_sem, reduceEqDiff, reduceAdd, reduceLeDiff, reduceLT, reduceMul, reduceEq, Int.reduceLT, reduceLE, Int.reduceAdd, reduceSub, reduceToNat, UInt8.reduceToNat, e4, e7, ea, eb, ec, y2, g4]
      exact Done.wk 3 (Done.drop (Heap.Sub.put' (fun i o hi => hR7.sub _ _ (hS i o hi)) n4 _) ⟨rfl, rfl⟩)
    | ok n2 =>
      rw [hd] at hx7 hv
      simp only at hv
      obtain ⟨rfl, hR7⟩ := hx7
      have y2 : decide (¬ (0 : Int) = 0) = false := rfl
      simp -implicitDefEqProofs only [go_sem, reduceEqDiff, reduceAdd, reduceLeDiff, reduceLT, reduceMul, reduceEq, Int.reduceLT, reduceLE, Int.reduceAdd, reduceSub, reduceToNat, UInt8.reduceToNat, e4, e7, ea, eb, ec, y2, ws]
      exact Again.mk (i + 1, n2) (by simp -implicitDefEqProofs only [go_sem, reduceEqDiff, reduceAdd, reduceLeDiff, reduceLT, reduceMul, reduceEq, Int.reduceLT, reduceLE, Int.reduceAdd, reduceSub, reduceToNat, UInt8.reduceToNat, e4, e7, ea, eb, ec]) ⟨by simp only; omega, doV_ok hM hd, hR7, hv⟩ (by simp only; omega)
  clear hR
  rintro r G ⟨n, hv, hM, hR, e4, e7⟩
  rw [hv]
  have hma := machineB_calls hR hM
  have g4 := hR.sub _ _ g40
  simp -implicitDefEqProofs only [go_sem, reduceEqDiff, reduceAdd, reduceLeDiff, reduceLT, reduceMul, reduceEq, Int.reduceLT, reduceLE, Int.reduceAdd, reduceSub, reduceToNat, UInt8.reduceToNat, e4, e7]
  refine hma.pure_next _ ?_
  unfold encMac
  simp -implicitDefEqProofs only [go_sem, reduceEqDiff, reduceAdd, reduceLeDiff, reduceLT, reduceMul, reduceEq, Int.reduceLT, reduceLE, Int.reduceAdd, reduceSub, reduceToNat, UInt8.reduceToNat, e4, e7, g4]
  refine Done.drop (Heap.Sub.put' (fun i o hi => hR.sub _ _ (hS i o hi)) n4 _) ⟨rfl, rfl⟩
theorem applyP_calls (m : MacV) (l : List ChgV) (ta tb tc td t : Tail) (H : Heap) (hr : macR m) (hl : l.length ≤ 1099511627776) (hc : ∀ c ∈ l, chgR c) :
    ACalls Tryz.prog 11 [.agg (encMac m ta tb tc td), .sl (l.map encChg) t] H fun x H' => x = applyA (applyV m l) ∧ H' = H := by
  have hv := applyV.eq_1 m l
  generalize applyV m l = av at *
  have hS := Heap.Sub.rfl' H
  refine ACalls.of_code (X := { pure := pu0 }) pu0_ok Tryz.func11 (by kernel_rfl) rfl (by kernel_rfl) (Nat.le_of_ble_eq_true rfl) ?_
  simp -implicitDefEqProofs only [go_sem, reduceEqDiff, reduceAdd, reduceLeDiff, reduceLT, reduceMul, reduceEq, Int.reduceLT, reduceLE, Int.reduceAdd, reduceSub, reduceToNat, UInt8.reduceToNat, Tryz.f11, encMac]
  with_reducible refine nwC_intro fun im him => ?_
  generalize Em : Heap.put H im _ = G1
  have hO_m := obj_new Em him hS
  have nm := hO_m.1
  have hS := hO_m.2.1
  have gm := hO_m.2.2.1
  clear hO_m
  simp -implicitDefEqProofs only [go_sem, reduceEqDiff, reduceAdd, reduceLeDiff, reduceLT, reduceMul, reduceEq, Int.reduceLT, reduceLE, Int.reduceAdd, reduceSub, reduceToNat, UInt8.reduceToNat]
  with_reducible refine nwC_intro fun i4 hi4 => ?_
  generalize E4 : Heap.put G1 i4 _ = G2
  have hO_4 := obj_new E4 hi4 hS
  have n4 := hO_4.1
  have hS := hO_4.2.1
  have g4 := hO_4.2.2.1
  have dm_4 := obj_ne gm hi4
  have gm := hO_4.2.2.2 _ _ gm
  clear hO_4
  have hck := check_calls m ta tb tc td G2 hr
  have hap := fun hM => apply_calls m l ta tb tc td t G2 hM hl hc
  unfold encMac at hck hap
  simp -implicitDefEqProofs only [go_sem, reduceEqDiff, reduceAdd, reduceLeDiff, reduceLT, reduceMul, reduceEq, Int.reduceLT, reduceLE, Int.reduceAdd, reduceSub, reduceToNat, UInt8.reduceToNat, gm]
  refine hck.pure_next _ ?_
  by_cases c0 : macErr m = 0
  rotate_left
  · have y0 : decide (¬ macErr m = 0) = true := decide_eq_true c0
    rw [if_pos c0] at hv
    subst hv
    simp -implicitDefEqProofs only [go_sem, reduceEqDiff, reduceAdd, reduceLeDiff, reduceLT, reduceMul, reduceEq, Int.reduceLT, reduceLE, Int.reduceAdd, reduceSub, reduceToNat, UInt8.reduceToNat, y0, g4]
    exact Done.wk 3 (Done.drop (hS.put' n4 _) ⟨rfl, rfl⟩)
  have y0 : decide (¬ macErr m = 0) = false := decide_eq_false (by simpa using c0)
  rw [if_neg (by simpa using c0)] at hv
  simp -implicitDefEqProofs only [go_sem, reduceEqDiff, reduceAdd, reduceLeDiff, reduceLT, reduceMul, reduceEq, Int.reduceLT, reduceLE, Int.reduceAdd, reduceSub, reduceToNat, UInt8.reduceToNat, y0, gm]
  refine (hap ((macErr_ok m).1 c0)).pure_next _ ?_
  rw [← hv]
  cases av with
  | error e =>
    unfold applyA encMac
    simp -implicitDefEqProofs only [go_sem, reduceEqDiff, reduceAdd, reduceLeDiff, reduceLT, reduceMul, reduceEq, Int.reduceLT, reduceLE, Int.reduceAdd, reduceSub, reduceToNat, UInt8.reduceToNat, g4]
    exact Done.drop (hS.put' n4 _) ⟨rfl, rfl⟩
  | ok n =>
    unfold applyA encMac
    simp -implicitDefEqProofs only [go_sem, reduceEqDiff, reduceAdd, reduceLeDiff, reduceLT, reduceMul, reduceEq, Int.reduceLT, reduceLE, Int.reduceAdd, reduceSub, reduceToNat, UInt8.reduceToNat, g4]
    exact Done.drop (hS.put' n4 _) ⟨rfl, rfl⟩
end Go.Proofs

/- Walks: the difference of two machines, on the program's side. -/
namespace Go.Proofs
open Go Go.Abs
open Nat (reduceEqDiff reduceAdd reduceLeDiff reduceLT reduceMul)
open Int (reduceEq reduceLE reduceSub reduceToNat)
set_option linter.unusedSimpArgs false
set_option linter.unusedVariables false
set_option maxRecDepth 20000
/-- Behind a loop of diff. -/
def DiffQ (H : Heap) (P : List ChgV) (l : List (Nat × AV)) (r : Regs) (G : Heap) : Prop := ∃ tl, AppOK H G 10 (P.map encChg) tl ∧ r 11 = .sl (P.map encChg) tl ∧ agrees r l
set_option maxHeartbeats 12800000 in
theorem diffL_calls (L1 : List FileV) (L2 : List SetV) (L3 : List SvcV) (L4 : List FileV) (L5 : List SetV) (L6 : List SvcV) (a b : MacV) (ta tb tc td ua ub uc ud : Tail) (H : Heap)
    (s1 : sidesV (·.path) a.files b.files = (L1, L4)) (s2 : sidesV (·.key) a.sets b.sets = (L2, L5)) (s3 : sidesV (·.name) a.svcs b.svcs = (L3, L6)) (hA : MacOK a) (hB : MacOK b)
    (n1 : L1.length ≤ 10000) (n2 : L2.length ≤ 10000) (n3 : L3.length ≤ 10000) (n4 : L4.length ≤ 10000) (n5 : L5.length ≤ 10000) (n6 : L6.length ≤ 10000) :
    ACalls Tryz.prog 55 [.agg (encMac a ta tb tc td), .agg (encMac b ua ub uc ud)] H fun x H' => x = .sl ((L1.map rmF ++ L2.map rmS ++ L3.map rmV ++ L4.map ptF ++ L5.map ptS ++ L6.map ptV).map encChg) .unk ∧ H' = H := by
  have hS := Heap.Sub.rfl' H
  have qa2 := hA.l2; have qa3 := hA.l3; have qa4 := hA.l4
  have qb2 := hB.l2; have qb3 := hB.l3; have qb4 := hB.l4
  refine ACalls.of_code (X := { pure := pu0 }) pu0_ok Tryz.func55 (by kernel_rfl) rfl (by kernel_rfl) (Nat.le_of_ble_eq_true rfl) ?_
  simp -implicitDefEqProofs only [go_sem, reduceEqDiff, reduceAdd, reduceLeDiff, reduceLT, reduceMul, reduceEq, Int.reduceLT, reduceLE, Int.reduceAdd, reduceSub, reduceToNat, UInt8.reduceToNat, Tryz.f55, encMac]
  with_reducible refine nwC_intro fun ia hia => ?_
  generalize Ea : Heap.put H ia _ = G1
  have hO_a := obj_new Ea hia hS
  have na := hO_a.1
  have hS := hO_a.2.1
  have ga := hO_a.2.2.1
  clear hO_a
  simp -implicitDefEqProofs only [go_sem, reduceEqDiff, reduceAdd, reduceLeDiff, reduceLT, reduceMul, reduceEq, Int.reduceLT, reduceLE, Int.reduceAdd, reduceSub, reduceToNat, UInt8.reduceToNat]
  with_reducible refine nwC_intro fun jb hjb => ?_
  generalize Eb : Heap.put G1 jb _ = G2
  have hO_b := obj_new Eb hjb hS
  have nb := hO_b.1
  have hS := hO_b.2.1
  have gb := hO_b.2.2.1
  have da_b := obj_ne ga hjb
  have ga := hO_b.2.2.2 _ _ ga
  clear hO_b
  have c1 := sidesF_calls a.files b.files tb ub G2 (by omega) (by omega)
  have c2 := sidesS_calls a.sets b.sets tc uc G2 (by omega) (by omega)
  have c3 := sidesV_calls a.svcs b.svcs td ud G2 (by omega) (by omega)
  rw [s1] at c1
  rw [s2] at c2
  rw [s3] at c3
  simp -implicitDefEqProofs only [go_sem, reduceEqDiff, reduceAdd, reduceLeDiff, reduceLT, reduceMul, reduceEq, Int.reduceLT, reduceLE, Int.reduceAdd, reduceSub, reduceToNat, UInt8.reduceToNat, ga, gb]
  refine c1.pure_next _ ?_
  simp -implicitDefEqProofs only [go_sem, reduceEqDiff, reduceAdd, reduceLeDiff, reduceLT, reduceMul, reduceEq, Int.reduceLT, reduceLE, Int.reduceAdd, reduceSub, reduceToNat, UInt8.reduceToNat, ga, gb]
  refine c2.pure_next _ ?_
  simp -implicitDefEqProofs only [go_sem, reduceEqDiff, reduceAdd, reduceLeDiff, reduceLT, reduceMul, reduceEq, Int.reduceLT, reduceLE, Int.reduceAdd, reduceSub, reduceToNat, UInt8.reduceToNat, ga, gb]
  refine c3.pure_next _ ?_
  simp -implicitDefEqProofs only [go_sem, reduceEqDiff, reduceAdd, reduceLeDiff, reduceLT, reduceMul, reduceEq, Int.reduceLT, reduceLE, Int.reduceAdd, reduceSub, reduceToNat, UInt8.reduceToNat, ga, gb]
  have hO : AppOK H G2 10 (([] : List ChgV).map encChg) .exact := AppOK.nil hS
  clear ga gb c1 c2 c3 Ea Eb hS
  with_reducible refine aloop_cut 0 (DiffQ H (L1.map rmF) [(7, .sl (L2.map encSet) .unk), (9, .sl (L3.map encSvc) .unk), (6, .sl (L4.map encFile) .unk), (8, .sl (L5.map encSet) .unk), (10, .sl (L6.map encSvc) .unk)]) ?_ ?_
  rotate_left
  · refine aloop_intro (σ := Nat × Tail) (fun s => [(11, .sl (((L1.take s.1).map rmF).map encChg) s.2), (48, .sl (L1.map encFile) .unk), (49, .int .i64 L1.length), (50, .int .i64 s.1), (7, .sl (L2.map encSet) .unk), (9, .sl (L3.map encSvc) .unk), (6, .sl (L4.map encFile) .unk), (8, .sl (L5.map encSet) .unk), (10, .sl (L6.map encSvc) .unk)])
      (fun s G => s.1 ≤ L1.length ∧ AppOK H G 10 (((L1.take s.1).map rmF).map encChg) s.2) (fun s => L1.length - s.1) (0, .exact) ?_ ?_ ?_
    · simp -implicitDefEqProofs only [go_sem, reduceEqDiff, reduceAdd, reduceLeDiff, reduceLT, reduceMul, reduceEq, Int.reduceLT, reduceLE, Int.reduceAdd, reduceSub, reduceToNat, UInt8.reduceToNat, List.take_zero, List.map_nil, List.append_nil]
    · exact ⟨Nat.zero_le _, by simpa using hO⟩
    clear hO
    rintro ⟨i, tl⟩ r G hv ⟨hi, hO⟩
    simp only at hi hO
    have e11 := hv.1
    have ea := hv.2.1
    have eb := hv.2.2.1
    have ec := hv.2.2.2.1
    have f7 := hv.2.2.2.2.1
    have f9 := hv.2.2.2.2.2.1
    have f6 := hv.2.2.2.2.2.2.1
    have f8 := hv.2.2.2.2.2.2.2.1
    have f10 := hv.2.2.2.2.2.2.2.2.1
    simp only at e11 ec
    clear hv
    by_cases g : i < L1.length
    rotate_left
    · have y0 : decide ((i : Int) < L1.length) = false := decide_eq_false (by omega)
      obtain rfl : i = L1.length := by omega
      rw [List.take_length] at hO e11
      simp -implicitDefEqProofs only [go_sem, reduceEqDiff, reduceAdd, reduceLeDiff, reduceLT, reduceMul, reduceEq, Int.reduceLT, reduceLE, Int.reduceAdd, reduceSub, reduceToNat, UInt8.reduceToNat, e11, f7, f9, f6, f8, f10, ea, eb, ec, y0]
      refine ⟨tl, hO, by simp -implicitDefEqProofs only [go_sem, reduceEqDiff, reduceAdd, reduceLeDiff, reduceLT, reduceMul, reduceEq, Int.reduceLT, reduceLE, Int.reduceAdd, reduceSub, reduceToNat, UInt8.reduceToNat, e11, f7, f9, f6, f8, f10], ?_⟩
      simp -implicitDefEqProofs only [go_sem, reduceEqDiff, reduceAdd, reduceLeDiff, reduceLT, reduceMul, reduceEq, Int.reduceLT, reduceLE, Int.reduceAdd, reduceSub, reduceToNat, UInt8.reduceToNat, e11, f7, f9, f6, f8, f10]
    have y0 : decide ((i : Int) < L1.length) = true := decide_eq_true (by omega)
    obtain ⟨x, hx⟩ : ∃ x, L1[i]? = some x := getD_get' g
    have ws : IntKind.i64.wrap ((i : Int) + 1) = ((i + 1 : Nat) : Int) := by rw [Go.IntWalk.i64_in _ (by omega)]; omega
    have hU : ∀ (x : FileV), x ∈ L1 → (encFile x).length = 3 := fun _ _ => rfl
    have hnew : ((L1.take i).map rmF).map encChg ++ [encChg (rmF x)] = ((L1.take (i + 1)).map rmF).map encChg := by rw [List.take_add_one, hx]; simp
    have hlen : ((L1.take i).map rmF).length ≤ 100000 := by simp; omega
    obtain ⟨p, d, ru⟩ := x
    simp only [encChg, rmF, FileV.zero, SetV.zero, SvcV.zero] at hnew
    simp -implicitDefEqProofs only [go_sem, reduceEqDiff, reduceAdd, reduceLeDiff, reduceLT, reduceMul, reduceEq, Int.reduceLT, reduceLE, Int.reduceAdd, reduceSub, reduceToNat, UInt8.reduceToNat, e11, f7, f9, f6, f8, f10, ea, eb, ec, y0, hx]
    refine ⟨hU, Nat.le_refl _, ?_⟩
    simp only [encFile, List.take_succ_cons, List.take_zero, List.take_nil]
    with_reducible refine nwC_intro fun i5 hi5 => ?_
    simp -implicitDefEqProofs only [go_sem, reduceEqDiff, reduceAdd, reduceLeDiff, reduceLT, reduceMul, reduceEq, Int.reduceLT, reduceLE, Int.reduceAdd, reduceSub, reduceToNat, UInt8.reduceToNat]
    replace hO := hO.put hi5 (.cells [.str p, .str d, .bool ru])
    have g5 := put_same G i5 (.cells [.str p, .str d, .bool ru])
    generalize G.put i5 (.cells [.str p, .str d, .bool ru]) = G6 at *
    simp -implicitDefEqProofs only [go_sem, reduceEqDiff, reduceAdd, reduceLeDiff, reduceLT, reduceMul, reduceEq, Int.reduceLT, reduceLE, Int.reduceAdd, reduceSub, reduceToNat, UInt8.reduceToNat, e11, f7, f9, f6, f8, f10, ea, eb, ec, g5]
    refine AppOK.step hO (fun z hz => by obtain ⟨q, -, rfl⟩ := List.mem_map.1 hz; rfl) (by simp) (by rw [List.length_map]; simp at hlen ⊢; omega) (by rw [List.length_map]; simp at hlen ⊢; omega) fun tl' G' hO' hK => ?_
    rw [hnew] at hO' ⊢
    simp -implicitDefEqProofs only [go_sem, reduceEqDiff, reduceAdd, reduceLeDiff, reduceLT, reduceMul, reduceEq, Int.reduceLT, reduceLE, Int.reduceAdd, reduceSub, reduceToNat, UInt8.reduceToNat, e11, f7, f9, f6, f8, f10, ea, eb, ec, ws]
    exact Again.mk (i + 1, tl') (by simp -implicitDefEqProofs only [go_sem, reduceEqDiff, reduceAdd, reduceLeDiff, reduceLT, reduceMul, reduceEq, Int.reduceLT, reduceLE, Int.reduceAdd, reduceSub, reduceToNat, UInt8.reduceToNat, e11, f7, f9, f6, f8, f10, ea, eb, ec]) ⟨by simp only; omega, hO'⟩ (by simp only; omega)
  clear hO
  rintro r G ⟨tl, hO, e11, hv⟩
  have f7 := hv.1
  have f9 := hv.2.1
  have f6 := hv.2.2.1
  have f8 := hv.2.2.2.1
  have f10 := hv.2.2.2.2.1
  clear hv
  simp -implicitDefEqProofs only [go_sem, reduceEqDiff, reduceAdd, reduceLeDiff, reduceLT, reduceMul, reduceEq, Int.reduceLT, reduceLE, Int.reduceAdd, reduceSub, reduceToNat, UInt8.reduceToNat, e11, f7, f9, f6, f8, f10]
  with_reducible refine aloop_cut 2 (DiffQ H (L1.map rmF ++ L2.map rmS) [(9, .sl (L3.map encSvc) .unk), (6, .sl (L4.map encFile) .unk), (8, .sl (L5.map encSet) .unk), (10, .sl (L6.map encSvc) .unk)]) ?_ ?_
  rotate_left
  · refine aloop_intro (σ := Nat × Tail) (fun s => [(11, .sl (((L1.map rmF) ++ (L2.take s.1).map rmS).map encChg) s.2), (62, .sl (L2.map encSet) .unk), (63, .int .i64 L2.length), (64, .int .i64 s.1), (9, .sl (L3.map encSvc) .unk), (6, .sl (L4.map encFile) .unk), (8, .sl (L5.map encSet) .unk), (10, .sl (L6.map encSvc) .unk)])
      (fun s G => s.1 ≤ L2.length ∧ AppOK H G 10 (((L1.map rmF) ++ (L2.take s.1).map rmS).map encChg) s.2) (fun s => L2.length - s.1) (0, tl) ?_ ?_ ?_
    · simp -implicitDefEqProofs only [go_sem, reduceEqDiff, reduceAdd, reduceLeDiff, reduceLT, reduceMul, reduceEq, Int.reduceLT, reduceLE, Int.reduceAdd, reduceSub, reduceToNat, UInt8.reduceToNat, e11, f7, f9, f6, f8, f10, List.take_zero, List.map_nil, List.append_nil]
    · exact ⟨Nat.zero_le _, by simpa using hO⟩
    clear hO e11 f7 f9 f6 f8 f10
    rintro ⟨i, tl⟩ r G hv ⟨hi, hO⟩
    simp only at hi hO
    have e11 := hv.1
    have ea := hv.2.1
    have eb := hv.2.2.1
    have ec := hv.2.2.2.1
    have f9 := hv.2.2.2.2.1
    have f6 := hv.2.2.2.2.2.1
    have f8 := hv.2.2.2.2.2.2.1
    have f10 := hv.2.2.2.2.2.2.2.1
    simp only at e11 ec
    clear hv
    by_cases g : i < L2.length
    rotate_left
    · have y0 : decide ((i : Int) < L2.length) = false := decide_eq_false (by omega)
      obtain rfl : i = L2.length := by omega
      rw [List.take_length] at hO e11
      simp -implicitDefEqProofs only [go_sem, reduceEqDiff, reduceAdd, reduceLeDiff, reduceLT, reduceMul, reduceEq, Int.reduceLT, reduceLE, Int.reduceAdd, reduceSub, reduceToNat, UInt8.reduceToNat, e11, f9, f6, f8, f10, ea, eb, ec, y0]
      refine ⟨tl, hO, by simp -implicitDefEqProofs only [go_sem, reduceEqDiff, reduceAdd, reduceLeDiff, reduceLT, reduceMul, reduceEq, Int.reduceLT, reduceLE, Int.reduceAdd, reduceSub, reduceToNat, UInt8.reduceToNat, e11, f9, f6, f8, f10], ?_⟩
      simp -implicitDefEqProofs only [go_sem, reduceEqDiff, reduceAdd, reduceLeDiff, reduceLT, reduceMul, reduceEq, Int.reduceLT, reduceLE, Int.reduceAdd, reduceSub, reduceToNat, UInt8.reduceToNat, e11, f9, f6, f8, f10]
    have y0 : decide ((i : Int) < L2.length) = true := decide_eq_true (by omega)
    obtain ⟨x, hx⟩ : ∃ x, L2[i]? = some x := getD_get' g
    have ws : IntKind.i64.wrap ((i : Int) + 1) = ((i + 1 : Nat) : Int) := by rw [Go.IntWalk.i64_in _ (by omega)]; omega
    have hU : ∀ (x : SetV), x ∈ L2 → (encSet x).length = 2 := fun _ _ => rfl
    have hnew : ((L1.map rmF) ++ (L2.take i).map rmS).map encChg ++ [encChg (rmS x)] = ((L1.map rmF) ++ (L2.take (i + 1)).map rmS).map encChg := by rw [List.take_add_one, hx]; simp
    have hlen : ((L1.map rmF) ++ (L2.take i).map rmS).length ≤ 100000 := by simp; omega
    obtain ⟨p, d⟩ := x
    simp only [encChg, rmS, FileV.zero, SetV.zero, SvcV.zero] at hnew
    simp -implicitDefEqProofs only [go_sem, reduceEqDiff, reduceAdd, reduceLeDiff, reduceLT, reduceMul, reduceEq, Int.reduceLT, reduceLE, Int.reduceAdd, reduceSub, reduceToNat, UInt8.reduceToNat, e11, f9, f6, f8, f10, ea, eb, ec, y0, hx]
    refine ⟨hU, Nat.le_refl _, ?_⟩
    simp only [encSet, List.take_succ_cons, List.take_zero, List.take_nil]
    with_reducible refine nwC_intro fun i5 hi5 => ?_
    simp -implicitDefEqProofs only [go_sem, reduceEqDiff, reduceAdd, reduceLeDiff, reduceLT, reduceMul, reduceEq, Int.reduceLT, reduceLE, Int.reduceAdd, reduceSub, reduceToNat, UInt8.reduceToNat]
    replace hO := hO.put hi5 (.cells [.str p, .str d])
    have g5 := put_same G i5 (.cells [.str p, .str d])
    generalize G.put i5 (.cells [.str p, .str d]) = G6 at *
    simp -implicitDefEqProofs only [go_sem, reduceEqDiff, reduceAdd, reduceLeDiff, reduceLT, reduceMul, reduceEq, Int.reduceLT, reduceLE, Int.reduceAdd, reduceSub, reduceToNat, UInt8.reduceToNat, e11, f9, f6, f8, f10, ea, eb, ec, g5]
    refine AppOK.step hO (fun z hz => by obtain ⟨q, -, rfl⟩ := List.mem_map.1 hz; rfl) (by simp) (by rw [List.length_map]; simp at hlen ⊢; omega) (by rw [List.length_map]; simp at hlen ⊢; omega) fun tl' G' hO' hK => ?_
    rw [hnew] at hO' ⊢
    simp -implicitDefEqProofs only [go_sem, reduceEqDiff, reduceAdd, reduceLeDiff, reduceLT, reduceMul, reduceEq, Int.reduceLT, reduceLE, Int.reduceAdd, reduceSub, reduceToNat, UInt8.reduceToNat, e11, f9, f6, f8, f10, ea, eb, ec, ws]
    exact Again.mk (i + 1, tl') (by simp -implicitDefEqProofs only [go_sem, reduceEqDiff, reduceAdd, reduceLeDiff, reduceLT, reduceMul, reduceEq, Int.reduceLT, reduceLE, Int.reduceAdd, reduceSub, reduceToNat, UInt8.reduceToNat, e11, f9, f6, f8, f10, ea, eb, ec]) ⟨by simp only; omega, hO'⟩ (by simp only; omega)
  clear hO e11 f7 f9 f6 f8 f10
  rintro r G ⟨tl, hO, e11, hv⟩
  have f9 := hv.1
  have f6 := hv.2.1
  have f8 := hv.2.2.1
  have f10 := hv.2.2.2.1
  clear hv
  simp -implicitDefEqProofs only [go_sem, reduceEqDiff, reduceAdd, reduceLeDiff, reduceLT, reduceMul, reduceEq, Int.reduceLT, reduceLE, Int.reduceAdd, reduceSub, reduceToNat, UInt8.reduceToNat, e11, f9, f6, f8, f10]
  with_reducible refine aloop_cut 4 (DiffQ H (L1.map rmF ++ L2.map rmS ++ L3.map rmV) [(6, .sl (L4.map encFile) .unk), (8, .sl (L5.map encSet) .unk), (10, .sl (L6.map encSvc) .unk)]) ?_ ?_
  rotate_left
  · refine aloop_intro (σ := Nat × Tail) (fun s => [(11, .sl (((L1.map rmF ++ L2.map rmS) ++ (L3.take s.1).map rmV).map encChg) s.2), (76, .sl (L3.map encSvc) .unk), (77, .int .i64 L3.length), (78, .int .i64 s.1), (6, .sl (L4.map encFile) .unk), (8, .sl (L5.map encSet) .unk), (10, .sl (L6.map encSvc) .unk)])
      (fun s G => s.1 ≤ L3.length ∧ AppOK H G 10 (((L1.map rmF ++ L2.map rmS) ++ (L3.take s.1).map rmV).map encChg) s.2) (fun s => L3.length - s.1) (0, tl) ?_ ?_ ?_
    · simp -implicitDefEqProofs only [go_sem, reduceEqDiff, reduceAdd, reduceLeDiff, reduceLT, reduceMul, reduceEq, Int.reduceLT, reduceLE, Int.reduceAdd, reduceSub, reduceToNat, UInt8.reduceToNat, e11, f9, f6, f8, f10, List.take_zero, List.map_nil, List.append_nil]
    · exact ⟨Nat.zero_le _, by simpa using hO⟩
    clear hO e11 f9 f6 f8 f10
    rintro ⟨i, tl⟩ r G hv ⟨hi, hO⟩
    simp only at hi hO
    have e11 := hv.1
    have ea := hv.2.1
    have eb := hv.2.2.1
    have ec := hv.2.2.2.1
    have f6 := hv.2.2.2.2.1
    have f8 := hv.2.2.2.2.2.1
    have f10 := hv.2.2.2.2.2.2.1
    simp only at e11 ec
    clear hv
    by_cases g : i < L3.length
    rotate_left
    · have y0 : decide ((i : Int) < L3.length) = false := decide_eq_false (by omega)
      obtain rfl : i = L3.length := by omega
      rw [List.take_length] at hO e11
      simp -implicitDefEqProofs only [go_sem, reduceEqDiff, reduceAdd, reduceLeDiff, reduceLT, reduceMul, reduceEq, Int.reduceLT, reduceLE, Int.reduceAdd, reduceSub, reduceToNat, UInt8.reduceToNat, e11, f6, f8, f10, ea, eb, ec, y0]
      refine ⟨tl, hO, by simp -implicitDefEqProofs only [go_sem, reduceEqDiff, reduceAdd, reduceLeDiff, reduceLT, reduceMul, reduceEq, Int.reduceLT, reduceLE, Int.reduceAdd, reduceSub, reduceToNat, UInt8.reduceToNat, e11, f6, f8, f10], ?_⟩
      simp -implicitDefEqProofs only [go_sem, reduceEqDiff, reduceAdd, reduceLeDiff, reduceLT, reduceMul, reduceEq, Int.reduceLT, reduceLE, Int.reduceAdd, reduceSub, reduceToNat, UInt8.reduceToNat, e11, f6, f8, f10]
    have y0 : decide ((i : Int) < L3.length) = true := decide_eq_true (by omega)
    obtain ⟨x, hx⟩ : ∃ x, L3[i]? = some x := getD_get' g
    have ws : IntKind.i64.wrap ((i : Int) + 1) = ((i + 1 : Nat) : Int) := by rw [Go.IntWalk.i64_in _ (by omega)]; omega
    have hU : ∀ (x : SvcV), x ∈ L3 → (encSvc x).length = 4 := fun _ _ => rfl
    have hnew : ((L1.map rmF ++ L2.map rmS) ++ (L3.take i).map rmV).map encChg ++ [encChg (rmV x)] = ((L1.map rmF ++ L2.map rmS) ++ (L3.take (i + 1)).map rmV).map encChg := by rw [List.take_add_one, hx]; simp
    have hlen : ((L1.map rmF ++ L2.map rmS) ++ (L3.take i).map rmV).length ≤ 100000 := by simp; omega
    obtain ⟨p, d, au, on⟩ := x
    simp only [encChg, rmV, FileV.zero, SetV.zero, SvcV.zero] at hnew
    simp -implicitDefEqProofs only [go_sem, reduceEqDiff, reduceAdd, reduceLeDiff, reduceLT, reduceMul, reduceEq, Int.reduceLT, reduceLE, Int.reduceAdd, reduceSub, reduceToNat, UInt8.reduceToNat, e11, f6, f8, f10, ea, eb, ec, y0, hx]
    refine ⟨hU, Nat.le_refl _, ?_⟩
    simp only [encSvc, List.take_succ_cons, List.take_zero, List.take_nil]
    with_reducible refine nwC_intro fun i5 hi5 => ?_
    simp -implicitDefEqProofs only [go_sem, reduceEqDiff, reduceAdd, reduceLeDiff, reduceLT, reduceMul, reduceEq, Int.reduceLT, reduceLE, Int.reduceAdd, reduceSub, reduceToNat, UInt8.reduceToNat]
    replace hO := hO.put hi5 (.cells [.str p, .str d, .bool au, .bool on])
    have g5 := put_same G i5 (.cells [.str p, .str d, .bool au, .bool on])
    generalize G.put i5 (.cells [.str p, .str d, .bool au, .bool on]) = G6 at *
    simp -implicitDefEqProofs only [go_sem, reduceEqDiff, reduceAdd, reduceLeDiff, reduceLT, reduceMul, reduceEq, Int.reduceLT, reduceLE, Int.reduceAdd, reduceSub, reduceToNat, UInt8.reduceToNat, e11, f6, f8, f10, ea, eb, ec, g5]
    refine AppOK.step hO (fun z hz => by obtain ⟨q, -, rfl⟩ := List.mem_map.1 hz; rfl) (by simp) (by rw [List.length_map]; simp at hlen ⊢; omega) (by rw [List.length_map]; simp at hlen ⊢; omega) fun tl' G' hO' hK => ?_
    rw [hnew] at hO' ⊢
    simp -implicitDefEqProofs only [go_sem, reduceEqDiff, reduceAdd, reduceLeDiff, reduceLT, reduceMul, reduceEq, Int.reduceLT, reduceLE, Int.reduceAdd, reduceSub, reduceToNat, UInt8.reduceToNat, e11, f6, f8, f10, ea, eb, ec, ws]
    exact Again.mk (i + 1, tl') (by simp -implicitDefEqProofs only [go_sem, reduceEqDiff, reduceAdd, reduceLeDiff, reduceLT, reduceMul, reduceEq, Int.reduceLT, reduceLE, Int.reduceAdd, reduceSub, reduceToNat, UInt8.reduceToNat, e11, f6, f8, f10, ea, eb, ec]) ⟨by simp only; omega, hO'⟩ (by simp only; omega)
  clear hO e11 f9 f6 f8 f10
  rintro r G ⟨tl, hO, e11, hv⟩
  have f6 := hv.1
  have f8 := hv.2.1
  have f10 := hv.2.2.1
  clear hv
  simp -implicitDefEqProofs only [go_sem, reduceEqDiff, reduceAdd, reduceLeDiff, reduceLT, reduceMul, reduceEq, Int.reduceLT, reduceLE, Int.reduceAdd, reduceSub, reduceToNat, UInt8.reduceToNat, e11, f6, f8, f10]
  with_reducible refine aloop_cut 6 (DiffQ H (L1.map rmF ++ L2.map rmS ++ L3.map rmV ++ L4.map ptF) [(8, .sl (L5.map encSet) .unk), (10, .sl (L6.map encSvc) .unk)]) ?_ ?_
  rotate_left
  · refine aloop_intro (σ := Nat × Tail) (fun s => [(11, .sl (((L1.map rmF ++ L2.map rmS ++ L3.map rmV) ++ (L4.take s.1).map ptF).map encChg) s.2), (90, .sl (L4.map encFile) .unk), (91, .int .i64 L4.length), (92, .int .i64 s.1), (8, .sl (L5.map encSet) .unk), (10, .sl (L6.map encSvc) .unk)])
      (fun s G => s.1 ≤ L4.length ∧ AppOK H G 10 (((L1.map rmF ++ L2.map rmS ++ L3.map rmV) ++ (L4.take s.1).map ptF).map encChg) s.2) (fun s => L4.length - s.1) (0, tl) ?_ ?_ ?_
    · simp -implicitDefEqProofs only [go_sem, reduceEqDiff, reduceAdd, reduceLeDiff, reduceLT, reduceMul, reduceEq, Int.reduceLT, reduceLE, Int.reduceAdd, reduceSub, reduceToNat, UInt8.reduceToNat, e11, f6, f8, f10, List.take_zero, List.map_nil, List.append_nil]
    · exact ⟨Nat.zero_le _, by simpa using hO⟩
    clear hO e11 f6 f8 f10
    rintro ⟨i, tl⟩ r G hv ⟨hi, hO⟩
    simp only at hi hO
    have e11 := hv.1
    have ea := hv.2.1
    have eb := hv.2.2.1
    have ec := hv.2.2.2.1
    have f8 := hv.2.2.2.2.1
    have f10 := hv.2.2.2.2.2.1
    simp only at e11 ec
    clear hv
    by_cases g : i < L4.length
    rotate_left
    · have y0 : decide ((i : Int) < L4.length) = false := decide_eq_false (by omega)
      obtain rfl : i = L4.length := by omega
      rw [List.take_length] at hO e11
      simp -implicitDefEqProofs only [go_sem, reduceEqDiff, reduceAdd, reduceLeDiff, reduceLT, reduceMul, reduceEq, Int.reduceLT, reduceLE, Int.reduceAdd, reduceSub, reduceToNat, UInt8.reduceToNat, e11, f8, f10, ea, eb, ec, y0]
      refine ⟨tl, hO, by simp -implicitDefEqProofs only [go_sem, reduceEqDiff, reduceAdd, reduceLeDiff, reduceLT, reduceMul, reduceEq, Int.reduceLT, reduceLE, Int.reduceAdd, reduceSub, reduceToNat, UInt8.reduceToNat, e11, f8, f10], ?_⟩
      simp -implicitDefEqProofs only [go_sem, reduceEqDiff, reduceAdd, reduceLeDiff, reduceLT, reduceMul, reduceEq, Int.reduceLT, reduceLE, Int.reduceAdd, reduceSub, reduceToNat, UInt8.reduceToNat, e11, f8, f10]
    have y0 : decide ((i : Int) < L4.length) = true := decide_eq_true (by omega)
    obtain ⟨x, hx⟩ : ∃ x, L4[i]? = some x := getD_get' g
    have ws : IntKind.i64.wrap ((i : Int) + 1) = ((i + 1 : Nat) : Int) := by rw [Go.IntWalk.i64_in _ (by omega)]; omega
    have hU : ∀ (x : FileV), x ∈ L4 → (encFile x).length = 3 := fun _ _ => rfl
    have hnew : ((L1.map rmF ++ L2.map rmS ++ L3.map rmV) ++ (L4.take i).map ptF).map encChg ++ [encChg (ptF x)] = ((L1.map rmF ++ L2.map rmS ++ L3.map rmV) ++ (L4.take (i + 1)).map ptF).map encChg := by rw [List.take_add_one, hx]; simp
    have hlen : ((L1.map rmF ++ L2.map rmS ++ L3.map rmV) ++ (L4.take i).map ptF).length ≤ 100000 := by simp; omega
    obtain ⟨p, d, ru⟩ := x
    simp only [encChg, ptF, FileV.zero, SetV.zero, SvcV.zero] at hnew
    simp -implicitDefEqProofs only [go_sem, reduceEqDiff, reduceAdd, reduceLeDiff, reduceLT, reduceMul, reduceEq, Int.reduceLT, reduceLE, Int.reduceAdd, reduceSub, reduceToNat, UInt8.reduceToNat, e11, f8, f10, ea, eb, ec, y0, hx]
    refine ⟨hU, Nat.le_refl _, ?_⟩
    simp only [encFile, List.take_succ_cons, List.take_zero, List.take_nil]
    with_reducible refine nwC_intro fun i5 hi5 => ?_
    simp -implicitDefEqProofs only [go_sem, reduceEqDiff, reduceAdd, reduceLeDiff, reduceLT, reduceMul, reduceEq, Int.reduceLT, reduceLE, Int.reduceAdd, reduceSub, reduceToNat, UInt8.reduceToNat]
    replace hO := hO.put hi5 (.cells [.str p, .str d, .bool ru])
    have g5 := put_same G i5 (.cells [.str p, .str d, .bool ru])
    generalize G.put i5 (.cells [.str p, .str d, .bool ru]) = G6 at *
    simp -implicitDefEqProofs only [go_sem, reduceEqDiff, reduceAdd, reduceLeDiff, reduceLT, reduceMul, reduceEq, Int.reduceLT, reduceLE, Int.reduceAdd, reduceSub, reduceToNat, UInt8.reduceToNat, e11, f8, f10, ea, eb, ec, g5]
    refine AppOK.step hO (fun z hz => by obtain ⟨q, -, rfl⟩ := List.mem_map.1 hz; rfl) (by simp) (by rw [List.length_map]; simp at hlen ⊢; omega) (by rw [List.length_map]; simp at hlen ⊢; omega) fun tl' G' hO' hK => ?_
    rw [hnew] at hO' ⊢
    simp -implicitDefEqProofs only [go_sem, reduceEqDiff, reduceAdd, reduceLeDiff, reduceLT, reduceMul, reduceEq, Int.reduceLT, reduceLE, Int.reduceAdd, reduceSub, reduceToNat, UInt8.reduceToNat, e11, f8, f10, ea, eb, ec, ws]
    exact Again.mk (i + 1, tl') (by simp -implicitDefEqProofs only [go_sem, reduceEqDiff, reduceAdd, reduceLeDiff, reduceLT, reduceMul, reduceEq, Int.reduceLT, reduceLE, Int.reduceAdd, reduceSub, reduceToNat, UInt8.reduceToNat, e11, f8, f10, ea, eb, ec]) ⟨by simp only; omega, hO'⟩ (by simp only; omega)
  clear hO e11 f6 f8 f10
  rintro r G ⟨tl, hO, e11, hv⟩
  have f8 := hv.1
  have f10 := hv.2.1
  clear hv
  simp -implicitDefEqProofs only [go_sem, reduceEqDiff, reduceAdd, reduceLeDiff, reduceLT, reduceMul, reduceEq, Int.reduceLT, reduceLE, Int.reduceAdd, reduceSub, reduceToNat, UInt8.reduceToNat, e11, f8, f10]
  with_reducible refine aloop_cut 8 (DiffQ H (L1.map rmF ++ L2.map rmS ++ L3.map rmV ++ L4.map ptF ++ L5.map ptS) [(10, .sl (L6.map encSvc) .unk)]) ?_ ?_
  rotate_left
  · refine aloop_intro (σ := Nat × Tail) (fun s => [(11, .sl (((L1.map rmF ++ L2.map rmS ++ L3.map rmV ++ L4.map ptF) ++ (L5.take s.1).map ptS).map encChg) s.2), (102, .sl (L5.map encSet) .unk), (103, .int .i64 L5.length), (104, .int .i64 s.1), (10, .sl (L6.map encSvc) .unk)])
      (fun s G => s.1 ≤ L5.length ∧ AppOK H G 10 (((L1.map rmF ++ L2.map rmS ++ L3.map rmV ++ L4.map ptF) ++ (L5.take s.1).map ptS).map encChg) s.2) (fun s => L5.length - s.1) (0, tl) ?_ ?_ ?_
    · simp -implicitDefEqProofs only [go_sem, reduceEqDiff, reduceAdd, reduceLeDiff, reduceLT, reduceMul, reduceEq, Int.reduceLT, reduceLE, Int.reduceAdd, reduceSub, reduceToNat, UInt8.reduceToNat, e11, f8, f10, List.take_zero, List.map_nil, List.append_nil]
    · exact ⟨Nat.zero_le _, by simpa using hO⟩
    clear hO e11 f8 f10
    rintro ⟨i, tl⟩ r G hv ⟨hi, hO⟩
    simp only at hi hO
    have e11 := hv.1
    have ea := hv.2.1
    have eb := hv.2.2.1
    have ec := hv.2.2.2.1
    have f10 := hv.2.2.2.2.1
    simp only at e11 ec
    clear hv
    by_cases g : i < L5.length
    rotate_left
    · have y0 : decide ((i : Int) < L5.length) = false := decide_eq_false (by omega)
      obtain rfl : i = L5.length := by omega
      rw [List.take_length] at hO e11
      simp -implicitDefEqProofs only [go_sem, reduceEqDiff, reduceAdd, reduceLeDiff, reduceLT, reduceMul, reduceEq, Int.reduceLT, reduceLE, Int.reduceAdd, reduceSub, reduceToNat, UInt8.reduceToNat, e11, f10, ea, eb, ec, y0]
      refine ⟨tl, hO, by simp -implicitDefEqProofs only [go_sem, reduceEqDiff, reduceAdd, reduceLeDiff, reduceLT, reduceMul, reduceEq, Int.reduceLT, reduceLE, Int.reduceAdd, reduceSub, reduceToNat, UInt8.reduceToNat, e11, f10], ?_⟩
      simp -implicitDefEqProofs only [go_sem, reduceEqDiff, reduceAdd, reduceLeDiff, reduceLT, reduceMul, reduceEq, Int.reduceLT, reduceLE, Int.reduceAdd, reduceSub, reduceToNat, UInt8.reduceToNat, e11, f10]
    have y0 : decide ((i : Int) < L5.length) = true := decide_eq_true (by omega)
    obtain ⟨x, hx⟩ : ∃ x, L5[i]? = some x := getD_get' g
    have ws : IntKind.i64.wrap ((i : Int) + 1) = ((i + 1 : Nat) : Int) := by rw [Go.IntWalk.i64_in _ (by omega)]; omega
    have hU : ∀ (x : SetV), x ∈ L5 → (encSet x).length = 2 := fun _ _ => rfl
    have hnew : ((L1.map rmF ++ L2.map rmS ++ L3.map rmV ++ L4.map ptF) ++ (L5.take i).map ptS).map encChg ++ [encChg (ptS x)] = ((L1.map rmF ++ L2.map rmS ++ L3.map rmV ++ L4.map ptF) ++ (L5.take (i + 1)).map ptS).map encChg := by rw [List.take_add_one, hx]; simp
    have hlen : ((L1.map rmF ++ L2.map rmS ++ L3.map rmV ++ L4.map ptF) ++ (L5.take i).map ptS).length ≤ 100000 := by simp; omega
    obtain ⟨p, d⟩ := x
    simp only [encChg, ptS, FileV.zero, SetV.zero, SvcV.zero] at hnew
    simp -implicitDefEqProofs only [go_sem, reduceEqDiff, reduceAdd, reduceLeDiff, reduceLT, reduceMul, reduceEq, Int.reduceLT, reduceLE, Int.reduceAdd, reduceSub, reduceToNat, UInt8.reduceToNat, e11, f10, ea, eb, ec, y0, hx]
    refine ⟨hU, Nat.le_refl _, ?_⟩
    simp only [encSet, List.take_succ_cons, List.take_zero, List.take_nil]
    with_reducible refine nwC_intro fun i5 hi5 => ?_
    simp -implicitDefEqProofs only [go_sem, reduceEqDiff, reduceAdd, reduceLeDiff, reduceLT, reduceMul, reduceEq, Int.reduceLT, reduceLE, Int.reduceAdd, reduceSub, reduceToNat, UInt8.reduceToNat]
    replace hO := hO.put hi5 (.cells [.str p, .str d])
    have g5 := put_same G i5 (.cells [.str p, .str d])
    generalize G.put i5 (.cells [.str p, .str d]) = G6 at *
    simp -implicitDefEqProofs only [go_sem, reduceEqDiff, reduceAdd, reduceLeDiff, reduceLT, reduceMul, reduceEq, Int.reduceLT, reduceLE, Int.reduceAdd, reduceSub, reduceToNat, UInt8.reduceToNat, e11, f10, ea, eb, ec, g5]
    refine AppOK.step hO (fun z hz => by obtain ⟨q, -, rfl⟩ := List.mem_map.1 hz; rfl) (by simp) (by rw [List.length_map]; simp at hlen ⊢; omega) (by rw [List.length_map]; simp at hlen ⊢; omega) fun tl' G' hO' hK => ?_
    rw [hnew] at hO' ⊢
    simp -implicitDefEqProofs only [go_sem, reduceEqDiff, reduceAdd, reduceLeDiff, reduceLT, reduceMul, reduceEq, Int.reduceLT, reduceLE, Int.reduceAdd, reduceSub, reduceToNat, UInt8.reduceToNat, e11, f10, ea, eb, ec, ws]
    exact Again.mk (i + 1, tl') (by simp -implicitDefEqProofs only [go_sem, reduceEqDiff, reduceAdd, reduceLeDiff, reduceLT, reduceMul, reduceEq, Int.reduceLT, reduceLE, Int.reduceAdd, reduceSub, reduceToNat, UInt8.reduceToNat, e11, f10, ea, eb, ec]) ⟨by simp only; omega, hO'⟩ (by simp only; omega)
  clear hO e11 f8 f10
  rintro r G ⟨tl, hO, e11, hv⟩
  have f10 := hv.1
  clear hv
  simp -implicitDefEqProofs only [go_sem, reduceEqDiff, reduceAdd, reduceLeDiff, reduceLT, reduceMul, reduceEq, Int.reduceLT, reduceLE, Int.reduceAdd, reduceSub, reduceToNat, UInt8.reduceToNat, e11, f10]
  with_reducible refine aloop_cut 10 (DiffQ H (L1.map rmF ++ L2.map rmS ++ L3.map rmV ++ L4.map ptF ++ L5.map ptS ++ L6.map ptV) []) ?_ ?_
  rotate_left
  · refine aloop_intro (σ := Nat × Tail) (fun s => [(11, .sl (((L1.map rmF ++ L2.map rmS ++ L3.map rmV ++ L4.map ptF ++ L5.map ptS) ++ (L6.take s.1).map ptV).map encChg) s.2), (114, .sl (L6.map encSvc) .unk), (115, .int .i64 L6.length), (116, .int .i64 s.1)])
      (fun s G => s.1 ≤ L6.length ∧ AppOK H G 10 (((L1.map rmF ++ L2.map rmS ++ L3.map rmV ++ L4.map ptF ++ L5.map ptS) ++ (L6.take s.1).map ptV).map encChg) s.2) (fun s => L6.length - s.1) (0, tl) ?_ ?_ ?_
    · simp -implicitDefEqProofs only [go_sem, reduceEqDiff, reduceAdd, reduceLeDiff, reduceLT, reduceMul, reduceEq, Int.reduceLT, reduceLE, Int.reduceAdd, reduceSub, reduceToNat, UInt8.reduceToNat, e11, f10, List.take_zero, List.map_nil, List.append_nil]
    · exact ⟨Nat.zero_le _, by simpa using hO⟩
    clear hO e11 f10
    rintro ⟨i, tl⟩ r G hv ⟨hi, hO⟩
    simp only at hi hO
    have e11 := hv.1
    have ea := hv.2.1
    have eb := hv.2.2.1
    have ec := hv.2.2.2.1
    simp only at e11 ec
    clear hv
    by_cases g : i < L6.length
    rotate_left
    · have y0 : decide ((i : Int) < L6.length) = false := decide_eq_false (by omega)
      obtain rfl : i = L6.length := by omega
      rw [List.take_length] at hO e11
      simp -implicitDefEqProofs only [go_sem, reduceEqDiff, reduceAdd, reduceLeDiff, reduceLT, reduceMul, reduceEq, Int.reduceLT, reduceLE, Int.reduceAdd, reduceSub, reduceToNat, UInt8.reduceToNat, e11, ea, eb, ec, y0]
      refine ⟨tl, hO, by simp -implicitDefEqProofs only [go_sem, reduceEqDiff, reduceAdd, reduceLeDiff, reduceLT, reduceMul, reduceEq, Int.reduceLT, reduceLE, Int.reduceAdd, reduceSub, reduceToNat, UInt8.reduceToNat, e11], ?_⟩
      trivial
    have y0 : decide ((i : Int) < L6.length) = true := decide_eq_true (by omega)
    obtain ⟨x, hx⟩ : ∃ x, L6[i]? = some x := getD_get' g
    have ws : IntKind.i64.wrap ((i : Int) + 1) = ((i + 1 : Nat) : Int) := by rw [Go.IntWalk.i64_in _ (by omega)]; omega
    have hU : ∀ (x : SvcV), x ∈ L6 → (encSvc x).length = 4 := fun _ _ => rfl
    have hnew : ((L1.map rmF ++ L2.map rmS ++ L3.map rmV ++ L4.map ptF ++ L5.map ptS) ++ (L6.take i).map ptV).map encChg ++ [encChg (ptV x)] = ((L1.map rmF ++ L2.map rmS ++ L3.map rmV ++ L4.map ptF ++ L5.map ptS) ++ (L6.take (i + 1)).map ptV).map encChg := by rw [List.take_add_one, hx]; simp
    have hlen : ((L1.map rmF ++ L2.map rmS ++ L3.map rmV ++ L4.map ptF ++ L5.map ptS) ++ (L6.take i).map ptV).length ≤ 100000 := by simp; omega
    obtain ⟨p, d, au, on⟩ := x
    simp only [encChg, ptV, FileV.zero, SetV.zero, SvcV.zero] at hnew
    simp -implicitDefEqProofs only [go_sem, reduceEqDiff, reduceAdd, reduceLeDiff, reduceLT, reduceMul, reduceEq, Int.reduceLT, reduceLE, Int.reduceAdd, reduceSub, reduceToNat, UInt8.reduceToNat, e11, ea, eb, ec, y0, hx]
    refine ⟨hU, Nat.le_refl _, ?_⟩
    simp only [encSvc, List.take_succ_cons, List.take_zero, List.take_nil]
    with_reducible refine nwC_intro fun i5 hi5 => ?_
    simp -implicitDefEqProofs only [go_sem, reduceEqDiff, reduceAdd, reduceLeDiff, reduceLT, reduceMul, reduceEq, Int.reduceLT, reduceLE, Int.reduceAdd, reduceSub, reduceToNat, UInt8.reduceToNat]
    replace hO := hO.put hi5 (.cells [.str p, .str d, .bool au, .bool on])
    have g5 := put_same G i5 (.cells [.str p, .str d, .bool au, .bool on])
    generalize G.put i5 (.cells [.str p, .str d, .bool au, .bool on]) = G6 at *
    simp -implicitDefEqProofs only [go_sem, reduceEqDiff, reduceAdd, reduceLeDiff, reduceLT, reduceMul, reduceEq, Int.reduceLT, reduceLE, Int.reduceAdd, reduceSub, reduceToNat, UInt8.reduceToNat, e11, ea, eb, ec, g5]
    refine AppOK.step hO (fun z hz => by obtain ⟨q, -, rfl⟩ := List.mem_map.1 hz; rfl) (by simp) (by rw [List.length_map]; simp at hlen ⊢; omega) (by rw [List.length_map]; simp at hlen ⊢; omega) fun tl' G' hO' hK => ?_
    rw [hnew] at hO' ⊢
    simp -implicitDefEqProofs only [go_sem, reduceEqDiff, reduceAdd, reduceLeDiff, reduceLT, reduceMul, reduceEq, Int.reduceLT, reduceLE, Int.reduceAdd, reduceSub, reduceToNat, UInt8.reduceToNat, e11, ea, eb, ec, ws]
    exact Again.mk (i + 1, tl') (by simp -implicitDefEqProofs only [go_sem, reduceEqDiff, reduceAdd, reduceLeDiff, reduceLT, reduceMul, reduceEq, Int.reduceLT, reduceLE, Int.reduceAdd, reduceSub, reduceToNat, UInt8.reduceToNat, e11, ea, eb, ec]) ⟨by simp only; omega, hO'⟩ (by simp only; omega)
  clear hO e11 f10
  rintro r G ⟨tl, hO, e11, hv⟩
  clear hv
  simp -implicitDefEqProofs only [go_sem, reduceEqDiff, reduceAdd, reduceLeDiff, reduceLT, reduceMul, reduceEq, Int.reduceLT, reduceLE, Int.reduceAdd, reduceSub, reduceToNat, UInt8.reduceToNat, e11]
  exact Done.wk 1 (Done.drop hO.sub ⟨rfl, rfl⟩)
theorem diff_calls (a b : MacV) (ta tb tc td ua ub uc ud : Tail) (H : Heap) (hA : MacOK a) (hB : MacOK b) :
    ACalls Tryz.prog 55 [.agg (encMac a ta tb tc td), .agg (encMac b ua ub uc ud)] H fun x H' => x = .sl ((diffV a b).map encChg) .unk ∧ H' = H := by
  have h1 := List.length_filter_le (fun x : FileV => (getK (·.path) x.path b.files).isNone) a.files
  have h2 := List.length_filter_le (fun x : SetV => (getK (·.key) x.key b.sets).isNone) a.sets
  have h3 := List.length_filter_le (fun x : SvcV => (getK (·.name) x.name b.svcs).isNone) a.svcs
  have h4 := List.length_filter_le (fun x : FileV => decide (getK (·.path) x.path a.files ≠ some x)) b.files
  have h5 := List.length_filter_le (fun x : SetV => decide (getK (·.key) x.key a.sets ≠ some x)) b.sets
  have h6 := List.length_filter_le (fun x : SvcV => decide (getK (·.name) x.name a.svcs ≠ some x)) b.svcs
  have := hA.l2; have := hA.l3; have := hA.l4; have := hB.l2; have := hB.l3; have := hB.l4
  exact diffL_calls _ _ _ _ _ _ a b ta tb tc td ua ub uc ud H (sides_eq _ _ hA.a2 hB.a2) (sides_eq _ _ hA.a3 hB.a3) (sides_eq _ _ hA.a4 hB.a4) hA hB (Nat.le_trans h1 (by omega)) (Nat.le_trans h2 (by omega)) (Nat.le_trans h3 (by omega)) (Nat.le_trans h4 (by omega)) (Nat.le_trans h5 (by omega)) (Nat.le_trans h6 (by omega))
end Go.Proofs

/- Walks: Diff, on the program's side. -/
namespace Go.Proofs
open Go Go.Abs
open Nat (reduceEqDiff reduceAdd reduceLeDiff reduceLT reduceMul)
open Int (reduceEq reduceLE reduceSub reduceToNat)
set_option linter.unusedSimpArgs false
set_option linter.unusedVariables false
set_option maxRecDepth 20000
theorem indexA_agg (P : Program) (t : TypeId) (cs : List AV) (k : IntKind) (n : Int) : indexA P t (.agg cs) (.int k n) = match arrayE P t with
    | some (len, e) => if 0 ≤ n ∧ n < len then readC e.desc.agg e.size (cs.drop (n.toNat * e.size)) else none
    | none => none := rfl
def dDiffA (a b : MacV) : AV := if macErr a ≠ 0 then .tup [.sl [] .unk, .int .i64 (macErr a)] else if macErr b ≠ 0 then .tup [.sl [] .unk, .int .i64 (macErr b)]
  else if a.facts ≠ b.facts then .tup [.sl [] .unk, .int .i64 11] else .tup [.sl ((diffV a b).map encChg) .unk, .int .i64 0]
set_option maxHeartbeats 6400000 in
theorem dDiff_calls (a b : MacV) (ta tb tc td ua ub uc ud : Tail) (H : Heap) (hA : macR a) (hB : macR b) :
    ACalls Tryz.prog 9 [.agg (encMac a ta tb tc td), .agg (encMac b ua ub uc ud)] H fun x H' => x = dDiffA a b ∧ H' = H := by
  have hS := Heap.Sub.rfl' H
  have k1 := fun G => check_calls a ta tb tc td G hA
  have k2 := fun G => check_calls b ua ub uc ud G hB
  have k3 := fun G => eqSet_calls a.facts b.facts ta ua G hA.1.1
  have k4 := fun G h1 h2 => diff_calls a b ta tb tc td ua ub uc ud G h1 h2
  have hv := dDiffA.eq_1 a b
  unfold encMac at k1 k2 k4
  refine ACalls.of_code (X := { pure := pu0 }) pu0_ok Tryz.func9 (by kernel_rfl) rfl (by kernel_rfl) (Nat.le_of_ble_eq_true rfl) ?_
  simp -implicitDefEqProofs only [go_sem, reduceEqDiff, reduceAdd, reduceLeDiff, reduceLT, reduceMul, reduceEq, Int.reduceLT, reduceLE, Int.reduceAdd, reduceSub, reduceToNat, UInt8.reduceToNat, Tryz.f9, encMac]
  with_reducible refine nwC_intro fun i2 hi2 => ?_
  generalize E2 : Heap.put H i2 _ = G1
  have hO_2 := obj_new E2 hi2 hS
  have n2 := hO_2.1
  have hS := hO_2.2.1
  have g2 := hO_2.2.2.1
  clear hO_2
  simp -implicitDefEqProofs only [go_sem, reduceEqDiff, reduceAdd, reduceLeDiff, reduceLT, reduceMul, reduceEq, Int.reduceLT, reduceLE, Int.reduceAdd, reduceSub, reduceToNat, UInt8.reduceToNat]
  with_reducible refine nwC_intro fun i3 hi3 => ?_
  generalize E3 : Heap.put G1 i3 _ = G2
  have hO_3 := obj_new E3 hi3 hS
  have n3 := hO_3.1
  have hS := hO_3.2.1
  have g3 := hO_3.2.2.1
  have d2_3 := obj_ne g2 hi3
  have g2 := hO_3.2.2.2 _ _ g2
  clear hO_3
  simp -implicitDefEqProofs only [go_sem, reduceEqDiff, reduceAdd, reduceLeDiff, reduceLT, reduceMul, reduceEq, Int.reduceLT, reduceLE, Int.reduceAdd, reduceSub, reduceToNat, UInt8.reduceToNat, g2, g3]
  refine aloop_intro (σ := Nat) (fun i => [(2, .ptr i2 0), (3, .ptr i3 0), (11, .agg [.sl (a.facts.map encSet) ta, .sl (a.files.map encFile) tb, .sl (a.sets.map encSet) tc, .sl (a.svcs.map encSvc) td, .sl (b.facts.map encSet) ua, .sl (b.files.map encFile) ub, .sl (b.sets.map encSet) uc, .sl (b.svcs.map encSvc) ud]), (12, .int .i64 i)])
    (fun i G => i ≤ 2 ∧ G2.Sub G ∧ (0 < i → macErr a = 0) ∧ (1 < i → macErr b = 0)) (fun i => 2 - i) 0 ?_ ?_ ?_
  · simp -implicitDefEqProofs only [go_sem, reduceEqDiff, reduceAdd, reduceLeDiff, reduceLT, reduceMul, reduceEq, Int.reduceLT, reduceLE, Int.reduceAdd, reduceSub, reduceToNat, UInt8.reduceToNat]
  · exact ⟨by omega, fun _ _ h => h, fun h => absurd h (by omega), fun h => absurd h (by omega)⟩
  rintro i r G hvv ⟨hi, hS3, ha, hb⟩
  have e2 := hvv.1
  have e3 := hvv.2.1
  have e11 := hvv.2.2.1
  have e12 := hvv.2.2.2.1
  clear hvv
  have g2' := hS3 _ _ g2
  have g3' := hS3 _ _ g3
  have hSG : H.Sub G := fun i o h => hS3 _ _ (hS _ _ h)
  obtain rfl | rfl | rfl : i = 0 ∨ i = 1 ∨ i = 2 := by omega
  · have y0 : decide ((0 : Int) < 2) = true := rfl
    have w : IntKind.i64.wrap (0 + 1) = 1 := rfl
    simp only [Int.natCast_zero] at e12
    simp -implicitDefEqProofs only [go_sem, reduceEqDiff, reduceAdd, reduceLeDiff, reduceLT, reduceMul, reduceEq, Int.reduceLT, reduceLE, Int.reduceAdd, reduceSub, reduceToNat, UInt8.reduceToNat, e2, e3, e11, e12, y0, indexA_agg]
    with_reducible refine nwC_intro fun i7 hi7 => ?_
    have hS4 : G2.Sub (G.put i7 (.cells [.sl (a.facts.map encSet) ta, .sl (a.files.map encFile) tb, .sl (a.sets.map encSet) tc, .sl (a.svcs.map encSvc) td])) := hS3.put' (sub_none hS3 hi7) _
    have hSG4 : H.Sub (G.put i7 (.cells [.sl (a.facts.map encSet) ta, .sl (a.files.map encFile) tb, .sl (a.sets.map encSet) tc, .sl (a.svcs.map encSvc) td])) := fun i o h => hS4 _ _ (hS _ _ h)
    try simp -implicitDefEqProofs only [go_sem, reduceEqDiff, reduceAdd, reduceLeDiff, reduceLT, reduceMul, reduceEq, Int.reduceLT, reduceLE, Int.reduceAdd, reduceSub, reduceToNat, UInt8.reduceToNat]
    refine (k1 _).pure_next _ ?_
    by_cases c0 : macErr a = 0
    · have y1 : decide (¬ macErr a = 0) = false := decide_eq_false (by simpa using c0)
      simp -implicitDefEqProofs only [go_sem, reduceEqDiff, reduceAdd, reduceLeDiff, reduceLT, reduceMul, reduceEq, Int.reduceLT, reduceLE, Int.reduceAdd, reduceSub, reduceToNat, UInt8.reduceToNat, e2, e3, e11, e12, y1, w]
      exact Again.mk 1 (by simp -implicitDefEqProofs only [go_sem, reduceEqDiff, reduceAdd, reduceLeDiff, reduceLT, reduceMul, reduceEq, Int.reduceLT, reduceLE, Int.reduceAdd, reduceSub, reduceToNat, UInt8.reduceToNat, e2, e3, e11, e12]; exact rfl) ⟨by omega, hS4, fun _ => c0, fun h => absurd h (by omega)⟩ (by omega)
    · have y1 : decide (¬ macErr a = 0) = true := decide_eq_true c0
      rw [if_pos c0] at hv
      simp -implicitDefEqProofs only [go_sem, reduceEqDiff, reduceAdd, reduceLeDiff, reduceLT, reduceMul, reduceEq, Int.reduceLT, reduceLE, Int.reduceAdd, reduceSub, reduceToNat, UInt8.reduceToNat, e2, e3, e11, e12, y1]
      exact Done.wk 2 (Done.drop hSG4 ⟨by rw [hv]; rfl, rfl⟩)
  · have y0 : decide ((1 : Int) < 2) = true := rfl
    have w : IntKind.i64.wrap (1 + 1) = 2 := rfl
    have ha := ha (by omega)
    simp only [Int.natCast_one] at e12
    simp -implicitDefEqProofs only [go_sem, reduceEqDiff, reduceAdd, reduceLeDiff, reduceLT, reduceMul, reduceEq, Int.reduceLT, reduceLE, Int.reduceAdd, reduceSub, reduceToNat, UInt8.reduceToNat, e2, e3, e11, e12, y0, indexA_agg]
    with_reducible refine nwC_intro fun i7 hi7 => ?_
    have hS4 : G2.Sub (G.put i7 (.cells [.sl (b.facts.map encSet) ua, .sl (b.files.map encFile) ub, .sl (b.sets.map encSet) uc, .sl (b.svcs.map encSvc) ud])) := hS3.put' (sub_none hS3 hi7) _
    have hSG4 : H.Sub (G.put i7 (.cells [.sl (b.facts.map encSet) ua, .sl (b.files.map encFile) ub, .sl (b.sets.map encSet) uc, .sl (b.svcs.map encSvc) ud])) := fun i o h => hS4 _ _ (hS _ _ h)
    try simp -implicitDefEqProofs only [go_sem, reduceEqDiff, reduceAdd, reduceLeDiff, reduceLT, reduceMul, reduceEq, Int.reduceLT, reduceLE, Int.reduceAdd, reduceSub, reduceToNat, UInt8.reduceToNat]
    refine (k2 _).pure_next _ ?_
    by_cases c0 : macErr b = 0
    · have y1 : decide (¬ macErr b = 0) = false := decide_eq_false (by simpa using c0)
      simp -implicitDefEqProofs only [go_sem, reduceEqDiff, reduceAdd, reduceLeDiff, reduceLT, reduceMul, reduceEq, Int.reduceLT, reduceLE, Int.reduceAdd, reduceSub, reduceToNat, UInt8.reduceToNat, e2, e3, e11, e12, y1, w]
      exact Again.mk 2 (by simp -implicitDefEqProofs only [go_sem, reduceEqDiff, reduceAdd, reduceLeDiff, reduceLT, reduceMul, reduceEq, Int.reduceLT, reduceLE, Int.reduceAdd, reduceSub, reduceToNat, UInt8.reduceToNat, e2, e3, e11, e12]; exact rfl) ⟨by omega, hS4, fun _ => ha, fun _ => c0⟩ (by omega)
    · have y1 : decide (¬ macErr b = 0) = true := decide_eq_true c0
      rw [if_neg (by simpa using ha), if_pos c0] at hv
      simp -implicitDefEqProofs only [go_sem, reduceEqDiff, reduceAdd, reduceLeDiff, reduceLT, reduceMul, reduceEq, Int.reduceLT, reduceLE, Int.reduceAdd, reduceSub, reduceToNat, UInt8.reduceToNat, e2, e3, e11, e12, y1]
      exact Done.wk 2 (Done.drop hSG4 ⟨by rw [hv]; rfl, rfl⟩)
  · have y0 : decide ((2 : Int) < 2) = false := rfl
    have z2 : ((2 : Nat) : Int) = 2 := rfl
    have ha := ha (by omega)
    have hb := hb (by omega)
    have hMa := (macErr_ok a).1 ha
    have hMb := (macErr_ok b).1 hb
    rw [if_neg (by simpa using ha), if_neg (by simpa using hb)] at hv
    rw [z2] at e12
    simp -implicitDefEqProofs only [go_sem, reduceEqDiff, reduceAdd, reduceLeDiff, reduceLT, reduceMul, reduceEq, Int.reduceLT, reduceLE, Int.reduceAdd, reduceSub, reduceToNat, UInt8.reduceToNat, e2, e3, e11, e12, y0, g2', g3']
    refine (k3 G).pure_next _ ?_
    by_cases c0 : a.facts = b.facts
    · have y1 : decide (a.facts = b.facts) = true := decide_eq_true c0
      rw [if_neg (by simpa using c0)] at hv
      rw [y1]
      simp -implicitDefEqProofs only [go_sem, reduceEqDiff, reduceAdd, reduceLeDiff, reduceLT, reduceMul, reduceEq, Int.reduceLT, reduceLE, Int.reduceAdd, reduceSub, reduceToNat, UInt8.reduceToNat, e2, e3, g2', g3']
      refine (k4 G hMa hMb).pure_next _ ?_
      simp -implicitDefEqProofs only [go_sem, reduceEqDiff, reduceAdd, reduceLeDiff, reduceLT, reduceMul, reduceEq, Int.reduceLT, reduceLE, Int.reduceAdd, reduceSub, reduceToNat, UInt8.reduceToNat]
      exact Done.drop hSG ⟨hv.symm, rfl⟩
    · have y1 : decide (a.facts = b.facts) = false := decide_eq_false c0
      rw [if_pos c0] at hv
      rw [y1]
      simp -implicitDefEqProofs only [go_sem, reduceEqDiff, reduceAdd, reduceLeDiff, reduceLT, reduceMul, reduceEq, Int.reduceLT, reduceLE, Int.reduceAdd, reduceSub, reduceToNat, UInt8.reduceToNat]
      exact Done.wk 2 (Done.drop hSG ⟨by rw [hv]; rfl, rfl⟩)
end Go.Proofs
