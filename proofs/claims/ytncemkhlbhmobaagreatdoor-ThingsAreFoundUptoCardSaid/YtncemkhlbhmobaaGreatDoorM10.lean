/-
  Walks and plain laws, part 10.
-/
import Derived.Test.YtncemkhlbhmobaaGreatDoorM9
/- The law ThingsAreFound. -/
namespace Go.Proofs
open Go Go.Abs
open Nat (reduceEqDiff reduceAdd reduceLeDiff reduceLT reduceMul)
open Int (reduceEq reduceLE reduceSub reduceToNat)
set_option linter.unusedSimpArgs false
set_option linter.unusedVariables false
set_option maxRecDepth 20000
theorem eqS_calls (a b : List Bytes) (t t' : Tail) (H : Heap) (ha : a.length ≤ 1099511627776) : ACalls Tryz.prog 23 [.sl (a.map encBs) t, .sl (b.map encBs) t'] H fun x H' => x = .bool (decide (a = b)) ∧ H' = H := by
  by_cases hl : ¬ a.length = b.length
  · have d1 : decide (¬ (a.length : Int) = b.length) = true := by simp; omega
    refine ACalls.of_code (X := { pure := pu0 }) pu0_ok Tryz.func23 (by kernel_rfl) rfl (by kernel_rfl) (Nat.le_of_ble_eq_true rfl) ?_
    simp -implicitDefEqProofs only [go_sem, reduceEqDiff, reduceAdd, reduceLeDiff, reduceLT, reduceMul, reduceEq, Int.reduceLT, reduceLE, Int.reduceAdd, reduceSub, reduceToNat, UInt8.reduceToNat, Tryz.f23, d1]
    refine Done.now ⟨?_, rfl⟩
    have : ¬ a = b := fun e => hl (by rw [e])
    simp [this]
  · have hl : a.length = b.length := Decidable.not_not.1 hl
    have d1 : decide (¬ (a.length : Int) = b.length) = false := by simp; omega
    refine ACalls.of_code (X := { pure := pu0 }) pu0_ok Tryz.func23 (by kernel_rfl) rfl (by kernel_rfl) (Nat.le_of_ble_eq_true rfl) ?_
    simp -implicitDefEqProofs only [go_sem, reduceEqDiff, reduceAdd, reduceLeDiff, reduceLT, reduceMul, reduceEq, Int.reduceLT, reduceLE, Int.reduceAdd, reduceSub, reduceToNat, UInt8.reduceToNat, Tryz.f23, d1]
    refine aloop_intro (σ := Nat) (fun i => [(0, .sl (a.map encBs) t), (1, .sl (b.map encBs) t'), (12, .int .i64 a.length), (13, .int .i64 i)])
      (fun i G => G = H ∧ i ≤ a.length ∧ a.take i = b.take i) (fun i => a.length - i) 0 ?_ ?_ ?_
    · simp -implicitDefEqProofs only [go_sem, reduceEqDiff, reduceAdd, reduceLeDiff, reduceLT, reduceMul, reduceEq, Int.reduceLT, reduceLE, Int.reduceAdd, reduceSub, reduceToNat, UInt8.reduceToNat]
    · simp
    · intro i r G hv hI
      have h0 := hv.1
      have h1 := hv.2.1
      have h12 := hv.2.2.1
      have h13 := hv.2.2.2.1
      have hG := hI.1.symm
      have hi := hI.2.1
      have hp := hI.2.2
      clear hv hI
      subst hG
      simp -implicitDefEqProofs only [go_sem, reduceEqDiff, reduceAdd, reduceLeDiff, reduceLT, reduceMul, reduceEq, Int.reduceLT, reduceLE, Int.reduceAdd, reduceSub, reduceToNat, UInt8.reduceToNat, h0, h1, h12, h13]
      refine cnd_intro (fun h => ?_) (fun h => ?_)
      · simp only [decide_eq_true_eq] at h
        obtain ⟨x, hx⟩ := get_some (l := a) (i := i) (by omega)
        obtain ⟨y, hy⟩ := get_some (l := b) (i := i) (by omega)
        have ht := take_eq_succ hx hy
        simp -implicitDefEqProofs only [go_sem, reduceEqDiff, reduceAdd, reduceLeDiff, reduceLT, reduceMul, reduceEq, Int.reduceLT, reduceLE, Int.reduceAdd, reduceSub, reduceToNat, UInt8.reduceToNat, h0, h1, h12, h13, hx, hy, encBs]
        refine cnd_intro (fun g => ?_) (fun g => ?_)
        · simp -implicitDefEqProofs only [go_sem, reduceEqDiff, reduceAdd, reduceLeDiff, reduceLT, reduceMul, reduceEq, Int.reduceLT, reduceLE, Int.reduceAdd, reduceSub, reduceToNat, UInt8.reduceToNat]
          refine Done.now ⟨?_, rfl⟩
          have : ¬ a = b := fun e => by subst e; rw [hx] at hy; cases hy; simp at g
          simp [this]
        · simp -implicitDefEqProofs (disch := omega) only [go_sem, reduceEqDiff, reduceAdd, reduceLeDiff, reduceLT, reduceMul, reduceEq, Int.reduceLT, reduceLE, Int.reduceAdd, reduceSub, reduceToNat, UInt8.reduceToNat, Go.IntWalk.i64_in, h0, h1, h12, h13]
          simp only [decide_eq_false_iff_not, Decidable.not_not] at g
          exact Again.mk (i + 1) (by simp -implicitDefEqProofs only [go_sem, reduceEqDiff, reduceAdd, reduceLeDiff, reduceLT, reduceMul, reduceEq, Int.reduceLT, reduceLE, Int.reduceAdd, reduceSub, reduceToNat, UInt8.reduceToNat, h0, h1, h12, h13]; exact rfl) ⟨rfl, by omega, ht.2 ⟨hp, g⟩⟩ (by omega)
      · simp only [decide_eq_false_iff_not] at h
        have e : i = a.length := by omega
        rw [e, List.take_length, hl, List.take_length] at hp
        simp -implicitDefEqProofs only [go_sem, reduceEqDiff, reduceAdd, reduceLeDiff, reduceLT, reduceMul, reduceEq, Int.reduceLT, reduceLE, Int.reduceAdd, reduceSub, reduceToNat, UInt8.reduceToNat]
        exact Done.now ⟨by simp [hp], rfl⟩
noncomputable def puTF : Pures := putP 23 (sEqL decS) (putP 22 sPre (putP 7 sNamed (putP 18 (sStr pathB) (putP 16 (sStr nameB) pu0))))
theorem puTF_dyn : isDyn puTF = false := by simp only [puTF, go_sem, Nat.reduceEqDiff]
attribute [go_sem] puTF_dyn
theorem puTF_ok : PuOK Tryz.prog puTF := .put (.put (.put (.put (.put (pu0_ok) (sStr_ok rIsName_calls)) (sStr_ok rIsPath_calls)) (spF_ok (fun p H _ => clo1_calls p.1 p.2.1 p.2.2 H))) (sPre_ok hasPrefix_calls)) (sEqL_ok (fun _ _ => decS_some) eqS_calls)
noncomputable def puTD : Pures := putP 999999999 sNone puTF
theorem puTD_dyn : isDyn puTD = true := by simp only [puTD, go_sem, Nat.reduceEqDiff]
attribute [go_sem] puTD_dyn
theorem puTD_ok : PuOK Tryz.prog puTD := .put (puTF_ok) dyn_ok
structure QTF (H : Heap) (i2 i3 : Nat) (m : MacV) (ta tb tc td : Tail) (k : Bytes) (r : Regs) (G : Heap) : Prop where
  s : H.Sub G
  g2 : G i2 = some (.cells (encMac m ta tb tc td))
  g3 : G i3 = some (.cells [.str k])
  r2 : r 2 = .ptr i2 0
  r3 : r 3 = .ptr i3 0
  r5 : r 5 = .func 7 []
  r6 : r 6 = .int .i64 (idxK (·.key) k m.facts 0)
  r7 : r 7 = .int .i64 (idxK (·.path) k m.files 0)
  r8 : r 8 = .int .i64 (idxK (·.key) k m.sets 0)
  r9 : r 9 = .int .i64 (idxK (·.name) k m.svcs 0)
/-- What is answered of a thing, and its place. -/
theorem found_case {α : Type} {key : α → Bytes} (l : List α) (k : Bytes) (ok : Bool) (z : α) : ∃ x c, askV 0 ok (getK key k l) z = (x, c) ∧ namedB ok (decide (0 ≤ idxK key k l 0)) c = true ∧ ((c = 0 ∧ ∃ i : Nat, idxK key k l 0 = (i : Int) ∧ l[i]? = some x) ∨ decide (c = 0) = false) := by
  have h := idxK_get (key := key) k l 0
  unfold askV namedB
  rw [if_neg (by simp)]
  cases ok with
  | false => exact ⟨z, 5, rfl, rfl, .inr rfl⟩
  | true =>
    rw [if_neg (by simp)]
    cases hg : getK key k l with
    | none =>
      rw [hg] at h
      simp only at h
      exact ⟨z, 10, rfl, by rw [h]; rfl, .inr rfl⟩
    | some x =>
      rw [hg] at h
      simp only at h
      obtain ⟨i, h1, h2⟩ := h
      exact ⟨x, 0, rfl, by rw [h1]; simp, .inl ⟨rfl, i, by rw [h1]; simp, h2⟩⟩
structure QTB (H : Heap) (i2 i3 : Nat) (m : MacV) (ta tb tc td : Tail) (k : Bytes) (r : Regs) (G : Heap) : Prop where
  s : H.Sub G
  g2 : G i2 = some (.cells (encMac m ta tb tc td))
  g3 : G i3 = some (.cells [.str k])
  r2 : r 2 = .ptr i2 0
  r3 : r 3 = .ptr i3 0
  r11 : r 11 = .int .i64 0
  r15 : r 15 = .sl ((belowL m.files k).map encBs) .unk
set_option maxHeartbeats 12800000 in
theorem thingsAreFound_calls (m0 : MacV) (xa xb xc xd : Tail) (k : Bytes) (H : Heap) (hr0 : macR m0) (hk : k.length ≤ 1099511627776) :
    ACalls Tryz.prog 3 [.agg (encMac m0 xa xb xc xd), .str k] H fun x H' => x = .bool true ∧ H' = H := by
  have hS := Heap.Sub.rfl' H
  refine ACalls.of_code (X := { pure := puTD }) puTD_ok Tryz.func3 (by kernel_rfl) rfl (by kernel_rfl) (Nat.le_of_ble_eq_true rfl) ?_
  simp -implicitDefEqProofs only [go_sem, reduceEqDiff, reduceAdd, reduceLeDiff, reduceLT, reduceMul, reduceEq, Int.reduceLT, reduceLE, Int.reduceAdd, reduceSub, reduceToNat, UInt8.reduceToNat, Tryz.f3, encMac]
  with_reducible refine nwC_intro fun i2 hi2 => ?_
  generalize E2 : Heap.put H i2 _ = G1
  have hO_2 := obj_new E2 hi2 hS
  have n2 := hO_2.1
  have hS := hO_2.2.1
  have g2 := hO_2.2.2.1
  clear hO_2
  simp -implicitDefEqProofs only [go_sem, reduceEqDiff, reduceAdd, reduceLeDiff, reduceLT, reduceMul, reduceEq, Int.reduceLT, reduceLE, Int.reduceAdd, reduceSub, reduceToNat, UInt8.reduceToNat]
  with_reducible refine nwC_intro fun i3 hi3 => ?_
  generalize E3 : Heap.put G1 i3 _ = G2
  have hO_3 := obj_new E3 hi3 hS
  have n3 := hO_3.1
  have hS := hO_3.2.1
  have g3 := hO_3.2.2.1
  have d2_3 := obj_ne g2 hi3
  have g2 := hO_3.2.2.2 _ _ g2
  clear hO_3
  have hft := fit_calls m0 xa xb xc xd G2 hr0
  unfold encMac at hft
  have p1 : puTD 5 = none := rfl
  have p2 : puTD 6 = none := rfl
  simp -implicitDefEqProofs only [go_sem, reduceEqDiff, reduceAdd, reduceLeDiff, reduceLT, reduceMul, reduceEq, Int.reduceLT, reduceLE, Int.reduceAdd, reduceSub, reduceToNat, UInt8.reduceToNat, p1]
  refine (landed_calls G2).pure_next _ ?_
  simp -implicitDefEqProofs only [go_sem, reduceEqDiff, reduceAdd, reduceLeDiff, reduceLT, reduceMul, reduceEq, Int.reduceLT, reduceLE, Int.reduceAdd, reduceSub, reduceToNat, UInt8.reduceToNat, g2, p2]
  refine hft.mono ?_
  rintro x G9 ⟨m, ta, tb, tc, td, rfl, hM, rfl⟩
  clear hft
  have em := encMac.eq_1 m ta tb tc td
  simp -implicitDefEqProofs only [go_sem, reduceEqDiff, reduceAdd, reduceLeDiff, reduceLT, reduceMul, reduceEq, Int.reduceLT, reduceLE, Int.reduceAdd, reduceSub, reduceToNat, UInt8.reduceToNat, g2]
  generalize E2 : Heap.put G9 i2 _ = G3
  have hS := obj_sub E2 n2 hS
  have g2 := obj_at E2
  have g3 := obj_keep E2 (by first | exact d3_2 | exact fun e => d2_3 e.symm) g3
  unfold encMac at g2
  have qq1 := hM.l1
  have qq2 := hM.l2
  have qq3 := hM.l3
  have qq4 := hM.l4
  try simp -implicitDefEqProofs only [go_sem, reduceEqDiff, reduceAdd, reduceLeDiff, reduceLT, reduceMul, reduceEq, Int.reduceLT, reduceLE, Int.reduceAdd, reduceSub, reduceToNat, UInt8.reduceToNat, g2]
  refine (idx2_calls m.facts ta k i3 G3 g3 (by omega)).pure_next _ ?_
  simp -implicitDefEqProofs only [go_sem, reduceEqDiff, reduceAdd, reduceLeDiff, reduceLT, reduceMul, reduceEq, Int.reduceLT, reduceLE, Int.reduceAdd, reduceSub, reduceToNat, UInt8.reduceToNat, g2]
  refine (idx3_calls m.files tb k i3 G3 g3 (by omega)).pure_next _ ?_
  simp -implicitDefEqProofs only [go_sem, reduceEqDiff, reduceAdd, reduceLeDiff, reduceLT, reduceMul, reduceEq, Int.reduceLT, reduceLE, Int.reduceAdd, reduceSub, reduceToNat, UInt8.reduceToNat, g2]
  refine (idx4_calls m.sets tc k i3 G3 g3 (by omega)).pure_next _ ?_
  simp -implicitDefEqProofs only [go_sem, reduceEqDiff, reduceAdd, reduceLeDiff, reduceLT, reduceMul, reduceEq, Int.reduceLT, reduceLE, Int.reduceAdd, reduceSub, reduceToNat, UInt8.reduceToNat, g2]
  refine (idx5_calls m.svcs td k i3 G3 g3 (by omega)).pure_next _ ?_
  have kF := fun G => factP_calls m ta tb tc td k G hM.R hk
  have kE := fun G => fileP_calls m ta tb tc td k G hM.R hk
  have kS := fun G => settingP_calls m ta tb tc td k G hM.R hk
  have kV := fun G => serviceP_calls m ta tb tc td k G hM.R hk
  rw [(macErr_ok m).2 hM] at kF kE kS kV
  unfold encMac at kF kE kS kV
  have hR : Room = 1099511627776 := rfl
  have hpn : sStr nameB [.str k] = some (.bool (nameB k)) := by rw [sStr_eq, if_pos (by rw [hR]; exact hk)]
  have hpp : sStr pathB [.str k] = some (.bool (pathB k)) := by rw [sStr_eq, if_pos (by rw [hR]; exact hk)]
  have kB := fun G => below_calls m ta tb tc td k G hM hk
  unfold encMac at kB
  obtain ⟨x1, c1, w1, m1, o1⟩ := found_case (key := SetV.key) m.facts k (nameB k) SetV.zero
  obtain ⟨x2, c2, w2, m2, o2⟩ := found_case (key := FileV.path) m.files k (pathB k) FileV.zero
  obtain ⟨x3, c3, w3, m3, o3⟩ := found_case (key := SetV.key) m.sets k (pathB k) SetV.zero
  obtain ⟨x4, c4, w4, m4, o4⟩ := found_case (key := SvcV.name) m.svcs k (nameB k) SvcV.zero
  rw [w1] at kF
  rw [w2] at kE
  rw [w3] at kS
  rw [w4] at kV
  clear w1 w2 w3 w4
  simp only at kF kE kS kV
  have ef := encFile.eq_1 x2
  have ev := encSvc.eq_1 x4
  rw [ef] at kE
  rw [ev] at kV
  have nf := fun cx cy => eqFile_calls_ne cx cy x2 x2
  have nv := fun cx cy => eqSvc_calls_ne cx cy x4 x4
  rw [ef] at nf
  rw [ev] at nv
  have y9 : decide (¬ x2 = x2) = false := decide_eq_false (by simp)
  have y8 : decide (¬ x4 = x4) = false := decide_eq_false (by simp)
  rw [y9] at nf
  rw [y8] at nv
  simp -implicitDefEqProofs only [go_sem, reduceEqDiff, reduceAdd, reduceLeDiff, reduceLT, reduceMul, reduceEq, Int.reduceLT, reduceLE, Int.reduceAdd, reduceSub, reduceToNat, UInt8.reduceToNat, g2, g3]
  refine (kF G3).pure_next _ ?_
  generalize hKK : seqK _ _ _ _ = KK
  simp -implicitDefEqProofs only [go_sem, reduceEqDiff, reduceAdd, reduceLeDiff, reduceLT, reduceMul, reduceEq, Int.reduceLT, reduceLE, Int.reduceAdd, reduceSub, reduceToNat, UInt8.reduceToNat]
  rw [← hKK]
  clear hKK KK
  rw [seqK_normal, acode_seq]
  with_reducible refine acode_mid (QTF H i2 i3 m ta tb tc td k) ?_ ?_
  rotate_left
  · rcases o1 with ⟨h0, i, hi, hx⟩ | h0
    · subst h0
      rw [hi] at m1
      have hU : ∀ x ∈ m.facts, (encSet x).length = 2 := fun _ _ => rfl
      have htt : ∀ x, (encSet x).take 2 = encSet x := fun _ => rfl
      have sn := sNamed_eq (nameB k) true 0
      rw [show decide ((0 : Int) ≤ (i : Nat)) = true from by simp] at m1
      rw [m1] at sn
      have yx : decide (¬ x1.value = x1.value) = false := decide_eq_false (by simp)
      have y0 : decide ((0 : Int) = 0) = true := rfl
      simp -implicitDefEqProofs only [go_sem, reduceEqDiff, reduceAdd, reduceLeDiff, reduceLT, reduceMul, reduceEq, Int.reduceLT, reduceLE, Int.reduceAdd, reduceSub, reduceToNat, UInt8.reduceToNat, g2, g3, hi, hx, hU, htt, sn, hpn, hpp, yx, y0, puTD, puTF, encSet]
      exact ⟨hS, g2, g3, by simp -implicitDefEqProofs only [go_sem, reduceEqDiff, reduceAdd, reduceLeDiff, reduceLT, reduceMul, reduceEq, Int.reduceLT, reduceLE, Int.reduceAdd, reduceSub, reduceToNat, UInt8.reduceToNat], by simp -implicitDefEqProofs only [go_sem, reduceEqDiff, reduceAdd, reduceLeDiff, reduceLT, reduceMul, reduceEq, Int.reduceLT, reduceLE, Int.reduceAdd, reduceSub, reduceToNat, UInt8.reduceToNat], by simp -implicitDefEqProofs only [go_sem, reduceEqDiff, reduceAdd, reduceLeDiff, reduceLT, reduceMul, reduceEq, Int.reduceLT, reduceLE, Int.reduceAdd, reduceSub, reduceToNat, UInt8.reduceToNat], by simp -implicitDefEqProofs only [go_sem, reduceEqDiff, reduceAdd, reduceLeDiff, reduceLT, reduceMul, reduceEq, Int.reduceLT, reduceLE, Int.reduceAdd, reduceSub, reduceToNat, UInt8.reduceToNat, hi], by simp -implicitDefEqProofs only [go_sem, reduceEqDiff, reduceAdd, reduceLeDiff, reduceLT, reduceMul, reduceEq, Int.reduceLT, reduceLE, Int.reduceAdd, reduceSub, reduceToNat, UInt8.reduceToNat], by simp -implicitDefEqProofs only [go_sem, reduceEqDiff, reduceAdd, reduceLeDiff, reduceLT, reduceMul, reduceEq, Int.reduceLT, reduceLE, Int.reduceAdd, reduceSub, reduceToNat, UInt8.reduceToNat], by simp -implicitDefEqProofs only [go_sem, reduceEqDiff, reduceAdd, reduceLeDiff, reduceLT, reduceMul, reduceEq, Int.reduceLT, reduceLE, Int.reduceAdd, reduceSub, reduceToNat, UInt8.reduceToNat]⟩
    · have sn := sNamed_eq (nameB k) (decide ((0 : Int) ≤ idxK (·.key) k m.facts 0)) c1
      rw [m1] at sn
      simp -implicitDefEqProofs only [go_sem, reduceEqDiff, reduceAdd, reduceLeDiff, reduceLT, reduceMul, reduceEq, Int.reduceLT, reduceLE, Int.reduceAdd, reduceSub, reduceToNat, UInt8.reduceToNat, g2, g3, sn, hpn, hpp, h0, puTD, puTF]
      exact ⟨hS, g2, g3, by simp -implicitDefEqProofs only [go_sem, reduceEqDiff, reduceAdd, reduceLeDiff, reduceLT, reduceMul, reduceEq, Int.reduceLT, reduceLE, Int.reduceAdd, reduceSub, reduceToNat, UInt8.reduceToNat], by simp -implicitDefEqProofs only [go_sem, reduceEqDiff, reduceAdd, reduceLeDiff, reduceLT, reduceMul, reduceEq, Int.reduceLT, reduceLE, Int.reduceAdd, reduceSub, reduceToNat, UInt8.reduceToNat], by simp -implicitDefEqProofs only [go_sem, reduceEqDiff, reduceAdd, reduceLeDiff, reduceLT, reduceMul, reduceEq, Int.reduceLT, reduceLE, Int.reduceAdd, reduceSub, reduceToNat, UInt8.reduceToNat], by simp -implicitDefEqProofs only [go_sem, reduceEqDiff, reduceAdd, reduceLeDiff, reduceLT, reduceMul, reduceEq, Int.reduceLT, reduceLE, Int.reduceAdd, reduceSub, reduceToNat, UInt8.reduceToNat], by simp -implicitDefEqProofs only [go_sem, reduceEqDiff, reduceAdd, reduceLeDiff, reduceLT, reduceMul, reduceEq, Int.reduceLT, reduceLE, Int.reduceAdd, reduceSub, reduceToNat, UInt8.reduceToNat], by simp -implicitDefEqProofs only [go_sem, reduceEqDiff, reduceAdd, reduceLeDiff, reduceLT, reduceMul, reduceEq, Int.reduceLT, reduceLE, Int.reduceAdd, reduceSub, reduceToNat, UInt8.reduceToNat], by simp -implicitDefEqProofs only [go_sem, reduceEqDiff, reduceAdd, reduceLeDiff, reduceLT, reduceMul, reduceEq, Int.reduceLT, reduceLE, Int.reduceAdd, reduceSub, reduceToNat, UInt8.reduceToNat]⟩
  clear hS g2 g3 kF o1 m1 
  rintro r G ⟨hS, g2, g3, e2, e3, e5, e6, e7, e8, e9⟩
  unfold encMac at g2
  rw [seqK_normal]
  simp -implicitDefEqProofs only [go_sem, reduceEqDiff, reduceAdd, reduceLeDiff, reduceLT, reduceMul, reduceEq, Int.reduceLT, reduceLE, Int.reduceAdd, reduceSub, reduceToNat, UInt8.reduceToNat, e2, e3, e5, e6, e7, e8, e9, g2, g3]
  refine (kE G).pure_next _ ?_
  generalize hKK : seqK _ _ _ _ = KK
  simp -implicitDefEqProofs only [go_sem, reduceEqDiff, reduceAdd, reduceLeDiff, reduceLT, reduceMul, reduceEq, Int.reduceLT, reduceLE, Int.reduceAdd, reduceSub, reduceToNat, UInt8.reduceToNat, e2, e3, e5, e6, e7, e8, e9,]
  with_reducible refine nwC_intro fun i12 hi12 => ?_
  generalize E12 : Heap.put G i12 _ = G4
  have hO_12 := obj_new E12 hi12 hS
  have n12 := hO_12.1
  have hS := hO_12.2.1
  have g12 := hO_12.2.2.1
  have d2_12 := obj_ne g2 hi12
  have g2 := hO_12.2.2.2 _ _ g2
  have d3_12 := obj_ne g3 hi12
  have g3 := hO_12.2.2.2 _ _ g3
  clear hO_12
  simp -implicitDefEqProofs only [go_sem, reduceEqDiff, reduceAdd, reduceLeDiff, reduceLT, reduceMul, reduceEq, Int.reduceLT, reduceLE, Int.reduceAdd, reduceSub, reduceToNat, UInt8.reduceToNat, g12]
  generalize E12 : Heap.put G4 i12 _ = G5
  have hS := obj_sub E12 n12 hS
  have g12 := obj_at E12
  have g2 := obj_keep E12 (by first | exact d2_12 | exact fun e => d12_2 e.symm) g2
  have g3 := obj_keep E12 (by first | exact d3_12 | exact fun e => d12_3 e.symm) g3
  try simp -implicitDefEqProofs only [go_sem, reduceEqDiff, reduceAdd, reduceLeDiff, reduceLT, reduceMul, reduceEq, Int.reduceLT, reduceLE, Int.reduceAdd, reduceSub, reduceToNat, UInt8.reduceToNat]
  rw [← hKK]
  clear hKK KK
  rw [seqK_normal, acode_seq]
  with_reducible refine acode_mid (QTF H i2 i3 m ta tb tc td k) ?_ ?_
  rotate_left
  · rcases o2 with ⟨h0, i, hi, hx⟩ | h0
    · subst h0
      rw [hi] at m2
      have hU : ∀ x ∈ m.files, (encFile x).length = 3 := fun _ _ => rfl
      have htt : ∀ x, (encFile x).take 3 = encFile x := fun _ => rfl
      have sn := sNamed_eq (pathB k) true 0
      rw [show decide ((0 : Int) ≤ (i : Nat)) = true from by simp] at m2
      rw [m2] at sn
      have yx : decide (¬ x2 = x2) = false := decide_eq_false (by simp)
      have y0 : decide ((0 : Int) = 0) = true := rfl
      simp -implicitDefEqProofs only [go_sem, reduceEqDiff, reduceAdd, reduceLeDiff, reduceLT, reduceMul, reduceEq, Int.reduceLT, reduceLE, Int.reduceAdd, reduceSub, reduceToNat, UInt8.reduceToNat, e2, e3, e5, e6, e7, e8, e9, g2, g3, g12, hi, hx, hU, htt, sn, hpn, hpp, yx, y0, nf, puTD, puTF, encFile]
      exact ⟨hS, g2, g3, by simp -implicitDefEqProofs only [go_sem, reduceEqDiff, reduceAdd, reduceLeDiff, reduceLT, reduceMul, reduceEq, Int.reduceLT, reduceLE, Int.reduceAdd, reduceSub, reduceToNat, UInt8.reduceToNat, e2, e3, e5, e6, e7, e8, e9,], by simp -implicitDefEqProofs only [go_sem, reduceEqDiff, reduceAdd, reduceLeDiff, reduceLT, reduceMul, reduceEq, Int.reduceLT, reduceLE, Int.reduceAdd, reduceSub, reduceToNat, UInt8.reduceToNat, e2, e3, e5, e6, e7, e8, e9,], by simp -implicitDefEqProofs only [go_sem, reduceEqDiff, reduceAdd, reduceLeDiff, reduceLT, reduceMul, reduceEq, Int.reduceLT, reduceLE, Int.reduceAdd, reduceSub, reduceToNat, UInt8.reduceToNat, e2, e3, e5, e6, e7, e8, e9,], by simp -implicitDefEqProofs only [go_sem, reduceEqDiff, reduceAdd, reduceLeDiff, reduceLT, reduceMul, reduceEq, Int.reduceLT, reduceLE, Int.reduceAdd, reduceSub, reduceToNat, UInt8.reduceToNat, e2, e3, e5, e6, e7, e8, e9, hi], by simp -implicitDefEqProofs only [go_sem, reduceEqDiff, reduceAdd, reduceLeDiff, reduceLT, reduceMul, reduceEq, Int.reduceLT, reduceLE, Int.reduceAdd, reduceSub, reduceToNat, UInt8.reduceToNat, e2, e3, e5, e6, e7, e8, e9,], by simp -implicitDefEqProofs only [go_sem, reduceEqDiff, reduceAdd, reduceLeDiff, reduceLT, reduceMul, reduceEq, Int.reduceLT, reduceLE, Int.reduceAdd, reduceSub, reduceToNat, UInt8.reduceToNat, e2, e3, e5, e6, e7, e8, e9,], by simp -implicitDefEqProofs only [go_sem, reduceEqDiff, reduceAdd, reduceLeDiff, reduceLT, reduceMul, reduceEq, Int.reduceLT, reduceLE, Int.reduceAdd, reduceSub, reduceToNat, UInt8.reduceToNat, e2, e3, e5, e6, e7, e8, e9,]⟩
    · have sn := sNamed_eq (pathB k) (decide ((0 : Int) ≤ idxK (·.path) k m.files 0)) c2
      rw [m2] at sn
      simp -implicitDefEqProofs only [go_sem, reduceEqDiff, reduceAdd, reduceLeDiff, reduceLT, reduceMul, reduceEq, Int.reduceLT, reduceLE, Int.reduceAdd, reduceSub, reduceToNat, UInt8.reduceToNat, e2, e3, e5, e6, e7, e8, e9, g2, g3, g12, sn, hpn, hpp, h0, puTD, puTF]
      exact ⟨hS, g2, g3, by simp -implicitDefEqProofs only [go_sem, reduceEqDiff, reduceAdd, reduceLeDiff, reduceLT, reduceMul, reduceEq, Int.reduceLT, reduceLE, Int.reduceAdd, reduceSub, reduceToNat, UInt8.reduceToNat, e2, e3, e5, e6, e7, e8, e9,], by simp -implicitDefEqProofs only [go_sem, reduceEqDiff, reduceAdd, reduceLeDiff, reduceLT, reduceMul, reduceEq, Int.reduceLT, reduceLE, Int.reduceAdd, reduceSub, reduceToNat, UInt8.reduceToNat, e2, e3, e5, e6, e7, e8, e9,], by simp -implicitDefEqProofs only [go_sem, reduceEqDiff, reduceAdd, reduceLeDiff, reduceLT, reduceMul, reduceEq, Int.reduceLT, reduceLE, Int.reduceAdd, reduceSub, reduceToNat, UInt8.reduceToNat, e2, e3, e5, e6, e7, e8, e9,], by simp -implicitDefEqProofs only [go_sem, reduceEqDiff, reduceAdd, reduceLeDiff, reduceLT, reduceMul, reduceEq, Int.reduceLT, reduceLE, Int.reduceAdd, reduceSub, reduceToNat, UInt8.reduceToNat, e2, e3, e5, e6, e7, e8, e9,], by simp -implicitDefEqProofs only [go_sem, reduceEqDiff, reduceAdd, reduceLeDiff, reduceLT, reduceMul, reduceEq, Int.reduceLT, reduceLE, Int.reduceAdd, reduceSub, reduceToNat, UInt8.reduceToNat, e2, e3, e5, e6, e7, e8, e9,], by simp -implicitDefEqProofs only [go_sem, reduceEqDiff, reduceAdd, reduceLeDiff, reduceLT, reduceMul, reduceEq, Int.reduceLT, reduceLE, Int.reduceAdd, reduceSub, reduceToNat, UInt8.reduceToNat, e2, e3, e5, e6, e7, e8, e9,], by simp -implicitDefEqProofs only [go_sem, reduceEqDiff, reduceAdd, reduceLeDiff, reduceLT, reduceMul, reduceEq, Int.reduceLT, reduceLE, Int.reduceAdd, reduceSub, reduceToNat, UInt8.reduceToNat, e2, e3, e5, e6, e7, e8, e9,]⟩
  clear hS g2 g3 kE o2 m2 e2 e3 e5 e6 e7 e8 e9
  rintro r G ⟨hS, g2, g3, e2, e3, e5, e6, e7, e8, e9⟩
  unfold encMac at g2
  rw [seqK_normal]
  simp -implicitDefEqProofs only [go_sem, reduceEqDiff, reduceAdd, reduceLeDiff, reduceLT, reduceMul, reduceEq, Int.reduceLT, reduceLE, Int.reduceAdd, reduceSub, reduceToNat, UInt8.reduceToNat, e2, e3, e5, e6, e7, e8, e9, g2, g3]
  refine (kS G).pure_next _ ?_
  generalize hKK : seqK _ _ _ _ = KK
  simp -implicitDefEqProofs only [go_sem, reduceEqDiff, reduceAdd, reduceLeDiff, reduceLT, reduceMul, reduceEq, Int.reduceLT, reduceLE, Int.reduceAdd, reduceSub, reduceToNat, UInt8.reduceToNat, e2, e3, e5, e6, e7, e8, e9,]
  rw [← hKK]
  clear hKK KK
  rw [seqK_normal, acode_seq]
  with_reducible refine acode_mid (QTF H i2 i3 m ta tb tc td k) ?_ ?_
  rotate_left
  · rcases o3 with ⟨h0, i, hi, hx⟩ | h0
    · subst h0
      rw [hi] at m3
      have hU : ∀ x ∈ m.sets, (encSet x).length = 2 := fun _ _ => rfl
      have htt : ∀ x, (encSet x).take 2 = encSet x := fun _ => rfl
      have sn := sNamed_eq (pathB k) true 0
      rw [show decide ((0 : Int) ≤ (i : Nat)) = true from by simp] at m3
      rw [m3] at sn
      have yx : decide (¬ x3.value = x3.value) = false := decide_eq_false (by simp)
      have y0 : decide ((0 : Int) = 0) = true := rfl
      simp -implicitDefEqProofs only [go_sem, reduceEqDiff, reduceAdd, reduceLeDiff, reduceLT, reduceMul, reduceEq, Int.reduceLT, reduceLE, Int.reduceAdd, reduceSub, reduceToNat, UInt8.reduceToNat, e2, e3, e5, e6, e7, e8, e9, g2, g3, hi, hx, hU, htt, sn, hpn, hpp, yx, y0, puTD, puTF, encSet]
      exact ⟨hS, g2, g3, by simp -implicitDefEqProofs only [go_sem, reduceEqDiff, reduceAdd, reduceLeDiff, reduceLT, reduceMul, reduceEq, Int.reduceLT, reduceLE, Int.reduceAdd, reduceSub, reduceToNat, UInt8.reduceToNat, e2, e3, e5, e6, e7, e8, e9,], by simp -implicitDefEqProofs only [go_sem, reduceEqDiff, reduceAdd, reduceLeDiff, reduceLT, reduceMul, reduceEq, Int.reduceLT, reduceLE, Int.reduceAdd, reduceSub, reduceToNat, UInt8.reduceToNat, e2, e3, e5, e6, e7, e8, e9,], by simp -implicitDefEqProofs only [go_sem, reduceEqDiff, reduceAdd, reduceLeDiff, reduceLT, reduceMul, reduceEq, Int.reduceLT, reduceLE, Int.reduceAdd, reduceSub, reduceToNat, UInt8.reduceToNat, e2, e3, e5, e6, e7, e8, e9,], by simp -implicitDefEqProofs only [go_sem, reduceEqDiff, reduceAdd, reduceLeDiff, reduceLT, reduceMul, reduceEq, Int.reduceLT, reduceLE, Int.reduceAdd, reduceSub, reduceToNat, UInt8.reduceToNat, e2, e3, e5, e6, e7, e8, e9, hi], by simp -implicitDefEqProofs only [go_sem, reduceEqDiff, reduceAdd, reduceLeDiff, reduceLT, reduceMul, reduceEq, Int.reduceLT, reduceLE, Int.reduceAdd, reduceSub, reduceToNat, UInt8.reduceToNat, e2, e3, e5, e6, e7, e8, e9,], by simp -implicitDefEqProofs only [go_sem, reduceEqDiff, reduceAdd, reduceLeDiff, reduceLT, reduceMul, reduceEq, Int.reduceLT, reduceLE, Int.reduceAdd, reduceSub, reduceToNat, UInt8.reduceToNat, e2, e3, e5, e6, e7, e8, e9,], by simp -implicitDefEqProofs only [go_sem, reduceEqDiff, reduceAdd, reduceLeDiff, reduceLT, reduceMul, reduceEq, Int.reduceLT, reduceLE, Int.reduceAdd, reduceSub, reduceToNat, UInt8.reduceToNat, e2, e3, e5, e6, e7, e8, e9,]⟩
    · have sn := sNamed_eq (pathB k) (decide ((0 : Int) ≤ idxK (·.key) k m.sets 0)) c3
      rw [m3] at sn
      simp -implicitDefEqProofs only [go_sem, reduceEqDiff, reduceAdd, reduceLeDiff, reduceLT, reduceMul, reduceEq, Int.reduceLT, reduceLE, Int.reduceAdd, reduceSub, reduceToNat, UInt8.reduceToNat, e2, e3, e5, e6, e7, e8, e9, g2, g3, sn, hpn, hpp, h0, puTD, puTF]
      exact ⟨hS, g2, g3, by simp -implicitDefEqProofs only [go_sem, reduceEqDiff, reduceAdd, reduceLeDiff, reduceLT, reduceMul, reduceEq, Int.reduceLT, reduceLE, Int.reduceAdd, reduceSub, reduceToNat, UInt8.reduceToNat, e2, e3, e5, e6, e7, e8, e9,], by simp -implicitDefEqProofs only [go_sem, reduceEqDiff, reduceAdd, reduceLeDiff, reduceLT, reduceMul, reduceEq, Int.reduceLT, reduceLE, Int.reduceAdd, reduceSub, reduceToNat, UInt8.reduceToNat, e2, e3, e5, e6, e7, e8, e9,], by simp -implicitDefEqProofs only [go_sem, reduceEqDiff, reduceAdd, reduceLeDiff, reduceLT, reduceMul, reduceEq, Int.reduceLT, reduceLE, Int.reduceAdd, reduceSub, reduceToNat, UInt8.reduceToNat, e2, e3, e5, e6, e7, e8, e9,], by simp -implicitDefEqProofs only [go_sem, reduceEqDiff, reduceAdd, reduceLeDiff, reduceLT, reduceMul, reduceEq, Int.reduceLT, reduceLE, Int.reduceAdd, reduceSub, reduceToNat, UInt8.reduceToNat, e2, e3, e5, e6, e7, e8, e9,], by simp -implicitDefEqProofs only [go_sem, reduceEqDiff, reduceAdd, reduceLeDiff, reduceLT, reduceMul, reduceEq, Int.reduceLT, reduceLE, Int.reduceAdd, reduceSub, reduceToNat, UInt8.reduceToNat, e2, e3, e5, e6, e7, e8, e9,], by simp -implicitDefEqProofs only [go_sem, reduceEqDiff, reduceAdd, reduceLeDiff, reduceLT, reduceMul, reduceEq, Int.reduceLT, reduceLE, Int.reduceAdd, reduceSub, reduceToNat, UInt8.reduceToNat, e2, e3, e5, e6, e7, e8, e9,], by simp -implicitDefEqProofs only [go_sem, reduceEqDiff, reduceAdd, reduceLeDiff, reduceLT, reduceMul, reduceEq, Int.reduceLT, reduceLE, Int.reduceAdd, reduceSub, reduceToNat, UInt8.reduceToNat, e2, e3, e5, e6, e7, e8, e9,]⟩
  clear hS g2 g3 kS o3 m3 e2 e3 e5 e6 e7 e8 e9
  rintro r G ⟨hS, g2, g3, e2, e3, e5, e6, e7, e8, e9⟩
  unfold encMac at g2
  rw [seqK_normal]
  simp -implicitDefEqProofs only [go_sem, reduceEqDiff, reduceAdd, reduceLeDiff, reduceLT, reduceMul, reduceEq, Int.reduceLT, reduceLE, Int.reduceAdd, reduceSub, reduceToNat, UInt8.reduceToNat, e2, e3, e5, e6, e7, e8, e9, g2, g3]
  refine (kV G).pure_next _ ?_
  generalize hKK : seqK _ _ _ _ = KK
  simp -implicitDefEqProofs only [go_sem, reduceEqDiff, reduceAdd, reduceLeDiff, reduceLT, reduceMul, reduceEq, Int.reduceLT, reduceLE, Int.reduceAdd, reduceSub, reduceToNat, UInt8.reduceToNat, e2, e3, e5, e6, e7, e8, e9,]
  with_reducible refine nwC_intro fun i14 hi14 => ?_
  generalize E14 : Heap.put G i14 _ = G4
  have hO_14 := obj_new E14 hi14 hS
  have n14 := hO_14.1
  have hS := hO_14.2.1
  have g14 := hO_14.2.2.1
  have d2_14 := obj_ne g2 hi14
  have g2 := hO_14.2.2.2 _ _ g2
  have d3_14 := obj_ne g3 hi14
  have g3 := hO_14.2.2.2 _ _ g3
  clear hO_14
  simp -implicitDefEqProofs only [go_sem, reduceEqDiff, reduceAdd, reduceLeDiff, reduceLT, reduceMul, reduceEq, Int.reduceLT, reduceLE, Int.reduceAdd, reduceSub, reduceToNat, UInt8.reduceToNat, g14]
  generalize E14 : Heap.put G4 i14 _ = G5
  have hS := obj_sub E14 n14 hS
  have g14 := obj_at E14
  have g2 := obj_keep E14 (by first | exact d2_14 | exact fun e => d14_2 e.symm) g2
  have g3 := obj_keep E14 (by first | exact d3_14 | exact fun e => d14_3 e.symm) g3
  try simp -implicitDefEqProofs only [go_sem, reduceEqDiff, reduceAdd, reduceLeDiff, reduceLT, reduceMul, reduceEq, Int.reduceLT, reduceLE, Int.reduceAdd, reduceSub, reduceToNat, UInt8.reduceToNat]
  rw [← hKK]
  clear hKK KK
  rw [seqK_normal, acode_seq]
  with_reducible refine acode_mid (QTF H i2 i3 m ta tb tc td k) ?_ ?_
  rotate_left
  · rcases o4 with ⟨h0, i, hi, hx⟩ | h0
    · subst h0
      rw [hi] at m4
      have hU : ∀ x ∈ m.svcs, (encSvc x).length = 4 := fun _ _ => rfl
      have htt : ∀ x, (encSvc x).take 4 = encSvc x := fun _ => rfl
      have sn := sNamed_eq (nameB k) true 0
      rw [show decide ((0 : Int) ≤ (i : Nat)) = true from by simp] at m4
      rw [m4] at sn
      have yx : decide (¬ x4 = x4) = false := decide_eq_false (by simp)
      have y0 : decide ((0 : Int) = 0) = true := rfl
      simp -implicitDefEqProofs only [go_sem, reduceEqDiff, reduceAdd, reduceLeDiff, reduceLT, reduceMul, reduceEq, Int.reduceLT, reduceLE, Int.reduceAdd, reduceSub, reduceToNat, UInt8.reduceToNat, e2, e3, e5, e6, e7, e8, e9, g2, g3, g14, hi, hx, hU, htt, sn, hpn, hpp, yx, y0, nv, puTD, puTF, encSvc]
      exact ⟨hS, g2, g3, by simp -implicitDefEqProofs only [go_sem, reduceEqDiff, reduceAdd, reduceLeDiff, reduceLT, reduceMul, reduceEq, Int.reduceLT, reduceLE, Int.reduceAdd, reduceSub, reduceToNat, UInt8.reduceToNat, e2, e3, e5, e6, e7, e8, e9,], by simp -implicitDefEqProofs only [go_sem, reduceEqDiff, reduceAdd, reduceLeDiff, reduceLT, reduceMul, reduceEq, Int.reduceLT, reduceLE, Int.reduceAdd, reduceSub, reduceToNat, UInt8.reduceToNat, e2, e3, e5, e6, e7, e8, e9,], by simp -implicitDefEqProofs only [go_sem, reduceEqDiff, reduceAdd, reduceLeDiff, reduceLT, reduceMul, reduceEq, Int.reduceLT, reduceLE, Int.reduceAdd, reduceSub, reduceToNat, UInt8.reduceToNat, e2, e3, e5, e6, e7, e8, e9,], by simp -implicitDefEqProofs only [go_sem, reduceEqDiff, reduceAdd, reduceLeDiff, reduceLT, reduceMul, reduceEq, Int.reduceLT, reduceLE, Int.reduceAdd, reduceSub, reduceToNat, UInt8.reduceToNat, e2, e3, e5, e6, e7, e8, e9, hi], by simp -implicitDefEqProofs only [go_sem, reduceEqDiff, reduceAdd, reduceLeDiff, reduceLT, reduceMul, reduceEq, Int.reduceLT, reduceLE, Int.reduceAdd, reduceSub, reduceToNat, UInt8.reduceToNat, e2, e3, e5, e6, e7, e8, e9,], by simp -implicitDefEqProofs only [go_sem, reduceEqDiff, reduceAdd, reduceLeDiff, reduceLT, reduceMul, reduceEq, Int.reduceLT, reduceLE, Int.reduceAdd, reduceSub, reduceToNat, UInt8.reduceToNat, e2, e3, e5, e6, e7, e8, e9,], by simp -implicitDefEqProofs only [go_sem, reduceEqDiff, reduceAdd, reduceLeDiff, reduceLT, reduceMul, reduceEq, Int.reduceLT, reduceLE, Int.reduceAdd, reduceSub, reduceToNat, UInt8.reduceToNat, e2, e3, e5, e6, e7, e8, e9,]⟩
    · have sn := sNamed_eq (nameB k) (decide ((0 : Int) ≤ idxK (·.name) k m.svcs 0)) c4
      rw [m4] at sn
      simp -implicitDefEqProofs only [go_sem, reduceEqDiff, reduceAdd, reduceLeDiff, reduceLT, reduceMul, reduceEq, Int.reduceLT, reduceLE, Int.reduceAdd, reduceSub, reduceToNat, UInt8.reduceToNat, e2, e3, e5, e6, e7, e8, e9, g2, g3, g14, sn, hpn, hpp, h0, puTD, puTF]
      exact ⟨hS, g2, g3, by simp -implicitDefEqProofs only [go_sem, reduceEqDiff, reduceAdd, reduceLeDiff, reduceLT, reduceMul, reduceEq, Int.reduceLT, reduceLE, Int.reduceAdd, reduceSub, reduceToNat, UInt8.reduceToNat, e2, e3, e5, e6, e7, e8, e9,], by simp -implicitDefEqProofs only [go_sem, reduceEqDiff, reduceAdd, reduceLeDiff, reduceLT, reduceMul, reduceEq, Int.reduceLT, reduceLE, Int.reduceAdd, reduceSub, reduceToNat, UInt8.reduceToNat, e2, e3, e5, e6, e7, e8, e9,], by simp -implicitDefEqProofs only [go_sem, reduceEqDiff, reduceAdd, reduceLeDiff, reduceLT, reduceMul, reduceEq, Int.reduceLT, reduceLE, Int.reduceAdd, reduceSub, reduceToNat, UInt8.reduceToNat, e2, e3, e5, e6, e7, e8, e9,], by simp -implicitDefEqProofs only [go_sem, reduceEqDiff, reduceAdd, reduceLeDiff, reduceLT, reduceMul, reduceEq, Int.reduceLT, reduceLE, Int.reduceAdd, reduceSub, reduceToNat, UInt8.reduceToNat, e2, e3, e5, e6, e7, e8, e9,], by simp -implicitDefEqProofs only [go_sem, reduceEqDiff, reduceAdd, reduceLeDiff, reduceLT, reduceMul, reduceEq, Int.reduceLT, reduceLE, Int.reduceAdd, reduceSub, reduceToNat, UInt8.reduceToNat, e2, e3, e5, e6, e7, e8, e9,], by simp -implicitDefEqProofs only [go_sem, reduceEqDiff, reduceAdd, reduceLeDiff, reduceLT, reduceMul, reduceEq, Int.reduceLT, reduceLE, Int.reduceAdd, reduceSub, reduceToNat, UInt8.reduceToNat, e2, e3, e5, e6, e7, e8, e9,], by simp -implicitDefEqProofs only [go_sem, reduceEqDiff, reduceAdd, reduceLeDiff, reduceLT, reduceMul, reduceEq, Int.reduceLT, reduceLE, Int.reduceAdd, reduceSub, reduceToNat, UInt8.reduceToNat, e2, e3, e5, e6, e7, e8, e9,]⟩
  clear hS g2 g3 kV o4 m4 e2 e3 e5 e6 e7 e8 e9
  rintro r G ⟨hS, g2, g3, e2, e3, e5, e6, e7, e8, e9⟩
  unfold encMac at g2
  rw [seqK_normal]
  have st0 : decide ((5 : Int) = 5) = true := rfl
  have st1 : decide ((0 : Int) = 0) = true := rfl
  simp -implicitDefEqProofs only [go_sem, reduceEqDiff, reduceAdd, reduceLeDiff, reduceLT, reduceMul, reduceEq, Int.reduceLT, reduceLE, Int.reduceAdd, reduceSub, reduceToNat, UInt8.reduceToNat, e2, e3, g2, g3]
  refine (kB G).pure_next _ ?_
  by_cases hb : k ≠ [] ∧ pathB k = false
  · have y1 : decide (¬ k = []) = true := decide_eq_true hb.1
    have bA : belowA m k = [] := by rw [belowA, if_pos hb]
    have bE : belowE k = 5 := by rw [belowE, if_pos hb]
    rw [hb.2] at hpp
    rw [bA, bE]
    simp -implicitDefEqProofs only [go_sem, reduceEqDiff, reduceAdd, reduceLeDiff, reduceLT, reduceMul, reduceEq, Int.reduceLT, reduceLE, Int.reduceAdd, reduceSub, reduceToNat, UInt8.reduceToNat, e2, e3, e5, e6, e7, e8, e9, g2, g3, y1, hpp, st0, st1, puTD, puTF, List.length_nil, Int.natCast_zero]
    exact Done.drop hS ⟨rfl, rfl⟩
  have bA : belowA m k = belowL m.files k := by rw [belowA, if_neg hb]
  have bE : belowE k = 0 := by rw [belowE, if_neg hb]
  rw [bA, bE]
  generalize hKK : seqK _ _ _ _ = KK
  simp -implicitDefEqProofs only [go_sem, reduceEqDiff, reduceAdd, reduceLeDiff, reduceLT, reduceMul, reduceEq, Int.reduceLT, reduceLE, Int.reduceAdd, reduceSub, reduceToNat, UInt8.reduceToNat, e2, e3, e5, e6, e7, e8, e9, g2, g3]
  rw [← hKK]
  clear hKK KK
  rw [seqK_normal, acode_seq]
  with_reducible refine acode_mid (QTB H i2 i3 m ta tb tc td k) ?_ ?_
  rotate_left
  · by_cases hk0 : k = []
    · have y1 : decide (¬ k = []) = false := decide_eq_false (by simpa using hk0)
      simp -implicitDefEqProofs only [go_sem, reduceEqDiff, reduceAdd, reduceLeDiff, reduceLT, reduceMul, reduceEq, Int.reduceLT, reduceLE, Int.reduceAdd, reduceSub, reduceToNat, UInt8.reduceToNat, e2, e3, e5, e6, e7, e8, e9, g2, g3, y1, hpp, puTD, puTF]
      exact ⟨hS, g2, g3, by simp -implicitDefEqProofs only [go_sem, reduceEqDiff, reduceAdd, reduceLeDiff, reduceLT, reduceMul, reduceEq, Int.reduceLT, reduceLE, Int.reduceAdd, reduceSub, reduceToNat, UInt8.reduceToNat, e2, e3], by simp -implicitDefEqProofs only [go_sem, reduceEqDiff, reduceAdd, reduceLeDiff, reduceLT, reduceMul, reduceEq, Int.reduceLT, reduceLE, Int.reduceAdd, reduceSub, reduceToNat, UInt8.reduceToNat, e2, e3], by simp -implicitDefEqProofs only [go_sem, reduceEqDiff, reduceAdd, reduceLeDiff, reduceLT, reduceMul, reduceEq, Int.reduceLT, reduceLE, Int.reduceAdd, reduceSub, reduceToNat, UInt8.reduceToNat], by simp -implicitDefEqProofs only [go_sem, reduceEqDiff, reduceAdd, reduceLeDiff, reduceLT, reduceMul, reduceEq, Int.reduceLT, reduceLE, Int.reduceAdd, reduceSub, reduceToNat, UInt8.reduceToNat]⟩
    · have y1 : decide (¬ k = []) = true := decide_eq_true hk0
      have hpb : pathB k = true := by
        cases h : pathB k with
        | true => rfl
        | false => exact absurd ⟨hk0, h⟩ hb
      rw [hpb] at hpp
      simp -implicitDefEqProofs only [go_sem, reduceEqDiff, reduceAdd, reduceLeDiff, reduceLT, reduceMul, reduceEq, Int.reduceLT, reduceLE, Int.reduceAdd, reduceSub, reduceToNat, UInt8.reduceToNat, e2, e3, e5, e6, e7, e8, e9, g2, g3, y1, hpp, puTD, puTF]
      exact ⟨hS, g2, g3, by simp -implicitDefEqProofs only [go_sem, reduceEqDiff, reduceAdd, reduceLeDiff, reduceLT, reduceMul, reduceEq, Int.reduceLT, reduceLE, Int.reduceAdd, reduceSub, reduceToNat, UInt8.reduceToNat, e2, e3], by simp -implicitDefEqProofs only [go_sem, reduceEqDiff, reduceAdd, reduceLeDiff, reduceLT, reduceMul, reduceEq, Int.reduceLT, reduceLE, Int.reduceAdd, reduceSub, reduceToNat, UInt8.reduceToNat, e2, e3], by simp -implicitDefEqProofs only [go_sem, reduceEqDiff, reduceAdd, reduceLeDiff, reduceLT, reduceMul, reduceEq, Int.reduceLT, reduceLE, Int.reduceAdd, reduceSub, reduceToNat, UInt8.reduceToNat], by simp -implicitDefEqProofs only [go_sem, reduceEqDiff, reduceAdd, reduceLeDiff, reduceLT, reduceMul, reduceEq, Int.reduceLT, reduceLE, Int.reduceAdd, reduceSub, reduceToNat, UInt8.reduceToNat]⟩
  clear hS g2 g3 e2 e3 e5 e6 e7 e8 e9 kB hb bA bE
  rintro r G ⟨hS, g2, g3, e2, e3, e11, e15⟩
  unfold encMac at g2
  rw [seqK_normal]
  simp -implicitDefEqProofs only [go_sem, reduceEqDiff, reduceAdd, reduceLeDiff, reduceLT, reduceMul, reduceEq, Int.reduceLT, reduceLE, Int.reduceAdd, reduceSub, reduceToNat, UInt8.reduceToNat, e2, e3, e11, e15, g2, g3]
  refine aloop_intro (σ := Nat × Tail) (fun s => [(2, .ptr i2 0), (3, .ptr i3 0), (11, .int .i64 0), (15, .sl ((belowL m.files k).map encBs) .unk), (16, .sl ((belowL (m.files.take s.1) k).map encBs) s.2), (170, .sl (m.files.map encFile) tb), (171, .int .i64 m.files.length), (172, .int .i64 s.1)])
    (fun s G' => s.1 ≤ m.files.length ∧ AppOK G G' 1 ((belowL (m.files.take s.1) k).map encBs) s.2) (fun s => m.files.length - s.1) (0, .exact) ?_ ?_ ?_
  · simp -implicitDefEqProofs only [go_sem, reduceEqDiff, reduceAdd, reduceLeDiff, reduceLT, reduceMul, reduceEq, Int.reduceLT, reduceLE, Int.reduceAdd, reduceSub, reduceToNat, UInt8.reduceToNat, e2, e3, e11, e15]
    exact rfl
  · exact ⟨Nat.zero_le _, AppOK.nil (Heap.Sub.rfl' G)⟩
  clear e2 e3 e11 e15
  rintro ⟨i, tl⟩ r G' hv ⟨hi, hO⟩
  simp only at hi hO
  have e2 := hv.1
  have e3 := hv.2.1
  have e11 := hv.2.2.1
  have e15 := hv.2.2.2.1
  have h16 := hv.2.2.2.2.1
  have h170 := hv.2.2.2.2.2.1
  have h171 := hv.2.2.2.2.2.2.1
  have h172 := hv.2.2.2.2.2.2.2.1
  simp only at h16 h172
  clear hv
  have g3' := hO.sub _ _ g3
  by_cases g : i < m.files.length
  rotate_left
  · have y0 : decide ((i : Int) < m.files.length) = false := decide_eq_false (by omega)
    obtain rfl : i = m.files.length := by omega
    rw [List.take_length] at hO h16
    have hbl := belowL_len m.files k m.files.length
    rw [List.take_length] at hbl
    have hq := sEqL_eq decS_enc (belowL m.files k) (belowL m.files k) .unk tl (by omega)
    rw [show decide (belowL m.files k = belowL m.files k) = true from decide_eq_true rfl] at hq
    simp -implicitDefEqProofs only [go_sem, reduceEqDiff, reduceAdd, reduceLeDiff, reduceLT, reduceMul, reduceEq, Int.reduceLT, reduceLE, Int.reduceAdd, reduceSub, reduceToNat, UInt8.reduceToNat, e2, e3, e11, e15, h16, h170, h171, h172, y0, hq, st1, puTD, puTF]
    exact Done.drop (fun a o h => hO.sub _ _ (hS _ _ h)) ⟨rfl, rfl⟩
  have y0 : decide ((i : Int) < m.files.length) = true := decide_eq_true (by omega)
  obtain ⟨x, hx⟩ : ∃ x, m.files[i]? = some x := getD_get' g
  have ws : IntKind.i64.wrap ((i : Int) + 1) = ((i + 1 : Nat) : Int) := by rw [Go.IntWalk.i64_in _ (by omega)]; omega
  have hU : ∀ x ∈ m.files, (encFile x).length = 3 := fun _ _ => rfl
  have htt : ∀ x : FileV, (encFile x).take 3 = encFile x := fun _ => rfl
  have hpre := sPre_eq x.path (k ++ [47])
  rw [preB_under] at hpre
  have hlen := belowL_len m.files k i
  have hkl : k.length ≤ 1099511627776 := hk
  simp -implicitDefEqProofs only [go_sem, reduceEqDiff, reduceAdd, reduceLeDiff, reduceLT, reduceMul, reduceEq, Int.reduceLT, reduceLE, Int.reduceAdd, reduceSub, reduceToNat, UInt8.reduceToNat, e2, e3, e11, e15, h16, h170, h171, h172, y0, hx, hU, htt, encFile]
  with_reducible refine nwC_intro fun i18 hi18 => ?_
  replace hO := hO.put hi18 (.cells [.str x.path, .str x.data, .bool x.runs])
  try simp -implicitDefEqProofs only [go_sem, reduceEqDiff, reduceAdd, reduceLeDiff, reduceLT, reduceMul, reduceEq, Int.reduceLT, reduceLE, Int.reduceAdd, reduceSub, reduceToNat, UInt8.reduceToNat]
  generalize E18 : G'.put i18 _ = G6 at *
  have g18 := obj_at E18
  clear E18 g3'
  have g3' := hO.sub _ _ g3
  have bx := belowP.eq_1 k x
  have kap : (k ++ [47]).length ≤ 4611686018427387904 := by simp; omega
  cases hp : belowP k x with
  | false =>
    rw [hp] at bx
    have hk0 : decide (k = []) = false := by
      cases h : decide (k = []) with
      | false => rfl
      | true => rw [h, Bool.true_or] at bx; cases bx
    have hu : underB x.path k = false := by
      rw [hk0, Bool.false_or] at bx; exact bx.symm
    rw [hu] at hpre
    have no := belowL_no (d := k) hx hp
    simp -implicitDefEqProofs only [go_sem, reduceEqDiff, reduceAdd, reduceLeDiff, reduceLT, reduceMul, reduceEq, Int.reduceLT, reduceLE, Int.reduceAdd, reduceSub, reduceToNat, UInt8.reduceToNat, e2, e3, e11, e15, h16, h170, h171, h172, g3', g18, hk0, hpre, kap, ws, puTD, puTF]
    refine ⟨by omega, ?_⟩
    exact Again.mk (i + 1, tl) (by simp -implicitDefEqProofs only [go_sem, reduceEqDiff, reduceAdd, reduceLeDiff, reduceLT, reduceMul, reduceEq, Int.reduceLT, reduceLE, Int.reduceAdd, reduceSub, reduceToNat, UInt8.reduceToNat, e2, e3, e11, e15, h16, h170, h171, h172, no]) ⟨by simp only; omega, by simp only; rw [no]; exact hO⟩ (by simp only; omega)
  | true =>
    rw [hp] at bx
    have yes := belowL_yes (d := k) hx hp
    by_cases hk0 : k = []
    · have y1 : decide (k = []) = true := decide_eq_true hk0
      simp -implicitDefEqProofs only [go_sem, reduceEqDiff, reduceAdd, reduceLeDiff, reduceLT, reduceMul, reduceEq, Int.reduceLT, reduceLE, Int.reduceAdd, reduceSub, reduceToNat, UInt8.reduceToNat, e2, e3, e11, e15, h16, h170, h171, h172, g3', g18, y1, puTD, puTF]
      refine AppOK.step hO (fun z hz => by obtain ⟨q, -, rfl⟩ := List.mem_map.1 hz; rfl) (by simp) (by rw [List.length_map]; simp; omega) (by rw [List.length_map]; simp; omega) fun tl' G'' hO' hK => ?_
      have ea : (belowL (List.take i m.files) k).map encBs ++ [[AV.str x.path]] = (belowL (List.take (i + 1) m.files) k).map encBs := by rw [yes]; simp [encBs]
      rw [ea] at hO' ⊢
      simp -implicitDefEqProofs only [go_sem, reduceEqDiff, reduceAdd, reduceLeDiff, reduceLT, reduceMul, reduceEq, Int.reduceLT, reduceLE, Int.reduceAdd, reduceSub, reduceToNat, UInt8.reduceToNat, e2, e3, e11, e15, h170, h171, h172, ws]
      exact Again.mk (i + 1, tl') (by simp -implicitDefEqProofs only [go_sem, reduceEqDiff, reduceAdd, reduceLeDiff, reduceLT, reduceMul, reduceEq, Int.reduceLT, reduceLE, Int.reduceAdd, reduceSub, reduceToNat, UInt8.reduceToNat, e2, e3, e11, e15, h170, h171, h172]) ⟨by simp only; omega, hO'⟩ (by simp only; omega)
    · have y1 : decide (k = []) = false := decide_eq_false hk0
      have hu : underB x.path k = true := by
        rw [y1, Bool.false_or] at bx; exact bx.symm
      rw [hu] at hpre
      simp -implicitDefEqProofs only [go_sem, reduceEqDiff, reduceAdd, reduceLeDiff, reduceLT, reduceMul, reduceEq, Int.reduceLT, reduceLE, Int.reduceAdd, reduceSub, reduceToNat, UInt8.reduceToNat, e2, e3, e11, e15, h16, h170, h171, h172, g3', g18, y1, hpre, kap, puTD, puTF]
      refine ⟨by omega, ?_⟩
      refine AppOK.step hO (fun z hz => by obtain ⟨q, -, rfl⟩ := List.mem_map.1 hz; rfl) (by simp) (by rw [List.length_map]; simp; omega) (by rw [List.length_map]; simp; omega) fun tl' G'' hO' hK => ?_
      have ea : (belowL (List.take i m.files) k).map encBs ++ [[AV.str x.path]] = (belowL (List.take (i + 1) m.files) k).map encBs := by rw [yes]; simp [encBs]
      rw [ea] at hO' ⊢
      simp -implicitDefEqProofs only [go_sem, reduceEqDiff, reduceAdd, reduceLeDiff, reduceLT, reduceMul, reduceEq, Int.reduceLT, reduceLE, Int.reduceAdd, reduceSub, reduceToNat, UInt8.reduceToNat, e2, e3, e11, e15, h170, h171, h172, ws]
      exact Again.mk (i + 1, tl') (by simp -implicitDefEqProofs only [go_sem, reduceEqDiff, reduceAdd, reduceLeDiff, reduceLT, reduceMul, reduceEq, Int.reduceLT, reduceLE, Int.reduceAdd, reduceSub, reduceToNat, UInt8.reduceToNat, e2, e3, e11, e15, h170, h171, h172]) ⟨by simp only; omega, hO'⟩ (by simp only; omega)
end Go.Proofs
