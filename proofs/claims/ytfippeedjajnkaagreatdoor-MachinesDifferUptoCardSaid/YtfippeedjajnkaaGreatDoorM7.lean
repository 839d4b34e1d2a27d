/-
  Walks and plain laws, part 7.
-/
import Derived.Test.YtfippeedjajnkaaGreatDoorM1
import Derived.Test.YtfippeedjajnkaaGreatDoorM2
import Derived.Test.YtfippeedjajnkaaGreatDoorM3
import Derived.Test.YtfippeedjajnkaaGreatDoorM6
/- Walks: slices.Equal on the things of a machine; Same. -/
namespace Go.Proofs
open Go Go.Abs
open Nat (reduceEqDiff reduceAdd reduceLeDiff reduceLT reduceMul)
open Int (reduceEq reduceLE reduceSub reduceToNat)
set_option linter.unusedSimpArgs false
set_option linter.unusedVariables false
set_option maxRecDepth 20000
theorem eqSet_calls_ne (cx cy : Bool) (a b : SetV) : bin Tryz.prog .neq 36 cx cy (.agg (encSet a)) (.agg (encSet b)) = some (.bool (decide ¬ a = b)) := by
  have h : eqT Tryz.prog 6 36 (.agg (encSet a)) (.agg (encSet b)) = some (decide (a = b)) := by
    obtain ⟨xkey, xvalue⟩ := a
    obtain ⟨ykey, yvalue⟩ := b
    simp only [encSet, eqT, eqFields, tys, readC, TD.agg, if_true, List.drop_zero, List.drop_succ_cons, List.head?_cons, Bool.false_eq_true, if_false, Option.some.injEq, Bool.and_true]
    rw [Bool.eq_iff_iff]
    simp [SetV.mk.injEq]
  have e : eqA Tryz.prog 36 cx cy (.agg (encSet a)) (.agg (encSet b)) = some (decide (a = b)) := by
    unfold eqA
    simp only [tys, if_true]
    exact h
  show (eqA Tryz.prog 36 cx cy (.agg (encSet a)) (.agg (encSet b))).map (fun b => AV.bool (!b)) = _
  rw [e]
  simp
theorem eqSet_calls (a b : List SetV) (t t' : Tail) (H : Heap) (ha : a.length ≤ 1099511627776) : ACalls Tryz.prog 10 [.sl (a.map encSet) t, .sl (b.map encSet) t'] H fun x H' => x = .bool (decide (a = b)) ∧ H' = H := by
  by_cases hl : ¬ a.length = b.length
  · have d1 : decide (¬ (a.length : Int) = b.length) = true := by simp; omega
    refine ACalls.of_code (X := { pure := pu0 }) pu0_ok Tryz.func10 (by kernel_rfl) rfl (by kernel_rfl) (Nat.le_of_ble_eq_true rfl) ?_
    simp -implicitDefEqProofs only [go_sem, reduceEqDiff, reduceAdd, reduceLeDiff, reduceLT, reduceMul, reduceEq, Int.reduceLT, reduceLE, Int.reduceAdd, reduceSub, reduceToNat, UInt8.reduceToNat, Tryz.f10, d1]
    refine Done.now ⟨?_, rfl⟩
    have : ¬ a = b := fun e => hl (by rw [e])
    simp [this]
  · have hl : a.length = b.length := Decidable.not_not.1 hl
    have d1 : decide (¬ (a.length : Int) = b.length) = false := by simp; omega
    refine ACalls.of_code (X := { pure := pu0 }) pu0_ok Tryz.func10 (by kernel_rfl) rfl (by kernel_rfl) (Nat.le_of_ble_eq_true rfl) ?_
    simp -implicitDefEqProofs only [go_sem, reduceEqDiff, reduceAdd, reduceLeDiff, reduceLT, reduceMul, reduceEq, Int.reduceLT, reduceLE, Int.reduceAdd, reduceSub, reduceToNat, UInt8.reduceToNat, Tryz.f10, d1]
    refine aloop_intro (σ := Nat) (fun i => [(0, .sl (a.map encSet) t), (1, .sl (b.map encSet) t'), (12, .int .i64 a.length), (13, .int .i64 i)])
      (fun i G => G = H ∧ i ≤ a.length ∧ a.take i = b.take i) (fun i => a.length - i) 0 ?_ ?_ ?_
    · simp -implicitDefEqProofs only [go_sem, reduceEqDiff, reduceAdd, reduceLeDiff, reduceLT, reduceMul, reduceEq, Int.reduceLT, reduceLE, Int.reduceAdd, reduceSub, reduceToNat, UInt8.reduceToNat]
    · simp
    · intro i r G hv hI
      have h0 := hv.1
      have h1 := hv.2.1
      have h12 := hv.2.2.1
      have h13 := hv.2.2.2.1
      have hG := hI.1.symm
      have hi := hI.2.1
      have hp := hI.2.2
      clear hv hI
      subst hG
      simp -implicitDefEqProofs only [go_sem, reduceEqDiff, reduceAdd, reduceLeDiff, reduceLT, reduceMul, reduceEq, Int.reduceLT, reduceLE, Int.reduceAdd, reduceSub, reduceToNat, UInt8.reduceToNat, h0, h1, h12, h13]
      refine cnd_intro (fun h => ?_) (fun h => ?_)
      · simp only [decide_eq_true_eq] at h
        obtain ⟨x, hx⟩ := get_some (l := a) (i := i) (by omega)
        obtain ⟨y, hy⟩ := get_some (l := b) (i := i) (by omega)
        have ht := take_eq_succ hx hy
        have hn := fun cx cy => eqSet_calls_ne cx cy x y
        obtain ⟨xkey, xvalue⟩ := x
        obtain ⟨ykey, yvalue⟩ := y
        simp only [encSet] at hn
        simp -implicitDefEqProofs only [go_sem, reduceEqDiff, reduceAdd, reduceLeDiff, reduceLT, reduceMul, reduceEq, Int.reduceLT, reduceLE, Int.reduceAdd, reduceSub, reduceToNat, UInt8.reduceToNat, h0, h1, h12, h13, hx, hy, encSet, hn]
        refine cnd_intro (fun g => ?_) (fun g => ?_)
        · simp -implicitDefEqProofs only [go_sem, reduceEqDiff, reduceAdd, reduceLeDiff, reduceLT, reduceMul, reduceEq, Int.reduceLT, reduceLE, Int.reduceAdd, reduceSub, reduceToNat, UInt8.reduceToNat]
          refine Done.now ⟨?_, rfl⟩
          have : ¬ a = b := fun e => by subst e; rw [hx] at hy; cases hy; simp at g
          simp [this]
        · simp -implicitDefEqProofs (disch := omega) only [go_sem, reduceEqDiff, reduceAdd, reduceLeDiff, reduceLT, reduceMul, reduceEq, Int.reduceLT, reduceLE, Int.reduceAdd, reduceSub, reduceToNat, UInt8.reduceToNat, Go.IntWalk.i64_in, h0, h1, h12, h13]
          simp only [decide_eq_false_iff_not, Decidable.not_not] at g
          exact Again.mk (i + 1) (by simp -implicitDefEqProofs only [go_sem, reduceEqDiff, reduceAdd, reduceLeDiff, reduceLT, reduceMul, reduceEq, Int.reduceLT, reduceLE, Int.reduceAdd, reduceSub, reduceToNat, UInt8.reduceToNat, h0, h1, h12, h13]; exact rfl) ⟨rfl, by omega, ht.2 ⟨hp, g⟩⟩ (by omega)
      · simp only [decide_eq_false_iff_not] at h
        have e : i = a.length := by omega
        rw [e, List.take_length, hl, List.take_length] at hp
        simp -implicitDefEqProofs only [go_sem, reduceEqDiff, reduceAdd, reduceLeDiff, reduceLT, reduceMul, reduceEq, Int.reduceLT, reduceLE, Int.reduceAdd, reduceSub, reduceToNat, UInt8.reduceToNat]
        exact Done.now ⟨by simp [hp], rfl⟩

theorem eqFile_calls_ne (cx cy : Bool) (a b : FileV) : bin Tryz.prog .neq 41 cx cy (.agg (encFile a)) (.agg (encFile b)) = some (.bool (decide ¬ a = b)) := by
  have h : eqT Tryz.prog 6 41 (.agg (encFile a)) (.agg (encFile b)) = some (decide (a = b)) := by
    obtain ⟨xpath, xdata, xruns⟩ := a
    obtain ⟨ypath, ydata, yruns⟩ := b
    simp only [encFile, eqT, eqFields, tys, readC, TD.agg, if_true, List.drop_zero, List.drop_succ_cons, List.head?_cons, Bool.false_eq_true, if_false, Option.some.injEq, Bool.and_true]
    rw [Bool.eq_iff_iff]
    simp [FileV.mk.injEq]
  have e : eqA Tryz.prog 41 cx cy (.agg (encFile a)) (.agg (encFile b)) = some (decide (a = b)) := by
    unfold eqA
    simp only [tys, if_true]
    exact h
  show (eqA Tryz.prog 41 cx cy (.agg (encFile a)) (.agg (encFile b))).map (fun b => AV.bool (!b)) = _
  rw [e]
  simp
theorem eqFile_calls (a b : List FileV) (t t' : Tail) (H : Heap) (ha : a.length ≤ 1099511627776) : ACalls Tryz.prog 57 [.sl (a.map encFile) t, .sl (b.map encFile) t'] H fun x H' => x = .bool (decide (a = b)) ∧ H' = H := by
  by_cases hl : ¬ a.length = b.length
  · have d1 : decide (¬ (a.length : Int) = b.length) = true := by simp; omega
    refine ACalls.of_code (X := { pure := pu0 }) pu0_ok Tryz.func57 (by kernel_rfl) rfl (by kernel_rfl) (Nat.le_of_ble_eq_true rfl) ?_
    simp -implicitDefEqProofs only [go_sem, reduceEqDiff, reduceAdd, reduceLeDiff, reduceLT, reduceMul, reduceEq, Int.reduceLT, reduceLE, Int.reduceAdd, reduceSub, reduceToNat, UInt8.reduceToNat, Tryz.f57, d1]
    refine Done.now ⟨?_, rfl⟩
    have : ¬ a = b := fun e => hl (by rw [e])
    simp [this]
  · have hl : a.length = b.length := Decidable.not_not.1 hl
    have d1 : decide (¬ (a.length : Int) = b.length) = false := by simp; omega
    refine ACalls.of_code (X := { pure := pu0 }) pu0_ok Tryz.func57 (by kernel_rfl) rfl (by kernel_rfl) (Nat.le_of_ble_eq_true rfl) ?_
    simp -implicitDefEqProofs only [go_sem, reduceEqDiff, reduceAdd, reduceLeDiff, reduceLT, reduceMul, reduceEq, Int.reduceLT, reduceLE, Int.reduceAdd, reduceSub, reduceToNat, UInt8.reduceToNat, Tryz.f57, d1]
    refine aloop_intro (σ := Nat) (fun i => [(0, .sl (a.map encFile) t), (1, .sl (b.map encFile) t'), (12, .int .i64 a.length), (13, .int .i64 i)])
      (fun i G => G = H ∧ i ≤ a.length ∧ a.take i = b.take i) (fun i => a.length - i) 0 ?_ ?_ ?_
    · simp -implicitDefEqProofs only [go_sem, reduceEqDiff, reduceAdd, reduceLeDiff, reduceLT, reduceMul, reduceEq, Int.reduceLT, reduceLE, Int.reduceAdd, reduceSub, reduceToNat, UInt8.reduceToNat]
    · simp
    · intro i r G hv hI
      have h0 := hv.1
      have h1 := hv.2.1
      have h12 := hv.2.2.1
      have h13 := hv.2.2.2.1
      have hG := hI.1.symm
      have hi := hI.2.1
      have hp := hI.2.2
      clear hv hI
      subst hG
      simp -implicitDefEqProofs only [go_sem, reduceEqDiff, reduceAdd, reduceLeDiff, reduceLT, reduceMul, reduceEq, Int.reduceLT, reduceLE, Int.reduceAdd, reduceSub, reduceToNat, UInt8.reduceToNat, h0, h1, h12, h13]
      refine cnd_intro (fun h => ?_) (fun h => ?_)
      · simp only [decide_eq_true_eq] at h
        obtain ⟨x, hx⟩ := get_some (l := a) (i := i) (by omega)
        obtain ⟨y, hy⟩ := get_some (l := b) (i := i) (by omega)
        have ht := take_eq_succ hx hy
        have hn := fun cx cy => eqFile_calls_ne cx cy x y
        obtain ⟨xpath, xdata, xruns⟩ := x
        obtain ⟨ypath, ydata, yruns⟩ := y
        simp only [encFile] at hn
        simp -implicitDefEqProofs only [go_sem, reduceEqDiff, reduceAdd, reduceLeDiff, reduceLT, reduceMul, reduceEq, Int.reduceLT, reduceLE, Int.reduceAdd, reduceSub, reduceToNat, UInt8.reduceToNat, h0, h1, h12, h13, hx, hy, encFile, hn]
        refine cnd_intro (fun g => ?_) (fun g => ?_)
        · simp -implicitDefEqProofs only [go_sem, reduceEqDiff, reduceAdd, reduceLeDiff, reduceLT, reduceMul, reduceEq, Int.reduceLT, reduceLE, Int.reduceAdd, reduceSub, reduceToNat, UInt8.reduceToNat]
          refine Done.now ⟨?_, rfl⟩
          have : ¬ a = b := fun e => by subst e; rw [hx] at hy; cases hy; simp at g
          simp [this]
        · simp -implicitDefEqProofs (disch := omega) only [go_sem, reduceEqDiff, reduceAdd, reduceLeDiff, reduceLT, reduceMul, reduceEq, Int.reduceLT, reduceLE, Int.reduceAdd, reduceSub, reduceToNat, UInt8.reduceToNat, Go.IntWalk.i64_in, h0, h1, h12, h13]
          simp only [decide_eq_false_iff_not, Decidable.not_not] at g
          exact Again.mk (i + 1) (by simp -implicitDefEqProofs only [go_sem, reduceEqDiff, reduceAdd, reduceLeDiff, reduceLT, reduceMul, reduceEq, Int.reduceLT, reduceLE, Int.reduceAdd, reduceSub, reduceToNat, UInt8.reduceToNat, h0, h1, h12, h13]; exact rfl) ⟨rfl, by omega, ht.2 ⟨hp, g⟩⟩ (by omega)
      · simp only [decide_eq_false_iff_not] at h
        have e : i = a.length := by omega
        rw [e, List.take_length, hl, List.take_length] at hp
        simp -implicitDefEqProofs only [go_sem, reduceEqDiff, reduceAdd, reduceLeDiff, reduceLT, reduceMul, reduceEq, Int.reduceLT, reduceLE, Int.reduceAdd, reduceSub, reduceToNat, UInt8.reduceToNat]
        exact Done.now ⟨by simp [hp], rfl⟩

theorem eqSvc_calls_ne (cx cy : Bool) (a b : SvcV) : bin Tryz.prog .neq 43 cx cy (.agg (encSvc a)) (.agg (encSvc b)) = some (.bool (decide ¬ a = b)) := by
  have h : eqT Tryz.prog 6 43 (.agg (encSvc a)) (.agg (encSvc b)) = some (decide (a = b)) := by
    obtain ⟨xname, xpath, xauto, xon⟩ := a
    obtain ⟨yname, ypath, yauto, yon⟩ := b
    simp only [encSvc, eqT, eqFields, tys, readC, TD.agg, if_true, List.drop_zero, List.drop_succ_cons, List.head?_cons, Bool.false_eq_true, if_false, Option.some.injEq, Bool.and_true]
    rw [Bool.eq_iff_iff]
    simp [SvcV.mk.injEq]
  have e : eqA Tryz.prog 43 cx cy (.agg (encSvc a)) (.agg (encSvc b)) = some (decide (a = b)) := by
    unfold eqA
    simp only [tys, if_true]
    exact h
  show (eqA Tryz.prog 43 cx cy (.agg (encSvc a)) (.agg (encSvc b))).map (fun b => AV.bool (!b)) = _
  rw [e]
  simp
theorem eqSvc_calls (a b : List SvcV) (t t' : Tail) (H : Heap) (ha : a.length ≤ 1099511627776) : ACalls Tryz.prog 58 [.sl (a.map encSvc) t, .sl (b.map encSvc) t'] H fun x H' => x = .bool (decide (a = b)) ∧ H' = H := by
  by_cases hl : ¬ a.length = b.length
  · have d1 : decide (¬ (a.length : Int) = b.length) = true := by simp; omega
    refine ACalls.of_code (X := { pure := pu0 }) pu0_ok Tryz.func58 (by kernel_rfl) rfl (by kernel_rfl) (Nat.le_of_ble_eq_true rfl) ?_
    simp -implicitDefEqProofs only [go_sem, reduceEqDiff, reduceAdd, reduceLeDiff, reduceLT, reduceMul, reduceEq, Int.reduceLT, reduceLE, Int.reduceAdd, reduceSub, reduceToNat, UInt8.reduceToNat, Tryz.f58, d1]
    refine Done.now ⟨?_, rfl⟩
    have : ¬ a = b := fun e => hl (by rw [e])
    simp [this]
  · have hl : a.length = b.length := Decidable.not_not.1 hl
    have d1 : decide (¬ (a.length : Int) = b.length) = false := by simp; omega
    refine ACalls.of_code (X := { pure := pu0 }) pu0_ok Tryz.func58 (by kernel_rfl) rfl (by kernel_rfl) (Nat.le_of_ble_eq_true rfl) ?_
    simp -implicitDefEqProofs only [go_sem, reduceEqDiff, reduceAdd, reduceLeDiff, reduceLT, reduceMul, reduceEq, Int.reduceLT, reduceLE, Int.reduceAdd, reduceSub, reduceToNat, UInt8.reduceToNat, Tryz.f58, d1]
    refine aloop_intro (σ := Nat) (fun i => [(0, .sl (a.map encSvc) t), (1, .sl (b.map encSvc) t'), (12, .int .i64 a.length), (13, .int .i64 i)])
      (fun i G => G = H ∧ i ≤ a.length ∧ a.take i = b.take i) (fun i => a.length - i) 0 ?_ ?_ ?_
    · simp -implicitDefEqProofs only [go_sem, reduceEqDiff, reduceAdd, reduceLeDiff, reduceLT, reduceMul, reduceEq, Int.reduceLT, reduceLE, Int.reduceAdd, reduceSub, reduceToNat, UInt8.reduceToNat]
    · simp
    · intro i r G hv hI
      have h0 := hv.1
      have h1 := hv.2.1
      have h12 := hv.2.2.1
      have h13 := hv.2.2.2.1
      have hG := hI.1.symm
      have hi := hI.2.1
      have hp := hI.2.2
      clear hv hI
      subst hG
      simp -implicitDefEqProofs only [go_sem, reduceEqDiff, reduceAdd, reduceLeDiff, reduceLT, reduceMul, reduceEq, Int.reduceLT, reduceLE, Int.reduceAdd, reduceSub, reduceToNat, UInt8.reduceToNat, h0, h1, h12, h13]
      refine cnd_intro (fun h => ?_) (fun h => ?_)
      · simp only [decide_eq_true_eq] at h
        obtain ⟨x, hx⟩ := get_some (l := a) (i := i) (by omega)
        obtain ⟨y, hy⟩ := get_some (l := b) (i := i) (by omega)
        have ht := take_eq_succ hx hy
        have hn := fun cx cy => eqSvc_calls_ne cx cy x y
        obtain ⟨xname, xpath, xauto, xon⟩ := x
        obtain ⟨yname, ypath, yauto, yon⟩ := y
        simp only [encSvc] at hn
        simp -implicitDefEqProofs only [go_sem, reduceEqDiff, reduceAdd, reduceLeDiff, reduceLT, reduceMul, reduceEq, Int.reduceLT, reduceLE, Int.reduceAdd, reduceSub, reduceToNat, UInt8.reduceToNat, h0, h1, h12, h13, hx, hy, encSvc, hn]
        refine cnd_intro (fun g => ?_) (fun g => ?_)
        · simp -implicitDefEqProofs only [go_sem, reduceEqDiff, reduceAdd, reduceLeDiff, reduceLT, reduceMul, reduceEq, Int.reduceLT, reduceLE, Int.reduceAdd, reduceSub, reduceToNat, UInt8.reduceToNat]
          refine Done.now ⟨?_, rfl⟩
          have : ¬ a = b := fun e => by subst e; rw [hx] at hy; cases hy; simp at g
          simp [this]
        · simp -implicitDefEqProofs (disch := omega) only [go_sem, reduceEqDiff, reduceAdd, reduceLeDiff, reduceLT, reduceMul, reduceEq, Int.reduceLT, reduceLE, Int.reduceAdd, reduceSub, reduceToNat, UInt8.reduceToNat, Go.IntWalk.i64_in, h0, h1, h12, h13]
          simp only [decide_eq_false_iff_not, Decidable.not_not] at g
          exact Again.mk (i + 1) (by simp -implicitDefEqProofs only [go_sem, reduceEqDiff, reduceAdd, reduceLeDiff, reduceLT, reduceMul, reduceEq, Int.reduceLT, reduceLE, Int.reduceAdd, reduceSub, reduceToNat, UInt8.reduceToNat, h0, h1, h12, h13]; exact rfl) ⟨rfl, by omega, ht.2 ⟨hp, g⟩⟩ (by omega)
      · simp only [decide_eq_false_iff_not] at h
        have e : i = a.length := by omega
        rw [e, List.take_length, hl, List.take_length] at hp
        simp -implicitDefEqProofs only [go_sem, reduceEqDiff, reduceAdd, reduceLeDiff, reduceLT, reduceMul, reduceEq, Int.reduceLT, reduceLE, Int.reduceAdd, reduceSub, reduceToNat, UInt8.reduceToNat]
        exact Done.now ⟨by simp [hp], rfl⟩

def sEqL {α : Type} [DecidableEq α] (dec : List AV → Option α) : List AV → Option AV := fn2 (Rd.list dec) (Rd.list dec) fun a b => if a.length ≤ 1099511627776 then some (.bool (decide (a = b))) else none
theorem sEqL_ok {α : Type} [DecidableEq α] {dec : List AV → Option α} {enc : α → List AV} (hd : ∀ c a, dec c = some a → c = enc a) {P : Program} {f : FuncId}
    (h : ∀ (a b : List α) (t t' : Tail) (H : Heap), a.length ≤ 1099511627776 → ACalls P f [.sl (a.map enc) t, .sl (b.map enc) t'] H fun x H' => x = .bool (decide (a = b)) ∧ H' = H) : ∀ xs v, sEqL dec xs = some v → ∀ H, ACalls P f xs H fun x H' => x = v ∧ H' = H := by
  intro xs v hv H
  obtain ⟨x, y, p, q, rfl, h1, h2, h3⟩ := fn2_some hv
  split at h3
  · rename_i hl
    cases h3
    obtain ⟨t, rfl⟩ := Rd.list_some (enc := enc) hd h1
    obtain ⟨t', rfl⟩ := Rd.list_some (enc := enc) hd h2
    exact h p q t t' H hl
  · cases h3
theorem sEqL_eq {α : Type} [DecidableEq α] {dec : List AV → Option α} {enc : α → List AV} (he : ∀ a, dec (enc a) = some a) (a b : List α) (t t' : Tail) (h : a.length ≤ 1099511627776) : sEqL dec [.sl (a.map enc) t, .sl (b.map enc) t'] = some (.bool (decide (a = b))) := by
  unfold sEqL
  rw [fn2_eq, Rd.list_eq he, Rd.list_eq he]
  simp only [Option.bind_some, if_pos h]
noncomputable def puM9 : Pures := putP 58 (sEqL decSvc) (putP 57 (sEqL decFile) (putP 10 (sEqL decSet) pu0))
theorem puM9_dyn : isDyn puM9 = false := by simp only [puM9, go_sem, Nat.reduceEqDiff]
attribute [go_sem] puM9_dyn
theorem puM9_ok : PuOK Tryz.prog puM9 := .put (.put (.put (pu0_ok) (sEqL_ok (fun _ _ => decSet_some) eqSet_calls)) (sEqL_ok (fun _ _ => decFile_some) eqFile_calls)) (sEqL_ok (fun _ _ => decSvc_some) eqSvc_calls)
set_option maxHeartbeats 1600000 in
theorem rSame_calls (m n : MacV) (a b c d a' b' c' d' : Tail) (H : Heap) (hr : macR m) : ACalls Tryz.prog 13 [.agg (encMac m a b c d), .agg (encMac n a' b' c' d')] H fun x H' => x = .bool (decide (m = n)) ∧ H' = H := by
  obtain ⟨⟨l1, l2, l3, l4⟩, _⟩ := hr
  have hS := Heap.Sub.rfl' H
  have q1 := sEqL_eq decSet_enc m.facts n.facts a a' l1
  have q2 := sEqL_eq decFile_enc m.files n.files b b' l2
  have q3 := sEqL_eq decSet_enc m.sets n.sets c c' l3
  have q4 := sEqL_eq decSvc_enc m.svcs n.svcs d d' l4
  have hd : decide (m = n) = (decide (m.facts = n.facts) && (decide (m.files = n.files) && (decide (m.sets = n.sets) && decide (m.svcs = n.svcs)))) := by
    obtain ⟨x1, x2, x3, x4⟩ := m
    obtain ⟨y1, y2, y3, y4⟩ := n
    rw [Bool.eq_iff_iff]
    simp
  rw [hd]
  clear hd
  generalize decide (m.facts = n.facts) = e1 at *
  generalize decide (m.files = n.files) = e2 at *
  generalize decide (m.sets = n.sets) = e3 at *
  generalize decide (m.svcs = n.svcs) = e4 at *
  refine ACalls.of_code (X := { pure := puM9 }) puM9_ok Tryz.func13 (by kernel_rfl) rfl (by kernel_rfl) (Nat.le_of_ble_eq_true rfl) ?_
  simp -implicitDefEqProofs only [go_sem, reduceEqDiff, reduceAdd, reduceLeDiff, reduceLT, reduceMul, reduceEq, Int.reduceLT, reduceLE, Int.reduceAdd, reduceSub, reduceToNat, UInt8.reduceToNat, Tryz.f13, encMac]
  with_reducible refine nwC_intro fun i2 hi2 => ?_
  generalize E2 : Heap.put H i2 _ = G2
  have hO_2 := obj_new E2 hi2 hS
  have n2 := hO_2.1
  have hS := hO_2.2.1
  have g2 := hO_2.2.2.1
  clear hO_2
  simp -implicitDefEqProofs only [go_sem, reduceEqDiff, reduceAdd, reduceLeDiff, reduceLT, reduceMul, reduceEq, Int.reduceLT, reduceLE, Int.reduceAdd, reduceSub, reduceToNat, UInt8.reduceToNat]
  with_reducible refine nwC_intro fun i3 hi3 => ?_
  generalize E3 : Heap.put G2 i3 _ = G3
  have hO_3 := obj_new E3 hi3 hS
  have n3 := hO_3.1
  have hS := hO_3.2.1
  have g3 := hO_3.2.2.1
  have d2_3 := obj_ne g2 hi3
  have g2 := hO_3.2.2.2 _ _ g2
  clear hO_3
  cases e1 <;> cases e2 <;> cases e3 <;> cases e4
  all_goals
    simp -implicitDefEqProofs only [go_sem, reduceEqDiff, reduceAdd, reduceLeDiff, reduceLT, reduceMul, reduceEq, Int.reduceLT, reduceLE, Int.reduceAdd, reduceSub, reduceToNat, UInt8.reduceToNat, g2, g3, puM9, pu0, q1, q2, q3, q4]
    exact Done.drop hS ⟨rfl, rfl⟩
end Go.Proofs

/- Sorting by insertion, and leaving out what is there twice: plain Lean, no program. -/
namespace Go.Proofs
open Go Go.Abs
set_option linter.unusedSimpArgs false
set_option linter.unusedVariables false
theorem cmp_lt : ∀ (a b : Bytes), Lib.compareBytes a b < 0 ↔ strLt a b = true
  | [], [] => by simp [Lib.compareBytes, lt_irr]
  | [], b :: s => by
    rw [lt_lex, decide_eq_true_eq]
    simp only [Lib.compareBytes]
    exact ⟨fun _ => List.Lex.nil, fun _ => by decide⟩
  | a :: r, [] => by
    rw [lt_lex, decide_eq_true_eq]
    simp only [Lib.compareBytes]
    exact ⟨fun h => absurd h (by decide), fun h => by cases h⟩
  | a :: r, b :: s => by
    have ih := cmp_lt r s
    rw [lt_lex, decide_eq_true_eq] at ih ⊢
    simp only [Lib.compareBytes]
    by_cases h1 : a < b
    · rw [if_pos h1]
      exact ⟨fun _ => List.Lex.rel h1, fun _ => by decide⟩
    rw [if_neg h1]
    by_cases h2 : b < a
    · rw [if_pos h2]
      refine ⟨fun h => absurd h (by decide), fun h => ?_⟩
      cases h with
      | rel h => exact absurd h h1
      | cons h => exact absurd h2 h1
    · rw [if_neg h2]
      have e : a = b := UInt8.le_antisymm (UInt8.not_lt.1 h2) (UInt8.not_lt.1 h1)
      subst e
      rw [ih]
      exact ⟨fun h => List.Lex.cons h, fun h => by
        cases h with
        | rel h => exact absurd h h1
        | cons h => exact h⟩
section
variable {α : Type} (key : α → Bytes)
/-- No greater. -/
def LeK (a b : α) : Prop := strLt (key b) (key a) = false
variable {key}
theorem LeK.refl (a : α) : LeK key a a := lt_irr _
theorem LeK.of_lt {a b : α} (h : strLt (key a) (key b) = true) : LeK key a b := by
  unfold LeK
  cases hh : strLt (key b) (key a) with
  | false => rfl
  | true => have := lt_tr h hh; rw [lt_irr] at this; cases this
theorem LeK.lt_or {a b : α} (h : LeK key a b) : strLt (key a) (key b) = true ∨ key a = key b := by
  rcases lt_tri (key a) (key b) with t | t | t
  · exact .inl t
  · exact .inr t
  · unfold LeK at h; rw [h] at t; cases t
theorem LeK.of_eq {a b : α} (h : key a = key b) : LeK key a b := by unfold LeK; rw [h]; exact lt_irr _
theorem LeK.trans {a b c : α} (h1 : LeK key a b) (h2 : LeK key b c) : LeK key a c := by
  rcases h1.lt_or with t | t
  · rcases h2.lt_or with u | u
    · exact LeK.of_lt (lt_tr t u)
    · exact LeK.of_lt (u ▸ t)
  · rcases h2.lt_or with u | u
    · exact LeK.of_lt (t ▸ u)
    · exact LeK.of_eq (t.trans u)
theorem LeK.lt_of_lt {a b c : α} (h1 : LeK key a b) (h2 : strLt (key b) (key c) = true) : strLt (key a) (key c) = true := by
  rcases h1.lt_or with t | t
  · exact lt_tr t h2
  · exact t ▸ h2
/-- In order up to a place. -/
def SortTo (key : α → Bytes) (l : List α) (n : Nat) : Prop := ∀ a b x y, a < b → b < n → l[a]? = some x → l[b]? = some y → LeK key x y
/-- In order up to a place, but for the thing at j, which is no greater than those behind it. -/
def SortBut (key : α → Bytes) (l : List α) (n j : Nat) : Prop := ∀ a b x y, a < b → b < n → ¬ b = j → l[a]? = some x → l[b]? = some y → LeK key x y
theorem SortTo.but {l : List α} {n : Nat} (h : SortTo key l n) : SortBut key l (n + 1) n := fun a b x y h1 h2 h3 h4 h5 => h a b x y h1 (by omega) h4 h5
theorem SortBut.stop0 {l : List α} {n : Nat} (h : SortBut key l n 0) : SortTo key l n := fun a b x y h1 h2 h4 h5 => h a b x y h1 h2 (by omega) h4 h5
theorem SortBut.stop {l : List α} {n j : Nat} {u v : α} (h : SortBut key l n j) (hj : 0 < j) (hu : l[j - 1]? = some u) (hv : l[j]? = some v) (hle : LeK key u v) : SortTo key l n := fun a b x y h1 h2 h4 h5 => by
  by_cases e : b = j
  · subst e
    rw [hv] at h5; cases h5
    by_cases e2 : a = b - 1
    · subst e2; rw [hu] at h4; cases h4; exact hle
    · exact (h a (b - 1) x u (by omega) (by omega) (by omega) h4 hu).trans hle
  · exact h a b x y h1 h2 e h4 h5
def swapL (l : List α) (i j : Nat) (u v : α) : List α := (l.set i v).set j u
theorem swapL_get {l : List α} {j : Nat} {u v : α} (hj : 0 < j) (hlt : j < l.length) (a : Nat) : (swapL l j (j - 1) v u)[a]? = if a = j then some u else if a = j - 1 then some v else l[a]? := by
  unfold swapL
  rw [List.getElem?_set, List.getElem?_set]
  by_cases e : j - 1 = a
  · subst e
    rw [if_pos rfl, if_pos (by rw [List.length_set]; omega), if_neg (by omega), if_pos rfl]
  · rw [if_neg e]
    by_cases e2 : j = a
    · subst e2
      rw [if_pos rfl, if_pos rfl, if_pos hlt]
    · rw [if_neg e2, if_neg (fun h => e2 h.symm), if_neg (fun h => e h.symm)]
theorem swap_perm {l : List α} {j : Nat} {u v : α} (hj : 0 < j) (hu : l[j - 1]? = some u) (hv : l[j]? = some v) : (swapL l j (j - 1) v u).Perm l := by
  have h1 : j < l.length := (List.getElem?_eq_some_iff.1 hv).1
  obtain ⟨k, rfl⟩ : ∃ k, j = k + 1 := ⟨j - 1, by omega⟩
  simp only [Nat.add_sub_cancel] at hu ⊢
  have e1 : l = l.take k ++ u :: v :: l.drop (k + 2) := by
    conv => lhs; rw [← List.take_append_drop k l, drop_at hu, drop_at hv]
  have e2 : swapL l (k + 1) k v u = l.take k ++ v :: u :: l.drop (k + 2) := by
    unfold swapL
    refine List.ext_getElem? fun a => ?_
    have hk : (l.take k).length = k := by rw [List.length_take]; omega
    by_cases ha : a < k
    · rw [List.getElem?_set_ne (by omega), List.getElem?_set_ne (by omega), List.getElem?_append_left (by omega), List.getElem?_take, if_pos ha]
    · rw [List.getElem?_append_right (by omega), hk]
      by_cases e : a = k
      · subst e
        rw [List.getElem?_set_self (by rw [List.length_set]; omega)]; simp
      by_cases e2 : a = k + 1
      · subst e2
        rw [List.getElem?_set_ne (by omega), List.getElem?_set_self h1]
        simp
      · rw [List.getElem?_set_ne (by omega), List.getElem?_set_ne (by omega)]
        obtain ⟨t, rfl⟩ : ∃ t, a = k + 2 + t := ⟨a - (k + 2), by omega⟩
        rw [show k + 2 + t - k = t + 2 by omega, List.getElem?_cons_succ, List.getElem?_cons_succ, List.getElem?_drop]
  rw [e2]
  conv => rhs; rw [e1]
  exact List.Perm.append_left _ (List.Perm.swap u v _)
theorem SortBut.swap {l : List α} {n j : Nat} {u v : α} (h : SortBut key l n j) (hj : 0 < j) (hn : j < n) (hu : l[j - 1]? = some u) (hv : l[j]? = some v) (hlt : strLt (key v) (key u) = true) : SortBut key (swapL l j (j - 1) v u) n (j - 1) := fun a b x y h1 h2 h3 h4 h5 => by
  have hlen : j < l.length := (List.getElem?_eq_some_iff.1 hv).1
  rw [swapL_get hj hlen] at h4 h5
  by_cases eb : b = j
  · rw [if_pos eb] at h5
    cases h5
    rw [if_neg (by omega)] at h4
    by_cases ea : a = j - 1
    · rw [if_pos ea] at h4
      cases h4
      exact LeK.of_lt hlt
    · rw [if_neg ea] at h4
      exact h a (j - 1) x u (by omega) (by omega) (by omega) h4 hu
  · rw [if_neg eb, if_neg h3] at h5
    by_cases ea : a = j
    · rw [if_pos ea] at h4
      cases h4
      exact h (j - 1) b u y (by omega) h2 eb hu h5
    rw [if_neg ea] at h4
    by_cases ea2 : a = j - 1
    · rw [if_pos ea2] at h4
      cases h4
      exact h j b v y (by omega) h2 eb hv h5
    · rw [if_neg ea2] at h4
      exact h a b x y h1 h2 eb h4 h5
/-- A list that rises, by places. -/
theorem asc_snoc {l : List α} {x : α} (h : Asc key l) (hx : ∀ y ∈ l, strLt (key y) (key x) = true) : Asc key (l ++ [x]) := by
  unfold Asc
  rw [List.pairwise_append]
  exact ⟨h, by simp, fun a ha b hb => by rw [List.mem_singleton.1 hb]; exact hx a ha⟩
end
/-! ### Cells of a list of rows -/
section
variable {α : Type} {enc : α → List AV} {k : Nat}
theorem flatU_len (hu : ∀ a, (enc a).length = k) (l : List α) : (l.map enc).flatten.length = l.length * k := by
  rw [flatten_len (k := k) (fun c hc => by obtain ⟨a, -, rfl⟩ := List.mem_map.1 hc; exact hu a), List.length_map]
theorem flatU_get (hu : ∀ a, (enc a).length = k) : ∀ {l : List α} {j : Nat} {p : α}, l[j]? = some p → ((l.map enc).flatten.drop (j * k)).take k = enc p
  | [], j, p, h => by simp at h
  | x :: l, 0, p, h => by
    simp at h; subst h
    simp only [List.map_cons, List.flatten_cons, Nat.zero_mul, List.drop_zero]
    rw [List.take_append_of_le_length (by rw [hu]; exact Nat.le_refl _), List.take_of_length_le (by rw [hu]; exact Nat.le_refl _)]
  | x :: l, j + 1, p, h => by
    rw [List.map_cons, List.flatten_cons, Nat.succ_mul, Nat.add_comm, List.drop_append, hu, List.drop_of_length_le (by rw [hu]; omega), List.nil_append, Nat.add_sub_cancel_left]
    exact flatU_get hu (by simpa using h)
theorem flatU_set (hu : ∀ a, (enc a).length = k) : ∀ {l : List α} {j : Nat} (q : α), j < l.length → (l.map enc).flatten.take (j * k) ++ enc q ++ (l.map enc).flatten.drop (j * k + k) = ((l.set j q).map enc).flatten
  | [], j, q, h => by simp at h
  | x :: l, 0, q, h => by
    simp only [List.map_cons, List.flatten_cons, Nat.zero_mul, List.take_zero, List.nil_append, Nat.zero_add, List.set_cons_zero]
    rw [List.drop_append, hu, List.drop_of_length_le (by rw [hu]; omega), List.nil_append, Nat.sub_self, List.drop_zero]
  | x :: l, j + 1, q, h => by
    rw [List.map_cons, List.flatten_cons, List.set_cons_succ, List.map_cons, List.flatten_cons, ← flatU_set hu (l := l) (j := j) q (by simpa using h)]
    rw [List.take_append, hu, List.drop_append, hu, List.take_of_length_le (by rw [hu, Nat.succ_mul]; omega), List.drop_of_length_le (by rw [hu, Nat.succ_mul]; omega), List.nil_append]
    rw [show (j + 1) * k - k = j * k by rw [Nat.succ_mul]; omega, show (j + 1) * k + k - k = j * k + k by rw [Nat.succ_mul]; omega]
    simp only [List.append_assoc]
theorem flatU_write (hu : ∀ a, (enc a).length = k) {l : List α} {j : Nat} (q : α) (h : j < l.length) : writeC (l.map enc).flatten (j * k) (enc q) = ((l.set j q).map enc).flatten := by
  rw [← flatU_set hu q h]
  unfold writeC
  have hl := flatU_len hu l
  have hk := hu q
  have h2 : j * k + k ≤ l.length * k := by
    have := Nat.mul_le_mul_right k (show j + 1 ≤ l.length by omega)
    rw [Nat.succ_mul] at this; exact this
  split
  · rename_i v hv
    have hk2 := hk
    rw [hv] at hk2
    have hk1 : k = 1 := by simpa using hk2.symm
    subst hk1
    rw [List.set_eq_take_append_cons_drop, if_pos (by omega), hv]
    simp
  · rw [hk]
end
end Go.Proofs

/- Walks: keys of things; strings compared. -/
namespace Go.Proofs
open Go Go.Abs
open Nat (reduceEqDiff reduceAdd reduceLeDiff reduceLT reduceMul)
open Int (reduceEq reduceLE reduceSub reduceToNat)
set_option linter.unusedSimpArgs false
set_option linter.unusedVariables false
set_option maxRecDepth 20000
theorem cmp_gt : ∀ (a b : Bytes), 0 < Lib.compareBytes a b ↔ strLt b a = true
  | [], [] => by simp [Lib.compareBytes, lt_irr]
  | [], b :: s => by
    rw [lt_lex, decide_eq_true_eq]
    simp only [Lib.compareBytes]
    exact ⟨fun h => absurd h (by decide), fun h => by cases h⟩
  | a :: r, [] => by
    rw [lt_lex, decide_eq_true_eq]
    simp only [Lib.compareBytes]
    exact ⟨fun _ => List.Lex.nil, fun _ => by decide⟩
  | a :: r, b :: s => by
    have ih := cmp_gt r s
    rw [lt_lex, decide_eq_true_eq] at ih ⊢
    simp only [Lib.compareBytes]
    by_cases h1 : a < b
    · rw [if_pos h1]
      refine ⟨fun h => absurd h (by decide), fun h => ?_⟩
      cases h with
      | rel h => exact absurd h1 (UInt8.not_lt.2 (UInt8.le_of_lt h))
      | cons h => exact absurd h1 (UInt8.lt_irrefl _)
    rw [if_neg h1]
    by_cases h2 : b < a
    · rw [if_pos h2]
      exact ⟨fun _ => List.Lex.rel h2, fun _ => by decide⟩
    · rw [if_neg h2]
      have e : a = b := UInt8.le_antisymm (UInt8.not_lt.1 h2) (UInt8.not_lt.1 h1)
      subst e
      rw [ih]
      exact ⟨fun h => List.Lex.cons h, fun h => by
        cases h with
        | rel h => exact absurd h h1
        | cons h => exact h⟩
theorem pathOf_calls (a : FileV) (H : Heap) : ACalls Tryz.prog 83 [.agg (encFile a)] H fun x H' => x = .str a.path ∧ H' = H := by
  refine ACalls.of_code (X := { pure := pu0 }) pu0_ok Tryz.func83 (by kernel_rfl) rfl (by kernel_rfl) (Nat.le_of_ble_eq_true rfl) ?_
  simp -implicitDefEqProofs only [go_sem, reduceEqDiff, reduceAdd, reduceLeDiff, reduceLT, reduceMul, reduceEq, Int.reduceLT, reduceLE, Int.reduceAdd, reduceSub, reduceToNat, UInt8.reduceToNat, Tryz.f83, encFile]
  with_reducible refine nwC_intro fun i1 h1 => ?_
  simp -implicitDefEqProofs only [go_sem, reduceEqDiff, reduceAdd, reduceLeDiff, reduceLT, reduceMul, reduceEq, Int.reduceLT, reduceLE, Int.reduceAdd, reduceSub, reduceToNat, UInt8.reduceToNat]
  exact Done.drop1 h1 ⟨rfl, rfl⟩
def sPathO : List AV → Option AV := fn1 (Rd.agg decFile) fun s => some (.str s.path)
theorem sPathO_ok {P : Program} {f : FuncId} (h : ∀ a H, ACalls P f [.agg (encFile a)] H fun x H' => x = .str a.path ∧ H' = H) : ∀ xs v, sPathO xs = some v → ∀ H, ACalls P f xs H fun x H' => x = v ∧ H' = H := by
  intro xs v hv H
  obtain ⟨x, s, rfl, h1, h2⟩ := fn1_some hv
  cases h2; cases Rd.agg_some (fun _ _ => decFile_some) h1; exact h s H
noncomputable def puSd : Pures := putP 999999999 sNone (putP 83 sPathO (putP 68 sKeyO (putP 76 sNameO (putP 46 sCmpS pu0))))
theorem puSd_dyn : isDyn puSd = true := by simp only [puSd, go_sem, Nat.reduceEqDiff]
attribute [go_sem] puSd_dyn
theorem puSd_ok : PuOK Tryz.prog puSd := .put (.put (.put (.put (.put (pu0_ok) (sCmpS_ok strCompare_calls)) (sNameO_ok nameOf_calls)) (sKeyO_ok keyOf_calls)) (sPathO_ok pathOf_calls)) dyn_ok
end Go.Proofs

/- Walks: two lists side by side. -/
namespace Go.Proofs
open Go Go.Abs
open Nat (reduceEqDiff reduceAdd reduceLeDiff reduceLT reduceMul)
open Int (reduceEq reduceLE reduceSub reduceToNat)
set_option linter.unusedSimpArgs false
set_option linter.unusedVariables false
set_option maxRecDepth 20000
section
variable {α : Type} [DecidableEq α] {key : α → Bytes}
theorem sidesV_r (a : List α) : sidesV key a [] = (a, []) := by cases a <;> rw [sidesV]
theorem sidesV_l (b : List α) : sidesV key [] b = ([], b) := by rw [sidesV]
theorem sidesV_c (x y : α) (a b : List α) : sidesV key (x :: a) (y :: b) = if strLt (key x) (key y) = true then (x :: (sidesV key a (y :: b)).1, (sidesV key a (y :: b)).2)
    else if strLt (key y) (key x) = true then ((sidesV key (x :: a) b).1, y :: (sidesV key (x :: a) b).2)
    else ((sidesV key a b).1, if x ≠ y then y :: (sidesV key a b).2 else (sidesV key a b).2) := by rw [sidesV]
/-- What was done of the walk. -/
def SdOK (key : α → Bytes) (a b : List α) (i k : Nat) (g c : List α) : Prop := sidesV key a b = (g ++ (sidesV key (a.drop i) (b.drop k)).1, c ++ (sidesV key (a.drop i) (b.drop k)).2)
end
set_option maxHeartbeats 6400000 in
theorem sidesF_calls (a b : List FileV) (ta tb : Tail) (H : Heap) (hla : a.length ≤ 1000000) (hlb : b.length ≤ 1000000) :
    ACalls Tryz.prog 100 [.sl (a.map encFile) ta, .sl (b.map encFile) tb, .func 83 []] H fun x H' => x = .tup [.sl ((sidesV (·.path) a b).1.map encFile) .unk, .sl ((sidesV (·.path) a b).2.map encFile) .unk] ∧ H' = H := by
  have hu : ∀ x : FileV, (encFile x).length = 3 := fun _ => rfl
  refine ACalls.of_code (X := { pure := puSd }) puSd_ok Tryz.func100 (by kernel_rfl) rfl (by kernel_rfl) (Nat.le_of_ble_eq_true rfl) ?_
  simp -implicitDefEqProofs only [go_sem, reduceEqDiff, reduceAdd, reduceLeDiff, reduceLT, reduceMul, reduceEq, Int.reduceLT, reduceLE, Int.reduceAdd, reduceSub, reduceToNat, UInt8.reduceToNat, Tryz.f100]
  refine aloop_intro (σ := Nat × Nat × List FileV × List FileV × Tail × Tail) (fun s => [(0, .sl (a.map encFile) ta), (1, .sl (b.map encFile) tb), (2, .func 83 []), (6, .sl (s.2.2.1.map encFile) s.2.2.2.2.1), (7, .sl (s.2.2.2.1.map encFile) s.2.2.2.2.2), (8, .int .i64 s.1), (9, .int .i64 s.2.1)])
    (fun s G => s.1 ≤ a.length ∧ s.2.1 ≤ b.length ∧ s.2.2.1.length ≤ s.1 + s.2.1 ∧ s.2.2.2.1.length ≤ s.1 + s.2.1 ∧ SdOK (·.path) a b s.1 s.2.1 s.2.2.1 s.2.2.2.1 ∧ AppG H G 3 (s.2.2.1.map encFile) s.2.2.2.2.1 ∧ AppG H G 3 (s.2.2.2.1.map encFile) s.2.2.2.2.2 ∧ tokNe s.2.2.2.2.1 s.2.2.2.2.2)
    (fun s => a.length + b.length - s.1 - s.2.1) (0, 0, [], [], .exact, .exact) ?_ ?_ ?_
  · simp -implicitDefEqProofs only [go_sem, reduceEqDiff, reduceAdd, reduceLeDiff, reduceLT, reduceMul, reduceEq, Int.reduceLT, reduceLE, Int.reduceAdd, reduceSub, reduceToNat, UInt8.reduceToNat, List.map_nil]
  · exact ⟨Nat.zero_le _, Nat.zero_le _, Nat.le_refl _, Nat.le_refl _, by simp [SdOK], AppG.new (Heap.Sub.rfl' H) _, AppG.new (Heap.Sub.rfl' H) _, tokNe_exact _⟩
  rintro ⟨i, k, g, c, t1, t2⟩ r G hv ⟨hi, hk, hgl, hcl, hS, hA, hC, hne⟩
  simp only at hi hk hgl hcl hS hA hC hne
  have e0 := hv.1
  have e1 := hv.2.1
  have e2 := hv.2.2.1
  have e6 := hv.2.2.2.1
  have e7 := hv.2.2.2.2.1
  have e8 := hv.2.2.2.2.2.1
  have e9 := hv.2.2.2.2.2.2.1
  simp only at e6 e7 e8 e9
  clear hv
  have wi : IntKind.i64.wrap ((i : Int) + 1) = ((i + 1 : Nat) : Int) := by rw [Go.IntWalk.i64_in _ (by omega)]; omega
  have wk : IntKind.i64.wrap ((k : Int) + 1) = ((k + 1 : Nat) : Int) := by rw [Go.IntWalk.i64_in _ (by omega)]; omega
  have htt : ∀ x : FileV, (encFile x).take 3 = encFile x := fun _ => rfl
  have m1 : decide ((-1 : Int) < 0) = true := rfl
  have m2 : decide ((1 : Int) < 0) = false := rfl
  have m3 : decide ((0 : Int) < 1) = true := rfl
  have hUa : ∀ x ∈ a, (encFile x).length = 3 := fun x _ => rfl
  have hUb : ∀ x ∈ b, (encFile x).length = 3 := fun x _ => rfl
  have cla : ((a.map encFile).length : Int) = a.length := by simp
  by_cases ci : i < a.length
  · have y1 : decide ((i : Int) < a.length) = true := decide_eq_true (by omega)
    obtain ⟨x, hx⟩ : ∃ x, a[i]? = some x := getD_get' ci
    by_cases ck : k < b.length
    rotate_left
    · have y2 : decide ((k : Int) = b.length) = true := decide_eq_true (by omega)
      have hS2 : SdOK (·.path) a b (i + 1) k (g ++ [x]) c := by
        have hd : b.drop k = [] := List.drop_of_length_le (by omega)
        unfold SdOK at hS ⊢
        rw [hS, hd, sidesV_r, sidesV_r, drop_at hx]
        simp
      simp -implicitDefEqProofs only [go_sem, reduceEqDiff, reduceAdd, reduceLeDiff, reduceLT, reduceMul, reduceEq, Int.reduceLT, reduceLE, Int.reduceAdd, reduceSub, reduceToNat, UInt8.reduceToNat, e0, e1, e2, e6, e7, e8, e9, y1, y2, m1, hx, hu, htt, forall_const, implies_true, true_and, wi]
      refine AppG.step2 hA (fun z hz => by obtain ⟨q, -, rfl⟩ := List.mem_map.1 hz; rfl) (by simp) (by simp; omega) (by simp; omega) (fun t' G' hA' hG => ?_)
      have hnew : g.map encFile ++ [encFile x] = (g ++ [x]).map encFile := by simp
      rw [hnew] at hA' ⊢
      have ho := hG.other hA'.1 hC hne.symm
      simp -implicitDefEqProofs only [go_sem, reduceEqDiff, reduceAdd, reduceLeDiff, reduceLT, reduceMul, reduceEq, Int.reduceLT, reduceLE, Int.reduceAdd, reduceSub, reduceToNat, UInt8.reduceToNat, e0, e1, e2, e6, e7, e8, e9, wi]
      exact Again.mk (i + 1, k, g ++ [x], c, t', t2) (by simp -implicitDefEqProofs only [go_sem, reduceEqDiff, reduceAdd, reduceLeDiff, reduceLT, reduceMul, reduceEq, Int.reduceLT, reduceLE, Int.reduceAdd, reduceSub, reduceToNat, UInt8.reduceToNat, e0, e1, e2, e6, e7, e8, e9]) ⟨by simp only; omega, hk, by simp; omega, by simp only; omega, hS2, hA', ho.1, ho.2.symm⟩ (by simp only; omega)
    have y2 : decide ((k : Int) = b.length) = false := decide_eq_false (by omega)
    have y3 : decide ((i : Int) = a.length) = false := decide_eq_false (by omega)
    obtain ⟨y, hy⟩ : ∃ x, b[k]? = some x := getD_get' ck
    have hc1 := cmp_lt x.path y.path
    have hc2 := cmp_gt x.path y.path
    have q1 : sPathO [.agg (encFile x)] = some (.str x.path) := rfl
    have q2 : sPathO [.agg (encFile y)] = some (.str y.path) := rfl
    have q3 := sCmpS_eq x.path y.path
    by_cases c1 : Lib.compareBytes x.path y.path < 0
    · have y4 : decide (Lib.compareBytes x.path y.path < 0) = true := decide_eq_true c1
      have hS2 : SdOK (·.path) a b (i + 1) k (g ++ [x]) c := by
        unfold SdOK at hS ⊢
        rw [hS, drop_at hx, drop_at hy, sidesV_c, if_pos (hc1.1 c1), ← drop_at hy]
        simp
      simp -implicitDefEqProofs only [go_sem, reduceEqDiff, reduceAdd, reduceLeDiff, reduceLT, reduceMul, reduceEq, Int.reduceLT, reduceLE, Int.reduceAdd, reduceSub, reduceToNat, UInt8.reduceToNat, e0, e1, e2, e6, e7, e8, e9, y1, y2, y3, y4, hx, hy, q1, q2, q3, puSd, hu, htt, forall_const, implies_true, true_and, wi]
      refine AppG.step2 hA (fun z hz => by obtain ⟨q, -, rfl⟩ := List.mem_map.1 hz; rfl) (by simp) (by simp; omega) (by simp; omega) (fun t' G' hA' hG => ?_)
      have hnew : g.map encFile ++ [encFile x] = (g ++ [x]).map encFile := by simp
      rw [hnew] at hA' ⊢
      have ho := hG.other hA'.1 hC hne.symm
      simp -implicitDefEqProofs only [go_sem, reduceEqDiff, reduceAdd, reduceLeDiff, reduceLT, reduceMul, reduceEq, Int.reduceLT, reduceLE, Int.reduceAdd, reduceSub, reduceToNat, UInt8.reduceToNat, e0, e1, e2, e6, e7, e8, e9, wi]
      exact Again.mk (i + 1, k, g ++ [x], c, t', t2) (by simp -implicitDefEqProofs only [go_sem, reduceEqDiff, reduceAdd, reduceLeDiff, reduceLT, reduceMul, reduceEq, Int.reduceLT, reduceLE, Int.reduceAdd, reduceSub, reduceToNat, UInt8.reduceToNat, e0, e1, e2, e6, e7, e8, e9]) ⟨by simp only; omega, hk, by simp; omega, by simp only; omega, hS2, hA', ho.1, ho.2.symm⟩ (by simp only; omega)
    have y4 : decide (Lib.compareBytes x.path y.path < 0) = false := decide_eq_false c1
    by_cases c2 : 0 < Lib.compareBytes x.path y.path
    · have y5 : decide (0 < Lib.compareBytes x.path y.path) = true := decide_eq_true c2
      have hS2 : SdOK (·.path) a b i (k + 1) g (c ++ [y]) := by
        unfold SdOK at hS ⊢
        rw [hS, drop_at hx, drop_at hy, sidesV_c, if_neg (fun h => c1 (hc1.2 h)), if_pos (hc2.1 c2), ← drop_at hx]
        simp
      simp -implicitDefEqProofs only [go_sem, reduceEqDiff, reduceAdd, reduceLeDiff, reduceLT, reduceMul, reduceEq, Int.reduceLT, reduceLE, Int.reduceAdd, reduceSub, reduceToNat, UInt8.reduceToNat, e0, e1, e2, e6, e7, e8, e9, y1, y2, y3, y4, y5, hx, hy, q1, q2, q3, puSd, hu, htt, forall_const, implies_true, true_and, wk]
      refine AppG.step2 hC (fun z hz => by obtain ⟨q, -, rfl⟩ := List.mem_map.1 hz; rfl) (by simp) (by simp; omega) (by simp; omega) (fun t' G' hC' hG => ?_)
      have hnew : c.map encFile ++ [encFile y] = (c ++ [y]).map encFile := by simp
      rw [hnew] at hC' ⊢
      have ho := hG.other hC'.1 hA hne
      simp -implicitDefEqProofs only [go_sem, reduceEqDiff, reduceAdd, reduceLeDiff, reduceLT, reduceMul, reduceEq, Int.reduceLT, reduceLE, Int.reduceAdd, reduceSub, reduceToNat, UInt8.reduceToNat, e0, e1, e2, e6, e7, e8, e9, wk]
      exact Again.mk (i, k + 1, g, c ++ [y], t1, t') (by simp -implicitDefEqProofs only [go_sem, reduceEqDiff, reduceAdd, reduceLeDiff, reduceLT, reduceMul, reduceEq, Int.reduceLT, reduceLE, Int.reduceAdd, reduceSub, reduceToNat, UInt8.reduceToNat, e0, e1, e2, e6, e7, e8, e9]) ⟨hi, by simp only; omega, by simp only; omega, by simp; omega, hS2, ho.1, hC', ho.2⟩ (by simp only; omega)
    have y5 : decide (0 < Lib.compareBytes x.path y.path) = false := decide_eq_false c2
    have hn := fun cx cy => eqFile_calls_ne cx cy x y
    by_cases c3 : x = y
    · have y6 : decide (¬ x = y) = false := decide_eq_false (by simpa using c3)
      have hS2 : SdOK (·.path) a b (i + 1) (k + 1) g c := by
        unfold SdOK at hS ⊢
        rw [hS, drop_at hx, drop_at hy, sidesV_c, if_neg (fun h => c1 (hc1.2 h)), if_neg (fun h => c2 (hc2.2 h)), if_neg (by simpa using c3)]
      simp -implicitDefEqProofs only [go_sem, reduceEqDiff, reduceAdd, reduceLeDiff, reduceLT, reduceMul, reduceEq, Int.reduceLT, reduceLE, Int.reduceAdd, reduceSub, reduceToNat, UInt8.reduceToNat, e0, e1, e2, e6, e7, e8, e9, y1, y2, y3, y4, y5, hx, hy, q1, q2, q3, puSd, hn, y6, hu, htt, forall_const, implies_true, true_and, wi, wk]
      exact Again.mk (i + 1, k + 1, g, c, t1, t2) (by simp -implicitDefEqProofs only [go_sem, reduceEqDiff, reduceAdd, reduceLeDiff, reduceLT, reduceMul, reduceEq, Int.reduceLT, reduceLE, Int.reduceAdd, reduceSub, reduceToNat, UInt8.reduceToNat, e0, e1, e2, e6, e7, e8, e9]) ⟨by simp only; omega, by simp only; omega, by simp only; omega, by simp only; omega, hS2, hA, hC, hne⟩ (by simp only; omega)
    · have y6 : decide (¬ x = y) = true := decide_eq_true c3
      have hS2 : SdOK (·.path) a b (i + 1) (k + 1) g (c ++ [y]) := by
        unfold SdOK at hS ⊢
        rw [hS, drop_at hx, drop_at hy, sidesV_c, if_neg (fun h => c1 (hc1.2 h)), if_neg (fun h => c2 (hc2.2 h)), if_pos c3]
        simp
      simp -implicitDefEqProofs only [go_sem, reduceEqDiff, reduceAdd, reduceLeDiff, reduceLT, reduceMul, reduceEq, Int.reduceLT, reduceLE, Int.reduceAdd, reduceSub, reduceToNat, UInt8.reduceToNat, e0, e1, e2, e6, e7, e8, e9, y1, y2, y3, y4, y5, hx, hy, q1, q2, q3, puSd, hn, y6, hu, htt, forall_const, implies_true, true_and, wi, wk]
      refine AppG.step2 hC (fun z hz => by obtain ⟨q, -, rfl⟩ := List.mem_map.1 hz; rfl) (by simp) (by simp; omega) (by simp; omega) (fun t' G' hC' hG => ?_)
      have hnew : c.map encFile ++ [encFile y] = (c ++ [y]).map encFile := by simp
      rw [hnew] at hC' ⊢
      have ho := hG.other hC'.1 hA hne
      simp -implicitDefEqProofs only [go_sem, reduceEqDiff, reduceAdd, reduceLeDiff, reduceLT, reduceMul, reduceEq, Int.reduceLT, reduceLE, Int.reduceAdd, reduceSub, reduceToNat, UInt8.reduceToNat, e0, e1, e2, e6, e7, e8, e9, wi, wk]
      exact Again.mk (i + 1, k + 1, g, c ++ [y], t1, t') (by simp -implicitDefEqProofs only [go_sem, reduceEqDiff, reduceAdd, reduceLeDiff, reduceLT, reduceMul, reduceEq, Int.reduceLT, reduceLE, Int.reduceAdd, reduceSub, reduceToNat, UInt8.reduceToNat, e0, e1, e2, e6, e7, e8, e9]) ⟨by simp only; omega, by simp only; omega, by simp only; omega, by simp; omega, hS2, ho.1, hC', ho.2⟩ (by simp only; omega)
  · have y1 : decide ((i : Int) < a.length) = false := decide_eq_false (by omega)
    by_cases ck : k < b.length
    rotate_left
    · have y2 : decide ((k : Int) < b.length) = false := decide_eq_false (by omega)
      have hd : sidesV (·.path) a b = (g, c) := by
        unfold SdOK at hS
        rw [hS, List.drop_of_length_le (show a.length ≤ i by omega), List.drop_of_length_le (show b.length ≤ k by omega), sidesV_l]
        simp
      rw [hd]
      simp -implicitDefEqProofs only [go_sem, reduceEqDiff, reduceAdd, reduceLeDiff, reduceLT, reduceMul, reduceEq, Int.reduceLT, reduceLE, Int.reduceAdd, reduceSub, reduceToNat, UInt8.reduceToNat, e0, e1, e2, e6, e7, e8, e9, y1, y2]
      exact Done.wk 2 (Done.drop hA.1 ⟨rfl, rfl⟩)
    have y2 : decide ((k : Int) < b.length) = true := decide_eq_true (by omega)
    have y3 : decide ((k : Int) = b.length) = false := decide_eq_false (by omega)
    have y4 : decide ((i : Int) = a.length) = true := decide_eq_true (by omega)
    obtain ⟨y, hy⟩ : ∃ x, b[k]? = some x := getD_get' ck
    have hS2 : SdOK (·.path) a b i (k + 1) g (c ++ [y]) := by
      have hd : a.drop i = [] := List.drop_of_length_le (by omega)
      unfold SdOK at hS ⊢
      rw [hS, hd, sidesV_l, sidesV_l, drop_at hy]
      simp
    simp -implicitDefEqProofs only [go_sem, reduceEqDiff, reduceAdd, reduceLeDiff, reduceLT, reduceMul, reduceEq, Int.reduceLT, reduceLE, Int.reduceAdd, reduceSub, reduceToNat, UInt8.reduceToNat, e0, e1, e2, e6, e7, e8, e9, y1, y2, y3, y4, m2, m3, hy, hu, htt, forall_const, implies_true, true_and, wk]
    refine AppG.step2 hC (fun z hz => by obtain ⟨q, -, rfl⟩ := List.mem_map.1 hz; rfl) (by simp) (by simp; omega) (by simp; omega) (fun t' G' hC' hG => ?_)
    have hnew : c.map encFile ++ [encFile y] = (c ++ [y]).map encFile := by simp
    rw [hnew] at hC' ⊢
    have ho := hG.other hC'.1 hA hne
    simp -implicitDefEqProofs only [go_sem, reduceEqDiff, reduceAdd, reduceLeDiff, reduceLT, reduceMul, reduceEq, Int.reduceLT, reduceLE, Int.reduceAdd, reduceSub, reduceToNat, UInt8.reduceToNat, e0, e1, e2, e6, e7, e8, e9, wk]
    exact Again.mk (i, k + 1, g, c ++ [y], t1, t') (by simp -implicitDefEqProofs only [go_sem, reduceEqDiff, reduceAdd, reduceLeDiff, reduceLT, reduceMul, reduceEq, Int.reduceLT, reduceLE, Int.reduceAdd, reduceSub, reduceToNat, UInt8.reduceToNat, e0, e1, e2, e6, e7, e8, e9]) ⟨hi, by simp only; omega, by simp only; omega, by simp; omega, hS2, ho.1, hC', ho.2⟩ (by simp only; omega)
set_option maxHeartbeats 6400000 in
theorem sidesS_calls (a b : List SetV) (ta tb : Tail) (H : Heap) (hla : a.length ≤ 1000000) (hlb : b.length ≤ 1000000) :
    ACalls Tryz.prog 101 [.sl (a.map encSet) ta, .sl (b.map encSet) tb, .func 68 []] H fun x H' => x = .tup [.sl ((sidesV (·.key) a b).1.map encSet) .unk, .sl ((sidesV (·.key) a b).2.map encSet) .unk] ∧ H' = H := by
  have hu : ∀ x : SetV, (encSet x).length = 2 := fun _ => rfl
  refine ACalls.of_code (X := { pure := puSd }) puSd_ok Tryz.func101 (by kernel_rfl) rfl (by kernel_rfl) (Nat.le_of_ble_eq_true rfl) ?_
  simp -implicitDefEqProofs only [go_sem, reduceEqDiff, reduceAdd, reduceLeDiff, reduceLT, reduceMul, reduceEq, Int.reduceLT, reduceLE, Int.reduceAdd, reduceSub, reduceToNat, UInt8.reduceToNat, Tryz.f101]
  refine aloop_intro (σ := Nat × Nat × List SetV × List SetV × Tail × Tail) (fun s => [(0, .sl (a.map encSet) ta), (1, .sl (b.map encSet) tb), (2, .func 68 []), (6, .sl (s.2.2.1.map encSet) s.2.2.2.2.1), (7, .sl (s.2.2.2.1.map encSet) s.2.2.2.2.2), (8, .int .i64 s.1), (9, .int .i64 s.2.1)])
    (fun s G => s.1 ≤ a.length ∧ s.2.1 ≤ b.length ∧ s.2.2.1.length ≤ s.1 + s.2.1 ∧ s.2.2.2.1.length ≤ s.1 + s.2.1 ∧ SdOK (·.key) a b s.1 s.2.1 s.2.2.1 s.2.2.2.1 ∧ AppG H G 2 (s.2.2.1.map encSet) s.2.2.2.2.1 ∧ AppG H G 2 (s.2.2.2.1.map encSet) s.2.2.2.2.2 ∧ tokNe s.2.2.2.2.1 s.2.2.2.2.2)
    (fun s => a.length + b.length - s.1 - s.2.1) (0, 0, [], [], .exact, .exact) ?_ ?_ ?_
  · simp -implicitDefEqProofs only [go_sem, reduceEqDiff, reduceAdd, reduceLeDiff, reduceLT, reduceMul, reduceEq, Int.reduceLT, reduceLE, Int.reduceAdd, reduceSub, reduceToNat, UInt8.reduceToNat, List.map_nil]
  · exact ⟨Nat.zero_le _, Nat.zero_le _, Nat.le_refl _, Nat.le_refl _, by simp [SdOK], AppG.new (Heap.Sub.rfl' H) _, AppG.new (Heap.Sub.rfl' H) _, tokNe_exact _⟩
  rintro ⟨i, k, g, c, t1, t2⟩ r G hv ⟨hi, hk, hgl, hcl, hS, hA, hC, hne⟩
  simp only at hi hk hgl hcl hS hA hC hne
  have e0 := hv.1
  have e1 := hv.2.1
  have e2 := hv.2.2.1
  have e6 := hv.2.2.2.1
  have e7 := hv.2.2.2.2.1
  have e8 := hv.2.2.2.2.2.1
  have e9 := hv.2.2.2.2.2.2.1
  simp only at e6 e7 e8 e9
  clear hv
  have wi : IntKind.i64.wrap ((i : Int) + 1) = ((i + 1 : Nat) : Int) := by rw [Go.IntWalk.i64_in _ (by omega)]; omega
  have wk : IntKind.i64.wrap ((k : Int) + 1) = ((k + 1 : Nat) : Int) := by rw [Go.IntWalk.i64_in _ (by omega)]; omega
  have htt : ∀ x : SetV, (encSet x).take 2 = encSet x := fun _ => rfl
  have m1 : decide ((-1 : Int) < 0) = true := rfl
  have m2 : decide ((1 : Int) < 0) = false := rfl
  have m3 : decide ((0 : Int) < 1) = true := rfl
  have hUa : ∀ x ∈ a, (encSet x).length = 2 := fun x _ => rfl
  have hUb : ∀ x ∈ b, (encSet x).length = 2 := fun x _ => rfl
  have cla : ((a.map encSet).length : Int) = a.length := by simp
  by_cases ci : i < a.length
  · have y1 : decide ((i : Int) < a.length) = true := decide_eq_true (by omega)
    obtain ⟨x, hx⟩ : ∃ x, a[i]? = some x := getD_get' ci
    by_cases ck : k < b.length
    rotate_left
    · have y2 : decide ((k : Int) = b.length) = true := decide_eq_true (by omega)
      have hS2 : SdOK (·.key) a b (i + 1) k (g ++ [x]) c := by
        have hd : b.drop k = [] := List.drop_of_length_le (by omega)
        unfold SdOK at hS ⊢
        rw [hS, hd, sidesV_r, sidesV_r, drop_at hx]
        simp
      simp -implicitDefEqProofs only [go_sem, reduceEqDiff, reduceAdd, reduceLeDiff, reduceLT, reduceMul, reduceEq, Int.reduceLT, reduceLE, Int.reduceAdd, reduceSub, reduceToNat, UInt8.reduceToNat, e0, e1, e2, e6, e7, e8, e9, y1, y2, m1, hx, hu, htt, forall_const, implies_true, true_and, wi]
      refine AppG.step2 hA (fun z hz => by obtain ⟨q, -, rfl⟩ := List.mem_map.1 hz; rfl) (by simp) (by simp; omega) (by simp; omega) (fun t' G' hA' hG => ?_)
      have hnew : g.map encSet ++ [encSet x] = (g ++ [x]).map encSet := by simp
      rw [hnew] at hA' ⊢
      have ho := hG.other hA'.1 hC hne.symm
      simp -implicitDefEqProofs only [go_sem, reduceEqDiff, reduceAdd, reduceLeDiff, reduceLT, reduceMul, reduceEq, Int.reduceLT, reduceLE, Int.reduceAdd, reduceSub, reduceToNat, UInt8.reduceToNat, e0, e1, e2, e6, e7, e8, e9, wi]
      exact Again.mk (i + 1, k, g ++ [x], c, t', t2) (by simp -implicitDefEqProofs only [go_sem, reduceEqDiff, reduceAdd, reduceLeDiff, reduceLT, reduceMul, reduceEq, Int.reduceLT, reduceLE, Int.reduceAdd, reduceSub, reduceToNat, UInt8.reduceToNat, e0, e1, e2, e6, e7, e8, e9]) ⟨by simp only; omega, hk, by simp; omega, by simp only; omega, hS2, hA', ho.1, ho.2.symm⟩ (by simp only; omega)
    have y2 : decide ((k : Int) = b.length) = false := decide_eq_false (by omega)
    have y3 : decide ((i : Int) = a.length) = false := decide_eq_false (by omega)
    obtain ⟨y, hy⟩ : ∃ x, b[k]? = some x := getD_get' ck
    have hc1 := cmp_lt x.key y.key
    have hc2 := cmp_gt x.key y.key
    have q1 : sKeyO [.agg (encSet x)] = some (.str x.key) := rfl
    have q2 : sKeyO [.agg (encSet y)] = some (.str y.key) := rfl
    have q3 := sCmpS_eq x.key y.key
    by_cases c1 : Lib.compareBytes x.key y.key < 0
    · have y4 : decide (Lib.compareBytes x.key y.key < 0) = true := decide_eq_true c1
      have hS2 : SdOK (·.key) a b (i + 1) k (g ++ [x]) c := by
        unfold SdOK at hS ⊢
        rw [hS, drop_at hx, drop_at hy, sidesV_c, if_pos (hc1.1 c1), ← drop_at hy]
        simp
      simp -implicitDefEqProofs only [go_sem, reduceEqDiff, reduceAdd, reduceLeDiff, reduceLT, reduceMul, reduceEq, Int.reduceLT, reduceLE, Int.reduceAdd, reduceSub, reduceToNat, UInt8.reduceToNat, e0, e1, e2, e6, e7, e8, e9, y1, y2, y3, y4, hx, hy, q1, q2, q3, puSd, hu, htt, forall_const, implies_true, true_and, wi]
      refine AppG.step2 hA (fun z hz => by obtain ⟨q, -, rfl⟩ := List.mem_map.1 hz; rfl) (by simp) (by simp; omega) (by simp; omega) (fun t' G' hA' hG => ?_)
      have hnew : g.map encSet ++ [encSet x] = (g ++ [x]).map encSet := by simp
      rw [hnew] at hA' ⊢
      have ho := hG.other hA'.1 hC hne.symm
      simp -implicitDefEqProofs only [go_sem, reduceEqDiff, reduceAdd, reduceLeDiff, reduceLT, reduceMul, reduceEq, Int.reduceLT, reduceLE, Int.reduceAdd, reduceSub, reduceToNat, UInt8.reduceToNat, e0, e1, e2, e6, e7, e8, e9, wi]
      exact Again.mk (i + 1, k, g ++ [x], c, t', t2) (by simp -implicitDefEqProofs only [go_sem, reduceEqDiff, reduceAdd, reduceLeDiff, reduceLT, reduceMul, reduceEq, Int.reduceLT, reduceLE, Int.reduceAdd, reduceSub, reduceToNat, UInt8.reduceToNat, e0, e1, e2, e6, e7, e8, e9]) ⟨by simp only; omega, hk, by simp; omega, by simp only; omega, hS2, hA', ho.1, ho.2.symm⟩ (by simp only; omega)
    have y4 : decide (Lib.compareBytes x.key y.key < 0) = false := decide_eq_false c1
    by_cases c2 : 0 < Lib.compareBytes x.key y.key
    · have y5 : decide (0 < Lib.compareBytes x.key y.key) = true := decide_eq_true c2
      have hS2 : SdOK (·.key) a b i (k + 1) g (c ++ [y]) := by
        unfold SdOK at hS ⊢
        rw [hS, drop_at hx, drop_at hy, sidesV_c, if_neg (fun h => c1 (hc1.2 h)), if_pos (hc2.1 c2), ← drop_at hx]
        simp
      simp -implicitDefEqProofs only [go_sem, reduceEqDiff, reduceAdd, reduceLeDiff, reduceLT, reduceMul, reduceEq, Int.reduceLT, reduceLE, Int.reduceAdd, reduceSub, reduceToNat, UInt8.reduceToNat, e0, e1, e2, e6, e7, e8, e9, y1, y2, y3, y4, y5, hx, hy, q1, q2, q3, puSd, hu, htt, forall_const, implies_true, true_and, wk]
      refine AppG.step2 hC (fun z hz => by obtain ⟨q, -, rfl⟩ := List.mem_map.1 hz; rfl) (by simp) (by simp; omega) (by simp; omega) (fun t' G' hC' hG => ?_)
      have hnew : c.map encSet ++ [encSet y] = (c ++ [y]).map encSet := by simp
      rw [hnew] at hC' ⊢
      have ho := hG.other hC'.1 hA hne
      simp -implicitDefEqProofs only [go_sem, reduceEqDiff, reduceAdd, reduceLeDiff, reduceLT, reduceMul, reduceEq, Int.reduceLT, reduceLE, Int.reduceAdd, reduceSub, reduceToNat, UInt8.reduceToNat, e0, e1, e2, e6, e7, e8, e9, wk]
      exact Again.mk (i, k + 1, g, c ++ [y], t1, t') (by simp -implicitDefEqProofs only [go_sem, reduceEqDiff, reduceAdd, reduceLeDiff, reduceLT, reduceMul, reduceEq, Int.reduceLT, reduceLE, Int.reduceAdd, reduceSub, reduceToNat, UInt8.reduceToNat, e0, e1, e2, e6, e7, e8, e9]) ⟨hi, by simp only; omega, by simp only; omega, by simp; omega, hS2, ho.1, hC', ho.2⟩ (by simp only; omega)
    have y5 : decide (0 < Lib.compareBytes x.key y.key) = false := decide_eq_false c2
    have hn := fun cx cy => eqSet_calls_ne cx cy x y
    by_cases c3 : x = y
    · have y6 : decide (¬ x = y) = false := decide_eq_false (by simpa using c3)
      have hS2 : SdOK (·.key) a b (i + 1) (k + 1) g c := by
        unfold SdOK at hS ⊢
        rw [hS, drop_at hx, drop_at hy, sidesV_c, if_neg (fun h => c1 (hc1.2 h)), if_neg (fun h => c2 (hc2.2 h)), if_neg (by simpa using c3)]
      simp -implicitDefEqProofs only [go_sem, reduceEqDiff, reduceAdd, reduceLeDiff, reduceLT, reduceMul, reduceEq, Int.reduceLT, reduceLE, Int.reduceAdd, reduceSub, reduceToNat, UInt8.reduceToNat, e0, e1, e2, e6, e7, e8, e9, y1, y2, y3, y4, y5, hx, hy, q1, q2, q3, puSd, hn, y6, hu, htt, forall_const, implies_true, true_and, wi, wk]
      exact Again.mk (i + 1, k + 1, g, c, t1, t2) (by simp -implicitDefEqProofs only [go_sem, reduceEqDiff, reduceAdd, reduceLeDiff, reduceLT, reduceMul, reduceEq, Int.reduceLT, reduceLE, Int.reduceAdd, reduceSub, reduceToNat, UInt8.reduceToNat, e0, e1, e2, e6, e7, e8, e9]) ⟨by simp only; omega, by simp only; omega, by simp only; omega, by simp only; omega, hS2, hA, hC, hne⟩ (by simp only; omega)
    · have y6 : decide (¬ x = y) = true := decide_eq_true c3
      have hS2 : SdOK (·.key) a b (i + 1) (k + 1) g (c ++ [y]) := by
        unfold SdOK at hS ⊢
        rw [hS, drop_at hx, drop_at hy, sidesV_c, if_neg (fun h => c1 (hc1.2 h)), if_neg (fun h => c2 (hc2.2 h)), if_pos c3]
        simp
      simp -implicitDefEqProofs only [go_sem, reduceEqDiff, reduceAdd, reduceLeDiff, reduceLT, reduceMul, reduceEq, Int.reduceLT, reduceLE, Int.reduceAdd, reduceSub, reduceToNat, UInt8.reduceToNat, e0, e1, e2, e6, e7, e8, e9, y1, y2, y3, y4, y5, hx, hy, q1, q2, q3, puSd, hn, y6, hu, htt, forall_const, implies_true, true_and, wi, wk]
      refine AppG.step2 hC (fun z hz => by obtain ⟨q, -, rfl⟩ := List.mem_map.1 hz; rfl) (by simp) (by simp; omega) (by simp; omega) (fun t' G' hC' hG => ?_)
      have hnew : c.map encSet ++ [encSet y] = (c ++ [y]).map encSet := by simp
      rw [hnew] at hC' ⊢
      have ho := hG.other hC'.1 hA hne
      simp -implicitDefEqProofs only [go_sem, reduceEqDiff, reduceAdd, reduceLeDiff, reduceLT, reduceMul, reduceEq, Int.reduceLT, reduceLE, Int.reduceAdd, reduceSub, reduceToNat, UInt8.reduceToNat, e0, e1, e2, e6, e7, e8, e9, wi, wk]
      exact Again.mk (i + 1, k + 1, g, c ++ [y], t1, t') (by simp -implicitDefEqProofs only [go_sem, reduceEqDiff, reduceAdd, reduceLeDiff, reduceLT, reduceMul, reduceEq, Int.reduceLT, reduceLE, Int.reduceAdd, reduceSub, reduceToNat, UInt8.reduceToNat, e0, e1, e2, e6, e7, e8, e9]) ⟨by simp only; omega, by simp only; omega, by simp only; omega, by simp; omega, hS2, ho.1, hC', ho.2⟩ (by simp only; omega)
  · have y1 : decide ((i : Int) < a.length) = false := decide_eq_false (by omega)
    by_cases ck : k < b.length
    rotate_left
    · have y2 : decide ((k : Int) < b.length) = false := decide_eq_false (by omega)
      have hd : sidesV (·.key) a b = (g, c) := by
        unfold SdOK at hS
        rw [hS, List.drop_of_length_le (show a.length ≤ i by omega), List.drop_of_length_le (show b.length ≤ k by omega), sidesV_l]
        simp
      rw [hd]
      simp -implicitDefEqProofs only [go_sem, reduceEqDiff, reduceAdd, reduceLeDiff, reduceLT, reduceMul, reduceEq, Int.reduceLT, reduceLE, Int.reduceAdd, reduceSub, reduceToNat, UInt8.reduceToNat, e0, e1, e2, e6, e7, e8, e9, y1, y2]
      exact Done.wk 2 (Done.drop hA.1 ⟨rfl, rfl⟩)
    have y2 : decide ((k : Int) < b.length) = true := decide_eq_true (by omega)
    have y3 : decide ((k : Int) = b.length) = false := decide_eq_false (by omega)
    have y4 : decide ((i : Int) = a.length) = true := decide_eq_true (by omega)
    obtain ⟨y, hy⟩ : ∃ x, b[k]? = some x := getD_get' ck
    have hS2 : SdOK (·.key) a b i (k + 1) g (c ++ [y]) := by
      have hd : a.drop i = [] := List.drop_of_length_le (by omega)
      unfold SdOK at hS ⊢
      rw [hS, hd, sidesV_l, sidesV_l, drop_at hy]
      simp
    simp -implicitDefEqProofs only [go_sem, reduceEqDiff, reduceAdd, reduceLeDiff, reduceLT, reduceMul, reduceEq, Int.reduceLT, reduceLE, Int.reduceAdd, reduceSub, reduceToNat, UInt8.reduceToNat, e0, e1, e2, e6, e7, e8, e9, y1, y2, y3, y4, m2, m3, hy, hu, htt, forall_const, implies_true, true_and, wk]
    refine AppG.step2 hC (fun z hz => by obtain ⟨q, -, rfl⟩ := List.mem_map.1 hz; rfl) (by simp) (by simp; omega) (by simp; omega) (fun t' G' hC' hG => ?_)
    have hnew : c.map encSet ++ [encSet y] = (c ++ [y]).map encSet := by simp
    rw [hnew] at hC' ⊢
    have ho := hG.other hC'.1 hA hne
    simp -implicitDefEqProofs only [go_sem, reduceEqDiff, reduceAdd, reduceLeDiff, reduceLT, reduceMul, reduceEq, Int.reduceLT, reduceLE, Int.reduceAdd, reduceSub, reduceToNat, UInt8.reduceToNat, e0, e1, e2, e6, e7, e8, e9, wk]
    exact Again.mk (i, k + 1, g, c ++ [y], t1, t') (by simp -implicitDefEqProofs only [go_sem, reduceEqDiff, reduceAdd, reduceLeDiff, reduceLT, reduceMul, reduceEq, Int.reduceLT, reduceLE, Int.reduceAdd, reduceSub, reduceToNat, UInt8.reduceToNat, e0, e1, e2, e6, e7, e8, e9]) ⟨hi, by simp only; omega, by simp only; omega, by simp; omega, hS2, ho.1, hC', ho.2⟩ (by simp only; omega)
set_option maxHeartbeats 6400000 in
theorem sidesV_calls (a b : List SvcV) (ta tb : Tail) (H : Heap) (hla : a.length ≤ 1000000) (hlb : b.length ≤ 1000000) :
    ACalls Tryz.prog 102 [.sl (a.map encSvc) ta, .sl (b.map encSvc) tb, .func 76 []] H fun x H' => x = .tup [.sl ((sidesV (·.name) a b).1.map encSvc) .unk, .sl ((sidesV (·.name) a b).2.map encSvc) .unk] ∧ H' = H := by
  have hu : ∀ x : SvcV, (encSvc x).length = 4 := fun _ => rfl
  refine ACalls.of_code (X := { pure := puSd }) puSd_ok Tryz.func102 (by kernel_rfl) rfl (by kernel_rfl) (Nat.le_of_ble_eq_true rfl) ?_
  simp -implicitDefEqProofs only [go_sem, reduceEqDiff, reduceAdd, reduceLeDiff, reduceLT, reduceMul, reduceEq, Int.reduceLT, reduceLE, Int.reduceAdd, reduceSub, reduceToNat, UInt8.reduceToNat, Tryz.f102]
  refine aloop_intro (σ := Nat × Nat × List SvcV × List SvcV × Tail × Tail) (fun s => [(0, .sl (a.map encSvc) ta), (1, .sl (b.map encSvc) tb), (2, .func 76 []), (6, .sl (s.2.2.1.map encSvc) s.2.2.2.2.1), (7, .sl (s.2.2.2.1.map encSvc) s.2.2.2.2.2), (8, .int .i64 s.1), (9, .int .i64 s.2.1)])
    (fun s G => s.1 ≤ a.length ∧ s.2.1 ≤ b.length ∧ s.2.2.1.length ≤ s.1 + s.2.1 ∧ s.2.2.2.1.length ≤ s.1 + s.2.1 ∧ SdOK (·.name) a b s.1 s.2.1 s.2.2.1 s.2.2.2.1 ∧ AppG H G 4 (s.2.2.1.map encSvc) s.2.2.2.2.1 ∧ AppG H G 4 (s.2.2.2.1.map encSvc) s.2.2.2.2.2 ∧ tokNe s.2.2.2.2.1 s.2.2.2.2.2)
    (fun s => a.length + b.length - s.1 - s.2.1) (0, 0, [], [], .exact, .exact) ?_ ?_ ?_
  · simp -implicitDefEqProofs only [go_sem, reduceEqDiff, reduceAdd, reduceLeDiff, reduceLT, reduceMul, reduceEq, Int.reduceLT, reduceLE, Int.reduceAdd, reduceSub, reduceToNat, UInt8.reduceToNat, List.map_nil]
  · exact ⟨Nat.zero_le _, Nat.zero_le _, Nat.le_refl _, Nat.le_refl _, by simp [SdOK], AppG.new (Heap.Sub.rfl' H) _, AppG.new (Heap.Sub.rfl' H) _, tokNe_exact _⟩
  rintro ⟨i, k, g, c, t1, t2⟩ r G hv ⟨hi, hk, hgl, hcl, hS, hA, hC, hne⟩
  simp only at hi hk hgl hcl hS hA hC hne
  have e0 := hv.1
  have e1 := hv.2.1
  have e2 := hv.2.2.1
  have e6 := hv.2.2.2.1
  have e7 := hv.2.2.2.2.1
  have e8 := hv.2.2.2.2.2.1
  have e9 := hv.2.2.2.2.2.2.1
  simp only at e6 e7 e8 e9
  clear hv
  have wi : IntKind.i64.wrap ((i : Int) + 1) = ((i + 1 : Nat) : Int) := by rw [Go.IntWalk.i64_in _ (by omega)]; omega
  have wk : IntKind.i64.wrap ((k : Int) + 1) = ((k + 1 : Nat) : Int) := by rw [Go.IntWalk.i64_in _ (by omega)]; omega
  have htt : ∀ x : SvcV, (encSvc x).take 4 = encSvc x := fun _ => rfl
  have m1 : decide ((-1 : Int) < 0) = true := rfl
  have m2 : decide ((1 : Int) < 0) = false := rfl
  have m3 : decide ((0 : Int) < 1) = true := rfl
  have hUa : ∀ x ∈ a, (encSvc x).length = 4 := fun x _ => rfl
  have hUb : ∀ x ∈ b, (encSvc x).length = 4 := fun x _ => rfl
  have cla : ((a.map encSvc).length : Int) = a.length := by simp
  by_cases ci : i < a.length
  · have y1 : decide ((i : Int) < a.length) = true := decide_eq_true (by omega)
    obtain ⟨x, hx⟩ : ∃ x, a[i]? = some x := getD_get' ci
    by_cases ck : k < b.length
    rotate_left
    · have y2 : decide ((k : Int) = b.length) = true := decide_eq_true (by omega)
      have hS2 : SdOK (·.name) a b (i + 1) k (g ++ [x]) c := by
        have hd : b.drop k = [] := List.drop_of_length_le (by omega)
        unfold SdOK at hS ⊢
        rw [hS, hd, sidesV_r, sidesV_r, drop_at hx]
        simp
      simp -implicitDefEqProofs only [go_sem, reduceEqDiff, reduceAdd, reduceLeDiff, reduceLT, reduceMul, reduceEq, Int.reduceLT, reduceLE, Int.reduceAdd, reduceSub, reduceToNat, UInt8.reduceToNat, e0, e1, e2, e6, e7, e8, e9, y1, y2, m1, hx, hu, htt, forall_const, implies_true, true_and, wi]
      refine AppG.step2 hA (fun z hz => by obtain ⟨q, -, rfl⟩ := List.mem_map.1 hz; rfl) (by simp) (by simp; omega) (by simp; omega) (fun t' G' hA' hG => ?_)
      have hnew : g.map encSvc ++ [encSvc x] = (g ++ [x]).map encSvc := by simp
      rw [hnew] at hA' ⊢
      have ho := hG.other hA'.1 hC hne.symm
      simp -implicitDefEqProofs only [go_sem, reduceEqDiff, reduceAdd, reduceLeDiff, reduceLT, reduceMul, reduceEq, Int.reduceLT, reduceLE, Int.reduceAdd, reduceSub, reduceToNat, UInt8.reduceToNat, e0, e1, e2, e6, e7, e8, e9, wi]
      exact Again.mk (i + 1, k, g ++ [x], c, t', t2) (by simp -implicitDefEqProofs only [go_sem, reduceEqDiff, reduceAdd, reduceLeDiff, reduceLT, reduceMul, reduceEq, Int.reduceLT, reduceLE, Int.reduceAdd, reduceSub, reduceToNat, UInt8.reduceToNat, e0, e1, e2, e6, e7, e8, e9]) ⟨by simp only; omega, hk, by simp; omega, by simp only; omega, hS2, hA', ho.1, ho.2.symm⟩ (by simp only; omega)
    have y2 : decide ((k : Int) = b.length) = false := decide_eq_false (by omega)
    have y3 : decide ((i : Int) = a.length) = false := decide_eq_false (by omega)
    obtain ⟨y, hy⟩ : ∃ x, b[k]? = some x := getD_get' ck
    have hc1 := cmp_lt x.name y.name
    have hc2 := cmp_gt x.name y.name
    have q1 : sNameO [.agg (encSvc x)] = some (.str x.name) := rfl
    have q2 : sNameO [.agg (encSvc y)] = some (.str y.name) := rfl
    have q3 := sCmpS_eq x.name y.name
    by_cases c1 : Lib.compareBytes x.name y.name < 0
    · have y4 : decide (Lib.compareBytes x.name y.name < 0) = true := decide_eq_true c1
      have hS2 : SdOK (·.name) a b (i + 1) k (g ++ [x]) c := by
        unfold SdOK at hS ⊢
        rw [hS, drop_at hx, drop_at hy, sidesV_c, if_pos (hc1.1 c1), ← drop_at hy]
        simp
      simp -implicitDefEqProofs only [go_sem, reduceEqDiff, reduceAdd, reduceLeDiff, reduceLT, reduceMul, reduceEq, Int.reduceLT, reduceLE, Int.reduceAdd, reduceSub, reduceToNat, UInt8.reduceToNat, e0, e1, e2, e6, e7, e8, e9, y1, y2, y3, y4, hx, hy, q1, q2, q3, puSd, hu, htt, forall_const, implies_true, true_and, wi]
      refine AppG.step2 hA (fun z hz => by obtain ⟨q, -, rfl⟩ := List.mem_map.1 hz; rfl) (by simp) (by simp; omega) (by simp; omega) (fun t' G' hA' hG => ?_)
      have hnew : g.map encSvc ++ [encSvc x] = (g ++ [x]).map encSvc := by simp
      rw [hnew] at hA' ⊢
      have ho := hG.other hA'.1 hC hne.symm
      simp -implicitDefEqProofs only [go_sem, reduceEqDiff, reduceAdd, reduceLeDiff, reduceLT, reduceMul, reduceEq, Int.reduceLT, reduceLE, Int.reduceAdd, reduceSub, reduceToNat, UInt8.reduceToNat, e0, e1, e2, e6, e7, e8, e9, wi]
      exact Again.mk (i + 1, k, g ++ [x], c, t', t2) (by simp -implicitDefEqProofs only [go_sem, reduceEqDiff, reduceAdd, reduceLeDiff, reduceLT, reduceMul, reduceEq, Int.reduceLT, reduceLE, Int.reduceAdd, reduceSub, reduceToNat, UInt8.reduceToNat, e0, e1, e2, e6, e7, e8, e9]) ⟨by simp only; omega, hk, by simp; omega, by simp only; omega, hS2, hA', ho.1, ho.2.symm⟩ (by simp only; omega)
    have y4 : decide (Lib.compareBytes x.name y.name < 0) = false := decide_eq_false c1
    by_cases c2 : 0 < Lib.compareBytes x.name y.name
    · have y5 : decide (0 < Lib.compareBytes x.name y.name) = true := decide_eq_true c2
      have hS2 : SdOK (·.name) a b i (k + 1) g (c ++ [y]) := by
        unfold SdOK at hS ⊢
        rw [hS, drop_at hx, drop_at hy, sidesV_c, if_neg (fun h => c1 (hc1.2 h)), if_pos (hc2.1 c2), ← drop_at hx]
        simp
      simp -implicitDefEqProofs only [go_sem, reduceEqDiff, reduceAdd, reduceLeDiff, reduceLT, reduceMul, reduceEq, Int.reduceLT, reduceLE, Int.reduceAdd, reduceSub, reduceToNat, UInt8.reduceToNat, e0, e1, e2, e6, e7, e8, e9, y1, y2, y3, y4, y5, hx, hy, q1, q2, q3, puSd, hu, htt, forall_const, implies_true, true_and, wk]
      refine AppG.step2 hC (fun z hz => by obtain ⟨q, -, rfl⟩ := List.mem_map.1 hz; rfl) (by simp) (by simp; omega) (by simp; omega) (fun t' G' hC' hG => ?_)
      have hnew : c.map encSvc ++ [encSvc y] = (c ++ [y]).map encSvc := by simp
      rw [hnew] at hC' ⊢
      have ho := hG.other hC'.1 hA hne
      simp -implicitDefEqProofs only [go_sem, reduceEqDiff, reduceAdd, reduceLeDiff, reduceLT, reduceMul, reduceEq, Int.reduceLT, reduceLE, Int.reduceAdd, reduceSub, reduceToNat, UInt8.reduceToNat, e0, e1, e2, e6, e7, e8, e9, wk]
      exact Again.mk (i, k + 1, g, c ++ [y], t1, t') (by simp -implicitDefEqProofs only [go_sem, reduceEqDiff, reduceAdd, reduceLeDiff, reduceLT, reduceMul, reduceEq, Int.reduceLT, reduceLE, Int.reduceAdd, reduceSub, reduceToNat, UInt8.reduceToNat, e0, e1, e2, e6, e7, e8, e9]) ⟨hi, by simp only; omega, by simp only; omega, by simp; omega, hS2, ho.1, hC', ho.2⟩ (by simp only; omega)
    have y5 : decide (0 < Lib.compareBytes x.name y.name) = false := decide_eq_false c2
    have hn := fun cx cy => eqSvc_calls_ne cx cy x y
    by_cases c3 : x = y
    · have y6 : decide (¬ x = y) = false := decide_eq_false (by simpa using c3)
      have hS2 : SdOK (·.name) a b (i + 1) (k + 1) g c := by
        unfold SdOK at hS ⊢
        rw [hS, drop_at hx, drop_at hy, sidesV_c, if_neg (fun h => c1 (hc1.2 h)), if_neg (fun h => c2 (hc2.2 h)), if_neg (by simpa using c3)]
      simp -implicitDefEqProofs only [go_sem, reduceEqDiff, reduceAdd, reduceLeDiff, reduceLT, reduceMul, reduceEq, Int.reduceLT, reduceLE, Int.reduceAdd, reduceSub, reduceToNat, UInt8.reduceToNat, e0, e1, e2, e6, e7, e8, e9, y1, y2, y3, y4, y5, hx, hy, q1, q2, q3, puSd, hn, y6, hu, htt, forall_const, implies_true, true_and, wi, wk]
      exact Again.mk (i + 1, k + 1, g, c, t1, t2) (by simp -implicitDefEqProofs only [go_sem, reduceEqDiff, reduceAdd, reduceLeDiff, reduceLT, reduceMul, reduceEq, Int.reduceLT, reduceLE, Int.reduceAdd, reduceSub, reduceToNat, UInt8.reduceToNat, e0, e1, e2, e6, e7, e8, e9]) ⟨by simp only; omega, by simp only; omega, by simp only; omega, by simp only; omega, hS2, hA, hC, hne⟩ (by simp only; omega)
    · have y6 : decide (¬ x = y) = true := decide_eq_true c3
      have hS2 : SdOK (·.name) a b (i + 1) (k + 1) g (c ++ [y]) := by
        unfold SdOK at hS ⊢
        rw [hS, drop_at hx, drop_at hy, sidesV_c, if_neg (fun h => c1 (hc1.2 h)), if_neg (fun h => c2 (hc2.2 h)), if_pos c3]
        simp
      simp -implicitDefEqProofs only [go_sem, reduceEqDiff, reduceAdd, reduceLeDiff, reduceLT, reduceMul, reduceEq, Int.reduceLT, reduceLE, Int.reduceAdd, reduceSub, reduceToNat, UInt8.reduceToNat, e0, e1, e2, e6, e7, e8, e9, y1, y2, y3, y4, y5, hx, hy, q1, q2, q3, puSd, hn, y6, hu, htt, forall_const, implies_true, true_and, wi, wk]
      refine AppG.step2 hC (fun z hz => by obtain ⟨q, -, rfl⟩ := List.mem_map.1 hz; rfl) (by simp) (by simp; omega) (by simp; omega) (fun t' G' hC' hG => ?_)
      have hnew : c.map encSvc ++ [encSvc y] = (c ++ [y]).map encSvc := by simp
      rw [hnew] at hC' ⊢
      have ho := hG.other hC'.1 hA hne
      simp -implicitDefEqProofs only [go_sem, reduceEqDiff, reduceAdd, reduceLeDiff, reduceLT, reduceMul, reduceEq, Int.reduceLT, reduceLE, Int.reduceAdd, reduceSub, reduceToNat, UInt8.reduceToNat, e0, e1, e2, e6, e7, e8, e9, wi, wk]
      exact Again.mk (i + 1, k + 1, g, c ++ [y], t1, t') (by simp -implicitDefEqProofs only [go_sem, reduceEqDiff, reduceAdd, reduceLeDiff, reduceLT, reduceMul, reduceEq, Int.reduceLT, reduceLE, Int.reduceAdd, reduceSub, reduceToNat, UInt8.reduceToNat, e0, e1, e2, e6, e7, e8, e9]) ⟨by simp only; omega, by simp only; omega, by simp only; omega, by simp; omega, hS2, ho.1, hC', ho.2⟩ (by simp only; omega)
  · have y1 : decide ((i : Int) < a.length) = false := decide_eq_false (by omega)
    by_cases ck : k < b.length
    rotate_left
    · have y2 : decide ((k : Int) < b.length) = false := decide_eq_false (by omega)
      have hd : sidesV (·.name) a b = (g, c) := by
        unfold SdOK at hS
        rw [hS, List.drop_of_length_le (show a.length ≤ i by omega), List.drop_of_length_le (show b.length ≤ k by omega), sidesV_l]
        simp
      rw [hd]
      simp -implicitDefEqProofs only [go_sem, reduceEqDiff, reduceAdd, reduceLeDiff, reduceLT, reduceMul, reduceEq, Int.reduceLT, reduceLE, Int.reduceAdd, reduceSub, reduceToNat, UInt8.reduceToNat, e0, e1, e2, e6, e7, e8, e9, y1, y2]
      exact Done.wk 2 (Done.drop hA.1 ⟨rfl, rfl⟩)
    have y2 : decide ((k : Int) < b.length) = true := decide_eq_true (by omega)
    have y3 : decide ((k : Int) = b.length) = false := decide_eq_false (by omega)
    have y4 : decide ((i : Int) = a.length) = true := decide_eq_true (by omega)
    obtain ⟨y, hy⟩ : ∃ x, b[k]? = some x := getD_get' ck
    have hS2 : SdOK (·.name) a b i (k + 1) g (c ++ [y]) := by
      have hd : a.drop i = [] := List.drop_of_length_le (by omega)
      unfold SdOK at hS ⊢
      rw [hS, hd, sidesV_l, sidesV_l, drop_at hy]
      simp
    simp -implicitDefEqProofs only [go_sem, reduceEqDiff, reduceAdd, reduceLeDiff, reduceLT, reduceMul, reduceEq, Int.reduceLT, reduceLE, Int.reduceAdd, reduceSub, reduceToNat, UInt8.reduceToNat, e0, e1, e2, e6, e7, e8, e9, y1, y2, y3, y4, m2, m3, hy, hu, htt, forall_const, implies_true, true_and, wk]
    refine AppG.step2 hC (fun z hz => by obtain ⟨q, -, rfl⟩ := List.mem_map.1 hz; rfl) (by simp) (by simp; omega) (by simp; omega) (fun t' G' hC' hG => ?_)
    have hnew : c.map encSvc ++ [encSvc y] = (c ++ [y]).map encSvc := by simp
    rw [hnew] at hC' ⊢
    have ho := hG.other hC'.1 hA hne
    simp -implicitDefEqProofs only [go_sem, reduceEqDiff, reduceAdd, reduceLeDiff, reduceLT, reduceMul, reduceEq, Int.reduceLT, reduceLE, Int.reduceAdd, reduceSub, reduceToNat, UInt8.reduceToNat, e0, e1, e2, e6, e7, e8, e9, wk]
    exact Again.mk (i, k + 1, g, c ++ [y], t1, t') (by simp -implicitDefEqProofs only [go_sem, reduceEqDiff, reduceAdd, reduceLeDiff, reduceLT, reduceMul, reduceEq, Int.reduceLT, reduceLE, Int.reduceAdd, reduceSub, reduceToNat, UInt8.reduceToNat, e0, e1, e2, e6, e7, e8, e9]) ⟨hi, by simp only; omega, by simp only; omega, by simp; omega, hS2, ho.1, hC', ho.2⟩ (by simp only; omega)
end Go.Proofs
