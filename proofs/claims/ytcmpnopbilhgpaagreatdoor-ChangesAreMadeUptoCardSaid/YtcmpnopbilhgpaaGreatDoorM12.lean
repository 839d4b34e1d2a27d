/-
  Walks and plain laws, part 12.
-/
import Derived.Test.YtcmpnopbilhgpaaGreatDoorM10
import Derived.Test.YtcmpnopbilhgpaaGreatDoorM11
import Derived.Test.YtcmpnopbilhgpaaGreatDoorM7
/- The law ChangesAreMade. -/
namespace Go.Proofs
open Go Go.Abs
open Nat (reduceEqDiff reduceAdd reduceLeDiff reduceLT reduceMul)
open Int (reduceEq reduceLE reduceSub reduceToNat)
set_option linter.unusedSimpArgs false
set_option linter.unusedVariables false
set_option maxRecDepth 20000
theorem eqChg_calls_ne (cx cy : Bool) (a b : ChgV) : bin Tryz.prog .neq 37 cx cy (.agg (encChg a)) (.agg (encChg b)) = some (.bool (decide ¬ a = b)) := by
  rw [neq_chg]; simp
theorem eqChg_calls (a b : List ChgV) (t t' : Tail) (H : Heap) (ha : a.length ≤ 1099511627776) : ACalls Tryz.prog 13 [.sl (a.map encChg) t, .sl (b.map encChg) t'] H fun x H' => x = .bool (decide (a = b)) ∧ H' = H := by
  by_cases hl : ¬ a.length = b.length
  · have d1 : decide (¬ (a.length : Int) = b.length) = true := by simp; omega
    refine ACalls.of_code (X := { pure := pu0 }) pu0_ok Tryz.func13 (by kernel_rfl) rfl (by kernel_rfl) (Nat.le_of_ble_eq_true rfl) ?_
    simp -implicitDefEqProofs only [go_sem, reduceEqDiff, reduceAdd, reduceLeDiff, reduceLT, reduceMul, reduceEq, Int.reduceLT, reduceLE, Int.reduceAdd, reduceSub, reduceToNat, UInt8.reduceToNat, Tryz.f13, d1]
    refine Done.now ⟨?_, rfl⟩
    have : ¬ a = b := fun e => hl (by rw [e])
    simp [this]
  · have hl : a.length = b.length := Decidable.not_not.1 hl
    have d1 : decide (¬ (a.length : Int) = b.length) = false := by simp; omega
    refine ACalls.of_code (X := { pure := pu0 }) pu0_ok Tryz.func13 (by kernel_rfl) rfl (by kernel_rfl) (Nat.le_of_ble_eq_true rfl) ?_
    simp -implicitDefEqProofs only [go_sem, reduceEqDiff, reduceAdd, reduceLeDiff, reduceLT, reduceMul, reduceEq, Int.reduceLT, reduceLE, Int.reduceAdd, reduceSub, reduceToNat, UInt8.reduceToNat, Tryz.f13, d1]
    refine aloop_intro (σ := Nat) (fun i => [(0, .sl (a.map encChg) t), (1, .sl (b.map encChg) t'), (12, .int .i64 a.length), (13, .int .i64 i)])
      (fun i G => G = H ∧ i ≤ a.length ∧ a.take i = b.take i) (fun i => a.length - i) 0 ?_ ?_ ?_
    · simp -implicitDefEqProofs only [go_sem, reduceEqDiff, reduceAdd, reduceLeDiff, reduceLT, reduceMul, reduceEq, Int.reduceLT, reduceLE, Int.reduceAdd, reduceSub, reduceToNat, UInt8.reduceToNat]
    · simp
    · intro i r G hv hI
      have h0 := hv.1
      have h1 := hv.2.1
      have h12 := hv.2.2.1
      have h13 := hv.2.2.2.1
      have hG := hI.1.symm
      have hi := hI.2.1
      have hp := hI.2.2
      clear hv hI
      subst hG
      simp -implicitDefEqProofs only [go_sem, reduceEqDiff, reduceAdd, reduceLeDiff, reduceLT, reduceMul, reduceEq, Int.reduceLT, reduceLE, Int.reduceAdd, reduceSub, reduceToNat, UInt8.reduceToNat, h0, h1, h12, h13]
      refine cnd_intro (fun h => ?_) (fun h => ?_)
      · simp only [decide_eq_true_eq] at h
        obtain ⟨x, hx⟩ := get_some (l := a) (i := i) (by omega)
        obtain ⟨y, hy⟩ := get_some (l := b) (i := i) (by omega)
        have ht := take_eq_succ hx hy
        have hn := fun cx cy => eqChg_calls_ne cx cy x y
        obtain ⟨xkind, ⟨xpath, xdata, xruns⟩, ⟨xkey, xvalue⟩, ⟨xname, xspath, xauto, xon⟩⟩ := x
        obtain ⟨ykind, ⟨ypath, ydata, yruns⟩, ⟨ykey, yvalue⟩, ⟨yname, yspath, yauto, yon⟩⟩ := y
        simp only [encChg] at hn
        simp -implicitDefEqProofs only [go_sem, reduceEqDiff, reduceAdd, reduceLeDiff, reduceLT, reduceMul, reduceEq, Int.reduceLT, reduceLE, Int.reduceAdd, reduceSub, reduceToNat, UInt8.reduceToNat, h0, h1, h12, h13, hx, hy, encChg, hn]
        refine cnd_intro (fun g => ?_) (fun g => ?_)
        · simp -implicitDefEqProofs only [go_sem, reduceEqDiff, reduceAdd, reduceLeDiff, reduceLT, reduceMul, reduceEq, Int.reduceLT, reduceLE, Int.reduceAdd, reduceSub, reduceToNat, UInt8.reduceToNat]
          refine Done.now ⟨?_, rfl⟩
          have : ¬ a = b := fun e => by subst e; rw [hx] at hy; cases hy; simp at g
          simp [this]
        · simp -implicitDefEqProofs (disch := omega) only [go_sem, reduceEqDiff, reduceAdd, reduceLeDiff, reduceLT, reduceMul, reduceEq, Int.reduceLT, reduceLE, Int.reduceAdd, reduceSub, reduceToNat, UInt8.reduceToNat, Go.IntWalk.i64_in, h0, h1, h12, h13]
          simp only [decide_eq_false_iff_not, Decidable.not_not] at g
          exact Again.mk (i + 1) (by simp -implicitDefEqProofs only [go_sem, reduceEqDiff, reduceAdd, reduceLeDiff, reduceLT, reduceMul, reduceEq, Int.reduceLT, reduceLE, Int.reduceAdd, reduceSub, reduceToNat, UInt8.reduceToNat, h0, h1, h12, h13]; exact rfl) ⟨rfl, by omega, ht.2 ⟨hp, g⟩⟩ (by omega)
      · simp only [decide_eq_false_iff_not] at h
        have e : i = a.length := by omega
        rw [e, List.take_length, hl, List.take_length] at hp
        simp -implicitDefEqProofs only [go_sem, reduceEqDiff, reduceAdd, reduceLeDiff, reduceLT, reduceMul, reduceEq, Int.reduceLT, reduceLE, Int.reduceAdd, reduceSub, reduceToNat, UInt8.reduceToNat]
        exact Done.now ⟨by simp [hp], rfl⟩

theorem landedC_calls (H : Heap) : ACalls Tryz.prog 4 [] H fun x H' => x = .bool true ∧ H' = H := by
  have hR : Room = 1099511627776 := rfl
  have hn : nameB [97] = true := by decide
  refine ACalls.of_code (X := { pure := puN }) puN_ok Tryz.func4 (by kernel_rfl) rfl (by kernel_rfl) (Nat.le_of_ble_eq_true rfl) ?_
  simp -implicitDefEqProofs only [go_sem, reduceEqDiff, reduceAdd, reduceLeDiff, reduceLT, reduceMul, reduceEq, Int.reduceLT, reduceLE, Int.reduceAdd, reduceSub, reduceToNat, UInt8.reduceToNat, Tryz.f4, puN, sStr_eq, hR, hn]
  exact Done.now ⟨rfl, rfl⟩
noncomputable def sChk := spF (fun c : ChgV => [AV.agg (encChg c)]) chgR fun c => .int .i64 (chgErr c)
theorem encChg_injM {a b : ChgV} (h : encChg a = encChg b) : a = b := by
  obtain ⟨k, ⟨x1, x2, x3⟩, ⟨x4, x5⟩, ⟨x6, x7, x8, x9⟩⟩ := a
  obtain ⟨k', ⟨y1, y2, y3⟩, ⟨y4, y5⟩, ⟨y6, y7, y8, y9⟩⟩ := b
  simp only [encChg] at h
  cases h; rfl
theorem sChk_eq (c : ChgV) (h : chgR c) : sChk [.agg (encChg c)] = some (.int .i64 (chgErr c)) := spF_eq (enc := fun c : ChgV => [AV.agg (encChg c)]) (fun a b e => by
  simp only [List.cons.injEq, AV.agg.injEq, and_true] at e
  rw [encChg_injM e]) c h
noncomputable def puCM : Pures := putP 7 sChk (putP 6 sChk pu0)
theorem puCM_dyn : isDyn puCM = false := by simp only [puCM, go_sem, Nat.reduceEqDiff]
attribute [go_sem] puCM_dyn
theorem puCM_ok : PuOK Tryz.prog puCM := .put (.put (pu0_ok) (spF_ok fun c H h => checkChange_calls c H h)) (spF_ok fun c H h => rChangeError_calls c H h)
def CmQ2 (H : Heap) (i2 : Nat) (cs : List AV) (l : List ChgV) (t : Tail) (r : Regs) (G : Heap) : Prop := H.Sub G ∧ G i2 = some (.cells cs) ∧ r 1 = .sl (l.map encChg) t ∧ r 2 = .ptr i2 0
set_option maxHeartbeats 12800000 in
theorem changesAreMade_calls (m0 : MacV) (xa xb xc xd : Tail) (l : List ChgV) (t : Tail) (H : Heap) (hr0 : macR m0) (hl : l.length ≤ 1099511627776) (hc : ∀ c ∈ l, chgR c) :
    ACalls Tryz.prog 3 [.agg (encMac m0 xa xb xc xd), .sl (l.map encChg) t] H fun x H' => x = .bool true ∧ H' = H := by
  have hS := Heap.Sub.rfl' H
  refine ACalls.of_code (X := { pure := puCM }) puCM_ok Tryz.func3 (by kernel_rfl) rfl (by kernel_rfl) (Nat.le_of_ble_eq_true rfl) ?_
  simp -implicitDefEqProofs only [go_sem, reduceEqDiff, reduceAdd, reduceLeDiff, reduceLT, reduceMul, reduceEq, Int.reduceLT, reduceLE, Int.reduceAdd, reduceSub, reduceToNat, UInt8.reduceToNat, Tryz.f3, encMac]
  with_reducible refine nwC_intro fun i2 hi2 => ?_
  generalize E2 : Heap.put H i2 _ = G1
  have hO_2 := obj_new E2 hi2 hS
  have n2 := hO_2.1
  have hS := hO_2.2.1
  have g2 := hO_2.2.2.1
  clear hO_2
  have hft := fit_calls m0 xa xb xc xd G1 hr0
  unfold encMac at hft
  simp -implicitDefEqProofs only [go_sem, reduceEqDiff, reduceAdd, reduceLeDiff, reduceLT, reduceMul, reduceEq, Int.reduceLT, reduceLE, Int.reduceAdd, reduceSub, reduceToNat, UInt8.reduceToNat, puCM]
  refine (landedC_calls G1).pure_next _ ?_
  simp -implicitDefEqProofs only [go_sem, reduceEqDiff, reduceAdd, reduceLeDiff, reduceLT, reduceMul, reduceEq, Int.reduceLT, reduceLE, Int.reduceAdd, reduceSub, reduceToNat, UInt8.reduceToNat, g2]
  refine hft.mono ?_
  rintro x G9 ⟨m, ta, tb, tc, td, rfl, hM, rfl⟩
  clear hft
  simp -implicitDefEqProofs only [go_sem, reduceEqDiff, reduceAdd, reduceLeDiff, reduceLT, reduceMul, reduceEq, Int.reduceLT, reduceLE, Int.reduceAdd, reduceSub, reduceToNat, UInt8.reduceToNat, g2]
  generalize E9 : Heap.put G9 i2 _ = G2
  have hS2 := obj_sub E9 n2 hS
  have g2 : G2 i2 = some (.cells (encMac m ta tb tc td)) := obj_at E9
  clear E9 E2 hS
  with_reducible refine aloop_cut 0 (CmQ2 H i2 (encMac m ta tb tc td) l t) ?_ ?_
  rotate_left
  · refine aloop_intro (σ := Nat) (fun i => [(1, .sl (l.map encChg) t), (2, .ptr i2 0), (20, .sl (l.map encChg) t), (21, .int .i64 l.length), (22, .int .i64 i)])
      (fun i G => i ≤ l.length ∧ H.Sub G ∧ G i2 = some (.cells (encMac m ta tb tc td))) (fun i => l.length - i) 0 ?_ ?_ ?_
    · simp -implicitDefEqProofs only [go_sem, reduceEqDiff, reduceAdd, reduceLeDiff, reduceLT, reduceMul, reduceEq, Int.reduceLT, reduceLE, Int.reduceAdd, reduceSub, reduceToNat, UInt8.reduceToNat]
    · exact ⟨Nat.zero_le _, hS2, g2⟩
    clear g2 hS2
    rintro i r G hv ⟨hi, hS, g2⟩
    have e1 := hv.1
    have e2 := hv.2.1
    have ea := hv.2.2.1
    have eb := hv.2.2.2.1
    have ec := hv.2.2.2.2.1
    clear hv
    by_cases g : i < l.length
    rotate_left
    · have y0 : decide ((i : Int) < l.length) = false := decide_eq_false (by omega)
      simp -implicitDefEqProofs only [go_sem, reduceEqDiff, reduceAdd, reduceLeDiff, reduceLT, reduceMul, reduceEq, Int.reduceLT, reduceLE, Int.reduceAdd, reduceSub, reduceToNat, UInt8.reduceToNat, e1, e2, ea, eb, ec, y0]
      exact ⟨hS, g2, by simp -implicitDefEqProofs only [go_sem, reduceEqDiff, reduceAdd, reduceLeDiff, reduceLT, reduceMul, reduceEq, Int.reduceLT, reduceLE, Int.reduceAdd, reduceSub, reduceToNat, UInt8.reduceToNat, e1], by simp -implicitDefEqProofs only [go_sem, reduceEqDiff, reduceAdd, reduceLeDiff, reduceLT, reduceMul, reduceEq, Int.reduceLT, reduceLE, Int.reduceAdd, reduceSub, reduceToNat, UInt8.reduceToNat, e2]⟩
    have y0 : decide ((i : Int) < l.length) = true := decide_eq_true (by omega)
    obtain ⟨c, hx⟩ : ∃ x, l[i]? = some x := getD_get' g
    have ws : IntKind.i64.wrap ((i : Int) + 1) = ((i + 1 : Nat) : Int) := by rw [Go.IntWalk.i64_in _ (by omega)]; omega
    have hU : ∀ (a : ChgV), a ∈ l → (encChg a).length = 10 := fun _ _ => rfl
    have q1 := sChk_eq c (hc c (List.mem_of_getElem? hx))
    have y1 : decide (¬ chgErr c = chgErr c) = false := decide_eq_false (by simp)
    have ht : (encChg c).take 10 = encChg c := rfl
    simp -implicitDefEqProofs only [go_sem, reduceEqDiff, reduceAdd, reduceLeDiff, reduceLT, reduceMul, reduceEq, Int.reduceLT, reduceLE, Int.reduceAdd, reduceSub, reduceToNat, UInt8.reduceToNat, e1, e2, ea, eb, ec, y0, hx]
    refine ⟨hU, Nat.le_refl _, ?_⟩
    rw [ht]
    simp only [encChg] at q1 ⊢
    with_reducible refine nwC_intro fun i5 hi5 => ?_
    have g22 : (G.put i5 (.cells (encChg c))) i2 = some (.cells (encMac m ta tb tc td)) := by rw [put_ne _ _ _ _ (obj_ne g2 hi5)]; exact g2
    have hS22 := hS.put' (sub_none hS hi5) (.cells (encChg c))
    simp -implicitDefEqProofs only [go_sem, reduceEqDiff, reduceAdd, reduceLeDiff, reduceLT, reduceMul, reduceEq, Int.reduceLT, reduceLE, Int.reduceAdd, reduceSub, reduceToNat, UInt8.reduceToNat, e1, e2, ea, eb, ec, puCM, q1, y1, ws]
    exact Again.mk (i + 1) (by simp -implicitDefEqProofs only [go_sem, reduceEqDiff, reduceAdd, reduceLeDiff, reduceLT, reduceMul, reduceEq, Int.reduceLT, reduceLE, Int.reduceAdd, reduceSub, reduceToNat, UInt8.reduceToNat, e1, e2, ea, eb]) ⟨by omega, hS22, g22⟩ (by omega)
  clear g2 hS2
  rintro r G ⟨hS, g2, e1, e2⟩
  have k1 := fun G => rApply_calls m l ta tb tc td t G hM.R hl hc
  have k2 := fun G => rUndo_calls m l ta tb tc td t G hM.R hl hc
  have k3 := fun G => applyP_calls m l ta tb tc td t G hM.R hl hc
  have k4 := fun G => undoP_calls m l ta tb tc td t G hM.R hl hc
  have hboth := fun n (h : applyV m l = .ok n) => applyV_both h
  have herr := fun e (h : applyV m l = .error e) => applyV_err h
  generalize applyV m l = av at *
  unfold encMac at g2 k1 k2 k3 k4
  cases av with
  | error e =>
    have he := herr e rfl
    have y1 : decide (¬ e = e) = false := decide_eq_false (by simp)
    have y2 : decide (¬ e = 0) = true := decide_eq_true he
    unfold applyA encMac at k1 k3
    unfold undoA at k2 k4
    have hsm := rSame_calls .zero .zero .unk .unk .unk .unk .unk .unk .unk .unk
    have hz : macR MacV.zero := by simp [macR, MacV.zero]
    have z0 : decide (MacV.zero = MacV.zero) = true := decide_eq_true rfl
    rw [z0] at hsm
    unfold encMac at hsm
    have z1 : decide (((([] : List ChgV).length : Nat) : Int) = 0) = true := rfl
    have z2 : decide ((0 : Int) = 0) = true := rfl
    simp -implicitDefEqProofs only [go_sem, reduceEqDiff, reduceAdd, reduceLeDiff, reduceLT, reduceMul, reduceEq, Int.reduceLT, reduceLE, Int.reduceAdd, reduceSub, reduceToNat, UInt8.reduceToNat, e1, e2, g2]
    refine (k1 G).pure_next _ ?_
    simp -implicitDefEqProofs only [go_sem, reduceEqDiff, reduceAdd, reduceLeDiff, reduceLT, reduceMul, reduceEq, Int.reduceLT, reduceLE, Int.reduceAdd, reduceSub, reduceToNat, UInt8.reduceToNat]
    with_reducible refine nwC_intro fun i7 hi7 => ?_
    generalize E7 : Heap.put G i7 _ = G3
    have hO_7 := obj_new E7 hi7 hS
    have n7 := hO_7.1
    have hS := hO_7.2.1
    have g7 := hO_7.2.2.1
    have d2_7 := obj_ne g2 hi7
    have g2 := hO_7.2.2.2 _ _ g2
    clear hO_7
    simp -implicitDefEqProofs only [go_sem, reduceEqDiff, reduceAdd, reduceLeDiff, reduceLT, reduceMul, reduceEq, Int.reduceLT, reduceLE, Int.reduceAdd, reduceSub, reduceToNat, UInt8.reduceToNat, g7, g2, e1, e2]
    generalize E7 : Heap.put G3 i7 _ = G4
    have hS := obj_sub E7 n7 hS
    have g7 := obj_at E7
    have g2 := obj_keep E7 (by first | exact d2_7 | exact fun e => d7_2 e.symm) g2
    simp -implicitDefEqProofs only [go_sem, reduceEqDiff, reduceAdd, reduceLeDiff, reduceLT, reduceMul, reduceEq, Int.reduceLT, reduceLE, Int.reduceAdd, reduceSub, reduceToNat, UInt8.reduceToNat, g2, e1, e2]
    refine (k2 G4).pure_next _ ?_
    simp -implicitDefEqProofs only [go_sem, reduceEqDiff, reduceAdd, reduceLeDiff, reduceLT, reduceMul, reduceEq, Int.reduceLT, reduceLE, Int.reduceAdd, reduceSub, reduceToNat, UInt8.reduceToNat, g2, e1, e2]
    refine (k3 G4).pure_next _ ?_
    simp -implicitDefEqProofs only [go_sem, reduceEqDiff, reduceAdd, reduceLeDiff, reduceLT, reduceMul, reduceEq, Int.reduceLT, reduceLE, Int.reduceAdd, reduceSub, reduceToNat, UInt8.reduceToNat]
    with_reducible refine nwC_intro fun i11 hi11 => ?_
    generalize E11 : Heap.put G4 i11 _ = G5
    have hO_11 := obj_new E11 hi11 hS
    have n11 := hO_11.1
    have hS := hO_11.2.1
    have g11 := hO_11.2.2.1
    have d2_11 := obj_ne g2 hi11
    have g2 := hO_11.2.2.2 _ _ g2
    have d7_11 := obj_ne g7 hi11
    have g7 := hO_11.2.2.2 _ _ g7
    clear hO_11
    simp -implicitDefEqProofs only [go_sem, reduceEqDiff, reduceAdd, reduceLeDiff, reduceLT, reduceMul, reduceEq, Int.reduceLT, reduceLE, Int.reduceAdd, reduceSub, reduceToNat, UInt8.reduceToNat, g11, g2, e1, e2]
    generalize E11 : Heap.put G5 i11 _ = G6
    have hS := obj_sub E11 n11 hS
    have g11 := obj_at E11
    have g2 := obj_keep E11 (by first | exact d2_11 | exact fun e => d11_2 e.symm) g2
    have g7 := obj_keep E11 (by first | exact d7_11 | exact fun e => d11_7 e.symm) g7
    simp -implicitDefEqProofs only [go_sem, reduceEqDiff, reduceAdd, reduceLeDiff, reduceLT, reduceMul, reduceEq, Int.reduceLT, reduceLE, Int.reduceAdd, reduceSub, reduceToNat, UInt8.reduceToNat, g2, e1, e2]
    refine (k4 G6).pure_next _ ?_
    simp -implicitDefEqProofs only [go_sem, reduceEqDiff, reduceAdd, reduceLeDiff, reduceLT, reduceMul, reduceEq, Int.reduceLT, reduceLE, Int.reduceAdd, reduceSub, reduceToNat, UInt8.reduceToNat, y1, g7, g11]
    refine (hsm G6 hz).pure_next _ ?_
    simp -implicitDefEqProofs only [go_sem, reduceEqDiff, reduceAdd, reduceLeDiff, reduceLT, reduceMul, reduceEq, Int.reduceLT, reduceLE, Int.reduceAdd, reduceSub, reduceToNat, UInt8.reduceToNat, y2, z2, List.length_nil]
    exact Done.drop hS ⟨rfl, rfl⟩
  | ok n =>
    obtain ⟨-, hN, hfa⟩ := hboth n rfl
    have hsm := fun G => rSame_calls n n .unk .unk .unk .unk .unk .unk .unk .unk G hN.R
    have hsm2 := fun G => rSame_calls m m .unk .unk .unk .unk ta tb tc td G hM.R
    rw [show decide (n = n) = true from decide_eq_true rfl] at hsm
    rw [show decide (m = m) = true from decide_eq_true rfl] at hsm2
    have hlead : applyV n (diffV n m) = .ok m := by
      unfold applyV
      rw [if_neg (by simp [(macErr_ok n).2 hN])]
      exact diff_leads hN hM hfa
    have k5 := fun G => applyP_calls n (diffV n m) .unk .unk .unk .unk .unk G hN.R (by have := diff_len hN hM; omega) (diff_R hN hM)
    have k6 := fun G => eqChg_calls (diffV n m) (diffV n m) .unk .unk G (by have := diff_len hN hM; omega)
    rw [show decide (diffV n m = diffV n m) = true from decide_eq_true rfl] at k6
    rw [hlead] at k5
    unfold applyA encMac at k5
    unfold encMac at hsm hsm2
    unfold applyA encMac at k1 k3
    unfold undoA at k2 k4
    have y1 : decide (¬ (0 : Int) = 0) = false := rfl
    have z2 : decide ((0 : Int) = 0) = true := rfl
    simp -implicitDefEqProofs only [go_sem, reduceEqDiff, reduceAdd, reduceLeDiff, reduceLT, reduceMul, reduceEq, Int.reduceLT, reduceLE, Int.reduceAdd, reduceSub, reduceToNat, UInt8.reduceToNat, e1, e2, g2]
    refine (k1 G).pure_next _ ?_
    simp -implicitDefEqProofs only [go_sem, reduceEqDiff, reduceAdd, reduceLeDiff, reduceLT, reduceMul, reduceEq, Int.reduceLT, reduceLE, Int.reduceAdd, reduceSub, reduceToNat, UInt8.reduceToNat]
    with_reducible refine nwC_intro fun i7 hi7 => ?_
    generalize E7 : Heap.put G i7 _ = G3
    have hO_7 := obj_new E7 hi7 hS
    have n7 := hO_7.1
    have hS := hO_7.2.1
    have g7 := hO_7.2.2.1
    have d2_7 := obj_ne g2 hi7
    have g2 := hO_7.2.2.2 _ _ g2
    clear hO_7
    simp -implicitDefEqProofs only [go_sem, reduceEqDiff, reduceAdd, reduceLeDiff, reduceLT, reduceMul, reduceEq, Int.reduceLT, reduceLE, Int.reduceAdd, reduceSub, reduceToNat, UInt8.reduceToNat, g7, g2, e1, e2]
    generalize E7 : Heap.put G3 i7 _ = G4
    have hS := obj_sub E7 n7 hS
    have g7 := obj_at E7
    have g2 := obj_keep E7 (by first | exact d2_7 | exact fun e => d7_2 e.symm) g2
    simp -implicitDefEqProofs only [go_sem, reduceEqDiff, reduceAdd, reduceLeDiff, reduceLT, reduceMul, reduceEq, Int.reduceLT, reduceLE, Int.reduceAdd, reduceSub, reduceToNat, UInt8.reduceToNat, g2, e1, e2]
    refine (k2 G4).pure_next _ ?_
    simp -implicitDefEqProofs only [go_sem, reduceEqDiff, reduceAdd, reduceLeDiff, reduceLT, reduceMul, reduceEq, Int.reduceLT, reduceLE, Int.reduceAdd, reduceSub, reduceToNat, UInt8.reduceToNat, g2, e1, e2]
    refine (k3 G4).pure_next _ ?_
    simp -implicitDefEqProofs only [go_sem, reduceEqDiff, reduceAdd, reduceLeDiff, reduceLT, reduceMul, reduceEq, Int.reduceLT, reduceLE, Int.reduceAdd, reduceSub, reduceToNat, UInt8.reduceToNat]
    with_reducible refine nwC_intro fun i11 hi11 => ?_
    generalize E11 : Heap.put G4 i11 _ = G5
    have hO_11 := obj_new E11 hi11 hS
    have n11 := hO_11.1
    have hS := hO_11.2.1
    have g11 := hO_11.2.2.1
    have d2_11 := obj_ne g2 hi11
    have g2 := hO_11.2.2.2 _ _ g2
    have d7_11 := obj_ne g7 hi11
    have g7 := hO_11.2.2.2 _ _ g7
    clear hO_11
    simp -implicitDefEqProofs only [go_sem, reduceEqDiff, reduceAdd, reduceLeDiff, reduceLT, reduceMul, reduceEq, Int.reduceLT, reduceLE, Int.reduceAdd, reduceSub, reduceToNat, UInt8.reduceToNat, g11, g2, e1, e2]
    generalize E11 : Heap.put G5 i11 _ = G6
    have hS := obj_sub E11 n11 hS
    have g11 := obj_at E11
    have g2 := obj_keep E11 (by first | exact d2_11 | exact fun e => d11_2 e.symm) g2
    have g7 := obj_keep E11 (by first | exact d7_11 | exact fun e => d11_7 e.symm) g7
    simp -implicitDefEqProofs only [go_sem, reduceEqDiff, reduceAdd, reduceLeDiff, reduceLT, reduceMul, reduceEq, Int.reduceLT, reduceLE, Int.reduceAdd, reduceSub, reduceToNat, UInt8.reduceToNat, g2, e1, e2]
    refine (k4 G6).pure_next _ ?_
    simp -implicitDefEqProofs only [go_sem, reduceEqDiff, reduceAdd, reduceLeDiff, reduceLT, reduceMul, reduceEq, Int.reduceLT, reduceLE, Int.reduceAdd, reduceSub, reduceToNat, UInt8.reduceToNat, y1, g7, g11]
    refine (hsm G6).pure_next _ ?_
    simp -implicitDefEqProofs only [go_sem, reduceEqDiff, reduceAdd, reduceLeDiff, reduceLT, reduceMul, reduceEq, Int.reduceLT, reduceLE, Int.reduceAdd, reduceSub, reduceToNat, UInt8.reduceToNat, y1, g11]
    refine (k5 G6).pure_next _ ?_
    simp -implicitDefEqProofs only [go_sem, reduceEqDiff, reduceAdd, reduceLeDiff, reduceLT, reduceMul, reduceEq, Int.reduceLT, reduceLE, Int.reduceAdd, reduceSub, reduceToNat, UInt8.reduceToNat]
    with_reducible refine nwC_intro fun i15 hi15 => ?_
    generalize E15 : Heap.put G6 i15 _ = G7
    have hO_15 := obj_new E15 hi15 hS
    have n15 := hO_15.1
    have hS := hO_15.2.1
    have g15 := hO_15.2.2.1
    have d2_15 := obj_ne g2 hi15
    have g2 := hO_15.2.2.2 _ _ g2
    have d7_15 := obj_ne g7 hi15
    have g7 := hO_15.2.2.2 _ _ g7
    have d11_15 := obj_ne g11 hi15
    have g11 := hO_15.2.2.2 _ _ g11
    clear hO_15
    simp -implicitDefEqProofs only [go_sem, reduceEqDiff, reduceAdd, reduceLeDiff, reduceLT, reduceMul, reduceEq, Int.reduceLT, reduceLE, Int.reduceAdd, reduceSub, reduceToNat, UInt8.reduceToNat, g15]
    generalize E15 : Heap.put G7 i15 _ = G8
    have hS := obj_sub E15 n15 hS
    have g15 := obj_at E15
    have g2 := obj_keep E15 (by first | exact d2_15 | exact fun e => d15_2 e.symm) g2
    have g7 := obj_keep E15 (by first | exact d7_15 | exact fun e => d15_7 e.symm) g7
    have g11 := obj_keep E15 (by first | exact d11_15 | exact fun e => d15_11 e.symm) g11
    refine (k6 G8).pure_next _ ?_
    simp -implicitDefEqProofs only [go_sem, reduceEqDiff, reduceAdd, reduceLeDiff, reduceLT, reduceMul, reduceEq, Int.reduceLT, reduceLE, Int.reduceAdd, reduceSub, reduceToNat, UInt8.reduceToNat, z2, g15, g2, e1, e2]
    refine (hsm2 G8).pure_next _ ?_
    simp -implicitDefEqProofs only [go_sem, reduceEqDiff, reduceAdd, reduceLeDiff, reduceLT, reduceMul, reduceEq, Int.reduceLT, reduceLE, Int.reduceAdd, reduceSub, reduceToNat, UInt8.reduceToNat]
    exact Done.drop hS ⟨rfl, rfl⟩
end Go.Proofs
