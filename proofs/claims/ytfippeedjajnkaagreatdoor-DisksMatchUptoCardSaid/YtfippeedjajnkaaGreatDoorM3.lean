/-
  Walks and plain laws, part 3.
-/
import Derived.Test.YtfippeedjajnkaaGreatDoorM2
import Derived.Test.YtfippeedjajnkaaGreatDoorM1
import Derived.Test.YtfippeedjajnkaaGreatDoorAbs4
import Derived.Test.YtfippeedjajnkaaGreatDoorTy
import Derived.IntWalk
import Derived.Lib.MakeNoZero
import Derived.Lib.Builder
/- Walks: Check, on the program's side. -/
namespace Go.Proofs
open Go Go.Abs
set_option linter.unusedSimpArgs false
set_option linter.unusedVariables false
set_option maxRecDepth 20000
def sFactE : List AV → Option AV := fn1 (Rd.agg decSet) fun f => if setR f then some (.int .i64 (factErr f)) else none
def sKeyO : List AV → Option AV := fn1 (Rd.agg decSet) fun f => some (.str f.key)
def sNameO : List AV → Option AV := fn1 (Rd.agg decSvc) fun f => some (.str f.name)
theorem sFactE_ok {P : Program} {f : FuncId} (h : ∀ a H, setR a → ACalls P f [.agg (encSet a)] H fun x H' => x = .int .i64 (factErr a) ∧ H' = H) : ∀ xs v, sFactE xs = some v → ∀ H, ACalls P f xs H fun x H' => x = v ∧ H' = H := by
  intro xs v hv H
  obtain ⟨x, s, rfl, h1, h2⟩ := fn1_some hv
  split at h2
  · cases h2; cases Rd.agg_some (fun _ _ => decSet_some) h1; exact h s H ‹_›
  · cases h2
theorem keyOf_calls (f : SetV) (H : Heap) : ACalls Tryz.prog 68 [.agg (encSet f)] H fun x H' => x = .str f.key ∧ H' = H := by
  refine ACalls.of_code (X := { pure := pu0 }) pu0_ok Tryz.func68 (by kernel_rfl) rfl (by kernel_rfl) (Nat.le_of_ble_eq_true rfl) ?_
  simp -implicitDefEqProofs only [go_sem, Tryz.f68, encSet]
  with_reducible refine nwC_intro fun i1 h1 => ?_
  simp -implicitDefEqProofs only [go_sem]
  exact Done.drop1 h1 ⟨rfl, rfl⟩
theorem nameOf_calls (f : SvcV) (H : Heap) : ACalls Tryz.prog 76 [.agg (encSvc f)] H fun x H' => x = .str f.name ∧ H' = H := by
  refine ACalls.of_code (X := { pure := pu0 }) pu0_ok Tryz.func76 (by kernel_rfl) rfl (by kernel_rfl) (Nat.le_of_ble_eq_true rfl) ?_
  simp -implicitDefEqProofs only [go_sem, Tryz.f76, encSvc]
  with_reducible refine nwC_intro fun i1 h1 => ?_
  simp -implicitDefEqProofs only [go_sem]
  exact Done.drop1 h1 ⟨rfl, rfl⟩
theorem sKeyO_ok {P : Program} {f : FuncId} (h : ∀ a H, ACalls P f [.agg (encSet a)] H fun x H' => x = .str a.key ∧ H' = H) : ∀ xs v, sKeyO xs = some v → ∀ H, ACalls P f xs H fun x H' => x = v ∧ H' = H := by
  intro xs v hv H
  obtain ⟨x, s, rfl, h1, h2⟩ := fn1_some hv
  cases h2; cases Rd.agg_some (fun _ _ => decSet_some) h1; exact h s H
theorem sNameO_ok {P : Program} {f : FuncId} (h : ∀ a H, ACalls P f [.agg (encSvc a)] H fun x H' => x = .str a.name ∧ H' = H) : ∀ xs v, sNameO xs = some v → ∀ H, ACalls P f xs H fun x H' => x = v ∧ H' = H := by
  intro xs v hv H
  obtain ⟨x, s, rfl, h1, h2⟩ := fn1_some hv
  cases h2; cases Rd.agg_some (fun _ _ => decSvc_some) h1; exact h s H
theorem setFaultN_calls (f : SetV) (H : Heap) (hr : setR f) : ACalls Tryz.prog 67 [.agg (encSet f), .func 41 []] H fun x H' => x = .int .i64 (factErr f) ∧ H' = H := by
  obtain ⟨h1, h2⟩ := hr
  have hR : Room = 1099511627776 := rfl
  refine ACalls.of_code (X := { pure := puM }) puM_ok Tryz.func67 (by kernel_rfl) rfl (by kernel_rfl) (Nat.le_of_ble_eq_true rfl) ?_
  simp -implicitDefEqProofs only [go_sem, Tryz.f67, encSet]
  with_reducible refine nwC_intro fun id hid => ?_
  simp -implicitDefEqProofs only [go_sem, puM, puN, sStr_eq, hR, h1, h2]
  repeat' (first | (with_reducible refine gd_intro (fun h => ?_) (fun h => ?_) <;> first | (exact absurd h (by decide)) | (simp at h; done) | simp -implicitDefEqProofs (disch := omega) only [go_sem, Go.IntWalk.i64_in, puM, puN, sStr_eq, hR, *]) | (with_reducible refine cnd_intro (fun h => ?_) (fun h => ?_) <;> first | (exact absurd h (by decide)) | (simp at h; done) | simp -implicitDefEqProofs (disch := omega) only [go_sem, Go.IntWalk.i64_in, puM, puN, sStr_eq, hR, *]))
  all_goals refine Done.drop1 hid ⟨?_, rfl⟩
  all_goals simp_all [factErr]
theorem check1_calls (f : SetV) (H : Heap) (hr : setR f) : ACalls Tryz.prog 66 [.agg (encSet f)] H fun x H' => x = .int .i64 (factErr f) ∧ H' = H := by
  refine ACalls.of_code (X := { pure := pu0 }) pu0_ok Tryz.func66 (by kernel_rfl) rfl (by kernel_rfl) (Nat.le_of_ble_eq_true rfl) ?_
  simp -implicitDefEqProofs only [go_sem, Tryz.f66, encSet]
  with_reducible refine nwC_intro fun i1 h1 => ?_
  simp -implicitDefEqProofs only [go_sem]
  refine (setFaultN_calls f _ hr).pure_next _ ?_
  simp -implicitDefEqProofs only [go_sem]
  exact Done.drop1 h1 ⟨rfl, rfl⟩
theorem check3_calls (f : SetV) (H : Heap) (hr : setR f) : ACalls Tryz.prog 72 [.agg (encSet f)] H fun x H' => x = .int .i64 (setErr f) ∧ H' = H := by
  refine ACalls.of_code (X := { pure := pu0 }) pu0_ok Tryz.func72 (by kernel_rfl) rfl (by kernel_rfl) (Nat.le_of_ble_eq_true rfl) ?_
  simp -implicitDefEqProofs only [go_sem, Tryz.f72, encSet]
  with_reducible refine nwC_intro fun i1 h1 => ?_
  simp -implicitDefEqProofs only [go_sem]
  refine (settingFault_calls f _ hr).pure_next _ ?_
  simp -implicitDefEqProofs only [go_sem]
  exact Done.drop1 h1 ⟨rfl, rfl⟩
def sNone : List AV → Option AV := fun _ => none
/-- A number that no function has, to say that what is called by way of a register is known. -/
theorem dyn_ok {P : Program} : ∀ xs v, sNone xs = some v → ∀ H, ACalls P 999999999 xs H fun x H' => x = v ∧ H' = H := fun xs v h => by cases h
noncomputable def puE : Pures := putP 999999999 sNone (putP 66 sFactE (putP 72 sSetE (putP 75 sSvcE (putP 68 sKeyO (putP 76 sNameO pu0)))))
theorem puE_dyn : isDyn puE = true := by simp only [puE, go_sem, Nat.reduceEqDiff]
attribute [go_sem] puE_dyn
theorem puE_ok : PuOK Tryz.prog puE := .put (.put (.put (.put (.put (.put (pu0_ok) (sNameO_ok nameOf_calls)) (sKeyO_ok keyOf_calls)) (sSvcE_ok serviceFault_calls)) (sSetE_ok check3_calls)) (sFactE_ok check1_calls)) dyn_ok
set_option maxHeartbeats 1600000 in
theorem eachFact_calls (l : List SetV) (t : Tail) (H : Heap) (hl : l.length ≤ 1099511627776) (hr : ∀ x ∈ l, setR x) : ACalls Tryz.prog 65 [.sl (l.map encSet) t, .func 66 [], .func 68 []] H fun x H' => x = .int .i64 (eachE factErr (·.key) none l) ∧ H' = H := by
  refine ACalls.of_code (X := { pure := puE }) puE_ok Tryz.func65 (by kernel_rfl) rfl (by kernel_rfl) (Nat.le_of_ble_eq_true rfl) ?_
  simp -implicitDefEqProofs only [go_sem, Tryz.f65]
  refine aloop_intro (σ := Nat) (fun i => [(0, .sl (l.map encSet) t), (1, .func 66 []), (2, .func 68 []), (10, .sl (l.map encSet) t), (11, .int .i64 l.length), (12, .int .i64 i)])
    (fun i G => H.Sub G ∧ i ≤ l.length ∧ eachE factErr (·.key) none l = eachE factErr (·.key) (prevK (·.key) l i) (l.drop i)) (fun i => l.length - i) 0 ?_ ?_ ?_
  · simp -implicitDefEqProofs only [go_sem]
  · exact ⟨Heap.Sub.rfl' H, Nat.zero_le _, rfl⟩
  rintro i r G hv ⟨hS, hi, hE⟩
  have h0 := hv.1
  have h1 := hv.2.1
  have h2 := hv.2.2.1
  have h10 := hv.2.2.2.1
  have h11 := hv.2.2.2.2.1
  have h12 := hv.2.2.2.2.2.1
  clear hv
  by_cases g : i < l.length
  rotate_left
  · have y0 : decide ((i : Int) < l.length) = false := decide_eq_false (by omega)
    obtain rfl : i = l.length := by omega
    rw [List.drop_length, eachE] at hE
    simp -implicitDefEqProofs only [go_sem, h0, h1, h2, h10, h11, h12, y0]
    exact Done.drop hS ⟨by rw [hE], rfl⟩
  have y0 : decide ((i : Int) < l.length) = true := decide_eq_true (by omega)
  obtain ⟨x, hx⟩ : ∃ x, l[i]? = some x := getD_get' g
  have hxr := hr x (List.mem_of_getElem? hx)
  have ws : IntKind.i64.wrap ((i : Int) + 1) = ((i + 1 : Nat) : Int) := by rw [Go.IntWalk.i64_in _ (by omega)]; omega
  rw [drop_at hx, eachE] at hE
  have hps := prevK_succ (·.key) hx
  have hU : ∀ (a : SetV), a ∈ l → (encSet a).length = 2 := fun _ _ => rfl
  obtain ⟨xkey, xvalue⟩ := x
  simp -implicitDefEqProofs only [go_sem, h0, h1, h2, h10, h11, h12, y0, hx]
  refine ⟨hU, Nat.le_refl _, ?_⟩
  simp only [encSet, List.take_succ_cons, List.take_zero, List.take_nil]
  with_reducible refine nwC_intro fun i8 hi8 => ?_
  simp -implicitDefEqProofs only [go_sem]
  generalize E8 : Heap.put G i8 _ = G8
  have hO_8 := obj_new E8 hi8 hS
  have n8 := hO_8.1
  have hS := hO_8.2.1
  have g8 := hO_8.2.2.1
  clear hO_8
  by_cases c1 : factErr ⟨xkey, xvalue⟩ = 0
  rotate_left
  · have y1 : decide (¬ factErr ⟨xkey, xvalue⟩ = 0) = true := decide_eq_true c1
    rw [if_pos c1] at hE
    simp -implicitDefEqProofs only [go_sem, h0, h1, h2, h10, h11, h12, puE, sFactE, hxr, y1]
    exact Done.drop hS ⟨by rw [hE], rfl⟩
  have y1 : decide (¬ factErr ⟨xkey, xvalue⟩ = 0) = false := decide_eq_false (by simpa using c1)
  rw [if_neg (by simpa using c1)] at hE
  by_cases c2 : i = 0
  · subst c2
    have y2 : decide ((0 : Int) < ((0 : Nat) : Int)) = false := rfl
    have y3 : decide ((0 : Int) < 0) = false := rfl
    have w10 : IntKind.i64.wrap 1 = 1 := by decide
    simp -implicitDefEqProofs only [go_sem, h0, h1, h2, h10, h11, h12, puE, sFactE, hxr, y1, y2, y3, ws]
    rw [if_neg (by simp [prevK, ordB]), ← hps] at hE
    exact Again.mk 1 (by simp -implicitDefEqProofs only [go_sem, h0, h1, h2, h10, h11, w10]) ⟨hS, by omega, hE⟩ (by omega)
  have y2 : decide ((0 : Int) < (i : Int)) = true := decide_eq_true (by omega)
  have w1 : IntKind.i64.wrap ((i : Int) - 1) = ((i - 1 : Nat) : Int) := by rw [Go.IntWalk.i64_in _ (by omega)]; omega
  obtain ⟨q, hq⟩ : ∃ q, l[i - 1]? = some q := getD_get' (by omega)
  have hpk : prevK (·.key) l i = some (q.key) := by unfold prevK; rw [if_neg c2, hq]; rfl
  rw [hpk] at hE
  obtain ⟨qkey, qvalue⟩ := q
  simp -implicitDefEqProofs only [go_sem, h0, h1, h2, h10, h11, h12, puE, sFactE, sKeyO, hxr, y1, y2, w1, hq, g8]
  refine ⟨by omega, Nat.le_refl _, ?_⟩
  simp only [encSet, List.take_succ_cons, List.take_zero, List.take_nil]
  by_cases c3 : leB xkey qkey = true
  · have y3 : (strLt xkey qkey || decide (xkey = qkey)) = true := c3
    rw [if_pos (show ordB (some qkey) xkey = true from c3)] at hE
    simp -implicitDefEqProofs only [go_sem, h0, h1, h2, h10, h11, h12, puE, sFactE, sKeyO, hxr, y1, y2, y3, w1, hq, g8]
    exact Done.drop hS ⟨by rw [hE], rfl⟩
  · have y3 : (strLt xkey qkey || decide (xkey = qkey)) = false := by simpa [leB] using c3
    rw [if_neg (show ¬ ordB (some qkey) xkey = true from c3), ← hps] at hE
    simp -implicitDefEqProofs only [go_sem, h0, h1, h2, h10, h11, h12, puE, sFactE, sKeyO, hxr, y1, y2, y3, w1, hq, g8, ws]
    exact Again.mk (i + 1) (by simp -implicitDefEqProofs only [go_sem, h0, h1, h2, h10, h11]) ⟨hS, by omega, hE⟩ (by omega)

set_option maxHeartbeats 1600000 in
theorem eachSet_calls (l : List SetV) (t : Tail) (H : Heap) (hl : l.length ≤ 1099511627776) (hr : ∀ x ∈ l, setR x) : ACalls Tryz.prog 65 [.sl (l.map encSet) t, .func 72 [], .func 68 []] H fun x H' => x = .int .i64 (eachE setErr (·.key) none l) ∧ H' = H := by
  refine ACalls.of_code (X := { pure := puE }) puE_ok Tryz.func65 (by kernel_rfl) rfl (by kernel_rfl) (Nat.le_of_ble_eq_true rfl) ?_
  simp -implicitDefEqProofs only [go_sem, Tryz.f65]
  refine aloop_intro (σ := Nat) (fun i => [(0, .sl (l.map encSet) t), (1, .func 72 []), (2, .func 68 []), (10, .sl (l.map encSet) t), (11, .int .i64 l.length), (12, .int .i64 i)])
    (fun i G => H.Sub G ∧ i ≤ l.length ∧ eachE setErr (·.key) none l = eachE setErr (·.key) (prevK (·.key) l i) (l.drop i)) (fun i => l.length - i) 0 ?_ ?_ ?_
  · simp -implicitDefEqProofs only [go_sem]
  · exact ⟨Heap.Sub.rfl' H, Nat.zero_le _, rfl⟩
  rintro i r G hv ⟨hS, hi, hE⟩
  have h0 := hv.1
  have h1 := hv.2.1
  have h2 := hv.2.2.1
  have h10 := hv.2.2.2.1
  have h11 := hv.2.2.2.2.1
  have h12 := hv.2.2.2.2.2.1
  clear hv
  by_cases g : i < l.length
  rotate_left
  · have y0 : decide ((i : Int) < l.length) = false := decide_eq_false (by omega)
    obtain rfl : i = l.length := by omega
    rw [List.drop_length, eachE] at hE
    simp -implicitDefEqProofs only [go_sem, h0, h1, h2, h10, h11, h12, y0]
    exact Done.drop hS ⟨by rw [hE], rfl⟩
  have y0 : decide ((i : Int) < l.length) = true := decide_eq_true (by omega)
  obtain ⟨x, hx⟩ : ∃ x, l[i]? = some x := getD_get' g
  have hxr := hr x (List.mem_of_getElem? hx)
  have ws : IntKind.i64.wrap ((i : Int) + 1) = ((i + 1 : Nat) : Int) := by rw [Go.IntWalk.i64_in _ (by omega)]; omega
  rw [drop_at hx, eachE] at hE
  have hps := prevK_succ (·.key) hx
  have hU : ∀ (a : SetV), a ∈ l → (encSet a).length = 2 := fun _ _ => rfl
  obtain ⟨xkey, xvalue⟩ := x
  simp -implicitDefEqProofs only [go_sem, h0, h1, h2, h10, h11, h12, y0, hx]
  refine ⟨hU, Nat.le_refl _, ?_⟩
  simp only [encSet, List.take_succ_cons, List.take_zero, List.take_nil]
  with_reducible refine nwC_intro fun i8 hi8 => ?_
  simp -implicitDefEqProofs only [go_sem]
  generalize E8 : Heap.put G i8 _ = G8
  have hO_8 := obj_new E8 hi8 hS
  have n8 := hO_8.1
  have hS := hO_8.2.1
  have g8 := hO_8.2.2.1
  clear hO_8
  by_cases c1 : setErr ⟨xkey, xvalue⟩ = 0
  rotate_left
  · have y1 : decide (¬ setErr ⟨xkey, xvalue⟩ = 0) = true := decide_eq_true c1
    rw [if_pos c1] at hE
    simp -implicitDefEqProofs only [go_sem, h0, h1, h2, h10, h11, h12, puE, sSetE, hxr, y1]
    exact Done.drop hS ⟨by rw [hE], rfl⟩
  have y1 : decide (¬ setErr ⟨xkey, xvalue⟩ = 0) = false := decide_eq_false (by simpa using c1)
  rw [if_neg (by simpa using c1)] at hE
  by_cases c2 : i = 0
  · subst c2
    have y2 : decide ((0 : Int) < ((0 : Nat) : Int)) = false := rfl
    have y3 : decide ((0 : Int) < 0) = false := rfl
    have w10 : IntKind.i64.wrap 1 = 1 := by decide
    simp -implicitDefEqProofs only [go_sem, h0, h1, h2, h10, h11, h12, puE, sSetE, hxr, y1, y2, y3, ws]
    rw [if_neg (by simp [prevK, ordB]), ← hps] at hE
    exact Again.mk 1 (by simp -implicitDefEqProofs only [go_sem, h0, h1, h2, h10, h11, w10]) ⟨hS, by omega, hE⟩ (by omega)
  have y2 : decide ((0 : Int) < (i : Int)) = true := decide_eq_true (by omega)
  have w1 : IntKind.i64.wrap ((i : Int) - 1) = ((i - 1 : Nat) : Int) := by rw [Go.IntWalk.i64_in _ (by omega)]; omega
  obtain ⟨q, hq⟩ : ∃ q, l[i - 1]? = some q := getD_get' (by omega)
  have hpk : prevK (·.key) l i = some (q.key) := by unfold prevK; rw [if_neg c2, hq]; rfl
  rw [hpk] at hE
  obtain ⟨qkey, qvalue⟩ := q
  simp -implicitDefEqProofs only [go_sem, h0, h1, h2, h10, h11, h12, puE, sSetE, sKeyO, hxr, y1, y2, w1, hq, g8]
  refine ⟨by omega, Nat.le_refl _, ?_⟩
  simp only [encSet, List.take_succ_cons, List.take_zero, List.take_nil]
  by_cases c3 : leB xkey qkey = true
  · have y3 : (strLt xkey qkey || decide (xkey = qkey)) = true := c3
    rw [if_pos (show ordB (some qkey) xkey = true from c3)] at hE
    simp -implicitDefEqProofs only [go_sem, h0, h1, h2, h10, h11, h12, puE, sSetE, sKeyO, hxr, y1, y2, y3, w1, hq, g8]
    exact Done.drop hS ⟨by rw [hE], rfl⟩
  · have y3 : (strLt xkey qkey || decide (xkey = qkey)) = false := by simpa [leB] using c3
    rw [if_neg (show ¬ ordB (some qkey) xkey = true from c3), ← hps] at hE
    simp -implicitDefEqProofs only [go_sem, h0, h1, h2, h10, h11, h12, puE, sSetE, sKeyO, hxr, y1, y2, y3, w1, hq, g8, ws]
    exact Again.mk (i + 1) (by simp -implicitDefEqProofs only [go_sem, h0, h1, h2, h10, h11]) ⟨hS, by omega, hE⟩ (by omega)

set_option maxHeartbeats 1600000 in
theorem eachSvc_calls (l : List SvcV) (t : Tail) (H : Heap) (hl : l.length ≤ 1099511627776) (hr : ∀ x ∈ l, svcR x) : ACalls Tryz.prog 74 [.sl (l.map encSvc) t, .func 75 [], .func 76 []] H fun x H' => x = .int .i64 (eachE svcErr (·.name) none l) ∧ H' = H := by
  refine ACalls.of_code (X := { pure := puE }) puE_ok Tryz.func74 (by kernel_rfl) rfl (by kernel_rfl) (Nat.le_of_ble_eq_true rfl) ?_
  simp -implicitDefEqProofs only [go_sem, Tryz.f74]
  refine aloop_intro (σ := Nat) (fun i => [(0, .sl (l.map encSvc) t), (1, .func 75 []), (2, .func 76 []), (10, .sl (l.map encSvc) t), (11, .int .i64 l.length), (12, .int .i64 i)])
    (fun i G => H.Sub G ∧ i ≤ l.length ∧ eachE svcErr (·.name) none l = eachE svcErr (·.name) (prevK (·.name) l i) (l.drop i)) (fun i => l.length - i) 0 ?_ ?_ ?_
  · simp -implicitDefEqProofs only [go_sem]
  · exact ⟨Heap.Sub.rfl' H, Nat.zero_le _, rfl⟩
  rintro i r G hv ⟨hS, hi, hE⟩
  have h0 := hv.1
  have h1 := hv.2.1
  have h2 := hv.2.2.1
  have h10 := hv.2.2.2.1
  have h11 := hv.2.2.2.2.1
  have h12 := hv.2.2.2.2.2.1
  clear hv
  by_cases g : i < l.length
  rotate_left
  · have y0 : decide ((i : Int) < l.length) = false := decide_eq_false (by omega)
    obtain rfl : i = l.length := by omega
    rw [List.drop_length, eachE] at hE
    simp -implicitDefEqProofs only [go_sem, h0, h1, h2, h10, h11, h12, y0]
    exact Done.drop hS ⟨by rw [hE], rfl⟩
  have y0 : decide ((i : Int) < l.length) = true := decide_eq_true (by omega)
  obtain ⟨x, hx⟩ : ∃ x, l[i]? = some x := getD_get' g
  have hxr := hr x (List.mem_of_getElem? hx)
  have ws : IntKind.i64.wrap ((i : Int) + 1) = ((i + 1 : Nat) : Int) := by rw [Go.IntWalk.i64_in _ (by omega)]; omega
  rw [drop_at hx, eachE] at hE
  have hps := prevK_succ (·.name) hx
  have hU : ∀ (a : SvcV), a ∈ l → (encSvc a).length = 4 := fun _ _ => rfl
  obtain ⟨xname, xpath, xauto, xon⟩ := x
  simp -implicitDefEqProofs only [go_sem, h0, h1, h2, h10, h11, h12, y0, hx]
  refine ⟨hU, Nat.le_refl _, ?_⟩
  simp only [encSvc, List.take_succ_cons, List.take_zero, List.take_nil]
  with_reducible refine nwC_intro fun i8 hi8 => ?_
  simp -implicitDefEqProofs only [go_sem]
  generalize E8 : Heap.put G i8 _ = G8
  have hO_8 := obj_new E8 hi8 hS
  have n8 := hO_8.1
  have hS := hO_8.2.1
  have g8 := hO_8.2.2.1
  clear hO_8
  by_cases c1 : svcErr ⟨xname, xpath, xauto, xon⟩ = 0
  rotate_left
  · have y1 : decide (¬ svcErr ⟨xname, xpath, xauto, xon⟩ = 0) = true := decide_eq_true c1
    rw [if_pos c1] at hE
    simp -implicitDefEqProofs only [go_sem, h0, h1, h2, h10, h11, h12, puE, sSvcE, hxr, y1]
    exact Done.drop hS ⟨by rw [hE], rfl⟩
  have y1 : decide (¬ svcErr ⟨xname, xpath, xauto, xon⟩ = 0) = false := decide_eq_false (by simpa using c1)
  rw [if_neg (by simpa using c1)] at hE
  by_cases c2 : i = 0
  · subst c2
    have y2 : decide ((0 : Int) < ((0 : Nat) : Int)) = false := rfl
    have y3 : decide ((0 : Int) < 0) = false := rfl
    have w10 : IntKind.i64.wrap 1 = 1 := by decide
    simp -implicitDefEqProofs only [go_sem, h0, h1, h2, h10, h11, h12, puE, sSvcE, hxr, y1, y2, y3, ws]
    rw [if_neg (by simp [prevK, ordB]), ← hps] at hE
    exact Again.mk 1 (by simp -implicitDefEqProofs only [go_sem, h0, h1, h2, h10, h11, w10]) ⟨hS, by omega, hE⟩ (by omega)
  have y2 : decide ((0 : Int) < (i : Int)) = true := decide_eq_true (by omega)
  have w1 : IntKind.i64.wrap ((i : Int) - 1) = ((i - 1 : Nat) : Int) := by rw [Go.IntWalk.i64_in _ (by omega)]; omega
  obtain ⟨q, hq⟩ : ∃ q, l[i - 1]? = some q := getD_get' (by omega)
  have hpk : prevK (·.name) l i = some (q.name) := by unfold prevK; rw [if_neg c2, hq]; rfl
  rw [hpk] at hE
  obtain ⟨qname, qpath, qauto, qon⟩ := q
  simp -implicitDefEqProofs only [go_sem, h0, h1, h2, h10, h11, h12, puE, sSvcE, sNameO, hxr, y1, y2, w1, hq, g8]
  refine ⟨by omega, Nat.le_refl _, ?_⟩
  simp only [encSvc, List.take_succ_cons, List.take_zero, List.take_nil]
  by_cases c3 : leB xname qname = true
  · have y3 : (strLt xname qname || decide (xname = qname)) = true := c3
    rw [if_pos (show ordB (some qname) xname = true from c3)] at hE
    simp -implicitDefEqProofs only [go_sem, h0, h1, h2, h10, h11, h12, puE, sSvcE, sNameO, hxr, y1, y2, y3, w1, hq, g8]
    exact Done.drop hS ⟨by rw [hE], rfl⟩
  · have y3 : (strLt xname qname || decide (xname = qname)) = false := by simpa [leB] using c3
    rw [if_neg (show ¬ ordB (some qname) xname = true from c3), ← hps] at hE
    simp -implicitDefEqProofs only [go_sem, h0, h1, h2, h10, h11, h12, puE, sSvcE, sNameO, hxr, y1, y2, y3, w1, hq, g8, ws]
    exact Again.mk (i + 1) (by simp -implicitDefEqProofs only [go_sem, h0, h1, h2, h10, h11]) ⟨hS, by omega, hE⟩ (by omega)

end Go.Proofs

/- Walks: strings.Builder. -/
namespace Go.Proofs
open Go Go.Abs
set_option linter.unusedSimpArgs false
set_option linter.unusedVariables false

/-- Bytes as cells of a slice. -/
def bcell (b : UInt8) : List AV := [.int .u8 b.toNat]
abbrev bldP (b : Nat) : AV := .tptr 147 2 b
def addrOK (b : Nat) (p : AV) : Prop := p = .nilp ∨ p = bldP b
/-- The builder 'b' holds these bytes; 'H': what there is beside it. -/
def BufOK (g : Bool) (H G : Heap) (b : Nat) (buf : AV) (l : Bytes) : Prop := buf = .snil ∧ l = [] ∨ ∃ t, buf = .sl (l.map bcell) (.tok t 1 (some 5)) ∧ H t = none ∧ G t = some (.tail l.length) ∧ ¬ t = b ∧ (g = false → l ≠ [])
/-- .. 'g': it may have got room, and hold nothing. -/
def BldG (g : Bool) (H G : Heap) (b : Nat) (l : Bytes) : Prop := H.Sub G ∧ H b = none ∧ ∃ p buf, G b = some (.cells [p, buf]) ∧ addrOK b p ∧ BufOK g H G b buf l
abbrev BldOK (H G : Heap) (b : Nat) (l : Bytes) : Prop := BldG false H G b l
/-- What a builder's writing leaves of other objects. -/
def tokOf (G : Heap) (b : Nat) : Option Nat := match G b with
  | some (.cells [_, .sl _ (.tok t _ _)]) => some t
  | _ => none
def BKept (b : Nat) (G G' : Heap) : Prop := ∀ i o, G i = some o → ¬ i = b → tokOf G b ≠ some i → G' i = some o
theorem BldG.sub {g : Bool} {H G : Heap} {b : Nat} {l : Bytes} (h : BldG g H G b l) : H.Sub G := h.1
theorem BldG.tok {g : Bool} {H G : Heap} {b : Nat} {l : Bytes} (h : BldG g H G b l) {t : Nat} (ht : tokOf G b = some t) : H t = none := by
  obtain ⟨_, _, p, buf, h3, h4, h5⟩ := h
  unfold tokOf at ht
  rw [h3] at ht
  rcases h5 with ⟨rfl, -⟩ | ⟨t', rfl, h6, -⟩
  · cases ht
  · cases ht; exact h6
/-- Objects that stand beside stay. -/
theorem BldG.kept {g : Bool} {H G G' : Heap} {b : Nat} {l : Bytes} (h : BldG g H G b l) (hk : BKept b G G') {i : Nat} {o : AObj} (hi : H i = some o) : G' i = some o :=
  hk i o (h.1 i o hi) (fun e => by subst e; rw [h.2.1] at hi; cases hi) (fun e => by rw [h.tok e] at hi; cases hi)
theorem BldG.put {g : Bool} {H G : Heap} {b : Nat} {l : Bytes} (h : BldG g H G b l) {i : Nat} (hi : G i = none) (o : AObj) : BldG g H (G.put i o) b l := by
  obtain ⟨h1, h2, p, buf, h3, h4, h5⟩ := h
  have hH : H i = none := by
    cases hh : H i with
    | none => rfl
    | some x => have := h1 i x hh; rw [hi] at this; cases this
  have hb : ¬ b = i := fun e => by subst e; rw [h3] at hi; cases hi
  refine ⟨h1.put' hH o, h2, p, buf, by rw [put_ne _ _ _ _ hb]; exact h3, h4, ?_⟩
  rcases h5 with h5 | ⟨t, t1, t2, t3, t4, t9⟩
  · exact .inl h5
  · have ht : ¬ t = i := fun e => by subst e; rw [t3] at hi; cases hi
    exact .inr ⟨t, t1, t2, by rw [put_ne _ _ _ _ ht]; exact t3, t4, t9⟩
/-- A new builder. -/
theorem BldG.new {H G : Heap} (h : H.Sub G) {b : Nat} (hb : G b = none) : BldOK H (G.put b (.cells [.nilp, .snil])) b [] := by
  have hH : H b = none := by
    cases hh : H b with
    | none => rfl
    | some x => have := h b x hh; rw [hb] at this; cases this
  exact ⟨h.put' hH _, hH, _, _, put_same _ _ _, .inl rfl, .inl ⟨rfl, rfl⟩⟩
/-! ### In passing -/
end Go.Proofs

/- Plain laws: what is quoted, and what quotes are read as. -/
namespace Go.Proofs
set_option linter.unusedSimpArgs false
set_option linter.unusedVariables false
end Go.Proofs

/- Walks: Quote, on both sides. -/
namespace Go.Proofs
open Go Go.Abs
set_option linter.unusedSimpArgs false
set_option linter.unusedVariables false
set_option maxRecDepth 20000
theorem u8_eq {c : UInt8} {n : Nat} (h : n < 256) : ((c.toNat : Int) = n) ↔ c = UInt8.ofNat n := by
  constructor
  · intro e
    apply UInt8.toNat_inj.1
    simp only [UInt8.toNat_ofNat']
    omega
  · rintro rfl
    simp only [UInt8.toNat_ofNat']
    omega
/-! ### The reference's -/
end Go.Proofs

/- Walks: Check, on the program's side. -/
namespace Go.Proofs
open Go Go.Abs
set_option linter.unusedSimpArgs false
set_option linter.unusedVariables false
set_option maxRecDepth 20000
/-- The map of paths stands behind a cell. -/
def PathsOK (G : Heap) (i5 im : Nat) (seen : List Bytes) : Prop := G i5 = some (.cells [.map im]) ∧ ∃ es, G im = some (.map .str es) ∧ SeenOK es seen
theorem check2_calls (G : Heap) (i5 im : Nat) (seen : List Bytes) (d : Bytes) (h : PathsOK G i5 im seen) : ACalls Tryz.prog 71 [.str d, .ptr i5 0] G fun x H' => x = .bool (!seen.contains d) ∧ H' = G := by
  obtain ⟨h1, es, h2, h3⟩ := h
  have hg := h3.get d
  refine ACalls.of_code (X := { pure := pu0 }) pu0_ok Tryz.func71 (by kernel_rfl) rfl (by kernel_rfl) (Nat.le_of_ble_eq_true rfl) ?_
  simp -implicitDefEqProofs only [go_sem, Tryz.f71, h1, h2, hg]
  exact Done.now ⟨rfl, rfl⟩
set_option maxHeartbeats 1600000 in
theorem above_calls (p : Bytes) (G : Heap) (i5 im : Nat) (seen : List Bytes) (h : PathsOK G i5 im seen) (hp : p.length ≤ 1099511627776) :
    ACalls Tryz.prog 70 [.str p, .func 71 [.ptr i5 0]] G fun x H' => x = .bool (!clash seen p) ∧ H' = G := by
  refine ACalls.of_code (X := { pure := pu0 }) pu0_ok Tryz.func70 (by kernel_rfl) rfl (by kernel_rfl) (Nat.le_of_ble_eq_true rfl) ?_
  simp -implicitDefEqProofs only [go_sem, Tryz.f70]
  refine aloop_intro (σ := Nat) (fun i => [(0, .str p), (1, .func 71 [.ptr i5 0]), (5, .int .i64 i)]) (fun i G' => G' = G ∧ i ≤ p.length ∧ clashTo seen p i = false) (fun i => p.length - i) 0 ?_ ?_ ?_
  · simp -implicitDefEqProofs only [go_sem]
  · exact ⟨rfl, Nat.zero_le _, rfl⟩
  rintro i r G' hv ⟨rfl, hi, hE⟩
  have h0 := hv.1
  have h1 := hv.2.1
  have h5 := hv.2.2.1
  clear hv
  by_cases g : i < p.length
  rotate_left
  · have y0 : decide ((i : Int) < p.length) = false := decide_eq_false (by omega)
    obtain rfl : i = p.length := by omega
    simp -implicitDefEqProofs only [go_sem, h0, h1, h5, y0]
    exact Done.now ⟨by rw [← clashTo_all, hE]; rfl, rfl⟩
  have y0 : decide ((i : Int) < p.length) = true := decide_eq_true (by omega)
  obtain ⟨c, hc⟩ : ∃ c, p[i]? = some c := getD_get' g
  have ws : IntKind.i64.wrap ((i : Int) + 1) = ((i + 1 : Nat) : Int) := by rw [Go.IntWalk.i64_in _ (by omega)]; omega
  have e47 := @u8_eq c 47 (by decide)
  have hs := clashTo_succ seen p i
  rw [hE, hc, Bool.false_or] at hs
  by_cases c1 : c = 47
  rotate_left
  · have y1 : decide ((c.toNat : Int) = 47) = false := decide_eq_false (fun e => c1 (e47.1 e))
    simp -implicitDefEqProofs only [go_sem, h0, h1, h5, y0, hc, y1, ws]
    exact Again.mk (i + 1) (by simp -implicitDefEqProofs only [go_sem, h0, h1, h5]) ⟨rfl, by omega, by rw [hs]; simp [c1]⟩ (by omega)
  have y1 : decide ((c.toNat : Int) = 47) = true := decide_eq_true (e47.2 c1)
  subst c1
  rw [decide_eq_true rfl, Bool.true_and] at hs
  simp -implicitDefEqProofs only [go_sem, h0, h1, h5, y0, hc, y1, Int.toNat_natCast]
  refine ⟨by omega, ?_⟩
  refine (check2_calls _ i5 im seen _ h).pure_next _ ?_
  by_cases c2 : seen.contains (p.take i) = true
  · rw [c2] at hs ⊢
    simp -implicitDefEqProofs only [go_sem, h0, h1, h5]
    exact Done.now ⟨by rw [← clashTo_all, clashTo_mono hs _ (by omega)]; rfl, rfl⟩
  · have c2 : seen.contains (p.take i) = false := by simpa using c2
    rw [c2] at hs ⊢
    simp -implicitDefEqProofs only [go_sem, h0, h1, h5, ws]
    exact Again.mk (i + 1) (by simp -implicitDefEqProofs only [go_sem, h0, h1, h5]) ⟨rfl, by omega, hs⟩ (by omega)
theorem macErr_counts {m : MacV} (h : 100 < m.facts.length ∨ 2000 < m.files.length ∨ 2000 < m.sets.length ∨ 100 < m.svcs.length) : macErr m = 4 := by rw [macErr, if_pos h]
def FilesI (m : MacV) (ta tb tc td : Tail) (H : Heap) (i1 i5 im : Nat) (i : Nat) (G : Heap) : Prop := H.Sub G ∧ i ≤ m.files.length ∧ G i1 = some (.cells (encMac m ta tb tc td)) ∧ ∃ seen, PathsOK G i5 im seen ∧ filesE none [] m.files = filesE (prevK (·.path) m.files i) seen (m.files.drop i)
set_option maxHeartbeats 6400000 in
theorem check_calls (m : MacV) (ta tb tc td : Tail) (H : Heap) (hr : macR m) : ACalls Tryz.prog 15 [.agg (encMac m ta tb tc td)] H fun x H' => x = .int .i64 (macErr m) ∧ H' = H := by
  obtain ⟨⟨l1, l2, l3, l4⟩, r1, r2, r3, r4⟩ := hr
  have hM := macErr.eq_1 m
  have hS := Heap.Sub.rfl' H
  have q1 := fun G => eachFact_calls m.facts ta G l1 r1
  have q3 := fun G => eachSet_calls m.sets tc G l3 r3
  have q4 := fun G => eachSvc_calls m.svcs td G l4 r4
  refine ACalls.of_code (X := { pure := pu0 }) pu0_ok Tryz.func15 (by kernel_rfl) rfl (by kernel_rfl) (Nat.le_of_ble_eq_true rfl) ?_
  simp -implicitDefEqProofs only [go_sem, Tryz.f15, encMac]
  with_reducible refine nwC_intro fun i1 hi1 => ?_
  generalize E1 : Heap.put H i1 _ = G1
  have hO_1 := obj_new E1 hi1 hS
  have n1 := hO_1.1
  have hS := hO_1.2.1
  have g1 := hO_1.2.2.1
  clear hO_1
  by_cases c1 : 100 < m.facts.length
  · have y1 : decide ((100 : Int) < (m.facts.length : Int)) = true := decide_eq_true (by omega)
    simp -implicitDefEqProofs only [go_sem, g1, y1]
    exact Done.drop hS ⟨by rw [macErr_counts (.inl c1)], rfl⟩
  have y1 : decide ((100 : Int) < (m.facts.length : Int)) = false := decide_eq_false (by omega)
  by_cases c2 : 2000 < m.files.length
  · have y2 : decide ((2000 : Int) < (m.files.length : Int)) = true := decide_eq_true (by omega)
    simp -implicitDefEqProofs only [go_sem, g1, y1, y2]
    exact Done.drop hS ⟨by rw [macErr_counts (.inr (.inl c2))], rfl⟩
  have y2 : decide ((2000 : Int) < (m.files.length : Int)) = false := decide_eq_false (by omega)
  by_cases c3 : 2000 < m.sets.length
  · have y3 : decide ((2000 : Int) < (m.sets.length : Int)) = true := decide_eq_true (by omega)
    simp -implicitDefEqProofs only [go_sem, g1, y1, y2, y3]
    exact Done.drop hS ⟨by rw [macErr_counts (.inr (.inr (.inl c3)))], rfl⟩
  have y3 : decide ((2000 : Int) < (m.sets.length : Int)) = false := decide_eq_false (by omega)
  by_cases c4 : 100 < m.svcs.length
  · have y4 : decide ((100 : Int) < (m.svcs.length : Int)) = true := decide_eq_true (by omega)
    simp -implicitDefEqProofs only [go_sem, g1, y1, y2, y3, y4]
    exact Done.drop hS ⟨by rw [macErr_counts (.inr (.inr (.inr c4)))], rfl⟩
  have y4 : decide ((100 : Int) < (m.svcs.length : Int)) = false := decide_eq_false (by omega)
  rw [if_neg (by omega)] at hM
  simp -implicitDefEqProofs only [go_sem, g1, y1, y2, y3, y4]
  refine (q1 _).pure_next _ ?_
  by_cases d1 : eachE factErr (·.key) none m.facts = 0
  rotate_left
  · have z1 : decide (¬ eachE factErr (·.key) none m.facts = 0) = true := decide_eq_true d1
    rw [if_pos d1] at hM
    simp -implicitDefEqProofs only [go_sem, z1]
    exact Done.drop hS ⟨by rw [hM], rfl⟩
  have z1 : decide (¬ eachE factErr (·.key) none m.facts = 0) = false := decide_eq_false (by simpa using d1)
  rw [if_neg (by simpa using d1)] at hM
  simp -implicitDefEqProofs only [go_sem, z1]
  with_reducible refine nwM_intro fun im him => ?_
  generalize Eim : Heap.put G1 im _ = G2
  have hO_im := obj_new Eim him hS
  have nim := hO_im.1
  have hS := hO_im.2.1
  have gim := hO_im.2.2.1
  have d1_im := obj_ne g1 him
  have g1 := hO_im.2.2.2 _ _ g1
  clear hO_im
  simp -implicitDefEqProofs only [go_sem]
  with_reducible refine nwC_intro fun i5 hi5 => ?_
  simp -implicitDefEqProofs only [go_sem]
  generalize E5 : Heap.put G2 i5 _ = G5
  have hO_5 := obj_new E5 hi5 hS
  have n5 := hO_5.1
  have hS := hO_5.2.1
  have g5 := hO_5.2.2.1
  have d1_5 := obj_ne g1 hi5
  have g1 := hO_5.2.2.2 _ _ g1
  have dim_5 := obj_ne gim hi5
  have gim := hO_5.2.2.2 _ _ gim
  clear hO_5
  simp -implicitDefEqProofs only [go_sem, g1]
  have hFI : FilesI m ta tb tc td H i1 i5 im 0 G5 := ⟨hS, Nat.zero_le _, g1, [], ⟨g5, [], gim, SeenOK.nil⟩, rfl⟩
  clear gim g1 g5 hS hi1 him hi5
  refine aloop_intro (σ := Nat) (fun i => [(1, .ptr i1 0), (4, .str ((prevK (·.path) m.files i).getD [])), (5, .ptr i5 0), (40, .sl (m.files.map encFile) tb), (41, .int .i64 m.files.length), (42, .int .i64 i)])
    (FilesI m ta tb tc td H i1 i5 im) (fun i => m.files.length - i) 0 ?_ ?_ ?_
  · simp -implicitDefEqProofs only [go_sem]
    simp [prevK]
  · exact hFI
  clear hFI
  rintro i r G hv ⟨hS, hi, g1, seen, ⟨g5, es, gim, hse⟩, hE⟩
  have h1 := hv.1
  have h4 := hv.2.1
  have h5 := hv.2.2.1
  have h40 := hv.2.2.2.1
  have h41 := hv.2.2.2.2.1
  have h42 := hv.2.2.2.2.2.1
  clear hv
  simp only [encMac] at g1
  by_cases g : i < m.files.length
  rotate_left
  · have x0 : decide ((i : Int) < m.files.length) = false := decide_eq_false (by omega)
    obtain rfl : i = m.files.length := by omega
    rw [List.drop_length, filesE] at hE
    rw [if_neg (by simpa using hE)] at hM
    simp -implicitDefEqProofs only [go_sem, h1, h40, h41, h42, x0, g1]
    refine (q3 _).pure_next _ ?_
    by_cases d3 : eachE setErr (·.key) none m.sets = 0
    rotate_left
    · have z3 : decide (¬ eachE setErr (·.key) none m.sets = 0) = true := decide_eq_true d3
      rw [if_pos d3] at hM
      simp -implicitDefEqProofs only [go_sem, z3]
      exact Done.drop hS ⟨by rw [hM], rfl⟩
    have z3 : decide (¬ eachE setErr (·.key) none m.sets = 0) = false := decide_eq_false (by simpa using d3)
    rw [if_neg (by simpa using d3)] at hM
    simp -implicitDefEqProofs only [go_sem, z3, h1, g1]
    refine (q4 _).pure_next _ ?_
    simp -implicitDefEqProofs only [go_sem]
    exact Done.drop hS ⟨by rw [hM], rfl⟩
  have x0 : decide ((i : Int) < m.files.length) = true := decide_eq_true (by omega)
  obtain ⟨x, hx⟩ : ∃ x, m.files[i]? = some x := getD_get' g
  have hxr := r2 x (List.mem_of_getElem? hx)
  have hff := fun G => fileFault_calls x G hxr
  have ws : IntKind.i64.wrap ((i : Int) + 1) = ((i + 1 : Nat) : Int) := by rw [Go.IntWalk.i64_in _ (by omega)]; omega
  rw [drop_at hx, filesE] at hE
  have hps := prevK_succ (·.path) hx
  have hU : ∀ (a : FileV), a ∈ m.files → (encFile a).length = 3 := fun _ _ => rfl
  have hpl : x.path.length ≤ 1099511627776 := hxr.1
  have hab := fun G => above_calls x.path G i5 im seen
  obtain ⟨xp, xd, xr⟩ := x
  simp only [encFile] at hff
  simp only at hpl hab hps hE
  simp -implicitDefEqProofs only [go_sem, h1, h40, h41, h42, x0, hx]
  refine ⟨hU, Nat.le_refl _, ?_⟩
  simp only [encFile, List.take_succ_cons, List.take_zero, List.take_nil]
  with_reducible refine nwC_intro fun i7 hi7 => ?_
  simp -implicitDefEqProofs only [go_sem]
  generalize E7 : Heap.put G i7 _ = G7
  have hO_7 := obj_new E7 hi7 hS
  have n7 := hO_7.1
  have hS := hO_7.2.1
  have g7 := hO_7.2.2.1
  have d1_7 := obj_ne g1 hi7
  have g1 := hO_7.2.2.2 _ _ g1
  have d5_7 := obj_ne g5 hi7
  have g5 := hO_7.2.2.2 _ _ g5
  have dim_7 := obj_ne gim hi7
  have gim := hO_7.2.2.2 _ _ gim
  clear hO_7
  refine (hff _).pure_next _ ?_
  by_cases e1 : fileErr ⟨xp, xd, xr⟩ = 0
  rotate_left
  · have x1 : decide (¬ fileErr ⟨xp, xd, xr⟩ = 0) = true := decide_eq_true e1
    rw [if_pos e1] at hE
    rw [if_pos (by rw [hE]; exact e1), hE] at hM
    simp -implicitDefEqProofs only [go_sem, x1]
    exact Done.drop hS ⟨by rw [hM], rfl⟩
  have x1 : decide (¬ fileErr ⟨xp, xd, xr⟩ = 0) = false := decide_eq_false (by simpa using e1)
  rw [if_neg (by simpa using e1)] at hE
  have hpo : PathsOK G7 i5 im seen := ⟨g5, es, gim, hse⟩
  by_cases e2 : ordB (prevK (·.path) m.files i) xp = true
  · rw [if_pos e2] at hE
    rw [if_pos (by rw [hE]; decide), hE] at hM
    have c2 : ¬ i = 0 := by rintro rfl; simp [prevK, ordB] at e2
    obtain ⟨q, hq⟩ : ∃ q, m.files[i - 1]? = some q := getD_get' (by omega)
    have hpk : prevK (·.path) m.files i = some q.path := by unfold prevK; rw [if_neg c2, hq]; rfl
    rw [hpk] at e2 h4
    rw [Option.getD_some] at h4
    have x2 : decide ((0 : Int) < (i : Int)) = true := decide_eq_true (by omega)
    have x3 : (strLt xp q.path || decide (xp = q.path)) = true := e2
    simp -implicitDefEqProofs only [go_sem, x1, h1, h4, h5, h40, h41, h42, x2, x3, g7]
    exact Done.drop hS ⟨by rw [hM], rfl⟩
  rw [if_neg e2] at hE
  have w10 : IntKind.i64.wrap 1 = 1 := by decide
  have tail : ∀ (K : K1), (clash seen xp = true → K (.bool false) G7) → (clash seen xp = false → K (.bool true) G7) → ACalls Tryz.prog 70 [.str xp, .func 71 [.ptr i5 0]] G7 K := fun K k1 k2 => by
    refine (hab G7 hpo hpl).mono ?_
    rintro v G' ⟨rfl, rfl⟩
    cases hc : clash seen xp with
    | true => exact k1 hc
    | false => exact k2 hc
  have e3 : ∀ G8, clash seen xp = false → (G8 = G7.put im (.map .str (mset es (.s xp) (.bool true)))) → FilesI m ta tb tc td H i1 i5 im (i + 1) G8 := fun G8 h1 h2 => by
    subst h2
    rw [h1, if_neg (by simp)] at hE
    refine ⟨hS.put' nim _, by omega, by rw [put_ne _ _ _ _ d1_im]; simp only [encMac]; exact g1, xp :: seen, ⟨by rw [put_ne _ _ _ _ (fun e => dim_5 e.symm)]; exact g5, _, put_same _ _ _, hse.set xp⟩, ?_⟩
    rw [hE, hps]
  by_cases c2 : i = 0
  · subst c2
    have x2 : decide ((0 : Int) < 0) = false := rfl
    simp -implicitDefEqProofs only [go_sem, x1, h1, h4, h5, h40, h41, h42, x2, g7]
    refine tail _ (fun hc => ?_) (fun hc => ?_)
    · rw [hc, if_pos rfl] at hE
      rw [if_pos (by rw [hE]; decide), hE] at hM
      simp -implicitDefEqProofs only [go_sem]
      exact Done.drop hS ⟨by rw [hM], rfl⟩
    · simp -implicitDefEqProofs only [go_sem, h1, h5, h40, h41, h42, g7, g5, gim, w10]
      exact Again.mk 1 (by simp -implicitDefEqProofs only [go_sem, h1, h5, h40, h41, hps, Option.getD_some]) (e3 _ hc rfl) (by omega)
  · have x2 : decide ((0 : Int) < (i : Int)) = true := decide_eq_true (by omega)
    obtain ⟨q, hq⟩ : ∃ q, m.files[i - 1]? = some q := getD_get' (by omega)
    have hpk : prevK (·.path) m.files i = some q.path := by unfold prevK; rw [if_neg c2, hq]; rfl
    rw [hpk] at e2 h4
    rw [Option.getD_some] at h4
    have x3 : (strLt xp q.path || decide (xp = q.path)) = false := by simpa [ordB, leB] using e2
    simp -implicitDefEqProofs only [go_sem, x1, h1, h4, h5, h40, h41, h42, x2, x3, g7]
    refine tail _ (fun hc => ?_) (fun hc => ?_)
    · rw [hc, if_pos rfl] at hE
      rw [if_pos (by rw [hE]; decide), hE] at hM
      simp -implicitDefEqProofs only [go_sem]
      exact Done.drop hS ⟨by rw [hM], rfl⟩
    · simp -implicitDefEqProofs only [go_sem, h1, h5, h40, h41, h42, g7, g5, gim, ws]
      exact Again.mk (i + 1) (by simp -implicitDefEqProofs only [go_sem, h1, h5, h40, h41, hps, Option.getD_some]) (e3 _ hc rfl) (by omega)
end Go.Proofs
