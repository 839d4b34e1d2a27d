/-
  Walks and plain laws, part 7.
-/
import Derived.Test.YtloodfinfbmmkaaDoorM5
import Derived.Test.YtloodfinfbmmkaaDoorM6
import Derived.Test.YtloodfinfbmmkaaDoorM1
/- Walks: Check, on the reference's side. -/
namespace Go.Proofs
open Go Go.Abs
set_option linter.unusedSimpArgs false
set_option linter.unusedVariables false
set_option maxRecDepth 20000
def puRC : Pures := putP 67 (sStr nameB) (putP 68 (sStr valueB) (putP 69 sFileE (putP 70 sSetE (putP 71 sSvcE (putP 66 sFirst (putP 65 sWhen pu0))))))
theorem puRC_dyn : isDyn puRC = false := by simp only [puRC, go_sem, Nat.reduceEqDiff]
attribute [go_sem] puRC_dyn
theorem puRC_ok : PuOK Tryd.prog puRC := .put (.put (.put (.put (.put (.put (.put (pu0_ok) (sWhen_ok when_calls)) (sFirst_ok first_calls)) (sSvcE_ok rServiceError_calls)) (sSetE_ok rSettingError_calls)) (sFileE_ok rFileError_calls)) (sStr_ok rIsValue_calls)) (sStr_ok rIsName_calls)
/-- The order, as a number. -/
def bV (p : Option Bytes) (k : Bytes) : Int := if ordB p k = true then 7 else 0
theorem behind_calls (i : Nat) (k z : Bytes) (p : Option Bytes) (i3 : Nat) (G : Heap) (h : G i3 = some (.cells [.str z])) (hp : p = if i = 0 then none else some z) :
    ACalls Tryd.prog 64 [.int .i64 i, .str k, .ptr i3 0] G fun x H' => x = .int .i64 (bV p k) ∧ H' = G.put i3 (.cells [.str k]) := by
  by_cases c : i = 0
  · subst c
    have y : decide ((0 : Int) < ((0 : Nat) : Int)) = false := rfl
    have y2 : decide ((0 : Int) < 0) = false := rfl
    refine ACalls.of_code (X := { pure := puRC }) puRC_ok Tryd.func64 (by kernel_rfl) rfl (by kernel_rfl) (Nat.le_of_ble_eq_true rfl) ?_
    simp -implicitDefEqProofs only [go_sem, tys, regs0, Nat.reduceEqDiff, Nat.reduceAdd, Nat.reduceLeDiff, Nat.reduceLT, Nat.reduceMul, Int.natCast_one, Int.natCast_zero, Int.reduceEq, Int.reduceLT, Int.reduceLE, Int.reduceAdd, Int.reduceSub, Int.reduceToNat, UInt8.reduceToNat, Tryd.f64, h, y, y2]
    simp -implicitDefEqProofs only [go_sem, tys, regs0, Nat.reduceEqDiff, Nat.reduceAdd, Nat.reduceLeDiff, Nat.reduceLT, Nat.reduceMul, Int.natCast_one, Int.natCast_zero, Int.reduceEq, Int.reduceLT, Int.reduceLE, Int.reduceAdd, Int.reduceSub, Int.reduceToNat, UInt8.reduceToNat, puRC, sWhen_eq]
    exact Done.now ⟨by rw [hp]; rfl, rfl⟩
  · have y : decide ((0 : Int) < (i : Int)) = true := decide_eq_true (by omega)
    rw [if_neg c] at hp
    subst hp
    by_cases c2 : leB k z = true
    · have y2 : (strLt k z || decide (k = z)) = true := c2
      refine ACalls.of_code (X := { pure := puRC }) puRC_ok Tryd.func64 (by kernel_rfl) rfl (by kernel_rfl) (Nat.le_of_ble_eq_true rfl) ?_
      simp -implicitDefEqProofs only [go_sem, tys, regs0, Nat.reduceEqDiff, Nat.reduceAdd, Nat.reduceLeDiff, Nat.reduceLT, Nat.reduceMul, Int.natCast_one, Int.natCast_zero, Int.reduceEq, Int.reduceLT, Int.reduceLE, Int.reduceAdd, Int.reduceSub, Int.reduceToNat, UInt8.reduceToNat, Tryd.f64, h, y, y2]
      simp -implicitDefEqProofs only [go_sem, tys, regs0, Nat.reduceEqDiff, Nat.reduceAdd, Nat.reduceLeDiff, Nat.reduceLT, Nat.reduceMul, Int.natCast_one, Int.natCast_zero, Int.reduceEq, Int.reduceLT, Int.reduceLE, Int.reduceAdd, Int.reduceSub, Int.reduceToNat, UInt8.reduceToNat, puRC, sWhen_eq]
      exact Done.now ⟨by rw [bV, if_pos (show ordB (some z) k = true from c2)], rfl⟩
    · have y2 : (strLt k z || decide (k = z)) = false := by simpa [leB] using c2
      refine ACalls.of_code (X := { pure := puRC }) puRC_ok Tryd.func64 (by kernel_rfl) rfl (by kernel_rfl) (Nat.le_of_ble_eq_true rfl) ?_
      simp -implicitDefEqProofs only [go_sem, tys, regs0, Nat.reduceEqDiff, Nat.reduceAdd, Nat.reduceLeDiff, Nat.reduceLT, Nat.reduceMul, Int.natCast_one, Int.natCast_zero, Int.reduceEq, Int.reduceLT, Int.reduceLE, Int.reduceAdd, Int.reduceSub, Int.reduceToNat, UInt8.reduceToNat, Tryd.f64, h, y, y2]
      simp -implicitDefEqProofs only [go_sem, tys, regs0, Nat.reduceEqDiff, Nat.reduceAdd, Nat.reduceLeDiff, Nat.reduceLT, Nat.reduceMul, Int.natCast_one, Int.natCast_zero, Int.reduceEq, Int.reduceLT, Int.reduceLE, Int.reduceAdd, Int.reduceSub, Int.reduceToNat, UInt8.reduceToNat, puRC, sWhen_eq]
      exact Done.now ⟨by rw [bV, if_neg (show ¬ ordB (some z) k = true from c2)], rfl⟩
theorem first2 (e b : Int) : firstOf [e, b] = if e ≠ 0 then e else b := by
  by_cases h : e = 0 <;> by_cases g : b = 0 <;> simp [firstOf, h, g]
theorem first3 (k v : Bytes) (b : Int) : firstOf [if nameB k = false then 5 else 0, if valueB v = false then 2 else 0, b] = if factErr ⟨k, v⟩ ≠ 0 then factErr ⟨k, v⟩ else b := by
  cases h1 : nameB k <;> cases h2 : valueB v <;> by_cases g : b = 0 <;> simp [firstOf, factErr, h1, h2, g]
theorem eachE_step {α : Type} (err : α → Int) (key : α → Bytes) {p : Option Bytes} {x : α} {l : List α} {e : Int} (he : e = if err x ≠ 0 then err x else bV p (key x)) : eachE err key p (x :: l) = if e ≠ 0 then e else eachE err key (some (key x)) l := by
  rw [eachE, he]
  unfold bV
  by_cases h : err x = 0 <;> by_cases g : ordB p (key x) = true <;> simp [h, g]
theorem filesE_step {p : Option Bytes} {seen : List Bytes} {x : FileV} {l : List FileV} {e : Int} (he : e = if fileErr x ≠ 0 then fileErr x else bV p x.path) :
    filesE p seen (x :: l) = if e ≠ 0 then e else if clash seen x.path = true then 11 else filesE (some x.path) (x.path :: seen) l := by
  rw [filesE, he]
  unfold bV
  by_cases h : fileErr x = 0 <;> by_cases g : ordB p x.path = true <;> simp [h, g]
def RcM (m : MacV) (ta tb tc td : Tail) (H : Heap) (i1 i3 : Nat) (G : Heap) (z : Bytes) : Prop := H.Sub G ∧ G i1 = some (.cells (encMac m ta tb tc td)) ∧ G i3 = some (.cells [.str z])
def RcI {α : Type} (err : α → Int) (key : α → Bytes) (l : List α) (m : MacV) (ta tb tc td : Tail) (H : Heap) (i1 i3 : Nat) (i : Nat) (G : Heap) : Prop :=
  i ≤ l.length ∧ eachE err key none l = eachE err key (prevK key l i) (l.drop i) ∧ ∃ z, RcM m ta tb tc td H i1 i3 G z ∧ prevK key l i = if i = 0 then none else some z
def RcQ (p : Prop) (m : MacV) (ta tb tc td : Tail) (H : Heap) (i1 i3 : Nat) (r : Regs) (G : Heap) : Prop := p ∧ (∃ z, RcM m ta tb tc td H i1 i3 G z) ∧ agrees r [(1, .ptr i1 0), (4, .func 64 [.ptr i3 0])]
theorem _root_.Go.Abs.ACalls.pure_next2 {P : Program} {f : FuncId} {args : List AV} {H H1 : Heap} {K : K1} {x : AV} (h : ACalls P f args H fun y H' => y = x ∧ H' = H1) (hK : K x H1) : ACalls P f args H K := by
  refine h.mono ?_
  rintro x H' ⟨rfl, rfl⟩
  exact hK
set_option maxHeartbeats 12800000 in
theorem rCheck_calls (m : MacV) (ta tb tc td : Tail) (H : Heap) (hr : macR m) : ACalls Tryd.prog 26 [.agg (encMac m ta tb tc td)] H fun x H' => x = .int .i64 (macErr m) ∧ H' = H := by
  obtain ⟨⟨l1, l2, l3, l4⟩, r1, r2, r3, r4⟩ := hr
  have hR : Room = 1099511627776 := rfl
  have hM := macErr.eq_1 m
  have hS := Heap.Sub.rfl' H
  refine ACalls.of_code (X := { pure := puRC }) puRC_ok Tryd.func26 (by kernel_rfl) rfl (by kernel_rfl) (Nat.le_of_ble_eq_true rfl) ?_
  simp -implicitDefEqProofs only [go_sem, tys, regs0, Nat.reduceEqDiff, Nat.reduceAdd, Nat.reduceLeDiff, Nat.reduceLT, Nat.reduceMul, Int.natCast_one, Int.natCast_zero, Int.reduceEq, Int.reduceLT, Int.reduceLE, Int.reduceAdd, Int.reduceSub, Int.reduceToNat, UInt8.reduceToNat, Tryd.f26, encMac]
  with_reducible refine nwC_intro fun i1 hi1 => ?_
  generalize E1 : Heap.put H i1 _ = G1
  have hO_1 := obj_new E1 hi1 hS
  have n1 := hO_1.1
  have hS := hO_1.2.1
  have g1 := hO_1.2.2.1
  clear hO_1
  by_cases c1 : 100 < m.facts.length
  · have y1 : decide ((100 : Int) < (m.facts.length : Int)) = true := decide_eq_true (by omega)
    simp -implicitDefEqProofs only [go_sem, tys, regs0, Nat.reduceEqDiff, Nat.reduceAdd, Nat.reduceLeDiff, Nat.reduceLT, Nat.reduceMul, Int.natCast_one, Int.natCast_zero, Int.reduceEq, Int.reduceLT, Int.reduceLE, Int.reduceAdd, Int.reduceSub, Int.reduceToNat, UInt8.reduceToNat, g1, y1]
    exact Done.drop hS ⟨by rw [macErr_counts (.inl c1)], rfl⟩
  have y1 : decide ((100 : Int) < (m.facts.length : Int)) = false := decide_eq_false (by omega)
  by_cases c2 : 2000 < m.files.length
  · have y2 : decide ((2000 : Int) < (m.files.length : Int)) = true := decide_eq_true (by omega)
    simp -implicitDefEqProofs only [go_sem, tys, regs0, Nat.reduceEqDiff, Nat.reduceAdd, Nat.reduceLeDiff, Nat.reduceLT, Nat.reduceMul, Int.natCast_one, Int.natCast_zero, Int.reduceEq, Int.reduceLT, Int.reduceLE, Int.reduceAdd, Int.reduceSub, Int.reduceToNat, UInt8.reduceToNat, g1, y1, y2]
    exact Done.drop hS ⟨by rw [macErr_counts (.inr (.inl c2))], rfl⟩
  have y2 : decide ((2000 : Int) < (m.files.length : Int)) = false := decide_eq_false (by omega)
  by_cases c3 : 2000 < m.sets.length
  · have y3 : decide ((2000 : Int) < (m.sets.length : Int)) = true := decide_eq_true (by omega)
    simp -implicitDefEqProofs only [go_sem, tys, regs0, Nat.reduceEqDiff, Nat.reduceAdd, Nat.reduceLeDiff, Nat.reduceLT, Nat.reduceMul, Int.natCast_one, Int.natCast_zero, Int.reduceEq, Int.reduceLT, Int.reduceLE, Int.reduceAdd, Int.reduceSub, Int.reduceToNat, UInt8.reduceToNat, g1, y1, y2, y3]
    exact Done.drop hS ⟨by rw [macErr_counts (.inr (.inr (.inl c3)))], rfl⟩
  have y3 : decide ((2000 : Int) < (m.sets.length : Int)) = false := decide_eq_false (by omega)
  by_cases c4 : 100 < m.svcs.length
  · have y4 : decide ((100 : Int) < (m.svcs.length : Int)) = true := decide_eq_true (by omega)
    simp -implicitDefEqProofs only [go_sem, tys, regs0, Nat.reduceEqDiff, Nat.reduceAdd, Nat.reduceLeDiff, Nat.reduceLT, Nat.reduceMul, Int.natCast_one, Int.natCast_zero, Int.reduceEq, Int.reduceLT, Int.reduceLE, Int.reduceAdd, Int.reduceSub, Int.reduceToNat, UInt8.reduceToNat, g1, y1, y2, y3, y4]
    exact Done.drop hS ⟨by rw [macErr_counts (.inr (.inr (.inr c4)))], rfl⟩
  have y4 : decide ((100 : Int) < (m.svcs.length : Int)) = false := decide_eq_false (by omega)
  rw [if_neg (by omega)] at hM
  simp -implicitDefEqProofs only [go_sem, tys, regs0, Nat.reduceEqDiff, Nat.reduceAdd, Nat.reduceLeDiff, Nat.reduceLT, Nat.reduceMul, Int.natCast_one, Int.natCast_zero, Int.reduceEq, Int.reduceLT, Int.reduceLE, Int.reduceAdd, Int.reduceSub, Int.reduceToNat, UInt8.reduceToNat, g1, y1, y2, y3, y4]
  with_reducible refine nwC_intro fun i3 hi3 => ?_
  simp -implicitDefEqProofs only [go_sem, tys, regs0, Nat.reduceEqDiff, Nat.reduceAdd, Nat.reduceLeDiff, Nat.reduceLT, Nat.reduceMul, Int.natCast_one, Int.natCast_zero, Int.reduceEq, Int.reduceLT, Int.reduceLE, Int.reduceAdd, Int.reduceSub, Int.reduceToNat, UInt8.reduceToNat]
  generalize E3 : Heap.put G1 i3 _ = G3
  have hO_3 := obj_new E3 hi3 hS
  have n3 := hO_3.1
  have hS := hO_3.2.1
  have g3 := hO_3.2.2.1
  have d1_3 := obj_ne g1 hi3
  have g1 := hO_3.2.2.2 _ _ g1
  clear hO_3
  have hZ : RcM m ta tb tc td H i1 i3 G3 [] := ⟨hS, g1, g3⟩
  simp -implicitDefEqProofs only [go_sem, tys, regs0, Nat.reduceEqDiff, Nat.reduceAdd, Nat.reduceLeDiff, Nat.reduceLT, Nat.reduceMul, Int.natCast_one, Int.natCast_zero, Int.reduceEq, Int.reduceLT, Int.reduceLE, Int.reduceAdd, Int.reduceSub, Int.reduceToNat, UInt8.reduceToNat, g1]
  clear y1 y2 y3 y4 c1 c2 c3 c4 hi3 hi1 g3 hS
  with_reducible refine aloop_cut 0 (RcQ (eachE factErr (·.key) none m.facts = 0) m ta tb tc td H i1 i3) ?_ ?_
  rotate_left
  · refine aloop_intro (σ := Nat) (fun i => [(1, .ptr i1 0), (4, .func 64 [.ptr i3 0]), (43, .sl (m.facts.map encSet) ta), (44, .int .i64 m.facts.length), (45, .int .i64 i)])
      (RcI factErr (·.key) m.facts m ta tb tc td H i1 i3) (fun i => m.facts.length - i) 0 ?_ ?_ ?_
    · simp -implicitDefEqProofs only [go_sem, tys, regs0, Nat.reduceEqDiff, Nat.reduceAdd, Nat.reduceLeDiff, Nat.reduceLT, Nat.reduceMul, Int.natCast_one, Int.natCast_zero, Int.reduceEq, Int.reduceLT, Int.reduceLE, Int.reduceAdd, Int.reduceSub, Int.reduceToNat, UInt8.reduceToNat]
    · exact ⟨Nat.zero_le _, rfl, [], hZ, rfl⟩
    clear hZ
    rintro i r G hv ⟨hi, hE, z, ⟨hS, g1, g3⟩, hp⟩
    have h1 := hv.1
    have h4 := hv.2.1
    have hl := hv.2.2.1
    have hn := hv.2.2.2.1
    have hi2 := hv.2.2.2.2.1
    clear hv
    by_cases g : i < m.facts.length
    rotate_left
    · have x0 : decide ((i : Int) < m.facts.length) = false := decide_eq_false (by omega)
      obtain rfl : i = m.facts.length := by omega
      rw [List.drop_length, eachE] at hE
      simp -implicitDefEqProofs only [go_sem, tys, regs0, Nat.reduceEqDiff, Nat.reduceAdd, Nat.reduceLeDiff, Nat.reduceLT, Nat.reduceMul, Int.natCast_one, Int.natCast_zero, Int.reduceEq, Int.reduceLT, Int.reduceLE, Int.reduceAdd, Int.reduceSub, Int.reduceToNat, UInt8.reduceToNat, h1, h4, hl, hn, hi2, x0]
      exact ⟨hE, ⟨z, hS, g1, g3⟩, by simp -implicitDefEqProofs only [go_sem, tys, regs0, Nat.reduceEqDiff, Nat.reduceAdd, Nat.reduceLeDiff, Nat.reduceLT, Nat.reduceMul, Int.natCast_one, Int.natCast_zero, Int.reduceEq, Int.reduceLT, Int.reduceLE, Int.reduceAdd, Int.reduceSub, Int.reduceToNat, UInt8.reduceToNat, h1, h4]⟩
    have x0 : decide ((i : Int) < m.facts.length) = true := decide_eq_true (by omega)
    obtain ⟨x, hx⟩ : ∃ x, m.facts[i]? = some x := getD_get' g
    have hxr := r1 x (List.mem_of_getElem? hx)
    have ws : IntKind.i64.wrap ((i : Int) + 1) = ((i + 1 : Nat) : Int) := by rw [Go.IntWalk.i64_in _ (by omega)]; omega
    have hps := prevK_succ (·.key) hx
    have hU : ∀ (a : SetV), a ∈ m.facts → (encSet a).length = 2 := fun _ _ => rfl
    rw [drop_at hx] at hE
    obtain ⟨xkey, xvalue⟩ := x
    have hr1 := hxr.1
    have hr2 := hxr.2
    simp only at hr1 hr2 hps
    rw [eachE_step factErr (·.key) rfl] at hE
    have hb := fun G (h : G i3 = some (.cells [.str z])) => behind_calls i xkey z _ i3 G h hp
    generalize prevK (·.key) m.facts i = pk at *
    simp -implicitDefEqProofs only [go_sem, tys, regs0, Nat.reduceEqDiff, Nat.reduceAdd, Nat.reduceLeDiff, Nat.reduceLT, Nat.reduceMul, Int.natCast_one, Int.natCast_zero, Int.reduceEq, Int.reduceLT, Int.reduceLE, Int.reduceAdd, Int.reduceSub, Int.reduceToNat, UInt8.reduceToNat, h1, h4, hl, hn, hi2, x0, hx]
    refine ⟨hU, Nat.le_refl _, ?_⟩
    simp only [encSet, List.take_succ_cons, List.take_zero, List.take_nil]
    with_reducible refine nwC_intro fun i6 hi6 => ?_
    simp -implicitDefEqProofs only [go_sem, tys, regs0, Nat.reduceEqDiff, Nat.reduceAdd, Nat.reduceLeDiff, Nat.reduceLT, Nat.reduceMul, Int.natCast_one, Int.natCast_zero, Int.reduceEq, Int.reduceLT, Int.reduceLE, Int.reduceAdd, Int.reduceSub, Int.reduceToNat, UInt8.reduceToNat]
    generalize E6 : Heap.put G i6 _ = G6
    have hO_6 := obj_new E6 hi6 hS
    have n6 := hO_6.1
    have hS := hO_6.2.1
    have g6 := hO_6.2.2.1
    have d1_6 := obj_ne g1 hi6
    have g1 := hO_6.2.2.2 _ _ g1
    have d3_6 := obj_ne g3 hi6
    have g3 := hO_6.2.2.2 _ _ g3
    clear hO_6
    simp -implicitDefEqProofs only [go_sem, tys, regs0, Nat.reduceEqDiff, Nat.reduceAdd, Nat.reduceLeDiff, Nat.reduceLT, Nat.reduceMul, Int.natCast_one, Int.natCast_zero, Int.reduceEq, Int.reduceLT, Int.reduceLE, Int.reduceAdd, Int.reduceSub, Int.reduceToNat, UInt8.reduceToNat, h1, h4, hl, hn, hi2, g6, puRC, sStr_eq, sWhen_eq, hR, hr1, hr2, hxr]
    refine (hb _ g3).pure_next2 ?_
    generalize E3 : Heap.put G6 i3 _ = G7
    have hS := obj_sub E3 n3 hS
    have g3 := obj_at E3
    have g1 := obj_keep E3 (by first | exact d1_3 | exact fun e => d3_1 e.symm) g1
    have g6 := obj_keep E3 (by first | exact d6_3 | exact fun e => d3_6 e.symm) g6
    simp -implicitDefEqProofs only [go_sem, tys, regs0, Nat.reduceEqDiff, Nat.reduceAdd, Nat.reduceLeDiff, Nat.reduceLT, Nat.reduceMul, Int.natCast_one, Int.natCast_zero, Int.reduceEq, Int.reduceLT, Int.reduceLE, Int.reduceAdd, Int.reduceSub, Int.reduceToNat, UInt8.reduceToNat, h1, h4, hl, hn, hi2, g6, puRC, sFirst, first3]
    generalize (if factErr ⟨xkey, xvalue⟩ ≠ 0 then factErr ⟨xkey, xvalue⟩ else bV pk xkey) = e at *
    by_cases c1 : e = 0
    · have y1 : decide (¬ e = 0) = false := decide_eq_false (by simpa using c1)
      rw [if_neg (by simpa using c1), ← hps] at hE
      simp -implicitDefEqProofs only [go_sem, tys, regs0, Nat.reduceEqDiff, Nat.reduceAdd, Nat.reduceLeDiff, Nat.reduceLT, Nat.reduceMul, Int.natCast_one, Int.natCast_zero, Int.reduceEq, Int.reduceLT, Int.reduceLE, Int.reduceAdd, Int.reduceSub, Int.reduceToNat, UInt8.reduceToNat, h1, h4, hl, hn, hi2, y1, ws]
      exact Again.mk (i + 1) (by simp -implicitDefEqProofs only [go_sem, tys, regs0, Nat.reduceEqDiff, Nat.reduceAdd, Nat.reduceLeDiff, Nat.reduceLT, Nat.reduceMul, Int.natCast_one, Int.natCast_zero, Int.reduceEq, Int.reduceLT, Int.reduceLE, Int.reduceAdd, Int.reduceSub, Int.reduceToNat, UInt8.reduceToNat, h1, h4, hl, hn]) ⟨by omega, hE, xkey, ⟨hS, g1, g3⟩, by rw [hps, if_neg (by omega)]⟩ (by omega)
    · have y1 : decide (¬ e = 0) = true := decide_eq_true c1
      rw [if_pos c1] at hE
      simp -implicitDefEqProofs only [go_sem, tys, regs0, Nat.reduceEqDiff, Nat.reduceAdd, Nat.reduceLeDiff, Nat.reduceLT, Nat.reduceMul, Int.natCast_one, Int.natCast_zero, Int.reduceEq, Int.reduceLT, Int.reduceLE, Int.reduceAdd, Int.reduceSub, Int.reduceToNat, UInt8.reduceToNat, h1, h4, hl, hn, hi2, y1]
      exact Done.drop hS ⟨by rw [hM, if_pos (by rw [hE]; exact c1), hE], rfl⟩
  rintro r G ⟨he1, ⟨z, hZ⟩, hv⟩
  have h1 := hv.1
  have h4 := hv.2.1
  have g1 := hZ.2.1
  clear hv
  simp only [encMac] at g1
  rw [if_neg (by simpa using he1)] at hM
  simp -implicitDefEqProofs only [go_sem, tys, regs0, Nat.reduceEqDiff, Nat.reduceAdd, Nat.reduceLeDiff, Nat.reduceLT, Nat.reduceMul, Int.natCast_one, Int.natCast_zero, Int.reduceEq, Int.reduceLT, Int.reduceLE, Int.reduceAdd, Int.reduceSub, Int.reduceToNat, UInt8.reduceToNat, h1, h4, g1]
  with_reducible refine nwM_intro fun im him => ?_
  have hdS := hZ.1
  have hg3 := hZ.2.2
  obtain ⟨hS, _, g3⟩ := hZ
  generalize Eim : Heap.put G im _ = G2
  have hO_im := obj_new Eim him hS
  have nim := hO_im.1
  have hS := hO_im.2.1
  have gim := hO_im.2.2.1
  have d1_im := obj_ne g1 him
  have g1 := hO_im.2.2.2 _ _ g1
  have d3_im := obj_ne g3 him
  have g3 := hO_im.2.2.2 _ _ g3
  clear hO_im
  simp -implicitDefEqProofs only [go_sem, tys, regs0, Nat.reduceEqDiff, Nat.reduceAdd, Nat.reduceLeDiff, Nat.reduceLT, Nat.reduceMul, Int.natCast_one, Int.natCast_zero, Int.reduceEq, Int.reduceLT, Int.reduceLE, Int.reduceAdd, Int.reduceSub, Int.reduceToNat, UInt8.reduceToNat, h1, h4, g1]
  with_reducible refine aloop_cut 2 (RcQ (filesE none [] m.files = 0) m ta tb tc td H i1 i3) ?_ ?_
  rotate_left
  · refine aloop_intro (σ := Nat) (fun i => [(1, .ptr i1 0), (4, .func 64 [.ptr i3 0]), (8, .map im), (73, .sl (m.files.map encFile) tb), (74, .int .i64 m.files.length), (75, .int .i64 i)])
      (fun i G => i ≤ m.files.length ∧ (∃ z, RcM m ta tb tc td H i1 i3 G z ∧ prevK (·.path) m.files i = if i = 0 then none else some z) ∧ ∃ es seen, G im = some (.map .str es) ∧ SeenOK es seen ∧ filesE none [] m.files = filesE (prevK (·.path) m.files i) seen (m.files.drop i)) (fun i => m.files.length - i) 0 ?_ ?_ ?_
    · simp -implicitDefEqProofs only [go_sem, tys, regs0, Nat.reduceEqDiff, Nat.reduceAdd, Nat.reduceLeDiff, Nat.reduceLT, Nat.reduceMul, Int.natCast_one, Int.natCast_zero, Int.reduceEq, Int.reduceLT, Int.reduceLE, Int.reduceAdd, Int.reduceSub, Int.reduceToNat, UInt8.reduceToNat, h1, h4]
    · exact ⟨Nat.zero_le _, ⟨z, ⟨hS, g1, g3⟩, rfl⟩, [], [], gim, SeenOK.nil, rfl⟩
    clear g1 g3 hg3 hdS gim hS h1 h4
    rintro i r G hv ⟨hi, ⟨z, ⟨hS, g1, g3⟩, hp⟩, es, seen, gim, hse, hE⟩
    have h1 := hv.1
    have h4 := hv.2.1
    have h8 := hv.2.2.1
    have hl := hv.2.2.2.1
    have hn := hv.2.2.2.2.1
    have hi2 := hv.2.2.2.2.2.1
    clear hv
    by_cases g : i < m.files.length
    rotate_left
    · have x0 : decide ((i : Int) < m.files.length) = false := decide_eq_false (by omega)
      obtain rfl : i = m.files.length := by omega
      rw [List.drop_length, filesE] at hE
      simp -implicitDefEqProofs only [go_sem, tys, regs0, Nat.reduceEqDiff, Nat.reduceAdd, Nat.reduceLeDiff, Nat.reduceLT, Nat.reduceMul, Int.natCast_one, Int.natCast_zero, Int.reduceEq, Int.reduceLT, Int.reduceLE, Int.reduceAdd, Int.reduceSub, Int.reduceToNat, UInt8.reduceToNat, h1, h4, h8, hl, hn, hi2, x0]
      exact ⟨hE, ⟨z, hS, g1, g3⟩, by simp -implicitDefEqProofs only [go_sem, tys, regs0, Nat.reduceEqDiff, Nat.reduceAdd, Nat.reduceLeDiff, Nat.reduceLT, Nat.reduceMul, Int.natCast_one, Int.natCast_zero, Int.reduceEq, Int.reduceLT, Int.reduceLE, Int.reduceAdd, Int.reduceSub, Int.reduceToNat, UInt8.reduceToNat, h1, h4]⟩
    have x0 : decide ((i : Int) < m.files.length) = true := decide_eq_true (by omega)
    obtain ⟨x, hx⟩ : ∃ x, m.files[i]? = some x := getD_get' g
    have hxr := r2 x (List.mem_of_getElem? hx)
    have ws : IntKind.i64.wrap ((i : Int) + 1) = ((i + 1 : Nat) : Int) := by rw [Go.IntWalk.i64_in _ (by omega)]; omega
    have hps := prevK_succ (·.path) hx
    have hU : ∀ (a : FileV), a ∈ m.files → (encFile a).length = 3 := fun _ _ => rfl
    rw [drop_at hx] at hE
    obtain ⟨xpath, xdata, xruns⟩ := x
    have hr1 := hxr.1
    simp only at hr1 hps
    rw [filesE_step rfl] at hE
    simp only at hE
    have hb := fun G (h : G i3 = some (.cells [.str z])) => behind_calls i xpath z _ i3 G h hp
    generalize prevK (·.path) m.files i = pk at *
    simp -implicitDefEqProofs only [go_sem, tys, regs0, Nat.reduceEqDiff, Nat.reduceAdd, Nat.reduceLeDiff, Nat.reduceLT, Nat.reduceMul, Int.natCast_one, Int.natCast_zero, Int.reduceEq, Int.reduceLT, Int.reduceLE, Int.reduceAdd, Int.reduceSub, Int.reduceToNat, UInt8.reduceToNat, h1, h4, h8, hl, hn, hi2, x0, hx]
    refine ⟨hU, Nat.le_refl _, ?_⟩
    simp only [encFile, List.take_succ_cons, List.take_zero, List.take_nil]
    with_reducible refine nwC_intro fun i6 hi6 => ?_
    simp -implicitDefEqProofs only [go_sem, tys, regs0, Nat.reduceEqDiff, Nat.reduceAdd, Nat.reduceLeDiff, Nat.reduceLT, Nat.reduceMul, Int.natCast_one, Int.natCast_zero, Int.reduceEq, Int.reduceLT, Int.reduceLE, Int.reduceAdd, Int.reduceSub, Int.reduceToNat, UInt8.reduceToNat]
    generalize E6 : Heap.put G i6 _ = G6
    have hO_6 := obj_new E6 hi6 hS
    have n6 := hO_6.1
    have hS := hO_6.2.1
    have g6 := hO_6.2.2.1
    have d1_6 := obj_ne g1 hi6
    have g1 := hO_6.2.2.2 _ _ g1
    have d3_6 := obj_ne g3 hi6
    have g3 := hO_6.2.2.2 _ _ g3
    have dim_6 := obj_ne gim hi6
    have gim := hO_6.2.2.2 _ _ gim
    clear hO_6
    simp -implicitDefEqProofs only [go_sem, tys, regs0, Nat.reduceEqDiff, Nat.reduceAdd, Nat.reduceLeDiff, Nat.reduceLT, Nat.reduceMul, Int.natCast_one, Int.natCast_zero, Int.reduceEq, Int.reduceLT, Int.reduceLE, Int.reduceAdd, Int.reduceSub, Int.reduceToNat, UInt8.reduceToNat, h1, h4, h8, hl, hn, hi2, g6, puRC, sFileE, hxr]
    refine (hb _ g3).pure_next2 ?_
    generalize E3 : Heap.put G6 i3 _ = G7
    have hS := obj_sub E3 n3 hS
    have g3 := obj_at E3
    have g1 := obj_keep E3 (by first | exact d1_3 | exact fun e => d3_1 e.symm) g1
    have g6 := obj_keep E3 (by first | exact d6_3 | exact fun e => d3_6 e.symm) g6
    have gim := obj_keep E3 (by first | exact dim_3 | exact fun e => d3_im e.symm) gim
    simp -implicitDefEqProofs only [go_sem, tys, regs0, Nat.reduceEqDiff, Nat.reduceAdd, Nat.reduceLeDiff, Nat.reduceLT, Nat.reduceMul, Int.natCast_one, Int.natCast_zero, Int.reduceEq, Int.reduceLT, Int.reduceLE, Int.reduceAdd, Int.reduceSub, Int.reduceToNat, UInt8.reduceToNat, h1, h4, h8, hl, hn, hi2, g6, puRC, sFirst, first2]
    generalize (if fileErr ⟨xpath, xdata, xruns⟩ ≠ 0 then fileErr ⟨xpath, xdata, xruns⟩ else bV pk xpath) = e at *
    have fin : ∀ e2 : Int, e2 ≠ 0 → filesE none [] m.files = e2 → macErr m = e2 := fun e2 h1 h2 => by rw [hM, if_pos (by rw [h2]; exact h1), h2]
    by_cases c1 : e = 0
    rotate_left
    · have y1 : decide (e = 0) = false := decide_eq_false c1
      have y2 : decide (¬ e = 0) = true := decide_eq_true c1
      rw [if_pos c1] at hE
      simp -implicitDefEqProofs only [go_sem, tys, regs0, Nat.reduceEqDiff, Nat.reduceAdd, Nat.reduceLeDiff, Nat.reduceLT, Nat.reduceMul, Int.natCast_one, Int.natCast_zero, Int.reduceEq, Int.reduceLT, Int.reduceLE, Int.reduceAdd, Int.reduceSub, Int.reduceToNat, UInt8.reduceToNat, h1, h4, h8, hl, hn, hi2, y1, y2]
      exact Done.drop hS ⟨by rw [fin e c1 hE], rfl⟩
    subst c1
    rw [if_neg (by simp)] at hE
    simp -implicitDefEqProofs only [go_sem, tys, regs0, Nat.reduceEqDiff, Nat.reduceAdd, Nat.reduceLeDiff, Nat.reduceLT, Nat.reduceMul, Int.natCast_one, Int.natCast_zero, Int.reduceEq, Int.reduceLT, Int.reduceLE, Int.reduceAdd, Int.reduceSub, Int.reduceToNat, UInt8.reduceToNat, h1, h4, h8, hl, hn, hi2, g6]
    with_reducible refine aloop_cut 4 (fun r G => RcM m ta tb tc td H i1 i3 G xpath ∧ G im = some (.map .str es) ∧ G i6 = some (.cells [.str xpath, .str xdata, .bool xruns]) ∧ agrees r [(1, .ptr i1 0), (4, .func 64 [.ptr i3 0]), (8, .map im), (10, .ptr i6 0), (11, .int .i64 (if clash seen xpath = true then 11 else 0)), (73, .sl (m.files.map encFile) tb), (74, .int .i64 m.files.length), (75, .int .i64 i)]) ?_ ?_
    rotate_left
    · refine aloop_intro (σ := Nat) (fun k => [(1, .ptr i1 0), (4, .func 64 [.ptr i3 0]), (8, .map im), (10, .ptr i6 0), (11, .int .i64 (if clashTo seen xpath k = true then 11 else 0)), (73, .sl (m.files.map encFile) tb), (74, .int .i64 m.files.length), (75, .int .i64 i), (93, .int .i64 xpath.length), (94, .int .i64 k)])
        (fun k G => G = G7 ∧ k ≤ xpath.length) (fun k => xpath.length - k) 0 ?_ ?_ ?_
      · simp -implicitDefEqProofs only [go_sem, tys, regs0, Nat.reduceEqDiff, Nat.reduceAdd, Nat.reduceLeDiff, Nat.reduceLT, Nat.reduceMul, Int.natCast_one, Int.natCast_zero, Int.reduceEq, Int.reduceLT, Int.reduceLE, Int.reduceAdd, Int.reduceSub, Int.reduceToNat, UInt8.reduceToNat, h1, h4, h8, hl, hn, hi2]
        exact rfl
      · exact ⟨rfl, Nat.zero_le _⟩
      clear h1 h4 h8 hl hn hi2
      rintro k r G hv ⟨rfl, hk⟩
      have h1 := hv.1
      have h4 := hv.2.1
      have h8 := hv.2.2.1
      have h10 := hv.2.2.2.1
      have h11 := hv.2.2.2.2.1
      have hl := hv.2.2.2.2.2.1
      have hn := hv.2.2.2.2.2.2.1
      have hi2 := hv.2.2.2.2.2.2.2.1
      have h93 := hv.2.2.2.2.2.2.2.2.1
      have h94 := hv.2.2.2.2.2.2.2.2.2.1
      clear hv
      by_cases gk : k < xpath.length
      rotate_left
      · have x2 : decide ((k : Int) < xpath.length) = false := decide_eq_false (by omega)
        obtain rfl : k = xpath.length := by omega
        rw [clashTo_all] at h11
        simp -implicitDefEqProofs only [go_sem, tys, regs0, Nat.reduceEqDiff, Nat.reduceAdd, Nat.reduceLeDiff, Nat.reduceLT, Nat.reduceMul, Int.natCast_one, Int.natCast_zero, Int.reduceEq, Int.reduceLT, Int.reduceLE, Int.reduceAdd, Int.reduceSub, Int.reduceToNat, UInt8.reduceToNat, h1, h4, h8, h10, h11, hl, hn, hi2, h93, h94, x2]
        exact ⟨⟨hS, g1, g3⟩, gim, g6⟩
      have x2 : decide ((k : Int) < xpath.length) = true := decide_eq_true (by omega)
      obtain ⟨c, hc⟩ : ∃ c, xpath[k]? = some c := getD_get' gk
      have wk : IntKind.i64.wrap ((k : Int) + 1) = ((k + 1 : Nat) : Int) := by rw [Go.IntWalk.i64_in _ (by omega)]; omega
      have e47 := @u8_eq c 47 (by decide)
      have hsx := clashTo_succ seen xpath k
      rw [hc] at hsx
      by_cases d1 : c = 47
      rotate_left
      · have x3 : decide ((c.toNat : Int) = 47) = false := decide_eq_false (fun e => d1 (e47.1 e))
        have hsy : clashTo seen xpath (k + 1) = clashTo seen xpath k := by rw [hsx]; simp [d1]
        simp -implicitDefEqProofs only [go_sem, tys, regs0, Nat.reduceEqDiff, Nat.reduceAdd, Nat.reduceLeDiff, Nat.reduceLT, Nat.reduceMul, Int.natCast_one, Int.natCast_zero, Int.reduceEq, Int.reduceLT, Int.reduceLE, Int.reduceAdd, Int.reduceSub, Int.reduceToNat, UInt8.reduceToNat, h1, h4, h8, h10, h11, hl, hn, hi2, h93, h94, x2, g6, hc, x3, wk]
        exact Again.mk (k + 1) (by simp -implicitDefEqProofs only [go_sem, tys, regs0, Nat.reduceEqDiff, Nat.reduceAdd, Nat.reduceLeDiff, Nat.reduceLT, Nat.reduceMul, Int.natCast_one, Int.natCast_zero, Int.reduceEq, Int.reduceLT, Int.reduceLE, Int.reduceAdd, Int.reduceSub, Int.reduceToNat, UInt8.reduceToNat, h1, h4, h8, h10, h11, hl, hn, hi2, h93, hsy]) ⟨rfl, by omega⟩ (by omega)
      have x3 : decide ((c.toNat : Int) = 47) = true := decide_eq_true (e47.2 d1)
      subst d1
      rw [decide_eq_true rfl, Bool.true_and] at hsx
      have hg := hse.get (xpath.take k)
      cases hct : seen.contains (xpath.take k) with
      | true =>
        rw [hct, Bool.or_true] at hsx
        rw [hct] at hg
        simp -implicitDefEqProofs only [go_sem, tys, regs0, Nat.reduceEqDiff, Nat.reduceAdd, Nat.reduceLeDiff, Nat.reduceLT, Nat.reduceMul, Int.natCast_one, Int.natCast_zero, Int.reduceEq, Int.reduceLT, Int.reduceLE, Int.reduceAdd, Int.reduceSub, Int.reduceToNat, UInt8.reduceToNat, h1, h4, h8, h10, h11, hl, hn, hi2, h93, h94, x2, g6, hc, x3, wk, gim, hg, Int.toNat_natCast]
        refine ⟨by omega, ?_⟩
        exact Again.mk (k + 1) (by simp -implicitDefEqProofs only [go_sem, tys, regs0, Nat.reduceEqDiff, Nat.reduceAdd, Nat.reduceLeDiff, Nat.reduceLT, Nat.reduceMul, Int.natCast_one, Int.natCast_zero, Int.reduceEq, Int.reduceLT, Int.reduceLE, Int.reduceAdd, Int.reduceSub, Int.reduceToNat, UInt8.reduceToNat, h1, h4, h8, h10, hl, hn, hi2, h93, hsx]) ⟨rfl, by omega⟩ (by omega)
      | false =>
        rw [hct, Bool.or_false] at hsx
        rw [hct] at hg
        simp -implicitDefEqProofs only [go_sem, tys, regs0, Nat.reduceEqDiff, Nat.reduceAdd, Nat.reduceLeDiff, Nat.reduceLT, Nat.reduceMul, Int.natCast_one, Int.natCast_zero, Int.reduceEq, Int.reduceLT, Int.reduceLE, Int.reduceAdd, Int.reduceSub, Int.reduceToNat, UInt8.reduceToNat, h1, h4, h8, h10, h11, hl, hn, hi2, h93, h94, x2, g6, hc, x3, wk, gim, hg, Int.toNat_natCast]
        refine ⟨by omega, ?_⟩
        exact Again.mk (k + 1) (by simp -implicitDefEqProofs only [go_sem, tys, regs0, Nat.reduceEqDiff, Nat.reduceAdd, Nat.reduceLeDiff, Nat.reduceLT, Nat.reduceMul, Int.natCast_one, Int.natCast_zero, Int.reduceEq, Int.reduceLT, Int.reduceLE, Int.reduceAdd, Int.reduceSub, Int.reduceToNat, UInt8.reduceToNat, h1, h4, h8, h10, h11, hl, hn, hi2, h93, hsx]) ⟨rfl, by omega⟩ (by omega)
    clear g1 g3 gim g6 hS h1 h4 h8 hl hn hi2
    rintro r G ⟨⟨hS, g1, g3⟩, gim, g6, hv⟩
    have h1 := hv.1
    have h4 := hv.2.1
    have h8 := hv.2.2.1
    have h10 := hv.2.2.2.1
    have h11 := hv.2.2.2.2.1
    have hl := hv.2.2.2.2.2.1
    have hn := hv.2.2.2.2.2.2.1
    have hi2 := hv.2.2.2.2.2.2.2.1
    clear hv
    cases hct : clash seen xpath with
    | true =>
      rw [hct, if_pos rfl] at h11 hE
      simp -implicitDefEqProofs only [go_sem, tys, regs0, Nat.reduceEqDiff, Nat.reduceAdd, Nat.reduceLeDiff, Nat.reduceLT, Nat.reduceMul, Int.natCast_one, Int.natCast_zero, Int.reduceEq, Int.reduceLT, Int.reduceLE, Int.reduceAdd, Int.reduceSub, Int.reduceToNat, UInt8.reduceToNat, h1, h4, h8, h10, h11, hl, hn, hi2]
      exact Done.drop hS ⟨by rw [fin 11 (by decide) hE], rfl⟩
    | false =>
      rw [hct, if_neg (by simp)] at h11 hE
      simp -implicitDefEqProofs only [go_sem, tys, regs0, Nat.reduceEqDiff, Nat.reduceAdd, Nat.reduceLeDiff, Nat.reduceLT, Nat.reduceMul, Int.natCast_one, Int.natCast_zero, Int.reduceEq, Int.reduceLT, Int.reduceLE, Int.reduceAdd, Int.reduceSub, Int.reduceToNat, UInt8.reduceToNat, h1, h4, h8, h10, h11, hl, hn, hi2, g6, gim, ws]
      refine Again.mk (i + 1) (by simp -implicitDefEqProofs only [go_sem, tys, regs0, Nat.reduceEqDiff, Nat.reduceAdd, Nat.reduceLeDiff, Nat.reduceLT, Nat.reduceMul, Int.natCast_one, Int.natCast_zero, Int.reduceEq, Int.reduceLT, Int.reduceLE, Int.reduceAdd, Int.reduceSub, Int.reduceToNat, UInt8.reduceToNat, h1, h4, h8, hl, hn]) ⟨by omega, ⟨xpath, ⟨hS.put' nim _, by rw [put_ne _ _ _ _ d1_im]; exact g1, by rw [put_ne _ _ _ _ d3_im]; exact g3⟩, by rw [hps, if_neg (by omega)]⟩, _, xpath :: seen, put_same _ _ _, hse.set xpath, ?_⟩ (by omega)
      rw [hE, hps]
  clear g1 g3 hg3 hdS gim hS h1 h4
  rintro r G ⟨he2, ⟨z, hZ⟩, hv⟩
  have h1 := hv.1
  have h4 := hv.2.1
  have g1 := hZ.2.1
  clear hv
  simp only [encMac] at g1
  rw [if_neg (by simpa using he2)] at hM
  simp -implicitDefEqProofs only [go_sem, tys, regs0, Nat.reduceEqDiff, Nat.reduceAdd, Nat.reduceLeDiff, Nat.reduceLT, Nat.reduceMul, Int.natCast_one, Int.natCast_zero, Int.reduceEq, Int.reduceLT, Int.reduceLE, Int.reduceAdd, Int.reduceSub, Int.reduceToNat, UInt8.reduceToNat, h1, h4, g1]
  with_reducible refine aloop_cut 6 (RcQ (eachE setErr (·.key) none m.sets = 0) m ta tb tc td H i1 i3) ?_ ?_
  rotate_left
  · refine aloop_intro (σ := Nat) (fun i => [(1, .ptr i1 0), (4, .func 64 [.ptr i3 0]), (119, .sl (m.sets.map encSet) tc), (120, .int .i64 m.sets.length), (121, .int .i64 i)])
      (RcI setErr (·.key) m.sets m ta tb tc td H i1 i3) (fun i => m.sets.length - i) 0 ?_ ?_ ?_
    · simp -implicitDefEqProofs only [go_sem, tys, regs0, Nat.reduceEqDiff, Nat.reduceAdd, Nat.reduceLeDiff, Nat.reduceLT, Nat.reduceMul, Int.natCast_one, Int.natCast_zero, Int.reduceEq, Int.reduceLT, Int.reduceLE, Int.reduceAdd, Int.reduceSub, Int.reduceToNat, UInt8.reduceToNat, h1, h4]
    · exact ⟨Nat.zero_le _, rfl, z, hZ, rfl⟩
    clear hZ h1 h4
    rintro i r G hv ⟨hi, hE, z, ⟨hS, g1, g3⟩, hp⟩
    have h1 := hv.1
    have h4 := hv.2.1
    have hl := hv.2.2.1
    have hn := hv.2.2.2.1
    have hi2 := hv.2.2.2.2.1
    clear hv
    by_cases g : i < m.sets.length
    rotate_left
    · have x0 : decide ((i : Int) < m.sets.length) = false := decide_eq_false (by omega)
      obtain rfl : i = m.sets.length := by omega
      rw [List.drop_length, eachE] at hE
      simp -implicitDefEqProofs only [go_sem, tys, regs0, Nat.reduceEqDiff, Nat.reduceAdd, Nat.reduceLeDiff, Nat.reduceLT, Nat.reduceMul, Int.natCast_one, Int.natCast_zero, Int.reduceEq, Int.reduceLT, Int.reduceLE, Int.reduceAdd, Int.reduceSub, Int.reduceToNat, UInt8.reduceToNat, h1, h4, hl, hn, hi2, x0]
      exact ⟨hE, ⟨z, hS, g1, g3⟩, by simp -implicitDefEqProofs only [go_sem, tys, regs0, Nat.reduceEqDiff, Nat.reduceAdd, Nat.reduceLeDiff, Nat.reduceLT, Nat.reduceMul, Int.natCast_one, Int.natCast_zero, Int.reduceEq, Int.reduceLT, Int.reduceLE, Int.reduceAdd, Int.reduceSub, Int.reduceToNat, UInt8.reduceToNat, h1, h4]⟩
    have x0 : decide ((i : Int) < m.sets.length) = true := decide_eq_true (by omega)
    obtain ⟨x, hx⟩ : ∃ x, m.sets[i]? = some x := getD_get' g
    have hxr := r3 x (List.mem_of_getElem? hx)
    have ws : IntKind.i64.wrap ((i : Int) + 1) = ((i + 1 : Nat) : Int) := by rw [Go.IntWalk.i64_in _ (by omega)]; omega
    have hps := prevK_succ (·.key) hx
    have hU : ∀ (a : SetV), a ∈ m.sets → (encSet a).length = 2 := fun _ _ => rfl
    rw [drop_at hx] at hE
    obtain ⟨xkey, xvalue⟩ := x
    have hr1 := hxr.1
    have hr2 := hxr.2
    simp only at hr1 hr2 hps
    rw [eachE_step setErr (·.key) rfl] at hE
    have hb := fun G (h : G i3 = some (.cells [.str z])) => behind_calls i xkey z _ i3 G h hp
    generalize prevK (·.key) m.sets i = pk at *
    simp -implicitDefEqProofs only [go_sem, tys, regs0, Nat.reduceEqDiff, Nat.reduceAdd, Nat.reduceLeDiff, Nat.reduceLT, Nat.reduceMul, Int.natCast_one, Int.natCast_zero, Int.reduceEq, Int.reduceLT, Int.reduceLE, Int.reduceAdd, Int.reduceSub, Int.reduceToNat, UInt8.reduceToNat, h1, h4, hl, hn, hi2, x0, hx]
    refine ⟨hU, Nat.le_refl _, ?_⟩
    simp only [encSet, List.take_succ_cons, List.take_zero, List.take_nil]
    with_reducible refine nwC_intro fun i6 hi6 => ?_
    simp -implicitDefEqProofs only [go_sem, tys, regs0, Nat.reduceEqDiff, Nat.reduceAdd, Nat.reduceLeDiff, Nat.reduceLT, Nat.reduceMul, Int.natCast_one, Int.natCast_zero, Int.reduceEq, Int.reduceLT, Int.reduceLE, Int.reduceAdd, Int.reduceSub, Int.reduceToNat, UInt8.reduceToNat]
    generalize E6 : Heap.put G i6 _ = G6
    have hO_6 := obj_new E6 hi6 hS
    have n6 := hO_6.1
    have hS := hO_6.2.1
    have g6 := hO_6.2.2.1
    have d1_6 := obj_ne g1 hi6
    have g1 := hO_6.2.2.2 _ _ g1
    have d3_6 := obj_ne g3 hi6
    have g3 := hO_6.2.2.2 _ _ g3
    clear hO_6
    simp -implicitDefEqProofs only [go_sem, tys, regs0, Nat.reduceEqDiff, Nat.reduceAdd, Nat.reduceLeDiff, Nat.reduceLT, Nat.reduceMul, Int.natCast_one, Int.natCast_zero, Int.reduceEq, Int.reduceLT, Int.reduceLE, Int.reduceAdd, Int.reduceSub, Int.reduceToNat, UInt8.reduceToNat, h1, h4, hl, hn, hi2, g6, puRC, sSetE, hR, hr1, hr2, hxr]
    refine (hb _ g3).pure_next2 ?_
    generalize E3 : Heap.put G6 i3 _ = G7
    have hS := obj_sub E3 n3 hS
    have g3 := obj_at E3
    have g1 := obj_keep E3 (by first | exact d1_3 | exact fun e => d3_1 e.symm) g1
    have g6 := obj_keep E3 (by first | exact d6_3 | exact fun e => d3_6 e.symm) g6
    simp -implicitDefEqProofs only [go_sem, tys, regs0, Nat.reduceEqDiff, Nat.reduceAdd, Nat.reduceLeDiff, Nat.reduceLT, Nat.reduceMul, Int.natCast_one, Int.natCast_zero, Int.reduceEq, Int.reduceLT, Int.reduceLE, Int.reduceAdd, Int.reduceSub, Int.reduceToNat, UInt8.reduceToNat, h1, h4, hl, hn, hi2, g6, puRC, sFirst, sFirst, first2]
    generalize (if setErr ⟨xkey, xvalue⟩ ≠ 0 then setErr ⟨xkey, xvalue⟩ else bV pk xkey) = e at *
    by_cases c1 : e = 0
    · have y1 : decide (¬ e = 0) = false := decide_eq_false (by simpa using c1)
      rw [if_neg (by simpa using c1), ← hps] at hE
      simp -implicitDefEqProofs only [go_sem, tys, regs0, Nat.reduceEqDiff, Nat.reduceAdd, Nat.reduceLeDiff, Nat.reduceLT, Nat.reduceMul, Int.natCast_one, Int.natCast_zero, Int.reduceEq, Int.reduceLT, Int.reduceLE, Int.reduceAdd, Int.reduceSub, Int.reduceToNat, UInt8.reduceToNat, h1, h4, hl, hn, hi2, y1, ws]
      exact Again.mk (i + 1) (by simp -implicitDefEqProofs only [go_sem, tys, regs0, Nat.reduceEqDiff, Nat.reduceAdd, Nat.reduceLeDiff, Nat.reduceLT, Nat.reduceMul, Int.natCast_one, Int.natCast_zero, Int.reduceEq, Int.reduceLT, Int.reduceLE, Int.reduceAdd, Int.reduceSub, Int.reduceToNat, UInt8.reduceToNat, h1, h4, hl, hn]) ⟨by omega, hE, xkey, ⟨hS, g1, g3⟩, by rw [hps, if_neg (by omega)]⟩ (by omega)
    · have y1 : decide (¬ e = 0) = true := decide_eq_true c1
      rw [if_pos c1] at hE
      simp -implicitDefEqProofs only [go_sem, tys, regs0, Nat.reduceEqDiff, Nat.reduceAdd, Nat.reduceLeDiff, Nat.reduceLT, Nat.reduceMul, Int.natCast_one, Int.natCast_zero, Int.reduceEq, Int.reduceLT, Int.reduceLE, Int.reduceAdd, Int.reduceSub, Int.reduceToNat, UInt8.reduceToNat, h1, h4, hl, hn, hi2, y1]
      exact Done.drop hS ⟨by rw [hM, if_pos (by rw [hE]; exact c1), hE], rfl⟩
  rintro r G ⟨he3, ⟨z, hZ⟩, hv⟩
  have h1 := hv.1
  have h4 := hv.2.1
  have g1 := hZ.2.1
  clear hv
  simp only [encMac] at g1
  rw [if_neg (by simpa using he3)] at hM
  simp -implicitDefEqProofs only [go_sem, tys, regs0, Nat.reduceEqDiff, Nat.reduceAdd, Nat.reduceLeDiff, Nat.reduceLT, Nat.reduceMul, Int.natCast_one, Int.natCast_zero, Int.reduceEq, Int.reduceLT, Int.reduceLE, Int.reduceAdd, Int.reduceSub, Int.reduceToNat, UInt8.reduceToNat, h1, h4, g1]
  with_reducible refine aloop_cut 8 (RcQ (eachE svcErr (·.name) none m.svcs = 0) m ta tb tc td H i1 i3) ?_ ?_
  rotate_left
  · refine aloop_intro (σ := Nat) (fun i => [(1, .ptr i1 0), (4, .func 64 [.ptr i3 0]), (140, .sl (m.svcs.map encSvc) td), (141, .int .i64 m.svcs.length), (142, .int .i64 i)])
      (RcI svcErr (·.name) m.svcs m ta tb tc td H i1 i3) (fun i => m.svcs.length - i) 0 ?_ ?_ ?_
    · simp -implicitDefEqProofs only [go_sem, tys, regs0, Nat.reduceEqDiff, Nat.reduceAdd, Nat.reduceLeDiff, Nat.reduceLT, Nat.reduceMul, Int.natCast_one, Int.natCast_zero, Int.reduceEq, Int.reduceLT, Int.reduceLE, Int.reduceAdd, Int.reduceSub, Int.reduceToNat, UInt8.reduceToNat, h1, h4]
    · exact ⟨Nat.zero_le _, rfl, z, hZ, rfl⟩
    clear hZ h1 h4
    rintro i r G hv ⟨hi, hE, z, ⟨hS, g1, g3⟩, hp⟩
    have h1 := hv.1
    have h4 := hv.2.1
    have hl := hv.2.2.1
    have hn := hv.2.2.2.1
    have hi2 := hv.2.2.2.2.1
    clear hv
    by_cases g : i < m.svcs.length
    rotate_left
    · have x0 : decide ((i : Int) < m.svcs.length) = false := decide_eq_false (by omega)
      obtain rfl : i = m.svcs.length := by omega
      rw [List.drop_length, eachE] at hE
      simp -implicitDefEqProofs only [go_sem, tys, regs0, Nat.reduceEqDiff, Nat.reduceAdd, Nat.reduceLeDiff, Nat.reduceLT, Nat.reduceMul, Int.natCast_one, Int.natCast_zero, Int.reduceEq, Int.reduceLT, Int.reduceLE, Int.reduceAdd, Int.reduceSub, Int.reduceToNat, UInt8.reduceToNat, h1, h4, hl, hn, hi2, x0]
      exact ⟨hE, ⟨z, hS, g1, g3⟩, by simp -implicitDefEqProofs only [go_sem, tys, regs0, Nat.reduceEqDiff, Nat.reduceAdd, Nat.reduceLeDiff, Nat.reduceLT, Nat.reduceMul, Int.natCast_one, Int.natCast_zero, Int.reduceEq, Int.reduceLT, Int.reduceLE, Int.reduceAdd, Int.reduceSub, Int.reduceToNat, UInt8.reduceToNat, h1, h4]⟩
    have x0 : decide ((i : Int) < m.svcs.length) = true := decide_eq_true (by omega)
    obtain ⟨x, hx⟩ : ∃ x, m.svcs[i]? = some x := getD_get' g
    have hxr := r4 x (List.mem_of_getElem? hx)
    have ws : IntKind.i64.wrap ((i : Int) + 1) = ((i + 1 : Nat) : Int) := by rw [Go.IntWalk.i64_in _ (by omega)]; omega
    have hps := prevK_succ (·.name) hx
    have hU : ∀ (a : SvcV), a ∈ m.svcs → (encSvc a).length = 4 := fun _ _ => rfl
    rw [drop_at hx] at hE
    obtain ⟨xname, xpath, xauto, xon⟩ := x
    have hr1 := hxr.1
    have hr2 := hxr.2
    simp only at hr1 hr2 hps
    rw [eachE_step svcErr (·.name) rfl] at hE
    have hb := fun G (h : G i3 = some (.cells [.str z])) => behind_calls i xname z _ i3 G h hp
    generalize prevK (·.name) m.svcs i = pk at *
    simp -implicitDefEqProofs only [go_sem, tys, regs0, Nat.reduceEqDiff, Nat.reduceAdd, Nat.reduceLeDiff, Nat.reduceLT, Nat.reduceMul, Int.natCast_one, Int.natCast_zero, Int.reduceEq, Int.reduceLT, Int.reduceLE, Int.reduceAdd, Int.reduceSub, Int.reduceToNat, UInt8.reduceToNat, h1, h4, hl, hn, hi2, x0, hx]
    refine ⟨hU, Nat.le_refl _, ?_⟩
    simp only [encSvc, List.take_succ_cons, List.take_zero, List.take_nil]
    with_reducible refine nwC_intro fun i6 hi6 => ?_
    simp -implicitDefEqProofs only [go_sem, tys, regs0, Nat.reduceEqDiff, Nat.reduceAdd, Nat.reduceLeDiff, Nat.reduceLT, Nat.reduceMul, Int.natCast_one, Int.natCast_zero, Int.reduceEq, Int.reduceLT, Int.reduceLE, Int.reduceAdd, Int.reduceSub, Int.reduceToNat, UInt8.reduceToNat]
    generalize E6 : Heap.put G i6 _ = G6
    have hO_6 := obj_new E6 hi6 hS
    have n6 := hO_6.1
    have hS := hO_6.2.1
    have g6 := hO_6.2.2.1
    have d1_6 := obj_ne g1 hi6
    have g1 := hO_6.2.2.2 _ _ g1
    have d3_6 := obj_ne g3 hi6
    have g3 := hO_6.2.2.2 _ _ g3
    clear hO_6
    simp -implicitDefEqProofs only [go_sem, tys, regs0, Nat.reduceEqDiff, Nat.reduceAdd, Nat.reduceLeDiff, Nat.reduceLT, Nat.reduceMul, Int.natCast_one, Int.natCast_zero, Int.reduceEq, Int.reduceLT, Int.reduceLE, Int.reduceAdd, Int.reduceSub, Int.reduceToNat, UInt8.reduceToNat, h1, h4, hl, hn, hi2, g6, puRC, sSvcE, hR, hr1, hr2, hxr]
    refine (hb _ g3).pure_next2 ?_
    generalize E3 : Heap.put G6 i3 _ = G7
    have hS := obj_sub E3 n3 hS
    have g3 := obj_at E3
    have g1 := obj_keep E3 (by first | exact d1_3 | exact fun e => d3_1 e.symm) g1
    have g6 := obj_keep E3 (by first | exact d6_3 | exact fun e => d3_6 e.symm) g6
    simp -implicitDefEqProofs only [go_sem, tys, regs0, Nat.reduceEqDiff, Nat.reduceAdd, Nat.reduceLeDiff, Nat.reduceLT, Nat.reduceMul, Int.natCast_one, Int.natCast_zero, Int.reduceEq, Int.reduceLT, Int.reduceLE, Int.reduceAdd, Int.reduceSub, Int.reduceToNat, UInt8.reduceToNat, h1, h4, hl, hn, hi2, g6, puRC, sFirst, sFirst, first2]
    generalize (if svcErr ⟨xname, xpath, xauto, xon⟩ ≠ 0 then svcErr ⟨xname, xpath, xauto, xon⟩ else bV pk xname) = e at *
    by_cases c1 : e = 0
    · have y1 : decide (¬ e = 0) = false := decide_eq_false (by simpa using c1)
      rw [if_neg (by simpa using c1), ← hps] at hE
      simp -implicitDefEqProofs only [go_sem, tys, regs0, Nat.reduceEqDiff, Nat.reduceAdd, Nat.reduceLeDiff, Nat.reduceLT, Nat.reduceMul, Int.natCast_one, Int.natCast_zero, Int.reduceEq, Int.reduceLT, Int.reduceLE, Int.reduceAdd, Int.reduceSub, Int.reduceToNat, UInt8.reduceToNat, h1, h4, hl, hn, hi2, y1, ws]
      exact Again.mk (i + 1) (by simp -implicitDefEqProofs only [go_sem, tys, regs0, Nat.reduceEqDiff, Nat.reduceAdd, Nat.reduceLeDiff, Nat.reduceLT, Nat.reduceMul, Int.natCast_one, Int.natCast_zero, Int.reduceEq, Int.reduceLT, Int.reduceLE, Int.reduceAdd, Int.reduceSub, Int.reduceToNat, UInt8.reduceToNat, h1, h4, hl, hn]) ⟨by omega, hE, xname, ⟨hS, g1, g3⟩, by rw [hps, if_neg (by omega)]⟩ (by omega)
    · have y1 : decide (¬ e = 0) = true := decide_eq_true c1
      rw [if_pos c1] at hE
      simp -implicitDefEqProofs only [go_sem, tys, regs0, Nat.reduceEqDiff, Nat.reduceAdd, Nat.reduceLeDiff, Nat.reduceLT, Nat.reduceMul, Int.natCast_one, Int.natCast_zero, Int.reduceEq, Int.reduceLT, Int.reduceLE, Int.reduceAdd, Int.reduceSub, Int.reduceToNat, UInt8.reduceToNat, h1, h4, hl, hn, hi2, y1]
      exact Done.drop hS ⟨by rw [hM, hE], rfl⟩
  rintro r G ⟨he4, ⟨z, hZ⟩, hv⟩
  have h1 := hv.1
  have h4 := hv.2.1
  have g1 := hZ.2.1
  clear hv
  simp only [encMac] at g1
  rw [he4] at hM
  simp -implicitDefEqProofs only [go_sem, tys, regs0, Nat.reduceEqDiff, Nat.reduceAdd, Nat.reduceLeDiff, Nat.reduceLT, Nat.reduceMul, Int.natCast_one, Int.natCast_zero, Int.reduceEq, Int.reduceLT, Int.reduceLE, Int.reduceAdd, Int.reduceSub, Int.reduceToNat, UInt8.reduceToNat, h1, h4, g1]
  exact Done.drop hZ.1 ⟨by rw [hM], rfl⟩
end Go.Proofs

/- Plain laws: a line of a machine as the reference reads it; walks: its small functions. -/
namespace Go.Proofs
open Go Go.Abs
set_option linter.unusedSimpArgs false
set_option linter.unusedVariables false
set_option maxRecDepth 20000
def quotedV (s : Bytes) : Bytes × Bytes × Bool := ((cutT 32 s).1, unqD (cutT 32 s).2.1, (cutT 32 s).2.2 && decide ((cutT 32 s).1 ≠ []) && (unq (cutT 32 s).2.1).isSome)
def svcOf : List Bytes → SvcV × Bool
  | [n, p, a, b] => if n = [] ∨ p = [] ∨ isBitB a = false ∨ isBitB b = false then (.zero, false) else (⟨n, p, decide (a = [49]), decide (b = [49])⟩, true)
  | _ => (.zero, false)
theorem svcOf_len {p : List Bytes} (h : ¬ p.length = 4) : svcOf p = (.zero, false) := by
  unfold svcOf
  split
  · exact absurd rfl h
  · rfl
theorem svcOf_part (word : Bytes) {rest : Bytes} (h : (cutT 32 rest).1 ≠ []) :
    svcPart word (cutT 32 rest).1 (cutT 32 rest).2.2 (splitB 32 (cutT 32 rest).2.1) = if (svcOf (splitB 32 rest)).2 = true then (⟨word, .zero, .zero, (svcOf (splitB 32 rest)).1⟩, true) else (.zero, false) := by
  unfold cutT at h ⊢
  cases hc : cutB 32 rest with
  | none =>
    rw [hc] at h
    simp only
    rw [svcPart_false, cutB_split.2 hc]
    rfl
  | some p =>
    rw [hc] at h
    simp only at h ⊢
    rw [cutB_split.1 p hc]
    generalize splitB 32 p.2 = l
    by_cases hl : l.length = 3
    · match l, hl with
      | [a, b, c], _ =>
        rw [svcPart, svcOf]
        by_cases ha : a = []
        · simp [ha]
        · cases hb : isBitB b <;> cases hc : isBitB c <;> simp [ha, hb, hc, h]
    · rw [svcPart_len _ _ _ hl, svcOf_len (by simp only [List.length_cons]; omega)]
      rfl
theorem svcOf_nil {rest : Bytes} (h : (cutT 32 rest).1 = []) : svcOf (splitB 32 rest) = (.zero, false) := by
  unfold cutT at h
  cases hc : cutB 32 rest with
  | none =>
    rw [hc] at h
    simp only at h
    rw [h]; rfl
  | some p =>
    rw [hc] at h
    simp only at h
    rw [cutB_split.1 p hc, h]
    generalize splitB 32 p.2 = l
    by_cases hl : l.length = 3
    · match l, hl with
      | [a, b, c], _ => rw [svcOf, if_pos (.inl rfl)]
    · exact svcOf_len (by simp only [List.length_cons]; omega)
/-- What the reference does with a line. -/
def lineRV (s : MacV × Int) (l : Bytes) : Option (MacV × Int) :=
  if rankV (cutT 32 l).1 < s.2 then none
  else if rankV (cutT 32 l).1 = 3 then (if (svcOf (splitB 32 (cutT 32 l).2.1)).2 = true then some ({ s.1 with svcs := s.1.svcs ++ [(svcOf (splitB 32 (cutT 32 l).2.1)).1] }, 3) else none)
  else if (quotedV (cutT 32 l).2.1).2.2 = true then some (addM s.1 (rankV (cutT 32 l).1) ⟨[], ⟨(quotedV (cutT 32 l).2.1).1, (quotedV (cutT 32 l).2.1).2.1, decide ((cutT 32 l).1 = wRun)⟩, ⟨(quotedV (cutT 32 l).2.1).1, (quotedV (cutT 32 l).2.1).2.1⟩, .zero⟩, rankV (cutT 32 l).1)
  else none
theorem rankV_3 {w : Bytes} (h : rankV w = 3) : w = wService := by
  unfold rankV at h
  repeat' split at h
  all_goals first | assumption | (simp at h)
theorem lineM_eq (s : MacV × Int) (l : Bytes) (h0 : 0 ≤ s.2) : lineM s l = lineRV s l := by
  by_cases c0 : (cutT 32 l).2.2 = false
  · have hr : (cutT 32 l).2.1 = [] := by
      unfold cutT at c0 ⊢
      split
      · rename_i p hp; rw [hp] at c0; cases c0
      · rfl
    have e1 : lineM s l = none := lineM_bad s l (by unfold readLineV; rw [if_pos (Or.inl c0)])
    rw [e1]
    unfold lineRV
    rw [hr]
    split
    · rfl
    · split
      · rfl
      · rfl
  by_cases c1 : (cutT 32 (cutT 32 l).2.1).1 = []
  · have e1 : lineM s l = none := lineM_bad s l (by unfold readLineV; rw [if_pos (Or.inr c1)])
    rw [e1]
    unfold lineRV
    rw [svcOf_nil c1]
    split
    · rfl
    · split
      · rfl
      · rw [if_neg (by simp [quotedV, c1])]
  have e1 : readLineV l = restV (cutT 32 l).1 (cutT 32 (cutT 32 l).2.1).1 (cutT 32 (cutT 32 l).2.1).2.1 (cutT 32 (cutT 32 l).2.1).2.2 := by unfold readLineV; rw [if_neg (by simp only [not_or]; exact ⟨c0, c1⟩)]
  unfold lineM lineRV
  rw [e1]
  clear e1
  have hsv := svcOf_part (cutT 32 l).1 c1
  unfold quotedV
  generalize svcOf (splitB 32 (cutT 32 l).2.1) = sv at *
  generalize cutT 32 (cutT 32 l).2.1 = t2 at *
  generalize (cutT 32 l).1 = word at *
  obtain ⟨key, value, two⟩ := t2
  simp only at c1 hsv ⊢
  unfold restV
  by_cases e1 : word = wFact ∨ word = wSet
  · rw [if_pos e1]
    unfold stepM
    have hk : ¬ rankV word = 3 := by rcases e1 with rfl | rfl <;> decide
    have ha : rankV word = 0 ∨ rankV word = 2 := by rcases e1 with rfl | rfl <;> decide
    simp only
    by_cases c2 : rankV word < s.2
    · rw [if_pos c2, if_pos c2]; simp
    · rw [if_neg c2, if_neg c2, if_neg hk]
      rcases ha with ha | ha <;> rw [ha] at c2 ⊢ <;> cases two <;> cases hu : unq value <;> simp [c1, addM, c2]
  rw [if_neg e1]
  by_cases e2 : word = wFile ∨ word = wRun ∨ word = wPut ∨ word = wPutrun
  · rw [if_pos e2]
    unfold stepM
    simp only
    by_cases c2 : rankV word < s.2
    · rw [if_pos c2, if_pos c2]; simp
    · rw [if_neg c2, if_neg c2]
      have ha : rankV word = 1 ∧ word ≠ wPutrun := by
        rcases e2 with rfl | rfl | rfl | rfl
        · decide
        · decide
        · have := (show rankV wPut = -1 by decide)
          omega
        · have := (show rankV wPutrun = -1 by decide)
          omega
      have hk : ¬ rankV word = 3 := by omega
      rw [if_neg hk]
      have c3 : ¬ 1 < s.2 := by omega
      cases two <;> cases hu : unq value <;> simp [c1, addM, ha, c2, c3]
  rw [if_neg e2]
  by_cases e3 : word = wService
  · rw [if_pos e3, hsv]
    have hk : rankV word = 3 := by rw [e3]; decide
    unfold stepM
    by_cases c2 : rankV word < s.2
    · rw [if_pos c2]
      cases hs : sv.2 <;> simp [c2]
    · rw [if_neg c2, if_pos hk]
      have c3 : ¬ 3 < s.2 := by omega
      cases hs : sv.2 <;> simp [c2, hk, addM, c3]
  rw [if_neg e3]
  have hk : rankV word = -1 := by
    unfold rankV
    simp only [not_or] at e1 e2
    rw [if_neg e1.1, if_neg (by simp only [not_or]; exact ⟨e2.1, e2.2.1⟩), if_neg e1.2, if_neg e3]
  have hlt : rankV word < s.2 := by omega
  rw [if_pos hlt]
  repeat' split
  all_goals first | rfl | (unfold stepM; rw [if_pos hlt])
/-- The place of a word in a list. -/
def idxF : List Bytes → Bytes → Nat → Int
  | [], _, _ => -1
  | x :: l, w, k => if w = x then k else idxF l w (k + 1)
theorem idx_rank (w : Bytes) : (if idxF [wFact, wFile, wSet, wService, wRun] w 0 = 4 then 1 else idxF [wFact, wFile, wSet, wService, wRun] w 0) = rankV w := by
  unfold rankV
  simp only [idxF]
  by_cases e1 : w = wFact
  · simp [e1]
  by_cases e2 : w = wFile
  · simp [e1, e2]
  by_cases e3 : w = wSet
  · subst e3; decide
  by_cases e4 : w = wService
  · subst e4; decide
  by_cases e5 : w = wRun
  · subst e5; decide
  · simp [e1, e2, e3, e4, e5]
theorem sIndex_calls (l : List Bytes) (w : Bytes) (t : Tail) (H : Heap) (hl : l.length ≤ 1099511627776) : ACalls Tryd.prog 22 [.sl (l.map encS) t, .str w] H fun x H' => x = .int .i64 (idxF l w 0) ∧ H' = H := by
  refine ACalls.of_code (X := { pure := pu0 }) pu0_ok Tryd.func22 (by kernel_rfl) rfl (by kernel_rfl) (Nat.le_of_ble_eq_true rfl) ?_
  simp -implicitDefEqProofs only [go_sem, tys, regs0, Nat.reduceEqDiff, Nat.reduceAdd, Nat.reduceLeDiff, Nat.reduceLT, Nat.reduceMul, Int.natCast_one, Int.natCast_zero, Int.reduceEq, Int.reduceLT, Int.reduceLE, Int.reduceAdd, Int.reduceSub, Int.reduceToNat, UInt8.reduceToNat, Tryd.f22]
  refine aloop_intro (σ := Nat) (fun i => [(0, .sl (l.map encS) t), (1, .str w), (7, .int .i64 l.length), (8, .int .i64 i)]) (fun i G => G = H ∧ i ≤ l.length ∧ idxF l w 0 = idxF (l.drop i) w i) (fun i => l.length - i) 0 ?_ ?_ ?_
  · simp -implicitDefEqProofs only [go_sem, tys, regs0, Nat.reduceEqDiff, Nat.reduceAdd, Nat.reduceLeDiff, Nat.reduceLT, Nat.reduceMul, Int.natCast_one, Int.natCast_zero, Int.reduceEq, Int.reduceLT, Int.reduceLE, Int.reduceAdd, Int.reduceSub, Int.reduceToNat, UInt8.reduceToNat]
  · exact ⟨rfl, Nat.zero_le _, rfl⟩
  rintro i r G hv ⟨rfl, hi, hE⟩
  have h0 := hv.1
  have h1 := hv.2.1
  have h7 := hv.2.2.1
  have h8 := hv.2.2.2.1
  clear hv
  by_cases g : i < l.length
  rotate_left
  · have y0 : decide ((i : Int) < l.length) = false := decide_eq_false (by omega)
    obtain rfl : i = l.length := by omega
    rw [List.drop_length, idxF] at hE
    simp -implicitDefEqProofs only [go_sem, tys, regs0, Nat.reduceEqDiff, Nat.reduceAdd, Nat.reduceLeDiff, Nat.reduceLT, Nat.reduceMul, Int.natCast_one, Int.natCast_zero, Int.reduceEq, Int.reduceLT, Int.reduceLE, Int.reduceAdd, Int.reduceSub, Int.reduceToNat, UInt8.reduceToNat, h0, h1, h7, h8, y0]
    exact Done.now ⟨by rw [hE], rfl⟩
  have y0 : decide ((i : Int) < l.length) = true := decide_eq_true (by omega)
  obtain ⟨x, hx⟩ : ∃ x, l[i]? = some x := getD_get' g
  rw [drop_at hx, idxF] at hE
  have ws : IntKind.i64.wrap ((i : Int) + 1) = ((i + 1 : Nat) : Int) := by rw [Go.IntWalk.i64_in _ (by omega)]; omega
  by_cases c1 : w = x
  · have y1 : decide (w = x) = true := decide_eq_true c1
    rw [if_pos c1] at hE
    simp -implicitDefEqProofs only [go_sem, tys, regs0, Nat.reduceEqDiff, Nat.reduceAdd, Nat.reduceLeDiff, Nat.reduceLT, Nat.reduceMul, Int.natCast_one, Int.natCast_zero, Int.reduceEq, Int.reduceLT, Int.reduceLE, Int.reduceAdd, Int.reduceSub, Int.reduceToNat, UInt8.reduceToNat, h0, h1, h7, h8, y0, hx, encS, y1]
    exact Done.now ⟨by rw [hE], rfl⟩
  · have y1 : decide (w = x) = false := decide_eq_false c1
    rw [if_neg c1] at hE
    simp -implicitDefEqProofs only [go_sem, tys, regs0, Nat.reduceEqDiff, Nat.reduceAdd, Nat.reduceLeDiff, Nat.reduceLT, Nat.reduceMul, Int.natCast_one, Int.natCast_zero, Int.reduceEq, Int.reduceLT, Int.reduceLE, Int.reduceAdd, Int.reduceSub, Int.reduceToNat, UInt8.reduceToNat, h0, h1, h7, h8, y0, hx, encS, y1, ws]
    exact Again.mk (i + 1) (by simp -implicitDefEqProofs only [go_sem, tys, regs0, Nat.reduceEqDiff, Nat.reduceAdd, Nat.reduceLeDiff, Nat.reduceLT, Nat.reduceMul, Int.natCast_one, Int.natCast_zero, Int.reduceEq, Int.reduceLT, Int.reduceLE, Int.reduceAdd, Int.reduceSub, Int.reduceToNat, UInt8.reduceToNat, h0, h1, h7]) ⟨rfl, by omega, hE⟩ (by omega)
end Go.Proofs

/- Walks: Parse, on the reference's side. -/
namespace Go.Proofs
open Go Go.Abs
set_option linter.unusedSimpArgs false
set_option linter.unusedVariables false
set_option maxRecDepth 20000
/-- The lines, and the number of a last one without a line feed. -/
def cutLV (text : Bytes) : List Bytes × Int := if (splitB 10 text).getLast? = some [] then ((splitB 10 text).dropLast, -1) else (splitB 10 text, (splitB 10 text).length - 1)
theorem splitB_pos (c : UInt8) (s : Bytes) : 0 < (splitB c s).length := List.length_pos_iff.2 (splitB_ne c s)
theorem cutLines_calls (s : Bytes) (H : Heap) (hs : s.length ≤ 1099511627776) : ACalls Tryd.prog 20 [.str s] H fun x H' => x = .tup [.sl ((cutLV s).1.map encS) .unk, .int .i64 (cutLV s).2] ∧ H' = H := by
  have hR : Room = 1099511627776 := rfl
  have q1 : sSplit [.str s, .str [10]] = some (.sl ((splitB 10 s).map encS) .unk) := by rw [sSplit_eq, if_pos (show s.length ≤ 1099511627776 by omega)]
  have hp := splitB_pos 10 s
  have hlen : (splitB 10 s).length ≤ s.length + 1 := by rw [splitB_len]; have := @List.count_le_length _ _ 10 s; omega
  have hv := cutLV.eq_1 s
  generalize splitB 10 s = sp at *
  obtain ⟨z, hz⟩ : ∃ z, sp[sp.length - 1]? = some z := getD_get' (by omega)
  have hl : sp.getLast? = some z := by rw [List.getLast?_eq_getElem?]; exact hz
  rw [hl] at hv
  have w1 : IntKind.i64.wrap ((sp.length : Int) - 1) = ((sp.length - 1 : Nat) : Int) := by rw [Go.IntWalk.i64_in _ (by omega)]; omega
  by_cases c : z = []
  · have y : decide (z = []) = true := decide_eq_true c
    rw [if_pos (by rw [c])] at hv
    rw [hv]
    refine ACalls.of_code (X := { pure := puK }) puK_ok Tryd.func20 (by kernel_rfl) rfl (by kernel_rfl) (Nat.le_of_ble_eq_true rfl) ?_
    simp -implicitDefEqProofs only [go_sem, tys, regs0, Nat.reduceEqDiff, Nat.reduceAdd, Nat.reduceLeDiff, Nat.reduceLT, Nat.reduceMul, Int.natCast_one, Int.natCast_zero, Int.reduceEq, Int.reduceLT, Int.reduceLE, Int.reduceAdd, Int.reduceSub, Int.reduceToNat, UInt8.reduceToNat, Tryd.f20, puK, q1, w1, Int.toNat_natCast, hz, encS, y]
    refine ⟨by omega, Done.now ⟨?_, rfl⟩⟩
    rw [List.dropLast_eq_take, List.map_take]
    rfl
  · have y : decide (z = []) = false := decide_eq_false c
    rw [if_neg (by simpa using c)] at hv
    rw [hv]
    refine ACalls.of_code (X := { pure := puK }) puK_ok Tryd.func20 (by kernel_rfl) rfl (by kernel_rfl) (Nat.le_of_ble_eq_true rfl) ?_
    simp -implicitDefEqProofs only [go_sem, tys, regs0, Nat.reduceEqDiff, Nat.reduceAdd, Nat.reduceLeDiff, Nat.reduceLT, Nat.reduceMul, Int.natCast_one, Int.natCast_zero, Int.reduceEq, Int.reduceLT, Int.reduceLE, Int.reduceAdd, Int.reduceSub, Int.reduceToNat, UInt8.reduceToNat, Tryd.f20, puK, q1, w1, Int.toNat_natCast, hz, encS, y]
    exact Done.now ⟨by rw [show ((sp.length - 1 : Nat) : Int) = (sp.length : Int) - 1 by omega], rfl⟩
noncomputable def sCutL := spF (fun s : Bytes => [AV.str s]) (fun s => s.length ≤ 1099511627776) (fun s => .tup [.sl ((cutLV s).1.map encS) .unk, .int .i64 (cutLV s).2])
theorem sCutL_eq (s : Bytes) (h : s.length ≤ 1099511627776) : sCutL [.str s] = some (.tup [.sl ((cutLV s).1.map encS) .unk, .int .i64 (cutLV s).2]) := spF_eq (fun a b e => by cases e; rfl) s h
noncomputable def puM6 : Pures := putP 62 sUnq (putP 21 sCut pu0)
theorem puM6_dyn : isDyn puM6 = false := by simp only [puM6, go_sem, Nat.reduceEqDiff]
attribute [go_sem] puM6_dyn
theorem puM6_ok : PuOK Tryd.prog puM6 := .put (.put (pu0_ok) (spF_ok fun p H h => cut_calls p.1 p.2 H h)) (spF_ok fun s H h => rUnquote_calls s H h)
theorem quoted_calls (s : Bytes) (H : Heap) (hs : s.length ≤ 1099511627776) : ACalls Tryd.prog 23 [.str s] H fun x H' => x = .tup [.str (quotedV s).1, .str (quotedV s).2.1, .bool (quotedV s).2.2] ∧ H' = H := by
  have q1 := sCut_eq s 32 hs
  have l1 := cutT_len 32 s
  unfold quotedV
  generalize cutT 32 s = t at *
  obtain ⟨k, v, two⟩ := t
  simp only at q1 l1 ⊢
  have q2 := sUnq_eq v (by omega)
  unfold unqT at q2
  unfold unqD
  by_cases hk : k = []
  · have y : decide (¬ k = []) = false := decide_eq_false (by simpa using hk)
    cases hu : unq v with
    | none =>
      rw [hu] at q2
      cases two with
      | true =>
        refine ACalls.of_code (X := { pure := puM6 }) puM6_ok Tryd.func23 (by kernel_rfl) rfl (by kernel_rfl) (Nat.le_of_ble_eq_true rfl) ?_
        simp -implicitDefEqProofs only [go_sem, tys, regs0, Nat.reduceEqDiff, Nat.reduceAdd, Nat.reduceLeDiff, Nat.reduceLT, Nat.reduceMul, Int.natCast_one, Int.natCast_zero, Int.reduceEq, Int.reduceLT, Int.reduceLE, Int.reduceAdd, Int.reduceSub, Int.reduceToNat, UInt8.reduceToNat, Tryd.f23, puM6, q1, q2, y]
        exact Done.now ⟨by simp [hk], rfl⟩
      | false =>
        refine ACalls.of_code (X := { pure := puM6 }) puM6_ok Tryd.func23 (by kernel_rfl) rfl (by kernel_rfl) (Nat.le_of_ble_eq_true rfl) ?_
        simp -implicitDefEqProofs only [go_sem, tys, regs0, Nat.reduceEqDiff, Nat.reduceAdd, Nat.reduceLeDiff, Nat.reduceLT, Nat.reduceMul, Int.natCast_one, Int.natCast_zero, Int.reduceEq, Int.reduceLT, Int.reduceLE, Int.reduceAdd, Int.reduceSub, Int.reduceToNat, UInt8.reduceToNat, Tryd.f23, puM6, q1, q2, y]
        exact Done.now ⟨by simp, rfl⟩
    | some w =>
      rw [hu] at q2
      cases two with
      | true =>
        refine ACalls.of_code (X := { pure := puM6 }) puM6_ok Tryd.func23 (by kernel_rfl) rfl (by kernel_rfl) (Nat.le_of_ble_eq_true rfl) ?_
        simp -implicitDefEqProofs only [go_sem, tys, regs0, Nat.reduceEqDiff, Nat.reduceAdd, Nat.reduceLeDiff, Nat.reduceLT, Nat.reduceMul, Int.natCast_one, Int.natCast_zero, Int.reduceEq, Int.reduceLT, Int.reduceLE, Int.reduceAdd, Int.reduceSub, Int.reduceToNat, UInt8.reduceToNat, Tryd.f23, puM6, q1, q2, y]
        exact Done.now ⟨by simp [hk], rfl⟩
      | false =>
        refine ACalls.of_code (X := { pure := puM6 }) puM6_ok Tryd.func23 (by kernel_rfl) rfl (by kernel_rfl) (Nat.le_of_ble_eq_true rfl) ?_
        simp -implicitDefEqProofs only [go_sem, tys, regs0, Nat.reduceEqDiff, Nat.reduceAdd, Nat.reduceLeDiff, Nat.reduceLT, Nat.reduceMul, Int.natCast_one, Int.natCast_zero, Int.reduceEq, Int.reduceLT, Int.reduceLE, Int.reduceAdd, Int.reduceSub, Int.reduceToNat, UInt8.reduceToNat, Tryd.f23, puM6, q1, q2, y]
        exact Done.now ⟨by simp, rfl⟩
  · have y : decide (¬ k = []) = true := decide_eq_true hk
    cases hu : unq v with
    | none =>
      rw [hu] at q2
      cases two with
      | true =>
        refine ACalls.of_code (X := { pure := puM6 }) puM6_ok Tryd.func23 (by kernel_rfl) rfl (by kernel_rfl) (Nat.le_of_ble_eq_true rfl) ?_
        simp -implicitDefEqProofs only [go_sem, tys, regs0, Nat.reduceEqDiff, Nat.reduceAdd, Nat.reduceLeDiff, Nat.reduceLT, Nat.reduceMul, Int.natCast_one, Int.natCast_zero, Int.reduceEq, Int.reduceLT, Int.reduceLE, Int.reduceAdd, Int.reduceSub, Int.reduceToNat, UInt8.reduceToNat, Tryd.f23, puM6, q1, q2, y]
        exact Done.now ⟨by simp [hk], rfl⟩
      | false =>
        refine ACalls.of_code (X := { pure := puM6 }) puM6_ok Tryd.func23 (by kernel_rfl) rfl (by kernel_rfl) (Nat.le_of_ble_eq_true rfl) ?_
        simp -implicitDefEqProofs only [go_sem, tys, regs0, Nat.reduceEqDiff, Nat.reduceAdd, Nat.reduceLeDiff, Nat.reduceLT, Nat.reduceMul, Int.natCast_one, Int.natCast_zero, Int.reduceEq, Int.reduceLT, Int.reduceLE, Int.reduceAdd, Int.reduceSub, Int.reduceToNat, UInt8.reduceToNat, Tryd.f23, puM6, q1, q2, y]
        exact Done.now ⟨by simp, rfl⟩
    | some w =>
      rw [hu] at q2
      cases two with
      | true =>
        refine ACalls.of_code (X := { pure := puM6 }) puM6_ok Tryd.func23 (by kernel_rfl) rfl (by kernel_rfl) (Nat.le_of_ble_eq_true rfl) ?_
        simp -implicitDefEqProofs only [go_sem, tys, regs0, Nat.reduceEqDiff, Nat.reduceAdd, Nat.reduceLeDiff, Nat.reduceLT, Nat.reduceMul, Int.natCast_one, Int.natCast_zero, Int.reduceEq, Int.reduceLT, Int.reduceLE, Int.reduceAdd, Int.reduceSub, Int.reduceToNat, UInt8.reduceToNat, Tryd.f23, puM6, q1, q2, y]
        exact Done.now ⟨by simp [hk], rfl⟩
      | false =>
        refine ACalls.of_code (X := { pure := puM6 }) puM6_ok Tryd.func23 (by kernel_rfl) rfl (by kernel_rfl) (Nat.le_of_ble_eq_true rfl) ?_
        simp -implicitDefEqProofs only [go_sem, tys, regs0, Nat.reduceEqDiff, Nat.reduceAdd, Nat.reduceLeDiff, Nat.reduceLT, Nat.reduceMul, Int.natCast_one, Int.natCast_zero, Int.reduceEq, Int.reduceLT, Int.reduceLE, Int.reduceAdd, Int.reduceSub, Int.reduceToNat, UInt8.reduceToNat, Tryd.f23, puM6, q1, q2, y]
        exact Done.now ⟨by simp, rfl⟩
def svcA (p : List Bytes) : AV := .tup [.agg (encSvc (svcOf p).1), .bool (svcOf p).2]
set_option maxHeartbeats 3200000 in
theorem serviceOf_calls (p : List Bytes) (t : Tail) (H : Heap) (hl : p.length ≤ 1099511627776) : ACalls Tryd.prog 24 [.sl (p.map encS) t] H fun x H' => x = svcA p ∧ H' = H := by
  have hS := Heap.Sub.rfl' H
  unfold svcA
  by_cases h4 : p.length = 4
  rotate_left
  · have y : decide (¬ (p.length : Int) = 4) = true := decide_eq_true (by omega)
    rw [svcOf_len h4]
    refine ACalls.of_code (X := { pure := pu0 }) pu0_ok Tryd.func24 (by kernel_rfl) rfl (by kernel_rfl) (Nat.le_of_ble_eq_true rfl) ?_
    simp -implicitDefEqProofs only [go_sem, tys, regs0, Nat.reduceEqDiff, Nat.reduceAdd, Nat.reduceLeDiff, Nat.reduceLT, Nat.reduceMul, Int.natCast_one, Int.natCast_zero, Int.reduceEq, Int.reduceLT, Int.reduceLE, Int.reduceAdd, Int.reduceSub, Int.reduceToNat, UInt8.reduceToNat, Tryd.f24]
    with_reducible refine nwC_intro fun i2 hi2 => ?_
    generalize E2 : Heap.put H i2 _ = G2
    have hO_2 := obj_new E2 hi2 hS
    have n2 := hO_2.1
    have hS := hO_2.2.1
    have g2 := hO_2.2.2.1
    clear hO_2
    simp -implicitDefEqProofs only [go_sem, tys, regs0, Nat.reduceEqDiff, Nat.reduceAdd, Nat.reduceLeDiff, Nat.reduceLT, Nat.reduceMul, Int.natCast_one, Int.natCast_zero, Int.reduceEq, Int.reduceLT, Int.reduceLE, Int.reduceAdd, Int.reduceSub, Int.reduceToNat, UInt8.reduceToNat, y, g2]
    exact Done.drop (hS.put' n2 _) ⟨rfl, rfl⟩
  obtain ⟨n, q, a, b, rfl⟩ : ∃ n q a b, p = [n, q, a, b] := by
    match p, h4 with
    | [n, q, a, b], _ => exact ⟨n, q, a, b, rfl⟩
  simp only [List.map_cons, List.map_nil, encS]
  have u1 : Unif 1 [[AV.str n], [AV.str q], [AV.str a], [AV.str b]] := by
    intro x hx
    simp only [List.mem_cons, List.not_mem_nil, or_false] at hx
    rcases hx with rfl | rfl | rfl | rfl <;> rfl
  have z4 : decide (¬ ((4 : Nat) : Int) = 4) = false := rfl
  rw [svcOf]
  by_cases c1 : n = []
  · have y1 : decide (n = []) = true := decide_eq_true c1
    rw [if_pos (.inl c1)]
    refine ACalls.of_code (X := { pure := pu0 }) pu0_ok Tryd.func24 (by kernel_rfl) rfl (by kernel_rfl) (Nat.le_of_ble_eq_true rfl) ?_
    simp -implicitDefEqProofs only [go_sem, tys, regs0, Nat.reduceEqDiff, Nat.reduceAdd, Nat.reduceLeDiff, Nat.reduceLT, Nat.reduceMul, Int.natCast_one, Int.natCast_zero, Int.reduceEq, Int.reduceLT, Int.reduceLE, Int.reduceAdd, Int.reduceSub, Int.reduceToNat, UInt8.reduceToNat, Tryd.f24]
    with_reducible refine nwC_intro fun i2 hi2 => ?_
    generalize E2 : Heap.put H i2 _ = G2
    have hO_2 := obj_new E2 hi2 hS
    have n2 := hO_2.1
    have hS := hO_2.2.1
    have g2 := hO_2.2.2.1
    clear hO_2
    simp -implicitDefEqProofs only [go_sem, tys, regs0, Nat.reduceEqDiff, Nat.reduceAdd, Nat.reduceLeDiff, Nat.reduceLT, Nat.reduceMul, Int.natCast_one, Int.natCast_zero, Int.reduceEq, Int.reduceLT, Int.reduceLE, Int.reduceAdd, Int.reduceSub, Int.reduceToNat, UInt8.reduceToNat, z4, u1, Int.toNat_zero, Int.reduceToNat, Int.le_refl, y1, g2]
    exact Done.drop (hS.put' n2 _) ⟨rfl, rfl⟩
  have y1 : decide (n = []) = false := decide_eq_false c1
  by_cases c2 : q = []
  · have y2 : decide (q = []) = true := decide_eq_true c2
    rw [if_pos (.inr (.inl c2))]
    refine ACalls.of_code (X := { pure := pu0 }) pu0_ok Tryd.func24 (by kernel_rfl) rfl (by kernel_rfl) (Nat.le_of_ble_eq_true rfl) ?_
    simp -implicitDefEqProofs only [go_sem, tys, regs0, Nat.reduceEqDiff, Nat.reduceAdd, Nat.reduceLeDiff, Nat.reduceLT, Nat.reduceMul, Int.natCast_one, Int.natCast_zero, Int.reduceEq, Int.reduceLT, Int.reduceLE, Int.reduceAdd, Int.reduceSub, Int.reduceToNat, UInt8.reduceToNat, Tryd.f24]
    with_reducible refine nwC_intro fun i2 hi2 => ?_
    generalize E2 : Heap.put H i2 _ = G2
    have hO_2 := obj_new E2 hi2 hS
    have n2 := hO_2.1
    have hS := hO_2.2.1
    have g2 := hO_2.2.2.1
    clear hO_2
    simp -implicitDefEqProofs only [go_sem, tys, regs0, Nat.reduceEqDiff, Nat.reduceAdd, Nat.reduceLeDiff, Nat.reduceLT, Nat.reduceMul, Int.natCast_one, Int.natCast_zero, Int.reduceEq, Int.reduceLT, Int.reduceLE, Int.reduceAdd, Int.reduceSub, Int.reduceToNat, UInt8.reduceToNat, z4, u1, Int.toNat_zero, Int.reduceToNat, Int.le_refl, y1, y2, g2]
    exact Done.drop (hS.put' n2 _) ⟨rfl, rfl⟩
  have y2 : decide (q = []) = false := decide_eq_false c2
  have ha := isBitB.eq_1 a
  have hb := isBitB.eq_1 b
  cases a1 : decide (a = [48]) <;> cases a2 : decide (a = [49]) <;> cases b1 : decide (b = [48]) <;> cases b2 : decide (b = [49])
  all_goals
    have na1 : decide (¬ a = [48]) = !decide (a = [48]) := by simp
    have na2 : decide (¬ a = [49]) = !decide (a = [49]) := by simp
    have nb1 : decide (¬ b = [48]) = !decide (b = [48]) := by simp
    have nb2 : decide (¬ b = [49]) = !decide (b = [49]) := by simp
    simp only [a1, a2, b1, b2, Bool.not_true, Bool.not_false, Bool.or_true, Bool.or_false] at na1 na2 nb1 nb2 ha hb
    rw [ha, hb]
    refine ACalls.of_code (X := { pure := pu0 }) pu0_ok Tryd.func24 (by kernel_rfl) rfl (by kernel_rfl) (Nat.le_of_ble_eq_true rfl) ?_
    simp -implicitDefEqProofs only [go_sem, tys, regs0, Nat.reduceEqDiff, Nat.reduceAdd, Nat.reduceLeDiff, Nat.reduceLT, Nat.reduceMul, Int.natCast_one, Int.natCast_zero, Int.reduceEq, Int.reduceLT, Int.reduceLE, Int.reduceAdd, Int.reduceSub, Int.reduceToNat, UInt8.reduceToNat, Tryd.f24]
    with_reducible refine nwC_intro fun i2 hi2 => ?_
    generalize E2 : Heap.put H i2 _ = G2
    have hO_2 := obj_new E2 hi2 hS
    have n2 := hO_2.1
    have hS := hO_2.2.1
    have g2 := hO_2.2.2.1
    clear hO_2
    simp -implicitDefEqProofs only [go_sem, tys, regs0, Nat.reduceEqDiff, Nat.reduceAdd, Nat.reduceLeDiff, Nat.reduceLT, Nat.reduceMul, Int.natCast_one, Int.natCast_zero, Int.reduceEq, Int.reduceLT, Int.reduceLE, Int.reduceAdd, Int.reduceSub, Int.reduceToNat, UInt8.reduceToNat, z4, u1, Int.toNat_zero, Int.reduceToNat, Int.le_refl, y1, y2, na1, na2, nb1, nb2, a1, a2, b1, b2, g2]
    exact Done.drop (hS.put' n2 _) ⟨by simp [c1, c2, encSvc, SvcV.zero], rfl⟩
noncomputable def sSvcO := spF (fun p : List Bytes => [AV.sl (p.map encS) .unk]) (fun p => p.length ≤ 1099511627776) svcA
theorem encS_inj : ∀ {a b : List Bytes}, a.map encS = b.map encS → a = b
  | [], [], _ => rfl
  | [], _ :: _, h => by cases h
  | _ :: _, [], h => by cases h
  | x :: a, y :: b, h => by
    simp only [List.map_cons, List.cons.injEq, encS] at h
    obtain ⟨⟨h1⟩, h2⟩ := h
    cases h1
    rw [encS_inj h2]
theorem sSvcO_eq (p : List Bytes) (h : p.length ≤ 1099511627776) : sSvcO [.sl (p.map encS) .unk] = some (.tup [.agg (encSvc (svcOf p).1), .bool (svcOf p).2]) := spF_eq (fun a b e => by
  have : a.map encS = b.map encS := by injection e with e1; injection e1
  rw [encS_inj this]) p h
end Go.Proofs

/- Walks: lines that are written, on both sides. -/
namespace Go.Proofs
open Go Go.Abs
set_option linter.unusedSimpArgs false
set_option linter.unusedVariables false
set_option maxRecDepth 20000
theorem dbit_calls (b : Bool) (H : Heap) : ACalls Tryd.prog 75 [.bool b] H fun x H' => x = .str (bitV b) ∧ H' = H := by
  cases b
  · refine ACalls.of_code (X := { pure := pu0 }) pu0_ok Tryd.func75 (by kernel_rfl) rfl (by kernel_rfl) (Nat.le_of_ble_eq_true rfl) ?_
    simp -implicitDefEqProofs only [go_sem, tys, regs0, Nat.reduceEqDiff, Nat.reduceAdd, Nat.reduceLeDiff, Nat.reduceLT, Nat.reduceMul, Int.natCast_one, Int.natCast_zero, Int.reduceEq, Int.reduceLT, Int.reduceLE, Int.reduceAdd, Int.reduceSub, Int.reduceToNat, UInt8.reduceToNat, Tryd.f75]
    exact Done.now ⟨rfl, rfl⟩
  · refine ACalls.of_code (X := { pure := pu0 }) pu0_ok Tryd.func75 (by kernel_rfl) rfl (by kernel_rfl) (Nat.le_of_ble_eq_true rfl) ?_
    simp -implicitDefEqProofs only [go_sem, tys, regs0, Nat.reduceEqDiff, Nat.reduceAdd, Nat.reduceLeDiff, Nat.reduceLT, Nat.reduceMul, Int.natCast_one, Int.natCast_zero, Int.reduceEq, Int.reduceLT, Int.reduceLE, Int.reduceAdd, Int.reduceSub, Int.reduceToNat, UInt8.reduceToNat, Tryd.f75]
    exact Done.now ⟨rfl, rfl⟩
theorem rbit_calls (b : Bool) (H : Heap) : ACalls Tryd.prog 77 [.bool b] H fun x H' => x = .str (bitV b) ∧ H' = H := by
  cases b
  · refine ACalls.of_code (X := { pure := pu0 }) pu0_ok Tryd.func77 (by kernel_rfl) rfl (by kernel_rfl) (Nat.le_of_ble_eq_true rfl) ?_
    simp -implicitDefEqProofs only [go_sem, tys, regs0, Nat.reduceEqDiff, Nat.reduceAdd, Nat.reduceLeDiff, Nat.reduceLT, Nat.reduceMul, Int.natCast_one, Int.natCast_zero, Int.reduceEq, Int.reduceLT, Int.reduceLE, Int.reduceAdd, Int.reduceSub, Int.reduceToNat, UInt8.reduceToNat, Tryd.f77]
    exact Done.now ⟨rfl, rfl⟩
  · refine ACalls.of_code (X := { pure := pu0 }) pu0_ok Tryd.func77 (by kernel_rfl) rfl (by kernel_rfl) (Nat.le_of_ble_eq_true rfl) ?_
    simp -implicitDefEqProofs only [go_sem, tys, regs0, Nat.reduceEqDiff, Nat.reduceAdd, Nat.reduceLeDiff, Nat.reduceLT, Nat.reduceMul, Int.natCast_one, Int.natCast_zero, Int.reduceEq, Int.reduceLT, Int.reduceLE, Int.reduceAdd, Int.reduceSub, Int.reduceToNat, UInt8.reduceToNat, Tryd.f77]
    exact Done.now ⟨rfl, rfl⟩
def sBitV : List AV → Option AV := fn1 .bool fun b => some (.str (bitV b))
theorem sBitV_eq (b : Bool) : sBitV [.bool b] = some (.str (bitV b)) := rfl
theorem sBitV_ok {P : Program} {f : FuncId} (h : ∀ b H, ACalls P f [.bool b] H fun x H' => x = .str (bitV b) ∧ H' = H) : ∀ xs v, sBitV xs = some v → ∀ H, ACalls P f xs H fun x H' => x = v ∧ H' = H := by
  intro xs v hv H
  obtain ⟨x, s, rfl, h1, h2⟩ := fn1_some hv
  cases h2; cases Rd.bool_some h1; exact h s H
theorem bitV_len (b : Bool) : (bitV b).length = 1 := by cases b <;> rfl
noncomputable def puCP1 : Pures := putP 38 sQuo (putP 74 sQuo (putP 77 sBitV (putP 75 sBitV pu0)))
theorem puCP1_dyn : isDyn puCP1 = false := by simp only [puCP1, go_sem, Nat.reduceEqDiff]
attribute [go_sem] puCP1_dyn
theorem puCP1_ok : PuOK Tryd.prog puCP1 := .put (.put (.put (.put (pu0_ok) (sBitV_ok dbit_calls)) (sBitV_ok rbit_calls)) (spF_ok fun s H h => quote_calls s H h)) (spF_ok fun s H h => rQuote_calls s H h)
theorem quoteB_len (s : Bytes) : (quoteB s).length ≤ 4 * s.length + 2 := by
  have := quoteI_len s
  unfold quoteB
  simp only [List.length_cons, List.length_append, List.length_nil]
  omega
theorem serviceLine_calls (s : SvcV) (H : Heap) (hr : svcR s) : ACalls Tryd.prog 34 [.agg (encSvc s)] H fun x H' => x = .str (wService ++ [32] ++ svcLine s ++ [10]) ∧ H' = H := by
  obtain ⟨r1, r2⟩ := hr
  have b1 := bitV_len s.auto
  have b2 := bitV_len s.on
  refine ACalls.of_code (X := { pure := puCP1 }) puCP1_ok Tryd.func34 (by kernel_rfl) rfl (by kernel_rfl) (Nat.le_of_ble_eq_true rfl) ?_
  simp -implicitDefEqProofs (disch := (first | omega | (simp only [List.length_append, List.length_cons, List.length_nil]; omega))) only [go_sem, binS_addD, tys, regs0, Nat.reduceEqDiff, Nat.reduceAdd, Nat.reduceLeDiff, Nat.reduceLT, Nat.reduceMul, Int.natCast_one, Int.natCast_zero, Int.reduceEq, Int.reduceLT, Int.reduceLE, Int.reduceAdd, Int.reduceSub, Int.reduceToNat, UInt8.reduceToNat, Go.IntWalk.i64_in, Tryd.f34, encSvc]
  with_reducible refine nwC_intro fun i1 hi1 => ?_
  simp -implicitDefEqProofs (disch := (first | omega | (simp only [List.length_append, List.length_cons, List.length_nil]; omega))) only [go_sem, binS_addD, tys, regs0, Nat.reduceEqDiff, Nat.reduceAdd, Nat.reduceLeDiff, Nat.reduceLT, Nat.reduceMul, Int.natCast_one, Int.natCast_zero, Int.reduceEq, Int.reduceLT, Int.reduceLE, Int.reduceAdd, Int.reduceSub, Int.reduceToNat, UInt8.reduceToNat, Go.IntWalk.i64_in, puCP1, sBitV_eq, b1, b2]
  exact Done.drop1 hi1 ⟨by simp [svcLine], rfl⟩
theorem serviceWords_calls (s : SvcV) (H : Heap) (hr : svcR s) : ACalls Tryd.prog 39 [.agg (encSvc s)] H fun x H' => x = .str (svcLine s) ∧ H' = H := by
  obtain ⟨r1, r2⟩ := hr
  have b1 := bitV_len s.auto
  have b2 := bitV_len s.on
  refine ACalls.of_code (X := { pure := puCP1 }) puCP1_ok Tryd.func39 (by kernel_rfl) rfl (by kernel_rfl) (Nat.le_of_ble_eq_true rfl) ?_
  simp -implicitDefEqProofs (disch := (first | omega | (simp only [List.length_append, List.length_cons, List.length_nil]; omega))) only [go_sem, binS_addD, tys, regs0, Nat.reduceEqDiff, Nat.reduceAdd, Nat.reduceLeDiff, Nat.reduceLT, Nat.reduceMul, Int.natCast_one, Int.natCast_zero, Int.reduceEq, Int.reduceLT, Int.reduceLE, Int.reduceAdd, Int.reduceSub, Int.reduceToNat, UInt8.reduceToNat, Go.IntWalk.i64_in, Tryd.f39, encSvc]
  with_reducible refine nwC_intro fun i1 hi1 => ?_
  simp -implicitDefEqProofs (disch := (first | omega | (simp only [List.length_append, List.length_cons, List.length_nil]; omega))) only [go_sem, binS_addD, tys, regs0, Nat.reduceEqDiff, Nat.reduceAdd, Nat.reduceLeDiff, Nat.reduceLT, Nat.reduceMul, Int.natCast_one, Int.natCast_zero, Int.reduceEq, Int.reduceLT, Int.reduceLE, Int.reduceAdd, Int.reduceSub, Int.reduceToNat, UInt8.reduceToNat, Go.IntWalk.i64_in, puCP1, sBitV_eq, b1, b2]
  exact Done.drop1 hi1 ⟨by simp [svcLine], rfl⟩
theorem settingLine_calls (w : Bytes) (s : SetV) (H : Heap) (hw : w.length ≤ 100) (hr : setR s) : ACalls Tryd.prog 33 [.str w, .agg (encSet s)] H fun x H' => x = .str (w ++ [32] ++ s.key ++ [32] ++ quoteB s.value ++ [10]) ∧ H' = H := by
  obtain ⟨r1, r2⟩ := hr
  have q := sQuo_eq s.value r2
  have ql := quoteB_len s.value
  generalize quoteB s.value = qv at *
  refine ACalls.of_code (X := { pure := puCP1 }) puCP1_ok Tryd.func33 (by kernel_rfl) rfl (by kernel_rfl) (Nat.le_of_ble_eq_true rfl) ?_
  simp -implicitDefEqProofs (disch := (first | omega | (simp only [List.length_append, List.length_cons, List.length_nil]; omega))) only [go_sem, binS_addD, tys, regs0, Nat.reduceEqDiff, Nat.reduceAdd, Nat.reduceLeDiff, Nat.reduceLT, Nat.reduceMul, Int.natCast_one, Int.natCast_zero, Int.reduceEq, Int.reduceLT, Int.reduceLE, Int.reduceAdd, Int.reduceSub, Int.reduceToNat, UInt8.reduceToNat, Go.IntWalk.i64_in, Tryd.f33, encSet]
  with_reducible refine nwC_intro fun i1 hi1 => ?_
  simp -implicitDefEqProofs (disch := (first | omega | (simp only [List.length_append, List.length_cons, List.length_nil]; omega))) only [go_sem, binS_addD, tys, regs0, Nat.reduceEqDiff, Nat.reduceAdd, Nat.reduceLeDiff, Nat.reduceLT, Nat.reduceMul, Int.natCast_one, Int.natCast_zero, Int.reduceEq, Int.reduceLT, Int.reduceLE, Int.reduceAdd, Int.reduceSub, Int.reduceToNat, UInt8.reduceToNat, Go.IntWalk.i64_in, puCP1, q]
  exact Done.drop1 hi1 ⟨by simp, rfl⟩
theorem fileLine_calls (w w2 : Bytes) (f : FileV) (H : Heap) (hw : w.length ≤ 100) (hw2 : w2.length ≤ 100) (hr : fileR f) :
    ACalls Tryd.prog 32 [.str w, .str w2, .agg (encFile f)] H fun x H' => x = .str ((if f.runs = true then w2 else w) ++ [32] ++ f.path ++ [32] ++ quoteB f.data ++ [10]) ∧ H' = H := by
  obtain ⟨r1, r2⟩ := hr
  have q := sQuo_eq f.data r2
  have ql := quoteB_len f.data
  generalize quoteB f.data = qv at *
  obtain ⟨p, d, r⟩ := f
  simp only at r1 r2 q ql
  refine ACalls.of_code (X := { pure := puCP1 }) puCP1_ok Tryd.func32 (by kernel_rfl) rfl (by kernel_rfl) (Nat.le_of_ble_eq_true rfl) ?_
  simp -implicitDefEqProofs (disch := (first | omega | (simp only [List.length_append, List.length_cons, List.length_nil]; omega))) only [go_sem, binS_addD, tys, regs0, Nat.reduceEqDiff, Nat.reduceAdd, Nat.reduceLeDiff, Nat.reduceLT, Nat.reduceMul, Int.natCast_one, Int.natCast_zero, Int.reduceEq, Int.reduceLT, Int.reduceLE, Int.reduceAdd, Int.reduceSub, Int.reduceToNat, UInt8.reduceToNat, Go.IntWalk.i64_in, Tryd.f32, encFile]
  with_reducible refine nwC_intro fun i1 hi1 => ?_
  cases r
  · simp -implicitDefEqProofs (disch := (first | omega | (simp only [List.length_append, List.length_cons, List.length_nil]; omega))) only [go_sem, binS_addD, tys, regs0, Nat.reduceEqDiff, Nat.reduceAdd, Nat.reduceLeDiff, Nat.reduceLT, Nat.reduceMul, Int.natCast_one, Int.natCast_zero, Int.reduceEq, Int.reduceLT, Int.reduceLE, Int.reduceAdd, Int.reduceSub, Int.reduceToNat, UInt8.reduceToNat, Go.IntWalk.i64_in, puCP1, q]
    exact Done.drop1 hi1 ⟨by simp, rfl⟩
  · simp -implicitDefEqProofs (disch := (first | omega | (simp only [List.length_append, List.length_cons, List.length_nil]; omega))) only [go_sem, binS_addD, tys, regs0, Nat.reduceEqDiff, Nat.reduceAdd, Nat.reduceLeDiff, Nat.reduceLT, Nat.reduceMul, Int.natCast_one, Int.natCast_zero, Int.reduceEq, Int.reduceLT, Int.reduceLE, Int.reduceAdd, Int.reduceSub, Int.reduceToNat, UInt8.reduceToNat, Go.IntWalk.i64_in, puCP1, q]
    exact Done.drop1 hi1 ⟨by simp, rfl⟩
theorem sized_calls (s : Bytes) (H : Heap) : ACalls Tryd.prog 35 [.str s] H fun x H' => x = (if 4194304 < s.length then .tup [.str [], .int .i64 4] else .tup [.str s, .int .i64 0]) ∧ H' = H := by
  by_cases h : 4194304 < s.length
  · have y : decide ((4194304 : Int) < s.length) = true := decide_eq_true (by omega)
    rw [if_pos h]
    refine ACalls.of_code (X := { pure := pu0 }) pu0_ok Tryd.func35 (by kernel_rfl) rfl (by kernel_rfl) (Nat.le_of_ble_eq_true rfl) ?_
    simp -implicitDefEqProofs only [go_sem, tys, regs0, Nat.reduceEqDiff, Nat.reduceAdd, Nat.reduceLeDiff, Nat.reduceLT, Nat.reduceMul, Int.natCast_one, Int.natCast_zero, Int.reduceEq, Int.reduceLT, Int.reduceLE, Int.reduceAdd, Int.reduceSub, Int.reduceToNat, UInt8.reduceToNat, Tryd.f35, y]
    exact Done.now ⟨rfl, rfl⟩
  · have y : decide ((4194304 : Int) < s.length) = false := decide_eq_false (by omega)
    rw [if_neg h]
    refine ACalls.of_code (X := { pure := pu0 }) pu0_ok Tryd.func35 (by kernel_rfl) rfl (by kernel_rfl) (Nat.le_of_ble_eq_true rfl) ?_
    simp -implicitDefEqProofs only [go_sem, tys, regs0, Nat.reduceEqDiff, Nat.reduceAdd, Nat.reduceLeDiff, Nat.reduceLT, Nat.reduceMul, Int.natCast_one, Int.natCast_zero, Int.reduceEq, Int.reduceLT, Int.reduceLE, Int.reduceAdd, Int.reduceSub, Int.reduceToNat, UInt8.reduceToNat, Tryd.f35, y]
    exact Done.now ⟨rfl, rfl⟩
end Go.Proofs
