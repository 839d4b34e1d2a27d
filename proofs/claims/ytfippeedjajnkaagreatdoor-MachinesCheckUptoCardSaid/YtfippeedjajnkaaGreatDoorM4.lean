/-
  Walks and plain laws, part 4.
-/
import Derived.Test.YtfippeedjajnkaaGreatDoorM3
import Derived.Test.YtfippeedjajnkaaGreatDoorM2
/- Walks: Check, on the reference's side. -/
namespace Go.Proofs
open Go Go.Abs
open Nat (reduceEqDiff reduceAdd reduceLeDiff reduceLT reduceMul)
open Int (reduceEq reduceLE reduceSub reduceToNat)
set_option linter.unusedSimpArgs false
set_option linter.unusedVariables false
set_option maxRecDepth 20000
def puRC : Pures := putP 42 (sStr nameB) (putP 43 (sStr valueB) (putP 62 sFileE (putP 63 sSetE (putP 64 sSvcE (putP 61 sFirst (putP 60 sWhen pu0))))))
theorem puRC_dyn : isDyn puRC = false := by simp only [puRC, go_sem, Nat.reduceEqDiff]
attribute [go_sem] puRC_dyn
theorem puRC_ok : PuOK Tryz.prog puRC := .put (.put (.put (.put (.put (.put (.put (pu0_ok) (sWhen_ok when_calls)) (sFirst_ok first_calls)) (sSvcE_ok rServiceError_calls)) (sSetE_ok rSettingError_calls)) (sFileE_ok rFileError_calls)) (sStr_ok rIsValue_calls)) (sStr_ok rIsName_calls)
/-- The order, as a number. -/
def bV (p : Option Bytes) (k : Bytes) : Int := if ordB p k = true then 7 else 0
theorem behind_calls (i : Nat) (k z : Bytes) (p : Option Bytes) (i3 : Nat) (G : Heap) (h : G i3 = some (.cells [.str z])) (hp : p = if i = 0 then none else some z) :
    ACalls Tryz.prog 59 [.int .i64 i, .str k, .ptr i3 0] G fun x H' => x = .int .i64 (bV p k) ∧ H' = G.put i3 (.cells [.str k]) := by
  by_cases c : i = 0
  · subst c
    have y : decide ((0 : Int) < ((0 : Nat) : Int)) = false := rfl
    have y2 : decide ((0 : Int) < 0) = false := rfl
    refine ACalls.of_code (X := { pure := puRC }) puRC_ok Tryz.func59 (by kernel_rfl) rfl (by kernel_rfl) (Nat.le_of_ble_eq_true rfl) ?_
    simp -implicitDefEqProofs only [go_sem, reduceEqDiff, reduceAdd, reduceLeDiff, reduceLT, reduceMul, reduceEq, Int.reduceLT, reduceLE, Int.reduceAdd, reduceSub, reduceToNat, UInt8.reduceToNat, Tryz.f59, h, y, y2]
    simp -implicitDefEqProofs only [go_sem, reduceEqDiff, reduceAdd, reduceLeDiff, reduceLT, reduceMul, reduceEq, Int.reduceLT, reduceLE, Int.reduceAdd, reduceSub, reduceToNat, UInt8.reduceToNat, puRC, sWhen_eq]
    exact Done.now ⟨by rw [hp]; rfl, rfl⟩
  · have y : decide ((0 : Int) < (i : Int)) = true := decide_eq_true (by omega)
    rw [if_neg c] at hp
    subst hp
    by_cases c2 : leB k z = true
    · have y2 : (strLt k z || decide (k = z)) = true := c2
      refine ACalls.of_code (X := { pure := puRC }) puRC_ok Tryz.func59 (by kernel_rfl) rfl (by kernel_rfl) (Nat.le_of_ble_eq_true rfl) ?_
      simp -implicitDefEqProofs only [go_sem, reduceEqDiff, reduceAdd, reduceLeDiff, reduceLT, reduceMul, reduceEq, Int.reduceLT, reduceLE, Int.reduceAdd, reduceSub, reduceToNat, UInt8.reduceToNat, Tryz.f59, h, y, y2]
      simp -implicitDefEqProofs only [go_sem, reduceEqDiff, reduceAdd, reduceLeDiff, reduceLT, reduceMul, reduceEq, Int.reduceLT, reduceLE, Int.reduceAdd, reduceSub, reduceToNat, UInt8.reduceToNat, puRC, sWhen_eq]
      exact Done.now ⟨by rw [bV, if_pos (show ordB (some z) k = true from c2)], rfl⟩
    · have y2 : (strLt k z || decide (k = z)) = false := by simpa [leB] using c2
      refine ACalls.of_code (X := { pure := puRC }) puRC_ok Tryz.func59 (by kernel_rfl) rfl (by kernel_rfl) (Nat.le_of_ble_eq_true rfl) ?_
      simp -implicitDefEqProofs only [go_sem, reduceEqDiff, reduceAdd, reduceLeDiff, reduceLT, reduceMul, reduceEq, Int.reduceLT, reduceLE, Int.reduceAdd, reduceSub, reduceToNat, UInt8.reduceToNat, Tryz.f59, h, y, y2]
      simp -implicitDefEqProofs only [go_sem, reduceEqDiff, reduceAdd, reduceLeDiff, reduceLT, reduceMul, reduceEq, Int.reduceLT, reduceLE, Int.reduceAdd, reduceSub, reduceToNat, UInt8.reduceToNat, puRC, sWhen_eq]
      exact Done.now ⟨by rw [bV, if_neg (show ¬ ordB (some z) k = true from c2)], rfl⟩
theorem first2 (e b : Int) : firstOf [e, b] = if e ≠ 0 then e else b := by
  by_cases h : e = 0 <;> by_cases g : b = 0 <;> simp [firstOf, h, g]
theorem first3 (k v : Bytes) (b : Int) : firstOf [if nameB k = false then 5 else 0, if valueB v = false then 2 else 0, b] = if factErr ⟨k, v⟩ ≠ 0 then factErr ⟨k, v⟩ else b := by
  cases h1 : nameB k <;> cases h2 : valueB v <;> by_cases g : b = 0 <;> simp [firstOf, factErr, h1, h2, g]
theorem eachE_step {α : Type} (err : α → Int) (key : α → Bytes) {p : Option Bytes} {x : α} {l : List α} {e : Int} (he : e = if err x ≠ 0 then err x else bV p (key x)) : eachE err key p (x :: l) = if e ≠ 0 then e else eachE err key (some (key x)) l := by
  rw [eachE, he]
  unfold bV
  by_cases h : err x = 0 <;> by_cases g : ordB p (key x) = true <;> simp [h, g]
theorem filesE_step {p : Option Bytes} {seen : List Bytes} {x : FileV} {l : List FileV} {e : Int} (he : e = if fileErr x ≠ 0 then fileErr x else bV p x.path) :
    filesE p seen (x :: l) = if e ≠ 0 then e else if clash seen x.path = true then 11 else filesE (some x.path) (x.path :: seen) l := by
  rw [filesE, he]
  unfold bV
  by_cases h : fileErr x = 0 <;> by_cases g : ordB p x.path = true <;> simp [h, g]
def RcM (m : MacV) (ta tb tc td : Tail) (H : Heap) (i1 i3 : Nat) (G : Heap) (z : Bytes) : Prop := H.Sub G ∧ G i1 = some (.cells (encMac m ta tb tc td)) ∧ G i3 = some (.cells [.str z])
def RcI {α : Type} (err : α → Int) (key : α → Bytes) (l : List α) (m : MacV) (ta tb tc td : Tail) (H : Heap) (i1 i3 : Nat) (i : Nat) (G : Heap) : Prop :=
  i ≤ l.length ∧ eachE err key none l = eachE err key (prevK key l i) (l.drop i) ∧ ∃ z, RcM m ta tb tc td H i1 i3 G z ∧ prevK key l i = if i = 0 then none else some z
def RcQ (p : Prop) (m : MacV) (ta tb tc td : Tail) (H : Heap) (i1 i3 : Nat) (r : Regs) (G : Heap) : Prop := p ∧ (∃ z, RcM m ta tb tc td H i1 i3 G z) ∧ agrees r [(1, .ptr i1 0), (4, .func 59 [.ptr i3 0])]
theorem _root_.Go.Abs.ACalls.pure_next2 {P : Program} {f : FuncId} {args : List AV} {H H1 : Heap} {K : K1} {x : AV} (h : ACalls P f args H fun y H' => y = x ∧ H' = H1) (hK : K x H1) : ACalls P f args H K := by
  refine h.mono ?_
  rintro x H' ⟨rfl, rfl⟩
  exact hK
set_option maxHeartbeats 12800000 in
theorem rCheck_calls (m : MacV) (ta tb tc td : Tail) (H : Heap) (hr : macR m) : ACalls Tryz.prog 14 [.agg (encMac m ta tb tc td)] H fun x H' => x = .int .i64 (macErr m) ∧ H' = H := by
  obtain ⟨⟨l1, l2, l3, l4⟩, r1, r2, r3, r4⟩ := hr
  have hR : Room = 1099511627776 := rfl
  have hM := macErr.eq_1 m
  have hS := Heap.Sub.rfl' H
  refine ACalls.of_code (X := { pure := puRC }) puRC_ok Tryz.func14 (by kernel_rfl) rfl (by kernel_rfl) (Nat.le_of_ble_eq_true rfl) ?_
  simp -implicitDefEqProofs only [go_sem, reduceEqDiff, reduceAdd, reduceLeDiff, reduceLT, reduceMul, reduceEq, Int.reduceLT, reduceLE, Int.reduceAdd, reduceSub, reduceToNat, UInt8.reduceToNat, Tryz.f14, encMac]
  with_reducible refine nwC_intro fun i1 hi1 => ?_
  generalize E1 : Heap.put H i1 _ = G1
  have hO_1 := obj_new E1 hi1 hS
  have n1 := hO_1.1
  have hS := hO_1.2.1
  have g1 := hO_1.2.2.1
  clear hO_1
  by_cases c1 : 100 < m.facts.length
  · have y1 : decide ((100 : Int) < (m.facts.length : Int)) = true := decide_eq_true (by omega)
    simp -implicitDefEqProofs only [go_sem, reduceEqDiff, reduceAdd, reduceLeDiff, reduceLT, reduceMul, reduceEq, Int.reduceLT, reduceLE, Int.reduceAdd, reduceSub, reduceToNat, UInt8.reduceToNat, g1, y1]
    exact Done.drop hS ⟨by rw [macErr_counts (.inl c1)], rfl⟩
  have y1 : decide ((100 : Int) < (m.facts.length : Int)) = false := decide_eq_false (by omega)
  by_cases c2 : 2000 < m.files.length
  · have y2 : decide ((2000 : Int) < (m.files.length : Int)) = true := decide_eq_true (by omega)
    simp -implicitDefEqProofs only [go_sem, reduceEqDiff, reduceAdd, reduceLeDiff, reduceLT, reduceMul, reduceEq, Int.reduceLT, reduceLE, Int.reduceAdd, reduceSub, reduceToNat, UInt8.reduceToNat, g1, y1, y2]
    exact Done.drop hS ⟨by rw [macErr_counts (.inr (.inl c2))], rfl⟩
  have y2 : decide ((2000 : Int) < (m.files.length : Int)) = false := decide_eq_false (by omega)
  by_cases c3 : 2000 < m.sets.length
  · have y3 : decide ((2000 : Int) < (m.sets.length : Int)) = true := decide_eq_true (by omega)
    simp -implicitDefEqProofs only [go_sem, reduceEqDiff, reduceAdd, reduceLeDiff, reduceLT, reduceMul, reduceEq, Int.reduceLT, reduceLE, Int.reduceAdd, reduceSub, reduceToNat, UInt8.reduceToNat, g1, y1, y2, y3]
    exact Done.drop hS ⟨by rw [macErr_counts (.inr (.inr (.inl c3)))], rfl⟩
  have y3 : decide ((2000 : Int) < (m.sets.length : Int)) = false := decide_eq_false (by omega)
  by_cases c4 : 100 < m.svcs.length
  · have y4 : decide ((100 : Int) < (m.svcs.length : Int)) = true := decide_eq_true (by omega)
    simp -implicitDefEqProofs only [go_sem, reduceEqDiff, reduceAdd, reduceLeDiff, reduceLT, reduceMul, reduceEq, Int.reduceLT, reduceLE, Int.reduceAdd, reduceSub, reduceToNat, UInt8.reduceToNat, g1, y1, y2, y3, y4]
    exact Done.drop hS ⟨by rw [macErr_counts (.inr (.inr (.inr c4)))], rfl⟩
  have y4 : decide ((100 : Int) < (m.svcs.length : Int)) = false := decide_eq_false (by omega)
  rw [if_neg (by omega)] at hM
  simp -implicitDefEqProofs only [go_sem, reduceEqDiff, reduceAdd, reduceLeDiff, reduceLT, reduceMul, reduceEq, Int.reduceLT, reduceLE, Int.reduceAdd, reduceSub, reduceToNat, UInt8.reduceToNat, g1, y1, y2, y3, y4]
  with_reducible refine nwC_intro fun i3 hi3 => ?_
  simp -implicitDefEqProofs only [go_sem, reduceEqDiff, reduceAdd, reduceLeDiff, reduceLT, reduceMul, reduceEq, Int.reduceLT, reduceLE, Int.reduceAdd, reduceSub, reduceToNat, UInt8.reduceToNat]
  generalize E3 : Heap.put G1 i3 _ = G3
  have hO_3 := obj_new E3 hi3 hS
  have n3 := hO_3.1
  have hS := hO_3.2.1
  have g3 := hO_3.2.2.1
  have d1_3 := obj_ne g1 hi3
  have g1 := hO_3.2.2.2 _ _ g1
  clear hO_3
  have hZ : RcM m ta tb tc td H i1 i3 G3 [] := ⟨hS, g1, g3⟩
  simp -implicitDefEqProofs only [go_sem, reduceEqDiff, reduceAdd, reduceLeDiff, reduceLT, reduceMul, reduceEq, Int.reduceLT, reduceLE, Int.reduceAdd, reduceSub, reduceToNat, UInt8.reduceToNat, g1]
  clear y1 y2 y3 y4 c1 c2 c3 c4 hi3 hi1 g3 hS
  with_reducible refine aloop_cut 0 (RcQ (eachE factErr (·.key) none m.facts = 0) m ta tb tc td H i1 i3) ?_ ?_
  rotate_left
  · refine aloop_intro (σ := Nat) (fun i => [(1, .ptr i1 0), (4, .func 59 [.ptr i3 0]), (43, .sl (m.facts.map encSet) ta), (44, .int .i64 m.facts.length), (45, .int .i64 i)])
      (RcI factErr (·.key) m.facts m ta tb tc td H i1 i3) (fun i => m.facts.length - i) 0 ?_ ?_ ?_
    · simp -implicitDefEqProofs only [go_sem, reduceEqDiff, reduceAdd, reduceLeDiff, reduceLT, reduceMul, reduceEq, Int.reduceLT, reduceLE, Int.reduceAdd, reduceSub, reduceToNat, UInt8.reduceToNat]
    · exact ⟨Nat.zero_le _, rfl, [], hZ, rfl⟩
    clear hZ
    rintro i r G hv ⟨hi, hE, z, ⟨hS, g1, g3⟩, hp⟩
    have h1 := hv.1
    have h4 := hv.2.1
    have hl := hv.2.2.1
    have hn := hv.2.2.2.1
    have hi2 := hv.2.2.2.2.1
    clear hv
    by_cases g : i < m.facts.length
    rotate_left
    · have x0 : decide ((i : Int) < m.facts.length) = false := decide_eq_false (by omega)
      obtain rfl : i = m.facts.length := by omega
      rw [List.drop_length, eachE] at hE
      simp -implicitDefEqProofs only [go_sem, reduceEqDiff, reduceAdd, reduceLeDiff, reduceLT, reduceMul, reduceEq, Int.reduceLT, reduceLE, Int.reduceAdd, reduceSub, reduceToNat, UInt8.reduceToNat, h1, h4, hl, hn, hi2, x0]
      exact ⟨hE, ⟨z, hS, g1, g3⟩, by simp -implicitDefEqProofs only [go_sem, reduceEqDiff, reduceAdd, reduceLeDiff, reduceLT, reduceMul, reduceEq, Int.reduceLT, reduceLE, Int.reduceAdd, reduceSub, reduceToNat, UInt8.reduceToNat, h1, h4]⟩
    have x0 : decide ((i : Int) < m.facts.length) = true := decide_eq_true (by omega)
    obtain ⟨x, hx⟩ : ∃ x, m.facts[i]? = some x := getD_get' g
    have hxr := r1 x (List.mem_of_getElem? hx)
    have ws : IntKind.i64.wrap ((i : Int) + 1) = ((i + 1 : Nat) : Int) := by rw [Go.IntWalk.i64_in _ (by omega)]; omega
    have hps := prevK_succ (·.key) hx
    have hU : ∀ (a : SetV), a ∈ m.facts → (encSet a).length = 2 := fun _ _ => rfl
    rw [drop_at hx] at hE
    obtain ⟨xkey, xvalue⟩ := x
    have hr1 := hxr.1
    have hr2 := hxr.2
    simp only at hr1 hr2 hps
    rw [eachE_step factErr (·.key) rfl] at hE
    have hb := fun G (h : G i3 = some (.cells [.str z])) => behind_calls i xkey z _ i3 G h hp
    generalize prevK (·.key) m.facts i = pk at *
    simp -implicitDefEqProofs only [go_sem, reduceEqDiff, reduceAdd, reduceLeDiff, reduceLT, reduceMul, reduceEq, Int.reduceLT, reduceLE, Int.reduceAdd, reduceSub, reduceToNat, UInt8.reduceToNat, h1, h4, hl, hn, hi2, x0, hx]
    refine ⟨hU, Nat.le_refl _, ?_⟩
    simp only [encSet, List.take_succ_cons, List.take_zero, List.take_nil]
    with_reducible refine nwC_intro fun i6 hi6 => ?_
    simp -implicitDefEqProofs only [go_sem, reduceEqDiff, reduceAdd, reduceLeDiff, reduceLT, reduceMul, reduceEq, Int.reduceLT, reduceLE, Int.reduceAdd, reduceSub, reduceToNat, UInt8.reduceToNat]
    generalize E6 : Heap.put G i6 _ = G6
    have hO_6 := obj_new E6 hi6 hS
    have n6 := hO_6.1
    have hS := hO_6.2.1
    have g6 := hO_6.2.2.1
    have d1_6 := obj_ne g1 hi6
    have g1 := hO_6.2.2.2 _ _ g1
    have d3_6 := obj_ne g3 hi6
    have g3 := hO_6.2.2.2 _ _ g3
    clear hO_6
    simp -implicitDefEqProofs only [go_sem, reduceEqDiff, reduceAdd, reduceLeDiff, reduceLT, reduceMul, reduceEq, Int.reduceLT, reduceLE, Int.reduceAdd, reduceSub, reduceToNat, UInt8.reduceToNat, h1, h4, hl, hn, hi2, g6, puRC, sStr_eq, sWhen_eq, hR, hr1, hr2, hxr]
    refine (hb _ g3).pure_next2 ?_
    generalize E3 : Heap.put G6 i3 _ = G7
    have hS := obj_sub E3 n3 hS
    have g3 := obj_at E3
    have g1 := obj_keep E3 (by first | exact d1_3 | exact fun e => d3_1 e.symm) g1
    have g6 := obj_keep E3 (by first | exact d6_3 | exact fun e => d3_6 e.symm) g6
    simp -implicitDefEqProofs only [go_sem, reduceEqDiff, reduceAdd, reduceLeDiff, reduceLT, reduceMul, reduceEq, Int.reduceLT, reduceLE, Int.reduceAdd, reduceSub, reduceToNat, UInt8.reduceToNat, h1, h4, hl, hn, hi2, g6, puRC, sFirst, first3]
    generalize (if factErr ⟨xkey, xvalue⟩ ≠ 0 then factErr ⟨xkey, xvalue⟩ else bV pk xkey) = e at *
    by_cases c1 : e = 0
    · have y1 : decide (¬ e = 0) = false := decide_eq_false (by simpa using c1)
      rw [if_neg (by simpa using c1), ← hps] at hE
      simp -implicitDefEqProofs only [go_sem, reduceEqDiff, reduceAdd, reduceLeDiff, reduceLT, reduceMul, reduceEq, Int.reduceLT, reduceLE, Int.reduceAdd, reduceSub, reduceToNat, UInt8.reduceToNat, h1, h4, hl, hn, hi2, y1, ws]
      exact Again.mk (i + 1) (by simp -implicitDefEqProofs only [go_sem, reduceEqDiff, reduceAdd, reduceLeDiff, reduceLT, reduceMul, reduceEq, Int.reduceLT, reduceLE, Int.reduceAdd, reduceSub, reduceToNat, UInt8.reduceToNat, h1, h4, hl, hn]) ⟨by omega, hE, xkey, ⟨hS, g1, g3⟩, by rw [hps, if_neg (by omega)]⟩ (by omega)
    · have y1 : decide (¬ e = 0) = true := decide_eq_true c1
      rw [if_pos c1] at hE
      simp -implicitDefEqProofs only [go_sem, reduceEqDiff, reduceAdd, reduceLeDiff, reduceLT, reduceMul, reduceEq, Int.reduceLT, reduceLE, Int.reduceAdd, reduceSub, reduceToNat, UInt8.reduceToNat, h1, h4, hl, hn, hi2, y1]
      exact Done.drop hS ⟨by rw [hM, if_pos (by rw [hE]; exact c1), hE], rfl⟩
  rintro r G ⟨he1, ⟨z, hZ⟩, hv⟩
  have h1 := hv.1
  have h4 := hv.2.1
  have g1 := hZ.2.1
  clear hv
  simp only [encMac] at g1
  rw [if_neg (by simpa using he1)] at hM
  simp -implicitDefEqProofs only [go_sem, reduceEqDiff, reduceAdd, reduceLeDiff, reduceLT, reduceMul, reduceEq, Int.reduceLT, reduceLE, Int.reduceAdd, reduceSub, reduceToNat, UInt8.reduceToNat, h1, h4, g1]
  with_reducible refine nwM_intro fun im him => ?_
  have hdS := hZ.1
  have hg3 := hZ.2.2
  obtain ⟨hS, _, g3⟩ := hZ
  generalize Eim : Heap.put G im _ = G2
  have hO_im := obj_new Eim him hS
  have nim := hO_im.1
  have hS := hO_im.2.1
  have gim := hO_im.2.2.1
  have d1_im := obj_ne g1 him
  have g1 := hO_im.2.2.2 _ _ g1
  have d3_im := obj_ne g3 him
  have g3 := hO_im.2.2.2 _ _ g3
  clear hO_im
  simp -implicitDefEqProofs only [go_sem, reduceEqDiff, reduceAdd, reduceLeDiff, reduceLT, reduceMul, reduceEq, Int.reduceLT, reduceLE, Int.reduceAdd, reduceSub, reduceToNat, UInt8.reduceToNat, h1, h4, g1]
  with_reducible refine aloop_cut 2 (RcQ (filesE none [] m.files = 0) m ta tb tc td H i1 i3) ?_ ?_
  rotate_left
  · refine aloop_intro (σ := Nat) (fun i => [(1, .ptr i1 0), (4, .func 59 [.ptr i3 0]), (8, .map im), (73, .sl (m.files.map encFile) tb), (74, .int .i64 m.files.length), (75, .int .i64 i)])
      (fun i G => i ≤ m.files.length ∧ (∃ z, RcM m ta tb tc td H i1 i3 G z ∧ prevK (·.path) m.files i = if i = 0 then none else some z) ∧ ∃ es seen, G im = some (.map .str es) ∧ SeenOK es seen ∧ filesE none [] m.files = filesE (prevK (·.path) m.files i) seen (m.files.drop i)) (fun i => m.files.length - i) 0 ?_ ?_ ?_
    · simp -implicitDefEqProofs only [go_sem, reduceEqDiff, reduceAdd, reduceLeDiff, reduceLT, reduceMul, reduceEq, Int.reduceLT, reduceLE, Int.reduceAdd, reduceSub, reduceToNat, UInt8.reduceToNat, h1, h4]
    · exact ⟨Nat.zero_le _, ⟨z, ⟨hS, g1, g3⟩, rfl⟩, [], [], gim, SeenOK.nil, rfl⟩
    clear g1 g3 hg3 hdS gim hS h1 h4
    rintro i r G hv ⟨hi, ⟨z, ⟨hS, g1, g3⟩, hp⟩, es, seen, gim, hse, hE⟩
    have h1 := hv.1
    have h4 := hv.2.1
    have h8 := hv.2.2.1
    have hl := hv.2.2.2.1
    have hn := hv.2.2.2.2.1
    have hi2 := hv.2.2.2.2.2.1
    clear hv
    by_cases g : i < m.files.length
    rotate_left
    · have x0 : decide ((i : Int) < m.files.length) = false := decide_eq_false (by omega)
      obtain rfl : i = m.files.length := by omega
      rw [List.drop_length, filesE] at hE
      simp -implicitDefEqProofs only [go_sem, reduceEqDiff, reduceAdd, reduceLeDiff, reduceLT, reduceMul, reduceEq, Int.reduceLT, reduceLE, Int.reduceAdd, reduceSub, reduceToNat, UInt8.reduceToNat, h1, h4, h8, hl, hn, hi2, x0]
      exact ⟨hE, ⟨z, hS, g1, g3⟩, by simp -implicitDefEqProofs only [go_sem, reduceEqDiff, reduceAdd, reduceLeDiff, reduceLT, reduceMul, reduceEq, Int.reduceLT, reduceLE, Int.reduceAdd, reduceSub, reduceToNat, UInt8.reduceToNat, h1, h4]⟩
    have x0 : decide ((i : Int) < m.files.length) = true := decide_eq_true (by omega)
    obtain ⟨x, hx⟩ : ∃ x, m.files[i]? = some x := getD_get' g
    have hxr := r2 x (List.mem_of_getElem? hx)
    have ws : IntKind.i64.wrap ((i : Int) + 1) = ((i + 1 : Nat) : Int) := by rw [Go.IntWalk.i64_in _ (by omega)]; omega
    have hps := prevK_succ (·.path) hx
    have hU : ∀ (a : FileV), a ∈ m.files → (encFile a).length = 3 := fun _ _ => rfl
    rw [drop_at hx] at hE
    obtain ⟨xpath, xdata, xruns⟩ := x
    have hr1 := hxr.1
    simp only at hr1 hps
    rw [filesE_step rfl] at hE
    simp only at hE
    have hb := fun G (h : G i3 = some (.cells [.str z])) => behind_calls i xpath z _ i3 G h hp
    generalize prevK (·.path) m.files i = pk at *
    simp -implicitDefEqProofs only [go_sem, reduceEqDiff, reduceAdd, reduceLeDiff, reduceLT, reduceMul, reduceEq, Int.reduceLT, reduceLE, Int.reduceAdd, reduceSub, reduceToNat, UInt8.reduceToNat, h1, h4, h8, hl, hn, hi2, x0, hx]
    refine ⟨hU, Nat.le_refl _, ?_⟩
    simp only [encFile, List.take_succ_cons, List.take_zero, List.take_nil]
    with_reducible refine nwC_intro fun i6 hi6 => ?_
    simp -implicitDefEqProofs only [go_sem, reduceEqDiff, reduceAdd, reduceLeDiff, reduceLT, reduceMul, reduceEq, Int.reduceLT, reduceLE, Int.reduceAdd, reduceSub, reduceToNat, UInt8.reduceToNat]
    generalize E6 : Heap.put G i6 _ = G6
    have hO_6 := obj_new E6 hi6 hS
    have n6 := hO_6.1
    have hS := hO_6.2.1
    have g6 := hO_6.2.2.1
    have d1_6 := obj_ne g1 hi6
    have g1 := hO_6.2.2.2 _ _ g1
    have d3_6 := obj_ne g3 hi6
    have g3 := hO_6.2.2.2 _ _ g3
    have dim_6 := obj_ne gim hi6
    have gim := hO_6.2.2.2 _ _ gim
    clear hO_6
    simp -implicitDefEqProofs only [go_sem, reduceEqDiff, reduceAdd, reduceLeDiff, reduceLT, reduceMul, reduceEq, Int.reduceLT, reduceLE, Int.reduceAdd, reduceSub, reduceToNat, UInt8.reduceToNat, h1, h4, h8, hl, hn, hi2, g6, puRC, sFileE, hxr]
    refine (hb _ g3).pure_next2 ?_
    generalize E3 : Heap.put G6 i3 _ = G7
    have hS := obj_sub E3 n3 hS
    have g3 := obj_at E3
    have g1 := obj_keep E3 (by first | exact d1_3 | exact fun e => d3_1 e.symm) g1
    have g6 := obj_keep E3 (by first | exact d6_3 | exact fun e => d3_6 e.symm) g6
    have gim := obj_keep E3 (by first | exact dim_3 | exact fun e => d3_im e.symm) gim
    simp -implicitDefEqProofs only [go_sem, reduceEqDiff, reduceAdd, reduceLeDiff, reduceLT, reduceMul, reduceEq, Int.reduceLT, reduceLE, Int.reduceAdd, reduceSub, reduceToNat, UInt8.reduceToNat, h1, h4, h8, hl, hn, hi2, g6, puRC, sFirst, first2]
    generalize (if fileErr ⟨xpath, xdata, xruns⟩ ≠ 0 then fileErr ⟨xpath, xdata, xruns⟩ else bV pk xpath) = e at *
    have fin : ∀ e2 : Int, e2 ≠ 0 → filesE none [] m.files = e2 → macErr m = e2 := fun e2 h1 h2 => by rw [hM, if_pos (by rw [h2]; exact h1), h2]
    by_cases c1 : e = 0
    rotate_left
    · have y1 : decide (e = 0) = false := decide_eq_false c1
      have y2 : decide (¬ e = 0) = true := decide_eq_true c1
      rw [if_pos c1] at hE
      simp -implicitDefEqProofs only [go_sem, reduceEqDiff, reduceAdd, reduceLeDiff, reduceLT, reduceMul, reduceEq, Int.reduceLT, reduceLE, Int.reduceAdd, reduceSub, reduceToNat, UInt8.reduceToNat, h1, h4, h8, hl, hn, hi2, y1, y2]
      exact Done.drop hS ⟨by rw [fin e c1 hE], rfl⟩
    subst c1
    rw [if_neg (by simp)] at hE
    simp -implicitDefEqProofs only [go_sem, reduceEqDiff, reduceAdd, reduceLeDiff, reduceLT, reduceMul, reduceEq, Int.reduceLT, reduceLE, Int.reduceAdd, reduceSub, reduceToNat, UInt8.reduceToNat, h1, h4, h8, hl, hn, hi2, g6]
    with_reducible refine aloop_cut 4 (fun r G => RcM m ta tb tc td H i1 i3 G xpath ∧ G im = some (.map .str es) ∧ G i6 = some (.cells [.str xpath, .str xdata, .bool xruns]) ∧ agrees r [(1, .ptr i1 0), (4, .func 59 [.ptr i3 0]), (8, .map im), (10, .ptr i6 0), (11, .int .i64 (if clash seen xpath = true then 11 else 0)), (73, .sl (m.files.map encFile) tb), (74, .int .i64 m.files.length), (75, .int .i64 i)]) ?_ ?_
    rotate_left
    · refine aloop_intro (σ := Nat) (fun k => [(1, .ptr i1 0), (4, .func 59 [.ptr i3 0]), (8, .map im), (10, .ptr i6 0), (11, .int .i64 (if clashTo seen xpath k = true then 11 else 0)), (73, .sl (m.files.map encFile) tb), (74, .int .i64 m.files.length), (75, .int .i64 i), (93, .int .i64 xpath.length), (94, .int .i64 k)])
        (fun k G => G = G7 ∧ k ≤ xpath.length) (fun k => xpath.length - k) 0 ?_ ?_ ?_
      · simp -implicitDefEqProofs only [go_sem, reduceEqDiff, reduceAdd, reduceLeDiff, reduceLT, reduceMul, reduceEq, Int.reduceLT, reduceLE, Int.reduceAdd, reduceSub, reduceToNat, UInt8.reduceToNat, h1, h4, h8, hl, hn, hi2]
        exact rfl
      · exact ⟨rfl, Nat.zero_le _⟩
      clear h1 h4 h8 hl hn hi2
      rintro k r G hv ⟨rfl, hk⟩
      have h1 := hv.1
      have h4 := hv.2.1
      have h8 := hv.2.2.1
      have h10 := hv.2.2.2.1
      have h11 := hv.2.2.2.2.1
      have hl := hv.2.2.2.2.2.1
      have hn := hv.2.2.2.2.2.2.1
      have hi2 := hv.2.2.2.2.2.2.2.1
      have h93 := hv.2.2.2.2.2.2.2.2.1
      have h94 := hv.2.2.2.2.2.2.2.2.2.1
      clear hv
      by_cases gk : k < xpath.length
      rotate_left
      · have x2 : decide ((k : Int) < xpath.length) = false := decide_eq_false (by omega)
        obtain rfl : k = xpath.length := by omega
        rw [clashTo_all] at h11
        simp -implicitDefEqProofs only [go_sem, reduceEqDiff, reduceAdd, reduceLeDiff, reduceLT, reduceMul, reduceEq, Int.reduceLT, reduceLE, Int.reduceAdd, reduceSub, reduceToNat, UInt8.reduceToNat, h1, h4, h8, h10, h11, hl, hn, hi2, h93, h94, x2]
        exact ⟨⟨hS, g1, g3⟩, gim, g6⟩
      have x2 : decide ((k : Int) < xpath.length) = true := decide_eq_true (by omega)
      obtain ⟨c, hc⟩ : ∃ c, xpath[k]? = some c := getD_get' gk
      have wk : IntKind.i64.wrap ((k : Int) + 1) = ((k + 1 : Nat) : Int) := by rw [Go.IntWalk.i64_in _ (by omega)]; omega
      have e47 := @u8_eq c 47 (by decide)
      have hsx := clashTo_succ seen xpath k
      rw [hc] at hsx
      by_cases d1 : c = 47
      rotate_left
      · have x3 : decide ((c.toNat : Int) = 47) = false := decide_eq_false (fun e => d1 (e47.1 e))
        have hsy : clashTo seen xpath (k + 1) = clashTo seen xpath k := by rw [hsx]; simp [d1]
        simp -implicitDefEqProofs only [go_sem, reduceEqDiff, reduceAdd, reduceLeDiff, reduceLT, reduceMul, reduceEq, Int.reduceLT, reduceLE, Int.reduceAdd, reduceSub, reduceToNat, UInt8.reduceToNat, h1, h4, h8, h10, h11, hl, hn, hi2, h93, h94, x2, g6, hc, x3, wk]
        exact Again.mk (k + 1) (by simp -implicitDefEqProofs only [go_sem, reduceEqDiff, reduceAdd, reduceLeDiff, reduceLT, reduceMul, reduceEq, Int.reduceLT, reduceLE, Int.reduceAdd, reduceSub, reduceToNat, UInt8.reduceToNat, h1, h4, h8, h10, h11, hl, hn, hi2, h93, hsy]) ⟨rfl, by omega⟩ (by omega)
      have x3 : decide ((c.toNat : Int) = 47) = true := decide_eq_true (e47.2 d1)
      subst d1
      rw [decide_eq_true rfl, Bool.true_and] at hsx
      have hg := hse.get (xpath.take k)
      cases hct : seen.contains (xpath.take k) with
      | true =>
        rw [hct, Bool.or_true] at hsx
        rw [hct] at hg
        simp -implicitDefEqProofs only [go_sem, reduceEqDiff, reduceAdd, reduceLeDiff, reduceLT, reduceMul, reduceEq, Int.reduceLT, reduceLE, Int.reduceAdd, reduceSub, reduceToNat, UInt8.reduceToNat, h1, h4, h8, h10, h11, hl, hn, hi2, h93, h94, x2, g6, hc, x3, wk, gim, hg, Int.toNat_natCast]
        refine ⟨by omega, ?_⟩
        exact Again.mk (k + 1) (by simp -implicitDefEqProofs only [go_sem, reduceEqDiff, reduceAdd, reduceLeDiff, reduceLT, reduceMul, reduceEq, Int.reduceLT, reduceLE, Int.reduceAdd, reduceSub, reduceToNat, UInt8.reduceToNat, h1, h4, h8, h10, hl, hn, hi2, h93, hsx]) ⟨rfl, by omega⟩ (by omega)
      | false =>
        rw [hct, Bool.or_false] at hsx
        rw [hct] at hg
        simp -implicitDefEqProofs only [go_sem, reduceEqDiff, reduceAdd, reduceLeDiff, reduceLT, reduceMul, reduceEq, Int.reduceLT, reduceLE, Int.reduceAdd, reduceSub, reduceToNat, UInt8.reduceToNat, h1, h4, h8, h10, h11, hl, hn, hi2, h93, h94, x2, g6, hc, x3, wk, gim, hg, Int.toNat_natCast]
        refine ⟨by omega, ?_⟩
        exact Again.mk (k + 1) (by simp -implicitDefEqProofs only [go_sem, reduceEqDiff, reduceAdd, reduceLeDiff, reduceLT, reduceMul, reduceEq, Int.reduceLT, reduceLE, Int.reduceAdd, reduceSub, reduceToNat, UInt8.reduceToNat, h1, h4, h8, h10, h11, hl, hn, hi2, h93, hsx]) ⟨rfl, by omega⟩ (by omega)
    clear g1 g3 gim g6 hS h1 h4 h8 hl hn hi2
    rintro r G ⟨⟨hS, g1, g3⟩, gim, g6, hv⟩
    have h1 := hv.1
    have h4 := hv.2.1
    have h8 := hv.2.2.1
    have h10 := hv.2.2.2.1
    have h11 := hv.2.2.2.2.1
    have hl := hv.2.2.2.2.2.1
    have hn := hv.2.2.2.2.2.2.1
    have hi2 := hv.2.2.2.2.2.2.2.1
    clear hv
    cases hct : clash seen xpath with
    | true =>
      rw [hct, if_pos rfl] at h11 hE
      simp -implicitDefEqProofs only [go_sem, reduceEqDiff, reduceAdd, reduceLeDiff, reduceLT, reduceMul, reduceEq, Int.reduceLT, reduceLE, Int.reduceAdd, reduceSub, reduceToNat, UInt8.reduceToNat, h1, h4, h8, h10, h11, hl, hn, hi2]
      exact Done.drop hS ⟨by rw [fin 11 (by decide) hE], rfl⟩
    | false =>
      rw [hct, if_neg (by simp)] at h11 hE
      simp -implicitDefEqProofs only [go_sem, reduceEqDiff, reduceAdd, reduceLeDiff, reduceLT, reduceMul, reduceEq, Int.reduceLT, reduceLE, Int.reduceAdd, reduceSub, reduceToNat, UInt8.reduceToNat, h1, h4, h8, h10, h11, hl, hn, hi2, g6, gim, ws]
      refine Again.mk (i + 1) (by simp -implicitDefEqProofs only [go_sem, reduceEqDiff, reduceAdd, reduceLeDiff, reduceLT, reduceMul, reduceEq, Int.reduceLT, reduceLE, Int.reduceAdd, reduceSub, reduceToNat, UInt8.reduceToNat, h1, h4, h8, hl, hn]) ⟨by omega, ⟨xpath, ⟨hS.put' nim _, by rw [put_ne _ _ _ _ d1_im]; exact g1, by rw [put_ne _ _ _ _ d3_im]; exact g3⟩, by rw [hps, if_neg (by omega)]⟩, _, xpath :: seen, put_same _ _ _, hse.set xpath, ?_⟩ (by omega)
      rw [hE, hps]
  clear g1 g3 hg3 hdS gim hS h1 h4
  rintro r G ⟨he2, ⟨z, hZ⟩, hv⟩
  have h1 := hv.1
  have h4 := hv.2.1
  have g1 := hZ.2.1
  clear hv
  simp only [encMac] at g1
  rw [if_neg (by simpa using he2)] at hM
  simp -implicitDefEqProofs only [go_sem, reduceEqDiff, reduceAdd, reduceLeDiff, reduceLT, reduceMul, reduceEq, Int.reduceLT, reduceLE, Int.reduceAdd, reduceSub, reduceToNat, UInt8.reduceToNat, h1, h4, g1]
  with_reducible refine aloop_cut 6 (RcQ (eachE setErr (·.key) none m.sets = 0) m ta tb tc td H i1 i3) ?_ ?_
  rotate_left
  · refine aloop_intro (σ := Nat) (fun i => [(1, .ptr i1 0), (4, .func 59 [.ptr i3 0]), (119, .sl (m.sets.map encSet) tc), (120, .int .i64 m.sets.length), (121, .int .i64 i)])
      (RcI setErr (·.key) m.sets m ta tb tc td H i1 i3) (fun i => m.sets.length - i) 0 ?_ ?_ ?_
    · simp -implicitDefEqProofs only [go_sem, reduceEqDiff, reduceAdd, reduceLeDiff, reduceLT, reduceMul, reduceEq, Int.reduceLT, reduceLE, Int.reduceAdd, reduceSub, reduceToNat, UInt8.reduceToNat, h1, h4]
    · exact ⟨Nat.zero_le _, rfl, z, hZ, rfl⟩
    clear hZ h1 h4
    rintro i r G hv ⟨hi, hE, z, ⟨hS, g1, g3⟩, hp⟩
    have h1 := hv.1
    have h4 := hv.2.1
    have hl := hv.2.2.1
    have hn := hv.2.2.2.1
    have hi2 := hv.2.2.2.2.1
    clear hv
    by_cases g : i < m.sets.length
    rotate_left
    · have x0 : decide ((i : Int) < m.sets.length) = false := decide_eq_false (by omega)
      obtain rfl : i = m.sets.length := by omega
      rw [List.drop_length, eachE] at hE
      simp -implicitDefEqProofs only [go_sem, reduceEqDiff, reduceAdd, reduceLeDiff, reduceLT, reduceMul, reduceEq, Int.reduceLT, reduceLE, Int.reduceAdd, reduceSub, reduceToNat, UInt8.reduceToNat, h1, h4, hl, hn, hi2, x0]
      exact ⟨hE, ⟨z, hS, g1, g3⟩, by simp -implicitDefEqProofs only [go_sem, reduceEqDiff, reduceAdd, reduceLeDiff, reduceLT, reduceMul, reduceEq, Int.reduceLT, reduceLE, Int.reduceAdd, reduceSub, reduceToNat, UInt8.reduceToNat, h1, h4]⟩
    have x0 : decide ((i : Int) < m.sets.length) = true := decide_eq_true (by omega)
    obtain ⟨x, hx⟩ : ∃ x, m.sets[i]? = some x := getD_get' g
    have hxr := r3 x (List.mem_of_getElem? hx)
    have ws : IntKind.i64.wrap ((i : Int) + 1) = ((i + 1 : Nat) : Int) := by rw [Go.IntWalk.i64_in _ (by omega)]; omega
    have hps := prevK_succ (·.key) hx
    have hU : ∀ (a : SetV), a ∈ m.sets → (encSet a).length = 2 := fun _ _ => rfl
    rw [drop_at hx] at hE
    obtain ⟨xkey, xvalue⟩ := x
    have hr1 := hxr.1
    have hr2 := hxr.2
    simp only at hr1 hr2 hps
    rw [eachE_step setErr (·.key) rfl] at hE
    have hb := fun G (h : G i3 = some (.cells [.str z])) => behind_calls i xkey z _ i3 G h hp
    generalize prevK (·.key) m.sets i = pk at *
    simp -implicitDefEqProofs only [go_sem, reduceEqDiff, reduceAdd, reduceLeDiff, reduceLT, reduceMul, reduceEq, Int.reduceLT, reduceLE, Int.reduceAdd, reduceSub, reduceToNat, UInt8.reduceToNat, h1, h4, hl, hn, hi2, x0, hx]
    refine ⟨hU, Nat.le_refl _, ?_⟩
    simp only [encSet, List.take_succ_cons, List.take_zero, List.take_nil]
    with_reducible refine nwC_intro fun i6 hi6 => ?_
    simp -implicitDefEqProofs only [go_sem, reduceEqDiff, reduceAdd, reduceLeDiff, reduceLT, reduceMul, reduceEq, Int.reduceLT, reduceLE, Int.reduceAdd, reduceSub, reduceToNat, UInt8.reduceToNat]
    generalize E6 : Heap.put G i6 _ = G6
    have hO_6 := obj_new E6 hi6 hS
    have n6 := hO_6.1
    have hS := hO_6.2.1
    have g6 := hO_6.2.2.1
    have d1_6 := obj_ne g1 hi6
    have g1 := hO_6.2.2.2 _ _ g1
    have d3_6 := obj_ne g3 hi6
    have g3 := hO_6.2.2.2 _ _ g3
    clear hO_6
    simp -implicitDefEqProofs only [go_sem, reduceEqDiff, reduceAdd, reduceLeDiff, reduceLT, reduceMul, reduceEq, Int.reduceLT, reduceLE, Int.reduceAdd, reduceSub, reduceToNat, UInt8.reduceToNat, h1, h4, hl, hn, hi2, g6, puRC, sSetE, hR, hr1, hr2, hxr]
    refine (hb _ g3).pure_next2 ?_
    generalize E3 : Heap.put G6 i3 _ = G7
    have hS := obj_sub E3 n3 hS
    have g3 := obj_at E3
    have g1 := obj_keep E3 (by first | exact d1_3 | exact fun e => d3_1 e.symm) g1
    have g6 := obj_keep E3 (by first | exact d6_3 | exact fun e => d3_6 e.symm) g6
    simp -implicitDefEqProofs only [go_sem, reduceEqDiff, reduceAdd, reduceLeDiff, reduceLT, reduceMul, reduceEq, Int.reduceLT, reduceLE, Int.reduceAdd, reduceSub, reduceToNat, UInt8.reduceToNat, h1, h4, hl, hn, hi2, g6, puRC, sFirst, sFirst, first2]
    generalize (if setErr ⟨xkey, xvalue⟩ ≠ 0 then setErr ⟨xkey, xvalue⟩ else bV pk xkey) = e at *
    by_cases c1 : e = 0
    · have y1 : decide (¬ e = 0) = false := decide_eq_false (by simpa using c1)
      rw [if_neg (by simpa using c1), ← hps] at hE
      simp -implicitDefEqProofs only [go_sem, reduceEqDiff, reduceAdd, reduceLeDiff, reduceLT, reduceMul, reduceEq, Int.reduceLT, reduceLE, Int.reduceAdd, reduceSub, reduceToNat, UInt8.reduceToNat, h1, h4, hl, hn, hi2, y1, ws]
      exact Again.mk (i + 1) (by simp -implicitDefEqProofs only [go_sem, reduceEqDiff, reduceAdd, reduceLeDiff, reduceLT, reduceMul, reduceEq, Int.reduceLT, reduceLE, Int.reduceAdd, reduceSub, reduceToNat, UInt8.reduceToNat, h1, h4, hl, hn]) ⟨by omega, hE, xkey, ⟨hS, g1, g3⟩, by rw [hps, if_neg (by omega)]⟩ (by omega)
    · have y1 : decide (¬ e = 0) = true := decide_eq_true c1
      rw [if_pos c1] at hE
      simp -implicitDefEqProofs only [go_sem, reduceEqDiff, reduceAdd, reduceLeDiff, reduceLT, reduceMul, reduceEq, Int.reduceLT, reduceLE, Int.reduceAdd, reduceSub, reduceToNat, UInt8.reduceToNat, h1, h4, hl, hn, hi2, y1]
      exact Done.drop hS ⟨by rw [hM, if_pos (by rw [hE]; exact c1), hE], rfl⟩
  rintro r G ⟨he3, ⟨z, hZ⟩, hv⟩
  have h1 := hv.1
  have h4 := hv.2.1
  have g1 := hZ.2.1
  clear hv
  simp only [encMac] at g1
  rw [if_neg (by simpa using he3)] at hM
  simp -implicitDefEqProofs only [go_sem, reduceEqDiff, reduceAdd, reduceLeDiff, reduceLT, reduceMul, reduceEq, Int.reduceLT, reduceLE, Int.reduceAdd, reduceSub, reduceToNat, UInt8.reduceToNat, h1, h4, g1]
  with_reducible refine aloop_cut 8 (RcQ (eachE svcErr (·.name) none m.svcs = 0) m ta tb tc td H i1 i3) ?_ ?_
  rotate_left
  · refine aloop_intro (σ := Nat) (fun i => [(1, .ptr i1 0), (4, .func 59 [.ptr i3 0]), (140, .sl (m.svcs.map encSvc) td), (141, .int .i64 m.svcs.length), (142, .int .i64 i)])
      (RcI svcErr (·.name) m.svcs m ta tb tc td H i1 i3) (fun i => m.svcs.length - i) 0 ?_ ?_ ?_
    · simp -implicitDefEqProofs only [go_sem, reduceEqDiff, reduceAdd, reduceLeDiff, reduceLT, reduceMul, reduceEq, Int.reduceLT, reduceLE, Int.reduceAdd, reduceSub, reduceToNat, UInt8.reduceToNat, h1, h4]
    · exact ⟨Nat.zero_le _, rfl, z, hZ, rfl⟩
    clear hZ h1 h4
    rintro i r G hv ⟨hi, hE, z, ⟨hS, g1, g3⟩, hp⟩
    have h1 := hv.1
    have h4 := hv.2.1
    have hl := hv.2.2.1
    have hn := hv.2.2.2.1
    have hi2 := hv.2.2.2.2.1
    clear hv
    by_cases g : i < m.svcs.length
    rotate_left
    · have x0 : decide ((i : Int) < m.svcs.length) = false := decide_eq_false (by omega)
      obtain rfl : i = m.svcs.length := by omega
      rw [List.drop_length, eachE] at hE
      simp -implicitDefEqProofs only [go_sem, reduceEqDiff, reduceAdd, reduceLeDiff, reduceLT, reduceMul, reduceEq, Int.reduceLT, reduceLE, Int.reduceAdd, reduceSub, reduceToNat, UInt8.reduceToNat, h1, h4, hl, hn, hi2, x0]
      exact ⟨hE, ⟨z, hS, g1, g3⟩, by simp -implicitDefEqProofs only [go_sem, reduceEqDiff, reduceAdd, reduceLeDiff, reduceLT, reduceMul, reduceEq, Int.reduceLT, reduceLE, Int.reduceAdd, reduceSub, reduceToNat, UInt8.reduceToNat, h1, h4]⟩
    have x0 : decide ((i : Int) < m.svcs.length) = true := decide_eq_true (by omega)
    obtain ⟨x, hx⟩ : ∃ x, m.svcs[i]? = some x := getD_get' g
    have hxr := r4 x (List.mem_of_getElem? hx)
    have ws : IntKind.i64.wrap ((i : Int) + 1) = ((i + 1 : Nat) : Int) := by rw [Go.IntWalk.i64_in _ (by omega)]; omega
    have hps := prevK_succ (·.name) hx
    have hU : ∀ (a : SvcV), a ∈ m.svcs → (encSvc a).length = 4 := fun _ _ => rfl
    rw [drop_at hx] at hE
    obtain ⟨xname, xpath, xauto, xon⟩ := x
    have hr1 := hxr.1
    have hr2 := hxr.2
    simp only at hr1 hr2 hps
    rw [eachE_step svcErr (·.name) rfl] at hE
    have hb := fun G (h : G i3 = some (.cells [.str z])) => behind_calls i xname z _ i3 G h hp
    generalize prevK (·.name) m.svcs i = pk at *
    simp -implicitDefEqProofs only [go_sem, reduceEqDiff, reduceAdd, reduceLeDiff, reduceLT, reduceMul, reduceEq, Int.reduceLT, reduceLE, Int.reduceAdd, reduceSub, reduceToNat, UInt8.reduceToNat, h1, h4, hl, hn, hi2, x0, hx]
    refine ⟨hU, Nat.le_refl _, ?_⟩
    simp only [encSvc, List.take_succ_cons, List.take_zero, List.take_nil]
    with_reducible refine nwC_intro fun i6 hi6 => ?_
    simp -implicitDefEqProofs only [go_sem, reduceEqDiff, reduceAdd, reduceLeDiff, reduceLT, reduceMul, reduceEq, Int.reduceLT, reduceLE, Int.reduceAdd, reduceSub, reduceToNat, UInt8.reduceToNat]
    generalize E6 : Heap.put G i6 _ = G6
    have hO_6 := obj_new E6 hi6 hS
    have n6 := hO_6.1
    have hS := hO_6.2.1
    have g6 := hO_6.2.2.1
    have d1_6 := obj_ne g1 hi6
    have g1 := hO_6.2.2.2 _ _ g1
    have d3_6 := obj_ne g3 hi6
    have g3 := hO_6.2.2.2 _ _ g3
    clear hO_6
    simp -implicitDefEqProofs only [go_sem, reduceEqDiff, reduceAdd, reduceLeDiff, reduceLT, reduceMul, reduceEq, Int.reduceLT, reduceLE, Int.reduceAdd, reduceSub, reduceToNat, UInt8.reduceToNat, h1, h4, hl, hn, hi2, g6, puRC, sSvcE, hR, hr1, hr2, hxr]
    refine (hb _ g3).pure_next2 ?_
    generalize E3 : Heap.put G6 i3 _ = G7
    have hS := obj_sub E3 n3 hS
    have g3 := obj_at E3
    have g1 := obj_keep E3 (by first | exact d1_3 | exact fun e => d3_1 e.symm) g1
    have g6 := obj_keep E3 (by first | exact d6_3 | exact fun e => d3_6 e.symm) g6
    simp -implicitDefEqProofs only [go_sem, reduceEqDiff, reduceAdd, reduceLeDiff, reduceLT, reduceMul, reduceEq, Int.reduceLT, reduceLE, Int.reduceAdd, reduceSub, reduceToNat, UInt8.reduceToNat, h1, h4, hl, hn, hi2, g6, puRC, sFirst, sFirst, first2]
    generalize (if svcErr ⟨xname, xpath, xauto, xon⟩ ≠ 0 then svcErr ⟨xname, xpath, xauto, xon⟩ else bV pk xname) = e at *
    by_cases c1 : e = 0
    · have y1 : decide (¬ e = 0) = false := decide_eq_false (by simpa using c1)
      rw [if_neg (by simpa using c1), ← hps] at hE
      simp -implicitDefEqProofs only [go_sem, reduceEqDiff, reduceAdd, reduceLeDiff, reduceLT, reduceMul, reduceEq, Int.reduceLT, reduceLE, Int.reduceAdd, reduceSub, reduceToNat, UInt8.reduceToNat, h1, h4, hl, hn, hi2, y1, ws]
      exact Again.mk (i + 1) (by simp -implicitDefEqProofs only [go_sem, reduceEqDiff, reduceAdd, reduceLeDiff, reduceLT, reduceMul, reduceEq, Int.reduceLT, reduceLE, Int.reduceAdd, reduceSub, reduceToNat, UInt8.reduceToNat, h1, h4, hl, hn]) ⟨by omega, hE, xname, ⟨hS, g1, g3⟩, by rw [hps, if_neg (by omega)]⟩ (by omega)
    · have y1 : decide (¬ e = 0) = true := decide_eq_true c1
      rw [if_pos c1] at hE
      simp -implicitDefEqProofs only [go_sem, reduceEqDiff, reduceAdd, reduceLeDiff, reduceLT, reduceMul, reduceEq, Int.reduceLT, reduceLE, Int.reduceAdd, reduceSub, reduceToNat, UInt8.reduceToNat, h1, h4, hl, hn, hi2, y1]
      exact Done.drop hS ⟨by rw [hM, hE], rfl⟩
  rintro r G ⟨he4, ⟨z, hZ⟩, hv⟩
  have h1 := hv.1
  have h4 := hv.2.1
  have g1 := hZ.2.1
  clear hv
  simp only [encMac] at g1
  rw [he4] at hM
  simp -implicitDefEqProofs only [go_sem, reduceEqDiff, reduceAdd, reduceLeDiff, reduceLT, reduceMul, reduceEq, Int.reduceLT, reduceLE, Int.reduceAdd, reduceSub, reduceToNat, UInt8.reduceToNat, h1, h4, g1]
  exact Done.drop hZ.1 ⟨by rw [hM], rfl⟩
end Go.Proofs

/- Walks: slices.Equal on the things of a machine; Same. -/
namespace Go.Proofs
open Go Go.Abs
open Nat (reduceEqDiff reduceAdd reduceLeDiff reduceLT reduceMul)
open Int (reduceEq reduceLE reduceSub reduceToNat)
set_option linter.unusedSimpArgs false
set_option linter.unusedVariables false
set_option maxRecDepth 20000
theorem eqSet_calls_ne (cx cy : Bool) (a b : SetV) : bin Tryz.prog .neq 36 cx cy (.agg (encSet a)) (.agg (encSet b)) = some (.bool (decide ¬ a = b)) := by
  have h : eqT Tryz.prog 6 36 (.agg (encSet a)) (.agg (encSet b)) = some (decide (a = b)) := by
    obtain ⟨xkey, xvalue⟩ := a
    obtain ⟨ykey, yvalue⟩ := b
    simp only [encSet, eqT, eqFields, tys, readC, TD.agg, if_true, List.drop_zero, List.drop_succ_cons, List.head?_cons, Bool.false_eq_true, if_false, Option.some.injEq, Bool.and_true]
    rw [Bool.eq_iff_iff]
    simp [SetV.mk.injEq]
  have e : eqA Tryz.prog 36 cx cy (.agg (encSet a)) (.agg (encSet b)) = some (decide (a = b)) := by
    unfold eqA
    simp only [tys, if_true]
    exact h
  show (eqA Tryz.prog 36 cx cy (.agg (encSet a)) (.agg (encSet b))).map (fun b => AV.bool (!b)) = _
  rw [e]
  simp
theorem eqSet_calls (a b : List SetV) (t t' : Tail) (H : Heap) (ha : a.length ≤ 1099511627776) : ACalls Tryz.prog 10 [.sl (a.map encSet) t, .sl (b.map encSet) t'] H fun x H' => x = .bool (decide (a = b)) ∧ H' = H := by
  by_cases hl : ¬ a.length = b.length
  · have d1 : decide (¬ (a.length : Int) = b.length) = true := by simp; omega
    refine ACalls.of_code (X := { pure := pu0 }) pu0_ok Tryz.func10 (by kernel_rfl) rfl (by kernel_rfl) (Nat.le_of_ble_eq_true rfl) ?_
    simp -implicitDefEqProofs only [go_sem, reduceEqDiff, reduceAdd, reduceLeDiff, reduceLT, reduceMul, reduceEq, Int.reduceLT, reduceLE, Int.reduceAdd, reduceSub, reduceToNat, UInt8.reduceToNat, Tryz.f10, d1]
    refine Done.now ⟨?_, rfl⟩
    have : ¬ a = b := fun e => hl (by rw [e])
    simp [this]
  · have hl : a.length = b.length := Decidable.not_not.1 hl
    have d1 : decide (¬ (a.length : Int) = b.length) = false := by simp; omega
    refine ACalls.of_code (X := { pure := pu0 }) pu0_ok Tryz.func10 (by kernel_rfl) rfl (by kernel_rfl) (Nat.le_of_ble_eq_true rfl) ?_
    simp -implicitDefEqProofs only [go_sem, reduceEqDiff, reduceAdd, reduceLeDiff, reduceLT, reduceMul, reduceEq, Int.reduceLT, reduceLE, Int.reduceAdd, reduceSub, reduceToNat, UInt8.reduceToNat, Tryz.f10, d1]
    refine aloop_intro (σ := Nat) (fun i => [(0, .sl (a.map encSet) t), (1, .sl (b.map encSet) t'), (12, .int .i64 a.length), (13, .int .i64 i)])
      (fun i G => G = H ∧ i ≤ a.length ∧ a.take i = b.take i) (fun i => a.length - i) 0 ?_ ?_ ?_
    · simp -implicitDefEqProofs only [go_sem, reduceEqDiff, reduceAdd, reduceLeDiff, reduceLT, reduceMul, reduceEq, Int.reduceLT, reduceLE, Int.reduceAdd, reduceSub, reduceToNat, UInt8.reduceToNat]
    · simp
    · intro i r G hv hI
      have h0 := hv.1
      have h1 := hv.2.1
      have h12 := hv.2.2.1
      have h13 := hv.2.2.2.1
      have hG := hI.1.symm
      have hi := hI.2.1
      have hp := hI.2.2
      clear hv hI
      subst hG
      simp -implicitDefEqProofs only [go_sem, reduceEqDiff, reduceAdd, reduceLeDiff, reduceLT, reduceMul, reduceEq, Int.reduceLT, reduceLE, Int.reduceAdd, reduceSub, reduceToNat, UInt8.reduceToNat, h0, h1, h12, h13]
      refine cnd_intro (fun h => ?_) (fun h => ?_)
      · simp only [decide_eq_true_eq] at h
        obtain ⟨x, hx⟩ := get_some (l := a) (i := i) (by omega)
        obtain ⟨y, hy⟩ := get_some (l := b) (i := i) (by omega)
        have ht := take_eq_succ hx hy
        have hn := fun cx cy => eqSet_calls_ne cx cy x y
        obtain ⟨xkey, xvalue⟩ := x
        obtain ⟨ykey, yvalue⟩ := y
        simp only [encSet] at hn
        simp -implicitDefEqProofs only [go_sem, reduceEqDiff, reduceAdd, reduceLeDiff, reduceLT, reduceMul, reduceEq, Int.reduceLT, reduceLE, Int.reduceAdd, reduceSub, reduceToNat, UInt8.reduceToNat, h0, h1, h12, h13, hx, hy, encSet, hn]
        refine cnd_intro (fun g => ?_) (fun g => ?_)
        · simp -implicitDefEqProofs only [go_sem, reduceEqDiff, reduceAdd, reduceLeDiff, reduceLT, reduceMul, reduceEq, Int.reduceLT, reduceLE, Int.reduceAdd, reduceSub, reduceToNat, UInt8.reduceToNat]
          refine Done.now ⟨?_, rfl⟩
          have : ¬ a = b := fun e => by subst e; rw [hx] at hy; cases hy; simp at g
          simp [this]
        · simp -implicitDefEqProofs (disch := omega) only [go_sem, reduceEqDiff, reduceAdd, reduceLeDiff, reduceLT, reduceMul, reduceEq, Int.reduceLT, reduceLE, Int.reduceAdd, reduceSub, reduceToNat, UInt8.reduceToNat, Go.IntWalk.i64_in, h0, h1, h12, h13]
          simp only [decide_eq_false_iff_not, Decidable.not_not] at g
          exact Again.mk (i + 1) (by simp -implicitDefEqProofs only [go_sem, reduceEqDiff, reduceAdd, reduceLeDiff, reduceLT, reduceMul, reduceEq, Int.reduceLT, reduceLE, Int.reduceAdd, reduceSub, reduceToNat, UInt8.reduceToNat, h0, h1, h12, h13]; exact rfl) ⟨rfl, by omega, ht.2 ⟨hp, g⟩⟩ (by omega)
      · simp only [decide_eq_false_iff_not] at h
        have e : i = a.length := by omega
        rw [e, List.take_length, hl, List.take_length] at hp
        simp -implicitDefEqProofs only [go_sem, reduceEqDiff, reduceAdd, reduceLeDiff, reduceLT, reduceMul, reduceEq, Int.reduceLT, reduceLE, Int.reduceAdd, reduceSub, reduceToNat, UInt8.reduceToNat]
        exact Done.now ⟨by simp [hp], rfl⟩

theorem eqFile_calls_ne (cx cy : Bool) (a b : FileV) : bin Tryz.prog .neq 41 cx cy (.agg (encFile a)) (.agg (encFile b)) = some (.bool (decide ¬ a = b)) := by
  have h : eqT Tryz.prog 6 41 (.agg (encFile a)) (.agg (encFile b)) = some (decide (a = b)) := by
    obtain ⟨xpath, xdata, xruns⟩ := a
    obtain ⟨ypath, ydata, yruns⟩ := b
    simp only [encFile, eqT, eqFields, tys, readC, TD.agg, if_true, List.drop_zero, List.drop_succ_cons, List.head?_cons, Bool.false_eq_true, if_false, Option.some.injEq, Bool.and_true]
    rw [Bool.eq_iff_iff]
    simp [FileV.mk.injEq]
  have e : eqA Tryz.prog 41 cx cy (.agg (encFile a)) (.agg (encFile b)) = some (decide (a = b)) := by
    unfold eqA
    simp only [tys, if_true]
    exact h
  show (eqA Tryz.prog 41 cx cy (.agg (encFile a)) (.agg (encFile b))).map (fun b => AV.bool (!b)) = _
  rw [e]
  simp
theorem eqFile_calls (a b : List FileV) (t t' : Tail) (H : Heap) (ha : a.length ≤ 1099511627776) : ACalls Tryz.prog 57 [.sl (a.map encFile) t, .sl (b.map encFile) t'] H fun x H' => x = .bool (decide (a = b)) ∧ H' = H := by
  by_cases hl : ¬ a.length = b.length
  · have d1 : decide (¬ (a.length : Int) = b.length) = true := by simp; omega
    refine ACalls.of_code (X := { pure := pu0 }) pu0_ok Tryz.func57 (by kernel_rfl) rfl (by kernel_rfl) (Nat.le_of_ble_eq_true rfl) ?_
    simp -implicitDefEqProofs only [go_sem, reduceEqDiff, reduceAdd, reduceLeDiff, reduceLT, reduceMul, reduceEq, Int.reduceLT, reduceLE, Int.reduceAdd, reduceSub, reduceToNat, UInt8.reduceToNat, Tryz.f57, d1]
    refine Done.now ⟨?_, rfl⟩
    have : ¬ a = b := fun e => hl (by rw [e])
    simp [this]
  · have hl : a.length = b.length := Decidable.not_not.1 hl
    have d1 : decide (¬ (a.length : Int) = b.length) = false := by simp; omega
    refine ACalls.of_code (X := { pure := pu0 }) pu0_ok Tryz.func57 (by kernel_rfl) rfl (by kernel_rfl) (Nat.le_of_ble_eq_true rfl) ?_
    simp -implicitDefEqProofs only [go_sem, reduceEqDiff, reduceAdd, reduceLeDiff, reduceLT, reduceMul, reduceEq, Int.reduceLT, reduceLE, Int.reduceAdd, reduceSub, reduceToNat, UInt8.reduceToNat, Tryz.f57, d1]
    refine aloop_intro (σ := Nat) (fun i => [(0, .sl (a.map encFile) t), (1, .sl (b.map encFile) t'), (12, .int .i64 a.length), (13, .int .i64 i)])
      (fun i G => G = H ∧ i ≤ a.length ∧ a.take i = b.take i) (fun i => a.length - i) 0 ?_ ?_ ?_
    · simp -implicitDefEqProofs only [go_sem, reduceEqDiff, reduceAdd, reduceLeDiff, reduceLT, reduceMul, reduceEq, Int.reduceLT, reduceLE, Int.reduceAdd, reduceSub, reduceToNat, UInt8.reduceToNat]
    · simp
    · intro i r G hv hI
      have h0 := hv.1
      have h1 := hv.2.1
      have h12 := hv.2.2.1
      have h13 := hv.2.2.2.1
      have hG := hI.1.symm
      have hi := hI.2.1
      have hp := hI.2.2
      clear hv hI
      subst hG
      simp -implicitDefEqProofs only [go_sem, reduceEqDiff, reduceAdd, reduceLeDiff, reduceLT, reduceMul, reduceEq, Int.reduceLT, reduceLE, Int.reduceAdd, reduceSub, reduceToNat, UInt8.reduceToNat, h0, h1, h12, h13]
      refine cnd_intro (fun h => ?_) (fun h => ?_)
      · simp only [decide_eq_true_eq] at h
        obtain ⟨x, hx⟩ := get_some (l := a) (i := i) (by omega)
        obtain ⟨y, hy⟩ := get_some (l := b) (i := i) (by omega)
        have ht := take_eq_succ hx hy
        have hn := fun cx cy => eqFile_calls_ne cx cy x y
        obtain ⟨xpath, xdata, xruns⟩ := x
        obtain ⟨ypath, ydata, yruns⟩ := y
        simp only [encFile] at hn
        simp -implicitDefEqProofs only [go_sem, reduceEqDiff, reduceAdd, reduceLeDiff, reduceLT, reduceMul, reduceEq, Int.reduceLT, reduceLE, Int.reduceAdd, reduceSub, reduceToNat, UInt8.reduceToNat, h0, h1, h12, h13, hx, hy, encFile, hn]
        refine cnd_intro (fun g => ?_) (fun g => ?_)
        · simp -implicitDefEqProofs only [go_sem, reduceEqDiff, reduceAdd, reduceLeDiff, reduceLT, reduceMul, reduceEq, Int.reduceLT, reduceLE, Int.reduceAdd, reduceSub, reduceToNat, UInt8.reduceToNat]
          refine Done.now ⟨?_, rfl⟩
          have : ¬ a = b := fun e => by subst e; rw [hx] at hy; cases hy; simp at g
          simp [this]
        · simp -implicitDefEqProofs (disch := omega) only [go_sem, reduceEqDiff, reduceAdd, reduceLeDiff, reduceLT, reduceMul, reduceEq, Int.reduceLT, reduceLE, Int.reduceAdd, reduceSub, reduceToNat, UInt8.reduceToNat, Go.IntWalk.i64_in, h0, h1, h12, h13]
          simp only [decide_eq_false_iff_not, Decidable.not_not] at g
          exact Again.mk (i + 1) (by simp -implicitDefEqProofs only [go_sem, reduceEqDiff, reduceAdd, reduceLeDiff, reduceLT, reduceMul, reduceEq, Int.reduceLT, reduceLE, Int.reduceAdd, reduceSub, reduceToNat, UInt8.reduceToNat, h0, h1, h12, h13]; exact rfl) ⟨rfl, by omega, ht.2 ⟨hp, g⟩⟩ (by omega)
      · simp only [decide_eq_false_iff_not] at h
        have e : i = a.length := by omega
        rw [e, List.take_length, hl, List.take_length] at hp
        simp -implicitDefEqProofs only [go_sem, reduceEqDiff, reduceAdd, reduceLeDiff, reduceLT, reduceMul, reduceEq, Int.reduceLT, reduceLE, Int.reduceAdd, reduceSub, reduceToNat, UInt8.reduceToNat]
        exact Done.now ⟨by simp [hp], rfl⟩

theorem eqSvc_calls_ne (cx cy : Bool) (a b : SvcV) : bin Tryz.prog .neq 43 cx cy (.agg (encSvc a)) (.agg (encSvc b)) = some (.bool (decide ¬ a = b)) := by
  have h : eqT Tryz.prog 6 43 (.agg (encSvc a)) (.agg (encSvc b)) = some (decide (a = b)) := by
    obtain ⟨xname, xpath, xauto, xon⟩ := a
    obtain ⟨yname, ypath, yauto, yon⟩ := b
    simp only [encSvc, eqT, eqFields, tys, readC, TD.agg, if_true, List.drop_zero, List.drop_succ_cons, List.head?_cons, Bool.false_eq_true, if_false, Option.some.injEq, Bool.and_true]
    rw [Bool.eq_iff_iff]
    simp [SvcV.mk.injEq]
  have e : eqA Tryz.prog 43 cx cy (.agg (encSvc a)) (.agg (encSvc b)) = some (decide (a = b)) := by
    unfold eqA
    simp only [tys, if_true]
    exact h
  show (eqA Tryz.prog 43 cx cy (.agg (encSvc a)) (.agg (encSvc b))).map (fun b => AV.bool (!b)) = _
  rw [e]
  simp
theorem eqSvc_calls (a b : List SvcV) (t t' : Tail) (H : Heap) (ha : a.length ≤ 1099511627776) : ACalls Tryz.prog 58 [.sl (a.map encSvc) t, .sl (b.map encSvc) t'] H fun x H' => x = .bool (decide (a = b)) ∧ H' = H := by
  by_cases hl : ¬ a.length = b.length
  · have d1 : decide (¬ (a.length : Int) = b.length) = true := by simp; omega
    refine ACalls.of_code (X := { pure := pu0 }) pu0_ok Tryz.func58 (by kernel_rfl) rfl (by kernel_rfl) (Nat.le_of_ble_eq_true rfl) ?_
    simp -implicitDefEqProofs only [go_sem, reduceEqDiff, reduceAdd, reduceLeDiff, reduceLT, reduceMul, reduceEq, Int.reduceLT, reduceLE, Int.reduceAdd, reduceSub, reduceToNat, UInt8.reduceToNat, Tryz.f58, d1]
    refine Done.now ⟨?_, rfl⟩
    have : ¬ a = b := fun e => hl (by rw [e])
    simp [this]
  · have hl : a.length = b.length := Decidable.not_not.1 hl
    have d1 : decide (¬ (a.length : Int) = b.length) = false := by simp; omega
    refine ACalls.of_code (X := { pure := pu0 }) pu0_ok Tryz.func58 (by kernel_rfl) rfl (by kernel_rfl) (Nat.le_of_ble_eq_true rfl) ?_
    simp -implicitDefEqProofs only [go_sem, reduceEqDiff, reduceAdd, reduceLeDiff, reduceLT, reduceMul, reduceEq, Int.reduceLT, reduceLE, Int.reduceAdd, reduceSub, reduceToNat, UInt8.reduceToNat, Tryz.f58, d1]
    refine aloop_intro (σ := Nat) (fun i => [(0, .sl (a.map encSvc) t), (1, .sl (b.map encSvc) t'), (12, .int .i64 a.length), (13, .int .i64 i)])
      (fun i G => G = H ∧ i ≤ a.length ∧ a.take i = b.take i) (fun i => a.length - i) 0 ?_ ?_ ?_
    · simp -implicitDefEqProofs only [go_sem, reduceEqDiff, reduceAdd, reduceLeDiff, reduceLT, reduceMul, reduceEq, Int.reduceLT, reduceLE, Int.reduceAdd, reduceSub, reduceToNat, UInt8.reduceToNat]
    · simp
    · intro i r G hv hI
      have h0 := hv.1
      have h1 := hv.2.1
      have h12 := hv.2.2.1
      have h13 := hv.2.2.2.1
      have hG := hI.1.symm
      have hi := hI.2.1
      have hp := hI.2.2
      clear hv hI
      subst hG
      simp -implicitDefEqProofs only [go_sem, reduceEqDiff, reduceAdd, reduceLeDiff, reduceLT, reduceMul, reduceEq, Int.reduceLT, reduceLE, Int.reduceAdd, reduceSub, reduceToNat, UInt8.reduceToNat, h0, h1, h12, h13]
      refine cnd_intro (fun h => ?_) (fun h => ?_)
      · simp only [decide_eq_true_eq] at h
        obtain ⟨x, hx⟩ := get_some (l := a) (i := i) (by omega)
        obtain ⟨y, hy⟩ := get_some (l := b) (i := i) (by omega)
        have ht := take_eq_succ hx hy
        have hn := fun cx cy => eqSvc_calls_ne cx cy x y
        obtain ⟨xname, xpath, xauto, xon⟩ := x
        obtain ⟨yname, ypath, yauto, yon⟩ := y
        simp only [encSvc] at hn
        simp -implicitDefEqProofs only [go_sem, reduceEqDiff, reduceAdd, reduceLeDiff, reduceLT, reduceMul, reduceEq, Int.reduceLT, reduceLE, Int.reduceAdd, reduceSub, reduceToNat, UInt8.reduceToNat, h0, h1, h12, h13, hx, hy, encSvc, hn]
        refine cnd_intro (fun g => ?_) (fun g => ?_)
        · simp -implicitDefEqProofs only [go_sem, reduceEqDiff, reduceAdd, reduceLeDiff, reduceLT, reduceMul, reduceEq, Int.reduceLT, reduceLE, Int.reduceAdd, reduceSub, reduceToNat, UInt8.reduceToNat]
          refine Done.now ⟨?_, rfl⟩
          have : ¬ a = b := fun e => by subst e; rw [hx] at hy; cases hy; simp at g
          simp [this]
        · simp -implicitDefEqProofs (disch := omega) only [go_sem, reduceEqDiff, reduceAdd, reduceLeDiff, reduceLT, reduceMul, reduceEq, Int.reduceLT, reduceLE, Int.reduceAdd, reduceSub, reduceToNat, UInt8.reduceToNat, Go.IntWalk.i64_in, h0, h1, h12, h13]
          simp only [decide_eq_false_iff_not, Decidable.not_not] at g
          exact Again.mk (i + 1) (by simp -implicitDefEqProofs only [go_sem, reduceEqDiff, reduceAdd, reduceLeDiff, reduceLT, reduceMul, reduceEq, Int.reduceLT, reduceLE, Int.reduceAdd, reduceSub, reduceToNat, UInt8.reduceToNat, h0, h1, h12, h13]; exact rfl) ⟨rfl, by omega, ht.2 ⟨hp, g⟩⟩ (by omega)
      · simp only [decide_eq_false_iff_not] at h
        have e : i = a.length := by omega
        rw [e, List.take_length, hl, List.take_length] at hp
        simp -implicitDefEqProofs only [go_sem, reduceEqDiff, reduceAdd, reduceLeDiff, reduceLT, reduceMul, reduceEq, Int.reduceLT, reduceLE, Int.reduceAdd, reduceSub, reduceToNat, UInt8.reduceToNat]
        exact Done.now ⟨by simp [hp], rfl⟩

def sEqL {α : Type} [DecidableEq α] (dec : List AV → Option α) : List AV → Option AV := fn2 (Rd.list dec) (Rd.list dec) fun a b => if a.length ≤ 1099511627776 then some (.bool (decide (a = b))) else none
theorem sEqL_ok {α : Type} [DecidableEq α] {dec : List AV → Option α} {enc : α → List AV} (hd : ∀ c a, dec c = some a → c = enc a) {P : Program} {f : FuncId}
    (h : ∀ (a b : List α) (t t' : Tail) (H : Heap), a.length ≤ 1099511627776 → ACalls P f [.sl (a.map enc) t, .sl (b.map enc) t'] H fun x H' => x = .bool (decide (a = b)) ∧ H' = H) : ∀ xs v, sEqL dec xs = some v → ∀ H, ACalls P f xs H fun x H' => x = v ∧ H' = H := by
  intro xs v hv H
  obtain ⟨x, y, p, q, rfl, h1, h2, h3⟩ := fn2_some hv
  split at h3
  · rename_i hl
    cases h3
    obtain ⟨t, rfl⟩ := Rd.list_some (enc := enc) hd h1
    obtain ⟨t', rfl⟩ := Rd.list_some (enc := enc) hd h2
    exact h p q t t' H hl
  · cases h3
theorem sEqL_eq {α : Type} [DecidableEq α] {dec : List AV → Option α} {enc : α → List AV} (he : ∀ a, dec (enc a) = some a) (a b : List α) (t t' : Tail) (h : a.length ≤ 1099511627776) : sEqL dec [.sl (a.map enc) t, .sl (b.map enc) t'] = some (.bool (decide (a = b))) := by
  unfold sEqL
  rw [fn2_eq, Rd.list_eq he, Rd.list_eq he]
  simp only [Option.bind_some, if_pos h]
noncomputable def puM9 : Pures := putP 58 (sEqL decSvc) (putP 57 (sEqL decFile) (putP 10 (sEqL decSet) pu0))
theorem puM9_dyn : isDyn puM9 = false := by simp only [puM9, go_sem, Nat.reduceEqDiff]
attribute [go_sem] puM9_dyn
theorem puM9_ok : PuOK Tryz.prog puM9 := .put (.put (.put (pu0_ok) (sEqL_ok (fun _ _ => decSet_some) eqSet_calls)) (sEqL_ok (fun _ _ => decFile_some) eqFile_calls)) (sEqL_ok (fun _ _ => decSvc_some) eqSvc_calls)
set_option maxHeartbeats 1600000 in
theorem rSame_calls (m n : MacV) (a b c d a' b' c' d' : Tail) (H : Heap) (hr : macR m) : ACalls Tryz.prog 13 [.agg (encMac m a b c d), .agg (encMac n a' b' c' d')] H fun x H' => x = .bool (decide (m = n)) ∧ H' = H := by
  obtain ⟨⟨l1, l2, l3, l4⟩, _⟩ := hr
  have hS := Heap.Sub.rfl' H
  have q1 := sEqL_eq decSet_enc m.facts n.facts a a' l1
  have q2 := sEqL_eq decFile_enc m.files n.files b b' l2
  have q3 := sEqL_eq decSet_enc m.sets n.sets c c' l3
  have q4 := sEqL_eq decSvc_enc m.svcs n.svcs d d' l4
  have hd : decide (m = n) = (decide (m.facts = n.facts) && (decide (m.files = n.files) && (decide (m.sets = n.sets) && decide (m.svcs = n.svcs)))) := by
    obtain ⟨x1, x2, x3, x4⟩ := m
    obtain ⟨y1, y2, y3, y4⟩ := n
    rw [Bool.eq_iff_iff]
    simp
  rw [hd]
  clear hd
  generalize decide (m.facts = n.facts) = e1 at *
  generalize decide (m.files = n.files) = e2 at *
  generalize decide (m.sets = n.sets) = e3 at *
  generalize decide (m.svcs = n.svcs) = e4 at *
  refine ACalls.of_code (X := { pure := puM9 }) puM9_ok Tryz.func13 (by kernel_rfl) rfl (by kernel_rfl) (Nat.le_of_ble_eq_true rfl) ?_
  simp -implicitDefEqProofs only [go_sem, reduceEqDiff, reduceAdd, reduceLeDiff, reduceLT, reduceMul, reduceEq, Int.reduceLT, reduceLE, Int.reduceAdd, reduceSub, reduceToNat, UInt8.reduceToNat, Tryz.f13, encMac]
  with_reducible refine nwC_intro fun i2 hi2 => ?_
  generalize E2 : Heap.put H i2 _ = G2
  have hO_2 := obj_new E2 hi2 hS
  have n2 := hO_2.1
  have hS := hO_2.2.1
  have g2 := hO_2.2.2.1
  clear hO_2
  simp -implicitDefEqProofs only [go_sem, reduceEqDiff, reduceAdd, reduceLeDiff, reduceLT, reduceMul, reduceEq, Int.reduceLT, reduceLE, Int.reduceAdd, reduceSub, reduceToNat, UInt8.reduceToNat]
  with_reducible refine nwC_intro fun i3 hi3 => ?_
  generalize E3 : Heap.put G2 i3 _ = G3
  have hO_3 := obj_new E3 hi3 hS
  have n3 := hO_3.1
  have hS := hO_3.2.1
  have g3 := hO_3.2.2.1
  have d2_3 := obj_ne g2 hi3
  have g2 := hO_3.2.2.2 _ _ g2
  clear hO_3
  cases e1 <;> cases e2 <;> cases e3 <;> cases e4
  all_goals
    simp -implicitDefEqProofs only [go_sem, reduceEqDiff, reduceAdd, reduceLeDiff, reduceLT, reduceMul, reduceEq, Int.reduceLT, reduceLE, Int.reduceAdd, reduceSub, reduceToNat, UInt8.reduceToNat, g2, g3, puM9, pu0, q1, q2, q3, q4]
    exact Done.drop hS ⟨rfl, rfl⟩
end Go.Proofs

/- Walks: functions with a wrong machine return its error. -/
namespace Go.Proofs
open Go Go.Abs
open Nat (reduceEqDiff reduceAdd reduceLeDiff reduceLT reduceMul)
open Int (reduceEq reduceLE reduceSub reduceToNat)
set_option linter.unusedSimpArgs false
set_option linter.unusedVariables false
set_option maxRecDepth 20000
theorem size_err (m : MacV) (ta tb tc td : Tail) (H : Heap) (hr : macR m) (he : ¬ macErr m = 0) :
    ACalls Tryz.prog 16 [.agg (encMac m ta tb tc td)] H fun x H' => x = .tup [.int .i64 0, .int .i64 (macErr m)] ∧ H' = H := by
  have hS := Heap.Sub.rfl' H
  have hck := fun G => check_calls m ta tb tc td G hr
  have y0 : decide (¬ macErr m = 0) = true := decide_eq_true he
  unfold encMac at hck
  refine ACalls.of_code (X := { pure := pu0 }) pu0_ok Tryz.func16 (by kernel_rfl) rfl (by kernel_rfl) (Nat.le_of_ble_eq_true rfl) ?_
  simp -implicitDefEqProofs only [go_sem, reduceEqDiff, reduceAdd, reduceLeDiff, reduceLT, reduceMul, reduceEq, Int.reduceLT, reduceLE, Int.reduceAdd, reduceSub, reduceToNat, UInt8.reduceToNat, Tryz.f16, encMac]
  with_reducible refine nwC_intro fun i2 hi2 => ?_
  generalize E2 : Heap.put H i2 _ = G1
  have hO_2 := obj_new E2 hi2 hS
  have n2 := hO_2.1
  have hS := hO_2.2.1
  have g2 := hO_2.2.2.1
  clear hO_2
  simp -implicitDefEqProofs only [go_sem, reduceEqDiff, reduceAdd, reduceLeDiff, reduceLT, reduceMul, reduceEq, Int.reduceLT, reduceLE, Int.reduceAdd, reduceSub, reduceToNat, UInt8.reduceToNat, g2]
  refine (hck G1).pure_next _ ?_
  simp -implicitDefEqProofs only [go_sem, reduceEqDiff, reduceAdd, reduceLeDiff, reduceLT, reduceMul, reduceEq, Int.reduceLT, reduceLE, Int.reduceAdd, reduceSub, reduceToNat, UInt8.reduceToNat, y0]
  exact Done.wk 3 (Done.drop hS ⟨rfl, rfl⟩)
theorem print_err (m : MacV) (ta tb tc td : Tail) (H : Heap) (hr : macR m) (he : ¬ macErr m = 0) :
    ACalls Tryz.prog 18 [.agg (encMac m ta tb tc td)] H fun x H' => x = .tup [.str [], .int .i64 (macErr m)] ∧ H' = H := by
  have hS := Heap.Sub.rfl' H
  have hck := fun G => check_calls m ta tb tc td G hr
  have y0 : decide (¬ macErr m = 0) = true := decide_eq_true he
  unfold encMac at hck
  refine ACalls.of_code (X := { pure := pu0 }) pu0_ok Tryz.func18 (by kernel_rfl) rfl (by kernel_rfl) (Nat.le_of_ble_eq_true rfl) ?_
  simp -implicitDefEqProofs only [go_sem, reduceEqDiff, reduceAdd, reduceLeDiff, reduceLT, reduceMul, reduceEq, Int.reduceLT, reduceLE, Int.reduceAdd, reduceSub, reduceToNat, UInt8.reduceToNat, Tryz.f18, encMac]
  with_reducible refine nwC_intro fun i2 hi2 => ?_
  generalize E2 : Heap.put H i2 _ = G1
  have hO_2 := obj_new E2 hi2 hS
  have n2 := hO_2.1
  have hS := hO_2.2.1
  have g2 := hO_2.2.2.1
  clear hO_2
  simp -implicitDefEqProofs only [go_sem, reduceEqDiff, reduceAdd, reduceLeDiff, reduceLT, reduceMul, reduceEq, Int.reduceLT, reduceLE, Int.reduceAdd, reduceSub, reduceToNat, UInt8.reduceToNat, g2]
  refine (hck G1).pure_next _ ?_
  simp -implicitDefEqProofs only [go_sem, reduceEqDiff, reduceAdd, reduceLeDiff, reduceLT, reduceMul, reduceEq, Int.reduceLT, reduceLE, Int.reduceAdd, reduceSub, reduceToNat, UInt8.reduceToNat, y0]
  exact Done.wk 3 (Done.drop hS ⟨rfl, rfl⟩)
theorem boot_err (m : MacV) (ta tb tc td : Tail) (H : Heap) (hr : macR m) (he : ¬ macErr m = 0) :
    ACalls Tryz.prog 19 [.agg (encMac m ta tb tc td)] H fun x H' => x = .tup [.agg (encMac .zero .unk .unk .unk .unk), .int .i64 (macErr m)] ∧ H' = H := by
  have hS := Heap.Sub.rfl' H
  have hck := fun G => check_calls m ta tb tc td G hr
  have y0 : decide (¬ macErr m = 0) = true := decide_eq_true he
  unfold encMac at hck
  refine ACalls.of_code (X := { pure := pu0 }) pu0_ok Tryz.func19 (by kernel_rfl) rfl (by kernel_rfl) (Nat.le_of_ble_eq_true rfl) ?_
  simp -implicitDefEqProofs only [go_sem, reduceEqDiff, reduceAdd, reduceLeDiff, reduceLT, reduceMul, reduceEq, Int.reduceLT, reduceLE, Int.reduceAdd, reduceSub, reduceToNat, UInt8.reduceToNat, Tryz.f19, encMac]
  with_reducible refine nwC_intro fun i2 hi2 => ?_
  generalize E2 : Heap.put H i2 _ = G1
  have hO_2 := obj_new E2 hi2 hS
  have n2 := hO_2.1
  have hS := hO_2.2.1
  have g2 := hO_2.2.2.1
  clear hO_2
  simp -implicitDefEqProofs only [go_sem, reduceEqDiff, reduceAdd, reduceLeDiff, reduceLT, reduceMul, reduceEq, Int.reduceLT, reduceLE, Int.reduceAdd, reduceSub, reduceToNat, UInt8.reduceToNat]
  with_reducible refine nwC_intro fun i4 hi4 => ?_
  generalize E4 : Heap.put G1 i4 _ = G2
  have hO_4 := obj_new E4 hi4 hS
  have n4 := hO_4.1
  have hS := hO_4.2.1
  have g4 := hO_4.2.2.1
  have d2_4 := obj_ne g2 hi4
  have g2 := hO_4.2.2.2 _ _ g2
  clear hO_4
  simp -implicitDefEqProofs only [go_sem, reduceEqDiff, reduceAdd, reduceLeDiff, reduceLT, reduceMul, reduceEq, Int.reduceLT, reduceLE, Int.reduceAdd, reduceSub, reduceToNat, UInt8.reduceToNat, g2]
  refine (hck G2).pure_next _ ?_
  simp -implicitDefEqProofs only [go_sem, reduceEqDiff, reduceAdd, reduceLeDiff, reduceLT, reduceMul, reduceEq, Int.reduceLT, reduceLE, Int.reduceAdd, reduceSub, reduceToNat, UInt8.reduceToNat, y0, g4]
  exact Done.wk 3 (Done.drop (hS.put' n4 _) ⟨rfl, rfl⟩)
theorem below_err (m : MacV) (ta tb tc td : Tail) (k : Bytes) (H : Heap) (hr : macR m) (he : ¬ macErr m = 0) :
    ACalls Tryz.prog 25 [.agg (encMac m ta tb tc td), .str k] H fun x H' => x = .tup [.sl [] .unk, .int .i64 (macErr m)] ∧ H' = H := by
  have hS := Heap.Sub.rfl' H
  have hck := fun G => check_calls m ta tb tc td G hr
  have y0 : decide (¬ macErr m = 0) = true := decide_eq_true he
  unfold encMac at hck
  refine ACalls.of_code (X := { pure := pu0 }) pu0_ok Tryz.func25 (by kernel_rfl) rfl (by kernel_rfl) (Nat.le_of_ble_eq_true rfl) ?_
  simp -implicitDefEqProofs only [go_sem, reduceEqDiff, reduceAdd, reduceLeDiff, reduceLT, reduceMul, reduceEq, Int.reduceLT, reduceLE, Int.reduceAdd, reduceSub, reduceToNat, UInt8.reduceToNat, Tryz.f25, encMac]
  with_reducible refine nwC_intro fun i2 hi2 => ?_
  generalize E2 : Heap.put H i2 _ = G1
  have hO_2 := obj_new E2 hi2 hS
  have n2 := hO_2.1
  have hS := hO_2.2.1
  have g2 := hO_2.2.2.1
  clear hO_2
  simp -implicitDefEqProofs only [go_sem, reduceEqDiff, reduceAdd, reduceLeDiff, reduceLT, reduceMul, reduceEq, Int.reduceLT, reduceLE, Int.reduceAdd, reduceSub, reduceToNat, UInt8.reduceToNat, g2]
  refine (hck G1).pure_next _ ?_
  simp -implicitDefEqProofs only [go_sem, reduceEqDiff, reduceAdd, reduceLeDiff, reduceLT, reduceMul, reduceEq, Int.reduceLT, reduceLE, Int.reduceAdd, reduceSub, reduceToNat, UInt8.reduceToNat, y0]
  exact Done.wk 3 (Done.drop hS ⟨rfl, rfl⟩)
theorem newDisk_err (m : MacV) (ta tb tc td : Tail) (H : Heap) (hr : macR m) (he : ¬ macErr m = 0) :
    ACalls Tryz.prog 27 [.agg (encMac m ta tb tc td)] H fun x H' => x = .tup [.nilp, .int .i64 (macErr m)] ∧ H' = H := by
  have hS := Heap.Sub.rfl' H
  have hck := fun G => check_calls m ta tb tc td G hr
  have y0 : decide (¬ macErr m = 0) = true := decide_eq_true he
  unfold encMac at hck
  refine ACalls.of_code (X := { pure := pu0 }) pu0_ok Tryz.func27 (by kernel_rfl) rfl (by kernel_rfl) (Nat.le_of_ble_eq_true rfl) ?_
  simp -implicitDefEqProofs only [go_sem, reduceEqDiff, reduceAdd, reduceLeDiff, reduceLT, reduceMul, reduceEq, Int.reduceLT, reduceLE, Int.reduceAdd, reduceSub, reduceToNat, UInt8.reduceToNat, Tryz.f27, encMac]
  with_reducible refine nwC_intro fun i2 hi2 => ?_
  generalize E2 : Heap.put H i2 _ = G1
  have hO_2 := obj_new E2 hi2 hS
  have n2 := hO_2.1
  have hS := hO_2.2.1
  have g2 := hO_2.2.2.1
  clear hO_2
  simp -implicitDefEqProofs only [go_sem, reduceEqDiff, reduceAdd, reduceLeDiff, reduceLT, reduceMul, reduceEq, Int.reduceLT, reduceLE, Int.reduceAdd, reduceSub, reduceToNat, UInt8.reduceToNat, g2]
  refine (hck G1).pure_next _ ?_
  simp -implicitDefEqProofs only [go_sem, reduceEqDiff, reduceAdd, reduceLeDiff, reduceLT, reduceMul, reduceEq, Int.reduceLT, reduceLE, Int.reduceAdd, reduceSub, reduceToNat, UInt8.reduceToNat, y0]
  exact Done.wk 3 (Done.drop hS ⟨rfl, rfl⟩)
theorem apply_err (m : MacV) (ta tb tc td : Tail) (l : List (List AV)) (t : Tail) (H : Heap) (hr : macR m) (he : ¬ macErr m = 0) :
    ACalls Tryz.prog 11 [.agg (encMac m ta tb tc td), .sl l t] H fun x H' => x = .tup [.agg (encMac .zero .unk .unk .unk .unk), .int .i64 (macErr m)] ∧ H' = H := by
  have hS := Heap.Sub.rfl' H
  have hck := fun G => check_calls m ta tb tc td G hr
  have y0 : decide (¬ macErr m = 0) = true := decide_eq_true he
  unfold encMac at hck
  refine ACalls.of_code (X := { pure := pu0 }) pu0_ok Tryz.func11 (by kernel_rfl) rfl (by kernel_rfl) (Nat.le_of_ble_eq_true rfl) ?_
  simp -implicitDefEqProofs only [go_sem, reduceEqDiff, reduceAdd, reduceLeDiff, reduceLT, reduceMul, reduceEq, Int.reduceLT, reduceLE, Int.reduceAdd, reduceSub, reduceToNat, UInt8.reduceToNat, Tryz.f11, encMac]
  with_reducible refine nwC_intro fun i2 hi2 => ?_
  generalize E2 : Heap.put H i2 _ = G1
  have hO_2 := obj_new E2 hi2 hS
  have n2 := hO_2.1
  have hS := hO_2.2.1
  have g2 := hO_2.2.2.1
  clear hO_2
  simp -implicitDefEqProofs only [go_sem, reduceEqDiff, reduceAdd, reduceLeDiff, reduceLT, reduceMul, reduceEq, Int.reduceLT, reduceLE, Int.reduceAdd, reduceSub, reduceToNat, UInt8.reduceToNat]
  with_reducible refine nwC_intro fun i4 hi4 => ?_
  generalize E4 : Heap.put G1 i4 _ = G2
  have hO_4 := obj_new E4 hi4 hS
  have n4 := hO_4.1
  have hS := hO_4.2.1
  have g4 := hO_4.2.2.1
  have d2_4 := obj_ne g2 hi4
  have g2 := hO_4.2.2.2 _ _ g2
  clear hO_4
  simp -implicitDefEqProofs only [go_sem, reduceEqDiff, reduceAdd, reduceLeDiff, reduceLT, reduceMul, reduceEq, Int.reduceLT, reduceLE, Int.reduceAdd, reduceSub, reduceToNat, UInt8.reduceToNat, g2]
  refine (hck G2).pure_next _ ?_
  simp -implicitDefEqProofs only [go_sem, reduceEqDiff, reduceAdd, reduceLeDiff, reduceLT, reduceMul, reduceEq, Int.reduceLT, reduceLE, Int.reduceAdd, reduceSub, reduceToNat, UInt8.reduceToNat, y0, g4]
  exact Done.wk 3 (Done.drop (hS.put' n4 _) ⟨rfl, rfl⟩)
theorem sum_err (m : MacV) (ta tb tc td : Tail) (H : Heap) (hr : macR m) (he : ¬ macErr m = 0) :
    ACalls Tryz.prog 17 [.agg (encMac m ta tb tc td)] H fun x H' => x = .tup [.str [], .int .i64 (macErr m)] ∧ H' = H := by
  have hS := Heap.Sub.rfl' H
  have hck := fun G => print_err m ta tb tc td G hr he
  have y0 : decide (¬ macErr m = 0) = true := decide_eq_true he
  unfold encMac at hck
  refine ACalls.of_code (X := { pure := pu0 }) pu0_ok Tryz.func17 (by kernel_rfl) rfl (by kernel_rfl) (Nat.le_of_ble_eq_true rfl) ?_
  simp -implicitDefEqProofs only [go_sem, reduceEqDiff, reduceAdd, reduceLeDiff, reduceLT, reduceMul, reduceEq, Int.reduceLT, reduceLE, Int.reduceAdd, reduceSub, reduceToNat, UInt8.reduceToNat, Tryz.f17, encMac]
  with_reducible refine nwC_intro fun i2 hi2 => ?_
  generalize E2 : Heap.put H i2 _ = G1
  have hO_2 := obj_new E2 hi2 hS
  have n2 := hO_2.1
  have hS := hO_2.2.1
  have g2 := hO_2.2.2.1
  clear hO_2
  simp -implicitDefEqProofs only [go_sem, reduceEqDiff, reduceAdd, reduceLeDiff, reduceLT, reduceMul, reduceEq, Int.reduceLT, reduceLE, Int.reduceAdd, reduceSub, reduceToNat, UInt8.reduceToNat, g2]
  refine (hck G1).pure_next _ ?_
  simp -implicitDefEqProofs only [go_sem, reduceEqDiff, reduceAdd, reduceLeDiff, reduceLT, reduceMul, reduceEq, Int.reduceLT, reduceLE, Int.reduceAdd, reduceSub, reduceToNat, UInt8.reduceToNat, y0]
  exact Done.drop hS ⟨rfl, rfl⟩
theorem undo_err (m : MacV) (ta tb tc td : Tail) (l : List (List AV)) (t : Tail) (H : Heap) (hr : macR m) (he : ¬ macErr m = 0) :
    ACalls Tryz.prog 26 [.agg (encMac m ta tb tc td), .sl l t] H fun x H' => x = .tup [.sl [] .unk, .int .i64 (macErr m)] ∧ H' = H := by
  have hS := Heap.Sub.rfl' H
  have hck := fun G => apply_err m ta tb tc td l t G hr he
  have y0 : decide (¬ macErr m = 0) = true := decide_eq_true he
  unfold encMac at hck
  refine ACalls.of_code (X := { pure := pu0 }) pu0_ok Tryz.func26 (by kernel_rfl) rfl (by kernel_rfl) (Nat.le_of_ble_eq_true rfl) ?_
  simp -implicitDefEqProofs only [go_sem, reduceEqDiff, reduceAdd, reduceLeDiff, reduceLT, reduceMul, reduceEq, Int.reduceLT, reduceLE, Int.reduceAdd, reduceSub, reduceToNat, UInt8.reduceToNat, Tryz.f26, encMac]
  with_reducible refine nwC_intro fun i2 hi2 => ?_
  generalize E2 : Heap.put H i2 _ = G1
  have hO_2 := obj_new E2 hi2 hS
  have n2 := hO_2.1
  have hS := hO_2.2.1
  have g2 := hO_2.2.2.1
  clear hO_2
  simp -implicitDefEqProofs only [go_sem, reduceEqDiff, reduceAdd, reduceLeDiff, reduceLT, reduceMul, reduceEq, Int.reduceLT, reduceLE, Int.reduceAdd, reduceSub, reduceToNat, UInt8.reduceToNat, g2]
  refine (hck G1).pure_next _ ?_
  simp -implicitDefEqProofs only [go_sem, reduceEqDiff, reduceAdd, reduceLeDiff, reduceLT, reduceMul, reduceEq, Int.reduceLT, reduceLE, Int.reduceAdd, reduceSub, reduceToNat, UInt8.reduceToNat]
  with_reducible refine nwC_intro fun i6 hi6 => ?_
  simp -implicitDefEqProofs only [go_sem, reduceEqDiff, reduceAdd, reduceLeDiff, reduceLT, reduceMul, reduceEq, Int.reduceLT, reduceLE, Int.reduceAdd, reduceSub, reduceToNat, UInt8.reduceToNat, y0]
  exact Done.wk 2 (Done.drop (hS.put' (sub_none hS hi6) _) ⟨rfl, rfl⟩)
theorem askS_err (m : MacV) (ta tb tc td : Tail) (l : List (List AV)) (t : Tail) (k : Bytes) (f g : AV) (H : Heap) (hr : macR m) (he : ¬ macErr m = 0) :
    ACalls Tryz.prog 81 [.agg (encMac m ta tb tc td), .sl l t, .str k, f, g] H fun y H' => y = .tup [.agg (encSet SetV.zero), .int .i64 (macErr m)] ∧ H' = H := by
  have hS := Heap.Sub.rfl' H
  have hck := fun G => check_calls m ta tb tc td G hr
  have y0 : decide (¬ macErr m = 0) = true := decide_eq_true he
  unfold encMac at hck
  refine ACalls.of_code (X := { pure := pu0 }) pu0_ok Tryz.func81 (by kernel_rfl) rfl (by kernel_rfl) (Nat.le_of_ble_eq_true rfl) ?_
  simp -implicitDefEqProofs only [go_sem, reduceEqDiff, reduceAdd, reduceLeDiff, reduceLT, reduceMul, reduceEq, Int.reduceLT, reduceLE, Int.reduceAdd, reduceSub, reduceToNat, UInt8.reduceToNat, Tryz.f81, encMac]
  with_reducible refine nwC_intro fun i5 hi5 => ?_
  generalize E5 : Heap.put H i5 _ = G1
  have hO_5 := obj_new E5 hi5 hS
  have n5 := hO_5.1
  have hS := hO_5.2.1
  have g5 := hO_5.2.2.1
  clear hO_5
  simp -implicitDefEqProofs only [go_sem, reduceEqDiff, reduceAdd, reduceLeDiff, reduceLT, reduceMul, reduceEq, Int.reduceLT, reduceLE, Int.reduceAdd, reduceSub, reduceToNat, UInt8.reduceToNat]
  with_reducible refine nwC_intro fun i10 hi10 => ?_
  generalize E10 : Heap.put G1 i10 _ = G2
  have hO_10 := obj_new E10 hi10 hS
  have n10 := hO_10.1
  have hS := hO_10.2.1
  have g10 := hO_10.2.2.1
  have d5_10 := obj_ne g5 hi10
  have g5 := hO_10.2.2.2 _ _ g5
  clear hO_10
  simp -implicitDefEqProofs only [go_sem, reduceEqDiff, reduceAdd, reduceLeDiff, reduceLT, reduceMul, reduceEq, Int.reduceLT, reduceLE, Int.reduceAdd, reduceSub, reduceToNat, UInt8.reduceToNat]
  with_reducible refine nwC_intro fun i12 hi12 => ?_
  generalize E12 : Heap.put G2 i12 _ = G3
  have hO_12 := obj_new E12 hi12 hS
  have n12 := hO_12.1
  have hS := hO_12.2.1
  have g12 := hO_12.2.2.1
  have d5_12 := obj_ne g5 hi12
  have g5 := hO_12.2.2.2 _ _ g5
  have d10_12 := obj_ne g10 hi12
  have g10 := hO_12.2.2.2 _ _ g10
  clear hO_12
  simp -implicitDefEqProofs only [go_sem, reduceEqDiff, reduceAdd, reduceLeDiff, reduceLT, reduceMul, reduceEq, Int.reduceLT, reduceLE, Int.reduceAdd, reduceSub, reduceToNat, UInt8.reduceToNat, g5]
  refine (hck G3).pure_next _ ?_
  simp -implicitDefEqProofs only [go_sem, reduceEqDiff, reduceAdd, reduceLeDiff, reduceLT, reduceMul, reduceEq, Int.reduceLT, reduceLE, Int.reduceAdd, reduceSub, reduceToNat, UInt8.reduceToNat, y0, g12, g10]
  exact Done.drop (hS.put' n10 _) ⟨rfl, rfl⟩
theorem askF_err (m : MacV) (ta tb tc td : Tail) (l : List (List AV)) (t : Tail) (k : Bytes) (f g : AV) (H : Heap) (hr : macR m) (he : ¬ macErr m = 0) :
    ACalls Tryz.prog 82 [.agg (encMac m ta tb tc td), .sl l t, .str k, f, g] H fun y H' => y = .tup [.agg (encFile FileV.zero), .int .i64 (macErr m)] ∧ H' = H := by
  have hS := Heap.Sub.rfl' H
  have hck := fun G => check_calls m ta tb tc td G hr
  have y0 : decide (¬ macErr m = 0) = true := decide_eq_true he
  unfold encMac at hck
  refine ACalls.of_code (X := { pure := pu0 }) pu0_ok Tryz.func82 (by kernel_rfl) rfl (by kernel_rfl) (Nat.le_of_ble_eq_true rfl) ?_
  simp -implicitDefEqProofs only [go_sem, reduceEqDiff, reduceAdd, reduceLeDiff, reduceLT, reduceMul, reduceEq, Int.reduceLT, reduceLE, Int.reduceAdd, reduceSub, reduceToNat, UInt8.reduceToNat, Tryz.f82, encMac]
  with_reducible refine nwC_intro fun i5 hi5 => ?_
  generalize E5 : Heap.put H i5 _ = G1
  have hO_5 := obj_new E5 hi5 hS
  have n5 := hO_5.1
  have hS := hO_5.2.1
  have g5 := hO_5.2.2.1
  clear hO_5
  simp -implicitDefEqProofs only [go_sem, reduceEqDiff, reduceAdd, reduceLeDiff, reduceLT, reduceMul, reduceEq, Int.reduceLT, reduceLE, Int.reduceAdd, reduceSub, reduceToNat, UInt8.reduceToNat]
  with_reducible refine nwC_intro fun i10 hi10 => ?_
  generalize E10 : Heap.put G1 i10 _ = G2
  have hO_10 := obj_new E10 hi10 hS
  have n10 := hO_10.1
  have hS := hO_10.2.1
  have g10 := hO_10.2.2.1
  have d5_10 := obj_ne g5 hi10
  have g5 := hO_10.2.2.2 _ _ g5
  clear hO_10
  simp -implicitDefEqProofs only [go_sem, reduceEqDiff, reduceAdd, reduceLeDiff, reduceLT, reduceMul, reduceEq, Int.reduceLT, reduceLE, Int.reduceAdd, reduceSub, reduceToNat, UInt8.reduceToNat]
  with_reducible refine nwC_intro fun i12 hi12 => ?_
  generalize E12 : Heap.put G2 i12 _ = G3
  have hO_12 := obj_new E12 hi12 hS
  have n12 := hO_12.1
  have hS := hO_12.2.1
  have g12 := hO_12.2.2.1
  have d5_12 := obj_ne g5 hi12
  have g5 := hO_12.2.2.2 _ _ g5
  have d10_12 := obj_ne g10 hi12
  have g10 := hO_12.2.2.2 _ _ g10
  clear hO_12
  simp -implicitDefEqProofs only [go_sem, reduceEqDiff, reduceAdd, reduceLeDiff, reduceLT, reduceMul, reduceEq, Int.reduceLT, reduceLE, Int.reduceAdd, reduceSub, reduceToNat, UInt8.reduceToNat, g5]
  refine (hck G3).pure_next _ ?_
  simp -implicitDefEqProofs only [go_sem, reduceEqDiff, reduceAdd, reduceLeDiff, reduceLT, reduceMul, reduceEq, Int.reduceLT, reduceLE, Int.reduceAdd, reduceSub, reduceToNat, UInt8.reduceToNat, y0, g12, g10]
  exact Done.drop (hS.put' n10 _) ⟨rfl, rfl⟩
theorem askV_err (m : MacV) (ta tb tc td : Tail) (l : List (List AV)) (t : Tail) (k : Bytes) (f g : AV) (H : Heap) (hr : macR m) (he : ¬ macErr m = 0) :
    ACalls Tryz.prog 84 [.agg (encMac m ta tb tc td), .sl l t, .str k, f, g] H fun y H' => y = .tup [.agg (encSvc SvcV.zero), .int .i64 (macErr m)] ∧ H' = H := by
  have hS := Heap.Sub.rfl' H
  have hck := fun G => check_calls m ta tb tc td G hr
  have y0 : decide (¬ macErr m = 0) = true := decide_eq_true he
  unfold encMac at hck
  refine ACalls.of_code (X := { pure := pu0 }) pu0_ok Tryz.func84 (by kernel_rfl) rfl (by kernel_rfl) (Nat.le_of_ble_eq_true rfl) ?_
  simp -implicitDefEqProofs only [go_sem, reduceEqDiff, reduceAdd, reduceLeDiff, reduceLT, reduceMul, reduceEq, Int.reduceLT, reduceLE, Int.reduceAdd, reduceSub, reduceToNat, UInt8.reduceToNat, Tryz.f84, encMac]
  with_reducible refine nwC_intro fun i5 hi5 => ?_
  generalize E5 : Heap.put H i5 _ = G1
  have hO_5 := obj_new E5 hi5 hS
  have n5 := hO_5.1
  have hS := hO_5.2.1
  have g5 := hO_5.2.2.1
  clear hO_5
  simp -implicitDefEqProofs only [go_sem, reduceEqDiff, reduceAdd, reduceLeDiff, reduceLT, reduceMul, reduceEq, Int.reduceLT, reduceLE, Int.reduceAdd, reduceSub, reduceToNat, UInt8.reduceToNat]
  with_reducible refine nwC_intro fun i10 hi10 => ?_
  generalize E10 : Heap.put G1 i10 _ = G2
  have hO_10 := obj_new E10 hi10 hS
  have n10 := hO_10.1
  have hS := hO_10.2.1
  have g10 := hO_10.2.2.1
  have d5_10 := obj_ne g5 hi10
  have g5 := hO_10.2.2.2 _ _ g5
  clear hO_10
  simp -implicitDefEqProofs only [go_sem, reduceEqDiff, reduceAdd, reduceLeDiff, reduceLT, reduceMul, reduceEq, Int.reduceLT, reduceLE, Int.reduceAdd, reduceSub, reduceToNat, UInt8.reduceToNat]
  with_reducible refine nwC_intro fun i12 hi12 => ?_
  generalize E12 : Heap.put G2 i12 _ = G3
  have hO_12 := obj_new E12 hi12 hS
  have n12 := hO_12.1
  have hS := hO_12.2.1
  have g12 := hO_12.2.2.1
  have d5_12 := obj_ne g5 hi12
  have g5 := hO_12.2.2.2 _ _ g5
  have d10_12 := obj_ne g10 hi12
  have g10 := hO_12.2.2.2 _ _ g10
  clear hO_12
  simp -implicitDefEqProofs only [go_sem, reduceEqDiff, reduceAdd, reduceLeDiff, reduceLT, reduceMul, reduceEq, Int.reduceLT, reduceLE, Int.reduceAdd, reduceSub, reduceToNat, UInt8.reduceToNat, g5]
  refine (hck G3).pure_next _ ?_
  simp -implicitDefEqProofs only [go_sem, reduceEqDiff, reduceAdd, reduceLeDiff, reduceLT, reduceMul, reduceEq, Int.reduceLT, reduceLE, Int.reduceAdd, reduceSub, reduceToNat, UInt8.reduceToNat, y0, g12, g10]
  exact Done.drop (hS.put' n10 _) ⟨rfl, rfl⟩
theorem fact_err (m : MacV) (ta tb tc td : Tail) (k : Bytes) (H : Heap) (hr : macR m) (he : ¬ macErr m = 0) :
    ACalls Tryz.prog 21 [.agg (encMac m ta tb tc td), .str k] H fun y H' => y = .tup [.str [], .int .i64 (macErr m)] ∧ H' = H := by
  have hS := Heap.Sub.rfl' H
  have hak := fun l t f g G => askS_err m ta tb tc td l t k f g G hr he
  unfold encMac encSet SetV.zero at hak
  refine ACalls.of_code (X := { pure := pu0 }) pu0_ok Tryz.func21 (by kernel_rfl) rfl (by kernel_rfl) (Nat.le_of_ble_eq_true rfl) ?_
  simp -implicitDefEqProofs only [go_sem, reduceEqDiff, reduceAdd, reduceLeDiff, reduceLT, reduceMul, reduceEq, Int.reduceLT, reduceLE, Int.reduceAdd, reduceSub, reduceToNat, UInt8.reduceToNat, Tryz.f21, encMac]
  with_reducible refine nwC_intro fun i2 hi2 => ?_
  generalize E2 : Heap.put H i2 _ = G1
  have hO_2 := obj_new E2 hi2 hS
  have n2 := hO_2.1
  have hS := hO_2.2.1
  have g2 := hO_2.2.2.1
  clear hO_2
  simp -implicitDefEqProofs only [go_sem, reduceEqDiff, reduceAdd, reduceLeDiff, reduceLT, reduceMul, reduceEq, Int.reduceLT, reduceLE, Int.reduceAdd, reduceSub, reduceToNat, UInt8.reduceToNat, g2]
  refine (hak _ _ _ _ G1).pure_next _ ?_
  simp -implicitDefEqProofs only [go_sem, reduceEqDiff, reduceAdd, reduceLeDiff, reduceLT, reduceMul, reduceEq, Int.reduceLT, reduceLE, Int.reduceAdd, reduceSub, reduceToNat, UInt8.reduceToNat]
  with_reducible refine nwC_intro fun i6 hi6 => ?_
  generalize E6 : Heap.put G1 i6 _ = G2
  have hO_6 := obj_new E6 hi6 hS
  have n6 := hO_6.1
  have hS := hO_6.2.1
  have g6 := hO_6.2.2.1
  have d2_6 := obj_ne g2 hi6
  have g2 := hO_6.2.2.2 _ _ g2
  clear hO_6
  try simp -implicitDefEqProofs only [go_sem, reduceEqDiff, reduceAdd, reduceLeDiff, reduceLT, reduceMul, reduceEq, Int.reduceLT, reduceLE, Int.reduceAdd, reduceSub, reduceToNat, UInt8.reduceToNat, g6]
  exact Done.drop (by first | exact hS | exact hS.put' n6 _) ⟨rfl, rfl⟩
theorem file_err (m : MacV) (ta tb tc td : Tail) (k : Bytes) (H : Heap) (hr : macR m) (he : ¬ macErr m = 0) :
    ACalls Tryz.prog 22 [.agg (encMac m ta tb tc td), .str k] H fun y H' => y = .tup [.agg (encFile FileV.zero), .int .i64 (macErr m)] ∧ H' = H := by
  have hS := Heap.Sub.rfl' H
  have hak := fun l t f g G => askF_err m ta tb tc td l t k f g G hr he
  unfold encMac encFile FileV.zero at hak
  refine ACalls.of_code (X := { pure := pu0 }) pu0_ok Tryz.func22 (by kernel_rfl) rfl (by kernel_rfl) (Nat.le_of_ble_eq_true rfl) ?_
  simp -implicitDefEqProofs only [go_sem, reduceEqDiff, reduceAdd, reduceLeDiff, reduceLT, reduceMul, reduceEq, Int.reduceLT, reduceLE, Int.reduceAdd, reduceSub, reduceToNat, UInt8.reduceToNat, Tryz.f22, encMac]
  with_reducible refine nwC_intro fun i2 hi2 => ?_
  generalize E2 : Heap.put H i2 _ = G1
  have hO_2 := obj_new E2 hi2 hS
  have n2 := hO_2.1
  have hS := hO_2.2.1
  have g2 := hO_2.2.2.1
  clear hO_2
  simp -implicitDefEqProofs only [go_sem, reduceEqDiff, reduceAdd, reduceLeDiff, reduceLT, reduceMul, reduceEq, Int.reduceLT, reduceLE, Int.reduceAdd, reduceSub, reduceToNat, UInt8.reduceToNat]
  with_reducible refine nwC_intro fun i4 hi4 => ?_
  generalize E4 : Heap.put G1 i4 _ = G2
  have hO_4 := obj_new E4 hi4 hS
  have n4 := hO_4.1
  have hS := hO_4.2.1
  have g4 := hO_4.2.2.1
  have d2_4 := obj_ne g2 hi4
  have g2 := hO_4.2.2.2 _ _ g2
  clear hO_4
  simp -implicitDefEqProofs only [go_sem, reduceEqDiff, reduceAdd, reduceLeDiff, reduceLT, reduceMul, reduceEq, Int.reduceLT, reduceLE, Int.reduceAdd, reduceSub, reduceToNat, UInt8.reduceToNat, g2]
  refine (hak _ _ _ _ G2).pure_next _ ?_
  simp -implicitDefEqProofs only [go_sem, reduceEqDiff, reduceAdd, reduceLeDiff, reduceLT, reduceMul, reduceEq, Int.reduceLT, reduceLE, Int.reduceAdd, reduceSub, reduceToNat, UInt8.reduceToNat, g4]
  exact Done.drop (hS.put' n4 _) ⟨rfl, rfl⟩
theorem setting_err (m : MacV) (ta tb tc td : Tail) (k : Bytes) (H : Heap) (hr : macR m) (he : ¬ macErr m = 0) :
    ACalls Tryz.prog 23 [.agg (encMac m ta tb tc td), .str k] H fun y H' => y = .tup [.str [], .int .i64 (macErr m)] ∧ H' = H := by
  have hS := Heap.Sub.rfl' H
  have hak := fun l t f g G => askS_err m ta tb tc td l t k f g G hr he
  unfold encMac encSet SetV.zero at hak
  refine ACalls.of_code (X := { pure := pu0 }) pu0_ok Tryz.func23 (by kernel_rfl) rfl (by kernel_rfl) (Nat.le_of_ble_eq_true rfl) ?_
  simp -implicitDefEqProofs only [go_sem, reduceEqDiff, reduceAdd, reduceLeDiff, reduceLT, reduceMul, reduceEq, Int.reduceLT, reduceLE, Int.reduceAdd, reduceSub, reduceToNat, UInt8.reduceToNat, Tryz.f23, encMac]
  with_reducible refine nwC_intro fun i2 hi2 => ?_
  generalize E2 : Heap.put H i2 _ = G1
  have hO_2 := obj_new E2 hi2 hS
  have n2 := hO_2.1
  have hS := hO_2.2.1
  have g2 := hO_2.2.2.1
  clear hO_2
  simp -implicitDefEqProofs only [go_sem, reduceEqDiff, reduceAdd, reduceLeDiff, reduceLT, reduceMul, reduceEq, Int.reduceLT, reduceLE, Int.reduceAdd, reduceSub, reduceToNat, UInt8.reduceToNat, g2]
  refine (hak _ _ _ _ G1).pure_next _ ?_
  simp -implicitDefEqProofs only [go_sem, reduceEqDiff, reduceAdd, reduceLeDiff, reduceLT, reduceMul, reduceEq, Int.reduceLT, reduceLE, Int.reduceAdd, reduceSub, reduceToNat, UInt8.reduceToNat]
  with_reducible refine nwC_intro fun i6 hi6 => ?_
  generalize E6 : Heap.put G1 i6 _ = G2
  have hO_6 := obj_new E6 hi6 hS
  have n6 := hO_6.1
  have hS := hO_6.2.1
  have g6 := hO_6.2.2.1
  have d2_6 := obj_ne g2 hi6
  have g2 := hO_6.2.2.2 _ _ g2
  clear hO_6
  try simp -implicitDefEqProofs only [go_sem, reduceEqDiff, reduceAdd, reduceLeDiff, reduceLT, reduceMul, reduceEq, Int.reduceLT, reduceLE, Int.reduceAdd, reduceSub, reduceToNat, UInt8.reduceToNat, g6]
  exact Done.drop (by first | exact hS | exact hS.put' n6 _) ⟨rfl, rfl⟩
theorem service_err (m : MacV) (ta tb tc td : Tail) (k : Bytes) (H : Heap) (hr : macR m) (he : ¬ macErr m = 0) :
    ACalls Tryz.prog 24 [.agg (encMac m ta tb tc td), .str k] H fun y H' => y = .tup [.agg (encSvc SvcV.zero), .int .i64 (macErr m)] ∧ H' = H := by
  have hS := Heap.Sub.rfl' H
  have hak := fun l t f g G => askV_err m ta tb tc td l t k f g G hr he
  unfold encMac encSvc SvcV.zero at hak
  refine ACalls.of_code (X := { pure := pu0 }) pu0_ok Tryz.func24 (by kernel_rfl) rfl (by kernel_rfl) (Nat.le_of_ble_eq_true rfl) ?_
  simp -implicitDefEqProofs only [go_sem, reduceEqDiff, reduceAdd, reduceLeDiff, reduceLT, reduceMul, reduceEq, Int.reduceLT, reduceLE, Int.reduceAdd, reduceSub, reduceToNat, UInt8.reduceToNat, Tryz.f24, encMac]
  with_reducible refine nwC_intro fun i2 hi2 => ?_
  generalize E2 : Heap.put H i2 _ = G1
  have hO_2 := obj_new E2 hi2 hS
  have n2 := hO_2.1
  have hS := hO_2.2.1
  have g2 := hO_2.2.2.1
  clear hO_2
  simp -implicitDefEqProofs only [go_sem, reduceEqDiff, reduceAdd, reduceLeDiff, reduceLT, reduceMul, reduceEq, Int.reduceLT, reduceLE, Int.reduceAdd, reduceSub, reduceToNat, UInt8.reduceToNat]
  with_reducible refine nwC_intro fun i4 hi4 => ?_
  generalize E4 : Heap.put G1 i4 _ = G2
  have hO_4 := obj_new E4 hi4 hS
  have n4 := hO_4.1
  have hS := hO_4.2.1
  have g4 := hO_4.2.2.1
  have d2_4 := obj_ne g2 hi4
  have g2 := hO_4.2.2.2 _ _ g2
  clear hO_4
  simp -implicitDefEqProofs only [go_sem, reduceEqDiff, reduceAdd, reduceLeDiff, reduceLT, reduceMul, reduceEq, Int.reduceLT, reduceLE, Int.reduceAdd, reduceSub, reduceToNat, UInt8.reduceToNat, g2]
  refine (hak _ _ _ _ G2).pure_next _ ?_
  simp -implicitDefEqProofs only [go_sem, reduceEqDiff, reduceAdd, reduceLeDiff, reduceLT, reduceMul, reduceEq, Int.reduceLT, reduceLE, Int.reduceAdd, reduceSub, reduceToNat, UInt8.reduceToNat, g4]
  exact Done.drop (hS.put' n4 _) ⟨rfl, rfl⟩
theorem zeroM_calls (a b c d : Tail) (H : Heap) : ACalls Tryz.prog 20 [.agg (encMac .zero a b c d)] H fun x H' => x = .bool true ∧ H' = H := by
  have hS := Heap.Sub.rfl' H
  have hz : macR MacV.zero := by simp [macR, MacV.zero]
  have hsm := fun G => rSame_calls .zero .zero a b c d .exact .exact .exact .exact G hz
  rw [show decide (MacV.zero = MacV.zero) = true from decide_eq_true rfl] at hsm
  unfold encMac MacV.zero at hsm ⊢
  simp only [List.map_nil] at hsm ⊢
  refine ACalls.of_code (X := { pure := pu0 }) pu0_ok Tryz.func20 (by kernel_rfl) rfl (by kernel_rfl) (Nat.le_of_ble_eq_true rfl) ?_
  simp -implicitDefEqProofs only [go_sem, reduceEqDiff, reduceAdd, reduceLeDiff, reduceLT, reduceMul, reduceEq, Int.reduceLT, reduceLE, Int.reduceAdd, reduceSub, reduceToNat, UInt8.reduceToNat, Tryz.f20]
  with_reducible refine nwC_intro fun i1 hi1 => ?_
  generalize E1 : Heap.put H i1 _ = G1
  have hO_1 := obj_new E1 hi1 hS
  have n1 := hO_1.1
  have hS := hO_1.2.1
  have g1 := hO_1.2.2.1
  clear hO_1
  simp -implicitDefEqProofs only [go_sem, reduceEqDiff, reduceAdd, reduceLeDiff, reduceLT, reduceMul, reduceEq, Int.reduceLT, reduceLE, Int.reduceAdd, reduceSub, reduceToNat, UInt8.reduceToNat, g1]
  refine (hsm G1).pure_next _ ?_
  simp -implicitDefEqProofs only [go_sem, reduceEqDiff, reduceAdd, reduceLeDiff, reduceLT, reduceMul, reduceEq, Int.reduceLT, reduceLE, Int.reduceAdd, reduceSub, reduceToNat, UInt8.reduceToNat]
  exact Done.drop hS ⟨rfl, rfl⟩
end Go.Proofs
