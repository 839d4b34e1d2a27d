/-
  Walks and plain laws, part 5.
-/
import Derived.Test.YtncemkhlbhmobaaGreatDoorM4
import Derived.Test.YtncemkhlbhmobaaGreatDoorM3
/- Walks: Check, on the reference's side. -/
namespace Go.Proofs
open Go Go.Abs
open Nat (reduceEqDiff reduceAdd reduceLeDiff reduceLT reduceMul)
open Int (reduceEq reduceLE reduceSub reduceToNat)
set_option linter.unusedSimpArgs false
set_option linter.unusedVariables false
set_option maxRecDepth 20000
def puRC : Pures := putP 16 (sStr nameB) (putP 34 (sStr valueB) (putP 75 sFileE (putP 76 sSetE (putP 77 sSvcE (putP 74 sFirst (putP 73 sWhen pu0))))))
theorem puRC_dyn : isDyn puRC = false := by simp only [puRC, go_sem, Nat.reduceEqDiff]
attribute [go_sem] puRC_dyn
theorem puRC_ok : PuOK Tryz.prog puRC := .put (.put (.put (.put (.put (.put (.put (pu0_ok) (sWhen_ok when_calls)) (sFirst_ok first_calls)) (sSvcE_ok rServiceError_calls)) (sSetE_ok rSettingError_calls)) (sFileE_ok rFileError_calls)) (sStr_ok rIsValue_calls)) (sStr_ok rIsName_calls)
/-- The order, as a number. -/
def bV (p : Option Bytes) (k : Bytes) : Int := if ordB p k = true then 7 else 0
theorem behind_calls (i : Nat) (k z : Bytes) (p : Option Bytes) (i3 : Nat) (G : Heap) (h : G i3 = some (.cells [.str z])) (hp : p = if i = 0 then none else some z) :
    ACalls Tryz.prog 72 [.int .i64 i, .str k, .ptr i3 0] G fun x H' => x = .int .i64 (bV p k) ∧ H' = G.put i3 (.cells [.str k]) := by
  by_cases c : i = 0
  · subst c
    have y : decide ((0 : Int) < ((0 : Nat) : Int)) = false := rfl
    have y2 : decide ((0 : Int) < 0) = false := rfl
    refine ACalls.of_code (X := { pure := puRC }) puRC_ok Tryz.func72 (by kernel_rfl) rfl (by kernel_rfl) (Nat.le_of_ble_eq_true rfl) ?_
    simp -implicitDefEqProofs only [go_sem, reduceEqDiff, reduceAdd, reduceLeDiff, reduceLT, reduceMul, reduceEq, Int.reduceLT, reduceLE, Int.reduceAdd, reduceSub, reduceToNat, UInt8.reduceToNat, Tryz.f72, h, y, y2]
    simp -implicitDefEqProofs only [go_sem, reduceEqDiff, reduceAdd, reduceLeDiff, reduceLT, reduceMul, reduceEq, Int.reduceLT, reduceLE, Int.reduceAdd, reduceSub, reduceToNat, UInt8.reduceToNat, puRC, sWhen_eq]
    exact Done.now ⟨by rw [hp]; rfl, rfl⟩
  · have y : decide ((0 : Int) < (i : Int)) = true := decide_eq_true (by omega)
    rw [if_neg c] at hp
    subst hp
    by_cases c2 : leB k z = true
    · have y2 : (strLt k z || decide (k = z)) = true := c2
      refine ACalls.of_code (X := { pure := puRC }) puRC_ok Tryz.func72 (by kernel_rfl) rfl (by kernel_rfl) (Nat.le_of_ble_eq_true rfl) ?_
      simp -implicitDefEqProofs only [go_sem, reduceEqDiff, reduceAdd, reduceLeDiff, reduceLT, reduceMul, reduceEq, Int.reduceLT, reduceLE, Int.reduceAdd, reduceSub, reduceToNat, UInt8.reduceToNat, Tryz.f72, h, y, y2]
      simp -implicitDefEqProofs only [go_sem, reduceEqDiff, reduceAdd, reduceLeDiff, reduceLT, reduceMul, reduceEq, Int.reduceLT, reduceLE, Int.reduceAdd, reduceSub, reduceToNat, UInt8.reduceToNat, puRC, sWhen_eq]
      exact Done.now ⟨by rw [bV, if_pos (show ordB (some z) k = true from c2)], rfl⟩
    · have y2 : (strLt k z || decide (k = z)) = false := by simpa [leB] using c2
      refine ACalls.of_code (X := { pure := puRC }) puRC_ok Tryz.func72 (by kernel_rfl) rfl (by kernel_rfl) (Nat.le_of_ble_eq_true rfl) ?_
      simp -implicitDefEqProofs only [go_sem, reduceEqDiff, reduceAdd, reduceLeDiff, reduceLT, reduceMul, reduceEq, Int.reduceLT, reduceLE, Int.reduceAdd, reduceSub, reduceToNat, UInt8.reduceToNat, Tryz.f72, h, y, y2]
      simp -implicitDefEqProofs only [go_sem, reduceEqDiff, reduceAdd, reduceLeDiff, reduceLT, reduceMul, reduceEq, Int.reduceLT, reduceLE, Int.reduceAdd, reduceSub, reduceToNat, UInt8.reduceToNat, puRC, sWhen_eq]
      exact Done.now ⟨by rw [bV, if_neg (show ¬ ordB (some z) k = true from c2)], rfl⟩
theorem first2 (e b : Int) : firstOf [e, b] = if e ≠ 0 then e else b := by
  by_cases h : e = 0 <;> by_cases g : b = 0 <;> simp [firstOf, h, g]
theorem first3 (k v : Bytes) (b : Int) : firstOf [if nameB k = false then 5 else 0, if valueB v = false then 2 else 0, b] = if factErr ⟨k, v⟩ ≠ 0 then factErr ⟨k, v⟩ else b := by
  cases h1 : nameB k <;> cases h2 : valueB v <;> by_cases g : b = 0 <;> simp [firstOf, factErr, h1, h2, g]
theorem eachE_step {α : Type} (err : α → Int) (key : α → Bytes) {p : Option Bytes} {x : α} {l : List α} {e : Int} (he : e = if err x ≠ 0 then err x else bV p (key x)) : eachE err key p (x :: l) = if e ≠ 0 then e else eachE err key (some (key x)) l := by
  rw [eachE, he]
  unfold bV
  by_cases h : err x = 0 <;> by_cases g : ordB p (key x) = true <;> simp [h, g]
theorem filesE_step {p : Option Bytes} {seen : List Bytes} {x : FileV} {l : List FileV} {e : Int} (he : e = if fileErr x ≠ 0 then fileErr x else bV p x.path) :
    filesE p seen (x :: l) = if e ≠ 0 then e else if clash seen x.path = true then 11 else filesE (some x.path) (x.path :: seen) l := by
  rw [filesE, he]
  unfold bV
  by_cases h : fileErr x = 0 <;> by_cases g : ordB p x.path = true <;> simp [h, g]
def RcM (m : MacV) (ta tb tc td : Tail) (H : Heap) (i1 i3 : Nat) (G : Heap) (z : Bytes) : Prop := H.Sub G ∧ G i1 = some (.cells (encMac m ta tb tc td)) ∧ G i3 = some (.cells [.str z])
def RcI {α : Type} (err : α → Int) (key : α → Bytes) (l : List α) (m : MacV) (ta tb tc td : Tail) (H : Heap) (i1 i3 : Nat) (i : Nat) (G : Heap) : Prop :=
  i ≤ l.length ∧ eachE err key none l = eachE err key (prevK key l i) (l.drop i) ∧ ∃ z, RcM m ta tb tc td H i1 i3 G z ∧ prevK key l i = if i = 0 then none else some z
def RcQ (p : Prop) (m : MacV) (ta tb tc td : Tail) (H : Heap) (i1 i3 : Nat) (r : Regs) (G : Heap) : Prop := p ∧ (∃ z, RcM m ta tb tc td H i1 i3 G z) ∧ agrees r [(1, .ptr i1 0), (4, .func 72 [.ptr i3 0])]
theorem _root_.Go.Abs.ACalls.pure_next2 {P : Program} {f : FuncId} {args : List AV} {H H1 : Heap} {K : K1} {x : AV} (h : ACalls P f args H fun y H' => y = x ∧ H' = H1) (hK : K x H1) : ACalls P f args H K := by
  refine h.mono ?_
  rintro x H' ⟨rfl, rfl⟩
  exact hK
set_option maxHeartbeats 12800000 in
theorem rCheck_calls (m : MacV) (ta tb tc td : Tail) (H : Heap) (hr : macR m) : ACalls Tryz.prog 33 [.agg (encMac m ta tb tc td)] H fun x H' => x = .int .i64 (macErr m) ∧ H' = H := by
  obtain ⟨⟨l1, l2, l3, l4⟩, r1, r2, r3, r4⟩ := hr
  have hR : Room = 1099511627776 := rfl
  have hM := macErr.eq_1 m
  have hS := Heap.Sub.rfl' H
  refine ACalls.of_code (X := { pure := puRC }) puRC_ok Tryz.func33 (by kernel_rfl) rfl (by kernel_rfl) (Nat.le_of_ble_eq_true rfl) ?_
  simp -implicitDefEqProofs only [go_sem, reduceEqDiff, reduceAdd, reduceLeDiff, reduceLT, reduceMul, reduceEq, Int.reduceLT, reduceLE, Int.reduceAdd, reduceSub, reduceToNat, UInt8.reduceToNat, Tryz.f33, encMac]
  with_reducible refine nwC_intro fun i1 hi1 => ?_
  generalize E1 : Heap.put H i1 _ = G1
  have hO_1 := obj_new E1 hi1 hS
  have n1 := hO_1.1
  have hS := hO_1.2.1
  have g1 := hO_1.2.2.1
  clear hO_1
  by_cases c1 : 100 < m.facts.length
  · have y1 : decide ((100 : Int) < (m.facts.length : Int)) = true := decide_eq_true (by omega)
    simp -implicitDefEqProofs only [go_sem, reduceEqDiff, reduceAdd, reduceLeDiff, reduceLT, reduceMul, reduceEq, Int.reduceLT, reduceLE, Int.reduceAdd, reduceSub, reduceToNat, UInt8.reduceToNat, g1, y1]
    exact Done.drop hS ⟨by rw [macErr_counts (.inl c1)], rfl⟩
  have y1 : decide ((100 : Int) < (m.facts.length : Int)) = false := decide_eq_false (by omega)
  by_cases c2 : 2000 < m.files.length
  · have y2 : decide ((2000 : Int) < (m.files.length : Int)) = true := decide_eq_true (by omega)
    simp -implicitDefEqProofs only [go_sem, reduceEqDiff, reduceAdd, reduceLeDiff, reduceLT, reduceMul, reduceEq, Int.reduceLT, reduceLE, Int.reduceAdd, reduceSub, reduceToNat, UInt8.reduceToNat, g1, y1, y2]
    exact Done.drop hS ⟨by rw [macErr_counts (.inr (.inl c2))], rfl⟩
  have y2 : decide ((2000 : Int) < (m.files.length : Int)) = false := decide_eq_false (by omega)
  by_cases c3 : 2000 < m.sets.length
  · have y3 : decide ((2000 : Int) < (m.sets.length : Int)) = true := decide_eq_true (by omega)
    simp -implicitDefEqProofs only [go_sem, reduceEqDiff, reduceAdd, reduceLeDiff, reduceLT, reduceMul, reduceEq, Int.reduceLT, reduceLE, Int.reduceAdd, reduceSub, reduceToNat, UInt8.reduceToNat, g1, y1, y2, y3]
    exact Done.drop hS ⟨by rw [macErr_counts (.inr (.inr (.inl c3)))], rfl⟩
  have y3 : decide ((2000 : Int) < (m.sets.length : Int)) = false := decide_eq_false (by omega)
  by_cases c4 : 100 < m.svcs.length
  · have y4 : decide ((100 : Int) < (m.svcs.length : Int)) = true := decide_eq_true (by omega)
    simp -implicitDefEqProofs only [go_sem, reduceEqDiff, reduceAdd, reduceLeDiff, reduceLT, reduceMul, reduceEq, Int.reduceLT, reduceLE, Int.reduceAdd, reduceSub, reduceToNat, UInt8.reduceToNat, g1, y1, y2, y3, y4]
    exact Done.drop hS ⟨by rw [macErr_counts (.inr (.inr (.inr c4)))], rfl⟩
  have y4 : decide ((100 : Int) < (m.svcs.length : Int)) = false := decide_eq_false (by omega)
  rw [if_neg (by omega)] at hM
  simp -implicitDefEqProofs only [go_sem, reduceEqDiff, reduceAdd, reduceLeDiff, reduceLT, reduceMul, reduceEq, Int.reduceLT, reduceLE, Int.reduceAdd, reduceSub, reduceToNat, UInt8.reduceToNat, g1, y1, y2, y3, y4]
  with_reducible refine nwC_intro fun i3 hi3 => ?_
  simp -implicitDefEqProofs only [go_sem, reduceEqDiff, reduceAdd, reduceLeDiff, reduceLT, reduceMul, reduceEq, Int.reduceLT, reduceLE, Int.reduceAdd, reduceSub, reduceToNat, UInt8.reduceToNat]
  generalize E3 : Heap.put G1 i3 _ = G3
  have hO_3 := obj_new E3 hi3 hS
  have n3 := hO_3.1
  have hS := hO_3.2.1
  have g3 := hO_3.2.2.1
  have d1_3 := obj_ne g1 hi3
  have g1 := hO_3.2.2.2 _ _ g1
  clear hO_3
  have hZ : RcM m ta tb tc td H i1 i3 G3 [] := ⟨hS, g1, g3⟩
  simp -implicitDefEqProofs only [go_sem, reduceEqDiff, reduceAdd, reduceLeDiff, reduceLT, reduceMul, reduceEq, Int.reduceLT, reduceLE, Int.reduceAdd, reduceSub, reduceToNat, UInt8.reduceToNat, g1]
  clear y1 y2 y3 y4 c1 c2 c3 c4 hi3 hi1 g3 hS
  with_reducible refine aloop_cut 0 (RcQ (eachE factErr (·.key) none m.facts = 0) m ta tb tc td H i1 i3) ?_ ?_
  rotate_left
  · refine aloop_intro (σ := Nat) (fun i => [(1, .ptr i1 0), (4, .func 72 [.ptr i3 0]), (43, .sl (m.facts.map encSet) ta), (44, .int .i64 m.facts.length), (45, .int .i64 i)])
      (RcI factErr (·.key) m.facts m ta tb tc td H i1 i3) (fun i => m.facts.length - i) 0 ?_ ?_ ?_
    · simp -implicitDefEqProofs only [go_sem, reduceEqDiff, reduceAdd, reduceLeDiff, reduceLT, reduceMul, reduceEq, Int.reduceLT, reduceLE, Int.reduceAdd, reduceSub, reduceToNat, UInt8.reduceToNat]
    · exact ⟨Nat.zero_le _, rfl, [], hZ, rfl⟩
    clear hZ
    rintro i r G hv ⟨hi, hE, z, ⟨hS, g1, g3⟩, hp⟩
    have h1 := hv.1
    have h4 := hv.2.1
    have hl := hv.2.2.1
    have hn := hv.2.2.2.1
    have hi2 := hv.2.2.2.2.1
    clear hv
    by_cases g : i < m.facts.length
    rotate_left
    · have x0 : decide ((i : Int) < m.facts.length) = false := decide_eq_false (by omega)
      obtain rfl : i = m.facts.length := by omega
      rw [List.drop_length, eachE] at hE
      simp -implicitDefEqProofs only [go_sem, reduceEqDiff, reduceAdd, reduceLeDiff, reduceLT, reduceMul, reduceEq, Int.reduceLT, reduceLE, Int.reduceAdd, reduceSub, reduceToNat, UInt8.reduceToNat, h1, h4, hl, hn, hi2, x0]
      exact ⟨hE, ⟨z, hS, g1, g3⟩, by simp -implicitDefEqProofs only [go_sem, reduceEqDiff, reduceAdd, reduceLeDiff, reduceLT, reduceMul, reduceEq, Int.reduceLT, reduceLE, Int.reduceAdd, reduceSub, reduceToNat, UInt8.reduceToNat, h1, h4]⟩
    have x0 : decide ((i : Int) < m.facts.length) = true := decide_eq_true (by omega)
    obtain ⟨x, hx⟩ : ∃ x, m.facts[i]? = some x := getD_get' g
    have hxr := r1 x (List.mem_of_getElem? hx)
    have ws : IntKind.i64.wrap ((i : Int) + 1) = ((i + 1 : Nat) : Int) := by rw [Go.IntWalk.i64_in _ (by omega)]; omega
    have hps := prevK_succ (·.key) hx
    have hU : ∀ (a : SetV), a ∈ m.facts → (encSet a).length = 2 := fun _ _ => rfl
    rw [drop_at hx] at hE
    obtain ⟨xkey, xvalue⟩ := x
    have hr1 := hxr.1
    have hr2 := hxr.2
    simp only at hr1 hr2 hps
    rw [eachE_step factErr (·.key) rfl] at hE
    have hb := fun G (h : G i3 = some (.cells [.str z])) => behind_calls i xkey z _ i3 G h hp
    generalize prevK (·.key) m.facts i = pk at *
    simp -implicitDefEqProofs only [go_sem, reduceEqDiff, reduceAdd, reduceLeDiff, reduceLT, reduceMul, reduceEq, Int.reduceLT, reduceLE, Int.reduceAdd, reduceSub, reduceToNat, UInt8.reduceToNat, h1, h4, hl, hn, hi2, x0, hx]
    refine ⟨hU, Nat.le_refl _, ?_⟩
    simp only [encSet, List.take_succ_cons, List.take_zero, List.take_nil]
    with_reducible refine nwC_intro fun i6 hi6 => ?_
    simp -implicitDefEqProofs only [go_sem, reduceEqDiff, reduceAdd, reduceLeDiff, reduceLT, reduceMul, reduceEq, Int.reduceLT, reduceLE, Int.reduceAdd, reduceSub, reduceToNat, UInt8.reduceToNat]
    generalize E6 : Heap.put G i6 _ = G6
    have hO_6 := obj_new E6 hi6 hS
    have n6 := hO_6.1
    have hS := hO_6.2.1
    have g6 := hO_6.2.2.1
    have d1_6 := obj_ne g1 hi6
    have g1 := hO_6.2.2.2 _ _ g1
    have d3_6 := obj_ne g3 hi6
    have g3 := hO_6.2.2.2 _ _ g3
    clear hO_6
    simp -implicitDefEqProofs only [go_sem, reduceEqDiff, reduceAdd, reduceLeDiff, reduceLT, reduceMul, reduceEq, Int.reduceLT, reduceLE, Int.reduceAdd, reduceSub, reduceToNat, UInt8.reduceToNat, h1, h4, hl, hn, hi2, g6, puRC, sStr_eq, sWhen_eq, hR, hr1, hr2, hxr]
    refine (hb _ g3).pure_next2 ?_
    generalize E3 : Heap.put G6 i3 _ = G7
    have hS := obj_sub E3 n3 hS
    have g3 := obj_at E3
    have g1 := obj_keep E3 (by first | exact d1_3 | exact fun e => d3_1 e.symm) g1
    have g6 := obj_keep E3 (by first | exact d6_3 | exact fun e => d3_6 e.symm) g6
    simp -implicitDefEqProofs only [go_sem, reduceEqDiff, reduceAdd, reduceLeDiff, reduceLT, reduceMul, reduceEq, Int.reduceLT, reduceLE, Int.reduceAdd, reduceSub, reduceToNat, UInt8.reduceToNat, h1, h4, hl, hn, hi2, g6, puRC, sFirst, first3]
    generalize (if factErr ⟨xkey, xvalue⟩ ≠ 0 then factErr ⟨xkey, xvalue⟩ else bV pk xkey) = e at *
    by_cases c1 : e = 0
    · have y1 : decide (¬ e = 0) = false := decide_eq_false (by simpa using c1)
      rw [if_neg (by simpa using c1), ← hps] at hE
      simp -implicitDefEqProofs only [go_sem, reduceEqDiff, reduceAdd, reduceLeDiff, reduceLT, reduceMul, reduceEq, Int.reduceLT, reduceLE, Int.reduceAdd, reduceSub, reduceToNat, UInt8.reduceToNat, h1, h4, hl, hn, hi2, y1, ws]
      exact Again.mk (i + 1) (by simp -implicitDefEqProofs only [go_sem, reduceEqDiff, reduceAdd, reduceLeDiff, reduceLT, reduceMul, reduceEq, Int.reduceLT, reduceLE, Int.reduceAdd, reduceSub, reduceToNat, UInt8.reduceToNat, h1, h4, hl, hn]) ⟨by omega, hE, xkey, ⟨hS, g1, g3⟩, by rw [hps, if_neg (by omega)]⟩ (by omega)
    · have y1 : decide (¬ e = 0) = true := decide_eq_true c1
      rw [if_pos c1] at hE
      simp -implicitDefEqProofs only [go_sem, reduceEqDiff, reduceAdd, reduceLeDiff, reduceLT, reduceMul, reduceEq, Int.reduceLT, reduceLE, Int.reduceAdd, reduceSub, reduceToNat, UInt8.reduceToNat, h1, h4, hl, hn, hi2, y1]
      exact Done.drop hS ⟨by rw [hM, if_pos (by rw [hE]; exact c1), hE], rfl⟩
  rintro r G ⟨he1, ⟨z, hZ⟩, hv⟩
  have h1 := hv.1
  have h4 := hv.2.1
  have g1 := hZ.2.1
  clear hv
  simp only [encMac] at g1
  rw [if_neg (by simpa using he1)] at hM
  simp -implicitDefEqProofs only [go_sem, reduceEqDiff, reduceAdd, reduceLeDiff, reduceLT, reduceMul, reduceEq, Int.reduceLT, reduceLE, Int.reduceAdd, reduceSub, reduceToNat, UInt8.reduceToNat, h1, h4, g1]
  with_reducible refine nwM_intro fun im him => ?_
  have hdS := hZ.1
  have hg3 := hZ.2.2
  obtain ⟨hS, _, g3⟩ := hZ
  generalize Eim : Heap.put G im _ = G2
  have hO_im := obj_new Eim him hS
  have nim := hO_im.1
  have hS := hO_im.2.1
  have gim := hO_im.2.2.1
  have d1_im := obj_ne g1 him
  have g1 := hO_im.2.2.2 _ _ g1
  have d3_im := obj_ne g3 him
  have g3 := hO_im.2.2.2 _ _ g3
  clear hO_im
  simp -implicitDefEqProofs only [go_sem, reduceEqDiff, reduceAdd, reduceLeDiff, reduceLT, reduceMul, reduceEq, Int.reduceLT, reduceLE, Int.reduceAdd, reduceSub, reduceToNat, UInt8.reduceToNat, h1, h4, g1]
  with_reducible refine aloop_cut 2 (RcQ (filesE none [] m.files = 0) m ta tb tc td H i1 i3) ?_ ?_
  rotate_left
  · refine aloop_intro (σ := Nat) (fun i => [(1, .ptr i1 0), (4, .func 72 [.ptr i3 0]), (8, .map im), (73, .sl (m.files.map encFile) tb), (74, .int .i64 m.files.length), (75, .int .i64 i)])
      (fun i G => i ≤ m.files.length ∧ (∃ z, RcM m ta tb tc td H i1 i3 G z ∧ prevK (·.path) m.files i = if i = 0 then none else some z) ∧ ∃ es seen, G im = some (.map .str es) ∧ SeenOK es seen ∧ filesE none [] m.files = filesE (prevK (·.path) m.files i) seen (m.files.drop i)) (fun i => m.files.length - i) 0 ?_ ?_ ?_
    · simp -implicitDefEqProofs only [go_sem, reduceEqDiff, reduceAdd, reduceLeDiff, reduceLT, reduceMul, reduceEq, Int.reduceLT, reduceLE, Int.reduceAdd, reduceSub, reduceToNat, UInt8.reduceToNat, h1, h4]
    · exact ⟨Nat.zero_le _, ⟨z, ⟨hS, g1, g3⟩, rfl⟩, [], [], gim, SeenOK.nil, rfl⟩
    clear g1 g3 hg3 hdS gim hS h1 h4
    rintro i r G hv ⟨hi, ⟨z, ⟨hS, g1, g3⟩, hp⟩, es, seen, gim, hse, hE⟩
    have h1 := hv.1
    have h4 := hv.2.1
    have h8 := hv.2.2.1
    have hl := hv.2.2.2.1
    have hn := hv.2.2.2.2.1
    have hi2 := hv.2.2.2.2.2.1
    clear hv
    by_cases g : i < m.files.length
    rotate_left
    · have x0 : decide ((i : Int) < m.files.length) = false := decide_eq_false (by omega)
      obtain rfl : i = m.files.length := by omega
      rw [List.drop_length, filesE] at hE
      simp -implicitDefEqProofs only [go_sem, reduceEqDiff, reduceAdd, reduceLeDiff, reduceLT, reduceMul, reduceEq, Int.reduceLT, reduceLE, Int.reduceAdd, reduceSub, reduceToNat, UInt8.reduceToNat, h1, h4, h8, hl, hn, hi2, x0]
      exact ⟨hE, ⟨z, hS, g1, g3⟩, by simp -implicitDefEqProofs only [go_sem, reduceEqDiff, reduceAdd, reduceLeDiff, reduceLT, reduceMul, reduceEq, Int.reduceLT, reduceLE, Int.reduceAdd, reduceSub, reduceToNat, UInt8.reduceToNat, h1, h4]⟩
    have x0 : decide ((i : Int) < m.files.length) = true := decide_eq_true (by omega)
    obtain ⟨x, hx⟩ : ∃ x, m.files[i]? = some x := getD_get' g
    have hxr := r2 x (List.mem_of_getElem? hx)
    have ws : IntKind.i64.wrap ((i : Int) + 1) = ((i + 1 : Nat) : Int) := by rw [Go.IntWalk.i64_in _ (by omega)]; omega
    have hps := prevK_succ (·.path) hx
    have hU : ∀ (a : FileV), a ∈ m.files → (encFile a).length = 3 := fun _ _ => rfl
    rw [drop_at hx] at hE
    obtain ⟨xpath, xdata, xruns⟩ := x
    have hr1 := hxr.1
    simp only at hr1 hps
    rw [filesE_step rfl] at hE
    simp only at hE
    have hb := fun G (h : G i3 = some (.cells [.str z])) => behind_calls i xpath z _ i3 G h hp
    generalize prevK (·.path) m.files i = pk at *
    simp -implicitDefEqProofs only [go_sem, reduceEqDiff, reduceAdd, reduceLeDiff, reduceLT, reduceMul, reduceEq, Int.reduceLT, reduceLE, Int.reduceAdd, reduceSub, reduceToNat, UInt8.reduceToNat, h1, h4, h8, hl, hn, hi2, x0, hx]
    refine ⟨hU, Nat.le_refl _, ?_⟩
    simp only [encFile, List.take_succ_cons, List.take_zero, List.take_nil]
    with_reducible refine nwC_intro fun i6 hi6 => ?_
    simp -implicitDefEqProofs only [go_sem, reduceEqDiff, reduceAdd, reduceLeDiff, reduceLT, reduceMul, reduceEq, Int.reduceLT, reduceLE, Int.reduceAdd, reduceSub, reduceToNat, UInt8.reduceToNat]
    generalize E6 : Heap.put G i6 _ = G6
    have hO_6 := obj_new E6 hi6 hS
    have n6 := hO_6.1
    have hS := hO_6.2.1
    have g6 := hO_6.2.2.1
    have d1_6 := obj_ne g1 hi6
    have g1 := hO_6.2.2.2 _ _ g1
    have d3_6 := obj_ne g3 hi6
    have g3 := hO_6.2.2.2 _ _ g3
    have dim_6 := obj_ne gim hi6
    have gim := hO_6.2.2.2 _ _ gim
    clear hO_6
    simp -implicitDefEqProofs only [go_sem, reduceEqDiff, reduceAdd, reduceLeDiff, reduceLT, reduceMul, reduceEq, Int.reduceLT, reduceLE, Int.reduceAdd, reduceSub, reduceToNat, UInt8.reduceToNat, h1, h4, h8, hl, hn, hi2, g6, puRC, sFileE, hxr]
    refine (hb _ g3).pure_next2 ?_
    generalize E3 : Heap.put G6 i3 _ = G7
    have hS := obj_sub E3 n3 hS
    have g3 := obj_at E3
    have g1 := obj_keep E3 (by first | exact d1_3 | exact fun e => d3_1 e.symm) g1
    have g6 := obj_keep E3 (by first | exact d6_3 | exact fun e => d3_6 e.symm) g6
    have gim := obj_keep E3 (by first | exact dim_3 | exact fun e => d3_im e.symm) gim
    simp -implicitDefEqProofs only [go_sem, reduceEqDiff, reduceAdd, reduceLeDiff, reduceLT, reduceMul, reduceEq, Int.reduceLT, reduceLE, Int.reduceAdd, reduceSub, reduceToNat, UInt8.reduceToNat, h1, h4, h8, hl, hn, hi2, g6, puRC, sFirst, first2]
    generalize (if fileErr ⟨xpath, xdata, xruns⟩ ≠ 0 then fileErr ⟨xpath, xdata, xruns⟩ else bV pk xpath) = e at *
    have fin : ∀ e2 : Int, e2 ≠ 0 → filesE none [] m.files = e2 → macErr m = e2 := fun e2 h1 h2 => by rw [hM, if_pos (by rw [h2]; exact h1), h2]
    by_cases c1 : e = 0
    rotate_left
    · have y1 : decide (e = 0) = false := decide_eq_false c1
      have y2 : decide (¬ e = 0) = true := decide_eq_true c1
      rw [if_pos c1] at hE
      simp -implicitDefEqProofs only [go_sem, reduceEqDiff, reduceAdd, reduceLeDiff, reduceLT, reduceMul, reduceEq, Int.reduceLT, reduceLE, Int.reduceAdd, reduceSub, reduceToNat, UInt8.reduceToNat, h1, h4, h8, hl, hn, hi2, y1, y2]
      exact Done.drop hS ⟨by rw [fin e c1 hE], rfl⟩
    subst c1
    rw [if_neg (by simp)] at hE
    simp -implicitDefEqProofs only [go_sem, reduceEqDiff, reduceAdd, reduceLeDiff, reduceLT, reduceMul, reduceEq, Int.reduceLT, reduceLE, Int.reduceAdd, reduceSub, reduceToNat, UInt8.reduceToNat, h1, h4, h8, hl, hn, hi2, g6]
    with_reducible refine aloop_cut 4 (fun r G => RcM m ta tb tc td H i1 i3 G xpath ∧ G im = some (.map .str es) ∧ G i6 = some (.cells [.str xpath, .str xdata, .bool xruns]) ∧ agrees r [(1, .ptr i1 0), (4, .func 72 [.ptr i3 0]), (8, .map im), (10, .ptr i6 0), (11, .int .i64 (if clash seen xpath = true then 11 else 0)), (73, .sl (m.files.map encFile) tb), (74, .int .i64 m.files.length), (75, .int .i64 i)]) ?_ ?_
    rotate_left
    · refine aloop_intro (σ := Nat) (fun k => [(1, .ptr i1 0), (4, .func 72 [.ptr i3 0]), (8, .map im), (10, .ptr i6 0), (11, .int .i64 (if clashTo seen xpath k = true then 11 else 0)), (73, .sl (m.files.map encFile) tb), (74, .int .i64 m.files.length), (75, .int .i64 i), (93, .int .i64 xpath.length), (94, .int .i64 k)])
        (fun k G => G = G7 ∧ k ≤ xpath.length) (fun k => xpath.length - k) 0 ?_ ?_ ?_
      · simp -implicitDefEqProofs only [go_sem, reduceEqDiff, reduceAdd, reduceLeDiff, reduceLT, reduceMul, reduceEq, Int.reduceLT, reduceLE, Int.reduceAdd, reduceSub, reduceToNat, UInt8.reduceToNat, h1, h4, h8, hl, hn, hi2]
        exact rfl
      · exact ⟨rfl, Nat.zero_le _⟩
      clear h1 h4 h8 hl hn hi2
      rintro k r G hv ⟨rfl, hk⟩
      have h1 := hv.1
      have h4 := hv.2.1
      have h8 := hv.2.2.1
      have h10 := hv.2.2.2.1
      have h11 := hv.2.2.2.2.1
      have hl := hv.2.2.2.2.2.1
      have hn := hv.2.2.2.2.2.2.1
      have hi2 := hv.2.2.2.2.2.2.2.1
      have h93 := hv.2.2.2.2.2.2.2.2.1
      have h94 := hv.2.2.2.2.2.2.2.2.2.1
      clear hv
      by_cases gk : k < xpath.length
      rotate_left
      · have x2 : decide ((k : Int) < xpath.length) = false := decide_eq_false (by omega)
        obtain rfl : k = xpath.length := by omega
        rw [clashTo_all] at h11
        simp -implicitDefEqProofs only [go_sem, reduceEqDiff, reduceAdd, reduceLeDiff, reduceLT, reduceMul, reduceEq, Int.reduceLT, reduceLE, Int.reduceAdd, reduceSub, reduceToNat, UInt8.reduceToNat, h1, h4, h8, h10, h11, hl, hn, hi2, h93, h94, x2]
        exact ⟨⟨hS, g1, g3⟩, gim, g6⟩
      have x2 : decide ((k : Int) < xpath.length) = true := decide_eq_true (by omega)
      obtain ⟨c, hc⟩ : ∃ c, xpath[k]? = some c := getD_get' gk
      have wk : IntKind.i64.wrap ((k : Int) + 1) = ((k + 1 : Nat) : Int) := by rw [Go.IntWalk.i64_in _ (by omega)]; omega
      have e47 := @u8_eq c 47 (by decide)
      have hsx := clashTo_succ seen xpath k
      rw [hc] at hsx
      by_cases d1 : c = 47
      rotate_left
      · have x3 : decide ((c.toNat : Int) = 47) = false := decide_eq_false (fun e => d1 (e47.1 e))
        have hsy : clashTo seen xpath (k + 1) = clashTo seen xpath k := by rw [hsx]; simp [d1]
        simp -implicitDefEqProofs only [go_sem, reduceEqDiff, reduceAdd, reduceLeDiff, reduceLT, reduceMul, reduceEq, Int.reduceLT, reduceLE, Int.reduceAdd, reduceSub, reduceToNat, UInt8.reduceToNat, h1, h4, h8, h10, h11, hl, hn, hi2, h93, h94, x2, g6, hc, x3, wk]
        exact Again.mk (k + 1) (by simp -implicitDefEqProofs only [go_sem, reduceEqDiff, reduceAdd, reduceLeDiff, reduceLT, reduceMul, reduceEq, Int.reduceLT, reduceLE, Int.reduceAdd, reduceSub, reduceToNat, UInt8.reduceToNat, h1, h4, h8, h10, h11, hl, hn, hi2, h93, hsy]) ⟨rfl, by omega⟩ (by omega)
      have x3 : decide ((c.toNat : Int) = 47) = true := decide_eq_true (e47.2 d1)
      subst d1
      rw [decide_eq_true rfl, Bool.true_and] at hsx
      have hg := hse.get (xpath.take k)
      cases hct : seen.contains (xpath.take k) with
      | true =>
        rw [hct, Bool.or_true] at hsx
        rw [hct] at hg
        simp -implicitDefEqProofs only [go_sem, reduceEqDiff, reduceAdd, reduceLeDiff, reduceLT, reduceMul, reduceEq, Int.reduceLT, reduceLE, Int.reduceAdd, reduceSub, reduceToNat, UInt8.reduceToNat, h1, h4, h8, h10, h11, hl, hn, hi2, h93, h94, x2, g6, hc, x3, wk, gim, hg, Int.toNat_natCast]
        refine ⟨by omega, ?_⟩
        exact Again.mk (k + 1) (by simp -implicitDefEqProofs only [go_sem, reduceEqDiff, reduceAdd, reduceLeDiff, reduceLT, reduceMul, reduceEq, Int.reduceLT, reduceLE, Int.reduceAdd, reduceSub, reduceToNat, UInt8.reduceToNat, h1, h4, h8, h10, hl, hn, hi2, h93, hsx]) ⟨rfl, by omega⟩ (by omega)
      | false =>
        rw [hct, Bool.or_false] at hsx
        rw [hct] at hg
        simp -implicitDefEqProofs only [go_sem, reduceEqDiff, reduceAdd, reduceLeDiff, reduceLT, reduceMul, reduceEq, Int.reduceLT, reduceLE, Int.reduceAdd, reduceSub, reduceToNat, UInt8.reduceToNat, h1, h4, h8, h10, h11, hl, hn, hi2, h93, h94, x2, g6, hc, x3, wk, gim, hg, Int.toNat_natCast]
        refine ⟨by omega, ?_⟩
        exact Again.mk (k + 1) (by simp -implicitDefEqProofs only [go_sem, reduceEqDiff, reduceAdd, reduceLeDiff, reduceLT, reduceMul, reduceEq, Int.reduceLT, reduceLE, Int.reduceAdd, reduceSub, reduceToNat, UInt8.reduceToNat, h1, h4, h8, h10, h11, hl, hn, hi2, h93, hsx]) ⟨rfl, by omega⟩ (by omega)
    clear g1 g3 gim g6 hS h1 h4 h8 hl hn hi2
    rintro r G ⟨⟨hS, g1, g3⟩, gim, g6, hv⟩
    have h1 := hv.1
    have h4 := hv.2.1
    have h8 := hv.2.2.1
    have h10 := hv.2.2.2.1
    have h11 := hv.2.2.2.2.1
    have hl := hv.2.2.2.2.2.1
    have hn := hv.2.2.2.2.2.2.1
    have hi2 := hv.2.2.2.2.2.2.2.1
    clear hv
    cases hct : clash seen xpath with
    | true =>
      rw [hct, if_pos rfl] at h11 hE
      simp -implicitDefEqProofs only [go_sem, reduceEqDiff, reduceAdd, reduceLeDiff, reduceLT, reduceMul, reduceEq, Int.reduceLT, reduceLE, Int.reduceAdd, reduceSub, reduceToNat, UInt8.reduceToNat, h1, h4, h8, h10, h11, hl, hn, hi2]
      exact Done.drop hS ⟨by rw [fin 11 (by decide) hE], rfl⟩
    | false =>
      rw [hct, if_neg (by simp)] at h11 hE
      simp -implicitDefEqProofs only [go_sem, reduceEqDiff, reduceAdd, reduceLeDiff, reduceLT, reduceMul, reduceEq, Int.reduceLT, reduceLE, Int.reduceAdd, reduceSub, reduceToNat, UInt8.reduceToNat, h1, h4, h8, h10, h11, hl, hn, hi2, g6, gim, ws]
      refine Again.mk (i + 1) (by simp -implicitDefEqProofs only [go_sem, reduceEqDiff, reduceAdd, reduceLeDiff, reduceLT, reduceMul, reduceEq, Int.reduceLT, reduceLE, Int.reduceAdd, reduceSub, reduceToNat, UInt8.reduceToNat, h1, h4, h8, hl, hn]) ⟨by omega, ⟨xpath, ⟨hS.put' nim _, by rw [put_ne _ _ _ _ d1_im]; exact g1, by rw [put_ne _ _ _ _ d3_im]; exact g3⟩, by rw [hps, if_neg (by omega)]⟩, _, xpath :: seen, put_same _ _ _, hse.set xpath, ?_⟩ (by omega)
      rw [hE, hps]
  clear g1 g3 hg3 hdS gim hS h1 h4
  rintro r G ⟨he2, ⟨z, hZ⟩, hv⟩
  have h1 := hv.1
  have h4 := hv.2.1
  have g1 := hZ.2.1
  clear hv
  simp only [encMac] at g1
  rw [if_neg (by simpa using he2)] at hM
  simp -implicitDefEqProofs only [go_sem, reduceEqDiff, reduceAdd, reduceLeDiff, reduceLT, reduceMul, reduceEq, Int.reduceLT, reduceLE, Int.reduceAdd, reduceSub, reduceToNat, UInt8.reduceToNat, h1, h4, g1]
  with_reducible refine aloop_cut 6 (RcQ (eachE setErr (·.key) none m.sets = 0) m ta tb tc td H i1 i3) ?_ ?_
  rotate_left
  · refine aloop_intro (σ := Nat) (fun i => [(1, .ptr i1 0), (4, .func 72 [.ptr i3 0]), (119, .sl (m.sets.map encSet) tc), (120, .int .i64 m.sets.length), (121, .int .i64 i)])
      (RcI setErr (·.key) m.sets m ta tb tc td H i1 i3) (fun i => m.sets.length - i) 0 ?_ ?_ ?_
    · simp -implicitDefEqProofs only [go_sem, reduceEqDiff, reduceAdd, reduceLeDiff, reduceLT, reduceMul, reduceEq, Int.reduceLT, reduceLE, Int.reduceAdd, reduceSub, reduceToNat, UInt8.reduceToNat, h1, h4]
    · exact ⟨Nat.zero_le _, rfl, z, hZ, rfl⟩
    clear hZ h1 h4
    rintro i r G hv ⟨hi, hE, z, ⟨hS, g1, g3⟩, hp⟩
    have h1 := hv.1
    have h4 := hv.2.1
    have hl := hv.2.2.1
    have hn := hv.2.2.2.1
    have hi2 := hv.2.2.2.2.1
    clear hv
    by_cases g : i < m.sets.length
    rotate_left
    · have x0 : decide ((i : Int) < m.sets.length) = false := decide_eq_false (by omega)
      obtain rfl : i = m.sets.length := by omega
      rw [List.drop_length, eachE] at hE
      simp -implicitDefEqProofs only [go_sem, reduceEqDiff, reduceAdd, reduceLeDiff, reduceLT, reduceMul, reduceEq, Int.reduceLT, reduceLE, Int.reduceAdd, reduceSub, reduceToNat, UInt8.reduceToNat, h1, h4, hl, hn, hi2, x0]
      exact ⟨hE, ⟨z, hS, g1, g3⟩, by simp -implicitDefEqProofs only [go_sem, reduceEqDiff, reduceAdd, reduceLeDiff, reduceLT, reduceMul, reduceEq, Int.reduceLT, reduceLE, Int.reduceAdd, reduceSub, reduceToNat, UInt8.reduceToNat, h1, h4]⟩
    have x0 : decide ((i : Int) < m.sets.length) = true := decide_eq_true (by omega)
    obtain ⟨x, hx⟩ : ∃ x, m.sets[i]? = some x := getD_get' g
    have hxr := r3 x (List.mem_of_getElem? hx)
    have ws : IntKind.i64.wrap ((i : Int) + 1) = ((i + 1 : Nat) : Int) := by rw [Go.IntWalk.i64_in _ (by omega)]; omega
    have hps := prevK_succ (·.key) hx
    have hU : ∀ (a : SetV), a ∈ m.sets → (encSet a).length = 2 := fun _ _ => rfl
    rw [drop_at hx] at hE
    obtain ⟨xkey, xvalue⟩ := x
    have hr1 := hxr.1
    have hr2 := hxr.2
    simp only at hr1 hr2 hps
    rw [eachE_step setErr (·.key) rfl] at hE
    have hb := fun G (h : G i3 = some (.cells [.str z])) => behind_calls i xkey z _ i3 G h hp
    generalize prevK (·.key) m.sets i = pk at *
    simp -implicitDefEqProofs only [go_sem, reduceEqDiff, reduceAdd, reduceLeDiff, reduceLT, reduceMul, reduceEq, Int.reduceLT, reduceLE, Int.reduceAdd, reduceSub, reduceToNat, UInt8.reduceToNat, h1, h4, hl, hn, hi2, x0, hx]
    refine ⟨hU, Nat.le_refl _, ?_⟩
    simp only [encSet, List.take_succ_cons, List.take_zero, List.take_nil]
    with_reducible refine nwC_intro fun i6 hi6 => ?_
    simp -implicitDefEqProofs only [go_sem, reduceEqDiff, reduceAdd, reduceLeDiff, reduceLT, reduceMul, reduceEq, Int.reduceLT, reduceLE, Int.reduceAdd, reduceSub, reduceToNat, UInt8.reduceToNat]
    generalize E6 : Heap.put G i6 _ = G6
    have hO_6 := obj_new E6 hi6 hS
    have n6 := hO_6.1
    have hS := hO_6.2.1
    have g6 := hO_6.2.2.1
    have d1_6 := obj_ne g1 hi6
    have g1 := hO_6.2.2.2 _ _ g1
    have d3_6 := obj_ne g3 hi6
    have g3 := hO_6.2.2.2 _ _ g3
    clear hO_6
    simp -implicitDefEqProofs only [go_sem, reduceEqDiff, reduceAdd, reduceLeDiff, reduceLT, reduceMul, reduceEq, Int.reduceLT, reduceLE, Int.reduceAdd, reduceSub, reduceToNat, UInt8.reduceToNat, h1, h4, hl, hn, hi2, g6, puRC, sSetE, hR, hr1, hr2, hxr]
    refine (hb _ g3).pure_next2 ?_
    generalize E3 : Heap.put G6 i3 _ = G7
    have hS := obj_sub E3 n3 hS
    have g3 := obj_at E3
    have g1 := obj_keep E3 (by first | exact d1_3 | exact fun e => d3_1 e.symm) g1
    have g6 := obj_keep E3 (by first | exact d6_3 | exact fun e => d3_6 e.symm) g6
    simp -implicitDefEqProofs only [go_sem, reduceEqDiff, reduceAdd, reduceLeDiff, reduceLT, reduceMul, reduceEq, Int.reduceLT, reduceLE, Int.reduceAdd, reduceSub, reduceToNat, UInt8.reduceToNat, h1, h4, hl, hn, hi2, g6, puRC, sFirst, sFirst, first2]
    generalize (if setErr ⟨xkey, xvalue⟩ ≠ 0 then setErr ⟨xkey, xvalue⟩ else bV pk xkey) = e at *
    by_cases c1 : e = 0
    · have y1 : decide (¬ e = 0) = false := decide_eq_false (by simpa using c1)
      rw [if_neg (by simpa using c1), ← hps] at hE
      simp -implicitDefEqProofs only [go_sem, reduceEqDiff, reduceAdd, reduceLeDiff, reduceLT, reduceMul, reduceEq, Int.reduceLT, reduceLE, Int.reduceAdd, reduceSub, reduceToNat, UInt8.reduceToNat, h1, h4, hl, hn, hi2, y1, ws]
      exact Again.mk (i + 1) (by simp -implicitDefEqProofs only [go_sem, reduceEqDiff, reduceAdd, reduceLeDiff, reduceLT, reduceMul, reduceEq, Int.reduceLT, reduceLE, Int.reduceAdd, reduceSub, reduceToNat, UInt8.reduceToNat, h1, h4, hl, hn]) ⟨by omega, hE, xkey, ⟨hS, g1, g3⟩, by rw [hps, if_neg (by omega)]⟩ (by omega)
    · have y1 : decide (¬ e = 0) = true := decide_eq_true c1
      rw [if_pos c1] at hE
      simp -implicitDefEqProofs only [go_sem, reduceEqDiff, reduceAdd, reduceLeDiff, reduceLT, reduceMul, reduceEq, Int.reduceLT, reduceLE, Int.reduceAdd, reduceSub, reduceToNat, UInt8.reduceToNat, h1, h4, hl, hn, hi2, y1]
      exact Done.drop hS ⟨by rw [hM, if_pos (by rw [hE]; exact c1), hE], rfl⟩
  rintro r G ⟨he3, ⟨z, hZ⟩, hv⟩
  have h1 := hv.1
  have h4 := hv.2.1
  have g1 := hZ.2.1
  clear hv
  simp only [encMac] at g1
  rw [if_neg (by simpa using he3)] at hM
  simp -implicitDefEqProofs only [go_sem, reduceEqDiff, reduceAdd, reduceLeDiff, reduceLT, reduceMul, reduceEq, Int.reduceLT, reduceLE, Int.reduceAdd, reduceSub, reduceToNat, UInt8.reduceToNat, h1, h4, g1]
  with_reducible refine aloop_cut 8 (RcQ (eachE svcErr (·.name) none m.svcs = 0) m ta tb tc td H i1 i3) ?_ ?_
  rotate_left
  · refine aloop_intro (σ := Nat) (fun i => [(1, .ptr i1 0), (4, .func 72 [.ptr i3 0]), (140, .sl (m.svcs.map encSvc) td), (141, .int .i64 m.svcs.length), (142, .int .i64 i)])
      (RcI svcErr (·.name) m.svcs m ta tb tc td H i1 i3) (fun i => m.svcs.length - i) 0 ?_ ?_ ?_
    · simp -implicitDefEqProofs only [go_sem, reduceEqDiff, reduceAdd, reduceLeDiff, reduceLT, reduceMul, reduceEq, Int.reduceLT, reduceLE, Int.reduceAdd, reduceSub, reduceToNat, UInt8.reduceToNat, h1, h4]
    · exact ⟨Nat.zero_le _, rfl, z, hZ, rfl⟩
    clear hZ h1 h4
    rintro i r G hv ⟨hi, hE, z, ⟨hS, g1, g3⟩, hp⟩
    have h1 := hv.1
    have h4 := hv.2.1
    have hl := hv.2.2.1
    have hn := hv.2.2.2.1
    have hi2 := hv.2.2.2.2.1
    clear hv
    by_cases g : i < m.svcs.length
    rotate_left
    · have x0 : decide ((i : Int) < m.svcs.length) = false := decide_eq_false (by omega)
      obtain rfl : i = m.svcs.length := by omega
      rw [List.drop_length, eachE] at hE
      simp -implicitDefEqProofs only [go_sem, reduceEqDiff, reduceAdd, reduceLeDiff, reduceLT, reduceMul, reduceEq, Int.reduceLT, reduceLE, Int.reduceAdd, reduceSub, reduceToNat, UInt8.reduceToNat, h1, h4, hl, hn, hi2, x0]
      exact ⟨hE, ⟨z, hS, g1, g3⟩, by simp -implicitDefEqProofs only [go_sem, reduceEqDiff, reduceAdd, reduceLeDiff, reduceLT, reduceMul, reduceEq, Int.reduceLT, reduceLE, Int.reduceAdd, reduceSub, reduceToNat, UInt8.reduceToNat, h1, h4]⟩
    have x0 : decide ((i : Int) < m.svcs.length) = true := decide_eq_true (by omega)
    obtain ⟨x, hx⟩ : ∃ x, m.svcs[i]? = some x := getD_get' g
    have hxr := r4 x (List.mem_of_getElem? hx)
    have ws : IntKind.i64.wrap ((i : Int) + 1) = ((i + 1 : Nat) : Int) := by rw [Go.IntWalk.i64_in _ (by omega)]; omega
    have hps := prevK_succ (·.name) hx
    have hU : ∀ (a : SvcV), a ∈ m.svcs → (encSvc a).length = 4 := fun _ _ => rfl
    rw [drop_at hx] at hE
    obtain ⟨xname, xpath, xauto, xon⟩ := x
    have hr1 := hxr.1
    have hr2 := hxr.2
    simp only at hr1 hr2 hps
    rw [eachE_step svcErr (·.name) rfl] at hE
    have hb := fun G (h : G i3 = some (.cells [.str z])) => behind_calls i xname z _ i3 G h hp
    generalize prevK (·.name) m.svcs i = pk at *
    simp -implicitDefEqProofs only [go_sem, reduceEqDiff, reduceAdd, reduceLeDiff, reduceLT, reduceMul, reduceEq, Int.reduceLT, reduceLE, Int.reduceAdd, reduceSub, reduceToNat, UInt8.reduceToNat, h1, h4, hl, hn, hi2, x0, hx]
    refine ⟨hU, Nat.le_refl _, ?_⟩
    simp only [encSvc, List.take_succ_cons, List.take_zero, List.take_nil]
    with_reducible refine nwC_intro fun i6 hi6 => ?_
    simp -implicitDefEqProofs only [go_sem, reduceEqDiff, reduceAdd, reduceLeDiff, reduceLT, reduceMul, reduceEq, Int.reduceLT, reduceLE, Int.reduceAdd, reduceSub, reduceToNat, UInt8.reduceToNat]
    generalize E6 : Heap.put G i6 _ = G6
    have hO_6 := obj_new E6 hi6 hS
    have n6 := hO_6.1
    have hS := hO_6.2.1
    have g6 := hO_6.2.2.1
    have d1_6 := obj_ne g1 hi6
    have g1 := hO_6.2.2.2 _ _ g1
    have d3_6 := obj_ne g3 hi6
    have g3 := hO_6.2.2.2 _ _ g3
    clear hO_6
    simp -implicitDefEqProofs only [go_sem, reduceEqDiff, reduceAdd, reduceLeDiff, reduceLT, reduceMul, reduceEq, Int.reduceLT, reduceLE, Int.reduceAdd, reduceSub, reduceToNat, UInt8.reduceToNat, h1, h4, hl, hn, hi2, g6, puRC, sSvcE, hR, hr1, hr2, hxr]
    refine (hb _ g3).pure_next2 ?_
    generalize E3 : Heap.put G6 i3 _ = G7
    have hS := obj_sub E3 n3 hS
    have g3 := obj_at E3
    have g1 := obj_keep E3 (by first | exact d1_3 | exact fun e => d3_1 e.symm) g1
    have g6 := obj_keep E3 (by first | exact d6_3 | exact fun e => d3_6 e.symm) g6
    simp -implicitDefEqProofs only [go_sem, reduceEqDiff, reduceAdd, reduceLeDiff, reduceLT, reduceMul, reduceEq, Int.reduceLT, reduceLE, Int.reduceAdd, reduceSub, reduceToNat, UInt8.reduceToNat, h1, h4, hl, hn, hi2, g6, puRC, sFirst, sFirst, first2]
    generalize (if svcErr ⟨xname, xpath, xauto, xon⟩ ≠ 0 then svcErr ⟨xname, xpath, xauto, xon⟩ else bV pk xname) = e at *
    by_cases c1 : e = 0
    · have y1 : decide (¬ e = 0) = false := decide_eq_false (by simpa using c1)
      rw [if_neg (by simpa using c1), ← hps] at hE
      simp -implicitDefEqProofs only [go_sem, reduceEqDiff, reduceAdd, reduceLeDiff, reduceLT, reduceMul, reduceEq, Int.reduceLT, reduceLE, Int.reduceAdd, reduceSub, reduceToNat, UInt8.reduceToNat, h1, h4, hl, hn, hi2, y1, ws]
      exact Again.mk (i + 1) (by simp -implicitDefEqProofs only [go_sem, reduceEqDiff, reduceAdd, reduceLeDiff, reduceLT, reduceMul, reduceEq, Int.reduceLT, reduceLE, Int.reduceAdd, reduceSub, reduceToNat, UInt8.reduceToNat, h1, h4, hl, hn]) ⟨by omega, hE, xname, ⟨hS, g1, g3⟩, by rw [hps, if_neg (by omega)]⟩ (by omega)
    · have y1 : decide (¬ e = 0) = true := decide_eq_true c1
      rw [if_pos c1] at hE
      simp -implicitDefEqProofs only [go_sem, reduceEqDiff, reduceAdd, reduceLeDiff, reduceLT, reduceMul, reduceEq, Int.reduceLT, reduceLE, Int.reduceAdd, reduceSub, reduceToNat, UInt8.reduceToNat, h1, h4, hl, hn, hi2, y1]
      exact Done.drop hS ⟨by rw [hM, hE], rfl⟩
  rintro r G ⟨he4, ⟨z, hZ⟩, hv⟩
  have h1 := hv.1
  have h4 := hv.2.1
  have g1 := hZ.2.1
  clear hv
  simp only [encMac] at g1
  rw [he4] at hM
  simp -implicitDefEqProofs only [go_sem, reduceEqDiff, reduceAdd, reduceLeDiff, reduceLT, reduceMul, reduceEq, Int.reduceLT, reduceLE, Int.reduceAdd, reduceSub, reduceToNat, UInt8.reduceToNat, h1, h4, g1]
  exact Done.drop hZ.1 ⟨by rw [hM], rfl⟩
end Go.Proofs

/- Walks: the keys of a map, on the reference's side. -/
namespace Go.Proofs
open Go Go.Abs
open Nat (reduceEqDiff reduceAdd reduceLeDiff reduceLT reduceMul)
open Int (reduceEq reduceLE reduceSub reduceToNat)
set_option linter.unusedSimpArgs false
set_option linter.unusedVariables false
set_option maxRecDepth 20000
def listV (ks : List Bytes) (id : Nat) : AV := if ks = [] then .sl [] .exact else .ms id 0 ks.length 1
theorem listV_one (s : Bytes) (id : Nat) : listV [s] id = .ms id 0 1 1 := rfl
theorem listV_app (ks : List Bytes) (s : Bytes) (id : Nat) : listV (ks ++ [s]) id = .ms id 0 (ks.length + 1) 1 := by unfold listV; rw [if_neg (by simp)]; simp
theorem listV_ne {ks : List Bytes} (h : ks ≠ []) (id : Nat) : listV ks id = .ms id 0 ks.length 1 := by unfold listV; rw [if_neg h]
/-- A list of strings that is written by one. -/
def OwnS (H G : Heap) (id : Nat) (ks : List Bytes) : Prop := ks = [] ∨ (H id = none ∧ G id = some (.cells (ks.map .str)))
set_option maxHeartbeats 3200000 in
theorem keysFile_calls (m : Nat) (es : List (Key × AV)) (H : Heap) (hm : H m = some (.map .str es)) (hk : ∀ e ∈ es, ∃ s, e.1 = .s s) (hl : es.length ≤ 1099511627776) :
    ACalls Tryz.prog 112 [.map m] H fun x H' => ∃ ss : List Bytes, ss.Perm (es.map keyS) ∧ x = .sl ((ss.mergeSort fun x y => decide (x ≤ y)).map fun s => [AV.str s]) .unk ∧ H' = H := by
  refine ACalls.of_code (X := { pure := pu0, ms := fun t => decide (t = 14) }) pu0_ok Tryz.func112 (by kernel_rfl) rfl (by kernel_rfl) (Nat.le_of_ble_eq_true rfl) ?_
  simp -implicitDefEqProofs only [go_sem, reduceEqDiff, reduceAdd, reduceLeDiff, reduceLT, reduceMul, reduceEq, Int.reduceLT, reduceLE, Int.reduceAdd, reduceSub, reduceToNat, UInt8.reduceToNat, Tryz.f112]
  refine range_intro ⟨_, _, by simp -implicitDefEqProofs only [go_sem, reduceEqDiff, reduceAdd, reduceLeDiff, reduceLT, reduceMul, reduceEq, Int.reduceLT, reduceLE, Int.reduceAdd, reduceSub, reduceToNat, UInt8.reduceToNat]; rfl⟩ hm fun bs cl it hb hn _ hit => ?_
  have dm : ¬ m = it := fun e => by rw [e, hit] at hm; cases hm
  simp -implicitDefEqProofs only [go_sem, reduceEqDiff, reduceAdd, reduceLeDiff, reduceLT, reduceMul, reduceEq, Int.reduceLT, reduceLE, Int.reduceAdd, reduceSub, reduceToNat, UInt8.reduceToNat]
  have g1 : ((H.put m (.bmap .str es bs cl)).put it (.iter (some m) cl [])) it = some (.iter (some m) cl []) := put_same _ _ _
  have g2 : ((H.put m (.bmap .str es bs cl)).put it (.iter (some m) cl [])) m = some (.bmap .str es bs cl) := by rw [put_ne _ _ _ _ dm, put_same]
  have g3 : ∀ i o, H i = some o → ¬ i = m → ((H.put m (.bmap .str es bs cl)).put it (.iter (some m) cl [])) i = some o := fun i o hi h => by
    rw [put_ne _ _ _ _ (obj_ne hi hit), put_ne _ _ _ _ h]; exact hi
  generalize (H.put m (.bmap .str es bs cl)).put it (.iter (some m) cl []) = G0 at *
  with_reducible refine aloop_cut 0 (fun r G => ∃ ks id, ks.Perm (es.map keyS) ∧ OwnS H G id ks ∧ ¬ id = m ∧ G m = some (.bmap .str es bs cl) ∧ (∀ i o, H i = some o → ¬ i = m → G i = some o) ∧ agrees r [(3, listV ks id)]) ?_ ?_
  rotate_left
  · refine aloop_intro (σ := List Nat × List Nat × List Bytes × Nat) (fun t => [(0, .map m), (3, listV t.2.2.1 t.2.2.2), (6, .ptr it 0)])
      (fun t G => SeenK es bs t.1 t.2.1 t.2.2.1 ∧ OwnS H G t.2.2.2 t.2.2.1 ∧ ¬ t.2.2.2 = m ∧ ¬ t.2.2.2 = it ∧ G it = some (.iter (some m) cl t.2.1) ∧ G m = some (.bmap .str es bs cl) ∧ (∀ i o, H i = some o → ¬ i = m → G i = some o)) (fun t => es.length - t.1.length) ([], [], [], it + m + 1) ?_ ?_ ?_
    · simp -implicitDefEqProofs only [go_sem, reduceEqDiff, reduceAdd, reduceLeDiff, reduceLT, reduceMul, reduceEq, Int.reduceLT, reduceLE, Int.reduceAdd, reduceSub, reduceToNat, UInt8.reduceToNat]
      exact rfl
    · exact ⟨SeenK.nil _ _, .inl rfl, by simp only; omega, by simp only; omega, g1, g2, g3⟩
    clear g1 g2 g3
    rintro ⟨js, seen, ks, id⟩ r G hv ⟨hS, hO, nm, ni, g1, g2, g3⟩
    have h0 := hv.1
    have h3 := hv.2.1
    have h6 := hv.2.2.1
    clear hv
    simp only at h0 h3 h6 hS hO nm ni g1 g2
    simp -implicitDefEqProofs only [go_sem, reduceEqDiff, reduceAdd, reduceLeDiff, reduceLT, reduceMul, reduceEq, Int.reduceLT, reduceLE, Int.reduceAdd, reduceSub, reduceToNat, UInt8.reduceToNat, h0, h3, h6]
    refine next_intro g1 g2 (fun j k v b hj hbj hsn => ?_) (fun ha => ?_)
    rotate_left
    · simp -implicitDefEqProofs only [go_sem, reduceEqDiff, reduceAdd, reduceLeDiff, reduceLT, reduceMul, reduceEq, Int.reduceLT, reduceLE, Int.reduceAdd, reduceSub, reduceToNat, UInt8.reduceToNat, h0, h3, h6]
      exact ⟨ks, id, hS.all hb hn ha, hO, nm, g2, g3, by simp -implicitDefEqProofs only [go_sem, reduceEqDiff, reduceAdd, reduceLeDiff, reduceLT, reduceMul, reduceEq, Int.reduceLT, reduceLE, Int.reduceAdd, reduceSub, reduceToNat, UInt8.reduceToNat, h3]⟩
    obtain ⟨s, rfl⟩ := hk _ (List.mem_of_getElem? hj)
    have hS2 := hS.step hj hbj hsn
    have hlen := hS2.len
    have g1' : (G.put it (.iter (some m) cl (seen ++ [b]))) it = some (.iter (some m) cl (seen ++ [b])) := put_same _ _ _
    have g2' : (G.put it (.iter (some m) cl (seen ++ [b]))) m = some (.bmap .str es bs cl) := by rw [put_ne _ _ _ _ dm]; exact g2
    have g3' : ∀ i o, H i = some o → ¬ i = m → (G.put it (.iter (some m) cl (seen ++ [b]))) i = some o := fun i o hi h => by
      rw [put_ne _ _ _ _ (obj_ne hi hit)]; exact g3 i o hi h
    have hO' : OwnS H (G.put it (.iter (some m) cl (seen ++ [b]))) id ks := hO.imp (fun h => h) fun h => ⟨h.1, by rw [put_ne _ _ _ _ ni]; exact h.2⟩
    generalize G.put it (.iter (some m) cl (seen ++ [b])) = G1 at *
    simp -implicitDefEqProofs only [go_sem, reduceEqDiff, reduceAdd, reduceLeDiff, reduceLT, reduceMul, reduceEq, Int.reduceLT, reduceLE, Int.reduceAdd, reduceSub, reduceToNat, UInt8.reduceToNat, h0, h3, h6]
    refine here_intro g1' g2' hbj hj ?_
    have hkv : (Key.s s).av .str = .str s := rfl
    have hid' : ∀ id', G1 id' = none → H id' = none ∧ ¬ id' = m ∧ ¬ id' = it := fun id' h => by
      have e1 : ¬ id' = m := fun e => by rw [e, g2'] at h; cases h
      refine ⟨?_, e1, fun e => by rw [e, g1'] at h; cases h⟩
      cases hh : H id' with
      | none => rfl
      | some o => rw [g3' id' o hh e1] at h; cases h
    by_cases hks : ks = []
    · subst hks
      have h3' : r 3 = .sl [] .exact := h3
      simp -implicitDefEqProofs only [go_sem, reduceEqDiff, reduceAdd, reduceLeDiff, reduceLT, reduceMul, reduceEq, Int.reduceLT, reduceLE, Int.reduceAdd, reduceSub, reduceToNat, UInt8.reduceToNat, h0, h3', h6, hkv]
      refine app_ms0 (by simp) (by simp) (by simp) fun id' hi => ?_
      obtain ⟨q1, q2, q3⟩ := hid' id' hi
      simp -implicitDefEqProofs only [go_sem, reduceEqDiff, reduceAdd, reduceLeDiff, reduceLT, reduceMul, reduceEq, Int.reduceLT, reduceLE, Int.reduceAdd, reduceSub, reduceToNat, UInt8.reduceToNat, h0, h6]
      refine Again.mk (js ++ [j], seen ++ [b], [] ++ [keyS (.s s, v)], id') (by simp -implicitDefEqProofs only [go_sem, reduceEqDiff, reduceAdd, reduceLeDiff, reduceLT, reduceMul, reduceEq, Int.reduceLT, reduceLE, Int.reduceAdd, reduceSub, reduceToNat, UInt8.reduceToNat, h0, h6, listV_one, keyS]) ⟨hS2, .inr ⟨q1, put_same _ _ _⟩, q2, q3, by rw [put_ne _ _ _ _ (fun e => q3 e.symm)]; exact g1', by rw [put_ne _ _ _ _ (fun e => q2 e.symm)]; exact g2', fun i o hi2 h => by rw [put_ne _ _ _ _ (fun e => by rw [e, q1] at hi2; cases hi2)]; exact g3' i o hi2 h⟩ (by simp only [List.length_append, List.length_cons, List.length_nil] at hlen ⊢; omega)
    · have hoo := hO'.resolve_left hks
      have h3' := h3
      rw [listV_ne hks] at h3'
      simp -implicitDefEqProofs only [go_sem, reduceEqDiff, reduceAdd, reduceLeDiff, reduceLT, reduceMul, reduceEq, Int.reduceLT, reduceLE, Int.reduceAdd, reduceSub, reduceToNat, UInt8.reduceToNat, h0, h3', h6, hkv]
      refine app_ms hoo.2 (by simp) (by simp only [List.length_cons, List.length_nil] at hlen ⊢; simp at hlen ⊢; omega) (by simp at hlen ⊢; omega) fun id' hi => ?_
      obtain ⟨q1, q2, q3⟩ := hid' id' hi
      simp -implicitDefEqProofs only [go_sem, reduceEqDiff, reduceAdd, reduceLeDiff, reduceLT, reduceMul, reduceEq, Int.reduceLT, reduceLE, Int.reduceAdd, reduceSub, reduceToNat, UInt8.reduceToNat, h0, h6]
      have hcell : (ks.map AV.str ++ [AV.str s]) = (ks ++ [keyS (.s s, v)]).map AV.str := by simp [keyS]
      refine Again.mk (js ++ [j], seen ++ [b], ks ++ [keyS (.s s, v)], id') (by simp -implicitDefEqProofs only [go_sem, reduceEqDiff, reduceAdd, reduceLeDiff, reduceLT, reduceMul, reduceEq, Int.reduceLT, reduceLE, Int.reduceAdd, reduceSub, reduceToNat, UInt8.reduceToNat, h0, h6, listV_app, keyS]) ⟨hS2, .inr ⟨q1, by rw [put_same, ← hcell]; rfl⟩, q2, q3, by rw [put_ne _ _ _ _ (fun e => q3 e.symm), del_ne (fun e => ni e.symm)]; exact g1', by rw [put_ne _ _ _ _ (fun e => q2 e.symm), del_ne (fun e => nm e.symm)]; exact g2', fun i o hi2 h => by rw [put_ne _ _ _ _ (fun e => by rw [e, q1] at hi2; cases hi2), del_ne (fun e => by rw [e, hoo.1] at hi2; cases hi2)]; exact g3' i o hi2 h⟩ (by simp only [List.length_append, List.length_cons, List.length_nil] at hlen ⊢; omega)
  rintro r G ⟨ks, id, hp, hO, nm, g2, g3, hv⟩
  have h3 := hv.1
  clear hv
  have hlk : ks.length = es.length := by rw [hp.length_eq, List.length_map]
  have hsub : H.Sub (G.put m (.map .str es)) := fun k p hi => by
    by_cases e : k = m
    · subst e; rw [hm] at hi; cases hi; exact put_same _ _ _
    · rw [put_ne _ _ _ _ e]; exact g3 k p hi e
  by_cases hks : ks = []
  · subst hks
    have h3' : r 3 = .sl [] .exact := h3
    simp -implicitDefEqProofs only [go_sem, reduceEqDiff, reduceAdd, reduceLeDiff, reduceLT, reduceMul, reduceEq, Int.reduceLT, reduceLE, Int.reduceAdd, reduceSub, reduceToNat, UInt8.reduceToNat, h3']
    refine (sortS0_calls G).pure_next _ ?_
    simp -implicitDefEqProofs only [go_sem, reduceEqDiff, reduceAdd, reduceLeDiff, reduceLT, reduceMul, reduceEq, Int.reduceLT, reduceLE, Int.reduceAdd, reduceSub, reduceToNat, UInt8.reduceToNat, h3']
    exact Done.via (Ghost.unborn g2) (Done.wk 3 (Done.drop hsub ⟨[], hp, by simp; rfl, rfl⟩))
  · have hoo := hO.resolve_left hks
    rw [listV_ne hks] at h3
    simp -implicitDefEqProofs only [go_sem, reduceEqDiff, reduceAdd, reduceLeDiff, reduceLT, reduceMul, reduceEq, Int.reduceLT, reduceLE, Int.reduceAdd, reduceSub, reduceToNat, UInt8.reduceToNat, h3]
    refine (sortS_calls ks id G hoo.2 hks (by omega)).pure_next2 ?_
    simp -implicitDefEqProofs only [go_sem, reduceEqDiff, reduceAdd, reduceLeDiff, reduceLT, reduceMul, reduceEq, Int.reduceLT, reduceLE, Int.reduceAdd, reduceSub, reduceToNat, UInt8.reduceToNat, h3]
    have hlen : (ks.mergeSort fun x y => decide (x ≤ y)).length = ks.length := List.length_mergeSort ks
    refine Done.via (Ghost.freeze1 (off := 0) (len := ks.length) (put_same G id _) (by simp)) ?_
    have g2' : ((G.put id (.cells ((ks.mergeSort fun x y => decide (x ≤ y)).map .str))).del id) m = some (.bmap .str es bs cl) := by rw [del_ne (fun e => nm e.symm), put_ne _ _ _ _ (fun e => nm e.symm)]; exact g2
    refine Done.via (Ghost.unborn g2') (Done.drop (H' := H) (fun k p hi => ?_) ⟨ks, hp, ?_, rfl⟩)
    · by_cases e : k = m
      · subst e; rw [hm] at hi; cases hi; exact put_same _ _ _
      · have e2 : ¬ k = id := fun e2 => by rw [e2, hoo.1] at hi; cases hi
        rw [put_ne _ _ _ _ e, del_ne e2, put_ne _ _ _ _ e2]
        exact g3 k p hi e
    · rw [List.drop_zero, List.take_of_length_le (by simp), List.map_map]
      rfl
set_option maxHeartbeats 3200000 in
theorem keysStr_calls (m : Nat) (es : List (Key × AV)) (H : Heap) (hm : H m = some (.map .str es)) (hk : ∀ e ∈ es, ∃ s, e.1 = .s s) (hl : es.length ≤ 1099511627776) :
    ACalls Tryz.prog 113 [.map m] H fun x H' => ∃ ss : List Bytes, ss.Perm (es.map keyS) ∧ x = .sl ((ss.mergeSort fun x y => decide (x ≤ y)).map fun s => [AV.str s]) .unk ∧ H' = H := by
  refine ACalls.of_code (X := { pure := pu0, ms := fun t => decide (t = 14) }) pu0_ok Tryz.func113 (by kernel_rfl) rfl (by kernel_rfl) (Nat.le_of_ble_eq_true rfl) ?_
  simp -implicitDefEqProofs only [go_sem, reduceEqDiff, reduceAdd, reduceLeDiff, reduceLT, reduceMul, reduceEq, Int.reduceLT, reduceLE, Int.reduceAdd, reduceSub, reduceToNat, UInt8.reduceToNat, Tryz.f113]
  refine range_intro ⟨_, _, by simp -implicitDefEqProofs only [go_sem, reduceEqDiff, reduceAdd, reduceLeDiff, reduceLT, reduceMul, reduceEq, Int.reduceLT, reduceLE, Int.reduceAdd, reduceSub, reduceToNat, UInt8.reduceToNat]; rfl⟩ hm fun bs cl it hb hn _ hit => ?_
  have dm : ¬ m = it := fun e => by rw [e, hit] at hm; cases hm
  simp -implicitDefEqProofs only [go_sem, reduceEqDiff, reduceAdd, reduceLeDiff, reduceLT, reduceMul, reduceEq, Int.reduceLT, reduceLE, Int.reduceAdd, reduceSub, reduceToNat, UInt8.reduceToNat]
  have g1 : ((H.put m (.bmap .str es bs cl)).put it (.iter (some m) cl [])) it = some (.iter (some m) cl []) := put_same _ _ _
  have g2 : ((H.put m (.bmap .str es bs cl)).put it (.iter (some m) cl [])) m = some (.bmap .str es bs cl) := by rw [put_ne _ _ _ _ dm, put_same]
  have g3 : ∀ i o, H i = some o → ¬ i = m → ((H.put m (.bmap .str es bs cl)).put it (.iter (some m) cl [])) i = some o := fun i o hi h => by
    rw [put_ne _ _ _ _ (obj_ne hi hit), put_ne _ _ _ _ h]; exact hi
  generalize (H.put m (.bmap .str es bs cl)).put it (.iter (some m) cl []) = G0 at *
  with_reducible refine aloop_cut 0 (fun r G => ∃ ks id, ks.Perm (es.map keyS) ∧ OwnS H G id ks ∧ ¬ id = m ∧ G m = some (.bmap .str es bs cl) ∧ (∀ i o, H i = some o → ¬ i = m → G i = some o) ∧ agrees r [(3, listV ks id)]) ?_ ?_
  rotate_left
  · refine aloop_intro (σ := List Nat × List Nat × List Bytes × Nat) (fun t => [(0, .map m), (3, listV t.2.2.1 t.2.2.2), (6, .ptr it 0)])
      (fun t G => SeenK es bs t.1 t.2.1 t.2.2.1 ∧ OwnS H G t.2.2.2 t.2.2.1 ∧ ¬ t.2.2.2 = m ∧ ¬ t.2.2.2 = it ∧ G it = some (.iter (some m) cl t.2.1) ∧ G m = some (.bmap .str es bs cl) ∧ (∀ i o, H i = some o → ¬ i = m → G i = some o)) (fun t => es.length - t.1.length) ([], [], [], it + m + 1) ?_ ?_ ?_
    · simp -implicitDefEqProofs only [go_sem, reduceEqDiff, reduceAdd, reduceLeDiff, reduceLT, reduceMul, reduceEq, Int.reduceLT, reduceLE, Int.reduceAdd, reduceSub, reduceToNat, UInt8.reduceToNat]
      exact rfl
    · exact ⟨SeenK.nil _ _, .inl rfl, by simp only; omega, by simp only; omega, g1, g2, g3⟩
    clear g1 g2 g3
    rintro ⟨js, seen, ks, id⟩ r G hv ⟨hS, hO, nm, ni, g1, g2, g3⟩
    have h0 := hv.1
    have h3 := hv.2.1
    have h6 := hv.2.2.1
    clear hv
    simp only at h0 h3 h6 hS hO nm ni g1 g2
    simp -implicitDefEqProofs only [go_sem, reduceEqDiff, reduceAdd, reduceLeDiff, reduceLT, reduceMul, reduceEq, Int.reduceLT, reduceLE, Int.reduceAdd, reduceSub, reduceToNat, UInt8.reduceToNat, h0, h3, h6]
    refine next_intro g1 g2 (fun j k v b hj hbj hsn => ?_) (fun ha => ?_)
    rotate_left
    · simp -implicitDefEqProofs only [go_sem, reduceEqDiff, reduceAdd, reduceLeDiff, reduceLT, reduceMul, reduceEq, Int.reduceLT, reduceLE, Int.reduceAdd, reduceSub, reduceToNat, UInt8.reduceToNat, h0, h3, h6]
      exact ⟨ks, id, hS.all hb hn ha, hO, nm, g2, g3, by simp -implicitDefEqProofs only [go_sem, reduceEqDiff, reduceAdd, reduceLeDiff, reduceLT, reduceMul, reduceEq, Int.reduceLT, reduceLE, Int.reduceAdd, reduceSub, reduceToNat, UInt8.reduceToNat, h3]⟩
    obtain ⟨s, rfl⟩ := hk _ (List.mem_of_getElem? hj)
    have hS2 := hS.step hj hbj hsn
    have hlen := hS2.len
    have g1' : (G.put it (.iter (some m) cl (seen ++ [b]))) it = some (.iter (some m) cl (seen ++ [b])) := put_same _ _ _
    have g2' : (G.put it (.iter (some m) cl (seen ++ [b]))) m = some (.bmap .str es bs cl) := by rw [put_ne _ _ _ _ dm]; exact g2
    have g3' : ∀ i o, H i = some o → ¬ i = m → (G.put it (.iter (some m) cl (seen ++ [b]))) i = some o := fun i o hi h => by
      rw [put_ne _ _ _ _ (obj_ne hi hit)]; exact g3 i o hi h
    have hO' : OwnS H (G.put it (.iter (some m) cl (seen ++ [b]))) id ks := hO.imp (fun h => h) fun h => ⟨h.1, by rw [put_ne _ _ _ _ ni]; exact h.2⟩
    generalize G.put it (.iter (some m) cl (seen ++ [b])) = G1 at *
    simp -implicitDefEqProofs only [go_sem, reduceEqDiff, reduceAdd, reduceLeDiff, reduceLT, reduceMul, reduceEq, Int.reduceLT, reduceLE, Int.reduceAdd, reduceSub, reduceToNat, UInt8.reduceToNat, h0, h3, h6]
    refine here_intro g1' g2' hbj hj ?_
    have hkv : (Key.s s).av .str = .str s := rfl
    have hid' : ∀ id', G1 id' = none → H id' = none ∧ ¬ id' = m ∧ ¬ id' = it := fun id' h => by
      have e1 : ¬ id' = m := fun e => by rw [e, g2'] at h; cases h
      refine ⟨?_, e1, fun e => by rw [e, g1'] at h; cases h⟩
      cases hh : H id' with
      | none => rfl
      | some o => rw [g3' id' o hh e1] at h; cases h
    by_cases hks : ks = []
    · subst hks
      have h3' : r 3 = .sl [] .exact := h3
      simp -implicitDefEqProofs only [go_sem, reduceEqDiff, reduceAdd, reduceLeDiff, reduceLT, reduceMul, reduceEq, Int.reduceLT, reduceLE, Int.reduceAdd, reduceSub, reduceToNat, UInt8.reduceToNat, h0, h3', h6, hkv]
      refine app_ms0 (by simp) (by simp) (by simp) fun id' hi => ?_
      obtain ⟨q1, q2, q3⟩ := hid' id' hi
      simp -implicitDefEqProofs only [go_sem, reduceEqDiff, reduceAdd, reduceLeDiff, reduceLT, reduceMul, reduceEq, Int.reduceLT, reduceLE, Int.reduceAdd, reduceSub, reduceToNat, UInt8.reduceToNat, h0, h6]
      refine Again.mk (js ++ [j], seen ++ [b], [] ++ [keyS (.s s, v)], id') (by simp -implicitDefEqProofs only [go_sem, reduceEqDiff, reduceAdd, reduceLeDiff, reduceLT, reduceMul, reduceEq, Int.reduceLT, reduceLE, Int.reduceAdd, reduceSub, reduceToNat, UInt8.reduceToNat, h0, h6, listV_one, keyS]) ⟨hS2, .inr ⟨q1, put_same _ _ _⟩, q2, q3, by rw [put_ne _ _ _ _ (fun e => q3 e.symm)]; exact g1', by rw [put_ne _ _ _ _ (fun e => q2 e.symm)]; exact g2', fun i o hi2 h => by rw [put_ne _ _ _ _ (fun e => by rw [e, q1] at hi2; cases hi2)]; exact g3' i o hi2 h⟩ (by simp only [List.length_append, List.length_cons, List.length_nil] at hlen ⊢; omega)
    · have hoo := hO'.resolve_left hks
      have h3' := h3
      rw [listV_ne hks] at h3'
      simp -implicitDefEqProofs only [go_sem, reduceEqDiff, reduceAdd, reduceLeDiff, reduceLT, reduceMul, reduceEq, Int.reduceLT, reduceLE, Int.reduceAdd, reduceSub, reduceToNat, UInt8.reduceToNat, h0, h3', h6, hkv]
      refine app_ms hoo.2 (by simp) (by simp only [List.length_cons, List.length_nil] at hlen ⊢; simp at hlen ⊢; omega) (by simp at hlen ⊢; omega) fun id' hi => ?_
      obtain ⟨q1, q2, q3⟩ := hid' id' hi
      simp -implicitDefEqProofs only [go_sem, reduceEqDiff, reduceAdd, reduceLeDiff, reduceLT, reduceMul, reduceEq, Int.reduceLT, reduceLE, Int.reduceAdd, reduceSub, reduceToNat, UInt8.reduceToNat, h0, h6]
      have hcell : (ks.map AV.str ++ [AV.str s]) = (ks ++ [keyS (.s s, v)]).map AV.str := by simp [keyS]
      refine Again.mk (js ++ [j], seen ++ [b], ks ++ [keyS (.s s, v)], id') (by simp -implicitDefEqProofs only [go_sem, reduceEqDiff, reduceAdd, reduceLeDiff, reduceLT, reduceMul, reduceEq, Int.reduceLT, reduceLE, Int.reduceAdd, reduceSub, reduceToNat, UInt8.reduceToNat, h0, h6, listV_app, keyS]) ⟨hS2, .inr ⟨q1, by rw [put_same, ← hcell]; rfl⟩, q2, q3, by rw [put_ne _ _ _ _ (fun e => q3 e.symm), del_ne (fun e => ni e.symm)]; exact g1', by rw [put_ne _ _ _ _ (fun e => q2 e.symm), del_ne (fun e => nm e.symm)]; exact g2', fun i o hi2 h => by rw [put_ne _ _ _ _ (fun e => by rw [e, q1] at hi2; cases hi2), del_ne (fun e => by rw [e, hoo.1] at hi2; cases hi2)]; exact g3' i o hi2 h⟩ (by simp only [List.length_append, List.length_cons, List.length_nil] at hlen ⊢; omega)
  rintro r G ⟨ks, id, hp, hO, nm, g2, g3, hv⟩
  have h3 := hv.1
  clear hv
  have hlk : ks.length = es.length := by rw [hp.length_eq, List.length_map]
  have hsub : H.Sub (G.put m (.map .str es)) := fun k p hi => by
    by_cases e : k = m
    · subst e; rw [hm] at hi; cases hi; exact put_same _ _ _
    · rw [put_ne _ _ _ _ e]; exact g3 k p hi e
  by_cases hks : ks = []
  · subst hks
    have h3' : r 3 = .sl [] .exact := h3
    simp -implicitDefEqProofs only [go_sem, reduceEqDiff, reduceAdd, reduceLeDiff, reduceLT, reduceMul, reduceEq, Int.reduceLT, reduceLE, Int.reduceAdd, reduceSub, reduceToNat, UInt8.reduceToNat, h3']
    refine (sortS0_calls G).pure_next _ ?_
    simp -implicitDefEqProofs only [go_sem, reduceEqDiff, reduceAdd, reduceLeDiff, reduceLT, reduceMul, reduceEq, Int.reduceLT, reduceLE, Int.reduceAdd, reduceSub, reduceToNat, UInt8.reduceToNat, h3']
    exact Done.via (Ghost.unborn g2) (Done.wk 3 (Done.drop hsub ⟨[], hp, by simp; rfl, rfl⟩))
  · have hoo := hO.resolve_left hks
    rw [listV_ne hks] at h3
    simp -implicitDefEqProofs only [go_sem, reduceEqDiff, reduceAdd, reduceLeDiff, reduceLT, reduceMul, reduceEq, Int.reduceLT, reduceLE, Int.reduceAdd, reduceSub, reduceToNat, UInt8.reduceToNat, h3]
    refine (sortS_calls ks id G hoo.2 hks (by omega)).pure_next2 ?_
    simp -implicitDefEqProofs only [go_sem, reduceEqDiff, reduceAdd, reduceLeDiff, reduceLT, reduceMul, reduceEq, Int.reduceLT, reduceLE, Int.reduceAdd, reduceSub, reduceToNat, UInt8.reduceToNat, h3]
    have hlen : (ks.mergeSort fun x y => decide (x ≤ y)).length = ks.length := List.length_mergeSort ks
    refine Done.via (Ghost.freeze1 (off := 0) (len := ks.length) (put_same G id _) (by simp)) ?_
    have g2' : ((G.put id (.cells ((ks.mergeSort fun x y => decide (x ≤ y)).map .str))).del id) m = some (.bmap .str es bs cl) := by rw [del_ne (fun e => nm e.symm), put_ne _ _ _ _ (fun e => nm e.symm)]; exact g2
    refine Done.via (Ghost.unborn g2') (Done.drop (H' := H) (fun k p hi => ?_) ⟨ks, hp, ?_, rfl⟩)
    · by_cases e : k = m
      · subst e; rw [hm] at hi; cases hi; exact put_same _ _ _
      · have e2 : ¬ k = id := fun e2 => by rw [e2, hoo.1] at hi; cases hi
        rw [put_ne _ _ _ _ e, del_ne e2, put_ne _ _ _ _ e2]
        exact g3 k p hi e
    · rw [List.drop_zero, List.take_of_length_le (by simp), List.map_map]
      rfl
set_option maxHeartbeats 3200000 in
theorem keysSvc_calls (m : Nat) (es : List (Key × AV)) (H : Heap) (hm : H m = some (.map .str es)) (hk : ∀ e ∈ es, ∃ s, e.1 = .s s) (hl : es.length ≤ 1099511627776) :
    ACalls Tryz.prog 114 [.map m] H fun x H' => ∃ ss : List Bytes, ss.Perm (es.map keyS) ∧ x = .sl ((ss.mergeSort fun x y => decide (x ≤ y)).map fun s => [AV.str s]) .unk ∧ H' = H := by
  refine ACalls.of_code (X := { pure := pu0, ms := fun t => decide (t = 14) }) pu0_ok Tryz.func114 (by kernel_rfl) rfl (by kernel_rfl) (Nat.le_of_ble_eq_true rfl) ?_
  simp -implicitDefEqProofs only [go_sem, reduceEqDiff, reduceAdd, reduceLeDiff, reduceLT, reduceMul, reduceEq, Int.reduceLT, reduceLE, Int.reduceAdd, reduceSub, reduceToNat, UInt8.reduceToNat, Tryz.f114]
  refine range_intro ⟨_, _, by simp -implicitDefEqProofs only [go_sem, reduceEqDiff, reduceAdd, reduceLeDiff, reduceLT, reduceMul, reduceEq, Int.reduceLT, reduceLE, Int.reduceAdd, reduceSub, reduceToNat, UInt8.reduceToNat]; rfl⟩ hm fun bs cl it hb hn _ hit => ?_
  have dm : ¬ m = it := fun e => by rw [e, hit] at hm; cases hm
  simp -implicitDefEqProofs only [go_sem, reduceEqDiff, reduceAdd, reduceLeDiff, reduceLT, reduceMul, reduceEq, Int.reduceLT, reduceLE, Int.reduceAdd, reduceSub, reduceToNat, UInt8.reduceToNat]
  have g1 : ((H.put m (.bmap .str es bs cl)).put it (.iter (some m) cl [])) it = some (.iter (some m) cl []) := put_same _ _ _
  have g2 : ((H.put m (.bmap .str es bs cl)).put it (.iter (some m) cl [])) m = some (.bmap .str es bs cl) := by rw [put_ne _ _ _ _ dm, put_same]
  have g3 : ∀ i o, H i = some o → ¬ i = m → ((H.put m (.bmap .str es bs cl)).put it (.iter (some m) cl [])) i = some o := fun i o hi h => by
    rw [put_ne _ _ _ _ (obj_ne hi hit), put_ne _ _ _ _ h]; exact hi
  generalize (H.put m (.bmap .str es bs cl)).put it (.iter (some m) cl []) = G0 at *
  with_reducible refine aloop_cut 0 (fun r G => ∃ ks id, ks.Perm (es.map keyS) ∧ OwnS H G id ks ∧ ¬ id = m ∧ G m = some (.bmap .str es bs cl) ∧ (∀ i o, H i = some o → ¬ i = m → G i = some o) ∧ agrees r [(3, listV ks id)]) ?_ ?_
  rotate_left
  · refine aloop_intro (σ := List Nat × List Nat × List Bytes × Nat) (fun t => [(0, .map m), (3, listV t.2.2.1 t.2.2.2), (6, .ptr it 0)])
      (fun t G => SeenK es bs t.1 t.2.1 t.2.2.1 ∧ OwnS H G t.2.2.2 t.2.2.1 ∧ ¬ t.2.2.2 = m ∧ ¬ t.2.2.2 = it ∧ G it = some (.iter (some m) cl t.2.1) ∧ G m = some (.bmap .str es bs cl) ∧ (∀ i o, H i = some o → ¬ i = m → G i = some o)) (fun t => es.length - t.1.length) ([], [], [], it + m + 1) ?_ ?_ ?_
    · simp -implicitDefEqProofs only [go_sem, reduceEqDiff, reduceAdd, reduceLeDiff, reduceLT, reduceMul, reduceEq, Int.reduceLT, reduceLE, Int.reduceAdd, reduceSub, reduceToNat, UInt8.reduceToNat]
      exact rfl
    · exact ⟨SeenK.nil _ _, .inl rfl, by simp only; omega, by simp only; omega, g1, g2, g3⟩
    clear g1 g2 g3
    rintro ⟨js, seen, ks, id⟩ r G hv ⟨hS, hO, nm, ni, g1, g2, g3⟩
    have h0 := hv.1
    have h3 := hv.2.1
    have h6 := hv.2.2.1
    clear hv
    simp only at h0 h3 h6 hS hO nm ni g1 g2
    simp -implicitDefEqProofs only [go_sem, reduceEqDiff, reduceAdd, reduceLeDiff, reduceLT, reduceMul, reduceEq, Int.reduceLT, reduceLE, Int.reduceAdd, reduceSub, reduceToNat, UInt8.reduceToNat, h0, h3, h6]
    refine next_intro g1 g2 (fun j k v b hj hbj hsn => ?_) (fun ha => ?_)
    rotate_left
    · simp -implicitDefEqProofs only [go_sem, reduceEqDiff, reduceAdd, reduceLeDiff, reduceLT, reduceMul, reduceEq, Int.reduceLT, reduceLE, Int.reduceAdd, reduceSub, reduceToNat, UInt8.reduceToNat, h0, h3, h6]
      exact ⟨ks, id, hS.all hb hn ha, hO, nm, g2, g3, by simp -implicitDefEqProofs only [go_sem, reduceEqDiff, reduceAdd, reduceLeDiff, reduceLT, reduceMul, reduceEq, Int.reduceLT, reduceLE, Int.reduceAdd, reduceSub, reduceToNat, UInt8.reduceToNat, h3]⟩
    obtain ⟨s, rfl⟩ := hk _ (List.mem_of_getElem? hj)
    have hS2 := hS.step hj hbj hsn
    have hlen := hS2.len
    have g1' : (G.put it (.iter (some m) cl (seen ++ [b]))) it = some (.iter (some m) cl (seen ++ [b])) := put_same _ _ _
    have g2' : (G.put it (.iter (some m) cl (seen ++ [b]))) m = some (.bmap .str es bs cl) := by rw [put_ne _ _ _ _ dm]; exact g2
    have g3' : ∀ i o, H i = some o → ¬ i = m → (G.put it (.iter (some m) cl (seen ++ [b]))) i = some o := fun i o hi h => by
      rw [put_ne _ _ _ _ (obj_ne hi hit)]; exact g3 i o hi h
    have hO' : OwnS H (G.put it (.iter (some m) cl (seen ++ [b]))) id ks := hO.imp (fun h => h) fun h => ⟨h.1, by rw [put_ne _ _ _ _ ni]; exact h.2⟩
    generalize G.put it (.iter (some m) cl (seen ++ [b])) = G1 at *
    simp -implicitDefEqProofs only [go_sem, reduceEqDiff, reduceAdd, reduceLeDiff, reduceLT, reduceMul, reduceEq, Int.reduceLT, reduceLE, Int.reduceAdd, reduceSub, reduceToNat, UInt8.reduceToNat, h0, h3, h6]
    refine here_intro g1' g2' hbj hj ?_
    have hkv : (Key.s s).av .str = .str s := rfl
    have hid' : ∀ id', G1 id' = none → H id' = none ∧ ¬ id' = m ∧ ¬ id' = it := fun id' h => by
      have e1 : ¬ id' = m := fun e => by rw [e, g2'] at h; cases h
      refine ⟨?_, e1, fun e => by rw [e, g1'] at h; cases h⟩
      cases hh : H id' with
      | none => rfl
      | some o => rw [g3' id' o hh e1] at h; cases h
    by_cases hks : ks = []
    · subst hks
      have h3' : r 3 = .sl [] .exact := h3
      simp -implicitDefEqProofs only [go_sem, reduceEqDiff, reduceAdd, reduceLeDiff, reduceLT, reduceMul, reduceEq, Int.reduceLT, reduceLE, Int.reduceAdd, reduceSub, reduceToNat, UInt8.reduceToNat, h0, h3', h6, hkv]
      refine app_ms0 (by simp) (by simp) (by simp) fun id' hi => ?_
      obtain ⟨q1, q2, q3⟩ := hid' id' hi
      simp -implicitDefEqProofs only [go_sem, reduceEqDiff, reduceAdd, reduceLeDiff, reduceLT, reduceMul, reduceEq, Int.reduceLT, reduceLE, Int.reduceAdd, reduceSub, reduceToNat, UInt8.reduceToNat, h0, h6]
      refine Again.mk (js ++ [j], seen ++ [b], [] ++ [keyS (.s s, v)], id') (by simp -implicitDefEqProofs only [go_sem, reduceEqDiff, reduceAdd, reduceLeDiff, reduceLT, reduceMul, reduceEq, Int.reduceLT, reduceLE, Int.reduceAdd, reduceSub, reduceToNat, UInt8.reduceToNat, h0, h6, listV_one, keyS]) ⟨hS2, .inr ⟨q1, put_same _ _ _⟩, q2, q3, by rw [put_ne _ _ _ _ (fun e => q3 e.symm)]; exact g1', by rw [put_ne _ _ _ _ (fun e => q2 e.symm)]; exact g2', fun i o hi2 h => by rw [put_ne _ _ _ _ (fun e => by rw [e, q1] at hi2; cases hi2)]; exact g3' i o hi2 h⟩ (by simp only [List.length_append, List.length_cons, List.length_nil] at hlen ⊢; omega)
    · have hoo := hO'.resolve_left hks
      have h3' := h3
      rw [listV_ne hks] at h3'
      simp -implicitDefEqProofs only [go_sem, reduceEqDiff, reduceAdd, reduceLeDiff, reduceLT, reduceMul, reduceEq, Int.reduceLT, reduceLE, Int.reduceAdd, reduceSub, reduceToNat, UInt8.reduceToNat, h0, h3', h6, hkv]
      refine app_ms hoo.2 (by simp) (by simp only [List.length_cons, List.length_nil] at hlen ⊢; simp at hlen ⊢; omega) (by simp at hlen ⊢; omega) fun id' hi => ?_
      obtain ⟨q1, q2, q3⟩ := hid' id' hi
      simp -implicitDefEqProofs only [go_sem, reduceEqDiff, reduceAdd, reduceLeDiff, reduceLT, reduceMul, reduceEq, Int.reduceLT, reduceLE, Int.reduceAdd, reduceSub, reduceToNat, UInt8.reduceToNat, h0, h6]
      have hcell : (ks.map AV.str ++ [AV.str s]) = (ks ++ [keyS (.s s, v)]).map AV.str := by simp [keyS]
      refine Again.mk (js ++ [j], seen ++ [b], ks ++ [keyS (.s s, v)], id') (by simp -implicitDefEqProofs only [go_sem, reduceEqDiff, reduceAdd, reduceLeDiff, reduceLT, reduceMul, reduceEq, Int.reduceLT, reduceLE, Int.reduceAdd, reduceSub, reduceToNat, UInt8.reduceToNat, h0, h6, listV_app, keyS]) ⟨hS2, .inr ⟨q1, by rw [put_same, ← hcell]; rfl⟩, q2, q3, by rw [put_ne _ _ _ _ (fun e => q3 e.symm), del_ne (fun e => ni e.symm)]; exact g1', by rw [put_ne _ _ _ _ (fun e => q2 e.symm), del_ne (fun e => nm e.symm)]; exact g2', fun i o hi2 h => by rw [put_ne _ _ _ _ (fun e => by rw [e, q1] at hi2; cases hi2), del_ne (fun e => by rw [e, hoo.1] at hi2; cases hi2)]; exact g3' i o hi2 h⟩ (by simp only [List.length_append, List.length_cons, List.length_nil] at hlen ⊢; omega)
  rintro r G ⟨ks, id, hp, hO, nm, g2, g3, hv⟩
  have h3 := hv.1
  clear hv
  have hlk : ks.length = es.length := by rw [hp.length_eq, List.length_map]
  have hsub : H.Sub (G.put m (.map .str es)) := fun k p hi => by
    by_cases e : k = m
    · subst e; rw [hm] at hi; cases hi; exact put_same _ _ _
    · rw [put_ne _ _ _ _ e]; exact g3 k p hi e
  by_cases hks : ks = []
  · subst hks
    have h3' : r 3 = .sl [] .exact := h3
    simp -implicitDefEqProofs only [go_sem, reduceEqDiff, reduceAdd, reduceLeDiff, reduceLT, reduceMul, reduceEq, Int.reduceLT, reduceLE, Int.reduceAdd, reduceSub, reduceToNat, UInt8.reduceToNat, h3']
    refine (sortS0_calls G).pure_next _ ?_
    simp -implicitDefEqProofs only [go_sem, reduceEqDiff, reduceAdd, reduceLeDiff, reduceLT, reduceMul, reduceEq, Int.reduceLT, reduceLE, Int.reduceAdd, reduceSub, reduceToNat, UInt8.reduceToNat, h3']
    exact Done.via (Ghost.unborn g2) (Done.wk 3 (Done.drop hsub ⟨[], hp, by simp; rfl, rfl⟩))
  · have hoo := hO.resolve_left hks
    rw [listV_ne hks] at h3
    simp -implicitDefEqProofs only [go_sem, reduceEqDiff, reduceAdd, reduceLeDiff, reduceLT, reduceMul, reduceEq, Int.reduceLT, reduceLE, Int.reduceAdd, reduceSub, reduceToNat, UInt8.reduceToNat, h3]
    refine (sortS_calls ks id G hoo.2 hks (by omega)).pure_next2 ?_
    simp -implicitDefEqProofs only [go_sem, reduceEqDiff, reduceAdd, reduceLeDiff, reduceLT, reduceMul, reduceEq, Int.reduceLT, reduceLE, Int.reduceAdd, reduceSub, reduceToNat, UInt8.reduceToNat, h3]
    have hlen : (ks.mergeSort fun x y => decide (x ≤ y)).length = ks.length := List.length_mergeSort ks
    refine Done.via (Ghost.freeze1 (off := 0) (len := ks.length) (put_same G id _) (by simp)) ?_
    have g2' : ((G.put id (.cells ((ks.mergeSort fun x y => decide (x ≤ y)).map .str))).del id) m = some (.bmap .str es bs cl) := by rw [del_ne (fun e => nm e.symm), put_ne _ _ _ _ (fun e => nm e.symm)]; exact g2
    refine Done.via (Ghost.unborn g2') (Done.drop (H' := H) (fun k p hi => ?_) ⟨ks, hp, ?_, rfl⟩)
    · by_cases e : k = m
      · subst e; rw [hm] at hi; cases hi; exact put_same _ _ _
      · have e2 : ¬ k = id := fun e2 => by rw [e2, hoo.1] at hi; cases hi
        rw [put_ne _ _ _ _ e, del_ne e2, put_ne _ _ _ _ e2]
        exact g3 k p hi e
    · rw [List.drop_zero, List.take_of_length_le (by simp), List.map_map]
      rfl
end Go.Proofs
