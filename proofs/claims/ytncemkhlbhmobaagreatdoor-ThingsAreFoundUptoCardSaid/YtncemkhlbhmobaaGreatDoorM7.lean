/-
  Walks and plain laws, part 7.
-/
import Derived.Test.YtncemkhlbhmobaaGreatDoorM3
import Derived.Test.YtncemkhlbhmobaaGreatDoorM6
import Derived.Test.YtncemkhlbhmobaaGreatDoorM4
/- Walks: things are found by their keys. -/
namespace Go.Proofs
open Go Go.Abs
open Nat (reduceEqDiff reduceAdd reduceLeDiff reduceLT reduceMul)
open Int (reduceEq reduceLE reduceSub reduceToNat)
set_option linter.unusedSimpArgs false
set_option linter.unusedVariables false
set_option maxRecDepth 20000
theorem cmp_zero (a b : Bytes) : Lib.compareBytes a b = 0 ↔ a = b := by
  constructor
  · intro h
    rcases lt_tri a b with t | t | t
    · have := (cmp_lt a b).2 t; omega
    · exact t
    · have := (cmp_gt a b).2 t; omega
  · rintro rfl
    have h1 : ¬ Lib.compareBytes a a < 0 := fun h => by have := (cmp_lt a a).1 h; rw [lt_irr] at this; cases this
    have h2 : ¬ 0 < Lib.compareBytes a a := fun h => by have := (cmp_gt a a).1 h; rw [lt_irr] at this; cases this
    omega
section
variable {α : Type} {key : α → Bytes}
/-- Between these places is what is looked for. -/
def Brack (key : α → Bytes) (l : List α) (k : Bytes) (i j : Nat) : Prop := (∀ a x, a < i → l[a]? = some x → strLt (key x) k = true) ∧ ∀ a x, j ≤ a → l[a]? = some x → strLt (key x) k = false
theorem asc_at {l : List α} (h : Asc key l) {a b : Nat} {x y : α} (hab : a < b) (hx : l[a]? = some x) (hy : l[b]? = some y) : strLt (key x) (key y) = true := by
  obtain ⟨h1, e1⟩ := List.getElem?_eq_some_iff.1 hx
  obtain ⟨h2, e2⟩ := List.getElem?_eq_some_iff.1 hy
  have := List.pairwise_iff_getElem.1 h a b h1 h2 hab
  rw [e1, e2] at this
  exact this
theorem Brack.right {l : List α} (h : Asc key l) {k : Bytes} {i j m : Nat} {x : α} (hb : Brack key l k i j) (hx : l[m]? = some x) (hlt : strLt (key x) k = true) : Brack key l k (m + 1) j := by
  refine ⟨fun a y ha hy => ?_, hb.2⟩
  by_cases e : a = m
  · subst e; rw [hx] at hy; cases hy; exact hlt
  · exact lt_tr (asc_at h (by omega) hy hx) hlt
theorem Brack.left {l : List α} (h : Asc key l) {k : Bytes} {i j m : Nat} {x : α} (hb : Brack key l k i j) (hx : l[m]? = some x) (hlt : strLt (key x) k = false) : Brack key l k i m := by
  refine ⟨hb.1, fun a y ha hy => ?_⟩
  by_cases e : a = m
  · subst e; rw [hx] at hy; cases hy; exact hlt
  · cases hh : strLt (key y) k with
    | false => rfl
    | true => have := lt_tr (asc_at h (by omega) hx hy) hh; rw [this] at hlt; cases hlt
theorem Brack.found {l : List α} (h : Asc key l) {k : Bytes} {i : Nat} (hb : Brack key l k i i) : getK key k l = match l[i]? with
    | some x => if key x = k then some x else none
    | none => none := by
  have no : (∀ x, l[i]? = some x → ¬ key x = k) → getK key k l = none := fun hn => by
    unfold getK
    rw [List.find?_eq_none]
    intro y hy
    simp only [decide_eq_true_eq]
    intro e
    obtain ⟨a, ha⟩ := List.getElem?_of_mem hy
    rcases Nat.lt_trichotomy a i with t | t | t
    · have := hb.1 a y t ha
      rw [e, lt_irr] at this; cases this
    · subst t; exact hn y ha e
    · have hlt : i < l.length := by have := (List.getElem?_eq_some_iff.1 ha).1; omega
      obtain ⟨x, hx⟩ : ∃ x, l[i]? = some x := ⟨l[i], List.getElem?_eq_getElem hlt⟩
      have h1 := asc_at h t hx ha
      rw [e] at h1
      have h2 := hb.2 i x (Nat.le_refl _) hx
      rw [h1] at h2; cases h2
  cases hx : l[i]? with
  | none => exact no fun x h => by rw [hx] at h; cases h
  | some x =>
    simp only
    by_cases e : key x = k
    · rw [if_pos e, ← e]; exact getK_at h hx
    · rw [if_neg e]; exact no fun y h => by rw [hx] at h; cases h; exact e
end
noncomputable def puAk : Pures := putP 999999999 sNone (putP 32 (sStr nameB) (putP 45 (sStr pathB) pu0))
theorem puAk_dyn : isDyn puAk = true := by simp only [puAk, go_sem, Nat.reduceEqDiff]
attribute [go_sem] puAk_dyn
theorem puAk_ok : PuOK Tryz.prog puAk := .put (.put (.put (pu0_ok) (sStr_ok isPath_calls)) (sStr_ok isName_calls)) dyn_ok
/-- What is answered of a thing that is asked for. -/
def askV {α : Type} (e : Int) (ok : Bool) (o : Option α) (z : α) : α × Int := if e ≠ 0 then (z, e) else if ok = false then (z, 5) else match o with
  | some x => (x, 0)
  | none => (z, 10)
/-! ### Setting -/
theorem cmpFS_calls (x : SetV) (k : Bytes) (c : Nat) (G : Heap) (hc : G c = some (.cells [.func 43 []])) :
    ACalls Tryz.prog 116 [.agg (encSet x), .str k, .ptr c 0] G fun y G' => y = .int .i64 (Lib.compareBytes x.key k) ∧ G' = G := by
  have q1 : sKeyO [.agg (encSet x)] = some (.str x.key) := rfl
  have q2 := sCmpS_eq x.key k
  have ex := encSet.eq_1 x
  rw [ex] at q1 ⊢
  refine ACalls.of_code (X := { pure := puSd }) puSd_ok Tryz.func116 (by kernel_rfl) rfl (by kernel_rfl) (Nat.le_of_ble_eq_true rfl) ?_
  simp -implicitDefEqProofs only [go_sem, reduceEqDiff, reduceAdd, reduceLeDiff, reduceLT, reduceMul, reduceEq, Int.reduceLT, reduceLE, Int.reduceAdd, reduceSub, reduceToNat, UInt8.reduceToNat, Tryz.f116]
  with_reducible refine nwC_intro fun i3 hi3 => ?_
  have hc2 := fun o => (put_ne G i3 c o (obj_ne hc hi3)).trans hc
  have g3 := put_same G i3 (.cells (encSet x))
  rw [ex] at g3
  try simp -implicitDefEqProofs only [go_sem, reduceEqDiff, reduceAdd, reduceLeDiff, reduceLT, reduceMul, reduceEq, Int.reduceLT, reduceLE, Int.reduceAdd, reduceSub, reduceToNat, UInt8.reduceToNat, hc2, g3, q1, q2, puSd]
  exact Done.drop1 hi3 ⟨rfl, rfl⟩
def BsS (l : List SetV) (t : Tail) (k : Bytes) (c : Nat) (G0 : Heap) (r : Regs) (G : Heap) : Prop := ∃ i, i ≤ l.length ∧ Brack (·.key) l k i i ∧ G = G0 ∧ r 0 = .sl (l.map encSet) t ∧ r 1 = .str k ∧ r 2 = .func 116 [.ptr c 0] ∧ r 8 = .int .i64 l.length ∧ r 9 = .int .i64 i
set_option maxHeartbeats 3200000 in
theorem bsS_calls (l : List SetV) (t : Tail) (k : Bytes) (c : Nat) (G : Heap) (hc : G c = some (.cells [.func 43 []])) (ha : Asc (·.key) l) (hl : l.length ≤ 1000000) :
    ACalls Tryz.prog 115 [.sl (l.map encSet) t, .str k, .func 116 [.ptr c 0]] G fun y G' => ∃ i : Nat, y = .tup [.int .i64 i, .bool (getK (·.key) k l).isSome] ∧ (∀ x, getK (·.key) k l = some x → l[i]? = some x) ∧ G' = G := by
  have hU : ∀ x ∈ l, (encSet x).length = 2 := fun _ _ => rfl
  have htt : ∀ x : SetV, (encSet x).take 2 = encSet x := fun _ => rfl
  refine ACalls.of_code (X := { pure := pu0 }) pu0_ok Tryz.func115 (by kernel_rfl) rfl (by kernel_rfl) (Nat.le_of_ble_eq_true rfl) ?_
  simp -implicitDefEqProofs only [go_sem, reduceEqDiff, reduceAdd, reduceLeDiff, reduceLT, reduceMul, reduceEq, Int.reduceLT, reduceLE, Int.reduceAdd, reduceSub, reduceToNat, UInt8.reduceToNat, Tryz.f115]
  with_reducible refine aloop_cut 0 (BsS l t k c G) ?_ ?_
  rotate_left
  · refine aloop_intro (σ := Nat × Nat) (fun s => [(0, .sl (l.map encSet) t), (1, .str k), (2, .func 116 [.ptr c 0]), (8, .int .i64 l.length), (9, .int .i64 s.1), (10, .int .i64 s.2)])
      (fun s G' => s.1 ≤ s.2 ∧ s.2 ≤ l.length ∧ Brack (·.key) l k s.1 s.2 ∧ G' = G) (fun s => s.2 - s.1) (0, l.length) ?_ ?_ ?_
    · simp -implicitDefEqProofs only [go_sem, reduceEqDiff, reduceAdd, reduceLeDiff, reduceLT, reduceMul, reduceEq, Int.reduceLT, reduceLE, Int.reduceAdd, reduceSub, reduceToNat, UInt8.reduceToNat]
    · exact ⟨Nat.zero_le _, Nat.le_refl _, ⟨fun a x h => absurd h (by omega), fun a x h hx => by have := (List.getElem?_eq_some_iff.1 hx).1; omega⟩, rfl⟩
    rintro ⟨i, j⟩ r G' hv ⟨hi, hj, hb, rfl⟩
    simp only at hi hj hb
    have e0 := hv.1
    have e1 := hv.2.1
    have e2 := hv.2.2.1
    have e8 := hv.2.2.2.1
    have e9 := hv.2.2.2.2.1
    have e10 := hv.2.2.2.2.2.1
    simp only at e9 e10
    clear hv
    by_cases g : i < j
    rotate_left
    · have y0 : decide ((i : Int) < j) = false := decide_eq_false (by omega)
      obtain rfl : i = j := by omega
      simp -implicitDefEqProofs only [go_sem, reduceEqDiff, reduceAdd, reduceLeDiff, reduceLT, reduceMul, reduceEq, Int.reduceLT, reduceLE, Int.reduceAdd, reduceSub, reduceToNat, UInt8.reduceToNat, e0, e1, e2, e8, e9, e10, y0]
      exact ⟨i, hj, hb, rfl, by simp -implicitDefEqProofs only [go_sem, reduceEqDiff, reduceAdd, reduceLeDiff, reduceLT, reduceMul, reduceEq, Int.reduceLT, reduceLE, Int.reduceAdd, reduceSub, reduceToNat, UInt8.reduceToNat, e0], by simp -implicitDefEqProofs only [go_sem, reduceEqDiff, reduceAdd, reduceLeDiff, reduceLT, reduceMul, reduceEq, Int.reduceLT, reduceLE, Int.reduceAdd, reduceSub, reduceToNat, UInt8.reduceToNat, e1], by simp -implicitDefEqProofs only [go_sem, reduceEqDiff, reduceAdd, reduceLeDiff, reduceLT, reduceMul, reduceEq, Int.reduceLT, reduceLE, Int.reduceAdd, reduceSub, reduceToNat, UInt8.reduceToNat, e2], by simp -implicitDefEqProofs only [go_sem, reduceEqDiff, reduceAdd, reduceLeDiff, reduceLT, reduceMul, reduceEq, Int.reduceLT, reduceLE, Int.reduceAdd, reduceSub, reduceToNat, UInt8.reduceToNat, e8], by simp -implicitDefEqProofs only [go_sem, reduceEqDiff, reduceAdd, reduceLeDiff, reduceLT, reduceMul, reduceEq, Int.reduceLT, reduceLE, Int.reduceAdd, reduceSub, reduceToNat, UInt8.reduceToNat, e9]⟩
    have y0 : decide ((i : Int) < j) = true := decide_eq_true (by omega)
    have w1 : IntKind.i64.wrap ((i : Int) + j) = ((i + j : Nat) : Int) := by rw [Go.IntWalk.i64_in _ (by omega)]; omega
    have w2 : IntKind.u64.wrap ((i + j : Nat) : Int) = ((i + j : Nat) : Int) := Go.IntWalk.u64_in _ (by omega)
    have w3 := shrN (i + j) 1 1 rfl (by omega)
    have w5 : (i + j) / 2 ^ 1 = (i + j) / 2 := rfl
    rw [w5] at w3
    have w4 : IntKind.i64.wrap (((i + j) / 2 : Nat) : Int) = (((i + j) / 2 : Nat) : Int) := Go.IntWalk.i64_in _ (by omega)
    generalize hm : (i + j) / 2 = m at *
    have hmi : i ≤ m ∧ m < j := by omega
    obtain ⟨x, hx⟩ : ∃ x, l[m]? = some x := getD_get' (by omega)
    have w6 : IntKind.i64.wrap ((m : Int) + 1) = ((m + 1 : Nat) : Int) := by rw [Go.IntWalk.i64_in _ (by omega)]; omega
    have z1 : decide ((1 : Int) < 0) = false := rfl
    have hcm := cmpFS_calls x k c G' hc
    have hlt := cmp_lt x.key k
    simp -implicitDefEqProofs only [go_sem, reduceEqDiff, reduceAdd, reduceLeDiff, reduceLT, reduceMul, reduceEq, Int.reduceLT, reduceLE, Int.reduceAdd, reduceSub, reduceToNat, UInt8.reduceToNat, e0, e1, e2, e8, e9, e10, y0, w1, w2, w3, w4, z1, hx, htt]
    refine ⟨hU, Nat.le_refl _, ?_⟩
    refine hcm.pure_next _ ?_
    by_cases c1 : Lib.compareBytes x.key k < 0
    · have y1 : decide (Lib.compareBytes x.key k < 0) = true := decide_eq_true c1
      simp -implicitDefEqProofs only [go_sem, reduceEqDiff, reduceAdd, reduceLeDiff, reduceLT, reduceMul, reduceEq, Int.reduceLT, reduceLE, Int.reduceAdd, reduceSub, reduceToNat, UInt8.reduceToNat, e0, e1, e2, e8, e9, e10, y1, w6]
      exact Again.mk (m + 1, j) (by simp -implicitDefEqProofs only [go_sem, reduceEqDiff, reduceAdd, reduceLeDiff, reduceLT, reduceMul, reduceEq, Int.reduceLT, reduceLE, Int.reduceAdd, reduceSub, reduceToNat, UInt8.reduceToNat, e0, e1, e2, e8, e9, e10]) ⟨by simp only; omega, hj, hb.right ha hx (hlt.1 c1), rfl⟩ (by simp only; omega)
    · have y1 : decide (Lib.compareBytes x.key k < 0) = false := decide_eq_false c1
      simp -implicitDefEqProofs only [go_sem, reduceEqDiff, reduceAdd, reduceLeDiff, reduceLT, reduceMul, reduceEq, Int.reduceLT, reduceLE, Int.reduceAdd, reduceSub, reduceToNat, UInt8.reduceToNat, e0, e1, e2, e8, e9, e10, y1]
      exact Again.mk (i, m) (by simp -implicitDefEqProofs only [go_sem, reduceEqDiff, reduceAdd, reduceLeDiff, reduceLT, reduceMul, reduceEq, Int.reduceLT, reduceLE, Int.reduceAdd, reduceSub, reduceToNat, UInt8.reduceToNat, e0, e1, e2, e8, e9, e10]) ⟨by simp only; omega, by simp only; omega, hb.left ha hx (by cases hh : strLt x.key k with | false => rfl | true => exact absurd (hlt.2 hh) c1), rfl⟩ (by simp only; omega)
  rintro r G' ⟨i, hi, hb, rfl, e0, e1, e2, e8, e9⟩
  have hf := hb.found ha
  by_cases g : i < l.length
  rotate_left
  · have y0 : decide ((i : Int) < l.length) = false := decide_eq_false (by omega)
    rw [List.getElem?_eq_none (by omega)] at hf
    simp only at hf
    simp -implicitDefEqProofs only [go_sem, reduceEqDiff, reduceAdd, reduceLeDiff, reduceLT, reduceMul, reduceEq, Int.reduceLT, reduceLE, Int.reduceAdd, reduceSub, reduceToNat, UInt8.reduceToNat, e0, e1, e2, e8, e9, y0]
    exact Done.now ⟨i, by rw [hf]; rfl, (fun x h => by rw [hf] at h; cases h), rfl⟩
  have y0 : decide ((i : Int) < l.length) = true := decide_eq_true (by omega)
  obtain ⟨x, hx⟩ : ∃ x, l[i]? = some x := getD_get' g
  rw [hx] at hf
  simp only at hf
  have hcm := cmpFS_calls x k c G' hc
  have hz := cmp_zero x.key k
  simp -implicitDefEqProofs only [go_sem, reduceEqDiff, reduceAdd, reduceLeDiff, reduceLT, reduceMul, reduceEq, Int.reduceLT, reduceLE, Int.reduceAdd, reduceSub, reduceToNat, UInt8.reduceToNat, e0, e1, e2, e8, e9, y0, hx, htt]
  refine ⟨hU, Nat.le_refl _, ?_⟩
  refine hcm.pure_next _ ?_
  by_cases c1 : x.key = k
  · have y1 : decide (Lib.compareBytes x.key k = 0) = true := decide_eq_true (hz.2 c1)
    rw [if_pos c1] at hf
    simp -implicitDefEqProofs only [go_sem, reduceEqDiff, reduceAdd, reduceLeDiff, reduceLT, reduceMul, reduceEq, Int.reduceLT, reduceLE, Int.reduceAdd, reduceSub, reduceToNat, UInt8.reduceToNat, y1]
    exact Done.now ⟨i, by rw [hf]; rfl, (fun y h => by rw [hf] at h; cases h; exact hx), rfl⟩
  · have y1 : decide (Lib.compareBytes x.key k = 0) = false := decide_eq_false (fun h => c1 (hz.1 h))
    rw [if_neg c1] at hf
    simp -implicitDefEqProofs only [go_sem, reduceEqDiff, reduceAdd, reduceLeDiff, reduceLT, reduceMul, reduceEq, Int.reduceLT, reduceLE, Int.reduceAdd, reduceSub, reduceToNat, UInt8.reduceToNat, y1]
    exact Done.now ⟨i, by rw [hf]; rfl, (fun y h => by rw [hf] at h; cases h), rfl⟩
set_option maxHeartbeats 1600000 in
theorem foundS_calls (l : List SetV) (t : Tail) (k : Bytes) (H : Heap) (ha : Asc (·.key) l) (hl : l.length ≤ 1000000) :
    ACalls Tryz.prog 83 [.sl (l.map encSet) t, .str k, .func 43 []] H fun y H' => y = .tup [.agg (encSet ((getK (·.key) k l).getD SetV.zero)), .bool (getK (·.key) k l).isSome] ∧ H' = H := by
  have hS := Heap.Sub.rfl' H
  have hU : ∀ x ∈ l, (encSet x).length = 2 := fun _ _ => rfl
  have htt : ∀ x : SetV, (encSet x).take 2 = encSet x := fun _ => rfl
  refine ACalls.of_code (X := { pure := pu0 }) pu0_ok Tryz.func83 (by kernel_rfl) rfl (by kernel_rfl) (Nat.le_of_ble_eq_true rfl) ?_
  simp -implicitDefEqProofs only [go_sem, reduceEqDiff, reduceAdd, reduceLeDiff, reduceLT, reduceMul, reduceEq, Int.reduceLT, reduceLE, Int.reduceAdd, reduceSub, reduceToNat, UInt8.reduceToNat, Tryz.f83]
  with_reducible refine nwC_intro fun i5 hi5 => ?_
  generalize E5 : Heap.put H i5 _ = G1
  have hO_5 := obj_new E5 hi5 hS
  have n5 := hO_5.1
  have hS := hO_5.2.1
  have g5 := hO_5.2.2.1
  clear hO_5
  simp -implicitDefEqProofs only [go_sem, reduceEqDiff, reduceAdd, reduceLeDiff, reduceLT, reduceMul, reduceEq, Int.reduceLT, reduceLE, Int.reduceAdd, reduceSub, reduceToNat, UInt8.reduceToNat]
  with_reducible refine nwC_intro fun i6 hi6 => ?_
  generalize E6 : Heap.put G1 i6 _ = G2
  have hO_6 := obj_new E6 hi6 hS
  have n6 := hO_6.1
  have hS := hO_6.2.1
  have g6 := hO_6.2.2.1
  have d5_6 := obj_ne g5 hi6
  have g5 := hO_6.2.2.2 _ _ g5
  clear hO_6
  simp -implicitDefEqProofs only [go_sem, reduceEqDiff, reduceAdd, reduceLeDiff, reduceLT, reduceMul, reduceEq, Int.reduceLT, reduceLE, Int.reduceAdd, reduceSub, reduceToNat, UInt8.reduceToNat]
  refine (bsS_calls l t k i5 G2 g5 ha hl).mono ?_
  rintro y G3 ⟨i, rfl, hx, rfl⟩
  cases hg : getK (·.key) k l with
  | none =>
    simp -implicitDefEqProofs only [go_sem, reduceEqDiff, reduceAdd, reduceLeDiff, reduceLT, reduceMul, reduceEq, Int.reduceLT, reduceLE, Int.reduceAdd, reduceSub, reduceToNat, UInt8.reduceToNat, Option.isSome_none]
    with_reducible refine nwC_intro fun i10 hi10 => ?_
    have g6' := (put_ne G3 i10 i6 (.cells [.str [], .str []]) (obj_ne g6 hi10)).trans g6
    have gz := put_same G3 i10 (.cells [.str [], .str []])
    simp -implicitDefEqProofs only [go_sem, reduceEqDiff, reduceAdd, reduceLeDiff, reduceLT, reduceMul, reduceEq, Int.reduceLT, reduceLE, Int.reduceAdd, reduceSub, reduceToNat, UInt8.reduceToNat, g6', gz]
    refine Done.drop (Heap.Sub.put' (hS.put' (sub_none hS hi10) _) n6 _) ⟨rfl, rfl⟩
  | some x =>
    have hx := hx x hg
    simp -implicitDefEqProofs only [go_sem, reduceEqDiff, reduceAdd, reduceLeDiff, reduceLT, reduceMul, reduceEq, Int.reduceLT, reduceLE, Int.reduceAdd, reduceSub, reduceToNat, UInt8.reduceToNat, Option.isSome_some, hx, htt, g6]
    first
      | refine ⟨hU, ?_⟩
      | skip
    have ex := encSet.eq_1 x
    rw [ex]
    try simp -implicitDefEqProofs only [go_sem, reduceEqDiff, reduceAdd, reduceLeDiff, reduceLT, reduceMul, reduceEq, Int.reduceLT, reduceLE, Int.reduceAdd, reduceSub, reduceToNat, UInt8.reduceToNat, g6]
    refine Done.drop (hS.put' n6 _) ⟨by first | (rw [← ex]; done) | (rw [← ex]; rfl), rfl⟩
set_option maxHeartbeats 1600000 in
theorem askS_calls (m : MacV) (ta tb tc td : Tail) (l : List SetV) (t : Tail) (k : Bytes) (isF : FuncId) (isB : Bytes → Bool) (H : Heap) (hr : macR m) (hk : k.length ≤ 1099511627776)
    (hl : macErr m = 0 → Asc (·.key) l ∧ l.length ≤ 1000000) (his : puAk isF = some (sStr isB)) :
    ACalls Tryz.prog 42 [.agg (encMac m ta tb tc td), .sl (l.map encSet) t, .str k, .func isF [], .func 43 []] H fun y H' => y = .tup [.agg (encSet (askV (macErr m) (isB k) (getK (·.key) k l) SetV.zero).1), .int .i64 (askV (macErr m) (isB k) (getK (·.key) k l) SetV.zero).2] ∧ H' = H := by
  have hS := Heap.Sub.rfl' H
  have hR : Room = 1099511627776 := rfl
  have hck := fun G => check_calls m ta tb tc td G hr
  have q1 := sStr_eq isB k
  rw [hR, if_pos hk] at q1
  unfold encMac at hck
  refine ACalls.of_code (X := { pure := puAk }) puAk_ok Tryz.func42 (by kernel_rfl) rfl (by kernel_rfl) (Nat.le_of_ble_eq_true rfl) ?_
  simp -implicitDefEqProofs only [go_sem, reduceEqDiff, reduceAdd, reduceLeDiff, reduceLT, reduceMul, reduceEq, Int.reduceLT, reduceLE, Int.reduceAdd, reduceSub, reduceToNat, UInt8.reduceToNat, Tryz.f42, encMac]
  with_reducible refine nwC_intro fun i5 hi5 => ?_
  generalize E5 : Heap.put H i5 _ = G1
  have hO_5 := obj_new E5 hi5 hS
  have n5 := hO_5.1
  have hS := hO_5.2.1
  have g5 := hO_5.2.2.1
  clear hO_5
  simp -implicitDefEqProofs only [go_sem, reduceEqDiff, reduceAdd, reduceLeDiff, reduceLT, reduceMul, reduceEq, Int.reduceLT, reduceLE, Int.reduceAdd, reduceSub, reduceToNat, UInt8.reduceToNat]
  with_reducible refine nwC_intro fun i10 hi10 => ?_
  generalize E10 : Heap.put G1 i10 _ = G2
  have hO_10 := obj_new E10 hi10 hS
  have n10 := hO_10.1
  have hS := hO_10.2.1
  have g10 := hO_10.2.2.1
  have d5_10 := obj_ne g5 hi10
  have g5 := hO_10.2.2.2 _ _ g5
  clear hO_10
  simp -implicitDefEqProofs only [go_sem, reduceEqDiff, reduceAdd, reduceLeDiff, reduceLT, reduceMul, reduceEq, Int.reduceLT, reduceLE, Int.reduceAdd, reduceSub, reduceToNat, UInt8.reduceToNat]
  with_reducible refine nwC_intro fun i12 hi12 => ?_
  generalize E12 : Heap.put G2 i12 _ = G3
  have hO_12 := obj_new E12 hi12 hS
  have n12 := hO_12.1
  have hS := hO_12.2.1
  have g12 := hO_12.2.2.1
  have d5_12 := obj_ne g5 hi12
  have g5 := hO_12.2.2.2 _ _ g5
  have d10_12 := obj_ne g10 hi12
  have g10 := hO_12.2.2.2 _ _ g10
  clear hO_12
  simp -implicitDefEqProofs only [go_sem, reduceEqDiff, reduceAdd, reduceLeDiff, reduceLT, reduceMul, reduceEq, Int.reduceLT, reduceLE, Int.reduceAdd, reduceSub, reduceToNat, UInt8.reduceToNat, g5]
  have n1 : puAk 51 = none := rfl
  have n2 : puAk 83 = none := rfl
  simp -implicitDefEqProofs only [go_sem, reduceEqDiff, reduceAdd, reduceLeDiff, reduceLT, reduceMul, reduceEq, Int.reduceLT, reduceLE, Int.reduceAdd, reduceSub, reduceToNat, UInt8.reduceToNat, n1]
  refine (hck G3).pure_next _ ?_
  unfold askV
  by_cases c0 : macErr m = 0
  rotate_left
  · have y0 : decide (¬ macErr m = 0) = true := decide_eq_true c0
    rw [if_pos c0]
    simp -implicitDefEqProofs only [go_sem, reduceEqDiff, reduceAdd, reduceLeDiff, reduceLT, reduceMul, reduceEq, Int.reduceLT, reduceLE, Int.reduceAdd, reduceSub, reduceToNat, UInt8.reduceToNat, y0, g12, g10]
    exact Done.drop (hS.put' n10 _) ⟨rfl, rfl⟩
  have y0 : decide (¬ macErr m = 0) = false := decide_eq_false (by simpa using c0)
  rw [if_neg (by simpa using c0)]
  obtain ⟨ha, hll⟩ := hl c0
  cases hb : isB k with
  | false =>
    rw [hb] at q1
    rw [if_pos rfl]
    simp -implicitDefEqProofs only [go_sem, reduceEqDiff, reduceAdd, reduceLeDiff, reduceLT, reduceMul, reduceEq, Int.reduceLT, reduceLE, Int.reduceAdd, reduceSub, reduceToNat, UInt8.reduceToNat, y0, his, q1, g12, g10]
    exact Done.drop (hS.put' n10 _) ⟨rfl, rfl⟩
  | true =>
    rw [hb] at q1
    rw [if_neg (by simp)]
    simp -implicitDefEqProofs only [go_sem, reduceEqDiff, reduceAdd, reduceLeDiff, reduceLT, reduceMul, reduceEq, Int.reduceLT, reduceLE, Int.reduceAdd, reduceSub, reduceToNat, UInt8.reduceToNat, y0, his, q1, n2]
    refine (foundS_calls l t k G3 ha hll).pure_next _ ?_
    cases hg : getK (·.key) k l with
    | none =>
      simp only [Option.getD_none, Option.isSome_none]
      simp -implicitDefEqProofs only [go_sem, reduceEqDiff, reduceAdd, reduceLeDiff, reduceLT, reduceMul, reduceEq, Int.reduceLT, reduceLE, Int.reduceAdd, reduceSub, reduceToNat, UInt8.reduceToNat, SetV.zero, encSet]
      with_reducible refine nwC_intro fun i14 hi14 => ?_
      have g12' := fun o => (put_ne G3 i14 i12 o (obj_ne g12 hi14)).trans g12
      have g10' := fun o => (put_ne G3 i14 i10 o (obj_ne g10 hi14)).trans g10
      have gz := put_same G3 i14 (.cells [.str [], .str []])
      simp -implicitDefEqProofs only [go_sem, reduceEqDiff, reduceAdd, reduceLeDiff, reduceLT, reduceMul, reduceEq, Int.reduceLT, reduceLE, Int.reduceAdd, reduceSub, reduceToNat, UInt8.reduceToNat, g12', g10', gz]
      exact Done.drop (Heap.Sub.put' (hS.put' (sub_none hS hi14) _) n10 _) ⟨rfl, rfl⟩
    | some x =>
      simp only [Option.getD_some, Option.isSome_some]
      have ex := encSet.eq_1 x
      rw [ex]
      simp -implicitDefEqProofs only [go_sem, reduceEqDiff, reduceAdd, reduceLeDiff, reduceLT, reduceMul, reduceEq, Int.reduceLT, reduceLE, Int.reduceAdd, reduceSub, reduceToNat, UInt8.reduceToNat]
      with_reducible refine nwC_intro fun i14 hi14 => ?_
      generalize E14 : Heap.put G3 i14 _ = G4
      have hO_14 := obj_new E14 hi14 hS
      have n14 := hO_14.1
      have hS := hO_14.2.1
      have g14 := hO_14.2.2.1
      have d5_14 := obj_ne g5 hi14
      have g5 := hO_14.2.2.2 _ _ g5
      have d10_14 := obj_ne g10 hi14
      have g10 := hO_14.2.2.2 _ _ g10
      have d12_14 := obj_ne g12 hi14
      have g12 := hO_14.2.2.2 _ _ g12
      clear hO_14
      simp -implicitDefEqProofs only [go_sem, reduceEqDiff, reduceAdd, reduceLeDiff, reduceLT, reduceMul, reduceEq, Int.reduceLT, reduceLE, Int.reduceAdd, reduceSub, reduceToNat, UInt8.reduceToNat, g14]
      generalize E14 : Heap.put G4 i14 _ = G5
      have hS := obj_sub E14 n14 hS
      have g14 := obj_at E14
      have g5 := obj_keep E14 (by first | exact d5_14 | exact fun e => d14_5 e.symm) g5
      have g10 := obj_keep E14 (by first | exact d10_14 | exact fun e => d14_10 e.symm) g10
      have g12 := obj_keep E14 (by first | exact d12_14 | exact fun e => d14_12 e.symm) g12
      simp -implicitDefEqProofs only [go_sem, reduceEqDiff, reduceAdd, reduceLeDiff, reduceLT, reduceMul, reduceEq, Int.reduceLT, reduceLE, Int.reduceAdd, reduceSub, reduceToNat, UInt8.reduceToNat, g14, g10]
      exact Done.drop (hS.put' n10 _) ⟨by rw [← ex], rfl⟩
/-! ### File -/
theorem cmpFF_calls (x : FileV) (k : Bytes) (c : Nat) (G : Heap) (hc : G c = some (.cells [.func 46 []])) :
    ACalls Tryz.prog 118 [.agg (encFile x), .str k, .ptr c 0] G fun y G' => y = .int .i64 (Lib.compareBytes x.path k) ∧ G' = G := by
  have q1 : sPathO [.agg (encFile x)] = some (.str x.path) := rfl
  have q2 := sCmpS_eq x.path k
  have ex := encFile.eq_1 x
  rw [ex] at q1 ⊢
  refine ACalls.of_code (X := { pure := puSd }) puSd_ok Tryz.func118 (by kernel_rfl) rfl (by kernel_rfl) (Nat.le_of_ble_eq_true rfl) ?_
  simp -implicitDefEqProofs only [go_sem, reduceEqDiff, reduceAdd, reduceLeDiff, reduceLT, reduceMul, reduceEq, Int.reduceLT, reduceLE, Int.reduceAdd, reduceSub, reduceToNat, UInt8.reduceToNat, Tryz.f118]
  with_reducible refine nwC_intro fun i3 hi3 => ?_
  have hc2 := fun o => (put_ne G i3 c o (obj_ne hc hi3)).trans hc
  have g3 := put_same G i3 (.cells (encFile x))
  rw [ex] at g3
  try simp -implicitDefEqProofs only [go_sem, reduceEqDiff, reduceAdd, reduceLeDiff, reduceLT, reduceMul, reduceEq, Int.reduceLT, reduceLE, Int.reduceAdd, reduceSub, reduceToNat, UInt8.reduceToNat, hc2, g3, q1, q2, puSd]
  exact Done.drop1 hi3 ⟨rfl, rfl⟩
def BsF (l : List FileV) (t : Tail) (k : Bytes) (c : Nat) (G0 : Heap) (r : Regs) (G : Heap) : Prop := ∃ i, i ≤ l.length ∧ Brack (·.path) l k i i ∧ G = G0 ∧ r 0 = .sl (l.map encFile) t ∧ r 1 = .str k ∧ r 2 = .func 118 [.ptr c 0] ∧ r 8 = .int .i64 l.length ∧ r 9 = .int .i64 i
set_option maxHeartbeats 3200000 in
theorem bsF_calls (l : List FileV) (t : Tail) (k : Bytes) (c : Nat) (G : Heap) (hc : G c = some (.cells [.func 46 []])) (ha : Asc (·.path) l) (hl : l.length ≤ 1000000) :
    ACalls Tryz.prog 117 [.sl (l.map encFile) t, .str k, .func 118 [.ptr c 0]] G fun y G' => ∃ i : Nat, y = .tup [.int .i64 i, .bool (getK (·.path) k l).isSome] ∧ (∀ x, getK (·.path) k l = some x → l[i]? = some x) ∧ G' = G := by
  have hU : ∀ x ∈ l, (encFile x).length = 3 := fun _ _ => rfl
  have htt : ∀ x : FileV, (encFile x).take 3 = encFile x := fun _ => rfl
  refine ACalls.of_code (X := { pure := pu0 }) pu0_ok Tryz.func117 (by kernel_rfl) rfl (by kernel_rfl) (Nat.le_of_ble_eq_true rfl) ?_
  simp -implicitDefEqProofs only [go_sem, reduceEqDiff, reduceAdd, reduceLeDiff, reduceLT, reduceMul, reduceEq, Int.reduceLT, reduceLE, Int.reduceAdd, reduceSub, reduceToNat, UInt8.reduceToNat, Tryz.f117]
  with_reducible refine aloop_cut 0 (BsF l t k c G) ?_ ?_
  rotate_left
  · refine aloop_intro (σ := Nat × Nat) (fun s => [(0, .sl (l.map encFile) t), (1, .str k), (2, .func 118 [.ptr c 0]), (8, .int .i64 l.length), (9, .int .i64 s.1), (10, .int .i64 s.2)])
      (fun s G' => s.1 ≤ s.2 ∧ s.2 ≤ l.length ∧ Brack (·.path) l k s.1 s.2 ∧ G' = G) (fun s => s.2 - s.1) (0, l.length) ?_ ?_ ?_
    · simp -implicitDefEqProofs only [go_sem, reduceEqDiff, reduceAdd, reduceLeDiff, reduceLT, reduceMul, reduceEq, Int.reduceLT, reduceLE, Int.reduceAdd, reduceSub, reduceToNat, UInt8.reduceToNat]
    · exact ⟨Nat.zero_le _, Nat.le_refl _, ⟨fun a x h => absurd h (by omega), fun a x h hx => by have := (List.getElem?_eq_some_iff.1 hx).1; omega⟩, rfl⟩
    rintro ⟨i, j⟩ r G' hv ⟨hi, hj, hb, rfl⟩
    simp only at hi hj hb
    have e0 := hv.1
    have e1 := hv.2.1
    have e2 := hv.2.2.1
    have e8 := hv.2.2.2.1
    have e9 := hv.2.2.2.2.1
    have e10 := hv.2.2.2.2.2.1
    simp only at e9 e10
    clear hv
    by_cases g : i < j
    rotate_left
    · have y0 : decide ((i : Int) < j) = false := decide_eq_false (by omega)
      obtain rfl : i = j := by omega
      simp -implicitDefEqProofs only [go_sem, reduceEqDiff, reduceAdd, reduceLeDiff, reduceLT, reduceMul, reduceEq, Int.reduceLT, reduceLE, Int.reduceAdd, reduceSub, reduceToNat, UInt8.reduceToNat, e0, e1, e2, e8, e9, e10, y0]
      exact ⟨i, hj, hb, rfl, by simp -implicitDefEqProofs only [go_sem, reduceEqDiff, reduceAdd, reduceLeDiff, reduceLT, reduceMul, reduceEq, Int.reduceLT, reduceLE, Int.reduceAdd, reduceSub, reduceToNat, UInt8.reduceToNat, e0], by simp -implicitDefEqProofs only [go_sem, reduceEqDiff, reduceAdd, reduceLeDiff, reduceLT, reduceMul, reduceEq, Int.reduceLT, reduceLE, Int.reduceAdd, reduceSub, reduceToNat, UInt8.reduceToNat, e1], by simp -implicitDefEqProofs only [go_sem, reduceEqDiff, reduceAdd, reduceLeDiff, reduceLT, reduceMul, reduceEq, Int.reduceLT, reduceLE, Int.reduceAdd, reduceSub, reduceToNat, UInt8.reduceToNat, e2], by simp -implicitDefEqProofs only [go_sem, reduceEqDiff, reduceAdd, reduceLeDiff, reduceLT, reduceMul, reduceEq, Int.reduceLT, reduceLE, Int.reduceAdd, reduceSub, reduceToNat, UInt8.reduceToNat, e8], by simp -implicitDefEqProofs only [go_sem, reduceEqDiff, reduceAdd, reduceLeDiff, reduceLT, reduceMul, reduceEq, Int.reduceLT, reduceLE, Int.reduceAdd, reduceSub, reduceToNat, UInt8.reduceToNat, e9]⟩
    have y0 : decide ((i : Int) < j) = true := decide_eq_true (by omega)
    have w1 : IntKind.i64.wrap ((i : Int) + j) = ((i + j : Nat) : Int) := by rw [Go.IntWalk.i64_in _ (by omega)]; omega
    have w2 : IntKind.u64.wrap ((i + j : Nat) : Int) = ((i + j : Nat) : Int) := Go.IntWalk.u64_in _ (by omega)
    have w3 := shrN (i + j) 1 1 rfl (by omega)
    have w5 : (i + j) / 2 ^ 1 = (i + j) / 2 := rfl
    rw [w5] at w3
    have w4 : IntKind.i64.wrap (((i + j) / 2 : Nat) : Int) = (((i + j) / 2 : Nat) : Int) := Go.IntWalk.i64_in _ (by omega)
    generalize hm : (i + j) / 2 = m at *
    have hmi : i ≤ m ∧ m < j := by omega
    obtain ⟨x, hx⟩ : ∃ x, l[m]? = some x := getD_get' (by omega)
    have w6 : IntKind.i64.wrap ((m : Int) + 1) = ((m + 1 : Nat) : Int) := by rw [Go.IntWalk.i64_in _ (by omega)]; omega
    have z1 : decide ((1 : Int) < 0) = false := rfl
    have hcm := cmpFF_calls x k c G' hc
    have hlt := cmp_lt x.path k
    simp -implicitDefEqProofs only [go_sem, reduceEqDiff, reduceAdd, reduceLeDiff, reduceLT, reduceMul, reduceEq, Int.reduceLT, reduceLE, Int.reduceAdd, reduceSub, reduceToNat, UInt8.reduceToNat, e0, e1, e2, e8, e9, e10, y0, w1, w2, w3, w4, z1, hx, htt]
    refine ⟨hU, Nat.le_refl _, ?_⟩
    refine hcm.pure_next _ ?_
    by_cases c1 : Lib.compareBytes x.path k < 0
    · have y1 : decide (Lib.compareBytes x.path k < 0) = true := decide_eq_true c1
      simp -implicitDefEqProofs only [go_sem, reduceEqDiff, reduceAdd, reduceLeDiff, reduceLT, reduceMul, reduceEq, Int.reduceLT, reduceLE, Int.reduceAdd, reduceSub, reduceToNat, UInt8.reduceToNat, e0, e1, e2, e8, e9, e10, y1, w6]
      exact Again.mk (m + 1, j) (by simp -implicitDefEqProofs only [go_sem, reduceEqDiff, reduceAdd, reduceLeDiff, reduceLT, reduceMul, reduceEq, Int.reduceLT, reduceLE, Int.reduceAdd, reduceSub, reduceToNat, UInt8.reduceToNat, e0, e1, e2, e8, e9, e10]) ⟨by simp only; omega, hj, hb.right ha hx (hlt.1 c1), rfl⟩ (by simp only; omega)
    · have y1 : decide (Lib.compareBytes x.path k < 0) = false := decide_eq_false c1
      simp -implicitDefEqProofs only [go_sem, reduceEqDiff, reduceAdd, reduceLeDiff, reduceLT, reduceMul, reduceEq, Int.reduceLT, reduceLE, Int.reduceAdd, reduceSub, reduceToNat, UInt8.reduceToNat, e0, e1, e2, e8, e9, e10, y1]
      exact Again.mk (i, m) (by simp -implicitDefEqProofs only [go_sem, reduceEqDiff, reduceAdd, reduceLeDiff, reduceLT, reduceMul, reduceEq, Int.reduceLT, reduceLE, Int.reduceAdd, reduceSub, reduceToNat, UInt8.reduceToNat, e0, e1, e2, e8, e9, e10]) ⟨by simp only; omega, by simp only; omega, hb.left ha hx (by cases hh : strLt x.path k with | false => rfl | true => exact absurd (hlt.2 hh) c1), rfl⟩ (by simp only; omega)
  rintro r G' ⟨i, hi, hb, rfl, e0, e1, e2, e8, e9⟩
  have hf := hb.found ha
  by_cases g : i < l.length
  rotate_left
  · have y0 : decide ((i : Int) < l.length) = false := decide_eq_false (by omega)
    rw [List.getElem?_eq_none (by omega)] at hf
    simp only at hf
    simp -implicitDefEqProofs only [go_sem, reduceEqDiff, reduceAdd, reduceLeDiff, reduceLT, reduceMul, reduceEq, Int.reduceLT, reduceLE, Int.reduceAdd, reduceSub, reduceToNat, UInt8.reduceToNat, e0, e1, e2, e8, e9, y0]
    exact Done.now ⟨i, by rw [hf]; rfl, (fun x h => by rw [hf] at h; cases h), rfl⟩
  have y0 : decide ((i : Int) < l.length) = true := decide_eq_true (by omega)
  obtain ⟨x, hx⟩ : ∃ x, l[i]? = some x := getD_get' g
  rw [hx] at hf
  simp only at hf
  have hcm := cmpFF_calls x k c G' hc
  have hz := cmp_zero x.path k
  simp -implicitDefEqProofs only [go_sem, reduceEqDiff, reduceAdd, reduceLeDiff, reduceLT, reduceMul, reduceEq, Int.reduceLT, reduceLE, Int.reduceAdd, reduceSub, reduceToNat, UInt8.reduceToNat, e0, e1, e2, e8, e9, y0, hx, htt]
  refine ⟨hU, Nat.le_refl _, ?_⟩
  refine hcm.pure_next _ ?_
  by_cases c1 : x.path = k
  · have y1 : decide (Lib.compareBytes x.path k = 0) = true := decide_eq_true (hz.2 c1)
    rw [if_pos c1] at hf
    simp -implicitDefEqProofs only [go_sem, reduceEqDiff, reduceAdd, reduceLeDiff, reduceLT, reduceMul, reduceEq, Int.reduceLT, reduceLE, Int.reduceAdd, reduceSub, reduceToNat, UInt8.reduceToNat, y1]
    exact Done.now ⟨i, by rw [hf]; rfl, (fun y h => by rw [hf] at h; cases h; exact hx), rfl⟩
  · have y1 : decide (Lib.compareBytes x.path k = 0) = false := decide_eq_false (fun h => c1 (hz.1 h))
    rw [if_neg c1] at hf
    simp -implicitDefEqProofs only [go_sem, reduceEqDiff, reduceAdd, reduceLeDiff, reduceLT, reduceMul, reduceEq, Int.reduceLT, reduceLE, Int.reduceAdd, reduceSub, reduceToNat, UInt8.reduceToNat, y1]
    exact Done.now ⟨i, by rw [hf]; rfl, (fun y h => by rw [hf] at h; cases h), rfl⟩
set_option maxHeartbeats 1600000 in
theorem foundF_calls (l : List FileV) (t : Tail) (k : Bytes) (H : Heap) (ha : Asc (·.path) l) (hl : l.length ≤ 1000000) :
    ACalls Tryz.prog 84 [.sl (l.map encFile) t, .str k, .func 46 []] H fun y H' => y = .tup [.agg (encFile ((getK (·.path) k l).getD FileV.zero)), .bool (getK (·.path) k l).isSome] ∧ H' = H := by
  have hS := Heap.Sub.rfl' H
  have hU : ∀ x ∈ l, (encFile x).length = 3 := fun _ _ => rfl
  have htt : ∀ x : FileV, (encFile x).take 3 = encFile x := fun _ => rfl
  refine ACalls.of_code (X := { pure := pu0 }) pu0_ok Tryz.func84 (by kernel_rfl) rfl (by kernel_rfl) (Nat.le_of_ble_eq_true rfl) ?_
  simp -implicitDefEqProofs only [go_sem, reduceEqDiff, reduceAdd, reduceLeDiff, reduceLT, reduceMul, reduceEq, Int.reduceLT, reduceLE, Int.reduceAdd, reduceSub, reduceToNat, UInt8.reduceToNat, Tryz.f84]
  with_reducible refine nwC_intro fun i5 hi5 => ?_
  generalize E5 : Heap.put H i5 _ = G1
  have hO_5 := obj_new E5 hi5 hS
  have n5 := hO_5.1
  have hS := hO_5.2.1
  have g5 := hO_5.2.2.1
  clear hO_5
  simp -implicitDefEqProofs only [go_sem, reduceEqDiff, reduceAdd, reduceLeDiff, reduceLT, reduceMul, reduceEq, Int.reduceLT, reduceLE, Int.reduceAdd, reduceSub, reduceToNat, UInt8.reduceToNat]
  with_reducible refine nwC_intro fun i6 hi6 => ?_
  generalize E6 : Heap.put G1 i6 _ = G2
  have hO_6 := obj_new E6 hi6 hS
  have n6 := hO_6.1
  have hS := hO_6.2.1
  have g6 := hO_6.2.2.1
  have d5_6 := obj_ne g5 hi6
  have g5 := hO_6.2.2.2 _ _ g5
  clear hO_6
  simp -implicitDefEqProofs only [go_sem, reduceEqDiff, reduceAdd, reduceLeDiff, reduceLT, reduceMul, reduceEq, Int.reduceLT, reduceLE, Int.reduceAdd, reduceSub, reduceToNat, UInt8.reduceToNat]
  refine (bsF_calls l t k i5 G2 g5 ha hl).mono ?_
  rintro y G3 ⟨i, rfl, hx, rfl⟩
  cases hg : getK (·.path) k l with
  | none =>
    simp -implicitDefEqProofs only [go_sem, reduceEqDiff, reduceAdd, reduceLeDiff, reduceLT, reduceMul, reduceEq, Int.reduceLT, reduceLE, Int.reduceAdd, reduceSub, reduceToNat, UInt8.reduceToNat, Option.isSome_none]
    with_reducible refine nwC_intro fun i10 hi10 => ?_
    have g6' := (put_ne G3 i10 i6 (.cells [.str [], .str [], .bool false]) (obj_ne g6 hi10)).trans g6
    have gz := put_same G3 i10 (.cells [.str [], .str [], .bool false])
    simp -implicitDefEqProofs only [go_sem, reduceEqDiff, reduceAdd, reduceLeDiff, reduceLT, reduceMul, reduceEq, Int.reduceLT, reduceLE, Int.reduceAdd, reduceSub, reduceToNat, UInt8.reduceToNat, g6', gz]
    refine Done.drop (Heap.Sub.put' (hS.put' (sub_none hS hi10) _) n6 _) ⟨rfl, rfl⟩
  | some x =>
    have hx := hx x hg
    simp -implicitDefEqProofs only [go_sem, reduceEqDiff, reduceAdd, reduceLeDiff, reduceLT, reduceMul, reduceEq, Int.reduceLT, reduceLE, Int.reduceAdd, reduceSub, reduceToNat, UInt8.reduceToNat, Option.isSome_some, hx, htt, g6]
    first
      | refine ⟨hU, ?_⟩
      | skip
    have ex := encFile.eq_1 x
    rw [ex]
    try simp -implicitDefEqProofs only [go_sem, reduceEqDiff, reduceAdd, reduceLeDiff, reduceLT, reduceMul, reduceEq, Int.reduceLT, reduceLE, Int.reduceAdd, reduceSub, reduceToNat, UInt8.reduceToNat, g6]
    refine Done.drop (hS.put' n6 _) ⟨by first | (rw [← ex]; done) | (rw [← ex]; rfl), rfl⟩
set_option maxHeartbeats 1600000 in
theorem askF_calls (m : MacV) (ta tb tc td : Tail) (l : List FileV) (t : Tail) (k : Bytes) (isF : FuncId) (isB : Bytes → Bool) (H : Heap) (hr : macR m) (hk : k.length ≤ 1099511627776)
    (hl : macErr m = 0 → Asc (·.path) l ∧ l.length ≤ 1000000) (his : puAk isF = some (sStr isB)) :
    ACalls Tryz.prog 44 [.agg (encMac m ta tb tc td), .sl (l.map encFile) t, .str k, .func isF [], .func 46 []] H fun y H' => y = .tup [.agg (encFile (askV (macErr m) (isB k) (getK (·.path) k l) FileV.zero).1), .int .i64 (askV (macErr m) (isB k) (getK (·.path) k l) FileV.zero).2] ∧ H' = H := by
  have hS := Heap.Sub.rfl' H
  have hR : Room = 1099511627776 := rfl
  have hck := fun G => check_calls m ta tb tc td G hr
  have q1 := sStr_eq isB k
  rw [hR, if_pos hk] at q1
  unfold encMac at hck
  refine ACalls.of_code (X := { pure := puAk }) puAk_ok Tryz.func44 (by kernel_rfl) rfl (by kernel_rfl) (Nat.le_of_ble_eq_true rfl) ?_
  simp -implicitDefEqProofs only [go_sem, reduceEqDiff, reduceAdd, reduceLeDiff, reduceLT, reduceMul, reduceEq, Int.reduceLT, reduceLE, Int.reduceAdd, reduceSub, reduceToNat, UInt8.reduceToNat, Tryz.f44, encMac]
  with_reducible refine nwC_intro fun i5 hi5 => ?_
  generalize E5 : Heap.put H i5 _ = G1
  have hO_5 := obj_new E5 hi5 hS
  have n5 := hO_5.1
  have hS := hO_5.2.1
  have g5 := hO_5.2.2.1
  clear hO_5
  simp -implicitDefEqProofs only [go_sem, reduceEqDiff, reduceAdd, reduceLeDiff, reduceLT, reduceMul, reduceEq, Int.reduceLT, reduceLE, Int.reduceAdd, reduceSub, reduceToNat, UInt8.reduceToNat]
  with_reducible refine nwC_intro fun i10 hi10 => ?_
  generalize E10 : Heap.put G1 i10 _ = G2
  have hO_10 := obj_new E10 hi10 hS
  have n10 := hO_10.1
  have hS := hO_10.2.1
  have g10 := hO_10.2.2.1
  have d5_10 := obj_ne g5 hi10
  have g5 := hO_10.2.2.2 _ _ g5
  clear hO_10
  simp -implicitDefEqProofs only [go_sem, reduceEqDiff, reduceAdd, reduceLeDiff, reduceLT, reduceMul, reduceEq, Int.reduceLT, reduceLE, Int.reduceAdd, reduceSub, reduceToNat, UInt8.reduceToNat]
  with_reducible refine nwC_intro fun i12 hi12 => ?_
  generalize E12 : Heap.put G2 i12 _ = G3
  have hO_12 := obj_new E12 hi12 hS
  have n12 := hO_12.1
  have hS := hO_12.2.1
  have g12 := hO_12.2.2.1
  have d5_12 := obj_ne g5 hi12
  have g5 := hO_12.2.2.2 _ _ g5
  have d10_12 := obj_ne g10 hi12
  have g10 := hO_12.2.2.2 _ _ g10
  clear hO_12
  simp -implicitDefEqProofs only [go_sem, reduceEqDiff, reduceAdd, reduceLeDiff, reduceLT, reduceMul, reduceEq, Int.reduceLT, reduceLE, Int.reduceAdd, reduceSub, reduceToNat, UInt8.reduceToNat, g5]
  have n1 : puAk 51 = none := rfl
  have n2 : puAk 84 = none := rfl
  simp -implicitDefEqProofs only [go_sem, reduceEqDiff, reduceAdd, reduceLeDiff, reduceLT, reduceMul, reduceEq, Int.reduceLT, reduceLE, Int.reduceAdd, reduceSub, reduceToNat, UInt8.reduceToNat, n1]
  refine (hck G3).pure_next _ ?_
  unfold askV
  by_cases c0 : macErr m = 0
  rotate_left
  · have y0 : decide (¬ macErr m = 0) = true := decide_eq_true c0
    rw [if_pos c0]
    simp -implicitDefEqProofs only [go_sem, reduceEqDiff, reduceAdd, reduceLeDiff, reduceLT, reduceMul, reduceEq, Int.reduceLT, reduceLE, Int.reduceAdd, reduceSub, reduceToNat, UInt8.reduceToNat, y0, g12, g10]
    exact Done.drop (hS.put' n10 _) ⟨rfl, rfl⟩
  have y0 : decide (¬ macErr m = 0) = false := decide_eq_false (by simpa using c0)
  rw [if_neg (by simpa using c0)]
  obtain ⟨ha, hll⟩ := hl c0
  cases hb : isB k with
  | false =>
    rw [hb] at q1
    rw [if_pos rfl]
    simp -implicitDefEqProofs only [go_sem, reduceEqDiff, reduceAdd, reduceLeDiff, reduceLT, reduceMul, reduceEq, Int.reduceLT, reduceLE, Int.reduceAdd, reduceSub, reduceToNat, UInt8.reduceToNat, y0, his, q1, g12, g10]
    exact Done.drop (hS.put' n10 _) ⟨rfl, rfl⟩
  | true =>
    rw [hb] at q1
    rw [if_neg (by simp)]
    simp -implicitDefEqProofs only [go_sem, reduceEqDiff, reduceAdd, reduceLeDiff, reduceLT, reduceMul, reduceEq, Int.reduceLT, reduceLE, Int.reduceAdd, reduceSub, reduceToNat, UInt8.reduceToNat, y0, his, q1, n2]
    refine (foundF_calls l t k G3 ha hll).pure_next _ ?_
    cases hg : getK (·.path) k l with
    | none =>
      simp only [Option.getD_none, Option.isSome_none]
      simp -implicitDefEqProofs only [go_sem, reduceEqDiff, reduceAdd, reduceLeDiff, reduceLT, reduceMul, reduceEq, Int.reduceLT, reduceLE, Int.reduceAdd, reduceSub, reduceToNat, UInt8.reduceToNat, FileV.zero, encFile]
      with_reducible refine nwC_intro fun i14 hi14 => ?_
      have g12' := fun o => (put_ne G3 i14 i12 o (obj_ne g12 hi14)).trans g12
      have g10' := fun o => (put_ne G3 i14 i10 o (obj_ne g10 hi14)).trans g10
      have gz := put_same G3 i14 (.cells [.str [], .str [], .bool false])
      simp -implicitDefEqProofs only [go_sem, reduceEqDiff, reduceAdd, reduceLeDiff, reduceLT, reduceMul, reduceEq, Int.reduceLT, reduceLE, Int.reduceAdd, reduceSub, reduceToNat, UInt8.reduceToNat, g12', g10', gz]
      exact Done.drop (Heap.Sub.put' (hS.put' (sub_none hS hi14) _) n10 _) ⟨rfl, rfl⟩
    | some x =>
      simp only [Option.getD_some, Option.isSome_some]
      have ex := encFile.eq_1 x
      rw [ex]
      simp -implicitDefEqProofs only [go_sem, reduceEqDiff, reduceAdd, reduceLeDiff, reduceLT, reduceMul, reduceEq, Int.reduceLT, reduceLE, Int.reduceAdd, reduceSub, reduceToNat, UInt8.reduceToNat]
      with_reducible refine nwC_intro fun i14 hi14 => ?_
      generalize E14 : Heap.put G3 i14 _ = G4
      have hO_14 := obj_new E14 hi14 hS
      have n14 := hO_14.1
      have hS := hO_14.2.1
      have g14 := hO_14.2.2.1
      have d5_14 := obj_ne g5 hi14
      have g5 := hO_14.2.2.2 _ _ g5
      have d10_14 := obj_ne g10 hi14
      have g10 := hO_14.2.2.2 _ _ g10
      have d12_14 := obj_ne g12 hi14
      have g12 := hO_14.2.2.2 _ _ g12
      clear hO_14
      simp -implicitDefEqProofs only [go_sem, reduceEqDiff, reduceAdd, reduceLeDiff, reduceLT, reduceMul, reduceEq, Int.reduceLT, reduceLE, Int.reduceAdd, reduceSub, reduceToNat, UInt8.reduceToNat, g14]
      generalize E14 : Heap.put G4 i14 _ = G5
      have hS := obj_sub E14 n14 hS
      have g14 := obj_at E14
      have g5 := obj_keep E14 (by first | exact d5_14 | exact fun e => d14_5 e.symm) g5
      have g10 := obj_keep E14 (by first | exact d10_14 | exact fun e => d14_10 e.symm) g10
      have g12 := obj_keep E14 (by first | exact d12_14 | exact fun e => d14_12 e.symm) g12
      simp -implicitDefEqProofs only [go_sem, reduceEqDiff, reduceAdd, reduceLeDiff, reduceLT, reduceMul, reduceEq, Int.reduceLT, reduceLE, Int.reduceAdd, reduceSub, reduceToNat, UInt8.reduceToNat, g14, g10]
      exact Done.drop (hS.put' n10 _) ⟨by rw [← ex], rfl⟩
/-! ### Service -/
theorem cmpFV_calls (x : SvcV) (k : Bytes) (c : Nat) (G : Heap) (hc : G c = some (.cells [.func 50 []])) :
    ACalls Tryz.prog 123 [.agg (encSvc x), .str k, .ptr c 0] G fun y G' => y = .int .i64 (Lib.compareBytes x.name k) ∧ G' = G := by
  have q1 : sNameO [.agg (encSvc x)] = some (.str x.name) := rfl
  have q2 := sCmpS_eq x.name k
  have ex := encSvc.eq_1 x
  rw [ex] at q1 ⊢
  refine ACalls.of_code (X := { pure := puSd }) puSd_ok Tryz.func123 (by kernel_rfl) rfl (by kernel_rfl) (Nat.le_of_ble_eq_true rfl) ?_
  simp -implicitDefEqProofs only [go_sem, reduceEqDiff, reduceAdd, reduceLeDiff, reduceLT, reduceMul, reduceEq, Int.reduceLT, reduceLE, Int.reduceAdd, reduceSub, reduceToNat, UInt8.reduceToNat, Tryz.f123]
  with_reducible refine nwC_intro fun i3 hi3 => ?_
  have hc2 := fun o => (put_ne G i3 c o (obj_ne hc hi3)).trans hc
  have g3 := put_same G i3 (.cells (encSvc x))
  rw [ex] at g3
  try simp -implicitDefEqProofs only [go_sem, reduceEqDiff, reduceAdd, reduceLeDiff, reduceLT, reduceMul, reduceEq, Int.reduceLT, reduceLE, Int.reduceAdd, reduceSub, reduceToNat, UInt8.reduceToNat, hc2, g3, q1, q2, puSd]
  exact Done.drop1 hi3 ⟨rfl, rfl⟩
def BsV (l : List SvcV) (t : Tail) (k : Bytes) (c : Nat) (G0 : Heap) (r : Regs) (G : Heap) : Prop := ∃ i, i ≤ l.length ∧ Brack (·.name) l k i i ∧ G = G0 ∧ r 0 = .sl (l.map encSvc) t ∧ r 1 = .str k ∧ r 2 = .func 123 [.ptr c 0] ∧ r 8 = .int .i64 l.length ∧ r 9 = .int .i64 i
set_option maxHeartbeats 3200000 in
theorem bsV_calls (l : List SvcV) (t : Tail) (k : Bytes) (c : Nat) (G : Heap) (hc : G c = some (.cells [.func 50 []])) (ha : Asc (·.name) l) (hl : l.length ≤ 1000000) :
    ACalls Tryz.prog 122 [.sl (l.map encSvc) t, .str k, .func 123 [.ptr c 0]] G fun y G' => ∃ i : Nat, y = .tup [.int .i64 i, .bool (getK (·.name) k l).isSome] ∧ (∀ x, getK (·.name) k l = some x → l[i]? = some x) ∧ G' = G := by
  have hU : ∀ x ∈ l, (encSvc x).length = 4 := fun _ _ => rfl
  have htt : ∀ x : SvcV, (encSvc x).take 4 = encSvc x := fun _ => rfl
  refine ACalls.of_code (X := { pure := pu0 }) pu0_ok Tryz.func122 (by kernel_rfl) rfl (by kernel_rfl) (Nat.le_of_ble_eq_true rfl) ?_
  simp -implicitDefEqProofs only [go_sem, reduceEqDiff, reduceAdd, reduceLeDiff, reduceLT, reduceMul, reduceEq, Int.reduceLT, reduceLE, Int.reduceAdd, reduceSub, reduceToNat, UInt8.reduceToNat, Tryz.f122]
  with_reducible refine aloop_cut 0 (BsV l t k c G) ?_ ?_
  rotate_left
  · refine aloop_intro (σ := Nat × Nat) (fun s => [(0, .sl (l.map encSvc) t), (1, .str k), (2, .func 123 [.ptr c 0]), (8, .int .i64 l.length), (9, .int .i64 s.1), (10, .int .i64 s.2)])
      (fun s G' => s.1 ≤ s.2 ∧ s.2 ≤ l.length ∧ Brack (·.name) l k s.1 s.2 ∧ G' = G) (fun s => s.2 - s.1) (0, l.length) ?_ ?_ ?_
    · simp -implicitDefEqProofs only [go_sem, reduceEqDiff, reduceAdd, reduceLeDiff, reduceLT, reduceMul, reduceEq, Int.reduceLT, reduceLE, Int.reduceAdd, reduceSub, reduceToNat, UInt8.reduceToNat]
    · exact ⟨Nat.zero_le _, Nat.le_refl _, ⟨fun a x h => absurd h (by omega), fun a x h hx => by have := (List.getElem?_eq_some_iff.1 hx).1; omega⟩, rfl⟩
    rintro ⟨i, j⟩ r G' hv ⟨hi, hj, hb, rfl⟩
    simp only at hi hj hb
    have e0 := hv.1
    have e1 := hv.2.1
    have e2 := hv.2.2.1
    have e8 := hv.2.2.2.1
    have e9 := hv.2.2.2.2.1
    have e10 := hv.2.2.2.2.2.1
    simp only at e9 e10
    clear hv
    by_cases g : i < j
    rotate_left
    · have y0 : decide ((i : Int) < j) = false := decide_eq_false (by omega)
      obtain rfl : i = j := by omega
      simp -implicitDefEqProofs only [go_sem, reduceEqDiff, reduceAdd, reduceLeDiff, reduceLT, reduceMul, reduceEq, Int.reduceLT, reduceLE, Int.reduceAdd, reduceSub, reduceToNat, UInt8.reduceToNat, e0, e1, e2, e8, e9, e10, y0]
      exact ⟨i, hj, hb, rfl, by simp -implicitDefEqProofs only [go_sem, reduceEqDiff, reduceAdd, reduceLeDiff, reduceLT, reduceMul, reduceEq, Int.reduceLT, reduceLE, Int.reduceAdd, reduceSub, reduceToNat, UInt8.reduceToNat, e0], by simp -implicitDefEqProofs only [go_sem, reduceEqDiff, reduceAdd, reduceLeDiff, reduceLT, reduceMul, reduceEq, Int.reduceLT, reduceLE, Int.reduceAdd, reduceSub, reduceToNat, UInt8.reduceToNat, e1], by simp -implicitDefEqProofs only [go_sem, reduceEqDiff, reduceAdd, reduceLeDiff, reduceLT, reduceMul, reduceEq, Int.reduceLT, reduceLE, Int.reduceAdd, reduceSub, reduceToNat, UInt8.reduceToNat, e2], by simp -implicitDefEqProofs only [go_sem, reduceEqDiff, reduceAdd, reduceLeDiff, reduceLT, reduceMul, reduceEq, Int.reduceLT, reduceLE, Int.reduceAdd, reduceSub, reduceToNat, UInt8.reduceToNat, e8], by simp -implicitDefEqProofs only [go_sem, reduceEqDiff, reduceAdd, reduceLeDiff, reduceLT, reduceMul, reduceEq, Int.reduceLT, reduceLE, Int.reduceAdd, reduceSub, reduceToNat, UInt8.reduceToNat, e9]⟩
    have y0 : decide ((i : Int) < j) = true := decide_eq_true (by omega)
    have w1 : IntKind.i64.wrap ((i : Int) + j) = ((i + j : Nat) : Int) := by rw [Go.IntWalk.i64_in _ (by omega)]; omega
    have w2 : IntKind.u64.wrap ((i + j : Nat) : Int) = ((i + j : Nat) : Int) := Go.IntWalk.u64_in _ (by omega)
    have w3 := shrN (i + j) 1 1 rfl (by omega)
    have w5 : (i + j) / 2 ^ 1 = (i + j) / 2 := rfl
    rw [w5] at w3
    have w4 : IntKind.i64.wrap (((i + j) / 2 : Nat) : Int) = (((i + j) / 2 : Nat) : Int) := Go.IntWalk.i64_in _ (by omega)
    generalize hm : (i + j) / 2 = m at *
    have hmi : i ≤ m ∧ m < j := by omega
    obtain ⟨x, hx⟩ : ∃ x, l[m]? = some x := getD_get' (by omega)
    have w6 : IntKind.i64.wrap ((m : Int) + 1) = ((m + 1 : Nat) : Int) := by rw [Go.IntWalk.i64_in _ (by omega)]; omega
    have z1 : decide ((1 : Int) < 0) = false := rfl
    have hcm := cmpFV_calls x k c G' hc
    have hlt := cmp_lt x.name k
    simp -implicitDefEqProofs only [go_sem, reduceEqDiff, reduceAdd, reduceLeDiff, reduceLT, reduceMul, reduceEq, Int.reduceLT, reduceLE, Int.reduceAdd, reduceSub, reduceToNat, UInt8.reduceToNat, e0, e1, e2, e8, e9, e10, y0, w1, w2, w3, w4, z1, hx, htt]
    refine ⟨hU, Nat.le_refl _, ?_⟩
    refine hcm.pure_next _ ?_
    by_cases c1 : Lib.compareBytes x.name k < 0
    · have y1 : decide (Lib.compareBytes x.name k < 0) = true := decide_eq_true c1
      simp -implicitDefEqProofs only [go_sem, reduceEqDiff, reduceAdd, reduceLeDiff, reduceLT, reduceMul, reduceEq, Int.reduceLT, reduceLE, Int.reduceAdd, reduceSub, reduceToNat, UInt8.reduceToNat, e0, e1, e2, e8, e9, e10, y1, w6]
      exact Again.mk (m + 1, j) (by simp -implicitDefEqProofs only [go_sem, reduceEqDiff, reduceAdd, reduceLeDiff, reduceLT, reduceMul, reduceEq, Int.reduceLT, reduceLE, Int.reduceAdd, reduceSub, reduceToNat, UInt8.reduceToNat, e0, e1, e2, e8, e9, e10]) ⟨by simp only; omega, hj, hb.right ha hx (hlt.1 c1), rfl⟩ (by simp only; omega)
    · have y1 : decide (Lib.compareBytes x.name k < 0) = false := decide_eq_false c1
      simp -implicitDefEqProofs only [go_sem, reduceEqDiff, reduceAdd, reduceLeDiff, reduceLT, reduceMul, reduceEq, Int.reduceLT, reduceLE, Int.reduceAdd, reduceSub, reduceToNat, UInt8.reduceToNat, e0, e1, e2, e8, e9, e10, y1]
      exact Again.mk (i, m) (by simp -implicitDefEqProofs only [go_sem, reduceEqDiff, reduceAdd, reduceLeDiff, reduceLT, reduceMul, reduceEq, Int.reduceLT, reduceLE, Int.reduceAdd, reduceSub, reduceToNat, UInt8.reduceToNat, e0, e1, e2, e8, e9, e10]) ⟨by simp only; omega, by simp only; omega, hb.left ha hx (by cases hh : strLt x.name k with | false => rfl | true => exact absurd (hlt.2 hh) c1), rfl⟩ (by simp only; omega)
  rintro r G' ⟨i, hi, hb, rfl, e0, e1, e2, e8, e9⟩
  have hf := hb.found ha
  by_cases g : i < l.length
  rotate_left
  · have y0 : decide ((i : Int) < l.length) = false := decide_eq_false (by omega)
    rw [List.getElem?_eq_none (by omega)] at hf
    simp only at hf
    simp -implicitDefEqProofs only [go_sem, reduceEqDiff, reduceAdd, reduceLeDiff, reduceLT, reduceMul, reduceEq, Int.reduceLT, reduceLE, Int.reduceAdd, reduceSub, reduceToNat, UInt8.reduceToNat, e0, e1, e2, e8, e9, y0]
    exact Done.now ⟨i, by rw [hf]; rfl, (fun x h => by rw [hf] at h; cases h), rfl⟩
  have y0 : decide ((i : Int) < l.length) = true := decide_eq_true (by omega)
  obtain ⟨x, hx⟩ : ∃ x, l[i]? = some x := getD_get' g
  rw [hx] at hf
  simp only at hf
  have hcm := cmpFV_calls x k c G' hc
  have hz := cmp_zero x.name k
  simp -implicitDefEqProofs only [go_sem, reduceEqDiff, reduceAdd, reduceLeDiff, reduceLT, reduceMul, reduceEq, Int.reduceLT, reduceLE, Int.reduceAdd, reduceSub, reduceToNat, UInt8.reduceToNat, e0, e1, e2, e8, e9, y0, hx, htt]
  refine ⟨hU, Nat.le_refl _, ?_⟩
  refine hcm.pure_next _ ?_
  by_cases c1 : x.name = k
  · have y1 : decide (Lib.compareBytes x.name k = 0) = true := decide_eq_true (hz.2 c1)
    rw [if_pos c1] at hf
    simp -implicitDefEqProofs only [go_sem, reduceEqDiff, reduceAdd, reduceLeDiff, reduceLT, reduceMul, reduceEq, Int.reduceLT, reduceLE, Int.reduceAdd, reduceSub, reduceToNat, UInt8.reduceToNat, y1]
    exact Done.now ⟨i, by rw [hf]; rfl, (fun y h => by rw [hf] at h; cases h; exact hx), rfl⟩
  · have y1 : decide (Lib.compareBytes x.name k = 0) = false := decide_eq_false (fun h => c1 (hz.1 h))
    rw [if_neg c1] at hf
    simp -implicitDefEqProofs only [go_sem, reduceEqDiff, reduceAdd, reduceLeDiff, reduceLT, reduceMul, reduceEq, Int.reduceLT, reduceLE, Int.reduceAdd, reduceSub, reduceToNat, UInt8.reduceToNat, y1]
    exact Done.now ⟨i, by rw [hf]; rfl, (fun y h => by rw [hf] at h; cases h), rfl⟩
set_option maxHeartbeats 1600000 in
theorem foundV_calls (l : List SvcV) (t : Tail) (k : Bytes) (H : Heap) (ha : Asc (·.name) l) (hl : l.length ≤ 1000000) :
    ACalls Tryz.prog 87 [.sl (l.map encSvc) t, .str k, .func 50 []] H fun y H' => y = .tup [.agg (encSvc ((getK (·.name) k l).getD SvcV.zero)), .bool (getK (·.name) k l).isSome] ∧ H' = H := by
  have hS := Heap.Sub.rfl' H
  have hU : ∀ x ∈ l, (encSvc x).length = 4 := fun _ _ => rfl
  have htt : ∀ x : SvcV, (encSvc x).take 4 = encSvc x := fun _ => rfl
  refine ACalls.of_code (X := { pure := pu0 }) pu0_ok Tryz.func87 (by kernel_rfl) rfl (by kernel_rfl) (Nat.le_of_ble_eq_true rfl) ?_
  simp -implicitDefEqProofs only [go_sem, reduceEqDiff, reduceAdd, reduceLeDiff, reduceLT, reduceMul, reduceEq, Int.reduceLT, reduceLE, Int.reduceAdd, reduceSub, reduceToNat, UInt8.reduceToNat, Tryz.f87]
  with_reducible refine nwC_intro fun i5 hi5 => ?_
  generalize E5 : Heap.put H i5 _ = G1
  have hO_5 := obj_new E5 hi5 hS
  have n5 := hO_5.1
  have hS := hO_5.2.1
  have g5 := hO_5.2.2.1
  clear hO_5
  simp -implicitDefEqProofs only [go_sem, reduceEqDiff, reduceAdd, reduceLeDiff, reduceLT, reduceMul, reduceEq, Int.reduceLT, reduceLE, Int.reduceAdd, reduceSub, reduceToNat, UInt8.reduceToNat]
  with_reducible refine nwC_intro fun i6 hi6 => ?_
  generalize E6 : Heap.put G1 i6 _ = G2
  have hO_6 := obj_new E6 hi6 hS
  have n6 := hO_6.1
  have hS := hO_6.2.1
  have g6 := hO_6.2.2.1
  have d5_6 := obj_ne g5 hi6
  have g5 := hO_6.2.2.2 _ _ g5
  clear hO_6
  simp -implicitDefEqProofs only [go_sem, reduceEqDiff, reduceAdd, reduceLeDiff, reduceLT, reduceMul, reduceEq, Int.reduceLT, reduceLE, Int.reduceAdd, reduceSub, reduceToNat, UInt8.reduceToNat]
  refine (bsV_calls l t k i5 G2 g5 ha hl).mono ?_
  rintro y G3 ⟨i, rfl, hx, rfl⟩
  cases hg : getK (·.name) k l with
  | none =>
    simp -implicitDefEqProofs only [go_sem, reduceEqDiff, reduceAdd, reduceLeDiff, reduceLT, reduceMul, reduceEq, Int.reduceLT, reduceLE, Int.reduceAdd, reduceSub, reduceToNat, UInt8.reduceToNat, Option.isSome_none]
    with_reducible refine nwC_intro fun i10 hi10 => ?_
    have g6' := (put_ne G3 i10 i6 (.cells [.str [], .str [], .bool false, .bool false]) (obj_ne g6 hi10)).trans g6
    have gz := put_same G3 i10 (.cells [.str [], .str [], .bool false, .bool false])
    simp -implicitDefEqProofs only [go_sem, reduceEqDiff, reduceAdd, reduceLeDiff, reduceLT, reduceMul, reduceEq, Int.reduceLT, reduceLE, Int.reduceAdd, reduceSub, reduceToNat, UInt8.reduceToNat, g6', gz]
    refine Done.drop (Heap.Sub.put' (hS.put' (sub_none hS hi10) _) n6 _) ⟨rfl, rfl⟩
  | some x =>
    have hx := hx x hg
    simp -implicitDefEqProofs only [go_sem, reduceEqDiff, reduceAdd, reduceLeDiff, reduceLT, reduceMul, reduceEq, Int.reduceLT, reduceLE, Int.reduceAdd, reduceSub, reduceToNat, UInt8.reduceToNat, Option.isSome_some, hx, htt, g6]
    first
      | refine ⟨hU, ?_⟩
      | skip
    have ex := encSvc.eq_1 x
    rw [ex]
    try simp -implicitDefEqProofs only [go_sem, reduceEqDiff, reduceAdd, reduceLeDiff, reduceLT, reduceMul, reduceEq, Int.reduceLT, reduceLE, Int.reduceAdd, reduceSub, reduceToNat, UInt8.reduceToNat, g6]
    refine Done.drop (hS.put' n6 _) ⟨by first | (rw [← ex]; done) | (rw [← ex]; rfl), rfl⟩
set_option maxHeartbeats 1600000 in
theorem askV_calls (m : MacV) (ta tb tc td : Tail) (l : List SvcV) (t : Tail) (k : Bytes) (isF : FuncId) (isB : Bytes → Bool) (H : Heap) (hr : macR m) (hk : k.length ≤ 1099511627776)
    (hl : macErr m = 0 → Asc (·.name) l ∧ l.length ≤ 1000000) (his : puAk isF = some (sStr isB)) :
    ACalls Tryz.prog 49 [.agg (encMac m ta tb tc td), .sl (l.map encSvc) t, .str k, .func isF [], .func 50 []] H fun y H' => y = .tup [.agg (encSvc (askV (macErr m) (isB k) (getK (·.name) k l) SvcV.zero).1), .int .i64 (askV (macErr m) (isB k) (getK (·.name) k l) SvcV.zero).2] ∧ H' = H := by
  have hS := Heap.Sub.rfl' H
  have hR : Room = 1099511627776 := rfl
  have hck := fun G => check_calls m ta tb tc td G hr
  have q1 := sStr_eq isB k
  rw [hR, if_pos hk] at q1
  unfold encMac at hck
  refine ACalls.of_code (X := { pure := puAk }) puAk_ok Tryz.func49 (by kernel_rfl) rfl (by kernel_rfl) (Nat.le_of_ble_eq_true rfl) ?_
  simp -implicitDefEqProofs only [go_sem, reduceEqDiff, reduceAdd, reduceLeDiff, reduceLT, reduceMul, reduceEq, Int.reduceLT, reduceLE, Int.reduceAdd, reduceSub, reduceToNat, UInt8.reduceToNat, Tryz.f49, encMac]
  with_reducible refine nwC_intro fun i5 hi5 => ?_
  generalize E5 : Heap.put H i5 _ = G1
  have hO_5 := obj_new E5 hi5 hS
  have n5 := hO_5.1
  have hS := hO_5.2.1
  have g5 := hO_5.2.2.1
  clear hO_5
  simp -implicitDefEqProofs only [go_sem, reduceEqDiff, reduceAdd, reduceLeDiff, reduceLT, reduceMul, reduceEq, Int.reduceLT, reduceLE, Int.reduceAdd, reduceSub, reduceToNat, UInt8.reduceToNat]
  with_reducible refine nwC_intro fun i10 hi10 => ?_
  generalize E10 : Heap.put G1 i10 _ = G2
  have hO_10 := obj_new E10 hi10 hS
  have n10 := hO_10.1
  have hS := hO_10.2.1
  have g10 := hO_10.2.2.1
  have d5_10 := obj_ne g5 hi10
  have g5 := hO_10.2.2.2 _ _ g5
  clear hO_10
  simp -implicitDefEqProofs only [go_sem, reduceEqDiff, reduceAdd, reduceLeDiff, reduceLT, reduceMul, reduceEq, Int.reduceLT, reduceLE, Int.reduceAdd, reduceSub, reduceToNat, UInt8.reduceToNat]
  with_reducible refine nwC_intro fun i12 hi12 => ?_
  generalize E12 : Heap.put G2 i12 _ = G3
  have hO_12 := obj_new E12 hi12 hS
  have n12 := hO_12.1
  have hS := hO_12.2.1
  have g12 := hO_12.2.2.1
  have d5_12 := obj_ne g5 hi12
  have g5 := hO_12.2.2.2 _ _ g5
  have d10_12 := obj_ne g10 hi12
  have g10 := hO_12.2.2.2 _ _ g10
  clear hO_12
  simp -implicitDefEqProofs only [go_sem, reduceEqDiff, reduceAdd, reduceLeDiff, reduceLT, reduceMul, reduceEq, Int.reduceLT, reduceLE, Int.reduceAdd, reduceSub, reduceToNat, UInt8.reduceToNat, g5]
  have n1 : puAk 51 = none := rfl
  have n2 : puAk 87 = none := rfl
  simp -implicitDefEqProofs only [go_sem, reduceEqDiff, reduceAdd, reduceLeDiff, reduceLT, reduceMul, reduceEq, Int.reduceLT, reduceLE, Int.reduceAdd, reduceSub, reduceToNat, UInt8.reduceToNat, n1]
  refine (hck G3).pure_next _ ?_
  unfold askV
  by_cases c0 : macErr m = 0
  rotate_left
  · have y0 : decide (¬ macErr m = 0) = true := decide_eq_true c0
    rw [if_pos c0]
    simp -implicitDefEqProofs only [go_sem, reduceEqDiff, reduceAdd, reduceLeDiff, reduceLT, reduceMul, reduceEq, Int.reduceLT, reduceLE, Int.reduceAdd, reduceSub, reduceToNat, UInt8.reduceToNat, y0, g12, g10]
    exact Done.drop (hS.put' n10 _) ⟨rfl, rfl⟩
  have y0 : decide (¬ macErr m = 0) = false := decide_eq_false (by simpa using c0)
  rw [if_neg (by simpa using c0)]
  obtain ⟨ha, hll⟩ := hl c0
  cases hb : isB k with
  | false =>
    rw [hb] at q1
    rw [if_pos rfl]
    simp -implicitDefEqProofs only [go_sem, reduceEqDiff, reduceAdd, reduceLeDiff, reduceLT, reduceMul, reduceEq, Int.reduceLT, reduceLE, Int.reduceAdd, reduceSub, reduceToNat, UInt8.reduceToNat, y0, his, q1, g12, g10]
    exact Done.drop (hS.put' n10 _) ⟨rfl, rfl⟩
  | true =>
    rw [hb] at q1
    rw [if_neg (by simp)]
    simp -implicitDefEqProofs only [go_sem, reduceEqDiff, reduceAdd, reduceLeDiff, reduceLT, reduceMul, reduceEq, Int.reduceLT, reduceLE, Int.reduceAdd, reduceSub, reduceToNat, UInt8.reduceToNat, y0, his, q1, n2]
    refine (foundV_calls l t k G3 ha hll).pure_next _ ?_
    cases hg : getK (·.name) k l with
    | none =>
      simp only [Option.getD_none, Option.isSome_none]
      simp -implicitDefEqProofs only [go_sem, reduceEqDiff, reduceAdd, reduceLeDiff, reduceLT, reduceMul, reduceEq, Int.reduceLT, reduceLE, Int.reduceAdd, reduceSub, reduceToNat, UInt8.reduceToNat, SvcV.zero, encSvc]
      with_reducible refine nwC_intro fun i14 hi14 => ?_
      have g12' := fun o => (put_ne G3 i14 i12 o (obj_ne g12 hi14)).trans g12
      have g10' := fun o => (put_ne G3 i14 i10 o (obj_ne g10 hi14)).trans g10
      have gz := put_same G3 i14 (.cells [.str [], .str [], .bool false, .bool false])
      simp -implicitDefEqProofs only [go_sem, reduceEqDiff, reduceAdd, reduceLeDiff, reduceLT, reduceMul, reduceEq, Int.reduceLT, reduceLE, Int.reduceAdd, reduceSub, reduceToNat, UInt8.reduceToNat, g12', g10', gz]
      exact Done.drop (Heap.Sub.put' (hS.put' (sub_none hS hi14) _) n10 _) ⟨rfl, rfl⟩
    | some x =>
      simp only [Option.getD_some, Option.isSome_some]
      have ex := encSvc.eq_1 x
      rw [ex]
      simp -implicitDefEqProofs only [go_sem, reduceEqDiff, reduceAdd, reduceLeDiff, reduceLT, reduceMul, reduceEq, Int.reduceLT, reduceLE, Int.reduceAdd, reduceSub, reduceToNat, UInt8.reduceToNat]
      with_reducible refine nwC_intro fun i14 hi14 => ?_
      generalize E14 : Heap.put G3 i14 _ = G4
      have hO_14 := obj_new E14 hi14 hS
      have n14 := hO_14.1
      have hS := hO_14.2.1
      have g14 := hO_14.2.2.1
      have d5_14 := obj_ne g5 hi14
      have g5 := hO_14.2.2.2 _ _ g5
      have d10_14 := obj_ne g10 hi14
      have g10 := hO_14.2.2.2 _ _ g10
      have d12_14 := obj_ne g12 hi14
      have g12 := hO_14.2.2.2 _ _ g12
      clear hO_14
      simp -implicitDefEqProofs only [go_sem, reduceEqDiff, reduceAdd, reduceLeDiff, reduceLT, reduceMul, reduceEq, Int.reduceLT, reduceLE, Int.reduceAdd, reduceSub, reduceToNat, UInt8.reduceToNat, g14]
      generalize E14 : Heap.put G4 i14 _ = G5
      have hS := obj_sub E14 n14 hS
      have g14 := obj_at E14
      have g5 := obj_keep E14 (by first | exact d5_14 | exact fun e => d14_5 e.symm) g5
      have g10 := obj_keep E14 (by first | exact d10_14 | exact fun e => d14_10 e.symm) g10
      have g12 := obj_keep E14 (by first | exact d12_14 | exact fun e => d14_12 e.symm) g12
      simp -implicitDefEqProofs only [go_sem, reduceEqDiff, reduceAdd, reduceLeDiff, reduceLT, reduceMul, reduceEq, Int.reduceLT, reduceLE, Int.reduceAdd, reduceSub, reduceToNat, UInt8.reduceToNat, g14, g10]
      exact Done.drop (hS.put' n10 _) ⟨by rw [← ex], rfl⟩
theorem factP_calls (m : MacV) (ta tb tc td : Tail) (k : Bytes) (H : Heap) (hr : macR m) (hk : k.length ≤ 1099511627776) :
    ACalls Tryz.prog 15 [.agg (encMac m ta tb tc td), .str k] H fun y H' => y = .tup [.str (askV (macErr m) (nameB k) (getK (·.key) k m.facts) SetV.zero).1.value, .int .i64 (askV (macErr m) (nameB k) (getK (·.key) k m.facts) SetV.zero).2] ∧ H' = H := by
  have hS := Heap.Sub.rfl' H
  have hak := fun G => askS_calls m ta tb tc td m.facts ta k 32 nameB G hr hk (fun h => by
    have hM := (macErr_ok m).1 h
    have q1 := hM.l1; have q2 := hM.l2; have q3 := hM.l3; have q4 := hM.l4
    exact ⟨hM.a1, by omega⟩) rfl
  generalize askV (macErr m) (nameB k) (getK (·.key) k m.facts) SetV.zero = v at *
  have ev := encSet.eq_1 v.1
  rw [ev] at hak
  unfold encMac at hak
  refine ACalls.of_code (X := { pure := pu0 }) pu0_ok Tryz.func15 (by kernel_rfl) rfl (by kernel_rfl) (Nat.le_of_ble_eq_true rfl) ?_
  simp -implicitDefEqProofs only [go_sem, reduceEqDiff, reduceAdd, reduceLeDiff, reduceLT, reduceMul, reduceEq, Int.reduceLT, reduceLE, Int.reduceAdd, reduceSub, reduceToNat, UInt8.reduceToNat, Tryz.f15, encMac]
  with_reducible refine nwC_intro fun i2 hi2 => ?_
  generalize E2 : Heap.put H i2 _ = G1
  have hO_2 := obj_new E2 hi2 hS
  have n2 := hO_2.1
  have hS := hO_2.2.1
  have g2 := hO_2.2.2.1
  clear hO_2
  simp -implicitDefEqProofs only [go_sem, reduceEqDiff, reduceAdd, reduceLeDiff, reduceLT, reduceMul, reduceEq, Int.reduceLT, reduceLE, Int.reduceAdd, reduceSub, reduceToNat, UInt8.reduceToNat, g2]
  refine (hak G1).pure_next _ ?_
  simp -implicitDefEqProofs only [go_sem, reduceEqDiff, reduceAdd, reduceLeDiff, reduceLT, reduceMul, reduceEq, Int.reduceLT, reduceLE, Int.reduceAdd, reduceSub, reduceToNat, UInt8.reduceToNat]
  with_reducible refine nwC_intro fun i6 hi6 => ?_
  generalize E6 : Heap.put G1 i6 _ = G2
  have hO_6 := obj_new E6 hi6 hS
  have n6 := hO_6.1
  have hS := hO_6.2.1
  have g6 := hO_6.2.2.1
  have d2_6 := obj_ne g2 hi6
  have g2 := hO_6.2.2.2 _ _ g2
  clear hO_6
  try simp -implicitDefEqProofs only [go_sem, reduceEqDiff, reduceAdd, reduceLeDiff, reduceLT, reduceMul, reduceEq, Int.reduceLT, reduceLE, Int.reduceAdd, reduceSub, reduceToNat, UInt8.reduceToNat, g6]
  exact Done.drop (by first | exact hS | exact hS.put' n6 _) ⟨rfl, rfl⟩
theorem fileP_calls (m : MacV) (ta tb tc td : Tail) (k : Bytes) (H : Heap) (hr : macR m) (hk : k.length ≤ 1099511627776) :
    ACalls Tryz.prog 17 [.agg (encMac m ta tb tc td), .str k] H fun y H' => y = .tup [.agg (encFile (askV (macErr m) (pathB k) (getK (·.path) k m.files) FileV.zero).1), .int .i64 (askV (macErr m) (pathB k) (getK (·.path) k m.files) FileV.zero).2] ∧ H' = H := by
  have hS := Heap.Sub.rfl' H
  have hak := fun G => askF_calls m ta tb tc td m.files tb k 45 pathB G hr hk (fun h => by
    have hM := (macErr_ok m).1 h
    have q1 := hM.l1; have q2 := hM.l2; have q3 := hM.l3; have q4 := hM.l4
    exact ⟨hM.a2, by omega⟩) rfl
  generalize askV (macErr m) (pathB k) (getK (·.path) k m.files) FileV.zero = v at *
  have ev := encFile.eq_1 v.1
  rw [ev] at hak
  unfold encMac at hak
  refine ACalls.of_code (X := { pure := pu0 }) pu0_ok Tryz.func17 (by kernel_rfl) rfl (by kernel_rfl) (Nat.le_of_ble_eq_true rfl) ?_
  simp -implicitDefEqProofs only [go_sem, reduceEqDiff, reduceAdd, reduceLeDiff, reduceLT, reduceMul, reduceEq, Int.reduceLT, reduceLE, Int.reduceAdd, reduceSub, reduceToNat, UInt8.reduceToNat, Tryz.f17, encMac]
  with_reducible refine nwC_intro fun i2 hi2 => ?_
  generalize E2 : Heap.put H i2 _ = G1
  have hO_2 := obj_new E2 hi2 hS
  have n2 := hO_2.1
  have hS := hO_2.2.1
  have g2 := hO_2.2.2.1
  clear hO_2
  simp -implicitDefEqProofs only [go_sem, reduceEqDiff, reduceAdd, reduceLeDiff, reduceLT, reduceMul, reduceEq, Int.reduceLT, reduceLE, Int.reduceAdd, reduceSub, reduceToNat, UInt8.reduceToNat]
  with_reducible refine nwC_intro fun i4 hi4 => ?_
  generalize E4 : Heap.put G1 i4 _ = G2
  have hO_4 := obj_new E4 hi4 hS
  have n4 := hO_4.1
  have hS := hO_4.2.1
  have g4 := hO_4.2.2.1
  have d2_4 := obj_ne g2 hi4
  have g2 := hO_4.2.2.2 _ _ g2
  clear hO_4
  simp -implicitDefEqProofs only [go_sem, reduceEqDiff, reduceAdd, reduceLeDiff, reduceLT, reduceMul, reduceEq, Int.reduceLT, reduceLE, Int.reduceAdd, reduceSub, reduceToNat, UInt8.reduceToNat, g2]
  refine (hak G2).pure_next _ ?_
  rw [ev]
  simp -implicitDefEqProofs only [go_sem, reduceEqDiff, reduceAdd, reduceLeDiff, reduceLT, reduceMul, reduceEq, Int.reduceLT, reduceLE, Int.reduceAdd, reduceSub, reduceToNat, UInt8.reduceToNat, g4]
  exact Done.drop (hS.put' n4 _) ⟨rfl, rfl⟩
theorem settingP_calls (m : MacV) (ta tb tc td : Tail) (k : Bytes) (H : Heap) (hr : macR m) (hk : k.length ≤ 1099511627776) :
    ACalls Tryz.prog 19 [.agg (encMac m ta tb tc td), .str k] H fun y H' => y = .tup [.str (askV (macErr m) (pathB k) (getK (·.key) k m.sets) SetV.zero).1.value, .int .i64 (askV (macErr m) (pathB k) (getK (·.key) k m.sets) SetV.zero).2] ∧ H' = H := by
  have hS := Heap.Sub.rfl' H
  have hak := fun G => askS_calls m ta tb tc td m.sets tc k 45 pathB G hr hk (fun h => by
    have hM := (macErr_ok m).1 h
    have q1 := hM.l1; have q2 := hM.l2; have q3 := hM.l3; have q4 := hM.l4
    exact ⟨hM.a3, by omega⟩) rfl
  generalize askV (macErr m) (pathB k) (getK (·.key) k m.sets) SetV.zero = v at *
  have ev := encSet.eq_1 v.1
  rw [ev] at hak
  unfold encMac at hak
  refine ACalls.of_code (X := { pure := pu0 }) pu0_ok Tryz.func19 (by kernel_rfl) rfl (by kernel_rfl) (Nat.le_of_ble_eq_true rfl) ?_
  simp -implicitDefEqProofs only [go_sem, reduceEqDiff, reduceAdd, reduceLeDiff, reduceLT, reduceMul, reduceEq, Int.reduceLT, reduceLE, Int.reduceAdd, reduceSub, reduceToNat, UInt8.reduceToNat, Tryz.f19, encMac]
  with_reducible refine nwC_intro fun i2 hi2 => ?_
  generalize E2 : Heap.put H i2 _ = G1
  have hO_2 := obj_new E2 hi2 hS
  have n2 := hO_2.1
  have hS := hO_2.2.1
  have g2 := hO_2.2.2.1
  clear hO_2
  simp -implicitDefEqProofs only [go_sem, reduceEqDiff, reduceAdd, reduceLeDiff, reduceLT, reduceMul, reduceEq, Int.reduceLT, reduceLE, Int.reduceAdd, reduceSub, reduceToNat, UInt8.reduceToNat, g2]
  refine (hak G1).pure_next _ ?_
  simp -implicitDefEqProofs only [go_sem, reduceEqDiff, reduceAdd, reduceLeDiff, reduceLT, reduceMul, reduceEq, Int.reduceLT, reduceLE, Int.reduceAdd, reduceSub, reduceToNat, UInt8.reduceToNat]
  with_reducible refine nwC_intro fun i6 hi6 => ?_
  generalize E6 : Heap.put G1 i6 _ = G2
  have hO_6 := obj_new E6 hi6 hS
  have n6 := hO_6.1
  have hS := hO_6.2.1
  have g6 := hO_6.2.2.1
  have d2_6 := obj_ne g2 hi6
  have g2 := hO_6.2.2.2 _ _ g2
  clear hO_6
  try simp -implicitDefEqProofs only [go_sem, reduceEqDiff, reduceAdd, reduceLeDiff, reduceLT, reduceMul, reduceEq, Int.reduceLT, reduceLE, Int.reduceAdd, reduceSub, reduceToNat, UInt8.reduceToNat, g6]
  exact Done.drop (by first | exact hS | exact hS.put' n6 _) ⟨rfl, rfl⟩
theorem serviceP_calls (m : MacV) (ta tb tc td : Tail) (k : Bytes) (H : Heap) (hr : macR m) (hk : k.length ≤ 1099511627776) :
    ACalls Tryz.prog 20 [.agg (encMac m ta tb tc td), .str k] H fun y H' => y = .tup [.agg (encSvc (askV (macErr m) (nameB k) (getK (·.name) k m.svcs) SvcV.zero).1), .int .i64 (askV (macErr m) (nameB k) (getK (·.name) k m.svcs) SvcV.zero).2] ∧ H' = H := by
  have hS := Heap.Sub.rfl' H
  have hak := fun G => askV_calls m ta tb tc td m.svcs td k 32 nameB G hr hk (fun h => by
    have hM := (macErr_ok m).1 h
    have q1 := hM.l1; have q2 := hM.l2; have q3 := hM.l3; have q4 := hM.l4
    exact ⟨hM.a4, by omega⟩) rfl
  generalize askV (macErr m) (nameB k) (getK (·.name) k m.svcs) SvcV.zero = v at *
  have ev := encSvc.eq_1 v.1
  rw [ev] at hak
  unfold encMac at hak
  refine ACalls.of_code (X := { pure := pu0 }) pu0_ok Tryz.func20 (by kernel_rfl) rfl (by kernel_rfl) (Nat.le_of_ble_eq_true rfl) ?_
  simp -implicitDefEqProofs only [go_sem, reduceEqDiff, reduceAdd, reduceLeDiff, reduceLT, reduceMul, reduceEq, Int.reduceLT, reduceLE, Int.reduceAdd, reduceSub, reduceToNat, UInt8.reduceToNat, Tryz.f20, encMac]
  with_reducible refine nwC_intro fun i2 hi2 => ?_
  generalize E2 : Heap.put H i2 _ = G1
  have hO_2 := obj_new E2 hi2 hS
  have n2 := hO_2.1
  have hS := hO_2.2.1
  have g2 := hO_2.2.2.1
  clear hO_2
  simp -implicitDefEqProofs only [go_sem, reduceEqDiff, reduceAdd, reduceLeDiff, reduceLT, reduceMul, reduceEq, Int.reduceLT, reduceLE, Int.reduceAdd, reduceSub, reduceToNat, UInt8.reduceToNat]
  with_reducible refine nwC_intro fun i4 hi4 => ?_
  generalize E4 : Heap.put G1 i4 _ = G2
  have hO_4 := obj_new E4 hi4 hS
  have n4 := hO_4.1
  have hS := hO_4.2.1
  have g4 := hO_4.2.2.1
  have d2_4 := obj_ne g2 hi4
  have g2 := hO_4.2.2.2 _ _ g2
  clear hO_4
  simp -implicitDefEqProofs only [go_sem, reduceEqDiff, reduceAdd, reduceLeDiff, reduceLT, reduceMul, reduceEq, Int.reduceLT, reduceLE, Int.reduceAdd, reduceSub, reduceToNat, UInt8.reduceToNat, g2]
  refine (hak G2).pure_next _ ?_
  rw [ev]
  simp -implicitDefEqProofs only [go_sem, reduceEqDiff, reduceAdd, reduceLeDiff, reduceLT, reduceMul, reduceEq, Int.reduceLT, reduceLE, Int.reduceAdd, reduceSub, reduceToNat, UInt8.reduceToNat, g4]
  exact Done.drop (hS.put' n4 _) ⟨rfl, rfl⟩
end Go.Proofs
