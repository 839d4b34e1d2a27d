/-
  Walks and plain laws, part 8.
-/
import Derived.Test.YtfippeedjajnkaaGreatDoorM5
import Derived.Test.YtfippeedjajnkaaGreatDoorM1
import Derived.Test.YtfippeedjajnkaaGreatDoorM2
import Derived.Test.YtfippeedjajnkaaGreatDoorM7
import Derived.Test.YtfippeedjajnkaaGreatDoorM4
import Derived.Test.YtfippeedjajnkaaGreatDoorM3
/- Sorting by insertion, and leaving out what is there twice: plain Lean, no program. -/
namespace Go.Proofs
open Go Go.Abs
set_option linter.unusedSimpArgs false
set_option linter.unusedVariables false
theorem cmp_lt : ∀ (a b : Bytes), Lib.compareBytes a b < 0 ↔ strLt a b = true
  | [], [] => by simp [Lib.compareBytes, lt_irr]
  | [], b :: s => by
    rw [lt_lex, decide_eq_true_eq]
    simp only [Lib.compareBytes]
    exact ⟨fun _ => List.Lex.nil, fun _ => by decide⟩
  | a :: r, [] => by
    rw [lt_lex, decide_eq_true_eq]
    simp only [Lib.compareBytes]
    exact ⟨fun h => absurd h (by decide), fun h => by cases h⟩
  | a :: r, b :: s => by
    have ih := cmp_lt r s
    rw [lt_lex, decide_eq_true_eq] at ih ⊢
    simp only [Lib.compareBytes]
    by_cases h1 : a < b
    · rw [if_pos h1]
      exact ⟨fun _ => List.Lex.rel h1, fun _ => by decide⟩
    rw [if_neg h1]
    by_cases h2 : b < a
    · rw [if_pos h2]
      refine ⟨fun h => absurd h (by decide), fun h => ?_⟩
      cases h with
      | rel h => exact absurd h h1
      | cons h => exact absurd h2 h1
    · rw [if_neg h2]
      have e : a = b := UInt8.le_antisymm (UInt8.not_lt.1 h2) (UInt8.not_lt.1 h1)
      subst e
      rw [ih]
      exact ⟨fun h => List.Lex.cons h, fun h => by
        cases h with
        | rel h => exact absurd h h1
        | cons h => exact h⟩
section
variable {α : Type} (key : α → Bytes)
/-- No greater. -/
def LeK (a b : α) : Prop := strLt (key b) (key a) = false
variable {key}
theorem LeK.refl (a : α) : LeK key a a := lt_irr _
theorem LeK.of_lt {a b : α} (h : strLt (key a) (key b) = true) : LeK key a b := by
  unfold LeK
  cases hh : strLt (key b) (key a) with
  | false => rfl
  | true => have := lt_tr h hh; rw [lt_irr] at this; cases this
theorem LeK.lt_or {a b : α} (h : LeK key a b) : strLt (key a) (key b) = true ∨ key a = key b := by
  rcases lt_tri (key a) (key b) with t | t | t
  · exact .inl t
  · exact .inr t
  · unfold LeK at h; rw [h] at t; cases t
theorem LeK.of_eq {a b : α} (h : key a = key b) : LeK key a b := by unfold LeK; rw [h]; exact lt_irr _
theorem LeK.trans {a b c : α} (h1 : LeK key a b) (h2 : LeK key b c) : LeK key a c := by
  rcases h1.lt_or with t | t
  · rcases h2.lt_or with u | u
    · exact LeK.of_lt (lt_tr t u)
    · exact LeK.of_lt (u ▸ t)
  · rcases h2.lt_or with u | u
    · exact LeK.of_lt (t ▸ u)
    · exact LeK.of_eq (t.trans u)
/-- In order up to a place, but for the thing at j, which is no greater than those behind it. -/
def SortBut (key : α → Bytes) (l : List α) (n j : Nat) : Prop := ∀ a b x y, a < b → b < n → ¬ b = j → l[a]? = some x → l[b]? = some y → LeK key x y
def swapL (l : List α) (i j : Nat) (u v : α) : List α := (l.set i v).set j u
theorem swapL_get {l : List α} {j : Nat} {u v : α} (hj : 0 < j) (hlt : j < l.length) (a : Nat) : (swapL l j (j - 1) v u)[a]? = if a = j then some u else if a = j - 1 then some v else l[a]? := by
  unfold swapL
  rw [List.getElem?_set, List.getElem?_set]
  by_cases e : j - 1 = a
  · subst e
    rw [if_pos rfl, if_pos (by rw [List.length_set]; omega), if_neg (by omega), if_pos rfl]
  · rw [if_neg e]
    by_cases e2 : j = a
    · subst e2
      rw [if_pos rfl, if_pos rfl, if_pos hlt]
    · rw [if_neg e2, if_neg (fun h => e2 h.symm), if_neg (fun h => e h.symm)]
theorem SortBut.swap {l : List α} {n j : Nat} {u v : α} (h : SortBut key l n j) (hj : 0 < j) (hn : j < n) (hu : l[j - 1]? = some u) (hv : l[j]? = some v) (hlt : strLt (key v) (key u) = true) : SortBut key (swapL l j (j - 1) v u) n (j - 1) := fun a b x y h1 h2 h3 h4 h5 => by
  have hlen : j < l.length := (List.getElem?_eq_some_iff.1 hv).1
  rw [swapL_get hj hlen] at h4 h5
  by_cases eb : b = j
  · rw [if_pos eb] at h5
    cases h5
    rw [if_neg (by omega)] at h4
    by_cases ea : a = j - 1
    · rw [if_pos ea] at h4
      cases h4
      exact LeK.of_lt hlt
    · rw [if_neg ea] at h4
      exact h a (j - 1) x u (by omega) (by omega) (by omega) h4 hu
  · rw [if_neg eb, if_neg h3] at h5
    by_cases ea : a = j
    · rw [if_pos ea] at h4
      cases h4
      exact h (j - 1) b u y (by omega) h2 eb hu h5
    rw [if_neg ea] at h4
    by_cases ea2 : a = j - 1
    · rw [if_pos ea2] at h4
      cases h4
      exact h j b v y (by omega) h2 eb hv h5
    · rw [if_neg ea2] at h4
      exact h a b x y h1 h2 eb h4 h5
end
/-! ### Cells of a list of rows -/
section
variable {α : Type} {enc : α → List AV} {k : Nat}
end
end Go.Proofs

/- Walks: keys of things; strings compared. -/
namespace Go.Proofs
open Go Go.Abs
open Nat (reduceEqDiff reduceAdd reduceLeDiff reduceLT reduceMul)
open Int (reduceEq reduceLE reduceSub reduceToNat)
set_option linter.unusedSimpArgs false
set_option linter.unusedVariables false
set_option maxRecDepth 20000
theorem cmp_gt : ∀ (a b : Bytes), 0 < Lib.compareBytes a b ↔ strLt b a = true
  | [], [] => by simp [Lib.compareBytes, lt_irr]
  | [], b :: s => by
    rw [lt_lex, decide_eq_true_eq]
    simp only [Lib.compareBytes]
    exact ⟨fun h => absurd h (by decide), fun h => by cases h⟩
  | a :: r, [] => by
    rw [lt_lex, decide_eq_true_eq]
    simp only [Lib.compareBytes]
    exact ⟨fun _ => List.Lex.nil, fun _ => by decide⟩
  | a :: r, b :: s => by
    have ih := cmp_gt r s
    rw [lt_lex, decide_eq_true_eq] at ih ⊢
    simp only [Lib.compareBytes]
    by_cases h1 : a < b
    · rw [if_pos h1]
      refine ⟨fun h => absurd h (by decide), fun h => ?_⟩
      cases h with
      | rel h => exact absurd h1 (UInt8.not_lt.2 (UInt8.le_of_lt h))
      | cons h => exact absurd h1 (UInt8.lt_irrefl _)
    rw [if_neg h1]
    by_cases h2 : b < a
    · rw [if_pos h2]
      exact ⟨fun _ => List.Lex.rel h2, fun _ => by decide⟩
    · rw [if_neg h2]
      have e : a = b := UInt8.le_antisymm (UInt8.not_lt.1 h2) (UInt8.not_lt.1 h1)
      subst e
      rw [ih]
      exact ⟨fun h => List.Lex.cons h, fun h => by
        cases h with
        | rel h => exact absurd h h1
        | cons h => exact h⟩
theorem pathOf_calls (a : FileV) (H : Heap) : ACalls Tryz.prog 83 [.agg (encFile a)] H fun x H' => x = .str a.path ∧ H' = H := by
  refine ACalls.of_code (X := { pure := pu0 }) pu0_ok Tryz.func83 (by kernel_rfl) rfl (by kernel_rfl) (Nat.le_of_ble_eq_true rfl) ?_
  simp -implicitDefEqProofs only [go_sem, reduceEqDiff, reduceAdd, reduceLeDiff, reduceLT, reduceMul, reduceEq, Int.reduceLT, reduceLE, Int.reduceAdd, reduceSub, reduceToNat, UInt8.reduceToNat, Tryz.f83, encFile]
  with_reducible refine nwC_intro fun i1 h1 => ?_
  simp -implicitDefEqProofs only [go_sem, reduceEqDiff, reduceAdd, reduceLeDiff, reduceLT, reduceMul, reduceEq, Int.reduceLT, reduceLE, Int.reduceAdd, reduceSub, reduceToNat, UInt8.reduceToNat]
  exact Done.drop1 h1 ⟨rfl, rfl⟩
def sPathO : List AV → Option AV := fn1 (Rd.agg decFile) fun s => some (.str s.path)
theorem sPathO_ok {P : Program} {f : FuncId} (h : ∀ a H, ACalls P f [.agg (encFile a)] H fun x H' => x = .str a.path ∧ H' = H) : ∀ xs v, sPathO xs = some v → ∀ H, ACalls P f xs H fun x H' => x = v ∧ H' = H := by
  intro xs v hv H
  obtain ⟨x, s, rfl, h1, h2⟩ := fn1_some hv
  cases h2; cases Rd.agg_some (fun _ _ => decFile_some) h1; exact h s H
noncomputable def puSd : Pures := putP 999999999 sNone (putP 83 sPathO (putP 68 sKeyO (putP 76 sNameO (putP 46 sCmpS pu0))))
theorem puSd_dyn : isDyn puSd = true := by simp only [puSd, go_sem, Nat.reduceEqDiff]
attribute [go_sem] puSd_dyn
theorem puSd_ok : PuOK Tryz.prog puSd := .put (.put (.put (.put (.put (pu0_ok) (sCmpS_ok strCompare_calls)) (sNameO_ok nameOf_calls)) (sKeyO_ok keyOf_calls)) (sPathO_ok pathOf_calls)) dyn_ok
end Go.Proofs

/- Walks: two lists side by side. -/
namespace Go.Proofs
open Go Go.Abs
open Nat (reduceEqDiff reduceAdd reduceLeDiff reduceLT reduceMul)
open Int (reduceEq reduceLE reduceSub reduceToNat)
set_option linter.unusedSimpArgs false
set_option linter.unusedVariables false
set_option maxRecDepth 20000
section
variable {α : Type} [DecidableEq α] {key : α → Bytes}
theorem sidesV_r (a : List α) : sidesV key a [] = (a, []) := by cases a <;> rw [sidesV]
theorem sidesV_l (b : List α) : sidesV key [] b = ([], b) := by rw [sidesV]
theorem sidesV_c (x y : α) (a b : List α) : sidesV key (x :: a) (y :: b) = if strLt (key x) (key y) = true then (x :: (sidesV key a (y :: b)).1, (sidesV key a (y :: b)).2)
    else if strLt (key y) (key x) = true then ((sidesV key (x :: a) b).1, y :: (sidesV key (x :: a) b).2)
    else ((sidesV key a b).1, if x ≠ y then y :: (sidesV key a b).2 else (sidesV key a b).2) := by rw [sidesV]
/-- What was done of the walk. -/
def SdOK (key : α → Bytes) (a b : List α) (i k : Nat) (g c : List α) : Prop := sidesV key a b = (g ++ (sidesV key (a.drop i) (b.drop k)).1, c ++ (sidesV key (a.drop i) (b.drop k)).2)
end
set_option maxHeartbeats 6400000 in
theorem sidesF_calls (a b : List FileV) (ta tb : Tail) (H : Heap) (hla : a.length ≤ 1000000) (hlb : b.length ≤ 1000000) :
    ACalls Tryz.prog 100 [.sl (a.map encFile) ta, .sl (b.map encFile) tb, .func 83 []] H fun x H' => x = .tup [.sl ((sidesV (·.path) a b).1.map encFile) .unk, .sl ((sidesV (·.path) a b).2.map encFile) .unk] ∧ H' = H := by
  have hu : ∀ x : FileV, (encFile x).length = 3 := fun _ => rfl
  refine ACalls.of_code (X := { pure := puSd }) puSd_ok Tryz.func100 (by kernel_rfl) rfl (by kernel_rfl) (Nat.le_of_ble_eq_true rfl) ?_
  simp -implicitDefEqProofs only [go_sem, reduceEqDiff, reduceAdd, reduceLeDiff, reduceLT, reduceMul, reduceEq, Int.reduceLT, reduceLE, Int.reduceAdd, reduceSub, reduceToNat, UInt8.reduceToNat, Tryz.f100]
  refine aloop_intro (σ := Nat × Nat × List FileV × List FileV × Tail × Tail) (fun s => [(0, .sl (a.map encFile) ta), (1, .sl (b.map encFile) tb), (2, .func 83 []), (6, .sl (s.2.2.1.map encFile) s.2.2.2.2.1), (7, .sl (s.2.2.2.1.map encFile) s.2.2.2.2.2), (8, .int .i64 s.1), (9, .int .i64 s.2.1)])
    (fun s G => s.1 ≤ a.length ∧ s.2.1 ≤ b.length ∧ s.2.2.1.length ≤ s.1 + s.2.1 ∧ s.2.2.2.1.length ≤ s.1 + s.2.1 ∧ SdOK (·.path) a b s.1 s.2.1 s.2.2.1 s.2.2.2.1 ∧ AppG H G 3 (s.2.2.1.map encFile) s.2.2.2.2.1 ∧ AppG H G 3 (s.2.2.2.1.map encFile) s.2.2.2.2.2 ∧ tokNe s.2.2.2.2.1 s.2.2.2.2.2)
    (fun s => a.length + b.length - s.1 - s.2.1) (0, 0, [], [], .exact, .exact) ?_ ?_ ?_
  · simp -implicitDefEqProofs only [go_sem, reduceEqDiff, reduceAdd, reduceLeDiff, reduceLT, reduceMul, reduceEq, Int.reduceLT, reduceLE, Int.reduceAdd, reduceSub, reduceToNat, UInt8.reduceToNat, List.map_nil]
  · exact ⟨Nat.zero_le _, Nat.zero_le _, Nat.le_refl _, Nat.le_refl _, by simp [SdOK], AppG.new (Heap.Sub.rfl' H) _, AppG.new (Heap.Sub.rfl' H) _, tokNe_exact _⟩
  rintro ⟨i, k, g, c, t1, t2⟩ r G hv ⟨hi, hk, hgl, hcl, hS, hA, hC, hne⟩
  simp only at hi hk hgl hcl hS hA hC hne
  have e0 := hv.1
  have e1 := hv.2.1
  have e2 := hv.2.2.1
  have e6 := hv.2.2.2.1
  have e7 := hv.2.2.2.2.1
  have e8 := hv.2.2.2.2.2.1
  have e9 := hv.2.2.2.2.2.2.1
  simp only at e6 e7 e8 e9
  clear hv
  have wi : IntKind.i64.wrap ((i : Int) + 1) = ((i + 1 : Nat) : Int) := by rw [Go.IntWalk.i64_in _ (by omega)]; omega
  have wk : IntKind.i64.wrap ((k : Int) + 1) = ((k + 1 : Nat) : Int) := by rw [Go.IntWalk.i64_in _ (by omega)]; omega
  have htt : ∀ x : FileV, (encFile x).take 3 = encFile x := fun _ => rfl
  have m1 : decide ((-1 : Int) < 0) = true := rfl
  have m2 : decide ((1 : Int) < 0) = false := rfl
  have m3 : decide ((0 : Int) < 1) = true := rfl
  have hUa : ∀ x ∈ a, (encFile x).length = 3 := fun x _ => rfl
  have hUb : ∀ x ∈ b, (encFile x).length = 3 := fun x _ => rfl
  have cla : ((a.map encFile).length : Int) = a.length := by simp
  by_cases ci : i < a.length
  · have y1 : decide ((i : Int) < a.length) = true := decide_eq_true (by omega)
    obtain ⟨x, hx⟩ : ∃ x, a[i]? = some x := getD_get' ci
    by_cases ck : k < b.length
    rotate_left
    · have y2 : decide ((k : Int) = b.length) = true := decide_eq_true (by omega)
      have hS2 : SdOK (·.path) a b (i + 1) k (g ++ [x]) c := by
        have hd : b.drop k = [] := List.drop_of_length_le (by omega)
        unfold SdOK at hS ⊢
        rw [hS, hd, sidesV_r, sidesV_r, drop_at hx]
        simp
      simp -implicitDefEqProofs only [go_sem, reduceEqDiff, reduceAdd, reduceLeDiff, reduceLT, reduceMul, reduceEq, Int.reduceLT, reduceLE, Int.reduceAdd, reduceSub, reduceToNat, UInt8.reduceToNat, e0, e1, e2, e6, e7, e8, e9, y1, y2, m1, hx, hu, htt, forall_const, implies_true, true_and, wi]
      refine AppG.step2 hA (fun z hz => by obtain ⟨q, -, rfl⟩ := List.mem_map.1 hz; rfl) (by simp) (by simp; omega) (by simp; omega) (fun t' G' hA' hG => ?_)
      have hnew : g.map encFile ++ [encFile x] = (g ++ [x]).map encFile := by simp
      rw [hnew] at hA' ⊢
      have ho := hG.other hA'.1 hC hne.symm
      simp -implicitDefEqProofs only [go_sem, reduceEqDiff, reduceAdd, reduceLeDiff, reduceLT, reduceMul, reduceEq, Int.reduceLT, reduceLE, Int.reduceAdd, reduceSub, reduceToNat, UInt8.reduceToNat, e0, e1, e2, e6, e7, e8, e9, wi]
      exact Again.mk (i + 1, k, g ++ [x], c, t', t2) (by simp -implicitDefEqProofs only [go_sem, reduceEqDiff, reduceAdd, reduceLeDiff, reduceLT, reduceMul, reduceEq, Int.reduceLT, reduceLE, Int.reduceAdd, reduceSub, reduceToNat, UInt8.reduceToNat, e0, e1, e2, e6, e7, e8, e9]) ⟨by simp only; omega, hk, by simp; omega, by simp only; omega, hS2, hA', ho.1, ho.2.symm⟩ (by simp only; omega)
    have y2 : decide ((k : Int) = b.length) = false := decide_eq_false (by omega)
    have y3 : decide ((i : Int) = a.length) = false := decide_eq_false (by omega)
    obtain ⟨y, hy⟩ : ∃ x, b[k]? = some x := getD_get' ck
    have hc1 := cmp_lt x.path y.path
    have hc2 := cmp_gt x.path y.path
    have q1 : sPathO [.agg (encFile x)] = some (.str x.path) := rfl
    have q2 : sPathO [.agg (encFile y)] = some (.str y.path) := rfl
    have q3 := sCmpS_eq x.path y.path
    by_cases c1 : Lib.compareBytes x.path y.path < 0
    · have y4 : decide (Lib.compareBytes x.path y.path < 0) = true := decide_eq_true c1
      have hS2 : SdOK (·.path) a b (i + 1) k (g ++ [x]) c := by
        unfold SdOK at hS ⊢
        rw [hS, drop_at hx, drop_at hy, sidesV_c, if_pos (hc1.1 c1), ← drop_at hy]
        simp
      simp -implicitDefEqProofs only [go_sem, reduceEqDiff, reduceAdd, reduceLeDiff, reduceLT, reduceMul, reduceEq, Int.reduceLT, reduceLE, Int.reduceAdd, reduceSub, reduceToNat, UInt8.reduceToNat, e0, e1, e2, e6, e7, e8, e9, y1, y2, y3, y4, hx, hy, q1, q2, q3, puSd, hu, htt, forall_const, implies_true, true_and, wi]
      refine AppG.step2 hA (fun z hz => by obtain ⟨q, -, rfl⟩ := List.mem_map.1 hz; rfl) (by simp) (by simp; omega) (by simp; omega) (fun t' G' hA' hG => ?_)
      have hnew : g.map encFile ++ [encFile x] = (g ++ [x]).map encFile := by simp
      rw [hnew] at hA' ⊢
      have ho := hG.other hA'.1 hC hne.symm
      simp -implicitDefEqProofs only [go_sem, reduceEqDiff, reduceAdd, reduceLeDiff, reduceLT, reduceMul, reduceEq, Int.reduceLT, reduceLE, Int.reduceAdd, reduceSub, reduceToNat, UInt8.reduceToNat, e0, e1, e2, e6, e7, e8, e9, wi]
      exact Again.mk (i + 1, k, g ++ [x], c, t', t2) (by simp -implicitDefEqProofs only [go_sem, reduceEqDiff, reduceAdd, reduceLeDiff, reduceLT, reduceMul, reduceEq, Int.reduceLT, reduceLE, Int.reduceAdd, reduceSub, reduceToNat, UInt8.reduceToNat, e0, e1, e2, e6, e7, e8, e9]) ⟨by simp only; omega, hk, by simp; omega, by simp only; omega, hS2, hA', ho.1, ho.2.symm⟩ (by simp only; omega)
    have y4 : decide (Lib.compareBytes x.path y.path < 0) = false := decide_eq_false c1
    by_cases c2 : 0 < Lib.compareBytes x.path y.path
    · have y5 : decide (0 < Lib.compareBytes x.path y.path) = true := decide_eq_true c2
      have hS2 : SdOK (·.path) a b i (k + 1) g (c ++ [y]) := by
        unfold SdOK at hS ⊢
        rw [hS, drop_at hx, drop_at hy, sidesV_c, if_neg (fun h => c1 (hc1.2 h)), if_pos (hc2.1 c2), ← drop_at hx]
        simp
      simp -implicitDefEqProofs only [go_sem, reduceEqDiff, reduceAdd, reduceLeDiff, reduceLT, reduceMul, reduceEq, Int.reduceLT, reduceLE, Int.reduceAdd, reduceSub, reduceToNat, UInt8.reduceToNat, e0, e1, e2, e6, e7, e8, e9, y1, y2, y3, y4, y5, hx, hy, q1, q2, q3, puSd, hu, htt, forall_const, implies_true, true_and, wk]
      refine AppG.step2 hC (fun z hz => by obtain ⟨q, -, rfl⟩ := List.mem_map.1 hz; rfl) (by simp) (by simp; omega) (by simp; omega) (fun t' G' hC' hG => ?_)
      have hnew : c.map encFile ++ [encFile y] = (c ++ [y]).map encFile := by simp
      rw [hnew] at hC' ⊢
      have ho := hG.other hC'.1 hA hne
      simp -implicitDefEqProofs only [go_sem, reduceEqDiff, reduceAdd, reduceLeDiff, reduceLT, reduceMul, reduceEq, Int.reduceLT, reduceLE, Int.reduceAdd, reduceSub, reduceToNat, UInt8.reduceToNat, e0, e1, e2, e6, e7, e8, e9, wk]
      exact Again.mk (i, k + 1, g, c ++ [y], t1, t') (by simp -implicitDefEqProofs only [go_sem, reduceEqDiff, reduceAdd, reduceLeDiff, reduceLT, reduceMul, reduceEq, Int.reduceLT, reduceLE, Int.reduceAdd, reduceSub, reduceToNat, UInt8.reduceToNat, e0, e1, e2, e6, e7, e8, e9]) ⟨hi, by simp only; omega, by simp only; omega, by simp; omega, hS2, ho.1, hC', ho.2⟩ (by simp only; omega)
    have y5 : decide (0 < Lib.compareBytes x.path y.path) = false := decide_eq_false c2
    have hn := fun cx cy => eqFile_calls_ne cx cy x y
    by_cases c3 : x = y
    · have y6 : decide (¬ x = y) = false := decide_eq_false (by simpa using c3)
      have hS2 : SdOK (·.path) a b (i + 1) (k + 1) g c := by
        unfold SdOK at hS ⊢
        rw [hS, drop_at hx, drop_at hy, sidesV_c, if_neg (fun h => c1 (hc1.2 h)), if_neg (fun h => c2 (hc2.2 h)), if_neg (by simpa using c3)]
      simp -implicitDefEqProofs only [go_sem, reduceEqDiff, reduceAdd, reduceLeDiff, reduceLT, reduceMul, reduceEq, Int.reduceLT, reduceLE, Int.reduceAdd, reduceSub, reduceToNat, UInt8.reduceToNat, e0, e1, e2, e6, e7, e8, e9, y1, y2, y3, y4, y5, hx, hy, q1, q2, q3, puSd, hn, y6, hu, htt, forall_const, implies_true, true_and, wi, wk]
      exact Again.mk (i + 1, k + 1, g, c, t1, t2) (by simp -implicitDefEqProofs only [go_sem, reduceEqDiff, reduceAdd, reduceLeDiff, reduceLT, reduceMul, reduceEq, Int.reduceLT, reduceLE, Int.reduceAdd, reduceSub, reduceToNat, UInt8.reduceToNat, e0, e1, e2, e6, e7, e8, e9]) ⟨by simp only; omega, by simp only; omega, by simp only; omega, by simp only; omega, hS2, hA, hC, hne⟩ (by simp only; omega)
    · have y6 : decide (¬ x = y) = true := decide_eq_true c3
      have hS2 : SdOK (·.path) a b (i + 1) (k + 1) g (c ++ [y]) := by
        unfold SdOK at hS ⊢
        rw [hS, drop_at hx, drop_at hy, sidesV_c, if_neg (fun h => c1 (hc1.2 h)), if_neg (fun h => c2 (hc2.2 h)), if_pos c3]
        simp
      simp -implicitDefEqProofs only [go_sem, reduceEqDiff, reduceAdd, reduceLeDiff, reduceLT, reduceMul, reduceEq, Int.reduceLT, reduceLE, Int.reduceAdd, reduceSub, reduceToNat, UInt8.reduceToNat, e0, e1, e2, e6, e7, e8, e9, y1, y2, y3, y4, y5, hx, hy, q1, q2, q3, puSd, hn, y6, hu, htt, forall_const, implies_true, true_and, wi, wk]
      refine AppG.step2 hC (fun z hz => by obtain ⟨q, -, rfl⟩ := List.mem_map.1 hz; rfl) (by simp) (by simp; omega) (by simp; omega) (fun t' G' hC' hG => ?_)
      have hnew : c.map encFile ++ [encFile y] = (c ++ [y]).map encFile := by simp
      rw [hnew] at hC' ⊢
      have ho := hG.other hC'.1 hA hne
      simp -implicitDefEqProofs only [go_sem, reduceEqDiff, reduceAdd, reduceLeDiff, reduceLT, reduceMul, reduceEq, Int.reduceLT, reduceLE, Int.reduceAdd, reduceSub, reduceToNat, UInt8.reduceToNat, e0, e1, e2, e6, e7, e8, e9, wi, wk]
      exact Again.mk (i + 1, k + 1, g, c ++ [y], t1, t') (by simp -implicitDefEqProofs only [go_sem, reduceEqDiff, reduceAdd, reduceLeDiff, reduceLT, reduceMul, reduceEq, Int.reduceLT, reduceLE, Int.reduceAdd, reduceSub, reduceToNat, UInt8.reduceToNat, e0, e1, e2, e6, e7, e8, e9]) ⟨by simp only; omega, by simp only; omega, by simp only; omega, by simp; omega, hS2, ho.1, hC', ho.2⟩ (by simp only; omega)
  · have y1 : decide ((i : Int) < a.length) = false := decide_eq_false (by omega)
    by_cases ck : k < b.length
    rotate_left
    · have y2 : decide ((k : Int) < b.length) = false := decide_eq_false (by omega)
      have hd : sidesV (·.path) a b = (g, c) := by
        unfold SdOK at hS
        rw [hS, List.drop_of_length_le (show a.length ≤ i by omega), List.drop_of_length_le (show b.length ≤ k by omega), sidesV_l]
        simp
      rw [hd]
      simp -implicitDefEqProofs only [go_sem, reduceEqDiff, reduceAdd, reduceLeDiff, reduceLT, reduceMul, reduceEq, Int.reduceLT, reduceLE, Int.reduceAdd, reduceSub, reduceToNat, UInt8.reduceToNat, e0, e1, e2, e6, e7, e8, e9, y1, y2]
      exact Done.wk 2 (Done.drop hA.1 ⟨rfl, rfl⟩)
    have y2 : decide ((k : Int) < b.length) = true := decide_eq_true (by omega)
    have y3 : decide ((k : Int) = b.length) = false := decide_eq_false (by omega)
    have y4 : decide ((i : Int) = a.length) = true := decide_eq_true (by omega)
    obtain ⟨y, hy⟩ : ∃ x, b[k]? = some x := getD_get' ck
    have hS2 : SdOK (·.path) a b i (k + 1) g (c ++ [y]) := by
      have hd : a.drop i = [] := List.drop_of_length_le (by omega)
      unfold SdOK at hS ⊢
      rw [hS, hd, sidesV_l, sidesV_l, drop_at hy]
      simp
    simp -implicitDefEqProofs only [go_sem, reduceEqDiff, reduceAdd, reduceLeDiff, reduceLT, reduceMul, reduceEq, Int.reduceLT, reduceLE, Int.reduceAdd, reduceSub, reduceToNat, UInt8.reduceToNat, e0, e1, e2, e6, e7, e8, e9, y1, y2, y3, y4, m2, m3, hy, hu, htt, forall_const, implies_true, true_and, wk]
    refine AppG.step2 hC (fun z hz => by obtain ⟨q, -, rfl⟩ := List.mem_map.1 hz; rfl) (by simp) (by simp; omega) (by simp; omega) (fun t' G' hC' hG => ?_)
    have hnew : c.map encFile ++ [encFile y] = (c ++ [y]).map encFile := by simp
    rw [hnew] at hC' ⊢
    have ho := hG.other hC'.1 hA hne
    simp -implicitDefEqProofs only [go_sem, reduceEqDiff, reduceAdd, reduceLeDiff, reduceLT, reduceMul, reduceEq, Int.reduceLT, reduceLE, Int.reduceAdd, reduceSub, reduceToNat, UInt8.reduceToNat, e0, e1, e2, e6, e7, e8, e9, wk]
    exact Again.mk (i, k + 1, g, c ++ [y], t1, t') (by simp -implicitDefEqProofs only [go_sem, reduceEqDiff, reduceAdd, reduceLeDiff, reduceLT, reduceMul, reduceEq, Int.reduceLT, reduceLE, Int.reduceAdd, reduceSub, reduceToNat, UInt8.reduceToNat, e0, e1, e2, e6, e7, e8, e9]) ⟨hi, by simp only; omega, by simp only; omega, by simp; omega, hS2, ho.1, hC', ho.2⟩ (by simp only; omega)
set_option maxHeartbeats 6400000 in
theorem sidesS_calls (a b : List SetV) (ta tb : Tail) (H : Heap) (hla : a.length ≤ 1000000) (hlb : b.length ≤ 1000000) :
    ACalls Tryz.prog 101 [.sl (a.map encSet) ta, .sl (b.map encSet) tb, .func 68 []] H fun x H' => x = .tup [.sl ((sidesV (·.key) a b).1.map encSet) .unk, .sl ((sidesV (·.key) a b).2.map encSet) .unk] ∧ H' = H := by
  have hu : ∀ x : SetV, (encSet x).length = 2 := fun _ => rfl
  refine ACalls.of_code (X := { pure := puSd }) puSd_ok Tryz.func101 (by kernel_rfl) rfl (by kernel_rfl) (Nat.le_of_ble_eq_true rfl) ?_
  simp -implicitDefEqProofs only [go_sem, reduceEqDiff, reduceAdd, reduceLeDiff, reduceLT, reduceMul, reduceEq, Int.reduceLT, reduceLE, Int.reduceAdd, reduceSub, reduceToNat, UInt8.reduceToNat, Tryz.f101]
  refine aloop_intro (σ := Nat × Nat × List SetV × List SetV × Tail × Tail) (fun s => [(0, .sl (a.map encSet) ta), (1, .sl (b.map encSet) tb), (2, .func 68 []), (6, .sl (s.2.2.1.map encSet) s.2.2.2.2.1), (7, .sl (s.2.2.2.1.map encSet) s.2.2.2.2.2), (8, .int .i64 s.1), (9, .int .i64 s.2.1)])
    (fun s G => s.1 ≤ a.length ∧ s.2.1 ≤ b.length ∧ s.2.2.1.length ≤ s.1 + s.2.1 ∧ s.2.2.2.1.length ≤ s.1 + s.2.1 ∧ SdOK (·.key) a b s.1 s.2.1 s.2.2.1 s.2.2.2.1 ∧ AppG H G 2 (s.2.2.1.map encSet) s.2.2.2.2.1 ∧ AppG H G 2 (s.2.2.2.1.map encSet) s.2.2.2.2.2 ∧ tokNe s.2.2.2.2.1 s.2.2.2.2.2)
    (fun s => a.length + b.length - s.1 - s.2.1) (0, 0, [], [], .exact, .exact) ?_ ?_ ?_
  · simp -implicitDefEqProofs only [go_sem, reduceEqDiff, reduceAdd, reduceLeDiff, reduceLT, reduceMul, reduceEq, Int.reduceLT, reduceLE, Int.reduceAdd, reduceSub, reduceToNat, UInt8.reduceToNat, List.map_nil]
  · exact ⟨Nat.zero_le _, Nat.zero_le _, Nat.le_refl _, Nat.le_refl _, by simp [SdOK], AppG.new (Heap.Sub.rfl' H) _, AppG.new (Heap.Sub.rfl' H) _, tokNe_exact _⟩
  rintro ⟨i, k, g, c, t1, t2⟩ r G hv ⟨hi, hk, hgl, hcl, hS, hA, hC, hne⟩
  simp only at hi hk hgl hcl hS hA hC hne
  have e0 := hv.1
  have e1 := hv.2.1
  have e2 := hv.2.2.1
  have e6 := hv.2.2.2.1
  have e7 := hv.2.2.2.2.1
  have e8 := hv.2.2.2.2.2.1
  have e9 := hv.2.2.2.2.2.2.1
  simp only at e6 e7 e8 e9
  clear hv
  have wi : IntKind.i64.wrap ((i : Int) + 1) = ((i + 1 : Nat) : Int) := by rw [Go.IntWalk.i64_in _ (by omega)]; omega
  have wk : IntKind.i64.wrap ((k : Int) + 1) = ((k + 1 : Nat) : Int) := by rw [Go.IntWalk.i64_in _ (by omega)]; omega
  have htt : ∀ x : SetV, (encSet x).take 2 = encSet x := fun _ => rfl
  have m1 : decide ((-1 : Int) < 0) = true := rfl
  have m2 : decide ((1 : Int) < 0) = false := rfl
  have m3 : decide ((0 : Int) < 1) = true := rfl
  have hUa : ∀ x ∈ a, (encSet x).length = 2 := fun x _ => rfl
  have hUb : ∀ x ∈ b, (encSet x).length = 2 := fun x _ => rfl
  have cla : ((a.map encSet).length : Int) = a.length := by simp
  by_cases ci : i < a.length
  · have y1 : decide ((i : Int) < a.length) = true := decide_eq_true (by omega)
    obtain ⟨x, hx⟩ : ∃ x, a[i]? = some x := getD_get' ci
    by_cases ck : k < b.length
    rotate_left
    · have y2 : decide ((k : Int) = b.length) = true := decide_eq_true (by omega)
      have hS2 : SdOK (·.key) a b (i + 1) k (g ++ [x]) c := by
        have hd : b.drop k = [] := List.drop_of_length_le (by omega)
        unfold SdOK at hS ⊢
        rw [hS, hd, sidesV_r, sidesV_r, drop_at hx]
        simp
      simp -implicitDefEqProofs only [go_sem, reduceEqDiff, reduceAdd, reduceLeDiff, reduceLT, reduceMul, reduceEq, Int.reduceLT, reduceLE, Int.reduceAdd, reduceSub, reduceToNat, UInt8.reduceToNat, e0, e1, e2, e6, e7, e8, e9, y1, y2, m1, hx, hu, htt, forall_const, implies_true, true_and, wi]
      refine AppG.step2 hA (fun z hz => by obtain ⟨q, -, rfl⟩ := List.mem_map.1 hz; rfl) (by simp) (by simp; omega) (by simp; omega) (fun t' G' hA' hG => ?_)
      have hnew : g.map encSet ++ [encSet x] = (g ++ [x]).map encSet := by simp
      rw [hnew] at hA' ⊢
      have ho := hG.other hA'.1 hC hne.symm
      simp -implicitDefEqProofs only [go_sem, reduceEqDiff, reduceAdd, reduceLeDiff, reduceLT, reduceMul, reduceEq, Int.reduceLT, reduceLE, Int.reduceAdd, reduceSub, reduceToNat, UInt8.reduceToNat, e0, e1, e2, e6, e7, e8, e9, wi]
      exact Again.mk (i + 1, k, g ++ [x], c, t', t2) (by simp -implicitDefEqProofs only [go_sem, reduceEqDiff, reduceAdd, reduceLeDiff, reduceLT, reduceMul, reduceEq, Int.reduceLT, reduceLE, Int.reduceAdd, reduceSub, reduceToNat, UInt8.reduceToNat, e0, e1, e2, e6, e7, e8, e9]) ⟨by simp only; omega, hk, by simp; omega, by simp only; omega, hS2, hA', ho.1, ho.2.symm⟩ (by simp only; omega)
    have y2 : decide ((k : Int) = b.length) = false := decide_eq_false (by omega)
    have y3 : decide ((i : Int) = a.length) = false := decide_eq_false (by omega)
    obtain ⟨y, hy⟩ : ∃ x, b[k]? = some x := getD_get' ck
    have hc1 := cmp_lt x.key y.key
    have hc2 := cmp_gt x.key y.key
    have q1 : sKeyO [.agg (encSet x)] = some (.str x.key) := rfl
    have q2 : sKeyO [.agg (encSet y)] = some (.str y.key) := rfl
    have q3 := sCmpS_eq x.key y.key
    by_cases c1 : Lib.compareBytes x.key y.key < 0
    · have y4 : decide (Lib.compareBytes x.key y.key < 0) = true := decide_eq_true c1
      have hS2 : SdOK (·.key) a b (i + 1) k (g ++ [x]) c := by
        unfold SdOK at hS ⊢
        rw [hS, drop_at hx, drop_at hy, sidesV_c, if_pos (hc1.1 c1), ← drop_at hy]
        simp
      simp -implicitDefEqProofs only [go_sem, reduceEqDiff, reduceAdd, reduceLeDiff, reduceLT, reduceMul, reduceEq, Int.reduceLT, reduceLE, Int.reduceAdd, reduceSub, reduceToNat, UInt8.reduceToNat, e0, e1, e2, e6, e7, e8, e9, y1, y2, y3, y4, hx, hy, q1, q2, q3, puSd, hu, htt, forall_const, implies_true, true_and, wi]
      refine AppG.step2 hA (fun z hz => by obtain ⟨q, -, rfl⟩ := List.mem_map.1 hz; rfl) (by simp) (by simp; omega) (by simp; omega) (fun t' G' hA' hG => ?_)
      have hnew : g.map encSet ++ [encSet x] = (g ++ [x]).map encSet := by simp
      rw [hnew] at hA' ⊢
      have ho := hG.other hA'.1 hC hne.symm
      simp -implicitDefEqProofs only [go_sem, reduceEqDiff, reduceAdd, reduceLeDiff, reduceLT, reduceMul, reduceEq, Int.reduceLT, reduceLE, Int.reduceAdd, reduceSub, reduceToNat, UInt8.reduceToNat, e0, e1, e2, e6, e7, e8, e9, wi]
      exact Again.mk (i + 1, k, g ++ [x], c, t', t2) (by simp -implicitDefEqProofs only [go_sem, reduceEqDiff, reduceAdd, reduceLeDiff, reduceLT, reduceMul, reduceEq, Int.reduceLT, reduceLE, Int.reduceAdd, reduceSub, reduceToNat, UInt8.reduceToNat, e0, e1, e2, e6, e7, e8, e9]) ⟨by simp only; omega, hk, by simp; omega, by simp only; omega, hS2, hA', ho.1, ho.2.symm⟩ (by simp only; omega)
    have y4 : decide (Lib.compareBytes x.key y.key < 0) = false := decide_eq_false c1
    by_cases c2 : 0 < Lib.compareBytes x.key y.key
    · have y5 : decide (0 < Lib.compareBytes x.key y.key) = true := decide_eq_true c2
      have hS2 : SdOK (·.key) a b i (k + 1) g (c ++ [y]) := by
        unfold SdOK at hS ⊢
        rw [hS, drop_at hx, drop_at hy, sidesV_c, if_neg (fun h => c1 (hc1.2 h)), if_pos (hc2.1 c2), ← drop_at hx]
        simp
      simp -implicitDefEqProofs only [go_sem, reduceEqDiff, reduceAdd, reduceLeDiff, reduceLT, reduceMul, reduceEq, Int.reduceLT, reduceLE, Int.reduceAdd, reduceSub, reduceToNat, UInt8.reduceToNat, e0, e1, e2, e6, e7, e8, e9, y1, y2, y3, y4, y5, hx, hy, q1, q2, q3, puSd, hu, htt, forall_const, implies_true, true_and, wk]
      refine AppG.step2 hC (fun z hz => by obtain ⟨q, -, rfl⟩ := List.mem_map.1 hz; rfl) (by simp) (by simp; omega) (by simp; omega) (fun t' G' hC' hG => ?_)
      have hnew : c.map encSet ++ [encSet y] = (c ++ [y]).map encSet := by simp
      rw [hnew] at hC' ⊢
      have ho := hG.other hC'.1 hA hne
      simp -implicitDefEqProofs only [go_sem, reduceEqDiff, reduceAdd, reduceLeDiff, reduceLT, reduceMul, reduceEq, Int.reduceLT, reduceLE, Int.reduceAdd, reduceSub, reduceToNat, UInt8.reduceToNat, e0, e1, e2, e6, e7, e8, e9, wk]
      exact Again.mk (i, k + 1, g, c ++ [y], t1, t') (by simp -implicitDefEqProofs only [go_sem, reduceEqDiff, reduceAdd, reduceLeDiff, reduceLT, reduceMul, reduceEq, Int.reduceLT, reduceLE, Int.reduceAdd, reduceSub, reduceToNat, UInt8.reduceToNat, e0, e1, e2, e6, e7, e8, e9]) ⟨hi, by simp only; omega, by simp only; omega, by simp; omega, hS2, ho.1, hC', ho.2⟩ (by simp only; omega)
    have y5 : decide (0 < Lib.compareBytes x.key y.key) = false := decide_eq_false c2
    have hn := fun cx cy => eqSet_calls_ne cx cy x y
    by_cases c3 : x = y
    · have y6 : decide (¬ x = y) = false := decide_eq_false (by simpa using c3)
      have hS2 : SdOK (·.key) a b (i + 1) (k + 1) g c := by
        unfold SdOK at hS ⊢
        rw [hS, drop_at hx, drop_at hy, sidesV_c, if_neg (fun h => c1 (hc1.2 h)), if_neg (fun h => c2 (hc2.2 h)), if_neg (by simpa using c3)]
      simp -implicitDefEqProofs only [go_sem, reduceEqDiff, reduceAdd, reduceLeDiff, reduceLT, reduceMul, reduceEq, Int.reduceLT, reduceLE, Int.reduceAdd, reduceSub, reduceToNat, UInt8.reduceToNat, e0, e1, e2, e6, e7, e8, e9, y1, y2, y3, y4, y5, hx, hy, q1, q2, q3, puSd, hn, y6, hu, htt, forall_const, implies_true, true_and, wi, wk]
      exact Again.mk (i + 1, k + 1, g, c, t1, t2) (by simp -implicitDefEqProofs only [go_sem, reduceEqDiff, reduceAdd, reduceLeDiff, reduceLT, reduceMul, reduceEq, Int.reduceLT, reduceLE, Int.reduceAdd, reduceSub, reduceToNat, UInt8.reduceToNat, e0, e1, e2, e6, e7, e8, e9]) ⟨by simp only; omega, by simp only; omega, by simp only; omega, by simp only; omega, hS2, hA, hC, hne⟩ (by simp only; omega)
    · have y6 : decide (¬ x = y) = true := decide_eq_true c3
      have hS2 : SdOK (·.key) a b (i + 1) (k + 1) g (c ++ [y]) := by
        unfold SdOK at hS ⊢
        rw [hS, drop_at hx, drop_at hy, sidesV_c, if_neg (fun h => c1 (hc1.2 h)), if_neg (fun h => c2 (hc2.2 h)), if_pos c3]
        simp
      simp -implicitDefEqProofs only [go_sem, reduceEqDiff, reduceAdd, reduceLeDiff, reduceLT, reduceMul, reduceEq, Int.reduceLT, reduceLE, Int.reduceAdd, reduceSub, reduceToNat, UInt8.reduceToNat, e0, e1, e2, e6, e7, e8, e9, y1, y2, y3, y4, y5, hx, hy, q1, q2, q3, puSd, hn, y6, hu, htt, forall_const, implies_true, true_and, wi, wk]
      refine AppG.step2 hC (fun z hz => by obtain ⟨q, -, rfl⟩ := List.mem_map.1 hz; rfl) (by simp) (by simp; omega) (by simp; omega) (fun t' G' hC' hG => ?_)
      have hnew : c.map encSet ++ [encSet y] = (c ++ [y]).map encSet := by simp
      rw [hnew] at hC' ⊢
      have ho := hG.other hC'.1 hA hne
      simp -implicitDefEqProofs only [go_sem, reduceEqDiff, reduceAdd, reduceLeDiff, reduceLT, reduceMul, reduceEq, Int.reduceLT, reduceLE, Int.reduceAdd, reduceSub, reduceToNat, UInt8.reduceToNat, e0, e1, e2, e6, e7, e8, e9, wi, wk]
      exact Again.mk (i + 1, k + 1, g, c ++ [y], t1, t') (by simp -implicitDefEqProofs only [go_sem, reduceEqDiff, reduceAdd, reduceLeDiff, reduceLT, reduceMul, reduceEq, Int.reduceLT, reduceLE, Int.reduceAdd, reduceSub, reduceToNat, UInt8.reduceToNat, e0, e1, e2, e6, e7, e8, e9]) ⟨by simp only; omega, by simp only; omega, by simp only; omega, by simp; omega, hS2, ho.1, hC', ho.2⟩ (by simp only; omega)
  · have y1 : decide ((i : Int) < a.length) = false := decide_eq_false (by omega)
    by_cases ck : k < b.length
    rotate_left
    · have y2 : decide ((k : Int) < b.length) = false := decide_eq_false (by omega)
      have hd : sidesV (·.key) a b = (g, c) := by
        unfold SdOK at hS
        rw [hS, List.drop_of_length_le (show a.length ≤ i by omega), List.drop_of_length_le (show b.length ≤ k by omega), sidesV_l]
        simp
      rw [hd]
      simp -implicitDefEqProofs only [go_sem, reduceEqDiff, reduceAdd, reduceLeDiff, reduceLT, reduceMul, reduceEq, Int.reduceLT, reduceLE, Int.reduceAdd, reduceSub, reduceToNat, UInt8.reduceToNat, e0, e1, e2, e6, e7, e8, e9, y1, y2]
      exact Done.wk 2 (Done.drop hA.1 ⟨rfl, rfl⟩)
    have y2 : decide ((k : Int) < b.length) = true := decide_eq_true (by omega)
    have y3 : decide ((k : Int) = b.length) = false := decide_eq_false (by omega)
    have y4 : decide ((i : Int) = a.length) = true := decide_eq_true (by omega)
    obtain ⟨y, hy⟩ : ∃ x, b[k]? = some x := getD_get' ck
    have hS2 : SdOK (·.key) a b i (k + 1) g (c ++ [y]) := by
      have hd : a.drop i = [] := List.drop_of_length_le (by omega)
      unfold SdOK at hS ⊢
      rw [hS, hd, sidesV_l, sidesV_l, drop_at hy]
      simp
    simp -implicitDefEqProofs only [go_sem, reduceEqDiff, reduceAdd, reduceLeDiff, reduceLT, reduceMul, reduceEq, Int.reduceLT, reduceLE, Int.reduceAdd, reduceSub, reduceToNat, UInt8.reduceToNat, e0, e1, e2, e6, e7, e8, e9, y1, y2, y3, y4, m2, m3, hy, hu, htt, forall_const, implies_true, true_and, wk]
    refine AppG.step2 hC (fun z hz => by obtain ⟨q, -, rfl⟩ := List.mem_map.1 hz; rfl) (by simp) (by simp; omega) (by simp; omega) (fun t' G' hC' hG => ?_)
    have hnew : c.map encSet ++ [encSet y] = (c ++ [y]).map encSet := by simp
    rw [hnew] at hC' ⊢
    have ho := hG.other hC'.1 hA hne
    simp -implicitDefEqProofs only [go_sem, reduceEqDiff, reduceAdd, reduceLeDiff, reduceLT, reduceMul, reduceEq, Int.reduceLT, reduceLE, Int.reduceAdd, reduceSub, reduceToNat, UInt8.reduceToNat, e0, e1, e2, e6, e7, e8, e9, wk]
    exact Again.mk (i, k + 1, g, c ++ [y], t1, t') (by simp -implicitDefEqProofs only [go_sem, reduceEqDiff, reduceAdd, reduceLeDiff, reduceLT, reduceMul, reduceEq, Int.reduceLT, reduceLE, Int.reduceAdd, reduceSub, reduceToNat, UInt8.reduceToNat, e0, e1, e2, e6, e7, e8, e9]) ⟨hi, by simp only; omega, by simp only; omega, by simp; omega, hS2, ho.1, hC', ho.2⟩ (by simp only; omega)
set_option maxHeartbeats 6400000 in
theorem sidesV_calls (a b : List SvcV) (ta tb : Tail) (H : Heap) (hla : a.length ≤ 1000000) (hlb : b.length ≤ 1000000) :
    ACalls Tryz.prog 102 [.sl (a.map encSvc) ta, .sl (b.map encSvc) tb, .func 76 []] H fun x H' => x = .tup [.sl ((sidesV (·.name) a b).1.map encSvc) .unk, .sl ((sidesV (·.name) a b).2.map encSvc) .unk] ∧ H' = H := by
  have hu : ∀ x : SvcV, (encSvc x).length = 4 := fun _ => rfl
  refine ACalls.of_code (X := { pure := puSd }) puSd_ok Tryz.func102 (by kernel_rfl) rfl (by kernel_rfl) (Nat.le_of_ble_eq_true rfl) ?_
  simp -implicitDefEqProofs only [go_sem, reduceEqDiff, reduceAdd, reduceLeDiff, reduceLT, reduceMul, reduceEq, Int.reduceLT, reduceLE, Int.reduceAdd, reduceSub, reduceToNat, UInt8.reduceToNat, Tryz.f102]
  refine aloop_intro (σ := Nat × Nat × List SvcV × List SvcV × Tail × Tail) (fun s => [(0, .sl (a.map encSvc) ta), (1, .sl (b.map encSvc) tb), (2, .func 76 []), (6, .sl (s.2.2.1.map encSvc) s.2.2.2.2.1), (7, .sl (s.2.2.2.1.map encSvc) s.2.2.2.2.2), (8, .int .i64 s.1), (9, .int .i64 s.2.1)])
    (fun s G => s.1 ≤ a.length ∧ s.2.1 ≤ b.length ∧ s.2.2.1.length ≤ s.1 + s.2.1 ∧ s.2.2.2.1.length ≤ s.1 + s.2.1 ∧ SdOK (·.name) a b s.1 s.2.1 s.2.2.1 s.2.2.2.1 ∧ AppG H G 4 (s.2.2.1.map encSvc) s.2.2.2.2.1 ∧ AppG H G 4 (s.2.2.2.1.map encSvc) s.2.2.2.2.2 ∧ tokNe s.2.2.2.2.1 s.2.2.2.2.2)
    (fun s => a.length + b.length - s.1 - s.2.1) (0, 0, [], [], .exact, .exact) ?_ ?_ ?_
  · simp -implicitDefEqProofs only [go_sem, reduceEqDiff, reduceAdd, reduceLeDiff, reduceLT, reduceMul, reduceEq, Int.reduceLT, reduceLE, Int.reduceAdd, reduceSub, reduceToNat, UInt8.reduceToNat, List.map_nil]
  · exact ⟨Nat.zero_le _, Nat.zero_le _, Nat.le_refl _, Nat.le_refl _, by simp [SdOK], AppG.new (Heap.Sub.rfl' H) _, AppG.new (Heap.Sub.rfl' H) _, tokNe_exact _⟩
  rintro ⟨i, k, g, c, t1, t2⟩ r G hv ⟨hi, hk, hgl, hcl, hS, hA, hC, hne⟩
  simp only at hi hk hgl hcl hS hA hC hne
  have e0 := hv.1
  have e1 := hv.2.1
  have e2 := hv.2.2.1
  have e6 := hv.2.2.2.1
  have e7 := hv.2.2.2.2.1
  have e8 := hv.2.2.2.2.2.1
  have e9 := hv.2.2.2.2.2.2.1
  simp only at e6 e7 e8 e9
  clear hv
  have wi : IntKind.i64.wrap ((i : Int) + 1) = ((i + 1 : Nat) : Int) := by rw [Go.IntWalk.i64_in _ (by omega)]; omega
  have wk : IntKind.i64.wrap ((k : Int) + 1) = ((k + 1 : Nat) : Int) := by rw [Go.IntWalk.i64_in _ (by omega)]; omega
  have htt : ∀ x : SvcV, (encSvc x).take 4 = encSvc x := fun _ => rfl
  have m1 : decide ((-1 : Int) < 0) = true := rfl
  have m2 : decide ((1 : Int) < 0) = false := rfl
  have m3 : decide ((0 : Int) < 1) = true := rfl
  have hUa : ∀ x ∈ a, (encSvc x).length = 4 := fun x _ => rfl
  have hUb : ∀ x ∈ b, (encSvc x).length = 4 := fun x _ => rfl
  have cla : ((a.map encSvc).length : Int) = a.length := by simp
  by_cases ci : i < a.length
  · have y1 : decide ((i : Int) < a.length) = true := decide_eq_true (by omega)
    obtain ⟨x, hx⟩ : ∃ x, a[i]? = some x := getD_get' ci
    by_cases ck : k < b.length
    rotate_left
    · have y2 : decide ((k : Int) = b.length) = true := decide_eq_true (by omega)
      have hS2 : SdOK (·.name) a b (i + 1) k (g ++ [x]) c := by
        have hd : b.drop k = [] := List.drop_of_length_le (by omega)
        unfold SdOK at hS ⊢
        rw [hS, hd, sidesV_r, sidesV_r, drop_at hx]
        simp
      simp -implicitDefEqProofs only [go_sem, reduceEqDiff, reduceAdd, reduceLeDiff, reduceLT, reduceMul, reduceEq, Int.reduceLT, reduceLE, Int.reduceAdd, reduceSub, reduceToNat, UInt8.reduceToNat, e0, e1, e2, e6, e7, e8, e9, y1, y2, m1, hx, hu, htt, forall_const, implies_true, true_and, wi]
      refine AppG.step2 hA (fun z hz => by obtain ⟨q, -, rfl⟩ := List.mem_map.1 hz; rfl) (by simp) (by simp; omega) (by simp; omega) (fun t' G' hA' hG => ?_)
      have hnew : g.map encSvc ++ [encSvc x] = (g ++ [x]).map encSvc := by simp
      rw [hnew] at hA' ⊢
      have ho := hG.other hA'.1 hC hne.symm
      simp -implicitDefEqProofs only [go_sem, reduceEqDiff, reduceAdd, reduceLeDiff, reduceLT, reduceMul, reduceEq, Int.reduceLT, reduceLE, Int.reduceAdd, reduceSub, reduceToNat, UInt8.reduceToNat, e0, e1, e2, e6, e7, e8, e9, wi]
      exact Again.mk (i + 1, k, g ++ [x], c, t', t2) (by simp -implicitDefEqProofs only [go_sem, reduceEqDiff, reduceAdd, reduceLeDiff, reduceLT, reduceMul, reduceEq, Int.reduceLT, reduceLE, Int.reduceAdd, reduceSub, reduceToNat, UInt8.reduceToNat, e0, e1, e2, e6, e7, e8, e9]) ⟨by simp only; omega, hk, by simp; omega, by simp only; omega, hS2, hA', ho.1, ho.2.symm⟩ (by simp only; omega)
    have y2 : decide ((k : Int) = b.length) = false := decide_eq_false (by omega)
    have y3 : decide ((i : Int) = a.length) = false := decide_eq_false (by omega)
    obtain ⟨y, hy⟩ : ∃ x, b[k]? = some x := getD_get' ck
    have hc1 := cmp_lt x.name y.name
    have hc2 := cmp_gt x.name y.name
    have q1 : sNameO [.agg (encSvc x)] = some (.str x.name) := rfl
    have q2 : sNameO [.agg (encSvc y)] = some (.str y.name) := rfl
    have q3 := sCmpS_eq x.name y.name
    by_cases c1 : Lib.compareBytes x.name y.name < 0
    · have y4 : decide (Lib.compareBytes x.name y.name < 0) = true := decide_eq_true c1
      have hS2 : SdOK (·.name) a b (i + 1) k (g ++ [x]) c := by
        unfold SdOK at hS ⊢
        rw [hS, drop_at hx, drop_at hy, sidesV_c, if_pos (hc1.1 c1), ← drop_at hy]
        simp
      simp -implicitDefEqProofs only [go_sem, reduceEqDiff, reduceAdd, reduceLeDiff, reduceLT, reduceMul, reduceEq, Int.reduceLT, reduceLE, Int.reduceAdd, reduceSub, reduceToNat, UInt8.reduceToNat, e0, e1, e2, e6, e7, e8, e9, y1, y2, y3, y4, hx, hy, q1, q2, q3, puSd, hu, htt, forall_const, implies_true, true_and, wi]
      refine AppG.step2 hA (fun z hz => by obtain ⟨q, -, rfl⟩ := List.mem_map.1 hz; rfl) (by simp) (by simp; omega) (by simp; omega) (fun t' G' hA' hG => ?_)
      have hnew : g.map encSvc ++ [encSvc x] = (g ++ [x]).map encSvc := by simp
      rw [hnew] at hA' ⊢
      have ho := hG.other hA'.1 hC hne.symm
      simp -implicitDefEqProofs only [go_sem, reduceEqDiff, reduceAdd, reduceLeDiff, reduceLT, reduceMul, reduceEq, Int.reduceLT, reduceLE, Int.reduceAdd, reduceSub, reduceToNat, UInt8.reduceToNat, e0, e1, e2, e6, e7, e8, e9, wi]
      exact Again.mk (i + 1, k, g ++ [x], c, t', t2) (by simp -implicitDefEqProofs only [go_sem, reduceEqDiff, reduceAdd, reduceLeDiff, reduceLT, reduceMul, reduceEq, Int.reduceLT, reduceLE, Int.reduceAdd, reduceSub, reduceToNat, UInt8.reduceToNat, e0, e1, e2, e6, e7, e8, e9]) ⟨by simp only; omega, hk, by simp; omega, by simp only; omega, hS2, hA', ho.1, ho.2.symm⟩ (by simp only; omega)
    have y4 : decide (Lib.compareBytes x.name y.name < 0) = false := decide_eq_false c1
    by_cases c2 : 0 < Lib.compareBytes x.name y.name
    · have y5 : decide (0 < Lib.compareBytes x.name y.name) = true := decide_eq_true c2
      have hS2 : SdOK (·.name) a b i (k + 1) g (c ++ [y]) := by
        unfold SdOK at hS ⊢
        rw [hS, drop_at hx, drop_at hy, sidesV_c, if_neg (fun h => c1 (hc1.2 h)), if_pos (hc2.1 c2), ← drop_at hx]
        simp
      simp -implicitDefEqProofs only [go_sem, reduceEqDiff, reduceAdd, reduceLeDiff, reduceLT, reduceMul, reduceEq, Int.reduceLT, reduceLE, Int.reduceAdd, reduceSub, reduceToNat, UInt8.reduceToNat, e0, e1, e2, e6, e7, e8, e9, y1, y2, y3, y4, y5, hx, hy, q1, q2, q3, puSd, hu, htt, forall_const, implies_true, true_and, wk]
      refine AppG.step2 hC (fun z hz => by obtain ⟨q, -, rfl⟩ := List.mem_map.1 hz; rfl) (by simp) (by simp; omega) (by simp; omega) (fun t' G' hC' hG => ?_)
      have hnew : c.map encSvc ++ [encSvc y] = (c ++ [y]).map encSvc := by simp
      rw [hnew] at hC' ⊢
      have ho := hG.other hC'.1 hA hne
      simp -implicitDefEqProofs only [go_sem, reduceEqDiff, reduceAdd, reduceLeDiff, reduceLT, reduceMul, reduceEq, Int.reduceLT, reduceLE, Int.reduceAdd, reduceSub, reduceToNat, UInt8.reduceToNat, e0, e1, e2, e6, e7, e8, e9, wk]
      exact Again.mk (i, k + 1, g, c ++ [y], t1, t') (by simp -implicitDefEqProofs only [go_sem, reduceEqDiff, reduceAdd, reduceLeDiff, reduceLT, reduceMul, reduceEq, Int.reduceLT, reduceLE, Int.reduceAdd, reduceSub, reduceToNat, UInt8.reduceToNat, e0, e1, e2, e6, e7, e8, e9]) ⟨hi, by simp only; omega, by simp only; omega, by simp; omega, hS2, ho.1, hC', ho.2⟩ (by simp only; omega)
    have y5 : decide (0 < Lib.compareBytes x.name y.name) = false := decide_eq_false c2
    have hn := fun cx cy => eqSvc_calls_ne cx cy x y
    by_cases c3 : x = y
    · have y6 : decide (¬ x = y) = false := decide_eq_false (by simpa using c3)
      have hS2 : SdOK (·.name) a b (i + 1) (k + 1) g c := by
        unfold SdOK at hS ⊢
        rw [hS, drop_at hx, drop_at hy, sidesV_c, if_neg (fun h => c1 (hc1.2 h)), if_neg (fun h => c2 (hc2.2 h)), if_neg (by simpa using c3)]
      simp -implicitDefEqProofs only [go_sem, reduceEqDiff, reduceAdd, reduceLeDiff, reduceLT, reduceMul, reduceEq, Int.reduceLT, reduceLE, Int.reduceAdd, reduceSub, reduceToNat, UInt8.reduceToNat, e0, e1, e2, e6, e7, e8, e9, y1, y2, y3, y4, y5, hx, hy, q1, q2, q3, puSd, hn, y6, hu, htt, forall_const, implies_true, true_and, wi, wk]
      exact Again.mk (i + 1, k + 1, g, c, t1, t2) (by simp -implicitDefEqProofs only [go_sem, reduceEqDiff, reduceAdd, reduceLeDiff, reduceLT, reduceMul, reduceEq, Int.reduceLT, reduceLE, Int.reduceAdd, reduceSub, reduceToNat, UInt8.reduceToNat, e0, e1, e2, e6, e7, e8, e9]) ⟨by simp only; omega, by simp only; omega, by simp only; omega, by simp only; omega, hS2, hA, hC, hne⟩ (by simp only; omega)
    · have y6 : decide (¬ x = y) = true := decide_eq_true c3
      have hS2 : SdOK (·.name) a b (i + 1) (k + 1) g (c ++ [y]) := by
        unfold SdOK at hS ⊢
        rw [hS, drop_at hx, drop_at hy, sidesV_c, if_neg (fun h => c1 (hc1.2 h)), if_neg (fun h => c2 (hc2.2 h)), if_pos c3]
        simp
      simp -implicitDefEqProofs only [go_sem, reduceEqDiff, reduceAdd, reduceLeDiff, reduceLT, reduceMul, reduceEq, Int.reduceLT, reduceLE, Int.reduceAdd, reduceSub, reduceToNat, UInt8.reduceToNat, e0, e1, e2, e6, e7, e8, e9, y1, y2, y3, y4, y5, hx, hy, q1, q2, q3, puSd, hn, y6, hu, htt, forall_const, implies_true, true_and, wi, wk]
      refine AppG.step2 hC (fun z hz => by obtain ⟨q, -, rfl⟩ := List.mem_map.1 hz; rfl) (by simp) (by simp; omega) (by simp; omega) (fun t' G' hC' hG => ?_)
      have hnew : c.map encSvc ++ [encSvc y] = (c ++ [y]).map encSvc := by simp
      rw [hnew] at hC' ⊢
      have ho := hG.other hC'.1 hA hne
      simp -implicitDefEqProofs only [go_sem, reduceEqDiff, reduceAdd, reduceLeDiff, reduceLT, reduceMul, reduceEq, Int.reduceLT, reduceLE, Int.reduceAdd, reduceSub, reduceToNat, UInt8.reduceToNat, e0, e1, e2, e6, e7, e8, e9, wi, wk]
      exact Again.mk (i + 1, k + 1, g, c ++ [y], t1, t') (by simp -implicitDefEqProofs only [go_sem, reduceEqDiff, reduceAdd, reduceLeDiff, reduceLT, reduceMul, reduceEq, Int.reduceLT, reduceLE, Int.reduceAdd, reduceSub, reduceToNat, UInt8.reduceToNat, e0, e1, e2, e6, e7, e8, e9]) ⟨by simp only; omega, by simp only; omega, by simp only; omega, by simp; omega, hS2, ho.1, hC', ho.2⟩ (by simp only; omega)
  · have y1 : decide ((i : Int) < a.length) = false := decide_eq_false (by omega)
    by_cases ck : k < b.length
    rotate_left
    · have y2 : decide ((k : Int) < b.length) = false := decide_eq_false (by omega)
      have hd : sidesV (·.name) a b = (g, c) := by
        unfold SdOK at hS
        rw [hS, List.drop_of_length_le (show a.length ≤ i by omega), List.drop_of_length_le (show b.length ≤ k by omega), sidesV_l]
        simp
      rw [hd]
      simp -implicitDefEqProofs only [go_sem, reduceEqDiff, reduceAdd, reduceLeDiff, reduceLT, reduceMul, reduceEq, Int.reduceLT, reduceLE, Int.reduceAdd, reduceSub, reduceToNat, UInt8.reduceToNat, e0, e1, e2, e6, e7, e8, e9, y1, y2]
      exact Done.wk 2 (Done.drop hA.1 ⟨rfl, rfl⟩)
    have y2 : decide ((k : Int) < b.length) = true := decide_eq_true (by omega)
    have y3 : decide ((k : Int) = b.length) = false := decide_eq_false (by omega)
    have y4 : decide ((i : Int) = a.length) = true := decide_eq_true (by omega)
    obtain ⟨y, hy⟩ : ∃ x, b[k]? = some x := getD_get' ck
    have hS2 : SdOK (·.name) a b i (k + 1) g (c ++ [y]) := by
      have hd : a.drop i = [] := List.drop_of_length_le (by omega)
      unfold SdOK at hS ⊢
      rw [hS, hd, sidesV_l, sidesV_l, drop_at hy]
      simp
    simp -implicitDefEqProofs only [go_sem, reduceEqDiff, reduceAdd, reduceLeDiff, reduceLT, reduceMul, reduceEq, Int.reduceLT, reduceLE, Int.reduceAdd, reduceSub, reduceToNat, UInt8.reduceToNat, e0, e1, e2, e6, e7, e8, e9, y1, y2, y3, y4, m2, m3, hy, hu, htt, forall_const, implies_true, true_and, wk]
    refine AppG.step2 hC (fun z hz => by obtain ⟨q, -, rfl⟩ := List.mem_map.1 hz; rfl) (by simp) (by simp; omega) (by simp; omega) (fun t' G' hC' hG => ?_)
    have hnew : c.map encSvc ++ [encSvc y] = (c ++ [y]).map encSvc := by simp
    rw [hnew] at hC' ⊢
    have ho := hG.other hC'.1 hA hne
    simp -implicitDefEqProofs only [go_sem, reduceEqDiff, reduceAdd, reduceLeDiff, reduceLT, reduceMul, reduceEq, Int.reduceLT, reduceLE, Int.reduceAdd, reduceSub, reduceToNat, UInt8.reduceToNat, e0, e1, e2, e6, e7, e8, e9, wk]
    exact Again.mk (i, k + 1, g, c ++ [y], t1, t') (by simp -implicitDefEqProofs only [go_sem, reduceEqDiff, reduceAdd, reduceLeDiff, reduceLT, reduceMul, reduceEq, Int.reduceLT, reduceLE, Int.reduceAdd, reduceSub, reduceToNat, UInt8.reduceToNat, e0, e1, e2, e6, e7, e8, e9]) ⟨hi, by simp only; omega, by simp only; omega, by simp; omega, hS2, ho.1, hC', ho.2⟩ (by simp only; omega)
end Go.Proofs

/- Walks: the program's bench: counts of files below directories. -/
namespace Go.Proofs
open Go Go.Abs
open Nat (reduceEqDiff reduceAdd reduceLeDiff reduceLT reduceMul)
open Int (reduceEq reduceLE reduceSub reduceToNat)
set_option linter.unusedSimpArgs false
set_option linter.unusedVariables false
set_option maxRecDepth 20000
/-- The program's machine of maps. -/
structure BW (H G : Heap) (ib i1 i2 i3 i4 : Nat) (fs : List (List AV)) (ta : Tail) (lf : List FileV) (ls : List SetV) (lv : List SvcV) (F : Bytes → Int) : Prop where
  sub : H.Sub G
  nn : H ib = none ∧ H i1 = none ∧ H i2 = none ∧ H i3 = none ∧ H i4 = none
  d : ¬ i1 = ib ∧ ¬ i2 = ib ∧ ¬ i3 = ib ∧ ¬ i4 = ib ∧ ¬ i1 = i2 ∧ ¬ i1 = i3 ∧ ¬ i1 = i4 ∧ ¬ i2 = i3 ∧ ¬ i2 = i4 ∧ ¬ i3 = i4
  b : G ib = some (.cells [.sl fs ta, .map i1, .map i2, .map i3, .map i4])
  f : ∃ es, G i1 = some (.map .str es) ∧ MapOf (·.path) (fun x => .agg (encFile x)) es lf
  c : ∃ es, G i2 = some (.map .str es) ∧ CountOK es F
  s : ∃ es, G i3 = some (.map .str es) ∧ MapOf (·.key) (fun x => .agg (encSet x)) es ls
  v : ∃ es, G i4 = some (.map .str es) ∧ MapOf (·.name) (fun x => .agg (encSvc x)) es lv
section
variable {H G : Heap} {ib i1 i2 i3 i4 : Nat} {fs : List (List AV)} {ta : Tail} {lf lf' : List FileV} {ls ls' : List SetV} {lv lv' : List SvcV} {F F' : Bytes → Int}
theorem BW.mono {G' : Heap} (h : BW H G ib i1 i2 i3 i4 fs ta lf ls lv F) (hs : G.Sub G') : BW H G' ib i1 i2 i3 i4 fs ta lf ls lv F := by
  obtain ⟨a, b, d, e, ⟨e1, h1, k1⟩, ⟨e2, h2, k2⟩, ⟨e3, h3, k3⟩, ⟨e4, h4, k4⟩⟩ := h
  exact ⟨fun i o hi => hs _ _ (a i o hi), b, d, hs _ _ e, ⟨e1, hs _ _ h1, k1⟩, ⟨e2, hs _ _ h2, k2⟩, ⟨e3, hs _ _ h3, k3⟩, ⟨e4, hs _ _ h4, k4⟩⟩
theorem BW.put {j : Nat} (h : BW H G ib i1 i2 i3 i4 fs ta lf ls lv F) (hj : G j = none) (o : AObj) : BW H (G.put j o) ib i1 i2 i3 i4 fs ta lf ls lv F := h.mono ((Heap.Sub.rfl' G).put' hj o)
end
/-- All but these objects stay. -/
def Fr (G G' : Heap) (S : List Nat) : Prop := ∀ i o, G i = some o → i ∉ S → G' i = some o
theorem Fr.rfl' (G : Heap) (S : List Nat) : Fr G G S := fun _ _ h _ => h
theorem Fr.trans {G1 G2 G3 : Heap} {S : List Nat} (h1 : Fr G1 G2 S) (h2 : Fr G2 G3 S) : Fr G1 G3 S := fun i o hi hs => h2 i o (h1 i o hi hs) hs
theorem Fr.new {G : Heap} {j : Nat} (hj : G j = none) (o : AObj) (S : List Nat) : Fr G (G.put j o) S := fun i p hi _ => by rw [put_ne _ _ _ _ (obj_ne hi hj)]; exact hi
theorem Fr.set (G : Heap) {j : Nat} (o : AObj) {S : List Nat} (hj : j ∈ S) : Fr G (G.put j o) S := fun i p hi hs => by
  have : ¬ i = j := fun e => hs (by rw [e]; exact hj)
  rw [put_ne _ _ _ _ this]; exact hi
end Go.Proofs

/- Walks: the program's bench: put, remove, conflict. -/
namespace Go.Proofs
open Go Go.Abs
open Nat (reduceEqDiff reduceAdd reduceLeDiff reduceLT reduceMul)
open Int (reduceEq reduceLE reduceSub reduceToNat)
set_option linter.unusedSimpArgs false
set_option linter.unusedVariables false
set_option maxRecDepth 20000
section
variable {H G : Heap} {ib i1 i2 i3 i4 : Nat} {fs : List (List AV)} {ta : Tail} {lf : List FileV} {ls : List SetV} {lv : List SvcV}
end
end Go.Proofs
