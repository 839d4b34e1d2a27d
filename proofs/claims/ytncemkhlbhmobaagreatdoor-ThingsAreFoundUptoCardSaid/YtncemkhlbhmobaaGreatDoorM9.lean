/-
  Walks and plain laws, part 9.
-/
import Derived.Test.YtncemkhlbhmobaaGreatDoorM1
import Derived.Test.YtncemkhlbhmobaaGreatDoorM3
import Derived.Test.YtncemkhlbhmobaaGreatDoorM2
import Derived.Test.YtncemkhlbhmobaaGreatDoorM7
import Derived.Test.YtncemkhlbhmobaaGreatDoorM8
import Derived.Test.YtncemkhlbhmobaaGreatDoorM6
/- Walks: slices.Equal on the things of a machine; Same. -/
namespace Go.Proofs
open Go Go.Abs
open Nat (reduceEqDiff reduceAdd reduceLeDiff reduceLT reduceMul)
open Int (reduceEq reduceLE reduceSub reduceToNat)
set_option linter.unusedSimpArgs false
set_option linter.unusedVariables false
set_option maxRecDepth 20000
theorem eqFile_calls_ne (cx cy : Bool) (a b : FileV) : bin Tryz.prog .neq 37 cx cy (.agg (encFile a)) (.agg (encFile b)) = some (.bool (decide ¬ a = b)) := by
  have h : eqT Tryz.prog 6 37 (.agg (encFile a)) (.agg (encFile b)) = some (decide (a = b)) := by
    obtain ⟨xpath, xdata, xruns⟩ := a
    obtain ⟨ypath, ydata, yruns⟩ := b
    simp only [encFile, eqT, eqFields, tys, readC, TD.agg, if_true, List.drop_zero, List.drop_succ_cons, List.head?_cons, Bool.false_eq_true, if_false, Option.some.injEq, Bool.and_true]
    rw [Bool.eq_iff_iff]
    simp [FileV.mk.injEq]
  have e : eqA Tryz.prog 37 cx cy (.agg (encFile a)) (.agg (encFile b)) = some (decide (a = b)) := by
    unfold eqA
    simp only [tys, if_true]
    exact h
  show (eqA Tryz.prog 37 cx cy (.agg (encFile a)) (.agg (encFile b))).map (fun b => AV.bool (!b)) = _
  rw [e]
  simp
theorem eqSvc_calls_ne (cx cy : Bool) (a b : SvcV) : bin Tryz.prog .neq 41 cx cy (.agg (encSvc a)) (.agg (encSvc b)) = some (.bool (decide ¬ a = b)) := by
  have h : eqT Tryz.prog 6 41 (.agg (encSvc a)) (.agg (encSvc b)) = some (decide (a = b)) := by
    obtain ⟨xname, xpath, xauto, xon⟩ := a
    obtain ⟨yname, ypath, yauto, yon⟩ := b
    simp only [encSvc, eqT, eqFields, tys, readC, TD.agg, if_true, List.drop_zero, List.drop_succ_cons, List.head?_cons, Bool.false_eq_true, if_false, Option.some.injEq, Bool.and_true]
    rw [Bool.eq_iff_iff]
    simp [SvcV.mk.injEq]
  have e : eqA Tryz.prog 41 cx cy (.agg (encSvc a)) (.agg (encSvc b)) = some (decide (a = b)) := by
    unfold eqA
    simp only [tys, if_true]
    exact h
  show (eqA Tryz.prog 41 cx cy (.agg (encSvc a)) (.agg (encSvc b))).map (fun b => AV.bool (!b)) = _
  rw [e]
  simp
def sEqL {α : Type} [DecidableEq α] (dec : List AV → Option α) : List AV → Option AV := fn2 (Rd.list dec) (Rd.list dec) fun a b => if a.length ≤ 1099511627776 then some (.bool (decide (a = b))) else none
theorem sEqL_ok {α : Type} [DecidableEq α] {dec : List AV → Option α} {enc : α → List AV} (hd : ∀ c a, dec c = some a → c = enc a) {P : Program} {f : FuncId}
    (h : ∀ (a b : List α) (t t' : Tail) (H : Heap), a.length ≤ 1099511627776 → ACalls P f [.sl (a.map enc) t, .sl (b.map enc) t'] H fun x H' => x = .bool (decide (a = b)) ∧ H' = H) : ∀ xs v, sEqL dec xs = some v → ∀ H, ACalls P f xs H fun x H' => x = v ∧ H' = H := by
  intro xs v hv H
  obtain ⟨x, y, p, q, rfl, h1, h2, h3⟩ := fn2_some hv
  split at h3
  · rename_i hl
    cases h3
    obtain ⟨t, rfl⟩ := Rd.list_some (enc := enc) hd h1
    obtain ⟨t', rfl⟩ := Rd.list_some (enc := enc) hd h2
    exact h p q t t' H hl
  · cases h3
theorem sEqL_eq {α : Type} [DecidableEq α] {dec : List AV → Option α} {enc : α → List AV} (he : ∀ a, dec (enc a) = some a) (a b : List α) (t t' : Tail) (h : a.length ≤ 1099511627776) : sEqL dec [.sl (a.map enc) t, .sl (b.map enc) t'] = some (.bool (decide (a = b))) := by
  unfold sEqL
  rw [fn2_eq, Rd.list_eq he, Rd.list_eq he]
  simp only [Option.bind_some, if_pos h]
noncomputable def puM9 : Pures := putP 67 (sEqL decSvc) (putP 66 (sEqL decFile) (putP 65 (sEqL decSet) pu0))
theorem puM9_dyn : isDyn puM9 = false := by simp only [puM9, go_sem, Nat.reduceEqDiff]
attribute [go_sem] puM9_dyn
end Go.Proofs

/- What every law begins with. -/
namespace Go.Proofs
open Go Go.Abs
open Nat (reduceEqDiff reduceAdd reduceLeDiff reduceLT reduceMul)
open Int (reduceEq reduceLE reduceSub reduceToNat)
set_option linter.unusedSimpArgs false
set_option linter.unusedVariables false
set_option maxRecDepth 20000
theorem landed_calls (H : Heap) : ACalls Tryz.prog 5 [] H fun x H' => x = .bool true ∧ H' = H := by
  have hR : Room = 1099511627776 := rfl
  have hn : nameB [97] = true := by decide
  refine ACalls.of_code (X := { pure := puN }) puN_ok Tryz.func5 (by kernel_rfl) rfl (by kernel_rfl) (Nat.le_of_ble_eq_true rfl) ?_
  simp -implicitDefEqProofs only [go_sem, reduceEqDiff, reduceAdd, reduceLeDiff, reduceLT, reduceMul, reduceEq, Int.reduceLT, reduceLE, Int.reduceAdd, reduceSub, reduceToNat, UInt8.reduceToNat, Tryz.f5, puN, sStr_eq, hR, hn]
  exact Done.now ⟨rfl, rfl⟩
end Go.Proofs

/- Walks: IndexFunc, Below; the law ThingsAreFound. -/
namespace Go.Proofs
open Go Go.Abs
open Nat (reduceEqDiff reduceAdd reduceLeDiff reduceLT reduceMul)
open Int (reduceEq reduceLE reduceSub reduceToNat)
set_option linter.unusedSimpArgs false
set_option linter.unusedVariables false
set_option maxRecDepth 20000
section
variable {α : Type} {key : α → Bytes}
theorem getKskip {l : List α} {k : Bytes} {x : α} (h : ¬ key x = k) : getK key k (x :: l) = getK key k l := by
  unfold getK; rw [List.find?_cons_of_neg (by simpa using h)]
theorem getKhit {l : List α} {x : α} : getK key (key x) (x :: l) = some x := by
  unfold getK; rw [List.find?_cons_of_pos (by simp)]
/-- The place of the first thing with a key. -/
def idxK (key : α → Bytes) (k : Bytes) : List α → Nat → Int
  | [], _ => -1
  | x :: l, n => if key x = k then n else idxK key k l (n + 1)
theorem idxK_get (k : Bytes) : ∀ (l : List α) (n : Nat), match getK key k l with
    | none => idxK key k l n = -1
    | some x => ∃ i : Nat, idxK key k l n = ((n + i : Nat) : Int) ∧ l[i]? = some x
  | [], n => rfl
  | x :: l, n => by
    by_cases e : key x = k
    · subst e
      rw [getKhit]
      exact ⟨0, by rw [idxK, if_pos rfl]; rfl, rfl⟩
    · rw [getKskip e]
      have ih := idxK_get k l (n + 1)
      cases hg : getK key k l with
      | none =>
        rw [hg] at ih
        simp only at ih ⊢
        rw [idxK, if_neg e]; exact ih
      | some y =>
        rw [hg] at ih
        simp only at ih ⊢
        obtain ⟨i, h1, h2⟩ := ih
        exact ⟨i + 1, by rw [idxK, if_neg e, h1]; omega, by simpa using h2⟩
end
theorem clo2_calls (x : SetV) (k : Bytes) (c : Nat) (G : Heap) (hc : G c = some (.cells [.str k])) :
    ACalls Tryz.prog 9 [.agg (encSet x), .ptr c 0] G fun y G' => y = .bool (decide (x.key = k)) ∧ G' = G := by
  have ex := encSet.eq_1 x
  rw [ex]
  refine ACalls.of_code (X := { pure := pu0 }) pu0_ok Tryz.func9 (by kernel_rfl) rfl (by kernel_rfl) (Nat.le_of_ble_eq_true rfl) ?_
  simp -implicitDefEqProofs only [go_sem, reduceEqDiff, reduceAdd, reduceLeDiff, reduceLT, reduceMul, reduceEq, Int.reduceLT, reduceLE, Int.reduceAdd, reduceSub, reduceToNat, UInt8.reduceToNat, Tryz.f9]
  with_reducible refine nwC_intro fun i3 hi3 => ?_
  have hc2 := fun o => (put_ne G i3 c o (obj_ne hc hi3)).trans hc
  try simp -implicitDefEqProofs only [go_sem, reduceEqDiff, reduceAdd, reduceLeDiff, reduceLT, reduceMul, reduceEq, Int.reduceLT, reduceLE, Int.reduceAdd, reduceSub, reduceToNat, UInt8.reduceToNat, hc2]
  exact Done.drop1 hi3 ⟨rfl, rfl⟩
theorem idx2_calls (l : List SetV) (t : Tail) (k : Bytes) (c : Nat) (G : Heap) (hc : G c = some (.cells [.str k])) (hl : l.length ≤ 1000000) :
    ACalls Tryz.prog 8 [.sl (l.map encSet) t, .func 9 [.ptr c 0]] G fun y G' => y = .int .i64 (idxK (·.key) k l 0) ∧ G' = G := by
  have hU : ∀ x ∈ l, (encSet x).length = 2 := fun _ _ => rfl
  have htt : ∀ x : SetV, (encSet x).take 2 = encSet x := fun _ => rfl
  refine ACalls.of_code (X := { pure := pu0 }) pu0_ok Tryz.func8 (by kernel_rfl) rfl (by kernel_rfl) (Nat.le_of_ble_eq_true rfl) ?_
  simp -implicitDefEqProofs only [go_sem, reduceEqDiff, reduceAdd, reduceLeDiff, reduceLT, reduceMul, reduceEq, Int.reduceLT, reduceLE, Int.reduceAdd, reduceSub, reduceToNat, UInt8.reduceToNat, Tryz.f8]
  refine aloop_intro (σ := Nat) (fun i => [(0, .sl (l.map encSet) t), (1, .func 9 [.ptr c 0]), (7, .int .i64 l.length), (8, .int .i64 i)]) (fun i G' => G' = G ∧ i ≤ l.length ∧ idxK (·.key) k l 0 = idxK (·.key) k (l.drop i) i) (fun i => l.length - i) 0 ?_ ?_ ?_
  · simp -implicitDefEqProofs only [go_sem, reduceEqDiff, reduceAdd, reduceLeDiff, reduceLT, reduceMul, reduceEq, Int.reduceLT, reduceLE, Int.reduceAdd, reduceSub, reduceToNat, UInt8.reduceToNat]
  · exact ⟨rfl, Nat.zero_le _, rfl⟩
  rintro i r G' hv ⟨rfl, hi, hE⟩
  have h0 := hv.1
  have h1 := hv.2.1
  have h7 := hv.2.2.1
  have h8 := hv.2.2.2.1
  clear hv
  by_cases g : i < l.length
  rotate_left
  · have y0 : decide ((i : Int) < l.length) = false := decide_eq_false (by omega)
    obtain rfl : i = l.length := by omega
    rw [List.drop_length, idxK] at hE
    simp -implicitDefEqProofs only [go_sem, reduceEqDiff, reduceAdd, reduceLeDiff, reduceLT, reduceMul, reduceEq, Int.reduceLT, reduceLE, Int.reduceAdd, reduceSub, reduceToNat, UInt8.reduceToNat, h0, h1, h7, h8, y0]
    exact Done.now ⟨by rw [hE], rfl⟩
  have y0 : decide ((i : Int) < l.length) = true := decide_eq_true (by omega)
  obtain ⟨x, hx⟩ : ∃ x, l[i]? = some x := getD_get' g
  rw [drop_at hx, idxK] at hE
  have ws : IntKind.i64.wrap ((i : Int) + 1) = ((i + 1 : Nat) : Int) := by rw [Go.IntWalk.i64_in _ (by omega)]; omega
  simp -implicitDefEqProofs only [go_sem, reduceEqDiff, reduceAdd, reduceLeDiff, reduceLT, reduceMul, reduceEq, Int.reduceLT, reduceLE, Int.reduceAdd, reduceSub, reduceToNat, UInt8.reduceToNat, h0, h1, h7, h8, y0, hx, htt]
  refine ⟨hU, Nat.le_refl _, ?_⟩
  refine (clo2_calls x k c G' hc).pure_next _ ?_
  by_cases c1 : x.key = k
  · have y1 : decide (x.key = k) = true := decide_eq_true c1
    rw [if_pos c1] at hE
    simp -implicitDefEqProofs only [go_sem, reduceEqDiff, reduceAdd, reduceLeDiff, reduceLT, reduceMul, reduceEq, Int.reduceLT, reduceLE, Int.reduceAdd, reduceSub, reduceToNat, UInt8.reduceToNat, h0, h1, h7, h8, y1]
    exact Done.now ⟨by rw [hE], rfl⟩
  · have y1 : decide (x.key = k) = false := decide_eq_false c1
    rw [if_neg c1] at hE
    simp -implicitDefEqProofs only [go_sem, reduceEqDiff, reduceAdd, reduceLeDiff, reduceLT, reduceMul, reduceEq, Int.reduceLT, reduceLE, Int.reduceAdd, reduceSub, reduceToNat, UInt8.reduceToNat, h0, h1, h7, h8, y1, ws]
    exact Again.mk (i + 1) (by simp -implicitDefEqProofs only [go_sem, reduceEqDiff, reduceAdd, reduceLeDiff, reduceLT, reduceMul, reduceEq, Int.reduceLT, reduceLE, Int.reduceAdd, reduceSub, reduceToNat, UInt8.reduceToNat, h0, h1, h7]) ⟨rfl, by omega, hE⟩ (by omega)
theorem clo3_calls (x : FileV) (k : Bytes) (c : Nat) (G : Heap) (hc : G c = some (.cells [.str k])) :
    ACalls Tryz.prog 11 [.agg (encFile x), .ptr c 0] G fun y G' => y = .bool (decide (x.path = k)) ∧ G' = G := by
  have ex := encFile.eq_1 x
  rw [ex]
  refine ACalls.of_code (X := { pure := pu0 }) pu0_ok Tryz.func11 (by kernel_rfl) rfl (by kernel_rfl) (Nat.le_of_ble_eq_true rfl) ?_
  simp -implicitDefEqProofs only [go_sem, reduceEqDiff, reduceAdd, reduceLeDiff, reduceLT, reduceMul, reduceEq, Int.reduceLT, reduceLE, Int.reduceAdd, reduceSub, reduceToNat, UInt8.reduceToNat, Tryz.f11]
  with_reducible refine nwC_intro fun i3 hi3 => ?_
  have hc2 := fun o => (put_ne G i3 c o (obj_ne hc hi3)).trans hc
  try simp -implicitDefEqProofs only [go_sem, reduceEqDiff, reduceAdd, reduceLeDiff, reduceLT, reduceMul, reduceEq, Int.reduceLT, reduceLE, Int.reduceAdd, reduceSub, reduceToNat, UInt8.reduceToNat, hc2]
  exact Done.drop1 hi3 ⟨rfl, rfl⟩
theorem idx3_calls (l : List FileV) (t : Tail) (k : Bytes) (c : Nat) (G : Heap) (hc : G c = some (.cells [.str k])) (hl : l.length ≤ 1000000) :
    ACalls Tryz.prog 10 [.sl (l.map encFile) t, .func 11 [.ptr c 0]] G fun y G' => y = .int .i64 (idxK (·.path) k l 0) ∧ G' = G := by
  have hU : ∀ x ∈ l, (encFile x).length = 3 := fun _ _ => rfl
  have htt : ∀ x : FileV, (encFile x).take 3 = encFile x := fun _ => rfl
  refine ACalls.of_code (X := { pure := pu0 }) pu0_ok Tryz.func10 (by kernel_rfl) rfl (by kernel_rfl) (Nat.le_of_ble_eq_true rfl) ?_
  simp -implicitDefEqProofs only [go_sem, reduceEqDiff, reduceAdd, reduceLeDiff, reduceLT, reduceMul, reduceEq, Int.reduceLT, reduceLE, Int.reduceAdd, reduceSub, reduceToNat, UInt8.reduceToNat, Tryz.f10]
  refine aloop_intro (σ := Nat) (fun i => [(0, .sl (l.map encFile) t), (1, .func 11 [.ptr c 0]), (7, .int .i64 l.length), (8, .int .i64 i)]) (fun i G' => G' = G ∧ i ≤ l.length ∧ idxK (·.path) k l 0 = idxK (·.path) k (l.drop i) i) (fun i => l.length - i) 0 ?_ ?_ ?_
  · simp -implicitDefEqProofs only [go_sem, reduceEqDiff, reduceAdd, reduceLeDiff, reduceLT, reduceMul, reduceEq, Int.reduceLT, reduceLE, Int.reduceAdd, reduceSub, reduceToNat, UInt8.reduceToNat]
  · exact ⟨rfl, Nat.zero_le _, rfl⟩
  rintro i r G' hv ⟨rfl, hi, hE⟩
  have h0 := hv.1
  have h1 := hv.2.1
  have h7 := hv.2.2.1
  have h8 := hv.2.2.2.1
  clear hv
  by_cases g : i < l.length
  rotate_left
  · have y0 : decide ((i : Int) < l.length) = false := decide_eq_false (by omega)
    obtain rfl : i = l.length := by omega
    rw [List.drop_length, idxK] at hE
    simp -implicitDefEqProofs only [go_sem, reduceEqDiff, reduceAdd, reduceLeDiff, reduceLT, reduceMul, reduceEq, Int.reduceLT, reduceLE, Int.reduceAdd, reduceSub, reduceToNat, UInt8.reduceToNat, h0, h1, h7, h8, y0]
    exact Done.now ⟨by rw [hE], rfl⟩
  have y0 : decide ((i : Int) < l.length) = true := decide_eq_true (by omega)
  obtain ⟨x, hx⟩ : ∃ x, l[i]? = some x := getD_get' g
  rw [drop_at hx, idxK] at hE
  have ws : IntKind.i64.wrap ((i : Int) + 1) = ((i + 1 : Nat) : Int) := by rw [Go.IntWalk.i64_in _ (by omega)]; omega
  simp -implicitDefEqProofs only [go_sem, reduceEqDiff, reduceAdd, reduceLeDiff, reduceLT, reduceMul, reduceEq, Int.reduceLT, reduceLE, Int.reduceAdd, reduceSub, reduceToNat, UInt8.reduceToNat, h0, h1, h7, h8, y0, hx, htt]
  refine ⟨hU, Nat.le_refl _, ?_⟩
  refine (clo3_calls x k c G' hc).pure_next _ ?_
  by_cases c1 : x.path = k
  · have y1 : decide (x.path = k) = true := decide_eq_true c1
    rw [if_pos c1] at hE
    simp -implicitDefEqProofs only [go_sem, reduceEqDiff, reduceAdd, reduceLeDiff, reduceLT, reduceMul, reduceEq, Int.reduceLT, reduceLE, Int.reduceAdd, reduceSub, reduceToNat, UInt8.reduceToNat, h0, h1, h7, h8, y1]
    exact Done.now ⟨by rw [hE], rfl⟩
  · have y1 : decide (x.path = k) = false := decide_eq_false c1
    rw [if_neg c1] at hE
    simp -implicitDefEqProofs only [go_sem, reduceEqDiff, reduceAdd, reduceLeDiff, reduceLT, reduceMul, reduceEq, Int.reduceLT, reduceLE, Int.reduceAdd, reduceSub, reduceToNat, UInt8.reduceToNat, h0, h1, h7, h8, y1, ws]
    exact Again.mk (i + 1) (by simp -implicitDefEqProofs only [go_sem, reduceEqDiff, reduceAdd, reduceLeDiff, reduceLT, reduceMul, reduceEq, Int.reduceLT, reduceLE, Int.reduceAdd, reduceSub, reduceToNat, UInt8.reduceToNat, h0, h1, h7]) ⟨rfl, by omega, hE⟩ (by omega)
theorem clo4_calls (x : SetV) (k : Bytes) (c : Nat) (G : Heap) (hc : G c = some (.cells [.str k])) :
    ACalls Tryz.prog 12 [.agg (encSet x), .ptr c 0] G fun y G' => y = .bool (decide (x.key = k)) ∧ G' = G := by
  have ex := encSet.eq_1 x
  rw [ex]
  refine ACalls.of_code (X := { pure := pu0 }) pu0_ok Tryz.func12 (by kernel_rfl) rfl (by kernel_rfl) (Nat.le_of_ble_eq_true rfl) ?_
  simp -implicitDefEqProofs only [go_sem, reduceEqDiff, reduceAdd, reduceLeDiff, reduceLT, reduceMul, reduceEq, Int.reduceLT, reduceLE, Int.reduceAdd, reduceSub, reduceToNat, UInt8.reduceToNat, Tryz.f12]
  with_reducible refine nwC_intro fun i3 hi3 => ?_
  have hc2 := fun o => (put_ne G i3 c o (obj_ne hc hi3)).trans hc
  try simp -implicitDefEqProofs only [go_sem, reduceEqDiff, reduceAdd, reduceLeDiff, reduceLT, reduceMul, reduceEq, Int.reduceLT, reduceLE, Int.reduceAdd, reduceSub, reduceToNat, UInt8.reduceToNat, hc2]
  exact Done.drop1 hi3 ⟨rfl, rfl⟩
theorem idx4_calls (l : List SetV) (t : Tail) (k : Bytes) (c : Nat) (G : Heap) (hc : G c = some (.cells [.str k])) (hl : l.length ≤ 1000000) :
    ACalls Tryz.prog 8 [.sl (l.map encSet) t, .func 12 [.ptr c 0]] G fun y G' => y = .int .i64 (idxK (·.key) k l 0) ∧ G' = G := by
  have hU : ∀ x ∈ l, (encSet x).length = 2 := fun _ _ => rfl
  have htt : ∀ x : SetV, (encSet x).take 2 = encSet x := fun _ => rfl
  refine ACalls.of_code (X := { pure := pu0 }) pu0_ok Tryz.func8 (by kernel_rfl) rfl (by kernel_rfl) (Nat.le_of_ble_eq_true rfl) ?_
  simp -implicitDefEqProofs only [go_sem, reduceEqDiff, reduceAdd, reduceLeDiff, reduceLT, reduceMul, reduceEq, Int.reduceLT, reduceLE, Int.reduceAdd, reduceSub, reduceToNat, UInt8.reduceToNat, Tryz.f8]
  refine aloop_intro (σ := Nat) (fun i => [(0, .sl (l.map encSet) t), (1, .func 12 [.ptr c 0]), (7, .int .i64 l.length), (8, .int .i64 i)]) (fun i G' => G' = G ∧ i ≤ l.length ∧ idxK (·.key) k l 0 = idxK (·.key) k (l.drop i) i) (fun i => l.length - i) 0 ?_ ?_ ?_
  · simp -implicitDefEqProofs only [go_sem, reduceEqDiff, reduceAdd, reduceLeDiff, reduceLT, reduceMul, reduceEq, Int.reduceLT, reduceLE, Int.reduceAdd, reduceSub, reduceToNat, UInt8.reduceToNat]
  · exact ⟨rfl, Nat.zero_le _, rfl⟩
  rintro i r G' hv ⟨rfl, hi, hE⟩
  have h0 := hv.1
  have h1 := hv.2.1
  have h7 := hv.2.2.1
  have h8 := hv.2.2.2.1
  clear hv
  by_cases g : i < l.length
  rotate_left
  · have y0 : decide ((i : Int) < l.length) = false := decide_eq_false (by omega)
    obtain rfl : i = l.length := by omega
    rw [List.drop_length, idxK] at hE
    simp -implicitDefEqProofs only [go_sem, reduceEqDiff, reduceAdd, reduceLeDiff, reduceLT, reduceMul, reduceEq, Int.reduceLT, reduceLE, Int.reduceAdd, reduceSub, reduceToNat, UInt8.reduceToNat, h0, h1, h7, h8, y0]
    exact Done.now ⟨by rw [hE], rfl⟩
  have y0 : decide ((i : Int) < l.length) = true := decide_eq_true (by omega)
  obtain ⟨x, hx⟩ : ∃ x, l[i]? = some x := getD_get' g
  rw [drop_at hx, idxK] at hE
  have ws : IntKind.i64.wrap ((i : Int) + 1) = ((i + 1 : Nat) : Int) := by rw [Go.IntWalk.i64_in _ (by omega)]; omega
  simp -implicitDefEqProofs only [go_sem, reduceEqDiff, reduceAdd, reduceLeDiff, reduceLT, reduceMul, reduceEq, Int.reduceLT, reduceLE, Int.reduceAdd, reduceSub, reduceToNat, UInt8.reduceToNat, h0, h1, h7, h8, y0, hx, htt]
  refine ⟨hU, Nat.le_refl _, ?_⟩
  refine (clo4_calls x k c G' hc).pure_next _ ?_
  by_cases c1 : x.key = k
  · have y1 : decide (x.key = k) = true := decide_eq_true c1
    rw [if_pos c1] at hE
    simp -implicitDefEqProofs only [go_sem, reduceEqDiff, reduceAdd, reduceLeDiff, reduceLT, reduceMul, reduceEq, Int.reduceLT, reduceLE, Int.reduceAdd, reduceSub, reduceToNat, UInt8.reduceToNat, h0, h1, h7, h8, y1]
    exact Done.now ⟨by rw [hE], rfl⟩
  · have y1 : decide (x.key = k) = false := decide_eq_false c1
    rw [if_neg c1] at hE
    simp -implicitDefEqProofs only [go_sem, reduceEqDiff, reduceAdd, reduceLeDiff, reduceLT, reduceMul, reduceEq, Int.reduceLT, reduceLE, Int.reduceAdd, reduceSub, reduceToNat, UInt8.reduceToNat, h0, h1, h7, h8, y1, ws]
    exact Again.mk (i + 1) (by simp -implicitDefEqProofs only [go_sem, reduceEqDiff, reduceAdd, reduceLeDiff, reduceLT, reduceMul, reduceEq, Int.reduceLT, reduceLE, Int.reduceAdd, reduceSub, reduceToNat, UInt8.reduceToNat, h0, h1, h7]) ⟨rfl, by omega, hE⟩ (by omega)
theorem clo5_calls (x : SvcV) (k : Bytes) (c : Nat) (G : Heap) (hc : G c = some (.cells [.str k])) :
    ACalls Tryz.prog 14 [.agg (encSvc x), .ptr c 0] G fun y G' => y = .bool (decide (x.name = k)) ∧ G' = G := by
  have ex := encSvc.eq_1 x
  rw [ex]
  refine ACalls.of_code (X := { pure := pu0 }) pu0_ok Tryz.func14 (by kernel_rfl) rfl (by kernel_rfl) (Nat.le_of_ble_eq_true rfl) ?_
  simp -implicitDefEqProofs only [go_sem, reduceEqDiff, reduceAdd, reduceLeDiff, reduceLT, reduceMul, reduceEq, Int.reduceLT, reduceLE, Int.reduceAdd, reduceSub, reduceToNat, UInt8.reduceToNat, Tryz.f14]
  with_reducible refine nwC_intro fun i3 hi3 => ?_
  have hc2 := fun o => (put_ne G i3 c o (obj_ne hc hi3)).trans hc
  try simp -implicitDefEqProofs only [go_sem, reduceEqDiff, reduceAdd, reduceLeDiff, reduceLT, reduceMul, reduceEq, Int.reduceLT, reduceLE, Int.reduceAdd, reduceSub, reduceToNat, UInt8.reduceToNat, hc2]
  exact Done.drop1 hi3 ⟨rfl, rfl⟩
theorem idx5_calls (l : List SvcV) (t : Tail) (k : Bytes) (c : Nat) (G : Heap) (hc : G c = some (.cells [.str k])) (hl : l.length ≤ 1000000) :
    ACalls Tryz.prog 13 [.sl (l.map encSvc) t, .func 14 [.ptr c 0]] G fun y G' => y = .int .i64 (idxK (·.name) k l 0) ∧ G' = G := by
  have hU : ∀ x ∈ l, (encSvc x).length = 4 := fun _ _ => rfl
  have htt : ∀ x : SvcV, (encSvc x).take 4 = encSvc x := fun _ => rfl
  refine ACalls.of_code (X := { pure := pu0 }) pu0_ok Tryz.func13 (by kernel_rfl) rfl (by kernel_rfl) (Nat.le_of_ble_eq_true rfl) ?_
  simp -implicitDefEqProofs only [go_sem, reduceEqDiff, reduceAdd, reduceLeDiff, reduceLT, reduceMul, reduceEq, Int.reduceLT, reduceLE, Int.reduceAdd, reduceSub, reduceToNat, UInt8.reduceToNat, Tryz.f13]
  refine aloop_intro (σ := Nat) (fun i => [(0, .sl (l.map encSvc) t), (1, .func 14 [.ptr c 0]), (7, .int .i64 l.length), (8, .int .i64 i)]) (fun i G' => G' = G ∧ i ≤ l.length ∧ idxK (·.name) k l 0 = idxK (·.name) k (l.drop i) i) (fun i => l.length - i) 0 ?_ ?_ ?_
  · simp -implicitDefEqProofs only [go_sem, reduceEqDiff, reduceAdd, reduceLeDiff, reduceLT, reduceMul, reduceEq, Int.reduceLT, reduceLE, Int.reduceAdd, reduceSub, reduceToNat, UInt8.reduceToNat]
  · exact ⟨rfl, Nat.zero_le _, rfl⟩
  rintro i r G' hv ⟨rfl, hi, hE⟩
  have h0 := hv.1
  have h1 := hv.2.1
  have h7 := hv.2.2.1
  have h8 := hv.2.2.2.1
  clear hv
  by_cases g : i < l.length
  rotate_left
  · have y0 : decide ((i : Int) < l.length) = false := decide_eq_false (by omega)
    obtain rfl : i = l.length := by omega
    rw [List.drop_length, idxK] at hE
    simp -implicitDefEqProofs only [go_sem, reduceEqDiff, reduceAdd, reduceLeDiff, reduceLT, reduceMul, reduceEq, Int.reduceLT, reduceLE, Int.reduceAdd, reduceSub, reduceToNat, UInt8.reduceToNat, h0, h1, h7, h8, y0]
    exact Done.now ⟨by rw [hE], rfl⟩
  have y0 : decide ((i : Int) < l.length) = true := decide_eq_true (by omega)
  obtain ⟨x, hx⟩ : ∃ x, l[i]? = some x := getD_get' g
  rw [drop_at hx, idxK] at hE
  have ws : IntKind.i64.wrap ((i : Int) + 1) = ((i + 1 : Nat) : Int) := by rw [Go.IntWalk.i64_in _ (by omega)]; omega
  simp -implicitDefEqProofs only [go_sem, reduceEqDiff, reduceAdd, reduceLeDiff, reduceLT, reduceMul, reduceEq, Int.reduceLT, reduceLE, Int.reduceAdd, reduceSub, reduceToNat, UInt8.reduceToNat, h0, h1, h7, h8, y0, hx, htt]
  refine ⟨hU, Nat.le_refl _, ?_⟩
  refine (clo5_calls x k c G' hc).pure_next _ ?_
  by_cases c1 : x.name = k
  · have y1 : decide (x.name = k) = true := decide_eq_true c1
    rw [if_pos c1] at hE
    simp -implicitDefEqProofs only [go_sem, reduceEqDiff, reduceAdd, reduceLeDiff, reduceLT, reduceMul, reduceEq, Int.reduceLT, reduceLE, Int.reduceAdd, reduceSub, reduceToNat, UInt8.reduceToNat, h0, h1, h7, h8, y1]
    exact Done.now ⟨by rw [hE], rfl⟩
  · have y1 : decide (x.name = k) = false := decide_eq_false c1
    rw [if_neg c1] at hE
    simp -implicitDefEqProofs only [go_sem, reduceEqDiff, reduceAdd, reduceLeDiff, reduceLT, reduceMul, reduceEq, Int.reduceLT, reduceLE, Int.reduceAdd, reduceSub, reduceToNat, UInt8.reduceToNat, h0, h1, h7, h8, y1, ws]
    exact Again.mk (i + 1) (by simp -implicitDefEqProofs only [go_sem, reduceEqDiff, reduceAdd, reduceLeDiff, reduceLT, reduceMul, reduceEq, Int.reduceLT, reduceLE, Int.reduceAdd, reduceSub, reduceToNat, UInt8.reduceToNat, h0, h1, h7]) ⟨rfl, by omega, hE⟩ (by omega)
def namedB (ok there : Bool) (e : Int) : Bool := if ok = false then decide (e = 5) else if there = false then decide (e = 10) else decide (e = 0)
theorem clo1_calls (ok there : Bool) (e : Int) (H : Heap) : ACalls Tryz.prog 7 [.bool ok, .bool there, .int .i64 e] H fun x H' => x = .bool (namedB ok there e) ∧ H' = H := by
  cases ok <;> cases there
  all_goals
    refine ACalls.of_code (X := { pure := pu0 }) pu0_ok Tryz.func7 (by kernel_rfl) rfl (by kernel_rfl) (Nat.le_of_ble_eq_true rfl) ?_
    simp -implicitDefEqProofs only [go_sem, reduceEqDiff, reduceAdd, reduceLeDiff, reduceLT, reduceMul, reduceEq, Int.reduceLT, reduceLE, Int.reduceAdd, reduceSub, reduceToNat, UInt8.reduceToNat, Tryz.f7]
    exact Done.now ⟨rfl, rfl⟩
noncomputable def sNamed := spF (fun p : Bool × Bool × Int => [AV.bool p.1, .bool p.2.1, .int .i64 p.2.2]) (fun _ => True) fun p => .bool (namedB p.1 p.2.1 p.2.2)
theorem sNamed_eq (a b : Bool) (e : Int) : sNamed [.bool a, .bool b, .int .i64 e] = some (.bool (namedB a b e)) := spF_eq (enc := fun p : Bool × Bool × Int => [AV.bool p.1, .bool p.2.1, .int .i64 p.2.2]) (fun p q h => by
  obtain ⟨p1, p2, p3⟩ := p
  obtain ⟨q1, q2, q3⟩ := q
  cases h; rfl) (a, b, e) trivial
theorem isBelow_calls (p d : Bytes) (H : Heap) (hp : p.length ≤ 1099511627776) (hd : d.length ≤ 1099511627776) : ACalls Tryz.prog 52 [.str p, .str d] H fun x H' => x = .bool (underB p d) ∧ H' = H := by
  refine ACalls.of_code (X := { pure := puS3 }) puS3_ok Tryz.func52 (by kernel_rfl) rfl (by kernel_rfl) (Nat.le_of_ble_eq_true rfl) ?_
  simp -implicitDefEqProofs (disch := (first | omega | (simp only [List.length_append, List.length_cons, List.length_nil]; omega))) only [go_sem, binS_addD, reduceEqDiff, reduceAdd, reduceLeDiff, reduceLT, reduceMul, reduceEq, Int.reduceLT, reduceLE, Int.reduceAdd, reduceSub, reduceToNat, UInt8.reduceToNat, Go.IntWalk.i64_in, Tryz.f52, puS3, sPre_eq]
  exact Done.now ⟨by rw [preB_under], rfl⟩
/-- The paths below a directory. -/
def belowP (d : Bytes) (f : FileV) : Bool := decide (d = []) || underB f.path d
def belowL (l : List FileV) (d : Bytes) : List Bytes := (l.filter (belowP d)).map (·.path)
theorem belowL_yes {l : List FileV} {d : Bytes} {i : Nat} {x : FileV} (hx : l[i]? = some x) (hp : belowP d x = true) : belowL (l.take (i + 1)) d = belowL (l.take i) d ++ [x.path] := by
  unfold belowL
  rw [List.take_add_one, hx, List.filter_append]
  simp [hp]
theorem belowL_no {l : List FileV} {d : Bytes} {i : Nat} {x : FileV} (hx : l[i]? = some x) (hp : belowP d x = false) : belowL (l.take (i + 1)) d = belowL (l.take i) d := by
  unfold belowL
  rw [List.take_add_one, hx, List.filter_append]
  simp [hp]
theorem belowL_len (l : List FileV) (d : Bytes) (i : Nat) : (belowL (l.take i) d).length ≤ i := by
  unfold belowL
  rw [List.length_map]
  exact Nat.le_trans (List.length_filter_le _ _) (by rw [List.length_take]; omega)
def belowA (m : MacV) (d : Bytes) : List Bytes := if d ≠ [] ∧ pathB d = false then [] else belowL m.files d
def belowE (d : Bytes) : Int := if d ≠ [] ∧ pathB d = false then 5 else 0
noncomputable def sUnd := spF (fun p : Bytes × Bytes => [AV.str p.1, .str p.2]) (fun p => p.1.length ≤ 1099511627776 ∧ p.2.length ≤ 1099511627776) fun p => .bool (underB p.1 p.2)
theorem sUnd_eq (a b : Bytes) (h1 : a.length ≤ 1099511627776) (h2 : b.length ≤ 1099511627776) : sUnd [.str a, .str b] = some (.bool (underB a b)) := spF_eq (enc := fun p : Bytes × Bytes => [AV.str p.1, .str p.2]) (fun p q h => by
  obtain ⟨p1, p2⟩ := p
  obtain ⟨q1, q2⟩ := q
  cases h; rfl) (a, b) ⟨h1, h2⟩
noncomputable def puBe : Pures := putP 52 sUnd (putP 45 (sStr pathB) pu0)
theorem puBe_dyn : isDyn puBe = false := by simp only [puBe, go_sem, Nat.reduceEqDiff]
attribute [go_sem] puBe_dyn
theorem puBe_ok : PuOK Tryz.prog puBe := .put (.put (pu0_ok) (sStr_ok isPath_calls)) (spF_ok (fun p H h => isBelow_calls p.1 p.2 H h.1 h.2))
set_option maxHeartbeats 3200000 in
theorem below_calls (m : MacV) (ta tb tc td : Tail) (d : Bytes) (H : Heap) (hM : MacOK m) (hd : d.length ≤ 1099511627776) :
    ACalls Tryz.prog 21 [.agg (encMac m ta tb tc td), .str d] H fun y H' => y = .tup [.sl ((belowA m d).map encBs) .unk, .int .i64 (belowE d)] ∧ H' = H := by
  have hS := Heap.Sub.rfl' H
  have hck := fun G => check_calls m ta tb tc td G hM.R
  rw [(macErr_ok m).2 hM] at hck
  have q2 := hM.l2
  unfold encMac at hck
  have hR : Room = 1099511627776 := rfl
  have hp : sStr pathB [.str d] = some (.bool (pathB d)) := by rw [sStr_eq, if_pos (by rw [hR]; exact hd)]
  have z1 : decide (¬ (0 : Int) = 0) = false := rfl
  refine ACalls.of_code (X := { pure := puBe }) puBe_ok Tryz.func21 (by kernel_rfl) rfl (by kernel_rfl) (Nat.le_of_ble_eq_true rfl) ?_
  simp -implicitDefEqProofs only [go_sem, reduceEqDiff, reduceAdd, reduceLeDiff, reduceLT, reduceMul, reduceEq, Int.reduceLT, reduceLE, Int.reduceAdd, reduceSub, reduceToNat, UInt8.reduceToNat, Tryz.f21, encMac]
  with_reducible refine nwC_intro fun i2 hi2 => ?_
  generalize E2 : Heap.put H i2 _ = G1
  have hO_2 := obj_new E2 hi2 hS
  have n2 := hO_2.1
  have hS := hO_2.2.1
  have g2 := hO_2.2.2.1
  clear hO_2
  simp -implicitDefEqProofs only [go_sem, reduceEqDiff, reduceAdd, reduceLeDiff, reduceLT, reduceMul, reduceEq, Int.reduceLT, reduceLE, Int.reduceAdd, reduceSub, reduceToNat, UInt8.reduceToNat, g2]
  refine (hck G1).pure_next _ ?_
  by_cases c1 : d = []
  rotate_left
  · have y1 : decide (¬ d = []) = true := decide_eq_true c1
    cases hb : pathB d with
    | false =>
      rw [hb] at hp
      have e1 : belowA m d = [] := by rw [belowA, if_pos ⟨c1, hb⟩]
      have e2 : belowE d = 5 := by rw [belowE, if_pos ⟨c1, hb⟩]
      simp -implicitDefEqProofs only [go_sem, reduceEqDiff, reduceAdd, reduceLeDiff, reduceLT, reduceMul, reduceEq, Int.reduceLT, reduceLE, Int.reduceAdd, reduceSub, reduceToNat, UInt8.reduceToNat, z1, y1, hp, puBe]
      exact Done.wk 2 (Done.drop hS ⟨by rw [e1, e2]; rfl, rfl⟩)
    | true =>
    rw [hb] at hp
    have e1 : belowA m d = belowL m.files d := by rw [belowA, if_neg (by simp [hb])]
    have e2 : belowE d = 0 := by rw [belowE, if_neg (by simp [hb])]
    rw [e1, e2]
    simp -implicitDefEqProofs only [go_sem, reduceEqDiff, reduceAdd, reduceLeDiff, reduceLT, reduceMul, reduceEq, Int.reduceLT, reduceLE, Int.reduceAdd, reduceSub, reduceToNat, UInt8.reduceToNat, z1, y1, hp, puBe, g2]
    have y2 : decide (d = []) = false := decide_eq_false c1
    have hbl : ∀ x : FileV, belowP d x = underB x.path d := fun x => by rw [belowP, y2, Bool.false_or]
    refine aloop_intro (σ := Nat × Tail) (fun s => [(1, .str d), (7, .sl ((belowL (m.files.take s.1) d).map encBs) s.2), (23, .sl (m.files.map encFile) tb), (24, .int .i64 m.files.length), (25, .int .i64 s.1)])
      (fun s G => s.1 ≤ m.files.length ∧ AppOK H G 1 ((belowL (m.files.take s.1) d).map encBs) s.2) (fun s => m.files.length - s.1) (0, .exact) ?_ ?_ ?_
    · simp -implicitDefEqProofs only [go_sem, reduceEqDiff, reduceAdd, reduceLeDiff, reduceLT, reduceMul, reduceEq, Int.reduceLT, reduceLE, Int.reduceAdd, reduceSub, reduceToNat, UInt8.reduceToNat]
      exact rfl
    · exact ⟨Nat.zero_le _, AppOK.nil hS⟩
    rintro ⟨i, tl⟩ r G hv ⟨hi, hO⟩
    simp only at hi hO
    have h1 := hv.1
    have h7 := hv.2.1
    have h23 := hv.2.2.1
    have h24 := hv.2.2.2.1
    have h25 := hv.2.2.2.2.1
    simp only at h7 h25
    clear hv
    by_cases g : i < m.files.length
    rotate_left
    · have y0 : decide ((i : Int) < m.files.length) = false := decide_eq_false (by omega)
      obtain rfl : i = m.files.length := by omega
      rw [List.take_length] at hO h7
      simp -implicitDefEqProofs only [go_sem, reduceEqDiff, reduceAdd, reduceLeDiff, reduceLT, reduceMul, reduceEq, Int.reduceLT, reduceLE, Int.reduceAdd, reduceSub, reduceToNat, UInt8.reduceToNat, h1, h7, h23, h24, h25, y0]
      exact Done.wk 2 (Done.drop hO.sub ⟨rfl, rfl⟩)
    have y0 : decide ((i : Int) < m.files.length) = true := decide_eq_true (by omega)
    obtain ⟨x, hx⟩ : ∃ x, m.files[i]? = some x := getD_get' g
    have ws : IntKind.i64.wrap ((i : Int) + 1) = ((i + 1 : Nat) : Int) := by rw [Go.IntWalk.i64_in _ (by omega)]; omega
    have hU : ∀ x ∈ m.files, (encFile x).length = 3 := fun _ _ => rfl
    have htt : ∀ x : FileV, (encFile x).take 3 = encFile x := fun _ => rfl
    have hxp := pathB_len (fileErr_ok (hM.e2 x (List.mem_of_getElem? hx))).1
    have hun := sUnd_eq x.path d (by omega) hd
    have hlen := belowL_len m.files d i
    have bx := hbl x
    simp -implicitDefEqProofs only [go_sem, reduceEqDiff, reduceAdd, reduceLeDiff, reduceLT, reduceMul, reduceEq, Int.reduceLT, reduceLE, Int.reduceAdd, reduceSub, reduceToNat, UInt8.reduceToNat, h1, h7, h23, h24, h25, y0, hx, hU, htt, encFile]
    with_reducible refine nwC_intro fun i9 hi9 => ?_
    replace hO := hO.put hi9 (.cells [.str x.path, .str x.data, .bool x.runs])
    try simp -implicitDefEqProofs only [go_sem, reduceEqDiff, reduceAdd, reduceLeDiff, reduceLT, reduceMul, reduceEq, Int.reduceLT, reduceLE, Int.reduceAdd, reduceSub, reduceToNat, UInt8.reduceToNat]
    generalize E9 : G.put i9 _ = G6 at *
    have g9 := obj_at E9
    clear E9
    cases hb9 : underB x.path d with
    | false =>
      rw [hb9] at bx hun
      have no := belowL_no (d := d) hx bx
      simp -implicitDefEqProofs only [go_sem, reduceEqDiff, reduceAdd, reduceLeDiff, reduceLT, reduceMul, reduceEq, Int.reduceLT, reduceLE, Int.reduceAdd, reduceSub, reduceToNat, UInt8.reduceToNat, h1, h7, h23, h24, h25, g9, hun, y2, bx, ws, puBe]
      exact Again.mk (i + 1, tl) (by simp -implicitDefEqProofs only [go_sem, reduceEqDiff, reduceAdd, reduceLeDiff, reduceLT, reduceMul, reduceEq, Int.reduceLT, reduceLE, Int.reduceAdd, reduceSub, reduceToNat, UInt8.reduceToNat, h1, h7, h23, h24, h25, no]) ⟨by simp only; omega, by simp only; rw [no]; exact hO⟩ (by simp only; omega)
    | true =>
      rw [hb9] at bx hun
      have yes := belowL_yes (d := d) hx bx
      simp -implicitDefEqProofs only [go_sem, reduceEqDiff, reduceAdd, reduceLeDiff, reduceLT, reduceMul, reduceEq, Int.reduceLT, reduceLE, Int.reduceAdd, reduceSub, reduceToNat, UInt8.reduceToNat, h1, h7, h23, h24, h25, g9, hun, y2, bx, puBe]
      refine AppOK.step hO (fun z hz => by obtain ⟨q, -, rfl⟩ := List.mem_map.1 hz; rfl) (by simp) (by rw [List.length_map]; simp; omega) (by rw [List.length_map]; simp; omega) fun tl' G' hO' hK => ?_
      have ea : (belowL (List.take i m.files) d).map encBs ++ [[AV.str x.path]] = (belowL (List.take (i + 1) m.files) d).map encBs := by rw [yes]; simp [encBs]
      rw [ea] at hO' ⊢
      simp -implicitDefEqProofs only [go_sem, reduceEqDiff, reduceAdd, reduceLeDiff, reduceLT, reduceMul, reduceEq, Int.reduceLT, reduceLE, Int.reduceAdd, reduceSub, reduceToNat, UInt8.reduceToNat, h1, h7, h23, h24, h25, ws]
      exact Again.mk (i + 1, tl') (by simp -implicitDefEqProofs only [go_sem, reduceEqDiff, reduceAdd, reduceLeDiff, reduceLT, reduceMul, reduceEq, Int.reduceLT, reduceLE, Int.reduceAdd, reduceSub, reduceToNat, UInt8.reduceToNat, h1, h7, h23, h24, h25]) ⟨by simp only; omega, hO'⟩ (by simp only; omega)
  · have y1 : decide (¬ d = []) = false := decide_eq_false (by simpa using c1)
    have e1 : belowA m d = belowL m.files d := by rw [belowA, if_neg (by simp [c1])]
    have e2 : belowE d = 0 := by rw [belowE, if_neg (by simp [c1])]
    rw [e1, e2]
    simp -implicitDefEqProofs only [go_sem, reduceEqDiff, reduceAdd, reduceLeDiff, reduceLT, reduceMul, reduceEq, Int.reduceLT, reduceLE, Int.reduceAdd, reduceSub, reduceToNat, UInt8.reduceToNat, z1, y1, hp, puBe, g2]
    have y2 : decide (d = []) = true := decide_eq_true c1
    have hbl : ∀ x : FileV, belowP d x = true := fun x => by rw [belowP, y2, Bool.true_or]
    refine aloop_intro (σ := Nat × Tail) (fun s => [(1, .str d), (7, .sl ((belowL (m.files.take s.1) d).map encBs) s.2), (23, .sl (m.files.map encFile) tb), (24, .int .i64 m.files.length), (25, .int .i64 s.1)])
      (fun s G => s.1 ≤ m.files.length ∧ AppOK H G 1 ((belowL (m.files.take s.1) d).map encBs) s.2) (fun s => m.files.length - s.1) (0, .exact) ?_ ?_ ?_
    · simp -implicitDefEqProofs only [go_sem, reduceEqDiff, reduceAdd, reduceLeDiff, reduceLT, reduceMul, reduceEq, Int.reduceLT, reduceLE, Int.reduceAdd, reduceSub, reduceToNat, UInt8.reduceToNat]
      exact rfl
    · exact ⟨Nat.zero_le _, AppOK.nil hS⟩
    rintro ⟨i, tl⟩ r G hv ⟨hi, hO⟩
    simp only at hi hO
    have h1 := hv.1
    have h7 := hv.2.1
    have h23 := hv.2.2.1
    have h24 := hv.2.2.2.1
    have h25 := hv.2.2.2.2.1
    simp only at h7 h25
    clear hv
    by_cases g : i < m.files.length
    rotate_left
    · have y0 : decide ((i : Int) < m.files.length) = false := decide_eq_false (by omega)
      obtain rfl : i = m.files.length := by omega
      rw [List.take_length] at hO h7
      simp -implicitDefEqProofs only [go_sem, reduceEqDiff, reduceAdd, reduceLeDiff, reduceLT, reduceMul, reduceEq, Int.reduceLT, reduceLE, Int.reduceAdd, reduceSub, reduceToNat, UInt8.reduceToNat, h1, h7, h23, h24, h25, y0]
      exact Done.wk 2 (Done.drop hO.sub ⟨rfl, rfl⟩)
    have y0 : decide ((i : Int) < m.files.length) = true := decide_eq_true (by omega)
    obtain ⟨x, hx⟩ : ∃ x, m.files[i]? = some x := getD_get' g
    have ws : IntKind.i64.wrap ((i : Int) + 1) = ((i + 1 : Nat) : Int) := by rw [Go.IntWalk.i64_in _ (by omega)]; omega
    have hU : ∀ x ∈ m.files, (encFile x).length = 3 := fun _ _ => rfl
    have htt : ∀ x : FileV, (encFile x).take 3 = encFile x := fun _ => rfl
    have hxp := pathB_len (fileErr_ok (hM.e2 x (List.mem_of_getElem? hx))).1
    have hun := sUnd_eq x.path d (by omega) hd
    have hlen := belowL_len m.files d i
    have bx := hbl x
    simp -implicitDefEqProofs only [go_sem, reduceEqDiff, reduceAdd, reduceLeDiff, reduceLT, reduceMul, reduceEq, Int.reduceLT, reduceLE, Int.reduceAdd, reduceSub, reduceToNat, UInt8.reduceToNat, h1, h7, h23, h24, h25, y0, hx, hU, htt, encFile]
    with_reducible refine nwC_intro fun i9 hi9 => ?_
    replace hO := hO.put hi9 (.cells [.str x.path, .str x.data, .bool x.runs])
    try simp -implicitDefEqProofs only [go_sem, reduceEqDiff, reduceAdd, reduceLeDiff, reduceLT, reduceMul, reduceEq, Int.reduceLT, reduceLE, Int.reduceAdd, reduceSub, reduceToNat, UInt8.reduceToNat]
    generalize E9 : G.put i9 _ = G6 at *
    have g9 := obj_at E9
    clear E9
    have yes := belowL_yes (d := d) hx bx
    simp -implicitDefEqProofs only [go_sem, reduceEqDiff, reduceAdd, reduceLeDiff, reduceLT, reduceMul, reduceEq, Int.reduceLT, reduceLE, Int.reduceAdd, reduceSub, reduceToNat, UInt8.reduceToNat, h1, h7, h23, h24, h25, g9, y2, bx, puBe]
    refine AppOK.step hO (fun z hz => by obtain ⟨q, -, rfl⟩ := List.mem_map.1 hz; rfl) (by simp) (by rw [List.length_map]; simp; omega) (by rw [List.length_map]; simp; omega) fun tl' G' hO' hK => ?_
    have ea : (belowL (List.take i m.files) d).map encBs ++ [[AV.str x.path]] = (belowL (List.take (i + 1) m.files) d).map encBs := by rw [yes]; simp [encBs]
    rw [ea] at hO' ⊢
    simp -implicitDefEqProofs only [go_sem, reduceEqDiff, reduceAdd, reduceLeDiff, reduceLT, reduceMul, reduceEq, Int.reduceLT, reduceLE, Int.reduceAdd, reduceSub, reduceToNat, UInt8.reduceToNat, h1, h7, h23, h24, h25, ws]
    exact Again.mk (i + 1, tl') (by simp -implicitDefEqProofs only [go_sem, reduceEqDiff, reduceAdd, reduceLeDiff, reduceLT, reduceMul, reduceEq, Int.reduceLT, reduceLE, Int.reduceAdd, reduceSub, reduceToNat, UInt8.reduceToNat, h1, h7, h23, h24, h25]) ⟨by simp only; omega, hO'⟩ (by simp only; omega)
end Go.Proofs
