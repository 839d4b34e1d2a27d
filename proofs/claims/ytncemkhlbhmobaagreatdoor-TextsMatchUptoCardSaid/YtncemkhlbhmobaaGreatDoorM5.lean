/-
  Walks and plain laws, part 5.
-/
import Derived.Test.YtncemkhlbhmobaaGreatDoorM1
import Derived.Test.YtncemkhlbhmobaaGreatDoorM3
import Derived.Test.YtncemkhlbhmobaaGreatDoorM4
import Derived.Test.YtncemkhlbhmobaaGreatDoorM2
/- Walks: Cut, and a line of a thing, on the program's side. -/
namespace Go.Proofs
open Go Go.Abs
open Nat (reduceEqDiff reduceAdd reduceLeDiff reduceLT reduceMul)
open Int (reduceEq reduceLE reduceSub reduceToNat)
set_option linter.unusedSimpArgs false
set_option linter.unusedVariables false
set_option maxRecDepth 20000
def cutA (c : UInt8) (s : Bytes) : AV := .tup [.str (cutT c s).1, .str (cutT c s).2.1, .bool (cutT c s).2.2]
theorem cutL_calls (s : Bytes) (c : UInt8) (H : Heap) (hs : s.length ≤ 1099511627776) : ACalls Tryz.prog 131 [.str s, .str [c]] H fun x H' => x = cutA c s ∧ H' = H := by
  by_cases h : Lib.indexByte s c = -1
  · have y : decide ((0 : Int) ≤ -1) = false := rfl
    have hv : cutA c s = .tup [.str s, .str [], .bool false] := by unfold cutA cutT; rw [(cutB_none h).1]
    rw [hv]
    refine ACalls.of_code (X := { pure := puK3 }) puK3_ok Tryz.func131 (by kernel_rfl) rfl (by kernel_rfl) (Nat.le_of_ble_eq_true rfl) ?_
    simp -implicitDefEqProofs only [go_sem, reduceEqDiff, reduceAdd, reduceLeDiff, reduceLT, reduceMul, reduceEq, Int.reduceLT, reduceLE, Int.reduceAdd, reduceSub, reduceToNat, UInt8.reduceToNat, Tryz.f131, puK3, puK2, puK1, sIdxL_eq, h, y]
    exact Done.now ⟨rfl, rfl⟩
  · have hge := Lib.indexByte_ge s c
    obtain ⟨m, hm⟩ : ∃ m : Nat, Lib.indexByte s c = m := ⟨(Lib.indexByte s c).toNat, by omega⟩
    have hl := (indexByte_some hm).1
    have y : decide ((0 : Int) ≤ (m : Int)) = true := decide_eq_true (by omega)
    have hv : cutA c s = .tup [.str (s.take m), .str (s.drop (m + 1)), .bool true] := by unfold cutA cutT; rw [cutB_some hm]
    have w : IntKind.i64.wrap ((m : Int) + 1) = ((m + 1 : Nat) : Int) := by rw [Go.IntWalk.i64_in _ (by omega)]; omega
    rw [hv]
    refine ACalls.of_code (X := { pure := puK3 }) puK3_ok Tryz.func131 (by kernel_rfl) rfl (by kernel_rfl) (Nat.le_of_ble_eq_true rfl) ?_
    simp -implicitDefEqProofs only [go_sem, reduceEqDiff, reduceAdd, reduceLeDiff, reduceLT, reduceMul, reduceEq, Int.reduceLT, reduceLE, Int.reduceAdd, reduceSub, reduceToNat, UInt8.reduceToNat, Tryz.f131, puK3, puK2, puK1, sIdxL_eq, hm, y, Int.toNat_natCast, w, List.take_length]
    refine ⟨by omega, by omega, ?_⟩
    exact Done.now ⟨rfl, rfl⟩
noncomputable def sCut := spF (fun p : Bytes × UInt8 => [AV.str p.1, AV.str [p.2]]) (fun p => p.1.length ≤ 1099511627776) (fun p => cutA p.2 p.1)
theorem sCut_eq (s : Bytes) (c : UInt8) (h : s.length ≤ 1099511627776) : sCut [.str s, .str [c]] = some (.tup [.str (cutT c s).1, .str (cutT c s).2.1, .bool (cutT c s).2.2]) := spF_eq (fun a b e => by obtain ⟨a1, a2⟩ := a; obtain ⟨b1, b2⟩ := b; cases e; rfl) (s, c) h
noncomputable def puM1 : Pures := putP 131 sCut pu0
theorem puM1_dyn : isDyn puM1 = false := by simp only [puM1, go_sem, Nat.reduceEqDiff]
attribute [go_sem] puM1_dyn
theorem puM1_ok : PuOK Tryz.prog puM1 := .put (pu0_ok) (spF_ok fun p H h => cutL_calls p.1 p.2 H h)
theorem cut_calls (s : Bytes) (c : UInt8) (H : Heap) (hs : s.length ≤ 1099511627776) : ACalls Tryz.prog 104 [.str s, .str [c]] H fun x H' => x = cutA c s ∧ H' = H := by
  have q := sCut_eq s c hs
  refine ACalls.of_code (X := { pure := puM1 }) puM1_ok Tryz.func104 (by kernel_rfl) rfl (by kernel_rfl) (Nat.le_of_ble_eq_true rfl) ?_
  simp -implicitDefEqProofs only [go_sem, reduceEqDiff, reduceAdd, reduceLeDiff, reduceLT, reduceMul, reduceEq, Int.reduceLT, reduceLE, Int.reduceAdd, reduceSub, reduceToNat, UInt8.reduceToNat, Tryz.f104, puM1, q]
  exact Done.now ⟨rfl, rfl⟩
theorem isBit_calls (s : Bytes) (H : Heap) : ACalls Tryz.prog 132 [.str s] H fun x H' => x = .bool (isBitB s) ∧ H' = H := by
  by_cases h : s = [48]
  · have y : decide (s = [48]) = true := decide_eq_true h
    refine ACalls.of_code (X := { pure := pu0 }) pu0_ok Tryz.func132 (by kernel_rfl) rfl (by kernel_rfl) (Nat.le_of_ble_eq_true rfl) ?_
    simp -implicitDefEqProofs only [go_sem, reduceEqDiff, reduceAdd, reduceLeDiff, reduceLT, reduceMul, reduceEq, Int.reduceLT, reduceLE, Int.reduceAdd, reduceSub, reduceToNat, UInt8.reduceToNat, Tryz.f132, y]
    exact Done.now ⟨by rw [isBitB, y]; rfl, rfl⟩
  · have y : decide (s = [48]) = false := decide_eq_false h
    refine ACalls.of_code (X := { pure := pu0 }) pu0_ok Tryz.func132 (by kernel_rfl) rfl (by kernel_rfl) (Nat.le_of_ble_eq_true rfl) ?_
    simp -implicitDefEqProofs only [go_sem, reduceEqDiff, reduceAdd, reduceLeDiff, reduceLT, reduceMul, reduceEq, Int.reduceLT, reduceLE, Int.reduceAdd, reduceSub, reduceToNat, UInt8.reduceToNat, Tryz.f132, y]
    exact Done.now ⟨by rw [isBitB, y]; rfl, rfl⟩
def sBit : List AV → Option AV := fn1 .str fun s => some (.bool (isBitB s))
theorem sBit_eq (s : Bytes) : sBit [.str s] = some (.bool (isBitB s)) := rfl
theorem sBit_ok {P : Program} {f : FuncId} (h : ∀ s H, ACalls P f [.str s] H fun x H' => x = .bool (isBitB s) ∧ H' = H) : ∀ xs v, sBit xs = some v → ∀ H, ACalls P f xs H fun x H' => x = v ∧ H' = H := by
  intro xs v hv H
  obtain ⟨x, s, rfl, h1, h2⟩ := fn1_some hv
  cases h2; cases Rd.str_some h1; exact h s H
theorem rank_calls (w : Bytes) (H : Heap) : ACalls Tryz.prog 64 [.str w] H fun x H' => x = .int .i64 (rankV w) ∧ H' = H := by
  have hv := rankV.eq_1 w
  by_cases c1 : w = wFact
  · have y1 : decide (w = wFact) = true := decide_eq_true c1
    rw [if_pos c1] at hv
    refine ACalls.of_code (X := { pure := pu0 }) pu0_ok Tryz.func64 (by kernel_rfl) rfl (by kernel_rfl) (Nat.le_of_ble_eq_true rfl) ?_
    simp -implicitDefEqProofs only [go_sem, reduceEqDiff, reduceAdd, reduceLeDiff, reduceLT, reduceMul, reduceEq, Int.reduceLT, reduceLE, Int.reduceAdd, reduceSub, reduceToNat, UInt8.reduceToNat, Tryz.f64, y1]
    exact Done.now ⟨by rw [hv], rfl⟩
  have y1 : decide (w = wFact) = false := decide_eq_false c1
  rw [if_neg c1] at hv
  by_cases c2 : w = wFile
  · have y2 : decide (w = wFile) = true := decide_eq_true c2
    rw [if_pos (.inl c2)] at hv
    refine ACalls.of_code (X := { pure := pu0 }) pu0_ok Tryz.func64 (by kernel_rfl) rfl (by kernel_rfl) (Nat.le_of_ble_eq_true rfl) ?_
    simp -implicitDefEqProofs only [go_sem, reduceEqDiff, reduceAdd, reduceLeDiff, reduceLT, reduceMul, reduceEq, Int.reduceLT, reduceLE, Int.reduceAdd, reduceSub, reduceToNat, UInt8.reduceToNat, Tryz.f64, y1, y2]
    exact Done.now ⟨by rw [hv], rfl⟩
  have y2 : decide (w = wFile) = false := decide_eq_false c2
  by_cases c3 : w = wRun
  · have y3 : decide (w = wRun) = true := decide_eq_true c3
    rw [if_pos (.inr c3)] at hv
    refine ACalls.of_code (X := { pure := pu0 }) pu0_ok Tryz.func64 (by kernel_rfl) rfl (by kernel_rfl) (Nat.le_of_ble_eq_true rfl) ?_
    simp -implicitDefEqProofs only [go_sem, reduceEqDiff, reduceAdd, reduceLeDiff, reduceLT, reduceMul, reduceEq, Int.reduceLT, reduceLE, Int.reduceAdd, reduceSub, reduceToNat, UInt8.reduceToNat, Tryz.f64, y1, y2, y3]
    exact Done.now ⟨by rw [hv], rfl⟩
  have y3 : decide (w = wRun) = false := decide_eq_false c3
  rw [if_neg (by simp only [not_or]; exact ⟨c2, c3⟩)] at hv
  by_cases c4 : w = wSet
  · have y4 : decide (w = wSet) = true := decide_eq_true c4
    rw [if_pos c4] at hv
    refine ACalls.of_code (X := { pure := pu0 }) pu0_ok Tryz.func64 (by kernel_rfl) rfl (by kernel_rfl) (Nat.le_of_ble_eq_true rfl) ?_
    simp -implicitDefEqProofs only [go_sem, reduceEqDiff, reduceAdd, reduceLeDiff, reduceLT, reduceMul, reduceEq, Int.reduceLT, reduceLE, Int.reduceAdd, reduceSub, reduceToNat, UInt8.reduceToNat, Tryz.f64, y1, y2, y3, y4]
    exact Done.now ⟨by rw [hv], rfl⟩
  have y4 : decide (w = wSet) = false := decide_eq_false c4
  rw [if_neg c4] at hv
  by_cases c5 : w = wService
  · have y5 : decide (w = wService) = true := decide_eq_true c5
    rw [if_pos c5] at hv
    refine ACalls.of_code (X := { pure := pu0 }) pu0_ok Tryz.func64 (by kernel_rfl) rfl (by kernel_rfl) (Nat.le_of_ble_eq_true rfl) ?_
    simp -implicitDefEqProofs only [go_sem, reduceEqDiff, reduceAdd, reduceLeDiff, reduceLT, reduceMul, reduceEq, Int.reduceLT, reduceLE, Int.reduceAdd, reduceSub, reduceToNat, UInt8.reduceToNat, Tryz.f64, y1, y2, y3, y4, y5]
    exact Done.now ⟨by rw [hv], rfl⟩
  · have y5 : decide (w = wService) = false := decide_eq_false c5
    rw [if_neg c5] at hv
    refine ACalls.of_code (X := { pure := pu0 }) pu0_ok Tryz.func64 (by kernel_rfl) rfl (by kernel_rfl) (Nat.le_of_ble_eq_true rfl) ?_
    simp -implicitDefEqProofs only [go_sem, reduceEqDiff, reduceAdd, reduceLeDiff, reduceLT, reduceMul, reduceEq, Int.reduceLT, reduceLE, Int.reduceAdd, reduceSub, reduceToNat, UInt8.reduceToNat, Tryz.f64, y1, y2, y3, y4, y5]
    exact Done.now ⟨by rw [hv], rfl⟩
noncomputable def puM2 : Pures := putP 47 sSplit (putP 132 sBit (putP 25 sUnq (putP 104 sCut pu0)))
theorem puM2_dyn : isDyn puM2 = false := by simp only [puM2, go_sem, Nat.reduceEqDiff]
attribute [go_sem] puM2_dyn
theorem puM2_ok : PuOK Tryz.prog puM2 := .put (.put (.put (.put (pu0_ok) (spF_ok fun p H h => cut_calls p.1 p.2 H h)) (spF_ok fun s H h => unquote_calls s H h)) (sBit_ok isBit_calls)) (sSplit_ok splitT_calls)
def readLineA (s : Bytes) : AV := .tup [.agg (encLine (readLineV s).1), .bool (readLineV s).2]
set_option maxHeartbeats 6400000 in
theorem readLine_calls (s : Bytes) (H : Heap) (hs : s.length ≤ 1099511627776) : ACalls Tryz.prog 105 [.str s] H fun x H' => x = readLineA s ∧ H' = H := by
  have hS := Heap.Sub.rfl' H
  have q1 := sCut_eq s 32 hs
  have l1 := cutT_len 32 s
  have q2 := sCut_eq (cutT 32 s).2.1 32 (by omega)
  have l2 := cutT_len 32 (cutT 32 s).2.1
  have hv := readLineA.eq_1 s
  unfold readLineV at hv
  generalize cutT 32 (cutT 32 s).2.1 = t2 at *
  obtain ⟨key, value, two⟩ := t2
  generalize cutT 32 s = t1 at *
  obtain ⟨word, rest, one⟩ := t1
  simp only at q1 q2 l1 l2 hv
  have q3 := sUnq_eq value (by omega)
  have q4 : sSplit [.str value, .str [32]] = some (.sl ((splitB 32 value).map encBs) .unk) := by
    rw [sSplit_eq, if_pos (show value.length ≤ 1099511627776 by omega)]
  refine ACalls.of_code (X := { pure := puM2 }) puM2_ok Tryz.func105 (by kernel_rfl) rfl (by kernel_rfl) (Nat.le_of_ble_eq_true rfl) ?_
  simp -implicitDefEqProofs only [go_sem, reduceEqDiff, reduceAdd, reduceLeDiff, reduceLT, reduceMul, reduceEq, Int.reduceLT, reduceLE, Int.reduceAdd, reduceSub, reduceToNat, UInt8.reduceToNat, Tryz.f105]
  with_reducible refine nwC_intro fun i2 hi2 => ?_
  generalize E2 : Heap.put H i2 _ = G2
  have hO_2 := obj_new E2 hi2 hS
  have n2 := hO_2.1
  have hS := hO_2.2.1
  have g2 := hO_2.2.2.1
  clear hO_2
  by_cases c0 : one = false ∨ key = []
  · rw [if_pos c0] at hv
    rw [hv]
    cases one with
    | false =>
      simp -implicitDefEqProofs only [go_sem, reduceEqDiff, reduceAdd, reduceLeDiff, reduceLT, reduceMul, reduceEq, Int.reduceLT, reduceLE, Int.reduceAdd, reduceSub, reduceToNat, UInt8.reduceToNat, puM2, q1, q2, g2]
      exact Done.drop (hS.put' n2 _) ⟨rfl, rfl⟩
    | true =>
      have k0 : decide (key = []) = true := decide_eq_true (c0.resolve_left (by simp))
      simp -implicitDefEqProofs only [go_sem, reduceEqDiff, reduceAdd, reduceLeDiff, reduceLT, reduceMul, reduceEq, Int.reduceLT, reduceLE, Int.reduceAdd, reduceSub, reduceToNat, UInt8.reduceToNat, puM2, q1, q2, g2, k0]
      exact Done.drop (hS.put' n2 _) ⟨rfl, rfl⟩
  rw [if_neg c0] at hv
  simp only [not_or] at c0
  obtain rfl : one = true := by simpa using c0.1
  have k0 : decide (key = []) = false := decide_eq_false c0.2
  rw [hv]
  clear hv
  simp -implicitDefEqProofs only [go_sem, reduceEqDiff, reduceAdd, reduceLeDiff, reduceLT, reduceMul, reduceEq, Int.reduceLT, reduceLE, Int.reduceAdd, reduceSub, reduceToNat, UInt8.reduceToNat, puM2, q1, q2, g2, k0]
  with_reducible refine nwC_intro fun i10 hi10 => ?_
  simp -implicitDefEqProofs only [go_sem, reduceEqDiff, reduceAdd, reduceLeDiff, reduceLT, reduceMul, reduceEq, Int.reduceLT, reduceLE, Int.reduceAdd, reduceSub, reduceToNat, UInt8.reduceToNat]
  generalize E10 : Heap.put G2 i10 _ = G10
  have hO_10 := obj_new E10 hi10 hS
  have n10 := hO_10.1
  have hS := hO_10.2.1
  have g10 := hO_10.2.2.1
  have d2_10 := obj_ne g2 hi10
  have g2 := hO_10.2.2.2 _ _ g2
  clear hO_10
  have dd : ¬ i10 = i2 := fun e => d2_10 e.symm
  by_cases eFact : word = wFact
  · have yFact : decide (word = wFact) = true := decide_eq_true eFact
    cases hu : unq value with
    | some v =>
      have q3 := sUnq_eq value (by omega)
      unfold unqT at q3
      rw [hu] at q3
      cases two with
      | true =>
        simp -implicitDefEqProofs only [go_sem, reduceEqDiff, reduceAdd, reduceLeDiff, reduceLT, reduceMul, reduceEq, Int.reduceLT, reduceLE, Int.reduceAdd, reduceSub, reduceToNat, UInt8.reduceToNat, puM2, pu0, g2, g10, put_ne, d2_10, dd, yFact, q3]
        exact Done.drop (by repeat' first | exact hS | exact n2 | exact n10 | refine Heap.Sub.put' ?_ ?_ _) ⟨by rw [restV, if_pos (.inl eFact)]; simp only [unqD, hu]; rfl, rfl⟩
      | false =>
        simp -implicitDefEqProofs only [go_sem, reduceEqDiff, reduceAdd, reduceLeDiff, reduceLT, reduceMul, reduceEq, Int.reduceLT, reduceLE, Int.reduceAdd, reduceSub, reduceToNat, UInt8.reduceToNat, puM2, pu0, g2, g10, put_ne, d2_10, dd, yFact, q3]
        exact Done.drop (by repeat' first | exact hS | exact n2 | exact n10 | refine Heap.Sub.put' ?_ ?_ _) ⟨by rw [restV, if_pos (.inl eFact)]; simp only [unqD, hu]; rfl, rfl⟩
    | none =>
      have q3 := sUnq_eq value (by omega)
      unfold unqT at q3
      rw [hu] at q3
      cases two with
      | true =>
        simp -implicitDefEqProofs only [go_sem, reduceEqDiff, reduceAdd, reduceLeDiff, reduceLT, reduceMul, reduceEq, Int.reduceLT, reduceLE, Int.reduceAdd, reduceSub, reduceToNat, UInt8.reduceToNat, puM2, pu0, g2, g10, put_ne, d2_10, dd, yFact, q3]
        exact Done.drop (by repeat' first | exact hS | exact n2 | exact n10 | refine Heap.Sub.put' ?_ ?_ _) ⟨by rw [restV, if_pos (.inl eFact)]; simp only [unqD, hu]; rfl, rfl⟩
      | false =>
        simp -implicitDefEqProofs only [go_sem, reduceEqDiff, reduceAdd, reduceLeDiff, reduceLT, reduceMul, reduceEq, Int.reduceLT, reduceLE, Int.reduceAdd, reduceSub, reduceToNat, UInt8.reduceToNat, puM2, pu0, g2, g10, put_ne, d2_10, dd, yFact, q3]
        exact Done.drop (by repeat' first | exact hS | exact n2 | exact n10 | refine Heap.Sub.put' ?_ ?_ _) ⟨by rw [restV, if_pos (.inl eFact)]; simp only [unqD, hu]; rfl, rfl⟩
  have yFact : decide (word = wFact) = false := decide_eq_false eFact
  by_cases eSet : word = wSet
  · have ySet : decide (word = wSet) = true := decide_eq_true eSet
    cases hu : unq value with
    | some v =>
      have q3 := sUnq_eq value (by omega)
      unfold unqT at q3
      rw [hu] at q3
      cases two with
      | true =>
        simp -implicitDefEqProofs only [go_sem, reduceEqDiff, reduceAdd, reduceLeDiff, reduceLT, reduceMul, reduceEq, Int.reduceLT, reduceLE, Int.reduceAdd, reduceSub, reduceToNat, UInt8.reduceToNat, puM2, pu0, g2, g10, put_ne, d2_10, dd, yFact, ySet, q3]
        exact Done.drop (by repeat' first | exact hS | exact n2 | exact n10 | refine Heap.Sub.put' ?_ ?_ _) ⟨by rw [restV, if_pos (.inr eSet)]; simp only [unqD, hu]; rfl, rfl⟩
      | false =>
        simp -implicitDefEqProofs only [go_sem, reduceEqDiff, reduceAdd, reduceLeDiff, reduceLT, reduceMul, reduceEq, Int.reduceLT, reduceLE, Int.reduceAdd, reduceSub, reduceToNat, UInt8.reduceToNat, puM2, pu0, g2, g10, put_ne, d2_10, dd, yFact, ySet, q3]
        exact Done.drop (by repeat' first | exact hS | exact n2 | exact n10 | refine Heap.Sub.put' ?_ ?_ _) ⟨by rw [restV, if_pos (.inr eSet)]; simp only [unqD, hu]; rfl, rfl⟩
    | none =>
      have q3 := sUnq_eq value (by omega)
      unfold unqT at q3
      rw [hu] at q3
      cases two with
      | true =>
        simp -implicitDefEqProofs only [go_sem, reduceEqDiff, reduceAdd, reduceLeDiff, reduceLT, reduceMul, reduceEq, Int.reduceLT, reduceLE, Int.reduceAdd, reduceSub, reduceToNat, UInt8.reduceToNat, puM2, pu0, g2, g10, put_ne, d2_10, dd, yFact, ySet, q3]
        exact Done.drop (by repeat' first | exact hS | exact n2 | exact n10 | refine Heap.Sub.put' ?_ ?_ _) ⟨by rw [restV, if_pos (.inr eSet)]; simp only [unqD, hu]; rfl, rfl⟩
      | false =>
        simp -implicitDefEqProofs only [go_sem, reduceEqDiff, reduceAdd, reduceLeDiff, reduceLT, reduceMul, reduceEq, Int.reduceLT, reduceLE, Int.reduceAdd, reduceSub, reduceToNat, UInt8.reduceToNat, puM2, pu0, g2, g10, put_ne, d2_10, dd, yFact, ySet, q3]
        exact Done.drop (by repeat' first | exact hS | exact n2 | exact n10 | refine Heap.Sub.put' ?_ ?_ _) ⟨by rw [restV, if_pos (.inr eSet)]; simp only [unqD, hu]; rfl, rfl⟩
  have ySet : decide (word = wSet) = false := decide_eq_false eSet
  by_cases eFile : word = wFile
  · have yFile : decide (word = wFile) = true := decide_eq_true eFile
    have eF : ¬ (word = wFact ∨ word = wSet) := by simp only [not_or]; exact ⟨eFact, eSet⟩
    have zr : decide (word = wRun) = false := by rw [eFile]; decide
    have zp : decide (word = wPutrun) = false := by rw [eFile]; decide
    cases hu : unq value with
    | some v =>
      have q3 := sUnq_eq value (by omega)
      unfold unqT at q3
      rw [hu] at q3
      cases two with
      | true =>
        simp -implicitDefEqProofs only [go_sem, reduceEqDiff, reduceAdd, reduceLeDiff, reduceLT, reduceMul, reduceEq, Int.reduceLT, reduceLE, Int.reduceAdd, reduceSub, reduceToNat, UInt8.reduceToNat, puM2, pu0, g2, g10, put_ne, d2_10, dd, yFact, ySet, yFile, zr, zp, q3]
        exact Done.drop (by repeat' first | exact hS | exact n2 | exact n10 | refine Heap.Sub.put' ?_ ?_ _) ⟨by rw [restV, if_neg eF, if_pos (.inl eFile), zr, zp]; simp only [unqD, hu]; rfl, rfl⟩
      | false =>
        simp -implicitDefEqProofs only [go_sem, reduceEqDiff, reduceAdd, reduceLeDiff, reduceLT, reduceMul, reduceEq, Int.reduceLT, reduceLE, Int.reduceAdd, reduceSub, reduceToNat, UInt8.reduceToNat, puM2, pu0, g2, g10, put_ne, d2_10, dd, yFact, ySet, yFile, zr, zp, q3]
        exact Done.drop (by repeat' first | exact hS | exact n2 | exact n10 | refine Heap.Sub.put' ?_ ?_ _) ⟨by rw [restV, if_neg eF, if_pos (.inl eFile), zr, zp]; simp only [unqD, hu]; rfl, rfl⟩
    | none =>
      have q3 := sUnq_eq value (by omega)
      unfold unqT at q3
      rw [hu] at q3
      cases two with
      | true =>
        simp -implicitDefEqProofs only [go_sem, reduceEqDiff, reduceAdd, reduceLeDiff, reduceLT, reduceMul, reduceEq, Int.reduceLT, reduceLE, Int.reduceAdd, reduceSub, reduceToNat, UInt8.reduceToNat, puM2, pu0, g2, g10, put_ne, d2_10, dd, yFact, ySet, yFile, zr, zp, q3]
        exact Done.drop (by repeat' first | exact hS | exact n2 | exact n10 | refine Heap.Sub.put' ?_ ?_ _) ⟨by rw [restV, if_neg eF, if_pos (.inl eFile), zr, zp]; simp only [unqD, hu]; rfl, rfl⟩
      | false =>
        simp -implicitDefEqProofs only [go_sem, reduceEqDiff, reduceAdd, reduceLeDiff, reduceLT, reduceMul, reduceEq, Int.reduceLT, reduceLE, Int.reduceAdd, reduceSub, reduceToNat, UInt8.reduceToNat, puM2, pu0, g2, g10, put_ne, d2_10, dd, yFact, ySet, yFile, zr, zp, q3]
        exact Done.drop (by repeat' first | exact hS | exact n2 | exact n10 | refine Heap.Sub.put' ?_ ?_ _) ⟨by rw [restV, if_neg eF, if_pos (.inl eFile), zr, zp]; simp only [unqD, hu]; rfl, rfl⟩
  have yFile : decide (word = wFile) = false := decide_eq_false eFile
  by_cases eRun : word = wRun
  · have yRun : decide (word = wRun) = true := decide_eq_true eRun
    have eF : ¬ (word = wFact ∨ word = wSet) := by simp only [not_or]; exact ⟨eFact, eSet⟩
    have zr : decide (word = wRun) = true := by rw [eRun]; decide
    have zp : decide (word = wPutrun) = false := by rw [eRun]; decide
    cases hu : unq value with
    | some v =>
      have q3 := sUnq_eq value (by omega)
      unfold unqT at q3
      rw [hu] at q3
      cases two with
      | true =>
        simp -implicitDefEqProofs only [go_sem, reduceEqDiff, reduceAdd, reduceLeDiff, reduceLT, reduceMul, reduceEq, Int.reduceLT, reduceLE, Int.reduceAdd, reduceSub, reduceToNat, UInt8.reduceToNat, puM2, pu0, g2, g10, put_ne, d2_10, dd, yFact, ySet, yFile, yRun, zr, zp, q3]
        exact Done.drop (by repeat' first | exact hS | exact n2 | exact n10 | refine Heap.Sub.put' ?_ ?_ _) ⟨by rw [restV, if_neg eF, if_pos (.inr (.inl eRun)), zr, zp]; simp only [unqD, hu]; rfl, rfl⟩
      | false =>
        simp -implicitDefEqProofs only [go_sem, reduceEqDiff, reduceAdd, reduceLeDiff, reduceLT, reduceMul, reduceEq, Int.reduceLT, reduceLE, Int.reduceAdd, reduceSub, reduceToNat, UInt8.reduceToNat, puM2, pu0, g2, g10, put_ne, d2_10, dd, yFact, ySet, yFile, yRun, zr, zp, q3]
        exact Done.drop (by repeat' first | exact hS | exact n2 | exact n10 | refine Heap.Sub.put' ?_ ?_ _) ⟨by rw [restV, if_neg eF, if_pos (.inr (.inl eRun)), zr, zp]; simp only [unqD, hu]; rfl, rfl⟩
    | none =>
      have q3 := sUnq_eq value (by omega)
      unfold unqT at q3
      rw [hu] at q3
      cases two with
      | true =>
        simp -implicitDefEqProofs only [go_sem, reduceEqDiff, reduceAdd, reduceLeDiff, reduceLT, reduceMul, reduceEq, Int.reduceLT, reduceLE, Int.reduceAdd, reduceSub, reduceToNat, UInt8.reduceToNat, puM2, pu0, g2, g10, put_ne, d2_10, dd, yFact, ySet, yFile, yRun, zr, zp, q3]
        exact Done.drop (by repeat' first | exact hS | exact n2 | exact n10 | refine Heap.Sub.put' ?_ ?_ _) ⟨by rw [restV, if_neg eF, if_pos (.inr (.inl eRun)), zr, zp]; simp only [unqD, hu]; rfl, rfl⟩
      | false =>
        simp -implicitDefEqProofs only [go_sem, reduceEqDiff, reduceAdd, reduceLeDiff, reduceLT, reduceMul, reduceEq, Int.reduceLT, reduceLE, Int.reduceAdd, reduceSub, reduceToNat, UInt8.reduceToNat, puM2, pu0, g2, g10, put_ne, d2_10, dd, yFact, ySet, yFile, yRun, zr, zp, q3]
        exact Done.drop (by repeat' first | exact hS | exact n2 | exact n10 | refine Heap.Sub.put' ?_ ?_ _) ⟨by rw [restV, if_neg eF, if_pos (.inr (.inl eRun)), zr, zp]; simp only [unqD, hu]; rfl, rfl⟩
  have yRun : decide (word = wRun) = false := decide_eq_false eRun
  by_cases ePut : word = wPut
  · have yPut : decide (word = wPut) = true := decide_eq_true ePut
    have eF : ¬ (word = wFact ∨ word = wSet) := by simp only [not_or]; exact ⟨eFact, eSet⟩
    have zr : decide (word = wRun) = false := by rw [ePut]; decide
    have zp : decide (word = wPutrun) = false := by rw [ePut]; decide
    cases hu : unq value with
    | some v =>
      have q3 := sUnq_eq value (by omega)
      unfold unqT at q3
      rw [hu] at q3
      cases two with
      | true =>
        simp -implicitDefEqProofs only [go_sem, reduceEqDiff, reduceAdd, reduceLeDiff, reduceLT, reduceMul, reduceEq, Int.reduceLT, reduceLE, Int.reduceAdd, reduceSub, reduceToNat, UInt8.reduceToNat, puM2, pu0, g2, g10, put_ne, d2_10, dd, yFact, ySet, yFile, yRun, yPut, zr, zp, q3]
        exact Done.drop (by repeat' first | exact hS | exact n2 | exact n10 | refine Heap.Sub.put' ?_ ?_ _) ⟨by rw [restV, if_neg eF, if_pos (.inr (.inr (.inl ePut))), zr, zp]; simp only [unqD, hu]; rfl, rfl⟩
      | false =>
        simp -implicitDefEqProofs only [go_sem, reduceEqDiff, reduceAdd, reduceLeDiff, reduceLT, reduceMul, reduceEq, Int.reduceLT, reduceLE, Int.reduceAdd, reduceSub, reduceToNat, UInt8.reduceToNat, puM2, pu0, g2, g10, put_ne, d2_10, dd, yFact, ySet, yFile, yRun, yPut, zr, zp, q3]
        exact Done.drop (by repeat' first | exact hS | exact n2 | exact n10 | refine Heap.Sub.put' ?_ ?_ _) ⟨by rw [restV, if_neg eF, if_pos (.inr (.inr (.inl ePut))), zr, zp]; simp only [unqD, hu]; rfl, rfl⟩
    | none =>
      have q3 := sUnq_eq value (by omega)
      unfold unqT at q3
      rw [hu] at q3
      cases two with
      | true =>
        simp -implicitDefEqProofs only [go_sem, reduceEqDiff, reduceAdd, reduceLeDiff, reduceLT, reduceMul, reduceEq, Int.reduceLT, reduceLE, Int.reduceAdd, reduceSub, reduceToNat, UInt8.reduceToNat, puM2, pu0, g2, g10, put_ne, d2_10, dd, yFact, ySet, yFile, yRun, yPut, zr, zp, q3]
        exact Done.drop (by repeat' first | exact hS | exact n2 | exact n10 | refine Heap.Sub.put' ?_ ?_ _) ⟨by rw [restV, if_neg eF, if_pos (.inr (.inr (.inl ePut))), zr, zp]; simp only [unqD, hu]; rfl, rfl⟩
      | false =>
        simp -implicitDefEqProofs only [go_sem, reduceEqDiff, reduceAdd, reduceLeDiff, reduceLT, reduceMul, reduceEq, Int.reduceLT, reduceLE, Int.reduceAdd, reduceSub, reduceToNat, UInt8.reduceToNat, puM2, pu0, g2, g10, put_ne, d2_10, dd, yFact, ySet, yFile, yRun, yPut, zr, zp, q3]
        exact Done.drop (by repeat' first | exact hS | exact n2 | exact n10 | refine Heap.Sub.put' ?_ ?_ _) ⟨by rw [restV, if_neg eF, if_pos (.inr (.inr (.inl ePut))), zr, zp]; simp only [unqD, hu]; rfl, rfl⟩
  have yPut : decide (word = wPut) = false := decide_eq_false ePut
  by_cases ePutrun : word = wPutrun
  · have yPutrun : decide (word = wPutrun) = true := decide_eq_true ePutrun
    have eF : ¬ (word = wFact ∨ word = wSet) := by simp only [not_or]; exact ⟨eFact, eSet⟩
    have zr : decide (word = wRun) = false := by rw [ePutrun]; decide
    have zp : decide (word = wPutrun) = true := by rw [ePutrun]; decide
    cases hu : unq value with
    | some v =>
      have q3 := sUnq_eq value (by omega)
      unfold unqT at q3
      rw [hu] at q3
      cases two with
      | true =>
        simp -implicitDefEqProofs only [go_sem, reduceEqDiff, reduceAdd, reduceLeDiff, reduceLT, reduceMul, reduceEq, Int.reduceLT, reduceLE, Int.reduceAdd, reduceSub, reduceToNat, UInt8.reduceToNat, puM2, pu0, g2, g10, put_ne, d2_10, dd, yFact, ySet, yFile, yRun, yPut, yPutrun, zr, zp, q3]
        exact Done.drop (by repeat' first | exact hS | exact n2 | exact n10 | refine Heap.Sub.put' ?_ ?_ _) ⟨by rw [restV, if_neg eF, if_pos (.inr (.inr (.inr ePutrun))), zr, zp]; simp only [unqD, hu]; rfl, rfl⟩
      | false =>
        simp -implicitDefEqProofs only [go_sem, reduceEqDiff, reduceAdd, reduceLeDiff, reduceLT, reduceMul, reduceEq, Int.reduceLT, reduceLE, Int.reduceAdd, reduceSub, reduceToNat, UInt8.reduceToNat, puM2, pu0, g2, g10, put_ne, d2_10, dd, yFact, ySet, yFile, yRun, yPut, yPutrun, zr, zp, q3]
        exact Done.drop (by repeat' first | exact hS | exact n2 | exact n10 | refine Heap.Sub.put' ?_ ?_ _) ⟨by rw [restV, if_neg eF, if_pos (.inr (.inr (.inr ePutrun))), zr, zp]; simp only [unqD, hu]; rfl, rfl⟩
    | none =>
      have q3 := sUnq_eq value (by omega)
      unfold unqT at q3
      rw [hu] at q3
      cases two with
      | true =>
        simp -implicitDefEqProofs only [go_sem, reduceEqDiff, reduceAdd, reduceLeDiff, reduceLT, reduceMul, reduceEq, Int.reduceLT, reduceLE, Int.reduceAdd, reduceSub, reduceToNat, UInt8.reduceToNat, puM2, pu0, g2, g10, put_ne, d2_10, dd, yFact, ySet, yFile, yRun, yPut, yPutrun, zr, zp, q3]
        exact Done.drop (by repeat' first | exact hS | exact n2 | exact n10 | refine Heap.Sub.put' ?_ ?_ _) ⟨by rw [restV, if_neg eF, if_pos (.inr (.inr (.inr ePutrun))), zr, zp]; simp only [unqD, hu]; rfl, rfl⟩
      | false =>
        simp -implicitDefEqProofs only [go_sem, reduceEqDiff, reduceAdd, reduceLeDiff, reduceLT, reduceMul, reduceEq, Int.reduceLT, reduceLE, Int.reduceAdd, reduceSub, reduceToNat, UInt8.reduceToNat, puM2, pu0, g2, g10, put_ne, d2_10, dd, yFact, ySet, yFile, yRun, yPut, yPutrun, zr, zp, q3]
        exact Done.drop (by repeat' first | exact hS | exact n2 | exact n10 | refine Heap.Sub.put' ?_ ?_ _) ⟨by rw [restV, if_neg eF, if_pos (.inr (.inr (.inr ePutrun))), zr, zp]; simp only [unqD, hu]; rfl, rfl⟩
  have yPutrun : decide (word = wPutrun) = false := decide_eq_false ePutrun
  by_cases eService : word = wService
  · have yService : decide (word = wService) = true := decide_eq_true eService
    have hrv : restV word key value two = svcPart word key two (splitB 32 value) := by
      rw [restV, if_neg (by simp only [not_or]; exact ⟨eFact, eSet⟩), if_neg (by simp only [not_or]; exact ⟨eFile, eRun, ePut, ePutrun⟩), if_pos eService]
    rw [hrv]
    clear hrv
    generalize splitB 32 value = p at *
    cases two with
    | false =>
      rw [svcPart_false]
      simp -implicitDefEqProofs only [go_sem, reduceEqDiff, reduceAdd, reduceLeDiff, reduceLT, reduceMul, reduceEq, Int.reduceLT, reduceLE, Int.reduceAdd, reduceSub, reduceToNat, UInt8.reduceToNat, puM2, pu0, g2, g10, put_ne, d2_10, dd, yFact, ySet, yFile, yRun, yPut, yPutrun, yService, q4]
      exact Done.drop (by repeat' first | exact hS | exact n2 | exact n10 | refine Heap.Sub.put' ?_ ?_ _) ⟨by rfl, rfl⟩
    | true =>
      by_cases hl : p.length = 3
      rotate_left
      · have z3 : decide (¬ (p.length : Int) = 3) = true := decide_eq_true (by omega)
        rw [svcPart_len _ _ _ hl]
        simp -implicitDefEqProofs only [go_sem, reduceEqDiff, reduceAdd, reduceLeDiff, reduceLT, reduceMul, reduceEq, Int.reduceLT, reduceLE, Int.reduceAdd, reduceSub, reduceToNat, UInt8.reduceToNat, puM2, pu0, g2, g10, put_ne, d2_10, dd, yFact, ySet, yFile, yRun, yPut, yPutrun, yService, q4, z3]
        exact Done.drop (by repeat' first | exact hS | exact n2 | exact n10 | refine Heap.Sub.put' ?_ ?_ _) ⟨by rfl, rfl⟩
      obtain ⟨a, b, c, rfl⟩ : ∃ a b c, p = [a, b, c] := by
        match p, hl with
        | [a, b, c], _ => exact ⟨a, b, c, rfl⟩
      simp only [List.map_cons, List.map_nil, encBs] at q4
      rw [svcPart]
      have z3 : decide (¬ ((0 + 1 + 1 + 1 : Nat) : Int) = 3) = false := rfl
      have z4 : decide (¬ ((3 : Nat) : Int) = 3) = false := rfl
      have u1 : Unif 1 [[AV.str a], [AV.str b], [AV.str c]] := by
        intro x hx
        simp only [List.mem_cons, List.not_mem_nil, or_false] at hx
        rcases hx with rfl | rfl | rfl <;> rfl
      by_cases ha : a = []
      · have za : decide (a = []) = true := decide_eq_true ha
        rw [if_neg (by simp [ha])]
        simp -implicitDefEqProofs only [go_sem, reduceEqDiff, reduceAdd, reduceLeDiff, reduceLT, reduceMul, reduceEq, Int.reduceLT, reduceLE, Int.reduceAdd, reduceSub, reduceToNat, UInt8.reduceToNat, puM2, pu0, g2, g10, put_ne, d2_10, dd, yFact, ySet, yFile, yRun, yPut, yPutrun, yService, q4, z3, z4, u1, Int.toNat_zero, Int.reduceToNat, Int.le_refl, za]
        exact Done.drop (by repeat' first | exact hS | exact n2 | exact n10 | refine Heap.Sub.put' ?_ ?_ _) ⟨by rfl, rfl⟩
      have za : decide (a = []) = false := decide_eq_false ha
      cases hb : isBitB b with
      | false =>
        rw [if_neg (by simp)]
        simp -implicitDefEqProofs only [go_sem, reduceEqDiff, reduceAdd, reduceLeDiff, reduceLT, reduceMul, reduceEq, Int.reduceLT, reduceLE, Int.reduceAdd, reduceSub, reduceToNat, UInt8.reduceToNat, puM2, pu0, g2, g10, put_ne, d2_10, dd, yFact, ySet, yFile, yRun, yPut, yPutrun, yService, q4, z3, z4, u1, Int.toNat_zero, Int.reduceToNat, Int.le_refl, za, sBit_eq, hb]
        exact Done.drop (by repeat' first | exact hS | exact n2 | exact n10 | refine Heap.Sub.put' ?_ ?_ _) ⟨by rfl, rfl⟩
      | true =>
        cases hc : isBitB c with
        | false =>
          rw [if_neg (by simp)]
          simp -implicitDefEqProofs only [go_sem, reduceEqDiff, reduceAdd, reduceLeDiff, reduceLT, reduceMul, reduceEq, Int.reduceLT, reduceLE, Int.reduceAdd, reduceSub, reduceToNat, UInt8.reduceToNat, puM2, pu0, g2, g10, put_ne, d2_10, dd, yFact, ySet, yFile, yRun, yPut, yPutrun, yService, q4, z3, z4, u1, Int.toNat_zero, Int.reduceToNat, Int.le_refl, za, sBit_eq, hb, hc]
          exact Done.drop (by repeat' first | exact hS | exact n2 | exact n10 | refine Heap.Sub.put' ?_ ?_ _) ⟨by rfl, rfl⟩
        | true =>
          rw [if_pos ⟨rfl, ha, rfl, rfl⟩]
          simp -implicitDefEqProofs only [go_sem, reduceEqDiff, reduceAdd, reduceLeDiff, reduceLT, reduceMul, reduceEq, Int.reduceLT, reduceLE, Int.reduceAdd, reduceSub, reduceToNat, UInt8.reduceToNat, puM2, pu0, g2, g10, put_ne, d2_10, dd, yFact, ySet, yFile, yRun, yPut, yPutrun, yService, q4, z3, z4, u1, Int.toNat_zero, Int.reduceToNat, Int.le_refl, za, sBit_eq, hb, hc]
          exact Done.drop (by repeat' first | exact hS | exact n2 | exact n10 | refine Heap.Sub.put' ?_ ?_ _) ⟨by rfl, rfl⟩
  have yService : decide (word = wService) = false := decide_eq_false eService
  by_cases eRemove : word = wRemove
  · have yRemove : decide (word = wRemove) = true := decide_eq_true eRemove
    simp -implicitDefEqProofs only [go_sem, reduceEqDiff, reduceAdd, reduceLeDiff, reduceLT, reduceMul, reduceEq, Int.reduceLT, reduceLE, Int.reduceAdd, reduceSub, reduceToNat, UInt8.reduceToNat, puM2, pu0, g2, g10, put_ne, d2_10, dd, yFact, ySet, yFile, yRun, yPut, yPutrun, yService, yRemove]
    exact Done.drop (by repeat' first | exact hS | exact n2 | exact n10 | refine Heap.Sub.put' ?_ ?_ _) ⟨by rw [restV, if_neg (by simp only [not_or]; exact ⟨eFact, eSet⟩), if_neg (by simp only [not_or]; exact ⟨eFile, eRun, ePut, ePutrun⟩), if_neg eService, if_pos eRemove]; rfl, rfl⟩
  have yRemove : decide (word = wRemove) = false := decide_eq_false eRemove
  by_cases eUnset : word = wUnset
  · have yUnset : decide (word = wUnset) = true := decide_eq_true eUnset
    simp -implicitDefEqProofs only [go_sem, reduceEqDiff, reduceAdd, reduceLeDiff, reduceLT, reduceMul, reduceEq, Int.reduceLT, reduceLE, Int.reduceAdd, reduceSub, reduceToNat, UInt8.reduceToNat, puM2, pu0, g2, g10, put_ne, d2_10, dd, yFact, ySet, yFile, yRun, yPut, yPutrun, yService, yRemove, yUnset]
    exact Done.drop (by repeat' first | exact hS | exact n2 | exact n10 | refine Heap.Sub.put' ?_ ?_ _) ⟨by rw [restV, if_neg (by simp only [not_or]; exact ⟨eFact, eSet⟩), if_neg (by simp only [not_or]; exact ⟨eFile, eRun, ePut, ePutrun⟩), if_neg eService, if_neg eRemove, if_pos eUnset]; rfl, rfl⟩
  have yUnset : decide (word = wUnset) = false := decide_eq_false eUnset
  by_cases eDrop : word = wDrop
  · have yDrop : decide (word = wDrop) = true := decide_eq_true eDrop
    simp -implicitDefEqProofs only [go_sem, reduceEqDiff, reduceAdd, reduceLeDiff, reduceLT, reduceMul, reduceEq, Int.reduceLT, reduceLE, Int.reduceAdd, reduceSub, reduceToNat, UInt8.reduceToNat, puM2, pu0, g2, g10, put_ne, d2_10, dd, yFact, ySet, yFile, yRun, yPut, yPutrun, yService, yRemove, yUnset, yDrop]
    exact Done.drop (by repeat' first | exact hS | exact n2 | exact n10 | refine Heap.Sub.put' ?_ ?_ _) ⟨by rw [restV, if_neg (by simp only [not_or]; exact ⟨eFact, eSet⟩), if_neg (by simp only [not_or]; exact ⟨eFile, eRun, ePut, ePutrun⟩), if_neg eService, if_neg eRemove, if_neg eUnset, if_pos eDrop]; rfl, rfl⟩
  have yDrop : decide (word = wDrop) = false := decide_eq_false eDrop
  simp -implicitDefEqProofs only [go_sem, reduceEqDiff, reduceAdd, reduceLeDiff, reduceLT, reduceMul, reduceEq, Int.reduceLT, reduceLE, Int.reduceAdd, reduceSub, reduceToNat, UInt8.reduceToNat, puM2, pu0, g2, g10, put_ne, d2_10, dd, yFact, ySet, yFile, yRun, yPut, yPutrun, yService, yRemove, yUnset, yDrop]
  exact Done.drop (by repeat' first | exact hS | exact n2 | exact n10 | refine Heap.Sub.put' ?_ ?_ _) ⟨by rw [restV, if_neg (by simp only [not_or]; exact ⟨eFact, eSet⟩), if_neg (by simp only [not_or]; exact ⟨eFile, eRun, ePut, ePutrun⟩), if_neg eService, if_neg eRemove, if_neg eUnset, if_neg eDrop]; rfl, rfl⟩
end Go.Proofs

/- Walks: eachLine, and what Parse does with each line. -/
namespace Go.Proofs
open Go Go.Abs
open Nat (reduceEqDiff reduceAdd reduceLeDiff reduceLT reduceMul)
open Int (reduceEq reduceLE reduceSub reduceToNat)
set_option linter.unusedSimpArgs false
set_option linter.unusedVariables false
set_option maxRecDepth 20000
/-- What a walk over lines comes to. -/
def RdRes {σ : Type} (H0 : Heap) (Inv : Nat → σ → Heap → Prop) (N : Nat) (r : Except Nat σ) (x : AV) (G : Heap) : Prop := match r with
  | .error n => x = .int .i64 n ∧ H0.Sub G
  | .ok s => x = .int .i64 (-1) ∧ ∃ n, n ≤ N ∧ Inv n s G
def StRes {σ : Type} (H0 : Heap) (Inv : Nat → σ → Heap → Prop) (n : Nat) (r : Option σ) (x : AV) (G : Heap) : Prop := match r with
  | none => x = .bool false ∧ H0.Sub G
  | some s => x = .bool true ∧ Inv (n + 1) s G
noncomputable def sRL := spF (fun s : Bytes => [AV.str s]) (fun s => s.length ≤ 1099511627776) readLineA
theorem sRL_eq (s : Bytes) (h : s.length ≤ 1099511627776) : sRL [.str s] = some (.tup [.agg (encLine (readLineV s).1), .bool (readLineV s).2]) := spF_eq (fun a b e => by cases e; rfl) s h
noncomputable def puM3 : Pures := putP 105 sRL (putP 104 sCut pu0)
theorem puM3_dyn : isDyn puM3 = false := by simp only [puM3, go_sem, Nat.reduceEqDiff]
attribute [go_sem] puM3_dyn
theorem puM3_ok : PuOK Tryz.prog puM3 := .put (.put (pu0_ok) (spF_ok fun p H h => cut_calls p.1 p.2 H h)) (spF_ok fun s H h => readLine_calls s H h)
set_option maxHeartbeats 3200000 in
theorem eachLine_calls {σ : Type} (H0 : Heap) (step : σ → Bytes → Option σ) (f : FuncId) (caps : List AV) (Inv : Nat → σ → Heap → Prop) (text : Bytes) (s0 : σ) (G0 : Heap)
    (hput : ∀ n s G id o, Inv n s G → G id = none → Inv n s (G.put id o)) (hsub : ∀ n s G, Inv n s G → H0.Sub G) (hbad : ∀ s l, (readLineV l).2 = false → step s l = none)
    (hf : ∀ n s l G, n ≤ text.length → l.length ≤ text.length → Inv n s G → (readLineV l).2 = true → ACalls Tryz.prog f (.agg (encLine (readLineV l).1) :: caps) G (StRes H0 Inv n (step s l)))
    (hn1 : ¬ f = 105) (hn2 : ¬ f = 104) (h0 : Inv 0 s0 G0) (ht : text.length ≤ 1099511627776) :
    ACalls Tryz.prog 62 [.str text, .func f caps] G0 (RdRes H0 Inv text.length (rdL step s0 0 (splitB 10 text))) := by
  refine ACalls.of_code (X := { pure := puM3 }) puM3_ok Tryz.func62 (by kernel_rfl) rfl (by kernel_rfl) (Nat.le_of_ble_eq_true rfl) ?_
  simp -implicitDefEqProofs only [go_sem, reduceEqDiff, reduceAdd, reduceLeDiff, reduceLT, reduceMul, reduceEq, Int.reduceLT, reduceLE, Int.reduceAdd, reduceSub, reduceToNat, UInt8.reduceToNat, Tryz.f62]
  refine aloop_intro (σ := Bytes × Nat × σ) (fun t => [(0, .str t.1), (1, .func f caps), (5, .int .i64 t.2.1)]) (fun t G => t.1.length + t.2.1 ≤ text.length ∧ Inv t.2.1 t.2.2 G ∧ rdL step s0 0 (splitB 10 text) = rdL step t.2.2 t.2.1 (splitB 10 t.1)) (fun t => t.1.length) (text, 0, s0) ?_ ?_ ?_
  · simp -implicitDefEqProofs only [go_sem, reduceEqDiff, reduceAdd, reduceLeDiff, reduceLT, reduceMul, reduceEq, Int.reduceLT, reduceLE, Int.reduceAdd, reduceSub, reduceToNat, UInt8.reduceToNat]
  · exact ⟨Nat.le_refl _, h0, rfl⟩
  rintro ⟨t, n, s⟩ r G hv ⟨hl, hI, hE⟩
  have h0 := hv.1
  have h1 := hv.2.1
  have h5 := hv.2.2.1
  clear hv
  simp only at h0 h1 h5 hl hI hE
  rw [rdL_cut step s n t] at hE
  by_cases c0 : t = []
  · have y0 : decide (¬ t = []) = false := decide_eq_false (by simpa using c0)
    rw [if_pos c0] at hE
    simp -implicitDefEqProofs only [go_sem, reduceEqDiff, reduceAdd, reduceLeDiff, reduceLT, reduceMul, reduceEq, Int.reduceLT, reduceLE, Int.reduceAdd, reduceSub, reduceToNat, UInt8.reduceToNat, h0, h1, h5, y0]
    refine Done.now ?_
    rw [hE]
    exact ⟨rfl, n, by omega, hI⟩
  have y0 : decide (¬ t = []) = true := decide_eq_true c0
  rw [if_neg c0] at hE
  have hlp : 0 < t.length := List.length_pos_iff.2 c0
  have q1 := sCut_eq t 10 (by omega)
  have ws : IntKind.i64.wrap ((n : Int) + 1) = ((n + 1 : Nat) : Int) := by rw [Go.IntWalk.i64_in _ (by omega)]; omega
  cases hc : cutB 10 t with
  | none =>
    rw [hc] at hE
    have q2 : cutT 10 t = (t, [], false) := by unfold cutT; rw [hc]
    rw [q2] at q1
    have q3 := sRL_eq t (by omega)
    have hU : encLine (readLineV t).1 = encLine (readLineV t).1 := rfl
    generalize readLineV t = rl at *
    obtain ⟨x, ok⟩ := rl
    simp only at q3
    unfold encLine at q3
    simp -implicitDefEqProofs only [go_sem, reduceEqDiff, reduceAdd, reduceLeDiff, reduceLT, reduceMul, reduceEq, Int.reduceLT, reduceLE, Int.reduceAdd, reduceSub, reduceToNat, UInt8.reduceToNat, h0, h1, h5, y0, puM3, pu0, q1, q3]
    with_reducible refine nwC_intro fun i9 hi9 => ?_
    simp -implicitDefEqProofs only [go_sem, reduceEqDiff, reduceAdd, reduceLeDiff, reduceLT, reduceMul, reduceEq, Int.reduceLT, reduceLE, Int.reduceAdd, reduceSub, reduceToNat, UInt8.reduceToNat, h5]
    have hS := fun o => hsub _ _ _ (hput _ _ _ i9 o hI hi9)
    refine Done.now ?_
    rw [hE]
    exact ⟨rfl, hS _⟩
  | some p =>
    rw [hc] at hE
    obtain ⟨a, b⟩ := p
    have hab := (cutB_len hc).1
    have q2 : cutT 10 t = (a, b, true) := by unfold cutT; rw [hc]
    rw [q2] at q1
    simp only at hE hab q1
    have q3 := sRL_eq a (by omega)
    have hff := fun G hI => hf n s a G (by omega) (by omega) hI
    have hbb := hbad s a
    generalize readLineV a = rl at *
    obtain ⟨x, ok⟩ := rl
    simp only at q3 hff hbb
    unfold encLine at q3 hff
    simp -implicitDefEqProofs only [go_sem, reduceEqDiff, reduceAdd, reduceLeDiff, reduceLT, reduceMul, reduceEq, Int.reduceLT, reduceLE, Int.reduceAdd, reduceSub, reduceToNat, UInt8.reduceToNat, h0, h1, h5, y0, puM3, pu0, q1, q3]
    with_reducible refine nwC_intro fun i9 hi9 => ?_
    simp -implicitDefEqProofs only [go_sem, reduceEqDiff, reduceAdd, reduceLeDiff, reduceLT, reduceMul, reduceEq, Int.reduceLT, reduceLE, Int.reduceAdd, reduceSub, reduceToNat, UInt8.reduceToNat]
    cases ok with
    | false =>
      have hS := fun o => hsub _ _ _ (hput _ _ _ i9 o hI hi9)
      rw [hbb rfl] at hE
      simp -implicitDefEqProofs only [go_sem, reduceEqDiff, reduceAdd, reduceLeDiff, reduceLT, reduceMul, reduceEq, Int.reduceLT, reduceLE, Int.reduceAdd, reduceSub, reduceToNat, UInt8.reduceToNat, h5]
      refine Done.now ?_
      rw [hE]
      exact ⟨rfl, hS _⟩
    | true =>
      have hI2 := hput _ _ _ i9 (.cells [.str x.word, .str x.file.path, .str x.file.data, .bool x.file.runs, .str x.set.key, .str x.set.value, .str x.svc.name, .str x.svc.path, .bool x.svc.auto, .bool x.svc.on]) hI hi9
      have hff2 := hff _ hI2 rfl
      simp -implicitDefEqProofs only [go_sem, reduceEqDiff, reduceAdd, reduceLeDiff, reduceLT, reduceMul, reduceEq, Int.reduceLT, reduceLE, Int.reduceAdd, reduceSub, reduceToNat, UInt8.reduceToNat, h1, hn1, hn2]
      refine hff2.mono ?_
      intro v G2 hv
      cases hst : step s a with
      | none =>
        rw [hst] at hv hE
        obtain ⟨rfl, hS⟩ := hv
        simp -implicitDefEqProofs only [go_sem, reduceEqDiff, reduceAdd, reduceLeDiff, reduceLT, reduceMul, reduceEq, Int.reduceLT, reduceLE, Int.reduceAdd, reduceSub, reduceToNat, UInt8.reduceToNat, h5]
        refine Done.now ?_
        rw [hE]
        exact ⟨rfl, hS⟩
      | some s2 =>
        rw [hst] at hv hE
        obtain ⟨rfl, hI3⟩ := hv
        simp -implicitDefEqProofs only [go_sem, reduceEqDiff, reduceAdd, reduceLeDiff, reduceLT, reduceMul, reduceEq, Int.reduceLT, reduceLE, Int.reduceAdd, reduceSub, reduceToNat, UInt8.reduceToNat, h1, h5, ws]
        exact Again.mk (b, n + 1, s2) (by simp -implicitDefEqProofs only [go_sem, reduceEqDiff, reduceAdd, reduceLeDiff, reduceLT, reduceMul, reduceEq, Int.reduceLT, reduceLE, Int.reduceAdd, reduceSub, reduceToNat, UInt8.reduceToNat, h1]) ⟨by simp only; omega, hI3, hE⟩ (by simp only; omega)
end Go.Proofs

/- Lists that grow beside others. -/
namespace Go.Proofs
open Go Go.Abs
set_option linter.unusedSimpArgs false
set_option linter.unusedVariables false
set_option maxRecDepth 20000
/-- Two lists have not the same room. -/
def tokNe (t u : Tail) : Prop := ∀ i k ty k' ty', t = .tok i k ty → u ≠ .tok i k' ty'
theorem tokNe.symm {t u : Tail} (h : tokNe t u) : tokNe u t := fun i k ty k' ty' h1 h2 => h i k' ty' k ty h2 h1
theorem tokNe_exact (t : Tail) : tokNe .exact t := fun i k ty k' ty' h => by cases h
/-- What one list's growing leaves: all but its room. -/
def Grows (G G' : Heap) (tl tl' : Tail) : Prop := (∀ i o, G i = some o → (∀ k ty, tl ≠ .tok i k ty) → G' i = some o) ∧ (∀ i k ty, tl' = .tok i k ty → G i = none)
theorem AppG.step2 {et : Option TypeId} {H G : Heap} {e : TI} {acc new : List (List AV)} {tl : Tail} {K : K1} (h : AppG H G e.size acc tl) (hu : Unif e.size acc) (hn : new ≠ [])
    (h1 : (acc.length + new.length) * e.bytes ≤ 140737488355328) (h2 : acc.length + new.length ≤ 4611686018427387904)
    (hK : ∀ tl' G', AppG H G' e.size (acc ++ new) tl' → Grows G G' tl tl' → K (.sl (acc ++ new) tl') G') : appK et false e (.sl acc tl) new G K := by
  have hnone : ∀ id', G id' = none → H id' = none := fun id' hid' => sub_none h.1 hid'
  rcases h.2 with rfl | ⟨id, ty, rfl, h3, h4⟩
  · refine app_exact hu h1 h2 (fun e => absurd e hn) (fun _ id' hid' => ?_)
    refine hK _ _ ⟨h.1.put' (hnone _ hid') _, .inr ⟨id', _, rfl, hnone _ hid', put_same _ _ _⟩⟩ ⟨fun i o hi _ => ?_, fun i k ty e => by cases e; exact hid'⟩
    have : ¬ i = id' := fun e => by subst e; rw [hid'] at hi; cases hi
    rw [put_ne _ _ _ _ this]; exact hi
  · refine app_tok hu h4 h1 h2 (fun id' hid' => ?_)
    refine hK _ _ ⟨?_, .inr ⟨id', _, rfl, hnone _ hid', put_same _ _ _⟩⟩ ⟨fun i o hi hno => ?_, fun i k ty e => by cases e; exact hid'⟩
    · refine Heap.Sub.put' (fun i o hi => ?_) (hnone _ hid') _
      have : ¬ i = id := fun e => by subst e; rw [h3] at hi; cases hi
      show (if i = id then none else G i) = some o
      rw [if_neg this]; exact h.1 i o hi
    · have a1 : ¬ i = id' := fun e => by subst e; rw [hid'] at hi; cases hi
      have a2 : ¬ i = id := fun e => by subst e; exact hno _ _ rfl
      rw [put_ne _ _ _ _ a1]
      show (if i = id then none else G i) = some o
      rw [if_neg a2]; exact hi
theorem Grows.cells {H G G' : Heap} {k : Nat} {acc : List (List AV)} {tl tl' : Tail} (h : Grows G G' tl tl') (ha : AppG H G k acc tl) {i : Nat} {cs : List AV} (hi : G i = some (.cells cs)) : G' i = some (.cells cs) := by
  refine h.1 i _ hi (fun k ty e => ?_)
  rcases ha.2 with h2 | ⟨id, ty2, h2, h3, h4⟩
  · rw [e] at h2; cases h2
  · rw [e] at h2; cases h2; rw [hi] at h4; cases h4
theorem Grows.other {H G G' : Heap} {k2 : Nat} {acc2 : List (List AV)} {tl tl' u : Tail} (h : Grows G G' tl tl') (hs : H.Sub G') (ha : AppG H G k2 acc2 u) (hne : tokNe u tl) : AppG H G' k2 acc2 u ∧ tokNe u tl' := by
  rcases ha.2 with rfl | ⟨id, ty2, rfl, h3, h4⟩
  · exact ⟨⟨hs, .inl rfl⟩, tokNe_exact _⟩
  · refine ⟨⟨hs, .inr ⟨id, ty2, rfl, h3, h.1 id _ h4 (fun k ty e => hne id _ _ _ _ rfl e)⟩⟩, fun i k ty k' ty' e1 e2 => ?_⟩
    cases e1
    have := h.2 _ _ _ e2
    rw [h4] at this; cases this
theorem _root_.Go.Abs.AppG.set {H G : Heap} {k : Nat} {acc : List (List AV)} {tl : Tail} (h : AppG H G k acc tl) {id : Nat} (hid : H id = none) {cs : List AV} (ho : G id = some (.cells cs)) (o' : AObj) : AppG H (G.put id o') k acc tl := by
  refine ⟨h.1.put' hid o', ?_⟩
  rcases h.2 with h2 | ⟨i, ty, h2, h3, h4⟩
  · exact .inl h2
  · have : ¬ i = id := fun e => by subst e; rw [h4] at ho; cases ho
    exact .inr ⟨i, ty, h2, h3, by rw [put_ne _ _ _ _ this]; exact h4⟩
end Go.Proofs

/- Walks: Parse. -/
namespace Go.Proofs
open Go Go.Abs
open Nat (reduceEqDiff reduceAdd reduceLeDiff reduceLT reduceMul)
open Int (reduceEq reduceLE reduceSub reduceToNat)
set_option linter.unusedSimpArgs false
set_option linter.unusedVariables false
set_option maxRecDepth 20000
/-- The four lists of a machine that is read. -/
structure Mac4 (H G : Heap) (m : MacV) (ta tb tc td : Tail) : Prop where
  a : AppG H G 2 (m.facts.map encSet) ta
  b : AppG H G 3 (m.files.map encFile) tb
  c : AppG H G 2 (m.sets.map encSet) tc
  d : AppG H G 4 (m.svcs.map encSvc) td
  ab : tokNe ta tb
  ac : tokNe ta tc
  ad : tokNe ta td
  bc : tokNe tb tc
  bd : tokNe tb td
  cd : tokNe tc td
theorem Mac4.new {H G : Heap} (h : H.Sub G) : Mac4 H G .zero .exact .exact .exact .exact :=
  ⟨.new h _, .new h _, .new h _, .new h _, tokNe_exact _, tokNe_exact _, tokNe_exact _, tokNe_exact _, tokNe_exact _, tokNe_exact _⟩
theorem Mac4.put {H G : Heap} {m : MacV} {ta tb tc td : Tail} (h : Mac4 H G m ta tb tc td) {id : Nat} (hid : G id = none) (o : AObj) : Mac4 H (G.put id o) m ta tb tc td :=
  ⟨h.a.put hid o, h.b.put hid o, h.c.put hid o, h.d.put hid o, h.ab, h.ac, h.ad, h.bc, h.bd, h.cd⟩
theorem Mac4.set {H G : Heap} {m : MacV} {ta tb tc td : Tail} (h : Mac4 H G m ta tb tc td) {id : Nat} (hid : H id = none) {cs : List AV} (ho : G id = some (.cells cs)) (o : AObj) : Mac4 H (G.put id o) m ta tb tc td :=
  ⟨h.a.set hid ho o, h.b.set hid ho o, h.c.set hid ho o, h.d.set hid ho o, h.ab, h.ac, h.ad, h.bc, h.bd, h.cd⟩
/-- So many things, none of them long. -/
def macN (n : Nat) (m : MacV) : Prop := (m.facts.length ≤ n ∧ m.files.length ≤ n ∧ m.sets.length ≤ n ∧ m.svcs.length ≤ n) ∧ (∀ x ∈ m.facts, setR x) ∧ (∀ x ∈ m.files, fileR x) ∧ (∀ x ∈ m.sets, setR x) ∧ (∀ x ∈ m.svcs, svcR x)
theorem macN_zero (n : Nat) : macN n .zero := by simp [macN, MacV.zero]
theorem macN_add {n k : Nat} {m : MacV} {x : LineV} (h : macN n m) (hx : lineR k x) (hk : k ≤ 1099511627776) (r : Int) : macN (n + 1) (addM m r x) := by
  obtain ⟨⟨a, b, c, d⟩, e, f, g, i⟩ := h
  obtain ⟨h1, ⟨h2, h3⟩, ⟨h4, h5⟩, h6, h7⟩ := hx
  have s1 : setR x.set := ⟨by omega, by omega⟩
  have s2 : fileR x.file := ⟨by omega, by omega⟩
  have s3 : svcR x.svc := ⟨by omega, by omega⟩
  unfold addM
  split
  · refine ⟨⟨by simp; omega, by simp only; omega, by simp only; omega, by simp only; omega⟩, fun y hy => ?_, f, g, i⟩
    rcases List.mem_append.1 hy with h | h
    · exact e y h
    · rw [List.mem_singleton.1 h]; exact s1
  split
  · refine ⟨⟨by simp only; omega, by simp; omega, by simp only; omega, by simp only; omega⟩, e, fun y hy => ?_, g, i⟩
    rcases List.mem_append.1 hy with h | h
    · exact f y h
    · rw [List.mem_singleton.1 h]; exact s2
  split
  · refine ⟨⟨by simp only; omega, by simp only; omega, by simp; omega, by simp only; omega⟩, e, f, fun y hy => ?_, i⟩
    rcases List.mem_append.1 hy with h | h
    · exact g y h
    · rw [List.mem_singleton.1 h]; exact s1
  · refine ⟨⟨by simp only; omega, by simp only; omega, by simp only; omega, by simp; omega⟩, e, f, g, fun y hy => ?_⟩
    rcases List.mem_append.1 hy with h | h
    · exact i y h
    · rw [List.mem_singleton.1 h]; exact s3
theorem rankV_in (w : Bytes) : rankV w = -1 ∨ rankV w = 0 ∨ rankV w = 1 ∨ rankV w = 2 ∨ rankV w = 3 := by
  unfold rankV
  repeat' split
  all_goals simp
/-- What is read so far, and the last rank. -/
def PInv (H : Heap) (iL iM : Nat) (n : Nat) (s : MacV × Int) (G : Heap) : Prop :=
  H.Sub G ∧ G iL = some (.cells [.int .i64 s.2]) ∧ 0 ≤ s.2 ∧ macN n s.1 ∧ ∃ ta tb tc td, G iM = some (.cells (encMac s.1 ta tb tc td)) ∧ Mac4 H G s.1 ta tb tc td
theorem encSet_unif (l : List SetV) : Unif 2 (l.map encSet) := by
  intro c hc
  simp only [List.mem_map] at hc
  obtain ⟨b, _, rfl⟩ := hc
  rfl
theorem encFile_unif (l : List FileV) : Unif 3 (l.map encFile) := by
  intro c hc
  simp only [List.mem_map] at hc
  obtain ⟨b, _, rfl⟩ := hc
  rfl
theorem encSvc_unif (l : List SvcV) : Unif 4 (l.map encSvc) := by
  intro c hc
  simp only [List.mem_map] at hc
  obtain ⟨b, _, rfl⟩ := hc
  rfl
def sRank : List AV → Option AV := fn1 .str fun s => some (.int .i64 (rankV s))
theorem sRank_eq (s : Bytes) : sRank [.str s] = some (.int .i64 (rankV s)) := rfl
theorem sRank_ok {P : Program} {f : FuncId} (h : ∀ s H, ACalls P f [.str s] H fun x H' => x = .int .i64 (rankV s) ∧ H' = H) : ∀ xs v, sRank xs = some v → ∀ H, ACalls P f xs H fun x H' => x = v ∧ H' = H := by
  intro xs v hv H
  obtain ⟨x, s, rfl, h1, h2⟩ := fn1_some hv
  cases h2; cases Rd.str_some h1; exact h s H
noncomputable def puM4 : Pures := putP 64 sRank pu0
theorem puM4_dyn : isDyn puM4 = false := by simp only [puM4, go_sem, Nat.reduceEqDiff]
attribute [go_sem] puM4_dyn
theorem puM4_ok : PuOK Tryz.prog puM4 := .put (pu0_ok) (sRank_ok rank_calls)
set_option maxHeartbeats 6400000 in
theorem parse1_calls (H : Heap) (iL iM : Nat) (hL : H iL = none) (hM : H iM = none) (hne : ¬ iL = iM) (n k : Nat) (s : MacV × Int) (x : LineV) (G : Heap) (hI : PInv H iL iM n s G) (hx : lineR k x) (hk : k ≤ 1099511627776) (hn : n ≤ 8388608) :
    ACalls Tryz.prog 63 [.agg (encLine x), .ptr iL 0, .ptr iM 0] G (StRes H (PInv H iL iM) n (stepM s x)) := by
  obtain ⟨m, last⟩ := s
  obtain ⟨hS, gL, h0, hmn, ta, tb, tc, td, gM, h4⟩ := hI
  simp only at gL h0 hmn gM h4
  have hs := stepM.eq_1 (m, last) x
  have hri := rankV_in x.word
  have hadd := macN_add hmn hx hk (rankV x.word)
  obtain ⟨⟨b1, b2, b3, b4⟩, _⟩ := hmn
  simp only at hs
  refine ACalls.of_code (X := { pure := puM4 }) puM4_ok Tryz.func63 (by kernel_rfl) rfl (by kernel_rfl) (Nat.le_of_ble_eq_true rfl) ?_
  simp -implicitDefEqProofs only [go_sem, reduceEqDiff, reduceAdd, reduceLeDiff, reduceLT, reduceMul, reduceEq, Int.reduceLT, reduceLE, Int.reduceAdd, reduceSub, reduceToNat, UInt8.reduceToNat, Tryz.f63, encLine]
  with_reducible refine nwC_intro fun i3 hi3 => ?_
  have d1 := obj_ne gL hi3
  have d2 := obj_ne gM hi3
  generalize E3 : Heap.put G i3 _ = G3
  have hO_3 := obj_new E3 hi3 hS
  have n3 := hO_3.1
  have hS := hO_3.2.1
  have g3 := hO_3.2.2.1
  have dL_3 := obj_ne gL hi3
  have gL := hO_3.2.2.2 _ _ gL
  have dM_3 := obj_ne gM hi3
  have gM := hO_3.2.2.2 _ _ gM
  clear hO_3
  have h4 := h4.put hi3 (.cells [.str x.word, .str x.file.path, .str x.file.data, .bool x.file.runs, .str x.set.key, .str x.set.value, .str x.svc.name, .str x.svc.path, .bool x.svc.auto, .bool x.svc.on])
  rw [E3] at h4
  by_cases c0 : rankV x.word < last
  · have y0 : decide (rankV x.word < last) = true := decide_eq_true c0
    rw [if_pos c0] at hs
    rw [hs]
    simp -implicitDefEqProofs only [go_sem, reduceEqDiff, reduceAdd, reduceLeDiff, reduceLT, reduceMul, reduceEq, Int.reduceLT, reduceLE, Int.reduceAdd, reduceSub, reduceToNat, UInt8.reduceToNat, puM4, sRank_eq, g3, gL, y0]
    exact Done.now ⟨rfl, hS⟩
  have y0 : decide (rankV x.word < last) = false := decide_eq_false c0
  rw [if_neg c0] at hs
  rw [hs]
  simp only [encMac] at gM
  simp -implicitDefEqProofs only [go_sem, reduceEqDiff, reduceAdd, reduceLeDiff, reduceLT, reduceMul, reduceEq, Int.reduceLT, reduceLE, Int.reduceAdd, reduceSub, reduceToNat, UInt8.reduceToNat, puM4, sRank_eq, g3, gL, y0]
  have nL := hL
  have nM := hM
  have dL_M := hne
  have h4 := h4.set nL gL (.cells [.int .i64 (rankV x.word)])
  generalize EL : Heap.put G3 iL _ = G4
  have hS := obj_sub EL nL hS
  have gL := obj_at EL
  have gM := obj_keep EL (by first | exact dM_L | exact fun e => dL_M e.symm) gM
  have g3 := obj_keep EL (by first | exact d3_L | exact fun e => dL_3 e.symm) g3
  rw [EL] at h4
  have hr0 : 0 ≤ rankV x.word := by omega
  by_cases c1 : rankV x.word = 0
  · have y1 : decide (rankV x.word = 0) = true := decide_eq_true c1
    have ha : addM m (rankV x.word) x = { m with facts := m.facts ++ [x.set] } := by unfold addM; rw [if_pos c1]
    rw [ha] at hadd ⊢
    simp -implicitDefEqProofs only [go_sem, reduceEqDiff, reduceAdd, reduceLeDiff, reduceLT, reduceMul, reduceEq, Int.reduceLT, reduceLE, Int.reduceAdd, reduceSub, reduceToNat, UInt8.reduceToNat, y1, gM, g3]
    refine AppG.step2 h4.a (encSet_unif _) (by simp) (by simp; omega) (by simp; omega) (fun tl' G5 hA hG => ?_)
    have e : m.facts.map encSet ++ [encSet x.set] = (m.facts ++ [x.set]).map encSet := by simp
    have hA : AppG H G5 2 ((m.facts ++ [x.set]).map encSet) tl' := by rw [← e]; exact hA
    have gL := hG.cells h4.a gL
    have gM := hG.cells h4.a gM
    have ob := hG.other hA.1 h4.b h4.ab.symm
    have oc := hG.other hA.1 h4.c h4.ac.symm
    have od := hG.other hA.1 h4.d h4.ad.symm
    rw [show m.facts.map encSet ++ [[.str x.set.key, .str x.set.value]] = (m.facts ++ [x.set]).map encSet from e]
    simp -implicitDefEqProofs only [go_sem, reduceEqDiff, reduceAdd, reduceLeDiff, reduceLT, reduceMul, reduceEq, Int.reduceLT, reduceLE, Int.reduceAdd, reduceSub, reduceToNat, UInt8.reduceToNat, gM]
    have h5 : Mac4 H G5 { m with facts := m.facts ++ [x.set] } tl' tb tc td := ⟨hA, ob.1, oc.1, od.1, ob.2.symm, oc.2.symm, od.2.symm, h4.bc, h4.bd, h4.cd⟩
    exact Done.now ⟨rfl, hA.1.put' nM _, by rw [put_ne _ _ _ _ dL_M]; exact gL, hr0, hadd, _, _, _, _, put_same _ _ _, h5.set nM gM _⟩
  have y1 : decide (rankV x.word = 0) = false := decide_eq_false c1
  by_cases c2 : rankV x.word = 1
  · have y2 : decide (rankV x.word = 1) = true := decide_eq_true c2
    have ha : addM m (rankV x.word) x = { m with files := m.files ++ [x.file] } := by unfold addM; rw [if_neg c1, if_pos c2]
    rw [ha] at hadd ⊢
    simp -implicitDefEqProofs only [go_sem, reduceEqDiff, reduceAdd, reduceLeDiff, reduceLT, reduceMul, reduceEq, Int.reduceLT, reduceLE, Int.reduceAdd, reduceSub, reduceToNat, UInt8.reduceToNat, y1, y2, gM, g3]
    refine AppG.step2 h4.b (encFile_unif _) (by simp) (by simp; omega) (by simp; omega) (fun tl' G5 hA hG => ?_)
    have e : m.files.map encFile ++ [encFile x.file] = (m.files ++ [x.file]).map encFile := by simp
    have hA : AppG H G5 3 ((m.files ++ [x.file]).map encFile) tl' := by rw [← e]; exact hA
    have gL := hG.cells h4.b gL
    have gM := hG.cells h4.b gM
    have oa := hG.other hA.1 h4.a h4.ab
    have oc := hG.other hA.1 h4.c h4.bc.symm
    have od := hG.other hA.1 h4.d h4.bd.symm
    rw [show m.files.map encFile ++ [[.str x.file.path, .str x.file.data, .bool x.file.runs]] = (m.files ++ [x.file]).map encFile from e]
    simp -implicitDefEqProofs only [go_sem, reduceEqDiff, reduceAdd, reduceLeDiff, reduceLT, reduceMul, reduceEq, Int.reduceLT, reduceLE, Int.reduceAdd, reduceSub, reduceToNat, UInt8.reduceToNat, gM]
    have h5 : Mac4 H G5 { m with files := m.files ++ [x.file] } ta tl' tc td := ⟨oa.1, hA, oc.1, od.1, oa.2, h4.ac, h4.ad, oc.2.symm, od.2.symm, h4.cd⟩
    exact Done.now ⟨rfl, hA.1.put' nM _, by rw [put_ne _ _ _ _ dL_M]; exact gL, hr0, hadd, _, _, _, _, put_same _ _ _, h5.set nM gM _⟩
  have y2 : decide (rankV x.word = 1) = false := decide_eq_false c2
  by_cases c3 : rankV x.word = 2
  · have y3 : decide (rankV x.word = 2) = true := decide_eq_true c3
    have ha : addM m (rankV x.word) x = { m with sets := m.sets ++ [x.set] } := by unfold addM; rw [if_neg c1, if_neg c2, if_pos c3]
    rw [ha] at hadd ⊢
    simp -implicitDefEqProofs only [go_sem, reduceEqDiff, reduceAdd, reduceLeDiff, reduceLT, reduceMul, reduceEq, Int.reduceLT, reduceLE, Int.reduceAdd, reduceSub, reduceToNat, UInt8.reduceToNat, y1, y2, y3, gM, g3]
    refine AppG.step2 h4.c (encSet_unif _) (by simp) (by simp; omega) (by simp; omega) (fun tl' G5 hA hG => ?_)
    have e : m.sets.map encSet ++ [encSet x.set] = (m.sets ++ [x.set]).map encSet := by simp
    have hA : AppG H G5 2 ((m.sets ++ [x.set]).map encSet) tl' := by rw [← e]; exact hA
    have gL := hG.cells h4.c gL
    have gM := hG.cells h4.c gM
    have oa := hG.other hA.1 h4.a h4.ac
    have ob := hG.other hA.1 h4.b h4.bc
    have od := hG.other hA.1 h4.d h4.cd.symm
    rw [show m.sets.map encSet ++ [[.str x.set.key, .str x.set.value]] = (m.sets ++ [x.set]).map encSet from e]
    simp -implicitDefEqProofs only [go_sem, reduceEqDiff, reduceAdd, reduceLeDiff, reduceLT, reduceMul, reduceEq, Int.reduceLT, reduceLE, Int.reduceAdd, reduceSub, reduceToNat, UInt8.reduceToNat, gM]
    have h5 : Mac4 H G5 { m with sets := m.sets ++ [x.set] } ta tb tl' td := ⟨oa.1, ob.1, hA, od.1, h4.ab, oa.2, h4.ad, ob.2, h4.bd, od.2.symm⟩
    exact Done.now ⟨rfl, hA.1.put' nM _, by rw [put_ne _ _ _ _ dL_M]; exact gL, hr0, hadd, _, _, _, _, put_same _ _ _, h5.set nM gM _⟩
  have y3 : decide (rankV x.word = 2) = false := decide_eq_false c3
  have c4 : rankV x.word = 3 := by omega
  have ha : addM m (rankV x.word) x = { m with svcs := m.svcs ++ [x.svc] } := by unfold addM; rw [if_neg c1, if_neg c2, if_neg c3]
  rw [ha] at hadd ⊢
  simp -implicitDefEqProofs only [go_sem, reduceEqDiff, reduceAdd, reduceLeDiff, reduceLT, reduceMul, reduceEq, Int.reduceLT, reduceLE, Int.reduceAdd, reduceSub, reduceToNat, UInt8.reduceToNat, y1, y2, y3, gM, g3]
  refine AppG.step2 h4.d (encSvc_unif _) (by simp) (by simp; omega) (by simp; omega) (fun tl' G5 hA hG => ?_)
  have e : m.svcs.map encSvc ++ [encSvc x.svc] = (m.svcs ++ [x.svc]).map encSvc := by simp
  have hA : AppG H G5 4 ((m.svcs ++ [x.svc]).map encSvc) tl' := by rw [← e]; exact hA
  have gL := hG.cells h4.d gL
  have gM := hG.cells h4.d gM
  have oa := hG.other hA.1 h4.a h4.ad
  have ob := hG.other hA.1 h4.b h4.bd
  have oc := hG.other hA.1 h4.c h4.cd
  rw [show m.svcs.map encSvc ++ [[.str x.svc.name, .str x.svc.path, .bool x.svc.auto, .bool x.svc.on]] = (m.svcs ++ [x.svc]).map encSvc from e]
  simp -implicitDefEqProofs only [go_sem, reduceEqDiff, reduceAdd, reduceLeDiff, reduceLT, reduceMul, reduceEq, Int.reduceLT, reduceLE, Int.reduceAdd, reduceSub, reduceToNat, UInt8.reduceToNat, gM]
  have h5 : Mac4 H G5 { m with svcs := m.svcs ++ [x.svc] } ta tb tc tl' := ⟨oa.1, ob.1, oc.1, hA, h4.ab, h4.ac, oa.2, h4.bc, ob.2, oc.2⟩
  exact Done.now ⟨rfl, hA.1.put' nM _, by rw [put_ne _ _ _ _ dL_M]; exact gL, hr0, hadd, _, _, _, _, put_same _ _ _, h5.set nM gM _⟩
end Go.Proofs

/- Walks: Parse, on the program's side. -/
namespace Go.Proofs
open Go Go.Abs
open Nat (reduceEqDiff reduceAdd reduceLeDiff reduceLT reduceMul)
open Int (reduceEq reduceLE reduceSub reduceToNat)
set_option linter.unusedSimpArgs false
set_option linter.unusedVariables false
set_option maxRecDepth 20000
def parseMA (text : Bytes) : AV := .tup [.agg (encMac (parseMV text).1 .unk .unk .unk .unk), .int .i64 (parseMV text).2.1, .int .i64 (parseMV text).2.2]
theorem lineM_bad (s : MacV × Int) (l : Bytes) (h : (readLineV l).2 = false) : lineM s l = none := by
  unfold lineM
  rw [h]
  rfl
theorem macN_R {n : Nat} {m : MacV} (h : macN n m) (hn : n ≤ 1099511627776) : macR m := ⟨⟨by have := h.1.1; omega, by have := h.1.2.1; omega, by have := h.1.2.2.1; omega, by have := h.1.2.2.2; omega⟩, h.2⟩
theorem PInv_put {H : Heap} {iL iM : Nat} (n : Nat) (s : MacV × Int) (G : Heap) (id : Nat) (o : AObj) (h : PInv H iL iM n s G) (hid : G id = none) : PInv H iL iM n s (G.put id o) := by
  obtain ⟨hS, gL, h0, hm, ta, tb, tc, td, gM, h4⟩ := h
  exact ⟨hS.put' (sub_none hS hid) _, by rw [put_ne _ _ _ _ (obj_ne gL hid)]; exact gL, h0, hm, ta, tb, tc, td, by rw [put_ne _ _ _ _ (obj_ne gM hid)]; exact gM, h4.put hid o⟩
set_option maxHeartbeats 6400000 in
theorem parseM_calls (text : Bytes) (H : Heap) (ht : text.length ≤ 1099511627776) : ACalls Tryz.prog 30 [.str text] H fun x H' => x = parseMA text ∧ H' = H := by
  have hS := Heap.Sub.rfl' H
  have hv := parseMA.eq_1 text
  have hp := parseMV.eq_1 text
  by_cases c0 : 4194304 < text.length
  · have y0 : decide ((4194304 : Int) < text.length) = true := decide_eq_true (by omega)
    rw [if_pos c0] at hp
    rw [hp] at hv
    refine ACalls.of_code (X := { pure := pu0 }) pu0_ok Tryz.func30 (by kernel_rfl) rfl (by kernel_rfl) (Nat.le_of_ble_eq_true rfl) ?_
    simp -implicitDefEqProofs only [go_sem, reduceEqDiff, reduceAdd, reduceLeDiff, reduceLT, reduceMul, reduceEq, Int.reduceLT, reduceLE, Int.reduceAdd, reduceSub, reduceToNat, UInt8.reduceToNat, Tryz.f30]
    with_reducible refine nwC_intro fun i2 hi2 => ?_
    generalize E2 : Heap.put H i2 _ = G2
    have hO_2 := obj_new E2 hi2 hS
    have n2 := hO_2.1
    have hS := hO_2.2.1
    have g2 := hO_2.2.2.1
    clear hO_2
    simp -implicitDefEqProofs only [go_sem, reduceEqDiff, reduceAdd, reduceLeDiff, reduceLT, reduceMul, reduceEq, Int.reduceLT, reduceLE, Int.reduceAdd, reduceSub, reduceToNat, UInt8.reduceToNat, y0, g2]
    exact Done.wk 3 (Done.drop (hS.put' n2 _) ⟨by rw [hv]; rfl, rfl⟩)
  have y0 : decide ((4194304 : Int) < text.length) = false := decide_eq_false (by omega)
  rw [if_neg c0] at hp
  refine ACalls.of_code (X := { pure := pu0 }) pu0_ok Tryz.func30 (by kernel_rfl) rfl (by kernel_rfl) (Nat.le_of_ble_eq_true rfl) ?_
  simp -implicitDefEqProofs only [go_sem, reduceEqDiff, reduceAdd, reduceLeDiff, reduceLT, reduceMul, reduceEq, Int.reduceLT, reduceLE, Int.reduceAdd, reduceSub, reduceToNat, UInt8.reduceToNat, Tryz.f30]
  with_reducible refine nwC_intro fun i2 hi2 => ?_
  generalize E2 : Heap.put H i2 _ = G2
  have hO_2 := obj_new E2 hi2 hS
  have n2 := hO_2.1
  have hS := hO_2.2.1
  have g2 := hO_2.2.2.1
  clear hO_2
  have g20 := g2
  simp -implicitDefEqProofs only [go_sem, reduceEqDiff, reduceAdd, reduceLeDiff, reduceLT, reduceMul, reduceEq, Int.reduceLT, reduceLE, Int.reduceAdd, reduceSub, reduceToNat, UInt8.reduceToNat, y0, g2]
  with_reducible refine nwC_intro fun i5 hi5 => ?_
  generalize E5 : Heap.put G2 i5 _ = G5
  have hO_5 := obj_new E5 hi5 hS
  have n5 := hO_5.1
  have hS := hO_5.2.1
  have g5 := hO_5.2.2.1
  have d2_5 := obj_ne g2 hi5
  have g2 := hO_5.2.2.2 _ _ g2
  clear hO_5
  simp -implicitDefEqProofs only [go_sem, reduceEqDiff, reduceAdd, reduceLeDiff, reduceLT, reduceMul, reduceEq, Int.reduceLT, reduceLE, Int.reduceAdd, reduceSub, reduceToNat, UInt8.reduceToNat]
  with_reducible refine nwC_intro fun i6 hi6 => ?_
  generalize E6 : Heap.put G5 i6 _ = G6
  have hO_6 := obj_new E6 hi6 hS
  have n6 := hO_6.1
  have hS := hO_6.2.1
  have g6 := hO_6.2.2.1
  have d2_6 := obj_ne g2 hi6
  have g2 := hO_6.2.2.2 _ _ g2
  have d5_6 := obj_ne g5 hi6
  have g5 := hO_6.2.2.2 _ _ g5
  clear hO_6
  have k5 : G2.Sub G6 := by
    intro i o hi
    rw [← E6, put_ne _ _ _ _ (obj_ne (show G5 i = some o by rw [← E5, put_ne _ _ _ _ (obj_ne hi hi5)]; exact hi) hi6), ← E5, put_ne _ _ _ _ (obj_ne hi hi5)]
    exact hi
  have m6 : G2 i6 = none := by
    cases hh : G2 i6 with
    | none => rfl
    | some o =>
      have : G5 i6 = some o := by rw [← E5, put_ne _ _ _ _ (obj_ne hh hi5)]; exact hh
      rw [hi6] at this; cases this
  have e65 : ¬ i6 = i5 := fun e => d5_6 e.symm
  simp -implicitDefEqProofs only [go_sem, reduceEqDiff, reduceAdd, reduceLeDiff, reduceLT, reduceMul, reduceEq, Int.reduceLT, reduceLE, Int.reduceAdd, reduceSub, reduceToNat, UInt8.reduceToNat, g5]
  rw [put_self g5]
  simp -implicitDefEqProofs only [go_sem, reduceEqDiff, reduceAdd, reduceLeDiff, reduceLT, reduceMul, reduceEq, Int.reduceLT, reduceLE, Int.reduceAdd, reduceSub, reduceToNat, UInt8.reduceToNat, g6]
  rw [put_self g6]
  have hI : PInv G2 i6 i5 0 (MacV.zero, 0) G6 := ⟨k5, g6, Int.le_refl _, macN_zero 0, _, _, _, _, g5, Mac4.new k5⟩
  refine (eachLine_calls G2 lineM 63 [.ptr i6 0, .ptr i5 0] (PInv G2 i6 i5) text (MacV.zero, 0) G6 (fun n s G id o h1 h2 => PInv_put n s G id o h1 h2) (fun n s G h => h.1) lineM_bad (fun n s l G hn hl hI hok => ?_) (by decide) (by decide) hI (by omega)).mono ?_
  · have := parse1_calls G2 i6 i5 m6 hi5 e65 n text.length s (readLineV l).1 G hI (by
      have := readLineV_len l
      obtain ⟨a, ⟨b, c⟩, ⟨d, e⟩, f, g⟩ := this
      exact ⟨by omega, ⟨by omega, by omega⟩, ⟨by omega, by omega⟩, by omega, by omega⟩) (by omega) (by omega)
    unfold lineM
    rw [if_pos hok]
    exact this
  intro x G7 hx
  cases hr : rdL lineM (MacV.zero, 0) 0 (splitB 10 text) with
  | error n =>
    rw [hr] at hx hp
    obtain ⟨rfl, hS7⟩ := hx
    simp only at hp
    rw [hp] at hv
    have g2 := hS7 _ _ g20
    have y1 : decide ((0 : Int) ≤ (n : Int)) = true := decide_eq_true (by omega)
    have hS7 : H.Sub G7 := fun i o hi => hS7 i o (by
      rw [← E2, put_ne _ _ _ _ (obj_ne hi hi2)]; exact hi)
    simp -implicitDefEqProofs only [go_sem, reduceEqDiff, reduceAdd, reduceLeDiff, reduceLT, reduceMul, reduceEq, Int.reduceLT, reduceLE, Int.reduceAdd, reduceSub, reduceToNat, UInt8.reduceToNat, y1, g2]
    exact Done.wk 3 (Done.drop (hS7.put' n2 _) ⟨by rw [hv]; rfl, rfl⟩)
  | ok s =>
    rw [hr] at hx hp
    obtain ⟨rfl, n, hn, hS7, gL, h0, hmn, ta, tb, tc, td, gM, h4⟩ := hx
    obtain ⟨m, last⟩ := s
    simp only at hp gL h0 hmn gM h4
    have g2 := hS7 _ _ g20
    have y1 : decide ((0 : Int) ≤ -1) = false := rfl
    have hS7 : H.Sub G7 := fun i o hi => hS7 i o (by
      rw [← E2, put_ne _ _ _ _ (obj_ne hi hi2)]; exact hi)
    have hck := check_calls m ta tb tc td G7 (macN_R hmn (by omega))
    unfold encMac at gM hck
    simp -implicitDefEqProofs only [go_sem, reduceEqDiff, reduceAdd, reduceLeDiff, reduceLT, reduceMul, reduceEq, Int.reduceLT, reduceLE, Int.reduceAdd, reduceSub, reduceToNat, UInt8.reduceToNat, y1, gM]
    refine hck.pure_next _ ?_
    by_cases c1 : macErr m = 0
    · have y2 : decide (¬ macErr m = 0) = false := decide_eq_false (by simpa using c1)
      rw [if_neg (by simpa using c1)] at hp
      rw [hp] at hv
      simp -implicitDefEqProofs only [go_sem, reduceEqDiff, reduceAdd, reduceLeDiff, reduceLT, reduceMul, reduceEq, Int.reduceLT, reduceLE, Int.reduceAdd, reduceSub, reduceToNat, UInt8.reduceToNat, y2, gM, g2]
      exact Done.wk 3 (Done.drop (hS7.put' n2 _) ⟨by rw [hv]; rfl, rfl⟩)
    · have y2 : decide (¬ macErr m = 0) = true := decide_eq_true c1
      rw [if_pos c1] at hp
      rw [hp] at hv
      simp -implicitDefEqProofs only [go_sem, reduceEqDiff, reduceAdd, reduceLeDiff, reduceLT, reduceMul, reduceEq, Int.reduceLT, reduceLE, Int.reduceAdd, reduceSub, reduceToNat, UInt8.reduceToNat, y2, gM, g2]
      exact Done.wk 3 (Done.drop (hS7.put' n2 _) ⟨by rw [hv]; rfl, rfl⟩)
end Go.Proofs
