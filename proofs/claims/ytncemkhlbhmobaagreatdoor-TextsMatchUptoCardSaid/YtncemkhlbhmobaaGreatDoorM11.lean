/-
  Walks and plain laws, part 11.
-/
import Derived.Test.YtncemkhlbhmobaaGreatDoorM7
import Derived.Test.YtncemkhlbhmobaaGreatDoorM5
import Derived.Test.YtncemkhlbhmobaaGreatDoorM10
/- The law TextsMatch. -/
namespace Go.Proofs
open Go Go.Abs
open Nat (reduceEqDiff reduceAdd reduceLeDiff reduceLT reduceMul)
open Int (reduceEq reduceLE reduceSub reduceToNat)
set_option linter.unusedSimpArgs false
set_option linter.unusedVariables false
set_option maxRecDepth 20000
theorem linesT_bound {α : Type} {ln : α → Bytes} {k : Nat} : ∀ {l : List α}, (∀ x ∈ l, (ln x).length ≤ k) → (linesT ln l).length ≤ l.length * (k + 1)
  | [], _ => by simp [linesT]
  | x :: l, h => by
    have h1 := h x (List.mem_cons_self ..)
    have h2 := linesT_bound (l := l) fun y hy => h y (List.mem_cons_of_mem _ hy)
    have e : linesT ln (x :: l) = ln x ++ ([10] ++ linesT ln l) := by simp [linesT]
    rw [e]
    simp only [List.length_append, List.length_cons, List.length_nil, Nat.add_mul, Nat.one_mul]
    omega
theorem macText_len {m : MacV} (h : MacOK m) : (macText m).length ≤ 1000000000 := by
  have b1 : (linesT factLn m.facts).length ≤ m.facts.length * 5001 := linesT_bound fun x hx => by
    obtain ⟨p, q⟩ := factErr_ok (h.e1 x hx)
    have a := nameB_len p; have b := valueB_len q; have c := quoteB_len x.value
    simp only [factLn, wFact, List.length_append, List.length_cons, List.length_nil]
    omega
  have b2 : (linesT fileLn m.files).length ≤ m.files.length * 270001 := linesT_bound fun x hx => by
    obtain ⟨p, q⟩ := fileErr_ok (h.e2 x hx)
    have a := pathB_len p; have c := quoteB_len x.data
    have hw : (if x.runs = true then wRun else wFile).length ≤ 4 := by split <;> decide
    simp only [fileLn, List.length_append, List.length_cons, List.length_nil]
    omega
  have b3 : (linesT setLn m.sets).length ≤ m.sets.length * 5001 := linesT_bound fun x hx => by
    obtain ⟨p, q⟩ := setErr_ok (h.e3 x hx)
    have a := pathB_len p; have b := valueB_len q; have c := quoteB_len x.value
    simp only [setLn, wSet, List.length_append, List.length_cons, List.length_nil]
    omega
  have b4 : (linesT svcLn m.svcs).length ≤ m.svcs.length * 5001 := linesT_bound fun x hx => by
    obtain ⟨p, q⟩ := svcErr_ok (h.e4 x hx)
    have a := nameB_len p; have b := pathB_len q; have c := bitV_len x.auto; have d := bitV_len x.on
    simp only [svcLn, svcLine, wService, List.length_append, List.length_cons, List.length_nil]
    omega
  have := h.l1; have := h.l2; have := h.l3; have := h.l4
  have e : (macText m).length = (linesT factLn m.facts).length + (linesT fileLn m.files).length + (linesT setLn m.sets).length + (linesT svcLn m.svcs).length := by simp [macText]; omega
  omega
set_option maxHeartbeats 6400000 in
theorem textsMatch_calls (s text : Bytes) (m0 : MacV) (xa xb xc xd : Tail) (H : Heap) (hs : s.length ≤ 1000000000) (ht : text.length ≤ 1000000000) (hr0 : macR m0) :
    ACalls Tryz.prog 4 [.str s, .str text, .agg (encMac m0 xa xb xc xd)] H fun x H' => x = .bool true ∧ H' = H := by
  have hS := Heap.Sub.rfl' H
  have ql := quoteB_len s
  have k1 := fun G => quote_calls s G (by omega)
  have k2 := fun G => unquote_calls (quoteB s) G (by omega)
  have k3 := fun G => rQuote_calls s G (by omega)
  have k4 := fun G => unquote_calls text G (by omega)
  have k5 := fun G => rUnquote_calls text G (by omega)
  unfold unqT at k2
  rw [unq_quote] at k2
  simp only at k2
  refine ACalls.of_code (X := { pure := pu0 }) pu0_ok Tryz.func4 (by kernel_rfl) rfl (by kernel_rfl) (Nat.le_of_ble_eq_true rfl) ?_
  simp -implicitDefEqProofs only [go_sem, reduceEqDiff, reduceAdd, reduceLeDiff, reduceLT, reduceMul, reduceEq, Int.reduceLT, reduceLE, Int.reduceAdd, reduceSub, reduceToNat, UInt8.reduceToNat, Tryz.f4, encMac]
  with_reducible refine nwC_intro fun i5 hi5 => ?_
  generalize E5 : Heap.put H i5 _ = G1
  have hO_5 := obj_new E5 hi5 hS
  have n5 := hO_5.1
  have hS := hO_5.2.1
  have g5 := hO_5.2.2.1
  clear hO_5
  have hft := fit_calls m0 xa xb xc xd G1 hr0
  unfold encMac at hft
  simp -implicitDefEqProofs only [go_sem, reduceEqDiff, reduceAdd, reduceLeDiff, reduceLT, reduceMul, reduceEq, Int.reduceLT, reduceLE, Int.reduceAdd, reduceSub, reduceToNat, UInt8.reduceToNat]
  refine (landed_calls G1).pure_next _ ?_
  simp -implicitDefEqProofs only [go_sem, reduceEqDiff, reduceAdd, reduceLeDiff, reduceLT, reduceMul, reduceEq, Int.reduceLT, reduceLE, Int.reduceAdd, reduceSub, reduceToNat, UInt8.reduceToNat]
  refine (k1 G1).pure_next _ ?_
  simp -implicitDefEqProofs only [go_sem, reduceEqDiff, reduceAdd, reduceLeDiff, reduceLT, reduceMul, reduceEq, Int.reduceLT, reduceLE, Int.reduceAdd, reduceSub, reduceToNat, UInt8.reduceToNat]
  refine (k2 G1).pure_next _ ?_
  simp -implicitDefEqProofs only [go_sem, reduceEqDiff, reduceAdd, reduceLeDiff, reduceLT, reduceMul, reduceEq, Int.reduceLT, reduceLE, Int.reduceAdd, reduceSub, reduceToNat, UInt8.reduceToNat]
  refine (k3 G1).pure_next _ ?_
  have y1 : decide (¬ quoteB s = quoteB s) = false := decide_eq_false (by simp)
  have y2 : decide (¬ s = s) = false := decide_eq_false (by simp)
  have y3 : decide (¬ (0 : Int) = 0) = false := rfl
  simp -implicitDefEqProofs only [go_sem, reduceEqDiff, reduceAdd, reduceLeDiff, reduceLT, reduceMul, reduceEq, Int.reduceLT, reduceLE, Int.reduceAdd, reduceSub, reduceToNat, UInt8.reduceToNat, y1, y2, y3]
  refine (k4 G1).pure_next _ ?_
  have fin : ∀ (a : Bytes) (e : Int), unqT text = .tup [.str a, .int .i64 e] → True := fun _ _ _ => trivial
  clear fin
  obtain ⟨a, e, hun⟩ : ∃ a e, unqT text = .tup [.str a, .int .i64 e] := by
    unfold unqT
    split
    · exact ⟨_, _, rfl⟩
    · exact ⟨_, _, rfl⟩
  rw [hun] at k5 ⊢
  have y4 : decide (¬ a = a) = false := decide_eq_false (by simp)
  have y5 : decide (¬ e = e) = false := decide_eq_false (by simp)
  simp -implicitDefEqProofs only [go_sem, reduceEqDiff, reduceAdd, reduceLeDiff, reduceLT, reduceMul, reduceEq, Int.reduceLT, reduceLE, Int.reduceAdd, reduceSub, reduceToNat, UInt8.reduceToNat]
  refine (k5 G1).pure_next _ ?_
  simp -implicitDefEqProofs only [go_sem, reduceEqDiff, reduceAdd, reduceLeDiff, reduceLT, reduceMul, reduceEq, Int.reduceLT, reduceLE, Int.reduceAdd, reduceSub, reduceToNat, UInt8.reduceToNat, y4, y5, g5]
  refine hft.mono ?_
  rintro x G9 ⟨m, ta, tb, tc, td, rfl, hM, rfl⟩
  clear hft
  have hml := macText_len hM
  have k6 := fun G => rPrint_calls m ta tb tc td G hM.R (by omega)
  have k7 := fun G => print_calls m ta tb tc td G hM.R (by omega)
  unfold encMac at k6 k7
  have hpv := printA.eq_1 m
  rw [if_neg (by simp [(macErr_ok m).2 hM])] at hpv
  rw [hpv] at k7
  clear hpv
  simp -implicitDefEqProofs only [go_sem, reduceEqDiff, reduceAdd, reduceLeDiff, reduceLT, reduceMul, reduceEq, Int.reduceLT, reduceLE, Int.reduceAdd, reduceSub, reduceToNat, UInt8.reduceToNat, g5]
  generalize E9 : Heap.put G9 i5 _ = G2
  have hS2 := obj_sub E9 n5 hS
  have g5 : G2 i5 = some (.cells (encMac m ta tb tc td)) := obj_at E9
  clear E9 E5 hS
  unfold encMac at g5
  try simp -implicitDefEqProofs only [go_sem, reduceEqDiff, reduceAdd, reduceLeDiff, reduceLT, reduceMul, reduceEq, Int.reduceLT, reduceLE, Int.reduceAdd, reduceSub, reduceToNat, UInt8.reduceToNat, g5]
  refine (k6 G2).pure_next _ ?_
  simp -implicitDefEqProofs only [go_sem, reduceEqDiff, reduceAdd, reduceLeDiff, reduceLT, reduceMul, reduceEq, Int.reduceLT, reduceLE, Int.reduceAdd, reduceSub, reduceToNat, UInt8.reduceToNat, g5]
  refine (k7 G2).pure_next _ ?_
  by_cases c1 : 4194304 < (macText m).length
  · have y6 : decide ((4194304 : Int) < (macText m).length) = true := decide_eq_true (by omega)
    have y7 : decide ((4 : Int) = 4) = true := rfl
    have y8 : decide (([] : Bytes) = []) = true := rfl
    rw [if_pos c1]
    simp -implicitDefEqProofs only [go_sem, reduceEqDiff, reduceAdd, reduceLeDiff, reduceLT, reduceMul, reduceEq, Int.reduceLT, reduceLE, Int.reduceAdd, reduceSub, reduceToNat, UInt8.reduceToNat, y6, y7, y8]
    exact Done.drop hS2 ⟨rfl, rfl⟩
  · have y6 : decide ((4194304 : Int) < (macText m).length) = false := decide_eq_false (by omega)
    have y7 : decide ((0 : Int) = 0) = true := rfl
    have y8 : decide (macText m = macText m) = true := decide_eq_true rfl
    have hpm := parse_printM hM (by omega)
    have k8 := fun G => parseM_calls (macText m) G (by omega)
    unfold parseMA at k8
    rw [hpm] at k8
    have k9 := fun G => rSame_calls m m .unk .unk .unk .unk ta tb tc td G hM.R
    rw [show decide (m = m) = true from decide_eq_true rfl] at k9
    unfold encMac at k8 k9
    simp only at k8
    rw [if_neg c1]
    simp -implicitDefEqProofs only [go_sem, reduceEqDiff, reduceAdd, reduceLeDiff, reduceLT, reduceMul, reduceEq, Int.reduceLT, reduceLE, Int.reduceAdd, reduceSub, reduceToNat, UInt8.reduceToNat, y6]
    refine (k8 G2).pure_next _ ?_
    simp -implicitDefEqProofs only [go_sem, reduceEqDiff, reduceAdd, reduceLeDiff, reduceLT, reduceMul, reduceEq, Int.reduceLT, reduceLE, Int.reduceAdd, reduceSub, reduceToNat, UInt8.reduceToNat]
    with_reducible refine nwC_intro fun i14 hi14 => ?_
    have hS := hS2
    generalize E14 : Heap.put G2 i14 _ = G3
    have hO_14 := obj_new E14 hi14 hS
    have n14 := hO_14.1
    have hS := hO_14.2.1
    have g14 := hO_14.2.2.1
    have d5_14 := obj_ne g5 hi14
    have g5 := hO_14.2.2.2 _ _ g5
    clear hO_14
    simp -implicitDefEqProofs only [go_sem, reduceEqDiff, reduceAdd, reduceLeDiff, reduceLT, reduceMul, reduceEq, Int.reduceLT, reduceLE, Int.reduceAdd, reduceSub, reduceToNat, UInt8.reduceToNat, g14]
    generalize E14 : Heap.put G3 i14 _ = G4
    have hS := obj_sub E14 n14 hS
    have g14 := obj_at E14
    have g5 := obj_keep E14 (by first | exact d5_14 | exact fun e => d14_5 e.symm) g5
    try simp -implicitDefEqProofs only [go_sem, reduceEqDiff, reduceAdd, reduceLeDiff, reduceLT, reduceMul, reduceEq, Int.reduceLT, reduceLE, Int.reduceAdd, reduceSub, reduceToNat, UInt8.reduceToNat, y7, y8, g14, g5, Int.natCast_zero]
    refine (k9 G4).pure_next _ ?_
    simp -implicitDefEqProofs only [go_sem, reduceEqDiff, reduceAdd, reduceLeDiff, reduceLT, reduceMul, reduceEq, Int.reduceLT, reduceLE, Int.reduceAdd, reduceSub, reduceToNat, UInt8.reduceToNat]
    exact Done.drop hS ⟨rfl, rfl⟩
end Go.Proofs
