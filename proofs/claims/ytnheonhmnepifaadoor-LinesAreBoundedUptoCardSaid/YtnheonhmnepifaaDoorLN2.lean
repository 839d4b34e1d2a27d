/- Walks: the lines of a text, on both sides; what is wrong with two texts. -/
import Derived.Test.YtnheonhmnepifaaDoorLN1
import Derived.Test.YtnheonhmnepifaaDoorLN0
namespace Go.Proofs
open Go Go.Abs
set_option linter.unusedSimpArgs false
set_option linter.unusedVariables false
set_option maxRecDepth 20000
def sGenA : List AV → Option AV
  | [.str s, .str [c], .int .i64 n, .int .i64 k] => if n = 1 ∧ k = -1 ∧ s.length ≤ Room then some (.sl ((splitA c s).map encS) .unk) else none
  | _ => none
theorem sGenA_eq (s : Bytes) (c : UInt8) : sGenA [.str s, .str [c], .int .i64 1, .int .i64 (-1)] = if s.length ≤ Room then some (.sl ((splitA c s).map encS) .unk) else none := by simp [sGenA]
def puL5 : Pures := putP 107 sGenA puL4
theorem puL5_ok : PuOK Tryd.prog puL5 := by
  refine PuOK.put puL4_ok ?_
  intro xs v h H
  unfold sGenA at h
  split at h
  · split at h
    · rename_i hc
      obtain ⟨rfl, rfl, hr⟩ := hc
      cases h
      exact split_calls _ _ H hr
    · cases h
  · cases h
theorem splitAfter_calls (s : Bytes) (c : UInt8) (H : Heap) (hs : s.length ≤ Room) :
    ACalls Tryd.prog 55 [.str s, .str [c]] H fun x H' => x = .sl ((splitA c s).map encS) .unk ∧ H' = H := by
  refine ACalls.of_code (X := { pure := puL5 }) puL5_ok Tryd.func55 (by kernel_rfl) rfl (by kernel_rfl) (Nat.le_of_ble_eq_true rfl) ?_
  simp -implicitDefEqProofs only [go_sem, tys, regs0, Nat.reduceEqDiff, Nat.reduceAdd, Nat.reduceLeDiff, Nat.reduceLT, Nat.reduceMul, Int.natCast_one, Int.natCast_zero, Int.reduceEq, Int.reduceLT, Int.reduceLE, Int.reduceAdd, Int.reduceSub, Int.reduceToNat, UInt8.reduceToNat, Tryd.f55, puL5, sGenA_eq, hs]
  exact Done.now ⟨rfl, rfl⟩
def sSplitA : List AV → Option AV := fn2 .str .str fun s p => (one1 p).bind fun c => if s.length ≤ Room then some (.sl ((splitA c s).map encS) .unk) else none
theorem sSplitA_eq (s : Bytes) (c : UInt8) : sSplitA [.str s, .str [c]] = if s.length ≤ Room then some (.sl ((splitA c s).map encS) .unk) else none := rfl
def puL : Pures := putP 55 sSplitA puL5
theorem puL_ok : PuOK Tryd.prog puL := by
  refine PuOK.put puL5_ok ?_
  intro xs v h H
  obtain ⟨x, y, p, q, rfl, h1, h2, h3⟩ := fn2_some h
  obtain ⟨c, rfl, h3⟩ := one_of h3
  split at h3
  · rename_i hr
    cases h3
    cases Rd.str_some h1
    cases Rd.str_some h2
    exact splitAfter_calls _ _ H hr
  · cases h3
theorem last_get {l : List Bytes} {n : Nat} (h : l.length = n + 1) : ∃ c, l[n]? = some c ∧ l.getLast? = some c := by
  obtain ⟨c, hc⟩ : ∃ c, l[n]? = some c := ⟨l[n]'(by omega), List.getElem?_eq_getElem _⟩
  refine ⟨c, hc, ?_⟩
  rw [List.getLast?_eq_getElem?, h]
  exact hc
theorem drop_last {l : List Bytes} {n : Nat} (h : l.length = n + 1) : l.take n = l.dropLast := by
  rw [List.dropLast_eq_take, h]; rfl
theorem linesOfD_calls (s : Bytes) (H : Heap) (hs : s.length ≤ 1099511627776) : ACalls Tryd.prog 56 [.str s] H fun x H' => x = .sl ((linesV s).map encS) .unk ∧ H' = H := by
  have hR : Room = 1099511627776 := rfl
  have hlen := splitA_len (c := 10) s
  have hcl : s.count 10 ≤ s.length := List.count_le_length
  have hdl := drop_last hlen
  obtain ⟨c, hc, hgl⟩ := last_get hlen
  have hv : linesV s = if c = [] then (splitA 10 s).dropLast else splitA 10 s := by
    unfold linesV
    rw [hgl]
    by_cases e : c = [] <;> simp [e]
  have w : IntKind.i64.wrap (((splitA 10 s).length : Int) - 1) = ((s.count 10 : Nat) : Int) := by rw [Go.IntWalk.i64_in _ (by omega)]; omega
  have w2 : ((s.count 10 : Nat) : Int) ≤ (splitA 10 s).length := by omega
  by_cases e : c = []
  · have y : decide (c = []) = true := decide_eq_true e
    rw [if_pos e] at hv
    refine ACalls.of_code (X := { pure := puL }) puL_ok Tryd.func56 (by kernel_rfl) rfl (by kernel_rfl) (Nat.le_of_ble_eq_true rfl) ?_
    simp -implicitDefEqProofs only [go_sem, tys, regs0, Nat.reduceEqDiff, Nat.reduceAdd, Nat.reduceLeDiff, Nat.reduceLT, Nat.reduceMul, Int.natCast_one, Int.natCast_zero, Int.reduceEq, Int.reduceLT, Int.reduceLE, Int.reduceAdd, Int.reduceSub, Int.reduceToNat, UInt8.reduceToNat, Tryd.f56, puL, sSplitA_eq, hR, hs, w, hc, encS, y, Int.toNat_natCast, w2, ← List.map_take, hdl]
    exact Done.now ⟨by rw [hv]; rfl, rfl⟩
  · have y : decide (c = []) = false := decide_eq_false e
    rw [if_neg e] at hv
    refine ACalls.of_code (X := { pure := puL }) puL_ok Tryd.func56 (by kernel_rfl) rfl (by kernel_rfl) (Nat.le_of_ble_eq_true rfl) ?_
    simp -implicitDefEqProofs only [go_sem, tys, regs0, Nat.reduceEqDiff, Nat.reduceAdd, Nat.reduceLeDiff, Nat.reduceLT, Nat.reduceMul, Int.natCast_one, Int.natCast_zero, Int.reduceEq, Int.reduceLT, Int.reduceLE, Int.reduceAdd, Int.reduceSub, Int.reduceToNat, UInt8.reduceToNat, Tryd.f56, puL, sSplitA_eq, hR, hs, w, hc, encS, y, Int.toNat_natCast]
    exact Done.now ⟨by rw [hv], rfl⟩

theorem linesOfR_calls (s : Bytes) (H : Heap) (hs : s.length ≤ 1099511627776) : ACalls Tryd.prog 52 [.str s] H fun x H' => x = .sl ((linesV s).map encS) .unk ∧ H' = H := by
  have hR : Room = 1099511627776 := rfl
  have hlen := splitA_len (c := 10) s
  have hcl : s.count 10 ≤ s.length := List.count_le_length
  have hdl := drop_last hlen
  obtain ⟨c, hc, hgl⟩ := last_get hlen
  have hv : linesV s = if c = [] then (splitA 10 s).dropLast else splitA 10 s := by
    unfold linesV
    rw [hgl]
    by_cases e : c = [] <;> simp [e]
  have w : IntKind.i64.wrap (((splitA 10 s).length : Int) - 1) = ((s.count 10 : Nat) : Int) := by rw [Go.IntWalk.i64_in _ (by omega)]; omega
  have w2 : ((s.count 10 : Nat) : Int) ≤ (splitA 10 s).length := by omega
  by_cases e : c = []
  · have y : decide (c = []) = true := decide_eq_true e
    rw [if_pos e] at hv
    refine ACalls.of_code (X := { pure := puL }) puL_ok Tryd.func52 (by kernel_rfl) rfl (by kernel_rfl) (Nat.le_of_ble_eq_true rfl) ?_
    simp -implicitDefEqProofs only [go_sem, tys, regs0, Nat.reduceEqDiff, Nat.reduceAdd, Nat.reduceLeDiff, Nat.reduceLT, Nat.reduceMul, Int.natCast_one, Int.natCast_zero, Int.reduceEq, Int.reduceLT, Int.reduceLE, Int.reduceAdd, Int.reduceSub, Int.reduceToNat, UInt8.reduceToNat, Tryd.f52, puL, sSplitA_eq, hR, hs, w, hc, encS, y, Int.toNat_natCast, w2, ← List.map_take, hdl]
    exact Done.now ⟨by rw [hv]; rfl, rfl⟩
  · have y : decide (c = []) = false := decide_eq_false e
    rw [if_neg e] at hv
    refine ACalls.of_code (X := { pure := puL }) puL_ok Tryd.func52 (by kernel_rfl) rfl (by kernel_rfl) (Nat.le_of_ble_eq_true rfl) ?_
    simp -implicitDefEqProofs only [go_sem, tys, regs0, Nat.reduceEqDiff, Nat.reduceAdd, Nat.reduceLeDiff, Nat.reduceLT, Nat.reduceMul, Int.natCast_one, Int.natCast_zero, Int.reduceEq, Int.reduceLT, Int.reduceLE, Int.reduceAdd, Int.reduceSub, Int.reduceToNat, UInt8.reduceToNat, Tryd.f52, puL, sSplitA_eq, hR, hs, w, hc, encS, y, Int.toNat_natCast]
    exact Done.now ⟨by rw [hv], rfl⟩

theorem linesL_calls (s : Bytes) (H : Heap) (hs : s.length ≤ 1099511627776) : ACalls Tryd.prog 15 [.str s] H fun x H' => x = .sl ((linesV s).map encS) .unk ∧ H' = H := by
  have hR : Room = 1099511627776 := rfl
  have hlen := splitA_len (c := 10) s
  have hcl : s.count 10 ≤ s.length := List.count_le_length
  have hdl := drop_last hlen
  obtain ⟨c, hc, hgl⟩ := last_get hlen
  have hv : linesV s = if c = [] then (splitA 10 s).dropLast else splitA 10 s := by
    unfold linesV
    rw [hgl]
    by_cases e : c = [] <;> simp [e]
  have w : IntKind.i64.wrap (((splitA 10 s).length : Int) - 1) = ((s.count 10 : Nat) : Int) := by rw [Go.IntWalk.i64_in _ (by omega)]; omega
  have w2 : ((s.count 10 : Nat) : Int) ≤ (splitA 10 s).length := by omega
  by_cases e : c = []
  · have y : decide (c = []) = true := decide_eq_true e
    rw [if_pos e] at hv
    refine ACalls.of_code (X := { pure := puL }) puL_ok Tryd.func15 (by kernel_rfl) rfl (by kernel_rfl) (Nat.le_of_ble_eq_true rfl) ?_
    simp -implicitDefEqProofs only [go_sem, tys, regs0, Nat.reduceEqDiff, Nat.reduceAdd, Nat.reduceLeDiff, Nat.reduceLT, Nat.reduceMul, Int.natCast_one, Int.natCast_zero, Int.reduceEq, Int.reduceLT, Int.reduceLE, Int.reduceAdd, Int.reduceSub, Int.reduceToNat, UInt8.reduceToNat, Tryd.f15, puL, sSplitA_eq, hR, hs, w, hc, encS, y, Int.toNat_natCast, w2, ← List.map_take, hdl]
    exact Done.now ⟨by rw [hv]; rfl, rfl⟩
  · have y : decide (c = []) = false := decide_eq_false e
    rw [if_neg e] at hv
    refine ACalls.of_code (X := { pure := puL }) puL_ok Tryd.func15 (by kernel_rfl) rfl (by kernel_rfl) (Nat.le_of_ble_eq_true rfl) ?_
    simp -implicitDefEqProofs only [go_sem, tys, regs0, Nat.reduceEqDiff, Nat.reduceAdd, Nat.reduceLeDiff, Nat.reduceLT, Nat.reduceMul, Int.natCast_one, Int.natCast_zero, Int.reduceEq, Int.reduceLT, Int.reduceLE, Int.reduceAdd, Int.reduceSub, Int.reduceToNat, UInt8.reduceToNat, Tryd.f15, puL, sSplitA_eq, hR, hs, w, hc, encS, y, Int.toNat_natCast]
    exact Done.now ⟨by rw [hv], rfl⟩

def sLines : List AV → Option AV := fn1 .str fun s => if s.length ≤ 1099511627776 then some (.sl ((linesV s).map encS) .unk) else none
theorem sLines_eq (s : Bytes) (h : s.length ≤ 1099511627776) : sLines [.str s] = some (.sl ((linesV s).map encS) .unk) := by
  unfold sLines
  rw [fn1_eq, Rd.str_eq]
  simp only [Option.bind_some, if_pos h]
theorem sLines_ok {P : Program} {f : FuncId} (h : ∀ s H, s.length ≤ 1099511627776 → ACalls P f [.str s] H fun x H' => x = .sl ((linesV s).map encS) .unk ∧ H' = H) : ∀ xs v, sLines xs = some v → ∀ H, ACalls P f xs H fun x H' => x = v ∧ H' = H := by
  intro xs v hv H
  obtain ⟨x, s, rfl, h1, h2⟩ := fn1_some hv
  cases Rd.str_some h1
  obtain ⟨h3, rfl⟩ := some_if h2
  exact h s H h3
def puL6 : Pures := putP 56 sLines (putP 52 sLines (putP 15 sLines pu0))
theorem puL6_ok : PuOK Tryd.prog puL6 := .put (.put (.put .zero (sLines_ok linesL_calls)) (sLines_ok linesOfR_calls)) (sLines_ok linesOfD_calls)
theorem linesFault_calls (s : Bytes) (H : Heap) (hs : s.length ≤ 1099511627776) : ACalls Tryd.prog 57 [.str s, .sl ((linesV s).map encS) .unk] H fun x H' => x = .int .i64 (if 65536 < s.length ∨ 1000 < (linesV s).length then 4 else 0) ∧ H' = H := by
  refine ACalls.of_code (X := { pure := pu0 }) pu0_ok Tryd.func57 (by kernel_rfl) rfl (by kernel_rfl) (Nat.le_of_ble_eq_true rfl) ?_
  simp -implicitDefEqProofs only [go_sem, tys, regs0, Nat.reduceEqDiff, Nat.reduceAdd, Nat.reduceLeDiff, Nat.reduceLT, Nat.reduceMul, Int.natCast_one, Int.natCast_zero, Int.reduceEq, Int.reduceLT, Int.reduceLE, Int.reduceAdd, Int.reduceSub, Int.reduceToNat, UInt8.reduceToNat, Tryd.f57]
  by_cases c1 : 65536 < s.length
  · have k1 : decide ((65536 : Int) < s.length) = true := decide_eq_true (by omega)
    simp -implicitDefEqProofs only [go_sem, tys, regs0, Nat.reduceEqDiff, Nat.reduceAdd, Nat.reduceLeDiff, Nat.reduceLT, Nat.reduceMul, Int.natCast_one, Int.natCast_zero, Int.reduceEq, Int.reduceLT, Int.reduceLE, Int.reduceAdd, Int.reduceSub, Int.reduceToNat, UInt8.reduceToNat, k1]
    exact Done.now ⟨by rw [if_pos (.inl c1)], rfl⟩
  · have k1 : decide ((65536 : Int) < s.length) = false := decide_eq_false (by omega)
    by_cases c2 : 1000 < (linesV s).length
    · have k2 : decide ((1000 : Int) < (linesV s).length) = true := decide_eq_true (by omega)
      simp -implicitDefEqProofs only [go_sem, tys, regs0, Nat.reduceEqDiff, Nat.reduceAdd, Nat.reduceLeDiff, Nat.reduceLT, Nat.reduceMul, Int.natCast_one, Int.natCast_zero, Int.reduceEq, Int.reduceLT, Int.reduceLE, Int.reduceAdd, Int.reduceSub, Int.reduceToNat, UInt8.reduceToNat, k1, k2]
      exact Done.now ⟨by rw [if_pos (.inr c2)], rfl⟩
    · have k2 : decide ((1000 : Int) < (linesV s).length) = false := decide_eq_false (by omega)
      simp -implicitDefEqProofs only [go_sem, tys, regs0, Nat.reduceEqDiff, Nat.reduceAdd, Nat.reduceLeDiff, Nat.reduceLT, Nat.reduceMul, Int.natCast_one, Int.natCast_zero, Int.reduceEq, Int.reduceLT, Int.reduceLE, Int.reduceAdd, Int.reduceSub, Int.reduceToNat, UInt8.reduceToNat, k1, k2]
      exact Done.now ⟨by rw [if_neg (by omega)], rfl⟩
theorem lineE_at {l : List Bytes} {i : Nat} {s : Bytes} (h : l[i]? = some s) : (l.take (i + 1)).all (fun s => decide (¬ (65536 < s.length ∨ 1000 < (linesV s).length))) = ((l.take i).all (fun s => decide (¬ (65536 < s.length ∨ 1000 < (linesV s).length))) && decide (¬ (65536 < s.length ∨ 1000 < (linesV s).length))) := by
  rw [List.take_add_one, h, List.all_append]
  simp
theorem linesError_calls (a b : Bytes) (H : Heap) (ha : a.length ≤ 1099511627776) (hb : b.length ≤ 1099511627776) : ACalls Tryd.prog 13 [.str a, .str b] H fun x H' => x = .int .i64 (linesE a b) ∧ H' = H := by
  have hE : linesE a b = if ([a, b].all fun s => decide (¬ (65536 < s.length ∨ 1000 < (linesV s).length))) = true then 0 else 4 := by
    unfold linesE
    by_cases c : 65536 < a.length ∨ 1000 < (linesV a).length ∨ 65536 < b.length ∨ 1000 < (linesV b).length
    · rw [if_pos c, if_neg]
      simp only [List.all_cons, List.all_nil, Bool.and_true, Bool.and_eq_true, decide_eq_true_eq]
      omega
    · rw [if_neg c, if_pos]
      simp only [List.all_cons, List.all_nil, Bool.and_true, Bool.and_eq_true, decide_eq_true_eq]
      omega
  refine ACalls.of_code (X := { pure := puL6 }) puL6_ok Tryd.func13 (by kernel_rfl) rfl (by kernel_rfl) (Nat.le_of_ble_eq_true rfl) ?_
  simp -implicitDefEqProofs only [go_sem, tys, regs0, Nat.reduceEqDiff, Nat.reduceAdd, Nat.reduceLeDiff, Nat.reduceLT, Nat.reduceMul, Int.natCast_one, Int.natCast_zero, Int.reduceEq, Int.reduceLT, Int.reduceLE, Int.reduceAdd, Int.reduceSub, Int.reduceToNat, UInt8.reduceToNat, Tryd.f13]
  have hm : [[AV.str a], [AV.str b]] = ([a, b] : List Bytes).map encS := rfl
  have hl : ∀ s ∈ [a, b], s.length ≤ 1099511627776 := by
    intro s hs
    simp only [List.mem_cons, List.not_mem_nil, or_false] at hs
    rcases hs with rfl | rfl
    · exact ha
    · exact hb
  have hL : [a, b].length = 2 := rfl
  rw [hm]
  rw [hE]
  generalize [a, b] = l at *
  refine aloop_intro (σ := Nat) (fun i => [(9, .sl (l.map encS) .exact), (10, .int .i64 2), (11, .int .i64 i)]) (fun i G => G = H ∧ i ≤ 2 ∧ ((l.take i).all fun s => decide (¬ (65536 < s.length ∨ 1000 < (linesV s).length))) = true) (fun i => 2 - i) 0 ?_ ?_ ?_
  · simp -implicitDefEqProofs only [go_sem, tys, regs0, Nat.reduceEqDiff, Nat.reduceAdd, Nat.reduceLeDiff, Nat.reduceLT, Nat.reduceMul, Int.natCast_one, Int.natCast_zero, Int.reduceEq, Int.reduceLT, Int.reduceLE, Int.reduceAdd, Int.reduceSub, Int.reduceToNat, UInt8.reduceToNat]
  · simp
  · intro i r G hv hI
    have h9 := hv.1
    have h10 := hv.2.1
    have h11 := hv.2.2.1
    have hG := hI.1.symm
    have hi := hI.2.1
    have hp := hI.2.2
    clear hv hI
    subst hG
    simp -implicitDefEqProofs only [go_sem, tys, regs0, Nat.reduceEqDiff, Nat.reduceAdd, Nat.reduceLeDiff, Nat.reduceLT, Nat.reduceMul, Int.natCast_one, Int.natCast_zero, Int.reduceEq, Int.reduceLT, Int.reduceLE, Int.reduceAdd, Int.reduceSub, Int.reduceToNat, UInt8.reduceToNat, h9, h10, h11]
    refine cnd_intro (fun g => ?_) (fun g => ?_)
    · simp only [decide_eq_true_eq] at g
      obtain ⟨s, hs⟩ : ∃ s, l[i]? = some s := getD_get' (by omega)
      have hsl := hl s (List.mem_of_getElem? hs)
      have hq := sLines_eq s hsl
      have ht := lineE_at hs
      have w : IntKind.i64.wrap ((i : Int) + 1) = ((i + 1 : Nat) : Int) := by rw [Go.IntWalk.i64_in _ (by omega)]; omega
      have bad : (65536 < s.length ∨ 1000 < (linesV s).length) → ¬ (l.all fun s => decide (¬ (65536 < s.length ∨ 1000 < (linesV s).length))) = true := fun hbad hall => by
        have := List.all_eq_true.1 hall s (List.mem_of_getElem? hs)
        rw [decide_eq_true_eq] at this
        exact this hbad
      by_cases c1 : 65536 < s.length
      · have k1 : decide ((65536 : Int) < s.length) = true := decide_eq_true (by omega)
        simp -implicitDefEqProofs only [go_sem, tys, regs0, Nat.reduceEqDiff, Nat.reduceAdd, Nat.reduceLeDiff, Nat.reduceLT, Nat.reduceMul, Int.natCast_one, Int.natCast_zero, Int.reduceEq, Int.reduceLT, Int.reduceLE, Int.reduceAdd, Int.reduceSub, Int.reduceToNat, UInt8.reduceToNat, h9, h10, h11, hs, encS, k1]
        exact Done.now ⟨by rw [if_neg (bad (.inl c1))], rfl⟩
      · have k1 : decide ((65536 : Int) < s.length) = false := decide_eq_false (by omega)
        by_cases c2 : 1000 < (linesV s).length
        · have k2 : decide ((1000 : Int) < (linesV s).length) = true := decide_eq_true (by omega)
          simp -implicitDefEqProofs only [go_sem, tys, regs0, Nat.reduceEqDiff, Nat.reduceAdd, Nat.reduceLeDiff, Nat.reduceLT, Nat.reduceMul, Int.natCast_one, Int.natCast_zero, Int.reduceEq, Int.reduceLT, Int.reduceLE, Int.reduceAdd, Int.reduceSub, Int.reduceToNat, UInt8.reduceToNat, h9, h10, h11, hs, encS, k1, puL6, hq, k2]
          exact Done.now ⟨by rw [if_neg (bad (.inr c2))], rfl⟩
        · have k2 : decide ((1000 : Int) < (linesV s).length) = false := decide_eq_false (by omega)
          rw [hp, decide_eq_true (show ¬ (65536 < s.length ∨ 1000 < (linesV s).length) by omega)] at ht
          simp -implicitDefEqProofs only [go_sem, tys, regs0, Nat.reduceEqDiff, Nat.reduceAdd, Nat.reduceLeDiff, Nat.reduceLT, Nat.reduceMul, Int.natCast_one, Int.natCast_zero, Int.reduceEq, Int.reduceLT, Int.reduceLE, Int.reduceAdd, Int.reduceSub, Int.reduceToNat, UInt8.reduceToNat, h9, h10, h11, hs, encS, k1, puL6, hq, k2, w]
          exact Again.mk (i + 1) (by simp -implicitDefEqProofs only [go_sem, tys, regs0, Nat.reduceEqDiff, Nat.reduceAdd, Nat.reduceLeDiff, Nat.reduceLT, Nat.reduceMul, Int.natCast_one, Int.natCast_zero, Int.reduceEq, Int.reduceLT, Int.reduceLE, Int.reduceAdd, Int.reduceSub, Int.reduceToNat, UInt8.reduceToNat, h9, h10, h11]) ⟨rfl, by omega, by rw [ht]; rfl⟩ (by omega)
    · simp only [decide_eq_false_iff_not] at g
      have e : i = 2 := by omega
      subst e
      rw [← hL, List.take_length] at hp
      simp -implicitDefEqProofs only [go_sem, tys, regs0, Nat.reduceEqDiff, Nat.reduceAdd, Nat.reduceLeDiff, Nat.reduceLT, Nat.reduceMul, Int.natCast_one, Int.natCast_zero, Int.reduceEq, Int.reduceLT, Int.reduceLE, Int.reduceAdd, Int.reduceSub, Int.reduceToNat, UInt8.reduceToNat, h9, h10, h11]
      exact Done.now ⟨by rw [if_pos hp], rfl⟩
end Go.Proofs
