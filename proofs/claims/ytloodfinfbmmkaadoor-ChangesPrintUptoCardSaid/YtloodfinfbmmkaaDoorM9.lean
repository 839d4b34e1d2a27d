/-
  Walks and plain laws, part 9.
-/
import Derived.Test.YtloodfinfbmmkaaDoorM8
/- Plain laws: a line of a change as the reference reads it; walks: changeOf. -/
namespace Go.Proofs
open Go Go.Abs
set_option linter.unusedSimpArgs false
set_option linter.unusedVariables false
set_option maxRecDepth 20000
def plainV (rest : Bytes) : Bool := decide (¬ rest = []) && !(cutT 32 rest).2.2
/-- A change of a word and what stands behind it. -/
def chgP (w rest k v : Bytes) (is pl : Bool) (sv : SvcV × Bool) : ChgV × Bool :=
  if w = wPut ∨ w = wPutrun then (⟨1, ⟨k, v, decide (w = wPutrun)⟩, .zero, .zero⟩, is)
  else if w = wRemove then (⟨2, ⟨rest, [], false⟩, .zero, .zero⟩, pl)
  else if w = wSet then (⟨3, .zero, ⟨k, v⟩, .zero⟩, is)
  else if w = wUnset then (⟨4, .zero, ⟨rest, []⟩, .zero⟩, pl)
  else if w = wService then (⟨5, .zero, .zero, sv.1⟩, sv.2)
  else if w = wDrop then (⟨6, .zero, .zero, ⟨rest, [], false, false⟩⟩, pl)
  else (⟨0, .zero, .zero, .zero⟩, false)
def changeOfV (l : Bytes) : ChgV × Bool :=
  chgP (cutT 32 l).1 (cutT 32 l).2.1 (quotedV (cutT 32 l).2.1).1 (quotedV (cutT 32 l).2.1).2.1 (quotedV (cutT 32 l).2.1).2.2 (plainV (cutT 32 l).2.1) (svcOf (splitB 32 (cutT 32 l).2.1))
theorem chgP_none {w rest k v : Bytes} {is pl : Bool} {sv : SvcV × Bool} (h1 : is = false) (h2 : pl = false) (h3 : sv.2 = false) : (chgP w rest k v is pl sv).2 = false := by
  unfold chgP
  repeat' split
  all_goals first | assumption | rfl
theorem plain_key {rest : Bytes} (h : (cutT 32 rest).2.2 = false) : (cutT 32 rest).1 = rest := by
  unfold cutT at h ⊢
  split
  · rename_i p hp; rw [hp] at h; cases h
  · rfl
theorem restV_word (w k v : Bytes) (two : Bool) (h : ¬ w = wService) : (restV w k v two).1.word = w := by
  unfold restV
  repeat' split
  all_goals first | rfl | exact absurd ‹_› h
theorem lineC_eq (acc : List ChgV) (l : Bytes) : lineC acc l = if (changeOfV l).2 = true then some (acc ++ [(changeOfV l).1]) else none := by
  unfold lineC changeOfV
  by_cases c0 : (cutT 32 l).2.2 = false
  · have hr : (cutT 32 l).2.1 = [] := by
      unfold cutT at c0 ⊢
      split
      · rename_i p hp; rw [hp] at c0; cases c0
      · rfl
    have e1 : readLineV l = (.zero, false) := by unfold readLineV; rw [if_pos (Or.inl c0)]
    rw [e1, if_neg (by simp), if_neg]
    rw [chgP_none (by rw [hr]; decide) (by rw [hr]; decide) (by rw [hr]; decide)]
    decide
  have e := readLineV.eq_1 l
  generalize cutT 32 l = ct at *
  obtain ⟨w, rest, one⟩ := ct
  simp only at c0 e ⊢
  generalize readLineV l = rl at *
  by_cases c1 : (cutT 32 rest).1 = []
  · rw [if_pos (.inr c1)] at e
    rw [e, if_neg (by simp), if_neg]
    rw [chgP_none (by unfold quotedV; simp [c1]) (by
      unfold plainV
      cases h2 : (cutT 32 rest).2.2 with
      | true => simp
      | false => rw [plain_key h2] at c1; simp [c1]) (by rw [svcOf_nil c1])]
    decide
  rw [if_neg (by simp only [not_or]; exact ⟨c0, c1⟩)] at e
  have hpl : plainV rest = !(cutT 32 rest).2.2 := by
    have : rest ≠ [] := fun h => c1 (by rw [h]; rfl)
    unfold plainV
    simp [this]
  have hkey : (cutT 32 rest).2.2 = false → (cutT 32 rest).1 = rest := plain_key
  have hsv := svcOf_part w c1
  unfold quotedV
  rw [hpl]
  generalize svcOf (splitB 32 rest) = sv at *
  generalize cutT 32 rest = ct at *
  obtain ⟨k, v, two⟩ := ct
  simp only at c1 hkey hsv e ⊢
  subst e
  by_cases h1 : w = wPut ∨ w = wPutrun
  · have hk : kindV w = 1 := by unfold kindV; rw [if_pos h1]
    have hr : decide (w = wRun) = false := by rcases h1 with h | h <;> rw [h] <;> decide
    rw [restV_put h1]
    unfold chgP
    rw [if_pos h1]
    simp [hk, hr, c1]
  by_cases h2 : w = wRemove
  · subst h2
    rw [restV_remove]
    unfold chgP
    rw [if_neg h1, if_pos rfl]
    cases two
    · simp [show kindV wRemove = 2 by decide, hkey rfl]
    · simp
  by_cases h3 : w = wSet
  · subst h3
    rw [restV_set]
    unfold chgP
    rw [if_neg h1, if_neg h2, if_pos rfl]
    simp [show kindV wSet = 3 by decide, c1]
  by_cases h4 : w = wUnset
  · subst h4
    rw [restV_unset]
    unfold chgP
    rw [if_neg h1, if_neg h2, if_neg h3, if_pos rfl]
    cases two
    · simp [show kindV wUnset = 4 by decide, hkey rfl]
    · simp
  by_cases h5 : w = wService
  · subst h5
    rw [restV_service, hsv]
    unfold chgP
    rw [if_neg h1, if_neg h2, if_neg h3, if_neg h4, if_pos rfl]
    cases hs : sv.2
    · simp
    · simp [show kindV wService = 5 by decide]
  by_cases h6 : w = wDrop
  · subst h6
    rw [restV_drop]
    unfold chgP
    rw [if_neg h1, if_neg h2, if_neg h3, if_neg h4, if_neg h5, if_pos rfl]
    cases two
    · simp [show kindV wDrop = 6 by decide, hkey rfl]
    · simp
  have hk : kindV w = 0 := by
    unfold kindV
    rw [if_neg h1, if_neg h2, if_neg h3, if_neg h4, if_neg h5, if_neg h6]
  have hw := restV_word w k v two h5
  unfold chgP
  rw [if_neg h1, if_neg h2, if_neg h3, if_neg h4, if_neg h5, if_neg h6]
  rw [hw, hk]
  simp
end Go.Proofs

/- Walks: changes are read, on the reference's side. -/
namespace Go.Proofs
open Go Go.Abs
set_option linter.unusedSimpArgs false
set_option linter.unusedVariables false
set_option maxRecDepth 20000
noncomputable def puCP7 : Pures := putP 84 sIdxL pu0
theorem puCP7_dyn : isDyn puCP7 = false := by simp only [puCP7, go_sem, Nat.reduceEqDiff]
attribute [go_sem] puCP7_dyn
theorem puCP7_ok : PuOK Tryd.prog puCP7 := .put (pu0_ok) (sIdxL_ok index_calls)
theorem contains_calls (s : Bytes) (H : Heap) (hs : s.length ≤ 1099511627776) : ACalls Tryd.prog 78 [.str s, .str [32]] H fun x H' => x = .bool (cutT 32 s).2.2 ∧ H' = H := by
  by_cases h : Lib.indexByte s 32 = -1
  · have y : decide ((0 : Int) ≤ -1) = false := rfl
    have hv : (cutT 32 s).2.2 = false := by unfold cutT; rw [(cutB_none h).1]
    rw [hv]
    refine ACalls.of_code (X := { pure := puCP7 }) puCP7_ok Tryd.func78 (by kernel_rfl) rfl (by kernel_rfl) (Nat.le_of_ble_eq_true rfl) ?_
    simp -implicitDefEqProofs only [go_sem, tys, regs0, Nat.reduceEqDiff, Nat.reduceAdd, Nat.reduceLeDiff, Nat.reduceLT, Nat.reduceMul, Int.natCast_one, Int.natCast_zero, Int.reduceEq, Int.reduceLT, Int.reduceLE, Int.reduceAdd, Int.reduceSub, Int.reduceToNat, UInt8.reduceToNat, Tryd.f78, puCP7, sIdxL_eq, h, y]
    exact Done.now ⟨rfl, rfl⟩
  · have hge := Lib.indexByte_ge s 32
    obtain ⟨m, hm⟩ : ∃ m : Nat, Lib.indexByte s 32 = m := ⟨(Lib.indexByte s 32).toNat, by omega⟩
    have y : decide ((0 : Int) ≤ (m : Int)) = true := decide_eq_true (by omega)
    have hv : (cutT 32 s).2.2 = true := by unfold cutT; rw [cutB_some hm]
    rw [hv]
    refine ACalls.of_code (X := { pure := puCP7 }) puCP7_ok Tryd.func78 (by kernel_rfl) rfl (by kernel_rfl) (Nat.le_of_ble_eq_true rfl) ?_
    simp -implicitDefEqProofs only [go_sem, tys, regs0, Nat.reduceEqDiff, Nat.reduceAdd, Nat.reduceLeDiff, Nat.reduceLT, Nat.reduceMul, Int.natCast_one, Int.natCast_zero, Int.reduceEq, Int.reduceLT, Int.reduceLE, Int.reduceAdd, Int.reduceSub, Int.reduceToNat, UInt8.reduceToNat, Tryd.f78, puCP7, sIdxL_eq, hm, y]
    exact Done.now ⟨rfl, rfl⟩
noncomputable def sCont := spF (fun s : Bytes => [AV.str s, .str [32]]) (fun s => s.length ≤ 1099511627776) (fun s => .bool (cutT 32 s).2.2)
theorem sCont_eq (s : Bytes) (h : s.length ≤ 1099511627776) : sCont [.str s, .str [32]] = some (.bool (cutT 32 s).2.2) := spF_eq (enc := fun s : Bytes => [AV.str s, .str [32]]) (fun a b e => by cases e; rfl) s h
noncomputable def puCP8 : Pures := putP 78 sCont (putP 24 sSvcO (putP 25 sSplit (putP 23 sQd (putP 21 sCut pu0))))
theorem puCP8_dyn : isDyn puCP8 = false := by simp only [puCP8, go_sem, Nat.reduceEqDiff]
attribute [go_sem] puCP8_dyn
theorem puCP8_ok : PuOK Tryd.prog puCP8 := .put (.put (.put (.put (.put (pu0_ok) (spF_ok fun p H h => cut_calls p.1 p.2 H h)) (spF_ok fun s H h => quoted_calls s H h)) (sSplit_ok splitT_calls)) (spF_ok fun p H h => serviceOf_calls p .unk H h)) (spF_ok fun s H h => contains_calls s H h)
def changeOfA (l : Bytes) : AV := .tup [.agg (encChg (changeOfV l).1), .bool (changeOfV l).2]
set_option maxHeartbeats 3200000 in
theorem changeOfR_calls (l : Bytes) (H : Heap) (hl : l.length ≤ 1099511627775) : ACalls Tryd.prog 43 [.str l] H fun x H' => x = changeOfA l ∧ H' = H := by
  have hS := Heap.Sub.rfl' H
  have q1 := sCut_eq l 32 (by omega)
  have l1 := cutT_len 32 l
  have hv : changeOfA l = .tup [.agg (encChg (changeOfV l).1), .bool (changeOfV l).2] := rfl
  unfold changeOfV at hv
  generalize cutT 32 l = ct at *
  obtain ⟨w, rest, one⟩ := ct
  simp only at q1 l1 hv
  have q2 := sQd_eq rest (by omega)
  have q3 := sCont_eq rest (by omega)
  have q4 : sSplit [.str rest, .str [32]] = some (.sl ((splitB 32 rest).map encS) .unk) := by rw [sSplit_eq, if_pos (show rest.length ≤ 1099511627776 by omega)]
  have q5 := sSvcO_eq (splitB 32 rest) (by rw [splitB_len]; have := @List.count_le_length _ _ 32 rest; omega)
  generalize splitB 32 rest = sp at *
  generalize svcOf sp = sv at *
  have hpl := plainV.eq_1 rest
  generalize plainV rest = pl at *
  generalize (cutT 32 rest).2.2 = two at *
  generalize quotedV rest = qd at *
  obtain ⟨k, v, is⟩ := qd
  obtain ⟨⟨sn, spp, su, so⟩, sok⟩ := sv
  simp only [encSvc] at q2 q5 hv
  unfold chgP at hv
  refine ACalls.of_code (X := { pure := puCP8 }) puCP8_ok Tryd.func43 (by kernel_rfl) rfl (by kernel_rfl) (Nat.le_of_ble_eq_true rfl) ?_
  simp -implicitDefEqProofs only [go_sem, tys, regs0, Nat.reduceEqDiff, Nat.reduceAdd, Nat.reduceLeDiff, Nat.reduceLT, Nat.reduceMul, Int.natCast_one, Int.natCast_zero, Int.reduceEq, Int.reduceLT, Int.reduceLE, Int.reduceAdd, Int.reduceSub, Int.reduceToNat, UInt8.reduceToNat, Tryd.f43]
  with_reducible refine nwC_intro fun i2 hi2 => ?_
  generalize E2 : Heap.put H i2 _ = G2
  have hO_2 := obj_new E2 hi2 hS
  have n2 := hO_2.1
  have hS := hO_2.2.1
  have g2 := hO_2.2.2.1
  clear hO_2
  simp +contextual -implicitDefEqProofs only [go_sem, gd_M, tys, regs0, Nat.reduceEqDiff, Nat.reduceAdd, Nat.reduceLeDiff, Nat.reduceLT, Nat.reduceMul, Int.natCast_one, Int.natCast_zero, Int.reduceEq, Int.reduceLT, Int.reduceLE, Int.reduceAdd, Int.reduceSub, Int.reduceToNat, UInt8.reduceToNat, puCP8, pu0, q1, q2, q3]
  by_cases c1 : w = wPut
  · have y1 : decide (w = wPut) = true := decide_eq_true c1
    rw [if_pos (.inl c1)] at hv
    have z : decide (w = wPutrun) = false := by rw [c1]; decide
    rw [z] at hv
    simp -implicitDefEqProofs only [go_sem, tys, regs0, Nat.reduceEqDiff, Nat.reduceAdd, Nat.reduceLeDiff, Nat.reduceLT, Nat.reduceMul, Int.natCast_one, Int.natCast_zero, Int.reduceEq, Int.reduceLT, Int.reduceLE, Int.reduceAdd, Int.reduceSub, Int.reduceToNat, UInt8.reduceToNat, puCP8, pu0, q4, q5, g2, y1, z]
    rw [hv]
    exact Done.drop (hS.put' n2 _) ⟨by simp [encChg, FileV.zero, SetV.zero, SvcV.zero, hpl], rfl⟩
  have y1 : decide (w = wPut) = false := decide_eq_false c1
  by_cases c2 : w = wPutrun
  · have y2 : decide (w = wPutrun) = true := decide_eq_true c2
    rw [if_pos (.inr c2)] at hv
    rw [y2] at hv
    simp -implicitDefEqProofs only [go_sem, tys, regs0, Nat.reduceEqDiff, Nat.reduceAdd, Nat.reduceLeDiff, Nat.reduceLT, Nat.reduceMul, Int.natCast_one, Int.natCast_zero, Int.reduceEq, Int.reduceLT, Int.reduceLE, Int.reduceAdd, Int.reduceSub, Int.reduceToNat, UInt8.reduceToNat, puCP8, pu0, q4, q5, g2, y1, y2]
    rw [hv]
    exact Done.drop (hS.put' n2 _) ⟨by simp [encChg, FileV.zero, SetV.zero, SvcV.zero, hpl], rfl⟩
  have y2 : decide (w = wPutrun) = false := decide_eq_false c2
  rw [if_neg (by simp only [not_or]; exact ⟨c1, c2⟩)] at hv
  by_cases c3 : w = wRemove
  · have y3 : decide (w = wRemove) = true := decide_eq_true c3
    rw [if_pos c3] at hv
    simp -implicitDefEqProofs only [go_sem, tys, regs0, Nat.reduceEqDiff, Nat.reduceAdd, Nat.reduceLeDiff, Nat.reduceLT, Nat.reduceMul, Int.natCast_one, Int.natCast_zero, Int.reduceEq, Int.reduceLT, Int.reduceLE, Int.reduceAdd, Int.reduceSub, Int.reduceToNat, UInt8.reduceToNat, puCP8, pu0, q4, q5, g2, y1, y2, y3]
    rw [hv]
    exact Done.drop (hS.put' n2 _) ⟨by simp [encChg, FileV.zero, SetV.zero, SvcV.zero, hpl], rfl⟩
  have y3 : decide (w = wRemove) = false := decide_eq_false c3
  rw [if_neg c3] at hv
  by_cases c4 : w = wSet
  · have y4 : decide (w = wSet) = true := decide_eq_true c4
    rw [if_pos c4] at hv
    simp -implicitDefEqProofs only [go_sem, tys, regs0, Nat.reduceEqDiff, Nat.reduceAdd, Nat.reduceLeDiff, Nat.reduceLT, Nat.reduceMul, Int.natCast_one, Int.natCast_zero, Int.reduceEq, Int.reduceLT, Int.reduceLE, Int.reduceAdd, Int.reduceSub, Int.reduceToNat, UInt8.reduceToNat, puCP8, pu0, q4, q5, g2, y1, y2, y3, y4]
    rw [hv]
    exact Done.drop (hS.put' n2 _) ⟨by simp [encChg, FileV.zero, SetV.zero, SvcV.zero, hpl], rfl⟩
  have y4 : decide (w = wSet) = false := decide_eq_false c4
  rw [if_neg c4] at hv
  by_cases c5 : w = wUnset
  · have y5 : decide (w = wUnset) = true := decide_eq_true c5
    rw [if_pos c5] at hv
    simp -implicitDefEqProofs only [go_sem, tys, regs0, Nat.reduceEqDiff, Nat.reduceAdd, Nat.reduceLeDiff, Nat.reduceLT, Nat.reduceMul, Int.natCast_one, Int.natCast_zero, Int.reduceEq, Int.reduceLT, Int.reduceLE, Int.reduceAdd, Int.reduceSub, Int.reduceToNat, UInt8.reduceToNat, puCP8, pu0, q4, q5, g2, y1, y2, y3, y4, y5]
    rw [hv]
    exact Done.drop (hS.put' n2 _) ⟨by simp [encChg, FileV.zero, SetV.zero, SvcV.zero, hpl], rfl⟩
  have y5 : decide (w = wUnset) = false := decide_eq_false c5
  rw [if_neg c5] at hv
  by_cases c6 : w = wService
  · have y6 : decide (w = wService) = true := decide_eq_true c6
    rw [if_pos c6] at hv
    simp -implicitDefEqProofs only [go_sem, tys, regs0, Nat.reduceEqDiff, Nat.reduceAdd, Nat.reduceLeDiff, Nat.reduceLT, Nat.reduceMul, Int.natCast_one, Int.natCast_zero, Int.reduceEq, Int.reduceLT, Int.reduceLE, Int.reduceAdd, Int.reduceSub, Int.reduceToNat, UInt8.reduceToNat, puCP8, pu0, q4, q5, g2, y1, y2, y3, y4, y5, y6]
    with_reducible refine nwC_intro fun i11 hi11 => ?_
    simp -implicitDefEqProofs only [go_sem, tys, regs0, Nat.reduceEqDiff, Nat.reduceAdd, Nat.reduceLeDiff, Nat.reduceLT, Nat.reduceMul, Int.natCast_one, Int.natCast_zero, Int.reduceEq, Int.reduceLT, Int.reduceLE, Int.reduceAdd, Int.reduceSub, Int.reduceToNat, UInt8.reduceToNat]
    generalize E11 : Heap.put G2 i11 _ = G11
    have hO_11 := obj_new E11 hi11 hS
    have n11 := hO_11.1
    have hS := hO_11.2.1
    have g11 := hO_11.2.2.1
    have d2_11 := obj_ne g2 hi11
    have g2 := hO_11.2.2.2 _ _ g2
    clear hO_11
    simp -implicitDefEqProofs only [go_sem, tys, regs0, Nat.reduceEqDiff, Nat.reduceAdd, Nat.reduceLeDiff, Nat.reduceLT, Nat.reduceMul, Int.natCast_one, Int.natCast_zero, Int.reduceEq, Int.reduceLT, Int.reduceLE, Int.reduceAdd, Int.reduceSub, Int.reduceToNat, UInt8.reduceToNat, g2, g11]
    rw [hv]
    exact Done.drop (hS.put' n2 _) ⟨by simp [encChg, FileV.zero, SetV.zero, SvcV.zero, hpl], rfl⟩
  have y6 : decide (w = wService) = false := decide_eq_false c6
  rw [if_neg c6] at hv
  by_cases c7 : w = wDrop
  · have y7 : decide (w = wDrop) = true := decide_eq_true c7
    rw [if_pos c7] at hv
    simp -implicitDefEqProofs only [go_sem, tys, regs0, Nat.reduceEqDiff, Nat.reduceAdd, Nat.reduceLeDiff, Nat.reduceLT, Nat.reduceMul, Int.natCast_one, Int.natCast_zero, Int.reduceEq, Int.reduceLT, Int.reduceLE, Int.reduceAdd, Int.reduceSub, Int.reduceToNat, UInt8.reduceToNat, puCP8, pu0, q4, q5, g2, y1, y2, y3, y4, y5, y6, y7]
    rw [hv]
    exact Done.drop (hS.put' n2 _) ⟨by simp [encChg, FileV.zero, SetV.zero, SvcV.zero, hpl], rfl⟩
  have y7 : decide (w = wDrop) = false := decide_eq_false c7
  rw [if_neg c7] at hv
  simp -implicitDefEqProofs only [go_sem, tys, regs0, Nat.reduceEqDiff, Nat.reduceAdd, Nat.reduceLeDiff, Nat.reduceLT, Nat.reduceMul, Int.natCast_one, Int.natCast_zero, Int.reduceEq, Int.reduceLT, Int.reduceLE, Int.reduceAdd, Int.reduceSub, Int.reduceToNat, UInt8.reduceToNat, puCP8, pu0, g2, y1, y2, y3, y4, y5, y6, y7]
  rw [hv]
  exact Done.drop (hS.put' n2 _) ⟨by simp [encChg, FileV.zero, SetV.zero, SvcV.zero, hpl], rfl⟩
end Go.Proofs

/- Walks: changes are read, on the reference's side: all of them. -/
namespace Go.Proofs
open Go Go.Abs
set_option linter.unusedSimpArgs false
set_option linter.unusedVariables false
set_option maxRecDepth 20000
noncomputable def sChOf1 := spF (fun s : Bytes => [AV.str s]) (fun s => s.length ≤ 1099511627775) changeOfA
theorem sChOf1_eq (s : Bytes) (h : s.length ≤ 1099511627775) : sChOf1 [.str s] = some (.tup [.agg (encChg (changeOfV s).1), .bool (changeOfV s).2]) := spF_eq (enc := fun s : Bytes => [AV.str s]) (fun a b e => by cases e; rfl) s h
noncomputable def puCP9 : Pures := putP 43 sChOf1 (putP 20 sCutL puCP4)
theorem puCP9_dyn : isDyn puCP9 = false := by simp only [puCP9, go_sem, Nat.reduceEqDiff]
attribute [go_sem] puCP9_dyn
theorem puCP9_ok : PuOK Tryd.prog puCP9 := .put (.put (puCP4_ok) (spF_ok fun s H h => cutLines_calls s H h)) (spF_ok fun s H h => changeOfR_calls s H h)
theorem chgP_R {w rest k v : Bytes} {is pl : Bool} {sv : SvcV × Bool} (h1 : rest.length ≤ 1099511627776) (h2 : k.length ≤ 1099511627776) (h3 : v.length ≤ 1099511627776) (h4 : svcR sv.1) : chgR (chgP w rest k v is pl sv).1 := by
  unfold chgP
  repeat' split
  all_goals first
    | exact ⟨⟨by simp only; omega, by simp only; omega⟩, ⟨by simp [SetV.zero], by simp [SetV.zero]⟩, by simp [SvcV.zero], by simp [SvcV.zero]⟩
    | exact ⟨⟨by simp only; omega, by simp⟩, ⟨by simp [SetV.zero], by simp [SetV.zero]⟩, by simp [SvcV.zero], by simp [SvcV.zero]⟩
    | exact ⟨⟨by simp [FileV.zero], by simp [FileV.zero]⟩, ⟨by simp only; omega, by simp only; omega⟩, by simp [SvcV.zero], by simp [SvcV.zero]⟩
    | exact ⟨⟨by simp [FileV.zero], by simp [FileV.zero]⟩, ⟨by simp only; omega, by simp⟩, by simp [SvcV.zero], by simp [SvcV.zero]⟩
    | exact ⟨⟨by simp [FileV.zero], by simp [FileV.zero]⟩, ⟨by simp [SetV.zero], by simp [SetV.zero]⟩, h4⟩
    | exact ⟨⟨by simp [FileV.zero], by simp [FileV.zero]⟩, ⟨by simp [SetV.zero], by simp [SetV.zero]⟩, by simp only; omega, by simp⟩
    | exact ⟨⟨by simp [FileV.zero], by simp [FileV.zero]⟩, ⟨by simp [SetV.zero], by simp [SetV.zero]⟩, by simp [SvcV.zero], by simp [SvcV.zero]⟩
theorem changeOf_R {l : Bytes} (h : l.length ≤ 1099511627776) : chgR (changeOfV l).1 := by
  have l1 := cutT_len 32 l
  have l2 := cutT_len 32 (cutT 32 l).2.1
  have l3 := unqD_len (cutT 32 (cutT 32 l).2.1).2.1
  unfold changeOfV
  refine chgP_R (by omega) ?_ ?_ (svcOf_R (n := 1099511627776) (by omega) (Nat.le_refl _))
  · unfold quotedV; simp only; omega
  · unfold quotedV; simp only; omega
set_option maxHeartbeats 6400000 in
theorem rParseC_calls (text : Bytes) (H : Heap) (ht : text.length ≤ 1099511627776) : ACalls Tryd.prog 14 [.str text] H fun x H' => x = parseCA text ∧ H' = H := by
  have hS := Heap.Sub.rfl' H
  have hv := parseCA.eq_1 text
  have hp := parseCV.eq_1 text
  by_cases c0 : 4194304 < text.length
  · have y0 : decide ((4194304 : Int) < text.length) = true := decide_eq_true (by omega)
    rw [if_pos c0] at hp
    rw [hp] at hv
    refine ACalls.of_code (X := { pure := puCP9 }) puCP9_ok Tryd.func14 (by kernel_rfl) rfl (by kernel_rfl) (Nat.le_of_ble_eq_true rfl) ?_
    simp -implicitDefEqProofs only [go_sem, tys, regs0, Nat.reduceEqDiff, Nat.reduceAdd, Nat.reduceLeDiff, Nat.reduceLT, Nat.reduceMul, Int.natCast_one, Int.natCast_zero, Int.reduceEq, Int.reduceLT, Int.reduceLE, Int.reduceAdd, Int.reduceSub, Int.reduceToNat, UInt8.reduceToNat, Tryd.f14, y0]
    exact Done.wk 3 (Done.drop hS ⟨by rw [hv]; rfl, rfl⟩)
  have y0 : decide ((4194304 : Int) < text.length) = false := decide_eq_false (by omega)
  rw [if_neg c0] at hp
  have q1 := sCutL_eq text ht
  have hst := fun s i l h => @rdStep _ lineC s text i l h
  have hen := fun s i h1 h2 => @rdEnd _ lineC s text i h1 h2
  have hll : (cutLV text).1.length ≤ text.length + 1 ∧ ∀ l ∈ (cutLV text).1, l.length ≤ text.length := by
    have h1 : (splitB 10 text).length ≤ text.length + 1 := by rw [splitB_len]; have := @List.count_le_length _ _ 10 text; omega
    unfold cutLV
    split
    · exact ⟨by rw [List.length_dropLast]; omega, fun l hl => splitB_le ((List.dropLast_sublist _).subset hl)⟩
    · exact ⟨h1, fun l hl => splitB_le hl⟩
  have htn : ∀ i, i = (cutLV text).1.length → i = (splitB 10 text).length → (cutLV text).2 = (i : Int) - 1 := by
    intro i h1 h2
    have h3 := splitB_pos 10 text
    unfold cutLV at h1 ⊢
    split at h1
    · rw [List.length_dropLast] at h1; omega
    · rename_i hc; rw [if_neg hc]; simp only; omega
  generalize cutLV text = cl at *
  obtain ⟨ls, torn⟩ := cl
  simp only at q1 hst hen hll htn
  refine ACalls.of_code (X := { pure := puCP9 }) puCP9_ok Tryd.func14 (by kernel_rfl) rfl (by kernel_rfl) (Nat.le_of_ble_eq_true rfl) ?_
  simp -implicitDefEqProofs only [go_sem, tys, regs0, Nat.reduceEqDiff, Nat.reduceAdd, Nat.reduceLeDiff, Nat.reduceLT, Nat.reduceMul, Int.natCast_one, Int.natCast_zero, Int.reduceEq, Int.reduceLT, Int.reduceLE, Int.reduceAdd, Int.reduceSub, Int.reduceToNat, UInt8.reduceToNat, Tryd.f14, y0, puCP9, q1]
  refine aloop_intro (σ := Nat × List ChgV × Tail) (fun t => [(5, .sl (t.2.1.map encChg) t.2.2), (7, .int .i64 torn), (21, .sl (ls.map encS) .unk), (22, .int .i64 ls.length), (23, .int .i64 t.1)])
    (fun t G => t.1 ≤ ls.length ∧ t.2.1.length ≤ t.1 ∧ (∀ c ∈ t.2.1, chgR c) ∧ AppG H G 10 (t.2.1.map encChg) t.2.2 ∧ rdL lineC [] 0 (splitB 10 text) = rdL lineC t.2.1 t.1 ((splitB 10 text).drop t.1) ∧ (0 < t.1 → torn ≠ (t.1 : Int) - 1)) (fun t => ls.length - t.1) (0, [], .exact) ?_ ?_ ?_
  · simp -implicitDefEqProofs only [go_sem, tys, regs0, Nat.reduceEqDiff, Nat.reduceAdd, Nat.reduceLeDiff, Nat.reduceLT, Nat.reduceMul, Int.natCast_one, Int.natCast_zero, Int.reduceEq, Int.reduceLT, Int.reduceLE, Int.reduceAdd, Int.reduceSub, Int.reduceToNat, UInt8.reduceToNat]
  · exact ⟨Nat.zero_le _, Nat.le_refl _, by simp, AppG.new hS _, rfl, fun h => absurd h (by decide)⟩
  clear hS
  rintro ⟨i, l, tl⟩ r G hvv ⟨hi, hln, hlr, hA, hE, htr⟩
  have h5 := hvv.1
  have h7 := hvv.2.1
  have h21 := hvv.2.2.1
  have h22 := hvv.2.2.2.1
  have h23 := hvv.2.2.2.2.1
  clear hvv
  simp only at h5 h7 h21 h22 h23 hi hln hlr hA hE htr
  by_cases g : i < ls.length
  rotate_left
  · have x0 : decide ((i : Int) < ls.length) = false := decide_eq_false (by omega)
    obtain rfl : i = ls.length := by omega
    have hz := hen l ls.length rfl (fun e => by
      have h1 := htn _ rfl e
      have h3 := splitB_pos 10 text
      exact htr (by omega) h1)
    rw [hz] at hE
    rw [hE] at hp
    simp only at hp
    have q := sChgs_eq l tl (by omega) hlr
    generalize chgsErr l = ce at *
    by_cases c1 : ce = 0
    · have y2 : decide (¬ ce = 0) = false := decide_eq_false (by simpa using c1)
      rw [if_neg (by simpa using c1)] at hp
      rw [hp] at hv
      simp -implicitDefEqProofs only [go_sem, tys, regs0, Nat.reduceEqDiff, Nat.reduceAdd, Nat.reduceLeDiff, Nat.reduceLT, Nat.reduceMul, Int.natCast_one, Int.natCast_zero, Int.reduceEq, Int.reduceLT, Int.reduceLE, Int.reduceAdd, Int.reduceSub, Int.reduceToNat, UInt8.reduceToNat, y2, h5, h7, h21, h22, h23, x0, puCP9, puCP4, q]
      exact Done.wk 3 (Done.drop hA.1 ⟨by rw [hv]; rfl, rfl⟩)
    · have y2 : decide (¬ ce = 0) = true := decide_eq_true c1
      rw [if_pos c1] at hp
      rw [hp] at hv
      simp -implicitDefEqProofs only [go_sem, tys, regs0, Nat.reduceEqDiff, Nat.reduceAdd, Nat.reduceLeDiff, Nat.reduceLT, Nat.reduceMul, Int.natCast_one, Int.natCast_zero, Int.reduceEq, Int.reduceLT, Int.reduceLE, Int.reduceAdd, Int.reduceSub, Int.reduceToNat, UInt8.reduceToNat, y2, h5, h7, h21, h22, h23, x0, puCP9, puCP4, q]
      exact Done.wk 3 (Done.drop hA.1 ⟨by rw [hv]; rfl, rfl⟩)
  have x0 : decide ((i : Int) < ls.length) = true := decide_eq_true (by omega)
  obtain ⟨s, hl⟩ : ∃ s, ls[i]? = some s := getD_get' g
  have hlb := hll.2 s (List.mem_of_getElem? hl)
  have ws : IntKind.i64.wrap ((i : Int) + 1) = ((i + 1 : Nat) : Int) := by rw [Go.IntWalk.i64_in _ (by omega)]; omega
  have q2 := sChOf1_eq s (by omega)
  have hcr := changeOf_R (l := s) (by omega)
  rw [hst l i s hl, lineC_eq] at hE
  generalize changeOfV s = co at *
  obtain ⟨c, ok⟩ := co
  simp only at q2 hcr hE
  have hsn : l.map encChg ++ [encChg c] = (l ++ [c]).map encChg := by simp
  have hU : encChg c = encChg c := rfl
  obtain ⟨k, ⟨p, d, ru⟩, ⟨ky, vl⟩, ⟨nm, sp, au, on⟩⟩ := c
  simp only [encChg] at q2
  have hbad : (ok = false ∨ (i : Int) = torn) → rdL lineC [] 0 (splitB 10 text) = .error i := by
    intro h
    rw [hE]
    by_cases h2 : (i : Int) = torn
    · rw [if_pos h2]
    · rw [if_neg h2]
      rcases h with h | h
      · rw [h]; rfl
      · exact absurd h h2
  have hfin : (ok = false ∨ (i : Int) = torn) → parseCA text = .tup [.sl [] .unk, .int .i64 i, .int .i64 8] := by
    intro h
    rw [hbad h] at hp
    simp only at hp
    rw [hp] at hv
    exact hv
  simp -implicitDefEqProofs only [go_sem, tys, regs0, Nat.reduceEqDiff, Nat.reduceAdd, Nat.reduceLeDiff, Nat.reduceLT, Nat.reduceMul, Int.natCast_one, Int.natCast_zero, Int.reduceEq, Int.reduceLT, Int.reduceLE, Int.reduceAdd, Int.reduceSub, Int.reduceToNat, UInt8.reduceToNat, h5, h7, h21, h22, h23, x0, hl, encS, puCP9, q2]
  with_reducible refine nwC_intro fun i10 hi10 => ?_
  have hA := hA.put hi10 (.cells [.int .i64 k, .str p, .str d, .bool ru, .str ky, .str vl, .str nm, .str sp, .bool au, .bool on])
  simp -implicitDefEqProofs only [go_sem, tys, regs0, Nat.reduceEqDiff, Nat.reduceAdd, Nat.reduceLeDiff, Nat.reduceLT, Nat.reduceMul, Int.natCast_one, Int.natCast_zero, Int.reduceEq, Int.reduceLT, Int.reduceLE, Int.reduceAdd, Int.reduceSub, Int.reduceToNat, UInt8.reduceToNat]
  have g10 := put_same G i10 (.cells [.int .i64 k, .str p, .str d, .bool ru, .str ky, .str vl, .str nm, .str sp, .bool au, .bool on])
  generalize G.put i10 (.cells [.int .i64 k, .str p, .str d, .bool ru, .str ky, .str vl, .str nm, .str sp, .bool au, .bool on]) = G10 at *
  cases ok with
  | false =>
    simp -implicitDefEqProofs only [go_sem, tys, regs0, Nat.reduceEqDiff, Nat.reduceAdd, Nat.reduceLeDiff, Nat.reduceLT, Nat.reduceMul, Int.natCast_one, Int.natCast_zero, Int.reduceEq, Int.reduceLT, Int.reduceLE, Int.reduceAdd, Int.reduceSub, Int.reduceToNat, UInt8.reduceToNat, h5, h7, h21, h22, h23]
    exact Done.wk 3 (Done.drop hA.1 ⟨by rw [hfin (.inl rfl)]; rfl, rfl⟩)
  | true =>
    by_cases c2 : (i : Int) = torn
    · have y2 : decide ((i : Int) = torn) = true := decide_eq_true c2
      simp -implicitDefEqProofs only [go_sem, tys, regs0, Nat.reduceEqDiff, Nat.reduceAdd, Nat.reduceLeDiff, Nat.reduceLT, Nat.reduceMul, Int.natCast_one, Int.natCast_zero, Int.reduceEq, Int.reduceLT, Int.reduceLE, Int.reduceAdd, Int.reduceSub, Int.reduceToNat, UInt8.reduceToNat, h5, h7, h21, h22, h23, y2]
      exact Done.wk 3 (Done.drop hA.1 ⟨by rw [hfin (.inr c2)]; rfl, rfl⟩)
    have y2 : decide ((i : Int) = torn) = false := decide_eq_false c2
    rw [if_neg c2] at hE
    simp only [if_true] at hE
    simp -implicitDefEqProofs only [go_sem, tys, regs0, Nat.reduceEqDiff, Nat.reduceAdd, Nat.reduceLeDiff, Nat.reduceLT, Nat.reduceMul, Int.natCast_one, Int.natCast_zero, Int.reduceEq, Int.reduceLT, Int.reduceLE, Int.reduceAdd, Int.reduceSub, Int.reduceToNat, UInt8.reduceToNat, h5, h7, h21, h22, h23, y2, g10]
    refine AppG.step2 hA (encChg_unif _) (by simp) (by simp; omega) (by simp; omega) (fun tl' G5 hA5 hG => ?_)
    simp only [encChg] at hsn
    rw [hsn] at hA5 ⊢
    simp -implicitDefEqProofs only [go_sem, tys, regs0, Nat.reduceEqDiff, Nat.reduceAdd, Nat.reduceLeDiff, Nat.reduceLT, Nat.reduceMul, Int.natCast_one, Int.natCast_zero, Int.reduceEq, Int.reduceLT, Int.reduceLE, Int.reduceAdd, Int.reduceSub, Int.reduceToNat, UInt8.reduceToNat, h5, h7, h21, h22, h23, ws]
    refine Again.mk (i + 1, l ++ [⟨k, ⟨p, d, ru⟩, ⟨ky, vl⟩, ⟨nm, sp, au, on⟩⟩], tl') (by simp -implicitDefEqProofs only [go_sem, tys, regs0, Nat.reduceEqDiff, Nat.reduceAdd, Nat.reduceLeDiff, Nat.reduceLT, Nat.reduceMul, Int.natCast_one, Int.natCast_zero, Int.reduceEq, Int.reduceLT, Int.reduceLE, Int.reduceAdd, Int.reduceSub, Int.reduceToNat, UInt8.reduceToNat, h5, h7, h21, h22, h23, encChg]) ⟨by simp only; omega, by simp; omega, fun c hc => ?_, hA5, hE, fun _ => by simp only; omega⟩ (by simp only; omega)
    rcases List.mem_append.1 hc with h | h
    · exact hlr c h
    · rw [List.mem_singleton.1 h]; exact hcr
end Go.Proofs

/- Walks: Same, and the law MachinesParse. -/
namespace Go.Proofs
open Go Go.Abs
set_option linter.unusedSimpArgs false
set_option linter.unusedVariables false
set_option maxRecDepth 20000
theorem eqSet_calls_ne (cx cy : Bool) (a b : SetV) : bin Tryd.prog .neq 44 cx cy (.agg (encSet a)) (.agg (encSet b)) = some (.bool (decide ¬ a = b)) := by
  have h : eqT Tryd.prog 6 44 (.agg (encSet a)) (.agg (encSet b)) = some (decide (a = b)) := by
    obtain ⟨xkey, xvalue⟩ := a
    obtain ⟨ykey, yvalue⟩ := b
    simp only [encSet, eqT, eqFields, tys, readC, TD.agg, if_true, List.drop_zero, List.drop_succ_cons, List.head?_cons, Bool.false_eq_true, if_false, Option.some.injEq, Bool.and_true]
    rw [Bool.eq_iff_iff]
    simp [SetV.mk.injEq]
  have e : eqA Tryd.prog 44 cx cy (.agg (encSet a)) (.agg (encSet b)) = some (decide (a = b)) := by
    unfold eqA
    simp only [tys, if_true]
    exact h
  show (eqA Tryd.prog 44 cx cy (.agg (encSet a)) (.agg (encSet b))).map (fun b => AV.bool (!b)) = _
  rw [e]
  simp
theorem eqSet_calls (a b : List SetV) (t t' : Tail) (H : Heap) (ha : a.length ≤ 1099511627776) : ACalls Tryd.prog 27 [.sl (a.map encSet) t, .sl (b.map encSet) t'] H fun x H' => x = .bool (decide (a = b)) ∧ H' = H := by
  by_cases hl : ¬ a.length = b.length
  · have d1 : decide (¬ (a.length : Int) = b.length) = true := by simp; omega
    refine ACalls.of_code (X := { pure := pu0 }) pu0_ok Tryd.func27 (by kernel_rfl) rfl (by kernel_rfl) (Nat.le_of_ble_eq_true rfl) ?_
    simp -implicitDefEqProofs only [go_sem, tys, regs0, Nat.reduceEqDiff, Nat.reduceAdd, Nat.reduceLeDiff, Nat.reduceLT, Nat.reduceMul, Int.natCast_one, Int.natCast_zero, Int.reduceEq, Int.reduceLT, Int.reduceLE, Int.reduceAdd, Int.reduceSub, Int.reduceToNat, UInt8.reduceToNat, Tryd.f27, d1]
    refine Done.now ⟨?_, rfl⟩
    have : ¬ a = b := fun e => hl (by rw [e])
    simp [this]
  · have hl : a.length = b.length := Decidable.not_not.1 hl
    have d1 : decide (¬ (a.length : Int) = b.length) = false := by simp; omega
    refine ACalls.of_code (X := { pure := pu0 }) pu0_ok Tryd.func27 (by kernel_rfl) rfl (by kernel_rfl) (Nat.le_of_ble_eq_true rfl) ?_
    simp -implicitDefEqProofs only [go_sem, tys, regs0, Nat.reduceEqDiff, Nat.reduceAdd, Nat.reduceLeDiff, Nat.reduceLT, Nat.reduceMul, Int.natCast_one, Int.natCast_zero, Int.reduceEq, Int.reduceLT, Int.reduceLE, Int.reduceAdd, Int.reduceSub, Int.reduceToNat, UInt8.reduceToNat, Tryd.f27, d1]
    refine aloop_intro (σ := Nat) (fun i => [(0, .sl (a.map encSet) t), (1, .sl (b.map encSet) t'), (12, .int .i64 a.length), (13, .int .i64 i)])
      (fun i G => G = H ∧ i ≤ a.length ∧ a.take i = b.take i) (fun i => a.length - i) 0 ?_ ?_ ?_
    · simp -implicitDefEqProofs only [go_sem, tys, regs0, Nat.reduceEqDiff, Nat.reduceAdd, Nat.reduceLeDiff, Nat.reduceLT, Nat.reduceMul, Int.natCast_one, Int.natCast_zero, Int.reduceEq, Int.reduceLT, Int.reduceLE, Int.reduceAdd, Int.reduceSub, Int.reduceToNat, UInt8.reduceToNat]
    · simp
    · intro i r G hv hI
      have h0 := hv.1
      have h1 := hv.2.1
      have h12 := hv.2.2.1
      have h13 := hv.2.2.2.1
      have hG := hI.1.symm
      have hi := hI.2.1
      have hp := hI.2.2
      clear hv hI
      subst hG
      simp -implicitDefEqProofs only [go_sem, tys, regs0, Nat.reduceEqDiff, Nat.reduceAdd, Nat.reduceLeDiff, Nat.reduceLT, Nat.reduceMul, Int.natCast_one, Int.natCast_zero, Int.reduceEq, Int.reduceLT, Int.reduceLE, Int.reduceAdd, Int.reduceSub, Int.reduceToNat, UInt8.reduceToNat, h0, h1, h12, h13]
      refine cnd_intro (fun h => ?_) (fun h => ?_)
      · simp only [decide_eq_true_eq] at h
        obtain ⟨x, hx⟩ := get_some (l := a) (i := i) (by omega)
        obtain ⟨y, hy⟩ := get_some (l := b) (i := i) (by omega)
        have ht := take_eq_succ hx hy
        have hn := fun cx cy => eqSet_calls_ne cx cy x y
        obtain ⟨xkey, xvalue⟩ := x
        obtain ⟨ykey, yvalue⟩ := y
        simp only [encSet] at hn
        simp -implicitDefEqProofs only [go_sem, tys, regs0, Nat.reduceEqDiff, Nat.reduceAdd, Nat.reduceLeDiff, Nat.reduceLT, Nat.reduceMul, Int.natCast_one, Int.natCast_zero, Int.reduceEq, Int.reduceLT, Int.reduceLE, Int.reduceAdd, Int.reduceSub, Int.reduceToNat, UInt8.reduceToNat, h0, h1, h12, h13, hx, hy, encSet, hn]
        refine cnd_intro (fun g => ?_) (fun g => ?_)
        · simp -implicitDefEqProofs only [go_sem, tys, regs0, Nat.reduceEqDiff, Nat.reduceAdd, Nat.reduceLeDiff, Nat.reduceLT, Nat.reduceMul, Int.natCast_one, Int.natCast_zero, Int.reduceEq, Int.reduceLT, Int.reduceLE, Int.reduceAdd, Int.reduceSub, Int.reduceToNat, UInt8.reduceToNat]
          refine Done.now ⟨?_, rfl⟩
          have : ¬ a = b := fun e => by subst e; rw [hx] at hy; cases hy; simp at g
          simp [this]
        · simp -implicitDefEqProofs (disch := omega) only [go_sem, tys, regs0, Nat.reduceEqDiff, Nat.reduceAdd, Nat.reduceLeDiff, Nat.reduceLT, Nat.reduceMul, Int.natCast_one, Int.natCast_zero, Int.reduceEq, Int.reduceLT, Int.reduceLE, Int.reduceAdd, Int.reduceSub, Int.reduceToNat, UInt8.reduceToNat, Go.IntWalk.i64_in, h0, h1, h12, h13]
          simp only [decide_eq_false_iff_not, Decidable.not_not] at g
          exact Again.mk (i + 1) (by simp -implicitDefEqProofs only [go_sem, tys, regs0, Nat.reduceEqDiff, Nat.reduceAdd, Nat.reduceLeDiff, Nat.reduceLT, Nat.reduceMul, Int.natCast_one, Int.natCast_zero, Int.reduceEq, Int.reduceLT, Int.reduceLE, Int.reduceAdd, Int.reduceSub, Int.reduceToNat, UInt8.reduceToNat, h0, h1, h12, h13]; exact rfl) ⟨rfl, by omega, ht.2 ⟨hp, g⟩⟩ (by omega)
      · simp only [decide_eq_false_iff_not] at h
        have e : i = a.length := by omega
        rw [e, List.take_length, hl, List.take_length] at hp
        simp -implicitDefEqProofs only [go_sem, tys, regs0, Nat.reduceEqDiff, Nat.reduceAdd, Nat.reduceLeDiff, Nat.reduceLT, Nat.reduceMul, Int.natCast_one, Int.natCast_zero, Int.reduceEq, Int.reduceLT, Int.reduceLE, Int.reduceAdd, Int.reduceSub, Int.reduceToNat, UInt8.reduceToNat]
        exact Done.now ⟨by simp [hp], rfl⟩

theorem eqFile_calls_ne (cx cy : Bool) (a b : FileV) : bin Tryd.prog .neq 42 cx cy (.agg (encFile a)) (.agg (encFile b)) = some (.bool (decide ¬ a = b)) := by
  have h : eqT Tryd.prog 6 42 (.agg (encFile a)) (.agg (encFile b)) = some (decide (a = b)) := by
    obtain ⟨xpath, xdata, xruns⟩ := a
    obtain ⟨ypath, ydata, yruns⟩ := b
    simp only [encFile, eqT, eqFields, tys, readC, TD.agg, if_true, List.drop_zero, List.drop_succ_cons, List.head?_cons, Bool.false_eq_true, if_false, Option.some.injEq, Bool.and_true]
    rw [Bool.eq_iff_iff]
    simp [FileV.mk.injEq]
  have e : eqA Tryd.prog 42 cx cy (.agg (encFile a)) (.agg (encFile b)) = some (decide (a = b)) := by
    unfold eqA
    simp only [tys, if_true]
    exact h
  show (eqA Tryd.prog 42 cx cy (.agg (encFile a)) (.agg (encFile b))).map (fun b => AV.bool (!b)) = _
  rw [e]
  simp
theorem eqFile_calls (a b : List FileV) (t t' : Tail) (H : Heap) (ha : a.length ≤ 1099511627776) : ACalls Tryd.prog 28 [.sl (a.map encFile) t, .sl (b.map encFile) t'] H fun x H' => x = .bool (decide (a = b)) ∧ H' = H := by
  by_cases hl : ¬ a.length = b.length
  · have d1 : decide (¬ (a.length : Int) = b.length) = true := by simp; omega
    refine ACalls.of_code (X := { pure := pu0 }) pu0_ok Tryd.func28 (by kernel_rfl) rfl (by kernel_rfl) (Nat.le_of_ble_eq_true rfl) ?_
    simp -implicitDefEqProofs only [go_sem, tys, regs0, Nat.reduceEqDiff, Nat.reduceAdd, Nat.reduceLeDiff, Nat.reduceLT, Nat.reduceMul, Int.natCast_one, Int.natCast_zero, Int.reduceEq, Int.reduceLT, Int.reduceLE, Int.reduceAdd, Int.reduceSub, Int.reduceToNat, UInt8.reduceToNat, Tryd.f28, d1]
    refine Done.now ⟨?_, rfl⟩
    have : ¬ a = b := fun e => hl (by rw [e])
    simp [this]
  · have hl : a.length = b.length := Decidable.not_not.1 hl
    have d1 : decide (¬ (a.length : Int) = b.length) = false := by simp; omega
    refine ACalls.of_code (X := { pure := pu0 }) pu0_ok Tryd.func28 (by kernel_rfl) rfl (by kernel_rfl) (Nat.le_of_ble_eq_true rfl) ?_
    simp -implicitDefEqProofs only [go_sem, tys, regs0, Nat.reduceEqDiff, Nat.reduceAdd, Nat.reduceLeDiff, Nat.reduceLT, Nat.reduceMul, Int.natCast_one, Int.natCast_zero, Int.reduceEq, Int.reduceLT, Int.reduceLE, Int.reduceAdd, Int.reduceSub, Int.reduceToNat, UInt8.reduceToNat, Tryd.f28, d1]
    refine aloop_intro (σ := Nat) (fun i => [(0, .sl (a.map encFile) t), (1, .sl (b.map encFile) t'), (12, .int .i64 a.length), (13, .int .i64 i)])
      (fun i G => G = H ∧ i ≤ a.length ∧ a.take i = b.take i) (fun i => a.length - i) 0 ?_ ?_ ?_
    · simp -implicitDefEqProofs only [go_sem, tys, regs0, Nat.reduceEqDiff, Nat.reduceAdd, Nat.reduceLeDiff, Nat.reduceLT, Nat.reduceMul, Int.natCast_one, Int.natCast_zero, Int.reduceEq, Int.reduceLT, Int.reduceLE, Int.reduceAdd, Int.reduceSub, Int.reduceToNat, UInt8.reduceToNat]
    · simp
    · intro i r G hv hI
      have h0 := hv.1
      have h1 := hv.2.1
      have h12 := hv.2.2.1
      have h13 := hv.2.2.2.1
      have hG := hI.1.symm
      have hi := hI.2.1
      have hp := hI.2.2
      clear hv hI
      subst hG
      simp -implicitDefEqProofs only [go_sem, tys, regs0, Nat.reduceEqDiff, Nat.reduceAdd, Nat.reduceLeDiff, Nat.reduceLT, Nat.reduceMul, Int.natCast_one, Int.natCast_zero, Int.reduceEq, Int.reduceLT, Int.reduceLE, Int.reduceAdd, Int.reduceSub, Int.reduceToNat, UInt8.reduceToNat, h0, h1, h12, h13]
      refine cnd_intro (fun h => ?_) (fun h => ?_)
      · simp only [decide_eq_true_eq] at h
        obtain ⟨x, hx⟩ := get_some (l := a) (i := i) (by omega)
        obtain ⟨y, hy⟩ := get_some (l := b) (i := i) (by omega)
        have ht := take_eq_succ hx hy
        have hn := fun cx cy => eqFile_calls_ne cx cy x y
        obtain ⟨xpath, xdata, xruns⟩ := x
        obtain ⟨ypath, ydata, yruns⟩ := y
        simp only [encFile] at hn
        simp -implicitDefEqProofs only [go_sem, tys, regs0, Nat.reduceEqDiff, Nat.reduceAdd, Nat.reduceLeDiff, Nat.reduceLT, Nat.reduceMul, Int.natCast_one, Int.natCast_zero, Int.reduceEq, Int.reduceLT, Int.reduceLE, Int.reduceAdd, Int.reduceSub, Int.reduceToNat, UInt8.reduceToNat, h0, h1, h12, h13, hx, hy, encFile, hn]
        refine cnd_intro (fun g => ?_) (fun g => ?_)
        · simp -implicitDefEqProofs only [go_sem, tys, regs0, Nat.reduceEqDiff, Nat.reduceAdd, Nat.reduceLeDiff, Nat.reduceLT, Nat.reduceMul, Int.natCast_one, Int.natCast_zero, Int.reduceEq, Int.reduceLT, Int.reduceLE, Int.reduceAdd, Int.reduceSub, Int.reduceToNat, UInt8.reduceToNat]
          refine Done.now ⟨?_, rfl⟩
          have : ¬ a = b := fun e => by subst e; rw [hx] at hy; cases hy; simp at g
          simp [this]
        · simp -implicitDefEqProofs (disch := omega) only [go_sem, tys, regs0, Nat.reduceEqDiff, Nat.reduceAdd, Nat.reduceLeDiff, Nat.reduceLT, Nat.reduceMul, Int.natCast_one, Int.natCast_zero, Int.reduceEq, Int.reduceLT, Int.reduceLE, Int.reduceAdd, Int.reduceSub, Int.reduceToNat, UInt8.reduceToNat, Go.IntWalk.i64_in, h0, h1, h12, h13]
          simp only [decide_eq_false_iff_not, Decidable.not_not] at g
          exact Again.mk (i + 1) (by simp -implicitDefEqProofs only [go_sem, tys, regs0, Nat.reduceEqDiff, Nat.reduceAdd, Nat.reduceLeDiff, Nat.reduceLT, Nat.reduceMul, Int.natCast_one, Int.natCast_zero, Int.reduceEq, Int.reduceLT, Int.reduceLE, Int.reduceAdd, Int.reduceSub, Int.reduceToNat, UInt8.reduceToNat, h0, h1, h12, h13]; exact rfl) ⟨rfl, by omega, ht.2 ⟨hp, g⟩⟩ (by omega)
      · simp only [decide_eq_false_iff_not] at h
        have e : i = a.length := by omega
        rw [e, List.take_length, hl, List.take_length] at hp
        simp -implicitDefEqProofs only [go_sem, tys, regs0, Nat.reduceEqDiff, Nat.reduceAdd, Nat.reduceLeDiff, Nat.reduceLT, Nat.reduceMul, Int.natCast_one, Int.natCast_zero, Int.reduceEq, Int.reduceLT, Int.reduceLE, Int.reduceAdd, Int.reduceSub, Int.reduceToNat, UInt8.reduceToNat]
        exact Done.now ⟨by simp [hp], rfl⟩

theorem eqSvc_calls_ne (cx cy : Bool) (a b : SvcV) : bin Tryd.prog .neq 46 cx cy (.agg (encSvc a)) (.agg (encSvc b)) = some (.bool (decide ¬ a = b)) := by
  have h : eqT Tryd.prog 6 46 (.agg (encSvc a)) (.agg (encSvc b)) = some (decide (a = b)) := by
    obtain ⟨xname, xpath, xauto, xon⟩ := a
    obtain ⟨yname, ypath, yauto, yon⟩ := b
    simp only [encSvc, eqT, eqFields, tys, readC, TD.agg, if_true, List.drop_zero, List.drop_succ_cons, List.head?_cons, Bool.false_eq_true, if_false, Option.some.injEq, Bool.and_true]
    rw [Bool.eq_iff_iff]
    simp [SvcV.mk.injEq]
  have e : eqA Tryd.prog 46 cx cy (.agg (encSvc a)) (.agg (encSvc b)) = some (decide (a = b)) := by
    unfold eqA
    simp only [tys, if_true]
    exact h
  show (eqA Tryd.prog 46 cx cy (.agg (encSvc a)) (.agg (encSvc b))).map (fun b => AV.bool (!b)) = _
  rw [e]
  simp
theorem eqSvc_calls (a b : List SvcV) (t t' : Tail) (H : Heap) (ha : a.length ≤ 1099511627776) : ACalls Tryd.prog 29 [.sl (a.map encSvc) t, .sl (b.map encSvc) t'] H fun x H' => x = .bool (decide (a = b)) ∧ H' = H := by
  by_cases hl : ¬ a.length = b.length
  · have d1 : decide (¬ (a.length : Int) = b.length) = true := by simp; omega
    refine ACalls.of_code (X := { pure := pu0 }) pu0_ok Tryd.func29 (by kernel_rfl) rfl (by kernel_rfl) (Nat.le_of_ble_eq_true rfl) ?_
    simp -implicitDefEqProofs only [go_sem, tys, regs0, Nat.reduceEqDiff, Nat.reduceAdd, Nat.reduceLeDiff, Nat.reduceLT, Nat.reduceMul, Int.natCast_one, Int.natCast_zero, Int.reduceEq, Int.reduceLT, Int.reduceLE, Int.reduceAdd, Int.reduceSub, Int.reduceToNat, UInt8.reduceToNat, Tryd.f29, d1]
    refine Done.now ⟨?_, rfl⟩
    have : ¬ a = b := fun e => hl (by rw [e])
    simp [this]
  · have hl : a.length = b.length := Decidable.not_not.1 hl
    have d1 : decide (¬ (a.length : Int) = b.length) = false := by simp; omega
    refine ACalls.of_code (X := { pure := pu0 }) pu0_ok Tryd.func29 (by kernel_rfl) rfl (by kernel_rfl) (Nat.le_of_ble_eq_true rfl) ?_
    simp -implicitDefEqProofs only [go_sem, tys, regs0, Nat.reduceEqDiff, Nat.reduceAdd, Nat.reduceLeDiff, Nat.reduceLT, Nat.reduceMul, Int.natCast_one, Int.natCast_zero, Int.reduceEq, Int.reduceLT, Int.reduceLE, Int.reduceAdd, Int.reduceSub, Int.reduceToNat, UInt8.reduceToNat, Tryd.f29, d1]
    refine aloop_intro (σ := Nat) (fun i => [(0, .sl (a.map encSvc) t), (1, .sl (b.map encSvc) t'), (12, .int .i64 a.length), (13, .int .i64 i)])
      (fun i G => G = H ∧ i ≤ a.length ∧ a.take i = b.take i) (fun i => a.length - i) 0 ?_ ?_ ?_
    · simp -implicitDefEqProofs only [go_sem, tys, regs0, Nat.reduceEqDiff, Nat.reduceAdd, Nat.reduceLeDiff, Nat.reduceLT, Nat.reduceMul, Int.natCast_one, Int.natCast_zero, Int.reduceEq, Int.reduceLT, Int.reduceLE, Int.reduceAdd, Int.reduceSub, Int.reduceToNat, UInt8.reduceToNat]
    · simp
    · intro i r G hv hI
      have h0 := hv.1
      have h1 := hv.2.1
      have h12 := hv.2.2.1
      have h13 := hv.2.2.2.1
      have hG := hI.1.symm
      have hi := hI.2.1
      have hp := hI.2.2
      clear hv hI
      subst hG
      simp -implicitDefEqProofs only [go_sem, tys, regs0, Nat.reduceEqDiff, Nat.reduceAdd, Nat.reduceLeDiff, Nat.reduceLT, Nat.reduceMul, Int.natCast_one, Int.natCast_zero, Int.reduceEq, Int.reduceLT, Int.reduceLE, Int.reduceAdd, Int.reduceSub, Int.reduceToNat, UInt8.reduceToNat, h0, h1, h12, h13]
      refine cnd_intro (fun h => ?_) (fun h => ?_)
      · simp only [decide_eq_true_eq] at h
        obtain ⟨x, hx⟩ := get_some (l := a) (i := i) (by omega)
        obtain ⟨y, hy⟩ := get_some (l := b) (i := i) (by omega)
        have ht := take_eq_succ hx hy
        have hn := fun cx cy => eqSvc_calls_ne cx cy x y
        obtain ⟨xname, xpath, xauto, xon⟩ := x
        obtain ⟨yname, ypath, yauto, yon⟩ := y
        simp only [encSvc] at hn
        simp -implicitDefEqProofs only [go_sem, tys, regs0, Nat.reduceEqDiff, Nat.reduceAdd, Nat.reduceLeDiff, Nat.reduceLT, Nat.reduceMul, Int.natCast_one, Int.natCast_zero, Int.reduceEq, Int.reduceLT, Int.reduceLE, Int.reduceAdd, Int.reduceSub, Int.reduceToNat, UInt8.reduceToNat, h0, h1, h12, h13, hx, hy, encSvc, hn]
        refine cnd_intro (fun g => ?_) (fun g => ?_)
        · simp -implicitDefEqProofs only [go_sem, tys, regs0, Nat.reduceEqDiff, Nat.reduceAdd, Nat.reduceLeDiff, Nat.reduceLT, Nat.reduceMul, Int.natCast_one, Int.natCast_zero, Int.reduceEq, Int.reduceLT, Int.reduceLE, Int.reduceAdd, Int.reduceSub, Int.reduceToNat, UInt8.reduceToNat]
          refine Done.now ⟨?_, rfl⟩
          have : ¬ a = b := fun e => by subst e; rw [hx] at hy; cases hy; simp at g
          simp [this]
        · simp -implicitDefEqProofs (disch := omega) only [go_sem, tys, regs0, Nat.reduceEqDiff, Nat.reduceAdd, Nat.reduceLeDiff, Nat.reduceLT, Nat.reduceMul, Int.natCast_one, Int.natCast_zero, Int.reduceEq, Int.reduceLT, Int.reduceLE, Int.reduceAdd, Int.reduceSub, Int.reduceToNat, UInt8.reduceToNat, Go.IntWalk.i64_in, h0, h1, h12, h13]
          simp only [decide_eq_false_iff_not, Decidable.not_not] at g
          exact Again.mk (i + 1) (by simp -implicitDefEqProofs only [go_sem, tys, regs0, Nat.reduceEqDiff, Nat.reduceAdd, Nat.reduceLeDiff, Nat.reduceLT, Nat.reduceMul, Int.natCast_one, Int.natCast_zero, Int.reduceEq, Int.reduceLT, Int.reduceLE, Int.reduceAdd, Int.reduceSub, Int.reduceToNat, UInt8.reduceToNat, h0, h1, h12, h13]; exact rfl) ⟨rfl, by omega, ht.2 ⟨hp, g⟩⟩ (by omega)
      · simp only [decide_eq_false_iff_not] at h
        have e : i = a.length := by omega
        rw [e, List.take_length, hl, List.take_length] at hp
        simp -implicitDefEqProofs only [go_sem, tys, regs0, Nat.reduceEqDiff, Nat.reduceAdd, Nat.reduceLeDiff, Nat.reduceLT, Nat.reduceMul, Int.natCast_one, Int.natCast_zero, Int.reduceEq, Int.reduceLT, Int.reduceLE, Int.reduceAdd, Int.reduceSub, Int.reduceToNat, UInt8.reduceToNat]
        exact Done.now ⟨by simp [hp], rfl⟩

def sEqL {α : Type} [DecidableEq α] (dec : List AV → Option α) : List AV → Option AV := fn2 (Rd.list dec) (Rd.list dec) fun a b => if a.length ≤ 1099511627776 then some (.bool (decide (a = b))) else none
theorem sEqL_ok {α : Type} [DecidableEq α] {dec : List AV → Option α} {enc : α → List AV} (hd : ∀ c a, dec c = some a → c = enc a) {P : Program} {f : FuncId}
    (h : ∀ (a b : List α) (t t' : Tail) (H : Heap), a.length ≤ 1099511627776 → ACalls P f [.sl (a.map enc) t, .sl (b.map enc) t'] H fun x H' => x = .bool (decide (a = b)) ∧ H' = H) : ∀ xs v, sEqL dec xs = some v → ∀ H, ACalls P f xs H fun x H' => x = v ∧ H' = H := by
  intro xs v hv H
  obtain ⟨x, y, p, q, rfl, h1, h2, h3⟩ := fn2_some hv
  split at h3
  · rename_i hl
    cases h3
    obtain ⟨t, rfl⟩ := Rd.list_some (enc := enc) hd h1
    obtain ⟨t', rfl⟩ := Rd.list_some (enc := enc) hd h2
    exact h p q t t' H hl
  · cases h3
theorem sEqL_eq {α : Type} [DecidableEq α] {dec : List AV → Option α} {enc : α → List AV} (he : ∀ a, dec (enc a) = some a) (a b : List α) (t t' : Tail) (h : a.length ≤ 1099511627776) : sEqL dec [.sl (a.map enc) t, .sl (b.map enc) t'] = some (.bool (decide (a = b))) := by
  unfold sEqL
  rw [fn2_eq, Rd.list_eq he, Rd.list_eq he]
  simp only [Option.bind_some, if_pos h]
noncomputable def puM9 : Pures := putP 29 (sEqL decSvc) (putP 28 (sEqL decFile) (putP 27 (sEqL decSet) pu0))
theorem puM9_dyn : isDyn puM9 = false := by simp only [puM9, go_sem, Nat.reduceEqDiff]
attribute [go_sem] puM9_dyn
theorem puM9_ok : PuOK Tryd.prog puM9 := .put (.put (.put (pu0_ok) (sEqL_ok (fun _ _ => decSet_some) eqSet_calls)) (sEqL_ok (fun _ _ => decFile_some) eqFile_calls)) (sEqL_ok (fun _ _ => decSvc_some) eqSvc_calls)
set_option maxHeartbeats 1600000 in
theorem rSame_calls (m n : MacV) (a b c d a' b' c' d' : Tail) (H : Heap) (hr : macR m) : ACalls Tryd.prog 8 [.agg (encMac m a b c d), .agg (encMac n a' b' c' d')] H fun x H' => x = .bool (decide (m = n)) ∧ H' = H := by
  obtain ⟨⟨l1, l2, l3, l4⟩, _⟩ := hr
  have hS := Heap.Sub.rfl' H
  have q1 := sEqL_eq decSet_enc m.facts n.facts a a' l1
  have q2 := sEqL_eq decFile_enc m.files n.files b b' l2
  have q3 := sEqL_eq decSet_enc m.sets n.sets c c' l3
  have q4 := sEqL_eq decSvc_enc m.svcs n.svcs d d' l4
  have hd : decide (m = n) = (decide (m.facts = n.facts) && (decide (m.files = n.files) && (decide (m.sets = n.sets) && decide (m.svcs = n.svcs)))) := by
    obtain ⟨x1, x2, x3, x4⟩ := m
    obtain ⟨y1, y2, y3, y4⟩ := n
    rw [Bool.eq_iff_iff]
    simp
  rw [hd]
  clear hd
  generalize decide (m.facts = n.facts) = e1 at *
  generalize decide (m.files = n.files) = e2 at *
  generalize decide (m.sets = n.sets) = e3 at *
  generalize decide (m.svcs = n.svcs) = e4 at *
  refine ACalls.of_code (X := { pure := puM9 }) puM9_ok Tryd.func8 (by kernel_rfl) rfl (by kernel_rfl) (Nat.le_of_ble_eq_true rfl) ?_
  simp -implicitDefEqProofs only [go_sem, tys, regs0, Nat.reduceEqDiff, Nat.reduceAdd, Nat.reduceLeDiff, Nat.reduceLT, Nat.reduceMul, Int.natCast_one, Int.natCast_zero, Int.reduceEq, Int.reduceLT, Int.reduceLE, Int.reduceAdd, Int.reduceSub, Int.reduceToNat, UInt8.reduceToNat, Tryd.f8, encMac]
  with_reducible refine nwC_intro fun i2 hi2 => ?_
  generalize E2 : Heap.put H i2 _ = G2
  have hO_2 := obj_new E2 hi2 hS
  have n2 := hO_2.1
  have hS := hO_2.2.1
  have g2 := hO_2.2.2.1
  clear hO_2
  simp -implicitDefEqProofs only [go_sem, tys, regs0, Nat.reduceEqDiff, Nat.reduceAdd, Nat.reduceLeDiff, Nat.reduceLT, Nat.reduceMul, Int.natCast_one, Int.natCast_zero, Int.reduceEq, Int.reduceLT, Int.reduceLE, Int.reduceAdd, Int.reduceSub, Int.reduceToNat, UInt8.reduceToNat]
  with_reducible refine nwC_intro fun i3 hi3 => ?_
  generalize E3 : Heap.put G2 i3 _ = G3
  have hO_3 := obj_new E3 hi3 hS
  have n3 := hO_3.1
  have hS := hO_3.2.1
  have g3 := hO_3.2.2.1
  have d2_3 := obj_ne g2 hi3
  have g2 := hO_3.2.2.2 _ _ g2
  clear hO_3
  cases e1 <;> cases e2 <;> cases e3 <;> cases e4
  all_goals
    simp -implicitDefEqProofs only [go_sem, tys, regs0, Nat.reduceEqDiff, Nat.reduceAdd, Nat.reduceLeDiff, Nat.reduceLT, Nat.reduceMul, Int.natCast_one, Int.natCast_zero, Int.reduceEq, Int.reduceLT, Int.reduceLE, Int.reduceAdd, Int.reduceSub, Int.reduceToNat, UInt8.reduceToNat, g2, g3, puM9, pu0, q1, q2, q3, q4]
    exact Done.drop hS ⟨rfl, rfl⟩
theorem landedM_calls (H : Heap) : ACalls Tryd.prog 5 [] H fun x H' => x = .bool true ∧ H' = H := by
  have hR : Room = 1099511627776 := rfl
  have hn : nameB [97] = true := by decide
  refine ACalls.of_code (X := { pure := puN }) puN_ok Tryd.func5 (by kernel_rfl) rfl (by kernel_rfl) (Nat.le_of_ble_eq_true rfl) ?_
  simp -implicitDefEqProofs only [go_sem, tys, regs0, Nat.reduceEqDiff, Nat.reduceAdd, Nat.reduceLeDiff, Nat.reduceLT, Nat.reduceMul, Int.natCast_one, Int.natCast_zero, Int.reduceEq, Int.reduceLT, Int.reduceLE, Int.reduceAdd, Int.reduceSub, Int.reduceToNat, UInt8.reduceToNat, Tryd.f5, puN, sStr_eq, hR, hn]
  exact Done.now ⟨rfl, rfl⟩
theorem lineM_N {n k : Nat} {s s2 : MacV × Int} {l : Bytes} (h : lineM s l = some s2) (hm : macN n s.1) (hl : l.length ≤ k) (hk : k ≤ 1099511627776) : macN (n + 1) s2.1 := by
  unfold lineM at h
  split at h
  · unfold stepM at h
    split at h
    · cases h
    · cases h
      have := readLineV_len l
      obtain ⟨a, ⟨b, c⟩, ⟨d, e⟩, f, g⟩ := this
      exact macN_add (k := k) hm ⟨by omega, ⟨by omega, by omega⟩, ⟨by omega, by omega⟩, by omega, by omega⟩ hk _
  · cases h
theorem rdL_N {k : Nat} (hk : k ≤ 1099511627776) : ∀ (ls : List Bytes) (n j : Nat) (s s2 : MacV × Int), rdL lineM s j ls = .ok s2 → macN n s.1 → (∀ l ∈ ls, l.length ≤ k) → macN (n + ls.length) s2.1
  | [], n, j, s, s2, h, hm, _ => by cases h; exact hm
  | [l], n, j, s, s2, h, hm, _ => by
    rw [rdL] at h
    split at h
    · cases h; exact macN_mono hm
    · cases h
  | l :: l2 :: ls, n, j, s, s2, h, hm, hl => by
    rw [rdL] at h
    cases hs : lineM s l with
    | none => rw [hs] at h; cases h
    | some s3 =>
      rw [hs] at h
      have h1 := lineM_N hs hm (hl l (List.mem_cons_self ..)) hk
      have h2 := rdL_N hk (l2 :: ls) (n + 1) (j + 1) s3 s2 h h1 fun x hx => hl x (List.mem_cons_of_mem _ hx)
      rw [show n + (l :: l2 :: ls).length = n + 1 + (l2 :: ls).length by simp only [List.length_cons]; omega]
      exact h2
theorem parseMV_R (text : Bytes) (h : text.length ≤ 1048576) : macR (parseMV text).1 := by
  unfold parseMV
  rw [if_neg (by omega)]
  cases hr : rdL lineM (MacV.zero, 0) 0 (splitB 10 text) with
  | error n => exact macN_R (macN_zero 0) (by omega)
  | ok s =>
    have h1 : (splitB 10 text).length ≤ text.length + 1 := by rw [splitB_len]; have := @List.count_le_length _ _ 10 text; omega
    have := rdL_N (k := text.length) (by omega) _ 0 0 _ _ hr (macN_zero 0) fun l hl => splitB_le hl
    simp only
    split
    · exact macN_R (macN_zero 0) (by omega)
    · exact macN_R this (by omega)
noncomputable def sPM := spF (fun s : Bytes => [AV.str s]) (fun s => s.length ≤ 1099511627776) parseMA
theorem sPM_eq (s : Bytes) (h : s.length ≤ 1099511627776) : sPM [.str s] = some (.tup [.agg (encMac (parseMV s).1 .unk .unk .unk .unk), .int .i64 (parseMV s).2.1, .int .i64 (parseMV s).2.2]) := spF_eq (fun a b e => by cases e; rfl) s h
noncomputable def puM10 : Pures := putP 7 sPM (putP 6 sPM pu0)
theorem puM10_dyn : isDyn puM10 = false := by simp only [puM10, go_sem, Nat.reduceEqDiff]
attribute [go_sem] puM10_dyn
theorem puM10_ok : PuOK Tryd.prog puM10 := .put (.put (pu0_ok) (spF_ok fun s H h => parseM_calls s H h)) (spF_ok fun s H h => rParseM_calls s H h)
theorem machinesParse_calls (text : Bytes) (H : Heap) (ht : text.length ≤ 1048576) : ACalls Tryd.prog 3 [.str text] H fun x H' => x = .bool true ∧ H' = H := by
  have hS := Heap.Sub.rfl' H
  have q1 := sPM_eq text (by omega)
  have hr := parseMV_R text (by omega)
  generalize parseMV text = pv at *
  obtain ⟨m, n, e⟩ := pv
  simp only at q1 hr
  have hsm := fun G => rSame_calls m m .unk .unk .unk .unk .unk .unk .unk .unk G hr
  rw [decide_eq_true rfl] at hsm
  unfold encMac at q1 hsm
  refine ACalls.of_code (X := { pure := puM10 }) puM10_ok Tryd.func3 (by kernel_rfl) rfl (by kernel_rfl) (Nat.le_of_ble_eq_true rfl) ?_
  simp -implicitDefEqProofs only [go_sem, tys, regs0, Nat.reduceEqDiff, Nat.reduceAdd, Nat.reduceLeDiff, Nat.reduceLT, Nat.reduceMul, Int.natCast_one, Int.natCast_zero, Int.reduceEq, Int.reduceLT, Int.reduceLE, Int.reduceAdd, Int.reduceSub, Int.reduceToNat, UInt8.reduceToNat, Tryd.f3]
  refine (landedM_calls _).pure_next _ ?_
  simp -implicitDefEqProofs only [go_sem, tys, regs0, Nat.reduceEqDiff, Nat.reduceAdd, Nat.reduceLeDiff, Nat.reduceLT, Nat.reduceMul, Int.natCast_one, Int.natCast_zero, Int.reduceEq, Int.reduceLT, Int.reduceLE, Int.reduceAdd, Int.reduceSub, Int.reduceToNat, UInt8.reduceToNat, puM10, pu0, q1]
  with_reducible refine nwC_intro fun i3 hi3 => ?_
  simp -implicitDefEqProofs only [go_sem, tys, regs0, Nat.reduceEqDiff, Nat.reduceAdd, Nat.reduceLeDiff, Nat.reduceLT, Nat.reduceMul, Int.natCast_one, Int.natCast_zero, Int.reduceEq, Int.reduceLT, Int.reduceLE, Int.reduceAdd, Int.reduceSub, Int.reduceToNat, UInt8.reduceToNat, puM10, pu0, q1]
  generalize E3 : Heap.put H i3 _ = G3
  have hO_3 := obj_new E3 hi3 hS
  have n3 := hO_3.1
  have hS := hO_3.2.1
  have g3 := hO_3.2.2.1
  clear hO_3
  with_reducible refine nwC_intro fun i6 hi6 => ?_
  simp -implicitDefEqProofs only [go_sem, tys, regs0, Nat.reduceEqDiff, Nat.reduceAdd, Nat.reduceLeDiff, Nat.reduceLT, Nat.reduceMul, Int.natCast_one, Int.natCast_zero, Int.reduceEq, Int.reduceLT, Int.reduceLE, Int.reduceAdd, Int.reduceSub, Int.reduceToNat, UInt8.reduceToNat, puM10, pu0, q1]
  generalize E6 : Heap.put G3 i6 _ = G6
  have hO_6 := obj_new E6 hi6 hS
  have n6 := hO_6.1
  have hS := hO_6.2.1
  have g6 := hO_6.2.2.1
  have d3_6 := obj_ne g3 hi6
  have g3 := hO_6.2.2.2 _ _ g3
  clear hO_6
  simp -implicitDefEqProofs only [go_sem, tys, regs0, Nat.reduceEqDiff, Nat.reduceAdd, Nat.reduceLeDiff, Nat.reduceLT, Nat.reduceMul, Int.natCast_one, Int.natCast_zero, Int.reduceEq, Int.reduceLT, Int.reduceLE, Int.reduceAdd, Int.reduceSub, Int.reduceToNat, UInt8.reduceToNat, g3, g6]
  refine (hsm _).pure_next _ ?_
  simp -implicitDefEqProofs only [go_sem, tys, regs0, Nat.reduceEqDiff, Nat.reduceAdd, Nat.reduceLeDiff, Nat.reduceLT, Nat.reduceMul, Int.natCast_one, Int.natCast_zero, Int.reduceEq, Int.reduceLT, Int.reduceLE, Int.reduceAdd, Int.reduceSub, Int.reduceToNat, UInt8.reduceToNat]
  exact Done.drop hS ⟨rfl, rfl⟩
end Go.Proofs

/- The law ChangesPrint. -/
namespace Go.Proofs
open Go Go.Abs
set_option linter.unusedSimpArgs false
set_option linter.unusedVariables false
set_option maxRecDepth 20000
/-- No text in it is longer than n. -/
def chgB (n : Nat) (c : ChgV) : Prop := (c.file.path.length ≤ n ∧ c.file.data.length ≤ n) ∧ (c.set.key.length ≤ n ∧ c.set.value.length ≤ n) ∧ c.svc.name.length ≤ n ∧ c.svc.path.length ≤ n
theorem chgB_R {n : Nat} {c : ChgV} (h : chgB n c) (hn : n ≤ 1099511627776) : chgR c := by
  obtain ⟨⟨a, b⟩, ⟨d, e⟩, f, g⟩ := h
  exact ⟨⟨by omega, by omega⟩, ⟨by omega, by omega⟩, by omega, by omega⟩
theorem chgLine_len {n : Nat} {c : ChgV} (h : chgB n c) : (chgLine c).length ≤ 5 * n + 16 := by
  obtain ⟨⟨a, b⟩, ⟨d, e⟩, f, g⟩ := h
  have q1 := quoteB_len c.file.data
  have q2 := quoteB_len c.set.value
  have b1 := bitV_len c.svc.auto
  have b2 := bitV_len c.svc.on
  have hw : (if c.file.runs = true then wPutrun else wPut).length ≤ 6 := by split <;> decide
  unfold chgLine
  repeat' split
  all_goals (simp only [svcLine, wRemove, wSet, wUnset, wService, wDrop, List.length_append, List.length_cons, List.length_nil]; omega)
theorem chgsText_len {n : Nat} : ∀ {l : List ChgV}, (∀ c ∈ l, chgB n c) → (chgsText l).length ≤ l.length * (5 * n + 17)
  | [], _ => by simp [chgsText]
  | c :: l, h => by
    have h1 := chgLine_len (h c (List.mem_cons_self ..))
    have h2 := chgsText_len fun x hx => h x (List.mem_cons_of_mem _ hx)
    have e : chgsText (c :: l) = chgLine c ++ ([10] ++ chgsText l) := by simp [chgsText]
    rw [e]
    simp only [List.length_append, List.length_cons, List.length_nil, Nat.add_mul, Nat.one_mul]
    omega
noncomputable def sPrC := spF (fun p : List ChgV × Tail => [.sl (p.1.map encChg) p.2]) (fun p => p.1.length ≤ 1099511627776 ∧ (∀ c ∈ p.1, chgR c) ∧ (chgsErr p.1 = 0 → (chgsText p.1).length ≤ 140737488355328)) (fun p => printCA p.1)
noncomputable def sRPrC := spF (fun p : List ChgV × Tail => [.sl (p.1.map encChg) p.2]) (fun p => p.1.length ≤ 1099511627776 ∧ (∀ c ∈ p.1, chgR c) ∧ chgsErr p.1 = 0 ∧ (chgsText p.1).length ≤ 140737488355328) (fun p => .str (chgsText p.1))
theorem encP_inj (F : List ChgV → AV) : ∀ a b : List ChgV × Tail, ([.sl (a.1.map encChg) a.2] : List AV) = [.sl (b.1.map encChg) b.2] → F a.1 = F b.1 := by
  rintro ⟨a, t1⟩ ⟨b, t2⟩ e
  simp only [List.cons.injEq, AV.sl.injEq, and_true] at e
  rw [encChgs_inj e.1]
theorem sPrC_eq (l : List ChgV) (t : Tail) (h1 : l.length ≤ 1099511627776) (h2 : ∀ c ∈ l, chgR c) (h3 : chgsErr l = 0 → (chgsText l).length ≤ 140737488355328) : sPrC [.sl (l.map encChg) t] = some (printCA l) :=
  spF_eq (enc := fun p : List ChgV × Tail => [.sl (p.1.map encChg) p.2]) (encP_inj printCA) (l, t) ⟨h1, h2, h3⟩
theorem sRPrC_eq (l : List ChgV) (t : Tail) (h1 : l.length ≤ 1099511627776) (h2 : ∀ c ∈ l, chgR c) (h4 : chgsErr l = 0) (h3 : (chgsText l).length ≤ 140737488355328) : sRPrC [.sl (l.map encChg) t] = some (.str (chgsText l)) :=
  spF_eq (enc := fun p : List ChgV × Tail => [.sl (p.1.map encChg) p.2]) (encP_inj fun l => .str (chgsText l)) (l, t) ⟨h1, h2, h4, h3⟩
noncomputable def sPC := spF (fun s : Bytes => [AV.str s]) (fun s => s.length ≤ 1099511627776) parseCA
theorem sPC_eq (s : Bytes) (h : s.length ≤ 1099511627776) : sPC [.str s] = some (.tup [.sl ((parseCV s).1.map encChg) .unk, .int .i64 (parseCV s).2.1, .int .i64 (parseCV s).2.2]) := spF_eq (enc := fun s : Bytes => [AV.str s]) (fun a b e => by cases e; rfl) s h
noncomputable def sEqC := spF (fun p : List ChgV × Tail × Tail => [.sl (p.1.map encChg) p.2.1, .sl (p.1.map encChg) p.2.2]) (fun p => p.1.length ≤ 1099511627776) (fun p => .bool true)
theorem sEqC_eq (l : List ChgV) (t t' : Tail) (h : l.length ≤ 1099511627776) : sEqC [.sl (l.map encChg) t, .sl (l.map encChg) t'] = some (.bool true) := spF_eq (enc := fun p : List ChgV × Tail × Tail => [.sl (p.1.map encChg) p.2.1, .sl (p.1.map encChg) p.2.2]) (fun a b e => rfl) (l, t, t') h
noncomputable def puC10 : Pures := putP 13 sEqC (putP 14 sPC (putP 12 sPC (putP 11 sRPrC (putP 9 sPrC puCP4))))
theorem puC10_dyn : isDyn puC10 = false := by simp only [puC10, go_sem, Nat.reduceEqDiff]
attribute [go_sem] puC10_dyn
theorem puC10_ok : PuOK Tryd.prog puC10 := .put (.put (.put (.put (.put (puCP4_ok) (spF_ok fun p H h => printChanges_calls p.1 p.2 H h.1 h.2.1 h.2.2)) (spF_ok fun p H h => rPrintChanges_calls p.1 p.2 H h.1 h.2.1 h.2.2.1 h.2.2.2)) (spF_ok fun s H h => parseC_calls s H h)) (spF_ok fun s H h => rParseC_calls s H h)) (spF_ok fun p H h => by simpa using eqChg_calls p.1 p.1 p.2.1 p.2.2 H h)
theorem rdC_N : ∀ (ls : List Bytes) (j : Nat) (s s2 : List ChgV), rdL lineC s j ls = .ok s2 → s2.length ≤ s.length + ls.length
  | [], j, s, s2, h => by cases h; exact Nat.le_add_right _ _
  | [l], j, s, s2, h => by
    rw [rdL] at h
    split at h
    · cases h; exact Nat.le_add_right _ _
    · cases h
  | l :: l2 :: ls, j, s, s2, h => by
    rw [rdL] at h
    cases hs : lineC s l with
    | none => rw [hs] at h; cases h
    | some s3 =>
      rw [hs] at h
      have h2 := rdC_N (l2 :: ls) (j + 1) s3 s2 h
      have h3 : s3.length = s.length + 1 := by
        rw [lineC_eq] at hs
        split at hs
        · cases hs; simp
        · cases hs
      simp only [List.length_cons] at h2 ⊢
      omega
theorem parseCV_N (text : Bytes) : (parseCV text).1.length ≤ text.length + 1 := by
  unfold parseCV
  split
  · exact Nat.zero_le _
  cases hr : rdL lineC [] 0 (splitB 10 text) with
  | error n => exact Nat.zero_le _
  | ok s =>
    have h1 : (splitB 10 text).length ≤ text.length + 1 := by rw [splitB_len]; have := @List.count_le_length _ _ 10 text; omega
    have := rdC_N _ 0 _ _ hr
    simp only [List.length_nil] at this
    simp only
    split
    · exact Nat.zero_le _
    · simp only; omega
set_option maxHeartbeats 1600000 in
theorem changesPrint_calls (l : List ChgV) (t : Tail) (text : Bytes) (H : Heap) (hl : l.length ≤ 1048576) (hr : ∀ c ∈ l, chgB 1048576 c) (ht : text.length ≤ 1048576) :
    ACalls Tryd.prog 4 [.sl (l.map encChg) t, .str text] H fun x H' => x = .bool true ∧ H' = H := by
  have hR : ∀ c ∈ l, chgR c := fun c hc => chgB_R (hr c hc) (by omega)
  have hTl := chgsText_len hr
  have hm : l.length * (5 * 1048576 + 17) ≤ 1048576 * (5 * 1048576 + 17) := Nat.mul_le_mul_right _ hl
  have p0 := sPrC_eq l t (by omega) hR (fun _ => by omega)
  have p1 := sChgs_eq l t (by omega) hR
  have p2 := fun h => sRPrC_eq l t (by omega) hR h (by omega)
  have p3 := sPC_eq text (by omega)
  have pn := parseCV_N text
  have p4 := fun t t' => sEqC_eq (parseCV text).1 t t' (by omega)
  have p5 := fun t t' => sEqC_eq l t t' (by omega)
  generalize parseCV text = pv at *
  obtain ⟨pl, pj, pe⟩ := pv
  simp only at p3 pn p4
  unfold printCA at p0
  by_cases hE : chgsErr l = 0
  rotate_left
  · have y1 : decide (chgsErr l = 0) = false := decide_eq_false hE
    rw [if_pos hE] at p0
    refine ACalls.of_code (X := { pure := puC10 }) puC10_ok Tryd.func4 (by kernel_rfl) rfl (by kernel_rfl) (Nat.le_of_ble_eq_true rfl) ?_
    simp -implicitDefEqProofs only [go_sem, tys, regs0, Nat.reduceEqDiff, Nat.reduceAdd, Nat.reduceLeDiff, Nat.reduceLT, Nat.reduceMul, Int.natCast_one, Int.natCast_zero, Int.reduceEq, Int.reduceLT, Int.reduceLE, Int.reduceAdd, Int.reduceSub, Int.reduceToNat, UInt8.reduceToNat, Tryd.f4]
    refine (landedM_calls _).pure_next _ ?_
    simp -implicitDefEqProofs only [go_sem, tys, regs0, Nat.reduceEqDiff, Nat.reduceAdd, Nat.reduceLeDiff, Nat.reduceLT, Nat.reduceMul, Int.natCast_one, Int.natCast_zero, Int.reduceEq, Int.reduceLT, Int.reduceLE, Int.reduceAdd, Int.reduceSub, Int.reduceToNat, UInt8.reduceToNat, puC10, puCP4, p0, p1, p3, p4, y1]
    exact Done.now ⟨rfl, rfl⟩
  rw [if_neg (by simpa using hE)] at p0
  have p2 := p2 hE
  rw [hE] at p1
  by_cases hL : 4194304 < (chgsText l).length
  · have y1 : decide ((4194304 : Int) < (chgsText l).length) = true := decide_eq_true (by omega)
    rw [if_pos hL] at p0
    refine ACalls.of_code (X := { pure := puC10 }) puC10_ok Tryd.func4 (by kernel_rfl) rfl (by kernel_rfl) (Nat.le_of_ble_eq_true rfl) ?_
    simp -implicitDefEqProofs only [go_sem, tys, regs0, Nat.reduceEqDiff, Nat.reduceAdd, Nat.reduceLeDiff, Nat.reduceLT, Nat.reduceMul, Int.natCast_one, Int.natCast_zero, Int.reduceEq, Int.reduceLT, Int.reduceLE, Int.reduceAdd, Int.reduceSub, Int.reduceToNat, UInt8.reduceToNat, Tryd.f4]
    refine (landedM_calls _).pure_next _ ?_
    simp -implicitDefEqProofs only [go_sem, tys, regs0, Nat.reduceEqDiff, Nat.reduceAdd, Nat.reduceLeDiff, Nat.reduceLT, Nat.reduceMul, Int.natCast_one, Int.natCast_zero, Int.reduceEq, Int.reduceLT, Int.reduceLE, Int.reduceAdd, Int.reduceSub, Int.reduceToNat, UInt8.reduceToNat, puC10, puCP4, p0, p1, p2, p3, p4, y1]
    exact Done.now ⟨rfl, rfl⟩
  have y1 : decide ((4194304 : Int) < (chgsText l).length) = false := decide_eq_false (by omega)
  rw [if_neg hL] at p0
  have p6 := sPC_eq (chgsText l) (by omega)
  rw [parse_printC hE (by omega)] at p6
  simp only at p6
  have y2 : decide (¬ chgsText l = chgsText l) = false := decide_eq_false (by simp)
  generalize chgsText l = tx at *
  refine ACalls.of_code (X := { pure := puC10 }) puC10_ok Tryd.func4 (by kernel_rfl) rfl (by kernel_rfl) (Nat.le_of_ble_eq_true rfl) ?_
  simp -implicitDefEqProofs only [go_sem, tys, regs0, Nat.reduceEqDiff, Nat.reduceAdd, Nat.reduceLeDiff, Nat.reduceLT, Nat.reduceMul, Int.natCast_one, Int.natCast_zero, Int.reduceEq, Int.reduceLT, Int.reduceLE, Int.reduceAdd, Int.reduceSub, Int.reduceToNat, UInt8.reduceToNat, Tryd.f4]
  refine (landedM_calls _).pure_next _ ?_
  simp -implicitDefEqProofs only [go_sem, tys, regs0, Nat.reduceEqDiff, Nat.reduceAdd, Nat.reduceLeDiff, Nat.reduceLT, Nat.reduceMul, Int.natCast_one, Int.natCast_zero, Int.reduceEq, Int.reduceLT, Int.reduceLE, Int.reduceAdd, Int.reduceSub, Int.reduceToNat, UInt8.reduceToNat, puC10, puCP4, p0, p1, p2, p3, p4, p5, p6, y1, y2]
  exact Done.now ⟨rfl, rfl⟩
end Go.Proofs
