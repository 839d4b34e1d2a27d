/-
  Walks and plain laws, part 3.
-/
import Derived.Test.YtfippeedjajnkaaGreatDoorM2
import Derived.Test.YtfippeedjajnkaaGreatDoorM1
import Derived.Test.YtfippeedjajnkaaGreatDoorAbs4
import Derived.Test.YtfippeedjajnkaaGreatDoorTy
import Derived.IntWalk
import Derived.Lib.MakeNoZero
import Derived.Lib.Builder
/- Walks: the reference's SumOf. -/
namespace Go.Proofs
open Go Go.Abs
open Nat (reduceEqDiff reduceAdd reduceLeDiff reduceLT reduceMul)
open Int (reduceEq reduceLE reduceSub reduceToNat)
set_option linter.unusedSimpArgs false
set_option linter.unusedVariables false
def preB (p s : Bytes) : Bool := decide (s.take p.length = p)
theorem preB_long {p s : Bytes} (h : s.length < p.length) : preB p s = false := by
  unfold preB
  rw [decide_eq_false_iff_not]
  intro e
  have := congrArg List.length e
  rw [List.length_take] at this
  omega
def sPre : List AV → Option AV := fn2 .str .str fun s p => some (.bool (preB p s))
theorem sPre_eq (s p : Bytes) : sPre [.str s, .str p] = some (.bool (preB p s)) := rfl
theorem sPre_ok {P : Program} {f : FuncId} (h : ∀ s p H, ACalls P f [.str s, .str p] H fun x H' => x = .bool (preB p s) ∧ H' = H) : ∀ xs v, sPre xs = some v → ∀ H, ACalls P f xs H fun x H' => x = v ∧ H' = H := by
  intro xs v hv H
  obtain ⟨x, y, p, q, rfl, h1, h2, h3⟩ := fn2_some hv
  cases h3
  cases Rd.str_some h1
  cases Rd.str_some h2
  exact h _ _ _
theorem hasPrefixL_calls (s p : Bytes) (H : Heap) : ACalls Tryz.prog 147 [.str s, .str p] H fun x H' => x = .bool (preB p s) ∧ H' = H := by
  refine ACalls.of_code (X := { pure := puS1 }) puS1_ok Tryz.func147 (by kernel_rfl) rfl (by kernel_rfl) (Nat.le_of_ble_eq_true rfl) ?_
  simp -implicitDefEqProofs only [go_sem, reduceEqDiff, reduceAdd, reduceLeDiff, reduceLT, reduceMul, reduceEq, Int.reduceLT, reduceLE, Int.reduceAdd, reduceSub, reduceToNat, UInt8.reduceToNat, Tryz.f147]
  refine gd_intro (fun h => ?_) (fun h => ?_)
  · have h' := h
    simp only [decide_eq_true_eq] at h'
    simp -implicitDefEqProofs only [go_sem, reduceEqDiff, reduceAdd, reduceLeDiff, reduceLT, reduceMul, reduceEq, Int.reduceLT, reduceLE, Int.reduceAdd, reduceSub, reduceToNat, UInt8.reduceToNat, h, Int.toNat_natCast]
    exact ⟨h', Done.now ⟨rfl, rfl⟩⟩
  · have h' := h
    simp only [decide_eq_false_iff_not] at h'
    simp -implicitDefEqProofs only [go_sem, reduceEqDiff, reduceAdd, reduceLeDiff, reduceLT, reduceMul, reduceEq, Int.reduceLT, reduceLE, Int.reduceAdd, reduceSub, reduceToNat, UInt8.reduceToNat, h]
    exact Done.now ⟨by rw [preB_long (by omega)], rfl⟩
def puS2 : Pures := putP 147 sPre puS1
theorem puS2_dyn : isDyn puS2 = false := by simp only [puS2, go_sem, Nat.reduceEqDiff]
attribute [go_sem] puS2_dyn
theorem puS2_ok : PuOK Tryz.prog puS2 := .put (puS1_ok) (sPre_ok hasPrefixL_calls)
theorem hasPrefix_calls (s p : Bytes) (H : Heap) : ACalls Tryz.prog 116 [.str s, .str p] H fun x H' => x = .bool (preB p s) ∧ H' = H := by
  refine ACalls.of_code (X := { pure := puS2 }) puS2_ok Tryz.func116 (by kernel_rfl) rfl (by kernel_rfl) (Nat.le_of_ble_eq_true rfl) ?_
  simp -implicitDefEqProofs only [go_sem, reduceEqDiff, reduceAdd, reduceLeDiff, reduceLT, reduceMul, reduceEq, Int.reduceLT, reduceLE, Int.reduceAdd, reduceSub, reduceToNat, UInt8.reduceToNat, Tryz.f116, puS2, sPre_eq]
  exact Done.now ⟨rfl, rfl⟩
def puS3 : Pures := putP 116 sPre puS2
theorem puS3_dyn : isDyn puS3 = false := by simp only [puS3, go_sem, Nat.reduceEqDiff]
attribute [go_sem] puS3_dyn
theorem puS3_ok : PuOK Tryz.prog puS3 := .put (puS2_ok) (sPre_ok hasPrefix_calls)
def puS4 : Pures := puS3
theorem puS4_dyn : isDyn puS4 = isDyn puS3 := rfl
attribute [go_sem] puS4_dyn
def puS5 : Pures := puS4
theorem puS5_dyn : isDyn puS5 = isDyn puS4 := rfl
attribute [go_sem] puS5_dyn
def puS6 : Pures := puS5
theorem puS6_dyn : isDyn puS6 = isDyn puS5 := rfl
attribute [go_sem] puS6_dyn
def puS7 : Pures := puS6
theorem puS7_dyn : isDyn puS7 = isDyn puS6 := rfl
attribute [go_sem] puS7_dyn
def sSum : List AV → Option AV := fn1 .str fun s => if s.length ≤ Room then some (.str (sumOf s)) else none
theorem sSum_ok {P : Program} {f : FuncId} (h : ∀ s H, s.length ≤ Room → ACalls P f [.str s] H fun x H' => x = .str (sumOf s) ∧ H' = H) : ∀ xs v, sSum xs = some v → ∀ H, ACalls P f xs H fun x H' => x = v ∧ H' = H := by
  intro xs v hv H
  obtain ⟨x, s, rfl, h1, h2⟩ := fn1_some hv
  split at h2
  · cases h2
    cases Rd.str_some h1
    exact h s H ‹_›
  · cases h2
def puM : Pures := putP 77 sSum puN
theorem puM_dyn : isDyn puM = false := by simp only [puM, go_sem, Nat.reduceEqDiff]
attribute [go_sem] puM_dyn
theorem puM_ok : PuOK Tryz.prog puM := .put (puN_ok) (sSum_ok sumOf_calls)
end Go.Proofs

/- Walks: changes and items. -/
namespace Go.Proofs
open Go Go.Abs
open Nat (reduceEqDiff reduceAdd reduceLeDiff reduceLT reduceMul)
open Int (reduceEq reduceLE reduceSub reduceToNat)
set_option linter.unusedSimpArgs false
set_option linter.unusedVariables false
theorem fileFault_calls (f : FileV) (H : Heap) (hr : fileR f) : ACalls Tryz.prog 69 [.agg (encFile f)] H fun x H' => x = .int .i64 (fileErr f) ∧ H' = H := by
  obtain ⟨h1, h2⟩ := hr
  have hR : Room = 1099511627776 := rfl
  refine ACalls.of_code (X := { pure := puM }) puM_ok Tryz.func69 (by kernel_rfl) rfl (by kernel_rfl) (Nat.le_of_ble_eq_true rfl) ?_
  simp -implicitDefEqProofs only [go_sem, reduceEqDiff, reduceAdd, reduceLeDiff, reduceLT, reduceMul, reduceEq, Int.reduceLT, reduceLE, Int.reduceAdd, reduceSub, reduceToNat, UInt8.reduceToNat, Tryz.f69, encFile]
  with_reducible refine nwC_intro fun id hid => ?_
  simp -implicitDefEqProofs only [go_sem, reduceEqDiff, reduceAdd, reduceLeDiff, reduceLT, reduceMul, reduceEq, Int.reduceLT, reduceLE, Int.reduceAdd, reduceSub, reduceToNat, UInt8.reduceToNat, puM, puN, sStr_eq, hR, h1]
  repeat' (first | (with_reducible refine gd_intro (fun h => ?_) (fun h => ?_) <;> first | (exact absurd h (by decide)) | (simp at h; done) | simp -implicitDefEqProofs (disch := omega) only [go_sem, reduceEqDiff, reduceAdd, reduceLeDiff, reduceLT, reduceMul, reduceEq, Int.reduceLT, reduceLE, Int.reduceAdd, reduceSub, reduceToNat, UInt8.reduceToNat, Go.IntWalk.i64_in, *]) | (with_reducible refine cnd_intro (fun h => ?_) (fun h => ?_) <;> first | (exact absurd h (by decide)) | (simp at h; done) | simp -implicitDefEqProofs (disch := omega) only [go_sem, reduceEqDiff, reduceAdd, reduceLeDiff, reduceLT, reduceMul, reduceEq, Int.reduceLT, reduceLE, Int.reduceAdd, reduceSub, reduceToNat, UInt8.reduceToNat, Go.IntWalk.i64_in, *]))
  all_goals refine Done.drop1 hid ⟨?_, rfl⟩
  all_goals (simp_all [fileErr] <;> omega)
theorem settingFault_calls (f : SetV) (H : Heap) (hr : setR f) : ACalls Tryz.prog 67 [.agg (encSet f), .func 73 []] H fun x H' => x = .int .i64 (setErr f) ∧ H' = H := by
  obtain ⟨h1, h2⟩ := hr
  have hR : Room = 1099511627776 := rfl
  refine ACalls.of_code (X := { pure := puM }) puM_ok Tryz.func67 (by kernel_rfl) rfl (by kernel_rfl) (Nat.le_of_ble_eq_true rfl) ?_
  simp -implicitDefEqProofs only [go_sem, reduceEqDiff, reduceAdd, reduceLeDiff, reduceLT, reduceMul, reduceEq, Int.reduceLT, reduceLE, Int.reduceAdd, reduceSub, reduceToNat, UInt8.reduceToNat, Tryz.f67, encSet]
  with_reducible refine nwC_intro fun id hid => ?_
  simp -implicitDefEqProofs only [go_sem, reduceEqDiff, reduceAdd, reduceLeDiff, reduceLT, reduceMul, reduceEq, Int.reduceLT, reduceLE, Int.reduceAdd, reduceSub, reduceToNat, UInt8.reduceToNat, puM, puN, sStr_eq, hR, h1, h2]
  repeat' (first | (with_reducible refine gd_intro (fun h => ?_) (fun h => ?_) <;> first | (exact absurd h (by decide)) | (simp at h; done) | simp -implicitDefEqProofs (disch := omega) only [go_sem, reduceEqDiff, reduceAdd, reduceLeDiff, reduceLT, reduceMul, reduceEq, Int.reduceLT, reduceLE, Int.reduceAdd, reduceSub, reduceToNat, UInt8.reduceToNat, Go.IntWalk.i64_in, puM, puN, sStr_eq, hR, *]) | (with_reducible refine cnd_intro (fun h => ?_) (fun h => ?_) <;> first | (exact absurd h (by decide)) | (simp at h; done) | simp -implicitDefEqProofs (disch := omega) only [go_sem, reduceEqDiff, reduceAdd, reduceLeDiff, reduceLT, reduceMul, reduceEq, Int.reduceLT, reduceLE, Int.reduceAdd, reduceSub, reduceToNat, UInt8.reduceToNat, Go.IntWalk.i64_in, puM, puN, sStr_eq, hR, *]))
  all_goals refine Done.drop1 hid ⟨?_, rfl⟩
  all_goals simp_all [setErr]
theorem serviceFault_calls (f : SvcV) (H : Heap) (hr : svcR f) : ACalls Tryz.prog 75 [.agg (encSvc f)] H fun x H' => x = .int .i64 (svcErr f) ∧ H' = H := by
  obtain ⟨h1, h2⟩ := hr
  have hR : Room = 1099511627776 := rfl
  refine ACalls.of_code (X := { pure := puM }) puM_ok Tryz.func75 (by kernel_rfl) rfl (by kernel_rfl) (Nat.le_of_ble_eq_true rfl) ?_
  simp -implicitDefEqProofs only [go_sem, reduceEqDiff, reduceAdd, reduceLeDiff, reduceLT, reduceMul, reduceEq, Int.reduceLT, reduceLE, Int.reduceAdd, reduceSub, reduceToNat, UInt8.reduceToNat, Tryz.f75, encSvc]
  with_reducible refine nwC_intro fun id hid => ?_
  simp -implicitDefEqProofs only [go_sem, reduceEqDiff, reduceAdd, reduceLeDiff, reduceLT, reduceMul, reduceEq, Int.reduceLT, reduceLE, Int.reduceAdd, reduceSub, reduceToNat, UInt8.reduceToNat, puM, puN, sStr_eq, hR, h1, h2]
  repeat' (first | (with_reducible refine gd_intro (fun h => ?_) (fun h => ?_) <;> first | (exact absurd h (by decide)) | (simp at h; done) | simp -implicitDefEqProofs (disch := omega) only [go_sem, reduceEqDiff, reduceAdd, reduceLeDiff, reduceLT, reduceMul, reduceEq, Int.reduceLT, reduceLE, Int.reduceAdd, reduceSub, reduceToNat, UInt8.reduceToNat, Go.IntWalk.i64_in, puM, puN, sStr_eq, hR, *]) | (with_reducible refine cnd_intro (fun h => ?_) (fun h => ?_) <;> first | (exact absurd h (by decide)) | (simp at h; done) | simp -implicitDefEqProofs (disch := omega) only [go_sem, reduceEqDiff, reduceAdd, reduceLeDiff, reduceLT, reduceMul, reduceEq, Int.reduceLT, reduceLE, Int.reduceAdd, reduceSub, reduceToNat, UInt8.reduceToNat, Go.IntWalk.i64_in, puM, puN, sStr_eq, hR, *]))
  all_goals refine Done.drop1 hid ⟨?_, rfl⟩
  all_goals simp_all [svcErr]
/-! ### Equality of structs -/
theorem eq_file (n : Nat) (a b a' b' : Bytes) (c c' : Bool) : eqT Tryz.prog (n + 2) 41 (.agg [.str a, .str b, .bool c]) (.agg [.str a', .str b', .bool c']) = some (decide (a = a') && (decide (b = b') && (c == c' && true))) := by
  simp only [eqT, eqFields, tys, readC, TD.agg, List.drop_zero, List.drop_succ_cons, List.head?_cons, if_false, if_true, Bool.false_eq_true]
theorem eq_set (n : Nat) (a b a' b' : Bytes) : eqT Tryz.prog (n + 2) 36 (.agg [.str a, .str b]) (.agg [.str a', .str b']) = some (decide (a = a') && (decide (b = b') && true)) := by
  simp only [eqT, eqFields, tys, readC, TD.agg, List.drop_zero, List.drop_succ_cons, List.head?_cons, if_false, if_true, Bool.false_eq_true]
theorem eq_svc (n : Nat) (a b a' b' : Bytes) (c d c' d' : Bool) : eqT Tryz.prog (n + 2) 43 (.agg [.str a, .str b, .bool c, .bool d]) (.agg [.str a', .str b', .bool c', .bool d']) = some (decide (a = a') && (decide (b = b') && (c == c' && (d == d' && true)))) := by
  simp only [eqT, eqFields, tys, readC, TD.agg, List.drop_zero, List.drop_succ_cons, List.head?_cons, if_false, if_true, Bool.false_eq_true]
theorem eq_int (n : Nat) (a b : Int) : eqT Tryz.prog (n + 1) 3 (.int .i64 a) (.int .i64 b) = some (decide (a = b)) := by
  simp only [eqT, tys, if_true]
theorem eq_chg (n : Nat) (c d : ChgV) : eqT Tryz.prog (n + 3) 45 (.agg (encChg c)) (.agg (encChg d)) = some (decide (c = d)) := by
  have e : (decide (c = d)) = (decide (c.kind = d.kind) && (decide (c.file = d.file) && (decide (c.set = d.set) && (decide (c.svc = d.svc) && true)))) := by
    obtain ⟨k, ⟨a, b, r⟩, ⟨x, y⟩, ⟨p, q, u, v⟩⟩ := c
    obtain ⟨k', ⟨a', b', r'⟩, ⟨x', y'⟩, ⟨p', q', u', v'⟩⟩ := d
    rw [Bool.eq_iff_iff]
    simp
  rw [e]
  obtain ⟨k, ⟨a, b, r⟩, ⟨x, y⟩, ⟨p, q, u, v⟩⟩ := c
  obtain ⟨k', ⟨a', b', r'⟩, ⟨x', y'⟩, ⟨p', q', u', v'⟩⟩ := d
  rw [eqT]
  simp only [tys, eqFields, encChg, readC, TD.agg, List.drop_zero, List.drop_succ_cons, List.head?_cons, if_false, if_true, Bool.false_eq_true, List.length_cons, List.length_nil, Nat.reduceAdd, Nat.reduceLeDiff, List.take_succ_cons, List.take_zero, List.take_nil, eq_int, eq_file, eq_set, eq_svc, FileV.mk.injEq, SetV.mk.injEq, SvcV.mk.injEq]
  congr 1
  rw [Bool.eq_iff_iff]
  simp [and_assoc]
theorem neq_chg (cx cy : Bool) (c d : ChgV) : bin Tryz.prog .neq 45 cx cy (.agg (encChg c)) (.agg (encChg d)) = some (.bool (!decide (c = d))) := by
  have h := eq_chg 3 c d
  have e : eqA Tryz.prog 45 cx cy (.agg (encChg c)) (.agg (encChg d)) = some (decide (c = d)) := by
    unfold eqA
    simp only [tys, if_true]
    exact h
  show (eqA Tryz.prog 45 cx cy (.agg (encChg c)) (.agg (encChg d))).map (fun b => AV.bool (!b)) = _
  rw [e]; rfl
end Go.Proofs

/- Walks: changes and items, of the program and of the reference. -/
namespace Go.Proofs
open Go Go.Abs
open Nat (reduceEqDiff reduceAdd reduceLeDiff reduceLT reduceMul)
open Int (reduceEq reduceLE reduceSub reduceToNat)
set_option linter.unusedSimpArgs false
set_option linter.unusedVariables false
def encIn (n : Int) : List AV := [.int .i64 n]
def decIn : List AV → Option Int
  | [.int .i64 n] => some n
  | _ => none
theorem decIn_some {c : List AV} {n : Int} (h : decIn c = some n) : c = encIn n := by
  unfold decIn at h; split at h
  · cases h; rfl
  · cases h
theorem firstOf_at {l : List Int} {i : Nat} {e : Int} (h : firstOf (l.take i) = 0) (he : l[i]? = some e) (hne : e ≠ 0) : firstOf l = e := by
  induction l generalizing i with
  | nil => simp at he
  | cons d l ih =>
    cases i with
    | zero => simp at he; subst he; simp [firstOf, hne]
    | succ i =>
      simp only [List.take_succ_cons, firstOf] at h
      split at h
      · rename_i hd; simp only [firstOf, hd, if_true]; exact ih h (by simpa using he)
      · exact absurd h ‹_›
theorem firstOf_succ {l : List Int} {i : Nat} {e : Int} (h : firstOf (l.take i) = 0) (he : l[i]? = some e) (h0 : e = 0) : firstOf (l.take (i + 1)) = 0 := by
  induction l generalizing i with
  | nil => simp at he
  | cons d l ih =>
    cases i with
    | zero => simp at he; subst he; simp [firstOf, h0]
    | succ i =>
      simp only [List.take_succ_cons, firstOf] at h ⊢
      split at h
      · rename_i hd; simp only [hd, if_true]; exact ih h (by simpa using he)
      · exact absurd h ‹_›
theorem first_calls (l : List Int) (t : Tail) (H : Heap) (hl : l.length ≤ 1099511627776) : ACalls Tryz.prog 61 [.sl (l.map encIn) t] H fun x H' => x = .int .i64 (firstOf l) ∧ H' = H := by
  refine ACalls.of_code (X := { pure := puM }) puM_ok Tryz.func61 (by kernel_rfl) rfl (by kernel_rfl) (Nat.le_of_ble_eq_true rfl) ?_
  simp -implicitDefEqProofs only [go_sem, reduceEqDiff, reduceAdd, reduceLeDiff, reduceLT, reduceMul, reduceEq, Int.reduceLT, reduceLE, Int.reduceAdd, reduceSub, reduceToNat, UInt8.reduceToNat, Tryz.f61]
  refine aloop_intro (σ := Nat) (fun i => [(5, .sl (l.map encIn) t), (6, .int .i64 l.length), (7, .int .i64 i)]) (fun i G => G = H ∧ i ≤ l.length ∧ firstOf (l.take i) = 0) (fun i => l.length - i) 0 ?_ ?_ ?_
  · simp -implicitDefEqProofs only [go_sem, reduceEqDiff, reduceAdd, reduceLeDiff, reduceLT, reduceMul, reduceEq, Int.reduceLT, reduceLE, Int.reduceAdd, reduceSub, reduceToNat, UInt8.reduceToNat]
  · simp [firstOf]
  · intro i r G hv hI
    have h5 := hv.1
    have h6 := hv.2.1
    have h7 := hv.2.2.1
    have hG := hI.1.symm
    have hi := hI.2.1
    have hz := hI.2.2
    clear hv hI
    subst hG
    simp -implicitDefEqProofs only [go_sem, reduceEqDiff, reduceAdd, reduceLeDiff, reduceLT, reduceMul, reduceEq, Int.reduceLT, reduceLE, Int.reduceAdd, reduceSub, reduceToNat, UInt8.reduceToNat, h5, h6, h7]
    refine cnd_intro (fun h => ?_) (fun h => ?_)
    · simp only [decide_eq_true_eq] at h
      obtain ⟨c, hc⟩ : ∃ c, l[i]? = some c := ⟨l[i]'(by omega), List.getElem?_eq_getElem _⟩
      simp -implicitDefEqProofs only [go_sem, reduceEqDiff, reduceAdd, reduceLeDiff, reduceLT, reduceMul, reduceEq, Int.reduceLT, reduceLE, Int.reduceAdd, reduceSub, reduceToNat, UInt8.reduceToNat, h5, h6, h7, hc, encIn]
      refine cnd_intro (fun g => ?_) (fun g => ?_)
      · simp -implicitDefEqProofs only [go_sem, reduceEqDiff, reduceAdd, reduceLeDiff, reduceLT, reduceMul, reduceEq, Int.reduceLT, reduceLE, Int.reduceAdd, reduceSub, reduceToNat, UInt8.reduceToNat, h5, h6, h7, hc]
        simp only [decide_eq_true_eq] at g
        exact Done.now ⟨by rw [firstOf_at hz hc g], rfl⟩
      · simp -implicitDefEqProofs (disch := omega) only [go_sem, reduceEqDiff, reduceAdd, reduceLeDiff, reduceLT, reduceMul, reduceEq, Int.reduceLT, reduceLE, Int.reduceAdd, reduceSub, reduceToNat, UInt8.reduceToNat, Go.IntWalk.i64_in, h5, h6, h7, hc]
        simp only [decide_eq_false_iff_not, Decidable.not_not] at g
        exact Again.mk (i + 1) (by simp -implicitDefEqProofs only [go_sem, reduceEqDiff, reduceAdd, reduceLeDiff, reduceLT, reduceMul, reduceEq, Int.reduceLT, reduceLE, Int.reduceAdd, reduceSub, reduceToNat, UInt8.reduceToNat, h5, h6, h7]; exact rfl) ⟨rfl, by omega, firstOf_succ hz hc g⟩ (by omega)
    · simp only [decide_eq_false_iff_not] at h
      have e : i = l.length := by omega
      subst e
      rw [List.take_length] at hz
      simp -implicitDefEqProofs only [go_sem, reduceEqDiff, reduceAdd, reduceLeDiff, reduceLT, reduceMul, reduceEq, Int.reduceLT, reduceLE, Int.reduceAdd, reduceSub, reduceToNat, UInt8.reduceToNat, h5, h6, h7]
      exact Done.now ⟨by rw [hz], rfl⟩
theorem when_calls (b : Bool) (e : Int) (H : Heap) : ACalls Tryz.prog 60 [.bool b, .int .i64 e] H fun x H' => x = .int .i64 (if b then e else 0) ∧ H' = H := by
  refine ACalls.of_code (X := { pure := puM }) puM_ok Tryz.func60 (by kernel_rfl) rfl (by kernel_rfl) (Nat.le_of_ble_eq_true rfl) ?_
  simp -implicitDefEqProofs only [go_sem, reduceEqDiff, reduceAdd, reduceLeDiff, reduceLT, reduceMul, reduceEq, Int.reduceLT, reduceLE, Int.reduceAdd, reduceSub, reduceToNat, UInt8.reduceToNat, Tryz.f60]
  repeat' (first | (with_reducible refine gd_intro (fun h => ?_) (fun h => ?_) <;> first | (exact absurd h (by decide)) | (simp at h; done) | simp -implicitDefEqProofs (disch := omega) only [go_sem, reduceEqDiff, reduceAdd, reduceLeDiff, reduceLT, reduceMul, reduceEq, Int.reduceLT, reduceLE, Int.reduceAdd, reduceSub, reduceToNat, UInt8.reduceToNat, Go.IntWalk.i64_in, *]) | (with_reducible refine cnd_intro (fun h => ?_) (fun h => ?_) <;> first | (exact absurd h (by decide)) | (simp at h; done) | simp -implicitDefEqProofs (disch := omega) only [go_sem, reduceEqDiff, reduceAdd, reduceLeDiff, reduceLT, reduceMul, reduceEq, Int.reduceLT, reduceLE, Int.reduceAdd, reduceSub, reduceToNat, UInt8.reduceToNat, Go.IntWalk.i64_in, *]))
  all_goals (refine Done.now ⟨?_, rfl⟩; simp [*])
def sWhen : List AV → Option AV := fn2 .bool (.int .i64) fun b e => some (.int .i64 (if b then e else 0))
def sFirst : List AV → Option AV := fn1 (Rd.list decIn) fun l => if l.length ≤ 1099511627776 then some (.int .i64 (firstOf l)) else none
theorem sWhen_eq (b : Bool) (e : Int) : sWhen [.bool b, .int .i64 e] = some (.int .i64 (if b then e else 0)) := rfl
theorem decL_nil {α : Type} (d : List AV → Option α) : decL d [] = some [] := rfl
theorem decL_cons {α : Type} (d : List AV → Option α) (c : List AV) (es : List (List AV)) : decL d (c :: es) = (d c).bind fun a => (decL d es).map (a :: ·) := by
  rw [decL]
  cases d c <;> cases decL d es <;> rfl
theorem rdL_eq {α : Type} (d : List AV → Option α) (es : List (List AV)) (t : Tail) : (Rd.list d).rd (.sl es t) = decL d es := rfl
theorem decIn_eq (n : Int) : decIn [.int .i64 n] = some n := rfl
attribute [go_sem] decL_nil decL_cons rdL_eq decIn_eq
def sFileE : List AV → Option AV := fn1 (Rd.agg decFile) fun f => if fileR f then some (.int .i64 (fileErr f)) else none
def sSetE : List AV → Option AV := fn1 (Rd.agg decSet) fun f => if setR f then some (.int .i64 (setErr f)) else none
def sSvcE : List AV → Option AV := fn1 (Rd.agg decSvc) fun f => if svcR f then some (.int .i64 (svcErr f)) else none
def sSetF : List AV → Option AV
  | [x, .func f []] => ((Rd.agg decSet).rd x).bind fun s => if setR s then (if f = 73 then some (.int .i64 (setErr s)) else none) else none
  | _ => none
theorem sFileE_ok {P : Program} {f : FuncId} (h : ∀ a H, fileR a → ACalls P f [.agg (encFile a)] H fun x H' => x = .int .i64 (fileErr a) ∧ H' = H) : ∀ xs v, sFileE xs = some v → ∀ H, ACalls P f xs H fun x H' => x = v ∧ H' = H := by
  intro xs v hv H
  obtain ⟨x, s, rfl, h1, h2⟩ := fn1_some hv
  split at h2
  · cases h2; cases Rd.agg_some (fun _ _ => decFile_some) h1; exact h s H ‹_›
  · cases h2
theorem sSetE_ok {P : Program} {f : FuncId} (h : ∀ a H, setR a → ACalls P f [.agg (encSet a)] H fun x H' => x = .int .i64 (setErr a) ∧ H' = H) : ∀ xs v, sSetE xs = some v → ∀ H, ACalls P f xs H fun x H' => x = v ∧ H' = H := by
  intro xs v hv H
  obtain ⟨x, s, rfl, h1, h2⟩ := fn1_some hv
  split at h2
  · cases h2; cases Rd.agg_some (fun _ _ => decSet_some) h1; exact h s H ‹_›
  · cases h2
theorem sSvcE_ok {P : Program} {f : FuncId} (h : ∀ a H, svcR a → ACalls P f [.agg (encSvc a)] H fun x H' => x = .int .i64 (svcErr a) ∧ H' = H) : ∀ xs v, sSvcE xs = some v → ∀ H, ACalls P f xs H fun x H' => x = v ∧ H' = H := by
  intro xs v hv H
  obtain ⟨x, s, rfl, h1, h2⟩ := fn1_some hv
  split at h2
  · cases h2; cases Rd.agg_some (fun _ _ => decSvc_some) h1; exact h s H ‹_›
  · cases h2
def puC1 : Pures := putP 69 sFileE (putP 67 sSetF (putP 75 sSvcE (putP 61 sFirst (putP 60 sWhen puM))))
theorem puC1_dyn : isDyn puC1 = false := by simp only [puC1, go_sem, Nat.reduceEqDiff]
attribute [go_sem] puC1_dyn
theorem sWhen_ok {P : Program} {f : FuncId} (h : ∀ b e H, ACalls P f [.bool b, .int .i64 e] H fun x H' => x = .int .i64 (if b then e else 0) ∧ H' = H) : ∀ xs v, sWhen xs = some v → ∀ H, ACalls P f xs H fun x H' => x = v ∧ H' = H := by
  intro xs v hv H
  obtain ⟨x, y, p, q, rfl, h1, h2, h3⟩ := fn2_some hv
  cases h3
  cases Rd.bool_some h1
  cases Rd.int_some h2
  exact h _ _ H
theorem sFirst_ok {P : Program} {f : FuncId} (h : ∀ l t H, l.length ≤ 1099511627776 → ACalls P f [.sl (l.map encIn) t] H fun x H' => x = .int .i64 (firstOf l) ∧ H' = H) : ∀ xs v, sFirst xs = some v → ∀ H, ACalls P f xs H fun x H' => x = v ∧ H' = H := by
  intro xs v hv H
  obtain ⟨x, l, rfl, h1, h2⟩ := fn1_some hv
  split at h2
  · rename_i hl
    cases h2
    obtain ⟨t, rfl⟩ := Rd.list_some (fun _ _ => decIn_some) h1
    exact h l t H hl
  · cases h2
theorem sSetF_ok : ∀ xs v, sSetF xs = some v → ∀ H, ACalls Tryz.prog 67 xs H fun x H' => x = v ∧ H' = H := by
  intro xs v hv H
  unfold sSetF at hv
  split at hv
  · rename_i x f
    rw [Option.bind_eq_some_iff] at hv
    obtain ⟨s, h1, h2⟩ := hv
    split at h2
    · rename_i hr
      split at h2
      · rename_i hf
        subst hf
        cases h2
        cases Rd.agg_some (fun _ _ => decSet_some) h1
        exact settingFault_calls s H hr
      · cases h2
    · cases h2
  · cases hv
theorem puC1_ok : PuOK Tryz.prog puC1 := .put (.put (.put (.put (.put (puM_ok) (sWhen_ok when_calls)) (sFirst_ok first_calls)) (sSvcE_ok serviceFault_calls)) sSetF_ok) (sFileE_ok fileFault_calls)
theorem rFileError_calls (f : FileV) (H : Heap) (hr : fileR f) : ACalls Tryz.prog 62 [.agg (encFile f)] H fun x H' => x = .int .i64 (fileErr f) ∧ H' = H := by
  obtain ⟨h1, h2⟩ := hr
  have hR : Room = 1099511627776 := rfl
  refine ACalls.of_code (X := { pure := puC1 }) puC1_ok Tryz.func62 (by kernel_rfl) rfl (by kernel_rfl) (Nat.le_of_ble_eq_true rfl) ?_
  simp -implicitDefEqProofs only [go_sem, reduceEqDiff, reduceAdd, reduceLeDiff, reduceLT, reduceMul, reduceEq, Int.reduceLT, reduceLE, Int.reduceAdd, reduceSub, reduceToNat, UInt8.reduceToNat, Tryz.f62, puC1, puM, puN, puR1, encFile, sStr_eq, sWhen_eq, sFirst, hR, h1]
  with_reducible refine nwC_intro fun id hid => ?_
  simp -implicitDefEqProofs (disch := omega) only [go_sem, reduceEqDiff, reduceAdd, reduceLeDiff, reduceLT, reduceMul, reduceEq, Int.reduceLT, reduceLE, Int.reduceAdd, reduceSub, reduceToNat, UInt8.reduceToNat, Go.IntWalk.i64_in, puC1, puM, puN, puR1, sStr_eq, sWhen_eq, sFirst, hR, *]
  refine Done.drop1 hid ⟨?_, rfl⟩
  simp only [firstOf, fileErr]
  repeat' split
  all_goals simp_all
theorem rSettingError_calls (f : SetV) (H : Heap) (hr : setR f) : ACalls Tryz.prog 63 [.agg (encSet f)] H fun x H' => x = .int .i64 (setErr f) ∧ H' = H := by
  obtain ⟨h1, h2⟩ := hr
  have hR : Room = 1099511627776 := rfl
  refine ACalls.of_code (X := { pure := puC1 }) puC1_ok Tryz.func63 (by kernel_rfl) rfl (by kernel_rfl) (Nat.le_of_ble_eq_true rfl) ?_
  simp -implicitDefEqProofs only [go_sem, reduceEqDiff, reduceAdd, reduceLeDiff, reduceLT, reduceMul, reduceEq, Int.reduceLT, reduceLE, Int.reduceAdd, reduceSub, reduceToNat, UInt8.reduceToNat, Tryz.f63, puC1, puM, puN, puR1, encSet, sStr_eq, sWhen_eq, sFirst, hR, h1]
  with_reducible refine nwC_intro fun id hid => ?_
  simp -implicitDefEqProofs (disch := omega) only [go_sem, reduceEqDiff, reduceAdd, reduceLeDiff, reduceLT, reduceMul, reduceEq, Int.reduceLT, reduceLE, Int.reduceAdd, reduceSub, reduceToNat, UInt8.reduceToNat, Go.IntWalk.i64_in, puC1, puM, puN, puR1, sStr_eq, sWhen_eq, sFirst, hR, *]
  refine Done.drop1 hid ⟨?_, rfl⟩
  simp only [firstOf, setErr]
  repeat' split
  all_goals simp_all
theorem rServiceError_calls (f : SvcV) (H : Heap) (hr : svcR f) : ACalls Tryz.prog 64 [.agg (encSvc f)] H fun x H' => x = .int .i64 (svcErr f) ∧ H' = H := by
  obtain ⟨h1, h2⟩ := hr
  have hR : Room = 1099511627776 := rfl
  refine ACalls.of_code (X := { pure := puC1 }) puC1_ok Tryz.func64 (by kernel_rfl) rfl (by kernel_rfl) (Nat.le_of_ble_eq_true rfl) ?_
  simp -implicitDefEqProofs only [go_sem, reduceEqDiff, reduceAdd, reduceLeDiff, reduceLT, reduceMul, reduceEq, Int.reduceLT, reduceLE, Int.reduceAdd, reduceSub, reduceToNat, UInt8.reduceToNat, Tryz.f64, puC1, puM, puN, puR1, encSvc, sStr_eq, sWhen_eq, sFirst, hR, h1]
  with_reducible refine nwC_intro fun id hid => ?_
  simp -implicitDefEqProofs (disch := omega) only [go_sem, reduceEqDiff, reduceAdd, reduceLeDiff, reduceLT, reduceMul, reduceEq, Int.reduceLT, reduceLE, Int.reduceAdd, reduceSub, reduceToNat, UInt8.reduceToNat, Go.IntWalk.i64_in, puC1, puM, puN, puR1, sStr_eq, sWhen_eq, sFirst, hR, *]
  repeat' (first | (with_reducible refine gd_intro (fun h => ?_) (fun h => ?_) <;> first | (exact absurd h (by decide)) | (simp at h; done) | simp -implicitDefEqProofs (disch := omega) only [go_sem, reduceEqDiff, reduceAdd, reduceLeDiff, reduceLT, reduceMul, reduceEq, Int.reduceLT, reduceLE, Int.reduceAdd, reduceSub, reduceToNat, UInt8.reduceToNat, Go.IntWalk.i64_in, puC1, puM, puN, puR1, sStr_eq, sWhen_eq, sFirst, hR, *]) | (with_reducible refine cnd_intro (fun h => ?_) (fun h => ?_) <;> first | (exact absurd h (by decide)) | (simp at h; done) | simp -implicitDefEqProofs (disch := omega) only [go_sem, reduceEqDiff, reduceAdd, reduceLeDiff, reduceLT, reduceMul, reduceEq, Int.reduceLT, reduceLE, Int.reduceAdd, reduceSub, reduceToNat, UInt8.reduceToNat, Go.IntWalk.i64_in, puC1, puM, puN, puR1, sStr_eq, sWhen_eq, sFirst, hR, *]))
  all_goals refine Done.drop1 hid ⟨?_, rfl⟩
  all_goals (simp only [svcErr]; simp_all)
def puC2 : Pures := putP 62 sFileE (putP 63 sSetE (putP 64 sSvcE puC1))
theorem puC2_dyn : isDyn puC2 = false := by simp only [puC2, go_sem, Nat.reduceEqDiff]
attribute [go_sem] puC2_dyn
theorem puC2_ok : PuOK Tryz.prog puC2 := .put (.put (.put (puC1_ok) (sSvcE_ok rServiceError_calls)) (sSetE_ok rSettingError_calls)) (sFileE_ok rFileError_calls)
theorem neq_lit (cx cy : Bool) (k : Int) (a b : Bytes) (r : Bool) (x y p q : Bytes) (u v : Bool) (k' : Int) (a' b' : Bytes) (r' : Bool) (x' y' p' q' : Bytes) (u' v' : Bool) :
    bin Tryz.prog .neq 45 cx cy (.agg [.int .i64 k, .str a, .str b, .bool r, .str x, .str y, .str p, .str q, .bool u, .bool v]) (.agg [.int .i64 k', .str a', .str b', .bool r', .str x', .str y', .str p', .str q', .bool u', .bool v']) =
      some (.bool (!decide ((⟨k, ⟨a, b, r⟩, ⟨x, y⟩, ⟨p, q, u, v⟩⟩ : ChgV) = ⟨k', ⟨a', b', r'⟩, ⟨x', y'⟩, ⟨p', q', u', v'⟩⟩))) :=
  neq_chg cx cy ⟨k, ⟨a, b, r⟩, ⟨x, y⟩, ⟨p, q, u, v⟩⟩ ⟨k', ⟨a', b', r'⟩, ⟨x', y'⟩, ⟨p', q', u', v'⟩⟩
theorem decFile_eq (a b : Bytes) (c : Bool) : decFile [.str a, .str b, .bool c] = some ⟨a, b, c⟩ := rfl
theorem decSet_eq (a b : Bytes) : decSet [.str a, .str b] = some ⟨a, b⟩ := rfl
theorem decSvc_eq (a b : Bytes) (c d : Bool) : decSvc [.str a, .str b, .bool c, .bool d] = some ⟨a, b, c, d⟩ := rfl
theorem decChg_eq (k : Int) (a b : Bytes) (r : Bool) (x y p q : Bytes) (u v : Bool) : decChg [.int .i64 k, .str a, .str b, .bool r, .str x, .str y, .str p, .str q, .bool u, .bool v] = some ⟨k, ⟨a, b, r⟩, ⟨x, y⟩, ⟨p, q, u, v⟩⟩ := rfl
attribute [go_sem] decFile_eq decSet_eq decSvc_eq decChg_eq
theorem valueB_nil : valueB [] = true := rfl
set_option maxHeartbeats 3200000 in
theorem checkChange_calls (c : ChgV) (H : Heap) (hr : chgR c) : ACalls Tryz.prog 119 [.agg (encChg c)] H fun x H' => x = .int .i64 (chgErr c) ∧ H' = H := by
  obtain ⟨k, ⟨a, b, r⟩, ⟨x, y⟩, ⟨p, q, u, v⟩⟩ := c
  obtain ⟨h1, h2, h3⟩ := hr
  have hR : Room = 1099511627776 := rfl
  have g1 : fileR ⟨a, [], false⟩ := ⟨h1.1, by simp⟩
  have g2 : setR ⟨x, []⟩ := ⟨h2.1, by simp⟩
  have g3 : p.length ≤ 1099511627776 := h3.1
  simp only at h1 h2 h3
  refine ACalls.of_code (X := { pure := puC1 }) puC1_ok Tryz.func119 (by kernel_rfl) rfl (by kernel_rfl) (Nat.le_of_ble_eq_true rfl) ?_
  simp -implicitDefEqProofs only [go_sem, reduceEqDiff, reduceAdd, reduceLeDiff, reduceLT, reduceMul, reduceEq, Int.reduceLT, reduceLE, Int.reduceAdd, reduceSub, reduceToNat, UInt8.reduceToNat, Tryz.f119, encChg]
  with_reducible refine nwC_intro fun id hid => ?_
  simp -implicitDefEqProofs only [go_sem, reduceEqDiff, reduceAdd, reduceLeDiff, reduceLT, reduceMul, reduceEq, Int.reduceLT, reduceLE, Int.reduceAdd, reduceSub, reduceToNat, UInt8.reduceToNat]
  with_reducible refine nwC_intro fun id2 hid2 => ?_
  have n1 := (heap_none hid2).1
  have n2 := (heap_none hid2).2.1
  have hid3 := (heap_none hid2).2.2
  simp -implicitDefEqProofs only [go_sem, reduceEqDiff, reduceAdd, reduceLeDiff, reduceLT, reduceMul, reduceEq, Int.reduceLT, reduceLE, Int.reduceAdd, reduceSub, reduceToNat, UInt8.reduceToNat, puC1, sFileE, sSetF, sSvcE, put_ne, n1, n2]
  clear hid2
  repeat' (first | (with_reducible refine gd_intro (fun h => ?_) (fun h => ?_) <;> first | (exact absurd h (by decide)) | (simp at h; done) | simp -implicitDefEqProofs (disch := omega) only [go_sem, reduceEqDiff, reduceAdd, reduceLeDiff, reduceLT, reduceMul, reduceEq, Int.reduceLT, reduceLE, Int.reduceAdd, reduceSub, reduceToNat, UInt8.reduceToNat, Go.IntWalk.i64_in, puC1, puM, puN, sFileE, sSetF, sSvcE, sStr_eq, put_ne, n1, n2, neq_lit, hR, *]) | (with_reducible refine cnd_intro (fun h => ?_) (fun h => ?_) <;> first | (exact absurd h (by decide)) | (simp at h; done) | simp -implicitDefEqProofs (disch := omega) only [go_sem, reduceEqDiff, reduceAdd, reduceLeDiff, reduceLT, reduceMul, reduceEq, Int.reduceLT, reduceLE, Int.reduceAdd, reduceSub, reduceToNat, UInt8.reduceToNat, Go.IntWalk.i64_in, puC1, puM, puN, sFileE, sSetF, sSvcE, sStr_eq, put_ne, n1, n2, neq_lit, hR, *]))
  all_goals refine Done.drop2 hid hid3 ⟨?_, rfl⟩
  all_goals clear hid hid3 n1 n2
  all_goals congr 1
  all_goals simp only [decide_eq_true_eq, decide_eq_false_iff_not, Bool.not_eq_true', Bool.not_eq_false'] at *
  all_goals first
    | (subst k; simp_all [chgErr, partErr, kept, FileV.zero, SetV.zero, SvcV.zero, pathErr, nameErr, fileErr, setErr, valueB_nil]; done)
    | (rw [chgErr, if_pos (by simp only []; omega)]; done)
set_option maxHeartbeats 3200000 in
theorem rChangeError_calls (c : ChgV) (H : Heap) (hr : chgR c) : ACalls Tryz.prog 122 [.agg (encChg c)] H fun x H' => x = .int .i64 (chgErr c) ∧ H' = H := by
  obtain ⟨k, ⟨a, b, r⟩, ⟨x, y⟩, ⟨p, q, u, v⟩⟩ := c
  obtain ⟨h1, h2, h3⟩ := hr
  have hR : Room = 1099511627776 := rfl
  have g1 : a.length ≤ 1099511627776 := h1.1
  have g2 : x.length ≤ 1099511627776 := h2.1
  have g3 : p.length ≤ 1099511627776 := h3.1
  simp only at h1 h2 h3
  refine ACalls.of_code (X := { pure := puC2 }) puC2_ok Tryz.func122 (by kernel_rfl) rfl (by kernel_rfl) (Nat.le_of_ble_eq_true rfl) ?_
  simp -implicitDefEqProofs only [go_sem, reduceEqDiff, reduceAdd, reduceLeDiff, reduceLT, reduceMul, reduceEq, Int.reduceLT, reduceLE, Int.reduceAdd, reduceSub, reduceToNat, UInt8.reduceToNat, Tryz.f122, encChg]
  with_reducible refine nwC_intro fun id hid => ?_
  simp -implicitDefEqProofs only [go_sem, reduceEqDiff, reduceAdd, reduceLeDiff, reduceLT, reduceMul, reduceEq, Int.reduceLT, reduceLE, Int.reduceAdd, reduceSub, reduceToNat, UInt8.reduceToNat]
  with_reducible refine nwC_intro fun id2 hid2 => ?_
  have n1 := (heap_none hid2).1
  have n2 := (heap_none hid2).2.1
  have hid3 := (heap_none hid2).2.2
  clear hid2
  simp -implicitDefEqProofs only [go_sem, reduceEqDiff, reduceAdd, reduceLeDiff, reduceLT, reduceMul, reduceEq, Int.reduceLT, reduceLE, Int.reduceAdd, reduceSub, reduceToNat, UInt8.reduceToNat, puC2, puC1, sFileE, sSetE, sSvcE, put_ne, n1, n2]
  repeat' (first | (with_reducible refine gd_intro (fun h => ?_) (fun h => ?_) <;> first | (exact absurd h (by decide)) | (simp at h; done) | simp -implicitDefEqProofs (disch := omega) only [go_sem, reduceEqDiff, reduceAdd, reduceLeDiff, reduceLT, reduceMul, reduceEq, Int.reduceLT, reduceLE, Int.reduceAdd, reduceSub, reduceToNat, UInt8.reduceToNat, Go.IntWalk.i64_in, puC2, puC1, puM, puN, puR1, sFileE, sSetE, sSvcE, sStr_eq, sWhen_eq, sFirst, put_ne, n1, n2, neq_lit, hR, *]) | (with_reducible refine cnd_intro (fun h => ?_) (fun h => ?_) <;> first | (exact absurd h (by decide)) | (simp at h; done) | simp -implicitDefEqProofs (disch := omega) only [go_sem, reduceEqDiff, reduceAdd, reduceLeDiff, reduceLT, reduceMul, reduceEq, Int.reduceLT, reduceLE, Int.reduceAdd, reduceSub, reduceToNat, UInt8.reduceToNat, Go.IntWalk.i64_in, puC2, puC1, puM, puN, puR1, sFileE, sSetE, sSvcE, sStr_eq, sWhen_eq, sFirst, put_ne, n1, n2, neq_lit, hR, *]))
  all_goals refine Done.drop2 hid hid3 ⟨?_, rfl⟩
  all_goals clear hid hid3 n1 n2
  all_goals congr 1
  all_goals simp only [decide_eq_true_eq, decide_eq_false_iff_not, Bool.not_eq_true', Bool.not_eq_false'] at *
  all_goals first
    | (rw [chgErr, if_pos (by simp only []; omega)]; done)
    | (subst k
       simp only [firstOf, chgErr, partErr, kept, FileV.zero, SetV.zero, SvcV.zero, pathErr, nameErr]
       repeat' split
       all_goals simp_all)
end Go.Proofs

/- Walks: Check, on the program's side. -/
namespace Go.Proofs
open Go Go.Abs
open Nat (reduceEqDiff reduceAdd reduceLeDiff reduceLT reduceMul)
open Int (reduceEq reduceLE reduceSub reduceToNat)
set_option linter.unusedSimpArgs false
set_option linter.unusedVariables false
set_option maxRecDepth 20000
def sFactE : List AV → Option AV := fn1 (Rd.agg decSet) fun f => if setR f then some (.int .i64 (factErr f)) else none
def sKeyO : List AV → Option AV := fn1 (Rd.agg decSet) fun f => some (.str f.key)
def sNameO : List AV → Option AV := fn1 (Rd.agg decSvc) fun f => some (.str f.name)
theorem sFactE_ok {P : Program} {f : FuncId} (h : ∀ a H, setR a → ACalls P f [.agg (encSet a)] H fun x H' => x = .int .i64 (factErr a) ∧ H' = H) : ∀ xs v, sFactE xs = some v → ∀ H, ACalls P f xs H fun x H' => x = v ∧ H' = H := by
  intro xs v hv H
  obtain ⟨x, s, rfl, h1, h2⟩ := fn1_some hv
  split at h2
  · cases h2; cases Rd.agg_some (fun _ _ => decSet_some) h1; exact h s H ‹_›
  · cases h2
theorem keyOf_calls (f : SetV) (H : Heap) : ACalls Tryz.prog 68 [.agg (encSet f)] H fun x H' => x = .str f.key ∧ H' = H := by
  refine ACalls.of_code (X := { pure := pu0 }) pu0_ok Tryz.func68 (by kernel_rfl) rfl (by kernel_rfl) (Nat.le_of_ble_eq_true rfl) ?_
  simp -implicitDefEqProofs only [go_sem, reduceEqDiff, reduceAdd, reduceLeDiff, reduceLT, reduceMul, reduceEq, Int.reduceLT, reduceLE, Int.reduceAdd, reduceSub, reduceToNat, UInt8.reduceToNat, Tryz.f68, encSet]
  with_reducible refine nwC_intro fun i1 h1 => ?_
  simp -implicitDefEqProofs only [go_sem, reduceEqDiff, reduceAdd, reduceLeDiff, reduceLT, reduceMul, reduceEq, Int.reduceLT, reduceLE, Int.reduceAdd, reduceSub, reduceToNat, UInt8.reduceToNat]
  exact Done.drop1 h1 ⟨rfl, rfl⟩
theorem nameOf_calls (f : SvcV) (H : Heap) : ACalls Tryz.prog 76 [.agg (encSvc f)] H fun x H' => x = .str f.name ∧ H' = H := by
  refine ACalls.of_code (X := { pure := pu0 }) pu0_ok Tryz.func76 (by kernel_rfl) rfl (by kernel_rfl) (Nat.le_of_ble_eq_true rfl) ?_
  simp -implicitDefEqProofs only [go_sem, reduceEqDiff, reduceAdd, reduceLeDiff, reduceLT, reduceMul, reduceEq, Int.reduceLT, reduceLE, Int.reduceAdd, reduceSub, reduceToNat, UInt8.reduceToNat, Tryz.f76, encSvc]
  with_reducible refine nwC_intro fun i1 h1 => ?_
  simp -implicitDefEqProofs only [go_sem, reduceEqDiff, reduceAdd, reduceLeDiff, reduceLT, reduceMul, reduceEq, Int.reduceLT, reduceLE, Int.reduceAdd, reduceSub, reduceToNat, UInt8.reduceToNat]
  exact Done.drop1 h1 ⟨rfl, rfl⟩
theorem sKeyO_ok {P : Program} {f : FuncId} (h : ∀ a H, ACalls P f [.agg (encSet a)] H fun x H' => x = .str a.key ∧ H' = H) : ∀ xs v, sKeyO xs = some v → ∀ H, ACalls P f xs H fun x H' => x = v ∧ H' = H := by
  intro xs v hv H
  obtain ⟨x, s, rfl, h1, h2⟩ := fn1_some hv
  cases h2; cases Rd.agg_some (fun _ _ => decSet_some) h1; exact h s H
theorem sNameO_ok {P : Program} {f : FuncId} (h : ∀ a H, ACalls P f [.agg (encSvc a)] H fun x H' => x = .str a.name ∧ H' = H) : ∀ xs v, sNameO xs = some v → ∀ H, ACalls P f xs H fun x H' => x = v ∧ H' = H := by
  intro xs v hv H
  obtain ⟨x, s, rfl, h1, h2⟩ := fn1_some hv
  cases h2; cases Rd.agg_some (fun _ _ => decSvc_some) h1; exact h s H
theorem setFaultN_calls (f : SetV) (H : Heap) (hr : setR f) : ACalls Tryz.prog 67 [.agg (encSet f), .func 41 []] H fun x H' => x = .int .i64 (factErr f) ∧ H' = H := by
  obtain ⟨h1, h2⟩ := hr
  have hR : Room = 1099511627776 := rfl
  refine ACalls.of_code (X := { pure := puM }) puM_ok Tryz.func67 (by kernel_rfl) rfl (by kernel_rfl) (Nat.le_of_ble_eq_true rfl) ?_
  simp -implicitDefEqProofs only [go_sem, reduceEqDiff, reduceAdd, reduceLeDiff, reduceLT, reduceMul, reduceEq, Int.reduceLT, reduceLE, Int.reduceAdd, reduceSub, reduceToNat, UInt8.reduceToNat, Tryz.f67, encSet]
  with_reducible refine nwC_intro fun id hid => ?_
  simp -implicitDefEqProofs only [go_sem, reduceEqDiff, reduceAdd, reduceLeDiff, reduceLT, reduceMul, reduceEq, Int.reduceLT, reduceLE, Int.reduceAdd, reduceSub, reduceToNat, UInt8.reduceToNat, puM, puN, sStr_eq, hR, h1, h2]
  repeat' (first | (with_reducible refine gd_intro (fun h => ?_) (fun h => ?_) <;> first | (exact absurd h (by decide)) | (simp at h; done) | simp -implicitDefEqProofs (disch := omega) only [go_sem, reduceEqDiff, reduceAdd, reduceLeDiff, reduceLT, reduceMul, reduceEq, Int.reduceLT, reduceLE, Int.reduceAdd, reduceSub, reduceToNat, UInt8.reduceToNat, Go.IntWalk.i64_in, puM, puN, sStr_eq, hR, *]) | (with_reducible refine cnd_intro (fun h => ?_) (fun h => ?_) <;> first | (exact absurd h (by decide)) | (simp at h; done) | simp -implicitDefEqProofs (disch := omega) only [go_sem, reduceEqDiff, reduceAdd, reduceLeDiff, reduceLT, reduceMul, reduceEq, Int.reduceLT, reduceLE, Int.reduceAdd, reduceSub, reduceToNat, UInt8.reduceToNat, Go.IntWalk.i64_in, puM, puN, sStr_eq, hR, *]))
  all_goals refine Done.drop1 hid ⟨?_, rfl⟩
  all_goals simp_all [factErr]
theorem check1_calls (f : SetV) (H : Heap) (hr : setR f) : ACalls Tryz.prog 66 [.agg (encSet f)] H fun x H' => x = .int .i64 (factErr f) ∧ H' = H := by
  refine ACalls.of_code (X := { pure := pu0 }) pu0_ok Tryz.func66 (by kernel_rfl) rfl (by kernel_rfl) (Nat.le_of_ble_eq_true rfl) ?_
  simp -implicitDefEqProofs only [go_sem, reduceEqDiff, reduceAdd, reduceLeDiff, reduceLT, reduceMul, reduceEq, Int.reduceLT, reduceLE, Int.reduceAdd, reduceSub, reduceToNat, UInt8.reduceToNat, Tryz.f66, encSet]
  with_reducible refine nwC_intro fun i1 h1 => ?_
  simp -implicitDefEqProofs only [go_sem, reduceEqDiff, reduceAdd, reduceLeDiff, reduceLT, reduceMul, reduceEq, Int.reduceLT, reduceLE, Int.reduceAdd, reduceSub, reduceToNat, UInt8.reduceToNat]
  refine (setFaultN_calls f _ hr).pure_next _ ?_
  simp -implicitDefEqProofs only [go_sem, reduceEqDiff, reduceAdd, reduceLeDiff, reduceLT, reduceMul, reduceEq, Int.reduceLT, reduceLE, Int.reduceAdd, reduceSub, reduceToNat, UInt8.reduceToNat]
  exact Done.drop1 h1 ⟨rfl, rfl⟩
theorem check3_calls (f : SetV) (H : Heap) (hr : setR f) : ACalls Tryz.prog 72 [.agg (encSet f)] H fun x H' => x = .int .i64 (setErr f) ∧ H' = H := by
  refine ACalls.of_code (X := { pure := pu0 }) pu0_ok Tryz.func72 (by kernel_rfl) rfl (by kernel_rfl) (Nat.le_of_ble_eq_true rfl) ?_
  simp -implicitDefEqProofs only [go_sem, reduceEqDiff, reduceAdd, reduceLeDiff, reduceLT, reduceMul, reduceEq, Int.reduceLT, reduceLE, Int.reduceAdd, reduceSub, reduceToNat, UInt8.reduceToNat, Tryz.f72, encSet]
  with_reducible refine nwC_intro fun i1 h1 => ?_
  simp -implicitDefEqProofs only [go_sem, reduceEqDiff, reduceAdd, reduceLeDiff, reduceLT, reduceMul, reduceEq, Int.reduceLT, reduceLE, Int.reduceAdd, reduceSub, reduceToNat, UInt8.reduceToNat]
  refine (settingFault_calls f _ hr).pure_next _ ?_
  simp -implicitDefEqProofs only [go_sem, reduceEqDiff, reduceAdd, reduceLeDiff, reduceLT, reduceMul, reduceEq, Int.reduceLT, reduceLE, Int.reduceAdd, reduceSub, reduceToNat, UInt8.reduceToNat]
  exact Done.drop1 h1 ⟨rfl, rfl⟩
def sNone : List AV → Option AV := fun _ => none
/-- A number that no function has, to say that what is called by way of a register is known. -/
theorem dyn_ok {P : Program} : ∀ xs v, sNone xs = some v → ∀ H, ACalls P 999999999 xs H fun x H' => x = v ∧ H' = H := fun xs v h => by cases h
noncomputable def puE : Pures := putP 999999999 sNone (putP 66 sFactE (putP 72 sSetE (putP 75 sSvcE (putP 68 sKeyO (putP 76 sNameO pu0)))))
theorem puE_dyn : isDyn puE = true := by simp only [puE, go_sem, Nat.reduceEqDiff]
attribute [go_sem] puE_dyn
theorem puE_ok : PuOK Tryz.prog puE := .put (.put (.put (.put (.put (.put (pu0_ok) (sNameO_ok nameOf_calls)) (sKeyO_ok keyOf_calls)) (sSvcE_ok serviceFault_calls)) (sSetE_ok check3_calls)) (sFactE_ok check1_calls)) dyn_ok
set_option maxHeartbeats 1600000 in
theorem eachFact_calls (l : List SetV) (t : Tail) (H : Heap) (hl : l.length ≤ 1099511627776) (hr : ∀ x ∈ l, setR x) : ACalls Tryz.prog 65 [.sl (l.map encSet) t, .func 66 [], .func 68 []] H fun x H' => x = .int .i64 (eachE factErr (·.key) none l) ∧ H' = H := by
  refine ACalls.of_code (X := { pure := puE }) puE_ok Tryz.func65 (by kernel_rfl) rfl (by kernel_rfl) (Nat.le_of_ble_eq_true rfl) ?_
  simp -implicitDefEqProofs only [go_sem, reduceEqDiff, reduceAdd, reduceLeDiff, reduceLT, reduceMul, reduceEq, Int.reduceLT, reduceLE, Int.reduceAdd, reduceSub, reduceToNat, UInt8.reduceToNat, Tryz.f65]
  refine aloop_intro (σ := Nat) (fun i => [(0, .sl (l.map encSet) t), (1, .func 66 []), (2, .func 68 []), (10, .sl (l.map encSet) t), (11, .int .i64 l.length), (12, .int .i64 i)])
    (fun i G => H.Sub G ∧ i ≤ l.length ∧ eachE factErr (·.key) none l = eachE factErr (·.key) (prevK (·.key) l i) (l.drop i)) (fun i => l.length - i) 0 ?_ ?_ ?_
  · simp -implicitDefEqProofs only [go_sem, reduceEqDiff, reduceAdd, reduceLeDiff, reduceLT, reduceMul, reduceEq, Int.reduceLT, reduceLE, Int.reduceAdd, reduceSub, reduceToNat, UInt8.reduceToNat]
  · exact ⟨Heap.Sub.rfl' H, Nat.zero_le _, rfl⟩
  rintro i r G hv ⟨hS, hi, hE⟩
  have h0 := hv.1
  have h1 := hv.2.1
  have h2 := hv.2.2.1
  have h10 := hv.2.2.2.1
  have h11 := hv.2.2.2.2.1
  have h12 := hv.2.2.2.2.2.1
  clear hv
  by_cases g : i < l.length
  rotate_left
  · have y0 : decide ((i : Int) < l.length) = false := decide_eq_false (by omega)
    obtain rfl : i = l.length := by omega
    rw [List.drop_length, eachE] at hE
    simp -implicitDefEqProofs only [go_sem, reduceEqDiff, reduceAdd, reduceLeDiff, reduceLT, reduceMul, reduceEq, Int.reduceLT, reduceLE, Int.reduceAdd, reduceSub, reduceToNat, UInt8.reduceToNat, h0, h1, h2, h10, h11, h12, y0]
    exact Done.drop hS ⟨by rw [hE], rfl⟩
  have y0 : decide ((i : Int) < l.length) = true := decide_eq_true (by omega)
  obtain ⟨x, hx⟩ : ∃ x, l[i]? = some x := getD_get' g
  have hxr := hr x (List.mem_of_getElem? hx)
  have ws : IntKind.i64.wrap ((i : Int) + 1) = ((i + 1 : Nat) : Int) := by rw [Go.IntWalk.i64_in _ (by omega)]; omega
  rw [drop_at hx, eachE] at hE
  have hps := prevK_succ (·.key) hx
  have hU : ∀ (a : SetV), a ∈ l → (encSet a).length = 2 := fun _ _ => rfl
  obtain ⟨xkey, xvalue⟩ := x
  simp -implicitDefEqProofs only [go_sem, reduceEqDiff, reduceAdd, reduceLeDiff, reduceLT, reduceMul, reduceEq, Int.reduceLT, reduceLE, Int.reduceAdd, reduceSub, reduceToNat, UInt8.reduceToNat, h0, h1, h2, h10, h11, h12, y0, hx]
  refine ⟨hU, Nat.le_refl _, ?_⟩
  simp only [encSet, List.take_succ_cons, List.take_zero, List.take_nil]
  with_reducible refine nwC_intro fun i8 hi8 => ?_
  simp -implicitDefEqProofs only [go_sem, reduceEqDiff, reduceAdd, reduceLeDiff, reduceLT, reduceMul, reduceEq, Int.reduceLT, reduceLE, Int.reduceAdd, reduceSub, reduceToNat, UInt8.reduceToNat]
  generalize E8 : Heap.put G i8 _ = G8
  have hO_8 := obj_new E8 hi8 hS
  have n8 := hO_8.1
  have hS := hO_8.2.1
  have g8 := hO_8.2.2.1
  clear hO_8
  by_cases c1 : factErr ⟨xkey, xvalue⟩ = 0
  rotate_left
  · have y1 : decide (¬ factErr ⟨xkey, xvalue⟩ = 0) = true := decide_eq_true c1
    rw [if_pos c1] at hE
    simp -implicitDefEqProofs only [go_sem, reduceEqDiff, reduceAdd, reduceLeDiff, reduceLT, reduceMul, reduceEq, Int.reduceLT, reduceLE, Int.reduceAdd, reduceSub, reduceToNat, UInt8.reduceToNat, h0, h1, h2, h10, h11, h12, puE, sFactE, hxr, y1]
    exact Done.drop hS ⟨by rw [hE], rfl⟩
  have y1 : decide (¬ factErr ⟨xkey, xvalue⟩ = 0) = false := decide_eq_false (by simpa using c1)
  rw [if_neg (by simpa using c1)] at hE
  by_cases c2 : i = 0
  · subst c2
    have y2 : decide ((0 : Int) < ((0 : Nat) : Int)) = false := rfl
    have y3 : decide ((0 : Int) < 0) = false := rfl
    have w10 : IntKind.i64.wrap 1 = 1 := by decide
    simp -implicitDefEqProofs only [go_sem, reduceEqDiff, reduceAdd, reduceLeDiff, reduceLT, reduceMul, reduceEq, Int.reduceLT, reduceLE, Int.reduceAdd, reduceSub, reduceToNat, UInt8.reduceToNat, h0, h1, h2, h10, h11, h12, puE, sFactE, hxr, y1, y2, y3, ws]
    rw [if_neg (by simp [prevK, ordB]), ← hps] at hE
    exact Again.mk 1 (by simp -implicitDefEqProofs only [go_sem, reduceEqDiff, reduceAdd, reduceLeDiff, reduceLT, reduceMul, reduceEq, Int.reduceLT, reduceLE, Int.reduceAdd, reduceSub, reduceToNat, UInt8.reduceToNat, h0, h1, h2, h10, h11, w10]) ⟨hS, by omega, hE⟩ (by omega)
  have y2 : decide ((0 : Int) < (i : Int)) = true := decide_eq_true (by omega)
  have w1 : IntKind.i64.wrap ((i : Int) - 1) = ((i - 1 : Nat) : Int) := by rw [Go.IntWalk.i64_in _ (by omega)]; omega
  obtain ⟨q, hq⟩ : ∃ q, l[i - 1]? = some q := getD_get' (by omega)
  have hpk : prevK (·.key) l i = some (q.key) := by unfold prevK; rw [if_neg c2, hq]; rfl
  rw [hpk] at hE
  obtain ⟨qkey, qvalue⟩ := q
  simp -implicitDefEqProofs only [go_sem, reduceEqDiff, reduceAdd, reduceLeDiff, reduceLT, reduceMul, reduceEq, Int.reduceLT, reduceLE, Int.reduceAdd, reduceSub, reduceToNat, UInt8.reduceToNat, h0, h1, h2, h10, h11, h12, puE, sFactE, sKeyO, hxr, y1, y2, w1, hq, g8]
  refine ⟨by omega, Nat.le_refl _, ?_⟩
  simp only [encSet, List.take_succ_cons, List.take_zero, List.take_nil]
  by_cases c3 : leB xkey qkey = true
  · have y3 : (strLt xkey qkey || decide (xkey = qkey)) = true := c3
    rw [if_pos (show ordB (some qkey) xkey = true from c3)] at hE
    simp -implicitDefEqProofs only [go_sem, reduceEqDiff, reduceAdd, reduceLeDiff, reduceLT, reduceMul, reduceEq, Int.reduceLT, reduceLE, Int.reduceAdd, reduceSub, reduceToNat, UInt8.reduceToNat, h0, h1, h2, h10, h11, h12, puE, sFactE, sKeyO, hxr, y1, y2, y3, w1, hq, g8]
    exact Done.drop hS ⟨by rw [hE], rfl⟩
  · have y3 : (strLt xkey qkey || decide (xkey = qkey)) = false := by simpa [leB] using c3
    rw [if_neg (show ¬ ordB (some qkey) xkey = true from c3), ← hps] at hE
    simp -implicitDefEqProofs only [go_sem, reduceEqDiff, reduceAdd, reduceLeDiff, reduceLT, reduceMul, reduceEq, Int.reduceLT, reduceLE, Int.reduceAdd, reduceSub, reduceToNat, UInt8.reduceToNat, h0, h1, h2, h10, h11, h12, puE, sFactE, sKeyO, hxr, y1, y2, y3, w1, hq, g8, ws]
    exact Again.mk (i + 1) (by simp -implicitDefEqProofs only [go_sem, reduceEqDiff, reduceAdd, reduceLeDiff, reduceLT, reduceMul, reduceEq, Int.reduceLT, reduceLE, Int.reduceAdd, reduceSub, reduceToNat, UInt8.reduceToNat, h0, h1, h2, h10, h11]) ⟨hS, by omega, hE⟩ (by omega)

set_option maxHeartbeats 1600000 in
theorem eachSet_calls (l : List SetV) (t : Tail) (H : Heap) (hl : l.length ≤ 1099511627776) (hr : ∀ x ∈ l, setR x) : ACalls Tryz.prog 65 [.sl (l.map encSet) t, .func 72 [], .func 68 []] H fun x H' => x = .int .i64 (eachE setErr (·.key) none l) ∧ H' = H := by
  refine ACalls.of_code (X := { pure := puE }) puE_ok Tryz.func65 (by kernel_rfl) rfl (by kernel_rfl) (Nat.le_of_ble_eq_true rfl) ?_
  simp -implicitDefEqProofs only [go_sem, reduceEqDiff, reduceAdd, reduceLeDiff, reduceLT, reduceMul, reduceEq, Int.reduceLT, reduceLE, Int.reduceAdd, reduceSub, reduceToNat, UInt8.reduceToNat, Tryz.f65]
  refine aloop_intro (σ := Nat) (fun i => [(0, .sl (l.map encSet) t), (1, .func 72 []), (2, .func 68 []), (10, .sl (l.map encSet) t), (11, .int .i64 l.length), (12, .int .i64 i)])
    (fun i G => H.Sub G ∧ i ≤ l.length ∧ eachE setErr (·.key) none l = eachE setErr (·.key) (prevK (·.key) l i) (l.drop i)) (fun i => l.length - i) 0 ?_ ?_ ?_
  · simp -implicitDefEqProofs only [go_sem, reduceEqDiff, reduceAdd, reduceLeDiff, reduceLT, reduceMul, reduceEq, Int.reduceLT, reduceLE, Int.reduceAdd, reduceSub, reduceToNat, UInt8.reduceToNat]
  · exact ⟨Heap.Sub.rfl' H, Nat.zero_le _, rfl⟩
  rintro i r G hv ⟨hS, hi, hE⟩
  have h0 := hv.1
  have h1 := hv.2.1
  have h2 := hv.2.2.1
  have h10 := hv.2.2.2.1
  have h11 := hv.2.2.2.2.1
  have h12 := hv.2.2.2.2.2.1
  clear hv
  by_cases g : i < l.length
  rotate_left
  · have y0 : decide ((i : Int) < l.length) = false := decide_eq_false (by omega)
    obtain rfl : i = l.length := by omega
    rw [List.drop_length, eachE] at hE
    simp -implicitDefEqProofs only [go_sem, reduceEqDiff, reduceAdd, reduceLeDiff, reduceLT, reduceMul, reduceEq, Int.reduceLT, reduceLE, Int.reduceAdd, reduceSub, reduceToNat, UInt8.reduceToNat, h0, h1, h2, h10, h11, h12, y0]
    exact Done.drop hS ⟨by rw [hE], rfl⟩
  have y0 : decide ((i : Int) < l.length) = true := decide_eq_true (by omega)
  obtain ⟨x, hx⟩ : ∃ x, l[i]? = some x := getD_get' g
  have hxr := hr x (List.mem_of_getElem? hx)
  have ws : IntKind.i64.wrap ((i : Int) + 1) = ((i + 1 : Nat) : Int) := by rw [Go.IntWalk.i64_in _ (by omega)]; omega
  rw [drop_at hx, eachE] at hE
  have hps := prevK_succ (·.key) hx
  have hU : ∀ (a : SetV), a ∈ l → (encSet a).length = 2 := fun _ _ => rfl
  obtain ⟨xkey, xvalue⟩ := x
  simp -implicitDefEqProofs only [go_sem, reduceEqDiff, reduceAdd, reduceLeDiff, reduceLT, reduceMul, reduceEq, Int.reduceLT, reduceLE, Int.reduceAdd, reduceSub, reduceToNat, UInt8.reduceToNat, h0, h1, h2, h10, h11, h12, y0, hx]
  refine ⟨hU, Nat.le_refl _, ?_⟩
  simp only [encSet, List.take_succ_cons, List.take_zero, List.take_nil]
  with_reducible refine nwC_intro fun i8 hi8 => ?_
  simp -implicitDefEqProofs only [go_sem, reduceEqDiff, reduceAdd, reduceLeDiff, reduceLT, reduceMul, reduceEq, Int.reduceLT, reduceLE, Int.reduceAdd, reduceSub, reduceToNat, UInt8.reduceToNat]
  generalize E8 : Heap.put G i8 _ = G8
  have hO_8 := obj_new E8 hi8 hS
  have n8 := hO_8.1
  have hS := hO_8.2.1
  have g8 := hO_8.2.2.1
  clear hO_8
  by_cases c1 : setErr ⟨xkey, xvalue⟩ = 0
  rotate_left
  · have y1 : decide (¬ setErr ⟨xkey, xvalue⟩ = 0) = true := decide_eq_true c1
    rw [if_pos c1] at hE
    simp -implicitDefEqProofs only [go_sem, reduceEqDiff, reduceAdd, reduceLeDiff, reduceLT, reduceMul, reduceEq, Int.reduceLT, reduceLE, Int.reduceAdd, reduceSub, reduceToNat, UInt8.reduceToNat, h0, h1, h2, h10, h11, h12, puE, sSetE, hxr, y1]
    exact Done.drop hS ⟨by rw [hE], rfl⟩
  have y1 : decide (¬ setErr ⟨xkey, xvalue⟩ = 0) = false := decide_eq_false (by simpa using c1)
  rw [if_neg (by simpa using c1)] at hE
  by_cases c2 : i = 0
  · subst c2
    have y2 : decide ((0 : Int) < ((0 : Nat) : Int)) = false := rfl
    have y3 : decide ((0 : Int) < 0) = false := rfl
    have w10 : IntKind.i64.wrap 1 = 1 := by decide
    simp -implicitDefEqProofs only [go_sem, reduceEqDiff, reduceAdd, reduceLeDiff, reduceLT, reduceMul, reduceEq, Int.reduceLT, reduceLE, Int.reduceAdd, reduceSub, reduceToNat, UInt8.reduceToNat, h0, h1, h2, h10, h11, h12, puE, sSetE, hxr, y1, y2, y3, ws]
    rw [if_neg (by simp [prevK, ordB]), ← hps] at hE
    exact Again.mk 1 (by simp -implicitDefEqProofs only [go_sem, reduceEqDiff, reduceAdd, reduceLeDiff, reduceLT, reduceMul, reduceEq, Int.reduceLT, reduceLE, Int.reduceAdd, reduceSub, reduceToNat, UInt8.reduceToNat, h0, h1, h2, h10, h11, w10]) ⟨hS, by omega, hE⟩ (by omega)
  have y2 : decide ((0 : Int) < (i : Int)) = true := decide_eq_true (by omega)
  have w1 : IntKind.i64.wrap ((i : Int) - 1) = ((i - 1 : Nat) : Int) := by rw [Go.IntWalk.i64_in _ (by omega)]; omega
  obtain ⟨q, hq⟩ : ∃ q, l[i - 1]? = some q := getD_get' (by omega)
  have hpk : prevK (·.key) l i = some (q.key) := by unfold prevK; rw [if_neg c2, hq]; rfl
  rw [hpk] at hE
  obtain ⟨qkey, qvalue⟩ := q
  simp -implicitDefEqProofs only [go_sem, reduceEqDiff, reduceAdd, reduceLeDiff, reduceLT, reduceMul, reduceEq, Int.reduceLT, reduceLE, Int.reduceAdd, reduceSub, reduceToNat, UInt8.reduceToNat, h0, h1, h2, h10, h11, h12, puE, sSetE, sKeyO, hxr, y1, y2, w1, hq, g8]
  refine ⟨by omega, Nat.le_refl _, ?_⟩
  simp only [encSet, List.take_succ_cons, List.take_zero, List.take_nil]
  by_cases c3 : leB xkey qkey = true
  · have y3 : (strLt xkey qkey || decide (xkey = qkey)) = true := c3
    rw [if_pos (show ordB (some qkey) xkey = true from c3)] at hE
    simp -implicitDefEqProofs only [go_sem, reduceEqDiff, reduceAdd, reduceLeDiff, reduceLT, reduceMul, reduceEq, Int.reduceLT, reduceLE, Int.reduceAdd, reduceSub, reduceToNat, UInt8.reduceToNat, h0, h1, h2, h10, h11, h12, puE, sSetE, sKeyO, hxr, y1, y2, y3, w1, hq, g8]
    exact Done.drop hS ⟨by rw [hE], rfl⟩
  · have y3 : (strLt xkey qkey || decide (xkey = qkey)) = false := by simpa [leB] using c3
    rw [if_neg (show ¬ ordB (some qkey) xkey = true from c3), ← hps] at hE
    simp -implicitDefEqProofs only [go_sem, reduceEqDiff, reduceAdd, reduceLeDiff, reduceLT, reduceMul, reduceEq, Int.reduceLT, reduceLE, Int.reduceAdd, reduceSub, reduceToNat, UInt8.reduceToNat, h0, h1, h2, h10, h11, h12, puE, sSetE, sKeyO, hxr, y1, y2, y3, w1, hq, g8, ws]
    exact Again.mk (i + 1) (by simp -implicitDefEqProofs only [go_sem, reduceEqDiff, reduceAdd, reduceLeDiff, reduceLT, reduceMul, reduceEq, Int.reduceLT, reduceLE, Int.reduceAdd, reduceSub, reduceToNat, UInt8.reduceToNat, h0, h1, h2, h10, h11]) ⟨hS, by omega, hE⟩ (by omega)

set_option maxHeartbeats 1600000 in
theorem eachSvc_calls (l : List SvcV) (t : Tail) (H : Heap) (hl : l.length ≤ 1099511627776) (hr : ∀ x ∈ l, svcR x) : ACalls Tryz.prog 74 [.sl (l.map encSvc) t, .func 75 [], .func 76 []] H fun x H' => x = .int .i64 (eachE svcErr (·.name) none l) ∧ H' = H := by
  refine ACalls.of_code (X := { pure := puE }) puE_ok Tryz.func74 (by kernel_rfl) rfl (by kernel_rfl) (Nat.le_of_ble_eq_true rfl) ?_
  simp -implicitDefEqProofs only [go_sem, reduceEqDiff, reduceAdd, reduceLeDiff, reduceLT, reduceMul, reduceEq, Int.reduceLT, reduceLE, Int.reduceAdd, reduceSub, reduceToNat, UInt8.reduceToNat, Tryz.f74]
  refine aloop_intro (σ := Nat) (fun i => [(0, .sl (l.map encSvc) t), (1, .func 75 []), (2, .func 76 []), (10, .sl (l.map encSvc) t), (11, .int .i64 l.length), (12, .int .i64 i)])
    (fun i G => H.Sub G ∧ i ≤ l.length ∧ eachE svcErr (·.name) none l = eachE svcErr (·.name) (prevK (·.name) l i) (l.drop i)) (fun i => l.length - i) 0 ?_ ?_ ?_
  · simp -implicitDefEqProofs only [go_sem, reduceEqDiff, reduceAdd, reduceLeDiff, reduceLT, reduceMul, reduceEq, Int.reduceLT, reduceLE, Int.reduceAdd, reduceSub, reduceToNat, UInt8.reduceToNat]
  · exact ⟨Heap.Sub.rfl' H, Nat.zero_le _, rfl⟩
  rintro i r G hv ⟨hS, hi, hE⟩
  have h0 := hv.1
  have h1 := hv.2.1
  have h2 := hv.2.2.1
  have h10 := hv.2.2.2.1
  have h11 := hv.2.2.2.2.1
  have h12 := hv.2.2.2.2.2.1
  clear hv
  by_cases g : i < l.length
  rotate_left
  · have y0 : decide ((i : Int) < l.length) = false := decide_eq_false (by omega)
    obtain rfl : i = l.length := by omega
    rw [List.drop_length, eachE] at hE
    simp -implicitDefEqProofs only [go_sem, reduceEqDiff, reduceAdd, reduceLeDiff, reduceLT, reduceMul, reduceEq, Int.reduceLT, reduceLE, Int.reduceAdd, reduceSub, reduceToNat, UInt8.reduceToNat, h0, h1, h2, h10, h11, h12, y0]
    exact Done.drop hS ⟨by rw [hE], rfl⟩
  have y0 : decide ((i : Int) < l.length) = true := decide_eq_true (by omega)
  obtain ⟨x, hx⟩ : ∃ x, l[i]? = some x := getD_get' g
  have hxr := hr x (List.mem_of_getElem? hx)
  have ws : IntKind.i64.wrap ((i : Int) + 1) = ((i + 1 : Nat) : Int) := by rw [Go.IntWalk.i64_in _ (by omega)]; omega
  rw [drop_at hx, eachE] at hE
  have hps := prevK_succ (·.name) hx
  have hU : ∀ (a : SvcV), a ∈ l → (encSvc a).length = 4 := fun _ _ => rfl
  obtain ⟨xname, xpath, xauto, xon⟩ := x
  simp -implicitDefEqProofs only [go_sem, reduceEqDiff, reduceAdd, reduceLeDiff, reduceLT, reduceMul, reduceEq, Int.reduceLT, reduceLE, Int.reduceAdd, reduceSub, reduceToNat, UInt8.reduceToNat, h0, h1, h2, h10, h11, h12, y0, hx]
  refine ⟨hU, Nat.le_refl _, ?_⟩
  simp only [encSvc, List.take_succ_cons, List.take_zero, List.take_nil]
  with_reducible refine nwC_intro fun i8 hi8 => ?_
  simp -implicitDefEqProofs only [go_sem, reduceEqDiff, reduceAdd, reduceLeDiff, reduceLT, reduceMul, reduceEq, Int.reduceLT, reduceLE, Int.reduceAdd, reduceSub, reduceToNat, UInt8.reduceToNat]
  generalize E8 : Heap.put G i8 _ = G8
  have hO_8 := obj_new E8 hi8 hS
  have n8 := hO_8.1
  have hS := hO_8.2.1
  have g8 := hO_8.2.2.1
  clear hO_8
  by_cases c1 : svcErr ⟨xname, xpath, xauto, xon⟩ = 0
  rotate_left
  · have y1 : decide (¬ svcErr ⟨xname, xpath, xauto, xon⟩ = 0) = true := decide_eq_true c1
    rw [if_pos c1] at hE
    simp -implicitDefEqProofs only [go_sem, reduceEqDiff, reduceAdd, reduceLeDiff, reduceLT, reduceMul, reduceEq, Int.reduceLT, reduceLE, Int.reduceAdd, reduceSub, reduceToNat, UInt8.reduceToNat, h0, h1, h2, h10, h11, h12, puE, sSvcE, hxr, y1]
    exact Done.drop hS ⟨by rw [hE], rfl⟩
  have y1 : decide (¬ svcErr ⟨xname, xpath, xauto, xon⟩ = 0) = false := decide_eq_false (by simpa using c1)
  rw [if_neg (by simpa using c1)] at hE
  by_cases c2 : i = 0
  · subst c2
    have y2 : decide ((0 : Int) < ((0 : Nat) : Int)) = false := rfl
    have y3 : decide ((0 : Int) < 0) = false := rfl
    have w10 : IntKind.i64.wrap 1 = 1 := by decide
    simp -implicitDefEqProofs only [go_sem, reduceEqDiff, reduceAdd, reduceLeDiff, reduceLT, reduceMul, reduceEq, Int.reduceLT, reduceLE, Int.reduceAdd, reduceSub, reduceToNat, UInt8.reduceToNat, h0, h1, h2, h10, h11, h12, puE, sSvcE, hxr, y1, y2, y3, ws]
    rw [if_neg (by simp [prevK, ordB]), ← hps] at hE
    exact Again.mk 1 (by simp -implicitDefEqProofs only [go_sem, reduceEqDiff, reduceAdd, reduceLeDiff, reduceLT, reduceMul, reduceEq, Int.reduceLT, reduceLE, Int.reduceAdd, reduceSub, reduceToNat, UInt8.reduceToNat, h0, h1, h2, h10, h11, w10]) ⟨hS, by omega, hE⟩ (by omega)
  have y2 : decide ((0 : Int) < (i : Int)) = true := decide_eq_true (by omega)
  have w1 : IntKind.i64.wrap ((i : Int) - 1) = ((i - 1 : Nat) : Int) := by rw [Go.IntWalk.i64_in _ (by omega)]; omega
  obtain ⟨q, hq⟩ : ∃ q, l[i - 1]? = some q := getD_get' (by omega)
  have hpk : prevK (·.name) l i = some (q.name) := by unfold prevK; rw [if_neg c2, hq]; rfl
  rw [hpk] at hE
  obtain ⟨qname, qpath, qauto, qon⟩ := q
  simp -implicitDefEqProofs only [go_sem, reduceEqDiff, reduceAdd, reduceLeDiff, reduceLT, reduceMul, reduceEq, Int.reduceLT, reduceLE, Int.reduceAdd, reduceSub, reduceToNat, UInt8.reduceToNat, h0, h1, h2, h10, h11, h12, puE, sSvcE, sNameO, hxr, y1, y2, w1, hq, g8]
  refine ⟨by omega, Nat.le_refl _, ?_⟩
  simp only [encSvc, List.take_succ_cons, List.take_zero, List.take_nil]
  by_cases c3 : leB xname qname = true
  · have y3 : (strLt xname qname || decide (xname = qname)) = true := c3
    rw [if_pos (show ordB (some qname) xname = true from c3)] at hE
    simp -implicitDefEqProofs only [go_sem, reduceEqDiff, reduceAdd, reduceLeDiff, reduceLT, reduceMul, reduceEq, Int.reduceLT, reduceLE, Int.reduceAdd, reduceSub, reduceToNat, UInt8.reduceToNat, h0, h1, h2, h10, h11, h12, puE, sSvcE, sNameO, hxr, y1, y2, y3, w1, hq, g8]
    exact Done.drop hS ⟨by rw [hE], rfl⟩
  · have y3 : (strLt xname qname || decide (xname = qname)) = false := by simpa [leB] using c3
    rw [if_neg (show ¬ ordB (some qname) xname = true from c3), ← hps] at hE
    simp -implicitDefEqProofs only [go_sem, reduceEqDiff, reduceAdd, reduceLeDiff, reduceLT, reduceMul, reduceEq, Int.reduceLT, reduceLE, Int.reduceAdd, reduceSub, reduceToNat, UInt8.reduceToNat, h0, h1, h2, h10, h11, h12, puE, sSvcE, sNameO, hxr, y1, y2, y3, w1, hq, g8, ws]
    exact Again.mk (i + 1) (by simp -implicitDefEqProofs only [go_sem, reduceEqDiff, reduceAdd, reduceLeDiff, reduceLT, reduceMul, reduceEq, Int.reduceLT, reduceLE, Int.reduceAdd, reduceSub, reduceToNat, UInt8.reduceToNat, h0, h1, h2, h10, h11]) ⟨hS, by omega, hE⟩ (by omega)

end Go.Proofs

/- Walks: strings.Builder. -/
namespace Go.Proofs
open Go Go.Abs
open Nat (reduceEqDiff reduceAdd reduceLeDiff reduceLT reduceMul)
open Int (reduceEq reduceLE reduceSub reduceToNat)
set_option linter.unusedSimpArgs false
set_option linter.unusedVariables false

/-- Bytes as cells of a slice. -/
def bcell (b : UInt8) : List AV := [.int .u8 b.toNat]
abbrev bldP (b : Nat) : AV := .tptr 147 2 b
def addrOK (b : Nat) (p : AV) : Prop := p = .nilp ∨ p = bldP b
/-- The builder 'b' holds these bytes; 'H': what there is beside it. -/
def BufOK (g : Bool) (H G : Heap) (b : Nat) (buf : AV) (l : Bytes) : Prop := buf = .snil ∧ l = [] ∨ ∃ t, buf = .sl (l.map bcell) (.tok t 1 (some 5)) ∧ H t = none ∧ G t = some (.tail l.length) ∧ ¬ t = b ∧ (g = false → l ≠ [])
/-- .. 'g': it may have got room, and hold nothing. -/
def BldG (g : Bool) (H G : Heap) (b : Nat) (l : Bytes) : Prop := H.Sub G ∧ H b = none ∧ ∃ p buf, G b = some (.cells [p, buf]) ∧ addrOK b p ∧ BufOK g H G b buf l
abbrev BldOK (H G : Heap) (b : Nat) (l : Bytes) : Prop := BldG false H G b l
/-- What a builder's writing leaves of other objects. -/
def tokOf (G : Heap) (b : Nat) : Option Nat := match G b with
  | some (.cells [_, .sl _ (.tok t _ _)]) => some t
  | _ => none
def BKept (b : Nat) (G G' : Heap) : Prop := ∀ i o, G i = some o → ¬ i = b → tokOf G b ≠ some i → G' i = some o
theorem BldG.sub {g : Bool} {H G : Heap} {b : Nat} {l : Bytes} (h : BldG g H G b l) : H.Sub G := h.1
theorem BldG.tok {g : Bool} {H G : Heap} {b : Nat} {l : Bytes} (h : BldG g H G b l) {t : Nat} (ht : tokOf G b = some t) : H t = none := by
  obtain ⟨_, _, p, buf, h3, h4, h5⟩ := h
  unfold tokOf at ht
  rw [h3] at ht
  rcases h5 with ⟨rfl, -⟩ | ⟨t', rfl, h6, -⟩
  · cases ht
  · cases ht; exact h6
/-- Objects that stand beside stay. -/
theorem BldG.kept {g : Bool} {H G G' : Heap} {b : Nat} {l : Bytes} (h : BldG g H G b l) (hk : BKept b G G') {i : Nat} {o : AObj} (hi : H i = some o) : G' i = some o :=
  hk i o (h.1 i o hi) (fun e => by subst e; rw [h.2.1] at hi; cases hi) (fun e => by rw [h.tok e] at hi; cases hi)
theorem BldG.put {g : Bool} {H G : Heap} {b : Nat} {l : Bytes} (h : BldG g H G b l) {i : Nat} (hi : G i = none) (o : AObj) : BldG g H (G.put i o) b l := by
  obtain ⟨h1, h2, p, buf, h3, h4, h5⟩ := h
  have hH : H i = none := by
    cases hh : H i with
    | none => rfl
    | some x => have := h1 i x hh; rw [hi] at this; cases this
  have hb : ¬ b = i := fun e => by subst e; rw [h3] at hi; cases hi
  refine ⟨h1.put' hH o, h2, p, buf, by rw [put_ne _ _ _ _ hb]; exact h3, h4, ?_⟩
  rcases h5 with h5 | ⟨t, t1, t2, t3, t4, t9⟩
  · exact .inl h5
  · have ht : ¬ t = i := fun e => by subst e; rw [t3] at hi; cases hi
    exact .inr ⟨t, t1, t2, by rw [put_ne _ _ _ _ ht]; exact t3, t4, t9⟩
/-- A new builder. -/
theorem BldG.new {H G : Heap} (h : H.Sub G) {b : Nat} (hb : G b = none) : BldOK H (G.put b (.cells [.nilp, .snil])) b [] := by
  have hH : H b = none := by
    cases hh : H b with
    | none => rfl
    | some x => have := h b x hh; rw [hb] at this; cases this
  exact ⟨h.put' hH _, hH, _, _, put_same _ _ _, .inl rfl, .inl ⟨rfl, rfl⟩⟩
/-! ### In passing -/
end Go.Proofs
