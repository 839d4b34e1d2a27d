/-
  Walks and plain laws, part 2.
-/
import Derived.Test.YtfippeedjajnkaaGreatDoorM1
/- Walks: the reference's SumOf. -/
namespace Go.Proofs
open Go Go.Abs
open Nat (reduceEqDiff reduceAdd reduceLeDiff reduceLT reduceMul)
open Int (reduceEq reduceLE reduceSub reduceToNat)
set_option linter.unusedSimpArgs false
set_option linter.unusedVariables false
def preB (p s : Bytes) : Bool := decide (s.take p.length = p)
def sPre : List AV → Option AV := fn2 .str .str fun s p => some (.bool (preB p s))
def puS2 : Pures := putP 147 sPre puS1
theorem puS2_dyn : isDyn puS2 = false := by simp only [puS2, go_sem, Nat.reduceEqDiff]
attribute [go_sem] puS2_dyn
def puS3 : Pures := putP 116 sPre puS2
theorem puS3_dyn : isDyn puS3 = false := by simp only [puS3, go_sem, Nat.reduceEqDiff]
attribute [go_sem] puS3_dyn
def puS4 : Pures := puS3
theorem puS4_dyn : isDyn puS4 = isDyn puS3 := rfl
attribute [go_sem] puS4_dyn
def puS5 : Pures := puS4
theorem puS5_dyn : isDyn puS5 = isDyn puS4 := rfl
attribute [go_sem] puS5_dyn
def puS6 : Pures := puS5
theorem puS6_dyn : isDyn puS6 = isDyn puS5 := rfl
attribute [go_sem] puS6_dyn
def puS7 : Pures := puS6
theorem puS7_dyn : isDyn puS7 = isDyn puS6 := rfl
attribute [go_sem] puS7_dyn
def sSum : List AV → Option AV := fn1 .str fun s => if s.length ≤ Room then some (.str (sumOf s)) else none
theorem sSum_ok {P : Program} {f : FuncId} (h : ∀ s H, s.length ≤ Room → ACalls P f [.str s] H fun x H' => x = .str (sumOf s) ∧ H' = H) : ∀ xs v, sSum xs = some v → ∀ H, ACalls P f xs H fun x H' => x = v ∧ H' = H := by
  intro xs v hv H
  obtain ⟨x, s, rfl, h1, h2⟩ := fn1_some hv
  split at h2
  · cases h2
    cases Rd.str_some h1
    exact h s H ‹_›
  · cases h2
def puM : Pures := putP 77 sSum puN
theorem puM_dyn : isDyn puM = false := by simp only [puM, go_sem, Nat.reduceEqDiff]
attribute [go_sem] puM_dyn
theorem puM_ok : PuOK Tryz.prog puM := .put (puN_ok) (sSum_ok sumOf_calls)
end Go.Proofs

/- Things of a machine, changes, items, what is held: plain Lean, no program. -/
namespace Go.Proofs
open Go Go.Abs
set_option linter.unusedSimpArgs false
set_option linter.unusedVariables false
structure FileV where
  path : Bytes
  data : Bytes
  runs : Bool
  deriving DecidableEq
structure SetV where
  key : Bytes
  value : Bytes
  deriving DecidableEq
structure SvcV where
  name : Bytes
  path : Bytes
  auto : Bool
  on : Bool
  deriving DecidableEq
/-- A change; an item. -/
structure ChgV where
  kind : Int
  file : FileV
  set : SetV
  svc : SvcV
  deriving DecidableEq
def FileV.zero : FileV := ⟨[], [], false⟩
def SetV.zero : SetV := ⟨[], []⟩
def SvcV.zero : SvcV := ⟨[], [], false, false⟩
def encFile (f : FileV) : List AV := [.str f.path, .str f.data, .bool f.runs]
def encSet (s : SetV) : List AV := [.str s.key, .str s.value]
def encSvc (s : SvcV) : List AV := [.str s.name, .str s.path, .bool s.auto, .bool s.on]
def encChg (c : ChgV) : List AV := [.int .i64 c.kind, .str c.file.path, .str c.file.data, .bool c.file.runs, .str c.set.key, .str c.set.value, .str c.svc.name, .str c.svc.path, .bool c.svc.auto, .bool c.svc.on]
def decFile : List AV → Option FileV
  | [.str a, .str b, .bool c] => some ⟨a, b, c⟩
  | _ => none
def decSet : List AV → Option SetV
  | [.str a, .str b] => some ⟨a, b⟩
  | _ => none
def decSvc : List AV → Option SvcV
  | [.str a, .str b, .bool c, .bool d] => some ⟨a, b, c, d⟩
  | _ => none
def decChg : List AV → Option ChgV
  | [.int .i64 k, .str a, .str b, .bool c, .str d, .str e, .str f, .str g, .bool h, .bool i] => some ⟨k, ⟨a, b, c⟩, ⟨d, e⟩, ⟨f, g, h, i⟩⟩
  | _ => none
theorem decFile_some {c : List AV} {a : FileV} (h : decFile c = some a) : c = encFile a := by
  unfold decFile at h; split at h
  · cases h; rfl
  · cases h
theorem decSet_some {c : List AV} {a : SetV} (h : decSet c = some a) : c = encSet a := by
  unfold decSet at h; split at h
  · cases h; rfl
  · cases h
theorem decSvc_some {c : List AV} {a : SvcV} (h : decSvc c = some a) : c = encSvc a := by
  unfold decSvc at h; split at h
  · cases h; rfl
  · cases h
def fileErr (f : FileV) : Int := if pathB f.path = false then 5 else if (65536 : Int) < f.data.length then 4 else 0
def setErr (s : SetV) : Int := if pathB s.key = false then 5 else if valueB s.value = false then 2 else 0
def factErr (s : SetV) : Int := if nameB s.key = false then 5 else if valueB s.value = false then 2 else 0
def svcErr (s : SvcV) : Int := if nameB s.name = false ∨ pathB s.path = false then 5 else 0
/-- The sizes that may be. -/
def roomy (s : Bytes) : Prop := s.length ≤ 1099511627776
instance (s : Bytes) : Decidable (roomy s) := inferInstanceAs (Decidable (_ ≤ _))
def fileR (f : FileV) : Prop := f.path.length ≤ 1099511627776 ∧ f.data.length ≤ 1099511627776
def setR (f : SetV) : Prop := f.key.length ≤ 1099511627776 ∧ f.value.length ≤ 1099511627776
def svcR (f : SvcV) : Prop := f.name.length ≤ 1099511627776 ∧ f.path.length ≤ 1099511627776
def chgR (c : ChgV) : Prop := fileR c.file ∧ setR c.set ∧ svcR c.svc
instance (f : FileV) : Decidable (fileR f) := inferInstanceAs (Decidable (_ ∧ _))
instance (f : SetV) : Decidable (setR f) := inferInstanceAs (Decidable (_ ∧ _))
instance (f : SvcV) : Decidable (svcR f) := inferInstanceAs (Decidable (_ ∧ _))
instance (f : ChgV) : Decidable (chgR f) := inferInstanceAs (Decidable (_ ∧ _ ∧ _))
end Go.Proofs

/- Walks: changes and items. -/
namespace Go.Proofs
open Go Go.Abs
open Nat (reduceEqDiff reduceAdd reduceLeDiff reduceLT reduceMul)
open Int (reduceEq reduceLE reduceSub reduceToNat)
set_option linter.unusedSimpArgs false
set_option linter.unusedVariables false
theorem fileFault_calls (f : FileV) (H : Heap) (hr : fileR f) : ACalls Tryz.prog 69 [.agg (encFile f)] H fun x H' => x = .int .i64 (fileErr f) ∧ H' = H := by
  obtain ⟨h1, h2⟩ := hr
  have hR : Room = 1099511627776 := rfl
  refine ACalls.of_code (X := { pure := puM }) puM_ok Tryz.func69 (by kernel_rfl) rfl (by kernel_rfl) (Nat.le_of_ble_eq_true rfl) ?_
  simp -implicitDefEqProofs only [go_sem, reduceEqDiff, reduceAdd, reduceLeDiff, reduceLT, reduceMul, reduceEq, Int.reduceLT, reduceLE, Int.reduceAdd, reduceSub, reduceToNat, UInt8.reduceToNat, Tryz.f69, encFile]
  with_reducible refine nwC_intro fun id hid => ?_
  simp -implicitDefEqProofs only [go_sem, reduceEqDiff, reduceAdd, reduceLeDiff, reduceLT, reduceMul, reduceEq, Int.reduceLT, reduceLE, Int.reduceAdd, reduceSub, reduceToNat, UInt8.reduceToNat, puM, puN, sStr_eq, hR, h1]
  repeat' (first | (with_reducible refine gd_intro (fun h => ?_) (fun h => ?_) <;> first | (exact absurd h (by decide)) | (simp at h; done) | simp -implicitDefEqProofs (disch := omega) only [go_sem, reduceEqDiff, reduceAdd, reduceLeDiff, reduceLT, reduceMul, reduceEq, Int.reduceLT, reduceLE, Int.reduceAdd, reduceSub, reduceToNat, UInt8.reduceToNat, Go.IntWalk.i64_in, *]) | (with_reducible refine cnd_intro (fun h => ?_) (fun h => ?_) <;> first | (exact absurd h (by decide)) | (simp at h; done) | simp -implicitDefEqProofs (disch := omega) only [go_sem, reduceEqDiff, reduceAdd, reduceLeDiff, reduceLT, reduceMul, reduceEq, Int.reduceLT, reduceLE, Int.reduceAdd, reduceSub, reduceToNat, UInt8.reduceToNat, Go.IntWalk.i64_in, *]))
  all_goals refine Done.drop1 hid ⟨?_, rfl⟩
  all_goals (simp_all [fileErr] <;> omega)
theorem settingFault_calls (f : SetV) (H : Heap) (hr : setR f) : ACalls Tryz.prog 67 [.agg (encSet f), .func 73 []] H fun x H' => x = .int .i64 (setErr f) ∧ H' = H := by
  obtain ⟨h1, h2⟩ := hr
  have hR : Room = 1099511627776 := rfl
  refine ACalls.of_code (X := { pure := puM }) puM_ok Tryz.func67 (by kernel_rfl) rfl (by kernel_rfl) (Nat.le_of_ble_eq_true rfl) ?_
  simp -implicitDefEqProofs only [go_sem, reduceEqDiff, reduceAdd, reduceLeDiff, reduceLT, reduceMul, reduceEq, Int.reduceLT, reduceLE, Int.reduceAdd, reduceSub, reduceToNat, UInt8.reduceToNat, Tryz.f67, encSet]
  with_reducible refine nwC_intro fun id hid => ?_
  simp -implicitDefEqProofs only [go_sem, reduceEqDiff, reduceAdd, reduceLeDiff, reduceLT, reduceMul, reduceEq, Int.reduceLT, reduceLE, Int.reduceAdd, reduceSub, reduceToNat, UInt8.reduceToNat, puM, puN, sStr_eq, hR, h1, h2]
  repeat' (first | (with_reducible refine gd_intro (fun h => ?_) (fun h => ?_) <;> first | (exact absurd h (by decide)) | (simp at h; done) | simp -implicitDefEqProofs (disch := omega) only [go_sem, reduceEqDiff, reduceAdd, reduceLeDiff, reduceLT, reduceMul, reduceEq, Int.reduceLT, reduceLE, Int.reduceAdd, reduceSub, reduceToNat, UInt8.reduceToNat, Go.IntWalk.i64_in, puM, puN, sStr_eq, hR, *]) | (with_reducible refine cnd_intro (fun h => ?_) (fun h => ?_) <;> first | (exact absurd h (by decide)) | (simp at h; done) | simp -implicitDefEqProofs (disch := omega) only [go_sem, reduceEqDiff, reduceAdd, reduceLeDiff, reduceLT, reduceMul, reduceEq, Int.reduceLT, reduceLE, Int.reduceAdd, reduceSub, reduceToNat, UInt8.reduceToNat, Go.IntWalk.i64_in, puM, puN, sStr_eq, hR, *]))
  all_goals refine Done.drop1 hid ⟨?_, rfl⟩
  all_goals simp_all [setErr]
theorem serviceFault_calls (f : SvcV) (H : Heap) (hr : svcR f) : ACalls Tryz.prog 75 [.agg (encSvc f)] H fun x H' => x = .int .i64 (svcErr f) ∧ H' = H := by
  obtain ⟨h1, h2⟩ := hr
  have hR : Room = 1099511627776 := rfl
  refine ACalls.of_code (X := { pure := puM }) puM_ok Tryz.func75 (by kernel_rfl) rfl (by kernel_rfl) (Nat.le_of_ble_eq_true rfl) ?_
  simp -implicitDefEqProofs only [go_sem, reduceEqDiff, reduceAdd, reduceLeDiff, reduceLT, reduceMul, reduceEq, Int.reduceLT, reduceLE, Int.reduceAdd, reduceSub, reduceToNat, UInt8.reduceToNat, Tryz.f75, encSvc]
  with_reducible refine nwC_intro fun id hid => ?_
  simp -implicitDefEqProofs only [go_sem, reduceEqDiff, reduceAdd, reduceLeDiff, reduceLT, reduceMul, reduceEq, Int.reduceLT, reduceLE, Int.reduceAdd, reduceSub, reduceToNat, UInt8.reduceToNat, puM, puN, sStr_eq, hR, h1, h2]
  repeat' (first | (with_reducible refine gd_intro (fun h => ?_) (fun h => ?_) <;> first | (exact absurd h (by decide)) | (simp at h; done) | simp -implicitDefEqProofs (disch := omega) only [go_sem, reduceEqDiff, reduceAdd, reduceLeDiff, reduceLT, reduceMul, reduceEq, Int.reduceLT, reduceLE, Int.reduceAdd, reduceSub, reduceToNat, UInt8.reduceToNat, Go.IntWalk.i64_in, puM, puN, sStr_eq, hR, *]) | (with_reducible refine cnd_intro (fun h => ?_) (fun h => ?_) <;> first | (exact absurd h (by decide)) | (simp at h; done) | simp -implicitDefEqProofs (disch := omega) only [go_sem, reduceEqDiff, reduceAdd, reduceLeDiff, reduceLT, reduceMul, reduceEq, Int.reduceLT, reduceLE, Int.reduceAdd, reduceSub, reduceToNat, UInt8.reduceToNat, Go.IntWalk.i64_in, puM, puN, sStr_eq, hR, *]))
  all_goals refine Done.drop1 hid ⟨?_, rfl⟩
  all_goals simp_all [svcErr]
/-! ### Equality of structs -/
end Go.Proofs

/- What is held: plain Lean, no program. -/
namespace Go.Proofs
open Go Go.Abs
set_option linter.unusedSimpArgs false
set_option linter.unusedVariables false
structure HeldV where
  owner : Bytes
  kind : Int
  path : Bytes
  sum : Bytes
  base : Bytes
  deriving DecidableEq
def encHeld (h : HeldV) : List AV := [.str h.owner, .int .i64 h.kind, .str h.path, .str h.sum, .str h.base]
/-- The sizes that may be. -/
def heldR (h : HeldV) : Prop := h.owner.length ≤ 1048576 ∧ h.path.length ≤ 1048576 ∧ h.sum.length ≤ 1048576 ∧ h.base.length ≤ 1048576
instance (h : HeldV) : Decidable (heldR h) := inferInstanceAs (Decidable (_ ∧ _))
def thing (k : Int) : Int := if k = 5 then 1 else if k = 6 then 2 else 0
def named (h : HeldV) : Bool := if h.kind = 6 then nameB h.path else pathB h.path
instance : Inhabited HeldV := ⟨⟨[], 0, [], [], []⟩⟩
def firstOf : List Int → Int
  | [] => 0
  | e :: l => if e = 0 then firstOf l else e
def sameP (a b : HeldV) : Bool := decide (thing a.kind = thing b.kind) && decide (a.path = b.path)
def keyH (d : Int) (h : HeldV) : Key := .t [.i (thing h.kind + d), .s h.path]
theorem keyH_eq (d : Int) (a b : HeldV) : keyH d a = keyH d b ↔ sameP a b = true := by
  simp [keyH, sameP]
/-- What a map of the last things at their places holds. -/
def MapOK (d : Int) (es : List (Key × AV)) (seen : List HeldV) : Prop := ∀ h, mget es (keyH d h) = (seen.find? (sameP h)).map fun x => .agg (encHeld x)
theorem mget_mset (es : List (Key × AV)) (k k' : Key) (v : AV) : mget (mset es k v) k' = if k = k' then some v else mget es k' := by
  induction es with
  | nil => simp only [mset, mget, List.find?_cons, List.find?_nil]; by_cases h : k = k' <;> simp [h]
  | cons e es ih =>
    unfold mget at ih ⊢
    simp only [mset]
    by_cases he : e.1 = k
    · rw [if_pos he]
      simp only [List.find?_cons]
      by_cases h : k = k'
      · simp [h]
      · have : ¬ e.1 = k' := by rw [he]; exact h
        simp [h, this]
    · rw [if_neg he]
      simp only [List.find?_cons]
      by_cases h : e.1 = k'
      · have : ¬ k = k' := fun e' => he (h.trans e'.symm)
        simp [h, this]
      · simp only [h, decide_false]
        exact ih
theorem MapOK.nil (d : Int) : MapOK d [] [] := fun h => rfl
theorem sameP_comm (a b : HeldV) : sameP a b = sameP b a := by
  unfold sameP
  rw [Bool.eq_iff_iff]
  simp only [Bool.and_eq_true, decide_eq_true_eq]
  constructor <;> rintro ⟨h1, h2⟩ <;> exact ⟨h1.symm, h2.symm⟩
theorem MapOK.set {d : Int} {es : List (Key × AV)} {seen : List HeldV} (h : MapOK d es seen) (x : HeldV) : MapOK d (mset es (keyH d x) (.agg (encHeld x))) (x :: seen) := fun y => by
  rw [mget_mset, List.find?_cons]
  by_cases hs : sameP y x = true
  · rw [if_pos ((keyH_eq d x y).2 (by rw [sameP_comm]; exact hs)), hs]; rfl
  · rw [if_neg (fun e => hs (by rw [sameP_comm]; exact (keyH_eq d x y).1 e))]
    have : sameP y x = false := by simpa using hs
    rw [this]; exact h y
end Go.Proofs

/- Walks: changes and items, of the program and of the reference. -/
namespace Go.Proofs
open Go Go.Abs
open Nat (reduceEqDiff reduceAdd reduceLeDiff reduceLT reduceMul)
open Int (reduceEq reduceLE reduceSub reduceToNat)
set_option linter.unusedSimpArgs false
set_option linter.unusedVariables false
def encIn (n : Int) : List AV := [.int .i64 n]
def decIn : List AV → Option Int
  | [.int .i64 n] => some n
  | _ => none
theorem decIn_some {c : List AV} {n : Int} (h : decIn c = some n) : c = encIn n := by
  unfold decIn at h; split at h
  · cases h; rfl
  · cases h
theorem firstOf_at {l : List Int} {i : Nat} {e : Int} (h : firstOf (l.take i) = 0) (he : l[i]? = some e) (hne : e ≠ 0) : firstOf l = e := by
  induction l generalizing i with
  | nil => simp at he
  | cons d l ih =>
    cases i with
    | zero => simp at he; subst he; simp [firstOf, hne]
    | succ i =>
      simp only [List.take_succ_cons, firstOf] at h
      split at h
      · rename_i hd; simp only [firstOf, hd, if_true]; exact ih h (by simpa using he)
      · exact absurd h ‹_›
theorem firstOf_succ {l : List Int} {i : Nat} {e : Int} (h : firstOf (l.take i) = 0) (he : l[i]? = some e) (h0 : e = 0) : firstOf (l.take (i + 1)) = 0 := by
  induction l generalizing i with
  | nil => simp at he
  | cons d l ih =>
    cases i with
    | zero => simp at he; subst he; simp [firstOf, h0]
    | succ i =>
      simp only [List.take_succ_cons, firstOf] at h ⊢
      split at h
      · rename_i hd; simp only [hd, if_true]; exact ih h (by simpa using he)
      · exact absurd h ‹_›
theorem first_calls (l : List Int) (t : Tail) (H : Heap) (hl : l.length ≤ 1099511627776) : ACalls Tryz.prog 61 [.sl (l.map encIn) t] H fun x H' => x = .int .i64 (firstOf l) ∧ H' = H := by
  refine ACalls.of_code (X := { pure := puM }) puM_ok Tryz.func61 (by kernel_rfl) rfl (by kernel_rfl) (Nat.le_of_ble_eq_true rfl) ?_
  simp -implicitDefEqProofs only [go_sem, reduceEqDiff, reduceAdd, reduceLeDiff, reduceLT, reduceMul, reduceEq, Int.reduceLT, reduceLE, Int.reduceAdd, reduceSub, reduceToNat, UInt8.reduceToNat, Tryz.f61]
  refine aloop_intro (σ := Nat) (fun i => [(5, .sl (l.map encIn) t), (6, .int .i64 l.length), (7, .int .i64 i)]) (fun i G => G = H ∧ i ≤ l.length ∧ firstOf (l.take i) = 0) (fun i => l.length - i) 0 ?_ ?_ ?_
  · simp -implicitDefEqProofs only [go_sem, reduceEqDiff, reduceAdd, reduceLeDiff, reduceLT, reduceMul, reduceEq, Int.reduceLT, reduceLE, Int.reduceAdd, reduceSub, reduceToNat, UInt8.reduceToNat]
  · simp [firstOf]
  · intro i r G hv hI
    have h5 := hv.1
    have h6 := hv.2.1
    have h7 := hv.2.2.1
    have hG := hI.1.symm
    have hi := hI.2.1
    have hz := hI.2.2
    clear hv hI
    subst hG
    simp -implicitDefEqProofs only [go_sem, reduceEqDiff, reduceAdd, reduceLeDiff, reduceLT, reduceMul, reduceEq, Int.reduceLT, reduceLE, Int.reduceAdd, reduceSub, reduceToNat, UInt8.reduceToNat, h5, h6, h7]
    refine cnd_intro (fun h => ?_) (fun h => ?_)
    · simp only [decide_eq_true_eq] at h
      obtain ⟨c, hc⟩ : ∃ c, l[i]? = some c := ⟨l[i]'(by omega), List.getElem?_eq_getElem _⟩
      simp -implicitDefEqProofs only [go_sem, reduceEqDiff, reduceAdd, reduceLeDiff, reduceLT, reduceMul, reduceEq, Int.reduceLT, reduceLE, Int.reduceAdd, reduceSub, reduceToNat, UInt8.reduceToNat, h5, h6, h7, hc, encIn]
      refine cnd_intro (fun g => ?_) (fun g => ?_)
      · simp -implicitDefEqProofs only [go_sem, reduceEqDiff, reduceAdd, reduceLeDiff, reduceLT, reduceMul, reduceEq, Int.reduceLT, reduceLE, Int.reduceAdd, reduceSub, reduceToNat, UInt8.reduceToNat, h5, h6, h7, hc]
        simp only [decide_eq_true_eq] at g
        exact Done.now ⟨by rw [firstOf_at hz hc g], rfl⟩
      · simp -implicitDefEqProofs (disch := omega) only [go_sem, reduceEqDiff, reduceAdd, reduceLeDiff, reduceLT, reduceMul, reduceEq, Int.reduceLT, reduceLE, Int.reduceAdd, reduceSub, reduceToNat, UInt8.reduceToNat, Go.IntWalk.i64_in, h5, h6, h7, hc]
        simp only [decide_eq_false_iff_not, Decidable.not_not] at g
        exact Again.mk (i + 1) (by simp -implicitDefEqProofs only [go_sem, reduceEqDiff, reduceAdd, reduceLeDiff, reduceLT, reduceMul, reduceEq, Int.reduceLT, reduceLE, Int.reduceAdd, reduceSub, reduceToNat, UInt8.reduceToNat, h5, h6, h7]; exact rfl) ⟨rfl, by omega, firstOf_succ hz hc g⟩ (by omega)
    · simp only [decide_eq_false_iff_not] at h
      have e : i = l.length := by omega
      subst e
      rw [List.take_length] at hz
      simp -implicitDefEqProofs only [go_sem, reduceEqDiff, reduceAdd, reduceLeDiff, reduceLT, reduceMul, reduceEq, Int.reduceLT, reduceLE, Int.reduceAdd, reduceSub, reduceToNat, UInt8.reduceToNat, h5, h6, h7]
      exact Done.now ⟨by rw [hz], rfl⟩
theorem when_calls (b : Bool) (e : Int) (H : Heap) : ACalls Tryz.prog 60 [.bool b, .int .i64 e] H fun x H' => x = .int .i64 (if b then e else 0) ∧ H' = H := by
  refine ACalls.of_code (X := { pure := puM }) puM_ok Tryz.func60 (by kernel_rfl) rfl (by kernel_rfl) (Nat.le_of_ble_eq_true rfl) ?_
  simp -implicitDefEqProofs only [go_sem, reduceEqDiff, reduceAdd, reduceLeDiff, reduceLT, reduceMul, reduceEq, Int.reduceLT, reduceLE, Int.reduceAdd, reduceSub, reduceToNat, UInt8.reduceToNat, Tryz.f60]
  repeat' (first | (with_reducible refine gd_intro (fun h => ?_) (fun h => ?_) <;> first | (exact absurd h (by decide)) | (simp at h; done) | simp -implicitDefEqProofs (disch := omega) only [go_sem, reduceEqDiff, reduceAdd, reduceLeDiff, reduceLT, reduceMul, reduceEq, Int.reduceLT, reduceLE, Int.reduceAdd, reduceSub, reduceToNat, UInt8.reduceToNat, Go.IntWalk.i64_in, *]) | (with_reducible refine cnd_intro (fun h => ?_) (fun h => ?_) <;> first | (exact absurd h (by decide)) | (simp at h; done) | simp -implicitDefEqProofs (disch := omega) only [go_sem, reduceEqDiff, reduceAdd, reduceLeDiff, reduceLT, reduceMul, reduceEq, Int.reduceLT, reduceLE, Int.reduceAdd, reduceSub, reduceToNat, UInt8.reduceToNat, Go.IntWalk.i64_in, *]))
  all_goals (refine Done.now ⟨?_, rfl⟩; simp [*])
def sWhen : List AV → Option AV := fn2 .bool (.int .i64) fun b e => some (.int .i64 (if b then e else 0))
def sFirst : List AV → Option AV := fn1 (Rd.list decIn) fun l => if l.length ≤ 1099511627776 then some (.int .i64 (firstOf l)) else none
theorem sWhen_eq (b : Bool) (e : Int) : sWhen [.bool b, .int .i64 e] = some (.int .i64 (if b then e else 0)) := rfl
theorem decL_nil {α : Type} (d : List AV → Option α) : decL d [] = some [] := rfl
theorem decL_cons {α : Type} (d : List AV → Option α) (c : List AV) (es : List (List AV)) : decL d (c :: es) = (d c).bind fun a => (decL d es).map (a :: ·) := by
  rw [decL]
  cases d c <;> cases decL d es <;> rfl
theorem rdL_eq {α : Type} (d : List AV → Option α) (es : List (List AV)) (t : Tail) : (Rd.list d).rd (.sl es t) = decL d es := rfl
theorem decIn_eq (n : Int) : decIn [.int .i64 n] = some n := rfl
attribute [go_sem] decL_nil decL_cons rdL_eq decIn_eq
def sFileE : List AV → Option AV := fn1 (Rd.agg decFile) fun f => if fileR f then some (.int .i64 (fileErr f)) else none
def sSetE : List AV → Option AV := fn1 (Rd.agg decSet) fun f => if setR f then some (.int .i64 (setErr f)) else none
def sSvcE : List AV → Option AV := fn1 (Rd.agg decSvc) fun f => if svcR f then some (.int .i64 (svcErr f)) else none
def sSetF : List AV → Option AV
  | [x, .func f []] => ((Rd.agg decSet).rd x).bind fun s => if setR s then (if f = 73 then some (.int .i64 (setErr s)) else none) else none
  | _ => none
theorem sFileE_ok {P : Program} {f : FuncId} (h : ∀ a H, fileR a → ACalls P f [.agg (encFile a)] H fun x H' => x = .int .i64 (fileErr a) ∧ H' = H) : ∀ xs v, sFileE xs = some v → ∀ H, ACalls P f xs H fun x H' => x = v ∧ H' = H := by
  intro xs v hv H
  obtain ⟨x, s, rfl, h1, h2⟩ := fn1_some hv
  split at h2
  · cases h2; cases Rd.agg_some (fun _ _ => decFile_some) h1; exact h s H ‹_›
  · cases h2
theorem sSetE_ok {P : Program} {f : FuncId} (h : ∀ a H, setR a → ACalls P f [.agg (encSet a)] H fun x H' => x = .int .i64 (setErr a) ∧ H' = H) : ∀ xs v, sSetE xs = some v → ∀ H, ACalls P f xs H fun x H' => x = v ∧ H' = H := by
  intro xs v hv H
  obtain ⟨x, s, rfl, h1, h2⟩ := fn1_some hv
  split at h2
  · cases h2; cases Rd.agg_some (fun _ _ => decSet_some) h1; exact h s H ‹_›
  · cases h2
theorem sSvcE_ok {P : Program} {f : FuncId} (h : ∀ a H, svcR a → ACalls P f [.agg (encSvc a)] H fun x H' => x = .int .i64 (svcErr a) ∧ H' = H) : ∀ xs v, sSvcE xs = some v → ∀ H, ACalls P f xs H fun x H' => x = v ∧ H' = H := by
  intro xs v hv H
  obtain ⟨x, s, rfl, h1, h2⟩ := fn1_some hv
  split at h2
  · cases h2; cases Rd.agg_some (fun _ _ => decSvc_some) h1; exact h s H ‹_›
  · cases h2
def puC1 : Pures := putP 69 sFileE (putP 67 sSetF (putP 75 sSvcE (putP 61 sFirst (putP 60 sWhen puM))))
theorem puC1_dyn : isDyn puC1 = false := by simp only [puC1, go_sem, Nat.reduceEqDiff]
attribute [go_sem] puC1_dyn
theorem sWhen_ok {P : Program} {f : FuncId} (h : ∀ b e H, ACalls P f [.bool b, .int .i64 e] H fun x H' => x = .int .i64 (if b then e else 0) ∧ H' = H) : ∀ xs v, sWhen xs = some v → ∀ H, ACalls P f xs H fun x H' => x = v ∧ H' = H := by
  intro xs v hv H
  obtain ⟨x, y, p, q, rfl, h1, h2, h3⟩ := fn2_some hv
  cases h3
  cases Rd.bool_some h1
  cases Rd.int_some h2
  exact h _ _ H
theorem sFirst_ok {P : Program} {f : FuncId} (h : ∀ l t H, l.length ≤ 1099511627776 → ACalls P f [.sl (l.map encIn) t] H fun x H' => x = .int .i64 (firstOf l) ∧ H' = H) : ∀ xs v, sFirst xs = some v → ∀ H, ACalls P f xs H fun x H' => x = v ∧ H' = H := by
  intro xs v hv H
  obtain ⟨x, l, rfl, h1, h2⟩ := fn1_some hv
  split at h2
  · rename_i hl
    cases h2
    obtain ⟨t, rfl⟩ := Rd.list_some (fun _ _ => decIn_some) h1
    exact h l t H hl
  · cases h2
theorem sSetF_ok : ∀ xs v, sSetF xs = some v → ∀ H, ACalls Tryz.prog 67 xs H fun x H' => x = v ∧ H' = H := by
  intro xs v hv H
  unfold sSetF at hv
  split at hv
  · rename_i x f
    rw [Option.bind_eq_some_iff] at hv
    obtain ⟨s, h1, h2⟩ := hv
    split at h2
    · rename_i hr
      split at h2
      · rename_i hf
        subst hf
        cases h2
        cases Rd.agg_some (fun _ _ => decSet_some) h1
        exact settingFault_calls s H hr
      · cases h2
    · cases h2
  · cases hv
theorem puC1_ok : PuOK Tryz.prog puC1 := .put (.put (.put (.put (.put (puM_ok) (sWhen_ok when_calls)) (sFirst_ok first_calls)) (sSvcE_ok serviceFault_calls)) sSetF_ok) (sFileE_ok fileFault_calls)
theorem rFileError_calls (f : FileV) (H : Heap) (hr : fileR f) : ACalls Tryz.prog 62 [.agg (encFile f)] H fun x H' => x = .int .i64 (fileErr f) ∧ H' = H := by
  obtain ⟨h1, h2⟩ := hr
  have hR : Room = 1099511627776 := rfl
  refine ACalls.of_code (X := { pure := puC1 }) puC1_ok Tryz.func62 (by kernel_rfl) rfl (by kernel_rfl) (Nat.le_of_ble_eq_true rfl) ?_
  simp -implicitDefEqProofs only [go_sem, reduceEqDiff, reduceAdd, reduceLeDiff, reduceLT, reduceMul, reduceEq, Int.reduceLT, reduceLE, Int.reduceAdd, reduceSub, reduceToNat, UInt8.reduceToNat, Tryz.f62, puC1, puM, puN, puR1, encFile, sStr_eq, sWhen_eq, sFirst, hR, h1]
  with_reducible refine nwC_intro fun id hid => ?_
  simp -implicitDefEqProofs (disch := omega) only [go_sem, reduceEqDiff, reduceAdd, reduceLeDiff, reduceLT, reduceMul, reduceEq, Int.reduceLT, reduceLE, Int.reduceAdd, reduceSub, reduceToNat, UInt8.reduceToNat, Go.IntWalk.i64_in, puC1, puM, puN, puR1, sStr_eq, sWhen_eq, sFirst, hR, *]
  refine Done.drop1 hid ⟨?_, rfl⟩
  simp only [firstOf, fileErr]
  repeat' split
  all_goals simp_all
theorem rSettingError_calls (f : SetV) (H : Heap) (hr : setR f) : ACalls Tryz.prog 63 [.agg (encSet f)] H fun x H' => x = .int .i64 (setErr f) ∧ H' = H := by
  obtain ⟨h1, h2⟩ := hr
  have hR : Room = 1099511627776 := rfl
  refine ACalls.of_code (X := { pure := puC1 }) puC1_ok Tryz.func63 (by kernel_rfl) rfl (by kernel_rfl) (Nat.le_of_ble_eq_true rfl) ?_
  simp -implicitDefEqProofs only [go_sem, reduceEqDiff, reduceAdd, reduceLeDiff, reduceLT, reduceMul, reduceEq, Int.reduceLT, reduceLE, Int.reduceAdd, reduceSub, reduceToNat, UInt8.reduceToNat, Tryz.f63, puC1, puM, puN, puR1, encSet, sStr_eq, sWhen_eq, sFirst, hR, h1]
  with_reducible refine nwC_intro fun id hid => ?_
  simp -implicitDefEqProofs (disch := omega) only [go_sem, reduceEqDiff, reduceAdd, reduceLeDiff, reduceLT, reduceMul, reduceEq, Int.reduceLT, reduceLE, Int.reduceAdd, reduceSub, reduceToNat, UInt8.reduceToNat, Go.IntWalk.i64_in, puC1, puM, puN, puR1, sStr_eq, sWhen_eq, sFirst, hR, *]
  refine Done.drop1 hid ⟨?_, rfl⟩
  simp only [firstOf, setErr]
  repeat' split
  all_goals simp_all
theorem rServiceError_calls (f : SvcV) (H : Heap) (hr : svcR f) : ACalls Tryz.prog 64 [.agg (encSvc f)] H fun x H' => x = .int .i64 (svcErr f) ∧ H' = H := by
  obtain ⟨h1, h2⟩ := hr
  have hR : Room = 1099511627776 := rfl
  refine ACalls.of_code (X := { pure := puC1 }) puC1_ok Tryz.func64 (by kernel_rfl) rfl (by kernel_rfl) (Nat.le_of_ble_eq_true rfl) ?_
  simp -implicitDefEqProofs only [go_sem, reduceEqDiff, reduceAdd, reduceLeDiff, reduceLT, reduceMul, reduceEq, Int.reduceLT, reduceLE, Int.reduceAdd, reduceSub, reduceToNat, UInt8.reduceToNat, Tryz.f64, puC1, puM, puN, puR1, encSvc, sStr_eq, sWhen_eq, sFirst, hR, h1]
  with_reducible refine nwC_intro fun id hid => ?_
  simp -implicitDefEqProofs (disch := omega) only [go_sem, reduceEqDiff, reduceAdd, reduceLeDiff, reduceLT, reduceMul, reduceEq, Int.reduceLT, reduceLE, Int.reduceAdd, reduceSub, reduceToNat, UInt8.reduceToNat, Go.IntWalk.i64_in, puC1, puM, puN, puR1, sStr_eq, sWhen_eq, sFirst, hR, *]
  repeat' (first | (with_reducible refine gd_intro (fun h => ?_) (fun h => ?_) <;> first | (exact absurd h (by decide)) | (simp at h; done) | simp -implicitDefEqProofs (disch := omega) only [go_sem, reduceEqDiff, reduceAdd, reduceLeDiff, reduceLT, reduceMul, reduceEq, Int.reduceLT, reduceLE, Int.reduceAdd, reduceSub, reduceToNat, UInt8.reduceToNat, Go.IntWalk.i64_in, puC1, puM, puN, puR1, sStr_eq, sWhen_eq, sFirst, hR, *]) | (with_reducible refine cnd_intro (fun h => ?_) (fun h => ?_) <;> first | (exact absurd h (by decide)) | (simp at h; done) | simp -implicitDefEqProofs (disch := omega) only [go_sem, reduceEqDiff, reduceAdd, reduceLeDiff, reduceLT, reduceMul, reduceEq, Int.reduceLT, reduceLE, Int.reduceAdd, reduceSub, reduceToNat, UInt8.reduceToNat, Go.IntWalk.i64_in, puC1, puM, puN, puR1, sStr_eq, sWhen_eq, sFirst, hR, *]))
  all_goals refine Done.drop1 hid ⟨?_, rfl⟩
  all_goals (simp only [svcErr]; simp_all)
def puC2 : Pures := putP 62 sFileE (putP 63 sSetE (putP 64 sSvcE puC1))
theorem puC2_dyn : isDyn puC2 = false := by simp only [puC2, go_sem, Nat.reduceEqDiff]
attribute [go_sem] puC2_dyn
theorem decFile_eq (a b : Bytes) (c : Bool) : decFile [.str a, .str b, .bool c] = some ⟨a, b, c⟩ := rfl
theorem decSet_eq (a b : Bytes) : decSet [.str a, .str b] = some ⟨a, b⟩ := rfl
theorem decSvc_eq (a b : Bytes) (c d : Bool) : decSvc [.str a, .str b, .bool c, .bool d] = some ⟨a, b, c, d⟩ := rfl
theorem decChg_eq (k : Int) (a b : Bytes) (r : Bool) (x y p q : Bytes) (u v : Bool) : decChg [.int .i64 k, .str a, .str b, .bool r, .str x, .str y, .str p, .str q, .bool u, .bool v] = some ⟨k, ⟨a, b, r⟩, ⟨x, y⟩, ⟨p, q, u, v⟩⟩ := rfl
attribute [go_sem] decFile_eq decSet_eq decSvc_eq decChg_eq
end Go.Proofs

/- Machines: plain Lean, no program. -/
namespace Go.Proofs
open Go Go.Abs
set_option linter.unusedSimpArgs false
set_option linter.unusedVariables false
structure MacV where
  facts : List SetV
  files : List FileV
  sets : List SetV
  svcs : List SvcV
  deriving DecidableEq
def MacV.zero : MacV := ⟨[], [], [], []⟩
def encMac (m : MacV) (a b c d : Tail) : List AV := [.sl (m.facts.map encSet) a, .sl (m.files.map encFile) b, .sl (m.sets.map encSet) c, .sl (m.svcs.map encSvc) d]
def decMac : List AV → Option MacV
  | [.sl a _, .sl b _, .sl c _, .sl d _] => (decL decSet a).bind fun a => (decL decFile b).bind fun b => (decL decSet c).bind fun c => (decL decSvc d).bind fun d => some ⟨a, b, c, d⟩
  | _ => none
theorem decSet_enc (s : SetV) : decSet (encSet s) = some s := rfl
theorem decFile_enc (s : FileV) : decFile (encFile s) = some s := rfl
theorem decSvc_enc (s : SvcV) : decSvc (encSvc s) = some s := rfl
theorem decMac_enc (m : MacV) (a b c d : Tail) : decMac (encMac m a b c d) = some m := by
  unfold decMac encMac
  simp only [decL_map decSet_enc, decL_map decFile_enc, decL_map decSvc_enc, Option.bind_some]
def macR (m : MacV) : Prop := (m.facts.length ≤ 1099511627776 ∧ m.files.length ≤ 1099511627776 ∧ m.sets.length ≤ 1099511627776 ∧ m.svcs.length ≤ 1099511627776) ∧ (∀ x ∈ m.facts, setR x) ∧ (∀ x ∈ m.files, fileR x) ∧ (∀ x ∈ m.sets, setR x) ∧ (∀ x ∈ m.svcs, svcR x)
/-- One behind the other: no greater. -/
def leB (a b : Bytes) : Bool := strLt a b || decide (a = b)
def ordB (p : Option Bytes) (k : Bytes) : Bool := match p with
  | some q => leB k q
  | none => false
def eachE {α : Type} (err : α → Int) (key : α → Bytes) : Option Bytes → List α → Int
  | _, [] => 0
  | p, x :: l => if err x ≠ 0 then err x else if ordB p (key x) = true then 7 else eachE err key (some (key x)) l
def prevK {α : Type} (key : α → Bytes) (l : List α) (i : Nat) : Option Bytes := if i = 0 then none else (l[i - 1]?).map key
theorem prevK_succ {α : Type} (key : α → Bytes) {l : List α} {i : Nat} {x : α} (h : l[i]? = some x) : prevK key l (i + 1) = some (key x) := by
  unfold prevK
  rw [if_neg (by omega), Nat.add_sub_cancel, h]; rfl
theorem drop_at {α : Type} {l : List α} {i : Nat} {x : α} (h : l[i]? = some x) : l.drop i = x :: l.drop (i + 1) := by
  have hlt := (List.getElem?_eq_some_iff.1 h).1
  rw [List.drop_eq_getElem_cons hlt]
  congr 1
  rw [List.getElem?_eq_getElem hlt] at h
  exact Option.some.inj h
/-- The directories in which a path lies. -/
def dirsB (p : Bytes) : List Bytes := ((List.range p.length).filter fun k => p[k]? = some 47).map fun k => p.take k
def clash (seen : List Bytes) (p : Bytes) : Bool := (dirsB p).any fun d => seen.contains d
def filesE : Option Bytes → List Bytes → List FileV → Int
  | _, _, [] => 0
  | p, seen, x :: l => if fileErr x ≠ 0 then fileErr x else if ordB p x.path = true then 7 else if clash seen x.path = true then 11 else filesE (some x.path) (x.path :: seen) l
def macErr (m : MacV) : Int :=
  if 100 < m.facts.length ∨ 2000 < m.files.length ∨ 2000 < m.sets.length ∨ 100 < m.svcs.length then 4
  else if eachE factErr (·.key) none m.facts ≠ 0 then eachE factErr (·.key) none m.facts
  else if filesE none [] m.files ≠ 0 then filesE none [] m.files
  else if eachE setErr (·.key) none m.sets ≠ 0 then eachE setErr (·.key) none m.sets
  else eachE svcErr (·.name) none m.svcs
/-- What the map of the paths holds. -/
def SeenOK (es : List (Key × AV)) (seen : List Bytes) : Prop := ∀ d, mget es (.s d) = if seen.contains d then some (.bool true) else none
theorem SeenOK.nil : SeenOK [] [] := fun d => rfl
theorem SeenOK.set {es : List (Key × AV)} {seen : List Bytes} (h : SeenOK es seen) (p : Bytes) : SeenOK (mset es (.s p) (.bool true)) (p :: seen) := fun d => by
  rw [mget_mset, List.contains_cons]
  by_cases e : p = d
  · subst e
    rw [if_pos rfl]
    simp
  · have e1 : ¬ Key.s p = Key.s d := fun h => e (by cases h; rfl)
    have e2 : (d == p) = false := by simpa using fun h => e h.symm
    rw [if_neg e1, e2, Bool.false_or]
    exact h d
theorem SeenOK.get {es : List (Key × AV)} {seen : List Bytes} (h : SeenOK es seen) (d : Bytes) : (mget es (.s d)).getD (.bool false) = .bool (seen.contains d) := by
  rw [h]
  split
  · rename_i e; rw [e]; rfl
  · rename_i e
    have : seen.contains d = false := by simpa using e
    rw [this]; rfl
/-- The clash, sign by sign. -/
def clashTo (seen : List Bytes) (p : Bytes) (i : Nat) : Bool := (((List.range i).filter fun k => p[k]? = some 47).map fun k => p.take k).any fun d => seen.contains d
theorem clashTo_succ (seen : List Bytes) (p : Bytes) (i : Nat) : clashTo seen p (i + 1) = (clashTo seen p i || (decide (p[i]? = some 47) && seen.contains (p.take i))) := by
  unfold clashTo
  rw [List.range_succ, List.filter_append, List.map_append, List.any_append]
  congr 1
  by_cases h : p[i]? = some 47 <;> simp [h]
theorem clashTo_all (seen : List Bytes) (p : Bytes) : clashTo seen p p.length = clash seen p := rfl
theorem clashTo_mono {seen : List Bytes} {p : Bytes} {i : Nat} (h : clashTo seen p i = true) : ∀ k, i ≤ k → clashTo seen p k = true := by
  intro k hk
  induction k with
  | zero => obtain rfl : i = 0 := by omega
            exact h
  | succ k ih =>
    by_cases e : i = k + 1
    · subst e; exact h
    · rw [clashTo_succ, ih (by omega)]; rfl
end Go.Proofs

/- Small things: objects by name; pure functions by what they answer. -/
namespace Go.Proofs
open Go Go.Abs
set_option linter.unusedSimpArgs false
set_option linter.unusedVariables false
theorem getD_get' {α : Type} {l : List α} {i : Nat} (h : i < l.length) : ∃ c, l[i]? = some c := ⟨l[i], List.getElem?_eq_getElem h⟩
theorem sub_none {H G : Heap} (h : H.Sub G) {i : Nat} (hi : G i = none) : H i = none := by
  cases hh : H i with
  | none => rfl
  | some x => have := h i x hh; rw [hi] at this; cases this
theorem obj_new {H0 H G : Heap} {id : Nat} {o : AObj} (e : H.put id o = G) (hid : H id = none) (hS : H0.Sub H) : H0 id = none ∧ H0.Sub G ∧ G id = some o ∧ H.Sub G := by
  subst e
  exact ⟨sub_none hS hid, hS.put' (sub_none hS hid) o, put_same _ _ _, (Heap.Sub.rfl' H).put' hid o⟩
theorem obj_ne {G : Heap} {i j : Nat} {o : AObj} (hi : G i = some o) (hj : G j = none) : ¬ i = j := fun e => by rw [e, hj] at hi; cases hi
theorem obj_sub {H0 H G : Heap} {id : Nat} {o : AObj} (e : H.put id o = G) (hid : H0 id = none) (hS : H0.Sub H) : H0.Sub G := by
  subst e
  exact hS.put' hid o
theorem obj_at {H G : Heap} {id : Nat} {o : AObj} (e : H.put id o = G) : G id = some o := by
  subst e
  exact put_same _ _ _
theorem obj_keep {H G : Heap} {id i : Nat} {o x : AObj} (e : H.put id o = G) (hne : ¬ i = id) (h : H i = some x) : G i = some x := by
  subst e
  rw [put_ne _ _ _ _ hne]; exact h
/-- A function that answers one thing and leaves the heap alone, told by how its arguments are written. -/
def Pur (P : Program) (f : FuncId) (s : List AV → Option AV) : Prop := ∀ xs v, s xs = some v → ∀ H, ACalls P f xs H fun x H' => x = v ∧ H' = H
noncomputable def spF {α : Type} (enc : α → List AV) (pre : α → Prop) (F : α → AV) : List AV → Option AV :=
  open Classical in fun xs => if h : ∃ a, enc a = xs ∧ pre a then some (F h.choose) else none
theorem spF_eq {α : Type} {enc : α → List AV} {pre : α → Prop} {F : α → AV} (inj : ∀ a b, enc a = enc b → F a = F b) (a : α) (h : pre a) : spF enc pre F (enc a) = some (F a) := by
  have hx : ∃ b, enc b = enc a ∧ pre b := ⟨a, rfl, h⟩
  unfold spF
  rw [dif_pos hx, inj _ _ hx.choose_spec.1]
theorem spF_ok {P : Program} {f : FuncId} {α : Type} {enc : α → List AV} {pre : α → Prop} {F : α → AV} (h : ∀ a H, pre a → ACalls P f (enc a) H fun x H' => x = F a ∧ H' = H) : Pur P f (spF enc pre F) := by
  intro xs v hv H
  unfold spF at hv
  split at hv
  · rename_i hx
    obtain ⟨h1, h2⟩ := hx.choose_spec
    cases hv
    have := h hx.choose H h2
    rw [h1] at this
    exact this
  · cases hv
theorem take_eq_succ {α : Type} {a b : List α} {i : Nat} {x y : α} (ha : a[i]? = some x) (hb : b[i]? = some y) : a.take (i + 1) = b.take (i + 1) ↔ a.take i = b.take i ∧ x = y := by
  rw [List.take_add_one, List.take_add_one, ha, hb]
  constructor
  · intro h
    have hl : (a.take i).length = (b.take i).length := by
      have h1 : i < a.length := (List.getElem?_eq_some_iff.1 ha).1
      have h2 : i < b.length := (List.getElem?_eq_some_iff.1 hb).1
      simp; omega
    have := List.append_inj h hl
    exact ⟨this.1, by simpa using this.2⟩
  · rintro ⟨h1, rfl⟩; rw [h1]
theorem get_some {α : Type} {l : List α} {i : Nat} (h : i < l.length) : ∃ x, l[i]? = some x := ⟨l[i], List.getElem?_eq_getElem h⟩
end Go.Proofs

/- Walks: Check, on the program's side. -/
namespace Go.Proofs
open Go Go.Abs
open Nat (reduceEqDiff reduceAdd reduceLeDiff reduceLT reduceMul)
open Int (reduceEq reduceLE reduceSub reduceToNat)
set_option linter.unusedSimpArgs false
set_option linter.unusedVariables false
set_option maxRecDepth 20000
def sFactE : List AV → Option AV := fn1 (Rd.agg decSet) fun f => if setR f then some (.int .i64 (factErr f)) else none
def sKeyO : List AV → Option AV := fn1 (Rd.agg decSet) fun f => some (.str f.key)
def sNameO : List AV → Option AV := fn1 (Rd.agg decSvc) fun f => some (.str f.name)
theorem sFactE_ok {P : Program} {f : FuncId} (h : ∀ a H, setR a → ACalls P f [.agg (encSet a)] H fun x H' => x = .int .i64 (factErr a) ∧ H' = H) : ∀ xs v, sFactE xs = some v → ∀ H, ACalls P f xs H fun x H' => x = v ∧ H' = H := by
  intro xs v hv H
  obtain ⟨x, s, rfl, h1, h2⟩ := fn1_some hv
  split at h2
  · cases h2; cases Rd.agg_some (fun _ _ => decSet_some) h1; exact h s H ‹_›
  · cases h2
theorem keyOf_calls (f : SetV) (H : Heap) : ACalls Tryz.prog 68 [.agg (encSet f)] H fun x H' => x = .str f.key ∧ H' = H := by
  refine ACalls.of_code (X := { pure := pu0 }) pu0_ok Tryz.func68 (by kernel_rfl) rfl (by kernel_rfl) (Nat.le_of_ble_eq_true rfl) ?_
  simp -implicitDefEqProofs only [go_sem, reduceEqDiff, reduceAdd, reduceLeDiff, reduceLT, reduceMul, reduceEq, Int.reduceLT, reduceLE, Int.reduceAdd, reduceSub, reduceToNat, UInt8.reduceToNat, Tryz.f68, encSet]
  with_reducible refine nwC_intro fun i1 h1 => ?_
  simp -implicitDefEqProofs only [go_sem, reduceEqDiff, reduceAdd, reduceLeDiff, reduceLT, reduceMul, reduceEq, Int.reduceLT, reduceLE, Int.reduceAdd, reduceSub, reduceToNat, UInt8.reduceToNat]
  exact Done.drop1 h1 ⟨rfl, rfl⟩
theorem nameOf_calls (f : SvcV) (H : Heap) : ACalls Tryz.prog 76 [.agg (encSvc f)] H fun x H' => x = .str f.name ∧ H' = H := by
  refine ACalls.of_code (X := { pure := pu0 }) pu0_ok Tryz.func76 (by kernel_rfl) rfl (by kernel_rfl) (Nat.le_of_ble_eq_true rfl) ?_
  simp -implicitDefEqProofs only [go_sem, reduceEqDiff, reduceAdd, reduceLeDiff, reduceLT, reduceMul, reduceEq, Int.reduceLT, reduceLE, Int.reduceAdd, reduceSub, reduceToNat, UInt8.reduceToNat, Tryz.f76, encSvc]
  with_reducible refine nwC_intro fun i1 h1 => ?_
  simp -implicitDefEqProofs only [go_sem, reduceEqDiff, reduceAdd, reduceLeDiff, reduceLT, reduceMul, reduceEq, Int.reduceLT, reduceLE, Int.reduceAdd, reduceSub, reduceToNat, UInt8.reduceToNat]
  exact Done.drop1 h1 ⟨rfl, rfl⟩
theorem sKeyO_ok {P : Program} {f : FuncId} (h : ∀ a H, ACalls P f [.agg (encSet a)] H fun x H' => x = .str a.key ∧ H' = H) : ∀ xs v, sKeyO xs = some v → ∀ H, ACalls P f xs H fun x H' => x = v ∧ H' = H := by
  intro xs v hv H
  obtain ⟨x, s, rfl, h1, h2⟩ := fn1_some hv
  cases h2; cases Rd.agg_some (fun _ _ => decSet_some) h1; exact h s H
theorem sNameO_ok {P : Program} {f : FuncId} (h : ∀ a H, ACalls P f [.agg (encSvc a)] H fun x H' => x = .str a.name ∧ H' = H) : ∀ xs v, sNameO xs = some v → ∀ H, ACalls P f xs H fun x H' => x = v ∧ H' = H := by
  intro xs v hv H
  obtain ⟨x, s, rfl, h1, h2⟩ := fn1_some hv
  cases h2; cases Rd.agg_some (fun _ _ => decSvc_some) h1; exact h s H
theorem setFaultN_calls (f : SetV) (H : Heap) (hr : setR f) : ACalls Tryz.prog 67 [.agg (encSet f), .func 41 []] H fun x H' => x = .int .i64 (factErr f) ∧ H' = H := by
  obtain ⟨h1, h2⟩ := hr
  have hR : Room = 1099511627776 := rfl
  refine ACalls.of_code (X := { pure := puM }) puM_ok Tryz.func67 (by kernel_rfl) rfl (by kernel_rfl) (Nat.le_of_ble_eq_true rfl) ?_
  simp -implicitDefEqProofs only [go_sem, reduceEqDiff, reduceAdd, reduceLeDiff, reduceLT, reduceMul, reduceEq, Int.reduceLT, reduceLE, Int.reduceAdd, reduceSub, reduceToNat, UInt8.reduceToNat, Tryz.f67, encSet]
  with_reducible refine nwC_intro fun id hid => ?_
  simp -implicitDefEqProofs only [go_sem, reduceEqDiff, reduceAdd, reduceLeDiff, reduceLT, reduceMul, reduceEq, Int.reduceLT, reduceLE, Int.reduceAdd, reduceSub, reduceToNat, UInt8.reduceToNat, puM, puN, sStr_eq, hR, h1, h2]
  repeat' (first | (with_reducible refine gd_intro (fun h => ?_) (fun h => ?_) <;> first | (exact absurd h (by decide)) | (simp at h; done) | simp -implicitDefEqProofs (disch := omega) only [go_sem, reduceEqDiff, reduceAdd, reduceLeDiff, reduceLT, reduceMul, reduceEq, Int.reduceLT, reduceLE, Int.reduceAdd, reduceSub, reduceToNat, UInt8.reduceToNat, Go.IntWalk.i64_in, puM, puN, sStr_eq, hR, *]) | (with_reducible refine cnd_intro (fun h => ?_) (fun h => ?_) <;> first | (exact absurd h (by decide)) | (simp at h; done) | simp -implicitDefEqProofs (disch := omega) only [go_sem, reduceEqDiff, reduceAdd, reduceLeDiff, reduceLT, reduceMul, reduceEq, Int.reduceLT, reduceLE, Int.reduceAdd, reduceSub, reduceToNat, UInt8.reduceToNat, Go.IntWalk.i64_in, puM, puN, sStr_eq, hR, *]))
  all_goals refine Done.drop1 hid ⟨?_, rfl⟩
  all_goals simp_all [factErr]
theorem check1_calls (f : SetV) (H : Heap) (hr : setR f) : ACalls Tryz.prog 66 [.agg (encSet f)] H fun x H' => x = .int .i64 (factErr f) ∧ H' = H := by
  refine ACalls.of_code (X := { pure := pu0 }) pu0_ok Tryz.func66 (by kernel_rfl) rfl (by kernel_rfl) (Nat.le_of_ble_eq_true rfl) ?_
  simp -implicitDefEqProofs only [go_sem, reduceEqDiff, reduceAdd, reduceLeDiff, reduceLT, reduceMul, reduceEq, Int.reduceLT, reduceLE, Int.reduceAdd, reduceSub, reduceToNat, UInt8.reduceToNat, Tryz.f66, encSet]
  with_reducible refine nwC_intro fun i1 h1 => ?_
  simp -implicitDefEqProofs only [go_sem, reduceEqDiff, reduceAdd, reduceLeDiff, reduceLT, reduceMul, reduceEq, Int.reduceLT, reduceLE, Int.reduceAdd, reduceSub, reduceToNat, UInt8.reduceToNat]
  refine (setFaultN_calls f _ hr).pure_next _ ?_
  simp -implicitDefEqProofs only [go_sem, reduceEqDiff, reduceAdd, reduceLeDiff, reduceLT, reduceMul, reduceEq, Int.reduceLT, reduceLE, Int.reduceAdd, reduceSub, reduceToNat, UInt8.reduceToNat]
  exact Done.drop1 h1 ⟨rfl, rfl⟩
theorem check3_calls (f : SetV) (H : Heap) (hr : setR f) : ACalls Tryz.prog 72 [.agg (encSet f)] H fun x H' => x = .int .i64 (setErr f) ∧ H' = H := by
  refine ACalls.of_code (X := { pure := pu0 }) pu0_ok Tryz.func72 (by kernel_rfl) rfl (by kernel_rfl) (Nat.le_of_ble_eq_true rfl) ?_
  simp -implicitDefEqProofs only [go_sem, reduceEqDiff, reduceAdd, reduceLeDiff, reduceLT, reduceMul, reduceEq, Int.reduceLT, reduceLE, Int.reduceAdd, reduceSub, reduceToNat, UInt8.reduceToNat, Tryz.f72, encSet]
  with_reducible refine nwC_intro fun i1 h1 => ?_
  simp -implicitDefEqProofs only [go_sem, reduceEqDiff, reduceAdd, reduceLeDiff, reduceLT, reduceMul, reduceEq, Int.reduceLT, reduceLE, Int.reduceAdd, reduceSub, reduceToNat, UInt8.reduceToNat]
  refine (settingFault_calls f _ hr).pure_next _ ?_
  simp -implicitDefEqProofs only [go_sem, reduceEqDiff, reduceAdd, reduceLeDiff, reduceLT, reduceMul, reduceEq, Int.reduceLT, reduceLE, Int.reduceAdd, reduceSub, reduceToNat, UInt8.reduceToNat]
  exact Done.drop1 h1 ⟨rfl, rfl⟩
def sNone : List AV → Option AV := fun _ => none
/-- A number that no function has, to say that what is called by way of a register is known. -/
theorem dyn_ok {P : Program} : ∀ xs v, sNone xs = some v → ∀ H, ACalls P 999999999 xs H fun x H' => x = v ∧ H' = H := fun xs v h => by cases h
noncomputable def puE : Pures := putP 999999999 sNone (putP 66 sFactE (putP 72 sSetE (putP 75 sSvcE (putP 68 sKeyO (putP 76 sNameO pu0)))))
theorem puE_dyn : isDyn puE = true := by simp only [puE, go_sem, Nat.reduceEqDiff]
attribute [go_sem] puE_dyn
theorem puE_ok : PuOK Tryz.prog puE := .put (.put (.put (.put (.put (.put (pu0_ok) (sNameO_ok nameOf_calls)) (sKeyO_ok keyOf_calls)) (sSvcE_ok serviceFault_calls)) (sSetE_ok check3_calls)) (sFactE_ok check1_calls)) dyn_ok
set_option maxHeartbeats 1600000 in
theorem eachFact_calls (l : List SetV) (t : Tail) (H : Heap) (hl : l.length ≤ 1099511627776) (hr : ∀ x ∈ l, setR x) : ACalls Tryz.prog 65 [.sl (l.map encSet) t, .func 66 [], .func 68 []] H fun x H' => x = .int .i64 (eachE factErr (·.key) none l) ∧ H' = H := by
  refine ACalls.of_code (X := { pure := puE }) puE_ok Tryz.func65 (by kernel_rfl) rfl (by kernel_rfl) (Nat.le_of_ble_eq_true rfl) ?_
  simp -implicitDefEqProofs only [go_sem, reduceEqDiff, reduceAdd, reduceLeDiff, reduceLT, reduceMul, reduceEq, Int.reduceLT, reduceLE, Int.reduceAdd, reduceSub, reduceToNat, UInt8.reduceToNat, Tryz.f65]
  refine aloop_intro (σ := Nat) (fun i => [(0, .sl (l.map encSet) t), (1, .func 66 []), (2, .func 68 []), (10, .sl (l.map encSet) t), (11, .int .i64 l.length), (12, .int .i64 i)])
    (fun i G => H.Sub G ∧ i ≤ l.length ∧ eachE factErr (·.key) none l = eachE factErr (·.key) (prevK (·.key) l i) (l.drop i)) (fun i => l.length - i) 0 ?_ ?_ ?_
  · simp -implicitDefEqProofs only [go_sem, reduceEqDiff, reduceAdd, reduceLeDiff, reduceLT, reduceMul, reduceEq, Int.reduceLT, reduceLE, Int.reduceAdd, reduceSub, reduceToNat, UInt8.reduceToNat]
  · exact ⟨Heap.Sub.rfl' H, Nat.zero_le _, rfl⟩
  rintro i r G hv ⟨hS, hi, hE⟩
  have h0 := hv.1
  have h1 := hv.2.1
  have h2 := hv.2.2.1
  have h10 := hv.2.2.2.1
  have h11 := hv.2.2.2.2.1
  have h12 := hv.2.2.2.2.2.1
  clear hv
  by_cases g : i < l.length
  rotate_left
  · have y0 : decide ((i : Int) < l.length) = false := decide_eq_false (by omega)
    obtain rfl : i = l.length := by omega
    rw [List.drop_length, eachE] at hE
    simp -implicitDefEqProofs only [go_sem, reduceEqDiff, reduceAdd, reduceLeDiff, reduceLT, reduceMul, reduceEq, Int.reduceLT, reduceLE, Int.reduceAdd, reduceSub, reduceToNat, UInt8.reduceToNat, h0, h1, h2, h10, h11, h12, y0]
    exact Done.drop hS ⟨by rw [hE], rfl⟩
  have y0 : decide ((i : Int) < l.length) = true := decide_eq_true (by omega)
  obtain ⟨x, hx⟩ : ∃ x, l[i]? = some x := getD_get' g
  have hxr := hr x (List.mem_of_getElem? hx)
  have ws : IntKind.i64.wrap ((i : Int) + 1) = ((i + 1 : Nat) : Int) := by rw [Go.IntWalk.i64_in _ (by omega)]; omega
  rw [drop_at hx, eachE] at hE
  have hps := prevK_succ (·.key) hx
  have hU : ∀ (a : SetV), a ∈ l → (encSet a).length = 2 := fun _ _ => rfl
  obtain ⟨xkey, xvalue⟩ := x
  simp -implicitDefEqProofs only [go_sem, reduceEqDiff, reduceAdd, reduceLeDiff, reduceLT, reduceMul, reduceEq, Int.reduceLT, reduceLE, Int.reduceAdd, reduceSub, reduceToNat, UInt8.reduceToNat, h0, h1, h2, h10, h11, h12, y0, hx]
  refine ⟨hU, Nat.le_refl _, ?_⟩
  simp only [encSet, List.take_succ_cons, List.take_zero, List.take_nil]
  with_reducible refine nwC_intro fun i8 hi8 => ?_
  simp -implicitDefEqProofs only [go_sem, reduceEqDiff, reduceAdd, reduceLeDiff, reduceLT, reduceMul, reduceEq, Int.reduceLT, reduceLE, Int.reduceAdd, reduceSub, reduceToNat, UInt8.reduceToNat]
  generalize E8 : Heap.put G i8 _ = G8
  have hO_8 := obj_new E8 hi8 hS
  have n8 := hO_8.1
  have hS := hO_8.2.1
  have g8 := hO_8.2.2.1
  clear hO_8
  by_cases c1 : factErr ⟨xkey, xvalue⟩ = 0
  rotate_left
  · have y1 : decide (¬ factErr ⟨xkey, xvalue⟩ = 0) = true := decide_eq_true c1
    rw [if_pos c1] at hE
    simp -implicitDefEqProofs only [go_sem, reduceEqDiff, reduceAdd, reduceLeDiff, reduceLT, reduceMul, reduceEq, Int.reduceLT, reduceLE, Int.reduceAdd, reduceSub, reduceToNat, UInt8.reduceToNat, h0, h1, h2, h10, h11, h12, puE, sFactE, hxr, y1]
    exact Done.drop hS ⟨by rw [hE], rfl⟩
  have y1 : decide (¬ factErr ⟨xkey, xvalue⟩ = 0) = false := decide_eq_false (by simpa using c1)
  rw [if_neg (by simpa using c1)] at hE
  by_cases c2 : i = 0
  · subst c2
    have y2 : decide ((0 : Int) < ((0 : Nat) : Int)) = false := rfl
    have y3 : decide ((0 : Int) < 0) = false := rfl
    have w10 : IntKind.i64.wrap 1 = 1 := by decide
    simp -implicitDefEqProofs only [go_sem, reduceEqDiff, reduceAdd, reduceLeDiff, reduceLT, reduceMul, reduceEq, Int.reduceLT, reduceLE, Int.reduceAdd, reduceSub, reduceToNat, UInt8.reduceToNat, h0, h1, h2, h10, h11, h12, puE, sFactE, hxr, y1, y2, y3, ws]
    rw [if_neg (by simp [prevK, ordB]), ← hps] at hE
    exact Again.mk 1 (by simp -implicitDefEqProofs only [go_sem, reduceEqDiff, reduceAdd, reduceLeDiff, reduceLT, reduceMul, reduceEq, Int.reduceLT, reduceLE, Int.reduceAdd, reduceSub, reduceToNat, UInt8.reduceToNat, h0, h1, h2, h10, h11, w10]) ⟨hS, by omega, hE⟩ (by omega)
  have y2 : decide ((0 : Int) < (i : Int)) = true := decide_eq_true (by omega)
  have w1 : IntKind.i64.wrap ((i : Int) - 1) = ((i - 1 : Nat) : Int) := by rw [Go.IntWalk.i64_in _ (by omega)]; omega
  obtain ⟨q, hq⟩ : ∃ q, l[i - 1]? = some q := getD_get' (by omega)
  have hpk : prevK (·.key) l i = some (q.key) := by unfold prevK; rw [if_neg c2, hq]; rfl
  rw [hpk] at hE
  obtain ⟨qkey, qvalue⟩ := q
  simp -implicitDefEqProofs only [go_sem, reduceEqDiff, reduceAdd, reduceLeDiff, reduceLT, reduceMul, reduceEq, Int.reduceLT, reduceLE, Int.reduceAdd, reduceSub, reduceToNat, UInt8.reduceToNat, h0, h1, h2, h10, h11, h12, puE, sFactE, sKeyO, hxr, y1, y2, w1, hq, g8]
  refine ⟨by omega, Nat.le_refl _, ?_⟩
  simp only [encSet, List.take_succ_cons, List.take_zero, List.take_nil]
  by_cases c3 : leB xkey qkey = true
  · have y3 : (strLt xkey qkey || decide (xkey = qkey)) = true := c3
    rw [if_pos (show ordB (some qkey) xkey = true from c3)] at hE
    simp -implicitDefEqProofs only [go_sem, reduceEqDiff, reduceAdd, reduceLeDiff, reduceLT, reduceMul, reduceEq, Int.reduceLT, reduceLE, Int.reduceAdd, reduceSub, reduceToNat, UInt8.reduceToNat, h0, h1, h2, h10, h11, h12, puE, sFactE, sKeyO, hxr, y1, y2, y3, w1, hq, g8]
    exact Done.drop hS ⟨by rw [hE], rfl⟩
  · have y3 : (strLt xkey qkey || decide (xkey = qkey)) = false := by simpa [leB] using c3
    rw [if_neg (show ¬ ordB (some qkey) xkey = true from c3), ← hps] at hE
    simp -implicitDefEqProofs only [go_sem, reduceEqDiff, reduceAdd, reduceLeDiff, reduceLT, reduceMul, reduceEq, Int.reduceLT, reduceLE, Int.reduceAdd, reduceSub, reduceToNat, UInt8.reduceToNat, h0, h1, h2, h10, h11, h12, puE, sFactE, sKeyO, hxr, y1, y2, y3, w1, hq, g8, ws]
    exact Again.mk (i + 1) (by simp -implicitDefEqProofs only [go_sem, reduceEqDiff, reduceAdd, reduceLeDiff, reduceLT, reduceMul, reduceEq, Int.reduceLT, reduceLE, Int.reduceAdd, reduceSub, reduceToNat, UInt8.reduceToNat, h0, h1, h2, h10, h11]) ⟨hS, by omega, hE⟩ (by omega)

set_option maxHeartbeats 1600000 in
theorem eachSet_calls (l : List SetV) (t : Tail) (H : Heap) (hl : l.length ≤ 1099511627776) (hr : ∀ x ∈ l, setR x) : ACalls Tryz.prog 65 [.sl (l.map encSet) t, .func 72 [], .func 68 []] H fun x H' => x = .int .i64 (eachE setErr (·.key) none l) ∧ H' = H := by
  refine ACalls.of_code (X := { pure := puE }) puE_ok Tryz.func65 (by kernel_rfl) rfl (by kernel_rfl) (Nat.le_of_ble_eq_true rfl) ?_
  simp -implicitDefEqProofs only [go_sem, reduceEqDiff, reduceAdd, reduceLeDiff, reduceLT, reduceMul, reduceEq, Int.reduceLT, reduceLE, Int.reduceAdd, reduceSub, reduceToNat, UInt8.reduceToNat, Tryz.f65]
  refine aloop_intro (σ := Nat) (fun i => [(0, .sl (l.map encSet) t), (1, .func 72 []), (2, .func 68 []), (10, .sl (l.map encSet) t), (11, .int .i64 l.length), (12, .int .i64 i)])
    (fun i G => H.Sub G ∧ i ≤ l.length ∧ eachE setErr (·.key) none l = eachE setErr (·.key) (prevK (·.key) l i) (l.drop i)) (fun i => l.length - i) 0 ?_ ?_ ?_
  · simp -implicitDefEqProofs only [go_sem, reduceEqDiff, reduceAdd, reduceLeDiff, reduceLT, reduceMul, reduceEq, Int.reduceLT, reduceLE, Int.reduceAdd, reduceSub, reduceToNat, UInt8.reduceToNat]
  · exact ⟨Heap.Sub.rfl' H, Nat.zero_le _, rfl⟩
  rintro i r G hv ⟨hS, hi, hE⟩
  have h0 := hv.1
  have h1 := hv.2.1
  have h2 := hv.2.2.1
  have h10 := hv.2.2.2.1
  have h11 := hv.2.2.2.2.1
  have h12 := hv.2.2.2.2.2.1
  clear hv
  by_cases g : i < l.length
  rotate_left
  · have y0 : decide ((i : Int) < l.length) = false := decide_eq_false (by omega)
    obtain rfl : i = l.length := by omega
    rw [List.drop_length, eachE] at hE
    simp -implicitDefEqProofs only [go_sem, reduceEqDiff, reduceAdd, reduceLeDiff, reduceLT, reduceMul, reduceEq, Int.reduceLT, reduceLE, Int.reduceAdd, reduceSub, reduceToNat, UInt8.reduceToNat, h0, h1, h2, h10, h11, h12, y0]
    exact Done.drop hS ⟨by rw [hE], rfl⟩
  have y0 : decide ((i : Int) < l.length) = true := decide_eq_true (by omega)
  obtain ⟨x, hx⟩ : ∃ x, l[i]? = some x := getD_get' g
  have hxr := hr x (List.mem_of_getElem? hx)
  have ws : IntKind.i64.wrap ((i : Int) + 1) = ((i + 1 : Nat) : Int) := by rw [Go.IntWalk.i64_in _ (by omega)]; omega
  rw [drop_at hx, eachE] at hE
  have hps := prevK_succ (·.key) hx
  have hU : ∀ (a : SetV), a ∈ l → (encSet a).length = 2 := fun _ _ => rfl
  obtain ⟨xkey, xvalue⟩ := x
  simp -implicitDefEqProofs only [go_sem, reduceEqDiff, reduceAdd, reduceLeDiff, reduceLT, reduceMul, reduceEq, Int.reduceLT, reduceLE, Int.reduceAdd, reduceSub, reduceToNat, UInt8.reduceToNat, h0, h1, h2, h10, h11, h12, y0, hx]
  refine ⟨hU, Nat.le_refl _, ?_⟩
  simp only [encSet, List.take_succ_cons, List.take_zero, List.take_nil]
  with_reducible refine nwC_intro fun i8 hi8 => ?_
  simp -implicitDefEqProofs only [go_sem, reduceEqDiff, reduceAdd, reduceLeDiff, reduceLT, reduceMul, reduceEq, Int.reduceLT, reduceLE, Int.reduceAdd, reduceSub, reduceToNat, UInt8.reduceToNat]
  generalize E8 : Heap.put G i8 _ = G8
  have hO_8 := obj_new E8 hi8 hS
  have n8 := hO_8.1
  have hS := hO_8.2.1
  have g8 := hO_8.2.2.1
  clear hO_8
  by_cases c1 : setErr ⟨xkey, xvalue⟩ = 0
  rotate_left
  · have y1 : decide (¬ setErr ⟨xkey, xvalue⟩ = 0) = true := decide_eq_true c1
    rw [if_pos c1] at hE
    simp -implicitDefEqProofs only [go_sem, reduceEqDiff, reduceAdd, reduceLeDiff, reduceLT, reduceMul, reduceEq, Int.reduceLT, reduceLE, Int.reduceAdd, reduceSub, reduceToNat, UInt8.reduceToNat, h0, h1, h2, h10, h11, h12, puE, sSetE, hxr, y1]
    exact Done.drop hS ⟨by rw [hE], rfl⟩
  have y1 : decide (¬ setErr ⟨xkey, xvalue⟩ = 0) = false := decide_eq_false (by simpa using c1)
  rw [if_neg (by simpa using c1)] at hE
  by_cases c2 : i = 0
  · subst c2
    have y2 : decide ((0 : Int) < ((0 : Nat) : Int)) = false := rfl
    have y3 : decide ((0 : Int) < 0) = false := rfl
    have w10 : IntKind.i64.wrap 1 = 1 := by decide
    simp -implicitDefEqProofs only [go_sem, reduceEqDiff, reduceAdd, reduceLeDiff, reduceLT, reduceMul, reduceEq, Int.reduceLT, reduceLE, Int.reduceAdd, reduceSub, reduceToNat, UInt8.reduceToNat, h0, h1, h2, h10, h11, h12, puE, sSetE, hxr, y1, y2, y3, ws]
    rw [if_neg (by simp [prevK, ordB]), ← hps] at hE
    exact Again.mk 1 (by simp -implicitDefEqProofs only [go_sem, reduceEqDiff, reduceAdd, reduceLeDiff, reduceLT, reduceMul, reduceEq, Int.reduceLT, reduceLE, Int.reduceAdd, reduceSub, reduceToNat, UInt8.reduceToNat, h0, h1, h2, h10, h11, w10]) ⟨hS, by omega, hE⟩ (by omega)
  have y2 : decide ((0 : Int) < (i : Int)) = true := decide_eq_true (by omega)
  have w1 : IntKind.i64.wrap ((i : Int) - 1) = ((i - 1 : Nat) : Int) := by rw [Go.IntWalk.i64_in _ (by omega)]; omega
  obtain ⟨q, hq⟩ : ∃ q, l[i - 1]? = some q := getD_get' (by omega)
  have hpk : prevK (·.key) l i = some (q.key) := by unfold prevK; rw [if_neg c2, hq]; rfl
  rw [hpk] at hE
  obtain ⟨qkey, qvalue⟩ := q
  simp -implicitDefEqProofs only [go_sem, reduceEqDiff, reduceAdd, reduceLeDiff, reduceLT, reduceMul, reduceEq, Int.reduceLT, reduceLE, Int.reduceAdd, reduceSub, reduceToNat, UInt8.reduceToNat, h0, h1, h2, h10, h11, h12, puE, sSetE, sKeyO, hxr, y1, y2, w1, hq, g8]
  refine ⟨by omega, Nat.le_refl _, ?_⟩
  simp only [encSet, List.take_succ_cons, List.take_zero, List.take_nil]
  by_cases c3 : leB xkey qkey = true
  · have y3 : (strLt xkey qkey || decide (xkey = qkey)) = true := c3
    rw [if_pos (show ordB (some qkey) xkey = true from c3)] at hE
    simp -implicitDefEqProofs only [go_sem, reduceEqDiff, reduceAdd, reduceLeDiff, reduceLT, reduceMul, reduceEq, Int.reduceLT, reduceLE, Int.reduceAdd, reduceSub, reduceToNat, UInt8.reduceToNat, h0, h1, h2, h10, h11, h12, puE, sSetE, sKeyO, hxr, y1, y2, y3, w1, hq, g8]
    exact Done.drop hS ⟨by rw [hE], rfl⟩
  · have y3 : (strLt xkey qkey || decide (xkey = qkey)) = false := by simpa [leB] using c3
    rw [if_neg (show ¬ ordB (some qkey) xkey = true from c3), ← hps] at hE
    simp -implicitDefEqProofs only [go_sem, reduceEqDiff, reduceAdd, reduceLeDiff, reduceLT, reduceMul, reduceEq, Int.reduceLT, reduceLE, Int.reduceAdd, reduceSub, reduceToNat, UInt8.reduceToNat, h0, h1, h2, h10, h11, h12, puE, sSetE, sKeyO, hxr, y1, y2, y3, w1, hq, g8, ws]
    exact Again.mk (i + 1) (by simp -implicitDefEqProofs only [go_sem, reduceEqDiff, reduceAdd, reduceLeDiff, reduceLT, reduceMul, reduceEq, Int.reduceLT, reduceLE, Int.reduceAdd, reduceSub, reduceToNat, UInt8.reduceToNat, h0, h1, h2, h10, h11]) ⟨hS, by omega, hE⟩ (by omega)

set_option maxHeartbeats 1600000 in
theorem eachSvc_calls (l : List SvcV) (t : Tail) (H : Heap) (hl : l.length ≤ 1099511627776) (hr : ∀ x ∈ l, svcR x) : ACalls Tryz.prog 74 [.sl (l.map encSvc) t, .func 75 [], .func 76 []] H fun x H' => x = .int .i64 (eachE svcErr (·.name) none l) ∧ H' = H := by
  refine ACalls.of_code (X := { pure := puE }) puE_ok Tryz.func74 (by kernel_rfl) rfl (by kernel_rfl) (Nat.le_of_ble_eq_true rfl) ?_
  simp -implicitDefEqProofs only [go_sem, reduceEqDiff, reduceAdd, reduceLeDiff, reduceLT, reduceMul, reduceEq, Int.reduceLT, reduceLE, Int.reduceAdd, reduceSub, reduceToNat, UInt8.reduceToNat, Tryz.f74]
  refine aloop_intro (σ := Nat) (fun i => [(0, .sl (l.map encSvc) t), (1, .func 75 []), (2, .func 76 []), (10, .sl (l.map encSvc) t), (11, .int .i64 l.length), (12, .int .i64 i)])
    (fun i G => H.Sub G ∧ i ≤ l.length ∧ eachE svcErr (·.name) none l = eachE svcErr (·.name) (prevK (·.name) l i) (l.drop i)) (fun i => l.length - i) 0 ?_ ?_ ?_
  · simp -implicitDefEqProofs only [go_sem, reduceEqDiff, reduceAdd, reduceLeDiff, reduceLT, reduceMul, reduceEq, Int.reduceLT, reduceLE, Int.reduceAdd, reduceSub, reduceToNat, UInt8.reduceToNat]
  · exact ⟨Heap.Sub.rfl' H, Nat.zero_le _, rfl⟩
  rintro i r G hv ⟨hS, hi, hE⟩
  have h0 := hv.1
  have h1 := hv.2.1
  have h2 := hv.2.2.1
  have h10 := hv.2.2.2.1
  have h11 := hv.2.2.2.2.1
  have h12 := hv.2.2.2.2.2.1
  clear hv
  by_cases g : i < l.length
  rotate_left
  · have y0 : decide ((i : Int) < l.length) = false := decide_eq_false (by omega)
    obtain rfl : i = l.length := by omega
    rw [List.drop_length, eachE] at hE
    simp -implicitDefEqProofs only [go_sem, reduceEqDiff, reduceAdd, reduceLeDiff, reduceLT, reduceMul, reduceEq, Int.reduceLT, reduceLE, Int.reduceAdd, reduceSub, reduceToNat, UInt8.reduceToNat, h0, h1, h2, h10, h11, h12, y0]
    exact Done.drop hS ⟨by rw [hE], rfl⟩
  have y0 : decide ((i : Int) < l.length) = true := decide_eq_true (by omega)
  obtain ⟨x, hx⟩ : ∃ x, l[i]? = some x := getD_get' g
  have hxr := hr x (List.mem_of_getElem? hx)
  have ws : IntKind.i64.wrap ((i : Int) + 1) = ((i + 1 : Nat) : Int) := by rw [Go.IntWalk.i64_in _ (by omega)]; omega
  rw [drop_at hx, eachE] at hE
  have hps := prevK_succ (·.name) hx
  have hU : ∀ (a : SvcV), a ∈ l → (encSvc a).length = 4 := fun _ _ => rfl
  obtain ⟨xname, xpath, xauto, xon⟩ := x
  simp -implicitDefEqProofs only [go_sem, reduceEqDiff, reduceAdd, reduceLeDiff, reduceLT, reduceMul, reduceEq, Int.reduceLT, reduceLE, Int.reduceAdd, reduceSub, reduceToNat, UInt8.reduceToNat, h0, h1, h2, h10, h11, h12, y0, hx]
  refine ⟨hU, Nat.le_refl _, ?_⟩
  simp only [encSvc, List.take_succ_cons, List.take_zero, List.take_nil]
  with_reducible refine nwC_intro fun i8 hi8 => ?_
  simp -implicitDefEqProofs only [go_sem, reduceEqDiff, reduceAdd, reduceLeDiff, reduceLT, reduceMul, reduceEq, Int.reduceLT, reduceLE, Int.reduceAdd, reduceSub, reduceToNat, UInt8.reduceToNat]
  generalize E8 : Heap.put G i8 _ = G8
  have hO_8 := obj_new E8 hi8 hS
  have n8 := hO_8.1
  have hS := hO_8.2.1
  have g8 := hO_8.2.2.1
  clear hO_8
  by_cases c1 : svcErr ⟨xname, xpath, xauto, xon⟩ = 0
  rotate_left
  · have y1 : decide (¬ svcErr ⟨xname, xpath, xauto, xon⟩ = 0) = true := decide_eq_true c1
    rw [if_pos c1] at hE
    simp -implicitDefEqProofs only [go_sem, reduceEqDiff, reduceAdd, reduceLeDiff, reduceLT, reduceMul, reduceEq, Int.reduceLT, reduceLE, Int.reduceAdd, reduceSub, reduceToNat, UInt8.reduceToNat, h0, h1, h2, h10, h11, h12, puE, sSvcE, hxr, y1]
    exact Done.drop hS ⟨by rw [hE], rfl⟩
  have y1 : decide (¬ svcErr ⟨xname, xpath, xauto, xon⟩ = 0) = false := decide_eq_false (by simpa using c1)
  rw [if_neg (by simpa using c1)] at hE
  by_cases c2 : i = 0
  · subst c2
    have y2 : decide ((0 : Int) < ((0 : Nat) : Int)) = false := rfl
    have y3 : decide ((0 : Int) < 0) = false := rfl
    have w10 : IntKind.i64.wrap 1 = 1 := by decide
    simp -implicitDefEqProofs only [go_sem, reduceEqDiff, reduceAdd, reduceLeDiff, reduceLT, reduceMul, reduceEq, Int.reduceLT, reduceLE, Int.reduceAdd, reduceSub, reduceToNat, UInt8.reduceToNat, h0, h1, h2, h10, h11, h12, puE, sSvcE, hxr, y1, y2, y3, ws]
    rw [if_neg (by simp [prevK, ordB]), ← hps] at hE
    exact Again.mk 1 (by simp -implicitDefEqProofs only [go_sem, reduceEqDiff, reduceAdd, reduceLeDiff, reduceLT, reduceMul, reduceEq, Int.reduceLT, reduceLE, Int.reduceAdd, reduceSub, reduceToNat, UInt8.reduceToNat, h0, h1, h2, h10, h11, w10]) ⟨hS, by omega, hE⟩ (by omega)
  have y2 : decide ((0 : Int) < (i : Int)) = true := decide_eq_true (by omega)
  have w1 : IntKind.i64.wrap ((i : Int) - 1) = ((i - 1 : Nat) : Int) := by rw [Go.IntWalk.i64_in _ (by omega)]; omega
  obtain ⟨q, hq⟩ : ∃ q, l[i - 1]? = some q := getD_get' (by omega)
  have hpk : prevK (·.name) l i = some (q.name) := by unfold prevK; rw [if_neg c2, hq]; rfl
  rw [hpk] at hE
  obtain ⟨qname, qpath, qauto, qon⟩ := q
  simp -implicitDefEqProofs only [go_sem, reduceEqDiff, reduceAdd, reduceLeDiff, reduceLT, reduceMul, reduceEq, Int.reduceLT, reduceLE, Int.reduceAdd, reduceSub, reduceToNat, UInt8.reduceToNat, h0, h1, h2, h10, h11, h12, puE, sSvcE, sNameO, hxr, y1, y2, w1, hq, g8]
  refine ⟨by omega, Nat.le_refl _, ?_⟩
  simp only [encSvc, List.take_succ_cons, List.take_zero, List.take_nil]
  by_cases c3 : leB xname qname = true
  · have y3 : (strLt xname qname || decide (xname = qname)) = true := c3
    rw [if_pos (show ordB (some qname) xname = true from c3)] at hE
    simp -implicitDefEqProofs only [go_sem, reduceEqDiff, reduceAdd, reduceLeDiff, reduceLT, reduceMul, reduceEq, Int.reduceLT, reduceLE, Int.reduceAdd, reduceSub, reduceToNat, UInt8.reduceToNat, h0, h1, h2, h10, h11, h12, puE, sSvcE, sNameO, hxr, y1, y2, y3, w1, hq, g8]
    exact Done.drop hS ⟨by rw [hE], rfl⟩
  · have y3 : (strLt xname qname || decide (xname = qname)) = false := by simpa [leB] using c3
    rw [if_neg (show ¬ ordB (some qname) xname = true from c3), ← hps] at hE
    simp -implicitDefEqProofs only [go_sem, reduceEqDiff, reduceAdd, reduceLeDiff, reduceLT, reduceMul, reduceEq, Int.reduceLT, reduceLE, Int.reduceAdd, reduceSub, reduceToNat, UInt8.reduceToNat, h0, h1, h2, h10, h11, h12, puE, sSvcE, sNameO, hxr, y1, y2, y3, w1, hq, g8, ws]
    exact Again.mk (i + 1) (by simp -implicitDefEqProofs only [go_sem, reduceEqDiff, reduceAdd, reduceLeDiff, reduceLT, reduceMul, reduceEq, Int.reduceLT, reduceLE, Int.reduceAdd, reduceSub, reduceToNat, UInt8.reduceToNat, h0, h1, h2, h10, h11]) ⟨hS, by omega, hE⟩ (by omega)

end Go.Proofs
