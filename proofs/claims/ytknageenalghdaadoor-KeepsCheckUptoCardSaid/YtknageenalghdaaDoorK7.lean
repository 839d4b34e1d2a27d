/- Walks: changes and items, of the program and of the reference. -/
import Derived.Test.YtknageenalghdaaDoorK6
import Derived.Test.YtknageenalghdaaDoorP5
namespace Go.Proofs
open Go Go.Abs
set_option linter.unusedSimpArgs false
set_option linter.unusedVariables false
def encI (n : Int) : List AV := [.int .i64 n]
def decI : List AV → Option Int
  | [.int .i64 n] => some n
  | _ => none
theorem decI_some {c : List AV} {n : Int} (h : decI c = some n) : c = encI n := by
  unfold decI at h; split at h
  · cases h; rfl
  · cases h
theorem firstOf_at {l : List Int} {i : Nat} {e : Int} (h : firstOf (l.take i) = 0) (he : l[i]? = some e) (hne : e ≠ 0) : firstOf l = e := by
  induction l generalizing i with
  | nil => simp at he
  | cons d l ih =>
    cases i with
    | zero => simp at he; subst he; simp [firstOf, hne]
    | succ i =>
      simp only [List.take_succ_cons, firstOf] at h
      split at h
      · rename_i hd; simp only [firstOf, hd, if_true]; exact ih h (by simpa using he)
      · exact absurd h ‹_›
theorem firstOf_succ {l : List Int} {i : Nat} {e : Int} (h : firstOf (l.take i) = 0) (he : l[i]? = some e) (h0 : e = 0) : firstOf (l.take (i + 1)) = 0 := by
  induction l generalizing i with
  | nil => simp at he
  | cons d l ih =>
    cases i with
    | zero => simp at he; subst he; simp [firstOf, h0]
    | succ i =>
      simp only [List.take_succ_cons, firstOf] at h ⊢
      split at h
      · rename_i hd; simp only [hd, if_true]; exact ih h (by simpa using he)
      · exact absurd h ‹_›
theorem first_calls (l : List Int) (t : Tail) (H : Heap) (hl : l.length ≤ 1099511627776) : ACalls Tryd.prog 17 [.sl (l.map encI) t] H fun x H' => x = .int .i64 (firstOf l) ∧ H' = H := by
  refine ACalls.of_code (X := { pure := puM }) puM_ok Tryd.func17 (by kernel_rfl) rfl (by kernel_rfl) (Nat.le_of_ble_eq_true rfl) ?_
  simp -implicitDefEqProofs only [go_sem, tys, regs0, Nat.reduceEqDiff, Nat.reduceAdd, Nat.reduceLeDiff, Nat.reduceLT, Nat.reduceMul, Int.natCast_one, Int.natCast_zero, Int.reduceEq, Int.reduceLT, Int.reduceLE, Int.reduceAdd, Int.reduceSub, Int.reduceToNat, UInt8.reduceToNat, Tryd.f17]
  refine aloop_intro (σ := Nat) (fun i => [(5, .sl (l.map encI) t), (6, .int .i64 l.length), (7, .int .i64 i)]) (fun i G => G = H ∧ i ≤ l.length ∧ firstOf (l.take i) = 0) (fun i => l.length - i) 0 ?_ ?_ ?_
  · simp -implicitDefEqProofs only [go_sem, tys, regs0, Nat.reduceEqDiff, Nat.reduceAdd, Nat.reduceLeDiff, Nat.reduceLT, Nat.reduceMul, Int.natCast_one, Int.natCast_zero, Int.reduceEq, Int.reduceLT, Int.reduceLE, Int.reduceAdd, Int.reduceSub, Int.reduceToNat, UInt8.reduceToNat]
  · simp [firstOf]
  · intro i r G hv hI
    have h5 := hv.1
    have h6 := hv.2.1
    have h7 := hv.2.2.1
    have hG := hI.1.symm
    have hi := hI.2.1
    have hz := hI.2.2
    clear hv hI
    subst hG
    simp -implicitDefEqProofs only [go_sem, tys, regs0, Nat.reduceEqDiff, Nat.reduceAdd, Nat.reduceLeDiff, Nat.reduceLT, Nat.reduceMul, Int.natCast_one, Int.natCast_zero, Int.reduceEq, Int.reduceLT, Int.reduceLE, Int.reduceAdd, Int.reduceSub, Int.reduceToNat, UInt8.reduceToNat, h5, h6, h7]
    refine cnd_intro (fun h => ?_) (fun h => ?_)
    · simp only [decide_eq_true_eq] at h
      obtain ⟨c, hc⟩ : ∃ c, l[i]? = some c := ⟨l[i]'(by omega), List.getElem?_eq_getElem _⟩
      simp -implicitDefEqProofs only [go_sem, tys, regs0, Nat.reduceEqDiff, Nat.reduceAdd, Nat.reduceLeDiff, Nat.reduceLT, Nat.reduceMul, Int.natCast_one, Int.natCast_zero, Int.reduceEq, Int.reduceLT, Int.reduceLE, Int.reduceAdd, Int.reduceSub, Int.reduceToNat, UInt8.reduceToNat, h5, h6, h7, hc, encI]
      refine cnd_intro (fun g => ?_) (fun g => ?_)
      · simp -implicitDefEqProofs only [go_sem, tys, regs0, Nat.reduceEqDiff, Nat.reduceAdd, Nat.reduceLeDiff, Nat.reduceLT, Nat.reduceMul, Int.natCast_one, Int.natCast_zero, Int.reduceEq, Int.reduceLT, Int.reduceLE, Int.reduceAdd, Int.reduceSub, Int.reduceToNat, UInt8.reduceToNat, h5, h6, h7, hc]
        simp only [decide_eq_true_eq] at g
        exact Done.now ⟨by rw [firstOf_at hz hc g], rfl⟩
      · simp -implicitDefEqProofs (disch := omega) only [go_sem, tys, regs0, Nat.reduceEqDiff, Nat.reduceAdd, Nat.reduceLeDiff, Nat.reduceLT, Nat.reduceMul, Int.natCast_one, Int.natCast_zero, Int.reduceEq, Int.reduceLT, Int.reduceLE, Int.reduceAdd, Int.reduceSub, Int.reduceToNat, UInt8.reduceToNat, Go.IntWalk.i64_in, h5, h6, h7, hc]
        simp only [decide_eq_false_iff_not, Decidable.not_not] at g
        exact Again.mk (i + 1) (by simp -implicitDefEqProofs only [go_sem, tys, regs0, Nat.reduceEqDiff, Nat.reduceAdd, Nat.reduceLeDiff, Nat.reduceLT, Nat.reduceMul, Int.natCast_one, Int.natCast_zero, Int.reduceEq, Int.reduceLT, Int.reduceLE, Int.reduceAdd, Int.reduceSub, Int.reduceToNat, UInt8.reduceToNat, h5, h6, h7]; exact rfl) ⟨rfl, by omega, firstOf_succ hz hc g⟩ (by omega)
    · simp only [decide_eq_false_iff_not] at h
      have e : i = l.length := by omega
      subst e
      rw [List.take_length] at hz
      simp -implicitDefEqProofs only [go_sem, tys, regs0, Nat.reduceEqDiff, Nat.reduceAdd, Nat.reduceLeDiff, Nat.reduceLT, Nat.reduceMul, Int.natCast_one, Int.natCast_zero, Int.reduceEq, Int.reduceLT, Int.reduceLE, Int.reduceAdd, Int.reduceSub, Int.reduceToNat, UInt8.reduceToNat, h5, h6, h7]
      exact Done.now ⟨by rw [hz], rfl⟩
theorem when_calls (b : Bool) (e : Int) (H : Heap) : ACalls Tryd.prog 20 [.bool b, .int .i64 e] H fun x H' => x = .int .i64 (if b then e else 0) ∧ H' = H := by
  refine ACalls.of_code (X := { pure := puM }) puM_ok Tryd.func20 (by kernel_rfl) rfl (by kernel_rfl) (Nat.le_of_ble_eq_true rfl) ?_
  simp -implicitDefEqProofs only [go_sem, tys, regs0, Nat.reduceEqDiff, Nat.reduceAdd, Nat.reduceLeDiff, Nat.reduceLT, Nat.reduceMul, Int.natCast_one, Int.natCast_zero, Int.reduceEq, Int.reduceLT, Int.reduceLE, Int.reduceAdd, Int.reduceSub, Int.reduceToNat, UInt8.reduceToNat, Tryd.f20]
  repeat' (first | (with_reducible refine gd_intro (fun h => ?_) (fun h => ?_) <;> first | (exact absurd h (by decide)) | (simp at h; done) | simp -implicitDefEqProofs (disch := omega) only [go_sem, tys, regs0, Nat.reduceEqDiff, Nat.reduceAdd, Nat.reduceLeDiff, Nat.reduceLT, Nat.reduceMul, Int.natCast_one, Int.natCast_zero, Int.reduceEq, Int.reduceLT, Int.reduceLE, Int.reduceAdd, Int.reduceSub, Int.reduceToNat, UInt8.reduceToNat, Go.IntWalk.i64_in, *]) | (with_reducible refine cnd_intro (fun h => ?_) (fun h => ?_) <;> first | (exact absurd h (by decide)) | (simp at h; done) | simp -implicitDefEqProofs (disch := omega) only [go_sem, tys, regs0, Nat.reduceEqDiff, Nat.reduceAdd, Nat.reduceLeDiff, Nat.reduceLT, Nat.reduceMul, Int.natCast_one, Int.natCast_zero, Int.reduceEq, Int.reduceLT, Int.reduceLE, Int.reduceAdd, Int.reduceSub, Int.reduceToNat, UInt8.reduceToNat, Go.IntWalk.i64_in, *]))
  all_goals (refine Done.now ⟨?_, rfl⟩; simp [*])
def sWhen : List AV → Option AV := fn2 .bool (.int .i64) fun b e => some (.int .i64 (if b then e else 0))
def sFirst : List AV → Option AV := fn1 (Rd.list decI) fun l => if l.length ≤ 1099511627776 then some (.int .i64 (firstOf l)) else none
theorem sWhen_eq (b : Bool) (e : Int) : sWhen [.bool b, .int .i64 e] = some (.int .i64 (if b then e else 0)) := rfl
theorem decL_nil {α : Type} (d : List AV → Option α) : decL d [] = some [] := rfl
theorem decL_cons {α : Type} (d : List AV → Option α) (c : List AV) (es : List (List AV)) : decL d (c :: es) = (d c).bind fun a => (decL d es).map (a :: ·) := by
  rw [decL]
  cases d c <;> cases decL d es <;> rfl
theorem rdL_eq {α : Type} (d : List AV → Option α) (es : List (List AV)) (t : Tail) : (Rd.list d).rd (.sl es t) = decL d es := rfl
theorem decI_eq (n : Int) : decI [.int .i64 n] = some n := rfl
attribute [go_sem] decL_nil decL_cons rdL_eq decI_eq
theorem when_true (e : Int) : (if True then e else 0) = e := rfl
def sFileE : List AV → Option AV := fn1 (Rd.agg decFile) fun f => if fileR f then some (.int .i64 (fileErr f)) else none
def sSetE : List AV → Option AV := fn1 (Rd.agg decSet) fun f => if setR f then some (.int .i64 (setErr f)) else none
def sSvcE : List AV → Option AV := fn1 (Rd.agg decSvc) fun f => if svcR f then some (.int .i64 (svcErr f)) else none
def sSetF : List AV → Option AV
  | [x, .func f []] => ((Rd.agg decSet).rd x).bind fun s => if setR s then (if f = 26 then some (.int .i64 (setErr s)) else none) else none
  | _ => none
theorem sFileE_ok {P : Program} {f : FuncId} (h : ∀ a H, fileR a → ACalls P f [.agg (encFile a)] H fun x H' => x = .int .i64 (fileErr a) ∧ H' = H) : ∀ xs v, sFileE xs = some v → ∀ H, ACalls P f xs H fun x H' => x = v ∧ H' = H := by
  intro xs v hv H
  obtain ⟨x, s, rfl, h1, h2⟩ := fn1_some hv
  split at h2
  · cases h2; cases Rd.agg_some (fun _ _ => decFile_some) h1; exact h s H ‹_›
  · cases h2
theorem sSetE_ok {P : Program} {f : FuncId} (h : ∀ a H, setR a → ACalls P f [.agg (encSet a)] H fun x H' => x = .int .i64 (setErr a) ∧ H' = H) : ∀ xs v, sSetE xs = some v → ∀ H, ACalls P f xs H fun x H' => x = v ∧ H' = H := by
  intro xs v hv H
  obtain ⟨x, s, rfl, h1, h2⟩ := fn1_some hv
  split at h2
  · cases h2; cases Rd.agg_some (fun _ _ => decSet_some) h1; exact h s H ‹_›
  · cases h2
theorem sSvcE_ok {P : Program} {f : FuncId} (h : ∀ a H, svcR a → ACalls P f [.agg (encSvc a)] H fun x H' => x = .int .i64 (svcErr a) ∧ H' = H) : ∀ xs v, sSvcE xs = some v → ∀ H, ACalls P f xs H fun x H' => x = v ∧ H' = H := by
  intro xs v hv H
  obtain ⟨x, s, rfl, h1, h2⟩ := fn1_some hv
  split at h2
  · cases h2; cases Rd.agg_some (fun _ _ => decSvc_some) h1; exact h s H ‹_›
  · cases h2
def puC1 : Pures := putP 52 sFileE (putP 53 sSetF (putP 54 sSvcE (putP 17 sFirst (putP 20 sWhen puM))))
theorem puC1_ok : PuOK Tryd.prog puC1 := by
  refine PuOK.put (PuOK.put (PuOK.put (PuOK.put (PuOK.put puM_ok ?_) ?_) (sSvcE_ok serviceFault_calls)) ?_) (sFileE_ok fileFault_calls)
  · intro xs v hv H
    obtain ⟨x, y, p, q, rfl, h1, h2, h3⟩ := fn2_some hv
    cases h3
    cases Rd.bool_some h1
    cases Rd.int_some h2
    exact when_calls _ _ H
  · intro xs v hv H
    obtain ⟨x, l, rfl, h1, h2⟩ := fn1_some hv
    split at h2
    · rename_i hl
      cases h2
      obtain ⟨t, rfl⟩ := Rd.list_some (fun _ _ => decI_some) h1
      exact first_calls l t H hl
    · cases h2
  · intro xs v hv H
    unfold sSetF at hv
    split at hv
    · rename_i x f
      rw [Option.bind_eq_some_iff] at hv
      obtain ⟨s, h1, h2⟩ := hv
      split at h2
      · rename_i hr
        split at h2
        · rename_i hf
          subst hf
          cases h2
          cases Rd.agg_some (fun _ _ => decSet_some) h1
          exact settingFault_calls s H hr
        · cases h2
      · cases h2
    · cases hv
theorem rFileError_calls (f : FileV) (H : Heap) (hr : fileR f) : ACalls Tryd.prog 41 [.agg (encFile f)] H fun x H' => x = .int .i64 (fileErr f) ∧ H' = H := by
  obtain ⟨h1, h2⟩ := hr
  have hR : Room = 1099511627776 := rfl
  refine ACalls.of_code (X := { pure := puC1 }) puC1_ok Tryd.func41 (by kernel_rfl) rfl (by kernel_rfl) (Nat.le_of_ble_eq_true rfl) ?_
  simp -implicitDefEqProofs only [go_sem, tys, regs0, Nat.reduceEqDiff, Nat.reduceAdd, Nat.reduceLeDiff, Nat.reduceLT, Nat.reduceMul, Int.natCast_one, Int.natCast_zero, Int.reduceEq, Int.reduceLT, Int.reduceLE, Int.reduceAdd, Int.reduceSub, Int.reduceToNat, UInt8.reduceToNat, Tryd.f41, puC1, puM, puN, puR1, encFile, sStr_eq, sWhen_eq, sFirst, hR, h1]
  with_reducible refine nwC_intro fun id hid => ?_
  simp -implicitDefEqProofs (disch := omega) only [go_sem, tys, regs0, Nat.reduceEqDiff, Nat.reduceAdd, Nat.reduceLeDiff, Nat.reduceLT, Nat.reduceMul, Int.natCast_one, Int.natCast_zero, Int.reduceEq, Int.reduceLT, Int.reduceLE, Int.reduceAdd, Int.reduceSub, Int.reduceToNat, UInt8.reduceToNat, Go.IntWalk.i64_in, puC1, puM, puN, puR1, sStr_eq, sWhen_eq, sFirst, hR, *]
  refine Done.drop1 hid ⟨?_, rfl⟩
  simp only [firstOf, fileErr]
  repeat' split
  all_goals simp_all
theorem rSettingError_calls (f : SetV) (H : Heap) (hr : setR f) : ACalls Tryd.prog 42 [.agg (encSet f)] H fun x H' => x = .int .i64 (setErr f) ∧ H' = H := by
  obtain ⟨h1, h2⟩ := hr
  have hR : Room = 1099511627776 := rfl
  refine ACalls.of_code (X := { pure := puC1 }) puC1_ok Tryd.func42 (by kernel_rfl) rfl (by kernel_rfl) (Nat.le_of_ble_eq_true rfl) ?_
  simp -implicitDefEqProofs only [go_sem, tys, regs0, Nat.reduceEqDiff, Nat.reduceAdd, Nat.reduceLeDiff, Nat.reduceLT, Nat.reduceMul, Int.natCast_one, Int.natCast_zero, Int.reduceEq, Int.reduceLT, Int.reduceLE, Int.reduceAdd, Int.reduceSub, Int.reduceToNat, UInt8.reduceToNat, Tryd.f42, puC1, puM, puN, puR1, encSet, sStr_eq, sWhen_eq, sFirst, hR, h1]
  with_reducible refine nwC_intro fun id hid => ?_
  simp -implicitDefEqProofs (disch := omega) only [go_sem, tys, regs0, Nat.reduceEqDiff, Nat.reduceAdd, Nat.reduceLeDiff, Nat.reduceLT, Nat.reduceMul, Int.natCast_one, Int.natCast_zero, Int.reduceEq, Int.reduceLT, Int.reduceLE, Int.reduceAdd, Int.reduceSub, Int.reduceToNat, UInt8.reduceToNat, Go.IntWalk.i64_in, puC1, puM, puN, puR1, sStr_eq, sWhen_eq, sFirst, hR, *]
  refine Done.drop1 hid ⟨?_, rfl⟩
  simp only [firstOf, setErr]
  repeat' split
  all_goals simp_all
theorem rServiceError_calls (f : SvcV) (H : Heap) (hr : svcR f) : ACalls Tryd.prog 43 [.agg (encSvc f)] H fun x H' => x = .int .i64 (svcErr f) ∧ H' = H := by
  obtain ⟨h1, h2⟩ := hr
  have hR : Room = 1099511627776 := rfl
  refine ACalls.of_code (X := { pure := puC1 }) puC1_ok Tryd.func43 (by kernel_rfl) rfl (by kernel_rfl) (Nat.le_of_ble_eq_true rfl) ?_
  simp -implicitDefEqProofs only [go_sem, tys, regs0, Nat.reduceEqDiff, Nat.reduceAdd, Nat.reduceLeDiff, Nat.reduceLT, Nat.reduceMul, Int.natCast_one, Int.natCast_zero, Int.reduceEq, Int.reduceLT, Int.reduceLE, Int.reduceAdd, Int.reduceSub, Int.reduceToNat, UInt8.reduceToNat, Tryd.f43, puC1, puM, puN, puR1, encSvc, sStr_eq, sWhen_eq, sFirst, hR, h1]
  with_reducible refine nwC_intro fun id hid => ?_
  simp -implicitDefEqProofs (disch := omega) only [go_sem, tys, regs0, Nat.reduceEqDiff, Nat.reduceAdd, Nat.reduceLeDiff, Nat.reduceLT, Nat.reduceMul, Int.natCast_one, Int.natCast_zero, Int.reduceEq, Int.reduceLT, Int.reduceLE, Int.reduceAdd, Int.reduceSub, Int.reduceToNat, UInt8.reduceToNat, Go.IntWalk.i64_in, puC1, puM, puN, puR1, sStr_eq, sWhen_eq, sFirst, hR, *]
  repeat' (first | (with_reducible refine gd_intro (fun h => ?_) (fun h => ?_) <;> first | (exact absurd h (by decide)) | (simp at h; done) | simp -implicitDefEqProofs (disch := omega) only [go_sem, tys, regs0, Nat.reduceEqDiff, Nat.reduceAdd, Nat.reduceLeDiff, Nat.reduceLT, Nat.reduceMul, Int.natCast_one, Int.natCast_zero, Int.reduceEq, Int.reduceLT, Int.reduceLE, Int.reduceAdd, Int.reduceSub, Int.reduceToNat, UInt8.reduceToNat, Go.IntWalk.i64_in, puC1, puM, puN, puR1, sStr_eq, sWhen_eq, sFirst, hR, *]) | (with_reducible refine cnd_intro (fun h => ?_) (fun h => ?_) <;> first | (exact absurd h (by decide)) | (simp at h; done) | simp -implicitDefEqProofs (disch := omega) only [go_sem, tys, regs0, Nat.reduceEqDiff, Nat.reduceAdd, Nat.reduceLeDiff, Nat.reduceLT, Nat.reduceMul, Int.natCast_one, Int.natCast_zero, Int.reduceEq, Int.reduceLT, Int.reduceLE, Int.reduceAdd, Int.reduceSub, Int.reduceToNat, UInt8.reduceToNat, Go.IntWalk.i64_in, puC1, puM, puN, puR1, sStr_eq, sWhen_eq, sFirst, hR, *]))
  all_goals refine Done.drop1 hid ⟨?_, rfl⟩
  all_goals (simp only [svcErr]; simp_all)
def puC2 : Pures := putP 41 sFileE (putP 42 sSetE (putP 43 sSvcE puC1))
theorem puC2_ok : PuOK Tryd.prog puC2 := PuOK.put (PuOK.put (PuOK.put puC1_ok (sSvcE_ok rServiceError_calls)) (sSetE_ok rSettingError_calls)) (sFileE_ok rFileError_calls)
theorem neq_lit (cx cy : Bool) (k : Int) (a b : Bytes) (r : Bool) (x y p q : Bytes) (u v : Bool) (k' : Int) (a' b' : Bytes) (r' : Bool) (x' y' p' q' : Bytes) (u' v' : Bool) :
    bin Tryd.prog .neq 50 cx cy (.agg [.int .i64 k, .str a, .str b, .bool r, .str x, .str y, .str p, .str q, .bool u, .bool v]) (.agg [.int .i64 k', .str a', .str b', .bool r', .str x', .str y', .str p', .str q', .bool u', .bool v']) =
      some (.bool (!decide ((⟨k, ⟨a, b, r⟩, ⟨x, y⟩, ⟨p, q, u, v⟩⟩ : ChgV) = ⟨k', ⟨a', b', r'⟩, ⟨x', y'⟩, ⟨p', q', u', v'⟩⟩))) :=
  neq_chg _ (.inl rfl) cx cy ⟨k, ⟨a, b, r⟩, ⟨x, y⟩, ⟨p, q, u, v⟩⟩ ⟨k', ⟨a', b', r'⟩, ⟨x', y'⟩, ⟨p', q', u', v'⟩⟩
theorem neq_litI (cx cy : Bool) (k : Int) (a b : Bytes) (r : Bool) (x y p q : Bytes) (u v : Bool) (k' : Int) (a' b' : Bytes) (r' : Bool) (x' y' p' q' : Bytes) (u' v' : Bool) :
    bin Tryd.prog .neq 29 cx cy (.agg [.int .i64 k, .str a, .str b, .bool r, .str x, .str y, .str p, .str q, .bool u, .bool v]) (.agg [.int .i64 k', .str a', .str b', .bool r', .str x', .str y', .str p', .str q', .bool u', .bool v']) =
      some (.bool (!decide ((⟨k, ⟨a, b, r⟩, ⟨x, y⟩, ⟨p, q, u, v⟩⟩ : ChgV) = ⟨k', ⟨a', b', r'⟩, ⟨x', y'⟩, ⟨p', q', u', v'⟩⟩))) :=
  neq_chg _ (.inr rfl) cx cy ⟨k, ⟨a, b, r⟩, ⟨x, y⟩, ⟨p, q, u, v⟩⟩ ⟨k', ⟨a', b', r'⟩, ⟨x', y'⟩, ⟨p', q', u', v'⟩⟩
theorem decFile_eq (a b : Bytes) (c : Bool) : decFile [.str a, .str b, .bool c] = some ⟨a, b, c⟩ := rfl
theorem decSet_eq (a b : Bytes) : decSet [.str a, .str b] = some ⟨a, b⟩ := rfl
theorem decSvc_eq (a b : Bytes) (c d : Bool) : decSvc [.str a, .str b, .bool c, .bool d] = some ⟨a, b, c, d⟩ := rfl
theorem decChg_eq (k : Int) (a b : Bytes) (r : Bool) (x y p q : Bytes) (u v : Bool) : decChg [.int .i64 k, .str a, .str b, .bool r, .str x, .str y, .str p, .str q, .bool u, .bool v] = some ⟨k, ⟨a, b, r⟩, ⟨x, y⟩, ⟨p, q, u, v⟩⟩ := rfl
attribute [go_sem] decFile_eq decSet_eq decSvc_eq decChg_eq
theorem valueB_nil : valueB [] = true := rfl
set_option maxHeartbeats 3200000 in
theorem checkChange_calls (c : ChgV) (H : Heap) (hr : chgR c) : ACalls Tryd.prog 40 [.agg (encChg c)] H fun x H' => x = .int .i64 (chgErr c) ∧ H' = H := by
  obtain ⟨k, ⟨a, b, r⟩, ⟨x, y⟩, ⟨p, q, u, v⟩⟩ := c
  obtain ⟨h1, h2, h3⟩ := hr
  have hR : Room = 1099511627776 := rfl
  have g1 : fileR ⟨a, [], false⟩ := ⟨h1.1, by simp⟩
  have g2 : setR ⟨x, []⟩ := ⟨h2.1, by simp⟩
  have g3 : p.length ≤ 1099511627776 := h3.1
  simp only at h1 h2 h3
  refine ACalls.of_code (X := { pure := puC1 }) puC1_ok Tryd.func40 (by kernel_rfl) rfl (by kernel_rfl) (Nat.le_of_ble_eq_true rfl) ?_
  simp -implicitDefEqProofs only [go_sem, tys, regs0, Nat.reduceEqDiff, Nat.reduceAdd, Nat.reduceLeDiff, Nat.reduceLT, Nat.reduceMul, Int.natCast_one, Int.natCast_zero, Int.reduceEq, Int.reduceLT, Int.reduceLE, Int.reduceAdd, Int.reduceSub, Int.reduceToNat, UInt8.reduceToNat, Tryd.f40, encChg]
  with_reducible refine nwC_intro fun id hid => ?_
  simp -implicitDefEqProofs only [go_sem, tys, regs0, Nat.reduceEqDiff, Nat.reduceAdd, Nat.reduceLeDiff, Nat.reduceLT, Nat.reduceMul, Int.natCast_one, Int.natCast_zero, Int.reduceEq, Int.reduceLT, Int.reduceLE, Int.reduceAdd, Int.reduceSub, Int.reduceToNat, UInt8.reduceToNat]
  with_reducible refine nwC_intro fun id2 hid2 => ?_
  have n1 := (heap_none hid2).1
  have n2 := (heap_none hid2).2.1
  have hid3 := (heap_none hid2).2.2
  simp -implicitDefEqProofs only [go_sem, tys, regs0, Nat.reduceEqDiff, Nat.reduceAdd, Nat.reduceLeDiff, Nat.reduceLT, Nat.reduceMul, Int.natCast_one, Int.natCast_zero, Int.reduceEq, Int.reduceLT, Int.reduceLE, Int.reduceAdd, Int.reduceSub, Int.reduceToNat, UInt8.reduceToNat, puC1, sFileE, sSetF, sSvcE, put_ne, n1, n2]
  clear hid2
  repeat' (first | (with_reducible refine gd_intro (fun h => ?_) (fun h => ?_) <;> first | (exact absurd h (by decide)) | (simp at h; done) | simp -implicitDefEqProofs (disch := omega) only [go_sem, tys, regs0, Nat.reduceEqDiff, Nat.reduceAdd, Nat.reduceLeDiff, Nat.reduceLT, Nat.reduceMul, Int.natCast_one, Int.natCast_zero, Int.reduceEq, Int.reduceLT, Int.reduceLE, Int.reduceAdd, Int.reduceSub, Int.reduceToNat, UInt8.reduceToNat, Go.IntWalk.i64_in, puC1, puM, puN, sFileE, sSetF, sSvcE, sStr_eq, put_ne, n1, n2, neq_lit, hR, *]) | (with_reducible refine cnd_intro (fun h => ?_) (fun h => ?_) <;> first | (exact absurd h (by decide)) | (simp at h; done) | simp -implicitDefEqProofs (disch := omega) only [go_sem, tys, regs0, Nat.reduceEqDiff, Nat.reduceAdd, Nat.reduceLeDiff, Nat.reduceLT, Nat.reduceMul, Int.natCast_one, Int.natCast_zero, Int.reduceEq, Int.reduceLT, Int.reduceLE, Int.reduceAdd, Int.reduceSub, Int.reduceToNat, UInt8.reduceToNat, Go.IntWalk.i64_in, puC1, puM, puN, sFileE, sSetF, sSvcE, sStr_eq, put_ne, n1, n2, neq_lit, hR, *]))
  all_goals refine Done.drop2 hid hid3 ⟨?_, rfl⟩
  all_goals clear hid hid3 n1 n2
  all_goals congr 1
  all_goals simp only [decide_eq_true_eq, decide_eq_false_iff_not, Bool.not_eq_true', Bool.not_eq_false'] at *
  all_goals first
    | (subst k; simp_all [chgErr, partErr, kept, FileV.zero, SetV.zero, SvcV.zero, pathErr, nameErr, fileErr, setErr, valueB_nil]; done)
    | (rw [chgErr, if_pos (by simp only []; omega)]; done)
def sChgE : List AV → Option AV := fn1 (Rd.agg decChg) fun f => if chgR f then some (.int .i64 (chgErr f)) else none
theorem sChgE_ok {P : Program} {f : FuncId} (h : ∀ a H, chgR a → ACalls P f [.agg (encChg a)] H fun x H' => x = .int .i64 (chgErr a) ∧ H' = H) : ∀ xs v, sChgE xs = some v → ∀ H, ACalls P f xs H fun x H' => x = v ∧ H' = H := by
  intro xs v hv H
  obtain ⟨x, s, rfl, h1, h2⟩ := fn1_some hv
  split at h2
  · cases h2; cases Rd.agg_some (fun _ _ => decChg_some) h1; exact h s H ‹_›
  · cases h2
set_option maxHeartbeats 3200000 in
theorem rChangeError_calls (c : ChgV) (H : Heap) (hr : chgR c) : ACalls Tryd.prog 18 [.agg (encChg c)] H fun x H' => x = .int .i64 (chgErr c) ∧ H' = H := by
  obtain ⟨k, ⟨a, b, r⟩, ⟨x, y⟩, ⟨p, q, u, v⟩⟩ := c
  obtain ⟨h1, h2, h3⟩ := hr
  have hR : Room = 1099511627776 := rfl
  have g1 : a.length ≤ 1099511627776 := h1.1
  have g2 : x.length ≤ 1099511627776 := h2.1
  have g3 : p.length ≤ 1099511627776 := h3.1
  simp only at h1 h2 h3
  refine ACalls.of_code (X := { pure := puC2 }) puC2_ok Tryd.func18 (by kernel_rfl) rfl (by kernel_rfl) (Nat.le_of_ble_eq_true rfl) ?_
  simp -implicitDefEqProofs only [go_sem, tys, regs0, Nat.reduceEqDiff, Nat.reduceAdd, Nat.reduceLeDiff, Nat.reduceLT, Nat.reduceMul, Int.natCast_one, Int.natCast_zero, Int.reduceEq, Int.reduceLT, Int.reduceLE, Int.reduceAdd, Int.reduceSub, Int.reduceToNat, UInt8.reduceToNat, Tryd.f18, encChg]
  with_reducible refine nwC_intro fun id hid => ?_
  simp -implicitDefEqProofs only [go_sem, tys, regs0, Nat.reduceEqDiff, Nat.reduceAdd, Nat.reduceLeDiff, Nat.reduceLT, Nat.reduceMul, Int.natCast_one, Int.natCast_zero, Int.reduceEq, Int.reduceLT, Int.reduceLE, Int.reduceAdd, Int.reduceSub, Int.reduceToNat, UInt8.reduceToNat]
  with_reducible refine nwC_intro fun id2 hid2 => ?_
  have n1 := (heap_none hid2).1
  have n2 := (heap_none hid2).2.1
  have hid3 := (heap_none hid2).2.2
  clear hid2
  simp -implicitDefEqProofs only [go_sem, tys, regs0, Nat.reduceEqDiff, Nat.reduceAdd, Nat.reduceLeDiff, Nat.reduceLT, Nat.reduceMul, Int.natCast_one, Int.natCast_zero, Int.reduceEq, Int.reduceLT, Int.reduceLE, Int.reduceAdd, Int.reduceSub, Int.reduceToNat, UInt8.reduceToNat, puC2, puC1, sFileE, sSetE, sSvcE, put_ne, n1, n2]
  repeat' (first | (with_reducible refine gd_intro (fun h => ?_) (fun h => ?_) <;> first | (exact absurd h (by decide)) | (simp at h; done) | simp -implicitDefEqProofs (disch := omega) only [go_sem, tys, regs0, Nat.reduceEqDiff, Nat.reduceAdd, Nat.reduceLeDiff, Nat.reduceLT, Nat.reduceMul, Int.natCast_one, Int.natCast_zero, Int.reduceEq, Int.reduceLT, Int.reduceLE, Int.reduceAdd, Int.reduceSub, Int.reduceToNat, UInt8.reduceToNat, Go.IntWalk.i64_in, puC2, puC1, puM, puN, puR1, sFileE, sSetE, sSvcE, sStr_eq, sWhen_eq, sFirst, put_ne, n1, n2, neq_lit, hR, *]) | (with_reducible refine cnd_intro (fun h => ?_) (fun h => ?_) <;> first | (exact absurd h (by decide)) | (simp at h; done) | simp -implicitDefEqProofs (disch := omega) only [go_sem, tys, regs0, Nat.reduceEqDiff, Nat.reduceAdd, Nat.reduceLeDiff, Nat.reduceLT, Nat.reduceMul, Int.natCast_one, Int.natCast_zero, Int.reduceEq, Int.reduceLT, Int.reduceLE, Int.reduceAdd, Int.reduceSub, Int.reduceToNat, UInt8.reduceToNat, Go.IntWalk.i64_in, puC2, puC1, puM, puN, puR1, sFileE, sSetE, sSvcE, sStr_eq, sWhen_eq, sFirst, put_ne, n1, n2, neq_lit, hR, *]))
  all_goals refine Done.drop2 hid hid3 ⟨?_, rfl⟩
  all_goals clear hid hid3 n1 n2
  all_goals congr 1
  all_goals simp only [decide_eq_true_eq, decide_eq_false_iff_not, Bool.not_eq_true', Bool.not_eq_false'] at *
  all_goals first
    | (rw [chgErr, if_pos (by simp only []; omega)]; done)
    | (subst k
       simp only [firstOf, chgErr, partErr, kept, FileV.zero, SetV.zero, SvcV.zero, pathErr, nameErr]
       repeat' split
       all_goals simp_all)
end Go.Proofs
