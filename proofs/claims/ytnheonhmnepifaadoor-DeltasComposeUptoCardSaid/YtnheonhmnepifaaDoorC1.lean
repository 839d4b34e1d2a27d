/- Walks of small things: the first error, lists that are compared. -/
import Derived.Test.YtnheonhmnepifaaDoorPD1
import Derived.Test.YtnheonhmnepifaaDoorC0
namespace Go.Proofs
open Go Go.Abs
set_option linter.unusedSimpArgs false
set_option linter.unusedVariables false
def encI (n : Int) : List AV := [.int .i64 n]
def decI : List AV → Option Int
  | [.int .i64 n] => some n
  | _ => none
theorem decI_some {c : List AV} {n : Int} (h : decI c = some n) : c = encI n := by
  unfold decI at h; split at h
  · cases h; rfl
  · cases h
theorem first_calls (l : List Int) (t : Tail) (H : Heap) (hl : l.length ≤ 1099511627776) : ACalls Tryd.prog 59 [.sl (l.map encI) t] H fun x H' => x = .int .i64 (fst0 l) ∧ H' = H := by
  refine ACalls.of_code (X := { pure := pu0 }) pu0_ok Tryd.func59 (by kernel_rfl) rfl (by kernel_rfl) (Nat.le_of_ble_eq_true rfl) ?_
  simp -implicitDefEqProofs only [go_sem, tys, regs0, Nat.reduceEqDiff, Nat.reduceAdd, Nat.reduceLeDiff, Nat.reduceLT, Nat.reduceMul, Int.natCast_one, Int.natCast_zero, Int.reduceEq, Int.reduceLT, Int.reduceLE, Int.reduceAdd, Int.reduceSub, Int.reduceToNat, UInt8.reduceToNat, Tryd.f59]
  refine aloop_intro (σ := Nat) (fun i => [(5, .sl (l.map encI) t), (6, .int .i64 l.length), (7, .int .i64 i)]) (fun i G => G = H ∧ i ≤ l.length ∧ fst0 (l.take i) = 0) (fun i => l.length - i) 0 ?_ ?_ ?_
  · simp -implicitDefEqProofs only [go_sem, tys, regs0, Nat.reduceEqDiff, Nat.reduceAdd, Nat.reduceLeDiff, Nat.reduceLT, Nat.reduceMul, Int.natCast_one, Int.natCast_zero, Int.reduceEq, Int.reduceLT, Int.reduceLE, Int.reduceAdd, Int.reduceSub, Int.reduceToNat, UInt8.reduceToNat]
  · simp [fst0]
  · intro i r G hv hI
    have h5 := hv.1
    have h6 := hv.2.1
    have h7 := hv.2.2.1
    have hG := hI.1.symm
    have hi := hI.2.1
    have hz := hI.2.2
    clear hv hI
    subst hG
    simp -implicitDefEqProofs only [go_sem, tys, regs0, Nat.reduceEqDiff, Nat.reduceAdd, Nat.reduceLeDiff, Nat.reduceLT, Nat.reduceMul, Int.natCast_one, Int.natCast_zero, Int.reduceEq, Int.reduceLT, Int.reduceLE, Int.reduceAdd, Int.reduceSub, Int.reduceToNat, UInt8.reduceToNat, h5, h6, h7]
    refine cnd_intro (fun h => ?_) (fun h => ?_)
    · simp only [decide_eq_true_eq] at h
      obtain ⟨c, hc⟩ : ∃ c, l[i]? = some c := ⟨l[i]'(by omega), List.getElem?_eq_getElem _⟩
      simp -implicitDefEqProofs only [go_sem, tys, regs0, Nat.reduceEqDiff, Nat.reduceAdd, Nat.reduceLeDiff, Nat.reduceLT, Nat.reduceMul, Int.natCast_one, Int.natCast_zero, Int.reduceEq, Int.reduceLT, Int.reduceLE, Int.reduceAdd, Int.reduceSub, Int.reduceToNat, UInt8.reduceToNat, h5, h6, h7, hc, encI]
      refine cnd_intro (fun g => ?_) (fun g => ?_)
      · simp -implicitDefEqProofs only [go_sem, tys, regs0, Nat.reduceEqDiff, Nat.reduceAdd, Nat.reduceLeDiff, Nat.reduceLT, Nat.reduceMul, Int.natCast_one, Int.natCast_zero, Int.reduceEq, Int.reduceLT, Int.reduceLE, Int.reduceAdd, Int.reduceSub, Int.reduceToNat, UInt8.reduceToNat, h5, h6, h7, hc]
        simp only [decide_eq_true_eq] at g
        exact Done.now ⟨by rw [fst0_at hz hc g], rfl⟩
      · simp -implicitDefEqProofs (disch := omega) only [go_sem, tys, regs0, Nat.reduceEqDiff, Nat.reduceAdd, Nat.reduceLeDiff, Nat.reduceLT, Nat.reduceMul, Int.natCast_one, Int.natCast_zero, Int.reduceEq, Int.reduceLT, Int.reduceLE, Int.reduceAdd, Int.reduceSub, Int.reduceToNat, UInt8.reduceToNat, Go.IntWalk.i64_in, h5, h6, h7, hc]
        simp only [decide_eq_false_iff_not, Decidable.not_not] at g
        exact Again.mk (i + 1) (by simp -implicitDefEqProofs only [go_sem, tys, regs0, Nat.reduceEqDiff, Nat.reduceAdd, Nat.reduceLeDiff, Nat.reduceLT, Nat.reduceMul, Int.natCast_one, Int.natCast_zero, Int.reduceEq, Int.reduceLT, Int.reduceLE, Int.reduceAdd, Int.reduceSub, Int.reduceToNat, UInt8.reduceToNat, h5, h6, h7]; exact rfl) ⟨rfl, by omega, fst0_succ hz hc g⟩ (by omega)
    · simp only [decide_eq_false_iff_not] at h
      have e : i = l.length := by omega
      subst e
      rw [List.take_length] at hz
      simp -implicitDefEqProofs only [go_sem, tys, regs0, Nat.reduceEqDiff, Nat.reduceAdd, Nat.reduceLeDiff, Nat.reduceLT, Nat.reduceMul, Int.natCast_one, Int.natCast_zero, Int.reduceEq, Int.reduceLT, Int.reduceLE, Int.reduceAdd, Int.reduceSub, Int.reduceToNat, UInt8.reduceToNat, h5, h6, h7]
      exact Done.now ⟨by rw [hz], rfl⟩
theorem when_calls (b : Bool) (e : Int) (H : Heap) : ACalls Tryd.prog 82 [.bool b, .int .i64 e] H fun x H' => x = .int .i64 (if b then e else 0) ∧ H' = H := by
  refine ACalls.of_code (X := { pure := pu0 }) pu0_ok Tryd.func82 (by kernel_rfl) rfl (by kernel_rfl) (Nat.le_of_ble_eq_true rfl) ?_
  simp -implicitDefEqProofs only [go_sem, tys, regs0, Nat.reduceEqDiff, Nat.reduceAdd, Nat.reduceLeDiff, Nat.reduceLT, Nat.reduceMul, Int.natCast_one, Int.natCast_zero, Int.reduceEq, Int.reduceLT, Int.reduceLE, Int.reduceAdd, Int.reduceSub, Int.reduceToNat, UInt8.reduceToNat, Tryd.f82]
  repeat' (first | (with_reducible refine gd_intro (fun h => ?_) (fun h => ?_) <;> first | (exact absurd h (by decide)) | (simp at h; done) | simp -implicitDefEqProofs (disch := omega) only [go_sem, tys, regs0, Nat.reduceEqDiff, Nat.reduceAdd, Nat.reduceLeDiff, Nat.reduceLT, Nat.reduceMul, Int.natCast_one, Int.natCast_zero, Int.reduceEq, Int.reduceLT, Int.reduceLE, Int.reduceAdd, Int.reduceSub, Int.reduceToNat, UInt8.reduceToNat, Go.IntWalk.i64_in, *]) | (with_reducible refine cnd_intro (fun h => ?_) (fun h => ?_) <;> first | (exact absurd h (by decide)) | (simp at h; done) | simp -implicitDefEqProofs (disch := omega) only [go_sem, tys, regs0, Nat.reduceEqDiff, Nat.reduceAdd, Nat.reduceLeDiff, Nat.reduceLT, Nat.reduceMul, Int.natCast_one, Int.natCast_zero, Int.reduceEq, Int.reduceLT, Int.reduceLE, Int.reduceAdd, Int.reduceSub, Int.reduceToNat, UInt8.reduceToNat, Go.IntWalk.i64_in, *]))
  all_goals (refine Done.now ⟨?_, rfl⟩; simp [*])
def sWhen : List AV → Option AV := fn2 .bool (.int .i64) fun b e => some (.int .i64 (if b then e else 0))
def sFirst : List AV → Option AV := fn1 (Rd.list decI) fun l => if l.length ≤ 1099511627776 then some (.int .i64 (fst0 l)) else none
theorem sWhen_eq (b : Bool) (e : Int) : sWhen [.bool b, .int .i64 e] = some (.int .i64 (if b then e else 0)) := rfl
theorem decL_nil {α : Type} (d : List AV → Option α) : decL d [] = some [] := rfl
theorem decL_cons {α : Type} (d : List AV → Option α) (c : List AV) (es : List (List AV)) : decL d (c :: es) = (d c).bind fun a => (decL d es).map (a :: ·) := by
  rw [decL]
  cases d c <;> cases decL d es <;> rfl
theorem rdL_eq {α : Type} (d : List AV → Option α) (es : List (List AV)) (t : Tail) : (Rd.list d).rd (.sl es t) = decL d es := rfl
theorem decI_eq (n : Int) : decI [.int .i64 n] = some n := rfl
attribute [go_sem] decL_nil decL_cons rdL_eq decI_eq
theorem take_eq_succ {α : Type} {a b : List α} {i : Nat} {x y : α} (ha : a[i]? = some x) (hb : b[i]? = some y) : a.take (i + 1) = b.take (i + 1) ↔ a.take i = b.take i ∧ x = y := by
  rw [List.take_add_one, List.take_add_one, ha, hb]
  constructor
  · intro h
    have hl : (a.take i).length = (b.take i).length := by
      have h1 : i < a.length := (List.getElem?_eq_some_iff.1 ha).1
      have h2 : i < b.length := (List.getElem?_eq_some_iff.1 hb).1
      simp; omega
    have := List.append_inj h hl
    exact ⟨this.1, by simpa using this.2⟩
  · rintro ⟨h1, rfl⟩; rw [h1]
theorem get_some {α : Type} {l : List α} {i : Nat} (h : i < l.length) : ∃ x, l[i]? = some x := ⟨l[i], List.getElem?_eq_getElem h⟩
theorem sWhen_ok {P : Program} {f : FuncId} (h : ∀ b e H, ACalls P f [.bool b, .int .i64 e] H fun x H' => x = .int .i64 (if b then e else 0) ∧ H' = H) : ∀ xs v, sWhen xs = some v → ∀ H, ACalls P f xs H fun x H' => x = v ∧ H' = H := by
  intro xs v hv H
  obtain ⟨x, y, p, q, rfl, h1, h2, h3⟩ := fn2_some hv
  cases Rd.bool_some h1; cases Rd.int_some h2; cases h3
  exact h _ _ H
theorem sFirst_ok {P : Program} {f : FuncId} (h : ∀ (l : List Int) (t : Tail) (H : Heap), l.length ≤ 1099511627776 → ACalls P f [.sl (l.map encI) t] H fun x H' => x = .int .i64 (fst0 l) ∧ H' = H) : ∀ xs v, sFirst xs = some v → ∀ H, ACalls P f xs H fun x H' => x = v ∧ H' = H := by
  intro xs v hv H
  obtain ⟨x, l, rfl, h1, h2⟩ := fn1_some hv
  split at h2
  · cases h2
    obtain ⟨t, rfl⟩ := Rd.list_some (enc := encI) (fun _ _ => decI_some) h1
    exact h l t H ‹_›
  · cases h2
theorem sFirst_eq (l : List Int) (t : Tail) (h : l.length ≤ 1099511627776) : sFirst [.sl (l.map encI) t] = some (.int .i64 (fst0 l)) := by
  show ((Rd.list decI).rd (.sl (l.map encI) t)).bind _ = _
  rw [Rd.list_eq (enc := encI) (fun _ => rfl) l t]
  simp only [Option.bind_some, if_pos h]
theorem sFirst_two (a b : Int) (t : Tail) : sFirst [.sl [[.int .i64 a], [.int .i64 b]] t] = some (.int .i64 (fst0 [a, b])) := sFirst_eq [a, b] t (by simp)
theorem sFirst_three (a b c : Int) (t : Tail) : sFirst [.sl [[.int .i64 a], [.int .i64 b], [.int .i64 c]] t] = some (.int .i64 (fst0 [a, b, c])) := sFirst_eq [a, b, c] t (by simp)
end Go.Proofs
