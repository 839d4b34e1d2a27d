/- Small things that many walks want. -/
import Derived.Test.YtnheonhmnepifaaDoorC1
import Derived.Test.YtnheonhmnepifaaDoorB2
import Derived.Test.YtnheonhmnepifaaDoorD1
namespace Go.Proofs
open Go Go.Abs
set_option linter.unusedSimpArgs false
set_option linter.unusedVariables false
set_option maxRecDepth 20000
theorem getD_get' {α : Type} {l : List α} {i : Nat} (h : i < l.length) : ∃ c, l[i]? = some c := ⟨l[i], List.getElem?_eq_getElem h⟩
theorem sub_none {H G : Heap} (h : H.Sub G) {i : Nat} (hi : G i = none) : H i = none := by
  cases hh : H i with
  | none => rfl
  | some x => have := h i x hh; rw [hi] at this; cases this
theorem some_if {c : Prop} [Decidable c] {a v : AV} (h : (if c then some a else none) = some v) : c ∧ a = v := by
  split at h
  · cases h; exact ⟨‹_›, rfl⟩
  · cases h
theorem encS_unif (l : List Bytes) : Unif 1 (l.map encS) := by
  intro c hc
  simp only [List.mem_map] at hc
  obtain ⟨b, _, rfl⟩ := hc
  rfl
def sJoin : List AV → Option AV := fn2 (Rd.list decS) .str fun l s => if s = [] ∧ l.length ≤ 1099511627776 ∧ l.flatten.length ≤ 140737488355328 then some (.str l.flatten) else none
theorem sJoin_eq (l : List Bytes) (t : Tail) (h : l.length ≤ 1099511627776) (h2 : l.flatten.length ≤ 140737488355328) : sJoin [.sl (l.map encS) t, .str []] = some (.str l.flatten) := by
  show ((Rd.list decS).rd (.sl (l.map encS) t)).bind _ = _
  rw [Rd.list_eq (enc := encS) decS_enc l t]
  simp only [Option.bind_some, Rd.str_eq]
  rw [if_pos ⟨trivial, h, h2⟩]
theorem landedD_calls (H : Heap) : ACalls Tryd.prog 12 [] H fun x H' => x = .bool true ∧ H' = H := by
  have hR : Room = 1099511627776 := rfl
  have hn : nameB [97] = true := by decide
  refine ACalls.of_code (X := { pure := puN }) puN_ok Tryd.func12 (by kernel_rfl) rfl (by kernel_rfl) (Nat.le_of_ble_eq_true rfl) ?_
  simp -implicitDefEqProofs only [go_sem, tys, regs0, Nat.reduceEqDiff, Nat.reduceAdd, Nat.reduceLeDiff, Nat.reduceLT, Nat.reduceMul, Int.natCast_one, Int.natCast_zero, Int.reduceEq, Int.reduceLT, Int.reduceLE, Int.reduceAdd, Int.reduceSub, Int.reduceToNat, UInt8.reduceToNat, Tryd.f12, puN, sStr_eq, hR, hn]
  exact Done.now ⟨rfl, rfl⟩
def sLandD : List AV → Option AV
  | [] => some (.bool true)
  | _ => none
theorem sLandD_ok : ∀ xs v, sLandD xs = some v → ∀ H, ACalls Tryd.prog 12 xs H fun x H' => x = v ∧ H' = H := by
  intro xs v hv H
  unfold sLandD at hv
  split at hv
  · cases hv; exact landedD_calls H
  · cases hv
end Go.Proofs
