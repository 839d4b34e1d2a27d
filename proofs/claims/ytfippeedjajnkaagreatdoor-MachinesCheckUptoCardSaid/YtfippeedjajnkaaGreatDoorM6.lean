/-
  Walks and plain laws, part 6.
-/
import Derived.Test.YtfippeedjajnkaaGreatDoorM5
import Derived.Test.YtfippeedjajnkaaGreatDoorM4
/- Walks: the keys of a map, on the reference's side. -/
namespace Go.Proofs
open Go Go.Abs
open Nat (reduceEqDiff reduceAdd reduceLeDiff reduceLT reduceMul)
open Int (reduceEq reduceLE reduceSub reduceToNat)
set_option linter.unusedSimpArgs false
set_option linter.unusedVariables false
set_option maxRecDepth 20000
end Go.Proofs

/- Walks: a machine as maps, on the reference's side. -/
namespace Go.Proofs
open Go Go.Abs
open Nat (reduceEqDiff reduceAdd reduceLeDiff reduceLT reduceMul)
open Int (reduceEq reduceLE reduceSub reduceToNat)
set_option linter.unusedSimpArgs false
set_option linter.unusedVariables false
set_option maxRecDepth 20000
/-- The reference's machine of maps. -/
structure RW (H G : Heap) (iw i1 i2 i3 : Nat) (fs : List (List AV)) (ta : Tail) (lf : List FileV) (ls : List SetV) (lv : List SvcV) : Prop where
  sub : H.Sub G
  nw : H iw = none
  n1 : H i1 = none
  n2 : H i2 = none
  n3 : H i3 = none
  d : ¬ i1 = iw ∧ ¬ i2 = iw ∧ ¬ i3 = iw ∧ ¬ i1 = i2 ∧ ¬ i1 = i3 ∧ ¬ i2 = i3
  w : G iw = some (.cells [.sl fs ta, .map i1, .map i2, .map i3])
  f : ∃ es, G i1 = some (.map .str es) ∧ MapOf (·.path) (fun x => .agg (encFile x)) es lf
  s : ∃ es, G i2 = some (.map .str es) ∧ MapOf (·.key) (fun x => .str x.value) es ls
  v : ∃ es, G i3 = some (.map .str es) ∧ MapOf (·.name) (fun x => .agg (encSvc x)) es lv
theorem _root_.Go.Abs.Heap.Sub.ne {H G : Heap} (h : H.Sub G) {i j : Nat} {o : AObj} (hi : H i = none) (hj : H j = some o) : ¬ j = i := fun e => by rw [e, hi] at hj; cases hj
theorem RW.put {H G : Heap} {iw i1 i2 i3 : Nat} {fs : List (List AV)} {ta : Tail} {lf : List FileV} {ls : List SetV} {lv : List SvcV} (h : RW H G iw i1 i2 i3 fs ta lf ls lv) {id : Nat} (hid : G id = none) (o : AObj) : RW H (G.put id o) iw i1 i2 i3 fs ta lf ls lv := by
  obtain ⟨a, b, c, d, e, f, g, ⟨e1, h1, k1⟩, ⟨e2, h2, k2⟩, ⟨e3, h3, k3⟩⟩ := h
  exact ⟨a.put' (sub_none a hid) _, b, c, d, e, f, by rw [put_ne _ _ _ _ (obj_ne g hid)]; exact g, ⟨e1, by rw [put_ne _ _ _ _ (obj_ne h1 hid)]; exact h1, k1⟩, ⟨e2, by rw [put_ne _ _ _ _ (obj_ne h2 hid)]; exact h2, k2⟩, ⟨e3, by rw [put_ne _ _ _ _ (obj_ne h3 hid)]; exact h3, k3⟩⟩
end Go.Proofs

/- Walks: a machine of maps becomes a machine again, on the reference's side. -/
namespace Go.Proofs
open Go Go.Abs
open Nat (reduceEqDiff reduceAdd reduceLeDiff reduceLT reduceMul)
open Int (reduceEq reduceLE reduceSub reduceToNat)
set_option linter.unusedSimpArgs false
set_option linter.unusedVariables false
set_option maxRecDepth 20000
end Go.Proofs
