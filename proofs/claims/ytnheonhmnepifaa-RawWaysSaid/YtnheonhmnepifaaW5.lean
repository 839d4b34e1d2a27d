/- CheckWays of the package delta gives what outref1 says, for all ways and all sizes: the law RawWays is true of every input. -/
import Derived.Test.YtnheonhmnepifaaW4
import Derived.Test.YtnheonhmnepifaaRows
import Derived.WalkKit
import Derived.ProofKit
import Derived.OpenShut
import Derived.JoinedCond

namespace Go.Proofs.Ytnheonhmnepifaa
open Go Go.Abs Go.Proofs
set_option linter.unusedVariables false

theorem own : ownKnob Try.prog.godebug = none := by kernel_rfl

theorem rawWays_contract (H : Type) (enc : TypeId × Value → H) (W : World) (base : Nat) (args : Array Value) (ds gs : List (DataW H)) (before : List MemPlace)
    (hval : ∀ (j : Nat) t v, Try.f3.params[j]? = some t → args[j]? = some v → Value.okWide Try.prog W .any base t v)
    (hW : DataW.Whole enc Try.prog Try.f3.params.toList Rows.rawWaysSpec.vars false W args.toList ds gs before) :
    Calls Try.prog 3 args W fun e W' => ∃ v, e = .returned v ∧ Rows.rawWaysSpec.post enc Try.prog Try.f3 false true false false W args v W' := by
  have hty : Try.f3.params.toList.length = [Ty.sl TyWay, Ty.sl TyI].length ∧ (List.zip [Ty.sl TyWay, Ty.sl TyI] Try.f3.params.toList).all (fun p => tyOf Try.prog p.1 p.2) = true := ⟨by kernel_rfl, by kernel_rfl⟩
  refine law_contract (tb := 4) [.sl TyWay, .sl TyI] maxLen rfl (fun ds hd => ?_) (by kernel_rfl) (by kernel_rfl) Try.func3 (by kernel_rfl) (by kernel_rfl) (by kernel_rfl) (by kernel_rfl) hty rawWays_law hval hW ?_
  · have e : Try.f3.params.toList.length = 2 := by kernel_rfl
    rw [e] at hd
    match ds, hd with
    | [a, b], _ => rfl
  · obtain ⟨p, q, hA, _⟩ := hW
    exact args_sm _ _ _ _ _ hty.1 (zip_ty hty.2) hA

theorem rawWays_lifted (os : Os) (started : os.Started) (H : Type) (enc : TypeId × Value → H) :
    ReturnsInHanded {} Try.checked os 3 .any (Rows.rawWaysSpec.pre6 enc Try.prog Try.f3 Rows.rawWaysRow.domain false) (Rows.rawWaysSpec.post enc Try.prog Try.f3 false true false false) := by
  refine returnsInHanded_of_change (C := Try.checked) own started (by kernel_rfl) Try.func3
    (ChangeSpec.witness6 (enc := enc) (C := Try.checked) false ⟨#[], #[.slice none 0 0, .slice none 0 0], []⟩ 8 (by kernel_rfl) (by kernel_rfl) (by kernel_rfl) (by kernel_rfl)) ?_
  intro W base args ds gs before hval hW _ _
  exact rawWays_contract H enc W base args ds gs before hval hW

theorem rawWays_said : Rows.RawWaysSaid :=
  OpenClaim.holds_of_wide 3 Try.f3 rfl rfl rfl rfl rfl rfl rfl ⟨rfl, rfl, rfl, rfl, rfl⟩ rfl rfl rfl rfl rfl (by kernel_rfl) Try.func3 (by kernel_rfl)
    (of_decide_eq_true (by kernel_rfl)) (by unfold Func.isWrapper; first | (rw [if_pos (by decide +kernel)]; kernel_rfl) | (rw [if_neg (by decide +kernel)]; exact ⟨rfl, rfl⟩))
    (fun os started H enc _ => rawWays_lifted os started H enc)
end Go.Proofs.Ytnheonhmnepifaa
#print axioms Go.Proofs.Ytnheonhmnepifaa.rawWays_said
