/-
  Proved here: where its arguments hold at most 1048576 values and letters, the law SumsMatch answers true and leaves its arguments as they were.
  Conditions: those of the given row and its card.
-/
import Derived.Test.YtmcnfdbohkobaaaGreatDoorSMR2
import Derived.Test.YtmcnfdbohkobaaaGreatDoorFacts
namespace Go.Proofs.YtmcnfdbohkobaaaGreatDoor
open Go Go.Abs Go.Proofs
theorem fact_place : (Rows.sumsMatchUptoRow.inPlace == Tryz.prog.inPlace 3) = true := by kernel_rfl
theorem fact_unf : (Rows.sumsMatchUptoRow.unfollowed == Tryz.prog.unfollowed 3) = true := by kernel_rfl
theorem fact_rec : (Rows.sumsMatchUptoRow.recurses == Tryz.prog.recurses 3) = true := by kernel_rfl
theorem fact_named : (Rows.sumsMatchUptoRow.named == Tryz.prog.varsNamed 3) = true := by kernel_rfl
theorem fact_lifted : (Rows.sumsMatchUptoRow.lifted == Tryz.prog.liftsFinal) = true := by kernel_rfl
theorem fact_make : (Tryz.prog.make == some Rows.sumsMatchUptoRow.make) = true := by kernel_rfl
theorem closed : joinedFacts Tryz.prog 3 Tryz.f3 (Rows.OpenSpec.upto Rows.sumsMatchSpec).bare Rows.sumsMatchUptoRow = true := by
  unfold joinedFacts
  rw [fact_laid, fact_maps, fact_heard, fact_enter, fact_place, fact_unf, fact_rec, fact_named, fact_lifted, fact_make]
  kernel_rfl
theorem saidUpto : Rows.SumsMatchUptoSaid :=
  OpenClaim.holds_of_cond 3 Tryz.f3 rfl rfl rfl rfl rfl rfl rfl ⟨rfl, rfl, rfl, rfl, rfl⟩ rfl rfl rfl rfl rfl (by kernel_rfl) Tryz.func3 closed
    (of_decide_eq_true (by kernel_rfl)) (by unfold Func.isWrapper; first | (rw [if_pos (by decide +kernel)]; kernel_rfl) | (rw [if_neg (by decide +kernel)]; exact ⟨rfl, rfl⟩))
    (fun os started H enc _ F => by rw [OpenClaim.pre_eq_preRow]; exact lifted os started H enc F)
theorem plain (f : FuncId) (fn : Func) (hf : Tryz.pinned.checked.prog.funcNamed "outfitter/outlaw1.SumsMatch" = some f) (hfn : Tryz.pinned.checked.prog.funcs[f]? = some fn) :
    false = Tryz.pinned.checked.prog.looks [] ∧ ∀ (j : Nat) t, fn.params[j]? = some t → Tryz.pinned.checked.prog.wantsStandIn t = false := by
  obtain rfl : f = 3 := Option.some.inj ((show Tryz.prog.funcNamed "outfitter/outlaw1.SumsMatch" = some 3 by kernel_rfl).symm.trans hf) |>.symm
  obtain rfl : fn = Tryz.f3 := (Option.some.inj (Tryz.func3.symm.trans hfn)).symm
  refine ⟨by kernel_rfl, fun j t ht => ?_⟩
  have h : Tryz.f3.params.toList.all (fun t => !Tryz.prog.wantsStandIn t) = true := by kernel_rfl
  have := List.all_eq_true.1 h t (Array.mem_toList_iff.2 (Array.mem_of_getElem? ht))
  exact (Bool.not_eq_true' _).mp this
theorem sumsMatch_upto : Rows.SumsMatchUptoCardSaid :=
  Claim7.holds_tied_plain_at .later [] _ _ _ _ saidUpto (fun _ h => by cases h) (by kernel_rfl) (fun _ h => by cases h) sumsMatchUpto_row_tie rfl ⟨rfl, rfl⟩ (by kernel_rfl) rfl plain (by kernel_rfl)
end Go.Proofs.YtmcnfdbohkobaaaGreatDoor
#print axioms Go.Proofs.YtmcnfdbohkobaaaGreatDoor.sumsMatch_upto
