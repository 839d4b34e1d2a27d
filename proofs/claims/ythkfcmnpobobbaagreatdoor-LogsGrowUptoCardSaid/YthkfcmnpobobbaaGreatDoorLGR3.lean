/-
  Proved here: where its arguments hold at most 1048576 values and letters, the law LogsGrow answers true and leaves its arguments as they were.
  Conditions: those of the given row and its card.
-/
import Derived.Test.YthkfcmnpobobbaaGreatDoorLGR2
import Derived.Test.YthkfcmnpobobbaaGreatDoorFacts
namespace Go.Proofs.YthkfcmnpobobbaaGreatDoor
open Go Go.Abs Go.Proofs
theorem fact_place : (Rows.logsGrowUptoRow.inPlace == Tryz.prog.inPlace 5) = true := by kernel_rfl
theorem fact_unf : (Rows.logsGrowUptoRow.unfollowed == Tryz.prog.unfollowed 5) = true := by kernel_rfl
theorem fact_rec : (Rows.logsGrowUptoRow.recurses == Tryz.prog.recurses 5) = true := by kernel_rfl
theorem fact_named : (Rows.logsGrowUptoRow.named == Tryz.prog.varsNamed 5) = true := by kernel_rfl
theorem fact_lifted : (Rows.logsGrowUptoRow.lifted == Tryz.prog.liftsFinal) = true := by kernel_rfl
theorem fact_make : (Tryz.prog.make == some Rows.logsGrowUptoRow.make) = true := by kernel_rfl
theorem closed : joinedFacts Tryz.prog 5 Tryz.f5 (Rows.OpenSpec.upto Rows.logsGrowSpec).bare Rows.logsGrowUptoRow = true := by
  unfold joinedFacts
  rw [fact_laid, fact_maps, fact_heard, fact_enter, fact_place, fact_unf, fact_rec, fact_named, fact_lifted, fact_make]
  kernel_rfl
theorem saidUpto : Rows.LogsGrowUptoSaid :=
  OpenClaim.holds_of_cond 5 Tryz.f5 rfl rfl rfl rfl rfl rfl rfl ⟨rfl, rfl, rfl, rfl, rfl⟩ rfl rfl rfl rfl rfl (by kernel_rfl) Tryz.func5 closed
    (of_decide_eq_true (by kernel_rfl)) (by unfold Func.isWrapper; first | (rw [if_pos (by decide +kernel)]; kernel_rfl) | (rw [if_neg (by decide +kernel)]; exact ⟨rfl, rfl⟩))
    (fun os started H enc _ F => by rw [OpenClaim.pre_eq_preRow]; exact lifted os started H enc F)
theorem plain (f : FuncId) (fn : Func) (hf : Tryz.pinned.checked.prog.funcNamed "outfitter/outlaw1.LogsGrow" = some f) (hfn : Tryz.pinned.checked.prog.funcs[f]? = some fn) :
    true = Tryz.pinned.checked.prog.looks [] ∧ ∀ (j : Nat) t, fn.params[j]? = some t → Tryz.pinned.checked.prog.wantsStandIn t = false := by
  obtain rfl : f = 5 := Option.some.inj ((show Tryz.prog.funcNamed "outfitter/outlaw1.LogsGrow" = some 5 by kernel_rfl).symm.trans hf) |>.symm
  obtain rfl : fn = Tryz.f5 := (Option.some.inj (Tryz.func5.symm.trans hfn)).symm
  refine ⟨by kernel_rfl, fun j t ht => ?_⟩
  have h : Tryz.f5.params.toList.all (fun t => !Tryz.prog.wantsStandIn t) = true := by kernel_rfl
  have := List.all_eq_true.1 h t (Array.mem_toList_iff.2 (Array.mem_of_getElem? ht))
  exact (Bool.not_eq_true' _).mp this
theorem logsGrow_upto : Rows.LogsGrowUptoCardSaid :=
  Claim7.holds_tied_plain_at .later [] _ _ _ _ saidUpto (fun _ h => by cases h) (by kernel_rfl) (fun _ h => by cases h) logsGrowUpto_row_tie rfl ⟨rfl, rfl⟩ (by kernel_rfl) rfl plain (by kernel_rfl)
end Go.Proofs.YthkfcmnpobobbaaGreatDoor
#print axioms Go.Proofs.YthkfcmnpobobbaaGreatDoor.logsGrow_upto
