/-
  Proved here: where its arguments hold at most 1048576 values and letters, the law MachinesCheck answers true and leaves its arguments as they were.
  Conditions: those of the given row and its card.
-/
import Derived.Test.YtfippeedjajnkaaGreatDoorMKR2
import Derived.Test.YtfippeedjajnkaaGreatDoorFacts
namespace Go.Proofs.YtfippeedjajnkaaGreatDoor
open Go Go.Abs Go.Proofs
theorem fact_place : (Rows.machinesCheckUptoRow.inPlace == Tryz.prog.inPlace 4) = true := by kernel_rfl
theorem fact_unf : (Rows.machinesCheckUptoRow.unfollowed == Tryz.prog.unfollowed 4) = true := by kernel_rfl
theorem fact_rec : (Rows.machinesCheckUptoRow.recurses == Tryz.prog.recurses 4) = true := by kernel_rfl
theorem fact_named : (Rows.machinesCheckUptoRow.named == Tryz.prog.varsNamed 4) = true := by kernel_rfl
theorem fact_lifted : (Rows.machinesCheckUptoRow.lifted == Tryz.prog.liftsFinal) = true := by kernel_rfl
theorem fact_make : (Tryz.prog.make == some Rows.machinesCheckUptoRow.make) = true := by kernel_rfl
theorem closed : joinedFacts Tryz.prog 4 Tryz.f4 (Rows.OpenSpec.upto Rows.machinesCheckSpec).bare Rows.machinesCheckUptoRow = true := by
  unfold joinedFacts
  rw [fact_laid, fact_maps, fact_heard, fact_enter, fact_place, fact_unf, fact_rec, fact_named, fact_lifted, fact_make]
  kernel_rfl
theorem saidUpto : Rows.MachinesCheckUptoSaid :=
  OpenClaim.holds_of_cond 4 Tryz.f4 rfl rfl rfl rfl rfl rfl rfl ⟨rfl, rfl, rfl, rfl, rfl⟩ rfl rfl rfl rfl rfl (by kernel_rfl) Tryz.func4 closed
    (of_decide_eq_true (by kernel_rfl)) (by unfold Func.isWrapper; first | (rw [if_pos (by decide +kernel)]; kernel_rfl) | (rw [if_neg (by decide +kernel)]; exact ⟨rfl, rfl⟩))
    (fun os started H enc _ F => by rw [OpenClaim.pre_eq_preRow]; exact lifted os started H enc F)
theorem plain (f : FuncId) (fn : Func) (hf : Tryz.pinned.checked.prog.funcNamed "outfitter/outlaw1.MachinesCheck" = some f) (hfn : Tryz.pinned.checked.prog.funcs[f]? = some fn) :
    false = Tryz.pinned.checked.prog.looks [] ∧ ∀ (j : Nat) t, fn.params[j]? = some t → Tryz.pinned.checked.prog.wantsStandIn t = false := by
  obtain rfl : f = 4 := Option.some.inj ((show Tryz.prog.funcNamed "outfitter/outlaw1.MachinesCheck" = some 4 by kernel_rfl).symm.trans hf) |>.symm
  obtain rfl : fn = Tryz.f4 := (Option.some.inj (Tryz.func4.symm.trans hfn)).symm
  refine ⟨by kernel_rfl, fun j t ht => ?_⟩
  have h : Tryz.f4.params.toList.all (fun t => !Tryz.prog.wantsStandIn t) = true := by kernel_rfl
  have := List.all_eq_true.1 h t (Array.mem_toList_iff.2 (Array.mem_of_getElem? ht))
  exact (Bool.not_eq_true' _).mp this
theorem machinesCheck_upto : Rows.MachinesCheckUptoCardSaid :=
  Claim7.holds_tied_plain_at .later [] _ _ _ _ saidUpto (fun _ h => by cases h) (by kernel_rfl) (fun _ h => by cases h) machinesCheckUpto_row_tie rfl ⟨rfl, rfl⟩ (by kernel_rfl) rfl plain (by kernel_rfl)
end Go.Proofs.YtfippeedjajnkaaGreatDoor
#print axioms Go.Proofs.YtfippeedjajnkaaGreatDoor.machinesCheck_upto
