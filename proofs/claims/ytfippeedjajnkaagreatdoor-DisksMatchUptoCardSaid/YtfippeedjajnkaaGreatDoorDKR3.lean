/-
  Proved here: where its arguments hold at most 1048576 values and letters, the law DisksMatch answers true and leaves its arguments as they were.
  Conditions: those of the given row and its card.
-/
import Derived.Test.YtfippeedjajnkaaGreatDoorDKR2
import Derived.Test.YtfippeedjajnkaaGreatDoorFacts
namespace Go.Proofs.YtfippeedjajnkaaGreatDoor
open Go Go.Abs Go.Proofs
theorem fact_place : (Rows.disksMatchUptoRow.inPlace == Tryz.prog.inPlace 5) = true := by kernel_rfl
theorem fact_unf : (Rows.disksMatchUptoRow.unfollowed == Tryz.prog.unfollowed 5) = true := by kernel_rfl
theorem fact_rec : (Rows.disksMatchUptoRow.recurses == Tryz.prog.recurses 5) = true := by kernel_rfl
theorem fact_named : (Rows.disksMatchUptoRow.named == Tryz.prog.varsNamed 5) = true := by kernel_rfl
theorem fact_lifted : (Rows.disksMatchUptoRow.lifted == Tryz.prog.liftsFinal) = true := by kernel_rfl
theorem fact_make : (Tryz.prog.make == some Rows.disksMatchUptoRow.make) = true := by kernel_rfl
theorem closed : joinedFacts Tryz.prog 5 Tryz.f5 (Rows.OpenSpec.upto Rows.disksMatchSpec).bare Rows.disksMatchUptoRow = true := by
  unfold joinedFacts
  rw [fact_laid, fact_maps, fact_heard, fact_enter, fact_place, fact_unf, fact_rec, fact_named, fact_lifted, fact_make]
  kernel_rfl
theorem saidUpto : Rows.DisksMatchUptoSaid :=
  OpenClaim.holds_of_cond 5 Tryz.f5 rfl rfl rfl rfl rfl rfl rfl ⟨rfl, rfl, rfl, rfl, rfl⟩ rfl rfl rfl rfl rfl (by kernel_rfl) Tryz.func5 closed
    (of_decide_eq_true (by kernel_rfl)) (by unfold Func.isWrapper; first | (rw [if_pos (by decide +kernel)]; kernel_rfl) | (rw [if_neg (by decide +kernel)]; exact ⟨rfl, rfl⟩))
    (fun os started H enc _ F => by rw [OpenClaim.pre_eq_preRow]; exact lifted os started H enc F)
theorem plain (f : FuncId) (fn : Func) (hf : Tryz.pinned.checked.prog.funcNamed "outfitter/outlaw1.DisksMatch" = some f) (hfn : Tryz.pinned.checked.prog.funcs[f]? = some fn) :
    false = Tryz.pinned.checked.prog.looks [] ∧ ∀ (j : Nat) t, fn.params[j]? = some t → Tryz.pinned.checked.prog.wantsStandIn t = false := by
  obtain rfl : f = 5 := Option.some.inj ((show Tryz.prog.funcNamed "outfitter/outlaw1.DisksMatch" = some 5 by kernel_rfl).symm.trans hf) |>.symm
  obtain rfl : fn = Tryz.f5 := (Option.some.inj (Tryz.func5.symm.trans hfn)).symm
  refine ⟨by kernel_rfl, fun j t ht => ?_⟩
  have h : Tryz.f5.params.toList.all (fun t => !Tryz.prog.wantsStandIn t) = true := by kernel_rfl
  have := List.all_eq_true.1 h t (Array.mem_toList_iff.2 (Array.mem_of_getElem? ht))
  exact (Bool.not_eq_true' _).mp this
theorem disksMatch_upto : Rows.DisksMatchUptoCardSaid :=
  Claim7.holds_tied_plain_at .later [] _ _ _ _ saidUpto (fun _ h => by cases h) (by kernel_rfl) (fun _ h => by cases h) disksMatchUpto_row_tie rfl ⟨rfl, rfl⟩ (by kernel_rfl) rfl plain (by kernel_rfl)
end Go.Proofs.YtfippeedjajnkaaGreatDoor
#print axioms Go.Proofs.YtfippeedjajnkaaGreatDoor.disksMatch_upto
