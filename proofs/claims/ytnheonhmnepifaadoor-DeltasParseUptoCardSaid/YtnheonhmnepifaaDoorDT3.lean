/-
  Proved here: where its arguments hold at most 1048576 values and letters, the law DeltasParse answers true and leaves its arguments as they were.
  Conditions: those of the given row and its card.
-/
import Derived.Test.YtnheonhmnepifaaDoorDT2
import Derived.Test.YtnheonhmnepifaaDoorFacts
namespace Go.Proofs.YtnheonhmnepifaaDoor
open Go Go.Abs Go.Proofs
theorem fact_place : (Rows.deltasParseUptoRow.inPlace == Tryd.prog.inPlace 6) = true := by kernel_rfl
theorem fact_unf : (Rows.deltasParseUptoRow.unfollowed == Tryd.prog.unfollowed 6) = true := by kernel_rfl
theorem fact_rec : (Rows.deltasParseUptoRow.recurses == Tryd.prog.recurses 6) = true := by kernel_rfl
theorem fact_named : (Rows.deltasParseUptoRow.named == Tryd.prog.varsNamed 6) = true := by kernel_rfl
theorem fact_lifted : (Rows.deltasParseUptoRow.lifted == Tryd.prog.liftsFinal) = true := by kernel_rfl
theorem fact_make : (Tryd.prog.make == some Rows.deltasParseUptoRow.make) = true := by kernel_rfl
theorem closed : joinedFacts Tryd.prog 6 Tryd.f6 (Rows.OpenSpec.upto Rows.deltasParseSpec).bare Rows.deltasParseUptoRow = true := by
  unfold joinedFacts
  rw [fact_laid, fact_maps, fact_heard, fact_enter, fact_place, fact_unf, fact_rec, fact_named, fact_lifted, fact_make]
  kernel_rfl
theorem saidUpto : Rows.DeltasParseUptoSaid :=
  OpenClaim.holds_of_cond 6 Tryd.f6 rfl rfl rfl rfl rfl rfl rfl ⟨rfl, rfl, rfl, rfl, rfl⟩ rfl rfl rfl rfl rfl (by kernel_rfl) Tryd.func6 closed
    (of_decide_eq_true (by kernel_rfl)) (by unfold Func.isWrapper; first | (rw [if_pos (by decide +kernel)]; kernel_rfl) | (rw [if_neg (by decide +kernel)]; exact ⟨rfl, rfl⟩))
    (fun os started H enc _ F => by rw [OpenClaim.pre_eq_preRow]; exact lifted os started H enc F)
theorem plain (f : FuncId) (fn : Func) (hf : Tryd.pinned.checked.prog.funcNamed "outfitter/outlaw1.DeltasParse" = some f) (hfn : Tryd.pinned.checked.prog.funcs[f]? = some fn) :
    true = Tryd.pinned.checked.prog.looks [] ∧ ∀ (j : Nat) t, fn.params[j]? = some t → Tryd.pinned.checked.prog.wantsStandIn t = false := by
  obtain rfl : f = 6 := Option.some.inj ((show Tryd.prog.funcNamed "outfitter/outlaw1.DeltasParse" = some 6 by kernel_rfl).symm.trans hf) |>.symm
  obtain rfl : fn = Tryd.f6 := (Option.some.inj (Tryd.func6.symm.trans hfn)).symm
  refine ⟨by kernel_rfl, fun j t ht => ?_⟩
  have h : Tryd.f6.params.toList.all (fun t => !Tryd.prog.wantsStandIn t) = true := by kernel_rfl
  have := List.all_eq_true.1 h t (Array.mem_toList_iff.2 (Array.mem_of_getElem? ht))
  exact (Bool.not_eq_true' _).mp this
theorem deltasParse_upto : Rows.DeltasParseUptoCardSaid :=
  Claim7.holds_tied_plain_at .later [] _ _ _ _ saidUpto (fun _ h => by cases h) (by kernel_rfl) (fun _ h => by cases h) deltasParseUpto_row_tie rfl ⟨rfl, rfl⟩ (by kernel_rfl) rfl plain (by kernel_rfl)
end Go.Proofs.YtnheonhmnepifaaDoor
#print axioms Go.Proofs.YtnheonhmnepifaaDoor.deltasParse_upto
