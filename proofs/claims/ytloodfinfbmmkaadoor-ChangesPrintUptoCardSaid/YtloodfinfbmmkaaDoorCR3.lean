/-
  Proved here: where its arguments hold at most 1048576 values and letters, the law ChangesPrint answers true and leaves its arguments as they were.
  Conditions: those of the given row and its card.
-/
import Derived.Test.YtloodfinfbmmkaaDoorCR2
import Derived.Test.YtloodfinfbmmkaaDoorFacts
namespace Go.Proofs.YtloodfinfbmmkaaDoor
open Go Go.Abs Go.Proofs
theorem fact_place : (Rows.changesPrintUptoRow.inPlace == Tryd.prog.inPlace 4) = true := by kernel_rfl
theorem fact_unf : (Rows.changesPrintUptoRow.unfollowed == Tryd.prog.unfollowed 4) = true := by kernel_rfl
theorem fact_rec : (Rows.changesPrintUptoRow.recurses == Tryd.prog.recurses 4) = true := by kernel_rfl
theorem fact_named : (Rows.changesPrintUptoRow.named == Tryd.prog.varsNamed 4) = true := by kernel_rfl
theorem fact_lifted : (Rows.changesPrintUptoRow.lifted == Tryd.prog.liftsFinal) = true := by kernel_rfl
theorem fact_make : (Tryd.prog.make == some Rows.changesPrintUptoRow.make) = true := by kernel_rfl
theorem closed : joinedFacts Tryd.prog 4 Tryd.f4 (Rows.OpenSpec.upto Rows.changesPrintSpec).bare Rows.changesPrintUptoRow = true := by
  unfold joinedFacts
  rw [fact_laid, fact_maps, fact_heard, fact_enter, fact_place, fact_unf, fact_rec, fact_named, fact_lifted, fact_make]
  kernel_rfl
theorem saidUpto : Rows.ChangesPrintUptoSaid :=
  OpenClaim.holds_of_cond 4 Tryd.f4 rfl rfl rfl rfl rfl rfl rfl ⟨rfl, rfl, rfl, rfl, rfl⟩ rfl rfl rfl rfl rfl (by kernel_rfl) Tryd.func4 closed
    (of_decide_eq_true (by kernel_rfl)) (by unfold Func.isWrapper; first | (rw [if_pos (by decide +kernel)]; kernel_rfl) | (rw [if_neg (by decide +kernel)]; exact ⟨rfl, rfl⟩))
    (fun os started H enc _ F => by rw [OpenClaim.pre_eq_preRow]; exact lifted os started H enc F)
theorem plain (f : FuncId) (fn : Func) (hf : Tryd.pinned.checked.prog.funcNamed "outfitter/outlaw1.ChangesPrint" = some f) (hfn : Tryd.pinned.checked.prog.funcs[f]? = some fn) :
    false = Tryd.pinned.checked.prog.looks [] ∧ ∀ (j : Nat) t, fn.params[j]? = some t → Tryd.pinned.checked.prog.wantsStandIn t = false := by
  obtain rfl : f = 4 := Option.some.inj ((show Tryd.prog.funcNamed "outfitter/outlaw1.ChangesPrint" = some 4 by kernel_rfl).symm.trans hf) |>.symm
  obtain rfl : fn = Tryd.f4 := (Option.some.inj (Tryd.func4.symm.trans hfn)).symm
  refine ⟨by kernel_rfl, fun j t ht => ?_⟩
  have h : Tryd.f4.params.toList.all (fun t => !Tryd.prog.wantsStandIn t) = true := by kernel_rfl
  have := List.all_eq_true.1 h t (Array.mem_toList_iff.2 (Array.mem_of_getElem? ht))
  exact (Bool.not_eq_true' _).mp this
theorem changesPrint_upto : Rows.ChangesPrintUptoCardSaid :=
  Claim7.holds_tied_plain_at .later [] _ _ _ _ saidUpto (fun _ h => by cases h) (by kernel_rfl) (fun _ h => by cases h) changesPrintUpto_row_tie rfl ⟨rfl, rfl⟩ (by kernel_rfl) rfl plain (by kernel_rfl)
end Go.Proofs.YtloodfinfbmmkaaDoor
#print axioms Go.Proofs.YtloodfinfbmmkaaDoor.changesPrint_upto
