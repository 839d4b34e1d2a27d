/- The row of MachinesParse. -/
import Derived.Test.YtloodfinfbmmkaaDoorM7
import Derived.Lay
import Derived.Test.YtloodfinfbmmkaaDoorUpto
namespace Go.Proofs.YtloodfinfbmmkaaDoor
open Go Go.Abs Go.Proofs
set_option linter.unusedVariables false
def TyI : Ty := .int .i64
theorem int_in {z : Int} (h : (Lit.int .i64 z).wf = true) : -9223372036854775808 ≤ z ∧ z ≤ 9223372036854775807 := by
  simp only [Lit.wf, Bool.and_eq_true, decide_eq_true_eq] at h
  exact h
theorem law_walk (xs : List AV) (h : WA 1048576 [Ty.str] xs) : ACalls Tryd.prog 3 xs H0 fun x _ => x = .bool true := by
  obtain ⟨_, _, rfl, ⟨a, rfl, ha⟩, rfl⟩ := h
  exact (machinesParse_calls a H0 ha).mono fun x _ e => e.1
theorem tab {W : World} (h : laidMetH Tryd.prog Rows.machinesParseUptoRow.laid W) : Tab Tryd.prog W.heap.size W := by
  intro g k zs hg
  unfold tabOf tabList at hg
  split at hg <;> cases hg
set_option maxRecDepth 100000 in
theorem contract (H : Type) (enc : TypeId × Value → H) (W : World) (base : Nat) (args : Array Value) (ds gs : List (DataW H)) (before : List MemPlace)
    (hval : ∀ (j : Nat) t v, Tryd.f3.params[j]? = some t → args[j]? = some v → Value.okWide Tryd.prog W .any base t v)
    (hW : DataW.Whole enc Tryd.prog Tryd.f3.params.toList Rows.machinesParseSpec.vars false W args.toList ds gs before)
    (hk : Rows.uptoSmall H (ds ++ gs) = true) (hL : laidMetH Tryd.prog Rows.machinesParseUptoRow.laid W) :
    Calls Tryd.prog 3 args W fun e W' => ∃ v, e = .returned v ∧ Rows.machinesParseSpec.post enc Tryd.prog Tryd.f3 false true false false W args v W' := by
  have hty : Tryd.f3.params.toList.length = [Ty.str].length ∧ (List.zip [Ty.str] Tryd.f3.params.toList).all (fun p => tyOf Tryd.prog p.1 p.2) = true := ⟨by kernel_rfl, by kernel_rfl⟩
  refine law_contract (tb := 4) [Ty.str] 1048576 rfl (fun ds hd => ?_) (by kernel_rfl) (by kernel_rfl) Tryd.func3 (by kernel_rfl) (by kernel_rfl) (by kernel_rfl) (by kernel_rfl) hty law_walk (tab hL) hval hW (sm_of_upto hk)
  have e : Tryd.f3.params.toList.length = 1 := by kernel_rfl
  rw [e] at hd
  match ds, hd with
  | [a], _ => rfl
/-- One input that fits. -/
def wit : Array Value := #[.string ⟨#[]⟩]
def witD {H : Type} : List (DataW H) :=
  [.lit (.string [])]
noncomputable def wld (os : Os) : World := World.layVars Tryd.prog (World.holding Tryd.prog os ⟨#[], #[], []⟩) Rows.machinesParseUptoRow.laid
theorem laid_met (os : Os) : laidMet Tryd.prog Rows.machinesParseUptoRow.laid ((wld os).forCall (fun _ _ => 0) ⟨#[], wit, []⟩).memory :=
  laidMet_of_run' 8 (by kernel_rfl) (by kernel_rfl)
theorem reads (os : Os) {H : Type} (enc : TypeId × Value → H) : ∃ places, DataW.whole enc Tryd.prog ((wld os).forCall (fun _ _ => 0) ⟨#[], wit, []⟩).memory Tryd.f3.params.toList Rows.machinesParseSpec.vars false wit.toList 8 = some (witD, [], places) :=
  ⟨[], by kernel_rfl⟩
set_option maxRecDepth 100000 in
theorem lifted (os : Os) (started : os.Started) (H : Type) (enc : TypeId × Value → H) (F : Stop.Interp) :
    ReturnsInHanded {} Tryd.checked os 3 .any ((Rows.OpenSpec.upto Rows.machinesParseSpec).preRow enc Tryd.prog Tryd.f3 Rows.machinesParseUptoRow.domain false Rows.machinesParseUptoRow.laid) (((Rows.OpenSpec.upto Rows.machinesParseSpec).at F).post enc Tryd.prog Tryd.f3 false true false false) := by
  obtain ⟨places, hx⟩ := reads os enc
  refine returnsInHanded_of_row (C := Tryd.checked) (s := Rows.OpenSpec.upto Rows.machinesParseSpec) own started (by kernel_rfl) Tryd.func3
    (witness_row_at (enc := enc) (C := Tryd.checked) false (wld os) wit rfl (by kernel_rfl) (by kernel_rfl) (by kernel_rfl)
      (OpenSpec.preRow_of_cond 8 hx (by kernel_rfl) (fun k hk => by cases hk; kernel_rfl) (by kernel_rfl) (laid_met os))) ?_
  intro W base args ds gs before hval hW h1 h2 h3 hL h4 h5
  exact contract H enc W base args ds gs before hval hW (h2 _ rfl) hL
end Go.Proofs.YtloodfinfbmmkaaDoor
