/- The row of DeltasCompose. -/
import Derived.Test.YtnheonhmnepifaaDoorCO4
import Derived.Lay
import Derived.Test.YtnheonhmnepifaaDoorUpto
namespace Go.Proofs.YtnheonhmnepifaaDoor
open Go Go.Abs Go.Proofs
set_option linter.unusedVariables false
def TyI : Ty := .int .i64
theorem int_in {z : Int} (h : (Lit.int .i64 z).wf = true) : -9223372036854775808 ≤ z ∧ z ≤ 9223372036854775807 := by
  simp only [Lit.wf, Bool.and_eq_true, decide_eq_true_eq] at h
  exact h
def TyPc : Ty := .st (.cons TyI (.cons TyI (.cons .str .nil)))
def TyDl : Ty := .st (.cons TyI (.cons TyI (.cons .str (.cons .str (.cons (.sl TyPc) .nil)))))
theorem wt_pc {c : List AV} (h : WT 1048576 TyPc c) : ∃ p : PieceV, c = encPc p ∧ pcR p := by
  obtain ⟨_, _, rfl, ⟨a, rfl, l1⟩, _, _, rfl, ⟨b, rfl, l2⟩, _, _, rfl, ⟨s, rfl, l3⟩, rfl⟩ := h
  exact ⟨⟨a, b, s⟩, rfl, int_in l1, int_in l2, Nat.le_trans l3 (by decide)⟩
theorem wt_dl {c : List AV} (h : WT 1048576 TyDl c) : ∃ (d : DeltaV) (t : Tail), c = encDl d t ∧ dlR d := by
  obtain ⟨_, _, rfl, ⟨a, rfl, l1⟩, _, _, rfl, ⟨b, rfl, l2⟩, _, _, rfl, ⟨s, rfl, l3⟩, _, _, rfl, ⟨u, rfl, l4⟩, _, _, rfl, ⟨es, t, rfl, h1, h2⟩, rfl⟩ := h
  have : ∃ l : List PieceV, es = l.map encPc ∧ ∀ a ∈ l, pcR a := by
    clear h1
    induction es with
    | nil => exact ⟨[], rfl, by simp⟩
    | cons e es ih =>
      obtain ⟨l, rfl, hl⟩ := ih (fun c hc => h2 c (List.mem_cons_of_mem _ hc))
      obtain ⟨a, rfl, ha⟩ := wt_pc (h2 e (List.mem_cons_self ..))
      refine ⟨a :: l, rfl, fun b hb => ?_⟩
      cases List.mem_cons.1 hb with
      | inl e => subst e; exact ha
      | inr e => exact hl b e
  obtain ⟨l, rfl, hl⟩ := this
  exact ⟨⟨a, b, s, u, l⟩, t, rfl, int_in l1, int_in l2, Nat.le_trans l3 (by decide), Nat.le_trans l4 (by decide), by simpa using Nat.le_trans h1 (by decide), hl⟩
theorem law_walk (xs : List AV) (h : WA 1048576 [Ty.str, Ty.str, Ty.str, TyDl, Ty.bool] xs) : ACalls Tryd.prog 5 xs H0 fun x _ => x = .bool true := by
  obtain ⟨_, _, rfl, ⟨a, rfl, ha⟩, _, _, rfl, ⟨b, rfl, hb⟩, _, _, rfl, ⟨c, rfl, hc⟩, c2, _, rfl, h2, _, _, rfl, ⟨m, rfl⟩, rfl⟩ := h
  obtain ⟨d, t, rfl, hd⟩ := wt_dl h2
  exact (dcompose_calls a b c d t m H0 hd ha hb hc).mono fun x _ e => e.1
theorem tab {W : World} (h : laidMetH Tryd.prog Rows.deltasComposeUptoRow.laid W) : Tab Tryd.prog W.heap.size W := by
  have hm : laidMet Tryd.prog Rows.deltasComposeUptoRow.laid W := h
  refine tab_of [1, 7] (by kernel_rfl) (fun g hg k zs ht => ?_)
  simp only [List.mem_cons, List.not_mem_nil, or_false] at hg
  rcases hg with rfl | rfl
  · rw [tb1] at ht
    cases ht
    exact ⟨by simp, tab_cells' hm (.tail _ (.tail _ (.head _))) (by kernel_rfl)⟩
  · rw [tb7] at ht
    cases ht
    exact ⟨by simp, tab_cells' hm (.tail _ (.head _)) (by kernel_rfl)⟩
set_option maxRecDepth 100000 in
theorem contract (H : Type) (enc : TypeId × Value → H) (W : World) (base : Nat) (args : Array Value) (ds gs : List (DataW H)) (before : List MemPlace)
    (hval : ∀ (j : Nat) t v, Tryd.f5.params[j]? = some t → args[j]? = some v → Value.okWide Tryd.prog W .any base t v)
    (hW : DataW.Whole enc Tryd.prog Tryd.f5.params.toList Rows.deltasComposeSpec.vars false W args.toList ds gs before)
    (hk : Rows.uptoSmall H (ds ++ gs) = true) (hL : laidMetH Tryd.prog Rows.deltasComposeUptoRow.laid W) :
    Calls Tryd.prog 5 args W fun e W' => ∃ v, e = .returned v ∧ Rows.deltasComposeSpec.post enc Tryd.prog Tryd.f5 false true false false W args v W' := by
  have hty : Tryd.f5.params.toList.length = [Ty.str, Ty.str, Ty.str, TyDl, Ty.bool].length ∧ (List.zip [Ty.str, Ty.str, Ty.str, TyDl, Ty.bool] Tryd.f5.params.toList).all (fun p => tyOf Tryd.prog p.1 p.2) = true := ⟨by kernel_rfl, by kernel_rfl⟩
  refine law_contract (tb := 4) [Ty.str, Ty.str, Ty.str, TyDl, Ty.bool] 1048576 rfl (fun ds hd => ?_) (by kernel_rfl) (by kernel_rfl) Tryd.func5 (by kernel_rfl) (by kernel_rfl) (by kernel_rfl) (by kernel_rfl) hty law_walk (tab hL) hval hW (sm_of_upto hk)
  have e : Tryd.f5.params.toList.length = 5 := by kernel_rfl
  rw [e] at hd
  match ds, hd with
  | [a, b, c, d, e], _ => rfl
/-- One input that fits. -/
def wit : Array Value := #[.string ⟨#[]⟩, .string ⟨#[]⟩, .string ⟨#[]⟩, .agg #[.int .i64 0, .int .i64 0, .string ⟨#[]⟩, .string ⟨#[]⟩, .slice none 0 0], .bool false]
def witD {H : Type} : List (DataW H) :=
  [.lit (.string []), .lit (.string []), .lit (.string []), .agg [.lit (.int .i64 0), .lit (.int .i64 0), .lit (.string []), .lit (.string []), .nil], .lit (.bool false)]
noncomputable def wld (os : Os) : World := World.layVars Tryd.prog (World.holding Tryd.prog os ⟨#[], #[], []⟩) Rows.deltasComposeUptoRow.laid
theorem laid_met (os : Os) : laidMet Tryd.prog Rows.deltasComposeUptoRow.laid ((wld os).forCall (fun _ _ => 0) ⟨#[], wit, []⟩).memory :=
  laidMet_of_run' 8 (by kernel_rfl) (by kernel_rfl)
theorem reads (os : Os) {H : Type} (enc : TypeId × Value → H) : ∃ places, DataW.whole enc Tryd.prog ((wld os).forCall (fun _ _ => 0) ⟨#[], wit, []⟩).memory Tryd.f5.params.toList Rows.deltasComposeSpec.vars false wit.toList 8 = some (witD, [], places) :=
  ⟨[], by kernel_rfl⟩
set_option maxRecDepth 100000 in
theorem lifted (os : Os) (started : os.Started) (H : Type) (enc : TypeId × Value → H) (F : Stop.Interp) :
    ReturnsInHanded {} Tryd.checked os 5 .any ((Rows.OpenSpec.upto Rows.deltasComposeSpec).preRow enc Tryd.prog Tryd.f5 Rows.deltasComposeUptoRow.domain false Rows.deltasComposeUptoRow.laid) (((Rows.OpenSpec.upto Rows.deltasComposeSpec).at F).post enc Tryd.prog Tryd.f5 false true false false) := by
  obtain ⟨places, hx⟩ := reads os enc
  refine returnsInHanded_of_row (C := Tryd.checked) (s := Rows.OpenSpec.upto Rows.deltasComposeSpec) own started (by kernel_rfl) Tryd.func5
    (witness_row_at (enc := enc) (C := Tryd.checked) false (wld os) wit rfl (by kernel_rfl) (by kernel_rfl) (by kernel_rfl)
      (OpenSpec.preRow_of_cond 8 hx (by kernel_rfl) (fun k hk => by cases hk; kernel_rfl) (by kernel_rfl) (laid_met os))) ?_
  intro W base args ds gs before hval hW h1 h2 h3 hL h4 h5
  exact contract H enc W base args ds gs before hval hW (h2 _ rfl) hL
end Go.Proofs.YtnheonhmnepifaaDoor
