/- The row of ChangesPrint. -/
import Derived.Test.YtloodfinfbmmkaaDoorM9
import Derived.Lay
import Derived.Test.YtloodfinfbmmkaaDoorUpto
namespace Go.Proofs.YtloodfinfbmmkaaDoor
open Go Go.Abs Go.Proofs
set_option linter.unusedVariables false
def TyI : Ty := .int .i64
theorem int_in {z : Int} (h : (Lit.int .i64 z).wf = true) : -9223372036854775808 ≤ z ∧ z ≤ 9223372036854775807 := by
  simp only [Lit.wf, Bool.and_eq_true, decide_eq_true_eq] at h
  exact h
def TyFile : Ty := .st (.cons .str (.cons .str (.cons .bool .nil)))
def TySet : Ty := .st (.cons .str (.cons .str .nil))
def TySvc : Ty := .st (.cons .str (.cons .str (.cons .bool (.cons .bool .nil))))
def TyChg : Ty := .st (.cons TyI (.cons TyFile (.cons TySet (.cons TySvc .nil))))
theorem wt_file {n : Nat} {c : List AV} (h : WT n TyFile c) : ∃ a : FileV, c = encFile a ∧ a.path.length ≤ n ∧ a.data.length ≤ n := by
  obtain ⟨_, _, rfl, ⟨s1, rfl, l1⟩, _, _, rfl, ⟨s2, rfl, l2⟩, _, _, rfl, ⟨b, rfl⟩, rfl⟩ := h
  exact ⟨⟨s1, s2, b⟩, rfl, l1, l2⟩
theorem wt_set {n : Nat} {c : List AV} (h : WT n TySet c) : ∃ a : SetV, c = encSet a ∧ a.key.length ≤ n ∧ a.value.length ≤ n := by
  obtain ⟨_, _, rfl, ⟨s1, rfl, l1⟩, _, _, rfl, ⟨s2, rfl, l2⟩, rfl⟩ := h
  exact ⟨⟨s1, s2⟩, rfl, l1, l2⟩
theorem wt_svc {n : Nat} {c : List AV} (h : WT n TySvc c) : ∃ a : SvcV, c = encSvc a ∧ a.name.length ≤ n ∧ a.path.length ≤ n := by
  obtain ⟨_, _, rfl, ⟨s1, rfl, l1⟩, _, _, rfl, ⟨s2, rfl, l2⟩, _, _, rfl, ⟨b, rfl⟩, _, _, rfl, ⟨d, rfl⟩, rfl⟩ := h
  exact ⟨⟨s1, s2, b, d⟩, rfl, l1, l2⟩
theorem wt_chgB {c : List AV} (h : WT 1048576 TyChg c) : ∃ a : ChgV, c = encChg a ∧ chgB 1048576 a := by
  obtain ⟨_, _, rfl, ⟨k, rfl, -⟩, _, _, rfl, h1, _, _, rfl, h2, _, _, rfl, h3, rfl⟩ := h
  obtain ⟨f, rfl, f1, f2⟩ := wt_file h1
  obtain ⟨s, rfl, s1, s2⟩ := wt_set h2
  obtain ⟨v, rfl, v1, v2⟩ := wt_svc h3
  exact ⟨⟨k, f, s, v⟩, rfl, ⟨f1, f2⟩, ⟨s1, s2⟩, ⟨v1, v2⟩⟩
theorem wt_chgs {es : List (List AV)} (h2 : ∀ c ∈ es, WT 1048576 TyChg c) : ∃ l : List ChgV, es = l.map encChg ∧ ∀ a ∈ l, chgB 1048576 a := by
  induction es with
  | nil => exact ⟨[], rfl, by simp⟩
  | cons e es ih =>
    obtain ⟨l, rfl, hl⟩ := ih (fun c hc => h2 c (List.mem_cons_of_mem _ hc))
    obtain ⟨a, rfl, ha⟩ := wt_chgB (h2 e (List.mem_cons_self ..))
    refine ⟨a :: l, rfl, fun b hb => ?_⟩
    cases List.mem_cons.1 hb with
    | inl e => subst e; exact ha
    | inr e => exact hl b e
theorem law_walk (xs : List AV) (h : WA 1048576 [Ty.sl TyChg, Ty.str] xs) : ACalls Tryd.prog 4 xs H0 fun x _ => x = .bool true := by
  obtain ⟨_, _, rfl, ⟨es, t, rfl, h1, h2⟩, _, _, rfl, ⟨b, rfl, hb⟩, rfl⟩ := h
  obtain ⟨l, rfl, hl⟩ := wt_chgs h2
  exact (changesPrint_calls l t b H0 (by simpa using h1) hl hb).mono fun x _ e => e.1
theorem tab {W : World} (h : laidMetH Tryd.prog Rows.changesPrintUptoRow.laid W) : Tab Tryd.prog W.heap.size W := by
  intro g k zs hg
  unfold tabOf tabList at hg
  split at hg <;> cases hg
set_option maxRecDepth 100000 in
theorem contract (H : Type) (enc : TypeId × Value → H) (W : World) (base : Nat) (args : Array Value) (ds gs : List (DataW H)) (before : List MemPlace)
    (hval : ∀ (j : Nat) t v, Tryd.f4.params[j]? = some t → args[j]? = some v → Value.okWide Tryd.prog W .any base t v)
    (hW : DataW.Whole enc Tryd.prog Tryd.f4.params.toList Rows.changesPrintSpec.vars false W args.toList ds gs before)
    (hk : Rows.uptoSmall H (ds ++ gs) = true) (hL : laidMetH Tryd.prog Rows.changesPrintUptoRow.laid W) :
    Calls Tryd.prog 4 args W fun e W' => ∃ v, e = .returned v ∧ Rows.changesPrintSpec.post enc Tryd.prog Tryd.f4 false true false false W args v W' := by
  have hty : Tryd.f4.params.toList.length = [Ty.sl TyChg, Ty.str].length ∧ (List.zip [Ty.sl TyChg, Ty.str] Tryd.f4.params.toList).all (fun p => tyOf Tryd.prog p.1 p.2) = true := ⟨by kernel_rfl, by kernel_rfl⟩
  refine law_contract (tb := 4) [Ty.sl TyChg, Ty.str] 1048576 rfl (fun ds hd => ?_) (by kernel_rfl) (by kernel_rfl) Tryd.func4 (by kernel_rfl) (by kernel_rfl) (by kernel_rfl) (by kernel_rfl) hty law_walk (tab hL) hval hW (sm_of_upto hk)
  have e : Tryd.f4.params.toList.length = 2 := by kernel_rfl
  rw [e] at hd
  match ds, hd with
  | [a, b], _ => rfl
/-- One input that fits. -/
def wit : Array Value := #[.slice none 0 0, .string ⟨#[]⟩]
def witD {H : Type} : List (DataW H) :=
  [.nil, .lit (.string [])]
noncomputable def wld (os : Os) : World := World.layVars Tryd.prog (World.holding Tryd.prog os ⟨#[], #[], []⟩) Rows.changesPrintUptoRow.laid
theorem laid_met (os : Os) : laidMet Tryd.prog Rows.changesPrintUptoRow.laid ((wld os).forCall (fun _ _ => 0) ⟨#[], wit, []⟩).memory :=
  laidMet_of_run' 8 (by kernel_rfl) (by kernel_rfl)
theorem reads (os : Os) {H : Type} (enc : TypeId × Value → H) : ∃ places, DataW.whole enc Tryd.prog ((wld os).forCall (fun _ _ => 0) ⟨#[], wit, []⟩).memory Tryd.f4.params.toList Rows.changesPrintSpec.vars false wit.toList 8 = some (witD, [], places) :=
  ⟨[], by kernel_rfl⟩
set_option maxRecDepth 100000 in
theorem lifted (os : Os) (started : os.Started) (H : Type) (enc : TypeId × Value → H) (F : Stop.Interp) :
    ReturnsInHanded {} Tryd.checked os 4 .any ((Rows.OpenSpec.upto Rows.changesPrintSpec).preRow enc Tryd.prog Tryd.f4 Rows.changesPrintUptoRow.domain false Rows.changesPrintUptoRow.laid) (((Rows.OpenSpec.upto Rows.changesPrintSpec).at F).post enc Tryd.prog Tryd.f4 false true false false) := by
  obtain ⟨places, hx⟩ := reads os enc
  refine returnsInHanded_of_row (C := Tryd.checked) (s := Rows.OpenSpec.upto Rows.changesPrintSpec) own started (by kernel_rfl) Tryd.func4
    (witness_row_at (enc := enc) (C := Tryd.checked) false (wld os) wit rfl (by kernel_rfl) (by kernel_rfl) (by kernel_rfl)
      (OpenSpec.preRow_of_cond 8 hx (by kernel_rfl) (fun k hk => by cases hk; kernel_rfl) (by kernel_rfl) (laid_met os))) ?_
  intro W base args ds gs before hval hW h1 h2 h3 hL h4 h5
  exact contract H enc W base args ds gs before hval hW (h2 _ rfl) hL
end Go.Proofs.YtloodfinfbmmkaaDoor
