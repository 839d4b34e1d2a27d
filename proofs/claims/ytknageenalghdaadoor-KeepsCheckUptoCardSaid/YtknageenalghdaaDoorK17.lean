/- The row of KeepsCheck. -/
import Derived.Test.YtknageenalghdaaDoorK16
import Derived.Test.YtknageenalghdaaDoorUpto
namespace Go.Proofs.YtknageenalghdaaDoor
open Go Go.Abs Go.Proofs
set_option linter.unusedVariables false
def TyI : Ty := .int .i64
def TyFile : Ty := .st (.cons .str (.cons .str (.cons .bool .nil)))
def TySet : Ty := .st (.cons .str (.cons .str .nil))
def TySvc : Ty := .st (.cons .str (.cons .str (.cons .bool (.cons .bool .nil))))
def TyChg : Ty := .st (.cons TyI (.cons TyFile (.cons TySet (.cons TySvc .nil))))
def TyHeld : Ty := .st (.cons .str (.cons TyI (.cons .str (.cons .str (.cons .str .nil)))))
def TyKeep : Ty := .st (.cons (.sl TyHeld) .nil)
theorem wt_file {n : Nat} {c : List AV} (h : WT n TyFile c) : ∃ a : FileV, c = encFile a ∧ a.path.length ≤ n ∧ a.data.length ≤ n := by
  obtain ⟨_, _, rfl, ⟨s1, rfl, l1⟩, _, _, rfl, ⟨s2, rfl, l2⟩, _, _, rfl, ⟨b, rfl⟩, rfl⟩ := h
  exact ⟨⟨s1, s2, b⟩, rfl, l1, l2⟩
theorem wt_set {n : Nat} {c : List AV} (h : WT n TySet c) : ∃ a : SetV, c = encSet a ∧ a.key.length ≤ n ∧ a.value.length ≤ n := by
  obtain ⟨_, _, rfl, ⟨s1, rfl, l1⟩, _, _, rfl, ⟨s2, rfl, l2⟩, rfl⟩ := h
  exact ⟨⟨s1, s2⟩, rfl, l1, l2⟩
theorem wt_svc {n : Nat} {c : List AV} (h : WT n TySvc c) : ∃ a : SvcV, c = encSvc a ∧ a.name.length ≤ n ∧ a.path.length ≤ n := by
  obtain ⟨_, _, rfl, ⟨s1, rfl, l1⟩, _, _, rfl, ⟨s2, rfl, l2⟩, _, _, rfl, ⟨b, rfl⟩, _, _, rfl, ⟨d, rfl⟩, rfl⟩ := h
  exact ⟨⟨s1, s2, b, d⟩, rfl, l1, l2⟩
theorem wt_chg {c : List AV} (h : WT 1048576 TyChg c) : ∃ a : ChgV, c = encChg a ∧ chgR a := by
  obtain ⟨_, _, rfl, ⟨k, rfl, -⟩, _, _, rfl, h1, _, _, rfl, h2, _, _, rfl, h3, rfl⟩ := h
  obtain ⟨f, rfl, f1, f2⟩ := wt_file h1
  obtain ⟨s, rfl, s1, s2⟩ := wt_set h2
  obtain ⟨v, rfl, v1, v2⟩ := wt_svc h3
  exact ⟨⟨k, f, s, v⟩, rfl, ⟨Nat.le_trans f1 (by decide), Nat.le_trans f2 (by decide)⟩, ⟨Nat.le_trans s1 (by decide), Nat.le_trans s2 (by decide)⟩, ⟨Nat.le_trans v1 (by decide), Nat.le_trans v2 (by decide)⟩⟩
theorem wt_held {c : List AV} (h : WT 1048576 TyHeld c) : ∃ a : HeldV, c = encHeld a ∧ heldR a := by
  obtain ⟨_, _, rfl, ⟨o, rfl, l1⟩, _, _, rfl, ⟨k, rfl, -⟩, _, _, rfl, ⟨p, rfl, l2⟩, _, _, rfl, ⟨s, rfl, l3⟩, _, _, rfl, ⟨d, rfl, l4⟩, rfl⟩ := h
  exact ⟨⟨o, k, p, s, d⟩, rfl, l1, l2, l3, l4⟩
theorem wt_keep {c : List AV} (h : WT 1048576 TyKeep c) : ∃ (l : List HeldV) (t : Tail), c = [.sl (l.map encHeld) t] ∧ keepR l := by
  obtain ⟨_, _, rfl, ⟨es, t, rfl, h1, h2⟩, rfl⟩ := h
  have : ∃ l : List HeldV, es = l.map encHeld ∧ ∀ a ∈ l, heldR a := by
    clear h1
    induction es with
    | nil => exact ⟨[], rfl, by simp⟩
    | cons e es ih =>
      obtain ⟨l, rfl, hl⟩ := ih (fun c hc => h2 c (List.mem_cons_of_mem _ hc))
      obtain ⟨a, rfl, ha⟩ := wt_held (h2 e (List.mem_cons_self ..))
      refine ⟨a :: l, rfl, fun b hb => ?_⟩
      cases List.mem_cons.1 hb with
      | inl e => subst e; exact ha
      | inr e => exact hl b e
  obtain ⟨l, rfl, hl⟩ := this
  exact ⟨l, t, rfl, by simpa using h1, hl⟩
theorem keeps_law (xs : List AV) (h : WA 1048576 [TyChg, TyKeep, TyI, .str, .str] xs) : ACalls Tryd.prog 3 xs H0 fun x _ => x = .bool true := by
  obtain ⟨c1, _, rfl, h1, c2, _, rfl, h2, _, _, rfl, ⟨k, rfl, -⟩, _, _, rfl, ⟨p, rfl, hp⟩, _, _, rfl, ⟨o, rfl, ho⟩, rfl⟩ := h
  obtain ⟨c, rfl, hc⟩ := wt_chg h1
  obtain ⟨l, t, rfl, hl⟩ := wt_keep h2
  exact (law_calls c l t k p o H0 hc hl hp ho).mono fun x _ e => e.1
theorem tab {W : World} (h : laidMetH Tryd.prog Rows.keepsCheckUptoRow.laid W) : Tab Tryd.prog W.heap.size W := by
  have hm : laidMet Tryd.prog Rows.keepsCheckUptoRow.laid W := h
  refine tab_of [1, 5] (by kernel_rfl) (fun g hg k zs ht => ?_)
  simp only [List.mem_cons, List.not_mem_nil, or_false] at hg
  rcases hg with rfl | rfl
  · rw [tb1] at ht
    cases ht
    exact ⟨by simp, tab_cells' hm (.tail _ (.tail _ (.head _))) (by kernel_rfl)⟩
  · rw [tb5] at ht
    cases ht
    exact ⟨by simp, tab_cells' hm (.tail _ (.head _)) (by kernel_rfl)⟩
set_option maxRecDepth 100000 in
theorem contract (H : Type) (enc : TypeId × Value → H) (W : World) (base : Nat) (args : Array Value) (ds gs : List (DataW H)) (before : List MemPlace)
    (hval : ∀ (j : Nat) t v, Tryd.f3.params[j]? = some t → args[j]? = some v → Value.okWide Tryd.prog W .any base t v)
    (hW : DataW.Whole enc Tryd.prog Tryd.f3.params.toList Rows.keepsCheckSpec.vars false W args.toList ds gs before)
    (hk : Rows.uptoSmall H (ds ++ gs) = true) (hL : laidMetH Tryd.prog Rows.keepsCheckUptoRow.laid W) :
    Calls Tryd.prog 3 args W fun e W' => ∃ v, e = .returned v ∧ Rows.keepsCheckSpec.post enc Tryd.prog Tryd.f3 false true false false W args v W' := by
  have hty : Tryd.f3.params.toList.length = [TyChg, TyKeep, TyI, Ty.str, Ty.str].length ∧ (List.zip [TyChg, TyKeep, TyI, Ty.str, Ty.str] Tryd.f3.params.toList).all (fun p => tyOf Tryd.prog p.1 p.2) = true := ⟨by kernel_rfl, by kernel_rfl⟩
  refine law_contract (tb := 4) [TyChg, TyKeep, TyI, .str, .str] 1048576 rfl (fun ds hd => ?_) (by kernel_rfl) (by kernel_rfl) Tryd.func3 (by kernel_rfl) (by kernel_rfl) (by kernel_rfl) (by kernel_rfl) hty keeps_law (tab hL) hval hW (sm_of_upto hk)
  have e : Tryd.f3.params.toList.length = 5 := by kernel_rfl
  rw [e] at hd
  match ds, hd with
  | [a, b, c, d, e], _ => rfl
/-- One input that fits. -/
def wit : Array Value := #[.agg #[.int .i64 0, .string ⟨#[]⟩, .string ⟨#[]⟩, .bool false, .string ⟨#[]⟩, .string ⟨#[]⟩, .string ⟨#[]⟩, .string ⟨#[]⟩, .bool false, .bool false], .agg #[.slice none 0 0], .int .i64 0, .string ⟨#[]⟩, .string ⟨#[]⟩]
def witD {H : Type} : List (DataW H) :=
  [.agg [.lit (.int .i64 0), .agg [.lit (.string []), .lit (.string []), .lit (.bool false)], .agg [.lit (.string []), .lit (.string [])], .agg [.lit (.string []), .lit (.string []), .lit (.bool false), .lit (.bool false)]], .agg [.nil], .lit (.int .i64 0), .lit (.string []), .lit (.string [])]
noncomputable def wld (os : Os) : World := laidWorld Tryd.prog Rows.keepsCheckUptoRow.laid os
theorem laid_met (os : Os) : laidMet Tryd.prog Rows.keepsCheckUptoRow.laid ((wld os).forCall (fun _ _ => 0) ⟨#[], wit, []⟩).memory :=
  laidMet_of_run' 8 (by kernel_rfl) (by kernel_rfl)
theorem reads (os : Os) {H : Type} (enc : TypeId × Value → H) : ∃ places, DataW.whole enc Tryd.prog ((wld os).forCall (fun _ _ => 0) ⟨#[], wit, []⟩).memory Tryd.f3.params.toList Rows.keepsCheckSpec.vars false wit.toList 8 = some (witD, [], places) :=
  ⟨[], by kernel_rfl⟩
set_option maxRecDepth 100000 in
theorem lifted (os : Os) (started : os.Started) (H : Type) (enc : TypeId × Value → H) (F : Stop.Interp) :
    ReturnsInHanded {} Tryd.checked os 3 .any ((Rows.OpenSpec.upto Rows.keepsCheckSpec).preRow enc Tryd.prog Tryd.f3 Rows.keepsCheckUptoRow.domain false Rows.keepsCheckUptoRow.laid) (((Rows.OpenSpec.upto Rows.keepsCheckSpec).at F).post enc Tryd.prog Tryd.f3 false true false false) := by
  obtain ⟨places, hx⟩ := reads os enc
  refine returnsInHanded_of_row (C := Tryd.checked) (s := Rows.OpenSpec.upto Rows.keepsCheckSpec) own started (by kernel_rfl) Tryd.func3
    (witness_row_at (enc := enc) (C := Tryd.checked) false (wld os) wit rfl (by kernel_rfl) (by kernel_rfl) (by kernel_rfl)
      (OpenSpec.preRow_of_cond 8 hx (by kernel_rfl) (fun k hk => by cases hk; kernel_rfl) (by kernel_rfl) (laid_met os))) ?_
  intro W base args ds gs before hval hW h1 h2 h3 hL h4 h5
  exact contract H enc W base args ds gs before hval hW (h2 _ rfl) hL
end Go.Proofs.YtknageenalghdaaDoor
