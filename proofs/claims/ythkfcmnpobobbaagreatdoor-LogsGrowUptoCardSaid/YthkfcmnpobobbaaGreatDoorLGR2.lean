/- The row of LogsGrow. -/
import Derived.Test.YthkfcmnpobobbaaGreatDoorM7
import Derived.Lay
import Derived.Deep.DeepLaidRun
import Derived.Test.YthkfcmnpobobbaaGreatDoorUpto
namespace Go.Proofs.YthkfcmnpobobbaaGreatDoor
open Go Go.Abs Go.Proofs
set_option linter.unusedVariables false
def TyI : Ty := .int .i64
def TyVer : Ty := .st (.cons TyI (.cons TyI (.cons TyI (.cons .str .nil))))
def TyRec : Ty := .st (.cons TyI (.cons TyI (.cons .str (.cons TyVer (.cons TyVer (.cons TyI (.cons .str .nil)))))))
theorem wt_ver {n : Nat} {c : List AV} (h : WT n TyVer c) : ∃ v : VerV, c = encVer v ∧ v.early.length ≤ n := by
  obtain ⟨_, _, rfl, ⟨a, rfl, -⟩, _, _, rfl, ⟨b, rfl, -⟩, _, _, rfl, ⟨p, rfl, -⟩, _, _, rfl, ⟨s, rfl, l⟩, rfl⟩ := h
  exact ⟨⟨a, b, p, s⟩, rfl, l⟩
theorem wt_rec {c : List AV} (h : WT 1048576 TyRec c) : ∃ r : RecV, c = encRec r ∧ recR r := by
  obtain ⟨_, _, rfl, ⟨t, rfl, -⟩, _, _, rfl, ⟨k, rfl, -⟩, _, _, rfl, ⟨p, rfl, l1⟩, _, _, rfl, h1, _, _, rfl, h2, _, _, rfl, ⟨r, rfl, -⟩, _, _, rfl, ⟨s, rfl, l2⟩, rfl⟩ := h
  obtain ⟨v, rfl, v1⟩ := wt_ver h1
  obtain ⟨w, rfl, w1⟩ := wt_ver h2
  exact ⟨⟨t, k, p, v, w, r, s⟩, rfl, by simp only; omega, by unfold verR; simp only; omega, by unfold verR; simp only; omega, by simp only; omega⟩
theorem wt_recs {es : List (List AV)} (h2 : ∀ c ∈ es, WT 1048576 TyRec c) : ∃ l : List RecV, es = l.map encRec ∧ ∀ a ∈ l, recR a := by
  induction es with
  | nil => exact ⟨[], rfl, by simp⟩
  | cons e es ih =>
    obtain ⟨l, rfl, hl⟩ := ih (fun c hc => h2 c (List.mem_cons_of_mem _ hc))
    obtain ⟨a, rfl, ha⟩ := wt_rec (h2 e (List.mem_cons_self ..))
    refine ⟨a :: l, rfl, fun b hb => ?_⟩
    cases List.mem_cons.1 hb with
    | inl e => subst e; exact ha
    | inr e => exact hl b e
theorem law_walk (xs : List AV) (h : WA 1048576 [Ty.sl TyRec] xs) : ACalls Tryz.prog 5 xs H0 fun x _ => x = .bool true := by
  obtain ⟨_, _, rfl, ⟨es, t, rfl, h1, h2⟩, rfl⟩ := h
  obtain ⟨l, rfl, hl⟩ := wt_recs h2
  exact (logsGrow_calls l t H0 (by rw [List.length_map] at h1; omega) hl).mono fun x _ e => e
theorem tabN {W : World} (h : laidMetH Tryz.prog Rows.logsGrowUptoRow.laid W) : TabN Tryz.prog W.heap.size W := by
  have hm : laidMet Tryz.prog Rows.logsGrowUptoRow.laid W := h
  refine tab_of [3, 7] (by kernel_rfl) (fun g hg k zs ht => ?_)
  simp only [List.mem_cons, List.not_mem_nil, or_false] at hg
  rcases hg with rfl | rfl
  · rw [tb3] at ht
    cases ht
    exact tab_blk' hm (.tail _ (.tail _ (.head _))) (by kernel_rfl)
  · rw [tb7] at ht
    cases ht
    exact tab_blk' hm (.tail _ (.head _)) (by kernel_rfl)
theorem tab {W : World} (h : laidMetH Tryz.prog Rows.logsGrowUptoRow.laid W) : Tab Tryz.prog W.heap.size W := by
  have hm : laidMet Tryz.prog Rows.logsGrowUptoRow.laid W := h
  refine ⟨tabN h, sent_of [2, 1] (by kernel_rfl) fun g hg => ?_⟩
  simp only [List.mem_cons, List.not_mem_nil, or_false] at hg
  rcases hg with rfl | rfl
  · exact sent_cell (name := "strconv.ErrRange") hm (.tail _ (.tail _ (.tail _ (.tail _ (.head _))))) (by kernel_rfl) (by kernel_rfl)
  · exact sent_cell (name := "strconv.ErrSyntax") hm (.tail _ (.tail _ (.tail _ (.tail _ (.tail _ (.head _)))))) (by kernel_rfl) (by kernel_rfl)
set_option maxRecDepth 100000 in
theorem contract (H : Type) (enc : TypeId × Value → H) (W : World) (base : Nat) (args : Array Value) (ds gs : List (DataW H)) (before : List MemPlace)
    (hval : ∀ (j : Nat) t v, Tryz.f5.params[j]? = some t → args[j]? = some v → Value.okWide Tryz.prog W .any base t v)
    (hW : DataW.Whole enc Tryz.prog Tryz.f5.params.toList Rows.logsGrowSpec.vars false W args.toList ds gs before)
    (hk : Rows.uptoSmall H (ds ++ gs) = true) (hL : laidMetH Tryz.prog Rows.logsGrowUptoRow.laid W) :
    Calls Tryz.prog 5 args W fun e W' => ∃ v, e = .returned v ∧ Rows.logsGrowSpec.post enc Tryz.prog Tryz.f5 false true false false W args v W' := by
  have hty : Tryz.f5.params.toList.length = [Ty.sl TyRec].length ∧ (List.zip [Ty.sl TyRec] Tryz.f5.params.toList).all (fun p => tyOf Tryz.prog p.1 p.2) = true := ⟨by kernel_rfl, by kernel_rfl⟩
  refine law_contract (tb := 4) [Ty.sl TyRec] 1048576 rfl (fun ds hd => ?_) (by kernel_rfl) (by kernel_rfl) Tryz.func5 (by kernel_rfl) (by kernel_rfl) (by kernel_rfl) (by kernel_rfl) hty law_walk (tab hL) hval hW (sm_of_upto hk)
  have e : Tryz.f5.params.toList.length = 1 := by kernel_rfl
  rw [e] at hd
  match ds, hd with
  | [a], _ => rfl
/-- One input that fits. -/
def wit : Array Value := #[.slice none 0 0]
def witD {H : Type} : List (DataW H) :=
  [.nil]
noncomputable def wld (os : Os) : World := World.layVars Tryz.prog (World.holding Tryz.prog os ⟨#[], #[], []⟩) Rows.logsGrowUptoRow.laid
theorem laid_met (os : Os) : laidMet Tryz.prog Rows.logsGrowUptoRow.laid ((wld os).forCall (fun _ _ => 0) ⟨#[], wit, []⟩).memory :=
  laidMet_of_run3 8 (by kernel_rfl) (by kernel_rfl) (by kernel_rfl)
theorem reads (os : Os) {H : Type} (enc : TypeId × Value → H) : ∃ places, DataW.whole enc Tryz.prog ((wld os).forCall (fun _ _ => 0) ⟨#[], wit, []⟩).memory Tryz.f5.params.toList Rows.logsGrowSpec.vars false wit.toList 8 = some (witD, [], places) :=
  ⟨[], by kernel_rfl⟩
set_option maxRecDepth 100000 in
theorem lifted (os : Os) (started : os.Started) (H : Type) (enc : TypeId × Value → H) (F : Stop.Interp) :
    ReturnsInHanded {} Tryz.checked os 5 .any ((Rows.OpenSpec.upto Rows.logsGrowSpec).preRow enc Tryz.prog Tryz.f5 Rows.logsGrowUptoRow.domain false Rows.logsGrowUptoRow.laid) (((Rows.OpenSpec.upto Rows.logsGrowSpec).at F).post enc Tryz.prog Tryz.f5 false true false false) := by
  obtain ⟨places, hx⟩ := reads os enc
  refine returnsInHanded_of_row (C := Tryz.checked) (s := Rows.OpenSpec.upto Rows.logsGrowSpec) own started (by kernel_rfl) Tryz.func5
    (witness_row_at (enc := enc) (C := Tryz.checked) false (wld os) wit rfl (by kernel_rfl) (by kernel_rfl) (by kernel_rfl)
      (OpenSpec.preRow_of_cond 8 hx (by kernel_rfl) (fun k hk => by cases hk; kernel_rfl) (by kernel_rfl) (laid_met os))) ?_
  intro W base args ds gs before hval hW h1 h2 h3 hL h4 h5
  exact contract H enc W base args ds gs before hval hW (h2 _ rfl) hL
end Go.Proofs.YthkfcmnpobobbaaGreatDoor
