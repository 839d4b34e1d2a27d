/- The row of DisksMatch. -/
import Derived.Test.YtfippeedjajnkaaGreatDoorM8
import Derived.Lay
import Derived.Test.YtfippeedjajnkaaGreatDoorUpto
namespace Go.Proofs.YtfippeedjajnkaaGreatDoor
open Go Go.Abs Go.Proofs
set_option linter.unusedVariables false
def TyI : Ty := .int .i64
def TyFile : Ty := .st (.cons .str (.cons .str (.cons .bool .nil)))
def TySet : Ty := .st (.cons .str (.cons .str .nil))
def TySvc : Ty := .st (.cons .str (.cons .str (.cons .bool (.cons .bool .nil))))
def TyChg : Ty := .st (.cons TyI (.cons TyFile (.cons TySet (.cons TySvc .nil))))
theorem wt_file {n : Nat} {c : List AV} (h : WT n TyFile c) : ∃ a : FileV, c = encFile a ∧ a.path.length ≤ n ∧ a.data.length ≤ n := by
  obtain ⟨_, _, rfl, ⟨s1, rfl, l1⟩, _, _, rfl, ⟨s2, rfl, l2⟩, _, _, rfl, ⟨b, rfl⟩, rfl⟩ := h
  exact ⟨⟨s1, s2, b⟩, rfl, l1, l2⟩
theorem wt_set {n : Nat} {c : List AV} (h : WT n TySet c) : ∃ a : SetV, c = encSet a ∧ a.key.length ≤ n ∧ a.value.length ≤ n := by
  obtain ⟨_, _, rfl, ⟨s1, rfl, l1⟩, _, _, rfl, ⟨s2, rfl, l2⟩, rfl⟩ := h
  exact ⟨⟨s1, s2⟩, rfl, l1, l2⟩
theorem wt_svc {n : Nat} {c : List AV} (h : WT n TySvc c) : ∃ a : SvcV, c = encSvc a ∧ a.name.length ≤ n ∧ a.path.length ≤ n := by
  obtain ⟨_, _, rfl, ⟨s1, rfl, l1⟩, _, _, rfl, ⟨s2, rfl, l2⟩, _, _, rfl, ⟨b, rfl⟩, _, _, rfl, ⟨d, rfl⟩, rfl⟩ := h
  exact ⟨⟨s1, s2, b, d⟩, rfl, l1, l2⟩
theorem wt_chg {c : List AV} (h : WT 1048576 TyChg c) : ∃ a : ChgV, c = encChg a ∧ chgR a := by
  obtain ⟨_, _, rfl, ⟨k, rfl, -⟩, _, _, rfl, h1, _, _, rfl, h2, _, _, rfl, h3, rfl⟩ := h
  obtain ⟨f, rfl, f1, f2⟩ := wt_file h1
  obtain ⟨s, rfl, s1, s2⟩ := wt_set h2
  obtain ⟨v, rfl, v1, v2⟩ := wt_svc h3
  exact ⟨⟨k, f, s, v⟩, rfl, ⟨Nat.le_trans f1 (by decide), Nat.le_trans f2 (by decide)⟩, ⟨Nat.le_trans s1 (by decide), Nat.le_trans s2 (by decide)⟩, ⟨Nat.le_trans v1 (by decide), Nat.le_trans v2 (by decide)⟩⟩
def TyMac : Ty := .st (.cons (.sl TySet) (.cons (.sl TyFile) (.cons (.sl TySet) (.cons (.sl TySvc) .nil))))
theorem wt_list {α : Type} {T : Ty} {enc : α → List AV} {R : α → Prop} (h1 : ∀ c, WT 1048576 T c → ∃ a, c = enc a ∧ R a) : ∀ {es : List (List AV)}, (∀ c ∈ es, WT 1048576 T c) → ∃ l : List α, es = l.map enc ∧ ∀ a ∈ l, R a
  | [], _ => ⟨[], rfl, by simp⟩
  | e :: es, h => by
    obtain ⟨l, rfl, hl⟩ := wt_list h1 (es := es) fun c hc => h c (List.mem_cons_of_mem _ hc)
    obtain ⟨a, rfl, ha⟩ := h1 e (h e (List.mem_cons_self ..))
    refine ⟨a :: l, rfl, fun b hb => ?_⟩
    cases List.mem_cons.1 hb with
    | inl e => subst e; exact ha
    | inr e => exact hl b e
theorem wt_mac {c : List AV} (h : WT 1048576 TyMac c) : ∃ (m : MacV) (ta tb tc td : Tail), c = encMac m ta tb tc td ∧ macR m := by
  obtain ⟨_, _, rfl, ⟨e1, t1, rfl, n1, h1⟩, _, _, rfl, ⟨e2, t2, rfl, n2, h2⟩, _, _, rfl, ⟨e3, t3, rfl, n3, h3⟩, _, _, rfl, ⟨e4, t4, rfl, n4, h4⟩, rfl⟩ := h
  obtain ⟨l1, rfl, r1⟩ := wt_list (R := setR) (fun c hc => by obtain ⟨a, e, p, q⟩ := wt_set hc; exact ⟨a, e, by omega, by omega⟩) h1
  obtain ⟨l2, rfl, r2⟩ := wt_list (R := fileR) (fun c hc => by obtain ⟨a, e, p, q⟩ := wt_file hc; exact ⟨a, e, by omega, by omega⟩) h2
  obtain ⟨l3, rfl, r3⟩ := wt_list (R := setR) (fun c hc => by obtain ⟨a, e, p, q⟩ := wt_set hc; exact ⟨a, e, by omega, by omega⟩) h3
  obtain ⟨l4, rfl, r4⟩ := wt_list (R := svcR) (fun c hc => by obtain ⟨a, e, p, q⟩ := wt_svc hc; exact ⟨a, e, by omega, by omega⟩) h4
  rw [List.length_map] at n1 n2 n3 n4
  exact ⟨⟨l1, l2, l3, l4⟩, t1, t2, t3, t4, rfl, ⟨by simp only; omega, by simp only; omega, by simp only; omega, by simp only; omega⟩, r1, r2, r3, r4⟩
def TyAct : Ty := .st (.cons TyI (.cons TyChg (.cons TyI (.cons .bool .nil))))
theorem wt_act {c : List AV} (h : WT 1048576 TyAct c) : ∃ a : ActV, c = encAct a ∧ chgR a.c := by
  obtain ⟨_, _, rfl, ⟨k, rfl, -⟩, _, _, rfl, h1, _, _, rfl, ⟨n, rfl, -⟩, _, _, rfl, ⟨b, rfl⟩, rfl⟩ := h
  obtain ⟨x, rfl, hx⟩ := wt_chg h1
  exact ⟨⟨k, x, n, b⟩, rfl, hx⟩
theorem law_walk (xs : List AV) (h : WA 1048576 [TyMac, Ty.sl TyAct] xs) : ACalls Tryz.prog 5 xs H0 fun x _ => x = .bool true := by
  obtain ⟨c1, _, rfl, h1, _, _, rfl, ⟨es, t, rfl, n2, h2⟩, rfl⟩ := h
  obtain ⟨m, ta, tb, tc, td, rfl, hm⟩ := wt_mac h1
  obtain ⟨l, rfl, hl⟩ := wt_list (R := fun a : ActV => chgR a.c) (fun c hc => wt_act hc) h2
  exact (disksMatch_calls m ta tb tc td l t H0 hm (by rw [List.length_map] at n2; omega) hl).mono fun x _ e => e.1
theorem tab {W : World} (h : laidMetH Tryz.prog Rows.disksMatchUptoRow.laid W) : Tab Tryz.prog W.heap.size W := by
  intro g k zs hg
  unfold tabOf tabList at hg
  split at hg <;> cases hg
set_option maxRecDepth 100000 in
theorem contract (H : Type) (enc : TypeId × Value → H) (W : World) (base : Nat) (args : Array Value) (ds gs : List (DataW H)) (before : List MemPlace)
    (hval : ∀ (j : Nat) t v, Tryz.f5.params[j]? = some t → args[j]? = some v → Value.okWide Tryz.prog W .any base t v)
    (hW : DataW.Whole enc Tryz.prog Tryz.f5.params.toList Rows.disksMatchSpec.vars false W args.toList ds gs before)
    (hk : Rows.uptoSmall H (ds ++ gs) = true) (hL : laidMetH Tryz.prog Rows.disksMatchUptoRow.laid W) :
    Calls Tryz.prog 5 args W fun e W' => ∃ v, e = .returned v ∧ Rows.disksMatchSpec.post enc Tryz.prog Tryz.f5 false true false false W args v W' := by
  have hty : Tryz.f5.params.toList.length = [TyMac, Ty.sl TyAct].length ∧ (List.zip [TyMac, Ty.sl TyAct] Tryz.f5.params.toList).all (fun p => tyOf Tryz.prog p.1 p.2) = true := ⟨by kernel_rfl, by kernel_rfl⟩
  refine law_contract (tb := 4) [TyMac, Ty.sl TyAct] 1048576 rfl (fun ds hd => ?_) (by kernel_rfl) (by kernel_rfl) Tryz.func5 (by kernel_rfl) (by kernel_rfl) (by kernel_rfl) (by kernel_rfl) hty law_walk (tab hL) hval hW (sm_of_upto hk)
  have e : Tryz.f5.params.toList.length = 2 := by kernel_rfl
  rw [e] at hd
  match ds, hd with
  | [a, b], _ => rfl
/-- One input that fits. -/
def wit : Array Value := #[.agg #[.slice none 0 0, .slice none 0 0, .slice none 0 0, .slice none 0 0], .slice none 0 0]
def witD {H : Type} : List (DataW H) :=
  [.agg [.nil, .nil, .nil, .nil], .nil]
noncomputable def wld (os : Os) : World := World.layVars Tryz.prog (World.holding Tryz.prog os ⟨#[], #[], []⟩) Rows.disksMatchUptoRow.laid
theorem laid_met (os : Os) : laidMet Tryz.prog Rows.disksMatchUptoRow.laid ((wld os).forCall (fun _ _ => 0) ⟨#[], wit, []⟩).memory :=
  laidMet_of_run' 8 (by kernel_rfl) (by kernel_rfl)
theorem reads (os : Os) {H : Type} (enc : TypeId × Value → H) : ∃ places, DataW.whole enc Tryz.prog ((wld os).forCall (fun _ _ => 0) ⟨#[], wit, []⟩).memory Tryz.f5.params.toList Rows.disksMatchSpec.vars false wit.toList 8 = some (witD, [], places) :=
  ⟨[], by kernel_rfl⟩
set_option maxRecDepth 100000 in
theorem lifted (os : Os) (started : os.Started) (H : Type) (enc : TypeId × Value → H) (F : Stop.Interp) :
    ReturnsInHanded {} Tryz.checked os 5 .any ((Rows.OpenSpec.upto Rows.disksMatchSpec).preRow enc Tryz.prog Tryz.f5 Rows.disksMatchUptoRow.domain false Rows.disksMatchUptoRow.laid) (((Rows.OpenSpec.upto Rows.disksMatchSpec).at F).post enc Tryz.prog Tryz.f5 false true false false) := by
  obtain ⟨places, hx⟩ := reads os enc
  refine returnsInHanded_of_row (C := Tryz.checked) (s := Rows.OpenSpec.upto Rows.disksMatchSpec) own started (by kernel_rfl) Tryz.func5
    (witness_row_at (enc := enc) (C := Tryz.checked) false (wld os) wit rfl (by kernel_rfl) (by kernel_rfl) (by kernel_rfl)
      (OpenSpec.preRow_of_cond 8 hx (by kernel_rfl) (fun k hk => by cases hk; kernel_rfl) (by kernel_rfl) (laid_met os))) ?_
  intro W base args ds gs before hval hW h1 h2 h3 hL h4 h5
  exact contract H enc W base args ds gs before hval hW (h2 _ rfl) hL
end Go.Proofs.YtfippeedjajnkaaGreatDoor
