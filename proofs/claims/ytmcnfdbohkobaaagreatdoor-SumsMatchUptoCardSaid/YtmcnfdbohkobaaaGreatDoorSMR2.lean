/- The row of SumsMatch. -/
import Derived.Test.YtmcnfdbohkobaaaGreatDoorM9
import Derived.Lay
import Derived.Test.YtmcnfdbohkobaaaGreatDoorUpto
namespace Go.Proofs.YtmcnfdbohkobaaaGreatDoor
open Go Go.Abs Go.Proofs
set_option linter.unusedVariables false
def TyFile : Ty := .st (.cons .str (.cons .str (.cons .bool .nil)))
def TySet : Ty := .st (.cons .str (.cons .str .nil))
def TySvc : Ty := .st (.cons .str (.cons .str (.cons .bool (.cons .bool .nil))))
theorem wt_file {n : Nat} {c : List AV} (h : WT n TyFile c) : ∃ a : FileV, c = encFile a ∧ a.path.length ≤ n ∧ a.data.length ≤ n := by
  obtain ⟨_, _, rfl, ⟨s1, rfl, l1⟩, _, _, rfl, ⟨s2, rfl, l2⟩, _, _, rfl, ⟨b, rfl⟩, rfl⟩ := h
  exact ⟨⟨s1, s2, b⟩, rfl, l1, l2⟩
theorem wt_set {n : Nat} {c : List AV} (h : WT n TySet c) : ∃ a : SetV, c = encSet a ∧ a.key.length ≤ n ∧ a.value.length ≤ n := by
  obtain ⟨_, _, rfl, ⟨s1, rfl, l1⟩, _, _, rfl, ⟨s2, rfl, l2⟩, rfl⟩ := h
  exact ⟨⟨s1, s2⟩, rfl, l1, l2⟩
theorem wt_svc {n : Nat} {c : List AV} (h : WT n TySvc c) : ∃ a : SvcV, c = encSvc a ∧ a.name.length ≤ n ∧ a.path.length ≤ n := by
  obtain ⟨_, _, rfl, ⟨s1, rfl, l1⟩, _, _, rfl, ⟨s2, rfl, l2⟩, _, _, rfl, ⟨b, rfl⟩, _, _, rfl, ⟨d, rfl⟩, rfl⟩ := h
  exact ⟨⟨s1, s2, b, d⟩, rfl, l1, l2⟩
def TyMac : Ty := .st (.cons (.sl TySet) (.cons (.sl TyFile) (.cons (.sl TySet) (.cons (.sl TySvc) .nil))))
theorem wt_list {α : Type} {T : Ty} {enc : α → List AV} {R : α → Prop} (h1 : ∀ c, WT 1048576 T c → ∃ a, c = enc a ∧ R a) : ∀ {es : List (List AV)}, (∀ c ∈ es, WT 1048576 T c) → ∃ l : List α, es = l.map enc ∧ ∀ a ∈ l, R a
  | [], _ => ⟨[], rfl, by simp⟩
  | e :: es, h => by
    obtain ⟨l, rfl, hl⟩ := wt_list h1 (es := es) fun c hc => h c (List.mem_cons_of_mem _ hc)
    obtain ⟨a, rfl, ha⟩ := h1 e (h e (List.mem_cons_self ..))
    refine ⟨a :: l, rfl, fun b hb => ?_⟩
    cases List.mem_cons.1 hb with
    | inl e => subst e; exact ha
    | inr e => exact hl b e
theorem wt_mac {c : List AV} (h : WT 1048576 TyMac c) : ∃ (m : MacV) (ta tb tc td : Tail), c = encMac m ta tb tc td ∧ macR m := by
  obtain ⟨_, _, rfl, ⟨e1, t1, rfl, n1, h1⟩, _, _, rfl, ⟨e2, t2, rfl, n2, h2⟩, _, _, rfl, ⟨e3, t3, rfl, n3, h3⟩, _, _, rfl, ⟨e4, t4, rfl, n4, h4⟩, rfl⟩ := h
  obtain ⟨l1, rfl, r1⟩ := wt_list (R := setR) (fun c hc => by obtain ⟨a, e, p, q⟩ := wt_set hc; exact ⟨a, e, by omega, by omega⟩) h1
  obtain ⟨l2, rfl, r2⟩ := wt_list (R := fileR) (fun c hc => by obtain ⟨a, e, p, q⟩ := wt_file hc; exact ⟨a, e, by omega, by omega⟩) h2
  obtain ⟨l3, rfl, r3⟩ := wt_list (R := setR) (fun c hc => by obtain ⟨a, e, p, q⟩ := wt_set hc; exact ⟨a, e, by omega, by omega⟩) h3
  obtain ⟨l4, rfl, r4⟩ := wt_list (R := svcR) (fun c hc => by obtain ⟨a, e, p, q⟩ := wt_svc hc; exact ⟨a, e, by omega, by omega⟩) h4
  rw [List.length_map] at n1 n2 n3 n4
  exact ⟨⟨l1, l2, l3, l4⟩, t1, t2, t3, t4, rfl, ⟨by simp only; omega, by simp only; omega, by simp only; omega, by simp only; omega⟩, r1, r2, r3, r4⟩
theorem law_walk (xs : List AV) (h : WA 1048576 [.str, TyMac, TyMac] xs) : ACalls Tryz.prog 3 xs H0 fun x _ => x = .bool true := by
  obtain ⟨c1, _, rfl, ⟨s, rfl, l1⟩, c2, _, rfl, h2, c3, _, rfl, h3, rfl⟩ := h
  obtain ⟨m, ta, tb, tc, td, rfl, hm⟩ := wt_mac h2
  obtain ⟨n, ua, ub, uc, ud, rfl, hn⟩ := wt_mac h3
  exact (sumsMatch_calls s m n ta tb tc td ua ub uc ud H0 (by omega) hm hn).mono fun x _ e => e.1
theorem tab {W : World} (h : laidMetH Tryz.prog Rows.sumsMatchUptoRow.laid W) : Tab Tryz.prog W.heap.size W := by
  have hm : laidMet Tryz.prog Rows.sumsMatchUptoRow.laid W := h
  refine tab_of [1, 3] (by kernel_rfl) (fun g hg k zs ht => ?_)
  simp only [List.mem_cons, List.not_mem_nil, or_false] at hg
  rcases hg with rfl | rfl
  · rw [tb1] at ht
    cases ht
    exact ⟨by simp, tab_cells' hm (.tail _ (.tail _ (.head _))) (by kernel_rfl)⟩
  · rw [tb3] at ht
    cases ht
    exact ⟨by simp, tab_cells' hm (.tail _ (.head _)) (by kernel_rfl)⟩
set_option maxRecDepth 100000 in
theorem contract (H : Type) (enc : TypeId × Value → H) (W : World) (base : Nat) (args : Array Value) (ds gs : List (DataW H)) (before : List MemPlace)
    (hval : ∀ (j : Nat) t v, Tryz.f3.params[j]? = some t → args[j]? = some v → Value.okWide Tryz.prog W .any base t v)
    (hW : DataW.Whole enc Tryz.prog Tryz.f3.params.toList Rows.sumsMatchSpec.vars false W args.toList ds gs before)
    (hk : Rows.uptoSmall H (ds ++ gs) = true) (hL : laidMetH Tryz.prog Rows.sumsMatchUptoRow.laid W) :
    Calls Tryz.prog 3 args W fun e W' => ∃ v, e = .returned v ∧ Rows.sumsMatchSpec.post enc Tryz.prog Tryz.f3 false true false false W args v W' := by
  have hty : Tryz.f3.params.toList.length = [.str, TyMac, TyMac].length ∧ (List.zip [.str, TyMac, TyMac] Tryz.f3.params.toList).all (fun p => tyOf Tryz.prog p.1 p.2) = true := ⟨by kernel_rfl, by kernel_rfl⟩
  refine law_contract (tb := 4) [.str, TyMac, TyMac] 1048576 rfl (fun ds hd => ?_) (by kernel_rfl) (by kernel_rfl) Tryz.func3 (by kernel_rfl) (by kernel_rfl) (by kernel_rfl) (by kernel_rfl) hty law_walk (tab hL) hval hW (sm_of_upto hk)
  have e : Tryz.f3.params.toList.length = 3 := by kernel_rfl
  rw [e] at hd
  match ds, hd with
  | [a, b, c], _ => rfl
/-- One input that fits. -/
def wit : Array Value := #[.string ⟨#[]⟩, .agg #[.slice none 0 0, .slice none 0 0, .slice none 0 0, .slice none 0 0], .agg #[.slice none 0 0, .slice none 0 0, .slice none 0 0, .slice none 0 0]]
def witD {H : Type} : List (DataW H) :=
  [.lit (.string []), .agg [.nil, .nil, .nil, .nil], .agg [.nil, .nil, .nil, .nil]]
noncomputable def wld (os : Os) : World := World.layVars Tryz.prog (World.holding Tryz.prog os ⟨#[], #[], []⟩) Rows.sumsMatchUptoRow.laid
theorem laid_met (os : Os) : laidMet Tryz.prog Rows.sumsMatchUptoRow.laid ((wld os).forCall (fun _ _ => 0) ⟨#[], wit, []⟩).memory :=
  laidMet_of_run' 8 (by kernel_rfl) (by kernel_rfl)
theorem reads (os : Os) {H : Type} (enc : TypeId × Value → H) : ∃ places, DataW.whole enc Tryz.prog ((wld os).forCall (fun _ _ => 0) ⟨#[], wit, []⟩).memory Tryz.f3.params.toList Rows.sumsMatchSpec.vars false wit.toList 8 = some (witD, [], places) :=
  ⟨[], by kernel_rfl⟩
set_option maxRecDepth 100000 in
theorem lifted (os : Os) (started : os.Started) (H : Type) (enc : TypeId × Value → H) (F : Stop.Interp) :
    ReturnsInHanded {} Tryz.checked os 3 .any ((Rows.OpenSpec.upto Rows.sumsMatchSpec).preRow enc Tryz.prog Tryz.f3 Rows.sumsMatchUptoRow.domain false Rows.sumsMatchUptoRow.laid) (((Rows.OpenSpec.upto Rows.sumsMatchSpec).at F).post enc Tryz.prog Tryz.f3 false true false false) := by
  obtain ⟨places, hx⟩ := reads os enc
  refine returnsInHanded_of_row (C := Tryz.checked) (s := Rows.OpenSpec.upto Rows.sumsMatchSpec) own started (by kernel_rfl) Tryz.func3
    (witness_row_at (enc := enc) (C := Tryz.checked) false (wld os) wit rfl (by kernel_rfl) (by kernel_rfl) (by kernel_rfl)
      (OpenSpec.preRow_of_cond 8 hx (by kernel_rfl) (fun k hk => by cases hk; kernel_rfl) (by kernel_rfl) (laid_met os))) ?_
  intro W base args ds gs before hval hW h1 h2 h3 hL h4 h5
  exact contract H enc W base args ds gs before hval hW (h2 _ rfl) hL
end Go.Proofs.YtmcnfdbohkobaaaGreatDoor
