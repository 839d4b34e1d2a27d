/-
  Walks and plain laws, part 7.
-/
import Derived.Test.YtfippeedjajnkaaGreatDoorM1
import Derived.Test.YtfippeedjajnkaaGreatDoorM4
import Derived.Test.YtfippeedjajnkaaGreatDoorM5
import Derived.Test.YtfippeedjajnkaaGreatDoorM6
import Derived.Test.YtfippeedjajnkaaGreatDoorM2
/- Walks: clones, and booting. -/
namespace Go.Proofs
open Go Go.Abs
set_option linter.unusedSimpArgs false
set_option linter.unusedVariables false
set_option maxRecDepth 20000
theorem cloneFile_calls (l : List FileV) (t : Tail) (H : Heap) (hl : l.length ≤ 1099511627776) : ACalls Tryz.prog 140 [.sl (l.map encFile) t] H fun x H' => x = .sl (l.map encFile) .unk ∧ H' = H := by
  refine ACalls.of_code (X := { pure := pu0 }) pu0_ok Tryz.func140 (by kernel_rfl) rfl (by kernel_rfl) (Nat.le_of_ble_eq_true rfl) ?_
  simp -implicitDefEqProofs only [go_sem, Tryz.f140, aNil_sl]
  refine ⟨fun h => ?_, ?_⟩
  · obtain rfl := flat_nil (fun a => by simp [encFile]) h
    exact Done.wk 1 (Done.now ⟨rfl, rfl⟩)
  · refine ⟨fun a _ => rfl, ?_⟩
    refine AppOK.clone (by simp; omega) (by simp; omega) (fun tl G' h => ?_)
    simp -implicitDefEqProofs only [go_sem]
    exact Done.wk 1 (Done.drop h.sub ⟨rfl, rfl⟩)

theorem cloneSvc_calls (l : List SvcV) (t : Tail) (H : Heap) (hl : l.length ≤ 1099511627776) : ACalls Tryz.prog 127 [.sl (l.map encSvc) t] H fun x H' => x = .sl (l.map encSvc) .unk ∧ H' = H := by
  refine ACalls.of_code (X := { pure := pu0 }) pu0_ok Tryz.func127 (by kernel_rfl) rfl (by kernel_rfl) (Nat.le_of_ble_eq_true rfl) ?_
  simp -implicitDefEqProofs only [go_sem, Tryz.f127, aNil_sl]
  refine ⟨fun h => ?_, ?_⟩
  · obtain rfl := flat_nil (fun a => by simp [encSvc]) h
    exact Done.wk 1 (Done.now ⟨rfl, rfl⟩)
  · refine ⟨fun a _ => rfl, ?_⟩
    refine AppOK.clone (by simp; omega) (by simp; omega) (fun tl G' h => ?_)
    simp -implicitDefEqProofs only [go_sem]
    exact Done.wk 1 (Done.drop h.sub ⟨rfl, rfl⟩)

noncomputable def sCl {V : Type} (enc : V → List AV) := spF (fun p : List (List AV) × Tail => [AV.sl p.1 p.2]) (fun p => ∃ l : List V, p.1 = l.map enc ∧ l.length ≤ 1099511627776) (fun p => .sl p.1 .unk)
theorem sCl_eq {V : Type} (enc : V → List AV) (l : List V) (t : Tail) (h : l.length ≤ 1099511627776) : sCl enc [.sl (l.map enc) t] = some (.sl (l.map enc) .unk) := spF_eq (enc := fun p : List (List AV) × Tail => [AV.sl p.1 p.2]) (fun p q h => by
  obtain ⟨p1, p2⟩ := p
  obtain ⟨q1, q2⟩ := q
  cases h; rfl) (l.map enc, t) ⟨l, rfl, h⟩
theorem sCl_ok {V : Type} {enc : V → List AV} {P : Program} {f : FuncId} (h : ∀ (l : List V) t H, l.length ≤ 1099511627776 → ACalls P f [.sl (l.map enc) t] H fun x H' => x = .sl (l.map enc) .unk ∧ H' = H) : Pur P f (sCl enc) := spF_ok fun p H hp => by
  obtain ⟨p1, p2⟩ := p
  obtain ⟨l, e, hl⟩ := hp
  simp only at e
  subst e
  exact h l p2 H hl
noncomputable def puDc : Pures := putP 140 (sCl encFile) (putP 117 (sCl encSet) pu0)
theorem puDc_dyn : isDyn puDc = false := by simp only [puDc, go_sem, Nat.reduceEqDiff]
attribute [go_sem] puDc_dyn
theorem puDc_ok : PuOK Tryz.prog puDc := .put (.put (pu0_ok) (sCl_ok cloneSet_calls)) (sCl_ok cloneFile_calls)
/-- A clone of services can be written. -/
theorem cloneSvcM_calls (l : List SvcV) (t : Tail) (H : Heap) (hne : l ≠ []) (hl : l.length ≤ 1099511627776) :
    ACalls Tryz.prog 127 [.sl (l.map encSvc) t] H fun x H' => ∃ id, H id = none ∧ x = .ms id 0 l.length 4 ∧ H' = H.put id (.cells (l.map encSvc).flatten) := by
  have hf : (l.map encSvc).flatten ≠ [] := by
    cases l with
    | nil => exact absurd rfl hne
    | cons p l => simp [encSvc]
  refine ACalls.of_code (X := { pure := pu0, ms := fun t => decide (t = 7) }) pu0_ok Tryz.func127 (by kernel_rfl) rfl (by kernel_rfl) (Nat.le_of_ble_eq_true rfl) ?_
  simp -implicitDefEqProofs only [go_sem, Tryz.f127]
  refine ⟨fun h => absurd h hf, ?_⟩
  simp -implicitDefEqProofs only [go_sem]
  refine ⟨fun a _ => rfl, app_ms0 (by simpa using hne) (by simp; omega) (by simp; omega) (fun id hid => ?_)⟩
  simp -implicitDefEqProofs only [go_sem, List.length_map]
  exact Done.now ⟨id, hid, rfl, rfl⟩
/-- Cells of services. -/
def svC (l : List SvcV) : List AV := (l.map encSvc).flatten
theorem svC_len (l : List SvcV) : (svC l).length = l.length * 4 := by
  unfold svC
  induction l with
  | nil => rfl
  | cons x l ih => rw [List.map_cons, List.flatten_cons, List.length_append, ih, List.length_cons]; show 4 + _ = _; omega
theorem svC_get : ∀ {l : List SvcV} {i : Nat} {x : SvcV}, l[i]? = some x → (svC l)[i * 4 + 2]? = some (.bool x.auto)
  | [], i, x, h => by simp at h
  | y :: l, 0, x, h => by
    rw [List.getElem?_cons_zero] at h
    obtain rfl := Option.some.inj h
    rfl
  | y :: l, i + 1, x, h => by
    rw [List.getElem?_cons_succ] at h
    have := svC_get h
    show (encSvc y ++ svC l)[(i + 1) * 4 + 2]? = _
    rw [List.getElem?_append_right (by show 4 ≤ _; omega)]
    rw [show (i + 1) * 4 + 2 - (encSvc y).length = i * 4 + 2 by show (i + 1) * 4 + 2 - 4 = _; omega]
    exact this
theorem svC_set : ∀ {l : List SvcV} {i : Nat} {x : SvcV} (b : Bool), l[i]? = some x → (svC l).set (i * 4 + 3) (.bool b) = svC (l.set i { x with on := b })
  | [], i, x, b, h => by simp at h
  | y :: l, 0, x, b, h => by
    rw [List.getElem?_cons_zero] at h
    obtain rfl := Option.some.inj h
    rfl
  | y :: l, i + 1, x, b, h => by
    rw [List.getElem?_cons_succ] at h
    have := svC_set b h
    show (encSvc y ++ svC l).set ((i + 1) * 4 + 3) _ = encSvc y ++ svC (l.set i { x with on := b })
    rw [List.set_append, if_neg (by show ¬ _ < 4; omega), show (i + 1) * 4 + 3 - (encSvc y).length = i * 4 + 3 by show (i + 1) * 4 + 3 - 4 = _; omega, this]
/-- Services of which the first were switched on. -/
def bootL (l : List SvcV) (i : Nat) : List SvcV := (l.take i).map bootS ++ l.drop i
theorem bootL_zero (l : List SvcV) : bootL l 0 = l := by simp [bootL]
theorem bootL_all (l : List SvcV) : bootL l l.length = l.map bootS := by simp [bootL]
theorem bootL_len (l : List SvcV) (i : Nat) : (bootL l i).length = l.length := by simp [bootL]; omega
theorem bootL_get {l : List SvcV} {i : Nat} {x : SvcV} (h : l[i]? = some x) : (bootL l i)[i]? = some x := by
  have hi : i < l.length := (List.getElem?_eq_some_iff.1 h).1
  unfold bootL
  rw [List.getElem?_append_right (by simp; omega), List.length_map, List.length_take, Nat.min_eq_left (by omega), Nat.sub_self, List.getElem?_drop]
  simpa using h
theorem bootL_set {l : List SvcV} {i : Nat} {x : SvcV} (h : l[i]? = some x) : (bootL l i).set i (bootS x) = bootL l (i + 1) := by
  have hi : i < l.length := (List.getElem?_eq_some_iff.1 h).1
  have hx : l[i] = x := (List.getElem?_eq_some_iff.1 h).2
  unfold bootL
  rw [List.set_append, if_neg (by simp; omega), List.length_map, List.length_take, Nat.min_eq_left (by omega), Nat.sub_self, List.drop_eq_getElem_cons hi, List.set_cons_zero, List.take_add_one, h, List.map_append]
  simp
theorem svC_chunks (l : List SvcV) : ((List.range l.length).map fun i => ((svC l).drop (i * 4)).take 4) = l.map encSvc := by
  have := chunks_of (k := 4) (es := l.map encSvc) (fun c hc => by obtain ⟨x, -, rfl⟩ := List.mem_map.1 hc; rfl)
  rw [List.length_map] at this
  exact this
/-- A slice that was written, seen as one that is not written any more. -/
theorem frozenR {P : Program} {C : Cx} {H : Heap} {w : World} {id len k : Nat} {cs : List AV} {v : Value} (hrel : Rel P C H w) (hid : H id = some (.cells cs)) (hle : len * k ≤ cs.length) (hx : Repr C H w (.ms id 0 len k) v) :
    Repr C (H.del id) w (.sl ((List.range len).map fun i => (cs.drop (i * k)).take k) .unk) v := by
  have hsub : (H.del id).Sub H := fun i o ho => by
    unfold Heap.del at ho
    split at ho
    · cases ho
    · exact ho
  obtain ⟨f1, f2⟩ := Le.forget hrel hsub
  cases hx with
  | ms _ _ _ _ a cap h ha hl hs =>
    obtain ⟨hlt, hbase, arr, ty, fr, a1, a2, a3, a4⟩ := hrel.live id _ hid
    have hfl : ((List.range len).map fun i => (cs.drop (i * k)).take k).flatten = cs.take (len * k) := Go.Abs.chunks_flatten _ _ _ hle
    have hfn : ((List.range len).map fun i => (cs.drop (i * k)).take k).flatten.length = len * k := by rw [hfl]; simp; omega
    have hown : ∀ j, ¬ Owned C (H.del id) (C.β id) j := by
      rintro j ⟨i, o, hi, hb, -⟩
      have hi' := hsub i o hi
      have := hrel.inj i id o _ hi' hid hb
      subst this
      simp [Heap.del] at hi
    have e : ((List.range len).map fun i => (cs.drop (i * k)).take k).length = len := by simp
    have key := Repr.sl (C := C) (H := H.del id) (w := w) ((List.range len).map fun i => (cs.drop (i * k)).take k) .unk a cap (C.β id) 0 (fun j => arr.getD j default)
      (fun hp => ha (by rw [hfn] at hp; rcases Nat.eq_zero_or_pos len with h0 | h0
                        · subst h0; simp at hp
                        · omega))
      (fun j hj => by
        rw [hfn] at hj
        exact ⟨by rw [Nat.zero_add]; exact cell_of_cells a1 (by omega), (a3 _ (by omega)).1, (Array.getElem?_eq_some_iff.1 a1).1, hown _⟩)
      (fun j hj => by
        rw [hfn] at hj
        rw [hfl, getD_take _ _ _ _ hj]
        exact (a3 _ (by omega)).2.mono f1)
      (by rw [e]; exact hl) trivial
    rw [e] at key
    exact key
/-- A machine of which the services were written. -/
theorem Ghost.freezeA {P : Program} {H : Heap} {id len k : Nat} {cs : List AV} (pre : List AV) (hid : H id = some (.cells cs)) (hle : len * k ≤ cs.length) :
    Ghost P (.agg (pre ++ [.ms id 0 len k])) H (.agg (pre ++ [.sl ((List.range len).map fun i => (cs.drop (i * k)).take k) .unk])) (H.del id) := by
  intro C w v hrel hx
  have hsub : (H.del id).Sub H := fun i o ho => by
    unfold Heap.del at ho
    split at ho
    · cases ho
    · exact ho
  obtain ⟨f1, f2⟩ := Le.forget hrel hsub
  refine ⟨C, f2, f1, ?_⟩
  cases hx with
  | agg _ us hs ho hr =>
    refine .agg _ us (by simpa using hs) (fun j hj => ho j (by simpa using hj)) (fun j hj => ?_)
    have hr' := hr j (by simpa using hj)
    by_cases e : j < pre.length
    · have e1 : ∀ x : AV, (pre ++ [x]).getD j .junk = pre.getD j .junk := fun x => by simp [List.getD, List.getElem?_append_left e]
      rw [e1] at hr' ⊢
      exact hr'.mono f1
    · have e0 : j = pre.length := by simp at hj; omega
      have e1 : ∀ x : AV, (pre ++ [x]).getD j .junk = x := fun x => by rw [e0]; simp [List.getD]
      rw [e1] at hr' ⊢
      exact frozenR hrel hid hle hr'
end Go.Proofs

/- Walks: clones of machines, and booting. -/
namespace Go.Proofs
open Go Go.Abs
set_option linter.unusedSimpArgs false
set_option linter.unusedVariables false
set_option maxRecDepth 20000
theorem sub_both {H G : Heap} (h : H.Sub G) (id : Nat) (o : AObj) : (H.put id o).Sub (G.put id o) := fun i p hi => by
  by_cases e : i = id
  · subst e; rw [put_same] at hi ⊢; exact hi
  · rw [put_ne _ _ _ _ e] at hi ⊢; exact h i p hi
/-- The clone of a machine; its services, if there are any, can be written. -/
def clOT : OT := .seg [0, 1, 2, 3, 4, 5, 6, 7, 8, 9, 10, 11, 12, 13] .done
theorem dClone_calls (m : MacV) (ta tb tc td : Tail) (H : Heap) (hr : macR m) :
    ACalls Tryz.prog 112 [.agg (encMac m ta tb tc td)] H fun x H' => (m.svcs = [] ∧ x = .agg (encMac m .unk .unk .unk .unk) ∧ H' = H) ∨ m.svcs ≠ [] ∧ ∃ id, H id = none ∧ x = .agg [.sl (m.facts.map encSet) .unk, .sl (m.files.map encFile) .unk, .sl (m.sets.map encSet) .unk, .ms id 0 m.svcs.length 4] ∧ H' = H.put id (.cells (svC m.svcs)) := by
  have hS := Heap.Sub.rfl' H
  obtain ⟨⟨l1, l2, l3, l4⟩, -⟩ := hr
  have c1 := sCl_eq encSet m.facts ta l1
  have c2 := sCl_eq encFile m.files tb l2
  have c3 := sCl_eq encSet m.sets tc l3
  refine ACalls.of_code (X := { pure := puDc, tree := fun n => if n = 1 then some clOT else none }) puDc_ok Tryz.func112 (by kernel_rfl) rfl (by kernel_rfl) (Nat.le_of_ble_eq_true rfl) ?_
  simp -implicitDefEqProofs only [go_sem, Tryz.f112, encMac]
  with_reducible refine nwC_intro fun i1 hi1 => ?_
  generalize E1 : Heap.put H i1 _ = G1
  have hO_1 := obj_new E1 hi1 hS
  have n1 := hO_1.1
  have hS := hO_1.2.1
  have g1 := hO_1.2.2.1
  clear hO_1
  simp -implicitDefEqProofs only [go_sem]
  with_reducible refine nwC_intro fun i2 hi2 => ?_
  generalize E2 : Heap.put G1 i2 _ = G2
  have hO_2 := obj_new E2 hi2 hS
  have n2 := hO_2.1
  have hS := hO_2.2.1
  have g2 := hO_2.2.2.1
  have d1_2 := obj_ne g1 hi2
  have g1 := hO_2.2.2.2 _ _ g1
  clear hO_2
  simp -implicitDefEqProofs only [go_sem]
  have y0 : puDc 127 = none := rfl
  have d21 : ¬ i2 = i1 := fun e => d1_2 e.symm
  rw [acode_tree (t := clOT) rfl (by rfl)]
  by_cases hn : m.svcs = []
  · have c4 := fun G => cloneSvc_calls m.svcs td G l4
    simp -implicitDefEqProofs only [go_sem, clOT, stripO, g1, c1, c2, c3, puDc]
    refine (c4 G2).pure_next _ ?_
    simp -implicitDefEqProofs only [go_sem, g1, g2]
    have hS2 := hS.put' n2 (.cells [.sl (m.facts.map encSet) .unk, .sl (m.files.map encFile) .unk, .sl (m.sets.map encSet) .unk, .sl (m.svcs.map encSvc) .unk])
    try simp -implicitDefEqProofs only [go_sem, put_same]
    exact Done.drop hS2 (.inl ⟨hn, rfl, rfl⟩)
  · have c4 := fun G => cloneSvcM_calls m.svcs td G hn l4
    simp -implicitDefEqProofs only [go_sem, clOT, stripO, g1, c1, c2, c3, puDc]
    refine (c4 G2).mono ?_
    rintro x G3 ⟨id, hid, rfl, rfl⟩
    rw [show (m.svcs.map encSvc).flatten = svC m.svcs from rfl]
    have d2 := obj_ne g2 hid
    have g2' := (put_ne G2 id i2 (.cells (svC m.svcs)) d2).trans g2
    have hSid := sub_none hS hid
    simp -implicitDefEqProofs only [go_sem, g2']
    refine Done.drop (H' := H.put id (.cells (svC m.svcs))) ((sub_both hS id _).put' ?_ _) (.inr ⟨hn, id, hSid, rfl, rfl⟩)
    rw [put_ne _ _ _ _ d2]; exact n2
/-- Booting: a loop over the services. -/
theorem bootP_calls (m : MacV) (ta tb tc td : Tail) (H : Heap) (hr : macR m) :
    ACalls Tryz.prog 80 [.agg (encMac m ta tb tc td)] H fun x H' => x = .agg (encMac (bootV m) .unk .unk .unk .unk) ∧ H' = H := by
  have hS := Heap.Sub.rfl' H
  have hcl := fun G => dClone_calls m ta tb tc td G hr
  obtain ⟨⟨l1, l2, l3, l4⟩, -⟩ := hr
  unfold encMac at hcl
  refine ACalls.of_code (X := { pure := pu0 }) pu0_ok Tryz.func80 (by kernel_rfl) rfl (by kernel_rfl) (Nat.le_of_ble_eq_true rfl) ?_
  simp -implicitDefEqProofs only [go_sem, Tryz.f80, encMac]
  with_reducible refine nwC_intro fun i1 hi1 => ?_
  generalize E1 : Heap.put H i1 _ = G1
  have hO_1 := obj_new E1 hi1 hS
  have n1 := hO_1.1
  have hS := hO_1.2.1
  have g1 := hO_1.2.2.1
  clear hO_1
  simp -implicitDefEqProofs only [go_sem]
  with_reducible refine nwC_intro fun i2 hi2 => ?_
  generalize E2 : Heap.put G1 i2 _ = G2
  have hO_2 := obj_new E2 hi2 hS
  have n2 := hO_2.1
  have hS := hO_2.2.1
  have g2 := hO_2.2.2.1
  have d1_2 := obj_ne g1 hi2
  have g1 := hO_2.2.2.2 _ _ g1
  clear hO_2
  simp -implicitDefEqProofs only [go_sem, g1]
  refine (hcl G2).mono ?_
  rintro x G3 (⟨hn, rfl, rfl⟩ | ⟨hn, id, hid, rfl, rfl⟩)
  · have hb : m.svcs.map bootS = m.svcs := by rw [hn]; rfl
    rw [bootV, hb]
    rw [hn]
    simp -implicitDefEqProofs only [go_sem, g1]
    generalize E1 : Heap.put G3 i1 _ = G4
    have hS := obj_sub E1 n1 hS
    have g1 := obj_at E1
    have g2 := obj_keep E1 (by first | exact d2_1 | exact fun e => d1_2 e.symm) g2
    try simp -implicitDefEqProofs only [go_sem, g1, List.length_nil, List.map_nil]
    refine aloop_intro (σ := Unit) (fun _ => [(1, .ptr i1 0), (2, .ptr i2 0), (8, .int .i64 0), (9, .int .i64 0)]) (fun _ G => G = G4) (fun _ => 0) () ?_ ?_ ?_
    · simp -implicitDefEqProofs only [go_sem, g1]
      try exact ⟨rfl, rfl, rfl, rfl⟩
    · rfl
    rintro _ r G hv rfl
    have e1 := hv.1
    have e2 := hv.2.1
    have e8 := hv.2.2.1
    have e9 := hv.2.2.2.1
    clear hv
    have y0 : decide ((0 : Int) < 0) = false := rfl
    simp -implicitDefEqProofs only [go_sem, e1, e2, e8, e9, y0, g1, g2]
    try simp -implicitDefEqProofs only [go_sem, put_same]
    exact Done.drop (hS.put' n2 _) ⟨rfl, rfl⟩
  · have hSid := sub_none hS hid
    have d2 := obj_ne g2 hid
    have d1 := obj_ne g1 hid
    have g1' := (put_ne G2 id i1 (.cells (svC m.svcs)) d1).trans g1
    have g2' := (put_ne G2 id i2 (.cells (svC m.svcs)) d2).trans g2
    have gd' := put_same G2 id (.cells (svC m.svcs))
    have hS' := hS.put' hSid (.cells (svC m.svcs))
    clear g1 g2 hS
    generalize G2.put id (.cells (svC m.svcs)) = G3 at *
    have hS := hS'
    have g1 := g1'
    have g2 := g2'
    have gd := gd'
    clear hS' g1' g2' gd'
    have d1_d : ¬ i1 = id := d1
    simp -implicitDefEqProofs only [go_sem, g1]
    generalize E1 : Heap.put G3 i1 _ = G4
    have hS4 := obj_sub E1 n1 hS
    have g1' := obj_at E1
    have g2' := obj_keep E1 (fun e => d1_2 e.symm) g2
    have gd' := obj_keep E1 (fun e => d1 e.symm) gd
    clear hS g1 g2 gd E1
    try simp -implicitDefEqProofs only [go_sem, g1']
    refine aloop_intro (σ := Nat) (fun i => [(1, .ptr i1 0), (2, .ptr i2 0), (8, .int .i64 m.svcs.length), (9, .int .i64 i)])
      (fun i G => i ≤ m.svcs.length ∧ H.Sub G ∧ G i1 = some (.cells [.sl (m.facts.map encSet) .unk, .sl (m.files.map encFile) .unk, .sl (m.sets.map encSet) .unk, .ms id 0 m.svcs.length 4]) ∧ G i2 = some (.cells [.sl [] .exact, .sl [] .exact, .sl [] .exact, .sl [] .exact]) ∧ G id = some (.cells (svC (bootL m.svcs i)))) (fun i => m.svcs.length - i) 0 ?_ ?_ ?_
    · simp -implicitDefEqProofs only [go_sem, g1']
      try exact ⟨rfl, rfl, rfl, rfl⟩
    · exact ⟨Nat.zero_le _, hS4, g1', g2', by rw [bootL_zero]; exact gd'⟩
    clear hS4 g1' g2' gd'
    rintro i r G hv ⟨hi, hS, g1, g2, gd⟩
    have e1 := hv.1
    have e2 := hv.2.1
    have e8 := hv.2.2.1
    have e9 := hv.2.2.2.1
    clear hv
    by_cases g : i < m.svcs.length
    rotate_left
    · have y0 : decide ((i : Int) < m.svcs.length) = false := decide_eq_false (by omega)
      obtain rfl : i = m.svcs.length := by omega
      rw [bootL_all] at gd
      simp -implicitDefEqProofs only [go_sem, e1, e2, e8, e9, y0, g1, g2]
      try simp -implicitDefEqProofs only [go_sem, put_same]
      have gd' := (put_ne G i2 id (.cells [.sl (m.facts.map encSet) .unk, .sl (m.files.map encFile) .unk, .sl (m.sets.map encSet) .unk, .ms id 0 m.svcs.length 4]) (fun e => d2 e.symm)).trans gd
      have hfz := Ghost.freezeA (P := Tryz.prog) (k := 4) (len := m.svcs.length) [.sl (m.facts.map encSet) .unk, .sl (m.files.map encFile) .unk, .sl (m.sets.map encSet) .unk] gd' (by rw [svC_len, List.length_map]; omega)
      have hch := svC_chunks (m.svcs.map bootS)
      rw [List.length_map] at hch
      rw [hch] at hfz
      refine Done.via hfz ?_
      refine Done.drop (fun k o hk => ?_) ⟨rfl, rfl⟩
      rw [del_ne (fun e => by subst e; rw [hSid] at hk; cases hk)]
      exact hS.put' n2 _ k o hk
    have y0 : decide ((i : Int) < m.svcs.length) = true := decide_eq_true (by omega)
    obtain ⟨x, hx⟩ : ∃ x, m.svcs[i]? = some x := getD_get' g
    have ws : IntKind.i64.wrap ((i : Int) + 1) = ((i + 1 : Nat) : Int) := by rw [Go.IntWalk.i64_in _ (by omega)]; omega
    have hg := svC_get (bootL_get hx)
    rw [← List.head?_drop] at hg
    simp -implicitDefEqProofs only [go_sem, e1, e2, e8, e9, y0, g1, g2, gd, hg, ws]
    have hsl := svC_len (bootL m.svcs i)
    rw [bootL_len] at hsl
    refine ⟨by omega, by omega, by omega, ?_⟩
    rw [svC_set x.auto (bootL_get hx), show ({ x with on := x.auto } : SvcV) = bootS x from rfl, bootL_set hx]
    refine Again.mk (i + 1) (by simp -implicitDefEqProofs only [go_sem, e1, e2, e8, e9]) ⟨by omega, hS.put' hSid _, ?_, ?_, put_same _ _ _⟩ (by omega)
    · rw [put_ne _ _ _ _ d1]; exact g1
    · rw [put_ne _ _ _ _ d2]; exact g2
/-- Booting, on the reference's side. -/
theorem bootR_calls (m : MacV) (ta tb tc td : Tail) (H : Heap) (hr : macR m) :
    ACalls Tryz.prog 92 [.agg (encMac m ta tb tc td)] H fun x H' => x = .agg (encMac (bootV m) .unk .unk .unk .unk) ∧ H' = H := by
  have hS := Heap.Sub.rfl' H
  obtain ⟨⟨l1, l2, l3, l4⟩, -⟩ := hr
  refine ACalls.of_code (X := { pure := pu0 }) pu0_ok Tryz.func92 (by kernel_rfl) rfl (by kernel_rfl) (Nat.le_of_ble_eq_true rfl) ?_
  simp -implicitDefEqProofs only [go_sem, Tryz.f92, encMac]
  with_reducible refine nwC_intro fun i1 hi1 => ?_
  generalize E1 : Heap.put H i1 _ = G1
  have hO_1 := obj_new E1 hi1 hS
  have n1 := hO_1.1
  have hS := hO_1.2.1
  have g1 := hO_1.2.2.1
  clear hO_1
  simp -implicitDefEqProofs only [go_sem]
  with_reducible refine nwC_intro fun i2 hi2 => ?_
  generalize E2 : Heap.put G1 i2 _ = G2
  have hO_2 := obj_new E2 hi2 hS
  have n2 := hO_2.1
  have hS := hO_2.2.1
  have g2 := hO_2.2.2.1
  have d1_2 := obj_ne g1 hi2
  have g1 := hO_2.2.2.2 _ _ g1
  clear hO_2
  simp -implicitDefEqProofs only [go_sem, g1]
  by_cases hn : m.svcs = []
  · have hb : m.svcs.map bootS = m.svcs := by rw [hn]; rfl
    rw [bootV, hb]
    have hcl := fun G => cloneSvc_calls m.svcs td G l4
    refine (hcl G2).pure_next _ ?_
    rw [hn]
    simp -implicitDefEqProofs only [go_sem, g1]
    generalize E1 : Heap.put G2 i1 _ = G4
    have hS := obj_sub E1 n1 hS
    have g1 := obj_at E1
    have g2 := obj_keep E1 (by first | exact d2_1 | exact fun e => d1_2 e.symm) g2
    try simp -implicitDefEqProofs only [go_sem, g1, List.length_nil, List.map_nil]
    refine aloop_intro (σ := Unit) (fun _ => [(1, .ptr i1 0), (2, .ptr i2 0), (10, .int .i64 0), (11, .int .i64 0)]) (fun _ G => G = G4) (fun _ => 0) () ?_ ?_ ?_
    · simp -implicitDefEqProofs only [go_sem, g1]
      try exact ⟨rfl, rfl, rfl, rfl⟩
    · rfl
    rintro _ r G hv rfl
    have e1 := hv.1
    have e2 := hv.2.1
    have e8 := hv.2.2.1
    have e9 := hv.2.2.2.1
    clear hv
    have y0 : decide ((0 : Int) < 0) = false := rfl
    simp -implicitDefEqProofs only [go_sem, e1, e2, e8, e9, y0, g1, g2]
    try simp -implicitDefEqProofs only [go_sem, put_same]
    exact Done.wk 2 (Done.drop (hS.put' n2 _) ⟨rfl, rfl⟩)
  · have hcl := fun G => cloneSvcM_calls m.svcs td G hn l4
    refine (hcl G2).mono ?_
    rintro x G3 ⟨id, hid, rfl, rfl⟩
    rw [show (m.svcs.map encSvc).flatten = svC m.svcs from rfl]
    have hSid := sub_none hS hid
    have d2 := obj_ne g2 hid
    have d1 := obj_ne g1 hid
    have g1' := (put_ne G2 id i1 (.cells (svC m.svcs)) d1).trans g1
    have g2' := (put_ne G2 id i2 (.cells (svC m.svcs)) d2).trans g2
    have gd' := put_same G2 id (.cells (svC m.svcs))
    have hS' := hS.put' hSid (.cells (svC m.svcs))
    clear g1 g2 hS
    generalize G2.put id (.cells (svC m.svcs)) = G3 at *
    have hS := hS'
    have g1 := g1'
    have g2 := g2'
    have gd := gd'
    clear hS' g1' g2' gd'
    have d1_d : ¬ i1 = id := d1
    simp -implicitDefEqProofs only [go_sem, g1]
    generalize E1 : Heap.put G3 i1 _ = G4
    have hS4 := obj_sub E1 n1 hS
    have g1' := obj_at E1
    have g2' := obj_keep E1 (fun e => d1_2 e.symm) g2
    have gd' := obj_keep E1 (fun e => d1 e.symm) gd
    clear hS g1 g2 gd E1
    try simp -implicitDefEqProofs only [go_sem, g1']
    refine aloop_intro (σ := Nat) (fun i => [(1, .ptr i1 0), (2, .ptr i2 0), (10, .int .i64 m.svcs.length), (11, .int .i64 i)])
      (fun i G => i ≤ m.svcs.length ∧ H.Sub G ∧ G i1 = some (.cells [.sl (m.facts.map encSet) ta, .sl (m.files.map encFile) tb, .sl (m.sets.map encSet) tc, .ms id 0 m.svcs.length 4]) ∧ G i2 = some (.cells [.sl [] .exact, .sl [] .exact, .sl [] .exact, .sl [] .exact]) ∧ G id = some (.cells (svC (bootL m.svcs i)))) (fun i => m.svcs.length - i) 0 ?_ ?_ ?_
    · simp -implicitDefEqProofs only [go_sem, g1']
      try exact ⟨rfl, rfl, rfl, rfl⟩
    · exact ⟨Nat.zero_le _, hS4, g1', g2', by rw [bootL_zero]; exact gd'⟩
    clear hS4 g1' g2' gd'
    rintro i r G hv ⟨hi, hS, g1, g2, gd⟩
    have e1 := hv.1
    have e2 := hv.2.1
    have e8 := hv.2.2.1
    have e9 := hv.2.2.2.1
    clear hv
    by_cases g : i < m.svcs.length
    rotate_left
    · have y0 : decide ((i : Int) < m.svcs.length) = false := decide_eq_false (by omega)
      obtain rfl : i = m.svcs.length := by omega
      rw [bootL_all] at gd
      simp -implicitDefEqProofs only [go_sem, e1, e2, e8, e9, y0, g1, g2]
      try simp -implicitDefEqProofs only [go_sem, put_same]
      have gd' := (put_ne G i2 id (.cells [.sl (m.facts.map encSet) ta, .sl (m.files.map encFile) tb, .sl (m.sets.map encSet) tc, .ms id 0 m.svcs.length 4]) (fun e => d2 e.symm)).trans gd
      have hfz := Ghost.freezeA (P := Tryz.prog) (k := 4) (len := m.svcs.length) [.sl (m.facts.map encSet) ta, .sl (m.files.map encFile) tb, .sl (m.sets.map encSet) tc] gd' (by rw [svC_len, List.length_map]; omega)
      have hch := svC_chunks (m.svcs.map bootS)
      rw [List.length_map] at hch
      rw [hch] at hfz
      refine Done.via hfz ?_
      refine Done.wk 2 ?_
      refine Done.drop (fun k o hk => ?_) ⟨rfl, rfl⟩
      rw [del_ne (fun e => by subst e; rw [hSid] at hk; cases hk)]
      exact hS.put' n2 _ k o hk
    have y0 : decide ((i : Int) < m.svcs.length) = true := decide_eq_true (by omega)
    obtain ⟨x, hx⟩ : ∃ x, m.svcs[i]? = some x := getD_get' g
    have ws : IntKind.i64.wrap ((i : Int) + 1) = ((i + 1 : Nat) : Int) := by rw [Go.IntWalk.i64_in _ (by omega)]; omega
    have hg := svC_get (bootL_get hx)
    rw [← List.head?_drop] at hg
    simp -implicitDefEqProofs only [go_sem, e1, e2, e8, e9, y0, g1, g2, gd, hg, ws]
    have hsl := svC_len (bootL m.svcs i)
    rw [bootL_len] at hsl
    refine ⟨by omega, by omega, by omega, ?_⟩
    rw [svC_set x.auto (bootL_get hx), show ({ x with on := x.auto } : SvcV) = bootS x from rfl, bootL_set hx]
    refine Again.mk (i + 1) (by simp -implicitDefEqProofs only [go_sem, e1, e2, e8, e9]) ⟨by omega, hS.put' hSid _, ?_, ?_, put_same _ _ _⟩ (by omega)
    · rw [put_ne _ _ _ _ d1]; exact g1
    · rw [put_ne _ _ _ _ d2]; exact g2
end Go.Proofs

/- Walks: a disk on the program's side. -/
namespace Go.Proofs
open Go Go.Abs
set_option linter.unusedSimpArgs false
set_option linter.unusedVariables false
set_option maxRecDepth 20000
/-- A heap without some objects. -/
def less (G : Heap) (S : List Nat) : Heap := fun i => if i ∈ S then none else G i
theorem less_sub (G : Heap) (S : List Nat) : (less G S).Sub G := fun i o h => by
  unfold less at h
  split at h
  · cases h
  · exact h
theorem less_in {G : Heap} {S : List Nat} {i : Nat} (h : i ∈ S) : less G S i = none := by unfold less; rw [if_pos h]
theorem less_fr {G G' : Heap} {S : List Nat} (h : (less G S).Sub G') : Fr G G' S := fun i o hi hs => h i o (by unfold less; rw [if_neg hs]; exact hi)
/-- Objects that stand apart stay. -/
structure Keep (G G' : Heap) (S S' : List Nat) : Prop where
  fr : Fr G G' S
  nw : ∀ i ∈ S', i ∈ S ∨ G i = none
theorem BW.sub_of {H G : Heap} {ib i1 i2 i3 i4 : Nat} {fs : List (List AV)} {ta : Tail} {lf : List FileV} {ls : List SetV} {lv : List SvcV} {F : Bytes → Int} (h : BW H G ib i1 i2 i3 i4 fs ta lf ls lv F) {H0 : Heap} (hs : H0.Sub H) : BW H0 G ib i1 i2 i3 i4 fs ta lf ls lv F := by
  obtain ⟨a, ⟨b1, b2, b3, b4, b5⟩, d, e, h1, h2, h3, h4⟩ := h
  exact ⟨fun i o hi => a i o (hs i o hi), ⟨sub_none hs b1, sub_none hs b2, sub_none hs b3, sub_none hs b4, sub_none hs b5⟩, d, e, h1, h2, h3, h4⟩
theorem BW.set_at {H G : Heap} {ib i1 i2 i3 i4 d : Nat} {fs : List (List AV)} {ta : Tail} {lf : List FileV} {ls : List SetV} {lv : List SvcV} {F : Bytes → Int} (h : BW H G ib i1 i2 i3 i4 fs ta lf ls lv F) (hd : H d = none) (hn : ¬ ib = d ∧ ¬ i1 = d ∧ ¬ i2 = d ∧ ¬ i3 = d ∧ ¬ i4 = d) (o : AObj) : BW H (G.put d o) ib i1 i2 i3 i4 fs ta lf ls lv F := by
  obtain ⟨a, b, c, e, ⟨e1, h1, k1⟩, ⟨e2, h2, k2⟩, ⟨e3, h3, k3⟩, ⟨e4, h4, k4⟩⟩ := h
  obtain ⟨n0, n1, n2, n3, n4⟩ := hn
  exact ⟨a.put' hd o, b, c, by rw [put_ne _ _ _ _ n0]; exact e, ⟨e1, by rw [put_ne _ _ _ _ n1]; exact h1, k1⟩, ⟨e2, by rw [put_ne _ _ _ _ n2]; exact h2, k2⟩, ⟨e3, by rw [put_ne _ _ _ _ n3]; exact h3, k3⟩, ⟨e4, by rw [put_ne _ _ _ _ n4]; exact h4, k4⟩⟩
theorem BW.ids {H G : Heap} {ib i1 i2 i3 i4 d : Nat} {fs : List (List AV)} {ta : Tail} {lf : List FileV} {ls : List SetV} {lv : List SvcV} {F : Bytes → Int} (h : BW H G ib i1 i2 i3 i4 fs ta lf ls lv F) (hd : G d = none) : ¬ ib = d ∧ ¬ i1 = d ∧ ¬ i2 = d ∧ ¬ i3 = d ∧ ¬ i4 = d := by
  obtain ⟨a, b, c, e, ⟨e1, h1, k1⟩, ⟨e2, h2, k2⟩, ⟨e3, h3, k3⟩, ⟨e4, h4, k4⟩⟩ := h
  exact ⟨fun x => obj_ne e hd x, fun x => obj_ne h1 hd x, fun x => obj_ne h2 hd x, fun x => obj_ne h3 hd x, fun x => obj_ne h4 hd x⟩
def pdC (ib : Nat) (D : DkV) : List AV := [.ptr ib 0, .bool D.off, .bool D.cut, .int .i64 D.after, .bool D.torn, .int .i64 D.writes]
def PDk (H G : Heap) (d : Nat) (S : List Nat) (D : DkV) : Prop := ∃ ib i1 i2 i3 i4 ta, S = [d, ib, i1, i2, i3, i4] ∧ H d = none ∧ (¬ ib = d ∧ ¬ i1 = d ∧ ¬ i2 = d ∧ ¬ i3 = d ∧ ¬ i4 = d) ∧ G d = some (.cells (pdC ib D)) ∧ BM H G ib i1 i2 i3 i4 ta D.m
def PRes (H G : Heap) (d : Nat) (S : List Nat) (v : Int × DkV) (x : AV) (G' : Heap) : Prop := x = .int .i64 v.1 ∧ ∃ S', PDk H G' d S' v.2 ∧ Keep G G' S S'
theorem PDk.done {H G G' : Heap} {d ib i1 i2 i3 i4 : Nat} {ta : Tail} {e : Int} {D : DkV} (hd : H d = none) (hnn : ¬ ib = d ∧ ¬ i1 = d ∧ ¬ i2 = d ∧ ¬ i3 = d ∧ ¬ i4 = d) (hB : BM H G' ib i1 i2 i3 i4 ta D.m) (hf : Fr G G' [d, ib, i1, i2, i3, i4]) :
    PRes H G d [d, ib, i1, i2, i3, i4] (e, D) (.int .i64 e) (G'.put d (.cells (pdC ib D))) :=
  ⟨rfl, _, ⟨ib, i1, i2, i3, i4, ta, rfl, hd, hnn, put_same _ _ _, BW.set_at hB hd hnn _⟩, hf.trans (Fr.set _ _ (by simp)), fun i hi => .inl hi⟩
def doOT : OT := .seg [0, 1, 2, 3, 4, 5, 6] .done
set_option maxHeartbeats 6400000 in
theorem pLose_calls {H G : Heap} {d : Nat} {S : List Nat} {D : DkV} {n : Nat} (c : ChgV) (h : PDk H G d S D) (hO : DkOK n D) (hn : n ≤ 1099511627776) (hc : chgR c) (ho : D.off = false) (hcut : D.cut = true) (ha : D.after = 0) :
    ACalls Tryz.prog 87 [.ptr d 0, .agg (encChg c)] G (PRes H G d S (doD false D c)) := by
  have hM := hO.m
  have hw := hO.w
  have hck := fun G => checkChange_calls c G hc
  have hcf := hc.1.2
  obtain ⟨ib, i1, i2, i3, i4, ta, rfl, hd, hnn, gd, hB⟩ := h
  have hfl := fun (G : Heap) (hB : BM H G ib i1 i2 i3 i4 ta D.m) h0 => fault_calls (c := c) hB hM.R hc h0
  have hv := doD.eq_1 false D c
  rw [if_neg (by simp [ho])] at hv
  unfold encChg at hck hfl
  refine ACalls.of_code (X := { pure := pu0, tree := fun n => if n = 4 then some doOT else if n = 9 then some doOT else none }) pu0_ok Tryz.func87 (by kernel_rfl) rfl (by kernel_rfl) (Nat.le_of_ble_eq_true rfl) ?_
  unfold pdC at gd
  simp -implicitDefEqProofs only [go_sem, Tryz.f87, encChg]
  with_reducible refine nwC_intro fun ic hic => ?_
  have hB1 : BM H _ ib i1 i2 i3 i4 ta D.m := BW.put hB hic (.cells (encChg c))
  have gc := put_same G ic (.cells (encChg c))
  have f1 := Fr.new hic (.cells (encChg c)) [d, ib, i1, i2, i3, i4]
  have dd := obj_ne gd hic
  have gd1 := (put_ne G ic d (.cells (encChg c)) dd).trans gd
  unfold encChg at hB1 gc f1 gd1
  simp -implicitDefEqProofs only [go_sem]
  generalize G.put ic _ = G1 at *
  refine (hck G1).pure_next _ ?_
  by_cases h0 : chgErr c = 0
  rotate_left
  · have y0 : decide (¬ chgErr c = 0) = true := decide_eq_true h0
    rw [doV_bad h0] at hv
    simp -implicitDefEqProofs only [go_sem, y0]
    exact Done.now ⟨by rw [hv], _, by rw [hv]; exact ⟨ib, i1, i2, i3, i4, ta, rfl, hd, hnn, gd1, hB1⟩, f1, fun i hi => .inl hi⟩
  have y0 : decide (¬ chgErr c = 0) = false := decide_eq_false (by simpa using h0)
  simp -implicitDefEqProofs only [go_sem, y0]
  rw [acode_tree (t := doOT) rfl (by rfl)]
  simp -implicitDefEqProofs only [go_sem, doOT, stripO, gd1, gc]
  refine (hfl G1 hB1 h0).pure_next _ ?_
  clear hck hfl
  cases hdv : doV D.m c with
  | error e =>
    have y7 : decide (¬ e = 0) = true := decide_eq_true (doV_err hdv)
    rw [hdv] at hv
    unfold faultI
    simp -implicitDefEqProofs only [go_sem, y7]
    exact Done.now ⟨by rw [hv], _, by rw [hv]; exact ⟨ib, i1, i2, i3, i4, ta, rfl, hd, hnn, gd1, hB1⟩, f1, fun i hi => .inl hi⟩
  | ok m =>
  have y7 : decide (¬ (0 : Int) = 0) = false := rfl
  rw [hdv] at hv
  simp only at hv
  rw [if_pos ⟨hcut, ha⟩] at hv
  have hdI : d ∉ [i1, i2] := by simp; exact ⟨fun e => hnn.2.1 e.symm, fun e => hnn.2.2.1 e.symm⟩
  unfold faultI
  by_cases ht : D.torn = true ∧ c.kind = 1
  · rw [if_pos ht, if_pos ht] at hv
    obtain ⟨t1, t2⟩ := ht
    have y1 : decide (c.kind = 1) = true := decide_eq_true t2
    have hq : Int.tdiv (c.file.data.length : Int) 2 = ((c.file.data.length / 2 : Nat) : Int) := by rw [Int.tdiv_eq_ediv_of_nonneg (by omega)]; omega
    have wl : IntKind.i64.wrap ((c.file.data.length / 2 : Nat) : Int) = ((c.file.data.length / 2 : Nat) : Int) := Go.IntWalk.i64_in _ (by omega)
    have hle : c.file.data.length / 2 ≤ c.file.data.length := by omega
    have eF : c = { c with file := c.file } := rfl
    obtain ⟨h1, h2⟩ := chg_put h0 t2
    have nci := hB.ids hic
    have hcH : H ic = none := sub_none hB.sub hic
    simp -implicitDefEqProofs only [go_sem, y7, gd1, gc, t1, y1, hq, wl]
    refine ⟨by omega, ?_⟩
    have hB2 := BW.set_at hB1 hcH nci (.cells [.int .i64 c.kind, .str c.file.path, .str (c.file.data.take (c.file.data.length / 2)), .bool c.file.runs, .str c.set.key, .str c.set.value, .str c.svc.name, .str c.svc.path, .bool c.svc.auto, .bool c.svc.on])
    have gc2 := put_same G1 ic (.cells [.int .i64 c.kind, .str c.file.path, .str (c.file.data.take (c.file.data.length / 2)), .bool c.file.runs, .str c.set.key, .str c.set.value, .str c.svc.name, .str c.svc.path, .bool c.svc.auto, .bool c.svc.on])
    have gd2 := (put_ne G1 ic d (.cells [.int .i64 c.kind, .str c.file.path, .str (c.file.data.take (c.file.data.length / 2)), .bool c.file.runs, .str c.set.key, .str c.set.value, .str c.svc.name, .str c.svc.path, .bool c.svc.auto, .bool c.svc.on]) dd).trans gd1
    have f2 : Fr G (G1.put ic (.cells [.int .i64 c.kind, .str c.file.path, .str (c.file.data.take (c.file.data.length / 2)), .bool c.file.runs, .str c.set.key, .str c.set.value, .str c.svc.name, .str c.svc.path, .bool c.svc.auto, .bool c.svc.on])) [d, ib, i1, i2, i3, i4] := fun i o hi hs => by
      rw [put_ne _ _ _ _ (obj_ne hi hic)]; exact f1 i o hi hs
    generalize G1.put ic _ = G2 at *
    have hpf : fileR (halfF c.file) := ⟨hc.1.1, by unfold halfF; simp; omega⟩
    have hl2 := hM.l2
    have kp := put_calls (halfF c.file) hB2 hpf (by omega) hM.a2
    rw [encFile] at kp
    unfold halfF at kp
    rw [acode_tree (t := doOT) rfl (by rfl)]
    simp -implicitDefEqProofs only [go_sem, doOT, stripO, gd2, gc2]
    refine kp.mono ?_
    rintro x G3 ⟨rfl, hB3, f3⟩
    have gd3 := f3 _ _ gd2 hdI
    have ww : IntKind.i64.wrap (D.writes + 1) = D.writes + 1 := Go.IntWalk.i64_in _ (by omega)
    simp -implicitDefEqProofs only [go_sem, gd3, ww, put_same, put_put']
    rw [hv]
    exact Done.now (PDk.done hd hnn hB3 (f2.trans (f3.wide (by simp))))
  · rw [if_neg ht, if_neg ht] at hv
    have y1 : (D.torn = true → decide (c.kind = 1) = false) := fun h => decide_eq_false (fun e => ht ⟨h, e⟩)
    cases t1 : D.torn with
    | false =>
      rw [t1] at gd1 hv
      simp -implicitDefEqProofs only [go_sem, y7, gd1, gc]
      rw [hv]
      exact Done.now (PDk.done hd hnn hB1 f1)
    | true =>
      have y1 := y1 t1
      rw [t1] at gd1 hv
      simp -implicitDefEqProofs only [go_sem, y7, gd1, gc, y1]
      rw [hv]
      exact Done.now (PDk.done hd hnn hB1 f1)
end Go.Proofs

/- Walks: what a disk does, on the program's side. -/
namespace Go.Proofs
open Go Go.Abs
set_option linter.unusedSimpArgs false
set_option linter.unusedVariables false
set_option maxRecDepth 20000
theorem PDk.put {H G : Heap} {d : Nat} {S : List Nat} {D : DkV} (h : PDk H G d S D) {j : Nat} (hj : G j = none) (o : AObj) : PDk H (G.put j o) d S D := by
  obtain ⟨ib, i1, i2, i3, i4, ta, rfl, hd, hnn, gd, hB⟩ := h
  exact ⟨ib, i1, i2, i3, i4, ta, rfl, hd, hnn, by rw [put_ne _ _ _ _ (obj_ne gd hj)]; exact gd, BW.put hB hj o⟩
theorem PRes.pre {H G G1 G' : Heap} {d : Nat} {S : List Nat} {v : Int × DkV} {x : AV} (hf : Fr G G1 S) (hs : G.Sub G1) (h : PRes H G1 d S v x G') : PRes H G d S v x G' := by
  obtain ⟨h1, S', h2, h3, h4⟩ := h
  exact ⟨h1, S', h2, hf.trans h3, fun i hi => (h4 i hi).imp id fun e => sub_none hs e⟩
set_option maxHeartbeats 6400000 in
theorem pDo_calls {H G : Heap} {d : Nat} {S : List Nat} {D : DkV} {n : Nat} (c : ChgV) (h : PDk H G d S D) (hO : DkOK n D) (hn : n ≤ 1099511627776) (hc : chgR c) :
    ACalls Tryz.prog 29 [.ptr d 0, .agg (encChg c)] G (PRes H G d S (doD false D c)) := by
  have hM := hO.m
  have hw := hO.w
  have haa := hO.a
  have hlose := fun G h => pLose_calls (H := H) (G := G) (d := d) (S := S) c h hO hn hc
  have hP := h
  obtain ⟨ib, i1, i2, i3, i4, ta, rfl, hd, hnn, gd, hB⟩ := h
  have hdo := fun G (hB : BM H G ib i1 i2 i3 i4 ta D.m) => doB_calls (c := c) hB hM hc
  have hv := doD.eq_1 false D c
  unfold encChg at hdo hlose
  refine ACalls.of_code (X := { pure := pu0, tree := fun n => if n = 5 then some doOT else none }) pu0_ok Tryz.func29 (by kernel_rfl) rfl (by kernel_rfl) (Nat.le_of_ble_eq_true rfl) ?_
  unfold pdC at gd
  simp -implicitDefEqProofs only [go_sem, Tryz.f29, encChg]
  with_reducible refine nwC_intro fun ic hic => ?_
  have hB1 : BM H _ ib i1 i2 i3 i4 ta D.m := BW.put hB hic (.cells (encChg c))
  have gc := put_same G ic (.cells (encChg c))
  have f1 := Fr.new hic (.cells (encChg c)) [d, ib, i1, i2, i3, i4]
  have dd := obj_ne gd hic
  have gd1 := (put_ne G ic d (.cells (encChg c)) dd).trans gd
  have hP1 := hP.put hic (.cells (encChg c))
  have hs1 := (Heap.Sub.rfl' G).put' hic (.cells (encChg c))
  unfold encChg at hB1 gc f1 gd1 hP1 hs1
  try simp -implicitDefEqProofs only [go_sem]
  generalize G.put ic _ = G1 at *
  cases ho : D.off with
  | true =>
    rw [ho, if_pos rfl] at hv
    rw [ho] at gd1
    simp -implicitDefEqProofs only [go_sem, gd1]
    rw [hv]
    exact Done.now ⟨rfl, _, hP1, f1, fun i hi => .inl hi⟩
  | false =>
  rw [ho, if_neg (by simp)] at hv
  have hnd : ∀ G', Fr G1 G' [i1, i2, i3, i4] → G' d = G1 d := fun G' hf => by rw [gd1, hf _ _ gd1 (by simp; exact ⟨fun e => hnn.2.1 e.symm, fun e => hnn.2.2.1 e.symm, fun e => hnn.2.2.2.1 e.symm, fun e => hnn.2.2.2.2 e.symm⟩)]
  have ww : IntKind.i64.wrap (D.writes + 1) = D.writes + 1 := Go.IntWalk.i64_in _ (by omega)
  have wa : IntKind.i64.wrap (D.after - 1) = D.after - 1 := Go.IntWalk.i64_in _ (by omega)
  by_cases hl : D.cut = true ∧ D.after = 0
  · obtain ⟨h1, h2⟩ := hl
    have gd1' := gd1
    rw [ho, h1] at gd1'
    have y1 : decide (D.after = 0) = true := decide_eq_true h2
    simp -implicitDefEqProofs only [go_sem, gd1', y1, gc]
    refine (hlose G1 hP1 ho h1 h2).mono ?_
    rintro x G2 ⟨rfl, S', hR⟩
    simp -implicitDefEqProofs only [go_sem]
    exact Done.now (PRes.pre f1 hs1 ⟨rfl, S', hR⟩)
  cases hcut : D.cut with
  | false =>
    rw [ho, hcut] at gd1
    simp -implicitDefEqProofs only [go_sem, gd1]
    rw [acode_tree (t := doOT) rfl (by rfl)]
    simp -implicitDefEqProofs only [go_sem, doOT, stripO, gd1, gc]
    refine (hdo G1 hB1).mono ?_
    rintro x G2 ⟨hf2, hD⟩
    have gd2 := (hnd G2 hf2).trans gd1
    have hff : Fr G G2 [d, ib, i1, i2, i3, i4] := f1.trans (hf2.wide (by simp))
    cases hdv : doV D.m c with
    | error e =>
      rw [hdv] at hv hD
      obtain ⟨rfl, hB2⟩ := hD
      have y7 : decide (¬ e = 0) = true := decide_eq_true (doV_err hdv)
      simp -implicitDefEqProofs only [go_sem, y7]
      rw [hv]
      exact Done.now ⟨rfl, _, ⟨ib, i1, i2, i3, i4, ta, rfl, hd, hnn, by rw [gd2]; unfold pdC; rw [ho, hcut], hB2⟩, hff, fun i hi => .inl hi⟩
    | ok m =>
      rw [hdv] at hv hD
      obtain ⟨rfl, hB2⟩ := hD
      simp only at hv
      have y7 : decide (¬ (0 : Int) = 0) = false := rfl
      rw [if_neg hl] at hv
      rw [if_neg (by simp [hcut])] at hv
      simp -implicitDefEqProofs only [go_sem, y7, gd2, ww, wa, put_same, put_put']
      rw [hv, hcut]
      exact Done.now (PDk.done hd hnn hB2 hff)
  | true =>
    have h2 : ¬ D.after = 0 := fun e => hl ⟨hcut, e⟩
    have y1 : decide (D.after = 0) = false := decide_eq_false h2
    rw [ho, hcut] at gd1
    simp -implicitDefEqProofs only [go_sem, gd1, y1]
    rw [acode_tree (t := doOT) rfl (by rfl)]
    simp -implicitDefEqProofs only [go_sem, doOT, stripO, gd1, gc]
    refine (hdo G1 hB1).mono ?_
    rintro x G2 ⟨hf2, hD⟩
    have gd2 := (hnd G2 hf2).trans gd1
    have hff : Fr G G2 [d, ib, i1, i2, i3, i4] := f1.trans (hf2.wide (by simp))
    cases hdv : doV D.m c with
    | error e =>
      rw [hdv] at hv hD
      obtain ⟨rfl, hB2⟩ := hD
      have y7 : decide (¬ e = 0) = true := decide_eq_true (doV_err hdv)
      simp -implicitDefEqProofs only [go_sem, y7]
      rw [hv]
      exact Done.now ⟨rfl, _, ⟨ib, i1, i2, i3, i4, ta, rfl, hd, hnn, by rw [gd2]; unfold pdC; rw [ho, hcut], hB2⟩, hff, fun i hi => .inl hi⟩
    | ok m =>
      rw [hdv] at hv hD
      obtain ⟨rfl, hB2⟩ := hD
      simp only at hv
      have y7 : decide (¬ (0 : Int) = 0) = false := rfl
      rw [if_neg hl] at hv
      rw [if_pos (Or.inr hcut)] at hv
      simp -implicitDefEqProofs only [go_sem, y7, gd2, ww, wa, put_same, put_put']
      rw [hv, hcut]
      exact Done.now (PDk.done hd hnn hB2 hff)
theorem pCut_calls {H G : Heap} {d : Nat} {S : List Nat} {D : DkV} (a : Int) (t : Bool) (h : PDk H G d S D) :
    ACalls Tryz.prog 31 [.ptr d 0, .int .i64 a, .bool t] G (PRes H G d S (cutD a t D)) := by
  have hP := h
  obtain ⟨ib, i1, i2, i3, i4, ta, rfl, hd, hnn, gd, hB⟩ := h
  have hv := cutD.eq_1 a t D
  unfold pdC at gd
  have f0 := Fr.rfl' G [d, ib, i1, i2, i3, i4]
  refine ACalls.of_code (X := { pure := pu0 }) pu0_ok Tryz.func31 (by kernel_rfl) rfl (by kernel_rfl) (Nat.le_of_ble_eq_true rfl) ?_
  simp -implicitDefEqProofs only [go_sem, Tryz.f31]
  by_cases h1 : a < 0
  · have y1 : decide (a < 0) = true := decide_eq_true h1
    rw [if_pos (.inl h1)] at hv
    simp -implicitDefEqProofs only [go_sem, y1]
    rw [hv]
    exact Done.now ⟨rfl, _, hP, f0, fun i hi => .inl hi⟩
  have y1 : decide (a < 0) = false := decide_eq_false h1
  by_cases h2 : 1000000 < a
  · have y2 : decide (1000000 < a) = true := decide_eq_true h2
    rw [if_pos (.inr h2)] at hv
    simp -implicitDefEqProofs only [go_sem, y1, y2]
    rw [hv]
    exact Done.now ⟨rfl, _, hP, f0, fun i hi => .inl hi⟩
  have y2 : decide (1000000 < a) = false := decide_eq_false h2
  rw [if_neg (by omega)] at hv
  cases ho : D.off with
  | true =>
    rw [ho, if_pos rfl] at hv
    rw [ho] at gd
    simp -implicitDefEqProofs only [go_sem, y1, y2, gd]
    rw [hv]
    exact Done.now ⟨rfl, _, hP, f0, fun i hi => .inl hi⟩
  | false =>
    rw [ho, if_neg (by simp)] at hv
    rw [ho] at gd
    simp -implicitDefEqProofs only [go_sem, y1, y2, gd, put_same, put_put']
    rw [hv]
    exact Done.now (PDk.done hd hnn hB f0)
set_option maxHeartbeats 1600000 in
theorem pOn_calls {H G : Heap} {d : Nat} {S : List Nat} {D : DkV} {n : Nat} (h : PDk H G d S D) (hO : DkOK n D) :
    ACalls Tryz.prog 33 [.ptr d 0] G (PRes H G d S (onD D)) := by
  have hM := hO.m
  have hoc := hO.off
  have hP := h
  obtain ⟨ib, i1, i2, i3, i4, ta, rfl, hd, hnn, gd, hB⟩ := h
  have hv := onD.eq_1 D
  unfold pdC at gd
  have f0 := Fr.rfl' G [d, ib, i1, i2, i3, i4]
  have km := machineB_calls hB hM
  have kb := fun G => bootP_calls D.m .unk .unk .unk .unk G hM.R
  have kn := fun G => benchOf_calls (bootV D.m) .unk .unk .unk .unk G (bootV_ok hM)
  unfold encMac at km kb kn
  refine ACalls.of_code (X := { pure := pu0 }) pu0_ok Tryz.func33 (by kernel_rfl) rfl (by kernel_rfl) (Nat.le_of_ble_eq_true rfl) ?_
  simp -implicitDefEqProofs only [go_sem, Tryz.f33]
  cases ho : D.off with
  | false =>
    rw [ho, if_neg (by simp)] at hv
    rw [ho] at gd
    simp -implicitDefEqProofs only [go_sem, gd]
    rw [hv]
    exact Done.now ⟨rfl, _, hP, f0, fun i hi => .inl hi⟩
  | true =>
    rw [ho, if_pos rfl] at hv
    rw [ho, hoc ho] at gd
    simp -implicitDefEqProofs only [go_sem, gd]
    refine km.pure_next _ ?_
    simp -implicitDefEqProofs only [go_sem]
    refine (kb G).pure_next _ ?_
    simp -implicitDefEqProofs only [go_sem]
    refine (kn G).mono ?_
    rintro x G2 ⟨jb, j1, j2, j3, j4, rfl, hB2⟩
    have gd2 := hB2.sub _ _ gd
    simp -implicitDefEqProofs only [go_sem, gd2, put_same, put_put']
    rw [hv]
    have nn := hB2.nn
    have hnn2 : ¬ jb = d ∧ ¬ j1 = d ∧ ¬ j2 = d ∧ ¬ j3 = d ∧ ¬ j4 = d := ⟨fun e => obj_ne gd nn.1 e.symm, fun e => obj_ne gd nn.2.1 e.symm, fun e => obj_ne gd nn.2.2.1 e.symm, fun e => obj_ne gd nn.2.2.2.1 e.symm, fun e => obj_ne gd nn.2.2.2.2 e.symm⟩
    have hB3 := BW.sub_of hB2 hB.sub
    refine Done.now ⟨rfl, _, ⟨jb, j1, j2, j3, j4, .unk, rfl, hd, hnn2, put_same _ _ _, BW.set_at hB3 hd hnn2 _⟩, fun i o hi hs => ?_, fun i hi => ?_⟩
    · rw [put_ne _ _ _ _ (fun e => hs (by rw [e]; simp))]; exact hB2.sub _ _ hi
    · simp only [List.mem_cons, List.not_mem_nil, or_false] at hi
      rcases hi with rfl | rfl | rfl | rfl | rfl | rfl
      · exact .inl (by simp)
      · exact .inr nn.1
      · exact .inr nn.2.1
      · exact .inr nn.2.2.1
      · exact .inr nn.2.2.2.1
      · exact .inr nn.2.2.2.2
def offM (D : DkV) : AV := .tup [.agg (encMac (if D.off = true then .zero else D.m) .unk .unk .unk .unk), .int .i64 (if D.off = true then 12 else 0)]
theorem pMachine_calls {H G : Heap} {d : Nat} {S : List Nat} {D : DkV} (h : PDk H G d S D) (hM : MacOK D.m) :
    ACalls Tryz.prog 35 [.ptr d 0] G fun x G' => x = offM D ∧ G' = G := by
  obtain ⟨ib, i1, i2, i3, i4, ta, rfl, hd, hnn, gd, hB⟩ := h
  unfold pdC at gd
  have hv := offM.eq_1 D
  have hS := Heap.Sub.rfl' G
  refine ACalls.of_code (X := { pure := pu0 }) pu0_ok Tryz.func35 (by kernel_rfl) rfl (by kernel_rfl) (Nat.le_of_ble_eq_true rfl) ?_
  simp -implicitDefEqProofs only [go_sem, Tryz.f35]
  with_reducible refine nwC_intro fun j9 hi2 => ?_
  have gd2 := (put_ne G j9 d (.cells [.sl [] .exact, .sl [] .exact, .sl [] .exact, .sl [] .exact]) (obj_ne gd hi2)).trans gd
  have hB2 := BW.put hB hi2 (.cells [.sl [] .exact, .sl [] .exact, .sl [] .exact, .sl [] .exact])
  have g2 := put_same G j9 (.cells [.sl [] .exact, .sl [] .exact, .sl [] .exact, .sl [] .exact])
  have km := machineB_calls hB2 hM
  unfold encMac at km
  cases ho : D.off with
  | true =>
    rw [ho, if_pos rfl, if_pos rfl] at hv
    rw [ho] at gd2
    simp -implicitDefEqProofs only [go_sem, gd2, g2, put_same, put_put']
    exact Done.wk 3 (Done.drop1 hi2 ⟨by rw [hv]; rfl, rfl⟩)
  | false =>
    rw [ho, if_neg (by simp), if_neg (by simp)] at hv
    rw [ho] at gd2
    simp -implicitDefEqProofs only [go_sem, gd2, g2]
    refine km.pure_next _ ?_
    simp -implicitDefEqProofs only [go_sem, gd2, g2, put_same, put_put']
    exact Done.drop1 hi2 ⟨by rw [hv]; rfl, rfl⟩
theorem pPeek_calls {H G : Heap} {d : Nat} {S : List Nat} {D : DkV} (h : PDk H G d S D) (hM : MacOK D.m) :
    ACalls Tryz.prog 37 [.ptr d 0] G fun x G' => x = .agg (encMac D.m .unk .unk .unk .unk) ∧ G' = G := by
  obtain ⟨ib, i1, i2, i3, i4, ta, rfl, hd, hnn, gd, hB⟩ := h
  unfold pdC at gd
  refine ACalls.of_code (X := { pure := pu0 }) pu0_ok Tryz.func37 (by kernel_rfl) rfl (by kernel_rfl) (Nat.le_of_ble_eq_true rfl) ?_
  simp -implicitDefEqProofs only [go_sem, Tryz.f37]
  with_reducible refine nwC_intro fun j9 hi2 => ?_
  have gd2 := (put_ne G j9 d (.cells [.sl [] .exact, .sl [] .exact, .sl [] .exact, .sl [] .exact]) (obj_ne gd hi2)).trans gd
  have hB2 := BW.put hB hi2 (.cells [.sl [] .exact, .sl [] .exact, .sl [] .exact, .sl [] .exact])
  have g2 := put_same G j9 (.cells [.sl [] .exact, .sl [] .exact, .sl [] .exact, .sl [] .exact])
  have km := machineB_calls hB2 hM
  unfold encMac at km
  simp -implicitDefEqProofs only [go_sem, gd2, g2]
  refine km.pure_next _ ?_
  simp -implicitDefEqProofs only [go_sem, gd2, g2, put_same, put_put']
  exact Done.drop1 hi2 ⟨rfl, rfl⟩
theorem pWrites_calls {H G : Heap} {d : Nat} {S : List Nat} {D : DkV} (h : PDk H G d S D) :
    ACalls Tryz.prog 39 [.ptr d 0] G fun x G' => x = .int .i64 D.writes ∧ G' = G := by
  obtain ⟨ib, i1, i2, i3, i4, ta, rfl, hd, hnn, gd, hB⟩ := h
  unfold pdC at gd
  refine ACalls.of_code (X := { pure := pu0 }) pu0_ok Tryz.func39 (by kernel_rfl) rfl (by kernel_rfl) (Nat.le_of_ble_eq_true rfl) ?_
  simp -implicitDefEqProofs only [go_sem, Tryz.f39]
  simp -implicitDefEqProofs only [go_sem, gd]
  exact Done.now ⟨rfl, rfl⟩
def newD (m : MacV) : DkV := ⟨m, false, false, false, 0, 0⟩
theorem pNew_calls (m : MacV) (ta tb tc td : Tail) (H : Heap) (hM : MacOK m) :
    ACalls Tryz.prog 27 [.agg (encMac m ta tb tc td)] H fun x H' => ∃ d S, x = .tup [.ptr d 0, .int .i64 0] ∧ PDk H H' d S (newD m) := by
  have hS := Heap.Sub.rfl' H
  have hck := fun G => check_calls m ta tb tc td G hM.R
  rw [(macErr_ok m).2 hM] at hck
  have kn := fun G => benchOf_calls m ta tb tc td G hM
  unfold encMac at hck kn
  have z1 : decide (¬ (0 : Int) = 0) = false := rfl
  refine ACalls.of_code (X := { pure := pu0 }) pu0_ok Tryz.func27 (by kernel_rfl) rfl (by kernel_rfl) (Nat.le_of_ble_eq_true rfl) ?_
  simp -implicitDefEqProofs only [go_sem, Tryz.f27, encMac]
  with_reducible refine nwC_intro fun i1 hi1 => ?_
  generalize E1 : Heap.put H i1 _ = G1
  have hO_1 := obj_new E1 hi1 hS
  have n1 := hO_1.1
  have hS := hO_1.2.1
  have g1 := hO_1.2.2.1
  clear hO_1
  simp -implicitDefEqProofs only [go_sem, g1]
  refine (hck G1).pure_next _ ?_
  simp -implicitDefEqProofs only [go_sem, z1, g1]
  refine (kn G1).mono ?_
  rintro x G2 ⟨jb, j1, j2, j3, j4, rfl, hB2⟩
  simp -implicitDefEqProofs only [go_sem]
  with_reducible refine nwC_intro fun d hd => ?_
  have hB3 := BW.sub_of hB2 hS
  have hdH := sub_none hB3.sub hd
  have hnn := hB3.ids hd
  simp -implicitDefEqProofs only [go_sem]
  exact Done.now ⟨d, _, rfl, ⟨jb, j1, j2, j3, j4, .unk, rfl, hdH, hnn, put_same _ _ _, BW.set_at hB3 hdH hnn _⟩⟩
end Go.Proofs

/- Walks: a disk on the reference's side. -/
namespace Go.Proofs
open Go Go.Abs
set_option linter.unusedSimpArgs false
set_option linter.unusedVariables false
set_option maxRecDepth 20000
theorem RW.sub_of {H G H0 : Heap} {iw i1 i2 i3 : Nat} {fs : List (List AV)} {ta : Tail} {lf : List FileV} {ls : List SetV} {lv : List SvcV} (h : RW H G iw i1 i2 i3 fs ta lf ls lv) (hs : H0.Sub H) : RW H0 G iw i1 i2 i3 fs ta lf ls lv := by
  obtain ⟨a, b, c, d, e, f, g, h1, h2, h3⟩ := h
  exact ⟨fun i o hi => a _ _ (hs _ _ hi), sub_none hs b, sub_none hs c, sub_none hs d, sub_none hs e, f, g, h1, h2, h3⟩
theorem RW.less {H G : Heap} {iw i1 i2 i3 : Nat} {fs : List (List AV)} {ta : Tail} {lf : List FileV} {ls : List SetV} {lv : List SvcV} (h : RW H G iw i1 i2 i3 fs ta lf ls lv) : RW (less G [iw, i1, i2, i3]) G iw i1 i2 i3 fs ta lf ls lv := by
  obtain ⟨a, b, c, d, e, f, g, h1, h2, h3⟩ := h
  exact ⟨less_sub _ _, less_in (by simp), less_in (by simp), less_in (by simp), less_in (by simp), f, g, h1, h2, h3⟩
theorem RW.sub_less {H G : Heap} {iw i1 i2 i3 : Nat} {fs : List (List AV)} {ta : Tail} {lf : List FileV} {ls : List SetV} {lv : List SvcV} (h : RW H G iw i1 i2 i3 fs ta lf ls lv) : H.Sub (Go.Proofs.less G [iw, i1, i2, i3]) := fun i o hi => by
  unfold Go.Proofs.less
  rw [if_neg]
  · exact h.sub i o hi
  · intro hm
    simp only [List.mem_cons, List.not_mem_nil, or_false] at hm
    rcases hm with rfl | rfl | rfl | rfl
    · rw [h.nw] at hi; cases hi
    · rw [h.n1] at hi; cases hi
    · rw [h.n2] at hi; cases hi
    · rw [h.n3] at hi; cases hi
theorem RW.ids {H G : Heap} {iw i1 i2 i3 d : Nat} {fs : List (List AV)} {ta : Tail} {lf : List FileV} {ls : List SetV} {lv : List SvcV} (h : RW H G iw i1 i2 i3 fs ta lf ls lv) (hd : G d = none) : ¬ iw = d ∧ ¬ i1 = d ∧ ¬ i2 = d ∧ ¬ i3 = d := by
  obtain ⟨a, b, c, d, e, f, g, ⟨e1, h1, -⟩, ⟨e2, h2, -⟩, ⟨e3, h3, -⟩⟩ := h
  exact ⟨fun x => obj_ne g hd x, fun x => obj_ne h1 hd x, fun x => obj_ne h2 hd x, fun x => obj_ne h3 hd x⟩
theorem RW.set_at {H G : Heap} {iw i1 i2 i3 d : Nat} {fs : List (List AV)} {ta : Tail} {lf : List FileV} {ls : List SetV} {lv : List SvcV} (h : RW H G iw i1 i2 i3 fs ta lf ls lv) (hd : H d = none) (hn : ¬ iw = d ∧ ¬ i1 = d ∧ ¬ i2 = d ∧ ¬ i3 = d) (o : AObj) : RW H (G.put d o) iw i1 i2 i3 fs ta lf ls lv := by
  obtain ⟨a, b, c, d, e, f, g, ⟨e1, h1, k1⟩, ⟨e2, h2, k2⟩, ⟨e3, h3, k3⟩⟩ := h
  obtain ⟨n0, n1, n2, n3⟩ := hn
  exact ⟨a.put' hd o, b, c, d, e, f, by rw [put_ne _ _ _ _ n0]; exact g, ⟨e1, by rw [put_ne _ _ _ _ n1]; exact h1, k1⟩, ⟨e2, by rw [put_ne _ _ _ _ n2]; exact h2, k2⟩, ⟨e3, by rw [put_ne _ _ _ _ n3]; exact h3, k3⟩⟩
theorem Fr.none {G G' : Heap} {S : List Nat} (h : Fr G G' S) {i : Nat} (hi : G' i = none) : i ∈ S ∨ G i = none := by
  by_cases hs : i ∈ S
  · exact .inl hs
  · cases hg : G i with
    | none => exact .inr rfl
    | some o => rw [h i o hg hs] at hi; cases hi
def rdC (iw : Nat) (D : DkV) : List AV := [.ptr iw 0, .bool D.off, .int .i64 D.after, .bool D.torn, .bool D.cut, .int .i64 D.writes]
def RDk (H G : Heap) (d : Nat) (S : List Nat) (D : DkV) : Prop := ∃ iw i1 i2 i3 ta, S = [d, iw, i1, i2, i3] ∧ H d = none ∧ (¬ iw = d ∧ ¬ i1 = d ∧ ¬ i2 = d ∧ ¬ i3 = d) ∧ G d = some (.cells (rdC iw D)) ∧ RWM H G iw i1 i2 i3 ta D.m
def RRes (H G : Heap) (d : Nat) (S : List Nat) (v : Int × DkV) (x : AV) (G' : Heap) : Prop := x = .int .i64 v.1 ∧ ∃ S', RDk H G' d S' v.2 ∧ Keep G G' S S'
theorem RDk.done {H G G' : Heap} {d iw i1 i2 i3 : Nat} {ta : Tail} {e : Int} {D : DkV} (hd : H d = none) (hnn : ¬ iw = d ∧ ¬ i1 = d ∧ ¬ i2 = d ∧ ¬ i3 = d) (hB : RWM H G' iw i1 i2 i3 ta D.m) (hf : Fr G G' [d, iw, i1, i2, i3]) :
    RRes H G d [d, iw, i1, i2, i3] (e, D) (.int .i64 e) (G'.put d (.cells (rdC iw D))) :=
  ⟨rfl, _, ⟨iw, i1, i2, i3, ta, rfl, hd, hnn, put_same _ _ _, RW.set_at hB hd hnn _⟩, hf.trans (Fr.set _ _ (by simp)), fun i hi => .inl hi⟩
theorem RDk.put {H G : Heap} {d : Nat} {S : List Nat} {D : DkV} (h : RDk H G d S D) {j : Nat} (hj : G j = none) (o : AObj) : RDk H (G.put j o) d S D := by
  obtain ⟨iw, i1, i2, i3, ta, rfl, hd, hnn, gd, hB⟩ := h
  exact ⟨iw, i1, i2, i3, ta, rfl, hd, hnn, by rw [put_ne _ _ _ _ (obj_ne gd hj)]; exact gd, RW.put hB hj o⟩
def doO12 : OT := .seg [0, 1, 2, 3, 4, 5, 6, 7, 8, 9, 10] .done
set_option maxHeartbeats 12800000 in
theorem rDkDo_calls {H G : Heap} {d : Nat} {S : List Nat} {D : DkV} {n : Nat} (c : ChgV) (h : RDk H G d S D) (hO : DkOK n D) (hn : n ≤ 1099511627776) (hc : chgR c) :
    ACalls Tryz.prog 30 [.ptr d 0, .agg (encChg c)] G (RRes H G d S (doD true D c)) := by
  have hM := hO.m
  have hw := hO.w
  have haa := hO.a
  have hcf := hc.1.2
  obtain ⟨⟨l1, l2, l3, l4⟩, -⟩ := hM.R
  obtain ⟨iw, i1, i2, i3, ta, rfl, hd, hnn, gd, hB⟩ := h
  have hv := doD.eq_1 true D c
  refine ACalls.of_code (X := { pure := pu0, tree := fun n => if n = 4 then some doOT else if n = 12 then some doO12 else none }) pu0_ok Tryz.func30 (by kernel_rfl) rfl (by kernel_rfl) (Nat.le_of_ble_eq_true rfl) ?_
  unfold rdC at gd
  simp -implicitDefEqProofs only [go_sem, Tryz.f30, encChg]
  with_reducible refine nwC_intro fun ic hic => ?_
  have hB1 : RWM H _ iw i1 i2 i3 ta D.m := RW.put hB hic (.cells (encChg c))
  have gc := put_same G ic (.cells (encChg c))
  have f1 := Fr.new hic (.cells (encChg c)) [d, iw, i1, i2, i3]
  have dd := obj_ne gd hic
  have gd1 := (put_ne G ic d (.cells (encChg c)) dd).trans gd
  have nic := RW.ids hB hic
  unfold encChg at hB1 gc f1 gd1
  try simp -implicitDefEqProofs only [go_sem]
  generalize G.put ic _ = G1 at *
  cases ho : D.off with
  | true =>
    rw [ho, if_pos rfl] at hv
    rw [ho] at gd1
    simp -implicitDefEqProofs only [go_sem, gd1]
    rw [hv]
    exact Done.now ⟨rfl, _, ⟨iw, i1, i2, i3, ta, rfl, hd, hnn, by rw [gd1]; unfold rdC; rw [ho], hB1⟩, f1, fun i hi => .inl hi⟩
  | false =>
  rw [ho, if_neg (by simp)] at hv
  rw [ho] at gd1
  have km := machine_calls hB1 l1 l2 l3 l4
  rw [show (⟨D.m.facts, D.m.files, D.m.sets, D.m.svcs⟩ : MacV) = D.m from rfl] at km
  unfold encMac at km
  simp -implicitDefEqProofs only [go_sem, gd1]
  refine km.pure_next _ ?_
  simp -implicitDefEqProofs only [go_sem]
  with_reducible refine nwC_intro fun i5 hi5 => ?_
  have hB2 : RWM H _ iw i1 i2 i3 ta D.m := RW.put hB1 hi5 (.cells (encMac D.m .unk .unk .unk .unk))
  have g5 := put_same G1 i5 (.cells (encMac D.m .unk .unk .unk .unk))
  have f2 := f1.trans (Fr.new hi5 (.cells (encMac D.m .unk .unk .unk .unk)) [d, iw, i1, i2, i3])
  have gd2 := (put_ne G1 i5 d (.cells (encMac D.m .unk .unk .unk .unk)) (obj_ne gd1 hi5)).trans gd1
  have gc2 := (put_ne G1 i5 ic (.cells (encMac D.m .unk .unk .unk .unk)) (obj_ne gc hi5)).trans gc
  have ni5 := RW.ids hB1 hi5
  unfold encMac at hB2 g5 f2 gd2 gc2
  try simp -implicitDefEqProofs only [go_sem]
  generalize G1.put i5 _ = G2 at *
  have kd := rDo_calls (c := c) (RW.less hB2) hM.R hc
  unfold encChg at kd
  rw [acode_tree (t := doOT) rfl (by rfl)]
  simp -implicitDefEqProofs only [go_sem, doOT, stripO, gd2, gc2]
  refine kd.mono ?_
  intro x G3 hD
  have hsub : (less G2 [iw, i1, i2, i3]).Sub G3 := by
    unfold DoR at hD
    cases hdv : doV D.m c with
    | error e => rw [hdv] at hD; exact hD.2.sub
    | ok m => rw [hdv] at hD; exact hD.2.sub
  have f3 := less_fr hsub
  have gd3 := f3 _ _ gd2 (by simp; exact ⟨fun e => hnn.1 e.symm, fun e => hnn.2.1 e.symm, fun e => hnn.2.2.1 e.symm, fun e => hnn.2.2.2 e.symm⟩)
  have gc3 := f3 _ _ gc2 (by simp; exact ⟨fun e => nic.1 e.symm, fun e => nic.2.1 e.symm, fun e => nic.2.2.1 e.symm, fun e => nic.2.2.2 e.symm⟩)
  have g53 := f3 _ _ g5 (by simp; exact ⟨fun e => ni5.1 e.symm, fun e => ni5.2.1 e.symm, fun e => ni5.2.2.1 e.symm, fun e => ni5.2.2.2 e.symm⟩)
  have ff : Fr G G3 [d, iw, i1, i2, i3] := f2.trans (f3.wide (by simp))
  have hHs := RW.sub_less hB2
  clear hsub km kd f1 f2 f3
  cases hdv : doV D.m c with
  | error e =>
    rw [hdv] at hv hD
    obtain ⟨rfl, hB3⟩ := hD
    have y7 : decide (¬ e = 0) = true := decide_eq_true (doV_err hdv)
    simp -implicitDefEqProofs only [go_sem, y7]
    rw [hv]
    exact Done.now ⟨rfl, _, ⟨iw, i1, i2, i3, ta, rfl, hd, hnn, by rw [gd3]; unfold rdC; rw [ho], RW.sub_of hB3 hHs⟩, ff, fun i hi => .inl hi⟩
  | ok m =>
  rw [hdv] at hv hD
  obtain ⟨rfl, hB3⟩ := hD
  have hB3 := RW.sub_of hB3 hHs
  have y7 : decide (¬ (0 : Int) = 0) = false := rfl
  simp only at hv
  have ww : IntKind.i64.wrap (D.writes + 1) = D.writes + 1 := Go.IntWalk.i64_in _ (by omega)
  have wa : IntKind.i64.wrap (D.after - 1) = D.after - 1 := Go.IntWalk.i64_in _ (by omega)
  rw [if_pos (Or.inl trivial)] at hv
  by_cases hl : D.cut = true ∧ D.after = 0
  rotate_left
  · rw [if_neg hl] at hv
    cases hcut : D.cut with
    | false =>
      rw [hcut] at gd3
      simp -implicitDefEqProofs only [go_sem, y7, gd3, ww, wa, put_same, put_put']
      rw [hv, hcut]
      exact Done.now (RDk.done hd hnn hB3 ff)
    | true =>
      have y1 : decide (D.after = 0) = false := decide_eq_false (fun e => hl ⟨hcut, e⟩)
      rw [hcut] at gd3
      simp -implicitDefEqProofs only [go_sem, y7, gd3, y1, ww, wa, put_same, put_put']
      rw [hv, hcut]
      exact Done.now (RDk.done hd hnn hB3 ff)
  rw [if_pos hl] at hv
  obtain ⟨hcut, h2⟩ := hl
  have y1 : decide (D.after = 0) = true := decide_eq_true h2
  rw [hcut] at gd3
  have kw := fun G => worldOf_calls D.m .unk .unk .unk .unk G hM.R hM.a2 hM.a3 hM.a4
  unfold encMac at kw
  simp -implicitDefEqProofs only [go_sem, y7, gd3, y1, g53]
  refine (kw G3).mono ?_
  rintro x G4 ⟨jw, j1, j2, j3, rfl, hB4⟩
  have gd4 := hB4.sub _ _ gd3
  have gc4 := hB4.sub _ _ gc3
  have hjd : ¬ jw = d ∧ ¬ j1 = d ∧ ¬ j2 = d ∧ ¬ j3 = d := ⟨fun e => obj_ne gd3 hB4.nw e.symm, fun e => obj_ne gd3 hB4.n1 e.symm, fun e => obj_ne gd3 hB4.n2 e.symm, fun e => obj_ne gd3 hB4.n3 e.symm⟩
  have hjc : ¬ jw = ic ∧ ¬ j1 = ic ∧ ¬ j2 = ic ∧ ¬ j3 = ic := ⟨fun e => obj_ne gc3 hB4.nw e.symm, fun e => obj_ne gc3 hB4.n1 e.symm, fun e => obj_ne gc3 hB4.n2 e.symm, fun e => obj_ne gc3 hB4.n3 e.symm⟩
  simp -implicitDefEqProofs only [go_sem, gd4, put_same, put_put']
  have hB5 : RWM H (G4.put d (.cells [.ptr jw 0, .bool true, .int .i64 D.after, .bool D.torn, .bool false, .int .i64 D.writes])) jw j1 j2 j3 .unk D.m := RW.set_at (RW.sub_of hB4 hB3.sub) hd hjd _
  have gd5 := put_same G4 d (.cells [.ptr jw 0, .bool true, .int .i64 D.after, .bool D.torn, .bool false, .int .i64 D.writes])
  have gc5 := (put_ne G4 d ic (.cells [.ptr jw 0, .bool true, .int .i64 D.after, .bool D.torn, .bool false, .int .i64 D.writes]) (fun e => dd e.symm)).trans gc4
  have ff5 : Fr G (G4.put d (.cells [.ptr jw 0, .bool true, .int .i64 D.after, .bool D.torn, .bool false, .int .i64 D.writes])) [d, iw, i1, i2, i3] := fun i o hi hs => by
    rw [put_ne _ _ _ _ (fun e => hs (by rw [e]; simp))]
    exact hB4.sub _ _ (ff i o hi hs)
  have fresh : ∀ i, G3 i = none → i ∈ [d, iw, i1, i2, i3] ∨ G i = none := fun i hi => Fr.none ff hi
  have hw4 := hB4.nw
  have hn1 := hB4.n1
  have hn2 := hB4.n2
  have hn3 := hB4.n3
  generalize G4.put d _ = G5 at *
  have hk : ∀ i ∈ [d, jw, j1, j2, j3], i ∈ [d, iw, i1, i2, i3] ∨ G i = none := fun i hi => by
    simp only [List.mem_cons, List.not_mem_nil, or_false] at hi
    rcases hi with rfl | rfl | rfl | rfl | rfl
    · exact .inl (by simp)
    · exact fresh _ hw4
    · exact fresh _ hn1
    · exact fresh _ hn2
    · exact fresh _ hn3
  clear kw gd4 gc4 gd3 gc3 g53 fresh hw4 hn1 hn2 hn3
  by_cases ht : D.torn = true ∧ c.kind = 1
  · rw [if_pos ht, if_pos ht] at hv
    obtain ⟨t1, t2⟩ := ht
    have y2 : decide (c.kind = 1) = true := decide_eq_true t2
    have hq : Int.tdiv (c.file.data.length : Int) 2 = ((c.file.data.length / 2 : Nat) : Int) := by rw [Int.tdiv_eq_ediv_of_nonneg (by omega)]; omega
    have wl : IntKind.i64.wrap ((c.file.data.length / 2 : Nat) : Int) = ((c.file.data.length / 2 : Nat) : Int) := Go.IntWalk.i64_in _ (by omega)
    have hle : c.file.data.length / 2 ≤ c.file.data.length := by omega
    rw [t1] at gd5
    simp -implicitDefEqProofs only [go_sem, gd5, gc5, y2, t1]
    with_reducible refine nwC_intro fun i7 hi7 => ?_
    simp -implicitDefEqProofs only [go_sem, hq, wl]
    refine ⟨by omega, ?_⟩
    have hB7 : RWM H _ jw j1 j2 j3 .unk D.m := RW.put hB5 hi7 (.cells [.str c.file.path, .str (c.file.data.take (c.file.data.length / 2)), .bool c.file.runs])
    have g77 := put_same G5 i7 (.cells [.str c.file.path, .str (c.file.data.take (c.file.data.length / 2)), .bool c.file.runs])
    have gd7 := (put_ne G5 i7 d (.cells [.str c.file.path, .str (c.file.data.take (c.file.data.length / 2)), .bool c.file.runs]) (obj_ne gd5 hi7)).trans gd5
    have ff7 := ff5.trans (Fr.new hi7 (.cells [.str c.file.path, .str (c.file.data.take (c.file.data.length / 2)), .bool c.file.runs]) [d, iw, i1, i2, i3])
    generalize G5.put i7 _ = G7 at *
    obtain ⟨es, k1, k2⟩ := hB7.f
    have kw := hB7.w
    rw [acode_tree (t := doO12) rfl (by rfl)]
    simp -implicitDefEqProofs only [go_sem, doO12, stripO, gd7, g77, kw, k1]
    have hB8 := RW.setF hB7 (k2.set (halfF c.file))
    have gd8 := (put_ne G7 j1 d (.map .str (mset es (.s c.file.path) (.agg [.str c.file.path, .str (c.file.data.take (c.file.data.length / 2)), .bool c.file.runs]))) (fun e => hjd.2.1 e.symm)).trans gd7
    have ff8 : Fr G (G7.put j1 (.map .str (mset es (.s c.file.path) (.agg [.str c.file.path, .str (c.file.data.take (c.file.data.length / 2)), .bool c.file.runs])))) [d, iw, i1, i2, i3] := fun i o hi hs => by
      by_cases e : i = j1
      · subst e
        rcases hk i (by simp) with h | h
        · exact absurd h hs
        · rw [h] at hi; cases hi
      · rw [put_ne _ _ _ _ e]; exact ff7 i o hi hs
    unfold halfF encFile at hB8
    generalize G7.put j1 _ = G8 at *
    simp -implicitDefEqProofs only [go_sem, gd8, ww, put_same, put_put']
    rw [hv, t1]
    exact Done.now ⟨rfl, _, ⟨jw, j1, j2, j3, .unk, rfl, hd, hjd, put_same _ _ _, RW.set_at hB8 hd hjd _⟩, ff8.trans (Fr.set _ _ (by simp)), hk⟩
  · rw [if_neg ht, if_neg ht] at hv
    have fin : RRes H G d [d, iw, i1, i2, i3] (doD true D c) (.int .i64 18) G5 := ⟨by rw [hv], _, by rw [hv]; exact ⟨jw, j1, j2, j3, .unk, rfl, hd, hjd, gd5, hB5⟩, ff5, hk⟩
    rw [hv] at fin
    cases t1 : D.torn with
    | false =>
      rw [t1] at gd5 fin
      simp -implicitDefEqProofs only [go_sem, gd5, gc5, t1]
      rw [hv, t1]
      exact Done.now fin
    | true =>
      have y2 : decide (c.kind = 1) = false := decide_eq_false (fun e => ht ⟨t1, e⟩)
      rw [t1] at gd5 fin
      simp -implicitDefEqProofs only [go_sem, gd5, gc5, y2, t1]
      rw [hv, t1]
      exact Done.now fin
end Go.Proofs

/- Walks: what a disk does, on the reference's side. -/
namespace Go.Proofs
open Go Go.Abs
set_option linter.unusedSimpArgs false
set_option linter.unusedVariables false
set_option maxRecDepth 20000
theorem rCut_calls {H G : Heap} {d : Nat} {S : List Nat} {D : DkV} (a : Int) (t : Bool) (h : RDk H G d S D) :
    ACalls Tryz.prog 32 [.ptr d 0, .int .i64 a, .bool t] G (RRes H G d S (cutD a t D)) := by
  have hP := h
  obtain ⟨iw, i1, i2, i3, ta, rfl, hd, hnn, gd, hB⟩ := h
  have hv := cutD.eq_1 a t D
  unfold rdC at gd
  have f0 := Fr.rfl' G [d, iw, i1, i2, i3]
  refine ACalls.of_code (X := { pure := pu0 }) pu0_ok Tryz.func32 (by kernel_rfl) rfl (by kernel_rfl) (Nat.le_of_ble_eq_true rfl) ?_
  simp -implicitDefEqProofs only [go_sem, Tryz.f32]
  by_cases h1 : a < 0
  · have y1 : decide (a < 0) = true := decide_eq_true h1
    rw [if_pos (.inl h1)] at hv
    simp -implicitDefEqProofs only [go_sem, y1]
    rw [hv]
    exact Done.now ⟨rfl, _, hP, f0, fun i hi => .inl hi⟩
  have y1 : decide (a < 0) = false := decide_eq_false h1
  by_cases h2 : 1000000 < a
  · have y2 : decide (1000000 < a) = true := decide_eq_true h2
    rw [if_pos (.inr h2)] at hv
    simp -implicitDefEqProofs only [go_sem, y1, y2]
    rw [hv]
    exact Done.now ⟨rfl, _, hP, f0, fun i hi => .inl hi⟩
  have y2 : decide (1000000 < a) = false := decide_eq_false h2
  rw [if_neg (by omega)] at hv
  cases ho : D.off with
  | true =>
    rw [ho, if_pos rfl] at hv
    rw [ho] at gd
    simp -implicitDefEqProofs only [go_sem, y1, y2, gd]
    rw [hv]
    exact Done.now ⟨rfl, _, hP, f0, fun i hi => .inl hi⟩
  | false =>
    rw [ho, if_neg (by simp)] at hv
    rw [ho] at gd
    simp -implicitDefEqProofs only [go_sem, y1, y2, gd, put_same, put_put']
    rw [hv]
    exact Done.now (RDk.done hd hnn hB f0)
set_option maxHeartbeats 1600000 in
theorem rOn_calls {H G : Heap} {d : Nat} {S : List Nat} {D : DkV} {n : Nat} (h : RDk H G d S D) (hO : DkOK n D) :
    ACalls Tryz.prog 34 [.ptr d 0] G (RRes H G d S (onD D)) := by
  have hM := hO.m
  have hoc := hO.off
  have hP := h
  obtain ⟨⟨l1, l2, l3, l4⟩, -⟩ := hM.R
  obtain ⟨iw, i1, i2, i3, ta, rfl, hd, hnn, gd, hB⟩ := h
  have hv := onD.eq_1 D
  unfold rdC at gd
  have f0 := Fr.rfl' G [d, iw, i1, i2, i3]
  refine ACalls.of_code (X := { pure := pu0 }) pu0_ok Tryz.func34 (by kernel_rfl) rfl (by kernel_rfl) (Nat.le_of_ble_eq_true rfl) ?_
  simp -implicitDefEqProofs only [go_sem, Tryz.f34]
  cases ho : D.off with
  | false =>
    rw [ho, if_neg (by simp)] at hv
    rw [ho] at gd
    simp -implicitDefEqProofs only [go_sem, gd]
    rw [hv]
    exact Done.now ⟨rfl, _, hP, f0, fun i hi => .inl hi⟩
  | true =>
    rw [ho, if_pos rfl] at hv
    rw [ho, hoc ho] at gd
    have hB1 := RW.set_at hB hd hnn (.cells [.ptr iw 0, .bool false, .int .i64 D.after, .bool D.torn, .bool false, .int .i64 D.writes])
    have km := machine_calls hB1 l1 l2 l3 l4
    rw [show (⟨D.m.facts, D.m.files, D.m.sets, D.m.svcs⟩ : MacV) = D.m from rfl] at km
    have hM2 := bootV_ok hM
    have kb := fun G => bootR_calls D.m .unk .unk .unk .unk G hM.R
    have kn := fun G => worldOf_calls (bootV D.m) .unk .unk .unk .unk G hM2.R hM2.a2 hM2.a3 hM2.a4
    have gd1 := put_same G d (.cells [.ptr iw 0, .bool false, .int .i64 D.after, .bool D.torn, .bool false, .int .i64 D.writes])
    have f1 : Fr G _ [d, iw, i1, i2, i3] := Fr.set (j := d) (S := [d, iw, i1, i2, i3]) G (.cells [.ptr iw 0, .bool false, .int .i64 D.after, .bool D.torn, .bool false, .int .i64 D.writes]) (by simp)
    have hs1 : ∀ i, G.put d (.cells [.ptr iw 0, .bool false, .int .i64 D.after, .bool D.torn, .bool false, .int .i64 D.writes]) i = none → G i = none := fun i hi => by
      by_cases e : i = d
      · subst e; rw [put_same] at hi; cases hi
      · rw [put_ne _ _ _ _ e] at hi; exact hi
    unfold encMac at km kb kn
    simp -implicitDefEqProofs only [go_sem, gd]
    generalize G.put d _ = G1 at *
    refine km.pure_next _ ?_
    simp -implicitDefEqProofs only [go_sem]
    refine (kb G1).pure_next _ ?_
    simp -implicitDefEqProofs only [go_sem]
    refine (kn G1).mono ?_
    rintro x G2 ⟨jw, j1, j2, j3, rfl, hB2⟩
    have gd2 := hB2.sub _ _ gd1
    simp -implicitDefEqProofs only [go_sem, gd2, put_same, put_put']
    rw [hv]
    have hnn2 : ¬ jw = d ∧ ¬ j1 = d ∧ ¬ j2 = d ∧ ¬ j3 = d := ⟨fun e => obj_ne gd1 hB2.nw e.symm, fun e => obj_ne gd1 hB2.n1 e.symm, fun e => obj_ne gd1 hB2.n2 e.symm, fun e => obj_ne gd1 hB2.n3 e.symm⟩
    have hB3 := RW.sub_of hB2 hB1.sub
    refine Done.now ⟨rfl, _, ⟨jw, j1, j2, j3, .unk, rfl, hd, hnn2, put_same _ _ _, RW.set_at hB3 hd hnn2 _⟩, fun i o hi hs => ?_, fun i hi => ?_⟩
    · rw [put_ne _ _ _ _ (fun e => hs (by rw [e]; simp))]; exact hB2.sub _ _ (f1 _ _ hi hs)
    · simp only [List.mem_cons, List.not_mem_nil, or_false] at hi
      rcases hi with rfl | rfl | rfl | rfl | rfl
      · exact .inl (by simp)
      · exact .inr (hs1 _ hB2.nw)
      · exact .inr (hs1 _ hB2.n1)
      · exact .inr (hs1 _ hB2.n2)
      · exact .inr (hs1 _ hB2.n3)
theorem rMachine_calls {H G : Heap} {d : Nat} {S : List Nat} {D : DkV} (h : RDk H G d S D) (hM : MacOK D.m) :
    ACalls Tryz.prog 36 [.ptr d 0] G fun x G' => x = offM D ∧ G' = G := by
  obtain ⟨⟨l1, l2, l3, l4⟩, -⟩ := hM.R
  obtain ⟨iw, i1, i2, i3, ta, rfl, hd, hnn, gd, hB⟩ := h
  unfold rdC at gd
  have hv := offM.eq_1 D
  have hS := Heap.Sub.rfl' G
  refine ACalls.of_code (X := { pure := pu0 }) pu0_ok Tryz.func36 (by kernel_rfl) rfl (by kernel_rfl) (Nat.le_of_ble_eq_true rfl) ?_
  simp -implicitDefEqProofs only [go_sem, Tryz.f36]
  with_reducible refine nwC_intro fun j9 hi2 => ?_
  have gd2 := (put_ne G j9 d (.cells [.sl [] .exact, .sl [] .exact, .sl [] .exact, .sl [] .exact]) (obj_ne gd hi2)).trans gd
  have hB2 := RW.put hB hi2 (.cells [.sl [] .exact, .sl [] .exact, .sl [] .exact, .sl [] .exact])
  have g2 := put_same G j9 (.cells [.sl [] .exact, .sl [] .exact, .sl [] .exact, .sl [] .exact])
  have km := machine_calls hB2 l1 l2 l3 l4
  rw [show (⟨D.m.facts, D.m.files, D.m.sets, D.m.svcs⟩ : MacV) = D.m from rfl] at km
  unfold encMac at km
  cases ho : D.off with
  | true =>
    rw [ho, if_pos rfl, if_pos rfl] at hv
    rw [ho] at gd2
    simp -implicitDefEqProofs only [go_sem, gd2, g2, put_same, put_put']
    exact Done.wk 3 (Done.drop1 hi2 ⟨by rw [hv]; rfl, rfl⟩)
  | false =>
    rw [ho, if_neg (by simp), if_neg (by simp)] at hv
    rw [ho] at gd2
    simp -implicitDefEqProofs only [go_sem, gd2, g2]
    refine km.pure_next _ ?_
    simp -implicitDefEqProofs only [go_sem, gd2, g2, put_same, put_put']
    exact Done.drop1 hi2 ⟨by rw [hv]; rfl, rfl⟩
theorem rPeek_calls {H G : Heap} {d : Nat} {S : List Nat} {D : DkV} (h : RDk H G d S D) (hM : MacOK D.m) :
    ACalls Tryz.prog 38 [.ptr d 0] G fun x G' => x = .agg (encMac D.m .unk .unk .unk .unk) ∧ G' = G := by
  obtain ⟨⟨l1, l2, l3, l4⟩, -⟩ := hM.R
  obtain ⟨iw, i1, i2, i3, ta, rfl, hd, hnn, gd, hB⟩ := h
  unfold rdC at gd
  refine ACalls.of_code (X := { pure := pu0 }) pu0_ok Tryz.func38 (by kernel_rfl) rfl (by kernel_rfl) (Nat.le_of_ble_eq_true rfl) ?_
  simp -implicitDefEqProofs only [go_sem, Tryz.f38]
  with_reducible refine nwC_intro fun j9 hi2 => ?_
  have gd2 := (put_ne G j9 d (.cells [.sl [] .exact, .sl [] .exact, .sl [] .exact, .sl [] .exact]) (obj_ne gd hi2)).trans gd
  have hB2 := RW.put hB hi2 (.cells [.sl [] .exact, .sl [] .exact, .sl [] .exact, .sl [] .exact])
  have g2 := put_same G j9 (.cells [.sl [] .exact, .sl [] .exact, .sl [] .exact, .sl [] .exact])
  have km := machine_calls hB2 l1 l2 l3 l4
  rw [show (⟨D.m.facts, D.m.files, D.m.sets, D.m.svcs⟩ : MacV) = D.m from rfl] at km
  unfold encMac at km
  simp -implicitDefEqProofs only [go_sem, gd2, g2]
  refine km.pure_next _ ?_
  simp -implicitDefEqProofs only [go_sem, gd2, g2, put_same, put_put']
  exact Done.drop1 hi2 ⟨rfl, rfl⟩
theorem rWrites_calls {H G : Heap} {d : Nat} {S : List Nat} {D : DkV} (h : RDk H G d S D) :
    ACalls Tryz.prog 40 [.ptr d 0] G fun x G' => x = .int .i64 D.writes ∧ G' = G := by
  obtain ⟨iw, i1, i2, i3, ta, rfl, hd, hnn, gd, hB⟩ := h
  unfold rdC at gd
  refine ACalls.of_code (X := { pure := pu0 }) pu0_ok Tryz.func40 (by kernel_rfl) rfl (by kernel_rfl) (Nat.le_of_ble_eq_true rfl) ?_
  simp -implicitDefEqProofs only [go_sem, Tryz.f40]
  simp -implicitDefEqProofs only [go_sem, gd]
  exact Done.now ⟨rfl, rfl⟩
theorem rNew_calls (m : MacV) (ta tb tc td : Tail) (H : Heap) (hM : MacOK m) :
    ACalls Tryz.prog 28 [.agg (encMac m ta tb tc td)] H fun x H' => ∃ d S, x = .ptr d 0 ∧ RDk H H' d S (newD m) := by
  have hS := Heap.Sub.rfl' H
  have kn := fun G => worldOf_calls m ta tb tc td G hM.R hM.a2 hM.a3 hM.a4
  unfold encMac at kn
  refine ACalls.of_code (X := { pure := pu0 }) pu0_ok Tryz.func28 (by kernel_rfl) rfl (by kernel_rfl) (Nat.le_of_ble_eq_true rfl) ?_
  simp -implicitDefEqProofs only [go_sem, Tryz.f28, encMac]
  with_reducible refine nwC_intro fun i1 hi1 => ?_
  generalize E1 : Heap.put H i1 _ = G1
  have hO_1 := obj_new E1 hi1 hS
  have n1 := hO_1.1
  have hS := hO_1.2.1
  have g1 := hO_1.2.2.1
  clear hO_1
  simp -implicitDefEqProofs only [go_sem, g1]
  refine (kn G1).mono ?_
  rintro x G2 ⟨jw, j1, j2, j3, rfl, hB2⟩
  simp -implicitDefEqProofs only [go_sem]
  with_reducible refine nwC_intro fun d hd => ?_
  have hB3 := RW.sub_of hB2 hS
  have hdH := sub_none hB3.sub hd
  have hnn := hB3.ids hd
  simp -implicitDefEqProofs only [go_sem]
  exact Done.now ⟨d, _, rfl, ⟨jw, j1, j2, j3, ta, rfl, hdH, hnn, put_same _ _ _, RW.set_at hB3 hdH hnn _⟩⟩
end Go.Proofs

/- Sorting by insertion, and leaving out what is there twice: plain Lean, no program. -/
namespace Go.Proofs
open Go Go.Abs
set_option linter.unusedSimpArgs false
set_option linter.unusedVariables false
theorem cmp_lt : ∀ (a b : Bytes), Lib.compareBytes a b < 0 ↔ strLt a b = true
  | [], [] => by simp [Lib.compareBytes, lt_irr]
  | [], b :: s => by
    rw [lt_lex, decide_eq_true_eq]
    simp only [Lib.compareBytes]
    exact ⟨fun _ => List.Lex.nil, fun _ => by decide⟩
  | a :: r, [] => by
    rw [lt_lex, decide_eq_true_eq]
    simp only [Lib.compareBytes]
    exact ⟨fun h => absurd h (by decide), fun h => by cases h⟩
  | a :: r, b :: s => by
    have ih := cmp_lt r s
    rw [lt_lex, decide_eq_true_eq] at ih ⊢
    simp only [Lib.compareBytes]
    by_cases h1 : a < b
    · rw [if_pos h1]
      exact ⟨fun _ => List.Lex.rel h1, fun _ => by decide⟩
    rw [if_neg h1]
    by_cases h2 : b < a
    · rw [if_pos h2]
      refine ⟨fun h => absurd h (by decide), fun h => ?_⟩
      cases h with
      | rel h => exact absurd h h1
      | cons h => exact absurd h2 h1
    · rw [if_neg h2]
      have e : a = b := UInt8.le_antisymm (UInt8.not_lt.1 h2) (UInt8.not_lt.1 h1)
      subst e
      rw [ih]
      exact ⟨fun h => List.Lex.cons h, fun h => by
        cases h with
        | rel h => exact absurd h h1
        | cons h => exact h⟩
section
variable {α : Type} (key : α → Bytes)
/-- No greater. -/
def LeK (a b : α) : Prop := strLt (key b) (key a) = false
variable {key}
theorem LeK.refl (a : α) : LeK key a a := lt_irr _
theorem LeK.of_lt {a b : α} (h : strLt (key a) (key b) = true) : LeK key a b := by
  unfold LeK
  cases hh : strLt (key b) (key a) with
  | false => rfl
  | true => have := lt_tr h hh; rw [lt_irr] at this; cases this
theorem LeK.lt_or {a b : α} (h : LeK key a b) : strLt (key a) (key b) = true ∨ key a = key b := by
  rcases lt_tri (key a) (key b) with t | t | t
  · exact .inl t
  · exact .inr t
  · unfold LeK at h; rw [h] at t; cases t
theorem LeK.of_eq {a b : α} (h : key a = key b) : LeK key a b := by unfold LeK; rw [h]; exact lt_irr _
theorem LeK.trans {a b c : α} (h1 : LeK key a b) (h2 : LeK key b c) : LeK key a c := by
  rcases h1.lt_or with t | t
  · rcases h2.lt_or with u | u
    · exact LeK.of_lt (lt_tr t u)
    · exact LeK.of_lt (u ▸ t)
  · rcases h2.lt_or with u | u
    · exact LeK.of_lt (t ▸ u)
    · exact LeK.of_eq (t.trans u)
theorem LeK.lt_of_lt {a b c : α} (h1 : LeK key a b) (h2 : strLt (key b) (key c) = true) : strLt (key a) (key c) = true := by
  rcases h1.lt_or with t | t
  · exact lt_tr t h2
  · exact t ▸ h2
/-- In order up to a place. -/
def SortTo (key : α → Bytes) (l : List α) (n : Nat) : Prop := ∀ a b x y, a < b → b < n → l[a]? = some x → l[b]? = some y → LeK key x y
/-- In order up to a place, but for the thing at j, which is no greater than those behind it. -/
def SortBut (key : α → Bytes) (l : List α) (n j : Nat) : Prop := ∀ a b x y, a < b → b < n → ¬ b = j → l[a]? = some x → l[b]? = some y → LeK key x y
theorem SortTo.but {l : List α} {n : Nat} (h : SortTo key l n) : SortBut key l (n + 1) n := fun a b x y h1 h2 h3 h4 h5 => h a b x y h1 (by omega) h4 h5
theorem SortBut.stop0 {l : List α} {n : Nat} (h : SortBut key l n 0) : SortTo key l n := fun a b x y h1 h2 h4 h5 => h a b x y h1 h2 (by omega) h4 h5
theorem SortBut.stop {l : List α} {n j : Nat} {u v : α} (h : SortBut key l n j) (hj : 0 < j) (hu : l[j - 1]? = some u) (hv : l[j]? = some v) (hle : LeK key u v) : SortTo key l n := fun a b x y h1 h2 h4 h5 => by
  by_cases e : b = j
  · subst e
    rw [hv] at h5; cases h5
    by_cases e2 : a = b - 1
    · subst e2; rw [hu] at h4; cases h4; exact hle
    · exact (h a (b - 1) x u (by omega) (by omega) (by omega) h4 hu).trans hle
  · exact h a b x y h1 h2 e h4 h5
def swapL (l : List α) (i j : Nat) (u v : α) : List α := (l.set i v).set j u
theorem swapL_get {l : List α} {j : Nat} {u v : α} (hj : 0 < j) (hlt : j < l.length) (a : Nat) : (swapL l j (j - 1) v u)[a]? = if a = j then some u else if a = j - 1 then some v else l[a]? := by
  unfold swapL
  rw [List.getElem?_set, List.getElem?_set]
  by_cases e : j - 1 = a
  · subst e
    rw [if_pos rfl, if_pos (by rw [List.length_set]; omega), if_neg (by omega), if_pos rfl]
  · rw [if_neg e]
    by_cases e2 : j = a
    · subst e2
      rw [if_pos rfl, if_pos rfl, if_pos hlt]
    · rw [if_neg e2, if_neg (fun h => e2 h.symm), if_neg (fun h => e h.symm)]
theorem swap_perm {l : List α} {j : Nat} {u v : α} (hj : 0 < j) (hu : l[j - 1]? = some u) (hv : l[j]? = some v) : (swapL l j (j - 1) v u).Perm l := by
  have h1 : j < l.length := (List.getElem?_eq_some_iff.1 hv).1
  obtain ⟨k, rfl⟩ : ∃ k, j = k + 1 := ⟨j - 1, by omega⟩
  simp only [Nat.add_sub_cancel] at hu ⊢
  have e1 : l = l.take k ++ u :: v :: l.drop (k + 2) := by
    conv => lhs; rw [← List.take_append_drop k l, drop_at hu, drop_at hv]
  have e2 : swapL l (k + 1) k v u = l.take k ++ v :: u :: l.drop (k + 2) := by
    unfold swapL
    refine List.ext_getElem? fun a => ?_
    have hk : (l.take k).length = k := by rw [List.length_take]; omega
    by_cases ha : a < k
    · rw [List.getElem?_set_ne (by omega), List.getElem?_set_ne (by omega), List.getElem?_append_left (by omega), List.getElem?_take, if_pos ha]
    · rw [List.getElem?_append_right (by omega), hk]
      by_cases e : a = k
      · subst e
        rw [List.getElem?_set_self (by rw [List.length_set]; omega)]; simp
      by_cases e2 : a = k + 1
      · subst e2
        rw [List.getElem?_set_ne (by omega), List.getElem?_set_self h1]
        simp
      · rw [List.getElem?_set_ne (by omega), List.getElem?_set_ne (by omega)]
        obtain ⟨t, rfl⟩ : ∃ t, a = k + 2 + t := ⟨a - (k + 2), by omega⟩
        rw [show k + 2 + t - k = t + 2 by omega, List.getElem?_cons_succ, List.getElem?_cons_succ, List.getElem?_drop]
  rw [e2]
  conv => rhs; rw [e1]
  exact List.Perm.append_left _ (List.Perm.swap u v _)
theorem SortBut.swap {l : List α} {n j : Nat} {u v : α} (h : SortBut key l n j) (hj : 0 < j) (hn : j < n) (hu : l[j - 1]? = some u) (hv : l[j]? = some v) (hlt : strLt (key v) (key u) = true) : SortBut key (swapL l j (j - 1) v u) n (j - 1) := fun a b x y h1 h2 h3 h4 h5 => by
  have hlen : j < l.length := (List.getElem?_eq_some_iff.1 hv).1
  rw [swapL_get hj hlen] at h4 h5
  by_cases eb : b = j
  · rw [if_pos eb] at h5
    cases h5
    rw [if_neg (by omega)] at h4
    by_cases ea : a = j - 1
    · rw [if_pos ea] at h4
      cases h4
      exact LeK.of_lt hlt
    · rw [if_neg ea] at h4
      exact h a (j - 1) x u (by omega) (by omega) (by omega) h4 hu
  · rw [if_neg eb, if_neg h3] at h5
    by_cases ea : a = j
    · rw [if_pos ea] at h4
      cases h4
      exact h (j - 1) b u y (by omega) h2 eb hu h5
    rw [if_neg ea] at h4
    by_cases ea2 : a = j - 1
    · rw [if_pos ea2] at h4
      cases h4
      exact h j b v y (by omega) h2 eb hv h5
    · rw [if_neg ea2] at h4
      exact h a b x y h1 h2 eb h4 h5
/-- A list that rises, by places. -/
theorem asc_snoc {l : List α} {x : α} (h : Asc key l) (hx : ∀ y ∈ l, strLt (key y) (key x) = true) : Asc key (l ++ [x]) := by
  unfold Asc
  rw [List.pairwise_append]
  exact ⟨h, by simp, fun a ha b hb => by rw [List.mem_singleton.1 hb]; exact hx a ha⟩
end
/-! ### Cells of a list of rows -/
section
variable {α : Type} {enc : α → List AV} {k : Nat}
theorem flatU_len (hu : ∀ a, (enc a).length = k) (l : List α) : (l.map enc).flatten.length = l.length * k := by
  rw [flatten_len (k := k) (fun c hc => by obtain ⟨a, -, rfl⟩ := List.mem_map.1 hc; exact hu a), List.length_map]
theorem flatU_get (hu : ∀ a, (enc a).length = k) : ∀ {l : List α} {j : Nat} {p : α}, l[j]? = some p → ((l.map enc).flatten.drop (j * k)).take k = enc p
  | [], j, p, h => by simp at h
  | x :: l, 0, p, h => by
    simp at h; subst h
    simp only [List.map_cons, List.flatten_cons, Nat.zero_mul, List.drop_zero]
    rw [List.take_append_of_le_length (by rw [hu]; exact Nat.le_refl _), List.take_of_length_le (by rw [hu]; exact Nat.le_refl _)]
  | x :: l, j + 1, p, h => by
    rw [List.map_cons, List.flatten_cons, Nat.succ_mul, Nat.add_comm, List.drop_append, hu, List.drop_of_length_le (by rw [hu]; omega), List.nil_append, Nat.add_sub_cancel_left]
    exact flatU_get hu (by simpa using h)
theorem flatU_set (hu : ∀ a, (enc a).length = k) : ∀ {l : List α} {j : Nat} (q : α), j < l.length → (l.map enc).flatten.take (j * k) ++ enc q ++ (l.map enc).flatten.drop (j * k + k) = ((l.set j q).map enc).flatten
  | [], j, q, h => by simp at h
  | x :: l, 0, q, h => by
    simp only [List.map_cons, List.flatten_cons, Nat.zero_mul, List.take_zero, List.nil_append, Nat.zero_add, List.set_cons_zero]
    rw [List.drop_append, hu, List.drop_of_length_le (by rw [hu]; omega), List.nil_append, Nat.sub_self, List.drop_zero]
  | x :: l, j + 1, q, h => by
    rw [List.map_cons, List.flatten_cons, List.set_cons_succ, List.map_cons, List.flatten_cons, ← flatU_set hu (l := l) (j := j) q (by simpa using h)]
    rw [List.take_append, hu, List.drop_append, hu, List.take_of_length_le (by rw [hu, Nat.succ_mul]; omega), List.drop_of_length_le (by rw [hu, Nat.succ_mul]; omega), List.nil_append]
    rw [show (j + 1) * k - k = j * k by rw [Nat.succ_mul]; omega, show (j + 1) * k + k - k = j * k + k by rw [Nat.succ_mul]; omega]
    simp only [List.append_assoc]
theorem flatU_write (hu : ∀ a, (enc a).length = k) {l : List α} {j : Nat} (q : α) (h : j < l.length) : writeC (l.map enc).flatten (j * k) (enc q) = ((l.set j q).map enc).flatten := by
  rw [← flatU_set hu q h]
  unfold writeC
  have hl := flatU_len hu l
  have hk := hu q
  have h2 : j * k + k ≤ l.length * k := by
    have := Nat.mul_le_mul_right k (show j + 1 ≤ l.length by omega)
    rw [Nat.succ_mul] at this; exact this
  split
  · rename_i v hv
    have hk2 := hk
    rw [hv] at hk2
    have hk1 : k = 1 := by simpa using hk2.symm
    subst hk1
    rw [List.set_eq_take_append_cons_drop, if_pos (by omega), hv]
    simp
  · rw [hk]
end
end Go.Proofs
