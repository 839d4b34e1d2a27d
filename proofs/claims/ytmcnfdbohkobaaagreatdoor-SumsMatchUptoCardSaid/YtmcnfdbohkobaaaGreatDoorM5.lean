/-
  Walks and plain laws, part 5.
-/
import Derived.Test.YtmcnfdbohkobaaaGreatDoorM4
import Derived.Test.YtmcnfdbohkobaaaGreatDoorM1
import Derived.Test.YtmcnfdbohkobaaaGreatDoorM2
/- Walks: the keys of a map, on the reference's side. -/
namespace Go.Proofs
open Go Go.Abs
set_option linter.unusedSimpArgs false
set_option linter.unusedVariables false
set_option maxRecDepth 20000
def listV (ks : List Bytes) (id : Nat) : AV := if ks = [] then .sl [] .exact else .ms id 0 ks.length 1
theorem listV_one (s : Bytes) (id : Nat) : listV [s] id = .ms id 0 1 1 := rfl
theorem listV_app (ks : List Bytes) (s : Bytes) (id : Nat) : listV (ks ++ [s]) id = .ms id 0 (ks.length + 1) 1 := by unfold listV; rw [if_neg (by simp)]; simp
theorem listV_ne {ks : List Bytes} (h : ks ≠ []) (id : Nat) : listV ks id = .ms id 0 ks.length 1 := by unfold listV; rw [if_neg h]
/-- A list of strings that is written by one. -/
def OwnS (H G : Heap) (id : Nat) (ks : List Bytes) : Prop := ks = [] ∨ (H id = none ∧ G id = some (.cells (ks.map .str)))
set_option maxHeartbeats 3200000 in
theorem keysFile_calls (m : Nat) (es : List (Key × AV)) (H : Heap) (hm : H m = some (.map .str es)) (hk : ∀ e ∈ es, ∃ s, e.1 = .s s) (hl : es.length ≤ 1099511627776) :
    ACalls Tryz.prog 92 [.map m] H fun x H' => ∃ ss : List Bytes, ss.Perm (es.map keyS) ∧ x = .sl ((ss.mergeSort fun x y => decide (x ≤ y)).map fun s => [AV.str s]) .unk ∧ H' = H := by
  refine ACalls.of_code (X := { pure := pu0, ms := fun t => decide (t = 14) }) pu0_ok Tryz.func92 (by kernel_rfl) rfl (by kernel_rfl) (Nat.le_of_ble_eq_true rfl) ?_
  simp -implicitDefEqProofs only [go_sem, Tryz.f92]
  refine range_intro ⟨_, _, by simp -implicitDefEqProofs only [go_sem]; rfl⟩ hm fun bs cl it hb hn _ hit => ?_
  have dm : ¬ m = it := fun e => by rw [e, hit] at hm; cases hm
  simp -implicitDefEqProofs only [go_sem]
  have g1 : ((H.put m (.bmap .str es bs cl)).put it (.iter (some m) cl [])) it = some (.iter (some m) cl []) := put_same _ _ _
  have g2 : ((H.put m (.bmap .str es bs cl)).put it (.iter (some m) cl [])) m = some (.bmap .str es bs cl) := by rw [put_ne _ _ _ _ dm, put_same]
  have g3 : ∀ i o, H i = some o → ¬ i = m → ((H.put m (.bmap .str es bs cl)).put it (.iter (some m) cl [])) i = some o := fun i o hi h => by
    rw [put_ne _ _ _ _ (obj_ne hi hit), put_ne _ _ _ _ h]; exact hi
  generalize (H.put m (.bmap .str es bs cl)).put it (.iter (some m) cl []) = G0 at *
  with_reducible refine aloop_cut 0 (fun r G => ∃ ks id, ks.Perm (es.map keyS) ∧ OwnS H G id ks ∧ ¬ id = m ∧ G m = some (.bmap .str es bs cl) ∧ (∀ i o, H i = some o → ¬ i = m → G i = some o) ∧ agrees r [(3, listV ks id)]) ?_ ?_
  rotate_left
  · refine aloop_intro (σ := List Nat × List Nat × List Bytes × Nat) (fun t => [(0, .map m), (3, listV t.2.2.1 t.2.2.2), (6, .ptr it 0)])
      (fun t G => SeenK es bs t.1 t.2.1 t.2.2.1 ∧ OwnS H G t.2.2.2 t.2.2.1 ∧ ¬ t.2.2.2 = m ∧ ¬ t.2.2.2 = it ∧ G it = some (.iter (some m) cl t.2.1) ∧ G m = some (.bmap .str es bs cl) ∧ (∀ i o, H i = some o → ¬ i = m → G i = some o)) (fun t => es.length - t.1.length) ([], [], [], it + m + 1) ?_ ?_ ?_
    · simp -implicitDefEqProofs only [go_sem]
      exact rfl
    · exact ⟨SeenK.nil _ _, .inl rfl, by simp only; omega, by simp only; omega, g1, g2, g3⟩
    clear g1 g2 g3
    rintro ⟨js, seen, ks, id⟩ r G hv ⟨hS, hO, nm, ni, g1, g2, g3⟩
    have h0 := hv.1
    have h3 := hv.2.1
    have h6 := hv.2.2.1
    clear hv
    simp only at h0 h3 h6 hS hO nm ni g1 g2
    simp -implicitDefEqProofs only [go_sem, h0, h3, h6]
    refine next_intro g1 g2 (fun j k v b hj hbj hsn => ?_) (fun ha => ?_)
    rotate_left
    · simp -implicitDefEqProofs only [go_sem, h0, h3, h6]
      exact ⟨ks, id, hS.all hb hn ha, hO, nm, g2, g3, by simp -implicitDefEqProofs only [go_sem, h3]⟩
    obtain ⟨s, rfl⟩ := hk _ (List.mem_of_getElem? hj)
    have hS2 := hS.step hj hbj hsn
    have hlen := hS2.len
    have g1' : (G.put it (.iter (some m) cl (seen ++ [b]))) it = some (.iter (some m) cl (seen ++ [b])) := put_same _ _ _
    have g2' : (G.put it (.iter (some m) cl (seen ++ [b]))) m = some (.bmap .str es bs cl) := by rw [put_ne _ _ _ _ dm]; exact g2
    have g3' : ∀ i o, H i = some o → ¬ i = m → (G.put it (.iter (some m) cl (seen ++ [b]))) i = some o := fun i o hi h => by
      rw [put_ne _ _ _ _ (obj_ne hi hit)]; exact g3 i o hi h
    have hO' : OwnS H (G.put it (.iter (some m) cl (seen ++ [b]))) id ks := hO.imp (fun h => h) fun h => ⟨h.1, by rw [put_ne _ _ _ _ ni]; exact h.2⟩
    generalize G.put it (.iter (some m) cl (seen ++ [b])) = G1 at *
    simp -implicitDefEqProofs only [go_sem, h0, h3, h6]
    refine here_intro g1' g2' hbj hj ?_
    have hkv : (Key.s s).av .str = .str s := rfl
    have hid' : ∀ id', G1 id' = none → H id' = none ∧ ¬ id' = m ∧ ¬ id' = it := fun id' h => by
      have e1 : ¬ id' = m := fun e => by rw [e, g2'] at h; cases h
      refine ⟨?_, e1, fun e => by rw [e, g1'] at h; cases h⟩
      cases hh : H id' with
      | none => rfl
      | some o => rw [g3' id' o hh e1] at h; cases h
    by_cases hks : ks = []
    · subst hks
      have h3' : r 3 = .sl [] .exact := h3
      simp -implicitDefEqProofs only [go_sem, h0, h3', h6, hkv]
      refine app_ms0 (by simp) (by simp) (by simp) fun id' hi => ?_
      obtain ⟨q1, q2, q3⟩ := hid' id' hi
      simp -implicitDefEqProofs only [go_sem, h0, h6]
      refine Again.mk (js ++ [j], seen ++ [b], [] ++ [keyS (.s s, v)], id') (by simp -implicitDefEqProofs only [go_sem, h0, h6, listV_one, keyS]) ⟨hS2, .inr ⟨q1, put_same _ _ _⟩, q2, q3, by rw [put_ne _ _ _ _ (fun e => q3 e.symm)]; exact g1', by rw [put_ne _ _ _ _ (fun e => q2 e.symm)]; exact g2', fun i o hi2 h => by rw [put_ne _ _ _ _ (fun e => by rw [e, q1] at hi2; cases hi2)]; exact g3' i o hi2 h⟩ (by simp only [List.length_append, List.length_cons, List.length_nil] at hlen ⊢; omega)
    · have hoo := hO'.resolve_left hks
      have h3' := h3
      rw [listV_ne hks] at h3'
      simp -implicitDefEqProofs only [go_sem, h0, h3', h6, hkv]
      refine app_ms hoo.2 (by simp) (by simp only [List.length_cons, List.length_nil] at hlen ⊢; simp at hlen ⊢; omega) (by simp at hlen ⊢; omega) fun id' hi => ?_
      obtain ⟨q1, q2, q3⟩ := hid' id' hi
      simp -implicitDefEqProofs only [go_sem, h0, h6]
      have hcell : (ks.map AV.str ++ [AV.str s]) = (ks ++ [keyS (.s s, v)]).map AV.str := by simp [keyS]
      refine Again.mk (js ++ [j], seen ++ [b], ks ++ [keyS (.s s, v)], id') (by simp -implicitDefEqProofs only [go_sem, h0, h6, listV_app, keyS]) ⟨hS2, .inr ⟨q1, by rw [put_same, ← hcell]; rfl⟩, q2, q3, by rw [put_ne _ _ _ _ (fun e => q3 e.symm), del_ne (fun e => ni e.symm)]; exact g1', by rw [put_ne _ _ _ _ (fun e => q2 e.symm), del_ne (fun e => nm e.symm)]; exact g2', fun i o hi2 h => by rw [put_ne _ _ _ _ (fun e => by rw [e, q1] at hi2; cases hi2), del_ne (fun e => by rw [e, hoo.1] at hi2; cases hi2)]; exact g3' i o hi2 h⟩ (by simp only [List.length_append, List.length_cons, List.length_nil] at hlen ⊢; omega)
  rintro r G ⟨ks, id, hp, hO, nm, g2, g3, hv⟩
  have h3 := hv.1
  clear hv
  have hlk : ks.length = es.length := by rw [hp.length_eq, List.length_map]
  have hsub : H.Sub (G.put m (.map .str es)) := fun k p hi => by
    by_cases e : k = m
    · subst e; rw [hm] at hi; cases hi; exact put_same _ _ _
    · rw [put_ne _ _ _ _ e]; exact g3 k p hi e
  by_cases hks : ks = []
  · subst hks
    have h3' : r 3 = .sl [] .exact := h3
    simp -implicitDefEqProofs only [go_sem, h3']
    refine (sortS0_calls G).pure_next _ ?_
    simp -implicitDefEqProofs only [go_sem, h3']
    exact Done.via (Ghost.unborn g2) (Done.wk 3 (Done.drop hsub ⟨[], hp, by simp; rfl, rfl⟩))
  · have hoo := hO.resolve_left hks
    rw [listV_ne hks] at h3
    simp -implicitDefEqProofs only [go_sem, h3]
    refine (sortS_calls ks id G hoo.2 hks (by omega)).pure_next2 ?_
    simp -implicitDefEqProofs only [go_sem, h3]
    have hlen : (ks.mergeSort fun x y => decide (x ≤ y)).length = ks.length := List.length_mergeSort ks
    refine Done.via (Ghost.freeze1 (off := 0) (len := ks.length) (put_same G id _) (by simp)) ?_
    have g2' : ((G.put id (.cells ((ks.mergeSort fun x y => decide (x ≤ y)).map .str))).del id) m = some (.bmap .str es bs cl) := by rw [del_ne (fun e => nm e.symm), put_ne _ _ _ _ (fun e => nm e.symm)]; exact g2
    refine Done.via (Ghost.unborn g2') (Done.drop (H' := H) (fun k p hi => ?_) ⟨ks, hp, ?_, rfl⟩)
    · by_cases e : k = m
      · subst e; rw [hm] at hi; cases hi; exact put_same _ _ _
      · have e2 : ¬ k = id := fun e2 => by rw [e2, hoo.1] at hi; cases hi
        rw [put_ne _ _ _ _ e, del_ne e2, put_ne _ _ _ _ e2]
        exact g3 k p hi e
    · rw [List.drop_zero, List.take_of_length_le (by simp), List.map_map]
      rfl
set_option maxHeartbeats 3200000 in
theorem keysStr_calls (m : Nat) (es : List (Key × AV)) (H : Heap) (hm : H m = some (.map .str es)) (hk : ∀ e ∈ es, ∃ s, e.1 = .s s) (hl : es.length ≤ 1099511627776) :
    ACalls Tryz.prog 93 [.map m] H fun x H' => ∃ ss : List Bytes, ss.Perm (es.map keyS) ∧ x = .sl ((ss.mergeSort fun x y => decide (x ≤ y)).map fun s => [AV.str s]) .unk ∧ H' = H := by
  refine ACalls.of_code (X := { pure := pu0, ms := fun t => decide (t = 14) }) pu0_ok Tryz.func93 (by kernel_rfl) rfl (by kernel_rfl) (Nat.le_of_ble_eq_true rfl) ?_
  simp -implicitDefEqProofs only [go_sem, Tryz.f93]
  refine range_intro ⟨_, _, by simp -implicitDefEqProofs only [go_sem]; rfl⟩ hm fun bs cl it hb hn _ hit => ?_
  have dm : ¬ m = it := fun e => by rw [e, hit] at hm; cases hm
  simp -implicitDefEqProofs only [go_sem]
  have g1 : ((H.put m (.bmap .str es bs cl)).put it (.iter (some m) cl [])) it = some (.iter (some m) cl []) := put_same _ _ _
  have g2 : ((H.put m (.bmap .str es bs cl)).put it (.iter (some m) cl [])) m = some (.bmap .str es bs cl) := by rw [put_ne _ _ _ _ dm, put_same]
  have g3 : ∀ i o, H i = some o → ¬ i = m → ((H.put m (.bmap .str es bs cl)).put it (.iter (some m) cl [])) i = some o := fun i o hi h => by
    rw [put_ne _ _ _ _ (obj_ne hi hit), put_ne _ _ _ _ h]; exact hi
  generalize (H.put m (.bmap .str es bs cl)).put it (.iter (some m) cl []) = G0 at *
  with_reducible refine aloop_cut 0 (fun r G => ∃ ks id, ks.Perm (es.map keyS) ∧ OwnS H G id ks ∧ ¬ id = m ∧ G m = some (.bmap .str es bs cl) ∧ (∀ i o, H i = some o → ¬ i = m → G i = some o) ∧ agrees r [(3, listV ks id)]) ?_ ?_
  rotate_left
  · refine aloop_intro (σ := List Nat × List Nat × List Bytes × Nat) (fun t => [(0, .map m), (3, listV t.2.2.1 t.2.2.2), (6, .ptr it 0)])
      (fun t G => SeenK es bs t.1 t.2.1 t.2.2.1 ∧ OwnS H G t.2.2.2 t.2.2.1 ∧ ¬ t.2.2.2 = m ∧ ¬ t.2.2.2 = it ∧ G it = some (.iter (some m) cl t.2.1) ∧ G m = some (.bmap .str es bs cl) ∧ (∀ i o, H i = some o → ¬ i = m → G i = some o)) (fun t => es.length - t.1.length) ([], [], [], it + m + 1) ?_ ?_ ?_
    · simp -implicitDefEqProofs only [go_sem]
      exact rfl
    · exact ⟨SeenK.nil _ _, .inl rfl, by simp only; omega, by simp only; omega, g1, g2, g3⟩
    clear g1 g2 g3
    rintro ⟨js, seen, ks, id⟩ r G hv ⟨hS, hO, nm, ni, g1, g2, g3⟩
    have h0 := hv.1
    have h3 := hv.2.1
    have h6 := hv.2.2.1
    clear hv
    simp only at h0 h3 h6 hS hO nm ni g1 g2
    simp -implicitDefEqProofs only [go_sem, h0, h3, h6]
    refine next_intro g1 g2 (fun j k v b hj hbj hsn => ?_) (fun ha => ?_)
    rotate_left
    · simp -implicitDefEqProofs only [go_sem, h0, h3, h6]
      exact ⟨ks, id, hS.all hb hn ha, hO, nm, g2, g3, by simp -implicitDefEqProofs only [go_sem, h3]⟩
    obtain ⟨s, rfl⟩ := hk _ (List.mem_of_getElem? hj)
    have hS2 := hS.step hj hbj hsn
    have hlen := hS2.len
    have g1' : (G.put it (.iter (some m) cl (seen ++ [b]))) it = some (.iter (some m) cl (seen ++ [b])) := put_same _ _ _
    have g2' : (G.put it (.iter (some m) cl (seen ++ [b]))) m = some (.bmap .str es bs cl) := by rw [put_ne _ _ _ _ dm]; exact g2
    have g3' : ∀ i o, H i = some o → ¬ i = m → (G.put it (.iter (some m) cl (seen ++ [b]))) i = some o := fun i o hi h => by
      rw [put_ne _ _ _ _ (obj_ne hi hit)]; exact g3 i o hi h
    have hO' : OwnS H (G.put it (.iter (some m) cl (seen ++ [b]))) id ks := hO.imp (fun h => h) fun h => ⟨h.1, by rw [put_ne _ _ _ _ ni]; exact h.2⟩
    generalize G.put it (.iter (some m) cl (seen ++ [b])) = G1 at *
    simp -implicitDefEqProofs only [go_sem, h0, h3, h6]
    refine here_intro g1' g2' hbj hj ?_
    have hkv : (Key.s s).av .str = .str s := rfl
    have hid' : ∀ id', G1 id' = none → H id' = none ∧ ¬ id' = m ∧ ¬ id' = it := fun id' h => by
      have e1 : ¬ id' = m := fun e => by rw [e, g2'] at h; cases h
      refine ⟨?_, e1, fun e => by rw [e, g1'] at h; cases h⟩
      cases hh : H id' with
      | none => rfl
      | some o => rw [g3' id' o hh e1] at h; cases h
    by_cases hks : ks = []
    · subst hks
      have h3' : r 3 = .sl [] .exact := h3
      simp -implicitDefEqProofs only [go_sem, h0, h3', h6, hkv]
      refine app_ms0 (by simp) (by simp) (by simp) fun id' hi => ?_
      obtain ⟨q1, q2, q3⟩ := hid' id' hi
      simp -implicitDefEqProofs only [go_sem, h0, h6]
      refine Again.mk (js ++ [j], seen ++ [b], [] ++ [keyS (.s s, v)], id') (by simp -implicitDefEqProofs only [go_sem, h0, h6, listV_one, keyS]) ⟨hS2, .inr ⟨q1, put_same _ _ _⟩, q2, q3, by rw [put_ne _ _ _ _ (fun e => q3 e.symm)]; exact g1', by rw [put_ne _ _ _ _ (fun e => q2 e.symm)]; exact g2', fun i o hi2 h => by rw [put_ne _ _ _ _ (fun e => by rw [e, q1] at hi2; cases hi2)]; exact g3' i o hi2 h⟩ (by simp only [List.length_append, List.length_cons, List.length_nil] at hlen ⊢; omega)
    · have hoo := hO'.resolve_left hks
      have h3' := h3
      rw [listV_ne hks] at h3'
      simp -implicitDefEqProofs only [go_sem, h0, h3', h6, hkv]
      refine app_ms hoo.2 (by simp) (by simp only [List.length_cons, List.length_nil] at hlen ⊢; simp at hlen ⊢; omega) (by simp at hlen ⊢; omega) fun id' hi => ?_
      obtain ⟨q1, q2, q3⟩ := hid' id' hi
      simp -implicitDefEqProofs only [go_sem, h0, h6]
      have hcell : (ks.map AV.str ++ [AV.str s]) = (ks ++ [keyS (.s s, v)]).map AV.str := by simp [keyS]
      refine Again.mk (js ++ [j], seen ++ [b], ks ++ [keyS (.s s, v)], id') (by simp -implicitDefEqProofs only [go_sem, h0, h6, listV_app, keyS]) ⟨hS2, .inr ⟨q1, by rw [put_same, ← hcell]; rfl⟩, q2, q3, by rw [put_ne _ _ _ _ (fun e => q3 e.symm), del_ne (fun e => ni e.symm)]; exact g1', by rw [put_ne _ _ _ _ (fun e => q2 e.symm), del_ne (fun e => nm e.symm)]; exact g2', fun i o hi2 h => by rw [put_ne _ _ _ _ (fun e => by rw [e, q1] at hi2; cases hi2), del_ne (fun e => by rw [e, hoo.1] at hi2; cases hi2)]; exact g3' i o hi2 h⟩ (by simp only [List.length_append, List.length_cons, List.length_nil] at hlen ⊢; omega)
  rintro r G ⟨ks, id, hp, hO, nm, g2, g3, hv⟩
  have h3 := hv.1
  clear hv
  have hlk : ks.length = es.length := by rw [hp.length_eq, List.length_map]
  have hsub : H.Sub (G.put m (.map .str es)) := fun k p hi => by
    by_cases e : k = m
    · subst e; rw [hm] at hi; cases hi; exact put_same _ _ _
    · rw [put_ne _ _ _ _ e]; exact g3 k p hi e
  by_cases hks : ks = []
  · subst hks
    have h3' : r 3 = .sl [] .exact := h3
    simp -implicitDefEqProofs only [go_sem, h3']
    refine (sortS0_calls G).pure_next _ ?_
    simp -implicitDefEqProofs only [go_sem, h3']
    exact Done.via (Ghost.unborn g2) (Done.wk 3 (Done.drop hsub ⟨[], hp, by simp; rfl, rfl⟩))
  · have hoo := hO.resolve_left hks
    rw [listV_ne hks] at h3
    simp -implicitDefEqProofs only [go_sem, h3]
    refine (sortS_calls ks id G hoo.2 hks (by omega)).pure_next2 ?_
    simp -implicitDefEqProofs only [go_sem, h3]
    have hlen : (ks.mergeSort fun x y => decide (x ≤ y)).length = ks.length := List.length_mergeSort ks
    refine Done.via (Ghost.freeze1 (off := 0) (len := ks.length) (put_same G id _) (by simp)) ?_
    have g2' : ((G.put id (.cells ((ks.mergeSort fun x y => decide (x ≤ y)).map .str))).del id) m = some (.bmap .str es bs cl) := by rw [del_ne (fun e => nm e.symm), put_ne _ _ _ _ (fun e => nm e.symm)]; exact g2
    refine Done.via (Ghost.unborn g2') (Done.drop (H' := H) (fun k p hi => ?_) ⟨ks, hp, ?_, rfl⟩)
    · by_cases e : k = m
      · subst e; rw [hm] at hi; cases hi; exact put_same _ _ _
      · have e2 : ¬ k = id := fun e2 => by rw [e2, hoo.1] at hi; cases hi
        rw [put_ne _ _ _ _ e, del_ne e2, put_ne _ _ _ _ e2]
        exact g3 k p hi e
    · rw [List.drop_zero, List.take_of_length_le (by simp), List.map_map]
      rfl
set_option maxHeartbeats 3200000 in
theorem keysSvc_calls (m : Nat) (es : List (Key × AV)) (H : Heap) (hm : H m = some (.map .str es)) (hk : ∀ e ∈ es, ∃ s, e.1 = .s s) (hl : es.length ≤ 1099511627776) :
    ACalls Tryz.prog 94 [.map m] H fun x H' => ∃ ss : List Bytes, ss.Perm (es.map keyS) ∧ x = .sl ((ss.mergeSort fun x y => decide (x ≤ y)).map fun s => [AV.str s]) .unk ∧ H' = H := by
  refine ACalls.of_code (X := { pure := pu0, ms := fun t => decide (t = 14) }) pu0_ok Tryz.func94 (by kernel_rfl) rfl (by kernel_rfl) (Nat.le_of_ble_eq_true rfl) ?_
  simp -implicitDefEqProofs only [go_sem, Tryz.f94]
  refine range_intro ⟨_, _, by simp -implicitDefEqProofs only [go_sem]; rfl⟩ hm fun bs cl it hb hn _ hit => ?_
  have dm : ¬ m = it := fun e => by rw [e, hit] at hm; cases hm
  simp -implicitDefEqProofs only [go_sem]
  have g1 : ((H.put m (.bmap .str es bs cl)).put it (.iter (some m) cl [])) it = some (.iter (some m) cl []) := put_same _ _ _
  have g2 : ((H.put m (.bmap .str es bs cl)).put it (.iter (some m) cl [])) m = some (.bmap .str es bs cl) := by rw [put_ne _ _ _ _ dm, put_same]
  have g3 : ∀ i o, H i = some o → ¬ i = m → ((H.put m (.bmap .str es bs cl)).put it (.iter (some m) cl [])) i = some o := fun i o hi h => by
    rw [put_ne _ _ _ _ (obj_ne hi hit), put_ne _ _ _ _ h]; exact hi
  generalize (H.put m (.bmap .str es bs cl)).put it (.iter (some m) cl []) = G0 at *
  with_reducible refine aloop_cut 0 (fun r G => ∃ ks id, ks.Perm (es.map keyS) ∧ OwnS H G id ks ∧ ¬ id = m ∧ G m = some (.bmap .str es bs cl) ∧ (∀ i o, H i = some o → ¬ i = m → G i = some o) ∧ agrees r [(3, listV ks id)]) ?_ ?_
  rotate_left
  · refine aloop_intro (σ := List Nat × List Nat × List Bytes × Nat) (fun t => [(0, .map m), (3, listV t.2.2.1 t.2.2.2), (6, .ptr it 0)])
      (fun t G => SeenK es bs t.1 t.2.1 t.2.2.1 ∧ OwnS H G t.2.2.2 t.2.2.1 ∧ ¬ t.2.2.2 = m ∧ ¬ t.2.2.2 = it ∧ G it = some (.iter (some m) cl t.2.1) ∧ G m = some (.bmap .str es bs cl) ∧ (∀ i o, H i = some o → ¬ i = m → G i = some o)) (fun t => es.length - t.1.length) ([], [], [], it + m + 1) ?_ ?_ ?_
    · simp -implicitDefEqProofs only [go_sem]
      exact rfl
    · exact ⟨SeenK.nil _ _, .inl rfl, by simp only; omega, by simp only; omega, g1, g2, g3⟩
    clear g1 g2 g3
    rintro ⟨js, seen, ks, id⟩ r G hv ⟨hS, hO, nm, ni, g1, g2, g3⟩
    have h0 := hv.1
    have h3 := hv.2.1
    have h6 := hv.2.2.1
    clear hv
    simp only at h0 h3 h6 hS hO nm ni g1 g2
    simp -implicitDefEqProofs only [go_sem, h0, h3, h6]
    refine next_intro g1 g2 (fun j k v b hj hbj hsn => ?_) (fun ha => ?_)
    rotate_left
    · simp -implicitDefEqProofs only [go_sem, h0, h3, h6]
      exact ⟨ks, id, hS.all hb hn ha, hO, nm, g2, g3, by simp -implicitDefEqProofs only [go_sem, h3]⟩
    obtain ⟨s, rfl⟩ := hk _ (List.mem_of_getElem? hj)
    have hS2 := hS.step hj hbj hsn
    have hlen := hS2.len
    have g1' : (G.put it (.iter (some m) cl (seen ++ [b]))) it = some (.iter (some m) cl (seen ++ [b])) := put_same _ _ _
    have g2' : (G.put it (.iter (some m) cl (seen ++ [b]))) m = some (.bmap .str es bs cl) := by rw [put_ne _ _ _ _ dm]; exact g2
    have g3' : ∀ i o, H i = some o → ¬ i = m → (G.put it (.iter (some m) cl (seen ++ [b]))) i = some o := fun i o hi h => by
      rw [put_ne _ _ _ _ (obj_ne hi hit)]; exact g3 i o hi h
    have hO' : OwnS H (G.put it (.iter (some m) cl (seen ++ [b]))) id ks := hO.imp (fun h => h) fun h => ⟨h.1, by rw [put_ne _ _ _ _ ni]; exact h.2⟩
    generalize G.put it (.iter (some m) cl (seen ++ [b])) = G1 at *
    simp -implicitDefEqProofs only [go_sem, h0, h3, h6]
    refine here_intro g1' g2' hbj hj ?_
    have hkv : (Key.s s).av .str = .str s := rfl
    have hid' : ∀ id', G1 id' = none → H id' = none ∧ ¬ id' = m ∧ ¬ id' = it := fun id' h => by
      have e1 : ¬ id' = m := fun e => by rw [e, g2'] at h; cases h
      refine ⟨?_, e1, fun e => by rw [e, g1'] at h; cases h⟩
      cases hh : H id' with
      | none => rfl
      | some o => rw [g3' id' o hh e1] at h; cases h
    by_cases hks : ks = []
    · subst hks
      have h3' : r 3 = .sl [] .exact := h3
      simp -implicitDefEqProofs only [go_sem, h0, h3', h6, hkv]
      refine app_ms0 (by simp) (by simp) (by simp) fun id' hi => ?_
      obtain ⟨q1, q2, q3⟩ := hid' id' hi
      simp -implicitDefEqProofs only [go_sem, h0, h6]
      refine Again.mk (js ++ [j], seen ++ [b], [] ++ [keyS (.s s, v)], id') (by simp -implicitDefEqProofs only [go_sem, h0, h6, listV_one, keyS]) ⟨hS2, .inr ⟨q1, put_same _ _ _⟩, q2, q3, by rw [put_ne _ _ _ _ (fun e => q3 e.symm)]; exact g1', by rw [put_ne _ _ _ _ (fun e => q2 e.symm)]; exact g2', fun i o hi2 h => by rw [put_ne _ _ _ _ (fun e => by rw [e, q1] at hi2; cases hi2)]; exact g3' i o hi2 h⟩ (by simp only [List.length_append, List.length_cons, List.length_nil] at hlen ⊢; omega)
    · have hoo := hO'.resolve_left hks
      have h3' := h3
      rw [listV_ne hks] at h3'
      simp -implicitDefEqProofs only [go_sem, h0, h3', h6, hkv]
      refine app_ms hoo.2 (by simp) (by simp only [List.length_cons, List.length_nil] at hlen ⊢; simp at hlen ⊢; omega) (by simp at hlen ⊢; omega) fun id' hi => ?_
      obtain ⟨q1, q2, q3⟩ := hid' id' hi
      simp -implicitDefEqProofs only [go_sem, h0, h6]
      have hcell : (ks.map AV.str ++ [AV.str s]) = (ks ++ [keyS (.s s, v)]).map AV.str := by simp [keyS]
      refine Again.mk (js ++ [j], seen ++ [b], ks ++ [keyS (.s s, v)], id') (by simp -implicitDefEqProofs only [go_sem, h0, h6, listV_app, keyS]) ⟨hS2, .inr ⟨q1, by rw [put_same, ← hcell]; rfl⟩, q2, q3, by rw [put_ne _ _ _ _ (fun e => q3 e.symm), del_ne (fun e => ni e.symm)]; exact g1', by rw [put_ne _ _ _ _ (fun e => q2 e.symm), del_ne (fun e => nm e.symm)]; exact g2', fun i o hi2 h => by rw [put_ne _ _ _ _ (fun e => by rw [e, q1] at hi2; cases hi2), del_ne (fun e => by rw [e, hoo.1] at hi2; cases hi2)]; exact g3' i o hi2 h⟩ (by simp only [List.length_append, List.length_cons, List.length_nil] at hlen ⊢; omega)
  rintro r G ⟨ks, id, hp, hO, nm, g2, g3, hv⟩
  have h3 := hv.1
  clear hv
  have hlk : ks.length = es.length := by rw [hp.length_eq, List.length_map]
  have hsub : H.Sub (G.put m (.map .str es)) := fun k p hi => by
    by_cases e : k = m
    · subst e; rw [hm] at hi; cases hi; exact put_same _ _ _
    · rw [put_ne _ _ _ _ e]; exact g3 k p hi e
  by_cases hks : ks = []
  · subst hks
    have h3' : r 3 = .sl [] .exact := h3
    simp -implicitDefEqProofs only [go_sem, h3']
    refine (sortS0_calls G).pure_next _ ?_
    simp -implicitDefEqProofs only [go_sem, h3']
    exact Done.via (Ghost.unborn g2) (Done.wk 3 (Done.drop hsub ⟨[], hp, by simp; rfl, rfl⟩))
  · have hoo := hO.resolve_left hks
    rw [listV_ne hks] at h3
    simp -implicitDefEqProofs only [go_sem, h3]
    refine (sortS_calls ks id G hoo.2 hks (by omega)).pure_next2 ?_
    simp -implicitDefEqProofs only [go_sem, h3]
    have hlen : (ks.mergeSort fun x y => decide (x ≤ y)).length = ks.length := List.length_mergeSort ks
    refine Done.via (Ghost.freeze1 (off := 0) (len := ks.length) (put_same G id _) (by simp)) ?_
    have g2' : ((G.put id (.cells ((ks.mergeSort fun x y => decide (x ≤ y)).map .str))).del id) m = some (.bmap .str es bs cl) := by rw [del_ne (fun e => nm e.symm), put_ne _ _ _ _ (fun e => nm e.symm)]; exact g2
    refine Done.via (Ghost.unborn g2') (Done.drop (H' := H) (fun k p hi => ?_) ⟨ks, hp, ?_, rfl⟩)
    · by_cases e : k = m
      · subst e; rw [hm] at hi; cases hi; exact put_same _ _ _
      · have e2 : ¬ k = id := fun e2 => by rw [e2, hoo.1] at hi; cases hi
        rw [put_ne _ _ _ _ e, del_ne e2, put_ne _ _ _ _ e2]
        exact g3 k p hi e
    · rw [List.drop_zero, List.take_of_length_le (by simp), List.map_map]
      rfl
end Go.Proofs

/- Walks: a machine as maps, on the reference's side. -/
namespace Go.Proofs
open Go Go.Abs
set_option linter.unusedSimpArgs false
set_option linter.unusedVariables false
set_option maxRecDepth 20000
/-- The reference's machine of maps. -/
structure RW (H G : Heap) (iw i1 i2 i3 : Nat) (fs : List (List AV)) (ta : Tail) (lf : List FileV) (ls : List SetV) (lv : List SvcV) : Prop where
  sub : H.Sub G
  nw : H iw = none
  n1 : H i1 = none
  n2 : H i2 = none
  n3 : H i3 = none
  d : ¬ i1 = iw ∧ ¬ i2 = iw ∧ ¬ i3 = iw ∧ ¬ i1 = i2 ∧ ¬ i1 = i3 ∧ ¬ i2 = i3
  w : G iw = some (.cells [.sl fs ta, .map i1, .map i2, .map i3])
  f : ∃ es, G i1 = some (.map .str es) ∧ MapOf (·.path) (fun x => .agg (encFile x)) es lf
  s : ∃ es, G i2 = some (.map .str es) ∧ MapOf (·.key) (fun x => .str x.value) es ls
  v : ∃ es, G i3 = some (.map .str es) ∧ MapOf (·.name) (fun x => .agg (encSvc x)) es lv
theorem _root_.Go.Abs.Heap.Sub.ne {H G : Heap} (h : H.Sub G) {i j : Nat} {o : AObj} (hi : H i = none) (hj : H j = some o) : ¬ j = i := fun e => by rw [e, hi] at hj; cases hj
theorem RW.put {H G : Heap} {iw i1 i2 i3 : Nat} {fs : List (List AV)} {ta : Tail} {lf : List FileV} {ls : List SetV} {lv : List SvcV} (h : RW H G iw i1 i2 i3 fs ta lf ls lv) {id : Nat} (hid : G id = none) (o : AObj) : RW H (G.put id o) iw i1 i2 i3 fs ta lf ls lv := by
  obtain ⟨a, b, c, d, e, f, g, ⟨e1, h1, k1⟩, ⟨e2, h2, k2⟩, ⟨e3, h3, k3⟩⟩ := h
  exact ⟨a.put' (sub_none a hid) _, b, c, d, e, f, by rw [put_ne _ _ _ _ (obj_ne g hid)]; exact g, ⟨e1, by rw [put_ne _ _ _ _ (obj_ne h1 hid)]; exact h1, k1⟩, ⟨e2, by rw [put_ne _ _ _ _ (obj_ne h2 hid)]; exact h2, k2⟩, ⟨e3, by rw [put_ne _ _ _ _ (obj_ne h3 hid)]; exact h3, k3⟩⟩
theorem RW.setF {H G : Heap} {iw i1 i2 i3 : Nat} {fs : List (List AV)} {ta : Tail} {lf lf' : List FileV} {ls : List SetV} {lv : List SvcV} (h : RW H G iw i1 i2 i3 fs ta lf ls lv) {es : List (Key × AV)} (hes : MapOf (·.path) (fun x => .agg (encFile x)) es lf') : RW H (G.put i1 (.map .str es)) iw i1 i2 i3 fs ta lf' ls lv := by
  obtain ⟨a, b, c, d, e, f, g, -, ⟨e2, h2, k2⟩, ⟨e3, h3, k3⟩⟩ := h
  exact ⟨a.put' c _, b, c, d, e, f, by rw [put_ne _ _ _ _ (fun e => f.1 e.symm)]; exact g, ⟨es, put_same _ _ _, hes⟩, ⟨e2, by rw [put_ne _ _ _ _ (fun e => f.2.2.2.1 e.symm)]; exact h2, k2⟩, ⟨e3, by rw [put_ne _ _ _ _ (fun e => f.2.2.2.2.1 e.symm)]; exact h3, k3⟩⟩
theorem RW.setS {H G : Heap} {iw i1 i2 i3 : Nat} {fs : List (List AV)} {ta : Tail} {lf : List FileV} {ls : List SetV} {lv : List SvcV} {ls' : List SetV} (h : RW H G iw i1 i2 i3 fs ta lf ls lv) {es : List (Key × AV)} (hes : MapOf (·.key) (fun x => .str x.value) es ls') : RW H (G.put i2 (.map .str es)) iw i1 i2 i3 fs ta lf ls' lv := by
  obtain ⟨a, b, c, d, e, f, g, ⟨e1, h1, k1⟩, -, ⟨e3, h3, k3⟩⟩ := h
  exact ⟨a.put' d _, b, c, d, e, f, by rw [put_ne _ _ _ _ (fun e => f.2.1 e.symm)]; exact g, ⟨e1, by rw [put_ne _ _ _ _ f.2.2.2.1]; exact h1, k1⟩, ⟨es, put_same _ _ _, hes⟩, ⟨e3, by rw [put_ne _ _ _ _ (fun e => f.2.2.2.2.2 e.symm)]; exact h3, k3⟩⟩
theorem RW.setV {H G : Heap} {iw i1 i2 i3 : Nat} {fs : List (List AV)} {ta : Tail} {lf : List FileV} {ls : List SetV} {lv : List SvcV} {lv' : List SvcV} (h : RW H G iw i1 i2 i3 fs ta lf ls lv) {es : List (Key × AV)} (hes : MapOf (·.name) (fun x => .agg (encSvc x)) es lv') : RW H (G.put i3 (.map .str es)) iw i1 i2 i3 fs ta lf ls lv' := by
  obtain ⟨a, b, c, d, e, f, g, ⟨e1, h1, k1⟩, ⟨e2, h2, k2⟩, -⟩ := h
  exact ⟨a.put' e _, b, c, d, e, f, by rw [put_ne _ _ _ _ (fun e => f.2.2.1 e.symm)]; exact g, ⟨e1, by rw [put_ne _ _ _ _ f.2.2.2.2.1]; exact h1, k1⟩, ⟨e2, by rw [put_ne _ _ _ _ f.2.2.2.2.2]; exact h2, k2⟩, ⟨es, put_same _ _ _, hes⟩⟩
/-- Behind a loop of worldOf. -/
def WorldQ (H : Heap) (iw i1 i2 i3 im : Nat) (fs : List (List AV)) (ta : Tail) (lf : List FileV) (ls : List SetV) (lv : List SvcV) (cs : List AV) (r : Regs) (G : Heap) : Prop :=
  RW H G iw i1 i2 i3 fs ta lf ls lv ∧ G im = some (.cells cs) ∧ r 1 = .ptr im 0 ∧ r 3 = .ptr iw 0
set_option maxHeartbeats 3200000 in
theorem worldOf_calls (m : MacV) (ta tb tc td : Tail) (H : Heap) (hr : macR m) (h1 : Asc (·.path) m.files) (h2 : Asc (·.key) m.sets) (h3 : Asc (·.name) m.svcs) :
    ACalls Tryz.prog 56 [.agg (encMac m ta tb tc td)] H fun x H' => ∃ iw i1 i2 i3, x = .ptr iw 0 ∧ RW H H' iw i1 i2 i3 (m.facts.map encSet) ta m.files m.sets m.svcs := by
  obtain ⟨⟨l1, l2, l3, l4⟩, r1, r2, r3, r4⟩ := hr
  refine ACalls.of_code (X := { pure := pu0 }) pu0_ok Tryz.func56 (by kernel_rfl) rfl (by kernel_rfl) (Nat.le_of_ble_eq_true rfl) ?_
  simp -implicitDefEqProofs only [go_sem, Tryz.f56, encMac]
  have hS := Heap.Sub.rfl' H
  with_reducible refine nwC_intro fun im him => ?_
  generalize Em : Heap.put H im _ = G1
  have hO_m := obj_new Em him hS
  have nm := hO_m.1
  have hS := hO_m.2.1
  have gm := hO_m.2.2.1
  clear hO_m
  simp -implicitDefEqProofs only [go_sem, gm]
  with_reducible refine nwM_intro fun i1 hi1 => ?_
  generalize E1 : Heap.put G1 i1 _ = G2
  have hO_1 := obj_new E1 hi1 hS
  have n1 := hO_1.1
  have hS := hO_1.2.1
  have g1 := hO_1.2.2.1
  have dm_1 := obj_ne gm hi1
  have gm := hO_1.2.2.2 _ _ gm
  clear hO_1
  simp -implicitDefEqProofs only [go_sem]
  with_reducible refine nwM_intro fun i2 hi2 => ?_
  generalize E2 : Heap.put G2 i2 _ = G3
  have hO_2 := obj_new E2 hi2 hS
  have n2 := hO_2.1
  have hS := hO_2.2.1
  have g2 := hO_2.2.2.1
  have dm_2 := obj_ne gm hi2
  have gm := hO_2.2.2.2 _ _ gm
  have d1_2 := obj_ne g1 hi2
  have g1 := hO_2.2.2.2 _ _ g1
  clear hO_2
  simp -implicitDefEqProofs only [go_sem]
  with_reducible refine nwM_intro fun i3 hi3 => ?_
  generalize E3 : Heap.put G3 i3 _ = G4
  have hO_3 := obj_new E3 hi3 hS
  have n3 := hO_3.1
  have hS := hO_3.2.1
  have g3 := hO_3.2.2.1
  have dm_3 := obj_ne gm hi3
  have gm := hO_3.2.2.2 _ _ gm
  have d1_3 := obj_ne g1 hi3
  have g1 := hO_3.2.2.2 _ _ g1
  have d2_3 := obj_ne g2 hi3
  have g2 := hO_3.2.2.2 _ _ g2
  clear hO_3
  simp -implicitDefEqProofs only [go_sem]
  with_reducible refine nwC_intro fun iw hiw => ?_
  generalize Ew : Heap.put G4 iw _ = G5
  have hO_w := obj_new Ew hiw hS
  have nw := hO_w.1
  have hS := hO_w.2.1
  have gw := hO_w.2.2.1
  have dm_w := obj_ne gm hiw
  have gm := hO_w.2.2.2 _ _ gm
  have d1_w := obj_ne g1 hiw
  have g1 := hO_w.2.2.2 _ _ g1
  have d2_w := obj_ne g2 hiw
  have g2 := hO_w.2.2.2 _ _ g2
  have d3_w := obj_ne g3 hiw
  have g3 := hO_w.2.2.2 _ _ g3
  clear hO_w
  have hRW : RW H G5 iw i1 i2 i3 (m.facts.map encSet) ta [] [] [] :=
    ⟨hS, nw, n1, n2, n3, ⟨d1_w, d2_w, d3_w, d1_2, d1_3, d2_3⟩, gw, ⟨[], g1, MapOf.nil⟩, ⟨[], g2, MapOf.nil⟩, ⟨[], g3, MapOf.nil⟩⟩
  clear g1 g2 g3 gw hS E1 E2 E3 Em Ew
  have nmH : H im = none := him
  simp -implicitDefEqProofs only [go_sem, gm]
  with_reducible refine aloop_cut 0 (WorldQ H iw i1 i2 i3 im (m.facts.map encSet) ta m.files [] [] (encMac m ta tb tc td)) ?_ ?_
  rotate_left
  · refine aloop_intro (σ := Nat) (fun i => [(1, .ptr im 0), (3, .ptr iw 0), (18, .sl (m.files.map encFile) tb), (19, .int .i64 m.files.length), (20, .int .i64 i)])
      (fun i G => i ≤ m.files.length ∧ RW H G iw i1 i2 i3 (m.facts.map encSet) ta (m.files.take i) [] [] ∧ G im = some (.cells (encMac m ta tb tc td))) (fun i => m.files.length - i) 0 ?_ ?_ ?_
    · simp -implicitDefEqProofs only [go_sem]
    · exact ⟨Nat.zero_le _, hRW, gm⟩
    clear hRW
    rintro i r G hv ⟨hi, hR, gm⟩
    have e1 := hv.1
    have e3 := hv.2.1
    have ea := hv.2.2.1
    have eb := hv.2.2.2.1
    have ec := hv.2.2.2.2.1
    clear hv
    by_cases g : i < m.files.length
    rotate_left
    · have y0 : decide ((i : Int) < m.files.length) = false := decide_eq_false (by omega)
      obtain rfl : i = m.files.length := by omega
      rw [List.take_length] at hR
      simp -implicitDefEqProofs only [go_sem, e1, e3, ea, eb, ec, y0]
      exact ⟨hR, gm, by simp -implicitDefEqProofs only [go_sem, e1], by simp -implicitDefEqProofs only [go_sem, e3]⟩
    have y0 : decide ((i : Int) < m.files.length) = true := decide_eq_true (by omega)
    obtain ⟨x, hx⟩ : ∃ x, m.files[i]? = some x := getD_get' g
    have ws : IntKind.i64.wrap ((i : Int) + 1) = ((i + 1 : Nat) : Int) := by rw [Go.IntWalk.i64_in _ (by omega)]; omega
    have hU : ∀ (a : FileV), a ∈ m.files → (encFile a).length = 3 := fun _ _ => rfl
    have hput := putK_take h1 hx
    obtain ⟨p, d, ru⟩ := x
    simp -implicitDefEqProofs only [go_sem, e1, e3, ea, eb, ec, y0, hx]
    refine ⟨hU, Nat.le_refl _, ?_⟩
    simp only [encFile, List.take_succ_cons, List.take_zero, List.take_nil]
    with_reducible refine nwC_intro fun i5 hi5 => ?_
    simp -implicitDefEqProofs only [go_sem]
    have hR2 := hR.put hi5 (.cells [.str p, .str d, .bool ru])
    have gm2 : (G.put i5 (.cells [.str p, .str d, .bool ru])) im = some (.cells (encMac m ta tb tc td)) := by rw [put_ne _ _ _ _ (obj_ne gm hi5)]; exact gm
    have g5 := put_same G i5 (.cells [.str p, .str d, .bool ru])
    generalize G.put i5 (.cells [.str p, .str d, .bool ru]) = G6 at *
    obtain ⟨es, k1, k2⟩ := hR2.f
    have kw := hR2.w
    simp -implicitDefEqProofs only [go_sem, e1, e3, ea, eb, ec, g5, kw, k1, ws]
    exact Again.mk (i + 1) (by simp -implicitDefEqProofs only [go_sem, e1, e3, ea, eb]) ⟨by omega, by rw [← hput]; exact hR2.setF (k2.set ⟨p, d, ru⟩), by rw [put_ne _ _ _ _ dm_1]; exact gm2⟩ (by omega)
  clear hRW gm
  rintro r G ⟨hRW, gm, e1, e3⟩
  simp -implicitDefEqProofs only [go_sem, e1, e3, gm, encMac]
  with_reducible refine aloop_cut 2 (WorldQ H iw i1 i2 i3 im (m.facts.map encSet) ta m.files m.sets [] (encMac m ta tb tc td)) ?_ ?_
  rotate_left
  · refine aloop_intro (σ := Nat) (fun i => [(1, .ptr im 0), (3, .ptr iw 0), (33, .sl (m.sets.map encSet) tc), (34, .int .i64 m.sets.length), (35, .int .i64 i)])
      (fun i G => i ≤ m.sets.length ∧ RW H G iw i1 i2 i3 (m.facts.map encSet) ta m.files (m.sets.take i) [] ∧ G im = some (.cells (encMac m ta tb tc td))) (fun i => m.sets.length - i) 0 ?_ ?_ ?_
    · simp -implicitDefEqProofs only [go_sem, e1, e3]
    · exact ⟨Nat.zero_le _, hRW, gm⟩
    clear hRW e1 e3
    rintro i r G hv ⟨hi, hR, gm⟩
    have e1 := hv.1
    have e3 := hv.2.1
    have ea := hv.2.2.1
    have eb := hv.2.2.2.1
    have ec := hv.2.2.2.2.1
    clear hv
    by_cases g : i < m.sets.length
    rotate_left
    · have y0 : decide ((i : Int) < m.sets.length) = false := decide_eq_false (by omega)
      obtain rfl : i = m.sets.length := by omega
      rw [List.take_length] at hR
      simp -implicitDefEqProofs only [go_sem, e1, e3, ea, eb, ec, y0]
      exact ⟨hR, gm, by simp -implicitDefEqProofs only [go_sem, e1], by simp -implicitDefEqProofs only [go_sem, e3]⟩
    have y0 : decide ((i : Int) < m.sets.length) = true := decide_eq_true (by omega)
    obtain ⟨x, hx⟩ : ∃ x, m.sets[i]? = some x := getD_get' g
    have ws : IntKind.i64.wrap ((i : Int) + 1) = ((i + 1 : Nat) : Int) := by rw [Go.IntWalk.i64_in _ (by omega)]; omega
    have hU : ∀ (a : SetV), a ∈ m.sets → (encSet a).length = 2 := fun _ _ => rfl
    have hput := putK_take h2 hx
    obtain ⟨p, d⟩ := x
    simp -implicitDefEqProofs only [go_sem, e1, e3, ea, eb, ec, y0, hx]
    refine ⟨hU, Nat.le_refl _, ?_⟩
    simp only [encSet, List.take_succ_cons, List.take_zero, List.take_nil]
    with_reducible refine nwC_intro fun i5 hi5 => ?_
    simp -implicitDefEqProofs only [go_sem]
    have hR2 := hR.put hi5 (.cells [.str p, .str d])
    have gm2 : (G.put i5 (.cells [.str p, .str d])) im = some (.cells (encMac m ta tb tc td)) := by rw [put_ne _ _ _ _ (obj_ne gm hi5)]; exact gm
    have g5 := put_same G i5 (.cells [.str p, .str d])
    generalize G.put i5 (.cells [.str p, .str d]) = G6 at *
    obtain ⟨es, k1, k2⟩ := hR2.s
    have kw := hR2.w
    simp -implicitDefEqProofs only [go_sem, e1, e3, ea, eb, ec, g5, kw, k1, ws]
    exact Again.mk (i + 1) (by simp -implicitDefEqProofs only [go_sem, e1, e3, ea, eb]) ⟨by omega, by rw [← hput]; exact hR2.setS (k2.set ⟨p, d⟩), by rw [put_ne _ _ _ _ dm_2]; exact gm2⟩ (by omega)
  clear hRW gm e1 e3
  rintro r G ⟨hRW, gm, e1, e3⟩
  simp -implicitDefEqProofs only [go_sem, e1, e3, gm, encMac]
  with_reducible refine aloop_cut 4 (WorldQ H iw i1 i2 i3 im (m.facts.map encSet) ta m.files m.sets m.svcs (encMac m ta tb tc td)) ?_ ?_
  rotate_left
  · refine aloop_intro (σ := Nat) (fun i => [(1, .ptr im 0), (3, .ptr iw 0), (49, .sl (m.svcs.map encSvc) td), (50, .int .i64 m.svcs.length), (51, .int .i64 i)])
      (fun i G => i ≤ m.svcs.length ∧ RW H G iw i1 i2 i3 (m.facts.map encSet) ta m.files m.sets (m.svcs.take i) ∧ G im = some (.cells (encMac m ta tb tc td))) (fun i => m.svcs.length - i) 0 ?_ ?_ ?_
    · simp -implicitDefEqProofs only [go_sem, e1, e3]
    · exact ⟨Nat.zero_le _, hRW, gm⟩
    clear hRW e1 e3
    rintro i r G hv ⟨hi, hR, gm⟩
    have e1 := hv.1
    have e3 := hv.2.1
    have ea := hv.2.2.1
    have eb := hv.2.2.2.1
    have ec := hv.2.2.2.2.1
    clear hv
    by_cases g : i < m.svcs.length
    rotate_left
    · have y0 : decide ((i : Int) < m.svcs.length) = false := decide_eq_false (by omega)
      obtain rfl : i = m.svcs.length := by omega
      rw [List.take_length] at hR
      simp -implicitDefEqProofs only [go_sem, e1, e3, ea, eb, ec, y0]
      exact ⟨hR, gm, by simp -implicitDefEqProofs only [go_sem, e1], by simp -implicitDefEqProofs only [go_sem, e3]⟩
    have y0 : decide ((i : Int) < m.svcs.length) = true := decide_eq_true (by omega)
    obtain ⟨x, hx⟩ : ∃ x, m.svcs[i]? = some x := getD_get' g
    have ws : IntKind.i64.wrap ((i : Int) + 1) = ((i + 1 : Nat) : Int) := by rw [Go.IntWalk.i64_in _ (by omega)]; omega
    have hU : ∀ (a : SvcV), a ∈ m.svcs → (encSvc a).length = 4 := fun _ _ => rfl
    have hput := putK_take h3 hx
    obtain ⟨p, d, au, on⟩ := x
    simp -implicitDefEqProofs only [go_sem, e1, e3, ea, eb, ec, y0, hx]
    refine ⟨hU, Nat.le_refl _, ?_⟩
    simp only [encSvc, List.take_succ_cons, List.take_zero, List.take_nil]
    with_reducible refine nwC_intro fun i5 hi5 => ?_
    simp -implicitDefEqProofs only [go_sem]
    have hR2 := hR.put hi5 (.cells [.str p, .str d, .bool au, .bool on])
    have gm2 : (G.put i5 (.cells [.str p, .str d, .bool au, .bool on])) im = some (.cells (encMac m ta tb tc td)) := by rw [put_ne _ _ _ _ (obj_ne gm hi5)]; exact gm
    have g5 := put_same G i5 (.cells [.str p, .str d, .bool au, .bool on])
    generalize G.put i5 (.cells [.str p, .str d, .bool au, .bool on]) = G6 at *
    obtain ⟨es, k1, k2⟩ := hR2.v
    have kw := hR2.w
    simp -implicitDefEqProofs only [go_sem, e1, e3, ea, eb, ec, g5, kw, k1, ws]
    exact Again.mk (i + 1) (by simp -implicitDefEqProofs only [go_sem, e1, e3, ea, eb]) ⟨by omega, by rw [← hput]; exact hR2.setV (k2.set ⟨p, d, au, on⟩), by rw [put_ne _ _ _ _ dm_3]; exact gm2⟩ (by omega)
  clear hRW gm e1 e3
  rintro r G ⟨hRW, gm, e1, e3⟩
  simp -implicitDefEqProofs only [go_sem, e1, e3, gm, encMac]
  refine Done.now ⟨iw, i1, i2, i3, rfl, hRW⟩
end Go.Proofs

/- Walks: a machine of maps becomes a machine again, on the reference's side. -/
namespace Go.Proofs
open Go Go.Abs
set_option linter.unusedSimpArgs false
set_option linter.unusedVariables false
set_option maxRecDepth 20000
theorem aNil_sl (es : List (List AV)) (t : Tail) (neg : Bool) (H : Heap) (K : K1) : aNil (.sl es t) neg H K = ((es.flatten = [] → K (.bool (!neg)) H) ∧ K (.bool neg) H) := rfl
theorem flat_nil {α : Type} {enc : α → List AV} (he : ∀ a, enc a ≠ []) {l : List α} (h : (l.map enc).flatten = []) : l = [] := by
  cases l with
  | nil => rfl
  | cons a l => rw [List.map_cons, List.flatten_cons, List.append_eq_nil_iff] at h; exact absurd h.1 (he a)
theorem AppOK.clone {et : Option TypeId} {e : TI} {G : Heap} {new : List (List AV)} {K : K1} (hb : new.length * e.bytes ≤ 140737488355328) (hc : new.length ≤ 4611686018427387904) (hK : ∀ tl G', AppOK G G' e.size new tl → K (.sl new tl) G') : appK et false e (.sl [] .exact) new G K := by
  by_cases hn : new = []
  · subst hn
    exact ⟨fun _ => hK _ _ (AppOK.nil (Heap.Sub.rfl' G)), fun h => absurd rfl h⟩
  · have hA := AppOK.nil (k := e.size) (Heap.Sub.rfl' G)
    refine AppOK.step hA (by simp [Unif]) hn (by simpa using hb) (by simpa using hc) (fun tl G' h1 h2 => ?_)
    rw [List.nil_append] at h1 ⊢
    exact hK tl G' h1
theorem cloneSet_calls (l : List SetV) (t : Tail) (H : Heap) (hl : l.length ≤ 1099511627776) : ACalls Tryz.prog 91 [.sl (l.map encSet) t] H fun x H' => x = .sl (l.map encSet) .unk ∧ H' = H := by
  refine ACalls.of_code (X := { pure := pu0 }) pu0_ok Tryz.func91 (by kernel_rfl) rfl (by kernel_rfl) (Nat.le_of_ble_eq_true rfl) ?_
  simp -implicitDefEqProofs only [go_sem, Tryz.f91, aNil_sl]
  refine ⟨fun h => ?_, ?_⟩
  · obtain rfl := flat_nil (fun a => by simp [encSet]) h
    exact Done.wk 1 (Done.now ⟨rfl, rfl⟩)
  · refine ⟨fun a _ => rfl, ?_⟩
    refine AppOK.clone (by simp; omega) (by simp; omega) (fun tl G' h => ?_)
    simp -implicitDefEqProofs only [go_sem]
    exact Done.wk 1 (Done.drop h.sub ⟨rfl, rfl⟩)

/-- Behind a loop of machine. -/
def MachQ (n : Nat) (H0 : Heap) (H : Heap) (iw i1 i2 i3 im j0 : Nat) (fs : List SetV) (ta : Tail) (lf : List FileV) (ls : List SetV) (lv : List SvcV) (k1 : List FileV) (k2 : List SetV) (k3 : List SvcV) (r : Regs) (G : Heap) : Prop :=
  H0.Sub G ∧ G j0 = some (.cells (encMac .zero .exact .exact .exact .exact)) ∧ (∃ t1 t2 t3, (n < 2 → t2 = .exact) ∧ (n < 3 → t3 = .exact) ∧ G im = some (.cells (encMac ⟨fs, k1, k2, k3⟩ .unk t1 t2 t3))) ∧ r 0 = .ptr iw 0 ∧ r 2 = .ptr j0 0 ∧ r 3 = .ptr im 0
set_option maxHeartbeats 6400000 in
theorem machine_calls {H H0 : Heap} {iw i1 i2 i3 : Nat} {fs : List SetV} {ta : Tail} {lf : List FileV} {ls : List SetV} {lv : List SvcV} (hR : RW H H0 iw i1 i2 i3 (fs.map encSet) ta lf ls lv)
    (l0 : fs.length ≤ 1099511627776) (l1 : lf.length ≤ 1099511627776) (l2 : ls.length ≤ 1099511627776) (l3 : lv.length ≤ 1099511627776) :
    ACalls Tryz.prog 58 [.ptr iw 0] H0 fun x H' => x = .agg (encMac ⟨fs, lf, ls, lv⟩ .unk .unk .unk .unk) ∧ H' = H0 := by
  have gw := hR.w
  obtain ⟨es1, g1, m1⟩ := hR.f
  obtain ⟨es2, g2, m2⟩ := hR.s
  obtain ⟨es3, g3, m3⟩ := hR.v
  have hS := Heap.Sub.rfl' H0
  refine ACalls.of_code (X := { pure := pu0 }) pu0_ok Tryz.func58 (by kernel_rfl) rfl (by kernel_rfl) (Nat.le_of_ble_eq_true rfl) ?_
  simp -implicitDefEqProofs only [go_sem, Tryz.f58]
  with_reducible refine nwC_intro fun j0 hj0 => ?_
  generalize E0 : Heap.put H0 j0 _ = G0
  have hO_0 := obj_new E0 hj0 hS
  have n0 := hO_0.1
  have hS := hO_0.2.1
  have g0 := hO_0.2.2.1
  clear hO_0
  have kw := hS _ _ gw
  simp -implicitDefEqProofs only [go_sem, kw]
  refine (cloneSet_calls fs ta G0 l0).pure_next _ ?_
  simp -implicitDefEqProofs only [go_sem]
  with_reducible refine nwC_intro fun im him => ?_
  generalize Em : Heap.put G0 im _ = G1
  have hO_m := obj_new Em him hS
  have nm := hO_m.1
  have hS := hO_m.2.1
  have gm := hO_m.2.2.1
  have d0_m := obj_ne g0 him
  have g0 := hO_m.2.2.2 _ _ g0
  clear hO_m
  simp -implicitDefEqProofs only [go_sem, gm]
  generalize E9 : Heap.put G1 im _ = G2
  have gm2 : G2 im = some (.cells (encMac ⟨fs, [], [], []⟩ .unk .exact .exact .exact)) := obj_at E9
  have hS2 : H0.Sub G2 := obj_sub E9 nm hS
  have g02 : G2 j0 = some (.cells (encMac .zero .exact .exact .exact .exact)) := obj_keep E9 d0_m g0
  clear hS kw E9 Em gm g0 E0
  have kw := hS2 _ _ gw
  have hS := hS2
  clear hS2
  simp -implicitDefEqProofs only [go_sem, kw]
  have q1 : G2 i1 = some (.map .str es1) := hS _ _ g1
  refine (keysFile_calls i1 es1 G2 q1 (by obtain ⟨-, xs, rfl, -⟩ := m1; intro e he; obtain ⟨x, -, rfl⟩ := List.mem_map.1 he; exact ⟨_, rfl⟩) (by rw [m1.len]; omega)).mono ?_
  rintro x G9 ⟨ss, hp, rfl, rfl⟩
  rw [m1.sorted hp]
  clear hp q1 ss kw
  have gm : G9 im = some (.cells (encMac ⟨fs, [], [], []⟩ .unk .exact .exact .exact)) := gm2
  clear gm2
  simp -implicitDefEqProofs only [go_sem]
  with_reducible refine aloop_cut 0 (MachQ 1 H0 H iw i1 i2 i3 im j0 fs ta lf ls lv lf [] []) ?_ ?_
  rotate_left
  · refine aloop_intro (σ := Nat × Tail) (fun s => [(0, .ptr iw 0), (2, .ptr j0 0), (3, .ptr im 0), (20, .sl ((lf.map (·.path)).map fun s => [AV.str s]) .unk), (21, .int .i64 lf.length), (22, .int .i64 s.1)])
      (fun s G => s.1 ≤ lf.length ∧ AppOK H0 G 3 ((lf.take s.1).map encFile) s.2 ∧ G j0 = some (.cells (encMac .zero .exact .exact .exact .exact)) ∧ G im = some (.cells (encMac ⟨fs, (lf.take s.1), [], []⟩ .unk s.2 .exact .exact))) (fun s => lf.length - s.1) (0, .exact) ?_ ?_ ?_
    · simp -implicitDefEqProofs only [go_sem, List.length_map]
    · exact ⟨Nat.zero_le _, AppOK.nil hS, g02, gm⟩
    clear gm g02 hS
    rintro ⟨i, tl⟩ r G hv ⟨hi, hA, gj, gm⟩
    simp only at hi hA gm
    have e0 := hv.1
    have e2 := hv.2.1
    have e3 := hv.2.2.1
    have ea := hv.2.2.2.1
    have eb := hv.2.2.2.2.1
    have ec := hv.2.2.2.2.2.1
    simp only at ec
    clear hv
    by_cases g : i < lf.length
    rotate_left
    · have y0 : decide ((i : Int) < lf.length) = false := decide_eq_false (by omega)
      obtain rfl : i = lf.length := by omega
      rw [List.take_length] at gm
      simp -implicitDefEqProofs only [go_sem, e0, e2, e3, ea, eb, ec, y0]
      exact ⟨hA.sub, gj, ⟨_, _, _, by simp, by simp, gm⟩, by simp -implicitDefEqProofs only [go_sem, e0], by simp -implicitDefEqProofs only [go_sem, e2], by simp -implicitDefEqProofs only [go_sem, e3]⟩
    have y0 : decide ((i : Int) < lf.length) = true := decide_eq_true (by omega)
    obtain ⟨x, hx⟩ : ∃ x, lf[i]? = some x := getD_get' g
    have ws : IntKind.i64.wrap ((i : Int) + 1) = ((i + 1 : Nat) : Int) := by rw [Go.IntWalk.i64_in _ (by omega)]; omega
    have hU : ∀ x ∈ lf.map (·.path), ([AV.str x] : List AV).length = 1 := fun _ _ => rfl
    have hx2 : (lf.map (·.path))[i]? = some x.path := by rw [List.getElem?_map, hx]; rfl
    have hg : mget es1 (.s x.path) = some (.agg (encFile x)) := by rw [m1.get, getK_at m1.1 hx]; rfl
    have kw := hA.sub _ _ gw
    have k1 := hA.sub _ _ g1
    have gm0 := gm
    unfold encMac at gm0
    have hl3 : (encFile x).length = 3 := rfl
    simp -implicitDefEqProofs only [go_sem, e0, e2, e3, ea, eb, ec, y0, hx2, hU, gm0, kw, k1, hg, hl3]
    have hnew : (lf.take i).map encFile ++ [encFile x] = (lf.take (i + 1)).map encFile := by rw [List.take_add_one, hx]; simp
    refine AppOK.step hA (fun c hc => by obtain ⟨a, -, rfl⟩ := List.mem_map.1 hc; rfl) (by simp) (by simp; omega) (by simp; omega) fun tl' G' hA' hK => ?_
    rw [hnew] at hA' ⊢
    have gm1 := hK.cells gm0
    have gj1 := hK.cells gj
    have nj : ¬ j0 = im := d0_m
    have hA2 := hA'.set (o' := .cells (encMac ⟨fs, (lf.take (i + 1)), [], []⟩ .unk tl' .exact .exact)) nm gm1 (fun n e => by cases e)
    unfold encMac at hA2
    simp -implicitDefEqProofs only [go_sem, e0, e2, e3, ea, eb, ec, gm1, ws]
    exact Again.mk (i + 1, tl') (by simp -implicitDefEqProofs only [go_sem, e0, e2, e3, ea, eb, ec]) ⟨by simp only; omega, hA2, by rw [put_ne _ _ _ _ nj]; exact gj1, put_same _ _ _⟩ (by simp only; omega)
  clear gm g02 hS
  rintro r G ⟨hS, g02, gm, e0, e2, e3⟩
  have kw := hS _ _ gw
  simp -implicitDefEqProofs only [go_sem, e0, e2, e3, kw]
  have q2 : G i2 = some (.map .str es2) := hS _ _ g2
  refine (keysStr_calls i2 es2 G q2 (by obtain ⟨-, xs, rfl, -⟩ := m2; intro e he; obtain ⟨x, -, rfl⟩ := List.mem_map.1 he; exact ⟨_, rfl⟩) (by rw [m2.len]; omega)).mono ?_
  rintro x G9 ⟨ss, hp, rfl, rfl⟩
  rw [m2.sorted hp]
  clear hp q2 ss kw
  obtain ⟨t1, t2, t3, c2, c3, gm⟩ := gm
  obtain rfl := c2 (by omega)
  obtain rfl := c3 (by omega)
  clear c2 c3
  simp -implicitDefEqProofs only [go_sem]
  with_reducible refine aloop_cut 2 (MachQ 2 H0 H iw i1 i2 i3 im j0 fs ta lf ls lv lf ls []) ?_ ?_
  rotate_left
  · refine aloop_intro (σ := Nat × Tail) (fun s => [(0, .ptr iw 0), (2, .ptr j0 0), (3, .ptr im 0), (42, .sl ((ls.map (·.key)).map fun s => [AV.str s]) .unk), (43, .int .i64 ls.length), (44, .int .i64 s.1)])
      (fun s G => s.1 ≤ ls.length ∧ AppOK H0 G 2 ((ls.take s.1).map encSet) s.2 ∧ G j0 = some (.cells (encMac .zero .exact .exact .exact .exact)) ∧ G im = some (.cells (encMac ⟨fs, lf, (ls.take s.1), []⟩ .unk t1 s.2 .exact))) (fun s => ls.length - s.1) (0, .exact) ?_ ?_ ?_
    · simp -implicitDefEqProofs only [go_sem, e0, e2, e3, List.length_map]
    · exact ⟨Nat.zero_le _, AppOK.nil hS, g02, gm⟩
    clear gm g02 hS e0 e2 e3
    rintro ⟨i, tl⟩ r G hv ⟨hi, hA, gj, gm⟩
    simp only at hi hA gm
    have e0 := hv.1
    have e2 := hv.2.1
    have e3 := hv.2.2.1
    have ea := hv.2.2.2.1
    have eb := hv.2.2.2.2.1
    have ec := hv.2.2.2.2.2.1
    simp only at ec
    clear hv
    by_cases g : i < ls.length
    rotate_left
    · have y0 : decide ((i : Int) < ls.length) = false := decide_eq_false (by omega)
      obtain rfl : i = ls.length := by omega
      rw [List.take_length] at gm
      simp -implicitDefEqProofs only [go_sem, e0, e2, e3, ea, eb, ec, y0]
      exact ⟨hA.sub, gj, ⟨_, _, _, by simp, by simp, gm⟩, by simp -implicitDefEqProofs only [go_sem, e0], by simp -implicitDefEqProofs only [go_sem, e2], by simp -implicitDefEqProofs only [go_sem, e3]⟩
    have y0 : decide ((i : Int) < ls.length) = true := decide_eq_true (by omega)
    obtain ⟨x, hx⟩ : ∃ x, ls[i]? = some x := getD_get' g
    have ws : IntKind.i64.wrap ((i : Int) + 1) = ((i + 1 : Nat) : Int) := by rw [Go.IntWalk.i64_in _ (by omega)]; omega
    have hU : ∀ x ∈ ls.map (·.key), ([AV.str x] : List AV).length = 1 := fun _ _ => rfl
    have hx2 : (ls.map (·.key))[i]? = some x.key := by rw [List.getElem?_map, hx]; rfl
    have hg : mget es2 (.s x.key) = some (.str x.value) := by rw [m2.get, getK_at m2.1 hx]; rfl
    have kw := hA.sub _ _ gw
    have k2 := hA.sub _ _ g2
    have gm0 := gm
    unfold encMac at gm0
    have hl3 : (encSet x).length = 2 := rfl
    simp -implicitDefEqProofs only [go_sem, e0, e2, e3, ea, eb, ec, y0, hx2, hU, gm0, kw, k2, hg, hl3]
    have hnew : (ls.take i).map encSet ++ [[AV.str x.key, AV.str x.value]] = (ls.take (i + 1)).map encSet := by rw [List.take_add_one, hx]; simp [encSet]
    refine AppOK.step hA (fun c hc => by obtain ⟨a, -, rfl⟩ := List.mem_map.1 hc; rfl) (by simp) (by simp; omega) (by simp; omega) fun tl' G' hA' hK => ?_
    rw [hnew] at hA' ⊢
    have gm1 := hK.cells gm0
    have gj1 := hK.cells gj
    have nj : ¬ j0 = im := d0_m
    have hA2 := hA'.set (o' := .cells (encMac ⟨fs, lf, (ls.take (i + 1)), []⟩ .unk t1 tl' .exact)) nm gm1 (fun n e => by cases e)
    unfold encMac at hA2
    simp -implicitDefEqProofs only [go_sem, e0, e2, e3, ea, eb, ec, gm1, ws]
    exact Again.mk (i + 1, tl') (by simp -implicitDefEqProofs only [go_sem, e0, e2, e3, ea, eb, ec]) ⟨by simp only; omega, hA2, by rw [put_ne _ _ _ _ nj]; exact gj1, put_same _ _ _⟩ (by simp only; omega)
  clear gm g02 hS e0 e2 e3
  rintro r G ⟨hS, g02, gm, e0, e2, e3⟩
  have kw := hS _ _ gw
  simp -implicitDefEqProofs only [go_sem, e0, e2, e3, kw]
  have q3 : G i3 = some (.map .str es3) := hS _ _ g3
  refine (keysSvc_calls i3 es3 G q3 (by obtain ⟨-, xs, rfl, -⟩ := m3; intro e he; obtain ⟨x, -, rfl⟩ := List.mem_map.1 he; exact ⟨_, rfl⟩) (by rw [m3.len]; omega)).mono ?_
  rintro x G9 ⟨ss, hp, rfl, rfl⟩
  rw [m3.sorted hp]
  clear hp q3 ss kw
  obtain ⟨t1, t2, t3, c2, c3, gm⟩ := gm
  obtain rfl := c3 (by omega)
  clear c2 c3
  simp -implicitDefEqProofs only [go_sem]
  with_reducible refine aloop_cut 4 (MachQ 3 H0 H iw i1 i2 i3 im j0 fs ta lf ls lv lf ls lv) ?_ ?_
  rotate_left
  · refine aloop_intro (σ := Nat × Tail) (fun s => [(0, .ptr iw 0), (2, .ptr j0 0), (3, .ptr im 0), (66, .sl ((lv.map (·.name)).map fun s => [AV.str s]) .unk), (67, .int .i64 lv.length), (68, .int .i64 s.1)])
      (fun s G => s.1 ≤ lv.length ∧ AppOK H0 G 4 ((lv.take s.1).map encSvc) s.2 ∧ G j0 = some (.cells (encMac .zero .exact .exact .exact .exact)) ∧ G im = some (.cells (encMac ⟨fs, lf, ls, (lv.take s.1)⟩ .unk t1 t2 s.2))) (fun s => lv.length - s.1) (0, .exact) ?_ ?_ ?_
    · simp -implicitDefEqProofs only [go_sem, e0, e2, e3, List.length_map]
    · exact ⟨Nat.zero_le _, AppOK.nil hS, g02, gm⟩
    clear gm g02 hS e0 e2 e3
    rintro ⟨i, tl⟩ r G hv ⟨hi, hA, gj, gm⟩
    simp only at hi hA gm
    have e0 := hv.1
    have e2 := hv.2.1
    have e3 := hv.2.2.1
    have ea := hv.2.2.2.1
    have eb := hv.2.2.2.2.1
    have ec := hv.2.2.2.2.2.1
    simp only at ec
    clear hv
    by_cases g : i < lv.length
    rotate_left
    · have y0 : decide ((i : Int) < lv.length) = false := decide_eq_false (by omega)
      obtain rfl : i = lv.length := by omega
      rw [List.take_length] at gm
      simp -implicitDefEqProofs only [go_sem, e0, e2, e3, ea, eb, ec, y0]
      exact ⟨hA.sub, gj, ⟨_, _, _, by simp, by simp, gm⟩, by simp -implicitDefEqProofs only [go_sem, e0], by simp -implicitDefEqProofs only [go_sem, e2], by simp -implicitDefEqProofs only [go_sem, e3]⟩
    have y0 : decide ((i : Int) < lv.length) = true := decide_eq_true (by omega)
    obtain ⟨x, hx⟩ : ∃ x, lv[i]? = some x := getD_get' g
    have ws : IntKind.i64.wrap ((i : Int) + 1) = ((i + 1 : Nat) : Int) := by rw [Go.IntWalk.i64_in _ (by omega)]; omega
    have hU : ∀ x ∈ lv.map (·.name), ([AV.str x] : List AV).length = 1 := fun _ _ => rfl
    have hx2 : (lv.map (·.name))[i]? = some x.name := by rw [List.getElem?_map, hx]; rfl
    have hg : mget es3 (.s x.name) = some (.agg (encSvc x)) := by rw [m3.get, getK_at m3.1 hx]; rfl
    have kw := hA.sub _ _ gw
    have k3 := hA.sub _ _ g3
    have gm0 := gm
    unfold encMac at gm0
    have hl3 : (encSvc x).length = 4 := rfl
    simp -implicitDefEqProofs only [go_sem, e0, e2, e3, ea, eb, ec, y0, hx2, hU, gm0, kw, k3, hg, hl3]
    have hnew : (lv.take i).map encSvc ++ [encSvc x] = (lv.take (i + 1)).map encSvc := by rw [List.take_add_one, hx]; simp
    refine AppOK.step hA (fun c hc => by obtain ⟨a, -, rfl⟩ := List.mem_map.1 hc; rfl) (by simp) (by simp; omega) (by simp; omega) fun tl' G' hA' hK => ?_
    rw [hnew] at hA' ⊢
    have gm1 := hK.cells gm0
    have gj1 := hK.cells gj
    have nj : ¬ j0 = im := d0_m
    have hA2 := hA'.set (o' := .cells (encMac ⟨fs, lf, ls, (lv.take (i + 1))⟩ .unk t1 t2 tl')) nm gm1 (fun n e => by cases e)
    unfold encMac at hA2
    simp -implicitDefEqProofs only [go_sem, e0, e2, e3, ea, eb, ec, gm1, ws]
    exact Again.mk (i + 1, tl') (by simp -implicitDefEqProofs only [go_sem, e0, e2, e3, ea, eb, ec]) ⟨by simp only; omega, hA2, by rw [put_ne _ _ _ _ nj]; exact gj1, put_same _ _ _⟩ (by simp only; omega)
  clear gm g02 hS e0 e2 e3
  rintro r G ⟨hS, g02, gm, e0, e2, e3⟩
  obtain ⟨t1, t2, t3, -, -, gm⟩ := gm
  unfold encMac at gm g02
  simp -implicitDefEqProofs only [go_sem, e0, e2, e3, gm, g02]
  refine Done.wk 2 ?_
  refine Done.drop (hS.put' n0 _) ⟨rfl, rfl⟩
end Go.Proofs

/- Walks: one change of a machine of maps, on the reference's side. -/
namespace Go.Proofs
open Go Go.Abs
set_option linter.unusedSimpArgs false
set_option linter.unusedVariables false
set_option maxRecDepth 20000
theorem preB_under (p d : Bytes) : preB (d ++ [47]) p = underB p d := by
  unfold preB underB
  rw [Bool.eq_iff_iff, decide_eq_true_eq, List.isPrefixOf_iff_prefix, List.prefix_iff_eq_take]
  exact ⟨fun h => h.symm, fun h => h.symm⟩
theorem under_calls (p d : Bytes) (H : Heap) (hp : p.length ≤ 1099511627776) (hd : d.length ≤ 1099511627776) : ACalls Tryz.prog 90 [.str p, .str d] H fun x H' => x = .bool (underB p d) ∧ H' = H := by
  refine ACalls.of_code (X := { pure := puS3 }) puS3_ok Tryz.func90 (by kernel_rfl) rfl (by kernel_rfl) (Nat.le_of_ble_eq_true rfl) ?_
  simp -implicitDefEqProofs (disch := (first | omega | (simp only [List.length_append, List.length_cons, List.length_nil]; omega))) only [go_sem, binS_addD, Go.IntWalk.i64_in, Tryz.f90, puS3, sPre_eq]
  exact Done.now ⟨by rw [preB_under], rfl⟩
noncomputable def sUnder := spF (fun p : Bytes × Bytes => [AV.str p.1, AV.str p.2]) (fun p => p.1.length ≤ 1099511627776 ∧ p.2.length ≤ 1099511627776) fun p => .bool (underB p.1 p.2)
theorem sUnder_eq (p d : Bytes) (hp : p.length ≤ 1099511627776) (hd : d.length ≤ 1099511627776) : sUnder [.str p, .str d] = some (.bool (underB p d)) := spF_eq (enc := fun p : Bytes × Bytes => [AV.str p.1, AV.str p.2]) (fun a b e => by
  obtain ⟨a1, a2⟩ := a
  obtain ⟨b1, b2⟩ := b
  cases e; rfl) (p, d) ⟨hp, hd⟩
noncomputable def puU : Pures := putP 90 sUnder pu0
theorem puU_dyn : isDyn puU = false := by simp only [puU, go_sem, Nat.reduceEqDiff]
attribute [go_sem] puU_dyn
theorem puU_ok : PuOK Tryz.prog puU := .put (pu0_ok) (spF_ok fun p H h => under_calls p.1 p.2 H h.1 h.2)
def RWM (H G : Heap) (iw i1 i2 i3 : Nat) (ta : Tail) (m : MacV) : Prop := RW H G iw i1 i2 i3 (m.facts.map encSet) ta m.files m.sets m.svcs
def DoR (H : Heap) (iw i1 i2 i3 : Nat) (ta : Tail) (m : MacV) (d : Except Int MacV) (x : AV) (G : Heap) : Prop := match d with
  | .ok n => x = .int .i64 0 ∧ RWM H G iw i1 i2 i3 ta n
  | .error e => x = .int .i64 e ∧ RWM H G iw i1 i2 i3 ta m
theorem RW.mono {H G G' : Heap} {iw i1 i2 i3 : Nat} {fs : List (List AV)} {ta : Tail} {lf : List FileV} {ls : List SetV} {lv : List SvcV} (h : RW H G iw i1 i2 i3 fs ta lf ls lv) (hs : G.Sub G') : RW H G' iw i1 i2 i3 fs ta lf ls lv := by
  obtain ⟨a, b, c, d, e, f, g, ⟨e1, h1, k1⟩, ⟨e2, h2, k2⟩, ⟨e3, h3, k3⟩⟩ := h
  exact ⟨fun i o hi => hs _ _ (a i o hi), b, c, d, e, f, hs _ _ g, ⟨e1, hs _ _ h1, k1⟩, ⟨e2, hs _ _ h2, k2⟩, ⟨e3, hs _ _ h3, k3⟩⟩
theorem sub_back {G1 G : Heap} {m : Nat} {o : AObj} (g1 : G1 m = some o) (h : ∀ i p, G1 i = some p → ¬ i = m → G i = some p) : G1.Sub (G.put m o) := fun i p hi => by
  by_cases e : i = m
  · subst e; rw [g1] at hi; cases hi; exact put_same _ _ _
  · rw [put_ne _ _ _ _ e]; exact h i p hi e
/-- Behind the look for conflicts. -/
def DoQ (G1 : Heap) (iw ic : Nat) (c : Prop) (r : Regs) (G : Heap) : Prop := G1.Sub G ∧ c ∧ r 0 = .ptr iw 0 ∧ r 3 = .ptr ic 0
set_option maxHeartbeats 6400000 in
theorem rDo_calls {H G : Heap} {iw i1 i2 i3 : Nat} {ta : Tail} {m : MacV} {c : ChgV} (hR : RWM H G iw i1 i2 i3 ta m) (hr : macR m) (hc : chgR c) :
    ACalls Tryz.prog 57 [.ptr iw 0, .agg (encChg c)] G (DoR H iw i1 i2 i3 ta m (doV m c)) := by
  obtain ⟨⟨l1, l2, l3, l4⟩, r1, r2, r3, r4⟩ := hr
  have hv := doV.eq_1 m c
  generalize doV m c = dv at *
  have hb := hc.1.1
  refine ACalls.of_code (X := { pure := puU }) puU_ok Tryz.func57 (by kernel_rfl) rfl (by kernel_rfl) (Nat.le_of_ble_eq_true rfl) ?_
  simp -implicitDefEqProofs only [go_sem, Tryz.f57, encChg, puU]
  with_reducible refine nwC_intro fun ic hic => ?_
  have hR1 : RWM H (G.put ic (.cells (encChg c))) iw i1 i2 i3 ta m := hR.put hic _
  have gc := put_same G ic (.cells (encChg c))
  unfold encChg at hR1 gc
  simp -implicitDefEqProofs only [go_sem, puU]
  generalize G.put ic _ = G1 at *
  clear hic
  have hce := rChangeError_calls c G1 hc
  unfold encChg at hce
  refine hce.pure_next _ ?_
  by_cases c0 : chgErr c = 0
  rotate_left
  · have y0 : decide (¬ chgErr c = 0) = true := decide_eq_true c0
    rw [if_pos c0] at hv
    subst hv
    simp -implicitDefEqProofs only [go_sem, y0]
    exact Done.now ⟨rfl, hR1⟩
  have y0 : decide (¬ chgErr c = 0) = false := decide_eq_false (by simpa using c0)
  rw [if_neg (by simpa using c0)] at hv
  have kw := hR1.w
  have gp : ∀ i, G1 i = none → ¬ ic = i := fun i hi e => by rw [e, hi] at gc; cases gc
  obtain ⟨es1, g1, m1⟩ := hR1.f
  obtain ⟨es2, g2, m2⟩ := hR1.s
  obtain ⟨es3, g3, m3⟩ := hR1.v
  have hg1 := m1.get c.file.path
  have hg2 := m2.get c.set.key
  have hg3 := m3.get c.svc.name
  by_cases k2 : c.kind = 2
  · have y2 : decide (c.kind = 2) = true := decide_eq_true k2
    rw [if_pos k2] at hv
    cases hk : getK (·.path) c.file.path m.files with
    | none =>
      rw [hk] at hg1 hv
      simp only [Option.map_none] at hg1
      rw [if_neg (by simp)] at hv
      subst hv
      simp -implicitDefEqProofs only [go_sem, y0, y2, gc, kw, g1, hg1]
      with_reducible refine nwC_intro fun i6 hi6 => ?_
      have hR2 : RWM H (G1.put i6 (.cells ([.str [], .str [], .bool false]))) iw i1 i2 i3 ta m := hR1.put hi6 _
      have gc2 : (G1.put i6 (.cells ([.str [], .str [], .bool false]))) ic = some (.cells (encChg c)) := by rw [put_ne _ _ _ _ (gp _ hi6)]; exact gc
      unfold encChg at gc2
      have g6 := put_same G1 i6 (.cells ([.str [], .str [], .bool false]))
      try simp -implicitDefEqProofs only [go_sem]
      generalize G1.put i6 _ = G2 at *
      have kw2 := hR2.w
      obtain ⟨es, k1, mm⟩ := hR2.f
      try simp -implicitDefEqProofs only [go_sem, gc2, kw2, k1, g6]
      exact Done.now ⟨rfl, hR2⟩
    | some f =>
      rw [hk] at hg1 hv
      simp only [Option.map_some] at hg1
      unfold encFile at hg1
      rw [if_pos (by simp)] at hv
      subst hv
      simp -implicitDefEqProofs only [go_sem, y0, y2, gc, kw, g1, hg1]
      with_reducible refine nwC_intro fun i6 hi6 => ?_
      have hR2 : RWM H (G1.put i6 (.cells (encFile f))) iw i1 i2 i3 ta m := hR1.put hi6 _
      have gc2 : (G1.put i6 (.cells (encFile f))) ic = some (.cells (encChg c)) := by rw [put_ne _ _ _ _ (gp _ hi6)]; exact gc
      unfold encChg at gc2
      have g6 := put_same G1 i6 (.cells (encFile f))
      unfold encFile at hR2 gc2 g6
      try simp -implicitDefEqProofs only [go_sem]
      generalize G1.put i6 _ = G2 at *
      have kw2 := hR2.w
      obtain ⟨es, k1, mm⟩ := hR2.f
      simp -implicitDefEqProofs only [go_sem, gc2, kw2, k1, g6]
      exact Done.now ⟨rfl, hR2.setF (mm.del _)⟩
  have y2 : decide (c.kind = 2) = false := decide_eq_false k2
  rw [if_neg k2] at hv
  by_cases k4 : c.kind = 4
  · have y4 : decide (c.kind = 4) = true := decide_eq_true k4
    rw [if_pos k4] at hv
    cases hk : getK (·.key) c.set.key m.sets with
    | none =>
      rw [hk] at hg2 hv
      simp only [Option.map_none] at hg2
      rw [if_neg (by simp)] at hv
      subst hv
      have hR2 := hR1
      obtain ⟨es, k1, mm⟩ := hR2.s
      have kw2 := kw
      have gc2 := gc
      obtain rfl : es = es2 := by rw [k1] at g2; cases g2; rfl
      try simp -implicitDefEqProofs only [go_sem, y0, y2, y4, gc2, kw2, k1, hg2]
      exact Done.now ⟨rfl, hR2⟩
    | some f =>
      rw [hk] at hg2 hv
      simp only [Option.map_some] at hg2
      rw [if_pos (by simp)] at hv
      subst hv
      have hR2 := hR1
      obtain ⟨es, k1, mm⟩ := hR2.s
      have kw2 := kw
      have gc2 := gc
      obtain rfl : es = es2 := by rw [k1] at g2; cases g2; rfl
      simp -implicitDefEqProofs only [go_sem, y0, y2, y4, gc2, kw2, k1, hg2]
      exact Done.now ⟨rfl, hR2.setS (mm.del _)⟩
  have y4 : decide (c.kind = 4) = false := decide_eq_false k4
  rw [if_neg k4] at hv
  by_cases k6 : c.kind = 6
  · have y6 : decide (c.kind = 6) = true := decide_eq_true k6
    rw [if_pos k6] at hv
    cases hk : getK (·.name) c.svc.name m.svcs with
    | none =>
      rw [hk] at hg3 hv
      simp only [Option.map_none] at hg3
      rw [if_neg (by simp)] at hv
      subst hv
      simp -implicitDefEqProofs only [go_sem, y0, y2, y4, y6, gc, kw, g3, hg3]
      with_reducible refine nwC_intro fun i6 hi6 => ?_
      have hR2 : RWM H (G1.put i6 (.cells ([.str [], .str [], .bool false, .bool false]))) iw i1 i2 i3 ta m := hR1.put hi6 _
      have gc2 : (G1.put i6 (.cells ([.str [], .str [], .bool false, .bool false]))) ic = some (.cells (encChg c)) := by rw [put_ne _ _ _ _ (gp _ hi6)]; exact gc
      unfold encChg at gc2
      have g6 := put_same G1 i6 (.cells ([.str [], .str [], .bool false, .bool false]))
      try simp -implicitDefEqProofs only [go_sem]
      generalize G1.put i6 _ = G2 at *
      have kw2 := hR2.w
      obtain ⟨es, k1, mm⟩ := hR2.v
      try simp -implicitDefEqProofs only [go_sem, gc2, kw2, k1, g6]
      exact Done.now ⟨rfl, hR2⟩
    | some f =>
      rw [hk] at hg3 hv
      simp only [Option.map_some] at hg3
      unfold encSvc at hg3
      rw [if_pos (by simp)] at hv
      subst hv
      simp -implicitDefEqProofs only [go_sem, y0, y2, y4, y6, gc, kw, g3, hg3]
      with_reducible refine nwC_intro fun i6 hi6 => ?_
      have hR2 : RWM H (G1.put i6 (.cells (encSvc f))) iw i1 i2 i3 ta m := hR1.put hi6 _
      have gc2 : (G1.put i6 (.cells (encSvc f))) ic = some (.cells (encChg c)) := by rw [put_ne _ _ _ _ (gp _ hi6)]; exact gc
      unfold encChg at gc2
      have g6 := put_same G1 i6 (.cells (encSvc f))
      unfold encSvc at hR2 gc2 g6
      try simp -implicitDefEqProofs only [go_sem]
      generalize G1.put i6 _ = G2 at *
      have kw2 := hR2.w
      obtain ⟨es, k1, mm⟩ := hR2.v
      simp -implicitDefEqProofs only [go_sem, gc2, kw2, k1, g6]
      exact Done.now ⟨rfl, hR2.setV (mm.del _)⟩
  have y6 : decide (c.kind = 6) = false := decide_eq_false k6
  rw [if_neg k6] at hv
  by_cases k1 : c.kind = 1
  · have y1 : decide (c.kind = 1) = true := decide_eq_true k1
    rw [if_pos k1] at hv
    have hcv := conflictV.eq_1 m.files c.file.path
    have hp1 : c.file.path.length ≤ 1099511627776 := hb
    simp -implicitDefEqProofs only [go_sem, y0, y2, y4, y6, y1, gc, kw, g1]
    refine range_intro ⟨_, _, by simp -implicitDefEqProofs only [go_sem]; rfl⟩ g1 fun bs cl it hbl hn _ hit => ?_
    have dm : ¬ i1 = it := fun e => by rw [e, hit] at g1; cases g1
    have q1 : ((G1.put i1 (.bmap .str es1 bs cl)).put it (.iter (some i1) cl [])) it = some (.iter (some i1) cl []) := put_same _ _ _
    have q2 : ((G1.put i1 (.bmap .str es1 bs cl)).put it (.iter (some i1) cl [])) i1 = some (.bmap .str es1 bs cl) := by rw [put_ne _ _ _ _ dm, put_same]
    have q3 : ∀ i o, G1 i = some o → ¬ i = i1 → ((G1.put i1 (.bmap .str es1 bs cl)).put it (.iter (some i1) cl [])) i = some o := fun i o hi h => by
      rw [put_ne _ _ _ _ (obj_ne hi hit), put_ne _ _ _ _ h]; exact hi
    have dc : ¬ ic = i1 := fun e => by rw [e, g1] at gc; cases gc
    have dni : ¬ ic = it := fun e => by rw [e, hit] at gc; cases gc
    simp -implicitDefEqProofs only [go_sem]
    generalize (G1.put i1 (.bmap .str es1 bs cl)).put it (.iter (some i1) cl []) = G0 at *
    with_reducible refine aloop_cut 1 (DoQ G1 iw ic (conflictV m.files c.file.path = false)) ?_ ?_
    rotate_left
    · refine aloop_intro (σ := List Nat × List Nat × List Bytes) (fun t => [(0, .ptr iw 0), (3, .ptr ic 0), (128, .ptr it 0)])
        (fun t G => SeenK es1 bs t.1 t.2.1 t.2.2 ∧ (∀ k ∈ t.2.2, underB k c.file.path = false ∧ underB c.file.path k = false) ∧ G it = some (.iter (some i1) cl t.2.1) ∧ G i1 = some (.bmap .str es1 bs cl) ∧ (∀ i o, G1 i = some o → ¬ i = i1 → G i = some o)) (fun t => es1.length - t.1.length) ([], [], []) ?_ ?_ ?_
      · simp -implicitDefEqProofs only [go_sem]
      · exact ⟨SeenK.nil _ _, by simp, q1, q2, q3⟩
      clear q1 q2 q3
      rintro ⟨js, seen, ks⟩ r G hv2 ⟨hS, hno, q1, q2, q3⟩
      have h0 := hv2.1
      have h3 := hv2.2.1
      have h6 := hv2.2.2.1
      clear hv2
      simp only at h0 h3 h6 hS hno q1 q2
      simp -implicitDefEqProofs only [go_sem, h0, h3, h6]
      refine next_intro2 q1 q2 (fun j k v b hj hbj hsn => ?_) (fun ha => ?_)
      rotate_left
      · simp -implicitDefEqProofs only [go_sem, h0, h3, h6]
        refine ⟨sub_back g1 q3, ?_, by simp -implicitDefEqProofs only [go_sem, h0], by simp -implicitDefEqProofs only [go_sem, h3]⟩
        have hp := (hS.all hbl hn ha).trans m1.keys
        unfold conflictV
        rw [List.any_eq_false]
        intro f hf
        obtain ⟨a1, a2⟩ := hno f.path (hp.symm.subset (List.mem_map_of_mem hf))
        simp [a1, a2]
      obtain ⟨f, hf, rfl, rfl⟩ : ∃ f ∈ m.files, k = .s f.path ∧ v = .agg (encFile f) := by
        obtain ⟨-, xs, rfl, hp⟩ := m1
        have := List.mem_of_getElem? hj
        obtain ⟨f, hf, e⟩ := List.mem_map.1 this
        cases e
        exact ⟨f, hp.subset hf, rfl, rfl⟩
      have hS2 := hS.step hj hbj hsn
      have hlen := hS2.len
      have p1 : (G.put it (.iter (some i1) cl (seen ++ [b]))) it = some (.iter (some i1) cl (seen ++ [b])) := put_same _ _ _
      have p2 : (G.put it (.iter (some i1) cl (seen ++ [b]))) i1 = some (.bmap .str es1 bs cl) := by rw [put_ne _ _ _ _ dm]; exact q2
      have p3 : ∀ i o, G1 i = some o → ¬ i = i1 → (G.put it (.iter (some i1) cl (seen ++ [b]))) i = some o := fun i o hi h => by
        rw [put_ne _ _ _ _ (obj_ne hi hit)]; exact q3 i o hi h
      generalize G.put it (.iter (some i1) cl (seen ++ [b])) = G3 at *
      have gc3 := p3 _ _ gc dc
      simp -implicitDefEqProofs only [go_sem, h0, h3, h6]
      refine here_intro p1 p2 hbj hj ?_
      have hkv : (Key.s f.path).av .str = .str f.path := rfl
      have u1 := sUnder_eq f.path c.file.path (r2 f hf).1 hp1
      have u2 := sUnder_eq c.file.path f.path hp1 (r2 f hf).1
      have bad : (underB f.path c.file.path || underB c.file.path f.path) = true → conflictV m.files c.file.path = true := fun h => List.any_eq_true.2 ⟨f, hf, h⟩
      by_cases b1 : underB f.path c.file.path = true
      · rw [b1] at u1
        rw [if_pos (bad (by rw [b1]; rfl))] at hv
        subst hv
        simp -implicitDefEqProofs only [go_sem, h0, h3, h6, hkv, u1, gc3]
        exact Done.via (Ghost.unborn p2) (Done.now ⟨rfl, RW.mono hR1 (sub_back g1 p3)⟩)
      have b1 : underB f.path c.file.path = false := by simpa using b1
      rw [b1] at u1
      by_cases b2 : underB c.file.path f.path = true
      · rw [b2] at u2
        rw [if_pos (bad (by rw [b2]; simp))] at hv
        subst hv
        simp -implicitDefEqProofs only [go_sem, h0, h3, h6, hkv, u1, u2, gc3]
        exact Done.via (Ghost.unborn p2) (Done.now ⟨rfl, RW.mono hR1 (sub_back g1 p3)⟩)
      have b2 : underB c.file.path f.path = false := by simpa using b2
      rw [b2] at u2
      simp -implicitDefEqProofs only [go_sem, h0, h3, h6, hkv, u1, u2, gc3]
      exact Again.mk (js ++ [j], seen ++ [b], ks ++ [keyS (.s f.path, .agg (encFile f))]) (by simp -implicitDefEqProofs only [go_sem, h0, h3, h6]) ⟨hS2, fun k hk => by
        rcases List.mem_append.1 hk with hk | hk
        · exact hno k hk
        · rw [List.mem_singleton.1 hk]; exact ⟨b1, b2⟩, p1, p2, p3⟩ (by simp only [List.length_append, List.length_singleton] at hlen ⊢; omega)
    clear q1 q2 q3 hit dm hn hbl dni
    rintro r G9 ⟨hsub, hcf, e0, e3⟩
    rw [if_neg (by rw [hcf]; simp)] at hv
    replace hR1 := RW.mono hR1 hsub
    replace gc := hsub _ _ gc
    replace g1 := hsub _ _ g1
    replace kw := hsub _ _ kw
    clear hsub g2 g3 gp hcf hce
    have gp : ∀ i, G9 i = none → ¬ ic = i := fun i hi e => by rw [e, hi] at gc; cases gc
    cases hk : getK (·.path) c.file.path m.files with
    | none =>
      rw [hk] at hg1 hv
      simp only [Option.map_none] at hg1
      by_cases cl : 2000 ≤ m.files.length
      · rw [if_pos (by simp; omega)] at hv
        subst hv
        have yl : decide ((2000 : Int) ≤ m.files.length) = true := decide_eq_true (by omega)
        simp -implicitDefEqProofs only [go_sem, e0, e3, gc, kw, g1, hg1]
        with_reducible refine nwC_intro fun i6 hi6 => ?_
        have hR2 : RWM H (G9.put i6 (.cells ([.str [], .str [], .bool false]))) iw i1 i2 i3 ta m := hR1.put hi6 _
        have gc2 : (G9.put i6 (.cells ([.str [], .str [], .bool false]))) ic = some (.cells (encChg c)) := by rw [put_ne _ _ _ _ (gp _ hi6)]; exact gc
        unfold encChg at gc2
        have g6 := put_same G9 i6 (.cells ([.str [], .str [], .bool false]))
        try simp -implicitDefEqProofs only [go_sem]
        generalize G9.put i6 _ = G2 at *
        have kw2 := hR2.w
        obtain ⟨es, k1, mm⟩ := hR2.f
        have ml := mm.len
        simp -implicitDefEqProofs only [go_sem, e0, e3, gc2, kw2, k1, g6, ml, yl]
        exact Done.now ⟨rfl, hR2⟩
      · rw [if_neg (by simp; omega)] at hv
        subst hv
        have yl : decide ((2000 : Int) ≤ m.files.length) = false := decide_eq_false (by omega)
        simp -implicitDefEqProofs only [go_sem, e0, e3, gc, kw, g1, hg1]
        with_reducible refine nwC_intro fun i6 hi6 => ?_
        have hR2 : RWM H (G9.put i6 (.cells ([.str [], .str [], .bool false]))) iw i1 i2 i3 ta m := hR1.put hi6 _
        have gc2 : (G9.put i6 (.cells ([.str [], .str [], .bool false]))) ic = some (.cells (encChg c)) := by rw [put_ne _ _ _ _ (gp _ hi6)]; exact gc
        unfold encChg at gc2
        have g6 := put_same G9 i6 (.cells ([.str [], .str [], .bool false]))
        try simp -implicitDefEqProofs only [go_sem]
        generalize G9.put i6 _ = G2 at *
        have kw2 := hR2.w
        obtain ⟨es, k1, mm⟩ := hR2.f
        have ml := mm.len
        simp -implicitDefEqProofs only [go_sem, e0, e3, gc2, kw2, k1, g6, ml, yl]
        exact Done.now ⟨rfl, hR2.setF (mm.set c.file)⟩
    | some f =>
      rw [hk] at hg1 hv
      simp only [Option.map_some] at hg1
      unfold encFile at hg1
      rw [if_neg (by simp)] at hv
      subst hv
      simp -implicitDefEqProofs only [go_sem, e0, e3, gc, kw, g1, hg1]
      with_reducible refine nwC_intro fun i6 hi6 => ?_
      have hR2 : RWM H (G9.put i6 (.cells (encFile f))) iw i1 i2 i3 ta m := hR1.put hi6 _
      have gc2 : (G9.put i6 (.cells (encFile f))) ic = some (.cells (encChg c)) := by rw [put_ne _ _ _ _ (gp _ hi6)]; exact gc
      unfold encChg at gc2
      have g6 := put_same G9 i6 (.cells (encFile f))
      unfold encFile at hR2 gc2 g6
      try simp -implicitDefEqProofs only [go_sem]
      generalize G9.put i6 _ = G2 at *
      have kw2 := hR2.w
      obtain ⟨es, k1, mm⟩ := hR2.f
      simp -implicitDefEqProofs only [go_sem, e0, e3, gc2, kw2, k1, g6]
      exact Done.now ⟨rfl, hR2.setF (mm.set c.file)⟩
  have y1 : decide (c.kind = 1) = false := decide_eq_false k1
  rw [if_neg k1] at hv
  by_cases k3 : c.kind = 3
  · have y3 : decide (c.kind = 3) = true := decide_eq_true k3
    rw [if_pos k3] at hv
    cases hk : getK (·.key) c.set.key m.sets with
    | none =>
      rw [hk] at hg2 hv
      simp only [Option.map_none] at hg2
      by_cases cl : 2000 ≤ m.sets.length
      · rw [if_pos (by simp; omega)] at hv
        subst hv
        have yl : decide ((2000 : Int) ≤ m.sets.length) = true := decide_eq_true (by omega)
        have hR2 := hR1
        obtain ⟨es, k1, mm⟩ := hR2.s
        have kw2 := kw
        have gc2 := gc
        obtain rfl : es = es2 := by rw [k1] at g2; cases g2; rfl
        have ml := mm.len
        simp -implicitDefEqProofs only [go_sem, y0, y2, y4, y6, y1, y3, gc2, kw2, k1, hg2, ml, yl]
        exact Done.now ⟨rfl, hR2⟩
      · rw [if_neg (by simp; omega)] at hv
        subst hv
        have yl : decide ((2000 : Int) ≤ m.sets.length) = false := decide_eq_false (by omega)
        have hR2 := hR1
        obtain ⟨es, k1, mm⟩ := hR2.s
        have kw2 := kw
        have gc2 := gc
        obtain rfl : es = es2 := by rw [k1] at g2; cases g2; rfl
        have ml := mm.len
        simp -implicitDefEqProofs only [go_sem, y0, y2, y4, y6, y1, y3, gc2, kw2, k1, hg2, ml, yl]
        exact Done.now ⟨rfl, hR2.setS (mm.set c.set)⟩
    | some f =>
      rw [hk] at hg2 hv
      simp only [Option.map_some] at hg2
      rw [if_neg (by simp)] at hv
      subst hv
      have hR2 := hR1
      obtain ⟨es, k1, mm⟩ := hR2.s
      have kw2 := kw
      have gc2 := gc
      obtain rfl : es = es2 := by rw [k1] at g2; cases g2; rfl
      simp -implicitDefEqProofs only [go_sem, y0, y2, y4, y6, y1, y3, gc2, kw2, k1, hg2]
      exact Done.now ⟨rfl, hR2.setS (mm.set c.set)⟩
  have y3 : decide (c.kind = 3) = false := decide_eq_false k3
  rw [if_neg k3] at hv
  cases hk : getK (·.name) c.svc.name m.svcs with
    | none =>
      rw [hk] at hg3 hv
      simp only [Option.map_none] at hg3
      by_cases cl : 100 ≤ m.svcs.length
      · rw [if_pos (by simp; omega)] at hv
        subst hv
        have yl : decide ((100 : Int) ≤ m.svcs.length) = true := decide_eq_true (by omega)
        simp -implicitDefEqProofs only [go_sem, y0, y2, y4, y6, y1, y3, gc, kw, g3, hg3]
        with_reducible refine nwC_intro fun i6 hi6 => ?_
        have hR2 : RWM H (G1.put i6 (.cells ([.str [], .str [], .bool false, .bool false]))) iw i1 i2 i3 ta m := hR1.put hi6 _
        have gc2 : (G1.put i6 (.cells ([.str [], .str [], .bool false, .bool false]))) ic = some (.cells (encChg c)) := by rw [put_ne _ _ _ _ (gp _ hi6)]; exact gc
        unfold encChg at gc2
        have g6 := put_same G1 i6 (.cells ([.str [], .str [], .bool false, .bool false]))
        try simp -implicitDefEqProofs only [go_sem]
        generalize G1.put i6 _ = G2 at *
        have kw2 := hR2.w
        obtain ⟨es, k1, mm⟩ := hR2.v
        have ml := mm.len
        simp -implicitDefEqProofs only [go_sem, gc2, kw2, k1, g6, ml, yl]
        exact Done.now ⟨rfl, hR2⟩
      · rw [if_neg (by simp; omega)] at hv
        subst hv
        have yl : decide ((100 : Int) ≤ m.svcs.length) = false := decide_eq_false (by omega)
        simp -implicitDefEqProofs only [go_sem, y0, y2, y4, y6, y1, y3, gc, kw, g3, hg3]
        with_reducible refine nwC_intro fun i6 hi6 => ?_
        have hR2 : RWM H (G1.put i6 (.cells ([.str [], .str [], .bool false, .bool false]))) iw i1 i2 i3 ta m := hR1.put hi6 _
        have gc2 : (G1.put i6 (.cells ([.str [], .str [], .bool false, .bool false]))) ic = some (.cells (encChg c)) := by rw [put_ne _ _ _ _ (gp _ hi6)]; exact gc
        unfold encChg at gc2
        have g6 := put_same G1 i6 (.cells ([.str [], .str [], .bool false, .bool false]))
        try simp -implicitDefEqProofs only [go_sem]
        generalize G1.put i6 _ = G2 at *
        have kw2 := hR2.w
        obtain ⟨es, k1, mm⟩ := hR2.v
        have ml := mm.len
        simp -implicitDefEqProofs only [go_sem, gc2, kw2, k1, g6, ml, yl]
        exact Done.now ⟨rfl, hR2.setV (mm.set c.svc)⟩
    | some f =>
      rw [hk] at hg3 hv
      simp only [Option.map_some] at hg3
      unfold encSvc at hg3
      rw [if_neg (by simp)] at hv
      subst hv
      simp -implicitDefEqProofs only [go_sem, y0, y2, y4, y6, y1, y3, gc, kw, g3, hg3]
      with_reducible refine nwC_intro fun i6 hi6 => ?_
      have hR2 : RWM H (G1.put i6 (.cells (encSvc f))) iw i1 i2 i3 ta m := hR1.put hi6 _
      have gc2 : (G1.put i6 (.cells (encSvc f))) ic = some (.cells (encChg c)) := by rw [put_ne _ _ _ _ (gp _ hi6)]; exact gc
      unfold encChg at gc2
      have g6 := put_same G1 i6 (.cells (encSvc f))
      unfold encSvc at hR2 gc2 g6
      try simp -implicitDefEqProofs only [go_sem]
      generalize G1.put i6 _ = G2 at *
      have kw2 := hR2.w
      obtain ⟨es, k1, mm⟩ := hR2.v
      simp -implicitDefEqProofs only [go_sem, gc2, kw2, k1, g6]
      exact Done.now ⟨rfl, hR2.setV (mm.set c.svc)⟩
end Go.Proofs

/- How many files lie below a directory: plain Lean, no program. -/
namespace Go.Proofs
open Go Go.Abs
set_option linter.unusedSimpArgs false
set_option linter.unusedVariables false
/-- A map of counts. -/
def CountOK (es : List (Key × AV)) (F : Bytes → Int) : Prop := ∀ d, (mget es (.s d)).getD (.int .i64 0) = .int .i64 (F d)
theorem CountOK.nil : CountOK [] (fun _ => 0) := fun _ => rfl
theorem CountOK.set {es : List (Key × AV)} {F : Bytes → Int} (h : CountOK es F) (d : Bytes) (v : Int) : CountOK (mset es (.s d) (.int .i64 v)) (fun x => if d = x then v else F x) := fun x => by
  rw [mget_mset]
  by_cases e : d = x
  · subst e
    simp
  · have e1 : ¬ Key.s d = Key.s x := fun h => e (by cases h; rfl)
    rw [if_neg e1]
    simp only [if_neg e]
    exact h x
end Go.Proofs
