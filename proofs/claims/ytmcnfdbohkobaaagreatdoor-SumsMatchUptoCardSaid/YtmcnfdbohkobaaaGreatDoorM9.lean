/-
  Walks and plain laws, part 9.
-/
import Derived.Test.YtmcnfdbohkobaaaGreatDoorM8
import Derived.Test.YtmcnfdbohkobaaaGreatDoorM4
/- The law SumsMatch. -/
namespace Go.Proofs
open Go Go.Abs
set_option linter.unusedSimpArgs false
set_option linter.unusedVariables false
set_option maxRecDepth 20000
abbrev MT := MacV × Tail × Tail × Tail × Tail
def encMT (p : MT) : AV := .agg (encMac p.1 p.2.1 p.2.2.1 p.2.2.2.1 p.2.2.2.2)
theorem encMT_inj {p q : MT} (e : encMT p = encMT q) : p.1 = q.1 := by
  unfold encMT at e
  simp only [AV.agg.injEq] at e
  have h1 := decMac_enc p.1 p.2.1 p.2.2.1 p.2.2.2.1 p.2.2.2.2
  rw [e, decMac_enc] at h1
  exact (Option.some.inj h1).symm
noncomputable def sSameM := spF (fun p : MT × MT => [encMT p.1, encMT p.2]) (fun p => macR p.1.1) fun p => .bool (decide (p.1.1 = p.2.1))
theorem sSameM_eq (m n : MacV) (a b c d a' b' c' d' : Tail) (h : macR m) : sSameM [.agg (encMac m a b c d), .agg (encMac n a' b' c' d')] = some (.bool (decide (m = n))) := spF_eq (enc := fun p : MT × MT => [encMT p.1, encMT p.2]) (fun p q e => by
  simp only [List.cons.injEq, and_true] at e
  rw [encMT_inj e.1, encMT_inj e.2]) ((m, a, b, c, d), (n, a', b', c', d')) h
noncomputable def sPrintM := spF (fun p : MT => [encMT p]) (fun p => macR p.1 ∧ (macText p.1).length ≤ 140737488355328) fun p => .str (macText p.1)
theorem sPrintM_eq (m : MacV) (a b c d : Tail) (h : macR m ∧ (macText m).length ≤ 140737488355328) : sPrintM [.agg (encMac m a b c d)] = some (.str (macText m)) := spF_eq (enc := fun p : MT => [encMT p]) (fun p q e => by
  simp only [List.cons.injEq, and_true] at e
  rw [encMT_inj e]) (m, a, b, c, d) h
noncomputable def sBootM := spF (fun p : MT => [encMT p]) (fun p => macR p.1) fun p => .agg (encMac (bootV p.1) .unk .unk .unk .unk)
theorem sBootM_eq (m : MacV) (a b c d : Tail) (h : macR m) : sBootM [.agg (encMac m a b c d)] = some (.agg (encMac (bootV m) .unk .unk .unk .unk)) := spF_eq (enc := fun p : MT => [encMT p]) (fun p q e => by
  simp only [List.cons.injEq, and_true] at e
  rw [encMT_inj e]) (m, a, b, c, d) h
noncomputable def puSM : Pures := putP 11 sBootM (putP 10 sPrintM (putP 8 sSameM (putP 7 sSameM puM)))
theorem puSM_dyn : isDyn puSM = false := by simp only [puSM, go_sem, Nat.reduceEqDiff]
attribute [go_sem] puSM_dyn
theorem puSM_ok : PuOK Tryz.prog puSM := .put (.put (.put (.put (puM_ok) (spF_ok fun p H h => dSame_calls _ _ _ _ _ _ _ _ _ _ H h)) (spF_ok fun p H h => rSame_calls _ _ _ _ _ _ _ _ _ _ H h)) (spF_ok fun p H h => rPrint_calls _ _ _ _ _ H h.1 h.2)) (spF_ok fun p H h => bootR_calls _ _ _ _ _ H h)
def SmQ (H : Heap) (i4 i8 : Nat) (m : MacV) (ta tb tc td : Tail) (r : Regs) (G : Heap) : Prop := H.Sub G ∧ G i4 = some (.cells [.sl (m.facts.map encSet) ta, .sl (m.files.map encFile) tb, .sl (m.sets.map encSet) tc, .sl (m.svcs.map encSvc) td]) ∧ G i8 = some (.cells [.sl ((bootV m).facts.map encSet) .unk, .sl ((bootV m).files.map encFile) .unk, .sl ((bootV m).sets.map encSet) .unk, .sl ((bootV m).svcs.map encSvc) .unk]) ∧ r 4 = .ptr i4 0 ∧ r 7 = .str (macText m) ∧ r 8 = .ptr i8 0 ∧ r 9 = .int .i64 (sizeV m.files)
set_option maxHeartbeats 12800000 in
theorem sumsMatch_calls (text : Bytes) (m0 n0 : MacV) (xa xb xc xd ya yb yc yd : Tail) (H : Heap) (ht : text.length ≤ 1000000000) (hr0 : macR m0) (hn0 : macR n0) :
    ACalls Tryz.prog 3 [.str text, .agg (encMac m0 xa xb xc xd), .agg (encMac n0 ya yb yc yd)] H fun x H' => x = .bool true ∧ H' = H := by
  have hS := Heap.Sub.rfl' H
  have hR : Room = 1099511627776 := rfl
  have hs1 : text.length ≤ Room := by rw [hR]; omega
  have q1 := (sSum_eq text).trans (if_pos hs1)
  have q2 := sSameM_eq m0 n0 xa xb xc xd ya yb yc yd hr0
  have q3 := sSameM_eq m0 m0 xa xb xc xd xa xb xc xd hr0
  rw [show decide (m0 = m0) = true from decide_eq_true rfl] at q3
  have y1 : decide (¬ sumOf text = sumOf text) = false := decide_eq_false (by simp)
  generalize decide (m0 = n0) = b0 at *
  have y2 : (!(b0 == b0)) = false := by cases b0 <;> rfl
  have hn : nameB [97] = true := by decide
  refine ACalls.of_code (X := { pure := puSM }) puSM_ok Tryz.func3 (by kernel_rfl) rfl (by kernel_rfl) (Nat.le_of_ble_eq_true rfl) ?_
  simp -implicitDefEqProofs only [go_sem, Tryz.f3, encMac]
  with_reducible refine nwC_intro fun i4 hi4 => ?_
  generalize E4 : Heap.put H i4 _ = G1
  have hO_4 := obj_new E4 hi4 hS
  have n4 := hO_4.1
  have hS := hO_4.2.1
  have g4 := hO_4.2.2.1
  clear hO_4
  simp -implicitDefEqProofs only [go_sem]
  with_reducible refine nwC_intro fun i5 hi5 => ?_
  generalize E5 : Heap.put G1 i5 _ = G2
  have hO_5 := obj_new E5 hi5 hS
  have n5 := hO_5.1
  have hS := hO_5.2.1
  have g5 := hO_5.2.2.1
  have d4_5 := obj_ne g4 hi5
  have g4 := hO_5.2.2.2 _ _ g4
  clear hO_5
  have hft := fit_calls m0 xa xb xc xd G2 hr0
  unfold encMac at hft q2 q3
  simp -implicitDefEqProofs only [go_sem, puSM, puM, puN]
  refine (landed_calls G2).pure_next _ ?_
  simp -implicitDefEqProofs only [go_sem, puSM, puM, g4, g5, q1, q2, q3, y1, y2]
  refine hft.mono ?_
  rintro x G9 ⟨m, ta, tb, tc, td, rfl, hM, rfl⟩
  clear hft q2 q3
  have hml := macText_len hM
  have p1 := fun a b c d => sPrintM_eq m a b c d ⟨hM.R, by omega⟩
  have p2 := fun a b c d => sBootM_eq m a b c d hM.R
  have hbR := (bootV_ok hM).R
  have p3 := sSameM_eq (bootV m) (bootV m) .unk .unk .unk .unk .unk .unk .unk .unk hbR
  rw [show decide (bootV m = bootV m) = true from decide_eq_true rfl] at p3
  have k1 := fun G => sum_calls m ta tb tc td G hM
  have k2 := fun G => size_calls m ta tb tc td G hM
  have k3 := fun G => dBoot_calls m ta tb tc td G hM
  have hs2 : (macText m).length ≤ Room := by rw [hR]; omega
  have p4 := (sSum_eq (macText m)).trans (if_pos hs2)
  have hsz := fun i => sizeV_mac hM i
  have hl2 := hM.l2
  unfold encMac at p1 p2 p3 k1 k2 k3
  simp -implicitDefEqProofs only [go_sem, g4]
  generalize E9 : Heap.put G9 i4 _ = G3
  have hS3 := obj_sub E9 n4 hS
  have g4 : G3 i4 = some (.cells [.sl (m.facts.map encSet) ta, .sl (m.files.map encFile) tb, .sl (m.sets.map encSet) tc, .sl (m.svcs.map encSvc) td]) := obj_at E9
  clear E9 E4 E5 hS g5
  have hS := hS3
  simp -implicitDefEqProofs only [go_sem, puSM, puM, puN, g4, p1, p2]
  with_reducible refine nwC_intro fun i8 hi8 => ?_
  generalize E8 : Heap.put G3 i8 _ = G4
  have hO_8 := obj_new E8 hi8 hS
  have n8 := hO_8.1
  have hS := hO_8.2.1
  have g8 := hO_8.2.2.1
  have d4_8 := obj_ne g4 hi8
  have g4 := hO_8.2.2.2 _ _ g4
  clear hO_8
  simp -implicitDefEqProofs only [go_sem, puSM, puM, puN, g4, p1, p2, g8]
  generalize E9 : Heap.put G4 i8 _ = G5
  have hS5 := obj_sub E9 n8 hS
  have g8 : G5 i8 = some (.cells [.sl ((bootV m).facts.map encSet) .unk, .sl ((bootV m).files.map encFile) .unk, .sl ((bootV m).sets.map encSet) .unk, .sl ((bootV m).svcs.map encSvc) .unk]) := obj_at E9
  have g4 : G5 i4 = some (.cells [.sl (m.facts.map encSet) ta, .sl (m.files.map encFile) tb, .sl (m.sets.map encSet) tc, .sl (m.svcs.map encSvc) td]) := obj_keep E9 d4_8 g4
  clear E9 hS E8 hS3
  simp -implicitDefEqProofs only [go_sem, g4]
  with_reducible refine aloop_cut 0 (SmQ H i4 i8 m ta tb tc td) ?_ ?_
  rotate_left
  · refine aloop_intro (σ := Nat) (fun i => [(4, .ptr i4 0), (7, .str (macText m)), (8, .ptr i8 0), (9, .int .i64 (sizeV (m.files.take i))), (49, .sl (m.files.map encFile) tb), (50, .int .i64 m.files.length), (51, .int .i64 i)])
      (fun i G => H.Sub G ∧ i ≤ m.files.length ∧ G i4 = some (.cells [.sl (m.facts.map encSet) ta, .sl (m.files.map encFile) tb, .sl (m.sets.map encSet) tc, .sl (m.svcs.map encSvc) td]) ∧ G i8 = some (.cells [.sl ((bootV m).facts.map encSet) .unk, .sl ((bootV m).files.map encFile) .unk, .sl ((bootV m).sets.map encSet) .unk, .sl ((bootV m).svcs.map encSvc) .unk])) (fun i => m.files.length - i) 0 ?_ ?_ ?_
    · simp -implicitDefEqProofs only [go_sem, List.take_zero]
      exact rfl
    · exact ⟨hS5, Nat.zero_le _, g4, g8⟩
    clear hS5 g4 g8
    rintro i r G hv ⟨hS, hi, g4, g8⟩
    have e4 := hv.1
    have e7 := hv.2.1
    have e8 := hv.2.2.1
    have e9 := hv.2.2.2.1
    have ea := hv.2.2.2.2.1
    have eb := hv.2.2.2.2.2.1
    have ec := hv.2.2.2.2.2.2.1
    clear hv
    by_cases g : i < m.files.length
    rotate_left
    · have y0 : decide ((i : Int) < m.files.length) = false := decide_eq_false (by omega)
      obtain rfl : i = m.files.length := by omega
      rw [List.take_length] at e9
      simp -implicitDefEqProofs only [go_sem, e4, e7, e8, e9, ea, eb, ec, y0]
      exact ⟨hS, g4, g8, by simp -implicitDefEqProofs only [go_sem, e4], by simp -implicitDefEqProofs only [go_sem, e7], by simp -implicitDefEqProofs only [go_sem, e8], by simp -implicitDefEqProofs only [go_sem, e9]⟩
    have y0 : decide ((i : Int) < m.files.length) = true := decide_eq_true (by omega)
    obtain ⟨x, hx⟩ : ∃ x, m.files[i]? = some x := getD_get' g
    have ws : IntKind.i64.wrap ((i : Int) + 1) = ((i + 1 : Nat) : Int) := by rw [Go.IntWalk.i64_in _ (by omega)]; omega
    have h1 := sizeV_take hx
    have h2 := hsz (i + 1)
    have wl : IntKind.i64.wrap ((sizeV (m.files.take i) : Int) + (x.data.length : Int)) = ((sizeV (m.files.take (i + 1)) : Nat) : Int) := by rw [Go.IntWalk.i64_in _ (by omega)]; omega
    have hU : ∀ (a : FileV), a ∈ m.files → (encFile a).length = 3 := fun _ _ => rfl
    obtain ⟨p, dt, ru⟩ := x
    simp only at wl
    simp -implicitDefEqProofs only [go_sem, e4, e7, e8, e9, ea, eb, ec, y0, hx]
    refine ⟨hU, Nat.le_refl _, ?_⟩
    simp only [encFile, List.take_succ_cons, List.take_zero, List.take_nil]
    with_reducible refine nwC_intro fun j5 hj5 => ?_
    simp -implicitDefEqProofs only [go_sem, e4, e7, e8, e9, ea, eb, ec, wl, ws]
    exact Again.mk (i + 1) (by simp -implicitDefEqProofs only [go_sem, e4, e7, e8, e9, ea, eb]) ⟨hS.put' (sub_none hS hj5) _, by omega, by rw [put_ne _ _ _ _ (obj_ne g4 hj5)]; exact g4, by rw [put_ne _ _ _ _ (obj_ne g8 hj5)]; exact g8⟩ (by omega)
  clear hS5 g4 g8
  rintro r G ⟨hS, g4, g8, e4, e7, e8, e9⟩
  have z0 : decide ((0 : Int) = 0) = true := rfl
  have z4 : decide ((4 : Int) = 4) = true := rfl
  have z5 : decide (([] : Bytes) = []) = true := rfl
  have z6 : decide (sumOf (macText m) = sumOf (macText m)) = true := decide_eq_true rfl
  have z7 : decide ((sizeV m.files : Int) = sizeV m.files) = true := decide_eq_true rfl
  by_cases hL : 4194304 < (macText m).length
  · have y3 : decide (4194304 < ((macText m).length : Int)) = true := decide_eq_true (by omega)
    rw [if_pos hL] at k1
    simp -implicitDefEqProofs only [go_sem, e4, e7, e8, e9, puSM, puM, puN, p4, y3, g4]
    refine (k1 _).pure_next _ ?_
    simp -implicitDefEqProofs only [go_sem, e4, e7, e8, e9, g4]
    refine (k2 _).pure_next _ ?_
    simp -implicitDefEqProofs only [go_sem, e4, e7, e8, e9, g4]
    refine (k3 _).pure_next _ ?_
    simp -implicitDefEqProofs only [go_sem, e4, e7, e8, e9, g4]
    with_reducible refine nwC_intro fun i18 hi18 => ?_
    have g8 := (put_ne G i18 i8 (.cells [.sl ((bootV m).facts.map encSet) .unk, .sl ((bootV m).files.map encFile) .unk, .sl ((bootV m).sets.map encSet) .unk, .sl ((bootV m).svcs.map encSvc) .unk]) (obj_ne g8 hi18)).trans g8
    simp -implicitDefEqProofs only [go_sem, e4, e7, e8, e9, z0, z4, z5, z7, g8, put_same, puSM, puM, p3]
    exact Done.drop (hS.put' (sub_none hS hi18) _) ⟨rfl, rfl⟩
  · have y3 : decide (4194304 < ((macText m).length : Int)) = false := decide_eq_false (by omega)
    rw [if_neg hL] at k1
    simp -implicitDefEqProofs only [go_sem, e4, e7, e8, e9, puSM, puM, puN, p4, y3, g4]
    refine (k1 _).pure_next _ ?_
    simp -implicitDefEqProofs only [go_sem, e4, e7, e8, e9, g4]
    refine (k2 _).pure_next _ ?_
    simp -implicitDefEqProofs only [go_sem, e4, e7, e8, e9, g4]
    refine (k3 _).pure_next _ ?_
    simp -implicitDefEqProofs only [go_sem, e4, e7, e8, e9, g4]
    with_reducible refine nwC_intro fun i18 hi18 => ?_
    have g8 := (put_ne G i18 i8 (.cells [.sl ((bootV m).facts.map encSet) .unk, .sl ((bootV m).files.map encFile) .unk, .sl ((bootV m).sets.map encSet) .unk, .sl ((bootV m).svcs.map encSvc) .unk]) (obj_ne g8 hi18)).trans g8
    simp -implicitDefEqProofs only [go_sem, e4, e7, e8, e9, z0, z6, z7, g8, put_same, puSM, puM, p3]
    exact Done.drop (hS.put' (sub_none hS hi18) _) ⟨rfl, rfl⟩
end Go.Proofs
