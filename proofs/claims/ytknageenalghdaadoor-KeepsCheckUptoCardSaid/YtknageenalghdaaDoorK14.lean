/- Walks: who holds a place; what an owner holds. -/
import Derived.Test.YtknageenalghdaaDoorK13
namespace Go.Proofs
open Go Go.Abs
set_option linter.unusedSimpArgs false
set_option linter.unusedVariables false
instance (l : List HeldV) : Decidable (keepR l) := inferInstanceAs (Decidable (_ ∧ _))
def decKeep : List AV → Option (List HeldV × Tail)
  | [.sl es t] => (decL decHeld es).map fun l => (l, t)
  | _ => none
theorem decKeep_some {c : List AV} {p : List HeldV × Tail} (h : decKeep c = some p) : c = [.sl (p.1.map encHeld) p.2] := by
  unfold decKeep at h; split at h
  · rename_i es t
    cases hd : decL decHeld es with
    | none => rw [hd] at h; cases h
    | some l =>
      rw [hd] at h; cases h
      rw [decL_some (enc := encHeld) (fun _ _ => decHeld_some) _ _ hd]
  · cases h
theorem decKeep_eq (l : List HeldV) (t : Tail) : decKeep [.sl (l.map encHeld) t] = some (l, t) := by
  simp only [decKeep, decL_map (enc := encHeld) decHeld_enc, Option.map_some]
def sKeepE : List AV → Option AV := fn1 (Rd.agg decKeep) fun p => if keepR p.1 then some (.int .i64 (keepErr p.1)) else none
theorem sKeepE_eq (l : List HeldV) (t : Tail) (h : keepR l) : sKeepE [.agg [.sl (l.map encHeld) t]] = some (.int .i64 (keepErr l)) := by
  show ((Rd.agg decKeep).rd (.agg [.sl (l.map encHeld) t])).bind _ = _
  rw [show (Rd.agg decKeep).rd (.agg [.sl (l.map encHeld) t]) = some (l, t) from decKeep_eq l t]
  simp only [Option.bind_some, if_pos h]
def sThings : List AV → Option AV := fn2 (Rd.agg decKeep) .str fun p o => if keepR p.1 then some (.sl ((thingsL o p.1).map encHeld) .unk) else none
theorem sThings_eq (l : List HeldV) (t : Tail) (o : Bytes) (h : keepR l) : sThings [.agg [.sl (l.map encHeld) t], .str o] = some (.sl ((thingsL o l).map encHeld) .unk) := by
  show ((Rd.agg decKeep).rd (.agg [.sl (l.map encHeld) t])).bind _ = _
  rw [show (Rd.agg decKeep).rd (.agg [.sl (l.map encHeld) t]) = some (l, t) from decKeep_eq l t]
  simp only [Option.bind_some, Rd.str_eq, if_pos h]
def puO1 : Pures := putP 29 sThings (putP 7 sKeepE (putP 10 sKeepE puH4))
theorem puO1_ok : PuOK Tryd.prog puO1 := by
  refine PuOK.put (PuOK.put (PuOK.put puH4_ok ?_) ?_) ?_ <;> intro xs v hv H
  · obtain ⟨x, s, rfl, h1, h2⟩ := fn1_some hv
    split at h2
    · cases h2
      cases Rd.agg_some (fun _ _ => decKeep_some) h1
      exact check_calls _ _ H ‹_›
    · cases h2
  · obtain ⟨x, s, rfl, h1, h2⟩ := fn1_some hv
    split at h2
    · cases h2
      cases Rd.agg_some (fun _ _ => decKeep_some) h1
      exact keepError_calls _ _ H ‹_›
    · cases h2
  · obtain ⟨x, y, p, q, rfl, h1, h2, h3⟩ := fn2_some hv
    split at h3
    · cases h3
      cases Rd.agg_some (fun _ _ => decKeep_some) h1
      cases Rd.str_some h2
      exact things_calls _ _ _ H ‹_›
    · cases h3
theorem eq_place (n : Nat) (a b : Int) (p q : Bytes) : eqT Tryd.prog (n + 2) 62 (.agg [.int .i64 a, .str p]) (.agg [.int .i64 b, .str q]) = some (decide (a = b) && (decide (p = q) && true)) := by
  simp only [eqT, eqFields, tys, readC, TD.agg, List.drop_zero, List.drop_succ_cons, List.head?_cons, if_false, if_true, Bool.false_eq_true]
theorem bin_place (cx cy : Bool) (a b : Int) (p q : Bytes) : bin Tryd.prog .eql 62 cx cy (.agg [.int .i64 a, .str p]) (.agg [.int .i64 b, .str q]) = some (.bool (decide (a = b) && decide (p = q))) := by
  have h := eq_place 4 a b p q
  have e : eqA Tryd.prog 62 cx cy (.agg [.int .i64 a, .str p]) (.agg [.int .i64 b, .str q]) = some (decide (a = b) && (decide (p = q) && true)) := by
    unfold eqA
    simp only [tys, if_true]
    exact h
  show (eqA Tryd.prog 62 cx cy (.agg [.int .i64 a, .str p]) (.agg [.int .i64 b, .str q])).map AV.bool = _
  rw [e, Bool.and_true]; rfl
def thingsV (l : List HeldV) (o : Bytes) : List HeldV × Int := if keepErr l ≠ 0 then ([], keepErr l) else if nameB o = false then ([], 5) else (thingsL o l, 0)
theorem thingsV_calls (l : List HeldV) (t : Tail) (o : Bytes) (H : Heap) (hr : keepR l) (ho : o.length ≤ 1048576) : ACalls Tryd.prog 9 [.agg [.sl (l.map encHeld) t], .str o] H fun x H' => x = .tup [.sl ((thingsV l o).1.map encHeld) .unk, .int .i64 (thingsV l o).2] ∧ H' = H := by
  have hR : Room = 1099511627776 := rfl
  have q1 : o.length ≤ 1099511627776 := by omega
  have hs1 := fun t => sKeepE_eq l t hr
  have hs2 := fun t o => sThings_eq l t o hr
  refine ACalls.of_code (X := { pure := puO1 }) puO1_ok Tryd.func9 (by kernel_rfl) rfl (by kernel_rfl) (Nat.le_of_ble_eq_true rfl) ?_
  simp -implicitDefEqProofs only [go_sem, tys, regs0, Nat.reduceEqDiff, Nat.reduceAdd, Nat.reduceLeDiff, Nat.reduceLT, Nat.reduceMul, Int.natCast_one, Int.natCast_zero, Int.reduceEq, Int.reduceLT, Int.reduceLE, Int.reduceAdd, Int.reduceSub, Int.reduceToNat, UInt8.reduceToNat, Tryd.f9]
  with_reducible refine nwC_intro fun id hid => ?_
  simp +contextual -implicitDefEqProofs only [go_sem, gd_M, tys, regs0, Nat.reduceEqDiff, Nat.reduceAdd, Nat.reduceLeDiff, Nat.reduceLT, Nat.reduceMul, Int.natCast_one, Int.natCast_zero, Int.reduceEq, Int.reduceLT, Int.reduceLE, Int.reduceAdd, Int.reduceSub, Int.reduceToNat, UInt8.reduceToNat, puO1, hs1, hs2]
  refine cnd_intro (fun h => ?_) (fun h => ?_)
  · simp +contextual -implicitDefEqProofs only [go_sem, gd_M, tys, regs0, Nat.reduceEqDiff, Nat.reduceAdd, Nat.reduceLeDiff, Nat.reduceLT, Nat.reduceMul, Int.natCast_one, Int.natCast_zero, Int.reduceEq, Int.reduceLT, Int.reduceLE, Int.reduceAdd, Int.reduceSub, Int.reduceToNat, UInt8.reduceToNat, puO1, hs1, hs2]
    simp only [decide_eq_true_eq] at h
    refine Done.wk 2 (Done.drop1 hid ⟨?_, rfl⟩)
    simp [wk, thingsV, h]
  · simp +contextual -implicitDefEqProofs only [go_sem, gd_M, tys, regs0, Nat.reduceEqDiff, Nat.reduceAdd, Nat.reduceLeDiff, Nat.reduceLT, Nat.reduceMul, Int.natCast_one, Int.natCast_zero, Int.reduceEq, Int.reduceLT, Int.reduceLE, Int.reduceAdd, Int.reduceSub, Int.reduceToNat, UInt8.reduceToNat, puO1, hs1, hs2, puH4, puH3, puH2, puH1, puI, puC5, puC4, puC3, puC2, puC1, puM, puN, sStr_eq, hR, q1]
    simp only [decide_eq_false_iff_not, Decidable.not_not] at h
    refine cnd_intro (fun g => ?_) (fun g => ?_)
    · simp +contextual -implicitDefEqProofs only [go_sem, gd_M, tys, regs0, Nat.reduceEqDiff, Nat.reduceAdd, Nat.reduceLeDiff, Nat.reduceLT, Nat.reduceMul, Int.natCast_one, Int.natCast_zero, Int.reduceEq, Int.reduceLT, Int.reduceLE, Int.reduceAdd, Int.reduceSub, Int.reduceToNat, UInt8.reduceToNat, puO1, hs1, hs2]
      refine Done.wk 2 (Done.drop1 hid ⟨?_, rfl⟩)
      simp at g
      simp [wk, thingsV, h, g]
    · simp +contextual -implicitDefEqProofs only [go_sem, gd_M, tys, regs0, Nat.reduceEqDiff, Nat.reduceAdd, Nat.reduceLeDiff, Nat.reduceLT, Nat.reduceMul, Int.natCast_one, Int.natCast_zero, Int.reduceEq, Int.reduceLT, Int.reduceLE, Int.reduceAdd, Int.reduceSub, Int.reduceToNat, UInt8.reduceToNat, puO1, hs1, hs2]
      refine Done.wk 2 (Done.drop1 hid ⟨?_, rfl⟩)
      simp at g
      simp [wk, thingsV, h, g]
def atB (k : Int) (p : Bytes) (h : HeldV) : Bool := decide (thing h.kind = thing k) && decide (h.path = p)
def ownersL (k : Int) (p : Bytes) (l : List HeldV) : List Bytes := (l.filter (atB k p)).map (·.owner)
def ownersV (l : List HeldV) (k : Int) (p : Bytes) : List Bytes × Int := if keepErr l ≠ 0 then ([], keepErr l) else if ¬ (1 ≤ k ∧ k ≤ 6) then ([], 1) else if (if k = 6 then nameB p else pathB p) = false then ([], 5) else (ownersL k p l, 0)
theorem ownersV_calls (l : List HeldV) (t : Tail) (kd : Int) (pt : Bytes) (H : Heap) (hr : keepR l) (ho : pt.length ≤ 1048576) : ACalls Tryd.prog 8 [.agg [.sl (l.map encHeld) t], .int .i64 kd, .str pt] H fun x H' => x = .tup [.sl ((ownersV l kd pt).1.map encS) .unk, .int .i64 (ownersV l kd pt).2] ∧ H' = H := by
  have hlen := hr.1
  have hR : Room = 1099511627776 := rfl
  have q1 : pt.length ≤ 1099511627776 := by omega
  have hs1 := fun t => sKeepE_eq l t hr
  refine ACalls.of_code (X := { pure := puO1 }) puO1_ok Tryd.func8 (by kernel_rfl) rfl (by kernel_rfl) (Nat.le_of_ble_eq_true rfl) ?_
  simp -implicitDefEqProofs only [go_sem, tys, regs0, Nat.reduceEqDiff, Nat.reduceAdd, Nat.reduceLeDiff, Nat.reduceLT, Nat.reduceMul, Int.natCast_one, Int.natCast_zero, Int.reduceEq, Int.reduceLT, Int.reduceLE, Int.reduceAdd, Int.reduceSub, Int.reduceToNat, UInt8.reduceToNat, Tryd.f8]
  with_reducible refine nwC_intro fun id hid => ?_
  simp +contextual -implicitDefEqProofs only [go_sem, gd_M, tys, regs0, Nat.reduceEqDiff, Nat.reduceAdd, Nat.reduceLeDiff, Nat.reduceLT, Nat.reduceMul, Int.natCast_one, Int.natCast_zero, Int.reduceEq, Int.reduceLT, Int.reduceLE, Int.reduceAdd, Int.reduceSub, Int.reduceToNat, UInt8.reduceToNat, puO1, hs1]
  refine cnd_intro (fun h => ?_) (fun h => ?_)
  · simp +contextual -implicitDefEqProofs only [go_sem, gd_M, tys, regs0, Nat.reduceEqDiff, Nat.reduceAdd, Nat.reduceLeDiff, Nat.reduceLT, Nat.reduceMul, Int.natCast_one, Int.natCast_zero, Int.reduceEq, Int.reduceLT, Int.reduceLE, Int.reduceAdd, Int.reduceSub, Int.reduceToNat, UInt8.reduceToNat, puO1, hs1]
    simp only [decide_eq_true_eq] at h
    refine Done.wk 2 (Done.drop1 hid ⟨?_, rfl⟩)
    simp [wk, ownersV, h]
  · simp +contextual -implicitDefEqProofs only [go_sem, gd_M, tys, regs0, Nat.reduceEqDiff, Nat.reduceAdd, Nat.reduceLeDiff, Nat.reduceLT, Nat.reduceMul, Int.natCast_one, Int.natCast_zero, Int.reduceEq, Int.reduceLT, Int.reduceLE, Int.reduceAdd, Int.reduceSub, Int.reduceToNat, UInt8.reduceToNat, puO1, hs1, puH4, puH3, puH2, puH1, puI, puC5, puC4, puC3, puC2, puC1, puM, puN, sStr_eq, sKind_eq, hR, q1]
    simp only [decide_eq_false_iff_not, Decidable.not_not] at h
    refine cnd_intro (fun g => ?_) (fun g => ?_)
    · simp +contextual -implicitDefEqProofs only [go_sem, gd_M, tys, regs0, Nat.reduceEqDiff, Nat.reduceAdd, Nat.reduceLeDiff, Nat.reduceLT, Nat.reduceMul, Int.natCast_one, Int.natCast_zero, Int.reduceEq, Int.reduceLT, Int.reduceLE, Int.reduceAdd, Int.reduceSub, Int.reduceToNat, UInt8.reduceToNat]
      refine Done.wk 2 (Done.drop1 hid ⟨?_, rfl⟩)
      simp only [Bool.not_eq_true', Bool.and_eq_false_iff, decide_eq_false_iff_not] at g
      have : ¬ (1 ≤ kd ∧ kd ≤ 6) := by omega
      rw [ownersV, if_neg (by simp [h]), if_pos this]
      rfl
    · simp +contextual -implicitDefEqProofs only [go_sem, gd_M, tys, regs0, Nat.reduceEqDiff, Nat.reduceAdd, Nat.reduceLeDiff, Nat.reduceLT, Nat.reduceMul, Int.natCast_one, Int.natCast_zero, Int.reduceEq, Int.reduceLT, Int.reduceLE, Int.reduceAdd, Int.reduceSub, Int.reduceToNat, UInt8.reduceToNat, puO1, hs1, puH4, puH3, puH2, puH1, puI, puC5, puC4, puC3, puC2, puC1, puM, puN, sStr_eq, sKind_eq, hR, q1]
      simp only [Bool.not_eq_false', Bool.and_eq_true, decide_eq_true_eq] at g
      have hv : ownersV l kd pt = if (if kd = 6 then nameB pt else pathB pt) = false then ([], 5) else (ownersL kd pt l, 0) := by rw [ownersV, if_neg (by simp [h]), if_neg (by simp [g])]
      rw [hv]
      clear hv h g
      refine cnd_intro (fun g2 => ?_) (fun g2 => ?_)
      · simp +contextual -implicitDefEqProofs only [go_sem, gd_M, tys, regs0, Nat.reduceEqDiff, Nat.reduceAdd, Nat.reduceLeDiff, Nat.reduceLT, Nat.reduceMul, Int.natCast_one, Int.natCast_zero, Int.reduceEq, Int.reduceLT, Int.reduceLE, Int.reduceAdd, Int.reduceSub, Int.reduceToNat, UInt8.reduceToNat]
        refine Done.wk 2 (Done.drop1 hid ⟨?_, rfl⟩)
        have : (if kd = 6 then nameB pt else pathB pt) = false := by
          by_cases h6 : kd = 6 <;> simp [h6] at g2 ⊢ <;> exact g2
        rw [if_pos this]
        rfl
      · have hv : ¬ (if kd = 6 then nameB pt else pathB pt) = false := by
          by_cases h6 : kd = 6 <;> simp [h6] at g2 ⊢ <;> exact g2
        rw [if_neg hv]
        clear hv g2
        simp +contextual -implicitDefEqProofs only [go_sem, gd_M, tys, regs0, Nat.reduceEqDiff, Nat.reduceAdd, Nat.reduceLeDiff, Nat.reduceLT, Nat.reduceMul, Int.natCast_one, Int.natCast_zero, Int.reduceEq, Int.reduceLT, Int.reduceLE, Int.reduceAdd, Int.reduceSub, Int.reduceToNat, UInt8.reduceToNat]
        refine aloop_intro (σ := Nat × Tail) (fun s => [(1, .int .i64 kd), (2, .str pt), (9, .sl (((l.take s.1).filter (atB kd pt)).map fun h => encS h.owner) s.2), (37, .sl (l.map encHeld) t), (38, .int .i64 l.length), (39, .int .i64 s.1)])
          (fun s G => AppOK H G 1 (((l.take s.1).filter (atB kd pt)).map fun h => encS h.owner) s.2 ∧ s.1 ≤ l.length) (fun s => l.length - s.1) (0, .exact) ?_ ?_ ?_
        · simp +contextual -implicitDefEqProofs only [go_sem, gd_M, tys, regs0, Nat.reduceEqDiff, Nat.reduceAdd, Nat.reduceLeDiff, Nat.reduceLT, Nat.reduceMul, Int.natCast_one, Int.natCast_zero, Int.reduceEq, Int.reduceLT, Int.reduceLE, Int.reduceAdd, Int.reduceSub, Int.reduceToNat, UInt8.reduceToNat]
          simp
        · exact ⟨by simpa using AppOK.nil ((Heap.Sub.rfl' H).put' hid _), by omega⟩
        · intro s r G hv hI
          obtain ⟨i, tl⟩ := s
          have h1 := hv.1
          have h2 := hv.2.1
          have h9 := hv.2.2.1
          have h37 := hv.2.2.2.1
          have h38 := hv.2.2.2.2.1
          have h39 := hv.2.2.2.2.2.1
          have hA := hI.1
          have hi := hI.2
          clear hv hI
          simp only at h1 h2 h9 h37 h38 h39 hA hi
          simp -implicitDefEqProofs only [go_sem, tys, regs0, Nat.reduceEqDiff, Nat.reduceAdd, Nat.reduceLeDiff, Nat.reduceLT, Nat.reduceMul, Int.natCast_one, Int.natCast_zero, Int.reduceEq, Int.reduceLT, Int.reduceLE, Int.reduceAdd, Int.reduceSub, Int.reduceToNat, UInt8.reduceToNat, h1, h2, h9, h37, h38, h39]
          refine cnd_intro (fun h => ?_) (fun h => ?_)
          · simp only [decide_eq_true_eq] at h
            have hi2 : i < l.length := by omega
            have hc := getD_get hi2
            generalize l.getD i default = c at hc
            have hft := filter_take (p := atB kd pt) hc
            obtain ⟨ow, k, p, s, d⟩ := c
            simp -implicitDefEqProofs only [go_sem, tys, regs0, Nat.reduceEqDiff, Nat.reduceAdd, Nat.reduceLeDiff, Nat.reduceLT, Nat.reduceMul, Int.natCast_one, Int.natCast_zero, Int.reduceEq, Int.reduceLT, Int.reduceLE, Int.reduceAdd, Int.reduceSub, Int.reduceToNat, UInt8.reduceToNat, h1, h2, h9, h37, h38, h39, hc, encHeld]
            with_reducible refine nwC_intro fun id4 h4 => ?_
            simp +contextual -implicitDefEqProofs only [go_sem, gd_M, tys, regs0, Nat.reduceEqDiff, Nat.reduceAdd, Nat.reduceLeDiff, Nat.reduceLT, Nat.reduceMul, Int.natCast_one, Int.natCast_zero, Int.reduceEq, Int.reduceLT, Int.reduceLE, Int.reduceAdd, Int.reduceSub, Int.reduceToNat, UInt8.reduceToNat, h1, h2, h9, h37, h38, h39, puO1, puH4, puH3, puH2, puH1, sThingK_eq, sPlace, bin_place]
            refine cnd_intro (fun g => ?_) (fun g => ?_)
            · simp only [Bool.and_eq_true, decide_eq_true_eq] at g
              rw [if_pos (by simp only [atB, Bool.and_eq_true, decide_eq_true_eq]; exact ⟨by omega, g.2⟩)] at hft
              have hle := filter_le (atB kd pt) l i
              simp +contextual -implicitDefEqProofs only [go_sem, gd_M, tys, regs0, Nat.reduceEqDiff, Nat.reduceAdd, Nat.reduceLeDiff, Nat.reduceLT, Nat.reduceMul, Int.natCast_one, Int.natCast_zero, Int.reduceEq, Int.reduceLT, Int.reduceLE, Int.reduceAdd, Int.reduceSub, Int.reduceToNat, UInt8.reduceToNat, h1, h2, h9, h37, h38, h39]
              refine AppOK.step (hA.put h4 _) (unif_enc (enc := fun h : HeldV => encS h.owner) (fun _ => rfl) _) (by simp) (by simp only [List.length_map, List.length_singleton]; omega) (by simp only [List.length_map, List.length_singleton]; omega) (fun tl' G' hA' hK => ?_)
              simp +contextual -implicitDefEqProofs (disch := omega) only [go_sem, gd_M, tys, regs0, Nat.reduceEqDiff, Nat.reduceAdd, Nat.reduceLeDiff, Nat.reduceLT, Nat.reduceMul, Int.natCast_one, Int.natCast_zero, Int.reduceEq, Int.reduceLT, Int.reduceLE, Int.reduceAdd, Int.reduceSub, Int.reduceToNat, UInt8.reduceToNat, Go.IntWalk.i64_in, h1, h2, h9, h37, h38, h39]
              exact Again.mk (i + 1, tl') (by simp +contextual -implicitDefEqProofs (disch := omega) only [go_sem, gd_M, tys, regs0, Nat.reduceEqDiff, Nat.reduceAdd, Nat.reduceLeDiff, Nat.reduceLT, Nat.reduceMul, Int.natCast_one, Int.natCast_zero, Int.reduceEq, Int.reduceLT, Int.reduceLE, Int.reduceAdd, Int.reduceSub, Int.reduceToNat, UInt8.reduceToNat, Go.IntWalk.i64_in, h1, h2, h9, h37, h38, h39, hft]; simp [encS]) ⟨by simp only [hft, List.map_append]; exact hA', by simp only; omega⟩ (by simp only; omega)
            · simp only [Bool.and_eq_false_iff, decide_eq_false_iff_not] at g
              rw [if_neg (by simp only [atB, Bool.and_eq_true, decide_eq_true_eq]; intro e; exact Or.elim g (fun g => g (by omega)) (fun g => g e.2))] at hft
              simp +contextual -implicitDefEqProofs (disch := omega) only [go_sem, gd_M, tys, regs0, Nat.reduceEqDiff, Nat.reduceAdd, Nat.reduceLeDiff, Nat.reduceLT, Nat.reduceMul, Int.natCast_one, Int.natCast_zero, Int.reduceEq, Int.reduceLT, Int.reduceLE, Int.reduceAdd, Int.reduceSub, Int.reduceToNat, UInt8.reduceToNat, Go.IntWalk.i64_in, h1, h2, h9, h37, h38, h39]
              exact Again.mk (i + 1, tl) (by simp +contextual -implicitDefEqProofs (disch := omega) only [go_sem, gd_M, tys, regs0, Nat.reduceEqDiff, Nat.reduceAdd, Nat.reduceLeDiff, Nat.reduceLT, Nat.reduceMul, Int.natCast_one, Int.natCast_zero, Int.reduceEq, Int.reduceLT, Int.reduceLE, Int.reduceAdd, Int.reduceSub, Int.reduceToNat, UInt8.reduceToNat, Go.IntWalk.i64_in, h1, h2, h9, h37, h38, h39, hft]; simp [encS]) ⟨by simp only [hft]; exact hA.put h4 _, by simp only; omega⟩ (by simp only; omega)
          · simp only [decide_eq_false_iff_not] at h
            have e : i = l.length := by omega
            subst e
            simp -implicitDefEqProofs only [go_sem, tys, regs0, Nat.reduceEqDiff, Nat.reduceAdd, Nat.reduceLeDiff, Nat.reduceLT, Nat.reduceMul, Int.natCast_one, Int.natCast_zero, Int.reduceEq, Int.reduceLT, Int.reduceLE, Int.reduceAdd, Int.reduceSub, Int.reduceToNat, UInt8.reduceToNat, h1, h2, h9, h37, h38, h39]
            rw [List.take_length] at *
            refine Done.wk 2 (Done.drop hA.sub ⟨?_, rfl⟩)
            simp [wk, ownersL]
end Go.Proofs
