/- Walks: the law of keeps. -/
import Derived.Test.YtknageenalghdaaDoorK15
namespace Go.Proofs
open Go Go.Abs
set_option linter.unusedSimpArgs false
set_option linter.unusedVariables false
def sEqS : List AV → Option AV := fn2 (Rd.list decS) (Rd.list decS) fun a b => if a.length ≤ 1099511627776 then some (.bool (decide (a = b))) else none
def sEqH : List AV → Option AV := fn2 (Rd.list decHeld) (Rd.list decHeld) fun a b => if a.length ≤ 1099511627776 then some (.bool (decide (a = b))) else none
def sOwners : List AV → Option AV := fn3 (Rd.agg decKeep) (.int .i64) .str fun p k q => if keepR p.1 ∧ q.length ≤ 1048576 then some (.tup [.sl ((ownersV p.1 k q).1.map encS) .unk, .int .i64 (ownersV p.1 k q).2]) else none
def sThingsV : List AV → Option AV := fn2 (Rd.agg decKeep) .str fun p o => if keepR p.1 ∧ o.length ≤ 1048576 then some (.tup [.sl ((thingsV p.1 o).1.map encHeld) .unk, .int .i64 (thingsV p.1 o).2]) else none
def sLanded : List AV → Option AV
  | [] => some (.bool true)
  | _ => none
theorem decS_enc' (a : Bytes) : decS (encS a) = some a := rfl
theorem sEqS_eq (a b : List Bytes) (t t' : Tail) (h : a.length ≤ 1099511627776) : sEqS [.sl (a.map encS) t, .sl (b.map encS) t'] = some (.bool (decide (a = b))) := by
  show ((Rd.list decS).rd (.sl (a.map encS) t)).bind _ = _
  rw [Rd.list_eq (enc := encS) decS_enc' a t]
  show ((Rd.list decS).rd (.sl (b.map encS) t')).bind _ = _
  rw [Rd.list_eq (enc := encS) decS_enc' b t']
  simp only [Option.bind_some, if_pos h]
theorem sEqH_eq (a b : List HeldV) (t t' : Tail) (h : a.length ≤ 1099511627776) : sEqH [.sl (a.map encHeld) t, .sl (b.map encHeld) t'] = some (.bool (decide (a = b))) := by
  show ((Rd.list decHeld).rd (.sl (a.map encHeld) t)).bind _ = _
  rw [Rd.list_eq (enc := encHeld) decHeld_enc a t]
  show ((Rd.list decHeld).rd (.sl (b.map encHeld) t')).bind _ = _
  rw [Rd.list_eq (enc := encHeld) decHeld_enc b t']
  simp only [Option.bind_some, if_pos h]
theorem sOwners_eq (l : List HeldV) (t : Tail) (k : Int) (q : Bytes) (h : keepR l) (h2 : q.length ≤ 1048576) : sOwners [.agg [.sl (l.map encHeld) t], .int .i64 k, .str q] = some (.tup [.sl ((ownersV l k q).1.map encS) .unk, .int .i64 (ownersV l k q).2]) := by
  show ((Rd.agg decKeep).rd (.agg [.sl (l.map encHeld) t])).bind _ = _
  rw [show (Rd.agg decKeep).rd (.agg [.sl (l.map encHeld) t]) = some (l, t) from decKeep_eq l t]
  simp only [Option.bind_some, Rd.str_eq, Rd.int_eq, if_pos (And.intro h h2)]
theorem sThingsV_eq (l : List HeldV) (t : Tail) (q : Bytes) (h : keepR l) (h2 : q.length ≤ 1048576) : sThingsV [.agg [.sl (l.map encHeld) t], .str q] = some (.tup [.sl ((thingsV l q).1.map encHeld) .unk, .int .i64 (thingsV l q).2]) := by
  show ((Rd.agg decKeep).rd (.agg [.sl (l.map encHeld) t])).bind _ = _
  rw [show (Rd.agg decKeep).rd (.agg [.sl (l.map encHeld) t]) = some (l, t) from decKeep_eq l t]
  simp only [Option.bind_some, Rd.str_eq, if_pos (And.intro h h2)]
def puO2 : Pures := putP 13 sEqS (putP 14 sEqH (putP 8 sOwners (putP 9 sThingsV (putP 5 sItemE (putP 4 sLanded puO1)))))
theorem puO2_ok : PuOK Tryd.prog puO2 := by
  refine PuOK.put (PuOK.put (PuOK.put (PuOK.put (PuOK.put (PuOK.put puO1_ok ?_) (sItemE_ok checkItem_calls)) ?_) ?_) ?_) ?_ <;> intro xs v hv H
  · unfold sLanded at hv
    split at hv
    · cases hv; exact landedK_calls H
    · cases hv
  · obtain ⟨x, y, p, q, rfl, h1, h2, h3⟩ := fn2_some hv
    split at h3
    · rename_i hh
      cases h3
      cases Rd.agg_some (fun _ _ => decKeep_some) h1
      cases Rd.str_some h2
      exact thingsV_calls _ _ _ H hh.1 hh.2
    · cases h3
  · obtain ⟨x, y, z, p, k, q, rfl, h1, h2, h3, h4⟩ := fn3_some hv
    split at h4
    · rename_i hh
      cases h4
      cases Rd.agg_some (fun _ _ => decKeep_some) h1
      cases Rd.int_some h2
      cases Rd.str_some h3
      exact ownersV_calls _ _ _ _ H hh.1 hh.2
    · cases h4
  · obtain ⟨x, y, p, q, rfl, h1, h2, h3⟩ := fn2_some hv
    split at h3
    · cases h3
      obtain ⟨t, rfl⟩ := Rd.list_some (fun _ _ => decHeld_some) h1
      obtain ⟨t', rfl⟩ := Rd.list_some (fun _ _ => decHeld_some) h2
      exact eqH_calls _ _ _ _ H ‹_›
    · cases h3
  · obtain ⟨x, y, p, q, rfl, h1, h2, h3⟩ := fn2_some hv
    split at h3
    · cases h3
      obtain ⟨t, rfl⟩ := Rd.list_some (enc := encS) (fun _ _ => decS_some) h1
      obtain ⟨t', rfl⟩ := Rd.list_some (enc := encS) (fun _ _ => decS_some) h2
      exact eqS_calls _ _ _ _ H ‹_›
    · cases h3
theorem at_test (kd : Int) (pt : Bytes) (h : HeldV) : (decide (h.path = pt) && (decide (h.kind = 6) == decide (kd = 6)) && (decide (h.kind = 5) == decide (kd = 5))) = atB kd pt h := by
  obtain ⟨o, k, p, s, d⟩ := h
  simp only [atB, thing]
  by_cases a1 : p = pt <;> by_cases a2 : k = 6 <;> by_cases a3 : k = 5 <;> by_cases a4 : kd = 6 <;> by_cases a5 : kd = 5 <;> simp [a1, a2, a3, a4, a5] <;> omega
set_option maxRecDepth 20000 in
set_option maxHeartbeats 3200000 in
theorem law_calls (c : ChgV) (l : List HeldV) (t : Tail) (kd : Int) (pt ow : Bytes) (H : Heap) (hc : chgR c) (hr : keepR l) (hp : pt.length ≤ 1048576) (ho : ow.length ≤ 1048576) :
    ACalls Tryd.prog 3 [.agg (encChg c), .agg [.sl (l.map encHeld) t], .int .i64 kd, .str pt, .str ow] H fun x H' => x = .bool true ∧ H' = H := by
  have hlen := hr.1
  have hR : Room = 1099511627776 := rfl
  have q1 : pt.length ≤ 1099511627776 := by omega
  have q2 : ow.length ≤ 1099511627776 := by omega
  have hs1 := fun t => sKeepE_eq l t hr
  have hs2 : sItemE [.agg (encChg c)] = some (.int .i64 (itemErr c)) := by
    show (if chgR c then some (AV.int .i64 (itemErr c)) else none) = _
    rw [if_pos hc]
  have hs3 := fun t => sOwners_eq l t kd pt hr hp
  have hs4 := fun t => sThingsV_eq l t ow hr ho
  have hO := ownersV.eq_1 l kd pt
  have hT := thingsV.eq_1 l ow
  generalize ownersV l kd pt = ov at hO hs3
  generalize thingsV l ow = tv at hT hs4
  obtain ⟨k, ⟨a, b, r⟩, ⟨x, y⟩, ⟨p, q, u, v⟩⟩ := c
  obtain ⟨ol, oe⟩ := ov
  obtain ⟨tl, te⟩ := tv
  simp only [encChg] at hs2
  refine ACalls.of_code (X := { pure := puO2 }) puO2_ok Tryd.func3 (by kernel_rfl) rfl (by kernel_rfl) (Nat.le_of_ble_eq_true rfl) ?_
  simp -implicitDefEqProofs only [go_sem, tys, regs0, Nat.reduceEqDiff, Nat.reduceAdd, Nat.reduceLeDiff, Nat.reduceLT, Nat.reduceMul, Int.natCast_one, Int.natCast_zero, Int.reduceEq, Int.reduceLT, Int.reduceLE, Int.reduceAdd, Int.reduceSub, Int.reduceToNat, UInt8.reduceToNat, Tryd.f3, encChg]
  with_reducible refine nwC_intro fun id1 hid1 => ?_
  simp -implicitDefEqProofs only [go_sem, tys, regs0, Nat.reduceEqDiff, Nat.reduceAdd, Nat.reduceLeDiff, Nat.reduceLT, Nat.reduceMul, Int.natCast_one, Int.natCast_zero, Int.reduceEq, Int.reduceLT, Int.reduceLE, Int.reduceAdd, Int.reduceSub, Int.reduceToNat, UInt8.reduceToNat]
  with_reducible refine nwC_intro fun id hid => ?_
  have n1 := (heap_none hid).1
  have n2 := (heap_none hid).2.1
  have hid2 := (heap_none hid).2.2
  clear hid
  simp +contextual -implicitDefEqProofs only [go_sem, gd_M, tys, regs0, Nat.reduceEqDiff, Nat.reduceAdd, Nat.reduceLeDiff, Nat.reduceLT, Nat.reduceMul, Int.natCast_one, Int.natCast_zero, Int.reduceEq, Int.reduceLT, Int.reduceLE, Int.reduceAdd, Int.reduceSub, Int.reduceToNat, UInt8.reduceToNat, puO2, puO1, puH4, puH3, puH2, puH1, puI, puC5, puC4, puC3, puC2, puC1, puM, puN, puR1, sStr_eq, hR, q1, q2, hs1, hs2, hs3, hs4, sLanded, put_ne, n1, n2]
  have hS0 : H.Sub ((H.put id1 (.cells [.int .i64 k, .str a, .str b, .bool r, .str x, .str y, .str p, .str q, .bool u, .bool v])).put id (.cells [.sl (l.map encHeld) t])) := ((Heap.Sub.rfl' H).put' hid1 _).put' hid2 _
  refine cnd_intro (fun h => ?_) (fun h => ?_)
  · simp only [decide_eq_true_eq] at h
    rw [if_pos h] at hO hT
    cases hO
    cases hT
    simp +contextual -implicitDefEqProofs only [go_sem, gd_M, tys, regs0, Nat.reduceEqDiff, Nat.reduceAdd, Nat.reduceLeDiff, Nat.reduceLT, Nat.reduceMul, Int.natCast_one, Int.natCast_zero, Int.reduceEq, Int.reduceLT, Int.reduceLE, Int.reduceAdd, Int.reduceSub, Int.reduceToNat, UInt8.reduceToNat]
    exact Done.drop hS0 ⟨by simp [show IntKind.i64.wrap 0 = 0 from by decide], rfl⟩
  simp only [decide_eq_false_iff_not, Decidable.not_not] at h
  rw [if_neg (by simp [h])] at hO hT
  simp +contextual -implicitDefEqProofs only [go_sem, gd_M, tys, regs0, Nat.reduceEqDiff, Nat.reduceAdd, Nat.reduceLeDiff, Nat.reduceLT, Nat.reduceMul, Int.natCast_one, Int.natCast_zero, Int.reduceEq, Int.reduceLT, Int.reduceLE, Int.reduceAdd, Int.reduceSub, Int.reduceToNat, UInt8.reduceToNat, puO2, puO1, puH4, puH3, puH2, puH1, puI, puC5, puC4, puC3, puC2, puC1, puM, puN, puR1, sStr_eq, hR, q1, q2]
  refine cnd_intro (fun g => ?_) (fun g => ?_)
  · simp only [Bool.or_eq_true, decide_eq_true_eq] at g
    rw [if_pos (by omega)] at hO
    cases hO
    simp +contextual -implicitDefEqProofs only [go_sem, gd_M, tys, regs0, Nat.reduceEqDiff, Nat.reduceAdd, Nat.reduceLeDiff, Nat.reduceLT, Nat.reduceMul, Int.natCast_one, Int.natCast_zero, Int.reduceEq, Int.reduceLT, Int.reduceLE, Int.reduceAdd, Int.reduceSub, Int.reduceToNat, UInt8.reduceToNat, puO2, puO1, puH4, puH3, puH2, puH1, puI, puC5, puC4, puC3, puC2, puC1, puM, puN, puR1, sStr_eq, hR, q1, q2]
    refine cnd_intro (fun g5 => ?_) (fun g5 => ?_)
    · have hb : nameB ow = false := by simpa using g5
      rw [if_pos hb] at hT
      cases hT
      simp +contextual -implicitDefEqProofs only [go_sem, gd_M, tys, regs0, Nat.reduceEqDiff, Nat.reduceAdd, Nat.reduceLeDiff, Nat.reduceLT, Nat.reduceMul, Int.natCast_one, Int.natCast_zero, Int.reduceEq, Int.reduceLT, Int.reduceLE, Int.reduceAdd, Int.reduceSub, Int.reduceToNat, UInt8.reduceToNat]
      exact Done.drop hS0 ⟨rfl, rfl⟩
    · have hb : ¬ nameB ow = false := by simpa using g5
      rw [if_neg hb] at hT
      cases hT
      simp +contextual -implicitDefEqProofs only [go_sem, gd_M, tys, regs0, Nat.reduceEqDiff, Nat.reduceAdd, Nat.reduceLeDiff, Nat.reduceLT, Nat.reduceMul, Int.natCast_one, Int.natCast_zero, Int.reduceEq, Int.reduceLT, Int.reduceLE, Int.reduceAdd, Int.reduceSub, Int.reduceToNat, UInt8.reduceToNat, puO2, put_ne, n1, n2]
      refine aloop_intro (σ := Nat × Tail) (fun s => [(4, .str ow), (14, .sl ((thingsL ow l).map encHeld) .unk), (15, .int .i64 0), (20, .sl (((l.take s.1).filter (ownB ow)).map encHeld) s.2), (147, .sl (l.map encHeld) t), (148, .int .i64 l.length), (149, .int .i64 s.1)])
        (fun s G => AppOK H G 5 (((l.take s.1).filter (ownB ow)).map encHeld) s.2 ∧ s.1 ≤ l.length) (fun s => l.length - s.1) (0, .exact) ?_ ?_ ?_
      · simp +contextual -implicitDefEqProofs only [go_sem, gd_M, tys, regs0, Nat.reduceEqDiff, Nat.reduceAdd, Nat.reduceLeDiff, Nat.reduceLT, Nat.reduceMul, Int.natCast_one, Int.natCast_zero, Int.reduceEq, Int.reduceLT, Int.reduceLE, Int.reduceAdd, Int.reduceSub, Int.reduceToNat, UInt8.reduceToNat, puO2, put_ne, n1, n2]
        simp
      · exact ⟨by simpa using AppOK.nil hS0, by omega⟩
      · intro s r G hv hI
        obtain ⟨i, tl⟩ := s
        have h4 := hv.1
        have h14 := hv.2.1
        have h15 := hv.2.2.1
        have h20 := hv.2.2.2.1
        have h147 := hv.2.2.2.2.1
        have h148 := hv.2.2.2.2.2.1
        have h149 := hv.2.2.2.2.2.2.1
        have hA := hI.1
        have hi := hI.2
        clear hv hI
        simp only at h4 h14 h15 h20 h147 h148 h149 hA hi
        simp -implicitDefEqProofs only [go_sem, tys, regs0, Nat.reduceEqDiff, Nat.reduceAdd, Nat.reduceLeDiff, Nat.reduceLT, Nat.reduceMul, Int.natCast_one, Int.natCast_zero, Int.reduceEq, Int.reduceLT, Int.reduceLE, Int.reduceAdd, Int.reduceSub, Int.reduceToNat, UInt8.reduceToNat, h4, h14, h15, h20, h147, h148, h149]
        refine cnd_intro (fun h => ?_) (fun h => ?_)
        · simp only [decide_eq_true_eq] at h
          have hi2 : i < l.length := by omega
          have hc := getD_get hi2
          generalize l.getD i default = c at hc
          have hft := filter_take (p := ownB ow) hc
          obtain ⟨ow', k', p', s', d'⟩ := c
          simp -implicitDefEqProofs only [go_sem, tys, regs0, Nat.reduceEqDiff, Nat.reduceAdd, Nat.reduceLeDiff, Nat.reduceLT, Nat.reduceMul, Int.natCast_one, Int.natCast_zero, Int.reduceEq, Int.reduceLT, Int.reduceLE, Int.reduceAdd, Int.reduceSub, Int.reduceToNat, UInt8.reduceToNat, h4, h14, h15, h20, h147, h148, h149, hc, encHeld]
          with_reducible refine nwC_intro fun id7 hid7 => ?_
          simp +contextual -implicitDefEqProofs only [go_sem, gd_M, tys, regs0, Nat.reduceEqDiff, Nat.reduceAdd, Nat.reduceLeDiff, Nat.reduceLT, Nat.reduceMul, Int.natCast_one, Int.natCast_zero, Int.reduceEq, Int.reduceLT, Int.reduceLE, Int.reduceAdd, Int.reduceSub, Int.reduceToNat, UInt8.reduceToNat, h4, h14, h15, h20, h147, h148, h149]
          refine cnd_intro (fun g => ?_) (fun g => ?_)
          · simp +contextual -implicitDefEqProofs only [go_sem, gd_M, tys, regs0, Nat.reduceEqDiff, Nat.reduceAdd, Nat.reduceLeDiff, Nat.reduceLT, Nat.reduceMul, Int.natCast_one, Int.natCast_zero, Int.reduceEq, Int.reduceLT, Int.reduceLE, Int.reduceAdd, Int.reduceSub, Int.reduceToNat, UInt8.reduceToNat, h4, h14, h15, h20, h147, h148, h149]
            simp only [decide_eq_true_eq] at g
            rw [if_pos (by simpa [ownB] using g)] at hft
            have hle := filter_le (ownB ow) l i
            refine AppOK.step (hA.put hid7 _) (unif_enc (enc := encHeld) (fun _ => rfl) _) (by simp) (by simp only [List.length_map, List.length_singleton]; omega) (by simp only [List.length_map, List.length_singleton]; omega) (fun tl' G' hA' hK => ?_)
            simp +contextual -implicitDefEqProofs (disch := omega) only [go_sem, gd_M, tys, regs0, Nat.reduceEqDiff, Nat.reduceAdd, Nat.reduceLeDiff, Nat.reduceLT, Nat.reduceMul, Int.natCast_one, Int.natCast_zero, Int.reduceEq, Int.reduceLT, Int.reduceLE, Int.reduceAdd, Int.reduceSub, Int.reduceToNat, UInt8.reduceToNat, Go.IntWalk.i64_in, h4, h14, h15, h20, h147, h148, h149]
            exact Again.mk (i + 1, tl') (by simp +contextual -implicitDefEqProofs (disch := omega) only [go_sem, gd_M, tys, regs0, Nat.reduceEqDiff, Nat.reduceAdd, Nat.reduceLeDiff, Nat.reduceLT, Nat.reduceMul, Int.natCast_one, Int.natCast_zero, Int.reduceEq, Int.reduceLT, Int.reduceLE, Int.reduceAdd, Int.reduceSub, Int.reduceToNat, UInt8.reduceToNat, Go.IntWalk.i64_in, h4, h14, h15, h20, h147, h148, h149, hft]; simp [encHeld]) ⟨by simp only [hft, List.map_append]; exact hA', by simp only; omega⟩ (by simp only; omega)
          · simp +contextual -implicitDefEqProofs (disch := omega) only [go_sem, gd_M, tys, regs0, Nat.reduceEqDiff, Nat.reduceAdd, Nat.reduceLeDiff, Nat.reduceLT, Nat.reduceMul, Int.natCast_one, Int.natCast_zero, Int.reduceEq, Int.reduceLT, Int.reduceLE, Int.reduceAdd, Int.reduceSub, Int.reduceToNat, UInt8.reduceToNat, Go.IntWalk.i64_in, h4, h14, h15, h20, h147, h148, h149]
            simp only [decide_eq_false_iff_not] at g
            rw [if_neg (by simpa [ownB] using g)] at hft
            exact Again.mk (i + 1, tl) (by simp +contextual -implicitDefEqProofs (disch := omega) only [go_sem, gd_M, tys, regs0, Nat.reduceEqDiff, Nat.reduceAdd, Nat.reduceLeDiff, Nat.reduceLT, Nat.reduceMul, Int.natCast_one, Int.natCast_zero, Int.reduceEq, Int.reduceLT, Int.reduceLE, Int.reduceAdd, Int.reduceSub, Int.reduceToNat, UInt8.reduceToNat, Go.IntWalk.i64_in, h4, h14, h15, h20, h147, h148, h149, hft]; simp [encHeld]) ⟨by simp only [hft]; exact hA.put hid7 _, by simp only; omega⟩ (by simp only; omega)
        · simp only [decide_eq_false_iff_not] at h
          have e : i = l.length := by omega
          subst e
          rw [List.take_length] at h20
          have hle : (thingsL ow l).length ≤ 1099511627776 := Nat.le_trans (List.length_filter_le _ _) (by omega)
          have hq := fun t t' => sEqH_eq (thingsL ow l) (thingsL ow l) t t' hle
          have h20' : r 20 = .sl ((thingsL ow l).map encHeld) tl := h20
          clear h20
          simp +contextual -implicitDefEqProofs only [go_sem, gd_M, tys, regs0, Nat.reduceEqDiff, Nat.reduceAdd, Nat.reduceLeDiff, Nat.reduceLT, Nat.reduceMul, Int.natCast_one, Int.natCast_zero, Int.reduceEq, Int.reduceLT, Int.reduceLE, Int.reduceAdd, Int.reduceSub, Int.reduceToNat, UInt8.reduceToNat, h4, h14, h15, h20', h147, h148, h149, puO2, hq]
          exact Done.drop hA.sub ⟨by simp, rfl⟩
  · simp only [Bool.or_eq_false_iff, decide_eq_false_iff_not] at g
    rw [if_neg (by omega)] at hO
    simp +contextual -implicitDefEqProofs only [go_sem, gd_M, tys, regs0, Nat.reduceEqDiff, Nat.reduceAdd, Nat.reduceLeDiff, Nat.reduceLT, Nat.reduceMul, Int.natCast_one, Int.natCast_zero, Int.reduceEq, Int.reduceLT, Int.reduceLE, Int.reduceAdd, Int.reduceSub, Int.reduceToNat, UInt8.reduceToNat, puO2, puO1, puH4, puH3, puH2, puH1, puI, puC5, puC4, puC3, puC2, puC1, puM, puN, puR1, sStr_eq, hR, q1, q2]
    refine cnd_intro (fun g2 => ?_) (fun g2 => ?_)
    · have hb : (if kd = 6 then nameB pt else pathB pt) = false := by
        by_cases h6 : kd = 6 <;> simp [h6] at g2 ⊢ <;> exact g2
      rw [if_pos hb] at hO
      cases hO
      simp +contextual -implicitDefEqProofs only [go_sem, gd_M, tys, regs0, Nat.reduceEqDiff, Nat.reduceAdd, Nat.reduceLeDiff, Nat.reduceLT, Nat.reduceMul, Int.natCast_one, Int.natCast_zero, Int.reduceEq, Int.reduceLT, Int.reduceLE, Int.reduceAdd, Int.reduceSub, Int.reduceToNat, UInt8.reduceToNat, puO2, puO1, puH4, puH3, puH2, puH1, puI, puC5, puC4, puC3, puC2, puC1, puM, puN, puR1, sStr_eq, hR, q1, q2]
      refine cnd_intro (fun g5 => ?_) (fun g5 => ?_)
      · have hb : nameB ow = false := by simpa using g5
        rw [if_pos hb] at hT
        cases hT
        simp +contextual -implicitDefEqProofs only [go_sem, gd_M, tys, regs0, Nat.reduceEqDiff, Nat.reduceAdd, Nat.reduceLeDiff, Nat.reduceLT, Nat.reduceMul, Int.natCast_one, Int.natCast_zero, Int.reduceEq, Int.reduceLT, Int.reduceLE, Int.reduceAdd, Int.reduceSub, Int.reduceToNat, UInt8.reduceToNat]
        exact Done.drop hS0 ⟨rfl, rfl⟩
      · have hb : ¬ nameB ow = false := by simpa using g5
        rw [if_neg hb] at hT
        cases hT
        simp +contextual -implicitDefEqProofs only [go_sem, gd_M, tys, regs0, Nat.reduceEqDiff, Nat.reduceAdd, Nat.reduceLeDiff, Nat.reduceLT, Nat.reduceMul, Int.natCast_one, Int.natCast_zero, Int.reduceEq, Int.reduceLT, Int.reduceLE, Int.reduceAdd, Int.reduceSub, Int.reduceToNat, UInt8.reduceToNat, puO2, put_ne, n1, n2]
        refine aloop_intro (σ := Nat × Tail) (fun s => [(4, .str ow), (14, .sl ((thingsL ow l).map encHeld) .unk), (15, .int .i64 0), (20, .sl (((l.take s.1).filter (ownB ow)).map encHeld) s.2), (147, .sl (l.map encHeld) t), (148, .int .i64 l.length), (149, .int .i64 s.1)])
          (fun s G => AppOK H G 5 (((l.take s.1).filter (ownB ow)).map encHeld) s.2 ∧ s.1 ≤ l.length) (fun s => l.length - s.1) (0, .exact) ?_ ?_ ?_
        · simp +contextual -implicitDefEqProofs only [go_sem, gd_M, tys, regs0, Nat.reduceEqDiff, Nat.reduceAdd, Nat.reduceLeDiff, Nat.reduceLT, Nat.reduceMul, Int.natCast_one, Int.natCast_zero, Int.reduceEq, Int.reduceLT, Int.reduceLE, Int.reduceAdd, Int.reduceSub, Int.reduceToNat, UInt8.reduceToNat, puO2, put_ne, n1, n2]
          simp
        · exact ⟨by simpa using AppOK.nil hS0, by omega⟩
        · intro s r G hv hI
          obtain ⟨i, tl⟩ := s
          have h4 := hv.1
          have h14 := hv.2.1
          have h15 := hv.2.2.1
          have h20 := hv.2.2.2.1
          have h147 := hv.2.2.2.2.1
          have h148 := hv.2.2.2.2.2.1
          have h149 := hv.2.2.2.2.2.2.1
          have hA := hI.1
          have hi := hI.2
          clear hv hI
          simp only at h4 h14 h15 h20 h147 h148 h149 hA hi
          simp -implicitDefEqProofs only [go_sem, tys, regs0, Nat.reduceEqDiff, Nat.reduceAdd, Nat.reduceLeDiff, Nat.reduceLT, Nat.reduceMul, Int.natCast_one, Int.natCast_zero, Int.reduceEq, Int.reduceLT, Int.reduceLE, Int.reduceAdd, Int.reduceSub, Int.reduceToNat, UInt8.reduceToNat, h4, h14, h15, h20, h147, h148, h149]
          refine cnd_intro (fun h => ?_) (fun h => ?_)
          · simp only [decide_eq_true_eq] at h
            have hi2 : i < l.length := by omega
            have hc := getD_get hi2
            generalize l.getD i default = c at hc
            have hft := filter_take (p := ownB ow) hc
            obtain ⟨ow', k', p', s', d'⟩ := c
            simp -implicitDefEqProofs only [go_sem, tys, regs0, Nat.reduceEqDiff, Nat.reduceAdd, Nat.reduceLeDiff, Nat.reduceLT, Nat.reduceMul, Int.natCast_one, Int.natCast_zero, Int.reduceEq, Int.reduceLT, Int.reduceLE, Int.reduceAdd, Int.reduceSub, Int.reduceToNat, UInt8.reduceToNat, h4, h14, h15, h20, h147, h148, h149, hc, encHeld]
            with_reducible refine nwC_intro fun id7 hid7 => ?_
            simp +contextual -implicitDefEqProofs only [go_sem, gd_M, tys, regs0, Nat.reduceEqDiff, Nat.reduceAdd, Nat.reduceLeDiff, Nat.reduceLT, Nat.reduceMul, Int.natCast_one, Int.natCast_zero, Int.reduceEq, Int.reduceLT, Int.reduceLE, Int.reduceAdd, Int.reduceSub, Int.reduceToNat, UInt8.reduceToNat, h4, h14, h15, h20, h147, h148, h149]
            refine cnd_intro (fun g => ?_) (fun g => ?_)
            · simp +contextual -implicitDefEqProofs only [go_sem, gd_M, tys, regs0, Nat.reduceEqDiff, Nat.reduceAdd, Nat.reduceLeDiff, Nat.reduceLT, Nat.reduceMul, Int.natCast_one, Int.natCast_zero, Int.reduceEq, Int.reduceLT, Int.reduceLE, Int.reduceAdd, Int.reduceSub, Int.reduceToNat, UInt8.reduceToNat, h4, h14, h15, h20, h147, h148, h149]
              simp only [decide_eq_true_eq] at g
              rw [if_pos (by simpa [ownB] using g)] at hft
              have hle := filter_le (ownB ow) l i
              refine AppOK.step (hA.put hid7 _) (unif_enc (enc := encHeld) (fun _ => rfl) _) (by simp) (by simp only [List.length_map, List.length_singleton]; omega) (by simp only [List.length_map, List.length_singleton]; omega) (fun tl' G' hA' hK => ?_)
              simp +contextual -implicitDefEqProofs (disch := omega) only [go_sem, gd_M, tys, regs0, Nat.reduceEqDiff, Nat.reduceAdd, Nat.reduceLeDiff, Nat.reduceLT, Nat.reduceMul, Int.natCast_one, Int.natCast_zero, Int.reduceEq, Int.reduceLT, Int.reduceLE, Int.reduceAdd, Int.reduceSub, Int.reduceToNat, UInt8.reduceToNat, Go.IntWalk.i64_in, h4, h14, h15, h20, h147, h148, h149]
              exact Again.mk (i + 1, tl') (by simp +contextual -implicitDefEqProofs (disch := omega) only [go_sem, gd_M, tys, regs0, Nat.reduceEqDiff, Nat.reduceAdd, Nat.reduceLeDiff, Nat.reduceLT, Nat.reduceMul, Int.natCast_one, Int.natCast_zero, Int.reduceEq, Int.reduceLT, Int.reduceLE, Int.reduceAdd, Int.reduceSub, Int.reduceToNat, UInt8.reduceToNat, Go.IntWalk.i64_in, h4, h14, h15, h20, h147, h148, h149, hft]; simp [encHeld]) ⟨by simp only [hft, List.map_append]; exact hA', by simp only; omega⟩ (by simp only; omega)
            · simp +contextual -implicitDefEqProofs (disch := omega) only [go_sem, gd_M, tys, regs0, Nat.reduceEqDiff, Nat.reduceAdd, Nat.reduceLeDiff, Nat.reduceLT, Nat.reduceMul, Int.natCast_one, Int.natCast_zero, Int.reduceEq, Int.reduceLT, Int.reduceLE, Int.reduceAdd, Int.reduceSub, Int.reduceToNat, UInt8.reduceToNat, Go.IntWalk.i64_in, h4, h14, h15, h20, h147, h148, h149]
              simp only [decide_eq_false_iff_not] at g
              rw [if_neg (by simpa [ownB] using g)] at hft
              exact Again.mk (i + 1, tl) (by simp +contextual -implicitDefEqProofs (disch := omega) only [go_sem, gd_M, tys, regs0, Nat.reduceEqDiff, Nat.reduceAdd, Nat.reduceLeDiff, Nat.reduceLT, Nat.reduceMul, Int.natCast_one, Int.natCast_zero, Int.reduceEq, Int.reduceLT, Int.reduceLE, Int.reduceAdd, Int.reduceSub, Int.reduceToNat, UInt8.reduceToNat, Go.IntWalk.i64_in, h4, h14, h15, h20, h147, h148, h149, hft]; simp [encHeld]) ⟨by simp only [hft]; exact hA.put hid7 _, by simp only; omega⟩ (by simp only; omega)
          · simp only [decide_eq_false_iff_not] at h
            have e : i = l.length := by omega
            subst e
            rw [List.take_length] at h20
            have hle : (thingsL ow l).length ≤ 1099511627776 := Nat.le_trans (List.length_filter_le _ _) (by omega)
            have hq := fun t t' => sEqH_eq (thingsL ow l) (thingsL ow l) t t' hle
            have h20' : r 20 = .sl ((thingsL ow l).map encHeld) tl := h20
            clear h20
            simp +contextual -implicitDefEqProofs only [go_sem, gd_M, tys, regs0, Nat.reduceEqDiff, Nat.reduceAdd, Nat.reduceLeDiff, Nat.reduceLT, Nat.reduceMul, Int.natCast_one, Int.natCast_zero, Int.reduceEq, Int.reduceLT, Int.reduceLE, Int.reduceAdd, Int.reduceSub, Int.reduceToNat, UInt8.reduceToNat, h4, h14, h15, h20', h147, h148, h149, puO2, hq]
            exact Done.drop hA.sub ⟨by simp, rfl⟩
    · have hb : ¬ (if kd = 6 then nameB pt else pathB pt) = false := by
        by_cases h6 : kd = 6 <;> simp [h6] at g2 ⊢ <;> exact g2
      rw [if_neg hb] at hO
      cases hO
      simp +contextual -implicitDefEqProofs only [go_sem, gd_M, tys, regs0, Nat.reduceEqDiff, Nat.reduceAdd, Nat.reduceLeDiff, Nat.reduceLT, Nat.reduceMul, Int.natCast_one, Int.natCast_zero, Int.reduceEq, Int.reduceLT, Int.reduceLE, Int.reduceAdd, Int.reduceSub, Int.reduceToNat, UInt8.reduceToNat, puO2, puO1, puH4, puH3, puH2, puH1, puI, puC5, puC4, puC3, puC2, puC1, puM, puN, puR1, sStr_eq, hR, q1, q2, put_ne, n1, n2]
      refine aloop_intro (σ := Nat × Tail) (fun s => [(2, .int .i64 kd), (3, .str pt), (4, .str ow), (6, .ptr id 0), (12, .sl ((ownersL kd pt l).map encS) .unk), (13, .int .i64 0), (14, .sl (tl.map encHeld) .unk), (15, .int .i64 te), (16, .bool (decide (kd = 6))), (17, .sl (((l.take s.1).filter (atB kd pt)).map fun h => encS h.owner) s.2), (70, .sl (l.map encHeld) t), (71, .int .i64 l.length), (72, .int .i64 s.1)])
        (fun s G => AppOK H G 1 (((l.take s.1).filter (atB kd pt)).map fun h => encS h.owner) s.2 ∧ s.1 ≤ l.length ∧ G id = some (.cells [.sl (l.map encHeld) t])) (fun s => l.length - s.1) (0, .exact) ?_ ?_ ?_
      · simp +contextual -implicitDefEqProofs only [go_sem, gd_M, tys, regs0, Nat.reduceEqDiff, Nat.reduceAdd, Nat.reduceLeDiff, Nat.reduceLT, Nat.reduceMul, Int.natCast_one, Int.natCast_zero, Int.reduceEq, Int.reduceLT, Int.reduceLE, Int.reduceAdd, Int.reduceSub, Int.reduceToNat, UInt8.reduceToNat]
        simp
      · exact ⟨by simpa using AppOK.nil hS0, by omega, put_same _ _ _⟩
      · intro s r G hv hI
        obtain ⟨i, tl0⟩ := s
        have u2 := hv.1
        have u3 := hv.2.1
        have u4 := hv.2.2.1
        have u6 := hv.2.2.2.1
        have u12 := hv.2.2.2.2.1
        have u13 := hv.2.2.2.2.2.1
        have u14 := hv.2.2.2.2.2.2.1
        have u15 := hv.2.2.2.2.2.2.2.1
        have u16 := hv.2.2.2.2.2.2.2.2.1
        have u17 := hv.2.2.2.2.2.2.2.2.2.1
        have u70 := hv.2.2.2.2.2.2.2.2.2.2.1
        have u71 := hv.2.2.2.2.2.2.2.2.2.2.2.1
        have u72 := hv.2.2.2.2.2.2.2.2.2.2.2.2.1
        have hA0 := hI.1
        have hi := hI.2.1
        have gid0 := hI.2.2
        clear hv hI
        simp only at u2 u3 u4 u6 u12 u13 u14 u15 u16 u17 u70 u71 u72 hA0 hi gid0
        simp -implicitDefEqProofs only [go_sem, tys, regs0, Nat.reduceEqDiff, Nat.reduceAdd, Nat.reduceLeDiff, Nat.reduceLT, Nat.reduceMul, Int.natCast_one, Int.natCast_zero, Int.reduceEq, Int.reduceLT, Int.reduceLE, Int.reduceAdd, Int.reduceSub, Int.reduceToNat, UInt8.reduceToNat, u2, u3, u4, u6, u12, u13, u14, u15, u16, u17, u70, u71, u72]
        refine cnd_intro (fun h => ?_) (fun h => ?_)
        · simp only [decide_eq_true_eq] at h
          have hi2 : i < l.length := by omega
          have hc := getD_get hi2
          generalize l.getD i default = c at hc
          have hft := filter_take (p := atB kd pt) hc
          obtain ⟨ow', k', p', s', d'⟩ := c
          simp -implicitDefEqProofs only [go_sem, tys, regs0, Nat.reduceEqDiff, Nat.reduceAdd, Nat.reduceLeDiff, Nat.reduceLT, Nat.reduceMul, Int.natCast_one, Int.natCast_zero, Int.reduceEq, Int.reduceLT, Int.reduceLE, Int.reduceAdd, Int.reduceSub, Int.reduceToNat, UInt8.reduceToNat, u2, u3, u4, u6, u12, u13, u14, u15, u16, u17, u70, u71, u72, hc, encHeld]
          with_reducible refine nwC_intro fun id7 hid7 => ?_
          have m1 := (Sub.ne gid0 hid7).2
          simp +contextual -implicitDefEqProofs only [go_sem, gd_M, tys, regs0, Nat.reduceEqDiff, Nat.reduceAdd, Nat.reduceLeDiff, Nat.reduceLT, Nat.reduceMul, Int.natCast_one, Int.natCast_zero, Int.reduceEq, Int.reduceLT, Int.reduceLE, Int.reduceAdd, Int.reduceSub, Int.reduceToNat, UInt8.reduceToNat, u2, u3, u4, u6, u12, u13, u14, u15, u16, u17, u70, u71, u72]
          refine cnd_intro (fun g => ?_) (fun g => ?_)
          · have hb : atB kd pt ⟨ow', k', p', s', d'⟩ = true := by rw [← at_test]; exact g
            simp +contextual -implicitDefEqProofs only [go_sem, gd_M, tys, regs0, Nat.reduceEqDiff, Nat.reduceAdd, Nat.reduceLeDiff, Nat.reduceLT, Nat.reduceMul, Int.natCast_one, Int.natCast_zero, Int.reduceEq, Int.reduceLT, Int.reduceLE, Int.reduceAdd, Int.reduceSub, Int.reduceToNat, UInt8.reduceToNat, u2, u3, u4, u6, u12, u13, u14, u15, u16, u17, u70, u71, u72]
            rw [if_pos hb] at hft
            have hle := filter_le (atB kd pt) l i
            refine AppOK.step (hA0.put hid7 _) (unif_enc (enc := fun h : HeldV => encS h.owner) (fun _ => rfl) _) (by simp) (by simp only [List.length_map, List.length_singleton]; omega) (by simp only [List.length_map, List.length_singleton]; omega) (fun tl' G' hA' hK => ?_)
            simp +contextual -implicitDefEqProofs (disch := omega) only [go_sem, gd_M, tys, regs0, Nat.reduceEqDiff, Nat.reduceAdd, Nat.reduceLeDiff, Nat.reduceLT, Nat.reduceMul, Int.natCast_one, Int.natCast_zero, Int.reduceEq, Int.reduceLT, Int.reduceLE, Int.reduceAdd, Int.reduceSub, Int.reduceToNat, UInt8.reduceToNat, Go.IntWalk.i64_in, u2, u3, u4, u6, u12, u13, u14, u15, u16, u17, u70, u71, u72]
            exact Again.mk (i + 1, tl') (by simp +contextual -implicitDefEqProofs (disch := omega) only [go_sem, gd_M, tys, regs0, Nat.reduceEqDiff, Nat.reduceAdd, Nat.reduceLeDiff, Nat.reduceLT, Nat.reduceMul, Int.natCast_one, Int.natCast_zero, Int.reduceEq, Int.reduceLT, Int.reduceLE, Int.reduceAdd, Int.reduceSub, Int.reduceToNat, UInt8.reduceToNat, Go.IntWalk.i64_in, u2, u3, u4, u6, u12, u13, u14, u15, u16, u17, u70, u71, u72, hft]; simp [encS]) ⟨by simp only [hft, List.map_append]; exact hA', by simp only; omega, hK.cells (by rw [put_ne _ _ _ _ m1]; exact gid0)⟩ (by simp only; omega)
          · have hb : ¬ atB kd pt ⟨ow', k', p', s', d'⟩ = true := by rw [← at_test]; simpa using g
            rw [if_neg hb] at hft
            simp +contextual -implicitDefEqProofs (disch := omega) only [go_sem, gd_M, tys, regs0, Nat.reduceEqDiff, Nat.reduceAdd, Nat.reduceLeDiff, Nat.reduceLT, Nat.reduceMul, Int.natCast_one, Int.natCast_zero, Int.reduceEq, Int.reduceLT, Int.reduceLE, Int.reduceAdd, Int.reduceSub, Int.reduceToNat, UInt8.reduceToNat, Go.IntWalk.i64_in, u2, u3, u4, u6, u12, u13, u14, u15, u16, u17, u70, u71, u72]
            exact Again.mk (i + 1, tl0) (by simp +contextual -implicitDefEqProofs (disch := omega) only [go_sem, gd_M, tys, regs0, Nat.reduceEqDiff, Nat.reduceAdd, Nat.reduceLeDiff, Nat.reduceLT, Nat.reduceMul, Int.natCast_one, Int.natCast_zero, Int.reduceEq, Int.reduceLT, Int.reduceLE, Int.reduceAdd, Int.reduceSub, Int.reduceToNat, UInt8.reduceToNat, Go.IntWalk.i64_in, u2, u3, u4, u6, u12, u13, u14, u15, u16, u17, u70, u71, u72, hft]; simp [encS]) ⟨by simp only [hft]; exact hA0.put hid7 _, by simp only; omega, by rw [put_ne _ _ _ _ m1]; exact gid0⟩ (by simp only; omega)
        · simp only [decide_eq_false_iff_not] at h
          have e : i = l.length := by omega
          subst e
          rw [List.take_length] at u17
          have hle : (ownersL kd pt l).length ≤ 1099511627776 := by rw [ownersL, List.length_map]; exact Nat.le_trans (List.length_filter_le _ _) (by omega)
          have hq := fun t t' => sEqS_eq (ownersL kd pt l) (ownersL kd pt l) t t' hle
          have u17' : r 17 = .sl ((ownersL kd pt l).map encS) tl0 := by rw [u17]; simp [ownersL]
          clear u17
          simp -implicitDefEqProofs only [go_sem, tys, regs0, Nat.reduceEqDiff, Nat.reduceAdd, Nat.reduceLeDiff, Nat.reduceLT, Nat.reduceMul, Int.natCast_one, Int.natCast_zero, Int.reduceEq, Int.reduceLT, Int.reduceLE, Int.reduceAdd, Int.reduceSub, Int.reduceToNat, UInt8.reduceToNat, u2, u3, u4, u6, u12, u13, u14, u15, u16, u17', u70, u71, u72, puO2, puO1, puH4, puH3, puH2, puH1, puI, puC5, puC4, puC3, puC2, puC1, puM, puN, puR1, sStr_eq, hR, q1, q2, hq, gid0]
          refine cnd_intro (fun g5 => ?_) (fun g5 => ?_)
          · have hb : nameB ow = false := by simpa using g5
            rw [if_pos hb] at hT
            cases hT
            simp +contextual -implicitDefEqProofs only [go_sem, gd_M, tys, regs0, Nat.reduceEqDiff, Nat.reduceAdd, Nat.reduceLeDiff, Nat.reduceLT, Nat.reduceMul, Int.natCast_one, Int.natCast_zero, Int.reduceEq, Int.reduceLT, Int.reduceLE, Int.reduceAdd, Int.reduceSub, Int.reduceToNat, UInt8.reduceToNat, u4, u14, u15]
            exact Done.drop hA0.sub ⟨rfl, rfl⟩
          · have hb : ¬ nameB ow = false := by simpa using g5
            rw [if_neg hb] at hT
            cases hT
            simp +contextual -implicitDefEqProofs only [go_sem, gd_M, tys, regs0, Nat.reduceEqDiff, Nat.reduceAdd, Nat.reduceLeDiff, Nat.reduceLT, Nat.reduceMul, Int.natCast_one, Int.natCast_zero, Int.reduceEq, Int.reduceLT, Int.reduceLE, Int.reduceAdd, Int.reduceSub, Int.reduceToNat, UInt8.reduceToNat, puO2, u4, u6, u14, u15, gid0]
            refine aloop_intro (σ := Nat × Tail) (fun s => [(4, .str ow), (14, .sl ((thingsL ow l).map encHeld) .unk), (15, .int .i64 0), (20, .sl (((l.take s.1).filter (ownB ow)).map encHeld) s.2), (147, .sl (l.map encHeld) t), (148, .int .i64 l.length), (149, .int .i64 s.1)])
              (fun s G => AppOK H G 5 (((l.take s.1).filter (ownB ow)).map encHeld) s.2 ∧ s.1 ≤ l.length) (fun s => l.length - s.1) (0, .exact) ?_ ?_ ?_
            · simp +contextual -implicitDefEqProofs only [go_sem, gd_M, tys, regs0, Nat.reduceEqDiff, Nat.reduceAdd, Nat.reduceLeDiff, Nat.reduceLT, Nat.reduceMul, Int.natCast_one, Int.natCast_zero, Int.reduceEq, Int.reduceLT, Int.reduceLE, Int.reduceAdd, Int.reduceSub, Int.reduceToNat, UInt8.reduceToNat, puO2, u4, u6, u14, u15, gid0]
              simp
            · exact ⟨by simpa using AppOK.nil hA0.sub, by omega⟩
            · intro s r G hv hI
              obtain ⟨i, tl⟩ := s
              have h4 := hv.1
              have h14 := hv.2.1
              have h15 := hv.2.2.1
              have h20 := hv.2.2.2.1
              have h147 := hv.2.2.2.2.1
              have h148 := hv.2.2.2.2.2.1
              have h149 := hv.2.2.2.2.2.2.1
              have hA := hI.1
              have hi := hI.2
              clear hv hI
              simp only at h4 h14 h15 h20 h147 h148 h149 hA hi
              simp -implicitDefEqProofs only [go_sem, tys, regs0, Nat.reduceEqDiff, Nat.reduceAdd, Nat.reduceLeDiff, Nat.reduceLT, Nat.reduceMul, Int.natCast_one, Int.natCast_zero, Int.reduceEq, Int.reduceLT, Int.reduceLE, Int.reduceAdd, Int.reduceSub, Int.reduceToNat, UInt8.reduceToNat, h4, h14, h15, h20, h147, h148, h149]
              refine cnd_intro (fun h => ?_) (fun h => ?_)
              · simp only [decide_eq_true_eq] at h
                have hi2 : i < l.length := by omega
                have hc := getD_get hi2
                generalize l.getD i default = c at hc
                have hft := filter_take (p := ownB ow) hc
                obtain ⟨ow', k', p', s', d'⟩ := c
                simp -implicitDefEqProofs only [go_sem, tys, regs0, Nat.reduceEqDiff, Nat.reduceAdd, Nat.reduceLeDiff, Nat.reduceLT, Nat.reduceMul, Int.natCast_one, Int.natCast_zero, Int.reduceEq, Int.reduceLT, Int.reduceLE, Int.reduceAdd, Int.reduceSub, Int.reduceToNat, UInt8.reduceToNat, h4, h14, h15, h20, h147, h148, h149, hc, encHeld]
                with_reducible refine nwC_intro fun id7 hid7 => ?_
                simp +contextual -implicitDefEqProofs only [go_sem, gd_M, tys, regs0, Nat.reduceEqDiff, Nat.reduceAdd, Nat.reduceLeDiff, Nat.reduceLT, Nat.reduceMul, Int.natCast_one, Int.natCast_zero, Int.reduceEq, Int.reduceLT, Int.reduceLE, Int.reduceAdd, Int.reduceSub, Int.reduceToNat, UInt8.reduceToNat, h4, h14, h15, h20, h147, h148, h149]
                refine cnd_intro (fun g => ?_) (fun g => ?_)
                · simp +contextual -implicitDefEqProofs only [go_sem, gd_M, tys, regs0, Nat.reduceEqDiff, Nat.reduceAdd, Nat.reduceLeDiff, Nat.reduceLT, Nat.reduceMul, Int.natCast_one, Int.natCast_zero, Int.reduceEq, Int.reduceLT, Int.reduceLE, Int.reduceAdd, Int.reduceSub, Int.reduceToNat, UInt8.reduceToNat, h4, h14, h15, h20, h147, h148, h149]
                  simp only [decide_eq_true_eq] at g
                  rw [if_pos (by simpa [ownB] using g)] at hft
                  have hle := filter_le (ownB ow) l i
                  refine AppOK.step (hA.put hid7 _) (unif_enc (enc := encHeld) (fun _ => rfl) _) (by simp) (by simp only [List.length_map, List.length_singleton]; omega) (by simp only [List.length_map, List.length_singleton]; omega) (fun tl' G' hA' hK => ?_)
                  simp +contextual -implicitDefEqProofs (disch := omega) only [go_sem, gd_M, tys, regs0, Nat.reduceEqDiff, Nat.reduceAdd, Nat.reduceLeDiff, Nat.reduceLT, Nat.reduceMul, Int.natCast_one, Int.natCast_zero, Int.reduceEq, Int.reduceLT, Int.reduceLE, Int.reduceAdd, Int.reduceSub, Int.reduceToNat, UInt8.reduceToNat, Go.IntWalk.i64_in, h4, h14, h15, h20, h147, h148, h149]
                  exact Again.mk (i + 1, tl') (by simp +contextual -implicitDefEqProofs (disch := omega) only [go_sem, gd_M, tys, regs0, Nat.reduceEqDiff, Nat.reduceAdd, Nat.reduceLeDiff, Nat.reduceLT, Nat.reduceMul, Int.natCast_one, Int.natCast_zero, Int.reduceEq, Int.reduceLT, Int.reduceLE, Int.reduceAdd, Int.reduceSub, Int.reduceToNat, UInt8.reduceToNat, Go.IntWalk.i64_in, h4, h14, h15, h20, h147, h148, h149, hft]; simp [encHeld]) ⟨by simp only [hft, List.map_append]; exact hA', by simp only; omega⟩ (by simp only; omega)
                · simp +contextual -implicitDefEqProofs (disch := omega) only [go_sem, gd_M, tys, regs0, Nat.reduceEqDiff, Nat.reduceAdd, Nat.reduceLeDiff, Nat.reduceLT, Nat.reduceMul, Int.natCast_one, Int.natCast_zero, Int.reduceEq, Int.reduceLT, Int.reduceLE, Int.reduceAdd, Int.reduceSub, Int.reduceToNat, UInt8.reduceToNat, Go.IntWalk.i64_in, h4, h14, h15, h20, h147, h148, h149]
                  simp only [decide_eq_false_iff_not] at g
                  rw [if_neg (by simpa [ownB] using g)] at hft
                  exact Again.mk (i + 1, tl) (by simp +contextual -implicitDefEqProofs (disch := omega) only [go_sem, gd_M, tys, regs0, Nat.reduceEqDiff, Nat.reduceAdd, Nat.reduceLeDiff, Nat.reduceLT, Nat.reduceMul, Int.natCast_one, Int.natCast_zero, Int.reduceEq, Int.reduceLT, Int.reduceLE, Int.reduceAdd, Int.reduceSub, Int.reduceToNat, UInt8.reduceToNat, Go.IntWalk.i64_in, h4, h14, h15, h20, h147, h148, h149, hft]; simp [encHeld]) ⟨by simp only [hft]; exact hA.put hid7 _, by simp only; omega⟩ (by simp only; omega)
              · simp only [decide_eq_false_iff_not] at h
                have e : i = l.length := by omega
                subst e
                rw [List.take_length] at h20
                have hle : (thingsL ow l).length ≤ 1099511627776 := Nat.le_trans (List.length_filter_le _ _) (by omega)
                have hq := fun t t' => sEqH_eq (thingsL ow l) (thingsL ow l) t t' hle
                have h20' : r 20 = .sl ((thingsL ow l).map encHeld) tl := h20
                clear h20
                simp +contextual -implicitDefEqProofs only [go_sem, gd_M, tys, regs0, Nat.reduceEqDiff, Nat.reduceAdd, Nat.reduceLeDiff, Nat.reduceLT, Nat.reduceMul, Int.natCast_one, Int.natCast_zero, Int.reduceEq, Int.reduceLT, Int.reduceLE, Int.reduceAdd, Int.reduceSub, Int.reduceToNat, UInt8.reduceToNat, h4, h14, h15, h20', h147, h148, h149, puO2, hq]
                exact Done.drop hA.sub ⟨by simp, rfl⟩
end Go.Proofs
