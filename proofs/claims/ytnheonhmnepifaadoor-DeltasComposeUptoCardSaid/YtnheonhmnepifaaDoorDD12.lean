/- Walks: the law RawDeltas. -/
import Derived.Test.YtnheonhmnepifaaDoorDD11
namespace Go.Proofs
open Go Go.Abs
set_option linter.unusedSimpArgs false
set_option linter.unusedVariables false
set_option maxRecDepth 20000
def sSame : List AV → Option AV := fn2 (Rd.agg decDl) (Rd.agg decDl) fun a b => if a.1.ps.length ≤ 1099511627776 then some (.bool (decide (a.1 = b.1))) else none
theorem sSame_eq (a b : DeltaV) (t t' : Tail) (h : a.ps.length ≤ 1099511627776) : sSame [.agg (encDl a t), .agg (encDl b t')] = some (.bool (decide (a = b))) := by
  unfold sSame
  rw [fn2_eq]
  show (decDl (encDl a t)).bind _ = _
  rw [decDl_enc]
  show (decDl (encDl b t')).bind _ = _
  rw [decDl_enc]
  simp only [Option.bind_some, if_pos h]
theorem sSame_ok : ∀ xs v, sSame xs = some v → ∀ H, ACalls Tryd.prog 25 xs H fun x H' => x = v ∧ H' = H := by
  intro xs v hv H
  obtain ⟨x, y, p, q, rfl, h1, h2, h3⟩ := fn2_some hv
  obtain ⟨h4, rfl⟩ := some_if h3
  cases Rd.agg_some (fun _ _ => decDl_some) h1
  cases Rd.agg_some (fun _ _ => decDl_some) h2
  exact sameDelta_calls p.1 q.1 p.2 q.2 H h4
def vPD (d : DeltaV) (t : Tail) : Option AV := if dlR d ∧ deltaE d = 0 then some (.str (printB d)) else none
theorem vPD_calls (d : DeltaV) (t : Tail) (v : AV) (H : Heap) (h : vPD d t = some v) : ACalls Tryd.prog 28 [.agg (encDl d t)] H fun x H' => x = v ∧ H' = H := by
  obtain ⟨h1, rfl⟩ := some_if h
  exact printDelta_calls d t H h1.1 h1.2
def puF : Pures := putP 12 sLandD (putP 33 sSteps (putP 34 sSteps (putP 24 sCheck (putP 27 (sTD vApply) (putP 37 (sDl vTidy)
  (putP 38 (sDl vFresh) (putP 39 (sDl vCost) (putP 25 sSame (putP 41 (sTD vPatch) (putP 28 (sDl vPD) puP8))))))))))
theorem puF_ok : PuOK Tryd.prog puF :=
  .put (.put (.put (.put (.put (.put (.put (.put (.put (.put (.put puP8_ok (sDl_ok vPD_calls)) (sTD_ok patch_calls)) sSame_ok) (sDl_ok cost_calls)) (sDl_ok fresh_calls)) (sDl_ok tidy_calls)) (sTD_ok apply_calls)) (sCheck_ok rDelta_calls)) (sSteps_ok fun l t old H h1 h2 => piecesError_calls l t old H h1.1 h1.2 h2)) (sSteps_ok fun l t old H h1 h2 => checkSteps_calls l t old H h1.1 h1.2 h2)) sLandD_ok
def Mid3 (s : Bytes) (t : Tail) (H : Heap) (id : Nat) (r : Regs) (G : Heap) : Prop := ∃ d, dlR d ∧ agrees r [(0, .str s), (5, .ptr id 0)] ∧ G id = some (.cells (encDl d t)) ∧ H.Sub G
theorem pcSum_nonneg : ∀ {l : List PieceV}, (∀ p ∈ l, 0 ≤ pcSize p) → 0 ≤ pcSum l
  | [], _ => by simp [pcSum]
  | p :: l, h => by
    have h1 := h p (List.mem_cons_self ..)
    have h2 := pcSum_nonneg (l := l) fun q hq => h q (List.mem_cons_of_mem _ hq)
    unfold pcSum at h2 ⊢
    rw [List.map_cons, List.sum_cons]
    omega
set_option maxHeartbeats 3200000 in
theorem raw_calls (s : Bytes) (d : DeltaV) (t : Tail) (old : Int) (turn : Bool) (H : Heap) (hr : dlR d) (hs : s.length ≤ 1048576) (ho : inI old) :
    ACalls Tryd.prog 8 [.str s, .agg (encDl d t), .int .i64 old, .bool turn] H fun x H' => x = .bool true ∧ H' = H := by
  have hR : Room = 1099511627776 := rfl
  have hst := sSteps_eq d.ps t old hr.2.2.2.2 ho
  refine ACalls.of_code (X := { pure := puF }) puF_ok Tryd.func8 (by kernel_rfl) rfl (by kernel_rfl) (Nat.le_of_ble_eq_true rfl) ?_
  simp -implicitDefEqProofs only [go_sem, tys, regs0, Nat.reduceEqDiff, Nat.reduceAdd, Nat.reduceLeDiff, Nat.reduceLT, Nat.reduceMul, Int.natCast_one, Int.natCast_zero, Int.reduceEq, Int.reduceLT, Int.reduceLE, Int.reduceAdd, Int.reduceSub, Int.reduceToNat, UInt8.reduceToNat, Tryd.f8, encDl]
  with_reducible refine nwC_intro fun id hid => ?_
  simp -implicitDefEqProofs only [go_sem, tys, regs0, Nat.reduceEqDiff, Nat.reduceAdd, Nat.reduceLeDiff, Nat.reduceLT, Nat.reduceMul, Int.natCast_one, Int.natCast_zero, Int.reduceEq, Int.reduceLT, Int.reduceLE, Int.reduceAdd, Int.reduceSub, Int.reduceToNat, UInt8.reduceToNat, puF, sLandD, hst]
  have sB0 := put_same H id (.cells (encDl d t))
  have hS0 : H.Sub (H.put id (.cells (encDl d t))) := (Heap.Sub.rfl' H).put' hid _
  with_reducible refine cnd_mid (Mid3 s t H id) ?_ ?_
  rotate_left
  · refine cnd_intro (fun g => ?_) (fun g => ?_)
    · subst g
      obtain ⟨r1, r2, r3, r4, r5⟩ := hr
      have hi : inI (s.length : Int) := ⟨by omega, by omega⟩
      have hst2 := sSteps_eq d.ps t (s.length : Int) r5 hi
      have hs' : s.length ≤ 1099511627776 := by omega
      simp -implicitDefEqProofs only [go_sem, tys, regs0, Nat.reduceEqDiff, Nat.reduceAdd, Nat.reduceLeDiff, Nat.reduceLT, Nat.reduceMul, Int.natCast_one, Int.natCast_zero, Int.reduceEq, Int.reduceLT, Int.reduceLE, Int.reduceAdd, Int.reduceSub, Int.reduceToNat, UInt8.reduceToNat, puF, puP8, puP7, puP6, puP5, puM, puN, pu0, sSum_eq, hR, hs', hst2]
      have hl16 : ∀ x, (sumOf x).length ≤ 1099511627776 := fun x => by rw [sumB_len (sumOf_form x)]; omega
      refine cnd_intro (fun g => ?_) (fun g => ?_)
      · simp only [decide_eq_true_eq] at g
        obtain ⟨f1, f2, f3, f4, f5, f6⟩ := stepsV_ok g
        have hnn := pcSum_nonneg (fun p hp => (pcSize_ok (r5.2 p hp) (by omega) (f4 p hp)).1)
        have hsz : inI (stepsV d.ps (s.length : Int)).1 := by rw [f6]; exact ⟨by omega, by omega⟩
        have hmr : madeR s d.ps := ⟨r5, by omega, f4, f3⟩
        have hmd := sMade_eq s d.ps t hmr
        have hml := take_len_le (a := s) rfl r5.2 f4 (by omega) d.ps.length
        rw [List.take_length] at hml
        have hml' : (madeV s d.ps).length ≤ 1099511627776 := by omega
        simp -implicitDefEqProofs only [go_sem, tys, regs0, Nat.reduceEqDiff, Nat.reduceAdd, Nat.reduceLeDiff, Nat.reduceLT, Nat.reduceMul, Int.natCast_one, Int.natCast_zero, Int.reduceEq, Int.reduceLT, Int.reduceLE, Int.reduceAdd, Int.reduceSub, Int.reduceToNat, UInt8.reduceToNat, puF, puP8, puP7, puP6, puP5, puM, puN, pu0, sSum_eq, hR, hs', hst2, hmd, hml']
        refine ⟨⟨s.length, (stepsV d.ps s.length).1, sumOf s, sumOf (madeV s d.ps), d.ps⟩, ⟨hi, hsz, hl16 _, hl16 _, r5⟩, by simp -implicitDefEqProofs only [go_sem, tys, regs0, Nat.reduceEqDiff, Nat.reduceAdd, Nat.reduceLeDiff, Nat.reduceLT, Nat.reduceMul, Int.natCast_one, Int.natCast_zero, Int.reduceEq, Int.reduceLT, Int.reduceLE, Int.reduceAdd, Int.reduceSub, Int.reduceToNat, UInt8.reduceToNat], by unfold encDl; rw [put_same], ?_⟩
        exact (Heap.Sub.rfl' H).put' hid _
      · refine ⟨⟨s.length, d.new, sumOf s, d.nsum, d.ps⟩, ⟨hi, r2, hl16 _, r4, r5⟩, by simp -implicitDefEqProofs only [go_sem, tys, regs0, Nat.reduceEqDiff, Nat.reduceAdd, Nat.reduceLeDiff, Nat.reduceLT, Nat.reduceMul, Int.natCast_one, Int.natCast_zero, Int.reduceEq, Int.reduceLT, Int.reduceLE, Int.reduceAdd, Int.reduceSub, Int.reduceToNat, UInt8.reduceToNat], by unfold encDl; rw [put_same], ?_⟩
        exact (Heap.Sub.rfl' H).put' hid _
    · simp -implicitDefEqProofs only [go_sem, tys, regs0, Nat.reduceEqDiff, Nat.reduceAdd, Nat.reduceLeDiff, Nat.reduceLT, Nat.reduceMul, Int.natCast_one, Int.natCast_zero, Int.reduceEq, Int.reduceLT, Int.reduceLE, Int.reduceAdd, Int.reduceSub, Int.reduceToNat, UInt8.reduceToNat]
      exact ⟨d, hr, by simp -implicitDefEqProofs only [go_sem, tys, regs0, Nat.reduceEqDiff, Nat.reduceAdd, Nat.reduceLeDiff, Nat.reduceLT, Nat.reduceMul, Int.natCast_one, Int.natCast_zero, Int.reduceEq, Int.reduceLT, Int.reduceLE, Int.reduceAdd, Int.reduceSub, Int.reduceToNat, UInt8.reduceToNat], sB0, hS0⟩
  clear hst hr sB0 hS0
  rintro r G ⟨d, hr, hv, hB, hS⟩
  have h0 := hv.1
  have h5 := hv.2.1
  clear hv
  have h' : s.length ≤ 1099511627776 := by omega
  have q1 := sCheck_eq d t hr
  have q2 := sTD_eq vApply s d t
  have q3 := sDl_eq vTidy d t
  have q4 := sDl_eq vFresh d t
  have q5 := sDl_eq vCost d t
  rw [vApply, if_pos ⟨hr, h'⟩] at q2
  rw [vTidy, if_pos hr] at q3
  rw [vFresh, if_pos hr] at q4
  rw [vCost, if_pos hr] at q5
  by_cases hE : ¬ deltaE d = 0
  · have hE2 : decide (¬ deltaE d = 0) = true := decide_eq_true hE
    rw [applyV, if_pos hE] at q2
    rw [if_neg hE] at q3 q4 q5
    have q6 := sSame_eq DeltaV.zero DeltaV.zero .exact .exact (by decide)
    unfold encDl at hB q1 q2 q3 q4 q5 q6
    simp only [DeltaV.zero] at q3 q6
    simp -implicitDefEqProofs only [go_sem, tys, regs0, Nat.reduceEqDiff, Nat.reduceAdd, Nat.reduceLeDiff, Nat.reduceLT, Nat.reduceMul, Int.natCast_one, Int.natCast_zero, Int.reduceEq, Int.reduceLT, Int.reduceLE, Int.reduceAdd, Int.reduceSub, Int.reduceToNat, UInt8.reduceToNat, h0, h5, hB, puF, puP8, puP7, puP6, puP5, puM, puN, pu0, q1, q2, q3, q4, q5, q6, hE2]
    with_reducible refine nwC_intro fun i8 hi8 => ?_
    have n1 : ¬ id = i8 := fun e => by subst e; rw [hB] at hi8; cases hi8
    have n2 : ¬ i8 = id := fun e => n1 e.symm
    have e2 : decide (deltaE d = 0) = false := decide_eq_false hE
    simp only [List.map_nil] at q6
    simp -implicitDefEqProofs only [go_sem, tys, regs0, Nat.reduceEqDiff, Nat.reduceAdd, Nat.reduceLeDiff, Nat.reduceLT, Nat.reduceMul, Int.natCast_one, Int.natCast_zero, Int.reduceEq, Int.reduceLT, Int.reduceLE, Int.reduceAdd, Int.reduceSub, Int.reduceToNat, UInt8.reduceToNat, h0, h5, hB, puF, puP8, puP7, puP6, puP5, puM, puN, pu0, q1, q2, q3, q4, q5, q6, hE2, put_ne, n1, n2]
    exact Done.drop (hS.put' (sub_none hS hi8) _) ⟨rfl, rfl⟩
  have hE : deltaE d = 0 := Decidable.not_not.1 hE
  obtain ⟨e1, e2, e3, e4, e5, e6, e7, e8⟩ := deltaE_ok hE
  have hj0 := jR_of hr.2.2.2.2 e7
  have hfl := fresh_len hr.2.2.2.2.2
  obtain ⟨f1, f2, f3, f4, f5, f6⟩ := stepsV_ok e7
  have hjl : (joinedV d.ps).length ≤ d.ps.length := by
    have := (fold_bnd hj0.2 d.ps.length).2
    rw [List.take_length, joined_fold] at this
    exact this
  rw [applyV, if_neg (by simpa using hE)] at q2
  rw [hE] at q1 q3 q4 q5
  rw [if_pos rfl] at q3 q4 q5
  have q6 := sSame_eq (tidyV d) (tidyV d) .unk .unk (by show (joinedV d.ps).length ≤ _; omega)
  have q7 := sTD_eq vPatch s d t
  rw [vPatch, if_pos ⟨hr, hE, h'⟩] at q7
  have q8 := sDl_eq vPD d t
  rw [vPD, if_pos ⟨hr, hE⟩] at q8
  have q9 := sJl_eq d.ps t hj0
  generalize patchV s d = pv at *
  obtain ⟨pt, pf⟩ := pv
  generalize hpb : printB d = pb at *
  unfold encDl at hB q1 q2 q3 q4 q5 q6 q7 q8
  simp only [tidyV] at q3 q6
  simp -implicitDefEqProofs only [go_sem, tys, regs0, Nat.reduceEqDiff, Nat.reduceAdd, Nat.reduceLeDiff, Nat.reduceLT, Nat.reduceMul, Int.natCast_one, Int.natCast_zero, Int.reduceEq, Int.reduceLT, Int.reduceLE, Int.reduceAdd, Int.reduceSub, Int.reduceToNat, UInt8.reduceToNat, h0, h5, hB, puF, puP8, puP7, puP6, puP5, puM, puN, pu0, q1, q2, q3, q4, q5]
  with_reducible refine nwC_intro fun i8 hi8 => ?_
  have n1 : ¬ id = i8 := fun e => by subst e; rw [hB] at hi8; cases hi8
  have n2 : ¬ i8 = id := fun e => n1 e.symm
  simp -implicitDefEqProofs only [go_sem, tys, regs0, Nat.reduceEqDiff, Nat.reduceAdd, Nat.reduceLeDiff, Nat.reduceLT, Nat.reduceMul, Int.natCast_one, Int.natCast_zero, Int.reduceEq, Int.reduceLT, Int.reduceLE, Int.reduceAdd, Int.reduceSub, Int.reduceToNat, UInt8.reduceToNat, h0, h5, hB, puF, puP8, puP7, puP6, puP5, puM, puN, pu0, q1, q2, q3, q4, q5, put_ne, n1, n2]
  refine aloop_intro (σ := Nat) (fun i => [(0, .str s), (5, .ptr id 0), (10, .int .i64 pf), (17, .str pt), (18, .ptr i8 0), (19, .int .i64 (freshV d.ps - freshV (d.ps.take i))), (21, .int .i64 pb.length), (142, .sl (d.ps.map encPc) t), (143, .int .i64 d.ps.length), (144, .int .i64 i)])
    (fun i G' => G' id = some (.cells (encDl d t)) ∧ G' i8 = some (.cells (encDl (tidyV d) .unk)) ∧ H.Sub G' ∧ i ≤ d.ps.length) (fun i => d.ps.length - i) 0 ?_ ?_ ?_
  · simp -implicitDefEqProofs only [go_sem, tys, regs0, Nat.reduceEqDiff, Nat.reduceAdd, Nat.reduceLeDiff, Nat.reduceLT, Nat.reduceMul, Int.natCast_one, Int.natCast_zero, Int.reduceEq, Int.reduceLT, Int.reduceLE, Int.reduceAdd, Int.reduceSub, Int.reduceToNat, UInt8.reduceToNat, h0, h5]
    simp [freshV]
  · exact ⟨by rw [put_ne _ _ _ _ n1]; exact hB, put_same _ _ _, hS.put' (sub_none hS hi8) _, by omega⟩
  · clear hB hS h0 h5
    intro i r G' hv hI
    have h0 := hv.1
    have h5 := hv.2.1
    have h10 := hv.2.2.1
    have h17 := hv.2.2.2.1
    have h18 := hv.2.2.2.2.1
    have h19 := hv.2.2.2.2.2.1
    have h21 := hv.2.2.2.2.2.2.1
    have h142 := hv.2.2.2.2.2.2.2.1
    have h143 := hv.2.2.2.2.2.2.2.2.1
    have h144 := hv.2.2.2.2.2.2.2.2.2.1
    have hB := hI.1
    have hB8 := hI.2.1
    have hS := hI.2.2.1
    have hi := hI.2.2.2
    clear hv hI
    unfold encDl at hB hB8
    simp only [tidyV] at hB8
    simp -implicitDefEqProofs only [go_sem, tys, regs0, Nat.reduceEqDiff, Nat.reduceAdd, Nat.reduceLeDiff, Nat.reduceLT, Nat.reduceMul, Int.natCast_one, Int.natCast_zero, Int.reduceEq, Int.reduceLT, Int.reduceLE, Int.reduceAdd, Int.reduceSub, Int.reduceToNat, UInt8.reduceToNat, h0, h5, h10, h17, h18, h19, h21, h142, h143, h144]
    refine cnd_intro (fun g => ?_) (fun g => ?_)
    · simp only [decide_eq_true_eq] at g
      obtain ⟨p, hp⟩ : ∃ p, d.ps[i]? = some p := getD_get' (by omega)
      have u1 := hfl i
      have u2 := hfl (i + 1)
      have u3 := freshV_succ hp
      have u4 := hfl d.ps.length
      rw [List.take_length] at u4
      have u5 := (hr.2.2.2.2.2 p (List.mem_of_getElem? hp)).2.2
      simp -implicitDefEqProofs only [go_sem, tys, regs0, Nat.reduceEqDiff, Nat.reduceAdd, Nat.reduceLeDiff, Nat.reduceLT, Nat.reduceMul, Int.natCast_one, Int.natCast_zero, Int.reduceEq, Int.reduceLT, Int.reduceLE, Int.reduceAdd, Int.reduceSub, Int.reduceToNat, UInt8.reduceToNat, h0, h5, h10, h17, h18, h19, h21, h142, h143, h144, hp, encPc]
      with_reducible refine nwC_intro fun id2 hid2 => ?_
      have m1 : ¬ id = id2 := fun e => by subst e; rw [hB] at hid2; cases hid2
      have m2 : ¬ i8 = id2 := fun e => by subst e; rw [hB8] at hid2; cases hid2
      simp -implicitDefEqProofs (disch := omega) only [go_sem, tys, regs0, Nat.reduceEqDiff, Nat.reduceAdd, Nat.reduceLeDiff, Nat.reduceLT, Nat.reduceMul, Int.natCast_one, Int.natCast_zero, Int.reduceEq, Int.reduceLT, Int.reduceLE, Int.reduceAdd, Int.reduceSub, Int.reduceToNat, UInt8.reduceToNat, Go.IntWalk.i64_in, h0, h5, h10, h17, h18, h19, h21, h142, h143, h144]
      exact Again.mk (i + 1) (by simp -implicitDefEqProofs only [go_sem, tys, regs0, Nat.reduceEqDiff, Nat.reduceAdd, Nat.reduceLeDiff, Nat.reduceLT, Nat.reduceMul, Int.natCast_one, Int.natCast_zero, Int.reduceEq, Int.reduceLT, Int.reduceLE, Int.reduceAdd, Int.reduceSub, Int.reduceToNat, UInt8.reduceToNat, h0, h5, h10, h17, h18, h19, h21, h142, h143, h144, u3]; exact ⟨by congr 1; omega, rfl⟩) ⟨by rw [put_ne _ _ _ _ m1]; exact hB, by rw [put_ne _ _ _ _ m2]; exact hB8, hS.put' (sub_none hS hid2) _, by omega⟩ (by omega)
    · simp only [decide_eq_false_iff_not] at g
      have e : i = d.ps.length := by omega
      subst e
      rw [List.take_length, Int.sub_self] at h19
      simp -implicitDefEqProofs only [go_sem, tys, regs0, Nat.reduceEqDiff, Nat.reduceAdd, Nat.reduceLeDiff, Nat.reduceLT, Nat.reduceMul, Int.natCast_one, Int.natCast_zero, Int.reduceEq, Int.reduceLT, Int.reduceLE, Int.reduceAdd, Int.reduceSub, Int.reduceToNat, UInt8.reduceToNat, h0, h5, h10, h17, h18, h19, h21, hB, puF, puP8, puP7, puP6, puP5, puM, puN, pu0, q7]
      with_reducible refine nwC_intro fun i26 hi26 => ?_
      have m1 : ¬ id = i26 := fun e => by subst e; rw [hB] at hi26; cases hi26
      have m2 : ¬ i8 = i26 := fun e => by subst e; rw [hB8] at hi26; cases hi26
      have m3 : ¬ i26 = id := fun e => m1 e.symm
      have m4 : ¬ i26 = i8 := fun e => m2 e.symm
      simp -implicitDefEqProofs only [go_sem, tys, regs0, Nat.reduceEqDiff, Nat.reduceAdd, Nat.reduceLeDiff, Nat.reduceLT, Nat.reduceMul, Int.natCast_one, Int.natCast_zero, Int.reduceEq, Int.reduceLT, Int.reduceLE, Int.reduceAdd, Int.reduceSub, Int.reduceToNat, UInt8.reduceToNat, h0, h5, h10, h17, h18, h19, h21, hB, hB8, puF, puP8, puP7, puP6, puP5, puM, puN, pu0, q6, q7, q8, q9, put_ne, m1, m2, m3, m4]
      exact Done.drop (hS.put' (sub_none hS hi26) _) ⟨rfl, rfl⟩
end Go.Proofs
