/-
  Walks and plain laws, part 3.
-/
import Derived.Test.YthkfcmnpobobbaaGreatDoorM2
import Derived.Test.YthkfcmnpobobbaaGreatDoorM1
import Derived.Test.YthkfcmnpobobbaaGreatDoorAbs4
import Derived.Test.YthkfcmnpobobbaaGreatDoorTy
import Derived.IntWalk
import Derived.Lib.MakeNoZero
import Derived.Lib.Builder
/- Records: plain, and walks of their errors on the program's side. -/
namespace Go.Proofs
open Go Go.Abs
set_option linter.unusedSimpArgs false
set_option linter.unusedVariables false
set_option maxRecDepth 20000
structure RecV where
  time : Int
  kind : Int
  pack : Bytes
  vfrom : VerV
  vto : VerV
  result : Int
  note : Bytes
  deriving DecidableEq
def RecV.zero : RecV := ⟨0, 0, [], .zero, .zero, 0, []⟩
def encRec (r : RecV) : List AV := [.int .i64 r.time, .int .i64 r.kind, .str r.pack, .int .i64 r.vfrom.major, .int .i64 r.vfrom.minor, .int .i64 r.vfrom.patch, .str r.vfrom.early, .int .i64 r.vto.major, .int .i64 r.vto.minor, .int .i64 r.vto.patch, .str r.vto.early, .int .i64 r.result, .str r.note]
def recR (r : RecV) : Prop := r.pack.length ≤ 1099511627776 ∧ verR r.vfrom ∧ verR r.vto ∧ r.note.length ≤ 1099511627776
def usesF (k : Int) : Bool := decide (k = 2) || decide (k = 3) || decide (k = 4)
def usesT (k : Int) : Bool := !decide (k = 4)
def recForm (r : RecV) : Bool := (usesF r.kind != decide (¬ r.vfrom = .zero)) || ((usesT r.kind != decide (¬ r.vto = .zero)) && decide (¬ r.kind = 6))
def recWay (r : RecV) : Bool := (decide (r.kind = 2) && decide (0 ≤ orderV r.vfrom r.vto)) || (decide (r.kind = 3) && decide (orderV r.vfrom r.vto ≤ 0))
def recErr (r : RecV) : Int :=
  if outI r.time 0 1099511627776 = true then 3
  else if outI r.kind 1 6 = true then 1
  else if nameB r.pack = false then 5
  else if verErr r.vfrom ≠ 0 then verErr r.vfrom
  else if verErr r.vto ≠ 0 then verErr r.vto
  else if recForm r = true then 2
  else if recWay r = true then 11
  else if outI r.result 0 18 = true then 3
  else if valueB r.note = false then 2
  else 0
theorem verNe (cx cy : Bool) (a b : VerV) : bin Tryz.prog .neq 30 cx cy (.agg (encVer a)) (.agg (encVer b)) = some (.bool (decide ¬ a = b)) := by
  have h : eqT Tryz.prog 6 30 (.agg (encVer a)) (.agg (encVer b)) = some (decide (a = b)) := by
    obtain ⟨x1, x2, x3, x4⟩ := a
    obtain ⟨y1, y2, y3, y4⟩ := b
    simp only [encVer, eqT, eqFields, tys, readC, TD.agg, if_true, List.drop_zero, List.drop_succ_cons, List.head?_cons, Bool.false_eq_true, if_false, Option.some.injEq, Bool.and_true]
    rw [Bool.eq_iff_iff]
    simp [VerV.mk.injEq]
  have e : eqA Tryz.prog 30 cx cy (.agg (encVer a)) (.agg (encVer b)) = some (decide (a = b)) := by
    unfold eqA
    simp only [tys, if_true]
    exact h
  show (eqA Tryz.prog 30 cx cy (.agg (encVer a)) (.agg (encVer b))).map (fun b => AV.bool (!b)) = _
  rw [e]
  simp
theorem verEq (cx cy : Bool) (a b : VerV) : bin Tryz.prog .eql 30 cx cy (.agg (encVer a)) (.agg (encVer b)) = some (.bool (decide (a = b))) := by
  have h : eqT Tryz.prog 6 30 (.agg (encVer a)) (.agg (encVer b)) = some (decide (a = b)) := by
    obtain ⟨x1, x2, x3, x4⟩ := a
    obtain ⟨y1, y2, y3, y4⟩ := b
    simp only [encVer, eqT, eqFields, tys, readC, TD.agg, if_true, List.drop_zero, List.drop_succ_cons, List.head?_cons, Bool.false_eq_true, if_false, Option.some.injEq, Bool.and_true]
    rw [Bool.eq_iff_iff]
    simp [VerV.mk.injEq]
  have e : eqA Tryz.prog 30 cx cy (.agg (encVer a)) (.agg (encVer b)) = some (decide (a = b)) := by
    unfold eqA
    simp only [tys, if_true]
    exact h
  show (eqA Tryz.prog 30 cx cy (.agg (encVer a)) (.agg (encVer b))).map (fun b => AV.bool b) = _
  rw [e]
  simp
theorem lOutside_calls (n lo hi : Int) (H : Heap) : ACalls Tryz.prog 69 [.int .i64 n, .int .i64 lo, .int .i64 hi] H fun x H' => x = .bool (outI n lo hi) ∧ H' = H := by
  refine ACalls.of_code (X := { pure := pu0 }) pu0_ok Tryz.func69 (by kernel_rfl) rfl (by kernel_rfl) (Nat.le_of_ble_eq_true rfl) ?_
  simp -implicitDefEqProofs only [go_sem, Tryz.f69]
  unfold outI
  cases e1 : decide (n < lo) <;> cases e2 : decide (hi < n)
  all_goals
    simp -implicitDefEqProofs only [go_sem, e1, e2]
    exact Done.now ⟨rfl, rfl⟩
theorem uses_calls (k : Int) (H : Heap) : ACalls Tryz.prog 71 [.int .i64 k] H fun x H' => x = .tup [.bool (usesF k), .bool (usesT k)] ∧ H' = H := by
  unfold usesF usesT
  refine ACalls.of_code (X := { pure := pu0 }) pu0_ok Tryz.func71 (by kernel_rfl) rfl (by kernel_rfl) (Nat.le_of_ble_eq_true rfl) ?_
  simp -implicitDefEqProofs only [go_sem, Tryz.f71]
  by_cases h2 : k = 2
  · subst h2
    simp -implicitDefEqProofs only [go_sem]
    exact Done.now ⟨rfl, rfl⟩
  by_cases h3 : k = 3
  · subst h3
    simp -implicitDefEqProofs only [go_sem]
    exact Done.now ⟨rfl, rfl⟩
  by_cases h4 : k = 4
  · subst h4
    simp -implicitDefEqProofs only [go_sem]
    exact Done.now ⟨rfl, rfl⟩
  · have y2 : decide (k = 2) = false := decide_eq_false h2
    have y3 : decide (k = 3) = false := decide_eq_false h3
    have y4 : decide (k = 4) = false := decide_eq_false h4
    simp -implicitDefEqProofs only [go_sem, y2, y3, y4]
    exact Done.now ⟨rfl, rfl⟩
def sUses : List AV → Option AV
  | [.int .i64 k] => some (.tup [.bool (usesF k), .bool (usesT k)])
  | _ => none
theorem sUses_eq (k : Int) : sUses [.int .i64 k] = some (.tup [.bool (usesF k), .bool (usesT k)]) := rfl
theorem sUses_ok : Pur Tryz.prog 71 sUses := by
  intro xs v hv H
  unfold sUses at hv
  split at hv
  · cases hv; exact uses_calls _ H
  · cases hv
theorem encVer_inj {a b : VerV} (h : encVer a = encVer b) : a = b := by
  obtain ⟨x1, x2, x3, x4⟩ := a
  obtain ⟨y1, y2, y3, y4⟩ := b
  simp only [encVer] at h
  cases h; rfl
noncomputable def sVerC := spF (fun v : VerV => [AV.agg (encVer v)]) verR fun v => .int .i64 (verErr v)
theorem sVerC_eq (v : VerV) (h : verR v) : sVerC [.agg (encVer v)] = some (.int .i64 (verErr v)) := spF_eq (enc := fun v : VerV => [AV.agg (encVer v)]) (fun a b e => by
  simp only [List.cons.injEq, AV.agg.injEq, and_true] at e
  rw [encVer_inj e]) v h
noncomputable def sOrdV := spF (fun p : VerV × VerV => [AV.agg (encVer p.1), .agg (encVer p.2)]) (fun p => verR p.1 ∧ verR p.2) fun p => .int .i64 (orderV p.1 p.2)
theorem sOrdV_eq (a b : VerV) (h : verR a ∧ verR b) : sOrdV [.agg (encVer a), .agg (encVer b)] = some (.int .i64 (orderV a b)) := spF_eq (enc := fun p : VerV × VerV => [AV.agg (encVer p.1), .agg (encVer p.2)]) (fun p q e => by
  simp only [List.cons.injEq, AV.agg.injEq, and_true] at e
  rw [encVer_inj e.1, encVer_inj e.2]) (a, b) h
noncomputable def puY1 : Pures := putP 72 sOrdV (putP 70 sVerC (putP 71 sUses (putP 69 sOut puX3)))
theorem puY1_dyn : isDyn puY1 = false := by simp only [puY1, go_sem, Nat.reduceEqDiff]
attribute [go_sem] puY1_dyn
theorem puY1_ok : PuOK Tryz.prog puY1 := .put (.put (.put (.put (puX3_ok) (sOut_ok lOutside_calls)) sUses_ok) (spF_ok fun v H h => verCheck_calls v H h)) (spF_ok fun p H h => order_calls p.1 p.2 H h.1 h.2)
def RecI (r : RecV) (i : Nat) : Prop := i ≤ 2 ∧ (0 < i → verErr r.vfrom = 0) ∧ (1 < i → verErr r.vto = 0)
def RecQ (H : Heap) (v : RecV) (i1 : Nat) (r : Regs) (G : Heap) : Prop := H.Sub G ∧ (verErr v.vfrom = 0 ∧ verErr v.vto = 0) ∧ G i1 = some (.cells (encRec v)) ∧ r 1 = .ptr i1 0
set_option maxHeartbeats 6400000 in
theorem checkRecord_calls (v : RecV) (H : Heap) (hr : recR v) : ACalls Tryz.prog 19 [.agg (encRec v)] H fun x H' => x = .int .i64 (recErr v) ∧ H' = H := by
  have hS := Heap.Sub.rfl' H
  have hv := recErr.eq_1 v
  obtain ⟨r1, r2, r3, r4⟩ := hr
  have r1' : v.pack.length ≤ Room := r1
  have r4' : v.note.length ≤ Room := r4
  have q1 := sVerC_eq v.vfrom r2
  have q2 := sVerC_eq v.vto r3
  have q3 := sOrdV_eq v.vfrom v.vto ⟨r2, r3⟩
  have n1 : ∀ cx cy, bin Tryz.prog .neq 30 cx cy (.agg [.int .i64 v.vfrom.major, .int .i64 v.vfrom.minor, .int .i64 v.vfrom.patch, .str v.vfrom.early]) (.agg [.int .i64 0, .int .i64 0, .int .i64 0, .str []]) = some (.bool (decide ¬ v.vfrom = .zero)) := fun cx cy => verNe cx cy v.vfrom .zero
  have n2 : ∀ cx cy, bin Tryz.prog .neq 30 cx cy (.agg [.int .i64 v.vto.major, .int .i64 v.vto.minor, .int .i64 v.vto.patch, .str v.vto.early]) (.agg [.int .i64 0, .int .i64 0, .int .i64 0, .str []]) = some (.bool (decide ¬ v.vto = .zero)) := fun cx cy => verNe cx cy v.vto .zero
  unfold encVer at q1 q2 q3
  refine ACalls.of_code (X := { pure := puY1 }) puY1_ok Tryz.func19 (by kernel_rfl) rfl (by kernel_rfl) (Nat.le_of_ble_eq_true rfl) ?_
  simp -implicitDefEqProofs only [go_sem, Tryz.f19, encRec]
  with_reducible refine nwC_intro fun i1 hi1 => ?_
  generalize E1 : Heap.put H i1 _ = G1
  have hO_1 := obj_new E1 hi1 hS
  have n1 := hO_1.1
  have hS := hO_1.2.1
  have g1 := hO_1.2.2.1
  clear hO_1
  cases t1 : outI v.time 0 1099511627776 with
  | true =>
    rw [if_pos t1] at hv
    simp -implicitDefEqProofs only [go_sem, g1, puY1, sOut_eq, t1]
    exact Done.drop hS ⟨by rw [hv], rfl⟩
  | false =>
  rw [if_neg (by simp [t1])] at hv
  cases t2 : outI v.kind 1 6 with
  | true =>
    rw [if_pos t2] at hv
    simp -implicitDefEqProofs only [go_sem, g1, puY1, sOut_eq, t1, t2]
    exact Done.drop hS ⟨by rw [hv], rfl⟩
  | false =>
  rw [if_neg (by simp [t2])] at hv
  cases t3 : nameB v.pack with
  | false =>
    rw [if_pos t3] at hv
    simp -implicitDefEqProofs only [go_sem, g1, puY1, puX3, puX2, puX1, puW7, puW6, puW5, puW4, puW3, puW2, sStr_eq, r1', sOut_eq, t1, t2, t3, Bool.not_false]
    exact Done.drop hS ⟨by rw [hv], rfl⟩
  | true =>
  rw [if_neg (by simp [t3])] at hv
  simp -implicitDefEqProofs only [go_sem, g1, puY1, puX3, puX2, puX1, puW7, puW6, puW5, puW4, puW3, puW2, sStr_eq, r1', sOut_eq, t1, t2, t3, Bool.not_true]
  have g1' : G1 i1 = some (.cells (encRec v)) := g1
  with_reducible refine aloop_cut 1 (RecQ H v i1) ?_ ?_
  rotate_left
  · refine aloop_intro (σ := Nat) (fun i => [(1, .ptr i1 0), (27, .agg [.int .i64 v.vfrom.major, .int .i64 v.vfrom.minor, .int .i64 v.vfrom.patch, .str v.vfrom.early, .int .i64 v.vto.major, .int .i64 v.vto.minor, .int .i64 v.vto.patch, .str v.vto.early]), (28, .int .i64 i)])
      (fun i G => (H.Sub G ∧ G i1 = some (.cells (encRec v))) ∧ RecI v i) (fun i => 2 - i) 0 ?_ ?_ ?_
    · simp -implicitDefEqProofs only [go_sem]
    · exact ⟨⟨hS, g1'⟩, by omega, fun h => by omega, fun h => by omega⟩
    clear g1 g1' hS
    rintro i r G hw ⟨⟨hS, g1⟩, hi, b0, b1⟩
    have h1 := hw.1
    have h27 := hw.2.1
    have h28 := hw.2.2.1
    clear hw
    have ws : IntKind.i64.wrap ((i : Int) + 1) = ((i + 1 : Nat) : Int) := by rw [Go.IntWalk.i64_in _ (by omega)]; omega
    obtain rfl | rfl | rfl : i = 0 ∨ i = 1 ∨ i = 2 := by omega
    · have y0 : decide (((0 : Nat) : Int) < 2) = true := rfl
      simp -implicitDefEqProofs only [go_sem, h1, h27, h28, y0, Int.toNat_natCast, Int.natCast_nonneg]
      with_reducible refine nwC_intro fun i4 hi4 => ?_
      have hS2 := hS.put' (sub_none hS hi4) (.cells (encVer v.vfrom))
      have g2 := (put_ne G i4 i1 (.cells (encVer v.vfrom)) (obj_ne g1 hi4)).trans g1
      unfold encVer at hS2 g2
      by_cases e : verErr v.vfrom = 0
      · have z1 : decide (¬ verErr v.vfrom = 0) = false := decide_eq_false (by simpa using e)
        simp -implicitDefEqProofs only [go_sem, h1, h27, h28, puY1, q1, z1, ws]
        exact Again.mk 1 (by simp -implicitDefEqProofs only [go_sem, h1, h27]; exact rfl) ⟨⟨hS2, g2⟩, by omega, fun _ => e, fun h => by omega⟩ (by omega)
      · have z1 : decide (¬ verErr v.vfrom = 0) = true := decide_eq_true e
        rw [if_pos e] at hv
        simp -implicitDefEqProofs only [go_sem, h1, h27, h28, puY1, q1, z1]
        exact Done.drop hS2 ⟨by rw [hv], rfl⟩
    · have b0 := b0 (by omega)
      rw [if_neg (by simpa using b0)] at hv
      have y0 : decide ((1 : Int) < 2) = true := rfl
      simp -implicitDefEqProofs only [go_sem, h1, h27, h28, y0, Int.toNat_natCast, Int.natCast_nonneg, Int.toNat_one]
      with_reducible refine nwC_intro fun i4 hi4 => ?_
      have hS2 := hS.put' (sub_none hS hi4) (.cells (encVer v.vto))
      have g2 := (put_ne G i4 i1 (.cells (encVer v.vto)) (obj_ne g1 hi4)).trans g1
      unfold encVer at hS2 g2
      by_cases e : verErr v.vto = 0
      · have z1 : decide (¬ verErr v.vto = 0) = false := decide_eq_false (by simpa using e)
        simp -implicitDefEqProofs only [go_sem, h1, h27, h28, puY1, q2, z1, ws]
        exact Again.mk 2 (by simp -implicitDefEqProofs only [go_sem, h1, h27]; exact rfl) ⟨⟨hS2, g2⟩, by omega, fun _ => b0, fun _ => e⟩ (by omega)
      · have z1 : decide (¬ verErr v.vto = 0) = true := decide_eq_true e
        rw [if_pos e] at hv
        simp -implicitDefEqProofs only [go_sem, h1, h27, h28, puY1, q2, z1]
        exact Done.drop hS2 ⟨by rw [hv], rfl⟩
    · simp -implicitDefEqProofs only [go_sem, h1, h27, h28]
      exact ⟨hS, ⟨b0 (by omega), b1 (by omega)⟩, g1, by simp -implicitDefEqProofs only [go_sem, h1]⟩
  clear g1 g1' hS
  rintro r G ⟨hS, ⟨b0, b1⟩, g1, h1⟩
  rw [if_neg (by simpa using b0), if_neg (by simpa using b1)] at hv
  unfold encRec at g1
  simp -implicitDefEqProofs only [go_sem, h1, g1, puY1, sUses_eq]
  with_reducible refine nwC_intro fun i8 hi8 => ?_
  simp -implicitDefEqProofs only [go_sem]
  generalize E8 : Heap.put G i8 _ = G2
  have hO_8 := obj_new E8 hi8 hS
  have n8 := hO_8.1
  have hS := hO_8.2.1
  have g8 := hO_8.2.2.1
  have d1_8 := obj_ne g1 hi8
  have g1 := hO_8.2.2.2 _ _ g1
  clear hO_8
  have hf := recForm.eq_1 v
  have hfin : ∀ {e : Int}, recErr v = e → Done Tryz.prog (fun x H' => x = AV.int .i64 (recErr v) ∧ H' = H) (.int .i64 e) G2 := fun h => Done.drop hS ⟨by rw [h], rfl⟩
  generalize decide (¬ v.vfrom = .zero) = zf at *
  generalize decide (¬ v.vto = .zero) = zt at *
  generalize usesF v.kind = uf at *
  generalize usesT v.kind = ut at *
  have hf1 : recForm v = (!(uf == zf) || (!(ut == zt) && decide (¬ v.kind = 6))) := hf
  by_cases c0 : recForm v = true
  · rw [if_pos c0] at hv
    rw [c0] at hf1
    simp +contextual -implicitDefEqProofs only [go_sem, gd_M, h1, g1, g8, n1, n2, ← hf1]
    exact hfin hv
  rw [if_neg c0] at hv
  rw [show recForm v = false by simpa using c0] at hf1
  have hw := recWay.eq_1 v
  generalize orderV v.vfrom v.vto = c at *
  by_cases c1 : recWay v = true
  · rw [if_pos c1] at hv
    rw [c1] at hw
    simp +contextual -implicitDefEqProofs only [go_sem, gd_M, h1, g1, g8, n1, n2, ← hf1, puY1, q3, ← hw]
    exact hfin hv
  rw [if_neg c1] at hv
  rw [show recWay v = false by simpa using c1] at hw
  cases c2 : outI v.result 0 18 with
  | true =>
    rw [if_pos c2] at hv
    simp +contextual -implicitDefEqProofs only [go_sem, gd_M, h1, g1, g8, n1, n2, ← hf1, puY1, q3, ← hw, sOut_eq, c2]
    exact hfin hv
  | false =>
  rw [if_neg (by simp [c2])] at hv
  cases c3 : valueB v.note with
  | false =>
    rw [if_pos c3] at hv
    simp +contextual -implicitDefEqProofs only [go_sem, gd_M, h1, g1, g8, n1, n2, ← hf1, puY1, puX3, puX2, puX1, puW7, puW6, puW5, puW4, puW3, puW2, sStr_eq, r4', q3, ← hw, sOut_eq, c2, c3, Bool.not_false]
    exact hfin hv
  | true =>
    rw [if_neg (by simp [c3])] at hv
    simp +contextual -implicitDefEqProofs only [go_sem, gd_M, h1, g1, g8, n1, n2, ← hf1, puY1, puX3, puX2, puX1, puW7, puW6, puW5, puW4, puW3, puW2, sStr_eq, r4', q3, ← hw, sOut_eq, c2, c3, Bool.not_true]
    exact hfin hv
end Go.Proofs

/- Walks: the reference's names, paths, values; what has the form of a sum. -/
namespace Go.Proofs
open Go Go.Abs
set_option linter.unusedSimpArgs false
set_option linter.unusedVariables false
theorem name_iff (s : Bytes) (h : s ≠ []) : nameB s = (allB isNm s && isSm ((s.headD 0).toNat : Int) && decide ((s.length : Int) ≤ 40)) := by
  simp only [nameB, sEach, h, ne_eq, not_false_eq_true, decide_true, Bool.and_true]
  cases allB isNm s <;> cases isSm ((s.headD 0).toNat : Int) <;> simp
theorem rIsName_calls (s : Bytes) (H : Heap) (hs : s.length ≤ Room) : ACalls Tryz.prog 53 [.str s] H fun x H' => x = .bool (nameB s) ∧ H' = H := by
  have hR : Room = 1099511627776 := rfl
  rw [hR] at hs
  refine ACalls.of_code (X := { pure := puV3 }) puV3_ok Tryz.func53 (by kernel_rfl) rfl (by kernel_rfl) (Nat.le_of_ble_eq_true rfl) ?_
  simp -implicitDefEqProofs only [go_sem, Tryz.f53]
  refine aloop_intro (σ := Nat) (fun i => [(0, .str s), (7, .int .i64 s.length), (8, .int .i64 i)]) (fun i G => G = H ∧ i ≤ s.length ∧ allB isNm (s.take i) = true ∧ (0 < i → isSm ((s.headD 0).toNat : Int) = true)) (fun i => s.length - i) 0 ?_ ?_ ?_
  · simp -implicitDefEqProofs only [go_sem]
  · simp [allB]
  · intro i r G hv hI
    have h0 := hv.1
    have h7 := hv.2.1
    have h8 := hv.2.2.1
    have hG := hI.1.symm
    have hi := hI.2.1
    have hp := hI.2.2.1
    have hh := hI.2.2.2
    clear hv hI
    subst hG
    simp -implicitDefEqProofs only [go_sem, h0, h7, h8]
    refine cnd_intro (fun h => ?_) (fun h => ?_)
    · simp only [decide_eq_true_eq] at h
      obtain ⟨c, hc⟩ : ∃ c, s[i]? = some c := ⟨s[i]'(by omega), List.getElem?_eq_getElem _⟩
      have hn := not_nil_of hc
      have hsm : i = 0 → s.headD 0 = c := fun e => by subst e; exact head_of hc
      have bad0 : i = 0 → isSm (c.toNat : Int) = false → nameB s = false := fun e1 e2 => by rw [name_iff s hn, hsm e1, e2]; simp
      have bad1 : isNm (c.toNat : Int) = false → nameB s = false := fun e => by rw [nameB, sEach_false hc e]; rfl
      have good : (i = 0 → isSm (c.toNat : Int) = true) → isNm (c.toNat : Int) = true → allB isNm (s.take (i + 1)) = true ∧ (0 < i + 1 → isSm ((s.headD 0).toNat : Int) = true) := fun e1 e2 =>
        ⟨allB_succ hp hc e2, fun _ => by
          rcases Nat.eq_zero_or_pos i with e | e
          · rw [hsm e]; exact e1 e
          · exact hh e⟩
      clear hp hsm hh
      generalize hcn : (c.toNat : Int) = k at *
      simp -implicitDefEqProofs only [go_sem, h0, h7, h8, hc, hcn]
      clear hc
      repeat' (first | (with_reducible refine gd_intro (fun h => ?_) (fun h => ?_) <;> first | (exact absurd h (by decide)) | (simp at h; done) | simp -implicitDefEqProofs (disch := omega) only [go_sem, Go.IntWalk.i64_in, *]) | (with_reducible refine cnd_intro (fun h => ?_) (fun h => ?_) <;> first | (exact absurd h (by decide)) | (simp at h; done) | simp -implicitDefEqProofs (disch := omega) only [go_sem, Go.IntWalk.i64_in, *]))
      all_goals first
        | (refine Done.now ⟨?_, rfl⟩
           simp only [decide_eq_true_eq, decide_eq_false_iff_not, Bool.not_eq_true', Bool.not_eq_false', Decidable.not_not, Int.not_lt, Int.not_le, ne_eq] at *
           first
            | (rw [bad0 (by omega) (by simp [isSm]; omega)]; done)
            | (rw [bad1 (by simp [isNm, isSm, isDg]; omega)]; done))
        | (simp only [decide_eq_true_eq, decide_eq_false_iff_not, Bool.not_eq_true', Bool.not_eq_false', Decidable.not_not, Int.not_lt, Int.not_le, ne_eq] at *
           exact Again.mk (i + 1) (by simp -implicitDefEqProofs only [go_sem, h0, h7, h8]; exact rfl) ⟨rfl, by omega, good (by simp [isSm]; omega) (by simp [isNm, isSm, isDg]; omega)⟩ (by omega))
    · simp only [decide_eq_false_iff_not] at h
      have e : i = s.length := by omega
      subst e
      rw [List.take_length] at hp
      simp -implicitDefEqProofs only [go_sem, h0, h7, h8]
      repeat' (first | (with_reducible refine gd_intro (fun h => ?_) (fun h => ?_) <;> first | (exact absurd h (by decide)) | (simp at h; done) | simp -implicitDefEqProofs (disch := omega) only [go_sem, Go.IntWalk.i64_in, *]) | (with_reducible refine cnd_intro (fun h => ?_) (fun h => ?_) <;> first | (exact absurd h (by decide)) | (simp at h; done) | simp -implicitDefEqProofs (disch := omega) only [go_sem, Go.IntWalk.i64_in, *]))
      all_goals refine Done.now ⟨?_, rfl⟩
      all_goals simp only [decide_eq_true_eq, decide_eq_false_iff_not, Bool.not_eq_true', Bool.not_eq_false', Decidable.not_not, Int.not_lt, Int.not_le, ne_eq] at *
      · cases s with
        | nil => simp at hR h
        | cons b l => rw [name_iff _ (by simp), hp, hh (by simp)]; simp
      · have : s = [] := by simpa using h
        subst this; rfl
theorem rIsValue_calls (s : Bytes) (H : Heap) (hs : s.length ≤ Room) : ACalls Tryz.prog 67 [.str s] H fun x H' => x = .bool (valueB s) ∧ H' = H := by
  have hR : Room = 1099511627776 := rfl
  rw [hR] at hs
  clear hR
  refine ACalls.of_code (X := { pure := puV3 }) puV3_ok Tryz.func67 (by kernel_rfl) rfl (by kernel_rfl) (Nat.le_of_ble_eq_true rfl) ?_
  simp -implicitDefEqProofs only [go_sem, Tryz.f67]
  refine aloop_intro (σ := Nat) (fun i => [(0, .str s), (5, .int .i64 s.length), (6, .int .i64 i)]) (fun i G => G = H ∧ i ≤ s.length ∧ allB isVl (s.take i) = true) (fun i => s.length - i) 0 ?_ ?_ ?_
  · simp -implicitDefEqProofs only [go_sem]
  · simp [allB]
  · intro i r G hv hI
    have h0 := hv.1
    have h7 := hv.2.1
    have h8 := hv.2.2.1
    have hG := hI.1.symm
    have hi := hI.2.1
    have hp := hI.2.2
    clear hv hI
    subst hG
    simp -implicitDefEqProofs only [go_sem, h0, h7, h8]
    refine cnd_intro (fun h => ?_) (fun h => ?_)
    · simp only [decide_eq_true_eq] at h
      obtain ⟨c, hc⟩ : ∃ c, s[i]? = some c := ⟨s[i]'(by omega), List.getElem?_eq_getElem _⟩
      have bad1 : isVl (c.toNat : Int) = false → valueB s = false := fun e => by simp [valueB, sEach, allB_false hc e, not_nil_of hc]
      have good : isVl (c.toNat : Int) = true → allB isVl (s.take (i + 1)) = true := fun e2 => allB_succ hp hc e2
      clear hp
      generalize hcn : (c.toNat : Int) = k at *
      simp -implicitDefEqProofs only [go_sem, h0, h7, h8, hc, hcn]
      repeat' (first | (with_reducible refine gd_intro (fun h => ?_) (fun h => ?_) <;> first | (exact absurd h (by decide)) | (simp at h; done) | simp -implicitDefEqProofs (disch := omega) only [go_sem, Go.IntWalk.i64_in, *]) | (with_reducible refine cnd_intro (fun h => ?_) (fun h => ?_) <;> first | (exact absurd h (by decide)) | (simp at h; done) | simp -implicitDefEqProofs (disch := omega) only [go_sem, Go.IntWalk.i64_in, *]))
      all_goals first
        | (refine Done.now ⟨?_, rfl⟩
           simp only [decide_eq_true_eq, decide_eq_false_iff_not, Bool.not_eq_true', Bool.not_eq_false', Decidable.not_not, Int.not_lt, Int.not_le, ne_eq] at *
           rw [bad1 (by simp [isVl]; omega)]; done)
        | (simp only [decide_eq_true_eq, decide_eq_false_iff_not, Bool.not_eq_true', Bool.not_eq_false', Decidable.not_not, Int.not_lt, Int.not_le, ne_eq] at *
           exact Again.mk (i + 1) (by simp -implicitDefEqProofs only [go_sem, h0, h7, h8]; exact rfl) ⟨rfl, by omega, good (by simp [isVl]; omega)⟩ (by omega))
    · simp only [decide_eq_false_iff_not] at h
      have e : i = s.length := by omega
      subst e
      rw [List.take_length] at hp
      simp -implicitDefEqProofs only [go_sem, h0, h7, h8]
      repeat' (first | (with_reducible refine gd_intro (fun h => ?_) (fun h => ?_) <;> first | (exact absurd h (by decide)) | (simp at h; done) | simp -implicitDefEqProofs (disch := omega) only [go_sem, Go.IntWalk.i64_in, *]) | (with_reducible refine cnd_intro (fun h => ?_) (fun h => ?_) <;> first | (exact absurd h (by decide)) | (simp at h; done) | simp -implicitDefEqProofs (disch := omega) only [go_sem, Go.IntWalk.i64_in, *]))
      all_goals refine Done.now ⟨?_, rfl⟩
      all_goals try simp only [decide_eq_true_eq, decide_eq_false_iff_not, Bool.not_eq_true', Bool.not_eq_false', Decidable.not_not, Int.not_lt, Int.not_le, ne_eq] at *
      all_goals (by_cases hn : s = [] <;> simp_all [valueB, sEach] <;> omega)

def puR1 : Pures := putP 67 (sStr valueB) (putP 53 (sStr nameB) puV3)
theorem puR1_dyn : isDyn puR1 = false := by simp only [puR1, go_sem, Nat.reduceEqDiff]
attribute [go_sem] puR1_dyn
theorem puR1_ok : PuOK Tryz.prog puR1 := .put (.put (puV3_ok) (sStr_ok rIsName_calls)) (sStr_ok rIsValue_calls)
def puN : Pures := puR1
theorem puN_dyn : isDyn puN = isDyn puR1 := rfl
attribute [go_sem] puN_dyn
theorem puN_ok : PuOK Tryz.prog puN := puR1_ok
end Go.Proofs

/- Walks: the errors of records on the reference's side. -/
namespace Go.Proofs
open Go Go.Abs
set_option linter.unusedSimpArgs false
set_option linter.unusedVariables false
set_option maxRecDepth 20000
noncomputable def sVerEs := spF (fun p : List VerV × Tail => [AV.sl (p.1.map encVer) p.2]) (fun p => p.1.length ≤ 1099511627776 ∧ ∀ v ∈ p.1, verR v) fun p => .int .i64 (verErrs p.1)
theorem map_inj {α : Type} {enc : α → List AV} (hi : ∀ a b, enc a = enc b → a = b) : ∀ {l m : List α}, l.map enc = m.map enc → l = m
  | [], [], _ => rfl
  | [], _ :: _, h => by cases h
  | _ :: _, [], h => by cases h
  | a :: l, b :: m, h => by
    rw [List.map_cons, List.map_cons, List.cons.injEq] at h
    rw [hi a b h.1, map_inj hi h.2]
theorem sVerEs_eq (l : List VerV) (t : Tail) (h : l.length ≤ 1099511627776 ∧ ∀ v ∈ l, verR v) : sVerEs [.sl (l.map encVer) t] = some (.int .i64 (verErrs l)) := spF_eq (enc := fun p : List VerV × Tail => [AV.sl (p.1.map encVer) p.2]) (fun p q e => by
  simp only [List.cons.injEq, AV.sl.injEq, and_true] at e
  rw [map_inj (fun a b h => encVer_inj h) e.1]) (l, t) h
noncomputable def sCmpO := spF (fun p : VerV × VerV => [AV.agg (encVer p.1), .agg (encVer p.2)]) (fun p => (verR p.1 ∧ verR p.2) ∧ verErr p.1 = 0 ∧ verErr p.2 = 0) fun p => .int .i64 (orderV p.1 p.2)
theorem sCmpO_eq (a b : VerV) (h : (verR a ∧ verR b) ∧ verErr a = 0 ∧ verErr b = 0) : sCmpO [.agg (encVer a), .agg (encVer b)] = some (.int .i64 (orderV a b)) := spF_eq (enc := fun p : VerV × VerV => [AV.agg (encVer p.1), .agg (encVer p.2)]) (fun p q e => by
  simp only [List.cons.injEq, AV.agg.injEq, and_true] at e
  rw [encVer_inj e.1, encVer_inj e.2]) (a, b) h
noncomputable def puY2 : Pures := putP 67 (sStr valueB) (putP 53 (sStr nameB) (putP 62 sFirst (putP 64 sWhen (putP 66 sCmpO (putP 65 sVerEs puY1)))))
theorem puY2_dyn : isDyn puY2 = false := by simp only [puY2, go_sem, Nat.reduceEqDiff]
attribute [go_sem] puY2_dyn
theorem puY2_ok : PuOK Tryz.prog puY2 := .put (.put (.put (.put (.put (.put (puY1_ok) (spF_ok fun p H h => rVersionError_calls p.1 p.2 H h.1 h.2)) (spF_ok fun p H h => rCompareOf_calls p.1 p.2 H h.1.1 h.1.2 h.2.1 h.2.2)) (sWhen_ok when_calls)) (sFirst_ok first_calls)) (sStr_ok rIsName_calls)) (sStr_ok rIsValue_calls)
theorem outI_eq (n lo hi : Int) : (decide (n < lo) || decide (hi < n)) = outI n lo hi := rfl
set_option maxHeartbeats 6400000 in
theorem rRecordError_calls (v : RecV) (H : Heap) (hr : recR v) : ACalls Tryz.prog 17 [.agg (encRec v)] H fun x H' => x = .int .i64 (recErr v) ∧ H' = H := by
  have hS := Heap.Sub.rfl' H
  have hv := recErr.eq_1 v
  obtain ⟨r1, r2, r3, r4⟩ := hr
  have r1' : v.pack.length ≤ Room := r1
  have r4' : v.note.length ≤ Room := r4
  have q1 := fun t => sVerEs_eq [v.vfrom] t ⟨by simp, by simpa using r2⟩
  have q2 := fun t => sVerEs_eq [v.vto] t ⟨by simp, by simpa using r3⟩
  have n1 : ∀ cx cy, bin Tryz.prog .neq 30 cx cy (.agg [.int .i64 v.vfrom.major, .int .i64 v.vfrom.minor, .int .i64 v.vfrom.patch, .str v.vfrom.early]) (.agg [.int .i64 0, .int .i64 0, .int .i64 0, .str []]) = some (.bool (decide ¬ v.vfrom = .zero)) := fun cx cy => verNe cx cy v.vfrom .zero
  have n2 : ∀ cx cy, bin Tryz.prog .neq 30 cx cy (.agg [.int .i64 v.vto.major, .int .i64 v.vto.minor, .int .i64 v.vto.patch, .str v.vto.early]) (.agg [.int .i64 0, .int .i64 0, .int .i64 0, .str []]) = some (.bool (decide ¬ v.vto = .zero)) := fun cx cy => verNe cx cy v.vto .zero
  have v1 : verErrs [v.vfrom] = verErr v.vfrom := by simp only [verErrs]; split <;> simp [*]
  have v2 : verErrs [v.vto] = verErr v.vto := by simp only [verErrs]; split <;> simp [*]
  rw [v1] at q1
  rw [v2] at q2
  simp only [List.map_cons, List.map_nil] at q1 q2
  unfold encVer at q1 q2
  refine ACalls.of_code (X := { pure := puY2 }) puY2_ok Tryz.func17 (by kernel_rfl) rfl (by kernel_rfl) (Nat.le_of_ble_eq_true rfl) ?_
  simp -implicitDefEqProofs only [go_sem, Tryz.f17, encRec]
  with_reducible refine nwC_intro fun i1 hi1 => ?_
  generalize E1 : Heap.put H i1 _ = G1
  have hO_1 := obj_new E1 hi1 hS
  have n1 := hO_1.1
  have hS := hO_1.2.1
  have g1 := hO_1.2.2.1
  clear hO_1
  simp +contextual -implicitDefEqProofs only [go_sem, gd_M, g1, puY2, puY1, sWhen_eq, sFirst_three, sFirst_two, sStr_eq, r1', outI_eq]
  have fin : ∀ {e : Int}, recErr v = e → Done Tryz.prog (fun x H' => x = AV.int .i64 (recErr v) ∧ H' = H) (.int .i64 e) G1 := fun h => Done.drop hS ⟨by rw [h], rfl⟩
  have hE1 : fst0 [if outI v.time 0 1099511627776 = true then 3 else 0, if outI v.kind 1 6 = true then 1 else 0, if nameB v.pack = false then 5 else 0] = if outI v.time 0 1099511627776 = true then 3 else if outI v.kind 1 6 = true then 1 else if nameB v.pack = false then 5 else 0 := by
    cases outI v.time 0 1099511627776 <;> cases outI v.kind 1 6 <;> cases nameB v.pack <;> simp [fst0]
  generalize fst0 [if outI v.time 0 1099511627776 = true then 3 else 0, if outI v.kind 1 6 = true then 1 else 0, if nameB v.pack = false then 5 else 0] = e1 at *
  by_cases c0 : e1 = 0
  rotate_left
  · have y0 : decide (e1 = 0) = false := decide_eq_false c0
    have y1 : decide (¬ e1 = 0) = true := decide_eq_true c0
    have hz : recErr v = e1 := by
      rw [hE1] at c0 ⊢
      rw [hv]
      by_cases a1 : outI v.time 0 1099511627776 = true
      · rw [if_pos a1, if_pos a1]
      rw [if_neg a1] at c0 ⊢
      rw [if_neg a1]
      by_cases a2 : outI v.kind 1 6 = true
      · rw [if_pos a2, if_pos a2]
      rw [if_neg a2] at c0 ⊢
      rw [if_neg a2]
      by_cases a3 : nameB v.pack = false
      · rw [if_pos a3, if_pos a3]
      rw [if_neg a3] at c0
      exact absurd rfl c0
    simp -implicitDefEqProofs only [go_sem, y0, y1]
    exact fin hz
  have y0 : decide (e1 = 0) = true := decide_eq_true c0
  have hv : recErr v = _ := hv
  rw [c0] at hE1
  have a1 : ¬ outI v.time 0 1099511627776 = true := fun h => by rw [if_pos h] at hE1; cases hE1
  rw [if_neg a1] at hE1 hv
  have a2 : ¬ outI v.kind 1 6 = true := fun h => by rw [if_pos h] at hE1; cases hE1
  rw [if_neg a2] at hE1 hv
  have a3 : ¬ nameB v.pack = false := fun h => by rw [if_pos h] at hE1; cases hE1
  rw [if_neg a3] at hv
  by_cases b1 : verErr v.vfrom = 0
  rotate_left
  · rw [if_pos b1] at hv
    have hf : fst0 [verErr v.vfrom, verErr v.vto] = verErr v.vfrom := by simp [fst0, b1]
    have z1 : decide (¬ verErr v.vfrom = 0) = true := decide_eq_true b1
    simp -implicitDefEqProofs only [go_sem, y0, g1, puY2, q1, q2, sFirst_two, hf, z1]
    exact fin hv
  rw [if_neg (by simpa using b1)] at hv
  by_cases b2 : verErr v.vto = 0
  rotate_left
  · rw [if_pos b2] at hv
    have hf : fst0 [verErr v.vfrom, verErr v.vto] = verErr v.vto := by simp [fst0, b1, b2]
    have z1 : decide (¬ verErr v.vto = 0) = true := decide_eq_true b2
    simp -implicitDefEqProofs only [go_sem, y0, g1, puY2, q1, q2, sFirst_two, hf, z1]
    exact fin hv
  rw [if_neg (by simpa using b2)] at hv
  have hf : fst0 [verErr v.vfrom, verErr v.vto] = 0 := by simp [fst0, b1, b2]
  have z1 : decide (¬ (0 : Int) = 0) = false := rfl
  have q3 := sCmpO_eq v.vfrom v.vto ⟨⟨r2, r3⟩, b1, b2⟩
  unfold encVer at q3
  simp -implicitDefEqProofs only [go_sem, y0, g1, puY2, q1, q2, sFirst_two, hf, z1]
  with_reducible refine nwC_intro fun i4 hi4 => ?_
  simp -implicitDefEqProofs only [go_sem]
  generalize E4 : Heap.put G1 i4 _ = G2
  have hO_4 := obj_new E4 hi4 hS
  have n4 := hO_4.1
  have hS := hO_4.2.1
  have g4 := hO_4.2.2.1
  have d1_4 := obj_ne g1 hi4
  have g1 := hO_4.2.2.2 _ _ g1
  clear hO_4
  have fin : ∀ {e : Int}, recErr v = e → Done Tryz.prog (fun x H' => x = AV.int .i64 (recErr v) ∧ H' = H) (.int .i64 e) G2 := fun h => Done.drop hS ⟨by rw [h], rfl⟩
  have hf := recForm.eq_1 v
  have u1 : (decide (v.kind = 2) || decide (v.kind = 3) || decide (v.kind = 4)) = usesF v.kind := rfl
  have u2 : decide (¬ v.kind = 4) = usesT v.kind := by unfold usesT; simp
  generalize decide (¬ v.vfrom = .zero) = zf at *
  generalize decide (¬ v.vto = .zero) = zt at *
  generalize usesF v.kind = uf at *
  generalize usesT v.kind = ut at *
  have hf1 : recForm v = (!(zf == uf) || (!(zt == ut) && decide (¬ v.kind = 6))) := by rw [hf, bne_comm, bne_comm (a := ut)]; rfl
  by_cases c0 : recForm v = true
  · rw [if_pos c0] at hv
    rw [c0] at hf1
    simp +contextual -implicitDefEqProofs only [go_sem, gd_M, g1, g4, n1, n2, u1, u2, ← hf1]
    exact fin hv
  rw [if_neg c0] at hv
  rw [show recForm v = false by simpa using c0] at hf1
  have hw := recWay.eq_1 v
  generalize orderV v.vfrom v.vto = c at *
  simp +contextual -implicitDefEqProofs only [go_sem, gd_M, g1, g4, n1, n2, u1, u2, ← hf1, puY2, puY1, q3, ← hw, sWhen_eq, sFirst_three, sStr_eq, r4', outI_eq]
  have hE2 : fst0 [if recWay v = true then 11 else 0, if outI v.result 0 18 = true then 3 else 0, if valueB v.note = false then 2 else 0] = recErr v := by
    rw [hv]
    cases recWay v <;> cases outI v.result 0 18 <;> cases valueB v.note <;> simp [fst0]
  have hp : (v.kind = 2 ∧ 0 ≤ c ∨ v.kind = 3 ∧ c ≤ 0) ↔ recWay v = true := by rw [hw]; simp
  try simp only [hp]
  rw [hE2]
  exact fin rfl
end Go.Proofs

/- Walks: strings.Builder. -/
namespace Go.Proofs
open Go Go.Abs
set_option linter.unusedSimpArgs false
set_option linter.unusedVariables false

/-- Bytes as cells of a slice. -/
def bcell (b : UInt8) : List AV := [.int .u8 b.toNat]
theorem bcell_len (l : Bytes) : Unif 1 (l.map bcell) := by
  intro c hc
  simp only [List.mem_map] at hc
  obtain ⟨b, _, rfl⟩ := hc
  rfl
abbrev bldP (b : Nat) : AV := .tptr 150 2 b
theorem noEscape_calls (T sz id : Nat) (H : Heap) : ACalls Tryz.prog 206 [.tptr T sz id] H fun y H' => y = .tptr T sz id ∧ H' = H :=
  ACalls.of_extern (e := Extern.AbiNoEscape.same) Tryz.func206 (by kernel_rfl) rfl (by kernel_rfl) (by kernel_rfl) fun C H w vs hv => by
    obtain ⟨v, rfl, h1⟩ := reprL_one hv
    exact ⟨v, Lib.run_noEscape (P := Tryz.prog) w v, h1⟩
theorem heap_put_id {H : Heap} {b : Nat} {o : AObj} (h : H b = some o) : H.put b o = H := by
  funext i
  unfold Heap.put
  split
  · rename_i e; subst e; exact h.symm
  · rfl
theorem _root_.Go.Abs.ACalls.next1 {P : Program} {f : FuncId} {args : List AV} {H H1 : Heap} {K : K1} {x : AV} (h : ACalls P f args H fun y H' => y = x ∧ H' = H1) (hK : K x H1) : ACalls P f args H K := by
  refine h.mono ?_
  rintro x H' ⟨rfl, rfl⟩
  exact hK
def addrOK (b : Nat) (p : AV) : Prop := p = .nilp ∨ p = bldP b
theorem copyCheck_calls {G : Heap} {b : Nat} {p buf : AV} (hp : addrOK b p) (h3 : G b = some (.cells [p, buf])) :
    ACalls Tryz.prog 169 [bldP b] G fun x G' => x = .tup [] ∧ G' = G.put b (.cells [bldP b, buf]) := by
  rcases hp with rfl | rfl
  · refine ACalls.of_code (X := { pure := pu0 }) pu0_ok Tryz.func169 (by kernel_rfl) rfl (by kernel_rfl) (Nat.le_of_ble_eq_true rfl) ?_
    simp -implicitDefEqProofs only [go_sem, Tryz.f169, h3]
    refine (noEscape_calls _ _ _ _).pure_next _ ?_
    simp -implicitDefEqProofs only [go_sem, h3]
    exact Done.now ⟨rfl, rfl⟩
  · refine ACalls.of_code (X := { pure := pu0 }) pu0_ok Tryz.func169 (by kernel_rfl) rfl (by kernel_rfl) (Nat.le_of_ble_eq_true rfl) ?_
    simp -implicitDefEqProofs only [go_sem, Tryz.f169, h3]
    exact Done.now ⟨rfl, (heap_put_id h3).symm⟩
/-- The builder 'b' holds these bytes; 'H': what there is beside it. -/
def BufOK (g : Bool) (H G : Heap) (b : Nat) (buf : AV) (l : Bytes) : Prop := buf = .snil ∧ l = [] ∨ ∃ t, buf = .sl (l.map bcell) (.tok t 1 (some 5)) ∧ H t = none ∧ G t = some (.tail l.length) ∧ ¬ t = b ∧ (g = false → l ≠ [])
/-- .. 'g': it may have got room, and hold nothing. -/
def BldG (g : Bool) (H G : Heap) (b : Nat) (l : Bytes) : Prop := H.Sub G ∧ H b = none ∧ ∃ p buf, G b = some (.cells [p, buf]) ∧ addrOK b p ∧ BufOK g H G b buf l
abbrev BldOK (H G : Heap) (b : Nat) (l : Bytes) : Prop := BldG false H G b l
/-- What a builder's writing leaves of other objects. -/
def tokOf (G : Heap) (b : Nat) : Option Nat := match G b with
  | some (.cells [_, .sl _ (.tok t _ _)]) => some t
  | _ => none
def BKept (b : Nat) (G G' : Heap) : Prop := ∀ i o, G i = some o → ¬ i = b → tokOf G b ≠ some i → G' i = some o
theorem BldG.sub {g : Bool} {H G : Heap} {b : Nat} {l : Bytes} (h : BldG g H G b l) : H.Sub G := h.1
theorem BldG.tok {g : Bool} {H G : Heap} {b : Nat} {l : Bytes} (h : BldG g H G b l) {t : Nat} (ht : tokOf G b = some t) : H t = none := by
  obtain ⟨_, _, p, buf, h3, h4, h5⟩ := h
  unfold tokOf at ht
  rw [h3] at ht
  rcases h5 with ⟨rfl, -⟩ | ⟨t', rfl, h6, -⟩
  · cases ht
  · cases ht; exact h6
theorem BldG.put {g : Bool} {H G : Heap} {b : Nat} {l : Bytes} (h : BldG g H G b l) {i : Nat} (hi : G i = none) (o : AObj) : BldG g H (G.put i o) b l := by
  obtain ⟨h1, h2, p, buf, h3, h4, h5⟩ := h
  have hH : H i = none := by
    cases hh : H i with
    | none => rfl
    | some x => have := h1 i x hh; rw [hi] at this; cases this
  have hb : ¬ b = i := fun e => by subst e; rw [h3] at hi; cases hi
  refine ⟨h1.put' hH o, h2, p, buf, by rw [put_ne _ _ _ _ hb]; exact h3, h4, ?_⟩
  rcases h5 with h5 | ⟨t, t1, t2, t3, t4, t9⟩
  · exact .inl h5
  · have ht : ¬ t = i := fun e => by subst e; rw [t3] at hi; cases hi
    exact .inr ⟨t, t1, t2, by rw [put_ne _ _ _ _ ht]; exact t3, t4, t9⟩
/-- A new builder. -/
theorem BldG.new {H G : Heap} (h : H.Sub G) {b : Nat} (hb : G b = none) : BldOK H (G.put b (.cells [.nilp, .snil])) b [] := by
  have hH : H b = none := by
    cases hh : H b with
    | none => rfl
    | some x => have := h b x hh; rw [hb] at this; cases this
  exact ⟨h.put' hH _, hH, _, _, put_same _ _ _, .inl rfl, .inl ⟨rfl, rfl⟩⟩
theorem app_snil {et : Option TypeId} {e : TI} {new : List (List AV)} {H : Heap} {K : K1} (h1 : new.length * e.bytes ≤ 140737488355328) (h2 : new.length ≤ 4611686018427387904) (h0 : new = [] → K .snil H)
    (h : new ≠ [] → ∀ id', H id' = none → K (.sl new (.tok id' e.size et)) (H.put id' (.tail (new.length * e.size)))) : appK et false e .snil new H K :=
  ⟨h0, fun hn => ⟨h1, h2, fun id' hid => h hn id' hid⟩⟩
theorem app_tok' {et : Option TypeId} {e : TI} {es new : List (List AV)} {id : Nat} {H : Heap} {K : K1} (hu : Unif e.size es) (ht : H id = some (.tail (es.length * e.size))) (h1 : (es.length + new.length) * e.bytes ≤ 140737488355328) (h2 : es.length + new.length ≤ 4611686018427387904)
    (h : ∀ id', H id' = none → K (.sl (es ++ new) (.tok id' e.size et)) ((H.del id).put id' (.tail ((es ++ new).length * e.size)))) : appK et false e (.sl es (.tok id e.size et)) new H K :=
  app_tok hu ht h1 h2 fun id' hid => by rw [if_pos rfl]; exact h id' hid

theorem writeString_calls {g : Bool} {H G : Heap} {b : Nat} {l s : Bytes} (h : BldG g H G b l) (hl : l.length + s.length ≤ 140737488355328) :
    ACalls Tryz.prog 109 [bldP b, .str s] G fun x G' => x = .tup [.int .i64 s.length, .nilIface] ∧ BldG g H G' b (l ++ s) ∧ BKept b G G' := by
  obtain ⟨h1, h2, p, buf, h3, h4, h5⟩ := h
  have hc := copyCheck_calls h4 h3
  have hm : (s.map fun b : UInt8 => [AV.int .u8 b.toNat]) = s.map bcell := rfl
  rcases h5 with ⟨rfl, rfl⟩ | ⟨t, rfl, t2, t3, t4, t9⟩
  · refine ACalls.of_code (X := { pure := pu0 }) pu0_ok Tryz.func109 (by kernel_rfl) rfl (by kernel_rfl) (Nat.le_of_ble_eq_true rfl) ?_
    simp -implicitDefEqProofs only [go_sem, Tryz.f109]
    refine hc.next1 ?_
    simp -implicitDefEqProofs only [go_sem, hm]
    refine app_snil (by simp at hl ⊢; omega) (by simp at hl ⊢; omega) (fun hn => ?_) (fun hn t' ht' => ?_)
    · have hs : s = [] := by simpa using hn
      subst hs
      simp -implicitDefEqProofs only [go_sem]
      refine Done.now ⟨rfl, ⟨h1.put' h2 _, h2, _, _, put_same _ _ _, .inr rfl, .inl ⟨rfl, rfl⟩⟩, fun i o hi hb _ => by rw [put_ne _ _ _ _ hb]; exact hi⟩
    · have n1 := (heap_none ht').1
      have n2 := (heap_none ht').2.1
      have n3 := (heap_none ht').2.2
      have n4 : H t' = none := by
        cases hh : H t' with
        | none => rfl
        | some x => have := h1 t' x hh; rw [n3] at this; cases this
      simp -implicitDefEqProofs only [go_sem, put_ne, n2]
      refine Done.now ⟨rfl, ⟨((h1.put' h2 _).put' n4 _).put' h2 _, h2, _, _, put_same _ _ _, .inr rfl, .inr ⟨t', rfl, n4, ?_, n1, fun _ => by simpa using hn⟩⟩, fun i o hi hb _ => ?_⟩
      · rw [put_ne _ _ _ _ n1, put_same]; simp
      · have n5 : ¬ i = t' := fun e => by subst e; rw [n3] at hi; cases hi
        rw [put_ne _ _ _ _ hb, put_ne _ _ _ _ n5, put_ne _ _ _ _ hb]; exact hi
  · have htk : tokOf G b = some t := by simp [tokOf, h3]
    have t5 : (G.put b (.cells [bldP b, .sl (l.map bcell) (.tok t 1 (some 5))])) t = some (.tail ((l.map bcell).length * 1)) := by
      rw [put_ne _ _ _ _ t4]; simpa using t3
    refine ACalls.of_code (X := { pure := pu0 }) pu0_ok Tryz.func109 (by kernel_rfl) rfl (by kernel_rfl) (Nat.le_of_ble_eq_true rfl) ?_
    simp -implicitDefEqProofs only [go_sem, Tryz.f109]
    refine hc.next1 ?_
    simp -implicitDefEqProofs only [go_sem, hm]
    refine app_tok' (e := tiU8) (bcell_len l) t5 (by simp at hl ⊢; omega) (by simp at hl ⊢; omega) (fun t' ht' => ?_)
    have n1 := (heap_none ht').1
    have n2 := (heap_none ht').2.1
    have n3 := (heap_none ht').2.2
    have n4 : H t' = none := by
      cases hh : H t' with
      | none => rfl
      | some x => have := h1 t' x hh; rw [n3] at this; cases this
    have n6 : ¬ b = t := fun e => t4 e.symm
    have n7 : H.Sub ((G.put b (.cells [bldP b, .sl (l.map bcell) (.tok t 1 (some 5))])).del t) := fun i o hi => by
      rw [del_ne (fun e => by subst e; rw [t2] at hi; cases hi)]
      exact h1.put' h2 _ i o hi
    simp -implicitDefEqProofs only [go_sem, put_ne, n2, del_ne, n6]
    refine Done.now ⟨rfl, ⟨(n7.put' n4 _).put' h2 _, h2, _, _, put_same _ _ _, .inr rfl, .inr ⟨t', by rw [List.map_append], n4, ?_, n1, fun e => by simp [t9 e]⟩⟩, fun i o hi hb hk => ?_⟩
    · rw [put_ne _ _ _ _ n1, put_same]; simp
    · have n5 : ¬ i = t' := fun e => by subst e; rw [n3] at hi; cases hi
      have n8 : ¬ i = t := fun e => hk (by rw [htk, e])
      rw [put_ne _ _ _ _ hb, put_ne _ _ _ _ n5, del_ne n8, put_ne _ _ _ _ hb]; exact hi
theorem bldString_calls {g : Bool} {H G : Heap} {b : Nat} {l : Bytes} (h : BldG g H G b l) (hl : l.length ≤ 140737488355328) (hg : g = true → l ≠ []) : ACalls Tryz.prog 110 [bldP b] G fun x G' => x = .str l ∧ G' = G := by
  obtain ⟨h1, h2, p, buf, h3, h4, h5⟩ := h
  rcases h5 with ⟨rfl, rfl⟩ | ⟨t, rfl, t2, t3, t4, t9⟩
  · refine ACalls.of_code (X := { pure := pu0 }) pu0_ok Tryz.func110 (by kernel_rfl) rfl (by kernel_rfl) (Nat.le_of_ble_eq_true rfl) ?_
    simp -implicitDefEqProofs only [go_sem, Tryz.f110, h3]
    exact Done.now ⟨rfl, rfl⟩
  · have hm : l.map bcell = l.map fun b : UInt8 => [AV.int .u8 b.toNat] := rfl
    have hl0 : ¬ l = [] := by cases g with
      | true => exact hg rfl
      | false => exact t9 rfl
    refine ACalls.of_code (X := { pure := pu0 }) pu0_ok Tryz.func110 (by kernel_rfl) rfl (by kernel_rfl) (Nat.le_of_ble_eq_true rfl) ?_
    simp -implicitDefEqProofs only [go_sem, Tryz.f110, h3, hm, hl0]
    exact ⟨by omega, Done.now ⟨rfl, rfl⟩⟩
theorem makeNoZero_calls {G : Heap} (n : Nat) (hn : n ≤ 140737488355328) : ACalls Tryz.prog 234 [.int .i64 n] G fun x G' => ∃ t, G t = none ∧ x = .rs t n 1 (some 5) ∧ G' = G.put t (.tail 0) :=
  Go.Abs.makeNoZero_calls (ps := #[3]) (t := 70) Tryz.func234 (by kernel_rfl) rfl (by kernel_rfl) (by kernel_rfl) (by kernel_rfl) n hn
/-- The orders of the region in which room is got. -/
def growOrd (n : Nat) : Option (List (List Nat)) := if n = 0 then some [[0, 1, 2, 3, 4, 5, 6, 7, 9, 10, 11, 8, 12, 13, 14, 15], [0, 1, 2, 3, 4, 5, 6, 7, 9, 10, 11, 12, 13, 8, 14, 15]] else none
theorem makeNoZero_k {G : Heap} (n : Nat) (hn : n ≤ 140737488355328) {K : K1} (hK : ∀ t, G t = none → K (.rs t n 1 (some 5)) (G.put t (.tail 0))) : ACalls Tryz.prog 234 [.int .i64 n] G K := by
  refine (makeNoZero_calls n hn).mono ?_
  rintro x G' ⟨t, h1, rfl, rfl⟩
  exact hK t h1
theorem bldgrow_calls {G : Heap} {b n : Nat} {p : AV} (h3 : G b = some (.cells [p, .snil])) (hn : n ≤ 140737488355328) :
    ACalls Tryz.prog 189 [bldP b, .int .i64 n] G fun x G' => x = .tup [] ∧ ∃ t, G t = none ∧ G' = (G.put t (.tail 0)).put b (.cells [p, .sl [] (.tok t 1 (some 5))]) := by
  have hw : IntKind.i64.wrap (n : Int) = n := Go.IntWalk.i64_in _ (by omega)
  have hw0 : IntKind.i64.wrap (2 * 0) = 0 := by decide
  have hw1 : IntKind.i64.wrap 0 = 0 := by decide
  refine ACalls.of_code (X := { pure := pu0, orders := growOrd }) pu0_ok Tryz.func189 (by kernel_rfl) rfl (by kernel_rfl) (Nat.le_of_ble_eq_true rfl) ?_
  simp -implicitDefEqProofs only [go_sem, Tryz.f189]
  rw [acode_draw]
  intro ord hord
  simp only [List.mem_cons, List.not_mem_nil, or_false] at hord
  rcases hord with rfl | rfl
  all_goals rw [aops_order _ _ _ _ _ _ _ (by rfl)]
  all_goals simp -implicitDefEqProofs only [go_sem, stripO, h3, hw, hw0, hw1, Int.mul_zero, Int.zero_add]
  all_goals refine makeNoZero_k n hn (fun t ht => ?_)
  all_goals have n1 : ¬ b = t := fun e => by subst e; rw [h3] at ht; cases ht
  all_goals simp -implicitDefEqProofs only [go_sem, h3, put_ne, n1, Int.toNat_zero]
  all_goals exact Done.now ⟨rfl, t, ht, rfl⟩
/-- A fresh builder gets room. -/
theorem bldGrow_calls {H G : Heap} {b n : Nat} (hs : H.Sub G) (hb : H b = none) (h3 : G b = some (.cells [.nilp, .snil])) (hn : n ≤ 140737488355328) :
    ACalls Tryz.prog 150 [bldP b, .int .i64 n] G fun x G' => x = .tup [] ∧ BldG (!decide (n = 0)) H G' b [] ∧ BKept b G G' := by
  have hc := copyCheck_calls (b := b) (p := .nilp) (buf := .snil) (.inl rfl) h3
  have hw1 : IntKind.i64.wrap 0 = 0 := by decide
  have hd : decide ((n : Int) < 0) = false := by simp
  have hbk : BKept b G (G.put b (.cells [bldP b, .snil])) := fun i o hi hb _ => by rw [put_ne _ _ _ _ hb]; exact hi
  by_cases h0 : n = 0
  · subst h0
    refine ACalls.of_code (X := { pure := pu0 }) pu0_ok Tryz.func150 (by kernel_rfl) rfl (by kernel_rfl) (Nat.le_of_ble_eq_true rfl) ?_
    simp -implicitDefEqProofs only [go_sem, Tryz.f150]
    refine hc.next1 ?_
    simp -implicitDefEqProofs only [go_sem, hw1]
    exact Done.now ⟨rfl, ⟨hs.put' hb _, hb, _, _, put_same _ _ _, .inr rfl, .inl ⟨rfl, rfl⟩⟩, hbk⟩
  · have hd2 : decide ((0 : Int) < n) = true := by simp; omega
    refine ACalls.of_code (X := { pure := pu0 }) pu0_ok Tryz.func150 (by kernel_rfl) rfl (by kernel_rfl) (Nat.le_of_ble_eq_true rfl) ?_
    simp -implicitDefEqProofs only [go_sem, Tryz.f150]
    refine hc.next1 ?_
    simp -implicitDefEqProofs only [go_sem, hw1, hd, hd2]
    refine (bldgrow_calls (put_same _ _ _) hn).mono ?_
    rintro x G' ⟨rfl, t, ht, rfl⟩
    have n1 := (heap_none ht).1
    have n3 := (heap_none ht).2.2
    have n4 : H t = none := by
      cases hh : H t with
      | none => rfl
      | some x => have := hs t x hh; rw [n3] at this; cases this
    simp -implicitDefEqProofs only [go_sem]
    refine Done.now ⟨rfl, ⟨((hs.put' hb _).put' n4 _).put' hb _, hb, _, _, put_same _ _ _, .inr rfl, .inr ⟨t, rfl, n4, by rw [put_ne _ _ _ _ n1, put_same]; rfl, n1, fun e => by simp [h0] at e⟩⟩, fun i o hi hb _ => ?_⟩
    have n5 : ¬ i = t := fun e => by subst e; rw [n3] at hi; cases hi
    rw [put_ne _ _ _ _ hb, put_ne _ _ _ _ n5, put_ne _ _ _ _ hb]; exact hi
/-! ### In passing -/
theorem writeString_k {g : Bool} {H G : Heap} {b : Nat} {l s : Bytes} (h : BldG g H G b l) (hl : l.length + s.length ≤ 140737488355328) {K : K1} (hK : ∀ G', BldG g H G' b (l ++ s) → BKept b G G' → K (.tup [.int .i64 s.length, .nilIface]) G') :
    ACalls Tryz.prog 109 [bldP b, .str s] G K := by
  refine (writeString_calls h hl).mono ?_
  rintro x G' ⟨rfl, h1, h2⟩
  exact hK G' h1 h2
theorem bldGrow_k {H G : Heap} {b n : Nat} (hs : H.Sub G) (hb : H b = none) (h3 : G b = some (.cells [.nilp, .snil])) (hn : n ≤ 140737488355328) {K : K1} (hK : ∀ G', BldG (!decide (n = 0)) H G' b [] → BKept b G G' → K (.tup []) G') :
    ACalls Tryz.prog 150 [bldP b, .int .i64 n] G K := by
  refine (bldGrow_calls hs hb h3 hn).mono ?_
  rintro x G' ⟨rfl, h1, h2⟩
  exact hK G' h1 h2
theorem bldString_k {g : Bool} {H G : Heap} {b : Nat} {l : Bytes} (h : BldG g H G b l) (hl : l.length ≤ 140737488355328) (hg : g = true → l ≠ []) {K : K1} (hK : K (.str l) G) : ACalls Tryz.prog 110 [bldP b] G K := (bldString_calls h hl hg).pure_next _ hK
end Go.Proofs

/- Walks: strings.Join with nothing between. -/
namespace Go.Proofs
open Go Go.Abs
set_option linter.unusedSimpArgs false
set_option linter.unusedVariables false
theorem flat_take {l : List Bytes} {i : Nat} {c : Bytes} (h : l[i]? = some c) : (l.take (i + 1)).flatten = (l.take i).flatten ++ c := by
  rw [List.take_add_one, h]; simp
theorem flat_take_le (l : List Bytes) (i : Nat) : (l.take i).flatten.length ≤ l.flatten.length := by
  conv => rhs; rw [← List.take_append_drop i l, List.flatten_append, List.length_append]
  omega
set_option maxHeartbeats 800000 in
theorem join_calls (l : List Bytes) (t : Tail) (H : Heap) (hl : l.length ≤ 1099511627776) (hb' : l.flatten.length ≤ 140737488355328) :
    ACalls Tryz.prog 81 [.sl (l.map encBs) t, .str []] H fun x H' => x = .str l.flatten ∧ H' = H := by
  by_cases h0 : l.length = 0
  · have e : l = [] := List.eq_nil_of_length_eq_zero h0
    subst e
    refine ACalls.of_code (X := { pure := pu0 }) pu0_ok Tryz.func81 (by kernel_rfl) rfl (by kernel_rfl) (Nat.le_of_ble_eq_true rfl) ?_
    simp -implicitDefEqProofs only [go_sem, Tryz.f81]
    exact Done.now ⟨rfl, rfl⟩
  by_cases h1 : l.length = 1
  · obtain ⟨s, rfl⟩ := List.length_eq_one_iff.1 h1
    refine ACalls.of_code (X := { pure := pu0 }) pu0_ok Tryz.func81 (by kernel_rfl) rfl (by kernel_rfl) (Nat.le_of_ble_eq_true rfl) ?_
    simp -implicitDefEqProofs only [go_sem, Tryz.f81, encBs]
    exact Done.now ⟨by simp, rfl⟩
  have d0 : decide ((l.length : Int) = 0) = false := decide_eq_false (by omega)
  have d1 : decide ((l.length : Int) = 1) = false := decide_eq_false (by omega)
  refine ACalls.of_code (X := { pure := pu0, ms := fun t => decide (t = 8) }) pu0_ok Tryz.func81 (by kernel_rfl) rfl (by kernel_rfl) (Nat.le_of_ble_eq_true rfl) ?_
  simp -implicitDefEqProofs only [go_sem, Tryz.f81, d0, d1]
  refine aloop_intro (σ := Nat) (fun i => [(0, .sl (l.map encBs) t), (1, .str []), (5, .int .i64 ((l.take i).flatten.length : Int)), (39, .sl (l.map encBs) t), (40, .int .i64 l.length), (41, .int .i64 i)]) (fun i G => G = H ∧ i ≤ l.length) (fun i => l.length - i) 0 ?_ ?_ ?_
  · simp -implicitDefEqProofs only [go_sem]
    simp
  · simp
  · intro i r G hv hI
    have h0 := hv.1
    have h1 := hv.2.1
    have h5 := hv.2.2.1
    have h39 := hv.2.2.2.1
    have h40 := hv.2.2.2.2.1
    have h41 := hv.2.2.2.2.2.1
    have hG := hI.1.symm
    have hi := hI.2
    clear hv hI
    subst hG
    simp -implicitDefEqProofs only [go_sem, h0, h1, h5, h39, h40, h41]
    refine cnd_intro (fun h => ?_) (fun h => ?_)
    · simp only [decide_eq_true_eq] at h
      obtain ⟨c, hc⟩ : ∃ c, l[i]? = some c := ⟨l[i]'(by omega), List.getElem?_eq_getElem _⟩
      have f1 := flat_take_le l i
      have f2 := flat_take hc
      have f3 := flat_take_le l (i + 1)
      rw [f2, List.length_append] at f3
      have d2 : decide (9223372036854775807 - (((l.take i).flatten.length : Nat) : Int) < (c.length : Int)) = false := decide_eq_false (by omega)
      simp -implicitDefEqProofs (disch := omega) only [go_sem, Go.IntWalk.i64_in, h0, h1, h5, h39, h40, h41, hc, encBs, d2]
      refine Again.mk (i + 1) (by simp -implicitDefEqProofs only [go_sem, h0, h1, h5, h39, h40, h41, f2, List.length_append]; simp) ⟨rfl, by omega⟩ (by omega)
    · simp only [decide_eq_false_iff_not] at h
      have e : i = l.length := by omega
      subst e
      rw [List.take_length] at h5
      simp -implicitDefEqProofs only [go_sem, h0, h1, h5, h39, h40, h41]
      refine nwT_intro fun b hb => ?_
      simp -implicitDefEqProofs only [go_sem, h0, h1, h5]
      have hsub : H.Sub (H.put b (.cells [.nilp, .snil])) := (Heap.Sub.rfl' H).put' hb _
      refine bldGrow_k hsub hb (put_same _ _ _) hb' (fun G1 hG1 _ => ?_)
      obtain ⟨c0, hc0⟩ : ∃ c, l[0]? = some c := ⟨l[0]'(by omega), List.getElem?_eq_getElem _⟩
      have f0 : (l.take (0 + 1)).flatten = c0 := by rw [flat_take hc0]; simp
      have f1 := flat_take_le l (0 + 1)
      rw [f0] at f1
      simp -implicitDefEqProofs (disch := omega) only [go_sem, Go.IntWalk.i64_in, h0, h1, h5, Int.toNat_zero, Int.le_refl, hc0, encBs]
      refine writeString_k hG1 (by simp; omega) (fun G2 hG2 _ => ?_)
      rw [List.nil_append] at hG2
      have hlm : (((l.map encBs).take l.length).drop 1) = (l.drop 1).map encBs := by
        rw [List.take_of_length_le (by simp), List.map_drop]
      have hle : (1 : Int) ≤ l.length := by omega
      simp -implicitDefEqProofs (disch := omega) only [go_sem, Go.IntWalk.i64_in, h0, h1, Int.toNat_one, hlm, hle, Int.le_refl, encBs, List.length_drop]
      refine aloop_intro (σ := Nat) (fun i => [(1, .str []), (8, bldP b), (63, .sl ((l.drop 1).map encBs) (cutTail (some (.const (.int .i64 1))) none t)), (64, .int .i64 ((l.length - 1 : Nat) : Int)), (65, .int .i64 i)])
        (fun i G => BldG (!decide (l.flatten.length = 0)) H G b (l.take (i + 1)).flatten ∧ i ≤ l.length - 1) (fun i => l.length - 1 - i) 0 ?_ ?_ ?_
      · simp -implicitDefEqProofs only [go_sem, h1]
      · rw [f0]; exact ⟨hG2, by omega⟩
      · intro i r G hv hI
        have h1 := hv.1
        have h8 := hv.2.1
        have h63 := hv.2.2.1
        have h64 := hv.2.2.2.1
        have h65 := hv.2.2.2.2.1
        have hB := hI.1
        have hi := hI.2
        clear hv hI
        simp -implicitDefEqProofs only [go_sem, h1, h8, h63, h64, h65]
        refine cnd_intro (fun h => ?_) (fun h => ?_)
        · simp only [decide_eq_true_eq] at h
          obtain ⟨c, hc⟩ : ∃ c, l[i + 1]? = some c := ⟨l[i + 1]'(by omega), List.getElem?_eq_getElem _⟩
          have hc2 : (l.drop 1)[i]? = some c := by rw [List.getElem?_drop, Nat.add_comm]; exact hc
          have f2 := flat_take hc
          have f3 := flat_take_le l (i + 1 + 1)
          have f4 := flat_take_le l (i + 1)
          rw [f2, List.length_append] at f3
          simp -implicitDefEqProofs (disch := omega) only [go_sem, Go.IntWalk.i64_in, h1, h8, h63, h64, h65, hc2, encBs]
          refine writeString_k hB (by rw [List.length_nil]; omega) (fun G3 hG3 _ => ?_)
          simp -implicitDefEqProofs (disch := omega) only [go_sem, Go.IntWalk.i64_in, h1, h8, h63, h64, h65, hc2, encBs]
          refine writeString_k hG3 (by rw [List.append_nil]; omega) (fun G4 hG4 _ => ?_)
          simp -implicitDefEqProofs (disch := omega) only [go_sem, Go.IntWalk.i64_in, h1, h8, h63, h64, h65, hc2, encBs]
          rw [List.append_nil, ← f2] at hG4
          exact Again.mk (i + 1) (by simp -implicitDefEqProofs only [go_sem, h1, h8, h63, h64, h65]; exact rfl) ⟨hG4, by omega⟩ (by omega)
        · simp only [decide_eq_false_iff_not] at h
          have e : i + 1 = l.length := by omega
          rw [e, List.take_length] at hB
          simp -implicitDefEqProofs only [go_sem, h1, h8, h63, h64, h65]
          refine bldString_k hB hb' (fun hn => by intro e; rw [e] at hn; simp at hn) ?_
          simp -implicitDefEqProofs only [go_sem]
          exact Done.drop hB.sub ⟨rfl, rfl⟩
end Go.Proofs

/- Walks: strings.Join with a space between. -/
namespace Go.Proofs
open Go Go.Abs
set_option linter.unusedSimpArgs false
set_option linter.unusedVariables false
set_option maxRecDepth 20000
def joinP (sep : Bytes) : List Bytes → Bytes
  | [] => []
  | a :: l => a ++ (l.map (sep ++ ·)).flatten
def joinT (sep : Bytes) (a : Bytes) (l : List Bytes) (i : Nat) : Bytes := a ++ ((l.take i).map (sep ++ ·)).flatten
theorem joinT_succ {sep a : Bytes} {l : List Bytes} {i : Nat} {c : Bytes} (h : l[i]? = some c) : joinT sep a l (i + 1) = joinT sep a l i ++ (sep ++ c) := by
  unfold joinT
  rw [List.take_add_one, h]
  simp
theorem joinT_all (sep a : Bytes) (l : List Bytes) : joinT sep a l l.length = joinP sep (a :: l) := by
  unfold joinT joinP
  rw [List.take_length]
theorem joinT_le (sep a : Bytes) (l : List Bytes) (i : Nat) : (joinT sep a l i).length ≤ (joinP sep (a :: l)).length := by
  have h : (joinP sep (a :: l)).length = (joinT sep a l i).length + ((l.drop i).map (sep ++ ·)).flatten.length := by
    show (a ++ (l.map (sep ++ ·)).flatten).length = _
    unfold joinT
    conv => lhs; rw [← List.take_append_drop i l]
    simp only [List.map_append, List.flatten_append, List.length_append]
    omega
  omega
theorem join_len (sep : Bytes) (l : List Bytes) : ((l.map (sep ++ ·)).flatten).length = l.length * sep.length + l.flatten.length := by
  induction l with
  | nil => simp
  | cons a l ih =>
    rw [List.map_cons, List.flatten_cons, List.length_append, ih, List.flatten_cons, List.length_append, List.length_append, List.length_cons, Nat.add_mul]
    omega
theorem joinP_len (sep a : Bytes) (l : List Bytes) : (joinP sep (a :: l)).length = l.length * sep.length + (a :: l).flatten.length := by
  unfold joinP
  rw [List.length_append, join_len, List.flatten_cons, List.length_append]
  omega
set_option maxHeartbeats 1600000 in
theorem joinS_calls (a b : Bytes) (l' : List Bytes) (t : Tail) (H : Heap) (hl' : l'.length ≤ 1099511627770) (hb' : (joinP [32] (a :: b :: l')).length ≤ 140737488355328) :
    ACalls Tryz.prog 81 [.sl ((a :: b :: l').map encBs) t, .str [32]] H fun x H' => x = .str (joinP [32] (a :: b :: l')) ∧ H' = H := by
  obtain ⟨l, hlD⟩ : ∃ l, l = a :: b :: l' := ⟨_, rfl⟩
  obtain ⟨m, hmD⟩ : ∃ m, m = b :: l' := ⟨_, rfl⟩
  have hla : l = a :: m := by rw [hlD, hmD]
  have hJ := joinP_len [32] a m
  rw [← hmD] at hb' ⊢
  rw [← hla] at hJ hb' ⊢
  have hlm : l.length = m.length + 1 := by rw [hla]; rfl
  have hm1 : 1 ≤ m.length := by rw [hmD]; simp
  have hm2 : m.length ≤ 1099511627771 := by rw [hmD]; simp; omega
  have hdr : l.drop 1 = m := by rw [hla]; rfl
  have hl0 : l[0]? = some a := by rw [hla]; rfl
  simp only [List.length_cons, List.length_nil, Nat.zero_add, Nat.mul_one] at hJ
  have d0 : decide ((l.length : Int) = 0) = false := decide_eq_false (by omega)
  have d1 : decide ((l.length : Int) = 1) = false := decide_eq_false (by omega)
  have w1 : IntKind.i64.wrap ((l.length : Int) - 1) = (m.length : Int) := by rw [Go.IntWalk.i64_in _ (by omega)]; omega
  have hq : 8388607 ≤ Int.tdiv 9223372036854775807 (m.length : Int) := by
    rw [Int.tdiv_eq_ediv_of_nonneg (by decide)]
    exact (Int.le_ediv_iff_mul_le (by omega)).2 (by omega)
  have hq2 : Int.tdiv 9223372036854775807 (m.length : Int) ≤ 9223372036854775807 := by
    rw [Int.tdiv_eq_ediv_of_nonneg (by decide)]
    exact Int.ediv_le_self _ (by decide)
  have w2 : IntKind.i64.wrap (Int.tdiv 9223372036854775807 (m.length : Int)) = Int.tdiv 9223372036854775807 (m.length : Int) := Go.IntWalk.i64_in _ (by omega)
  have d2 : decide (Int.tdiv 9223372036854775807 (m.length : Int) ≤ 1) = false := decide_eq_false (by omega)
  have d3 : decide ((m.length : Int) = 0) = false := decide_eq_false (by omega)
  have hne : ¬ (m.length : Int) = 0 := by omega
  have w3 : IntKind.i64.wrap (m.length : Int) = (m.length : Int) := Go.IntWalk.i64_in _ (by omega)
  refine ACalls.of_code (X := { pure := pu0, ms := fun t => decide (t = 8) }) pu0_ok Tryz.func81 (by kernel_rfl) rfl (by kernel_rfl) (Nat.le_of_ble_eq_true rfl) ?_
  simp -implicitDefEqProofs only [go_sem, Tryz.f81, d0, d1, w1, w2, d2, d3, hne, w3, Int.one_mul, Int.zero_add]
  have fl : ∀ i, (l.take i).flatten.length ≤ l.flatten.length := flat_take_le l
  refine aloop_intro (σ := Nat) (fun i => [(0, .sl (l.map encBs) t), (1, .str [32]), (5, .int .i64 ((m.length + (l.take i).flatten.length : Nat) : Int)), (39, .sl (l.map encBs) t), (40, .int .i64 l.length), (41, .int .i64 i)]) (fun i G => G = H ∧ i ≤ l.length) (fun i => l.length - i) 0 ?_ ?_ ?_
  · simp -implicitDefEqProofs only [go_sem, List.take_zero, List.flatten_nil, List.length_nil, Nat.add_zero]
  · exact ⟨rfl, Nat.zero_le _⟩
  rintro i r G hv ⟨rfl, hi⟩
  have h0 := hv.1
  have h1 := hv.2.1
  have h5 := hv.2.2.1
  have h39 := hv.2.2.2.1
  have h40 := hv.2.2.2.2.1
  have h41 := hv.2.2.2.2.2.1
  clear hv
  by_cases g : i < l.length
  · have y0 : decide ((i : Int) < l.length) = true := decide_eq_true (by omega)
    obtain ⟨c, hc⟩ : ∃ c, l[i]? = some c := ⟨l[i], List.getElem?_eq_getElem g⟩
    have f1 := fl (i + 1)
    have f2 := flat_take hc
    rw [f2, List.length_append] at f1
    have ws : IntKind.i64.wrap ((i : Int) + 1) = ((i + 1 : Nat) : Int) := by rw [Go.IntWalk.i64_in _ (by omega)]; omega
    have wa : IntKind.i64.wrap (9223372036854775807 - ((m.length + (l.take i).flatten.length : Nat) : Int)) = 9223372036854775807 - ((m.length + (l.take i).flatten.length : Nat) : Int) := Go.IntWalk.i64_in _ (by omega)
    have d4 : decide (9223372036854775807 - ((m.length + (l.take i).flatten.length : Nat) : Int) < (c.length : Int)) = false := decide_eq_false (by omega)
    have wb : IntKind.i64.wrap (((m.length + (l.take i).flatten.length : Nat) : Int) + (c.length : Int)) = ((m.length + (l.take (i + 1)).flatten.length : Nat) : Int) := by rw [Go.IntWalk.i64_in _ (by omega), f2, List.length_append]; omega
    simp -implicitDefEqProofs only [go_sem, h0, h1, h5, h39, h40, h41, y0, hc, encBs, wa, d4, wb, ws]
    exact Again.mk (i + 1) (by simp -implicitDefEqProofs only [go_sem, h0, h1, h39, h40]) ⟨rfl, by omega⟩ (by omega)
  have y0 : decide ((i : Int) < l.length) = false := decide_eq_false (by omega)
  obtain rfl : i = l.length := by omega
  rw [List.take_length, ← hJ] at h5
  have hJ0 : joinT [32] a m 0 = a := by simp [joinT]
  simp -implicitDefEqProofs only [go_sem, h0, h1, h5, h39, h40, h41, y0]
  refine nwT_intro fun bi hbi => ?_
  simp -implicitDefEqProofs only [go_sem, h0, h1, h5]
  have hsub : G.Sub (G.put bi (.cells [.nilp, .snil])) := (Heap.Sub.rfl' G).put' hbi _
  refine bldGrow_k hsub hbi (put_same _ _ _) hb' (fun G1 hG1 _ => ?_)
  have hal := joinT_le [32] a m 0
  rw [hJ0, ← hla] at hal
  simp -implicitDefEqProofs only [go_sem, h0, h1, h5, Int.toNat_zero, Int.le_refl, hl0, encBs]
  refine writeString_k hG1 (by rw [List.length_nil]; omega) (fun G2 hG2 _ => ?_)
  rw [List.nil_append] at hG2
  have hlm2 : (((l.map encBs).take l.length).drop 1) = m.map encBs := by
    rw [List.take_of_length_le (by simp), ← List.map_drop, hdr]
  have hle : (1 : Int) ≤ l.length := by omega
  simp -implicitDefEqProofs (disch := omega) only [go_sem, Go.IntWalk.i64_in, h0, h1, Int.toNat_one, hlm2, hle, Int.le_refl, encBs, List.length_drop]
  refine aloop_intro (σ := Nat) (fun i => [(1, .str [32]), (8, bldP bi), (63, .sl (m.map encBs) (cutTail (some (.const (.int .i64 1))) none t)), (64, .int .i64 (m.length : Int)), (65, .int .i64 i)])
    (fun i G' => BldG (!decide ((joinP [32] l).length = 0)) G G' bi (joinT [32] a m i) ∧ i ≤ m.length) (fun i => m.length - i) 0 ?_ ?_ ?_
  · simp -implicitDefEqProofs only [go_sem, h1]
    trace_state
    try exact rfl
  · rw [hJ0]; exact ⟨hG2, by omega⟩
  rintro i r' G' hv ⟨hB, hi⟩
  have e1 := hv.1
  have e8 := hv.2.1
  have e63 := hv.2.2.1
  have e64 := hv.2.2.2.1
  have e65 := hv.2.2.2.2.1
  clear hv
  have f3 := joinT_le [32] a m (i + 1)
  have f4 := joinT_le [32] a m i
  rw [← hla] at f3 f4
  by_cases g : i < m.length
  · have z0 : decide ((i : Int) < m.length) = true := decide_eq_true (by omega)
    obtain ⟨c, hc⟩ : ∃ c, m[i]? = some c := ⟨m[i], List.getElem?_eq_getElem g⟩
    have f2 := joinT_succ (sep := [32]) (a := a) hc
    rw [f2, List.length_append, List.length_append] at f3
    have ws : IntKind.i64.wrap ((i : Int) + 1) = ((i + 1 : Nat) : Int) := by rw [Go.IntWalk.i64_in _ (by omega)]; omega
    simp -implicitDefEqProofs only [go_sem, e1, e8, e63, e64, e65, z0, hc, encBs]
    refine writeString_k hB (by rw [List.length_cons, List.length_nil] at *; omega) (fun G3 hG3 _ => ?_)
    simp -implicitDefEqProofs only [go_sem, e1, e8, e63, e64, e65, hc, encBs]
    refine writeString_k hG3 (by rw [List.length_append]; omega) (fun G4 hG4 _ => ?_)
    simp -implicitDefEqProofs only [go_sem, e1, e8, e63, e64, e65, hc, encBs, ws]
    rw [List.append_assoc, ← f2] at hG4
    exact Again.mk (i + 1) (by simp -implicitDefEqProofs only [go_sem, e1, e8, e63, e64]) ⟨hG4, by omega⟩ (by omega)
  have z0 : decide ((i : Int) < m.length) = false := decide_eq_false (by omega)
  obtain rfl : i = m.length := by omega
  rw [joinT_all, ← hla] at hB
  simp -implicitDefEqProofs only [go_sem, e1, e8, e63, e64, e65, z0]
  refine bldString_k hB hb' (fun hn => by intro e; rw [e] at hn; simp at hn) ?_
  simp -implicitDefEqProofs only [go_sem]
  exact Done.drop hB.sub ⟨rfl, rfl⟩
end Go.Proofs

/- Walks: sums, of the program and of the reference. -/
namespace Go.Proofs
open Go Go.Abs
set_option linter.unusedSimpArgs false
set_option linter.unusedVariables false
def encB (b : UInt8) : AV := .int .u8 b.toNat
set_option maxHeartbeats 1600000 in
theorem sumOf_calls (s : Bytes) (H : Heap) (hs : s.length ≤ Room) : ACalls Tryz.prog 93 [.str s] H fun x H' => x = .str (sumOf s) ∧ H' = H := by
  have hR : Room = 1099511627776 := rfl
  rw [hR] at hs
  clear hR
  refine ACalls.of_code (X := { pure := puN }) puN_ok Tryz.func93 (by kernel_rfl) rfl (by kernel_rfl) (Nat.le_of_ble_eq_true rfl) ?_
  simp -implicitDefEqProofs only [go_sem, Tryz.f93]
  refine aloop_intro (σ := Nat) (fun i => [(0, .str s), (3, .int .u64 (fnv (s.take i))), (4, .int .i64 i)]) (fun i G => G = H ∧ i ≤ s.length) (fun i => s.length - i) 0 ?_ ?_ ?_
  · simp -implicitDefEqProofs only [go_sem]
    simp [fnv]
  · simp
  · intro i r G hv hI
    have h0 := hv.1
    have h3 := hv.2.1
    have h4 := hv.2.2.1
    have hG := hI.1.symm
    have hi := hI.2
    clear hv hI
    subst hG
    simp -implicitDefEqProofs only [go_sem, h0, h3, h4]
    refine cnd_intro (fun h => ?_) (fun h => ?_)
    · simp only [decide_eq_true_eq] at h
      obtain ⟨c, hc⟩ : ∃ c, s[i]? = some c := ⟨s[i]'(by omega), List.getElem?_eq_getElem _⟩
      simp -implicitDefEqProofs (disch := omega) only [go_sem, Go.IntWalk.i64_in, h0, h3, h4, hc, u64_byte]
      refine Again.mk (i + 1) (by simp -implicitDefEqProofs only [go_sem, h0, h3, h4]; rw [fnv_succ hc]; exact ⟨rfl, rfl⟩) ⟨rfl, by omega⟩ (by omega)
    · simp only [decide_eq_false_iff_not] at h
      have e : i = s.length := by omega
      subst e
      rw [List.take_length, fnvN_eq] at h3
      have hn := fnvN_lt s
      unfold sumOf
      generalize fnvN s = n at *
      simp -implicitDefEqProofs only [go_sem, h0, h3, h4]
      with_reducible refine makeSlice_ms (e := tiU8) ?_ ?_ ?_ ?_ ?_ ?_
      · simp -implicitDefEqProofs only [go_sem]
      · decide
      · omega
      · decide
      · decide
      intro id hid
      simp -implicitDefEqProofs only [go_sem, h0, h3, h4]
      refine aloop_intro (σ := Nat) (fun i => [(0, .str s), (3, .int .u64 n), (5, .ms id 0 16 1), (22, .int .i64 16), (23, .int .i64 i)]) (fun i G => G = H.put id (.cells (fillL (.int .u8 0) (((hexPad 16 n).take i).map encB) 16)) ∧ i ≤ 16) (fun i => 16 - i) 0 ?_ ?_ ?_
      · simp -implicitDefEqProofs only [go_sem, h0, h3]
      · refine ⟨?_, by omega⟩
        congr 1
      · intro i r G hv hI
        have h0 := hv.1
        have h3 := hv.2.1
        have h5 := hv.2.2.1
        have h22 := hv.2.2.2.1
        have h23 := hv.2.2.2.2.1
        have hG := hI.1.symm
        have hi := hI.2
        clear hv hI
        subst hG
        have hlen : (((hexPad 16 n).take i).map encB).length = i := by simp [hexPad_len]; omega
        simp -implicitDefEqProofs only [go_sem, h0, h3, h5, h22, h23]
        refine cnd_intro (fun h => ?_) (fun h => ?_)
        · simp only [decide_eq_true_eq] at h
          have e2 := shrN n (60 - 4 * i) ((60 : Int) - 4 * i) (by omega) (by omega)
          have hlt : n / 2 ^ (60 - 4 * i) < 18446744073709551616 := Nat.lt_of_le_of_lt (Nat.div_le_self _ _) hn
          have e3 := and15 _ hlt
          have e4 := dig_get (n / 2 ^ (60 - 4 * i) % 16) (Nat.mod_lt _ (by omega))
          simp -implicitDefEqProofs (disch := omega) only [go_sem, Go.IntWalk.i64_in, h0, h3, h5, h22, h23, e2, e3, e4]
          refine ⟨by omega, by omega, by rw [fillL_len (by omega)]; omega, ?_⟩
          have hg := hexPad_get2 n i (by omega)
          clear e2 e3 e4 hlt
          generalize dig (n / 2 ^ (60 - 4 * i) % 16) = d at hg
          have e5 : (fillL (AV.int .u8 0) (((hexPad 16 n).take i).map encB) 16).set (i * 1) (.int .u8 (d.toNat : Int)) = fillL (.int .u8 0) (((hexPad 16 n).take (i + 1)).map encB) 16 := by
            have := fillL_set (z := AV.int .u8 0) (done := ((hexPad 16 n).take i).map encB) (n := 16) (by omega) (encB d)
            rw [hlen] at this
            rw [Nat.mul_one]
            have e6 : ((hexPad 16 n).take i).map encB ++ [encB d] = ((hexPad 16 n).take (i + 1)).map encB := by
              rw [List.take_add_one, hg, List.map_append]
              rfl
            rw [e6] at this
            exact this
          rw [e5]
          exact Again.mk (i + 1) (by simp -implicitDefEqProofs only [go_sem, h0, h3, h5, h22, h23]; exact rfl) ⟨rfl, by omega⟩ (by omega)
        · simp only [decide_eq_false_iff_not] at h
          have e : i = 16 := by omega
          subst e
          simp -implicitDefEqProofs only [go_sem, h0, h3, h5, h22, h23]
          have ef : fillL (AV.int .u8 0) (((hexPad 16 n).take 16).map encB) 16 = (hexPad 16 n).map encB := by
            rw [List.take_of_length_le (by rw [hexPad_len]; omega)]
            have := fillL_full (z := AV.int .u8 0) (done := (hexPad 16 n).map encB)
            rwa [List.length_map, hexPad_len] at this
          rw [ef]
          with_reducible refine conv_ms (l := hexPad 16 n) ?_ ?_ (put_same _ _ _) ?_ ?_ ?_
          · simp -implicitDefEqProofs only [go_sem]
          · simp -implicitDefEqProofs only [go_sem]
          · simp [hexPad_len]
          · rw [List.drop_zero, List.take_of_length_le (by simp [hexPad_len])]; rfl
          simp -implicitDefEqProofs only [go_sem]
          exact Done.drop (fun i o ho => by rw [put_ne]; exact ho; intro e; subst e; rw [hid] at ho; cases ho) ⟨rfl, rfl⟩
/-! ### The reference's: the digits without zeros, and zeros before them -/
theorem isPow2_calls (H : Heap) : ACalls Tryz.prog 240 [.int .i64 16] H fun x H' => x = .bool true ∧ H' = H := by
  refine ACalls.of_code (X := { pure := puN }) puN_ok Tryz.func240 (by kernel_rfl) rfl (by kernel_rfl) (Nat.le_of_ble_eq_true rfl) ?_
  simp -implicitDefEqProofs only [go_sem, Tryz.f240]
  exact Done.now ⟨by rw [show IntKind.i64.wrap 15 = 15 from by decide, show andI .i64 16 15 = 0 from by decide]; rfl, rfl⟩
theorem tz64_calls (H : Heap) : ACalls Tryz.prog 274 [.int .u64 16] H fun x H' => x = .int .i64 4 ∧ H' = H := by
  have e1 : IntKind.u64.wrap (-16) = 18446744073709551600 := by decide
  have e2 : andI .u64 16 18446744073709551600 = 16 := by decide
  have e3 : IntKind.u64.wrap (16 * 285870213051353865) = 4573923408821661840 := by decide
  have e4 : shrI .u64 4573923408821661840 58 = 15 := by decide
  have e5 : IntKind.i64.wrap 4 = 4 := by decide
  have e6 : IntKind.u64.wrap 4573923408821661840 = 4573923408821661840 := by decide
  refine ACalls.of_code (X := { pure := puN }) puN_ok Tryz.func274 (by kernel_rfl) rfl (by kernel_rfl) (Nat.le_of_ble_eq_true rfl) ?_
  simp -implicitDefEqProofs only [go_sem, Tryz.f274, e1, e2, e3, e4, e5, e6, Int.reduceMul]
  exact Done.now ⟨rfl, rfl⟩
theorem tz_calls (H : Heap) : ACalls Tryz.prog 241 [.int .u64 16] H fun x H' => x = .int .i64 4 ∧ H' = H := by
  refine ACalls.of_code (X := { pure := pu0 }) pu0_ok Tryz.func241 (by kernel_rfl) rfl (by kernel_rfl) (Nat.le_of_ble_eq_true rfl) ?_
  simp -implicitDefEqProofs only [go_sem, Tryz.f241]
  refine ACalls.pure_next _ (tz64_calls _) ?_
  simp -implicitDefEqProofs only [go_sem]
  exact Done.now ⟨rfl, rfl⟩
def sPow2 : List AV → Option AV := fn1 (.int .i64) fun n => if n = 16 then some (.bool true) else none
theorem sPow2_eq (n : Int) : sPow2 [.int .i64 n] = if n = 16 then some (.bool true) else none := rfl
def sTz : List AV → Option AV := fn1 (.int .u64) fun n => if n = 16 then some (.int .i64 4) else none
theorem sTz_eq (n : Int) : sTz [.int .u64 n] = if n = 16 then some (.int .i64 4) else none := rfl
def puS1 : Pures := putP 241 sTz (putP 240 sPow2 puN)
theorem puS1_dyn : isDyn puS1 = false := by simp only [puS1, go_sem, Nat.reduceEqDiff]
attribute [go_sem] puS1_dyn
theorem puS1_ok : PuOK Tryz.prog puS1 := by
  refine PuOK.put (PuOK.put puN_ok ?_) ?_ <;> intro xs v h H <;> obtain ⟨x, n, rfl, h1, h2⟩ := fn1_some h <;> cases Rd.int_some h1 <;> split at h2 <;> cases h2 <;> rename_i hn <;> subst hn
  · exact isPow2_calls H
  · exact tz_calls H
theorem pow4 (u k : Nat) (h : u < 16 ^ (k + 1)) : u / 16 < 16 ^ k := by
  rw [Nat.div_lt_iff_lt_mul (by omega), ← Nat.pow_succ]; exact h
set_option maxHeartbeats 1600000 in
theorem formatBits_calls (n : Nat) (hn : n < 18446744073709551616) (H : Heap) :
    ACalls Tryz.prog 199 [.sl [] .exact, .int .u64 n, .int .i64 16, .bool false, .bool false] H fun x H' => x = .tup [.sl [] .exact, .str (hexMin n)] ∧ H' = H := by
  have c1 : IntKind.u64.wrap 4 = 4 := by decide
  have c2 : IntKind.u64.wrap 16 = 16 := by decide
  have c3 : IntKind.u64.wrap 15 = 15 := by decide
  have c4 : IntKind.i64.wrap 64 = 64 := by decide
  refine ACalls.of_code (X := { pure := puS1 }) puS1_ok Tryz.func199 (by kernel_rfl) rfl (by kernel_rfl) (Nat.le_of_ble_eq_true rfl) ?_
  simp -implicitDefEqProofs only [go_sem, Tryz.f199, puS1, sTz_eq, sPow2_eq, c1, c2, c3]
  refine nwC_intro fun id hid => ?_
  simp -implicitDefEqProofs only [go_sem, puS1, sTz_eq, sPow2_eq, c1, c2, c3]
  have hz : ∀ l : List AV, l = fillR (.int .u8 0) 65 [] → H.put id (.cells l) = H.put id (.cells (fillR (.int .u8 0) 65 [])) := fun l h => by rw [h]
  rw [hz _ (by rfl)]
  clear hz
  refine aloop_intro (σ := Bytes × Nat) (fun p => [(1, .int .u64 p.2), (3, .bool false), (4, .bool false), (10, .sl [] .exact), (12, .ptr id 0), (13, .int .i64 ((65 - p.1.length : Nat) : Int)), (14, .int .u64 4), (15, .int .u64 16), (16, .int .u64 15)])
    (fun p G => G = H.put id (.cells (fillR (.int .u8 0) (65 - p.1.length) (p.1.map encB))) ∧ p.1.length ≤ 15 ∧ p.2 < 16 ^ (16 - p.1.length) ∧ hexMin n = hexMin p.2 ++ p.1) (fun p => p.2) ([], n) ?_ ?_ ?_
  · simp -implicitDefEqProofs only [go_sem]
    rfl
  · exact ⟨rfl, by simp, by simpa using hn, by simp⟩
  · intro p r G hv hI
    have h1 := hv.1
    have h3 := hv.2.1
    have h4 := hv.2.2.1
    have h10 := hv.2.2.2.1
    have h12 := hv.2.2.2.2.1
    have h13 := hv.2.2.2.2.2.1
    have h14 := hv.2.2.2.2.2.2.1
    have h15 := hv.2.2.2.2.2.2.2.1
    have h16 := hv.2.2.2.2.2.2.2.2.1
    have hG := hI.1.symm
    have ht := hI.2.1
    have hu := hI.2.2.1
    have hm := hI.2.2.2
    clear hv hI
    subst hG
    obtain ⟨t, u⟩ := p
    simp only at h1 h13 ht hu hm ⊢
    simp -implicitDefEqProofs only [go_sem, h1, h15]
    refine cnd_intro (fun h => ?_) (fun h => ?_)
    · simp only [decide_eq_true_eq] at h
      have hu16 : 16 ≤ u := by omega
      have hlen : t.length ≤ 14 := by
        rcases Nat.lt_or_ge t.length 15 with h | h
        · omega
        · have : t.length = 15 := by omega
          rw [this] at hu; simp at hu; omega
      have hub : u < 18446744073709551616 := Nat.lt_of_lt_of_le hu (by have := Nat.pow_le_pow_right (n := 16) (by omega) (show 16 - t.length ≤ 16 by omega); simpa using this)
      have e1 : (((65 - t.length : Nat) : Int) - 1).toNat = 65 - t.length - 1 := by omega
      have e2 := and15 u hub
      have e3 := dig_get36 (u % 16) (Nat.mod_lt _ (by omega))
      have e4 := shrN u 4 4 (by omega) (by omega)
      simp -implicitDefEqProofs (disch := omega) only [go_sem, Go.IntWalk.i64_in, h1, h3, h4, h10, h12, h13, h14, h15, h16, e1, e2, e3, e4]
      have hset : (fillR (AV.int .u8 0) (65 - t.length) (t.map encB)).set ((65 - t.length - 1) * 1) (.int .u8 ((dig (u % 16)).toNat : Int)) = fillR (.int .u8 0) (65 - (dig (u % 16) :: t).length) ((dig (u % 16) :: t).map encB) := by
        rw [Nat.mul_one]
        have := fillR_set (z := AV.int .u8 0) (i := 65 - t.length) (t := t.map encB) (by omega) (encB (dig (u % 16)))
        rw [show 65 - (dig (u % 16) :: t).length = 65 - t.length - 1 from by simp; omega, List.map_cons]
        exact this
      rw [hset]
      refine ⟨⟨by omega, by omega⟩, by rw [fillR_len]; simp; omega, ?_⟩
      have hpos : (((65 - t.length : Nat) : Int) - 1) = ((65 - (dig (u % 16) :: t).length : Nat) : Int) := by simp; omega
      rw [hpos]
      refine Again.mk (dig (u % 16) :: t, u / 2 ^ 4) (by simp -implicitDefEqProofs only [go_sem, h1, h3, h4, h10, h12, h13, h14, h15, h16]) ⟨rfl, by simp; omega, ?_, ?_⟩ (show u / 2 ^ 4 < u from by omega)
      · have : 16 - t.length = (16 - (dig (u % 16) :: t).length) + 1 := by simp; omega
        rw [this] at hu
        exact pow4 u _ hu
      · rw [hm, hexMin_big (by omega)]; simp
    · simp only [decide_eq_false_iff_not] at h
      have hu16 : u < 16 := by omega
      have e1 : (((65 - t.length : Nat) : Int) - 1).toNat = 65 - t.length - 1 := by omega
      have e3 := dig_get36 u hu16
      simp -implicitDefEqProofs (disch := omega) only [go_sem, Go.IntWalk.i64_in, h1, h3, h4, h10, h12, h13, h14, h15, h16, e1, e3]
      have hset : (fillR (AV.int .u8 0) (65 - t.length) (t.map encB)).set ((65 - t.length - 1) * 1) (.int .u8 ((dig u).toNat : Int)) = fillR (.int .u8 0) (65 - t.length - 1) ((dig u :: t).map encB) := by
        rw [Nat.mul_one]
        exact fillR_set (z := AV.int .u8 0) (i := 65 - t.length) (t := t.map encB) (by omega) (encB (dig u))
      rw [hset]
      have hl2 : (fillR (AV.int .u8 0) (65 - t.length - 1) ((dig u :: t).map encB)).length = 65 := by rw [fillR_len]; simp; omega
      have hn2 : (65 - (((65 - t.length : Nat) : Int) - 1)).toNat = (dig u :: t).length := by simp; omega
      rw [hl2, hn2, Nat.mul_one]
      refine ⟨⟨by omega, by omega⟩, by rw [fillR_len]; simp; omega, by omega, by omega, by omega, ?_⟩
      with_reducible refine conv_ms (l := dig u :: t) ?_ ?_ (put_same _ _ _) ?_ ?_ ?_
      · simp -implicitDefEqProofs only [go_sem]
      · simp -implicitDefEqProofs only [go_sem]
      · rw [hl2]; simp; omega
      · rw [fillR_drop, List.take_of_length_le (by simp)]; rfl
      simp -implicitDefEqProofs only [go_sem, h1, h3, h4, h10, h12, h13, h14, h15, h16]
      refine Done.drop (fun i o ho => by rw [put_ne]; exact ho; intro e; subst e; rw [hid] at ho; cases ho) ⟨?_, rfl⟩
      rw [hm, hexMin_small hu16]; rfl
end Go.Proofs
