/- Walks: the reference composes. -/
import Derived.Test.YtnheonhmnepifaaDoorCO2
namespace Go.Proofs
open Go Go.Abs
set_option linter.unusedSimpArgs false
set_option linter.unusedVariables false
set_option maxRecDepth 20000
def encO (u : PieceV) : List AV := [.int .i64 (if u.data ≠ [] then -1 else u.at_), .str u.data]
theorem encO_unif (l : List PieceV) : Unif 2 (l.map encO) := by
  intro c hc
  obtain ⟨p, _, rfl⟩ := List.mem_map.1 hc
  rfl
theorem units_split {old : Int} {p : PieceV} (h : pcE old p = 0) : units p = p.data.map (fun c => (⟨0, 0, [c]⟩ : PieceV)) ++ (List.range p.long.toNat).map fun i : Nat => (⟨p.at_ + (i : Int), 1, []⟩ : PieceV) := by
  unfold units
  by_cases hd : p.data = []
  · rw [if_neg (by simpa using hd), hd]; rfl
  · rw [if_pos hd, (pcE_data h hd).2]; simp
theorem units_shape {old : Int} {p : PieceV} (h : pcE old p = 0) : ∀ u ∈ units p, pcE old u = 0 ∧ u.data.length ≤ 1 ∧ ((¬ u.data = [] ∧ u.at_ = 0 ∧ u.long = 0) ∨ (u.data = [] ∧ u.long = 1 ∧ 0 ≤ u.at_)) := by
  intro u hu
  unfold units at hu
  by_cases hd : p.data = []
  · rw [if_neg (by simpa using hd)] at hu
    obtain ⟨g1, g2, g3⟩ := pcE_copy h hd
    obtain ⟨i, hi, rfl⟩ := List.mem_map.1 hu
    rw [List.mem_range] at hi
    refine ⟨?_, by simp, .inr ⟨rfl, rfl, by simp only; omega⟩⟩
    unfold pcE
    rw [if_neg (by simp)]
    simp only
    rw [if_neg (by omega)]
  · rw [if_pos hd] at hu
    obtain ⟨c, hc, rfl⟩ := List.mem_map.1 hu
    exact ⟨rfl, by simp, .inl ⟨by simp, rfl, rfl⟩⟩
theorem unitsL_shape {old : Int} {l : List PieceV} (h : ∀ p ∈ l, pcE old p = 0) : ∀ u ∈ unitsL l, pcE old u = 0 ∧ u.data.length ≤ 1 ∧ ((¬ u.data = [] ∧ u.at_ = 0 ∧ u.long = 0) ∨ (u.data = [] ∧ u.long = 1 ∧ 0 ≤ u.at_)) := by
  intro u hu
  unfold unitsL at hu
  obtain ⟨x, hx, hux⟩ := List.mem_flatten.1 hu
  obtain ⟨p, hp, rfl⟩ := List.mem_map.1 hx
  exact units_shape (h p hp) u hux
theorem compR_snoc (d e : List PieceV) (p : PieceV) : compR d (e ++ [p]) = compR d e ++ (if p.data ≠ [] then [p] else ((unitsL d).take (p.at_ + p.long).toNat).drop p.at_.toNat) := by
  unfold compR
  rw [List.map_append, List.flatten_append]
  simp
theorem compR_len {d : List PieceV} {o2 : Int} : ∀ e : List PieceV, (∀ p ∈ e, pcE o2 p = 0) → ((compR d e).length : Int) ≤ pcSum e
  | [], _ => by simp [compR, pcSum]
  | p :: e, h => by
    have ih := compR_len (d := d) e fun q hq => h q (List.mem_cons_of_mem _ hq)
    have hp := h p (List.mem_cons_self ..)
    have e1 : compR d (p :: e) = (if p.data ≠ [] then [p] else ((unitsL d).take (p.at_ + p.long).toNat).drop p.at_.toNat) ++ compR d e := by unfold compR; rw [List.map_cons, List.flatten_cons]
    have hs : pcSum (p :: e) = pcSize p + pcSum e := by unfold pcSum; rw [List.map_cons, List.sum_cons]
    rw [e1, List.length_append, hs]
    have hps := (units_len hp).2
    by_cases hdp : p.data = []
    · rw [if_neg (by simpa using hdp), List.length_drop, List.length_take]
      obtain ⟨g1, g2, g3⟩ := pcE_copy hp hdp
      have hsz : pcSize p = p.long := by unfold pcSize; rw [if_neg (by simpa using hdp)]
      omega
    · rw [if_pos hdp, List.length_singleton]
      omega
theorem compR_jR {o1 o2 : Int} {d e : List PieceV} (ho : o1 ≤ 65536) (hd : ∀ p ∈ d, pcE o1 p = 0) (he : ∀ p ∈ e, pcE o2 p = 0) (her : ∀ p ∈ e, pcR p) (hs : pcSum e ≤ 65536) : jR (compR d e) := by
  have hl := compR_len (d := d) e he
  refine ⟨by omega, fun p hp => ?_⟩
  unfold compR at hp
  obtain ⟨l, hl, hpl⟩ := List.mem_flatten.1 hp
  obtain ⟨x, hx, rfl⟩ := List.mem_map.1 hl
  by_cases h : x.data = []
  · rw [if_neg (by simpa using h)] at hpl
    obtain ⟨s1, s2, s3⟩ := unitsL_shape hd p (List.mem_of_mem_take (List.mem_of_mem_drop hpl))
    refine ⟨fun hdp => ?_, by omega⟩
    obtain ⟨g1, g2, g3⟩ := pcE_copy s1 hdp
    omega
  · rw [if_pos h, List.mem_singleton] at hpl
    rw [hpl]
    have := (her x hx).2.2
    exact ⟨fun hdp => absurd hdp h, by omega⟩
def mkB (c : UInt8) : PieceV := ⟨0, 0, [c]⟩
def mkC (a : Int) (i : Nat) : PieceV := ⟨a + (i : Int), 1, []⟩
def CdQ (d e : DeltaV) (t t2 : Tail) (H : Heap) (i2 i3 i4 : Nat) (r : Regs) (G : Heap) : Prop := ∃ tl, CoH d e t t2 H i2 i3 i4 G ∧ agrees r [(2, .ptr i2 0), (3, .ptr i3 0), (4, .ptr i4 0), (6, .sl ((unitsL d.ps).map encO) tl)]
def CdM (d e : DeltaV) (t t2 : Tail) (H : Heap) (i2 i3 i4 i8 j : Nat) (p : PieceV) (r : Regs) (G : Heap) : Prop := ∃ tl, CoH d e t t2 H i2 i3 i4 G ∧ AppOK H G 2 ((unitsL (d.ps.take j) ++ p.data.map mkB).map encO) tl ∧ G i8 = some (.cells [.int .i64 p.at_, .int .i64 p.long, .str p.data]) ∧
  agrees r [(2, .ptr i2 0), (3, .ptr i3 0), (4, .ptr i4 0), (6, .sl ((unitsL (d.ps.take j) ++ p.data.map mkB).map encO) tl), (8, .ptr i8 0), (30, .sl (d.ps.map encPc) t), (31, .int .i64 d.ps.length), (32, .int .i64 j)]
set_option maxHeartbeats 6400000 in
theorem composed_calls (d e : DeltaV) (t t2 : Tail) (H : Heap) (hd : dlR d) (he : dlR e) (hE1 : deltaE d = 0) (hE2 : deltaE e = 0) :
    ACalls Tryd.prog 26 [.agg (encDl d t), .agg (encDl e t2)] H fun x H' => x = .tup [.agg (encDl (composeV d e).1 .unk), .int .i64 (composeV d e).2] ∧ H' = H := by
  have hu : encDl d t = [.int .i64 d.old, .int .i64 d.new, .str d.osum, .str d.nsum, .sl (d.ps.map encPc) t] := rfl
  have hu2 : encDl e t2 = [.int .i64 e.old, .int .i64 e.new, .str e.osum, .str e.nsum, .sl (e.ps.map encPc) t2] := rfl
  rw [hu, hu2]
  refine ACalls.of_code (X := { pure := puJ }) puJ_ok Tryd.func26 (by kernel_rfl) rfl (by kernel_rfl) (Nat.le_of_ble_eq_true rfl) ?_
  simp -implicitDefEqProofs only [go_sem, tys, regs0, Nat.reduceEqDiff, Nat.reduceAdd, Nat.reduceLeDiff, Nat.reduceLT, Nat.reduceMul, Int.natCast_one, Int.natCast_zero, Int.reduceEq, Int.reduceLT, Int.reduceLE, Int.reduceAdd, Int.reduceSub, Int.reduceToNat, UInt8.reduceToNat, Tryd.f26]
  with_reducible refine nwC_intro fun i2 hi2 => ?_
  simp -implicitDefEqProofs only [go_sem, tys, regs0, Nat.reduceEqDiff, Nat.reduceAdd, Nat.reduceLeDiff, Nat.reduceLT, Nat.reduceMul, Int.natCast_one, Int.natCast_zero, Int.reduceEq, Int.reduceLT, Int.reduceLE, Int.reduceAdd, Int.reduceSub, Int.reduceToNat, UInt8.reduceToNat]
  with_reducible refine nwC_intro fun i3 hi3 => ?_
  have n1 := (heap_none hi3).1
  have n2 := (heap_none hi3).2.1
  have hi3H := (heap_none hi3).2.2
  simp -implicitDefEqProofs only [go_sem, tys, regs0, Nat.reduceEqDiff, Nat.reduceAdd, Nat.reduceLeDiff, Nat.reduceLT, Nat.reduceMul, Int.natCast_one, Int.natCast_zero, Int.reduceEq, Int.reduceLT, Int.reduceLE, Int.reduceAdd, Int.reduceSub, Int.reduceToNat, UInt8.reduceToNat, put_ne, n1, n2]
  with_reducible refine nwC_intro fun i4 hi4 => ?_
  have n3 := (heap_none hi4).1
  have n4 := (heap_none hi4).2.1
  have hi4G := (heap_none hi4).2.2
  have n5 := (heap_none hi4G).1
  have n6 := (heap_none hi4G).2.1
  have hi4H := (heap_none hi4G).2.2
  have hC : CoH d e t t2 H i2 i3 i4 (((H.put i2 (.cells [.int .i64 d.old, .int .i64 d.new, .str d.osum, .str d.nsum, .sl (d.ps.map encPc) t])).put i3 (.cells [.int .i64 e.old, .int .i64 e.new, .str e.osum, .str e.nsum, .sl (e.ps.map encPc) t2])).put i4 (.cells [.int .i64 0, .int .i64 0, .str [], .str [], .sl [] .exact])) :=
    ⟨(((Heap.Sub.rfl' H).put' hi2 _).put' hi3H _).put' hi4H _, by rw [put_ne _ _ _ _ n6, put_ne _ _ _ _ n2, put_same], by rw [put_ne _ _ _ _ n4, put_same], put_same _ _ _⟩
  try simp -implicitDefEqProofs only [go_sem, tys, regs0, Nat.reduceEqDiff, Nat.reduceAdd, Nat.reduceLeDiff, Nat.reduceLT, Nat.reduceMul, Int.natCast_one, Int.natCast_zero, Int.reduceEq, Int.reduceLT, Int.reduceLE, Int.reduceAdd, Int.reduceSub, Int.reduceToNat, UInt8.reduceToNat]
  generalize ((H.put i2 (.cells [.int .i64 d.old, .int .i64 d.new, .str d.osum, .str d.nsum, .sl (d.ps.map encPc) t])).put i3 (.cells [.int .i64 e.old, .int .i64 e.new, .str e.osum, .str e.nsum, .sl (e.ps.map encPc) t2])).put i4 (.cells [.int .i64 0, .int .i64 0, .str [], .str [], .sl [] .exact]) = G at *
  clear hi3 hi4 hi4G n1 n3 n5
  have g2 := hC.g2
  have g3 := hC.g3
  have g4 := hC.g4
  have e0 : composeV d e = if ¬ d.new = e.old ∨ ¬ d.nsum = e.osum then (DeltaV.zero, 11) else if (5000 : Int) < (joinedV (compL d.ps e.ps)).length then (DeltaV.zero, 4) else (⟨d.old, e.new, d.osum, e.nsum, joinedV (compL d.ps e.ps)⟩, 0) := by
    unfold composeV
    rw [if_neg (by simpa using hE1), if_neg (by simpa using hE2)]
  by_cases k1 : d.new = e.old
  rotate_left
  · have y1 : decide (¬ d.new = e.old) = true := decide_eq_true k1
    rw [if_pos (.inl k1)] at e0
    simp -implicitDefEqProofs only [go_sem, tys, regs0, Nat.reduceEqDiff, Nat.reduceAdd, Nat.reduceLeDiff, Nat.reduceLT, Nat.reduceMul, Int.natCast_one, Int.natCast_zero, Int.reduceEq, Int.reduceLT, Int.reduceLE, Int.reduceAdd, Int.reduceSub, Int.reduceToNat, UInt8.reduceToNat, g2, g3, g4, y1]
    refine Done.wk 3 (Done.drop (hC.sub.put' hi4H _) ⟨?_, rfl⟩)
    rw [e0]; rfl
  have y1 : decide (¬ d.new = e.old) = false := decide_eq_false (by simpa using k1)
  by_cases k2 : d.nsum = e.osum
  rotate_left
  · have y2 : decide (¬ d.nsum = e.osum) = true := decide_eq_true k2
    rw [if_pos (.inr k2)] at e0
    simp -implicitDefEqProofs only [go_sem, tys, regs0, Nat.reduceEqDiff, Nat.reduceAdd, Nat.reduceLeDiff, Nat.reduceLT, Nat.reduceMul, Int.natCast_one, Int.natCast_zero, Int.reduceEq, Int.reduceLT, Int.reduceLE, Int.reduceAdd, Int.reduceSub, Int.reduceToNat, UInt8.reduceToNat, g2, g3, g4, y1, y2]
    refine Done.wk 3 (Done.drop (hC.sub.put' hi4H _) ⟨?_, rfl⟩)
    rw [e0]; rfl
  have y2 : decide (¬ d.nsum = e.osum) = false := decide_eq_false (by simpa using k2)
  rw [if_neg (by simp [k1, k2])] at e0
  obtain ⟨a1, a2, a3, a4, a5, a6, a7, a8⟩ := deltaE_ok hE1
  obtain ⟨f1, f2, f3, f4, f5, f6⟩ := stepsV_ok a7
  obtain ⟨b1, b2, b3, b4, b5, b6, b7, b8⟩ := deltaE_ok hE2
  obtain ⟨c1, c2, c3, c4, c5, c6⟩ := stepsV_ok b7
  have hjr := compR_jR (e := e.ps) f2 f4 c4 he.2.2.2.2.2 c5
  rw [comp_eq f4] at e0
  simp -implicitDefEqProofs only [go_sem, tys, regs0, Nat.reduceEqDiff, Nat.reduceAdd, Nat.reduceLeDiff, Nat.reduceLT, Nat.reduceMul, Int.natCast_one, Int.natCast_zero, Int.reduceEq, Int.reduceLT, Int.reduceLE, Int.reduceAdd, Int.reduceSub, Int.reduceToNat, UInt8.reduceToNat, g2, g3, g4, y1, y2]
  with_reducible refine aloop_cut 0 (CdQ d e t t2 H i2 i3 i4) ?_ ?_
  rotate_left
  · refine aloop_intro (σ := Nat × Tail) (fun s => [(2, .ptr i2 0), (3, .ptr i3 0), (4, .ptr i4 0), (6, .sl ((unitsL (d.ps.take s.1)).map encO) s.2), (30, .sl (d.ps.map encPc) t), (31, .int .i64 d.ps.length), (32, .int .i64 s.1)])
      (fun s G => CoH d e t t2 H i2 i3 i4 G ∧ AppOK H G 2 ((unitsL (d.ps.take s.1)).map encO) s.2 ∧ s.1 ≤ d.ps.length) (fun s => d.ps.length - s.1) (0, .exact) ?_ ?_ ?_
    · simp -implicitDefEqProofs only [go_sem, tys, regs0, Nat.reduceEqDiff, Nat.reduceAdd, Nat.reduceLeDiff, Nat.reduceLT, Nat.reduceMul, Int.natCast_one, Int.natCast_zero, Int.reduceEq, Int.reduceLT, Int.reduceLE, Int.reduceAdd, Int.reduceSub, Int.reduceToNat, UInt8.reduceToNat]
      exact rfl
    · exact ⟨hC, AppOK.nil hC.sub, Nat.zero_le _⟩
    clear hC g2 g3 g4
    rintro ⟨j, tl⟩ r G hv ⟨hC, hA, hj⟩
    have h2 := hv.1
    have h3 := hv.2.1
    have h4 := hv.2.2.1
    have h6 := hv.2.2.2.1
    have h30 := hv.2.2.2.2.1
    have h31 := hv.2.2.2.2.2.1
    have h32 := hv.2.2.2.2.2.2.1
    clear hv
    simp only at h2 h3 h4 h6 h30 h31 h32 hA hj
    by_cases gj : j < d.ps.length
    rotate_left
    · have z1 : decide ((j : Int) < d.ps.length) = false := decide_eq_false (by omega)
      obtain rfl : j = d.ps.length := by omega
      rw [List.take_length] at h6
      simp -implicitDefEqProofs only [go_sem, tys, regs0, Nat.reduceEqDiff, Nat.reduceAdd, Nat.reduceLeDiff, Nat.reduceLT, Nat.reduceMul, Int.natCast_one, Int.natCast_zero, Int.reduceEq, Int.reduceLT, Int.reduceLE, Int.reduceAdd, Int.reduceSub, Int.reduceToNat, UInt8.reduceToNat, h2, h3, h4, h6, h30, h31, h32, z1]
      exact ⟨tl, hC, by simp -implicitDefEqProofs only [go_sem, tys, regs0, Nat.reduceEqDiff, Nat.reduceAdd, Nat.reduceLeDiff, Nat.reduceLT, Nat.reduceMul, Int.natCast_one, Int.natCast_zero, Int.reduceEq, Int.reduceLT, Int.reduceLE, Int.reduceAdd, Int.reduceSub, Int.reduceToNat, UInt8.reduceToNat, h2, h3, h4, h6]⟩
    have z1 : decide ((j : Int) < d.ps.length) = true := decide_eq_true (by omega)
    obtain ⟨p, hp⟩ : ∃ p, d.ps[j]? = some p := getD_get' gj
    have hpm := List.mem_of_getElem? hp
    have hpE := f4 p hpm
    have htk : d.ps.take (j + 1) = d.ps.take j ++ [p] := by rw [List.take_add_one, hp]; rfl
    have hus : unitsL (d.ps.take (j + 1)) = unitsL (d.ps.take j) ++ p.data.map mkB ++ (List.range p.long.toNat).map (mkC p.at_) := by
      rw [htk, unitsL_append, List.append_assoc]
      congr 1
      have : unitsL [p] = units p := by simp [unitsL]
      rw [this, units_split hpE]
      rfl
    have hul := unitsL_ge (d.ps.take j) (fun q hq => f4 q (List.mem_of_mem_take hq))
    have hpt := pcSum_take f4 j
    have hpt2 := pcSum_take f4 (j + 1)
    have hps := pcSum_succ hp
    have hul2 := unitsL_ge (d.ps.take (j + 1)) (fun q hq => f4 q (List.mem_of_mem_take hq))
    have hpl : p.data.length ≤ 65536 ∧ 0 ≤ p.long ∧ p.long ≤ 65536 ∧ 0 ≤ p.at_ ∧ p.at_ ≤ 65536 := by
      have hsz := (units_len hpE).1
      by_cases hd0 : p.data = []
      · have := pcE_copy hpE hd0
        rw [hd0]
        simp only [List.length_nil]
        omega
      · have h1 := pcE_data hpE hd0
        have h2 : pcSize p = p.data.length := by unfold pcSize; rw [if_pos hd0]
        omega
    have wj : IntKind.i64.wrap ((j : Int) + 1) = ((j + 1 : Nat) : Int) := by rw [Go.IntWalk.i64_in _ (by omega)]; omega
    simp -implicitDefEqProofs only [go_sem, tys, regs0, Nat.reduceEqDiff, Nat.reduceAdd, Nat.reduceLeDiff, Nat.reduceLT, Nat.reduceMul, Int.natCast_one, Int.natCast_zero, Int.reduceEq, Int.reduceLT, Int.reduceLE, Int.reduceAdd, Int.reduceSub, Int.reduceToNat, UInt8.reduceToNat, h2, h3, h4, h6, h30, h31, h32, z1, hp, encPc]
    with_reducible refine nwC_intro fun i8 hi8 => ?_
    have hC1 := hC.put hi8 (.cells [.int .i64 p.at_, .int .i64 p.long, .str p.data])
    have hA1 := hA.put hi8 (.cells [.int .i64 p.at_, .int .i64 p.long, .str p.data])
    have g8 := put_same G i8 (.cells [.int .i64 p.at_, .int .i64 p.long, .str p.data])
    simp -implicitDefEqProofs only [go_sem, tys, regs0, Nat.reduceEqDiff, Nat.reduceAdd, Nat.reduceLeDiff, Nat.reduceLT, Nat.reduceMul, Int.natCast_one, Int.natCast_zero, Int.reduceEq, Int.reduceLT, Int.reduceLE, Int.reduceAdd, Int.reduceSub, Int.reduceToNat, UInt8.reduceToNat, h2, h3, h4, h6, h30, h31, h32]
    generalize G.put i8 (.cells [.int .i64 p.at_, .int .i64 p.long, .str p.data]) = G1 at *
    with_reducible refine aloop_cut 2 (CdM d e t t2 H i2 i3 i4 i8 j p) ?_ ?_
    rotate_left
    · refine aloop_intro (σ := Nat × Tail) (fun s => [(2, .ptr i2 0), (3, .ptr i3 0), (4, .ptr i4 0), (6, .sl ((unitsL (d.ps.take j) ++ (p.data.take s.1).map mkB).map encO) s.2), (8, .ptr i8 0), (30, .sl (d.ps.map encPc) t), (31, .int .i64 d.ps.length), (32, .int .i64 j), (38, .int .i64 p.data.length), (39, .int .i64 s.1)])
        (fun s G => CoH d e t t2 H i2 i3 i4 G ∧ AppOK H G 2 ((unitsL (d.ps.take j) ++ (p.data.take s.1).map mkB).map encO) s.2 ∧ G i8 = some (.cells [.int .i64 p.at_, .int .i64 p.long, .str p.data]) ∧ s.1 ≤ p.data.length) (fun s => p.data.length - s.1) (0, tl) ?_ ?_ ?_
      · simp -implicitDefEqProofs only [go_sem, tys, regs0, Nat.reduceEqDiff, Nat.reduceAdd, Nat.reduceLeDiff, Nat.reduceLT, Nat.reduceMul, Int.natCast_one, Int.natCast_zero, Int.reduceEq, Int.reduceLT, Int.reduceLE, Int.reduceAdd, Int.reduceSub, Int.reduceToNat, UInt8.reduceToNat, h2, h3, h4, h6, h30, h31, h32]
      · exact ⟨hC1, by simpa using hA1, g8, Nat.zero_le _⟩
      clear hC1 hA1 g8 h2 h3 h4 h6 h30 h31 h32 hA hC hi8
      rintro ⟨i, tl⟩ r G hv ⟨hC, hA, g8, hi⟩
      have h2 := hv.1
      have h3 := hv.2.1
      have h4 := hv.2.2.1
      have h6 := hv.2.2.2.1
      have h8 := hv.2.2.2.2.1
      have h30 := hv.2.2.2.2.2.1
      have h31 := hv.2.2.2.2.2.2.1
      have h32 := hv.2.2.2.2.2.2.2.1
      have h38 := hv.2.2.2.2.2.2.2.2.1
      have h39 := hv.2.2.2.2.2.2.2.2.2.1
      clear hv
      simp only at h2 h3 h4 h6 h8 h30 h31 h32 h38 h39 hA g8 hi
      by_cases gi : i < p.data.length
      · have z2 : decide ((i : Int) < p.data.length) = true := decide_eq_true (by omega)
        obtain ⟨c, hc⟩ : ∃ c, p.data[i]? = some c := getD_get' gi
        have hsl : List.drop i (List.take (i + 1) p.data) = [c] := by rw [List.take_add_one, hc, List.drop_append_of_le_length (by rw [List.length_take]; omega), List.drop_eq_nil_of_le (by rw [List.length_take]; omega)]; rfl
        have wi : IntKind.i64.wrap ((i : Int) + 1) = ((i + 1 : Nat) : Int) := by rw [Go.IntWalk.i64_in _ (by omega)]; omega
        simp -implicitDefEqProofs only [go_sem, tys, regs0, Nat.reduceEqDiff, Nat.reduceAdd, Nat.reduceLeDiff, Nat.reduceLT, Nat.reduceMul, Int.natCast_one, Int.natCast_zero, Int.reduceEq, Int.reduceLT, Int.reduceLE, Int.reduceAdd, Int.reduceSub, Int.reduceToNat, UInt8.reduceToNat, h2, h3, h4, h6, h8, h30, h31, h32, h38, h39, z2, g8, wi, Int.toNat_natCast, hsl]
        refine ⟨⟨by omega, by omega⟩, ?_⟩
        refine AppOK.step hA (encO_unif _) (by simp) (by simp; omega) (by simp; omega) (fun tl2 G2 hA2 hK2 => ?_)
        have e2 : (unitsL (d.ps.take j) ++ (p.data.take i).map mkB).map encO ++ [[AV.int .i64 (-1), .str [c]]] = (unitsL (d.ps.take j) ++ (p.data.take (i + 1)).map mkB).map encO := by rw [List.take_add_one, hc]; simp [encO, mkB]
        rw [e2] at hA2 ⊢
        have hC2 := hC.kept hA2.sub hK2
        have g82 := hK2.cells g8
        simp -implicitDefEqProofs only [go_sem, tys, regs0, Nat.reduceEqDiff, Nat.reduceAdd, Nat.reduceLeDiff, Nat.reduceLT, Nat.reduceMul, Int.natCast_one, Int.natCast_zero, Int.reduceEq, Int.reduceLT, Int.reduceLE, Int.reduceAdd, Int.reduceSub, Int.reduceToNat, UInt8.reduceToNat, h2, h3, h4, h8, h30, h31, h32, h38, h39, wi]
        exact Again.mk (i + 1, tl2) (by simp -implicitDefEqProofs only [go_sem, tys, regs0, Nat.reduceEqDiff, Nat.reduceAdd, Nat.reduceLeDiff, Nat.reduceLT, Nat.reduceMul, Int.natCast_one, Int.natCast_zero, Int.reduceEq, Int.reduceLT, Int.reduceLE, Int.reduceAdd, Int.reduceSub, Int.reduceToNat, UInt8.reduceToNat, h2, h3, h4, h8, h30, h31, h32, h38, h39]) ⟨hC2, hA2, g82, by simp only; omega⟩ (by simp only; omega)
      · have z2 : decide ((i : Int) < p.data.length) = false := decide_eq_false (by omega)
        obtain rfl : i = p.data.length := by omega
        rw [List.take_length] at h6 hA
        simp -implicitDefEqProofs only [go_sem, tys, regs0, Nat.reduceEqDiff, Nat.reduceAdd, Nat.reduceLeDiff, Nat.reduceLT, Nat.reduceMul, Int.natCast_one, Int.natCast_zero, Int.reduceEq, Int.reduceLT, Int.reduceLE, Int.reduceAdd, Int.reduceSub, Int.reduceToNat, UInt8.reduceToNat, h2, h3, h4, h6, h8, h30, h31, h32, h38, h39, z2]
        exact ⟨tl, hC, hA, g8, by simp -implicitDefEqProofs only [go_sem, tys, regs0, Nat.reduceEqDiff, Nat.reduceAdd, Nat.reduceLeDiff, Nat.reduceLT, Nat.reduceMul, Int.natCast_one, Int.natCast_zero, Int.reduceEq, Int.reduceLT, Int.reduceLE, Int.reduceAdd, Int.reduceSub, Int.reduceToNat, UInt8.reduceToNat, h2, h3, h4, h6, h8, h30, h31, h32]⟩
    clear hC1 hA1 g8 h2 h3 h4 h6 h30 h31 h32 hA hC hi8
    rintro r G2 ⟨tl, hC, hA, g8, hv⟩
    have h2 := hv.1
    have h3 := hv.2.1
    have h4 := hv.2.2.1
    have h6 := hv.2.2.2.1
    have h8 := hv.2.2.2.2.1
    have h30 := hv.2.2.2.2.2.1
    have h31 := hv.2.2.2.2.2.2.1
    have h32 := hv.2.2.2.2.2.2.2.1
    clear hv
    simp -implicitDefEqProofs only [go_sem, tys, regs0, Nat.reduceEqDiff, Nat.reduceAdd, Nat.reduceLeDiff, Nat.reduceLT, Nat.reduceMul, Int.natCast_one, Int.natCast_zero, Int.reduceEq, Int.reduceLT, Int.reduceLE, Int.reduceAdd, Int.reduceSub, Int.reduceToNat, UInt8.reduceToNat, h2, h3, h4, h6, h8, h30, h31, h32, g8]
    refine aloop_intro (σ := Nat × Tail) (fun s => [(2, .ptr i2 0), (3, .ptr i3 0), (4, .ptr i4 0), (6, .sl ((unitsL (d.ps.take j) ++ p.data.map mkB ++ (List.range s.1).map (mkC p.at_)).map encO) s.2), (8, .ptr i8 0), (30, .sl (d.ps.map encPc) t), (31, .int .i64 d.ps.length), (32, .int .i64 j), (54, .int .i64 p.long), (55, .int .i64 s.1)])
      (fun s G => CoH d e t t2 H i2 i3 i4 G ∧ AppOK H G 2 ((unitsL (d.ps.take j) ++ p.data.map mkB ++ (List.range s.1).map (mkC p.at_)).map encO) s.2 ∧ G i8 = some (.cells [.int .i64 p.at_, .int .i64 p.long, .str p.data]) ∧ (s.1 : Int) ≤ p.long) (fun s => p.long.toNat - s.1) (0, tl) ?_ ?_ ?_
    · simp -implicitDefEqProofs only [go_sem, tys, regs0, Nat.reduceEqDiff, Nat.reduceAdd, Nat.reduceLeDiff, Nat.reduceLT, Nat.reduceMul, Int.natCast_one, Int.natCast_zero, Int.reduceEq, Int.reduceLT, Int.reduceLE, Int.reduceAdd, Int.reduceSub, Int.reduceToNat, UInt8.reduceToNat, h2, h3, h4, h6, h8, h30, h31, h32]
      try simp
    · exact ⟨hC, by simpa using hA, g8, by simp only; omega⟩
    clear g8 h2 h3 h4 h6 h8 h30 h31 h32 hA hC
    rintro ⟨i, tl⟩ r G hv ⟨hC, hA, g8, hi⟩
    have h2 := hv.1
    have h3 := hv.2.1
    have h4 := hv.2.2.1
    have h6 := hv.2.2.2.1
    have h8 := hv.2.2.2.2.1
    have h30 := hv.2.2.2.2.2.1
    have h31 := hv.2.2.2.2.2.2.1
    have h32 := hv.2.2.2.2.2.2.2.1
    have h54 := hv.2.2.2.2.2.2.2.2.1
    have h55 := hv.2.2.2.2.2.2.2.2.2.1
    clear hv
    simp only at h2 h3 h4 h6 h8 h30 h31 h32 h54 h55 hA g8 hi
    by_cases gi : (i : Int) < p.long
    · have z2 : decide ((i : Int) < p.long) = true := decide_eq_true gi
      have wi : IntKind.i64.wrap ((i : Int) + 1) = ((i + 1 : Nat) : Int) := by rw [Go.IntWalk.i64_in _ (by omega)]; omega
      have wa : IntKind.i64.wrap (p.at_ + (i : Int)) = p.at_ + (i : Int) := Go.IntWalk.i64_in _ (by omega)
      simp -implicitDefEqProofs only [go_sem, tys, regs0, Nat.reduceEqDiff, Nat.reduceAdd, Nat.reduceLeDiff, Nat.reduceLT, Nat.reduceMul, Int.natCast_one, Int.natCast_zero, Int.reduceEq, Int.reduceLT, Int.reduceLE, Int.reduceAdd, Int.reduceSub, Int.reduceToNat, UInt8.reduceToNat, h2, h3, h4, h6, h8, h30, h31, h32, h54, h55, z2, g8, wi, wa]
      refine AppOK.step hA (encO_unif _) (by simp) (by simp; omega) (by simp; omega) (fun tl2 G2 hA2 hK2 => ?_)
      have e2 : (unitsL (d.ps.take j) ++ p.data.map mkB ++ (List.range i).map (mkC p.at_)).map encO ++ [[AV.int .i64 (p.at_ + (i : Int)), .str []]] = (unitsL (d.ps.take j) ++ p.data.map mkB ++ (List.range (i + 1)).map (mkC p.at_)).map encO := by rw [List.range_succ]; simp [encO, mkC]
      rw [e2] at hA2 ⊢
      have hC2 := hC.kept hA2.sub hK2
      have g82 := hK2.cells g8
      simp -implicitDefEqProofs only [go_sem, tys, regs0, Nat.reduceEqDiff, Nat.reduceAdd, Nat.reduceLeDiff, Nat.reduceLT, Nat.reduceMul, Int.natCast_one, Int.natCast_zero, Int.reduceEq, Int.reduceLT, Int.reduceLE, Int.reduceAdd, Int.reduceSub, Int.reduceToNat, UInt8.reduceToNat, h2, h3, h4, h8, h30, h31, h32, h54, h55, wi]
      exact Again.mk (i + 1, tl2) (by simp -implicitDefEqProofs only [go_sem, tys, regs0, Nat.reduceEqDiff, Nat.reduceAdd, Nat.reduceLeDiff, Nat.reduceLT, Nat.reduceMul, Int.natCast_one, Int.natCast_zero, Int.reduceEq, Int.reduceLT, Int.reduceLE, Int.reduceAdd, Int.reduceSub, Int.reduceToNat, UInt8.reduceToNat, h2, h3, h4, h8, h30, h31, h32, h54, h55]) ⟨hC2, hA2, g82, by simp only; omega⟩ (by simp only; omega)
    · have z2 : decide ((i : Int) < p.long) = false := decide_eq_false gi
      obtain rfl : i = p.long.toNat := by omega
      rw [← hus] at h6 hA
      simp -implicitDefEqProofs only [go_sem, tys, regs0, Nat.reduceEqDiff, Nat.reduceAdd, Nat.reduceLeDiff, Nat.reduceLT, Nat.reduceMul, Int.natCast_one, Int.natCast_zero, Int.reduceEq, Int.reduceLT, Int.reduceLE, Int.reduceAdd, Int.reduceSub, Int.reduceToNat, UInt8.reduceToNat, h2, h3, h4, h6, h8, h30, h31, h32, h54, h55, z2, wj]
      exact Again.mk (j + 1, tl) (by simp -implicitDefEqProofs only [go_sem, tys, regs0, Nat.reduceEqDiff, Nat.reduceAdd, Nat.reduceLeDiff, Nat.reduceLT, Nat.reduceMul, Int.natCast_one, Int.natCast_zero, Int.reduceEq, Int.reduceLT, Int.reduceLE, Int.reduceAdd, Int.reduceSub, Int.reduceToNat, UInt8.reduceToNat, h2, h3, h4, h6, h30, h31, h32]) ⟨hC, hA, by simp only; omega⟩ (by simp only; omega)
  clear hC g2 g3 g4
  rintro r G ⟨tl0, hC, hv⟩
  have h2 := hv.1
  have h3 := hv.2.1
  have h4 := hv.2.2.1
  have h6 := hv.2.2.2.1
  clear hv
  have g2 := hC.g2
  have g3 := hC.g3
  have g4 := hC.g4
  simp -implicitDefEqProofs only [go_sem, tys, regs0, Nat.reduceEqDiff, Nat.reduceAdd, Nat.reduceLeDiff, Nat.reduceLT, Nat.reduceMul, Int.natCast_one, Int.natCast_zero, Int.reduceEq, Int.reduceLT, Int.reduceLE, Int.reduceAdd, Int.reduceSub, Int.reduceToNat, UInt8.reduceToNat, h2, h3, h4, h6, g2, g3, g4]
  have hlenR := fun k => compR_len (d := d.ps) (e.ps.take k) (fun q hq => c4 q (List.mem_of_mem_take hq))
  have hsumR := fun k => pcSum_take c4 k
  refine aloop_intro (σ := Nat × Tail) (fun s => [(2, .ptr i2 0), (3, .ptr i3 0), (4, .ptr i4 0), (6, .sl ((unitsL d.ps).map encO) tl0), (11, .sl ((compR d.ps (e.ps.take s.1)).map encPc) s.2), (69, .sl (e.ps.map encPc) t2), (70, .int .i64 e.ps.length), (71, .int .i64 s.1)])
    (fun s G => CoH d e t t2 H i2 i3 i4 G ∧ AppOK H G 3 ((compR d.ps (e.ps.take s.1)).map encPc) s.2 ∧ s.1 ≤ e.ps.length) (fun s => e.ps.length - s.1) (0, .exact) ?_ ?_ ?_
  · simp -implicitDefEqProofs only [go_sem, tys, regs0, Nat.reduceEqDiff, Nat.reduceAdd, Nat.reduceLeDiff, Nat.reduceLT, Nat.reduceMul, Int.natCast_one, Int.natCast_zero, Int.reduceEq, Int.reduceLT, Int.reduceLE, Int.reduceAdd, Int.reduceSub, Int.reduceToNat, UInt8.reduceToNat, h2, h3, h4, h6]
    exact rfl
  · exact ⟨hC, AppOK.nil hC.sub, Nat.zero_le _⟩
  clear hC g2 g3 g4 h2 h3 h4 h6
  rintro ⟨j, tl⟩ r G hv ⟨hC, hA, hj⟩
  have h2 := hv.1
  have h3 := hv.2.1
  have h4 := hv.2.2.1
  have h6 := hv.2.2.2.1
  have h11 := hv.2.2.2.2.1
  have h69 := hv.2.2.2.2.2.1
  have h70 := hv.2.2.2.2.2.2.1
  have h71 := hv.2.2.2.2.2.2.2.1
  clear hv
  simp only at h2 h3 h4 h6 h11 h69 h70 h71 hA hj
  have g2 := hC.g2
  have g3 := hC.g3
  have g4 := hC.g4
  by_cases gj : j < e.ps.length
  · have z1 : decide ((j : Int) < e.ps.length) = true := decide_eq_true (by omega)
    obtain ⟨p, hp⟩ : ∃ p, e.ps[j]? = some p := getD_get' gj
    have hpm := List.mem_of_getElem? hp
    have hpE := c4 p hpm
    have htk : e.ps.take (j + 1) = e.ps.take j ++ [p] := by rw [List.take_add_one, hp]; rfl
    have hsn := compR_snoc d.ps (e.ps.take j) p
    rw [← htk] at hsn
    have hl := hlenR j
    have hl2 := hlenR (j + 1)
    have hs1 := hsumR j
    have hs2 := hsumR (j + 1)
    have wj : IntKind.i64.wrap ((j : Int) + 1) = ((j + 1 : Nat) : Int) := by rw [Go.IntWalk.i64_in _ (by omega)]; omega
    simp -implicitDefEqProofs only [go_sem, tys, regs0, Nat.reduceEqDiff, Nat.reduceAdd, Nat.reduceLeDiff, Nat.reduceLT, Nat.reduceMul, Int.natCast_one, Int.natCast_zero, Int.reduceEq, Int.reduceLT, Int.reduceLE, Int.reduceAdd, Int.reduceSub, Int.reduceToNat, UInt8.reduceToNat, h2, h3, h4, h6, h11, h69, h70, h71, z1, hp, encPc]
    with_reducible refine nwC_intro fun i13 hi13 => ?_
    have hC1 := hC.put hi13 (.cells [.int .i64 p.at_, .int .i64 p.long, .str p.data])
    have hA1 := hA.put hi13 (.cells [.int .i64 p.at_, .int .i64 p.long, .str p.data])
    have g13 := put_same G i13 (.cells [.int .i64 p.at_, .int .i64 p.long, .str p.data])
    simp -implicitDefEqProofs only [go_sem, tys, regs0, Nat.reduceEqDiff, Nat.reduceAdd, Nat.reduceLeDiff, Nat.reduceLT, Nat.reduceMul, Int.natCast_one, Int.natCast_zero, Int.reduceEq, Int.reduceLT, Int.reduceLE, Int.reduceAdd, Int.reduceSub, Int.reduceToNat, UInt8.reduceToNat, h2, h3, h4, h6, h11, h69, h70, h71]
    generalize G.put i13 (.cells [.int .i64 p.at_, .int .i64 p.long, .str p.data]) = G1 at *
    by_cases hd0 : p.data = []
    · have z2 : decide (¬ p.data = []) = false := decide_eq_false (by simpa using hd0)
      rw [if_neg (by simpa using hd0)] at hsn
      obtain ⟨p1, p2, p3⟩ := pcE_copy hpE hd0
      have hdl := unitsL_ge d.ps f4
      have w2 : IntKind.i64.wrap (p.at_ + p.long) = p.at_ + p.long := Go.IntWalk.i64_in _ (by omega)
      have hmap : List.drop p.at_.toNat (List.take (p.at_ + p.long).toNat (List.map encO (unitsL d.ps))) = (((unitsL d.ps).take (p.at_ + p.long).toNat).drop p.at_.toNat).map encO := by rw [List.map_drop, List.map_take]
      have hshape : ∀ u ∈ ((unitsL d.ps).take (p.at_ + p.long).toNat).drop p.at_.toNat, (¬ u.data = [] ∧ u.at_ = 0 ∧ u.long = 0) ∨ (u.data = [] ∧ u.long = 1 ∧ 0 ≤ u.at_) := fun u hu => (unitsL_shape f4 u (List.mem_of_mem_take (List.mem_of_mem_drop hu))).2.2
      have hSl : (((unitsL d.ps).take (p.at_ + p.long).toNat).drop p.at_.toNat).length ≤ 65536 := by rw [List.length_drop, List.length_take]; omega
      simp -implicitDefEqProofs only [go_sem, tys, regs0, Nat.reduceEqDiff, Nat.reduceAdd, Nat.reduceLeDiff, Nat.reduceLT, Nat.reduceMul, Int.natCast_one, Int.natCast_zero, Int.reduceEq, Int.reduceLT, Int.reduceLE, Int.reduceAdd, Int.reduceSub, Int.reduceToNat, UInt8.reduceToNat, h2, h3, h4, h6, h11, h69, h70, h71, g13, z2, w2, hmap, List.length_map]
      refine ⟨⟨by omega, by omega, by omega, fun _ _ => rfl⟩, ?_⟩
      generalize ((unitsL d.ps).take (p.at_ + p.long).toNat).drop p.at_.toNat = S at *
      have hl3 : (compR d.ps (e.ps.take j)).length ≤ 65536 := by omega
      refine aloop_intro (σ := Nat × Tail) (fun s => [(2, .ptr i2 0), (3, .ptr i3 0), (4, .ptr i4 0), (6, .sl ((unitsL d.ps).map encO) tl0), (11, .sl ((compR d.ps (e.ps.take j) ++ S.take s.1).map encPc) s.2), (69, .sl (e.ps.map encPc) t2), (70, .int .i64 e.ps.length), (71, .int .i64 j), (90, .sl (S.map encO) (cutTail (some (.tmp 84)) (some (.tmp 89)) tl0)), (91, .int .i64 S.length), (92, .int .i64 s.1)])
        (fun s G => CoH d e t t2 H i2 i3 i4 G ∧ AppOK H G 3 ((compR d.ps (e.ps.take j) ++ S.take s.1).map encPc) s.2 ∧ s.1 ≤ S.length) (fun s => S.length - s.1) (0, tl) ?_ ?_ ?_
      · simp -implicitDefEqProofs only [go_sem, tys, regs0, Nat.reduceEqDiff, Nat.reduceAdd, Nat.reduceLeDiff, Nat.reduceLT, Nat.reduceMul, Int.natCast_one, Int.natCast_zero, Int.reduceEq, Int.reduceLT, Int.reduceLE, Int.reduceAdd, Int.reduceSub, Int.reduceToNat, UInt8.reduceToNat, h2, h3, h4, h6, h11, h69, h70, h71]
        try simp
      · exact ⟨hC1, by simpa using hA1, Nat.zero_le _⟩
      clear g13 h2 h3 h4 h6 h11 h69 h70 h71 hA hC hA1 hC1 g2 g3 g4 hi13
      rintro ⟨k, tl⟩ r G hv ⟨hC, hA, hk⟩
      have h2 := hv.1
      have h3 := hv.2.1
      have h4 := hv.2.2.1
      have h6 := hv.2.2.2.1
      have h11 := hv.2.2.2.2.1
      have h69 := hv.2.2.2.2.2.1
      have h70 := hv.2.2.2.2.2.2.1
      have h71 := hv.2.2.2.2.2.2.2.1
      have h90 := hv.2.2.2.2.2.2.2.2.1
      have h91 := hv.2.2.2.2.2.2.2.2.2.1
      have h92 := hv.2.2.2.2.2.2.2.2.2.2.1
      clear hv
      simp only at h2 h3 h4 h6 h11 h69 h70 h71 h90 h91 h92 hA hk
      by_cases gk : k < S.length
      · have z3 : decide ((k : Int) < S.length) = true := decide_eq_true (by omega)
        obtain ⟨u, hu⟩ : ∃ u, S[k]? = some u := getD_get' gk
        have hum := hshape u (List.mem_of_getElem? hu)
        have wk : IntKind.i64.wrap ((k : Int) + 1) = ((k + 1 : Nat) : Int) := by rw [Go.IntWalk.i64_in _ (by omega)]; omega
        have htk3 : (compR d.ps (e.ps.take j) ++ S.take (k + 1)).map encPc = (compR d.ps (e.ps.take j) ++ S.take k).map encPc ++ [encPc u] := by rw [List.take_add_one, hu]; simp
        rcases hum with ⟨u1, u2, u3⟩ | ⟨u1, u2, u3⟩
        · have hO : encO u = [.int .i64 (-1), .str u.data] := by unfold encO; rw [if_pos u1]
          have hP : encPc u = [.int .i64 0, .int .i64 0, .str u.data] := by unfold encPc; rw [u2, u3]
          rw [hP] at htk3
          simp -implicitDefEqProofs only [go_sem, tys, regs0, Nat.reduceEqDiff, Nat.reduceAdd, Nat.reduceLeDiff, Nat.reduceLT, Nat.reduceMul, Int.natCast_one, Int.natCast_zero, Int.reduceEq, Int.reduceLT, Int.reduceLE, Int.reduceAdd, Int.reduceSub, Int.reduceToNat, UInt8.reduceToNat, h2, h3, h4, h6, h11, h69, h70, h71, h90, h91, h92, z3, hu, hO]
          refine ⟨fun _ _ => rfl, ?_⟩
          with_reducible refine nwC_intro fun i15 hi15 => ?_
          have hC2 := hC.put hi15 (.cells [.int .i64 (-1), .str u.data])
          have hA2 := hA.put hi15 (.cells [.int .i64 (-1), .str u.data])
          simp -implicitDefEqProofs only [go_sem, tys, regs0, Nat.reduceEqDiff, Nat.reduceAdd, Nat.reduceLeDiff, Nat.reduceLT, Nat.reduceMul, Int.natCast_one, Int.natCast_zero, Int.reduceEq, Int.reduceLT, Int.reduceLE, Int.reduceAdd, Int.reduceSub, Int.reduceToNat, UInt8.reduceToNat, h2, h3, h4, h6, h11, h69, h70, h71, h90, h91, h92]
          refine AppOK.step hA2 (encPc_unif _) (by simp) (by simp; omega) (by simp; omega) (fun tl2 G2 hA3 hK3 => ?_)
          rw [← htk3] at hA3 ⊢
          have hC3 := hC2.kept hA3.sub hK3
          simp -implicitDefEqProofs only [go_sem, tys, regs0, Nat.reduceEqDiff, Nat.reduceAdd, Nat.reduceLeDiff, Nat.reduceLT, Nat.reduceMul, Int.natCast_one, Int.natCast_zero, Int.reduceEq, Int.reduceLT, Int.reduceLE, Int.reduceAdd, Int.reduceSub, Int.reduceToNat, UInt8.reduceToNat, h2, h3, h4, h6, h69, h70, h71, h90, h91, h92, wk]
          exact Again.mk (k + 1, tl2) (by simp -implicitDefEqProofs only [go_sem, tys, regs0, Nat.reduceEqDiff, Nat.reduceAdd, Nat.reduceLeDiff, Nat.reduceLT, Nat.reduceMul, Int.natCast_one, Int.natCast_zero, Int.reduceEq, Int.reduceLT, Int.reduceLE, Int.reduceAdd, Int.reduceSub, Int.reduceToNat, UInt8.reduceToNat, h2, h3, h4, h6, h69, h70, h71, h90, h91, h92]) ⟨hC3, hA3, by simp only; omega⟩ (by simp only; omega)
        · have hO : encO u = [.int .i64 u.at_, .str []] := by unfold encO; rw [if_neg (by simpa using u1), u1]
          have hP : encPc u = [.int .i64 u.at_, .int .i64 1, .str []] := by unfold encPc; rw [u1, u2]
          have z4 : decide (u.at_ < 0) = false := decide_eq_false (by omega)
          rw [hP] at htk3
          simp -implicitDefEqProofs only [go_sem, tys, regs0, Nat.reduceEqDiff, Nat.reduceAdd, Nat.reduceLeDiff, Nat.reduceLT, Nat.reduceMul, Int.natCast_one, Int.natCast_zero, Int.reduceEq, Int.reduceLT, Int.reduceLE, Int.reduceAdd, Int.reduceSub, Int.reduceToNat, UInt8.reduceToNat, h2, h3, h4, h6, h11, h69, h70, h71, h90, h91, h92, z3, hu, hO]
          refine ⟨fun _ _ => rfl, ?_⟩
          with_reducible refine nwC_intro fun i15 hi15 => ?_
          have hC2 := hC.put hi15 (.cells [.int .i64 u.at_, .str []])
          have hA2 := hA.put hi15 (.cells [.int .i64 u.at_, .str []])
          simp -implicitDefEqProofs only [go_sem, tys, regs0, Nat.reduceEqDiff, Nat.reduceAdd, Nat.reduceLeDiff, Nat.reduceLT, Nat.reduceMul, Int.natCast_one, Int.natCast_zero, Int.reduceEq, Int.reduceLT, Int.reduceLE, Int.reduceAdd, Int.reduceSub, Int.reduceToNat, UInt8.reduceToNat, h2, h3, h4, h6, h11, h69, h70, h71, h90, h91, h92, z4]
          refine AppOK.step hA2 (encPc_unif _) (by simp) (by simp; omega) (by simp; omega) (fun tl2 G2 hA3 hK3 => ?_)
          rw [← htk3] at hA3 ⊢
          have hC3 := hC2.kept hA3.sub hK3
          simp -implicitDefEqProofs only [go_sem, tys, regs0, Nat.reduceEqDiff, Nat.reduceAdd, Nat.reduceLeDiff, Nat.reduceLT, Nat.reduceMul, Int.natCast_one, Int.natCast_zero, Int.reduceEq, Int.reduceLT, Int.reduceLE, Int.reduceAdd, Int.reduceSub, Int.reduceToNat, UInt8.reduceToNat, h2, h3, h4, h6, h69, h70, h71, h90, h91, h92, wk]
          exact Again.mk (k + 1, tl2) (by simp -implicitDefEqProofs only [go_sem, tys, regs0, Nat.reduceEqDiff, Nat.reduceAdd, Nat.reduceLeDiff, Nat.reduceLT, Nat.reduceMul, Int.natCast_one, Int.natCast_zero, Int.reduceEq, Int.reduceLT, Int.reduceLE, Int.reduceAdd, Int.reduceSub, Int.reduceToNat, UInt8.reduceToNat, h2, h3, h4, h6, h69, h70, h71, h90, h91, h92]) ⟨hC3, hA3, by simp only; omega⟩ (by simp only; omega)
      · have z3 : decide ((k : Int) < S.length) = false := decide_eq_false (by omega)
        obtain rfl : k = S.length := by omega
        rw [List.take_length, ← hsn] at h11 hA
        simp -implicitDefEqProofs only [go_sem, tys, regs0, Nat.reduceEqDiff, Nat.reduceAdd, Nat.reduceLeDiff, Nat.reduceLT, Nat.reduceMul, Int.natCast_one, Int.natCast_zero, Int.reduceEq, Int.reduceLT, Int.reduceLE, Int.reduceAdd, Int.reduceSub, Int.reduceToNat, UInt8.reduceToNat, h2, h3, h4, h6, h11, h69, h70, h71, h90, h91, h92, z3, wj]
        exact Again.mk (j + 1, tl) (by simp -implicitDefEqProofs only [go_sem, tys, regs0, Nat.reduceEqDiff, Nat.reduceAdd, Nat.reduceLeDiff, Nat.reduceLT, Nat.reduceMul, Int.natCast_one, Int.natCast_zero, Int.reduceEq, Int.reduceLT, Int.reduceLE, Int.reduceAdd, Int.reduceSub, Int.reduceToNat, UInt8.reduceToNat, h2, h3, h4, h6, h11, h69, h70, h71]) ⟨hC, hA, by simp only; omega⟩ (by simp only; omega)
    · have z2 : decide (¬ p.data = []) = true := decide_eq_true hd0
      rw [if_pos hd0] at hsn
      simp -implicitDefEqProofs only [go_sem, tys, regs0, Nat.reduceEqDiff, Nat.reduceAdd, Nat.reduceLeDiff, Nat.reduceLT, Nat.reduceMul, Int.natCast_one, Int.natCast_zero, Int.reduceEq, Int.reduceLT, Int.reduceLE, Int.reduceAdd, Int.reduceSub, Int.reduceToNat, UInt8.reduceToNat, h2, h3, h4, h6, h11, h69, h70, h71, g13, z2]
      refine AppOK.step hA1 (encPc_unif _) (by simp) (by simp; omega) (by simp; omega) (fun tl2 G2 hA2 hK2 => ?_)
      have e2 : (compR d.ps (e.ps.take j)).map encPc ++ [[AV.int .i64 p.at_, .int .i64 p.long, .str p.data]] = (compR d.ps (e.ps.take (j + 1))).map encPc := by rw [hsn]; simp [encPc]
      rw [e2] at hA2 ⊢
      have hC2 := hC1.kept hA2.sub hK2
      simp -implicitDefEqProofs only [go_sem, tys, regs0, Nat.reduceEqDiff, Nat.reduceAdd, Nat.reduceLeDiff, Nat.reduceLT, Nat.reduceMul, Int.natCast_one, Int.natCast_zero, Int.reduceEq, Int.reduceLT, Int.reduceLE, Int.reduceAdd, Int.reduceSub, Int.reduceToNat, UInt8.reduceToNat, h2, h3, h4, h6, h69, h70, h71, wj]
      exact Again.mk (j + 1, tl2) (by simp -implicitDefEqProofs only [go_sem, tys, regs0, Nat.reduceEqDiff, Nat.reduceAdd, Nat.reduceLeDiff, Nat.reduceLT, Nat.reduceMul, Int.natCast_one, Int.natCast_zero, Int.reduceEq, Int.reduceLT, Int.reduceLE, Int.reduceAdd, Int.reduceSub, Int.reduceToNat, UInt8.reduceToNat, h2, h3, h4, h6, h69, h70, h71]) ⟨hC2, hA2, by simp only; omega⟩ (by simp only; omega)
  · have z1 : decide ((j : Int) < e.ps.length) = false := decide_eq_false (by omega)
    obtain rfl : j = e.ps.length := by omega
    rw [List.take_length] at h11 hA
    have qj := sJl_eq (compR d.ps e.ps) tl hjr
    by_cases h5 : (5000 : Int) < (joinedV (compR d.ps e.ps)).length
    · have y3 : decide ((5000 : Int) < (joinedV (compR d.ps e.ps)).length) = true := decide_eq_true h5
      rw [if_pos h5] at e0
      simp -implicitDefEqProofs only [go_sem, tys, regs0, Nat.reduceEqDiff, Nat.reduceAdd, Nat.reduceLeDiff, Nat.reduceLT, Nat.reduceMul, Int.natCast_one, Int.natCast_zero, Int.reduceEq, Int.reduceLT, Int.reduceLE, Int.reduceAdd, Int.reduceSub, Int.reduceToNat, UInt8.reduceToNat, h2, h3, h4, h6, h11, h69, h70, h71, z1, g2, g3, g4, puJ, puH, puF, puP8, puP7, puP6, puP5, puM, puN, pu0, qj, y3]
      refine Done.wk 3 (Done.drop (hC.sub.put' hi4H _) ⟨?_, rfl⟩)
      rw [e0]; rfl
    · have y3 : decide ((5000 : Int) < (joinedV (compR d.ps e.ps)).length) = false := decide_eq_false h5
      rw [if_neg h5] at e0
      simp -implicitDefEqProofs only [go_sem, tys, regs0, Nat.reduceEqDiff, Nat.reduceAdd, Nat.reduceLeDiff, Nat.reduceLT, Nat.reduceMul, Int.natCast_one, Int.natCast_zero, Int.reduceEq, Int.reduceLT, Int.reduceLE, Int.reduceAdd, Int.reduceSub, Int.reduceToNat, UInt8.reduceToNat, h2, h3, h4, h6, h11, h69, h70, h71, z1, g2, g3, g4, puJ, puH, puF, puP8, puP7, puP6, puP5, puM, puN, pu0, qj, y3]
      refine Done.wk 3 (Done.drop (hC.sub.put' hi4H _) ⟨?_, rfl⟩)
      rw [e0]; rfl
end Go.Proofs
