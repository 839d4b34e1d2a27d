/- Walks: the law DeltasPrint. -/
import Derived.Test.YtnheonhmnepifaaDoorDM1
namespace Go.Proofs
open Go Go.Abs
set_option linter.unusedSimpArgs false
set_option linter.unusedVariables false
set_option maxRecDepth 20000
theorem piecesR_len : ∀ (n : Nat) (l : Bytes) (ps : List PieceV) (r : Bytes), piecesR n l = some (ps, r) → ps.length = n
  | 0, l, ps, r, h => by cases h; rfl
  | n + 1, l, ps, r, h => by
    rw [piecesR] at h
    cases hp : pieceR l with
    | none => rw [hp] at h; cases h
    | some x =>
      rw [hp] at h
      simp only [Option.bind_some] at h
      cases hq : piecesR n x.2 with
      | none => rw [hq] at h; cases h
      | some y =>
        rw [hq] at h
        cases h
        simp [piecesR_len n x.2 y.1 y.2 hq]
theorem bodyR_len {s : Bytes} {d : DeltaV} {r : Bytes} (h : bodyR s = some (d, r)) : d.ps.length < 34359738368 := by
  unfold bodyR at h
  split at h
  · simp only [Option.bind_eq_some_iff, Option.map_eq_some_iff] at h
    obtain ⟨x1, h1, x2, h2, x3, h3, x4, h4, x5, h5, x6, h6, h7⟩ := h
    cases h7
    rw [piecesR_len _ _ _ _ h6]
    exact (num_lt h5).1
  · cases h
theorem parseV_len (s : Bytes) : (parseV s).1.ps.length ≤ 1099511627776 := by
  unfold parseV
  split
  · exact Nat.zero_le _
  · split
    · exact Nat.zero_le _
    · rename_i d r hb
      have := bodyR_len hb
      split
      · split
        · exact Nat.zero_le _
        · split
          · exact Nat.zero_le _
          · simp only; omega
      · exact Nat.zero_le _
def sParse : List AV → Option AV := fn1 .str fun s => if s.length ≤ 1099511627776 then some (parseT s) else none
theorem sParse_eq (s : Bytes) (h : s.length ≤ 1099511627776) : sParse [.str s] = some (.tup [.agg (encDl (parseV s).1 .unk), .int .i64 (parseV s).2]) := by
  unfold sParse
  rw [fn1_eq, Rd.str_eq]
  simp only [Option.bind_some, if_pos h]
  rfl
theorem sParse_ok {P : Program} {f : FuncId} (h : ∀ s H, s.length ≤ 1099511627776 → ACalls P f [.str s] H fun x H' => x = parseT s ∧ H' = H) : ∀ xs v, sParse xs = some v → ∀ H, ACalls P f xs H fun x H' => x = v ∧ H' = H := by
  intro xs v hv H
  obtain ⟨x, s, rfl, h1, h2⟩ := fn1_some hv
  cases Rd.str_some h1
  obtain ⟨h3, rfl⟩ := some_if h2
  exact h s H h3
def sMake : List AV → Option AV := fn2 .str .str fun a b => if a.length ≤ 1099511627776 ∧ b.length ≤ 1099511627776 then some (makeT a b) else none
theorem sMake_eq (a b : Bytes) (ha : a.length ≤ 1099511627776) (hb : b.length ≤ 1099511627776) : sMake [.str a, .str b] = some (.tup [.agg (encDl (makeV a b).1 .unk), .int .i64 (makeV a b).2]) := by
  unfold sMake
  rw [fn2_eq, Rd.str_eq, Rd.str_eq]
  simp only [Option.bind_some, if_pos (And.intro ha hb)]
  rfl
theorem sMake_ok {P : Program} {f : FuncId} (h : ∀ a b H, a.length ≤ 1099511627776 → b.length ≤ 1099511627776 → ACalls P f [.str a, .str b] H fun x H' => x = makeT a b ∧ H' = H) : ∀ xs v, sMake xs = some v → ∀ H, ACalls P f xs H fun x H' => x = v ∧ H' = H := by
  intro xs v hv H
  obtain ⟨x, y, a, b, rfl, h1, h2, h3⟩ := fn2_some hv
  cases Rd.str_some h1
  cases Rd.str_some h2
  obtain ⟨h4, rfl⟩ := some_if h3
  exact h a b H h4.1 h4.2
def puG : Pures := putP 31 sParse (putP 30 sParse (putP 21 sMake puF))
theorem puG_ok : PuOK Tryd.prog puG := .put (.put (.put puF_ok (sMake_ok fun a b H h1 h2 => rMake_calls a b H h1 h2)) (sParse_ok fun s H h => parseR_calls s H h)) (sParse_ok fun s H h => parse_calls s H h)
def Mid5 (a b raw : Bytes) (t : Tail) (H : Heap) (i7 : Nat) (r : Regs) (G : Heap) : Prop := ∃ d, agrees r [(0, .str a), (1, .str b), (2, .str raw), (7, .ptr i7 0)] ∧ G i7 = some (.cells (encDl d t)) ∧ H.Sub G
set_option maxHeartbeats 6400000 in
theorem dprint_calls (a b raw : Bytes) (d : DeltaV) (t : Tail) (H : Heap) (hr : dlR d) (ha : a.length ≤ 1048576) (hb : b.length ≤ 1048576) (hw : raw.length ≤ 1048576) :
    ACalls Tryd.prog 7 [.str a, .str b, .str raw, .agg (encDl d t)] H fun x H' => x = .bool true ∧ H' = H := by
  have q1 := sDl_eq vPrint d t
  rw [vPrint, if_pos hr] at q1
  have q2 := sCheck_eq d t hr
  unfold encDl at q1 q2
  refine ACalls.of_code (X := { pure := puG }) puG_ok Tryd.func7 (by kernel_rfl) rfl (by kernel_rfl) (Nat.le_of_ble_eq_true rfl) ?_
  simp -implicitDefEqProofs only [go_sem, tys, regs0, Nat.reduceEqDiff, Nat.reduceAdd, Nat.reduceLeDiff, Nat.reduceLT, Nat.reduceMul, Int.natCast_one, Int.natCast_zero, Int.reduceEq, Int.reduceLT, Int.reduceLE, Int.reduceAdd, Int.reduceSub, Int.reduceToNat, UInt8.reduceToNat, Tryd.f7, encDl]
  with_reducible refine nwC_intro fun i7 hi7 => ?_
  have hB0 := put_same H i7 (.cells (encDl d t))
  have hS0 : H.Sub (H.put i7 (.cells (encDl d t))) := (Heap.Sub.rfl' H).put' hi7 _
  simp -implicitDefEqProofs only [go_sem, tys, regs0, Nat.reduceEqDiff, Nat.reduceAdd, Nat.reduceLeDiff, Nat.reduceLT, Nat.reduceMul, Int.natCast_one, Int.natCast_zero, Int.reduceEq, Int.reduceLT, Int.reduceLE, Int.reduceAdd, Int.reduceSub, Int.reduceToNat, UInt8.reduceToNat, puG, puF, puP8, puP7, puP6, puP5, puM, puN, pu0, sLandD, q1, q2]
  with_reducible refine cnd_mid (Mid5 a b raw t H i7) ?_ ?_
  rotate_left
  · refine cnd_intro (fun g => ?_) (fun g => ?_)
    · simp only [decide_eq_true_eq] at g
      have y1 : decide (¬ (if deltaE d = 0 then printB d else []) = []) = false := decide_eq_false (by simp [g])
      simp -implicitDefEqProofs only [go_sem, tys, regs0, Nat.reduceEqDiff, Nat.reduceAdd, Nat.reduceLeDiff, Nat.reduceLT, Nat.reduceMul, Int.natCast_one, Int.natCast_zero, Int.reduceEq, Int.reduceLT, Int.reduceLE, Int.reduceAdd, Int.reduceSub, Int.reduceToNat, UInt8.reduceToNat, y1]
      exact ⟨d, by simp -implicitDefEqProofs only [go_sem, tys, regs0, Nat.reduceEqDiff, Nat.reduceAdd, Nat.reduceLeDiff, Nat.reduceLT, Nat.reduceMul, Int.natCast_one, Int.natCast_zero, Int.reduceEq, Int.reduceLT, Int.reduceLE, Int.reduceAdd, Int.reduceSub, Int.reduceToNat, UInt8.reduceToNat], hB0, hS0⟩
    · simp only [decide_eq_false_iff_not, Decidable.not_not] at g
      have hl := print_len hr g
      have q3 := sParse_eq (printB d) (by omega)
      rw [parse_print hr g] at q3
      have q4 := sDl_eq vPD d t
      rw [vPD, if_pos ⟨hr, g⟩] at q4
      have q5 := sSame_eq d d .unk t hr.2.2.2.2.1
      unfold encDl at q3 q4 q5
      simp only [g, if_true]
      simp -implicitDefEqProofs only [go_sem, tys, regs0, Nat.reduceEqDiff, Nat.reduceAdd, Nat.reduceLeDiff, Nat.reduceLT, Nat.reduceMul, Int.natCast_one, Int.natCast_zero, Int.reduceEq, Int.reduceLT, Int.reduceLE, Int.reduceAdd, Int.reduceSub, Int.reduceToNat, UInt8.reduceToNat, puG, puF, puP8, puP7, puP6, puP5, puM, puN, pu0, q3, q4, q5]
      with_reducible refine nwC_intro fun i12 hi12 => ?_
      have n1 := (heap_none hi12).1
      have n2 := (heap_none hi12).2.1
      have hi12H := (heap_none hi12).2.2
      simp -implicitDefEqProofs only [go_sem, tys, regs0, Nat.reduceEqDiff, Nat.reduceAdd, Nat.reduceLeDiff, Nat.reduceLT, Nat.reduceMul, Int.natCast_one, Int.natCast_zero, Int.reduceEq, Int.reduceLT, Int.reduceLE, Int.reduceAdd, Int.reduceSub, Int.reduceToNat, UInt8.reduceToNat, puG, puF, puP8, puP7, puP6, puP5, puM, puN, pu0, q3, q4, q5, put_ne, n1, n2]
      exact ⟨d, by simp -implicitDefEqProofs only [go_sem, tys, regs0, Nat.reduceEqDiff, Nat.reduceAdd, Nat.reduceLeDiff, Nat.reduceLT, Nat.reduceMul, Int.natCast_one, Int.natCast_zero, Int.reduceEq, Int.reduceLT, Int.reduceLE, Int.reduceAdd, Int.reduceSub, Int.reduceToNat, UInt8.reduceToNat], by rw [put_ne _ _ _ _ n2]; exact hB0, hS0.put' hi12H _⟩
  clear hB0 hS0 q1 q2
  rintro r G ⟨d1, hv, hB, hS⟩
  have h0 := hv.1
  have h1 := hv.2.1
  have h2 := hv.2.2.1
  have h7 := hv.2.2.2.1
  clear hv
  have q3 := sParse_eq raw (by omega)
  have q5 := sSame_eq (parseV raw).1 (parseV raw).1 .unk .unk (parseV_len raw)
  have q6 := sMake_eq a b (by omega) (by omega)
  have hok := makeV_ok (a := a) (b := b)
  generalize parseV raw = pv at *
  obtain ⟨pd, pf⟩ := pv
  generalize makeV a b = mv at *
  obtain ⟨md, mf⟩ := mv
  unfold encDl at q3 q5 q6 hB
  simp only at q3 q5 q6 hok
  simp -implicitDefEqProofs only [go_sem, tys, regs0, Nat.reduceEqDiff, Nat.reduceAdd, Nat.reduceLeDiff, Nat.reduceLT, Nat.reduceMul, Int.natCast_one, Int.natCast_zero, Int.reduceEq, Int.reduceLT, Int.reduceLE, Int.reduceAdd, Int.reduceSub, Int.reduceToNat, UInt8.reduceToNat, h0, h1, h2, h7, puG, puF, puP8, puP7, puP6, puP5, puM, puN, pu0, q3]
  with_reducible refine nwC_intro fun i14 hi14 => ?_
  have n1 : ¬ i7 = i14 := fun e => by rw [← e, hB] at hi14; cases hi14
  have n2 : ¬ i14 = i7 := fun e => n1 e.symm
  simp -implicitDefEqProofs only [go_sem, tys, regs0, Nat.reduceEqDiff, Nat.reduceAdd, Nat.reduceLeDiff, Nat.reduceLT, Nat.reduceMul, Int.natCast_one, Int.natCast_zero, Int.reduceEq, Int.reduceLT, Int.reduceLE, Int.reduceAdd, Int.reduceSub, Int.reduceToNat, UInt8.reduceToNat, h0, h1, h2, h7, puG, puF, puP8, puP7, puP6, puP5, puM, puN, pu0, q3, q5, put_ne, n1, n2]
  with_reducible refine nwC_intro fun i16 hi16 => ?_
  have m1 := (heap_none hi16).1
  have m2 := (heap_none hi16).2.1
  have hi16G := (heap_none hi16).2.2
  have m3 : ¬ i7 = i16 := fun e => by rw [← e, hB] at hi16G; cases hi16G
  have m4 : ¬ i16 = i7 := fun e => m3 e.symm
  simp -implicitDefEqProofs only [go_sem, tys, regs0, Nat.reduceEqDiff, Nat.reduceAdd, Nat.reduceLeDiff, Nat.reduceLT, Nat.reduceMul, Int.natCast_one, Int.natCast_zero, Int.reduceEq, Int.reduceLT, Int.reduceLE, Int.reduceAdd, Int.reduceSub, Int.reduceToNat, UInt8.reduceToNat, h0, h1, h2, h7, hB, puG, puF, puP8, puP7, puP6, puP5, puM, puN, pu0, q3, q5, q6, put_ne, n1, n2, m1, m2, m3, m4]
  have hi14H := sub_none hS hi14
  have hi16H := sub_none hS hi16G
  refine cnd_intro (fun g => ?_) (fun g => ?_)
  · simp -implicitDefEqProofs only [go_sem, tys, regs0, Nat.reduceEqDiff, Nat.reduceAdd, Nat.reduceLeDiff, Nat.reduceLT, Nat.reduceMul, Int.natCast_one, Int.natCast_zero, Int.reduceEq, Int.reduceLT, Int.reduceLE, Int.reduceAdd, Int.reduceSub, Int.reduceToNat, UInt8.reduceToNat, h0]
    exact Done.drop (by repeat' first | exact hS | exact hi14H | exact hi16H | exact hi7 | refine Heap.Sub.put' ?_ ?_ _) ⟨rfl, rfl⟩
  · simp only [decide_eq_false_iff_not, Decidable.not_not] at g
    obtain ⟨hmr, hmE⟩ := hok g
    have p1 := sDl_eq vPrint md .unk
    rw [vPrint, if_pos hmr, if_pos hmE, hmE] at p1
    have hl := print_len hmr hmE
    have p2 := sParse_eq (printB md) (by omega)
    rw [parse_print hmr hmE] at p2
    have p3 := sDl_eq vPD md .unk
    rw [vPD, if_pos ⟨hmr, hmE⟩] at p3
    have p4 := sSame_eq md md .unk .unk hmr.2.2.2.2.1
    unfold encDl at p1 p2 p3 p4
    simp only at p2
    simp -implicitDefEqProofs only [go_sem, tys, regs0, Nat.reduceEqDiff, Nat.reduceAdd, Nat.reduceLeDiff, Nat.reduceLT, Nat.reduceMul, Int.natCast_one, Int.natCast_zero, Int.reduceEq, Int.reduceLT, Int.reduceLE, Int.reduceAdd, Int.reduceSub, Int.reduceToNat, UInt8.reduceToNat, h0, h1, h2, h7, puG, puF, puP8, puP7, puP6, puP5, puM, puN, pu0, p1, p2, p3, p4, put_ne, n1, n2, m1, m2, m3, m4]
    exact Done.drop (by repeat' first | exact hS | exact hi14H | exact hi16H | exact hi7 | refine Heap.Sub.put' ?_ ?_ _) ⟨rfl, rfl⟩
end Go.Proofs
