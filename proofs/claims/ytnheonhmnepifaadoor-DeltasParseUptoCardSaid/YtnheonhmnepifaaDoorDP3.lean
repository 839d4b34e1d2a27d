/- Walks: delta.Parse. -/
import Derived.Test.YtnheonhmnepifaaDoorDP2
namespace Go.Proofs
open Go Go.Abs
set_option linter.unusedSimpArgs false
set_option linter.unusedVariables false
set_option maxRecDepth 20000
def R6 (a b : Nat) (u v : Bytes) (out : List PieceV) (n : Nat) (l : Bytes) : Option (DeltaV × Bytes) := (piecesR n l).map fun p => (⟨a, b, u, v, out ++ p.1⟩, p.2)
def R5 (a b : Nat) (u v l : Bytes) : Option (DeltaV × Bytes) := (num l).bind fun n => R6 a b u v [] n.1 n.2
def R4 (a b : Nat) (u l : Bytes) : Option (DeltaV × Bytes) := (sumR l).bind fun v => R5 a b u v.1 v.2
def R3 (a b : Nat) (l : Bytes) : Option (DeltaV × Bytes) := (sumR l).bind fun u => R4 a b u.1 u.2
def R2 (a : Nat) (l : Bytes) : Option (DeltaV × Bytes) := (num l).bind fun b => R3 a b.1 b.2
def R1 (l : Bytes) : Option (DeltaV × Bytes) := (num l).bind fun a => R2 a.1 a.2
theorem bodyR_R1 {s : Bytes} (h : s.take 4 = [79, 70, 68, 49]) : bodyR s = R1 (s.drop 4) := by
  unfold bodyR R1 R2 R3 R4 R5 R6
  rw [if_pos h]
  rfl
def St (B : Option (DeltaV × Bytes)) (b : Bool) (o : Option (DeltaV × Bytes)) : Prop := (b = false → B = o) ∧ (b = true → B = none)
theorem St.step {α : Type} {B : Option (DeltaV × Bytes)} {b b' : Bool} {f : Option (α × Bytes)} {g : α × Bytes → Option (DeltaV × Bytes)} {v : α} {r : Bytes} (h : St B b (f.bind g)) (g3 : b' = false → b = false ∧ f = some (v, r)) (g4 : b' = true → b = true ∨ f = none) : St B b' (g (v, r)) := by
  refine ⟨fun e => ?_, fun e => ?_⟩
  · rw [h.1 (g3 e).1, (g3 e).2]; rfl
  · cases b with
    | true => exact h.2 rfl
    | false =>
      rcases g4 e with k | k
      · cases k
      · rw [h.1 rfl, k]; rfl
theorem R6_zero (a b : Nat) (u v : Bytes) (out : List PieceV) (l : Bytes) : R6 a b u v out 0 l = some (⟨a, b, u, v, out⟩, l) := by simp [R6, piecesR]
theorem R6_succ (a b : Nat) (u v : Bytes) (out : List PieceV) (n : Nat) (l : Bytes) : R6 a b u v out (n + 1) l = (pieceR l).bind fun x => R6 a b u v (out ++ [x.1]) n x.2 := by
  unfold R6
  rw [piecesR]
  cases pieceR l with
  | none => rfl
  | some x =>
    simp only [Option.bind_some]
    cases piecesR n x.2 with
    | none => rfl
    | some y => simp
def ot11p : OT := .seg [0, 2] (.or (.seg [1, 3, 4, 5, 6, 7] .done) (.seg [3, 1, 4, 5, 6, 7] .done))
def PzD (i2 : Nat) (G : Heap) : Prop := G i2 = some (.cells (encDl DeltaV.zero .exact))
def PQ (s : Bytes) (H : Heap) (i2 i4 i5 v1 v2 : Nat) (x3 x4 : Bytes) (r : Regs) (G : Heap) : Prop := ∃ (out : List PieceV) (tl : Tail) (q : Nat) (b : Bool), agrees r [(0, .str s), (2, .ptr i2 0), (4, .ptr i4 0), (5, .ptr i5 0)] ∧ H.Sub G ∧ G i2 = some (.cells [.int .i64 0, .int .i64 0, .str [], .str [], .sl [] .exact]) ∧ G i4 = some (rdr s q b) ∧
      G i5 = some (.cells [.int .i64 v1, .int .i64 v2, .str x3, .str x4, .sl (out.map encPc) tl]) ∧ q ≤ s.length ∧ psR out ∧ St (bodyR s) b (some (⟨v1, v2, x3, x4, out⟩, s.drop q))
def PI (s : Bytes) (H : Heap) (i2 i4 i5 v1 v2 n : Nat) (x3 x4 : Bytes) (t : Nat × List PieceV × Tail × Nat × Bool) (G : Heap) : Prop := AppOK H G 3 (t.2.1.map encPc) t.2.2.1 ∧ G i2 = some (.cells [.int .i64 0, .int .i64 0, .str [], .str [], .sl [] .exact]) ∧ G i4 = some (rdr s t.2.2.2.1 t.2.2.2.2) ∧ G i5 = some (.cells [.int .i64 v1, .int .i64 v2, .str x3, .str x4, .sl (t.2.1.map encPc) t.2.2.1]) ∧ t.2.2.2.1 ≤ s.length ∧ t.1 ≤ n ∧ t.2.1.length = t.1 ∧ (∀ p ∈ t.2.1, pcR p) ∧
      St (bodyR s) t.2.2.2.2 (R6 v1 v2 x3 x4 t.2.1 (n - t.1) (s.drop t.2.2.2.1))
/-- The answer's tuple. -/
def parseT (s : Bytes) : AV := .tup [.agg (encDl (parseV s).1 .unk), .int .i64 (parseV s).2]
set_option maxHeartbeats 6400000 in
theorem parse_calls (s : Bytes) (H : Heap) (hs : s.length ≤ 1099511627776) : ACalls Tryd.prog 31 [.str s] H fun x H' => x = parseT s ∧ H' = H := by
  refine ACalls.of_code (X := { pure := puP5, tree := fun n => if n = 11 then some ot11p else none }) puP5_ok Tryd.func31 (by kernel_rfl) rfl (by kernel_rfl) (Nat.le_of_ble_eq_true rfl) ?_
  simp -implicitDefEqProofs only [go_sem, tys, regs0, Nat.reduceEqDiff, Nat.reduceAdd, Nat.reduceLeDiff, Nat.reduceLT, Nat.reduceMul, Int.natCast_one, Int.natCast_zero, Int.reduceEq, Int.reduceLT, Int.reduceLE, Int.reduceAdd, Int.reduceSub, Int.reduceToNat, UInt8.reduceToNat, Tryd.f31]
  with_reducible refine nwC_intro fun i2 hi2 => ?_
  by_cases hl : 2097152 < s.length
  · have k1 : decide ((2097152 : Int) < s.length) = true := decide_eq_true (by omega)
    simp -implicitDefEqProofs only [go_sem, tys, regs0, Nat.reduceEqDiff, Nat.reduceAdd, Nat.reduceLeDiff, Nat.reduceLT, Nat.reduceMul, Int.natCast_one, Int.natCast_zero, Int.reduceEq, Int.reduceLT, Int.reduceLE, Int.reduceAdd, Int.reduceSub, Int.reduceToNat, UInt8.reduceToNat, k1]
    refine Done.wk 3 (Done.drop1 hi2 ⟨?_, rfl⟩)
    unfold parseT parseV
    rw [if_pos hl]
    rfl
  have k1 : decide ((2097152 : Int) < s.length) = false := decide_eq_false (by omega)
  simp -implicitDefEqProofs only [go_sem, tys, regs0, Nat.reduceEqDiff, Nat.reduceAdd, Nat.reduceLeDiff, Nat.reduceLT, Nat.reduceMul, Int.natCast_one, Int.natCast_zero, Int.reduceEq, Int.reduceLT, Int.reduceLE, Int.reduceAdd, Int.reduceSub, Int.reduceToNat, UInt8.reduceToNat, k1]
  with_reducible refine nwC_intro fun i4 hi4 => ?_
  have n24 : ¬ i2 = i4 := (heap_none hi4).2.1
  have n42 : ¬ i4 = i2 := fun e => n24 e.symm
  have hi4H := (heap_none hi4).2.2
  have hZ : ((H.put i2 (.cells [.int .i64 0, .int .i64 0, .str [], .str [], .sl [] .exact])).put i4 (rdr s (0 : Nat) false)) i2 = some (.cells [.int .i64 0, .int .i64 0, .str [], .str [], .sl [] .exact]) := by rw [put_ne _ _ _ _ n24]; exact put_same _ _ _
  have hR := put_same (H.put i2 (.cells [.int .i64 0, .int .i64 0, .str [], .str [], .sl [] .exact])) i4 (rdr s (0 : Nat) false)
  have hS : H.Sub ((H.put i2 (.cells [.int .i64 0, .int .i64 0, .str [], .str [], .sl [] .exact])).put i4 (rdr s (0 : Nat) false)) := ((Heap.Sub.rfl' H).put' hi2 _).put' hi4H _
  have hfold : (H.put i2 (.cells [.int .i64 0, .int .i64 0, .str [], .str [], .sl [] .exact])).put i4 (.cells [.str s, .int .i64 0, .bool false]) = (H.put i2 (.cells [.int .i64 0, .int .i64 0, .str [], .str [], .sl [] .exact])).put i4 (rdr s (0 : Nat) false) := rfl
  rw [hfold]
  generalize (H.put i2 (.cells [.int .i64 0, .int .i64 0, .str [], .str [], .sl [] .exact])).put i4 (rdr s (0 : Nat) false) = G at *
  clear hfold hi4
  simp -implicitDefEqProofs only [go_sem, tys, regs0, Nat.reduceEqDiff, Nat.reduceAdd, Nat.reduceLeDiff, Nat.reduceLT, Nat.reduceMul, Int.natCast_one, Int.natCast_zero, Int.reduceEq, Int.reduceLT, Int.reduceLE, Int.reduceAdd, Int.reduceSub, Int.reduceToNat, UInt8.reduceToNat, puP5, puM, puN, pu0]
  have hfail : bodyR s = none → parseT s = .tup [.agg (encDl DeltaV.zero .unk), .int .i64 8] := fun h => by
    unfold parseT parseV
    rw [if_neg hl, h]
  refine take_k hR (by omega) hs (by omega) (fun m hm hle => ?_) (fun hf => ?_)
  rotate_left
  · have k2 : decide (¬ ([] : Bytes) = [79, 70, 68, 49]) = true := by decide
    have hB : bodyR s = none := by
      unfold bodyR
      rw [if_neg]
      intro e
      have := congrArg List.length e
      rw [List.length_take] at this
      simp at this
      omega
    have hZ1 : (G.put i4 (rdr s (0 : Nat) true)) i2 = some (.cells [.int .i64 0, .int .i64 0, .str [], .str [], .sl [] .exact]) := by rw [put_ne _ _ _ _ n24]; exact hZ
    have hS1 := hS.put' hi4H (rdr s (0 : Nat) true)
    generalize G.put i4 (rdr s (0 : Nat) true) = G1 at *
    simp -implicitDefEqProofs only [go_sem, tys, regs0, Nat.reduceEqDiff, Nat.reduceAdd, Nat.reduceLeDiff, Nat.reduceLT, Nat.reduceMul, Int.natCast_one, Int.natCast_zero, Int.reduceEq, Int.reduceLT, Int.reduceLE, Int.reduceAdd, Int.reduceSub, Int.reduceToNat, UInt8.reduceToNat, puP5, puM, puN, pu0, k2, hZ1]
    refine Done.wk 3 (Done.drop (hS1.put' hi2 _) ⟨?_, rfl⟩)
    rw [hfail hB]; rfl
  obtain rfl : m = 4 := by omega
  rw [List.drop_zero]
  by_cases hm4 : ¬ s.take 4 = [79, 70, 68, 49]
  · have k2 : decide (¬ s.take 4 = [79, 70, 68, 49]) = true := decide_eq_true hm4
    have hB : bodyR s = none := by
      unfold bodyR
      rw [if_neg hm4]
    have hZ1 : (G.put i4 (rdr s (0 + 4 : Nat) false)) i2 = some (.cells [.int .i64 0, .int .i64 0, .str [], .str [], .sl [] .exact]) := by rw [put_ne _ _ _ _ n24]; exact hZ
    have hS1 := hS.put' hi4H (rdr s (0 + 4 : Nat) false)
    generalize G.put i4 (rdr s (0 + 4 : Nat) false) = G1 at *
    simp -implicitDefEqProofs only [go_sem, tys, regs0, Nat.reduceEqDiff, Nat.reduceAdd, Nat.reduceLeDiff, Nat.reduceLT, Nat.reduceMul, Int.natCast_one, Int.natCast_zero, Int.reduceEq, Int.reduceLT, Int.reduceLE, Int.reduceAdd, Int.reduceSub, Int.reduceToNat, UInt8.reduceToNat, puP5, puM, puN, pu0, k2, hZ1]
    refine Done.wk 3 (Done.drop (hS1.put' hi2 _) ⟨?_, rfl⟩)
    rw [hfail hB]; rfl
  have hm4 : s.take 4 = [79, 70, 68, 49] := Decidable.not_not.1 hm4
  have k2 : decide (¬ s.take 4 = [79, 70, 68, 49]) = false := decide_eq_false (by simpa using hm4)
  have hSt : St (bodyR s) false (R1 (s.drop 4)) := ⟨fun _ => bodyR_R1 hm4, fun e => absurd e (by decide)⟩
  rw [Nat.zero_add] at hle ⊢
  have hZ1 : (G.put i4 (rdr s (4 : Nat) false)) i2 = some (.cells [.int .i64 0, .int .i64 0, .str [], .str [], .sl [] .exact]) := by rw [put_ne _ _ _ _ n24]; exact hZ
  have hS1 := hS.put' hi4H (rdr s (4 : Nat) false)
  have hR1 := put_same G i4 (rdr s (4 : Nat) false)
  generalize G.put i4 (rdr s (4 : Nat) false) = G1 at *
  clear hZ hS hR
  simp -implicitDefEqProofs only [go_sem, tys, regs0, Nat.reduceEqDiff, Nat.reduceAdd, Nat.reduceLeDiff, Nat.reduceLT, Nat.reduceMul, Int.natCast_one, Int.natCast_zero, Int.reduceEq, Int.reduceLT, Int.reduceLE, Int.reduceAdd, Int.reduceSub, Int.reduceToNat, UInt8.reduceToNat, puP5, puM, puN, pu0, k2]
  refine number_k hR1 hle hs (fun v1 p1 b1 hv1 a1 a2 a3 a4 => ?_)
  have hSt1 := hSt.step a3 a4
  have hZ2 : (G1.put i4 (rdr s p1 b1)) i2 = some (.cells [.int .i64 0, .int .i64 0, .str [], .str [], .sl [] .exact]) := by rw [put_ne _ _ _ _ n24]; exact hZ1
  have hS2 := hS1.put' hi4H (rdr s p1 b1)
  have hR2 := put_same G1 i4 (rdr s p1 b1)
  generalize G1.put i4 (rdr s p1 b1) = G2 at *
  clear hZ1 hS1 hR1 a3 a4 hSt
  simp -implicitDefEqProofs only [go_sem, tys, regs0, Nat.reduceEqDiff, Nat.reduceAdd, Nat.reduceLeDiff, Nat.reduceLT, Nat.reduceMul, Int.natCast_one, Int.natCast_zero, Int.reduceEq, Int.reduceLT, Int.reduceLE, Int.reduceAdd, Int.reduceSub, Int.reduceToNat, UInt8.reduceToNat, puP5, puM, puN, pu0]
  refine number_k hR2 a2 hs (fun v2 p2 b2 hv2 c1 c2 a3 a4 => ?_)
  have hSt2 := hSt1.step a3 a4
  have hZ3 : (G2.put i4 (rdr s p2 b2)) i2 = some (.cells [.int .i64 0, .int .i64 0, .str [], .str [], .sl [] .exact]) := by rw [put_ne _ _ _ _ n24]; exact hZ2
  have hS3 := hS2.put' hi4H (rdr s p2 b2)
  have hR3 := put_same G2 i4 (rdr s p2 b2)
  generalize G2.put i4 (rdr s p2 b2) = G3 at *
  clear hZ2 hS2 hR2 a3 a4 hSt1
  simp -implicitDefEqProofs only [go_sem, tys, regs0, Nat.reduceEqDiff, Nat.reduceAdd, Nat.reduceLeDiff, Nat.reduceLT, Nat.reduceMul, Int.natCast_one, Int.natCast_zero, Int.reduceEq, Int.reduceLT, Int.reduceLE, Int.reduceAdd, Int.reduceSub, Int.reduceToNat, UInt8.reduceToNat, puP5, puM, puN, pu0]
  with_reducible refine nwC_intro fun i5 hi5 => ?_
  have n25 : ¬ i2 = i5 := fun e => by rw [← e, hZ3] at hi5; cases hi5
  have n52 : ¬ i5 = i2 := fun e => n25 e.symm
  have n45 : ¬ i4 = i5 := fun e => by rw [← e, hR3] at hi5; cases hi5
  have n54 : ¬ i5 = i4 := fun e => n45 e.symm
  have hi5H := sub_none hS3 hi5
  simp -implicitDefEqProofs only [go_sem, tys, regs0, Nat.reduceEqDiff, Nat.reduceAdd, Nat.reduceLeDiff, Nat.reduceLT, Nat.reduceMul, Int.natCast_one, Int.natCast_zero, Int.reduceEq, Int.reduceLT, Int.reduceLE, Int.reduceAdd, Int.reduceSub, Int.reduceToNat, UInt8.reduceToNat, put_ne, n25, n52, n45, n54]
  have hZ4 : (G3.put i5 (.cells [.int .i64 v1, .int .i64 v2, .str [], .str [], .sl [] .exact])) i2 = some (.cells [.int .i64 0, .int .i64 0, .str [], .str [], .sl [] .exact]) := by rw [put_ne _ _ _ _ n25]; exact hZ3
  have hR4 : (G3.put i5 (.cells [.int .i64 v1, .int .i64 v2, .str [], .str [], .sl [] .exact])) i4 = some (rdr s p2 b2) := by rw [put_ne _ _ _ _ n45]; exact hR3
  have hD4 := put_same G3 i5 (.cells [.int .i64 v1, .int .i64 v2, .str [], .str [], .sl [] .exact])
  have hS4 := hS3.put' hi5H (.cells [.int .i64 v1, .int .i64 v2, .str [], .str [], .sl [] .exact])
  generalize G3.put i5 (.cells [.int .i64 v1, .int .i64 v2, .str [], .str [], .sl [] .exact]) = G4 at *
  clear hZ3 hS3 hR3 hi5
  refine sum_k hR4 c2 hs (fun x3 p3 b3 hx3 d1 d2 a3 a4 => ?_)
  have hSt3 := hSt2.step a3 a4
  have hZ5 : (G4.put i4 (rdr s p3 b3)) i2 = some (.cells [.int .i64 0, .int .i64 0, .str [], .str [], .sl [] .exact]) := by rw [put_ne _ _ _ _ n24]; exact hZ4
  have hD5 : (G4.put i4 (rdr s p3 b3)) i5 = some (.cells [.int .i64 v1, .int .i64 v2, .str [], .str [], .sl [] .exact]) := by rw [put_ne _ _ _ _ n54]; exact hD4
  have hS5 := hS4.put' hi4H (rdr s p3 b3)
  have hR5 := put_same G4 i4 (rdr s p3 b3)
  generalize G4.put i4 (rdr s p3 b3) = G5 at *
  clear hZ4 hS4 hR4 hD4 a3 a4 hSt2
  simp -implicitDefEqProofs only [go_sem, tys, regs0, Nat.reduceEqDiff, Nat.reduceAdd, Nat.reduceLeDiff, Nat.reduceLT, Nat.reduceMul, Int.natCast_one, Int.natCast_zero, Int.reduceEq, Int.reduceLT, Int.reduceLE, Int.reduceAdd, Int.reduceSub, Int.reduceToNat, UInt8.reduceToNat, puP5, puM, puN, pu0]
  refine sum_k hR5 d2 hs (fun x4 p4 b4 hx4 e1 e2 a3 a4 => ?_)
  have hSt4 := hSt3.step a3 a4
  have hZ6 : (G5.put i4 (rdr s p4 b4)) i2 = some (.cells [.int .i64 0, .int .i64 0, .str [], .str [], .sl [] .exact]) := by rw [put_ne _ _ _ _ n24]; exact hZ5
  have hD6 : (G5.put i4 (rdr s p4 b4)) i5 = some (.cells [.int .i64 v1, .int .i64 v2, .str [], .str [], .sl [] .exact]) := by rw [put_ne _ _ _ _ n54]; exact hD5
  have hS6 := hS5.put' hi4H (rdr s p4 b4)
  have hR6 := put_same G5 i4 (rdr s p4 b4)
  generalize G5.put i4 (rdr s p4 b4) = G6 at *
  clear hZ5 hS5 hR5 hD5 a3 a4 hSt3
  simp -implicitDefEqProofs only [go_sem, tys, regs0, Nat.reduceEqDiff, Nat.reduceAdd, Nat.reduceLeDiff, Nat.reduceLT, Nat.reduceMul, Int.natCast_one, Int.natCast_zero, Int.reduceEq, Int.reduceLT, Int.reduceLE, Int.reduceAdd, Int.reduceSub, Int.reduceToNat, UInt8.reduceToNat, puP5, puM, puN, pu0, hD6]
  have hZ7 : (G6.put i5 (.cells [.int .i64 v1, .int .i64 v2, .str x3, .str x4, .sl [] .exact])) i2 = some (.cells [.int .i64 0, .int .i64 0, .str [], .str [], .sl [] .exact]) := by rw [put_ne _ _ _ _ n25]; exact hZ6
  have hR7 : (G6.put i5 (.cells [.int .i64 v1, .int .i64 v2, .str x3, .str x4, .sl [] .exact])) i4 = some (rdr s p4 b4) := by rw [put_ne _ _ _ _ n45]; exact hR6
  have hD7 := put_same G6 i5 (.cells [.int .i64 v1, .int .i64 v2, .str x3, .str x4, .sl [] .exact])
  have hS7 := hS6.put' hi5H (.cells [.int .i64 v1, .int .i64 v2, .str x3, .str x4, .sl [] .exact])
  generalize G6.put i5 (.cells [.int .i64 v1, .int .i64 v2, .str x3, .str x4, .sl [] .exact]) = G7 at *
  clear hZ6 hS6 hR6 hD6
  refine number_k hR7 e2 hs (fun n p5 b5 hn f1 f2 a3 a4 => ?_)
  have hSt5 := hSt4.step a3 a4
  have hZ8 : (G7.put i4 (rdr s p5 b5)) i2 = some (.cells [.int .i64 0, .int .i64 0, .str [], .str [], .sl [] .exact]) := by rw [put_ne _ _ _ _ n24]; exact hZ7
  have hD8 : (G7.put i4 (rdr s p5 b5)) i5 = some (.cells [.int .i64 v1, .int .i64 v2, .str x3, .str x4, .sl [] .exact]) := by rw [put_ne _ _ _ _ n54]; exact hD7
  have hS8 := hS7.put' hi4H (rdr s p5 b5)
  have hR8 := put_same G7 i4 (rdr s p5 b5)
  generalize G7.put i4 (rdr s p5 b5) = G8 at *
  clear hZ7 hS7 hR7 hD7 a3 a4 hSt4
  simp only at hSt5
  simp -implicitDefEqProofs only [go_sem, tys, regs0, Nat.reduceEqDiff, Nat.reduceAdd, Nat.reduceLeDiff, Nat.reduceLT, Nat.reduceMul, Int.natCast_one, Int.natCast_zero, Int.reduceEq, Int.reduceLT, Int.reduceLE, Int.reduceAdd, Int.reduceSub, Int.reduceToNat, UInt8.reduceToNat]
  with_reducible refine aloop_cut 0 (PQ s H i2 i4 i5 v1 v2 x3 x4) ?_ ?_
  · clear hZ8 hR8 hD8 hS8 hSt5 f1 f2
    rintro r G ⟨out, tl, q, b, hv, hS, hZ, hR, hD, hq, hop, hSt⟩
    have h0 := hv.1
    have h2 := hv.2.1
    have h4 := hv.2.2.1
    have h5 := hv.2.2.2.1
    clear hv
    have hR' := hR
    unfold rdr at hR'
    simp -implicitDefEqProofs only [go_sem, tys, regs0, Nat.reduceEqDiff, Nat.reduceAdd, Nat.reduceLeDiff, Nat.reduceLT, Nat.reduceMul, Int.natCast_one, Int.natCast_zero, Int.reduceEq, Int.reduceLT, Int.reduceLE, Int.reduceAdd, Int.reduceSub, Int.reduceToNat, UInt8.reduceToNat, h0, h2, h4, h5, hR', puP5, puM, puN, pu0]
    refine sum_k hR hq hs (fun x6 q6 b6 hx6 g1 g2 a3 a4 => ?_)
    have hZ1 : (G.put i4 (rdr s q6 b6)) i2 = some (.cells [.int .i64 0, .int .i64 0, .str [], .str [], .sl [] .exact]) := by rw [put_ne _ _ _ _ n24]; exact hZ
    have hD1 : (G.put i4 (rdr s q6 b6)) i5 = some (.cells [.int .i64 v1, .int .i64 v2, .str x3, .str x4, .sl (out.map encPc) tl]) := by rw [put_ne _ _ _ _ n54]; exact hD
    have hS1 := hS.put' hi4H (rdr s q6 b6)
    have hR1 := put_same G i4 (rdr s q6 b6)
    unfold rdr at hR1
    unfold rdr at hZ1 hD1 hS1 ⊢
    generalize G.put i4 (.cells [.str s, .int .i64 q6, .bool b6]) = G1 at *
    clear hZ hD hS hR
    cases b6 with
    | true =>
      have hbad : parseT s = .tup [.agg (encDl DeltaV.zero .unk), .int .i64 8] := by
        cases b with
        | true => exact hfail (hSt.2 rfl)
        | false =>
          have e1 := hSt.1 rfl
          rcases a4 rfl with h | h
          · cases h
          · unfold parseT parseV
            rw [if_neg hl, e1]
            simp only [h]
      simp -implicitDefEqProofs only [go_sem, tys, regs0, Nat.reduceEqDiff, Nat.reduceAdd, Nat.reduceLeDiff, Nat.reduceLT, Nat.reduceMul, Int.natCast_one, Int.natCast_zero, Int.reduceEq, Int.reduceLT, Int.reduceLE, Int.reduceAdd, Int.reduceSub, Int.reduceToNat, UInt8.reduceToNat, h0, h2, h4, h5, hR1, hZ1]
      refine Done.wk 3 (Done.drop (hS1.put' hi2 _) ⟨?_, rfl⟩)
      rw [hbad]; rfl
    | false =>
      obtain ⟨rfl, hsum⟩ := a3 rfl
      have e1 := hSt.1 rfl
      by_cases hqs : q6 < s.length
      · have hbad : parseT s = .tup [.agg (encDl DeltaV.zero .unk), .int .i64 8] := by
          unfold parseT parseV
          rw [if_neg hl, e1]
          have : s.drop q6 ≠ [] := fun e => by have := congrArg List.length e; simp at this; omega
          obtain ⟨c, k, hck⟩ := List.exists_cons_of_ne_nil this
          rw [hck] at hsum
          simp only [hsum]
        have k3 : decide ((q6 : Int) < s.length) = true := decide_eq_true (by omega)
        simp -implicitDefEqProofs only [go_sem, tys, regs0, Nat.reduceEqDiff, Nat.reduceAdd, Nat.reduceLeDiff, Nat.reduceLT, Nat.reduceMul, Int.natCast_one, Int.natCast_zero, Int.reduceEq, Int.reduceLT, Int.reduceLE, Int.reduceAdd, Int.reduceSub, Int.reduceToNat, UInt8.reduceToNat, h0, h2, h4, h5, hR1, hZ1, k3]
        refine Done.wk 3 (Done.drop (hS1.put' hi2 _) ⟨?_, rfl⟩)
        rw [hbad]; rfl
      · have k3 : decide ((q6 : Int) < s.length) = false := decide_eq_false (by omega)
        have hnil : s.drop q6 = [] := List.drop_eq_nil_of_le (by omega)
        rw [hnil] at hsum
        have hlq : s.length - (s.drop q).length = q := by rw [List.length_drop]; omega
        have hpt : parseV s = if ¬ x6 = sumOf (s.take q) then (DeltaV.zero, 14) else if ¬ deltaE ⟨v1, v2, x3, x4, out⟩ = 0 then (DeltaV.zero, deltaE ⟨v1, v2, x3, x4, out⟩) else (⟨v1, v2, x3, x4, out⟩, 0) := by
          unfold parseV
          rw [if_neg hl, e1]
          simp only [hsum, hlq]
        have hR : Room = 1099511627776 := rfl
        have htl : (s.take q).length ≤ 1099511627776 := by rw [List.length_take]; omega
        have k4 : (0 : Int) ≤ q ∧ (q : Int) ≤ s.length := ⟨by omega, by omega⟩
        have hc := sCheck_eq ⟨v1, v2, x3, x4, out⟩ tl ⟨⟨by simp only; omega, by simp only; omega⟩, ⟨by simp only; omega, by simp only; omega⟩, by simp only; omega, by simp only; omega, hop⟩
        unfold encDl at hc
        simp only at hc
        by_cases c5 : ¬ x6 = sumOf (s.take q)
        · have k5 : decide (¬ x6 = sumOf (s.take q)) = true := decide_eq_true c5
          rw [if_pos c5] at hpt
          simp -implicitDefEqProofs (disch := omega) only [go_sem, tys, regs0, Nat.reduceEqDiff, Nat.reduceAdd, Nat.reduceLeDiff, Nat.reduceLT, Nat.reduceMul, Int.natCast_one, Int.natCast_zero, Int.reduceEq, Int.reduceLT, Int.reduceLE, Int.reduceAdd, Int.reduceSub, Int.reduceToNat, UInt8.reduceToNat, Go.IntWalk.i64_in, h0, h2, h4, h5, hR1, hZ1, k3, puP5, puM, puN, pu0, sSum_eq, hR, htl, k5]
          refine ⟨by omega, ?_⟩
          refine Done.wk 3 (Done.drop (hS1.put' hi2 _) ⟨?_, rfl⟩)
          unfold parseT
          rw [hpt]; rfl
        · have k5 : decide (¬ x6 = sumOf (s.take q)) = false := decide_eq_false c5
          rw [if_neg c5] at hpt
          by_cases c6 : ¬ deltaE ⟨v1, v2, x3, x4, out⟩ = 0
          · have k6 : decide (¬ deltaE ⟨v1, v2, x3, x4, out⟩ = 0) = true := decide_eq_true c6
            rw [if_pos c6] at hpt
            simp -implicitDefEqProofs (disch := omega) only [go_sem, tys, regs0, Nat.reduceEqDiff, Nat.reduceAdd, Nat.reduceLeDiff, Nat.reduceLT, Nat.reduceMul, Int.natCast_one, Int.natCast_zero, Int.reduceEq, Int.reduceLT, Int.reduceLE, Int.reduceAdd, Int.reduceSub, Int.reduceToNat, UInt8.reduceToNat, Go.IntWalk.i64_in, h0, h2, h4, h5, hR1, hZ1, hD1, k3, puP5, puM, puN, pu0, sSum_eq, hR, htl, k5, hc, k6]
            refine ⟨by omega, ?_⟩
            refine Done.wk 3 (Done.drop (hS1.put' hi2 _) ⟨?_, rfl⟩)
            unfold parseT
            rw [hpt]; rfl
          · have k6 : deltaE ⟨v1, v2, x3, x4, out⟩ = 0 := Decidable.not_not.1 c6
            rw [if_neg c6] at hpt
            rw [k6] at hc
            simp -implicitDefEqProofs (disch := omega) only [go_sem, tys, regs0, Nat.reduceEqDiff, Nat.reduceAdd, Nat.reduceLeDiff, Nat.reduceLT, Nat.reduceMul, Int.natCast_one, Int.natCast_zero, Int.reduceEq, Int.reduceLT, Int.reduceLE, Int.reduceAdd, Int.reduceSub, Int.reduceToNat, UInt8.reduceToNat, Go.IntWalk.i64_in, h0, h2, h4, h5, hR1, hZ1, hD1, k3, puP5, puM, puN, pu0, sSum_eq, hR, htl, k5, hc]
            refine ⟨by omega, ?_⟩
            refine Done.wk 3 (Done.drop (hS1.put' hi2 _) ⟨?_, rfl⟩)
            unfold parseT
            rw [hpt]; rfl
  refine aloop_intro (σ := Nat × List PieceV × Tail × Nat × Bool) (fun t => [(0, .str s), (2, .ptr i2 0), (4, .ptr i4 0), (5, .ptr i5 0), (32, .int .i64 n), (33, .int .i64 t.1)])
    (PI s H i2 i4 i5 v1 v2 n x3 x4) (fun t => n - t.1) (0, [], .exact, p5, b5) ?_ ?_ ?_
  · simp -implicitDefEqProofs only [go_sem, tys, regs0, Nat.reduceEqDiff, Nat.reduceAdd, Nat.reduceLeDiff, Nat.reduceLT, Nat.reduceMul, Int.natCast_one, Int.natCast_zero, Int.reduceEq, Int.reduceLT, Int.reduceLE, Int.reduceAdd, Int.reduceSub, Int.reduceToNat, UInt8.reduceToNat]
  · exact ⟨AppOK.nil hS8, hZ8, hR8, hD8, f2, by omega, rfl, by simp, hSt5⟩
  · clear hZ8 hR8 hD8 hS8 hSt5 f1 f2
    rintro ⟨j, out, tl, q, b⟩ r G hv ⟨hA, hZ, hR, hD, hq, hj, hol, hop, hSt⟩
    have h0 := hv.1
    have h2 := hv.2.1
    have h4 := hv.2.2.1
    have h5 := hv.2.2.2.1
    have h32 := hv.2.2.2.2.1
    have h33 := hv.2.2.2.2.2.1
    clear hv
    simp only at h0 h2 h4 h5 h32 h33 hA hZ hR hD hq hj hol hop hSt
    have hR' := hR
    unfold rdr at hR'
    simp -implicitDefEqProofs only [go_sem, tys, regs0, Nat.reduceEqDiff, Nat.reduceAdd, Nat.reduceLeDiff, Nat.reduceLT, Nat.reduceMul, Int.natCast_one, Int.natCast_zero, Int.reduceEq, Int.reduceLT, Int.reduceLE, Int.reduceAdd, Int.reduceSub, Int.reduceToNat, UInt8.reduceToNat, h0, h2, h4, h5, h32, h33]
    refine cnd_intro (fun g => ?_) (fun g => ?_)
    · simp only [decide_eq_true_eq] at g
      cases b with
      | true =>
        simp -implicitDefEqProofs only [go_sem, tys, regs0, Nat.reduceEqDiff, Nat.reduceAdd, Nat.reduceLeDiff, Nat.reduceLT, Nat.reduceMul, Int.natCast_one, Int.natCast_zero, Int.reduceEq, Int.reduceLT, Int.reduceLE, Int.reduceAdd, Int.reduceSub, Int.reduceToNat, UInt8.reduceToNat, h0, h2, h4, h5, h32, h33, hR']
        exact ⟨out, tl, q, true, by simp -implicitDefEqProofs only [go_sem, tys, regs0, Nat.reduceEqDiff, Nat.reduceAdd, Nat.reduceLeDiff, Nat.reduceLT, Nat.reduceMul, Int.natCast_one, Int.natCast_zero, Int.reduceEq, Int.reduceLT, Int.reduceLE, Int.reduceAdd, Int.reduceSub, Int.reduceToNat, UInt8.reduceToNat, h0, h2, h4, h5], hA.sub, hZ, hR, hD, hq, ⟨by omega, hop⟩, ⟨fun e => absurd e (by decide), hSt.2⟩⟩
      | false =>
        rw [show n - j = (n - (j + 1)) + 1 from by omega, R6_succ] at hSt
        simp -implicitDefEqProofs only [go_sem, tys, regs0, Nat.reduceEqDiff, Nat.reduceAdd, Nat.reduceLeDiff, Nat.reduceLT, Nat.reduceMul, Int.natCast_one, Int.natCast_zero, Int.reduceEq, Int.reduceLT, Int.reduceLE, Int.reduceAdd, Int.reduceSub, Int.reduceToNat, UInt8.reduceToNat, h0, h2, h4, h5, h32, h33, hR']
        rw [acode_tree (t := ot11p) rfl (by rfl)]
        simp -implicitDefEqProofs only [go_sem, tys, regs0, Nat.reduceEqDiff, Nat.reduceAdd, Nat.reduceLeDiff, Nat.reduceLT, Nat.reduceMul, Int.natCast_one, Int.natCast_zero, Int.reduceEq, Int.reduceLT, Int.reduceLE, Int.reduceAdd, Int.reduceSub, Int.reduceToNat, UInt8.reduceToNat, h0, h2, h4, h5, h32, h33, ot11p, stripO, hD, puP5, puM, puN, pu0]
        refine ⟨?_, ?_⟩
        all_goals
          refine piece_k hR hq (by omega) (fun x q2 b2 hx g1 g2 a3 a4 => ?_)
          have hSt2 := hSt.step a3 a4
          have hA1 := hA.set hi4H hR (o' := rdr s q2 b2) (fun n e => by cases e)
          have hZ1 : (G.put i4 (rdr s q2 b2)) i2 = some (.cells [.int .i64 0, .int .i64 0, .str [], .str [], .sl [] .exact]) := by rw [put_ne _ _ _ _ n24]; exact hZ
          have hD1 : (G.put i4 (rdr s q2 b2)) i5 = some (.cells [.int .i64 v1, .int .i64 v2, .str x3, .str x4, .sl (out.map encPc) tl]) := by rw [put_ne _ _ _ _ n54]; exact hD
          have hR1 := put_same G i4 (rdr s q2 b2)
          generalize G.put i4 (rdr s q2 b2) = G1 at *
          have el : (encPc x).length = 3 := rfl
          simp -implicitDefEqProofs only [go_sem, tys, regs0, Nat.reduceEqDiff, Nat.reduceAdd, Nat.reduceLeDiff, Nat.reduceLT, Nat.reduceMul, Int.natCast_one, Int.natCast_zero, Int.reduceEq, Int.reduceLT, Int.reduceLE, Int.reduceAdd, Int.reduceSub, Int.reduceToNat, UInt8.reduceToNat, h0, h2, h4, h5, h32, h33, stripO, hD1, el]
          refine AppOK.step hA1 (encPc_unif out) (by simp) (by simp; omega) (by simp; omega) (fun tl2 G2 hA2 hK2 => ?_)
          have hZ2 := hK2.cells hZ1
          have hR2 := hK2.cells hR1
          have hD2 := hK2.cells hD1
          have hA3 := hA2.set hi5H hD2 (o' := (.cells [.int .i64 v1, .int .i64 v2, .str x3, .str x4, .sl (out.map encPc ++ [encPc x]) tl2])) (fun n e => by cases e)
          simp -implicitDefEqProofs (disch := omega) only [go_sem, tys, regs0, Nat.reduceEqDiff, Nat.reduceAdd, Nat.reduceLeDiff, Nat.reduceLT, Nat.reduceMul, Int.natCast_one, Int.natCast_zero, Int.reduceEq, Int.reduceLT, Int.reduceLE, Int.reduceAdd, Int.reduceSub, Int.reduceToNat, UInt8.reduceToNat, Go.IntWalk.i64_in, h0, h2, h4, h5, h32, h33, stripO, hD2]
          refine Again.mk (j + 1, out ++ [x], tl2, q2, b2) (by simp -implicitDefEqProofs only [go_sem, tys, regs0, Nat.reduceEqDiff, Nat.reduceAdd, Nat.reduceLeDiff, Nat.reduceLT, Nat.reduceMul, Int.natCast_one, Int.natCast_zero, Int.reduceEq, Int.reduceLT, Int.reduceLE, Int.reduceAdd, Int.reduceSub, Int.reduceToNat, UInt8.reduceToNat, h0, h2, h4, h5, h32, h33]; first | exact rfl | simp) ⟨by simpa using hA3, by rw [put_ne _ _ _ _ n25]; exact hZ2, by rw [put_ne _ _ _ _ n45]; exact hR2, by rw [put_same, List.map_append]; rfl, g2, by simp only; omega, by simp [hol], ?_, hSt2⟩ (by simp only; omega)
          intro p hp
          rcases List.mem_append.1 hp with h | h
          · exact hop p h
          · rw [List.mem_singleton] at h; rw [h]; exact hx
    · simp only [decide_eq_false_iff_not] at g
      have e : j = n := by omega
      rw [e, Nat.sub_self, R6_zero] at hSt
      simp -implicitDefEqProofs only [go_sem, tys, regs0, Nat.reduceEqDiff, Nat.reduceAdd, Nat.reduceLeDiff, Nat.reduceLT, Nat.reduceMul, Int.natCast_one, Int.natCast_zero, Int.reduceEq, Int.reduceLT, Int.reduceLE, Int.reduceAdd, Int.reduceSub, Int.reduceToNat, UInt8.reduceToNat, h0, h2, h4, h5, h32, h33, hR']
      exact ⟨out, tl, q, b, by simp -implicitDefEqProofs only [go_sem, tys, regs0, Nat.reduceEqDiff, Nat.reduceAdd, Nat.reduceLeDiff, Nat.reduceLT, Nat.reduceMul, Int.natCast_one, Int.natCast_zero, Int.reduceEq, Int.reduceLT, Int.reduceLE, Int.reduceAdd, Int.reduceSub, Int.reduceToNat, UInt8.reduceToNat, h0, h2, h4, h5], hA.sub, hZ, hR, hD, hq, ⟨by omega, hop⟩, hSt⟩
end Go.Proofs
