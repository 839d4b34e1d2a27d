/-
  Walks and plain laws, part 8.
-/
import Derived.Test.YtejjfogjhjmkbaaDoorM7
import Derived.Test.YtejjfogjhjmkbaaDoorM3
import Derived.Test.YtejjfogjhjmkbaaDoorM4
/- Walks: delta.Parse. -/
namespace Go.Proofs
open Go Go.Abs
set_option linter.unusedSimpArgs false
set_option linter.unusedVariables false
set_option maxRecDepth 20000
def R6 (a b : Nat) (u v : Bytes) (out : List PieceV) (n : Nat) (l : Bytes) : Option (DeltaV × Bytes) := (piecesR n l).map fun p => (⟨a, b, u, v, out ++ p.1⟩, p.2)
def R5 (a b : Nat) (u v l : Bytes) : Option (DeltaV × Bytes) := (num l).bind fun n => R6 a b u v [] n.1 n.2
def R4 (a b : Nat) (u l : Bytes) : Option (DeltaV × Bytes) := (sumR l).bind fun v => R5 a b u v.1 v.2
def R3 (a b : Nat) (l : Bytes) : Option (DeltaV × Bytes) := (sumR l).bind fun u => R4 a b u.1 u.2
def R2 (a : Nat) (l : Bytes) : Option (DeltaV × Bytes) := (num l).bind fun b => R3 a b.1 b.2
def R1 (l : Bytes) : Option (DeltaV × Bytes) := (num l).bind fun a => R2 a.1 a.2
theorem bodyR_R1 {s : Bytes} (h : s.take 4 = [79, 70, 68, 49]) : bodyR s = R1 (s.drop 4) := by
  unfold bodyR R1 R2 R3 R4 R5 R6
  rw [if_pos h]
  rfl
def St (B : Option (DeltaV × Bytes)) (b : Bool) (o : Option (DeltaV × Bytes)) : Prop := (b = false → B = o) ∧ (b = true → B = none)
theorem St.step {α : Type} {B : Option (DeltaV × Bytes)} {b b' : Bool} {f : Option (α × Bytes)} {g : α × Bytes → Option (DeltaV × Bytes)} {v : α} {r : Bytes} (h : St B b (f.bind g)) (g3 : b' = false → b = false ∧ f = some (v, r)) (g4 : b' = true → b = true ∨ f = none) : St B b' (g (v, r)) := by
  refine ⟨fun e => ?_, fun e => ?_⟩
  · rw [h.1 (g3 e).1, (g3 e).2]; rfl
  · cases b with
    | true => exact h.2 rfl
    | false =>
      rcases g4 e with k | k
      · cases k
      · rw [h.1 rfl, k]; rfl
theorem R6_zero (a b : Nat) (u v : Bytes) (out : List PieceV) (l : Bytes) : R6 a b u v out 0 l = some (⟨a, b, u, v, out⟩, l) := by simp [R6, piecesR]
theorem R6_succ (a b : Nat) (u v : Bytes) (out : List PieceV) (n : Nat) (l : Bytes) : R6 a b u v out (n + 1) l = (pieceR l).bind fun x => R6 a b u v (out ++ [x.1]) n x.2 := by
  unfold R6
  rw [piecesR]
  cases pieceR l with
  | none => rfl
  | some x =>
    simp only [Option.bind_some]
    cases piecesR n x.2 with
    | none => rfl
    | some y => simp
def ot11p : OT := .seg [0, 2] (.or (.seg [1, 3, 4, 5, 6, 7] .done) (.seg [3, 1, 4, 5, 6, 7] .done))
def PzD (i2 : Nat) (G : Heap) : Prop := G i2 = some (.cells (encDl DeltaV.zero .exact))
def PQ (s : Bytes) (H : Heap) (i2 i4 i5 v1 v2 : Nat) (x3 x4 : Bytes) (r : Regs) (G : Heap) : Prop := ∃ (out : List PieceV) (tl : Tail) (q : Nat) (b : Bool), agrees r [(0, .str s), (2, .ptr i2 0), (4, .ptr i4 0), (5, .ptr i5 0)] ∧ H.Sub G ∧ G i2 = some (.cells [.int .i64 0, .int .i64 0, .str [], .str [], .sl [] .exact]) ∧ G i4 = some (rdr s q b) ∧
      G i5 = some (.cells [.int .i64 v1, .int .i64 v2, .str x3, .str x4, .sl (out.map encPc) tl]) ∧ q ≤ s.length ∧ psR out ∧ St (bodyR s) b (some (⟨v1, v2, x3, x4, out⟩, s.drop q))
def PI (s : Bytes) (H : Heap) (i2 i4 i5 v1 v2 n : Nat) (x3 x4 : Bytes) (t : Nat × List PieceV × Tail × Nat × Bool) (G : Heap) : Prop := AppOK H G 3 (t.2.1.map encPc) t.2.2.1 ∧ G i2 = some (.cells [.int .i64 0, .int .i64 0, .str [], .str [], .sl [] .exact]) ∧ G i4 = some (rdr s t.2.2.2.1 t.2.2.2.2) ∧ G i5 = some (.cells [.int .i64 v1, .int .i64 v2, .str x3, .str x4, .sl (t.2.1.map encPc) t.2.2.1]) ∧ t.2.2.2.1 ≤ s.length ∧ t.1 ≤ n ∧ t.2.1.length = t.1 ∧ (∀ p ∈ t.2.1, pcR p) ∧
      St (bodyR s) t.2.2.2.2 (R6 v1 v2 x3 x4 t.2.1 (n - t.1) (s.drop t.2.2.2.1))
/-- The answer's tuple. -/
def parseT (s : Bytes) : AV := .tup [.agg (encDl (parseV s).1 .unk), .int .i64 (parseV s).2]
set_option maxHeartbeats 6400000 in
theorem parse_calls (s : Bytes) (H : Heap) (hs : s.length ≤ 1099511627776) : ACalls Tryd.prog 13 [.str s] H fun x H' => x = parseT s ∧ H' = H := by
  refine ACalls.of_code (X := { pure := puP5, tree := fun n => if n = 11 then some ot11p else none }) puP5_ok Tryd.func13 (by kernel_rfl) rfl (by kernel_rfl) (Nat.le_of_ble_eq_true rfl) ?_
  simp -implicitDefEqProofs only [go_sem, tys, regs0, Nat.reduceEqDiff, Nat.reduceAdd, Nat.reduceLeDiff, Nat.reduceLT, Nat.reduceMul, Int.natCast_one, Int.natCast_zero, Int.reduceEq, Int.reduceLT, Int.reduceLE, Int.reduceAdd, Int.reduceSub, Int.reduceToNat, UInt8.reduceToNat, Tryd.f13]
  with_reducible refine nwC_intro fun i2 hi2 => ?_
  by_cases hl : 2097152 < s.length
  · have k1 : decide ((2097152 : Int) < s.length) = true := decide_eq_true (by omega)
    simp -implicitDefEqProofs only [go_sem, tys, regs0, Nat.reduceEqDiff, Nat.reduceAdd, Nat.reduceLeDiff, Nat.reduceLT, Nat.reduceMul, Int.natCast_one, Int.natCast_zero, Int.reduceEq, Int.reduceLT, Int.reduceLE, Int.reduceAdd, Int.reduceSub, Int.reduceToNat, UInt8.reduceToNat, k1]
    refine Done.wk 3 (Done.drop1 hi2 ⟨?_, rfl⟩)
    unfold parseT parseV
    rw [if_pos hl]
    rfl
  have k1 : decide ((2097152 : Int) < s.length) = false := decide_eq_false (by omega)
  simp -implicitDefEqProofs only [go_sem, tys, regs0, Nat.reduceEqDiff, Nat.reduceAdd, Nat.reduceLeDiff, Nat.reduceLT, Nat.reduceMul, Int.natCast_one, Int.natCast_zero, Int.reduceEq, Int.reduceLT, Int.reduceLE, Int.reduceAdd, Int.reduceSub, Int.reduceToNat, UInt8.reduceToNat, k1]
  with_reducible refine nwC_intro fun i4 hi4 => ?_
  have n24 : ¬ i2 = i4 := (heap_none hi4).2.1
  have n42 : ¬ i4 = i2 := fun e => n24 e.symm
  have hi4H := (heap_none hi4).2.2
  have hZ : ((H.put i2 (.cells [.int .i64 0, .int .i64 0, .str [], .str [], .sl [] .exact])).put i4 (rdr s (0 : Nat) false)) i2 = some (.cells [.int .i64 0, .int .i64 0, .str [], .str [], .sl [] .exact]) := by rw [put_ne _ _ _ _ n24]; exact put_same _ _ _
  have hR := put_same (H.put i2 (.cells [.int .i64 0, .int .i64 0, .str [], .str [], .sl [] .exact])) i4 (rdr s (0 : Nat) false)
  have hS : H.Sub ((H.put i2 (.cells [.int .i64 0, .int .i64 0, .str [], .str [], .sl [] .exact])).put i4 (rdr s (0 : Nat) false)) := ((Heap.Sub.rfl' H).put' hi2 _).put' hi4H _
  have hfold : (H.put i2 (.cells [.int .i64 0, .int .i64 0, .str [], .str [], .sl [] .exact])).put i4 (.cells [.str s, .int .i64 0, .bool false]) = (H.put i2 (.cells [.int .i64 0, .int .i64 0, .str [], .str [], .sl [] .exact])).put i4 (rdr s (0 : Nat) false) := rfl
  rw [hfold]
  generalize (H.put i2 (.cells [.int .i64 0, .int .i64 0, .str [], .str [], .sl [] .exact])).put i4 (rdr s (0 : Nat) false) = G at *
  clear hfold hi4
  simp -implicitDefEqProofs only [go_sem, tys, regs0, Nat.reduceEqDiff, Nat.reduceAdd, Nat.reduceLeDiff, Nat.reduceLT, Nat.reduceMul, Int.natCast_one, Int.natCast_zero, Int.reduceEq, Int.reduceLT, Int.reduceLE, Int.reduceAdd, Int.reduceSub, Int.reduceToNat, UInt8.reduceToNat, puP5, puM, puN, pu0]
  have hfail : bodyR s = none → parseT s = .tup [.agg (encDl DeltaV.zero .unk), .int .i64 8] := fun h => by
    unfold parseT parseV
    rw [if_neg hl, h]
  refine take_k hR (by omega) hs (by omega) (fun m hm hle => ?_) (fun hf => ?_)
  rotate_left
  · have k2 : decide (¬ ([] : Bytes) = [79, 70, 68, 49]) = true := by decide
    have hB : bodyR s = none := by
      unfold bodyR
      rw [if_neg]
      intro e
      have := congrArg List.length e
      rw [List.length_take] at this
      simp at this
      omega
    have hZ1 : (G.put i4 (rdr s (0 : Nat) true)) i2 = some (.cells [.int .i64 0, .int .i64 0, .str [], .str [], .sl [] .exact]) := by rw [put_ne _ _ _ _ n24]; exact hZ
    have hS1 := hS.put' hi4H (rdr s (0 : Nat) true)
    generalize G.put i4 (rdr s (0 : Nat) true) = G1 at *
    simp -implicitDefEqProofs only [go_sem, tys, regs0, Nat.reduceEqDiff, Nat.reduceAdd, Nat.reduceLeDiff, Nat.reduceLT, Nat.reduceMul, Int.natCast_one, Int.natCast_zero, Int.reduceEq, Int.reduceLT, Int.reduceLE, Int.reduceAdd, Int.reduceSub, Int.reduceToNat, UInt8.reduceToNat, puP5, puM, puN, pu0, k2, hZ1]
    refine Done.wk 3 (Done.drop (hS1.put' hi2 _) ⟨?_, rfl⟩)
    rw [hfail hB]; rfl
  obtain rfl : m = 4 := by omega
  rw [List.drop_zero]
  by_cases hm4 : ¬ s.take 4 = [79, 70, 68, 49]
  · have k2 : decide (¬ s.take 4 = [79, 70, 68, 49]) = true := decide_eq_true hm4
    have hB : bodyR s = none := by
      unfold bodyR
      rw [if_neg hm4]
    have hZ1 : (G.put i4 (rdr s (0 + 4 : Nat) false)) i2 = some (.cells [.int .i64 0, .int .i64 0, .str [], .str [], .sl [] .exact]) := by rw [put_ne _ _ _ _ n24]; exact hZ
    have hS1 := hS.put' hi4H (rdr s (0 + 4 : Nat) false)
    generalize G.put i4 (rdr s (0 + 4 : Nat) false) = G1 at *
    simp -implicitDefEqProofs only [go_sem, tys, regs0, Nat.reduceEqDiff, Nat.reduceAdd, Nat.reduceLeDiff, Nat.reduceLT, Nat.reduceMul, Int.natCast_one, Int.natCast_zero, Int.reduceEq, Int.reduceLT, Int.reduceLE, Int.reduceAdd, Int.reduceSub, Int.reduceToNat, UInt8.reduceToNat, puP5, puM, puN, pu0, k2, hZ1]
    refine Done.wk 3 (Done.drop (hS1.put' hi2 _) ⟨?_, rfl⟩)
    rw [hfail hB]; rfl
  have hm4 : s.take 4 = [79, 70, 68, 49] := Decidable.not_not.1 hm4
  have k2 : decide (¬ s.take 4 = [79, 70, 68, 49]) = false := decide_eq_false (by simpa using hm4)
  have hSt : St (bodyR s) false (R1 (s.drop 4)) := ⟨fun _ => bodyR_R1 hm4, fun e => absurd e (by decide)⟩
  rw [Nat.zero_add] at hle ⊢
  have hZ1 : (G.put i4 (rdr s (4 : Nat) false)) i2 = some (.cells [.int .i64 0, .int .i64 0, .str [], .str [], .sl [] .exact]) := by rw [put_ne _ _ _ _ n24]; exact hZ
  have hS1 := hS.put' hi4H (rdr s (4 : Nat) false)
  have hR1 := put_same G i4 (rdr s (4 : Nat) false)
  generalize G.put i4 (rdr s (4 : Nat) false) = G1 at *
  clear hZ hS hR
  simp -implicitDefEqProofs only [go_sem, tys, regs0, Nat.reduceEqDiff, Nat.reduceAdd, Nat.reduceLeDiff, Nat.reduceLT, Nat.reduceMul, Int.natCast_one, Int.natCast_zero, Int.reduceEq, Int.reduceLT, Int.reduceLE, Int.reduceAdd, Int.reduceSub, Int.reduceToNat, UInt8.reduceToNat, puP5, puM, puN, pu0, k2]
  refine number_k hR1 hle hs (fun v1 p1 b1 hv1 a1 a2 a3 a4 => ?_)
  have hSt1 := hSt.step a3 a4
  have hZ2 : (G1.put i4 (rdr s p1 b1)) i2 = some (.cells [.int .i64 0, .int .i64 0, .str [], .str [], .sl [] .exact]) := by rw [put_ne _ _ _ _ n24]; exact hZ1
  have hS2 := hS1.put' hi4H (rdr s p1 b1)
  have hR2 := put_same G1 i4 (rdr s p1 b1)
  generalize G1.put i4 (rdr s p1 b1) = G2 at *
  clear hZ1 hS1 hR1 a3 a4 hSt
  simp -implicitDefEqProofs only [go_sem, tys, regs0, Nat.reduceEqDiff, Nat.reduceAdd, Nat.reduceLeDiff, Nat.reduceLT, Nat.reduceMul, Int.natCast_one, Int.natCast_zero, Int.reduceEq, Int.reduceLT, Int.reduceLE, Int.reduceAdd, Int.reduceSub, Int.reduceToNat, UInt8.reduceToNat, puP5, puM, puN, pu0]
  refine number_k hR2 a2 hs (fun v2 p2 b2 hv2 c1 c2 a3 a4 => ?_)
  have hSt2 := hSt1.step a3 a4
  have hZ3 : (G2.put i4 (rdr s p2 b2)) i2 = some (.cells [.int .i64 0, .int .i64 0, .str [], .str [], .sl [] .exact]) := by rw [put_ne _ _ _ _ n24]; exact hZ2
  have hS3 := hS2.put' hi4H (rdr s p2 b2)
  have hR3 := put_same G2 i4 (rdr s p2 b2)
  generalize G2.put i4 (rdr s p2 b2) = G3 at *
  clear hZ2 hS2 hR2 a3 a4 hSt1
  simp -implicitDefEqProofs only [go_sem, tys, regs0, Nat.reduceEqDiff, Nat.reduceAdd, Nat.reduceLeDiff, Nat.reduceLT, Nat.reduceMul, Int.natCast_one, Int.natCast_zero, Int.reduceEq, Int.reduceLT, Int.reduceLE, Int.reduceAdd, Int.reduceSub, Int.reduceToNat, UInt8.reduceToNat, puP5, puM, puN, pu0]
  with_reducible refine nwC_intro fun i5 hi5 => ?_
  have n25 : ¬ i2 = i5 := fun e => by rw [← e, hZ3] at hi5; cases hi5
  have n52 : ¬ i5 = i2 := fun e => n25 e.symm
  have n45 : ¬ i4 = i5 := fun e => by rw [← e, hR3] at hi5; cases hi5
  have n54 : ¬ i5 = i4 := fun e => n45 e.symm
  have hi5H := sub_none hS3 hi5
  simp -implicitDefEqProofs only [go_sem, tys, regs0, Nat.reduceEqDiff, Nat.reduceAdd, Nat.reduceLeDiff, Nat.reduceLT, Nat.reduceMul, Int.natCast_one, Int.natCast_zero, Int.reduceEq, Int.reduceLT, Int.reduceLE, Int.reduceAdd, Int.reduceSub, Int.reduceToNat, UInt8.reduceToNat, put_ne, n25, n52, n45, n54]
  have hZ4 : (G3.put i5 (.cells [.int .i64 v1, .int .i64 v2, .str [], .str [], .sl [] .exact])) i2 = some (.cells [.int .i64 0, .int .i64 0, .str [], .str [], .sl [] .exact]) := by rw [put_ne _ _ _ _ n25]; exact hZ3
  have hR4 : (G3.put i5 (.cells [.int .i64 v1, .int .i64 v2, .str [], .str [], .sl [] .exact])) i4 = some (rdr s p2 b2) := by rw [put_ne _ _ _ _ n45]; exact hR3
  have hD4 := put_same G3 i5 (.cells [.int .i64 v1, .int .i64 v2, .str [], .str [], .sl [] .exact])
  have hS4 := hS3.put' hi5H (.cells [.int .i64 v1, .int .i64 v2, .str [], .str [], .sl [] .exact])
  generalize G3.put i5 (.cells [.int .i64 v1, .int .i64 v2, .str [], .str [], .sl [] .exact]) = G4 at *
  clear hZ3 hS3 hR3 hi5
  refine sum_k hR4 c2 hs (fun x3 p3 b3 hx3 d1 d2 a3 a4 => ?_)
  have hSt3 := hSt2.step a3 a4
  have hZ5 : (G4.put i4 (rdr s p3 b3)) i2 = some (.cells [.int .i64 0, .int .i64 0, .str [], .str [], .sl [] .exact]) := by rw [put_ne _ _ _ _ n24]; exact hZ4
  have hD5 : (G4.put i4 (rdr s p3 b3)) i5 = some (.cells [.int .i64 v1, .int .i64 v2, .str [], .str [], .sl [] .exact]) := by rw [put_ne _ _ _ _ n54]; exact hD4
  have hS5 := hS4.put' hi4H (rdr s p3 b3)
  have hR5 := put_same G4 i4 (rdr s p3 b3)
  generalize G4.put i4 (rdr s p3 b3) = G5 at *
  clear hZ4 hS4 hR4 hD4 a3 a4 hSt2
  simp -implicitDefEqProofs only [go_sem, tys, regs0, Nat.reduceEqDiff, Nat.reduceAdd, Nat.reduceLeDiff, Nat.reduceLT, Nat.reduceMul, Int.natCast_one, Int.natCast_zero, Int.reduceEq, Int.reduceLT, Int.reduceLE, Int.reduceAdd, Int.reduceSub, Int.reduceToNat, UInt8.reduceToNat, puP5, puM, puN, pu0]
  refine sum_k hR5 d2 hs (fun x4 p4 b4 hx4 e1 e2 a3 a4 => ?_)
  have hSt4 := hSt3.step a3 a4
  have hZ6 : (G5.put i4 (rdr s p4 b4)) i2 = some (.cells [.int .i64 0, .int .i64 0, .str [], .str [], .sl [] .exact]) := by rw [put_ne _ _ _ _ n24]; exact hZ5
  have hD6 : (G5.put i4 (rdr s p4 b4)) i5 = some (.cells [.int .i64 v1, .int .i64 v2, .str [], .str [], .sl [] .exact]) := by rw [put_ne _ _ _ _ n54]; exact hD5
  have hS6 := hS5.put' hi4H (rdr s p4 b4)
  have hR6 := put_same G5 i4 (rdr s p4 b4)
  generalize G5.put i4 (rdr s p4 b4) = G6 at *
  clear hZ5 hS5 hR5 hD5 a3 a4 hSt3
  simp -implicitDefEqProofs only [go_sem, tys, regs0, Nat.reduceEqDiff, Nat.reduceAdd, Nat.reduceLeDiff, Nat.reduceLT, Nat.reduceMul, Int.natCast_one, Int.natCast_zero, Int.reduceEq, Int.reduceLT, Int.reduceLE, Int.reduceAdd, Int.reduceSub, Int.reduceToNat, UInt8.reduceToNat, puP5, puM, puN, pu0, hD6]
  have hZ7 : (G6.put i5 (.cells [.int .i64 v1, .int .i64 v2, .str x3, .str x4, .sl [] .exact])) i2 = some (.cells [.int .i64 0, .int .i64 0, .str [], .str [], .sl [] .exact]) := by rw [put_ne _ _ _ _ n25]; exact hZ6
  have hR7 : (G6.put i5 (.cells [.int .i64 v1, .int .i64 v2, .str x3, .str x4, .sl [] .exact])) i4 = some (rdr s p4 b4) := by rw [put_ne _ _ _ _ n45]; exact hR6
  have hD7 := put_same G6 i5 (.cells [.int .i64 v1, .int .i64 v2, .str x3, .str x4, .sl [] .exact])
  have hS7 := hS6.put' hi5H (.cells [.int .i64 v1, .int .i64 v2, .str x3, .str x4, .sl [] .exact])
  generalize G6.put i5 (.cells [.int .i64 v1, .int .i64 v2, .str x3, .str x4, .sl [] .exact]) = G7 at *
  clear hZ6 hS6 hR6 hD6
  refine number_k hR7 e2 hs (fun n p5 b5 hn f1 f2 a3 a4 => ?_)
  have hSt5 := hSt4.step a3 a4
  have hZ8 : (G7.put i4 (rdr s p5 b5)) i2 = some (.cells [.int .i64 0, .int .i64 0, .str [], .str [], .sl [] .exact]) := by rw [put_ne _ _ _ _ n24]; exact hZ7
  have hD8 : (G7.put i4 (rdr s p5 b5)) i5 = some (.cells [.int .i64 v1, .int .i64 v2, .str x3, .str x4, .sl [] .exact]) := by rw [put_ne _ _ _ _ n54]; exact hD7
  have hS8 := hS7.put' hi4H (rdr s p5 b5)
  have hR8 := put_same G7 i4 (rdr s p5 b5)
  generalize G7.put i4 (rdr s p5 b5) = G8 at *
  clear hZ7 hS7 hR7 hD7 a3 a4 hSt4
  simp only at hSt5
  simp -implicitDefEqProofs only [go_sem, tys, regs0, Nat.reduceEqDiff, Nat.reduceAdd, Nat.reduceLeDiff, Nat.reduceLT, Nat.reduceMul, Int.natCast_one, Int.natCast_zero, Int.reduceEq, Int.reduceLT, Int.reduceLE, Int.reduceAdd, Int.reduceSub, Int.reduceToNat, UInt8.reduceToNat]
  with_reducible refine aloop_cut 0 (PQ s H i2 i4 i5 v1 v2 x3 x4) ?_ ?_
  · clear hZ8 hR8 hD8 hS8 hSt5 f1 f2
    rintro r G ⟨out, tl, q, b, hv, hS, hZ, hR, hD, hq, hop, hSt⟩
    have h0 := hv.1
    have h2 := hv.2.1
    have h4 := hv.2.2.1
    have h5 := hv.2.2.2.1
    clear hv
    have hR' := hR
    unfold rdr at hR'
    simp -implicitDefEqProofs only [go_sem, tys, regs0, Nat.reduceEqDiff, Nat.reduceAdd, Nat.reduceLeDiff, Nat.reduceLT, Nat.reduceMul, Int.natCast_one, Int.natCast_zero, Int.reduceEq, Int.reduceLT, Int.reduceLE, Int.reduceAdd, Int.reduceSub, Int.reduceToNat, UInt8.reduceToNat, h0, h2, h4, h5, hR', puP5, puM, puN, pu0]
    refine sum_k hR hq hs (fun x6 q6 b6 hx6 g1 g2 a3 a4 => ?_)
    have hZ1 : (G.put i4 (rdr s q6 b6)) i2 = some (.cells [.int .i64 0, .int .i64 0, .str [], .str [], .sl [] .exact]) := by rw [put_ne _ _ _ _ n24]; exact hZ
    have hD1 : (G.put i4 (rdr s q6 b6)) i5 = some (.cells [.int .i64 v1, .int .i64 v2, .str x3, .str x4, .sl (out.map encPc) tl]) := by rw [put_ne _ _ _ _ n54]; exact hD
    have hS1 := hS.put' hi4H (rdr s q6 b6)
    have hR1 := put_same G i4 (rdr s q6 b6)
    unfold rdr at hR1
    unfold rdr at hZ1 hD1 hS1 ⊢
    generalize G.put i4 (.cells [.str s, .int .i64 q6, .bool b6]) = G1 at *
    clear hZ hD hS hR
    cases b6 with
    | true =>
      have hbad : parseT s = .tup [.agg (encDl DeltaV.zero .unk), .int .i64 8] := by
        cases b with
        | true => exact hfail (hSt.2 rfl)
        | false =>
          have e1 := hSt.1 rfl
          rcases a4 rfl with h | h
          · cases h
          · unfold parseT parseV
            rw [if_neg hl, e1]
            simp only [h]
      simp -implicitDefEqProofs only [go_sem, tys, regs0, Nat.reduceEqDiff, Nat.reduceAdd, Nat.reduceLeDiff, Nat.reduceLT, Nat.reduceMul, Int.natCast_one, Int.natCast_zero, Int.reduceEq, Int.reduceLT, Int.reduceLE, Int.reduceAdd, Int.reduceSub, Int.reduceToNat, UInt8.reduceToNat, h0, h2, h4, h5, hR1, hZ1]
      refine Done.wk 3 (Done.drop (hS1.put' hi2 _) ⟨?_, rfl⟩)
      rw [hbad]; rfl
    | false =>
      obtain ⟨rfl, hsum⟩ := a3 rfl
      have e1 := hSt.1 rfl
      by_cases hqs : q6 < s.length
      · have hbad : parseT s = .tup [.agg (encDl DeltaV.zero .unk), .int .i64 8] := by
          unfold parseT parseV
          rw [if_neg hl, e1]
          have : s.drop q6 ≠ [] := fun e => by have := congrArg List.length e; simp at this; omega
          obtain ⟨c, k, hck⟩ := List.exists_cons_of_ne_nil this
          rw [hck] at hsum
          simp only [hsum]
        have k3 : decide ((q6 : Int) < s.length) = true := decide_eq_true (by omega)
        simp -implicitDefEqProofs only [go_sem, tys, regs0, Nat.reduceEqDiff, Nat.reduceAdd, Nat.reduceLeDiff, Nat.reduceLT, Nat.reduceMul, Int.natCast_one, Int.natCast_zero, Int.reduceEq, Int.reduceLT, Int.reduceLE, Int.reduceAdd, Int.reduceSub, Int.reduceToNat, UInt8.reduceToNat, h0, h2, h4, h5, hR1, hZ1, k3]
        refine Done.wk 3 (Done.drop (hS1.put' hi2 _) ⟨?_, rfl⟩)
        rw [hbad]; rfl
      · have k3 : decide ((q6 : Int) < s.length) = false := decide_eq_false (by omega)
        have hnil : s.drop q6 = [] := List.drop_eq_nil_of_le (by omega)
        rw [hnil] at hsum
        have hlq : s.length - (s.drop q).length = q := by rw [List.length_drop]; omega
        have hpt : parseV s = if ¬ x6 = sumOf (s.take q) then (DeltaV.zero, 14) else if ¬ deltaE ⟨v1, v2, x3, x4, out⟩ = 0 then (DeltaV.zero, deltaE ⟨v1, v2, x3, x4, out⟩) else (⟨v1, v2, x3, x4, out⟩, 0) := by
          unfold parseV
          rw [if_neg hl, e1]
          simp only [hsum, hlq]
        have hR : Room = 1099511627776 := rfl
        have htl : (s.take q).length ≤ 1099511627776 := by rw [List.length_take]; omega
        have k4 : (0 : Int) ≤ q ∧ (q : Int) ≤ s.length := ⟨by omega, by omega⟩
        have hc := sCheck_eq ⟨v1, v2, x3, x4, out⟩ tl ⟨⟨by simp only; omega, by simp only; omega⟩, ⟨by simp only; omega, by simp only; omega⟩, by simp only; omega, by simp only; omega, hop⟩
        unfold encDl at hc
        simp only at hc
        by_cases c5 : ¬ x6 = sumOf (s.take q)
        · have k5 : decide (¬ x6 = sumOf (s.take q)) = true := decide_eq_true c5
          rw [if_pos c5] at hpt
          simp -implicitDefEqProofs (disch := omega) only [go_sem, tys, regs0, Nat.reduceEqDiff, Nat.reduceAdd, Nat.reduceLeDiff, Nat.reduceLT, Nat.reduceMul, Int.natCast_one, Int.natCast_zero, Int.reduceEq, Int.reduceLT, Int.reduceLE, Int.reduceAdd, Int.reduceSub, Int.reduceToNat, UInt8.reduceToNat, Go.IntWalk.i64_in, h0, h2, h4, h5, hR1, hZ1, k3, puP5, puM, puN, pu0, sSum_eq, hR, htl, k5]
          refine ⟨by omega, ?_⟩
          refine Done.wk 3 (Done.drop (hS1.put' hi2 _) ⟨?_, rfl⟩)
          unfold parseT
          rw [hpt]; rfl
        · have k5 : decide (¬ x6 = sumOf (s.take q)) = false := decide_eq_false c5
          rw [if_neg c5] at hpt
          by_cases c6 : ¬ deltaE ⟨v1, v2, x3, x4, out⟩ = 0
          · have k6 : decide (¬ deltaE ⟨v1, v2, x3, x4, out⟩ = 0) = true := decide_eq_true c6
            rw [if_pos c6] at hpt
            simp -implicitDefEqProofs (disch := omega) only [go_sem, tys, regs0, Nat.reduceEqDiff, Nat.reduceAdd, Nat.reduceLeDiff, Nat.reduceLT, Nat.reduceMul, Int.natCast_one, Int.natCast_zero, Int.reduceEq, Int.reduceLT, Int.reduceLE, Int.reduceAdd, Int.reduceSub, Int.reduceToNat, UInt8.reduceToNat, Go.IntWalk.i64_in, h0, h2, h4, h5, hR1, hZ1, hD1, k3, puP5, puM, puN, pu0, sSum_eq, hR, htl, k5, hc, k6]
            refine ⟨by omega, ?_⟩
            refine Done.wk 3 (Done.drop (hS1.put' hi2 _) ⟨?_, rfl⟩)
            unfold parseT
            rw [hpt]; rfl
          · have k6 : deltaE ⟨v1, v2, x3, x4, out⟩ = 0 := Decidable.not_not.1 c6
            rw [if_neg c6] at hpt
            rw [k6] at hc
            simp -implicitDefEqProofs (disch := omega) only [go_sem, tys, regs0, Nat.reduceEqDiff, Nat.reduceAdd, Nat.reduceLeDiff, Nat.reduceLT, Nat.reduceMul, Int.natCast_one, Int.natCast_zero, Int.reduceEq, Int.reduceLT, Int.reduceLE, Int.reduceAdd, Int.reduceSub, Int.reduceToNat, UInt8.reduceToNat, Go.IntWalk.i64_in, h0, h2, h4, h5, hR1, hZ1, hD1, k3, puP5, puM, puN, pu0, sSum_eq, hR, htl, k5, hc]
            refine ⟨by omega, ?_⟩
            refine Done.wk 3 (Done.drop (hS1.put' hi2 _) ⟨?_, rfl⟩)
            unfold parseT
            rw [hpt]; rfl
  refine aloop_intro (σ := Nat × List PieceV × Tail × Nat × Bool) (fun t => [(0, .str s), (2, .ptr i2 0), (4, .ptr i4 0), (5, .ptr i5 0), (32, .int .i64 n), (33, .int .i64 t.1)])
    (PI s H i2 i4 i5 v1 v2 n x3 x4) (fun t => n - t.1) (0, [], .exact, p5, b5) ?_ ?_ ?_
  · simp -implicitDefEqProofs only [go_sem, tys, regs0, Nat.reduceEqDiff, Nat.reduceAdd, Nat.reduceLeDiff, Nat.reduceLT, Nat.reduceMul, Int.natCast_one, Int.natCast_zero, Int.reduceEq, Int.reduceLT, Int.reduceLE, Int.reduceAdd, Int.reduceSub, Int.reduceToNat, UInt8.reduceToNat]
  · exact ⟨AppOK.nil hS8, hZ8, hR8, hD8, f2, by omega, rfl, by simp, hSt5⟩
  · clear hZ8 hR8 hD8 hS8 hSt5 f1 f2
    rintro ⟨j, out, tl, q, b⟩ r G hv ⟨hA, hZ, hR, hD, hq, hj, hol, hop, hSt⟩
    have h0 := hv.1
    have h2 := hv.2.1
    have h4 := hv.2.2.1
    have h5 := hv.2.2.2.1
    have h32 := hv.2.2.2.2.1
    have h33 := hv.2.2.2.2.2.1
    clear hv
    simp only at h0 h2 h4 h5 h32 h33 hA hZ hR hD hq hj hol hop hSt
    have hR' := hR
    unfold rdr at hR'
    simp -implicitDefEqProofs only [go_sem, tys, regs0, Nat.reduceEqDiff, Nat.reduceAdd, Nat.reduceLeDiff, Nat.reduceLT, Nat.reduceMul, Int.natCast_one, Int.natCast_zero, Int.reduceEq, Int.reduceLT, Int.reduceLE, Int.reduceAdd, Int.reduceSub, Int.reduceToNat, UInt8.reduceToNat, h0, h2, h4, h5, h32, h33]
    refine cnd_intro (fun g => ?_) (fun g => ?_)
    · simp only [decide_eq_true_eq] at g
      cases b with
      | true =>
        simp -implicitDefEqProofs only [go_sem, tys, regs0, Nat.reduceEqDiff, Nat.reduceAdd, Nat.reduceLeDiff, Nat.reduceLT, Nat.reduceMul, Int.natCast_one, Int.natCast_zero, Int.reduceEq, Int.reduceLT, Int.reduceLE, Int.reduceAdd, Int.reduceSub, Int.reduceToNat, UInt8.reduceToNat, h0, h2, h4, h5, h32, h33, hR']
        exact ⟨out, tl, q, true, by simp -implicitDefEqProofs only [go_sem, tys, regs0, Nat.reduceEqDiff, Nat.reduceAdd, Nat.reduceLeDiff, Nat.reduceLT, Nat.reduceMul, Int.natCast_one, Int.natCast_zero, Int.reduceEq, Int.reduceLT, Int.reduceLE, Int.reduceAdd, Int.reduceSub, Int.reduceToNat, UInt8.reduceToNat, h0, h2, h4, h5], hA.sub, hZ, hR, hD, hq, ⟨by omega, hop⟩, ⟨fun e => absurd e (by decide), hSt.2⟩⟩
      | false =>
        rw [show n - j = (n - (j + 1)) + 1 from by omega, R6_succ] at hSt
        simp -implicitDefEqProofs only [go_sem, tys, regs0, Nat.reduceEqDiff, Nat.reduceAdd, Nat.reduceLeDiff, Nat.reduceLT, Nat.reduceMul, Int.natCast_one, Int.natCast_zero, Int.reduceEq, Int.reduceLT, Int.reduceLE, Int.reduceAdd, Int.reduceSub, Int.reduceToNat, UInt8.reduceToNat, h0, h2, h4, h5, h32, h33, hR']
        rw [acode_tree (t := ot11p) rfl (by rfl)]
        simp -implicitDefEqProofs only [go_sem, tys, regs0, Nat.reduceEqDiff, Nat.reduceAdd, Nat.reduceLeDiff, Nat.reduceLT, Nat.reduceMul, Int.natCast_one, Int.natCast_zero, Int.reduceEq, Int.reduceLT, Int.reduceLE, Int.reduceAdd, Int.reduceSub, Int.reduceToNat, UInt8.reduceToNat, h0, h2, h4, h5, h32, h33, ot11p, stripO, hD, puP5, puM, puN, pu0]
        refine ⟨?_, ?_⟩
        all_goals
          refine piece_k hR hq (by omega) (fun x q2 b2 hx g1 g2 a3 a4 => ?_)
          have hSt2 := hSt.step a3 a4
          have hA1 := hA.set hi4H hR (o' := rdr s q2 b2) (fun n e => by cases e)
          have hZ1 : (G.put i4 (rdr s q2 b2)) i2 = some (.cells [.int .i64 0, .int .i64 0, .str [], .str [], .sl [] .exact]) := by rw [put_ne _ _ _ _ n24]; exact hZ
          have hD1 : (G.put i4 (rdr s q2 b2)) i5 = some (.cells [.int .i64 v1, .int .i64 v2, .str x3, .str x4, .sl (out.map encPc) tl]) := by rw [put_ne _ _ _ _ n54]; exact hD
          have hR1 := put_same G i4 (rdr s q2 b2)
          generalize G.put i4 (rdr s q2 b2) = G1 at *
          have el : (encPc x).length = 3 := rfl
          simp -implicitDefEqProofs only [go_sem, tys, regs0, Nat.reduceEqDiff, Nat.reduceAdd, Nat.reduceLeDiff, Nat.reduceLT, Nat.reduceMul, Int.natCast_one, Int.natCast_zero, Int.reduceEq, Int.reduceLT, Int.reduceLE, Int.reduceAdd, Int.reduceSub, Int.reduceToNat, UInt8.reduceToNat, h0, h2, h4, h5, h32, h33, stripO, hD1, el]
          refine AppOK.step hA1 (encPc_unif out) (by simp) (by simp; omega) (by simp; omega) (fun tl2 G2 hA2 hK2 => ?_)
          have hZ2 := hK2.cells hZ1
          have hR2 := hK2.cells hR1
          have hD2 := hK2.cells hD1
          have hA3 := hA2.set hi5H hD2 (o' := (.cells [.int .i64 v1, .int .i64 v2, .str x3, .str x4, .sl (out.map encPc ++ [encPc x]) tl2])) (fun n e => by cases e)
          simp -implicitDefEqProofs (disch := omega) only [go_sem, tys, regs0, Nat.reduceEqDiff, Nat.reduceAdd, Nat.reduceLeDiff, Nat.reduceLT, Nat.reduceMul, Int.natCast_one, Int.natCast_zero, Int.reduceEq, Int.reduceLT, Int.reduceLE, Int.reduceAdd, Int.reduceSub, Int.reduceToNat, UInt8.reduceToNat, Go.IntWalk.i64_in, h0, h2, h4, h5, h32, h33, stripO, hD2]
          refine Again.mk (j + 1, out ++ [x], tl2, q2, b2) (by simp -implicitDefEqProofs only [go_sem, tys, regs0, Nat.reduceEqDiff, Nat.reduceAdd, Nat.reduceLeDiff, Nat.reduceLT, Nat.reduceMul, Int.natCast_one, Int.natCast_zero, Int.reduceEq, Int.reduceLT, Int.reduceLE, Int.reduceAdd, Int.reduceSub, Int.reduceToNat, UInt8.reduceToNat, h0, h2, h4, h5, h32, h33]; first | exact rfl | simp) ⟨by simpa using hA3, by rw [put_ne _ _ _ _ n25]; exact hZ2, by rw [put_ne _ _ _ _ n45]; exact hR2, by rw [put_same, List.map_append]; rfl, g2, by simp only; omega, by simp [hol], ?_, hSt2⟩ (by simp only; omega)
          intro p hp
          rcases List.mem_append.1 hp with h | h
          · exact hop p h
          · rw [List.mem_singleton] at h; rw [h]; exact hx
    · simp only [decide_eq_false_iff_not] at g
      have e : j = n := by omega
      rw [e, Nat.sub_self, R6_zero] at hSt
      simp -implicitDefEqProofs only [go_sem, tys, regs0, Nat.reduceEqDiff, Nat.reduceAdd, Nat.reduceLeDiff, Nat.reduceLT, Nat.reduceMul, Int.natCast_one, Int.natCast_zero, Int.reduceEq, Int.reduceLT, Int.reduceLE, Int.reduceAdd, Int.reduceSub, Int.reduceToNat, UInt8.reduceToNat, h0, h2, h4, h5, h32, h33, hR']
      exact ⟨out, tl, q, b, by simp -implicitDefEqProofs only [go_sem, tys, regs0, Nat.reduceEqDiff, Nat.reduceAdd, Nat.reduceLeDiff, Nat.reduceLT, Nat.reduceMul, Int.natCast_one, Int.natCast_zero, Int.reduceEq, Int.reduceLT, Int.reduceLE, Int.reduceAdd, Int.reduceSub, Int.reduceToNat, UInt8.reduceToNat, h0, h2, h4, h5], hA.sub, hZ, hR, hD, hq, ⟨by omega, hop⟩, hSt⟩
end Go.Proofs

/- Walks: the reference's reader. -/
namespace Go.Proofs
open Go Go.Abs
set_option linter.unusedSimpArgs false
set_option linter.unusedVariables false
set_option maxRecDepth 20000
theorem put_comm' {H : Heap} {i j : Nat} (h : ¬ i = j) (a b : AObj) : (H.put i a).put j b = (H.put j b).put i a := by
  funext k
  unfold Heap.put
  by_cases e1 : k = j <;> by_cases e2 : k = i <;> simp_all
theorem put_self {H : Heap} {i : Nat} {a : AObj} (h : H i = some a) : H.put i a = H := by
  funext k
  unfold Heap.put
  split
  · rename_i e; rw [e, h]
  · rfl
def RB (G : Heap) (ir ib : Nat) (rest : Bytes) (b : Bool) : Heap := (G.put ir (.cells [.str rest])).put ib (.cells [.bool b])
theorem RB_r (G : Heap) {ir ib : Nat} (h : ¬ ir = ib) (rest : Bytes) (b : Bool) : RB G ir ib rest b ir = some (.cells [.str rest]) := by unfold RB; rw [put_ne _ _ _ _ h]; exact put_same _ _ _
theorem RB_b (G : Heap) (ir ib : Nat) (rest : Bytes) (b : Bool) : RB G ir ib rest b ib = some (.cells [.bool b]) := put_same _ _ _
theorem RB_o (G : Heap) {ir ib i : Nat} (h1 : ¬ i = ir) (h2 : ¬ i = ib) (rest : Bytes) (b : Bool) : RB G ir ib rest b i = G i := by unfold RB; rw [put_ne _ _ _ _ h2, put_ne _ _ _ _ h1]
theorem RB_RB (G : Heap) {ir ib : Nat} (h : ¬ ir = ib) (r r' : Bytes) (b b' : Bool) : RB (RB G ir ib r b) ir ib r' b' = RB G ir ib r' b' := by
  have h' : ¬ ib = ir := fun e => h e.symm
  unfold RB
  rw [put_comm' h', put_put', put_put']
theorem RB_self {G : Heap} {ir ib : Nat} {r : Bytes} {b : Bool} (h1 : G ir = some (.cells [.str r])) (h2 : G ib = some (.cells [.bool b])) : RB G ir ib r b = G := by
  unfold RB
  rw [put_self h1, put_self h2]
def RNumPost (r : Bytes) (b : Bool) (K : K1) (G : Heap) (ir ib : Nat) : Prop :=
  ∀ (v : Nat) (r' : Bytes) (b' : Bool), v < 34359738368 → r'.length ≤ r.length → (b' = false → b = false ∧ num r = some (v, r')) → (b' = true → b = true ∨ num r = none) → K (.int .i64 v) (RB G ir ib r' b')
def RNumRes (r : Bytes) (b : Bool) (G : Heap) (ir ib : Nat) (x : AV) (H' : Heap) : Prop := ∃ (v : Nat) (r' : Bytes) (b' : Bool), x = .int .i64 v ∧ H' = RB G ir ib r' b' ∧ v < 34359738368 ∧ r'.length ≤ r.length ∧ (b' = false → b = false ∧ num r = some (v, r')) ∧ (b' = true → b = true ∨ num r = none)
def RNumI (r : Bytes) (b : Bool) (G : Heap) (ir ib : Nat) (t : Nat × Nat × Bytes) (G' : Heap) : Prop :=
  G' = RB G ir ib t.2.2 b ∧ t.2.2.length ≤ r.length ∧ t.1 ≤ 5 ∧ t.2.1 < 2 ^ (7 * t.1) ∧ numR (5 - t.1) t.1 t.2.1 t.2.2 = num r
end Go.Proofs

/- Walks: the reference's sums. -/
namespace Go.Proofs
open Go Go.Abs
set_option linter.unusedSimpArgs false
set_option linter.unusedVariables false
set_option maxRecDepth 20000
def puQ : Pures := putP 37 sRep (putP 36 sFU puP5)
theorem puQ_ok : PuOK Tryd.prog puQ := by
  refine PuOK.put (PuOK.put puP5_ok (sFU_ok formatUint_calls)) ?_
  intro xs v hv H
  obtain ⟨x, y, p, q, rfl, h1, h2, h3⟩ := fn2_some hv
  cases Rd.str_some h1
  cases Rd.int_some h2
  split at h3
  · rename_i hc
    obtain ⟨rfl, h0, h16⟩ := hc
    cases h3
    obtain ⟨k, rfl⟩ : ∃ k : Nat, q = k := ⟨q.toNat, by omega⟩
    exact repeat_calls k (by omega) H
  · cases h3
theorem shl8 (n : Nat) (h : n * 256 < 18446744073709551616) : shlI .u64 (n : Int) 8 = ((n * 256 : Nat) : Int) := by
  unfold shlI
  have e2 : (n : Int) * 2 ^ (min (8 : Int).toNat IntKind.u64.bits) = ((n * 256 : Nat) : Int) := by
    show (n : Int) * 2 ^ (min 8 64) = _
    simp
  rw [e2]
  exact Go.IntWalk.u64_in _ (by omega)
theorem or8 (n c : Nat) (hc : c < 256) (h : n * 256 + c < 18446744073709551616) : orI .u64 ((n * 256 : Nat) : Int) (c : Int) = ((n * 256 + c : Nat) : Int) := by
  have e : (BitVec.ofInt IntKind.u64.bits ((n * 256 : Nat) : Int) ||| BitVec.ofInt IntKind.u64.bits (c : Int)).toNat = n * 256 + c := by
    show (BitVec.ofInt 64 ((n * 256 : Nat) : Int) ||| BitVec.ofInt 64 (c : Int)).toNat = n * 256 + c
    rw [BitVec.ofInt_natCast, BitVec.ofInt_natCast, BitVec.toNat_or]
    simp only [BitVec.toNat_ofNat]
    rw [Nat.mod_eq_of_lt (show n * 256 < 2 ^ 64 by simp; omega), Nat.mod_eq_of_lt (show c < 2 ^ 64 by simp; omega)]
    have := Nat.shiftLeft_add_eq_or_of_lt (show c < 2 ^ 8 by simpa using hc) n
    rw [Nat.shiftLeft_eq] at this
    exact this.symm
  unfold orI
  rw [e]
  exact Go.IntWalk.u64_in _ (by omega)
theorem beN_take {k : Bytes} {i : Nat} {c : UInt8} (h : k[i]? = some c) : beN (k.take (i + 1)) = beN (k.take i) * 256 + c.toNat := by
  rw [List.take_add_one, h]; exact beN_snoc _ _
def RHexPost (r : Bytes) (b : Bool) (K : K1) (G : Heap) (ir ib : Nat) : Prop :=
  ∀ (x r' : Bytes) (b' : Bool), x.length = 16 → r'.length ≤ r.length → (b' = false → b = false ∧ sumR r = some (x, r')) → (b' = true → b = true ∨ sumR r = none) → K (.str x) (RB G ir ib r' b')
end Go.Proofs

/- Walks: the reference reads a delta. -/
namespace Go.Proofs
open Go Go.Abs
set_option linter.unusedSimpArgs false
set_option linter.unusedVariables false
set_option maxRecDepth 20000
def puQ2 : Pures := puQ
theorem puQ2_ok : PuOK Tryd.prog puQ2 := puQ_ok
structure Ids (H : Heap) (i2 i4 i5 i6 : Nat) : Prop where
  h4 : H i4 = none
  h5 : H i5 = none
  n24 : ¬ i2 = i4
  n25 : ¬ i2 = i5
  n45 : ¬ i4 = i5
  n64 : ¬ i6 = i4
  n65 : ¬ i6 = i5
def ot17 : OT := .seg [0, 2, 4] (.or (.seg [1, 3, 5, 6, 7, 8, 9, 10] .done) (.seg [3] (.or (.seg [1, 5, 6, 7, 8, 9, 10] .done) (.seg [5, 1, 6, 7, 8, 9, 10] .done))))
def ot19 : OT := .seg [1] (.or (.seg [0] (.or (.seg [2] (.or (.seg [3, 4, 5, 6] .done) (.seg [5, 3, 4, 6] .done))) (.seg [5, 2, 3, 4, 6] .done))) (.or (.seg [2] (.or (.seg [0] (.or (.seg [3, 4, 5, 6] .done) (.seg [5, 3, 4, 6] .done))) (.seg [5, 0, 3, 4, 6] .done))) (.seg [5] (.or (.seg [0, 2, 3, 4, 6] .done) (.seg [2, 0, 3, 4, 6] .done)))))
def pdOT (n : Nat) : Option OT := if n = 17 then some ot17 else if n = 19 then some ot19 else none
theorem new_at' {G : Heap} {i : Nat} {x : AObj} (_ : G i = some x) (o : AObj) : (G.put i o) i = some o := put_same _ _ _
theorem pcs_snoc {out : List PieceV} {x : PieceV} (h : ∀ p ∈ out, pcR p) (hx : pcR x) : ∀ p ∈ out ++ [x], pcR p := by
  intro p hp
  rcases List.mem_append.1 hp with k | k
  · exact h p k
  · rw [List.mem_singleton] at k; rw [k]; exact hx
theorem new_at {G : Heap} {i : Nat} (_ : G i = none) (o : AObj) : (G.put i o) i = some o := put_same _ _ _
theorem new_keep {G : Heap} {i j : Nat} {x : AObj} (hi : G i = none) (hj : G j = some x) (o : AObj) : (G.put i o) j = some x := by
  rw [put_ne _ _ _ _ (fun e => by rw [e, hi] at hj; cases hj)]; exact hj
theorem piece_data {r' q1 q2 tk : Bytes} {w1 : Nat} {c1 c2 : Bool} (g3 : c1 = false → false = false ∧ num r' = some (w1, q1)) (g4 : c1 = true → false = true ∨ num r' = none)
    (hk : (tk = q1.take w1 ∧ q2 = q1.drop w1 ∧ w1 ≤ q1.length ∧ c2 = c1) ∨ (tk = [] ∧ q2 = [] ∧ c2 = true ∧ q1.length < w1)) :
    (c2 = false → tk ≠ [] → pieceR (1 :: r') = some (⟨0, 0, tk⟩, q2)) ∧ (c2 = true ∨ tk = [] → pieceR (1 :: r') = none) := by
  have hpc := piece1 (l := 1 :: r') rfl
  rw [hpc]
  cases c1 with
  | true =>
    rcases g4 rfl with h | h
    · cases h
    · rw [h]
      refine ⟨fun h1 _ => ?_, fun _ => rfl⟩
      rcases hk with ⟨-, -, -, h2⟩ | ⟨-, -, h2, -⟩ <;> rw [h2] at h1 <;> cases h1
  | false =>
    rw [(g3 rfl).2]
    simp only [Option.bind_some]
    rcases hk with ⟨h1, h2, h3, h4⟩ | ⟨h1, h2, h3, h4⟩
    · subst h1; subst h2
      have hl : (q1.take w1).length = w1 := by rw [List.length_take]; omega
      refine ⟨fun _ h => ?_, fun h => ?_⟩
      · rw [if_neg]
        rintro (h5 | h5)
        · rw [h5] at hl; exact h (List.eq_nil_of_length_eq_zero (by rw [h5]; rfl))
        · omega
      · rw [if_pos]
        rcases h with h | h
        · rw [h4] at h; cases h
        · rw [h] at hl; exact .inl hl.symm
    · refine ⟨fun h => (by rw [h3] at h; cases h), fun _ => ?_⟩
      rw [if_pos (.inr h4)]
end Go.Proofs

/- Walks: the law DeltasPrint. -/
namespace Go.Proofs
open Go Go.Abs
set_option linter.unusedSimpArgs false
set_option linter.unusedVariables false
set_option maxRecDepth 20000
theorem piecesR_len : ∀ (n : Nat) (l : Bytes) (ps : List PieceV) (r : Bytes), piecesR n l = some (ps, r) → ps.length = n
  | 0, l, ps, r, h => by cases h; rfl
  | n + 1, l, ps, r, h => by
    rw [piecesR] at h
    cases hp : pieceR l with
    | none => rw [hp] at h; cases h
    | some x =>
      rw [hp] at h
      simp only [Option.bind_some] at h
      cases hq : piecesR n x.2 with
      | none => rw [hq] at h; cases h
      | some y =>
        rw [hq] at h
        cases h
        simp [piecesR_len n x.2 y.1 y.2 hq]
theorem bodyR_len {s : Bytes} {d : DeltaV} {r : Bytes} (h : bodyR s = some (d, r)) : d.ps.length < 34359738368 := by
  unfold bodyR at h
  split at h
  · simp only [Option.bind_eq_some_iff, Option.map_eq_some_iff] at h
    obtain ⟨x1, h1, x2, h2, x3, h3, x4, h4, x5, h5, x6, h6, h7⟩ := h
    cases h7
    rw [piecesR_len _ _ _ _ h6]
    exact (num_lt h5).1
  · cases h
theorem parseV_len (s : Bytes) : (parseV s).1.ps.length ≤ 1099511627776 := by
  unfold parseV
  split
  · exact Nat.zero_le _
  · split
    · exact Nat.zero_le _
    · rename_i d r hb
      have := bodyR_len hb
      split
      · split
        · exact Nat.zero_le _
        · split
          · exact Nat.zero_le _
          · simp only; omega
      · exact Nat.zero_le _
def sParse : List AV → Option AV := fn1 .str fun s => if s.length ≤ 1099511627776 then some (parseT s) else none
theorem sParse_eq (s : Bytes) (h : s.length ≤ 1099511627776) : sParse [.str s] = some (.tup [.agg (encDl (parseV s).1 .unk), .int .i64 (parseV s).2]) := by
  unfold sParse
  rw [fn1_eq, Rd.str_eq]
  simp only [Option.bind_some, if_pos h]
  rfl
theorem sParse_ok {P : Program} {f : FuncId} (h : ∀ s H, s.length ≤ 1099511627776 → ACalls P f [.str s] H fun x H' => x = parseT s ∧ H' = H) : ∀ xs v, sParse xs = some v → ∀ H, ACalls P f xs H fun x H' => x = v ∧ H' = H := by
  intro xs v hv H
  obtain ⟨x, s, rfl, h1, h2⟩ := fn1_some hv
  cases Rd.str_some h1
  obtain ⟨h3, rfl⟩ := some_if h2
  exact h s H h3
def puG : Pures := putP 13 sParse (putP 6 sMake puF)
theorem puG_ok : PuOK Tryd.prog puG := .put (.put (puF_ok) (sMake_ok fun a b H h1 h2 => rMake_calls a b H h1 h2)) (sParse_ok fun s H h => parse_calls s H h)
def Mid5 (a b raw : Bytes) (t : Tail) (H : Heap) (i7 : Nat) (r : Regs) (G : Heap) : Prop := ∃ d, agrees r [(0, .str a), (1, .str b), (2, .str raw), (7, .ptr i7 0)] ∧ G i7 = some (.cells (encDl d t)) ∧ H.Sub G
end Go.Proofs

/- Walks: bending a text; a clone of pieces; a slice that is handed over and not written any more. -/
namespace Go.Proofs
open Go Go.Abs Go.RowKit
set_option linter.unusedSimpArgs false
set_option linter.unusedVariables false
set_option maxRecDepth 20000
/-- Where a text is bent. -/
def bendI (n : Nat) (a : Int) : Nat := ((a.tmod n + n).tmod n).toNat
theorem bendI_lt {n : Nat} {a : Int} (h : 0 < n) : bendI n a < n ∧ (a.tmod n + n).tmod n = (bendI n a : Int) := by
  have h1 : -(n : Int) < a.tmod n := by
    have := Int.lt_tmod_of_pos a (show (0 : Int) < n by omega)
    omega
  have h2 : 0 ≤ a.tmod n + n := by omega
  have h3 := Int.tmod_lt_of_pos (a.tmod n + n) (show (0 : Int) < n by omega)
  have h4 := Int.tmod_nonneg (n : Int) h2
  unfold bendI
  omega
def bendC (c : UInt8) (b : Int) : UInt8 := UInt8.ofNat (xorI .u8 c.toNat b).toNat
def bendB (s : Bytes) (a b : Int) : Bytes := match s[bendI s.length a]? with
  | some c => s.set (bendI s.length a) (bendC c b)
  | none => s
theorem xor8 (c : UInt8) {b : Int} (hb : 0 ≤ b ∧ b < 256) : xorI .u8 c.toNat b = ((bendC c b).toNat : Int) ∧ (b ≠ 0 → c ≠ bendC c b) := by
  obtain ⟨m, rfl⟩ : ∃ m : Nat, b = m := ⟨b.toNat, by omega⟩
  have hc := c.toNat_lt
  have hlt : c.toNat ^^^ m < 256 := Nat.xor_lt_two_pow (n := 8) hc (by omega)
  have e : xorI .u8 (c.toNat : Int) (m : Int) = ((c.toNat ^^^ m : Nat) : Int) := by
    unfold xorI
    rw [show IntKind.u8.bits = 8 from rfl, BitVec.toNat_xor, BitVec.toNat_ofInt, BitVec.toNat_ofInt]
    rw [show ((c.toNat : Int) % ((2 ^ 8 : Nat) : Int)).toNat = c.toNat by omega, show ((m : Int) % ((2 ^ 8 : Nat) : Int)).toNat = m by omega]
    unfold IntKind.wrap
    simp [IntKind.signed, IntKind.bits]
    omega
  have e2 : (bendC c m).toNat = c.toNat ^^^ m := by
    unfold bendC
    rw [e, Int.toNat_natCast]
    simp only [UInt8.toNat_ofNat']
    omega
  refine ⟨by rw [e, e2], fun h0 h => ?_⟩
  have h2 := congrArg UInt8.toNat h
  rw [e2] at h2
  have h3 : c.toNat ^^^ c.toNat = c.toNat ^^^ (c.toNat ^^^ m) := congrArg (c.toNat ^^^ ·) h2
  rw [← Nat.xor_assoc, Nat.xor_self, Nat.zero_xor] at h3
  omega
theorem bend_calls (s : Bytes) (a b : Int) (i6 i7 : Nat) (H : Heap) (hs : s ≠ []) (hl : s.length ≤ 1099511627776) (hb : 0 ≤ b ∧ b < 256) (h6 : H i6 = some (.cells [.int .i64 a])) (h7 : H i7 = some (.cells [.int .u8 b])) :
    ACalls Tryd.prog 7 [.str s, .ptr i6 0, .ptr i7 0] H fun x H' => x = .str (bendB s a b) ∧ H' = H := by
  have hp : 0 < s.length := List.length_pos_iff.2 hs
  obtain ⟨k1, k2⟩ := bendI_lt (n := s.length) (a := a) hp
  have r1 : -(s.length : Int) < a.tmod s.length := Int.lt_tmod_of_pos a (by omega)
  have r2 : a.tmod s.length < s.length := Int.tmod_lt_of_pos a (by omega)
  have w1 : IntKind.i64.wrap (a.tmod s.length + s.length) = a.tmod s.length + s.length := Go.IntWalk.i64_in _ (by omega)
  have z1 : ¬ (s.length : Int) = 0 := by omega
  obtain ⟨c, hc⟩ : ∃ c, s[bendI s.length a]? = some c := getD_get' k1
  have hx := (xor8 c hb).1
  have hB : bendB s a b = s.set (bendI s.length a) (bendC c b) := by unfold bendB; rw [hc]
  rw [hB]
  generalize bendI s.length a = i at *
  refine ACalls.of_code (X := { pure := pu0 }) pu0_ok Tryd.func7 (by kernel_rfl) rfl (by kernel_rfl) (Nat.le_of_ble_eq_true rfl) ?_
  simp -implicitDefEqProofs only [go_sem, tys, regs0, Nat.reduceEqDiff, Nat.reduceAdd, Nat.reduceLeDiff, Nat.reduceLT, Nat.reduceMul, Int.natCast_one, Int.natCast_zero, Int.reduceEq, Int.reduceLT, Int.reduceLE, Int.reduceAdd, Int.reduceSub, Int.reduceToNat, UInt8.reduceToNat, Tryd.f7]
  refine conv_bytes (by simp -implicitDefEqProofs only [go_sem, tys, regs0, Nat.reduceEqDiff, Nat.reduceAdd, Nat.reduceLeDiff, Nat.reduceLT, Nat.reduceMul, Int.natCast_one, Int.natCast_zero, Int.reduceEq, Int.reduceLT, Int.reduceLE, Int.reduceAdd, Int.reduceSub, Int.reduceToNat, UInt8.reduceToNat]) (by simp -implicitDefEqProofs only [go_sem, tys, regs0, Nat.reduceEqDiff, Nat.reduceAdd, Nat.reduceLeDiff, Nat.reduceLT, Nat.reduceMul, Int.natCast_one, Int.natCast_zero, Int.reduceEq, Int.reduceLT, Int.reduceLE, Int.reduceAdd, Int.reduceSub, Int.reduceToNat, UInt8.reduceToNat]) (fun id hid => ?_)
  have n6 : ¬ i6 = id := fun e => by rw [← e, h6] at hid; cases hid
  have n7 : ¬ i7 = id := fun e => by rw [← e, h7] at hid; cases hid
  have hhd : (List.drop i (s.map fun b => AV.int .u8 (b.toNat : Int))).head? = some (.int .u8 c.toNat) := by rw [List.head?_drop, List.getElem?_map, hc]; rfl
  simp -implicitDefEqProofs only [go_sem, tys, regs0, Nat.reduceEqDiff, Nat.reduceAdd, Nat.reduceLeDiff, Nat.reduceLT, Nat.reduceMul, Int.natCast_one, Int.natCast_zero, Int.reduceEq, Int.reduceLT, Int.reduceLE, Int.reduceAdd, Int.reduceSub, Int.reduceToNat, UInt8.reduceToNat, put_ne, n6, n7, h6, h7, z1, w1, k2, Int.toNat_natCast, Nat.mul_one, hhd, hx]
  refine ⟨by omega, by simpa using k1, ?_⟩
  have hset : (s.map fun b => AV.int .u8 (b.toNat : Int)).set i (.int .u8 (bendC c b).toNat) = (s.set i (bendC c b)).map fun b => AV.int .u8 (b.toNat : Int) := by rw [List.map_set]
  simp -implicitDefEqProofs only [go_sem, tys, regs0, Nat.reduceEqDiff, Nat.reduceAdd, Nat.reduceLeDiff, Nat.reduceLT, Nat.reduceMul, Int.natCast_one, Int.natCast_zero, Int.reduceEq, Int.reduceLT, Int.reduceLE, Int.reduceAdd, Int.reduceSub, Int.reduceToNat, UInt8.reduceToNat, Nat.zero_add, Nat.mul_one, hset, put_put']
  refine ⟨by omega, ?_⟩
  with_reducible refine conv_ms (l := s.set i (bendC c b)) ?_ ?_ (put_same _ _ _) ?_ ?_ ?_
  · simp -implicitDefEqProofs only [go_sem, tys, regs0, Nat.reduceEqDiff, Nat.reduceAdd, Nat.reduceLeDiff, Nat.reduceLT, Nat.reduceMul, Int.natCast_one, Int.natCast_zero, Int.reduceEq, Int.reduceLT, Int.reduceLE, Int.reduceAdd, Int.reduceSub, Int.reduceToNat, UInt8.reduceToNat]
  · simp -implicitDefEqProofs only [go_sem, tys, regs0, Nat.reduceEqDiff, Nat.reduceAdd, Nat.reduceLeDiff, Nat.reduceLT, Nat.reduceMul, Int.natCast_one, Int.natCast_zero, Int.reduceEq, Int.reduceLT, Int.reduceLE, Int.reduceAdd, Int.reduceSub, Int.reduceToNat, UInt8.reduceToNat]
  · simp
  · rw [List.drop_zero, List.take_of_length_le (by simp)]
  simp -implicitDefEqProofs only [go_sem, tys, regs0, Nat.reduceEqDiff, Nat.reduceAdd, Nat.reduceLeDiff, Nat.reduceLT, Nat.reduceMul, Int.natCast_one, Int.natCast_zero, Int.reduceEq, Int.reduceLT, Int.reduceLE, Int.reduceAdd, Int.reduceSub, Int.reduceToNat, UInt8.reduceToNat]
  exact Done.drop1 hid ⟨rfl, rfl⟩
/-- A clone of pieces can be written. -/
theorem clone_calls (l : List PieceV) (t : Tail) (H : Heap) (hne : l ≠ []) (hl : l.length ≤ 1099511627776) :
    ACalls Tryd.prog 11 [.sl (l.map encPc) t] H fun x H' => ∃ id, H id = none ∧ x = .ms id 0 l.length 3 ∧ H' = H.put id (.cells (l.map encPc).flatten) := by
  have hf : (l.map encPc).flatten ≠ [] := by
    cases l with
    | nil => exact absurd rfl hne
    | cons p l => simp [encPc]
  refine ACalls.of_code (X := { pure := pu0, ms := fun t => decide (t = 7) }) pu0_ok Tryd.func11 (by kernel_rfl) rfl (by kernel_rfl) (Nat.le_of_ble_eq_true rfl) ?_
  simp -implicitDefEqProofs only [go_sem, tys, regs0, Nat.reduceEqDiff, Nat.reduceAdd, Nat.reduceLeDiff, Nat.reduceLT, Nat.reduceMul, Int.natCast_one, Int.natCast_zero, Int.reduceEq, Int.reduceLT, Int.reduceLE, Int.reduceAdd, Int.reduceSub, Int.reduceToNat, UInt8.reduceToNat, Tryd.f11]
  refine ⟨fun h => absurd h hf, ?_⟩
  simp -implicitDefEqProofs only [go_sem, tys, regs0, Nat.reduceEqDiff, Nat.reduceAdd, Nat.reduceLeDiff, Nat.reduceLT, Nat.reduceMul, Int.natCast_one, Int.natCast_zero, Int.reduceEq, Int.reduceLT, Int.reduceLE, Int.reduceAdd, Int.reduceSub, Int.reduceToNat, UInt8.reduceToNat]
  refine ⟨fun a _ => rfl, app_ms0 (by simpa using hne) (by simp; omega) (by simp; omega) (fun id hid => ?_)⟩
  simp -implicitDefEqProofs only [go_sem, tys, regs0, Nat.reduceEqDiff, Nat.reduceAdd, Nat.reduceLeDiff, Nat.reduceLT, Nat.reduceMul, Int.natCast_one, Int.natCast_zero, Int.reduceEq, Int.reduceLT, Int.reduceLE, Int.reduceAdd, Int.reduceSub, Int.reduceToNat, UInt8.reduceToNat, List.length_map]
  exact Done.now ⟨id, hid, rfl, rfl⟩
/-- A slice that was written, seen as one that is not written any more. -/
theorem frozen_repr {P : Program} {C : Cx} {H : Heap} {w : World} {id len k : Nat} {cs : List AV} {v : Value} (hrel : Rel P C H w) (hid : H id = some (.cells cs)) (hle : len * k ≤ cs.length) (hx : Repr C H w (.ms id 0 len k) v) :
    Repr C (H.del id) w (.sl ((List.range len).map fun i => (cs.drop (i * k)).take k) .unk) v := by
  have hsub : (H.del id).Sub H := fun i o ho => by
    unfold Heap.del at ho
    split at ho
    · cases ho
    · exact ho
  obtain ⟨f1, f2⟩ := Le.forget hrel hsub
  cases hx with
  | ms _ _ _ _ a cap h ha hl hs =>
    obtain ⟨hlt, hbase, arr, ty, fr, a1, a2, a3, a4⟩ := hrel.live id _ hid
    have hfl : ((List.range len).map fun i => (cs.drop (i * k)).take k).flatten = cs.take (len * k) := Go.Abs.chunks_flatten _ _ _ hle
    have hfn : ((List.range len).map fun i => (cs.drop (i * k)).take k).flatten.length = len * k := by rw [hfl]; simp; omega
    have hown : ∀ j, ¬ Owned C (H.del id) (C.β id) j := by
      rintro j ⟨i, o, hi, hb, -⟩
      have hi' := hsub i o hi
      have := hrel.inj i id o _ hi' hid hb
      subst this
      simp [Heap.del] at hi
    have e : ((List.range len).map fun i => (cs.drop (i * k)).take k).length = len := by simp
    have key := Repr.sl (C := C) (H := H.del id) (w := w) ((List.range len).map fun i => (cs.drop (i * k)).take k) .unk a cap (C.β id) 0 (fun j => arr.getD j default)
      (fun hp => ha (by rw [hfn] at hp; rcases Nat.eq_zero_or_pos len with h0 | h0
                        · subst h0; simp at hp
                        · omega))
      (fun j hj => by
        rw [hfn] at hj
        exact ⟨by rw [Nat.zero_add]; exact cell_of_cells a1 (by omega), (a3 _ (by omega)).1, (Array.getElem?_eq_some_iff.1 a1).1, hown _⟩)
      (fun j hj => by
        rw [hfn] at hj
        rw [hfl, getD_take _ _ _ _ hj]
        exact (a3 _ (by omega)).2.mono f1)
      (by rw [e]; exact hl) trivial
    rw [e] at key
    exact key
/-- A call that is handed a slice that was written, for the last time. -/
theorem ACalls.frozen {P : Program} {f : FuncId} {H : Heap} {R : K1} {id len k : Nat} {cs : List AV} {a : Bytes} {pre : List AV} (hid : H id = some (.cells cs)) (hle : len * k ≤ cs.length)
    (h : ACalls P f [.str a, .agg (pre ++ [.sl ((List.range len).map fun i => (cs.drop (i * k)).take k) .unk])] (H.del id) R) : ACalls P f [.str a, .agg (pre ++ [.ms id 0 len k])] H R := by
  refine ⟨fun C w vs hrel hv => ?_⟩
  have hsub : (H.del id).Sub H := fun i o ho => by
    unfold Heap.del at ho
    split at ho
    · cases ho
    · exact ho
  obtain ⟨f1, f2⟩ := Le.forget hrel hsub
  obtain ⟨v, u, rfl, h1, h2⟩ := reprL_two hv
  have key : Repr C (H.del id) w (.agg (pre ++ [.sl ((List.range len).map fun i => (cs.drop (i * k)).take k) .unk])) u := by
    cases h2 with
    | agg _ us hs ho hr =>
      refine .agg _ us (by simpa using hs) (fun j hj => ho j (by simpa using hj)) (fun j hj => ?_)
      have hr' := hr j (by simpa using hj)
      by_cases e : j < pre.length
      · have e1 : ∀ x : AV, (pre ++ [x]).getD j .junk = pre.getD j .junk := fun x => by simp [List.getD, List.getElem?_append_left e]
        rw [e1] at hr' ⊢
        exact hr'.mono f1
      · have e0 : j = pre.length := by simp at hj; omega
        have e1 : ∀ x : AV, (pre ++ [x]).getD j .junk = x := fun x => by rw [e0]; simp [List.getD]
        rw [e1] at hr' ⊢
        exact frozen_repr hrel hid hle hr'
  refine (h.call C w [v, u] f2 ⟨rfl, fun j hj => ?_⟩).mono fun e w' hp => ?_
  · match j, hj with
    | 0, _ => exact h1.mono f1
    | 1, _ => exact key
  · obtain ⟨C', H', x, v', g1, g2, g3, g4, g5⟩ := hp
    exact ⟨C', H', x, v', g1, g2, f1.trans g3, g4, g5⟩
end Go.Proofs

/- Walks: the law ChangesAreTold. -/
namespace Go.Proofs
open Go Go.Abs
set_option linter.unusedSimpArgs false
set_option linter.unusedVariables false
set_option maxRecDepth 20000
theorem obj_new {H0 H G : Heap} {id : Nat} {o : AObj} (e : H.put id o = G) (hid : H id = none) (hS : H0.Sub H) : H0 id = none ∧ H0.Sub G ∧ G id = some o ∧ H.Sub G := by
  subst e
  exact ⟨sub_none hS hid, hS.put' (sub_none hS hid) o, put_same _ _ _, (Heap.Sub.rfl' H).put' hid o⟩
theorem obj_ne {G : Heap} {i j : Nat} {o : AObj} (hi : G i = some o) (hj : G j = none) : ¬ i = j := fun e => by rw [e, hj] at hi; cases hi
theorem obj_sub {H0 H G : Heap} {id : Nat} {o : AObj} (e : H.put id o = G) (hid : H0 id = none) (hS : H0.Sub H) : H0.Sub G := by
  subst e
  exact hS.put' hid o
theorem obj_at {H G : Heap} {id : Nat} {o : AObj} (e : H.put id o = G) : G id = some o := by
  subst e
  exact put_same _ _ _
theorem obj_keep {H G : Heap} {id i : Nat} {o x : AObj} (e : H.put id o = G) (hne : ¬ i = id) (h : H i = some x) : G i = some x := by
  subst e
  rw [put_ne _ _ _ _ hne]; exact h
theorem flat_dget : ∀ (l : List PieceV) (k : Nat) (p : PieceV), l[k]? = some p → ((l.map encPc).flatten.drop (k * 3 + 2)).head? = some (.str p.data)
  | q :: l, 0, p, h => by
    cases h
    rfl
  | q :: l, k + 1, p, h => by
    rw [show (k + 1) * 3 + 2 = (k * 3 + 2) + 3 by omega]
    simp only [List.map_cons, List.flatten_cons, encPc, List.cons_append, List.nil_append, List.drop_succ_cons]
    exact flat_dget l k p (by simpa using h)
  | [], k, p, h => by simp at h
theorem flat_dset : ∀ (l : List PieceV) (k : Nat) (p : PieceV) (y : Bytes), l[k]? = some p → (l.map encPc).flatten.set (k * 3 + 2) (.str y) = ((l.set k { p with data := y }).map encPc).flatten
  | q :: l, 0, p, y, h => by
    cases h
    rfl
  | q :: l, k + 1, p, y, h => by
    rw [show (k + 1) * 3 + 2 = (k * 3 + 2) + 3 by omega]
    simp only [List.map_cons, List.flatten_cons, encPc, List.cons_append, List.nil_append, List.set_cons_succ]
    rw [flat_dset l k p y (by simpa using h)]
  | [], k, p, y, h => by simp at h
def puW : Pures := putP 13 sParse (putP 4 sLandD (putP 12 (sDl vPrint) (putP 14 sSame (putP 5 sMake (putP 6 sMake pu0)))))
theorem puW_ok : PuOK Tryd.prog puW := .put (.put (.put (.put (.put (.put (pu0_ok) (sMake_ok fun a b H h1 h2 => rMake_calls a b H h1 h2)) (sMake_ok fun a b H h1 h2 => make_calls a b H h1 h2)) sSame_ok) (sDl_ok print_val)) sLandD_ok) (sParse_ok fun s H h => parse_calls s H h)
def ot11w : OT := .seg [0, 1] (.or (.seg [2, 3, 4, 5, 6, 7, 8, 9] .done) (.seg [3, 2, 4, 5, 6, 7, 8, 9] .done))
def ot21w : OT := .seg [0, 2, 3, 4, 5, 6, 7, 8, 9] (.or (.seg [1, 10, 11, 12, 13] .done) (.seg [10, 1, 11, 12, 13] .done))
def ot28w : OT := .seg [0, 1] (.or (.seg [2, 3, 4, 5, 6, 7, 8, 9] .done) (.seg [7, 2, 3, 4, 5, 6, 8, 9] .done))
def otW : Nat → Option OT := fun n => if n = 11 then some ot11w else if n = 21 then some ot21w else if n = 28 then some ot28w else none
theorem bend_old {a b : Bytes} {d : DeltaV} {at_ by_ : Int} (h : applyV a d = (b, 0)) (ha : a ≠ []) (hb : 0 ≤ by_ ∧ by_ < 256) (hn : by_ ≠ 0) : applyV (bendB a at_ by_) d = ([], 14) := by
  obtain ⟨k1, k2⟩ := bendI_lt (n := a.length) (a := at_) (List.length_pos_iff.2 ha)
  obtain ⟨c, hc⟩ : ∃ c, a[bendI a.length at_]? = some c := getD_get' k1
  have hB : bendB a at_ by_ = a.set (bendI a.length at_) (bendC c by_) := by unfold bendB; rw [hc]
  rw [hB]
  exact bent_old h (.inr (sumOf_set hc ((xor8 c hb).2 hn)))
theorem bendB_len (s : Bytes) (a b : Int) : (bendB s a b).length = s.length := by
  unfold bendB
  split <;> simp
set_option maxHeartbeats 6400000 in
theorem changes_calls (a b : Bytes) (at_ by_ : Int) (H : Heap) (ha : a.length ≤ 1048576) (hb : b.length ≤ 1048576) (hby : 0 ≤ by_ ∧ by_ < 256) :
    ACalls Tryd.prog 3 [.str a, .str b, .int .i64 at_, .int .u8 by_] H fun x H' => x = .bool true ∧ H' = H := by
  have q1 := sMake_eq a b (by omega) (by omega)
  have hok := makeV_ok (a := a) (b := b)
  have hap := make_made (a := a) (b := b)
  have hr1 := makeV_dlR a b
  have hl1 := makeV_len a b
  generalize makeV a b = mv at *
  obtain ⟨md, mf⟩ := mv
  simp only at q1 hok hap hr1 hl1
  have hu : encDl md .unk = [.int .i64 md.old, .int .i64 md.new, .str md.osum, .str md.nsum, .sl (md.ps.map encPc) .unk] := rfl
  rw [hu] at q1
  have hS := Heap.Sub.rfl' H
  refine ACalls.of_code (X := { pure := puW, tree := otW }) puW_ok Tryd.func3 (by kernel_rfl) rfl (by kernel_rfl) (Nat.le_of_ble_eq_true rfl) ?_
  simp -implicitDefEqProofs only [go_sem, tys, regs0, Nat.reduceEqDiff, Nat.reduceAdd, Nat.reduceLeDiff, Nat.reduceLT, Nat.reduceMul, Int.natCast_one, Int.natCast_zero, Int.reduceEq, Int.reduceLT, Int.reduceLE, Int.reduceAdd, Int.reduceSub, Int.reduceToNat, UInt8.reduceToNat, Tryd.f3]
  with_reducible refine nwC_intro fun i6 hi6 => ?_
  generalize hG_6 : Heap.put H i6 _ = G6
  have hO_6 := obj_new hG_6 hi6 hS
  have n6 := hO_6.1
  have hS := hO_6.2.1
  have g6 := hO_6.2.2.1
  clear hO_6 hG_6
  simp -implicitDefEqProofs only [go_sem, tys, regs0, Nat.reduceEqDiff, Nat.reduceAdd, Nat.reduceLeDiff, Nat.reduceLT, Nat.reduceMul, Int.natCast_one, Int.natCast_zero, Int.reduceEq, Int.reduceLT, Int.reduceLE, Int.reduceAdd, Int.reduceSub, Int.reduceToNat, UInt8.reduceToNat]
  with_reducible refine nwC_intro fun i7 hi7 => ?_
  generalize hG_7 : Heap.put G6 i7 _ = G7
  have hO_7 := obj_new hG_7 hi7 hS
  have n7 := hO_7.1
  have hS := hO_7.2.1
  have g7 := hO_7.2.2.1
  have d6_7 := obj_ne g6 hi7
  have g6 := hO_7.2.2.2 _ _ g6
  clear hO_7 hG_7
  simp -implicitDefEqProofs only [go_sem, tys, regs0, Nat.reduceEqDiff, Nat.reduceAdd, Nat.reduceLeDiff, Nat.reduceLT, Nat.reduceMul, Int.natCast_one, Int.natCast_zero, Int.reduceEq, Int.reduceLT, Int.reduceLE, Int.reduceAdd, Int.reduceSub, Int.reduceToNat, UInt8.reduceToNat, puW, pu0, sLandD, q1]
  with_reducible refine nwC_intro fun i9 hi9 => ?_
  simp -implicitDefEqProofs only [go_sem, tys, regs0, Nat.reduceEqDiff, Nat.reduceAdd, Nat.reduceLeDiff, Nat.reduceLT, Nat.reduceMul, Int.natCast_one, Int.natCast_zero, Int.reduceEq, Int.reduceLT, Int.reduceLE, Int.reduceAdd, Int.reduceSub, Int.reduceToNat, UInt8.reduceToNat, puW, pu0, sLandD, q1]
  generalize hG_9 : Heap.put G7 i9 _ = G9
  have hO_9 := obj_new hG_9 hi9 hS
  have n9 := hO_9.1
  have hS := hO_9.2.1
  have g9 := hO_9.2.2.1
  have d6_9 := obj_ne g6 hi9
  have g6 := hO_9.2.2.2 _ _ g6
  have d7_9 := obj_ne g7 hi9
  have g7 := hO_9.2.2.2 _ _ g7
  clear hO_9 hG_9
  with_reducible refine nwC_intro fun i11 hi11 => ?_
  simp -implicitDefEqProofs only [go_sem, tys, regs0, Nat.reduceEqDiff, Nat.reduceAdd, Nat.reduceLeDiff, Nat.reduceLT, Nat.reduceMul, Int.natCast_one, Int.natCast_zero, Int.reduceEq, Int.reduceLT, Int.reduceLE, Int.reduceAdd, Int.reduceSub, Int.reduceToNat, UInt8.reduceToNat, puW, pu0, sLandD, q1]
  generalize hG_11 : Heap.put G9 i11 _ = G11
  have hO_11 := obj_new hG_11 hi11 hS
  have n11 := hO_11.1
  have hS := hO_11.2.1
  have g11 := hO_11.2.2.1
  have d6_11 := obj_ne g6 hi11
  have g6 := hO_11.2.2.2 _ _ g6
  have d7_11 := obj_ne g7 hi11
  have g7 := hO_11.2.2.2 _ _ g7
  have d9_11 := obj_ne g9 hi11
  have g9 := hO_11.2.2.2 _ _ g9
  clear hO_11 hG_11
  by_cases gm : ¬ mf = 0
  · have y1 : decide (¬ mf = 0) = true := decide_eq_true gm
    simp -implicitDefEqProofs only [go_sem, tys, regs0, Nat.reduceEqDiff, Nat.reduceAdd, Nat.reduceLeDiff, Nat.reduceLT, Nat.reduceMul, Int.natCast_one, Int.natCast_zero, Int.reduceEq, Int.reduceLT, Int.reduceLE, Int.reduceAdd, Int.reduceSub, Int.reduceToNat, UInt8.reduceToNat, y1]
    exact Done.drop hS ⟨rfl, rfl⟩
  have gm : mf = 0 := Decidable.not_not.1 gm
  subst gm
  have hap := hap rfl
  obtain ⟨_, hE⟩ := hok rfl
  by_cases gb : by_ = 0
  · have y1 : decide (by_ = 0) = true := decide_eq_true gb
    simp -implicitDefEqProofs only [go_sem, tys, regs0, Nat.reduceEqDiff, Nat.reduceAdd, Nat.reduceLeDiff, Nat.reduceLT, Nat.reduceMul, Int.natCast_one, Int.natCast_zero, Int.reduceEq, Int.reduceLT, Int.reduceLE, Int.reduceAdd, Int.reduceSub, Int.reduceToNat, UInt8.reduceToNat, y1, g7]
    exact Done.drop hS ⟨rfl, rfl⟩
  have y1 : decide (by_ = 0) = false := decide_eq_false gb
  simp -implicitDefEqProofs only [go_sem, tys, regs0, Nat.reduceEqDiff, Nat.reduceAdd, Nat.reduceLeDiff, Nat.reduceLT, Nat.reduceMul, Int.natCast_one, Int.natCast_zero, Int.reduceEq, Int.reduceLT, Int.reduceLE, Int.reduceAdd, Int.reduceSub, Int.reduceToNat, UInt8.reduceToNat, y1, g7]
  have p2 : ∀ (s : Bytes) (G : Heap), s.length ≤ 1099511627776 → applyV s md = ([], 14) → ACalls Tryd.prog 8 [.str s, .agg [.int .i64 md.old, .int .i64 md.new, .str md.osum, .str md.nsum, .sl (md.ps.map encPc) .unk]] G fun x H' => x = .tup [.str [], .int .i64 14] ∧ H' = G := fun s G h1 h2 => by
    refine apply_calls s md .unk _ G ?_
    rw [vApply, if_pos ⟨hr1, h1⟩, h2]
  with_reducible refine cnd_mid (fun r G => G = G11 ∧ agrees r [(0, .str a), (6, .ptr i6 0), (7, .ptr i7 0), (9, .ptr i9 0), (13, .func 7 [.ptr i6 0, .ptr i7 0])]) ?_ ?_
  rotate_left
  · refine cnd_intro (fun g => ?_) (fun g => ?_)
    · simp only [decide_eq_true_eq] at g
      have hc := bend_calls a at_ by_ i6 i7 G11 g (by omega) hby g6 g7
      have p3 := p2 (bendB a at_ by_) G11 (by rw [bendB_len]; omega) (bend_old hap g hby gb)
      rw [acode_seq, acode_tree (t := ot11w) rfl (by rfl)]
      simp -implicitDefEqProofs only [go_sem, tys, regs0, Nat.reduceEqDiff, Nat.reduceAdd, Nat.reduceLeDiff, Nat.reduceLT, Nat.reduceMul, Int.natCast_one, Int.natCast_zero, Int.reduceEq, Int.reduceLT, Int.reduceLE, Int.reduceAdd, Int.reduceSub, Int.reduceToNat, UInt8.reduceToNat, ot11w, stripO, tOT_seg, g9]
      refine ⟨?_, ?_⟩
      · refine hc.pure_next _ ?_
        simp -implicitDefEqProofs only [go_sem, tys, regs0, Nat.reduceEqDiff, Nat.reduceAdd, Nat.reduceLeDiff, Nat.reduceLT, Nat.reduceMul, Int.natCast_one, Int.natCast_zero, Int.reduceEq, Int.reduceLT, Int.reduceLE, Int.reduceAdd, Int.reduceSub, Int.reduceToNat, UInt8.reduceToNat, g9]
        refine p3.pure_next _ ?_
        simp -implicitDefEqProofs only [go_sem, tys, regs0, Nat.reduceEqDiff, Nat.reduceAdd, Nat.reduceLeDiff, Nat.reduceLT, Nat.reduceMul, Int.natCast_one, Int.natCast_zero, Int.reduceEq, Int.reduceLT, Int.reduceLE, Int.reduceAdd, Int.reduceSub, Int.reduceToNat, UInt8.reduceToNat]
      · refine hc.pure_next _ ?_
        simp -implicitDefEqProofs only [go_sem, tys, regs0, Nat.reduceEqDiff, Nat.reduceAdd, Nat.reduceLeDiff, Nat.reduceLT, Nat.reduceMul, Int.natCast_one, Int.natCast_zero, Int.reduceEq, Int.reduceLT, Int.reduceLE, Int.reduceAdd, Int.reduceSub, Int.reduceToNat, UInt8.reduceToNat, g9]
        refine p3.pure_next _ ?_
        simp -implicitDefEqProofs only [go_sem, tys, regs0, Nat.reduceEqDiff, Nat.reduceAdd, Nat.reduceLeDiff, Nat.reduceLT, Nat.reduceMul, Int.natCast_one, Int.natCast_zero, Int.reduceEq, Int.reduceLT, Int.reduceLE, Int.reduceAdd, Int.reduceSub, Int.reduceToNat, UInt8.reduceToNat]
    · simp -implicitDefEqProofs only [go_sem, tys, regs0, Nat.reduceEqDiff, Nat.reduceAdd, Nat.reduceLeDiff, Nat.reduceLT, Nat.reduceMul, Int.natCast_one, Int.natCast_zero, Int.reduceEq, Int.reduceLT, Int.reduceLE, Int.reduceAdd, Int.reduceSub, Int.reduceToNat, UInt8.reduceToNat]
  rintro r G ⟨rfl, hv⟩
  have h0 := hv.1
  have h6 := hv.2.1
  have h7 := hv.2.2.1
  have h9 := hv.2.2.2.1
  have h13 := hv.2.2.2.2.1
  clear hv
  have p4 := p2 (a ++ [120]) G (by simp; omega) (bent_old hap (.inl (by simp)))
  simp -implicitDefEqProofs only [go_sem, tys, regs0, Nat.reduceEqDiff, Nat.reduceAdd, Nat.reduceLeDiff, Nat.reduceLT, Nat.reduceMul, Int.natCast_one, Int.natCast_zero, Int.reduceEq, Int.reduceLT, Int.reduceLE, Int.reduceAdd, Int.reduceSub, Int.reduceToNat, UInt8.reduceToNat, h0, h6, h7, h9, h13, g9]
  refine ⟨by simp; omega, ?_⟩
  refine p4.pure_next _ ?_
  simp -implicitDefEqProofs only [go_sem, tys, regs0, Nat.reduceEqDiff, Nat.reduceAdd, Nat.reduceLeDiff, Nat.reduceLT, Nat.reduceMul, Int.natCast_one, Int.natCast_zero, Int.reduceEq, Int.reduceLT, Int.reduceLE, Int.reduceAdd, Int.reduceSub, Int.reduceToNat, UInt8.reduceToNat, h0, h6, h7, h9, h13, g9]
  refine (indexFunc_calls md.ps .unk G (by omega)).mono ?_
  rintro x G' ⟨rfl, hx⟩
  obtain ⟨z, rfl, hz⟩ : ∃ z, x = .int .i64 z ∧ (0 ≤ z → ∃ (k : Nat) (p : PieceV), z = k ∧ md.ps[k]? = some p ∧ ¬ p.data = []) := by
    rcases hx with ⟨k, p, e, h1, h2⟩ | e
    · exact ⟨k, e, fun _ => ⟨k, p, rfl, h1, h2⟩⟩
    · exact ⟨-1, e, fun h => by omega⟩
  clear hx
  simp -implicitDefEqProofs only [go_sem, tys, regs0, Nat.reduceEqDiff, Nat.reduceAdd, Nat.reduceLeDiff, Nat.reduceLT, Nat.reduceMul, Int.natCast_one, Int.natCast_zero, Int.reduceEq, Int.reduceLT, Int.reduceLE, Int.reduceAdd, Int.reduceSub, Int.reduceToNat, UInt8.reduceToNat, h0, h6, h7, h9, h13, g9]
  with_reducible refine cnd_mid (fun r G => (H.Sub G ∧ G i6 = some (.cells [.int .i64 at_]) ∧ G i7 = some (.cells [.int .u8 by_]) ∧ G i9 = some (.cells [.int .i64 md.old, .int .i64 md.new, .str md.osum, .str md.nsum, .sl (md.ps.map encPc) .unk])) ∧ agrees r [(6, .ptr i6 0), (7, .ptr i7 0), (9, .ptr i9 0), (13, .func 7 [.ptr i6 0, .ptr i7 0])]) ?_ ?_
  rotate_left
  · refine cnd_intro (fun g => ?_) (fun g => ?_)
    · simp only [decide_eq_true_eq] at g
      obtain ⟨k, p, rfl, hp, hd⟩ := hz g
      have hk := (List.getElem?_eq_some_iff.1 hp).1
      simp -implicitDefEqProofs only [go_sem, tys, regs0, Nat.reduceEqDiff, Nat.reduceAdd, Nat.reduceLeDiff, Nat.reduceLT, Nat.reduceMul, Int.natCast_one, Int.natCast_zero, Int.reduceEq, Int.reduceLT, Int.reduceLE, Int.reduceAdd, Int.reduceSub, Int.reduceToNat, UInt8.reduceToNat, h0, h6, h7, h9, h13, g9]
      with_reducible refine nwC_intro fun i19 hi19 => ?_
      simp -implicitDefEqProofs only [go_sem, tys, regs0, Nat.reduceEqDiff, Nat.reduceAdd, Nat.reduceLeDiff, Nat.reduceLT, Nat.reduceMul, Int.natCast_one, Int.natCast_zero, Int.reduceEq, Int.reduceLT, Int.reduceLE, Int.reduceAdd, Int.reduceSub, Int.reduceToNat, UInt8.reduceToNat, h0, h6, h7, h9, h13, g9]
      generalize hG_19 : Heap.put G' i19 _ = G19
      have hO_19 := obj_new hG_19 hi19 hS
      have n19 := hO_19.1
      have hS := hO_19.2.1
      have g19 := hO_19.2.2.1
      have d6_19 := obj_ne g6 hi19
      have g6 := hO_19.2.2.2 _ _ g6
      have d7_19 := obj_ne g7 hi19
      have g7 := hO_19.2.2.2 _ _ g7
      have d9_19 := obj_ne g9 hi19
      have g9 := hO_19.2.2.2 _ _ g9
      clear hO_19 hG_19
      simp -implicitDefEqProofs only [go_sem, tys, regs0, Nat.reduceEqDiff, Nat.reduceAdd, Nat.reduceLeDiff, Nat.reduceLT, Nat.reduceMul, Int.natCast_one, Int.natCast_zero, Int.reduceEq, Int.reduceLT, Int.reduceLE, Int.reduceAdd, Int.reduceSub, Int.reduceToNat, UInt8.reduceToNat, h0, h6, h7, h9, h13, g9, g19]
      refine (clone_calls md.ps .unk G19 (by intro e; rw [e] at hp; cases hp) (by omega)).mono ?_
      rintro x G2 ⟨i20, hi20, rfl, rfl⟩
      generalize hG_20 : Heap.put G19 i20 _ = G20
      have hO_20 := obj_new hG_20 hi20 hS
      have n20 := hO_20.1
      have hS := hO_20.2.1
      have g20 := hO_20.2.2.1
      have d6_20 := obj_ne g6 hi20
      have g6 := hO_20.2.2.2 _ _ g6
      have d7_20 := obj_ne g7 hi20
      have g7 := hO_20.2.2.2 _ _ g7
      have d9_20 := obj_ne g9 hi20
      have g9 := hO_20.2.2.2 _ _ g9
      have d19_20 := obj_ne g19 hi20
      have g19 := hO_20.2.2.2 _ _ g19
      clear hO_20 hG_20
      simp -implicitDefEqProofs only [go_sem, tys, regs0, Nat.reduceEqDiff, Nat.reduceAdd, Nat.reduceLeDiff, Nat.reduceLT, Nat.reduceMul, Int.natCast_one, Int.natCast_zero, Int.reduceEq, Int.reduceLT, Int.reduceLE, Int.reduceAdd, Int.reduceSub, Int.reduceToNat, UInt8.reduceToNat, h0, h6, h7, h9, h13, g9, g19]
      generalize hG_19 : Heap.put G20 i19 _ = G21
      have hS := obj_sub hG_19 n19 hS
      have g19 := obj_at hG_19
      have g6 := obj_keep hG_19 (by first | exact d6_19 | exact fun e => d19_6 e.symm) g6
      have g7 := obj_keep hG_19 (by first | exact d7_19 | exact fun e => d19_7 e.symm) g7
      have g9 := obj_keep hG_19 (by first | exact d9_19 | exact fun e => d19_9 e.symm) g9
      have g20 := obj_keep hG_19 (by first | exact d20_19 | exact fun e => d19_20 e.symm) g20
      clear hG_19
      have hc := bend_calls p.data at_ by_ i6 i7 G21 hd (by have := (hr1.2.2.2.2.2 p (List.mem_of_getElem? hp)).2.2; omega) hby g6 g7
      have hget := flat_dget md.ps k p hp
      have hset := flat_dset md.ps k p (bendB p.data at_ by_) hp
      rw [acode_tree (t := ot21w) rfl (by rfl)]
      simp -implicitDefEqProofs only [go_sem, tys, regs0, Nat.reduceEqDiff, Nat.reduceAdd, Nat.reduceLeDiff, Nat.reduceLT, Nat.reduceMul, Int.natCast_one, Int.natCast_zero, Int.reduceEq, Int.reduceLT, Int.reduceLE, Int.reduceAdd, Int.reduceSub, Int.reduceToNat, UInt8.reduceToNat, ot21w, stripO, tOT_seg, h0, h6, h7, h9, h13, g9, g19, g20, Int.toNat_natCast, hget]
      refine ⟨by omega, ?_, ?_⟩
      all_goals refine hc.pure_next _ ?_
      all_goals
        simp -implicitDefEqProofs only [go_sem, tys, regs0, Nat.reduceEqDiff, Nat.reduceAdd, Nat.reduceLeDiff, Nat.reduceLT, Nat.reduceMul, Int.natCast_one, Int.natCast_zero, Int.reduceEq, Int.reduceLT, Int.reduceLE, Int.reduceAdd, Int.reduceSub, Int.reduceToNat, UInt8.reduceToNat, h0, h6, h7, h9, h13, g9, g19, g20, Int.toNat_natCast, hset]
        refine ⟨by omega, by rw [flat_enc]; omega, ?_⟩
        generalize hG_20 : Heap.put G21 i20 _ = G22
        have hS := obj_sub hG_20 n20 hS
        have g20 := obj_at hG_20
        have g6 := obj_keep hG_20 (by first | exact d6_20 | exact fun e => d20_6 e.symm) g6
        have g7 := obj_keep hG_20 (by first | exact d7_20 | exact fun e => d20_7 e.symm) g7
        have g9 := obj_keep hG_20 (by first | exact d9_20 | exact fun e => d20_9 e.symm) g9
        have g19 := obj_keep hG_20 (by first | exact d19_20 | exact fun e => d20_19 e.symm) g19
        clear hG_20
        simp -implicitDefEqProofs only [go_sem, tys, regs0, Nat.reduceEqDiff, Nat.reduceAdd, Nat.reduceLeDiff, Nat.reduceLT, Nat.reduceMul, Int.natCast_one, Int.natCast_zero, Int.reduceEq, Int.reduceLT, Int.reduceLE, Int.reduceAdd, Int.reduceSub, Int.reduceToNat, UInt8.reduceToNat, h0, h6, h7, h9, h13, g9, g19]
        have hbp : (bendB p.data at_ by_).length = p.data.length := bendB_len _ _ _
        have hbe : ∃ (i : Nat) (c : UInt8), p.data[i]? = some c ∧ c ≠ bendC c by_ ∧ bendB p.data at_ by_ = p.data.set i (bendC c by_) := by
          obtain ⟨k1, k2⟩ := bendI_lt (n := p.data.length) (a := at_) (List.length_pos_iff.2 hd)
          obtain ⟨c, hc⟩ : ∃ c, p.data[bendI p.data.length at_]? = some c := getD_get' k1
          exact ⟨_, c, hc, (xor8 c hby).2 gb, by unfold bendB; rw [hc]⟩
        obtain ⟨bi, bc, hb1, hb2, hb3⟩ := hbe
        have hba := bent_apply hap hp hb1 hb2
        rw [← hb3] at hba
        have hlen : (md.ps.set k { p with data := bendB p.data at_ by_ }).length = md.ps.length := List.length_set
        have hu5 := encPc_unif (md.ps.set k { p with data := bendB p.data at_ by_ })
        have hch := chunks_of hu5
        rw [List.length_map, hlen] at hch
        refine ACalls.frozen (pre := [.int .i64 md.old, .int .i64 md.new, .str md.osum, .str md.nsum]) g20 (by rw [flat_enc, hlen]; omega) ?_
        rw [hch]
        have hdl : dlR { md with ps := md.ps.set k { p with data := bendB p.data at_ by_ } } := by
          refine ⟨hr1.1, hr1.2.1, hr1.2.2.1, hr1.2.2.2.1, by simp only [hlen]; exact hr1.2.2.2.2.1, fun q hq => ?_⟩
          have hpr := hr1.2.2.2.2.2
          rcases List.mem_or_eq_of_mem_set hq with h | h
          · exact hpr q h
          · subst h
            have := hpr p (List.mem_of_getElem? hp)
            exact ⟨this.1, this.2.1, by simp only [hbp]; exact this.2.2⟩
        have hfin := apply_calls a { md with ps := md.ps.set k { p with data := bendB p.data at_ by_ } } .unk _ (G22.del i20) (by rw [vApply, if_pos ⟨hdl, by omega⟩, hba])
        refine hfin.pure_next _ ?_
        have g6 := (del_ne d6_20).trans g6
        have g7 := (del_ne d7_20).trans g7
        have g9 := (del_ne d9_20).trans g9
        have hS : H.Sub (G22.del i20) := fun i o hi => by
          rw [del_ne (fun e => by rw [e, n20] at hi; cases hi)]
          exact hS i o hi
        simp -implicitDefEqProofs only [go_sem, tys, regs0, Nat.reduceEqDiff, Nat.reduceAdd, Nat.reduceLeDiff, Nat.reduceLT, Nat.reduceMul, Int.natCast_one, Int.natCast_zero, Int.reduceEq, Int.reduceLT, Int.reduceLE, Int.reduceAdd, Int.reduceSub, Int.reduceToNat, UInt8.reduceToNat, h0, h6, h7, h9, h13, g6, g7, g9]
        exact hS
    · simp only [decide_eq_false_iff_not] at g
      simp -implicitDefEqProofs only [go_sem, tys, regs0, Nat.reduceEqDiff, Nat.reduceAdd, Nat.reduceLeDiff, Nat.reduceLT, Nat.reduceMul, Int.natCast_one, Int.natCast_zero, Int.reduceEq, Int.reduceLT, Int.reduceLE, Int.reduceAdd, Int.reduceSub, Int.reduceToNat, UInt8.reduceToNat, h0, h6, h7, h9, h13, g9, g6, g7]
      exact hS
  clear g6 g7 g9 h0 h6 h7 h9 h13 hS
  rintro r G ⟨⟨hS, g6, g7, g9⟩, hv⟩
  have h6 := hv.1
  have h7 := hv.2.1
  have h9 := hv.2.2.1
  have h13 := hv.2.2.2.1
  clear hv
  have q2 := sDl_eq vPrint md .unk
  rw [vPrint, if_pos hr1, if_pos hE, hE, hu] at q2
  simp -implicitDefEqProofs only [go_sem, tys, regs0, Nat.reduceEqDiff, Nat.reduceAdd, Nat.reduceLeDiff, Nat.reduceLT, Nat.reduceMul, Int.natCast_one, Int.natCast_zero, Int.reduceEq, Int.reduceLT, Int.reduceLE, Int.reduceAdd, Int.reduceSub, Int.reduceToNat, UInt8.reduceToNat, h6, h7, h9, h13, g6, g7, g9, puW, pu0, q2]
  have hpl := print_len hr1 hE
  have hpn : printB md ≠ [] := by
    intro e
    have := parse_print hr1 hE
    rw [e] at this
    cases this
  have hc := bend_calls (printB md) at_ by_ i6 i7 G hpn (by omega) hby g6 g7
  refine hc.pure_next _ ?_
  obtain ⟨i, c, hb1, hb2, hb3⟩ : ∃ (i : Nat) (c : UInt8), (printB md)[i]? = some c ∧ c ≠ bendC c by_ ∧ bendB (printB md) at_ by_ = (printB md).set i (bendC c by_) := by
    obtain ⟨k1, k2⟩ := bendI_lt (n := (printB md).length) (a := at_) (List.length_pos_iff.2 hpn)
    obtain ⟨c, hc⟩ : ∃ c, (printB md)[bendI (printB md).length at_]? = some c := getD_get' k1
    exact ⟨_, c, hc, (xor8 c hby).2 gb, by unfold bendB; rw [hc]⟩
  have hbr := bent_refused hb1 hb2
  rw [← hb3] at hbr
  have hz := parseV_zero hbr
  have q3 := sParse_eq (bendB (printB md) at_ by_) (by rw [bendB_len]; omega)
  rw [hz] at q3
  have y3 : decide (¬ (parseV (bendB (printB md) at_ by_)).2 = 0) = true := decide_eq_true hbr
  have q5 := sSame_eq DeltaV.zero DeltaV.zero .unk .exact (by decide)
  unfold encDl at q3 q5
  simp only [DeltaV.zero, List.map_nil] at q3 q5
  simp -implicitDefEqProofs only [go_sem, tys, regs0, Nat.reduceEqDiff, Nat.reduceAdd, Nat.reduceLeDiff, Nat.reduceLT, Nat.reduceMul, Int.natCast_one, Int.natCast_zero, Int.reduceEq, Int.reduceLT, Int.reduceLE, Int.reduceAdd, Int.reduceSub, Int.reduceToNat, UInt8.reduceToNat, h6, h7, h9, h13, g6, g7, g9, puW, pu0, q3]
  with_reducible refine nwC_intro fun i23 hi23 => ?_
  simp -implicitDefEqProofs only [go_sem, tys, regs0, Nat.reduceEqDiff, Nat.reduceAdd, Nat.reduceLeDiff, Nat.reduceLT, Nat.reduceMul, Int.natCast_one, Int.natCast_zero, Int.reduceEq, Int.reduceLT, Int.reduceLE, Int.reduceAdd, Int.reduceSub, Int.reduceToNat, UInt8.reduceToNat, h6, h7, h9, h13, g6, g7, g9, puW, pu0, q3]
  generalize hG_23 : Heap.put G i23 _ = G23
  have hO_23 := obj_new hG_23 hi23 hS
  have n23 := hO_23.1
  have hS := hO_23.2.1
  have g23 := hO_23.2.2.1
  have d6_23 := obj_ne g6 hi23
  have g6 := hO_23.2.2.2 _ _ g6
  have d7_23 := obj_ne g7 hi23
  have g7 := hO_23.2.2.2 _ _ g7
  have d9_23 := obj_ne g9 hi23
  have g9 := hO_23.2.2.2 _ _ g9
  clear hO_23 hG_23
  simp -implicitDefEqProofs only [go_sem, tys, regs0, Nat.reduceEqDiff, Nat.reduceAdd, Nat.reduceLeDiff, Nat.reduceLT, Nat.reduceMul, Int.natCast_one, Int.natCast_zero, Int.reduceEq, Int.reduceLT, Int.reduceLE, Int.reduceAdd, Int.reduceSub, Int.reduceToNat, UInt8.reduceToNat, h6, h7, h9, h13, g6, g7, g9, g23, puW, pu0, y3, q5]
  exact Done.drop hS ⟨rfl, rfl⟩
end Go.Proofs
