/-
  Walks and plain laws, part 4.
-/
import Derived.Test.YtejjfogjhjmkbaaDoorM3
import Derived.Test.YtejjfogjhjmkbaaDoorM1
/- Walks: the reference makes a delta. -/
namespace Go.Proofs
open Go Go.Abs
set_option linter.unusedSimpArgs false
set_option linter.unusedVariables false
set_option maxRecDepth 20000
theorem lcp_step {a b : Bytes} {k i : Nat} {x y : UInt8} (hx : a[k]? = some x) (hy : b[i]? = some y) : lcp (a.drop k) (b.drop i) = if x = y then lcp (a.drop (k + 1)) (b.drop (i + 1)) + 1 else 0 := by
  rw [drop_cons hx, drop_cons hy]; rfl
theorem lcp_end1 {a b : Bytes} {k i : Nat} (h : a.length ≤ k) : lcp (a.drop k) (b.drop i) = 0 := by rw [List.drop_eq_nil_of_le h]; rfl
theorem lcp_end2 {a b : Bytes} {k i : Nat} (h : b.length ≤ i) : lcp (a.drop k) (b.drop i) = 0 := by rw [List.drop_eq_nil_of_le h]; exact lcp_nil_right _
theorem mkR_cons' {a : Bytes} {f : Nat} {l w data : Bytes} {c : UInt8} (hl : l = c :: w) : mkR a (f + 1) l data = if (bestM a l a.length).2 < 8 then mkR a f w (data ++ [c]) else fl data ++ ⟨(bestM a l a.length).1, (bestM a l a.length).2, []⟩ :: mkR a f (l.drop (bestM a l a.length).2) [] := by
  subst hl; rfl
theorem mkR_nil (a : Bytes) (f : Nat) (data : Bytes) : mkR a f [] data = fl data := by cases f <;> rfl
def InnQ (a b data : Bytes) (out : List PieceV) (tl : Tail) (i4 i k at_ long : Nat) (G : Heap) (r : Regs) (G' : Heap) : Prop :=
  agrees r [(0, .str a), (1, .str b), (4, .ptr i4 0), (6, .sl (out.map encPc) tl), (7, .str data), (8, .int .i64 i), (9, .int .i64 at_), (10, .int .i64 long), (11, .int .i64 k), (12, .int .i64 (lcp (a.drop k) (b.drop i))), (27, .int .i64 a.length), (28, .int .i64 k)] ∧ G' = G
def InnI (a b : Bytes) (i k : Nat) (G : Heap) (n : Nat) (G' : Heap) : Prop := G' = G ∧ k + n ≤ a.length ∧ i + n ≤ b.length ∧ n + lcp (a.drop (k + n)) (b.drop (i + n)) = lcp (a.drop k) (b.drop i)
def MidI (a : Bytes) (G : Heap) (k : Nat) (G' : Heap) : Prop := G' = G ∧ k ≤ a.length
def OutI (a b : Bytes) (H : Heap) (i4 : Nat) (t : Nat × Nat × List PieceV × Bytes × Tail) (G : Heap) : Prop :=
  AppOK H G 3 (t.2.2.1.map encPc) t.2.2.2.2 ∧ G i4 = some zD ∧ (b.drop t.2.1).length ≤ t.1 ∧ t.2.1 ≤ b.length ∧ t.2.2.2.1.length ≤ t.2.1 ∧ t.2.2.1.length ≤ t.2.1 ∧ t.2.2.1 ++ mkR a t.1 (b.drop t.2.1) t.2.2.2.1 = mkR a b.length b []
/-- The answer's tuple. -/
def makeT (a b : Bytes) : AV := .tup [.agg (encDl (makeV a b).1 .unk), .int .i64 (makeV a b).2]
set_option maxHeartbeats 6400000 in
theorem rMake_calls (a b : Bytes) (H : Heap) (ha : a.length ≤ 1099511627776) (hb : b.length ≤ 1099511627776) : ACalls Tryd.prog 6 [.str a, .str b] H fun x H' => x = makeT a b ∧ H' = H := by
  by_cases hbig : 65536 < a.length ∨ 65536 < b.length
  · have hmk : makeT a b = .tup [.agg (encDl DeltaV.zero .unk), .int .i64 4] := by
      unfold makeT makeV
      rw [if_pos hbig]
    by_cases k1 : 65536 < a.length
    · have z1 : decide ((65536 : Int) < a.length) = true := decide_eq_true (by omega)
      refine ACalls.of_code (X := { pure := puM }) puM_ok Tryd.func6 (by kernel_rfl) rfl (by kernel_rfl) (Nat.le_of_ble_eq_true rfl) ?_
      simp -implicitDefEqProofs only [go_sem, tys, regs0, Nat.reduceEqDiff, Nat.reduceAdd, Nat.reduceLeDiff, Nat.reduceLT, Nat.reduceMul, Int.natCast_one, Int.natCast_zero, Int.reduceEq, Int.reduceLT, Int.reduceLE, Int.reduceAdd, Int.reduceSub, Int.reduceToNat, UInt8.reduceToNat, Tryd.f6]
      with_reducible refine nwC_intro fun i4 hi4 => ?_
      simp -implicitDefEqProofs only [go_sem, tys, regs0, Nat.reduceEqDiff, Nat.reduceAdd, Nat.reduceLeDiff, Nat.reduceLT, Nat.reduceMul, Int.natCast_one, Int.natCast_zero, Int.reduceEq, Int.reduceLT, Int.reduceLE, Int.reduceAdd, Int.reduceSub, Int.reduceToNat, UInt8.reduceToNat, z1]
      refine Done.wk 3 (Done.drop1 hi4 ⟨?_, rfl⟩)
      rw [hmk]; rfl
    · have z1 : decide ((65536 : Int) < a.length) = false := decide_eq_false (by omega)
      have z2 : decide ((65536 : Int) < b.length) = true := decide_eq_true (by omega)
      refine ACalls.of_code (X := { pure := puM }) puM_ok Tryd.func6 (by kernel_rfl) rfl (by kernel_rfl) (Nat.le_of_ble_eq_true rfl) ?_
      simp -implicitDefEqProofs only [go_sem, tys, regs0, Nat.reduceEqDiff, Nat.reduceAdd, Nat.reduceLeDiff, Nat.reduceLT, Nat.reduceMul, Int.natCast_one, Int.natCast_zero, Int.reduceEq, Int.reduceLT, Int.reduceLE, Int.reduceAdd, Int.reduceSub, Int.reduceToNat, UInt8.reduceToNat, Tryd.f6]
      with_reducible refine nwC_intro fun i4 hi4 => ?_
      simp -implicitDefEqProofs only [go_sem, tys, regs0, Nat.reduceEqDiff, Nat.reduceAdd, Nat.reduceLeDiff, Nat.reduceLT, Nat.reduceMul, Int.natCast_one, Int.natCast_zero, Int.reduceEq, Int.reduceLT, Int.reduceLE, Int.reduceAdd, Int.reduceSub, Int.reduceToNat, UInt8.reduceToNat, z1, z2]
      refine Done.wk 3 (Done.drop1 hi4 ⟨?_, rfl⟩)
      rw [hmk]; rfl
  have z1 : decide ((65536 : Int) < a.length) = false := decide_eq_false (by omega)
  have z2 : decide ((65536 : Int) < b.length) = false := decide_eq_false (by omega)
  have hal : a.length ≤ 65536 := by omega
  have hbl : b.length ≤ 65536 := by omega
  refine ACalls.of_code (X := { pure := puM }) puM_ok Tryd.func6 (by kernel_rfl) rfl (by kernel_rfl) (Nat.le_of_ble_eq_true rfl) ?_
  simp -implicitDefEqProofs only [go_sem, tys, regs0, Nat.reduceEqDiff, Nat.reduceAdd, Nat.reduceLeDiff, Nat.reduceLT, Nat.reduceMul, Int.natCast_one, Int.natCast_zero, Int.reduceEq, Int.reduceLT, Int.reduceLE, Int.reduceAdd, Int.reduceSub, Int.reduceToNat, UInt8.reduceToNat, Tryd.f6]
  with_reducible refine nwC_intro fun i4 hi4 => ?_
  simp -implicitDefEqProofs only [go_sem, tys, regs0, Nat.reduceEqDiff, Nat.reduceAdd, Nat.reduceLeDiff, Nat.reduceLT, Nat.reduceMul, Int.natCast_one, Int.natCast_zero, Int.reduceEq, Int.reduceLT, Int.reduceLE, Int.reduceAdd, Int.reduceSub, Int.reduceToNat, UInt8.reduceToNat, z1, z2]
  have hA0 : AppOK H (H.put i4 zD) 3 (([] : List PieceV).map encPc) .exact := AppOK.nil ((Heap.Sub.rfl' H).put' hi4 _)
  have hZ0 := put_same H i4 zD
  have hfold : H.put i4 (.cells [.int .i64 0, .int .i64 0, .str [], .str [], .sl [] .exact]) = H.put i4 zD := rfl
  rw [hfold]
  generalize H.put i4 zD = G at *
  clear hfold
  refine aloop_intro (σ := Nat × Nat × List PieceV × Bytes × Tail) (fun t => [(0, .str a), (1, .str b), (4, .ptr i4 0), (6, .sl (t.2.2.1.map encPc) t.2.2.2.2), (7, .str t.2.2.2.1), (8, .int .i64 t.2.1)]) (OutI a b H i4) (fun t => b.length - t.2.1) (b.length, 0, [], [], .exact) ?_ ?_ ?_
  · simp -implicitDefEqProofs only [go_sem, tys, regs0, Nat.reduceEqDiff, Nat.reduceAdd, Nat.reduceLeDiff, Nat.reduceLT, Nat.reduceMul, Int.natCast_one, Int.natCast_zero, Int.reduceEq, Int.reduceLT, Int.reduceLE, Int.reduceAdd, Int.reduceSub, Int.reduceToNat, UInt8.reduceToNat]
  · exact ⟨hA0, hZ0, by simp, by simp, by simp, by simp, by simp⟩
  · clear hA0 hZ0
    rintro ⟨f, i, out, data, tl⟩ r G hv ⟨hA, hZ, hf, hi, hd, ho, hM⟩
    have h0 := hv.1
    have h1 := hv.2.1
    have h4 := hv.2.2.1
    have h6 := hv.2.2.2.1
    have h7 := hv.2.2.2.2.1
    have h8 := hv.2.2.2.2.2.1
    clear hv
    simp only at h0 h1 h4 h6 h7 h8 hA hZ hf hi hd ho hM
    simp -implicitDefEqProofs only [go_sem, tys, regs0, Nat.reduceEqDiff, Nat.reduceAdd, Nat.reduceLeDiff, Nat.reduceLT, Nat.reduceMul, Int.natCast_one, Int.natCast_zero, Int.reduceEq, Int.reduceLT, Int.reduceLE, Int.reduceAdd, Int.reduceSub, Int.reduceToNat, UInt8.reduceToNat, h0, h1, h4, h6, h7, h8]
    refine cnd_intro (fun g => ?_) (fun g => ?_)
    · simp only [decide_eq_true_eq] at g
      obtain ⟨c, hc⟩ : ∃ c, b[i]? = some c := getD_get' (by omega)
      have hdc := drop_cons hc
      simp -implicitDefEqProofs only [go_sem, tys, regs0, Nat.reduceEqDiff, Nat.reduceAdd, Nat.reduceLeDiff, Nat.reduceLT, Nat.reduceMul, Int.natCast_one, Int.natCast_zero, Int.reduceEq, Int.reduceLT, Int.reduceLE, Int.reduceAdd, Int.reduceSub, Int.reduceToNat, UInt8.reduceToNat, h0, h1, h4, h6, h7, h8]
      refine aloop_intro (σ := Nat) (fun k => [(0, .str a), (1, .str b), (4, .ptr i4 0), (6, .sl (out.map encPc) tl), (7, .str data), (8, .int .i64 i), (9, .int .i64 (bestM a (b.drop i) k).1), (10, .int .i64 (bestM a (b.drop i) k).2), (27, .int .i64 a.length), (28, .int .i64 k)]) (MidI a G) (fun k => a.length - k) 0 ?_ ?_ ?_
      · simp -implicitDefEqProofs only [go_sem, tys, regs0, Nat.reduceEqDiff, Nat.reduceAdd, Nat.reduceLeDiff, Nat.reduceLT, Nat.reduceMul, Int.natCast_one, Int.natCast_zero, Int.reduceEq, Int.reduceLT, Int.reduceLE, Int.reduceAdd, Int.reduceSub, Int.reduceToNat, UInt8.reduceToNat, h0, h1, h4, h6, h7, h8]
        exact ⟨rfl, rfl⟩
      · exact ⟨rfl, Nat.zero_le _⟩
      · clear h0 h1 h4 h6 h7 h8
        rintro k r G' hv ⟨rfl, hk⟩
        have h0 := hv.1
        have h1 := hv.2.1
        have h4 := hv.2.2.1
        have h6 := hv.2.2.2.1
        have h7 := hv.2.2.2.2.1
        have h8 := hv.2.2.2.2.2.1
        have h9 := hv.2.2.2.2.2.2.1
        have h10 := hv.2.2.2.2.2.2.2.1
        have h27 := hv.2.2.2.2.2.2.2.2.1
        have h28 := hv.2.2.2.2.2.2.2.2.2.1
        clear hv
        have hbo := bestM_ok a (b.drop i) k
        rw [List.length_drop] at hbo
        simp -implicitDefEqProofs only [go_sem, tys, regs0, Nat.reduceEqDiff, Nat.reduceAdd, Nat.reduceLeDiff, Nat.reduceLT, Nat.reduceMul, Int.natCast_one, Int.natCast_zero, Int.reduceEq, Int.reduceLT, Int.reduceLE, Int.reduceAdd, Int.reduceSub, Int.reduceToNat, UInt8.reduceToNat, h0, h1, h4, h6, h7, h8, h9, h10, h27, h28]
        refine cnd_intro (fun g2 => ?_) (fun g2 => ?_)
        · simp only [decide_eq_true_eq] at g2
          simp -implicitDefEqProofs only [go_sem, tys, regs0, Nat.reduceEqDiff, Nat.reduceAdd, Nat.reduceLeDiff, Nat.reduceLT, Nat.reduceMul, Int.natCast_one, Int.natCast_zero, Int.reduceEq, Int.reduceLT, Int.reduceLE, Int.reduceAdd, Int.reduceSub, Int.reduceToNat, UInt8.reduceToNat, h0, h1, h4, h6, h7, h8, h9, h10, h27, h28]
          with_reducible refine aloop_cut 4 (InnQ a b data out tl i4 i k (bestM a (b.drop i) k).1 (bestM a (b.drop i) k).2 G') ?_ ?_
          · rintro r2 G2 ⟨hv, rfl⟩
            clear h0 h1 h4 h6 h7 h8 h9 h10 h27 h28
            have h0 := hv.1
            have h1 := hv.2.1
            have h4 := hv.2.2.1
            have h6 := hv.2.2.2.1
            have h7 := hv.2.2.2.2.1
            have h8 := hv.2.2.2.2.2.1
            have h9 := hv.2.2.2.2.2.2.1
            have h10 := hv.2.2.2.2.2.2.2.1
            have h11 := hv.2.2.2.2.2.2.2.2.1
            have h12 := hv.2.2.2.2.2.2.2.2.2.1
            have h27 := hv.2.2.2.2.2.2.2.2.2.2.1
            have h28 := hv.2.2.2.2.2.2.2.2.2.2.2.1
            clear hv
            have hb1 := bestM.eq_2 a (b.drop i) k
            by_cases e : (bestM a (b.drop i) k).2 < lcp (a.drop k) (b.drop i)
            · have y1 : decide (((bestM a (b.drop i) k).2 : Int) < (lcp (a.drop k) (b.drop i) : Int)) = true := decide_eq_true (by omega)
              rw [if_pos e] at hb1
              simp -implicitDefEqProofs (disch := omega) only [go_sem, tys, regs0, Nat.reduceEqDiff, Nat.reduceAdd, Nat.reduceLeDiff, Nat.reduceLT, Nat.reduceMul, Int.natCast_one, Int.natCast_zero, Int.reduceEq, Int.reduceLT, Int.reduceLE, Int.reduceAdd, Int.reduceSub, Int.reduceToNat, UInt8.reduceToNat, Go.IntWalk.i64_in, h0, h1, h4, h6, h7, h8, h9, h10, h11, h12, h27, h28, y1]
              exact Again.mk (k + 1) (by simp -implicitDefEqProofs only [go_sem, tys, regs0, Nat.reduceEqDiff, Nat.reduceAdd, Nat.reduceLeDiff, Nat.reduceLT, Nat.reduceMul, Int.natCast_one, Int.natCast_zero, Int.reduceEq, Int.reduceLT, Int.reduceLE, Int.reduceAdd, Int.reduceSub, Int.reduceToNat, UInt8.reduceToNat, h0, h1, h4, h6, h7, h8, h9, h10, h11, h12, h27, h28, hb1]; exact rfl) ⟨rfl, by omega⟩ (by omega)
            · have y1 : decide (((bestM a (b.drop i) k).2 : Int) < (lcp (a.drop k) (b.drop i) : Int)) = false := decide_eq_false (by omega)
              rw [if_neg e] at hb1
              simp -implicitDefEqProofs (disch := omega) only [go_sem, tys, regs0, Nat.reduceEqDiff, Nat.reduceAdd, Nat.reduceLeDiff, Nat.reduceLT, Nat.reduceMul, Int.natCast_one, Int.natCast_zero, Int.reduceEq, Int.reduceLT, Int.reduceLE, Int.reduceAdd, Int.reduceSub, Int.reduceToNat, UInt8.reduceToNat, Go.IntWalk.i64_in, h0, h1, h4, h6, h7, h8, h9, h10, h11, h12, h27, h28, y1]
              exact Again.mk (k + 1) (by simp -implicitDefEqProofs only [go_sem, tys, regs0, Nat.reduceEqDiff, Nat.reduceAdd, Nat.reduceLeDiff, Nat.reduceLT, Nat.reduceMul, Int.natCast_one, Int.natCast_zero, Int.reduceEq, Int.reduceLT, Int.reduceLE, Int.reduceAdd, Int.reduceSub, Int.reduceToNat, UInt8.reduceToNat, h0, h1, h4, h6, h7, h8, h9, h10, h11, h12, h27, h28, hb1]; exact rfl) ⟨rfl, by omega⟩ (by omega)
          refine aloop_intro (σ := Nat) (fun n => [(0, .str a), (1, .str b), (4, .ptr i4 0), (6, .sl (out.map encPc) tl), (7, .str data), (8, .int .i64 i), (9, .int .i64 (bestM a (b.drop i) k).1), (10, .int .i64 (bestM a (b.drop i) k).2), (11, .int .i64 k), (12, .int .i64 n), (27, .int .i64 a.length), (28, .int .i64 k)]) (InnI a b i k G') (fun n => a.length - n) 0 ?_ ?_ ?_
          · simp -implicitDefEqProofs only [go_sem, tys, regs0, Nat.reduceEqDiff, Nat.reduceAdd, Nat.reduceLeDiff, Nat.reduceLT, Nat.reduceMul, Int.natCast_one, Int.natCast_zero, Int.reduceEq, Int.reduceLT, Int.reduceLE, Int.reduceAdd, Int.reduceSub, Int.reduceToNat, UInt8.reduceToNat, h0, h1, h4, h6, h7, h8, h9, h10, h27, h28]
          · exact ⟨rfl, by omega, by omega, by simp⟩
          · clear h0 h1 h4 h6 h7 h8 h9 h10 h27 h28
            rintro n r G2 hv ⟨rfl, hn1, hn2, hl⟩
            have h0 := hv.1
            have h1 := hv.2.1
            have h4 := hv.2.2.1
            have h6 := hv.2.2.2.1
            have h7 := hv.2.2.2.2.1
            have h8 := hv.2.2.2.2.2.1
            have h9 := hv.2.2.2.2.2.2.1
            have h10 := hv.2.2.2.2.2.2.2.1
            have h11 := hv.2.2.2.2.2.2.2.2.1
            have h12 := hv.2.2.2.2.2.2.2.2.2.1
            have h27 := hv.2.2.2.2.2.2.2.2.2.2.1
            have h28 := hv.2.2.2.2.2.2.2.2.2.2.2.1
            clear hv
            have w1 : IntKind.i64.wrap ((k : Int) + n) = ((k + n : Nat) : Int) := by rw [Go.IntWalk.i64_in _ (by omega)]; omega
            have w2 : IntKind.i64.wrap ((i : Int) + n) = ((i + n : Nat) : Int) := by rw [Go.IntWalk.i64_in _ (by omega)]; omega
            have w3 : IntKind.i64.wrap ((n : Int) + 1) = ((n + 1 : Nat) : Int) := by rw [Go.IntWalk.i64_in _ (by omega)]; omega
            by_cases e1 : k + n < a.length
            · have y1 : decide (((k + n : Nat) : Int) < a.length) = true := decide_eq_true (by omega)
              by_cases e2 : i + n < b.length
              · have y2 : decide (((i + n : Nat) : Int) < b.length) = true := decide_eq_true (by omega)
                obtain ⟨x, hx⟩ : ∃ x, a[k + n]? = some x := getD_get' e1
                obtain ⟨y, hy⟩ : ∃ y, b[i + n]? = some y := getD_get' e2
                rw [lcp_step hx hy] at hl
                by_cases e3 : x = y
                · have y3 : decide ((x.toNat : Int) = (y.toNat : Int)) = true := decide_eq_true (by rw [e3])
                  rw [if_pos e3] at hl
                  simp -implicitDefEqProofs only [go_sem, tys, regs0, Nat.reduceEqDiff, Nat.reduceAdd, Nat.reduceLeDiff, Nat.reduceLT, Nat.reduceMul, Int.natCast_one, Int.natCast_zero, Int.reduceEq, Int.reduceLT, Int.reduceLE, Int.reduceAdd, Int.reduceSub, Int.reduceToNat, UInt8.reduceToNat, h0, h1, h4, h6, h7, h8, h9, h10, h11, h12, h27, h28, w1, w2, w3, y1, y2, y3, hx, hy]
                  exact Again.mk (n + 1) (by simp -implicitDefEqProofs only [go_sem, tys, regs0, Nat.reduceEqDiff, Nat.reduceAdd, Nat.reduceLeDiff, Nat.reduceLT, Nat.reduceMul, Int.natCast_one, Int.natCast_zero, Int.reduceEq, Int.reduceLT, Int.reduceLE, Int.reduceAdd, Int.reduceSub, Int.reduceToNat, UInt8.reduceToNat, h0, h1, h4, h6, h7, h8, h9, h10, h11, h12, h27, h28]) ⟨rfl, by omega, by omega, by rw [← hl, ← Nat.add_assoc, ← Nat.add_assoc]; omega⟩ (by omega)
                · have y3 : decide ((x.toNat : Int) = (y.toNat : Int)) = false := decide_eq_false (fun e => e3 (UInt8.toNat_inj.1 (by omega)))
                  rw [if_neg e3] at hl
                  simp -implicitDefEqProofs only [go_sem, tys, regs0, Nat.reduceEqDiff, Nat.reduceAdd, Nat.reduceLeDiff, Nat.reduceLT, Nat.reduceMul, Int.natCast_one, Int.natCast_zero, Int.reduceEq, Int.reduceLT, Int.reduceLE, Int.reduceAdd, Int.reduceSub, Int.reduceToNat, UInt8.reduceToNat, h0, h1, h4, h6, h7, h8, h9, h10, h11, h12, h27, h28, w1, w2, w3, y1, y2, y3, hx, hy]
                  exact ⟨by simp -implicitDefEqProofs only [go_sem, tys, regs0, Nat.reduceEqDiff, Nat.reduceAdd, Nat.reduceLeDiff, Nat.reduceLT, Nat.reduceMul, Int.natCast_one, Int.natCast_zero, Int.reduceEq, Int.reduceLT, Int.reduceLE, Int.reduceAdd, Int.reduceSub, Int.reduceToNat, UInt8.reduceToNat, h0, h1, h4, h6, h7, h8, h9, h10, h11, h12, h27, h28]; rw [← hl]; exact rfl, rfl⟩
              · have y2 : decide (((i + n : Nat) : Int) < b.length) = false := decide_eq_false (by omega)
                rw [lcp_end2 (by omega)] at hl
                simp -implicitDefEqProofs only [go_sem, tys, regs0, Nat.reduceEqDiff, Nat.reduceAdd, Nat.reduceLeDiff, Nat.reduceLT, Nat.reduceMul, Int.natCast_one, Int.natCast_zero, Int.reduceEq, Int.reduceLT, Int.reduceLE, Int.reduceAdd, Int.reduceSub, Int.reduceToNat, UInt8.reduceToNat, h0, h1, h4, h6, h7, h8, h9, h10, h11, h12, h27, h28, w1, w2, w3, y1, y2]
                exact ⟨by simp -implicitDefEqProofs only [go_sem, tys, regs0, Nat.reduceEqDiff, Nat.reduceAdd, Nat.reduceLeDiff, Nat.reduceLT, Nat.reduceMul, Int.natCast_one, Int.natCast_zero, Int.reduceEq, Int.reduceLT, Int.reduceLE, Int.reduceAdd, Int.reduceSub, Int.reduceToNat, UInt8.reduceToNat, h0, h1, h4, h6, h7, h8, h9, h10, h11, h12, h27, h28]; rw [← hl]; exact rfl, rfl⟩
            · have y1 : decide (((k + n : Nat) : Int) < a.length) = false := decide_eq_false (by omega)
              rw [lcp_end1 (by omega)] at hl
              simp -implicitDefEqProofs only [go_sem, tys, regs0, Nat.reduceEqDiff, Nat.reduceAdd, Nat.reduceLeDiff, Nat.reduceLT, Nat.reduceMul, Int.natCast_one, Int.natCast_zero, Int.reduceEq, Int.reduceLT, Int.reduceLE, Int.reduceAdd, Int.reduceSub, Int.reduceToNat, UInt8.reduceToNat, h0, h1, h4, h6, h7, h8, h9, h10, h11, h12, h27, h28, w1, w2, w3, y1]
              exact ⟨by simp -implicitDefEqProofs only [go_sem, tys, regs0, Nat.reduceEqDiff, Nat.reduceAdd, Nat.reduceLeDiff, Nat.reduceLT, Nat.reduceMul, Int.natCast_one, Int.natCast_zero, Int.reduceEq, Int.reduceLT, Int.reduceLE, Int.reduceAdd, Int.reduceSub, Int.reduceToNat, UInt8.reduceToNat, h0, h1, h4, h6, h7, h8, h9, h10, h11, h12, h27, h28]; rw [← hl]; exact rfl, rfl⟩
        · simp only [decide_eq_false_iff_not] at g2
          have e : k = a.length := by omega
          subst e
          have hfs : f = (f - 1) + 1 := by
            rw [hdc] at hf
            simp only [List.length_cons] at hf
            omega
          have hmk := mkR_cons' (a := a) (f := f - 1) (data := data) hdc
          rw [← hfs, List.drop_drop] at hmk
          rw [List.length_drop] at hf
          generalize bestM a (b.drop i) a.length = bm at *
          by_cases e8 : bm.2 < 8
          · have y1 : decide ((bm.2 : Int) < 8) = true := decide_eq_true (by omega)
            rw [if_pos e8] at hmk
            have w1 : IntKind.i64.wrap ((i : Int) + 1) = ((i + 1 : Nat) : Int) := by rw [Go.IntWalk.i64_in _ (by omega)]; omega
            have hsl : List.drop i (List.take (i + 1) b) = [c] := by rw [List.take_add_one, hc, List.drop_append_of_le_length (by rw [List.length_take]; omega), List.drop_eq_nil_of_le (by rw [List.length_take]; omega)]; rfl
            simp -implicitDefEqProofs (disch := (first | omega | (simp only [List.length_append, List.length_cons, List.length_nil]; omega))) only [go_sem, binS_addD, tys, regs0, Nat.reduceEqDiff, Nat.reduceAdd, Nat.reduceLeDiff, Nat.reduceLT, Nat.reduceMul, Int.natCast_one, Int.natCast_zero, Int.reduceEq, Int.reduceLT, Int.reduceLE, Int.reduceAdd, Int.reduceSub, Int.reduceToNat, UInt8.reduceToNat, Go.IntWalk.i64_in, h0, h1, h4, h6, h7, h8, h9, h10, h27, h28, y1, w1, Int.toNat_natCast, hsl]
            refine ⟨⟨by omega, by omega⟩, ?_⟩
            exact Again.mk (f - 1, i + 1, out, data ++ [c], tl) (by simp -implicitDefEqProofs only [go_sem, tys, regs0, Nat.reduceEqDiff, Nat.reduceAdd, Nat.reduceLeDiff, Nat.reduceLT, Nat.reduceMul, Int.natCast_one, Int.natCast_zero, Int.reduceEq, Int.reduceLT, Int.reduceLE, Int.reduceAdd, Int.reduceSub, Int.reduceToNat, UInt8.reduceToNat, h0, h1, h4, h6, h7, h8]) ⟨hA, hZ, by simp only; rw [List.length_drop]; omega, by simp only; omega, by simp; omega, by simp only; omega, by simp only; rw [← hmk]; exact hM⟩ (by simp only; omega)
          · have y1 : decide ((bm.2 : Int) < 8) = false := decide_eq_false (by omega)
            rw [if_neg e8] at hmk
            have w1 : IntKind.i64.wrap ((i : Int) + bm.2) = ((i + bm.2 : Nat) : Int) := by rw [Go.IntWalk.i64_in _ (by omega)]; omega
            by_cases hdd : data = []
            · have y2 : decide (¬ data = []) = false := decide_eq_false (by simpa using hdd)
              have hfl : fl data = [] := by rw [hdd]; rfl
              rw [hfl, List.nil_append] at hmk
              simp -implicitDefEqProofs only [go_sem, tys, regs0, Nat.reduceEqDiff, Nat.reduceAdd, Nat.reduceLeDiff, Nat.reduceLT, Nat.reduceMul, Int.natCast_one, Int.natCast_zero, Int.reduceEq, Int.reduceLT, Int.reduceLE, Int.reduceAdd, Int.reduceSub, Int.reduceToNat, UInt8.reduceToNat, h0, h1, h4, h6, h7, h8, h9, h10, h27, h28, y1, y2, w1]
              refine AppOK.step hA (encPc_unif out) (by simp) (by simp; omega) (by simp; omega) (fun tl2 G2 hA2 hK2 => ?_)
              simp -implicitDefEqProofs only [go_sem, tys, regs0, Nat.reduceEqDiff, Nat.reduceAdd, Nat.reduceLeDiff, Nat.reduceLT, Nat.reduceMul, Int.natCast_one, Int.natCast_zero, Int.reduceEq, Int.reduceLT, Int.reduceLE, Int.reduceAdd, Int.reduceSub, Int.reduceToNat, UInt8.reduceToNat, h0, h1, h4, h6, h7, h8, h9, h10, h27, h28, w1]
              exact Again.mk (f - 1, i + bm.2, out ++ [(⟨bm.1, bm.2, []⟩ : PieceV)], [], tl2) (by simp -implicitDefEqProofs only [go_sem, tys, regs0, Nat.reduceEqDiff, Nat.reduceAdd, Nat.reduceLeDiff, Nat.reduceLT, Nat.reduceMul, Int.natCast_one, Int.natCast_zero, Int.reduceEq, Int.reduceLT, Int.reduceLE, Int.reduceAdd, Int.reduceSub, Int.reduceToNat, UInt8.reduceToNat, h0, h1, h4, h6, h7, h8]; simp [encPc, hdd]) ⟨by simpa [encPc] using hA2, hK2.cells hZ, by simp only; rw [List.length_drop]; omega, by simp only; omega, by simp, by simp; omega, by simp only; rw [← hM, hmk]; simp⟩ (by simp only; omega)
            · have y2 : decide (¬ data = []) = true := decide_eq_true hdd
              have hfl : fl data = [⟨0, 0, data⟩] := by unfold fl; rw [if_pos hdd]
              rw [hfl] at hmk
              simp -implicitDefEqProofs only [go_sem, tys, regs0, Nat.reduceEqDiff, Nat.reduceAdd, Nat.reduceLeDiff, Nat.reduceLT, Nat.reduceMul, Int.natCast_one, Int.natCast_zero, Int.reduceEq, Int.reduceLT, Int.reduceLE, Int.reduceAdd, Int.reduceSub, Int.reduceToNat, UInt8.reduceToNat, h0, h1, h4, h6, h7, h8, h9, h10, h27, h28, y1, y2, w1]
              refine AppOK.step hA (encPc_unif out) (by simp) (by simp; omega) (by simp; omega) (fun tl2 G2 hA2 hK2 => ?_)
              have e2 : out.map encPc ++ [[AV.int .i64 0, .int .i64 0, .str data]] = (out ++ [(⟨0, 0, data⟩ : PieceV)]).map encPc := by simp [encPc]
              rw [e2] at hA2 ⊢
              simp -implicitDefEqProofs only [go_sem, tys, regs0, Nat.reduceEqDiff, Nat.reduceAdd, Nat.reduceLeDiff, Nat.reduceLT, Nat.reduceMul, Int.natCast_one, Int.natCast_zero, Int.reduceEq, Int.reduceLT, Int.reduceLE, Int.reduceAdd, Int.reduceSub, Int.reduceToNat, UInt8.reduceToNat, h0, h1, h4, h6, h7, h8, h9, h10, h27, h28, w1]
              refine AppOK.step hA2 (encPc_unif _) (by simp) (by simp; omega) (by simp; omega) (fun tl3 G3 hA3 hK3 => ?_)
              simp -implicitDefEqProofs only [go_sem, tys, regs0, Nat.reduceEqDiff, Nat.reduceAdd, Nat.reduceLeDiff, Nat.reduceLT, Nat.reduceMul, Int.natCast_one, Int.natCast_zero, Int.reduceEq, Int.reduceLT, Int.reduceLE, Int.reduceAdd, Int.reduceSub, Int.reduceToNat, UInt8.reduceToNat, h0, h1, h4, h6, h7, h8, h9, h10, h27, h28, w1]
              exact Again.mk (f - 1, i + bm.2, out ++ [(⟨0, 0, data⟩ : PieceV)] ++ [(⟨bm.1, bm.2, []⟩ : PieceV)], [], tl3) (by simp -implicitDefEqProofs only [go_sem, tys, regs0, Nat.reduceEqDiff, Nat.reduceAdd, Nat.reduceLeDiff, Nat.reduceLT, Nat.reduceMul, Int.natCast_one, Int.natCast_zero, Int.reduceEq, Int.reduceLT, Int.reduceLE, Int.reduceAdd, Int.reduceSub, Int.reduceToNat, UInt8.reduceToNat, h0, h1, h4, h6, h7, h8]; simp [encPc]) ⟨by simpa [encPc] using hA3, hK3.cells (hK2.cells hZ), by simp only; rw [List.length_drop]; omega, by simp only; omega, by simp, by simp; omega, by simp only; rw [← hM, hmk]; simp⟩ (by simp only; omega)
    · simp only [decide_eq_false_iff_not] at g
      have e : i = b.length := by omega
      subst e
      rw [List.drop_length, mkR_nil] at hM
      have hR : Room = 1099511627776 := rfl
      have hfin : ∀ (L : List PieceV), L = mkR a b.length b [] → makeT a b = if (5000 : Int) < L.length then .tup [.agg (encDl DeltaV.zero .unk), .int .i64 4] else .tup [.agg (encDl ⟨a.length, b.length, sumOf a, sumOf b, L⟩ .unk), .int .i64 0] := fun L hL => by
        unfold makeT makeV
        rw [if_neg hbig, ← hL]
        split <;> rfl
      unfold zD at hZ
      by_cases hdd : data = []
      · have y2 : decide (¬ data = []) = false := decide_eq_false (by simpa using hdd)
        have hfl : fl data = [] := by rw [hdd]; rfl
        rw [hfl, List.append_nil] at hM
        have hfin := hfin out hM
        by_cases h5 : (5000 : Int) < out.length
        · have y3 : decide ((5000 : Int) < out.length) = true := decide_eq_true h5
          rw [if_pos h5] at hfin
          simp -implicitDefEqProofs only [go_sem, tys, regs0, Nat.reduceEqDiff, Nat.reduceAdd, Nat.reduceLeDiff, Nat.reduceLT, Nat.reduceMul, Int.natCast_one, Int.natCast_zero, Int.reduceEq, Int.reduceLT, Int.reduceLE, Int.reduceAdd, Int.reduceSub, Int.reduceToNat, UInt8.reduceToNat, h0, h1, h4, h6, h7, h8, y2, y3, hZ]
          refine Done.wk 3 (Done.drop (hA.sub.put' hi4 _) ⟨?_, rfl⟩)
          rw [hfin]; rfl
        · have y3 : decide ((5000 : Int) < out.length) = false := decide_eq_false h5
          rw [if_neg h5] at hfin
          simp -implicitDefEqProofs only [go_sem, tys, regs0, Nat.reduceEqDiff, Nat.reduceAdd, Nat.reduceLeDiff, Nat.reduceLT, Nat.reduceMul, Int.natCast_one, Int.natCast_zero, Int.reduceEq, Int.reduceLT, Int.reduceLE, Int.reduceAdd, Int.reduceSub, Int.reduceToNat, UInt8.reduceToNat, h0, h1, h4, h6, h7, h8, y2, y3, hZ, puM, puN, pu0, sSum_eq, hR, ha, hb]
          refine Done.wk 3 (Done.drop (hA.sub.put' hi4 _) ⟨?_, rfl⟩)
          rw [hfin]; rfl
      · have y2 : decide (¬ data = []) = true := decide_eq_true hdd
        have hfl : fl data = [⟨0, 0, data⟩] := by unfold fl; rw [if_pos hdd]
        rw [hfl] at hM
        have hfin := hfin _ hM
        simp -implicitDefEqProofs only [go_sem, tys, regs0, Nat.reduceEqDiff, Nat.reduceAdd, Nat.reduceLeDiff, Nat.reduceLT, Nat.reduceMul, Int.natCast_one, Int.natCast_zero, Int.reduceEq, Int.reduceLT, Int.reduceLE, Int.reduceAdd, Int.reduceSub, Int.reduceToNat, UInt8.reduceToNat, h0, h1, h4, h6, h7, h8, y2]
        refine AppOK.step hA (encPc_unif out) (by simp) (by simp; omega) (by simp; omega) (fun tl2 G2 hA2 hK2 => ?_)
        have e2 : out.map encPc ++ [[AV.int .i64 0, .int .i64 0, .str data]] = (out ++ [(⟨0, 0, data⟩ : PieceV)]).map encPc := by simp [encPc]
        rw [e2] at hA2 ⊢
        have hZ2 := hK2.cells hZ
        generalize out ++ [(⟨0, 0, data⟩ : PieceV)] = out2 at *
        by_cases h5 : (5000 : Int) < out2.length
        · have y3 : decide ((5000 : Int) < out2.length) = true := decide_eq_true h5
          rw [if_pos h5] at hfin
          simp -implicitDefEqProofs only [go_sem, tys, regs0, Nat.reduceEqDiff, Nat.reduceAdd, Nat.reduceLeDiff, Nat.reduceLT, Nat.reduceMul, Int.natCast_one, Int.natCast_zero, Int.reduceEq, Int.reduceLT, Int.reduceLE, Int.reduceAdd, Int.reduceSub, Int.reduceToNat, UInt8.reduceToNat, h0, h1, h4, h6, h7, h8, y3, hZ2]
          refine Done.wk 3 (Done.drop (hA2.sub.put' hi4 _) ⟨?_, rfl⟩)
          rw [hfin]; rfl
        · have y3 : decide ((5000 : Int) < out2.length) = false := decide_eq_false h5
          rw [if_neg h5] at hfin
          simp -implicitDefEqProofs only [go_sem, tys, regs0, Nat.reduceEqDiff, Nat.reduceAdd, Nat.reduceLeDiff, Nat.reduceLT, Nat.reduceMul, Int.natCast_one, Int.natCast_zero, Int.reduceEq, Int.reduceLT, Int.reduceLE, Int.reduceAdd, Int.reduceSub, Int.reduceToNat, UInt8.reduceToNat, h0, h1, h4, h6, h7, h8, y3, hZ2, puM, puN, pu0, sSum_eq, hR, ha, hb]
          refine Done.wk 3 (Done.drop (hA2.sub.put' hi4 _) ⟨?_, rfl⟩)
          rw [hfin]; rfl
def sMake : List AV → Option AV := fn2 .str .str fun a b => if a.length ≤ 1099511627776 ∧ b.length ≤ 1099511627776 then some (makeT a b) else none
theorem sMake_eq (a b : Bytes) (ha : a.length ≤ 1099511627776) (hb : b.length ≤ 1099511627776) : sMake [.str a, .str b] = some (.tup [.agg (encDl (makeV a b).1 .unk), .int .i64 (makeV a b).2]) := by
  unfold sMake
  rw [fn2_eq, Rd.str_eq, Rd.str_eq]
  simp only [Option.bind_some, if_pos (And.intro ha hb)]
  rfl
theorem sMake_ok {P : Program} {f : FuncId} (h : ∀ a b H, a.length ≤ 1099511627776 → b.length ≤ 1099511627776 → ACalls P f [.str a, .str b] H fun x H' => x = makeT a b ∧ H' = H) : ∀ xs v, sMake xs = some v → ∀ H, ACalls P f xs H fun x H' => x = v ∧ H' = H := by
  intro xs v hv H
  obtain ⟨x, y, a, b, rfl, h1, h2, h3⟩ := fn2_some hv
  cases Rd.str_some h1
  cases Rd.str_some h2
  obtain ⟨h4, rfl⟩ := some_if h3
  exact h a b H h4.1 h4.2
end Go.Proofs

/- Plain laws: an automaton that reads all parts of a text: what holds of it, and that it stays so when a sign is added. -/
namespace Go.Proofs
set_option linter.unusedSimpArgs false
set_option linter.unusedVariables false
section
variable {α : Type}
/-- 'u' stands in T, and ends at 'e'. -/
def occ (T u : List α) (e : Nat) : Prop := e ≤ T.length ∧ u <:+ T.take e
theorem occ_len {T u : List α} {e : Nat} (h : occ T u e) : u.length ≤ e := by
  have := h.2.length_le
  rw [List.length_take] at this
  omega
theorem occ_le {T u : List α} {e : Nat} (h : occ T u e) : e ≤ T.length := h.1
theorem occ_suf {T u v : List α} {e : Nat} (h : u <:+ v) (hv : occ T v e) : occ T u e := ⟨hv.1, h.trans hv.2⟩
theorem occ_nil {T : List α} {e : Nat} (h : e ≤ T.length) : occ T [] e := ⟨h, List.nil_suffix⟩
theorem suf_of_len {u v w : List α} (hu : u <:+ w) (hv : v <:+ w) (h : u.length ≤ v.length) : u <:+ v := List.suffix_of_suffix_length_le hu hv h
theorem occ_comp {T u v : List α} {e : Nat} (hu : occ T u e) (hv : occ T v e) (h : u.length ≤ v.length) : u <:+ v := suf_of_len hu.2 hv.2 h
theorem occ_full {T u : List α} : occ T u T.length ↔ u <:+ T := by
  unfold occ
  rw [List.take_length]
  exact ⟨fun h => h.2, fun h => ⟨Nat.le_refl _, h⟩⟩
theorem suf_snoc {u v : List α} {a b : α} : u ++ [a] <:+ v ++ [b] ↔ a = b ∧ u <:+ v := by
  constructor
  · rintro ⟨t, ht⟩
    rw [← List.append_assoc] at ht
    have := List.append_inj_right' ht rfl
    have h2 := List.append_inj_left' ht rfl
    exact ⟨by simpa using this, ⟨t, h2⟩⟩
  · rintro ⟨rfl, ⟨t, rfl⟩⟩
    exact ⟨t, by simp⟩
theorem suf_snoc_cases {u v : List α} {b : α} (h : u <:+ v ++ [b]) : u = [] ∨ ∃ u', u = u' ++ [b] ∧ u' <:+ v := by
  rcases List.eq_nil_or_concat u with rfl | ⟨u', a, rfl⟩
  · exact .inl rfl
  · rw [List.concat_eq_append] at *
    obtain ⟨rfl, h2⟩ := suf_snoc.1 h
    exact .inr ⟨u', rfl, h2⟩
theorem suf_eq {u v : List α} (h : u <:+ v) (hl : v.length ≤ u.length) : u = v := h.eq_of_length_le hl
theorem take_snoc {T : List α} {e : Nat} {c : α} (h : T[e]? = some c) : T.take (e + 1) = T.take e ++ [c] := by
  rw [List.take_add_one, h]; rfl
/-- Where 'u' and a sign behind it stand. -/
theorem occ_snoc {T u : List α} {c : α} {e : Nat} : occ T (u ++ [c]) e ↔ ∃ e', e = e' + 1 ∧ occ T u e' ∧ T[e']? = some c := by
  constructor
  · intro h
    have hl := occ_len h
    rw [List.length_append, List.length_singleton] at hl
    obtain ⟨e', rfl⟩ : ∃ e', e = e' + 1 := ⟨e - 1, by omega⟩
    have hlt : e' < T.length := by have := h.1; omega
    have hg : T[e']? = some T[e'] := List.getElem?_eq_getElem hlt
    have h2 := h.2
    rw [take_snoc hg] at h2
    obtain ⟨rfl, h3⟩ := suf_snoc.1 h2
    exact ⟨e', rfl, ⟨by omega, h3⟩, hg⟩
  · rintro ⟨e', rfl, h1, h2⟩
    have hlt : e' < T.length := (List.getElem?_eq_some_iff.1 h2).1
    refine ⟨by omega, ?_⟩
    rw [take_snoc h2]
    exact suf_snoc.2 ⟨rfl, h1.2⟩
/-- A sign more at the end of the text. -/
theorem occ_app {T u : List α} {c : α} {e : Nat} : occ (T ++ [c]) u e ↔ occ T u e ∨ (e = T.length + 1 ∧ u <:+ T ++ [c]) := by
  constructor
  · rintro ⟨h1, h2⟩
    rw [List.length_append, List.length_singleton] at h1
    by_cases h : e ≤ T.length
    · rw [List.take_append_of_le_length h] at h2
      exact .inl ⟨h, h2⟩
    · have e1 : e = T.length + 1 := by omega
      subst e1
      rw [List.take_of_length_le (by simp)] at h2
      exact .inr ⟨rfl, h2⟩
  · rintro (⟨h1, h2⟩ | ⟨rfl, h2⟩)
    · refine ⟨by simp; omega, ?_⟩
      rw [List.take_append_of_le_length h1]
      exact h2
    · exact ⟨by simp, by rw [List.take_of_length_le (by simp)]; exact h2⟩
theorem occ_mono {T u : List α} {c : α} {e : Nat} (h : occ T u e) : occ (T ++ [c]) u e := occ_app.2 (.inl h)
/-- 'u' is one of the parts that 'v' stands for: its end, and wherever it is, 'v' is. -/
def Of (T v u : List α) : Prop := u <:+ v ∧ ∀ e, occ T u e → occ T v e
theorem Of.self (T v : List α) : Of T v v := ⟨List.suffix_refl v, fun _ h => h⟩
/-- States: how long, the end of the first place, the shorter ends' state, edges. -/
structure Au (α : Type) where
  n : Nat
  L : Nat → Nat
  E : Nat → Nat
  K : Nat → Option Nat
  nx : Nat → α → Option Nat
structure Inv (T : List α) (A : Au α) (str : Nat → List α) : Prop where
  pos : 0 < A.n
  len : ∀ s, s < A.n → (str s).length = A.L s
  at_ : ∀ s, s < A.n → occ T (str s) (A.E s)
  first : ∀ s, s < A.n → ∀ e, occ T (str s) e → A.E s ≤ e
  closed : ∀ s, s < A.n → ∀ a, ¬ ∀ e, occ T (str s) e → occ T (a :: str s) e
  inj : ∀ s t, s < A.n → t < A.n → str s = str t → s = t
  cover : ∀ u e, occ T u e → ∃ s, s < A.n ∧ Of T (str s) u
  root : str 0 = [] ∧ A.K 0 = none
  link : ∀ s, s < A.n → s ≠ 0 → ∃ p, A.K s = some p ∧ p < A.n ∧ A.L p < A.L s ∧ str p <:+ str s ∧ ∀ u, u <:+ str s → A.L p < u.length → Of T (str s) u
  enone : ∀ s, s < A.n → ∀ c, A.nx s c = none → ∀ e, ¬ occ T (str s ++ [c]) e
  esome : ∀ s, s < A.n → ∀ c t, A.nx s c = some t → t < A.n ∧ (∃ e, occ T (str s ++ [c]) e) ∧ Of T (str t) (str s ++ [c])
theorem suf_strict {u v : List α} (h : u <:+ v) (hl : u.length < v.length) : ∃ a, a :: u <:+ v := by
  obtain ⟨t, rfl⟩ := h
  rcases List.eq_nil_or_concat t with rfl | ⟨t', a, rfl⟩
  · simp at hl
  · exact ⟨a, t', by simp⟩
theorem Inv.uniq1 {T : List α} {A : Au α} {str : Nat → List α} (h : Inv T A str) {s t : Nat} (hs : s < A.n) (ht : t < A.n) {u : List α} {e : Nat} (hu : occ T u e) (h1 : Of T (str s) u) (h2 : Of T (str t) u) : ¬ (str s).length < (str t).length := by
  intro hl
  have hsuf := occ_comp (h1.2 e hu) (h2.2 e hu) (by omega)
  obtain ⟨a, ha⟩ := suf_strict hsuf hl
  exact h.closed s hs a fun e' he' => occ_suf ha (h2.2 e' (occ_suf h1.1 he'))
/-- A part has one state. -/
theorem Inv.uniq {T : List α} {A : Au α} {str : Nat → List α} (h : Inv T A str) {s t : Nat} (hs : s < A.n) (ht : t < A.n) {u : List α} {e : Nat} (hu : occ T u e) (h1 : Of T (str s) u) (h2 : Of T (str t) u) : s = t := by
  have n1 := h.uniq1 hs ht hu h1 h2
  have n2 := h.uniq1 ht hs hu h2 h1
  have hsuf := occ_comp (h1.2 e hu) (h2.2 e hu) (by omega)
  exact h.inj s t hs ht (suf_eq hsuf (by omega))
theorem Inv.ext {T : List α} {A : Au α} {str : Nat → List α} {s : Nat} {u : List α} {c : α} {e : Nat} (h1 : Of T (str s) u) (h2 : occ T (u ++ [c]) e) : occ T (str s ++ [c]) e := by
  obtain ⟨e', rfl, h3, h4⟩ := occ_snoc.1 h2
  exact occ_snoc.2 ⟨e', rfl, h1.2 e' h3, h4⟩
/-- Reading on. -/
theorem Inv.read {T : List α} {A : Au α} {str : Nat → List α} (h : Inv T A str) {s : Nat} (hs : s < A.n) {u : List α} (h1 : Of T (str s) u) {c : α} : (A.nx s c = none → ∀ e, ¬ occ T (u ++ [c]) e) ∧ (∀ t, A.nx s c = some t → t < A.n ∧ (∃ e, occ T (u ++ [c]) e) ∧ Of T (str t) (u ++ [c])) := by
  refine ⟨fun hn e he => h.enone s hs c hn e (Inv.ext (A := A) h1 he), fun t ht => ?_⟩
  obtain ⟨h2, ⟨e, he⟩, h3⟩ := h.esome s hs c t ht
  have hsuf : u ++ [c] <:+ str s ++ [c] := suf_snoc.2 ⟨rfl, h1.1⟩
  exact ⟨h2, ⟨e, occ_suf hsuf he⟩, hsuf.trans h3.1, fun e' he' => h3.2 e' (Inv.ext (A := A) h1 he')⟩
/-- The empty text. -/
theorem inv_nil (A : Au α) (hn : A.n = 1) (h1 : A.L 0 = 0) (h2 : A.E 0 = 0) (h3 : A.K 0 = none) (h4 : ∀ c, A.nx 0 c = none) : Inv ([] : List α) A (fun _ => []) := by
  have hz : ∀ s, s < A.n → s = 0 := fun s hs => by omega
  have hno : ∀ (u : List α) e, occ ([] : List α) u e → u = [] ∧ e = 0 := fun u e h => by
    have := occ_le h
    have := occ_len h
    simp at *
    exact ⟨List.eq_nil_of_length_eq_zero (by omega), by omega⟩
  refine ⟨by omega, fun s hs => ?_, fun s hs => ?_, fun s hs e he => ?_, fun s hs a hall => ?_, fun s t hs ht _ => ?_, fun u e hu => ?_, ⟨rfl, h3⟩, fun s hs h => ?_, fun s hs c _ e he => ?_, fun s hs c t ht => ?_⟩
  · rw [hz s hs, h1]; rfl
  · rw [hz s hs, h2]; exact occ_nil (by simp)
  · rw [hz s hs, h2]; omega
  · have := hno _ _ (hall 0 (occ_nil (by simp))); simp at this
  · rw [hz s hs, hz t ht]
  · obtain ⟨rfl, rfl⟩ := hno u e hu
    exact ⟨0, by omega, Of.self _ _⟩
  · exact absurd (hz s hs) h
  · have := hno _ _ he; simp at this
  · rw [hz s hs, h4] at ht; cases ht
/-- What is the longest end of the new text that was there. -/
structure Wd (T : List α) (c : α) (w : List α) : Prop where
  suf : w <:+ T ++ [c]
  occ : ∃ e, occ T w e
  max : ∀ u, u <:+ T ++ [c] → (∃ e, Go.Proofs.occ T u e) → u.length ≤ w.length
/-- What stays of a state when a sign is added: but for one state, that is cut at the length of 'w'. -/
theorem of_keep {T : List α} {A : Au α} {str : Nat → List α} (h : Inv T A str) {c : α} {w : List α} (hw : Wd T c w) {q : Nat} (hq : q < A.n) (hqw : Of T (str q) w) {s : Nat} (hs : s < A.n) {u : List α} (h1 : Of T (str s) u) (hu : ∃ e, occ T u e)
    (hc : s ≠ q ∨ w.length < u.length ∨ str q = w) : Of (T ++ [c]) (str s) u := by
  refine ⟨h1.1, fun e he => ?_⟩
  rcases occ_app.1 he with h2 | ⟨rfl, h2⟩
  · exact occ_mono (h1.2 e h2)
  · have hl := hw.max u h2 hu
    have huw : u <:+ w := suf_of_len h2 hw.suf hl
    obtain ⟨e0, he0⟩ := hw.occ
    have hs0 := h1.2 e0 (occ_suf huw he0)
    refine occ_app.2 (.inr ⟨rfl, ?_⟩)
    by_cases hlen : (str s).length ≤ w.length
    · exact (occ_comp hs0 he0 hlen).trans hw.suf
    · have hws : w <:+ str s := occ_comp he0 hs0 (by omega)
      have hsw : Of T (str s) w := ⟨hws, fun e' he' => h1.2 e' (occ_suf huw he')⟩
      have heq := h.uniq hs hq he0 hsw hqw
      rcases hc with hc | hc | hc
      · exact absurd heq hc
      · omega
      · rw [heq, hc] at hlen; omega
/-- The new text itself stands for its ends that were not there. -/
theorem of_new {T : List α} {c : α} {u : List α} (hu : u <:+ T ++ [c]) (hn : ∀ e, ¬ occ T u e) : Of (T ++ [c]) (T ++ [c]) u := by
  refine ⟨hu, fun e he => ?_⟩
  rcases occ_app.1 he with he | ⟨rfl, _⟩
  · exact absurd he (hn e)
  · exact occ_app.2 (.inr ⟨rfl, List.suffix_refl _⟩)
theorem new_occ {T : List α} {c : α} {e : Nat} (h : occ (T ++ [c]) (T ++ [c]) e) : e = T.length + 1 := by
  have h1 := occ_len h
  have h2 := occ_le h
  simp only [List.length_append, List.length_singleton] at h1 h2
  omega
theorem new_no {T : List α} {c : α} {e : Nat} : ¬ occ T (T ++ [c]) e := fun h => by
  have h1 := occ_len h
  have h2 := occ_le h
  simp only [List.length_append, List.length_singleton] at h1
  omega
/-- Parts that end at the text's end: their states. -/
theorem chain_of {T : List α} {v u : List α} (h : Of T v u) (hu : u <:+ T) : v <:+ T := occ_full.1 (h.2 _ (occ_full.2 hu))
/-- A sign is added, where the longest end that was there has a state of its own. -/
theorem step1 {T : List α} {A A' : Au α} {str str' : Nat → List α} (h : Inv T A str) {c : α} {w : List α} (hw : Wd T c w) {q : Nat} (hq : q < A.n) (hqw : str q = w)
    (hn : A'.n = A.n + 1) (hs0 : ∀ s, s < A.n → str' s = str s) (hsn : str' A.n = T ++ [c])
    (hL : ∀ s, s < A.n → A'.L s = A.L s) (hLn : A'.L A.n = T.length + 1) (hE : ∀ s, s < A.n → A'.E s = A.E s) (hEn : A'.E A.n = T.length + 1)
    (hK : ∀ s, s < A.n → A'.K s = A.K s) (hKn : A'.K A.n = some q)
    (hx1 : ∀ s, s < A.n → str s <:+ T → A.nx s c = none → A'.nx s c = some A.n) (hx2 : ∀ s d, s < A.n → ¬ (d = c ∧ str s <:+ T ∧ A.nx s c = none) → A'.nx s d = A.nx s d) (hxn : ∀ d, A'.nx A.n d = none) : Inv (T ++ [c]) A' str' := by
  have hqo : Of T (str q) w := by rw [hqw]; exact Of.self _ _
  have keep : ∀ s, s < A.n → ∀ u, Of T (str s) u → (∃ e, occ T u e) → Of (T ++ [c]) (str s) u := fun s hs u h1 hu => of_keep h hw hq hqo hs h1 hu (.inr (.inr hqw))
  have split : ∀ s, s < A'.n → s < A.n ∨ s = A.n := fun s hs => by omega
  have hocc : ∀ s, s < A.n → ∃ e, occ T (str s) e := fun s hs => ⟨_, h.at_ s hs⟩
  have hEle : ∀ s, s < A.n → A.E s ≤ T.length := fun s hs => occ_le (h.at_ s hs)
  have hlw : w.length ≤ T.length := by obtain ⟨e, he⟩ := hw.occ; have := occ_len he; have := occ_le he; omega
  refine ⟨by omega, ?_, ?_, ?_, ?_, ?_, ?_, ?_, ?_, ?_, ?_⟩
  · intro s hs
    rcases split s hs with hs | rfl
    · rw [hs0 s hs, hL s hs]; exact h.len s hs
    · rw [hsn, hLn]; simp
  · intro s hs
    rcases split s hs with hs | rfl
    · rw [hs0 s hs, hE s hs]; exact occ_mono (h.at_ s hs)
    · rw [hsn, hEn]; exact occ_app.2 (.inr ⟨rfl, List.suffix_refl _⟩)
  · intro s hs e he
    rcases split s hs with hs | rfl
    · rw [hs0 s hs] at he
      rw [hE s hs]
      rcases occ_app.1 he with he | ⟨rfl, _⟩
      · exact h.first s hs e he
      · have := hEle s hs; omega
    · rw [hsn] at he
      rw [hEn, new_occ he]; exact Nat.le_refl _
  · intro s hs a hall
    rcases split s hs with hs | rfl
    · rw [hs0 s hs] at hall
      refine h.closed s hs a fun e he => ?_
      rcases occ_app.1 (hall e (occ_mono he)) with h2 | ⟨rfl, _⟩
      · exact h2
      · have := occ_le he; omega
    · rw [hsn] at hall
      have h1 := hall (T.length + 1) (occ_app.2 (.inr ⟨rfl, List.suffix_refl _⟩))
      have h2 := occ_len h1
      simp only [List.length_cons, List.length_append, List.length_singleton, List.length_nil] at h2
      omega
  · intro s t hs ht he
    rcases split s hs with hs | rfl <;> rcases split t ht with ht | rfl
    · rw [hs0 s hs, hs0 t ht] at he; exact h.inj s t hs ht he
    · rw [hs0 s hs, hsn] at he; have := h.at_ s hs; rw [he] at this; exact absurd this new_no
    · rw [hs0 t ht, hsn] at he; have := h.at_ t ht; rw [← he] at this; exact absurd this new_no
    · rfl
  · intro u e he
    by_cases hu : ∃ e, occ T u e
    · obtain ⟨e0, he0⟩ := hu
      obtain ⟨s, hs, h1⟩ := h.cover u e0 he0
      exact ⟨s, by omega, by rw [hs0 s hs]; exact keep s hs u h1 ⟨e0, he0⟩⟩
    · rcases occ_app.1 he with h1 | ⟨rfl, h1⟩
      · exact absurd ⟨e, h1⟩ hu
      · exact ⟨A.n, by omega, by rw [hsn]; exact of_new h1 fun e h2 => hu ⟨e, h2⟩⟩
  · exact ⟨by rw [hs0 0 h.pos]; exact h.root.1, by rw [hK 0 h.pos]; exact h.root.2⟩
  · intro s hs hne
    rcases split s hs with hs | rfl
    · obtain ⟨p, h1, h2, h3, h4, h5⟩ := h.link s hs hne
      refine ⟨p, by rw [hK s hs]; exact h1, by omega, by rw [hL p h2, hL s hs]; exact h3, by rw [hs0 p h2, hs0 s hs]; exact h4, fun u hu hl => ?_⟩
      rw [hs0 s hs] at hu ⊢
      rw [hL p h2] at hl
      obtain ⟨e, he⟩ := hocc s hs
      exact keep s hs u (h5 u hu hl) ⟨e, occ_suf hu he⟩
    · refine ⟨q, hKn, by omega, by rw [hL q hq, hLn, ← h.len q hq, hqw]; omega, by rw [hs0 q hq, hsn, hqw]; exact hw.suf, fun u hu hl => ?_⟩
      rw [hsn] at hu ⊢
      rw [hL q hq, ← h.len q hq, hqw] at hl
      refine of_new hu fun e he => ?_
      have := hw.max u hu ⟨e, he⟩
      omega
  · intro s hs d hd e he
    rcases split s hs with hs | rfl
    · rw [hs0 s hs] at he
      by_cases hc : d = c ∧ str s <:+ T ∧ A.nx s c = none
      · rw [hc.1, hx1 s hs hc.2.1 hc.2.2] at hd; cases hd
      · rw [hx2 s d hs hc] at hd
        rcases occ_app.1 he with h1 | ⟨rfl, h1⟩
        · exact h.enone s hs d hd e h1
        · obtain ⟨rfl, h2⟩ := suf_snoc.1 h1
          exact hc ⟨rfl, h2, hd⟩
    · rw [hsn] at he
      have h1 := occ_len he
      have h2 := occ_le he
      simp only [List.length_append, List.length_singleton] at h1 h2
      omega
  · intro s hs d t ht
    rcases split s hs with hs | rfl
    · rw [hs0 s hs]
      by_cases hc : d = c ∧ str s <:+ T ∧ A.nx s c = none
      · obtain ⟨rfl, h1, h2⟩ := hc
        rw [hx1 s hs h1 h2] at ht
        cases ht
        have hsuf : str s ++ [d] <:+ T ++ [d] := suf_snoc.2 ⟨rfl, h1⟩
        exact ⟨by omega, ⟨T.length + 1, occ_app.2 (.inr ⟨rfl, hsuf⟩)⟩, by rw [hsn]; exact of_new hsuf (h.enone s hs d h2)⟩
      · rw [hx2 s d hs hc] at ht
        obtain ⟨h1, ⟨e, he⟩, h3⟩ := h.esome s hs d t ht
        exact ⟨by omega, ⟨e, occ_mono he⟩, by rw [hs0 t h1]; exact keep t h1 _ h3 ⟨e, he⟩⟩
    · rw [hxn d] at ht; cases ht
end
end Go.Proofs

/- Plain laws: the automaton, where a state is cut in two. -/
namespace Go.Proofs
set_option linter.unusedSimpArgs false
set_option linter.unusedVariables false
section
variable {α : Type}
/-- What the cut state's shorter parts become. -/
theorem of_half {T : List α} {v w u : List α} {c : α} (hw : Wd T c w) (hv : Of T v w) (h1 : Of T v u) (hu : ∃ e, occ T u e) (hl : u.length ≤ w.length) : Of (T ++ [c]) w u := by
  obtain ⟨e0, he0⟩ := hu
  have huw : u <:+ w := suf_of_len h1.1 hv.1 hl
  refine ⟨huw, fun e he => ?_⟩
  rcases occ_app.1 he with h2 | ⟨rfl, h2⟩
  · exact occ_mono (occ_suf hv.1 (h1.2 e h2))
  · exact occ_app.2 (.inr ⟨rfl, hw.suf⟩)
/-- A sign is added, where the longest end that was there, 'w', has the state of a longer part: it gets a state of its own, 'm'. -/
theorem step2 {T : List α} {A A' : Au α} {str str' : Nat → List α} (h : Inv T A str) {c : α} {w : List α} (hw : Wd T c w) {q : Nat} (hq : q < A.n) (hqo : Of T (str q) w) (hlt : w.length < (str q).length)
    (hn : A'.n = A.n + 2) (hs0 : ∀ s, s < A.n → str' s = str s) (hsn : str' A.n = T ++ [c]) (hsm : str' (A.n + 1) = w)
    (hL : ∀ s, s < A.n → A'.L s = A.L s) (hLn : A'.L A.n = T.length + 1) (hLm : A'.L (A.n + 1) = w.length)
    (hE : ∀ s, s < A.n → A'.E s = A.E s) (hEn : A'.E A.n = T.length + 1) (hEm : A'.E (A.n + 1) = A.E q)
    (hK : ∀ s, s < A.n → s ≠ q → A'.K s = A.K s) (hKq : A'.K q = some (A.n + 1)) (hKn : A'.K A.n = some (A.n + 1)) (hKm : A'.K (A.n + 1) = A.K q)
    (hx1 : ∀ s, s < A.n → str s <:+ T → A.nx s c = none → A'.nx s c = some A.n) (hx2 : ∀ s, s < A.n → str s <:+ T → A.nx s c = some q → A'.nx s c = some (A.n + 1))
    (hx3 : ∀ s d, s < A.n → ¬ (d = c ∧ str s <:+ T ∧ (A.nx s c = none ∨ A.nx s c = some q)) → A'.nx s d = A.nx s d) (hxn : ∀ d, A'.nx A.n d = none)
    (hm1 : str q <:+ T → A.nx q c = none → A'.nx (A.n + 1) c = some A.n) (hm2 : ∀ d, ¬ (d = c ∧ str q <:+ T ∧ A.nx q c = none) → A'.nx (A.n + 1) d = A.nx q d) : Inv (T ++ [c]) A' str' := by
  obtain ⟨ew, hew⟩ := hw.occ
  have keep : ∀ s, s < A.n → ∀ u, Of T (str s) u → (∃ e, occ T u e) → (s ≠ q ∨ w.length < u.length) → Of (T ++ [c]) (str s) u := fun s hs u h1 hu hc => of_keep h hw hq hqo hs h1 hu (by rcases hc with hc | hc; exact .inl hc; exact .inr (.inl hc))
  have half : ∀ u, Of T (str q) u → (∃ e, occ T u e) → u.length ≤ w.length → Of (T ++ [c]) w u := fun u h1 hu hl => of_half hw hqo h1 hu hl
  have split : ∀ s, s < A'.n → s < A.n ∨ s = A.n ∨ s = A.n + 1 := fun s hs => by omega
  have hocc : ∀ s, s < A.n → ∃ e, occ T (str s) e := fun s hs => ⟨_, h.at_ s hs⟩
  have hEle : ∀ s, s < A.n → A.E s ≤ T.length := fun s hs => occ_le (h.at_ s hs)
  have hlw : w.length ≤ T.length := by have := occ_len hew; have := occ_le hew; omega
  have hwq : ∀ e, occ T w e → occ T (str q) e := hqo.2
  have hq0 : q ≠ 0 := fun e => by rw [e, h.root.1] at hlt; simp at hlt
  obtain ⟨p0, hp1, hp2, hp3, hp4, hp5⟩ := h.link q hq hq0
  have hp0w : A.L p0 < w.length := by
    by_cases hc : A.L p0 < w.length
    · exact hc
    · have hw0 : w <:+ str p0 := suf_of_len hqo.1 hp4 (by rw [h.len p0 hp2]; omega)
      have e := h.uniq hp2 hq hew ⟨hw0, fun e he => occ_suf hp4 (hwq e he)⟩ hqo
      rw [e] at hp3; omega
  have hnew : ∀ s, s < A.n → str s ≠ w := fun s hs e => by
    have hso : Of T (str s) w := by rw [e]; exact Of.self _ _
    have := h.uniq hs hq hew hso hqo
    subst this
    rw [e] at hlt; omega
  have hwo : occ (T ++ [c]) w (T.length + 1) := occ_app.2 (.inr ⟨rfl, hw.suf⟩)
  refine ⟨by omega, ?_, ?_, ?_, ?_, ?_, ?_, ?_, ?_, ?_, ?_⟩
  · intro s hs
    rcases split s hs with hs | rfl | rfl
    · rw [hs0 s hs, hL s hs]; exact h.len s hs
    · rw [hsn, hLn]; simp
    · rw [hsm, hLm]
  · intro s hs
    rcases split s hs with hs | rfl | rfl
    · rw [hs0 s hs, hE s hs]; exact occ_mono (h.at_ s hs)
    · rw [hsn, hEn]; exact occ_app.2 (.inr ⟨rfl, List.suffix_refl _⟩)
    · rw [hsm, hEm]; exact occ_mono (occ_suf hqo.1 (h.at_ q hq))
  · intro s hs e he
    rcases split s hs with hs | rfl | rfl
    · rw [hs0 s hs] at he
      rw [hE s hs]
      rcases occ_app.1 he with h1 | ⟨rfl, _⟩
      · exact h.first s hs e h1
      · have := hEle s hs; omega
    · rw [hsn] at he
      rw [hEn, new_occ he]; exact Nat.le_refl _
    · rw [hsm] at he
      rw [hEm]
      rcases occ_app.1 he with h1 | ⟨rfl, _⟩
      · exact h.first q hq e (hwq e h1)
      · have := hEle q hq; omega
  · intro s hs a hall
    rcases split s hs with hs | rfl | rfl
    · rw [hs0 s hs] at hall
      refine h.closed s hs a fun e he => ?_
      rcases occ_app.1 (hall e (occ_mono he)) with h2 | ⟨rfl, _⟩
      · exact h2
      · have := occ_le he; omega
    · rw [hsn] at hall
      have h1 := hall (T.length + 1) (occ_app.2 (.inr ⟨rfl, List.suffix_refl _⟩))
      have h2 := occ_len h1
      simp only [List.length_cons, List.length_append, List.length_singleton, List.length_nil] at h2
      omega
    · rw [hsm] at hall
      have h1 := hall _ hwo
      have h2 : a :: w <:+ T ++ [c] := by
        rcases occ_app.1 h1 with h3 | ⟨_, h3⟩
        · have := occ_le h3; omega
        · exact h3
      have h3 : occ T (a :: w) ew := by
        rcases occ_app.1 (hall ew (occ_mono hew)) with h4 | ⟨e, _⟩
        · exact h4
        · have := occ_le hew; omega
      have := hw.max _ h2 ⟨ew, h3⟩
      simp only [List.length_cons] at this
      omega
  · intro s t hs ht he
    have a1 : ∀ s, s < A.n → str s ≠ T ++ [c] := fun s hs e => by have := h.at_ s hs; rw [e] at this; exact new_no this
    have a2 : w ≠ T ++ [c] := fun e => by rw [e] at hew; exact new_no hew
    rcases split s hs with hs | rfl | rfl <;> rcases split t ht with ht | rfl | rfl
    · rw [hs0 s hs, hs0 t ht] at he; exact h.inj s t hs ht he
    · rw [hs0 s hs, hsn] at he; exact absurd he (a1 s hs)
    · rw [hs0 s hs, hsm] at he; exact absurd he (hnew s hs)
    · rw [hs0 t ht, hsn] at he; exact absurd he.symm (a1 t ht)
    · rfl
    · rw [hsn, hsm] at he; exact absurd he.symm a2
    · rw [hs0 t ht, hsm] at he; exact absurd he.symm (hnew t ht)
    · rw [hsn, hsm] at he; exact absurd he a2
    · rfl
  · intro u e he
    by_cases hu : ∃ e, occ T u e
    · obtain ⟨e0, he0⟩ := hu
      obtain ⟨s, hs, h1⟩ := h.cover u e0 he0
      by_cases hc : s ≠ q ∨ w.length < u.length
      · exact ⟨s, by omega, by rw [hs0 s hs]; exact keep s hs u h1 ⟨e0, he0⟩ hc⟩
      · have e1 : s = q := Classical.byContradiction fun h => hc (.inl h)
        subst e1
        exact ⟨A.n + 1, by omega, by rw [hsm]; exact half u h1 ⟨e0, he0⟩ (by omega)⟩
    · rcases occ_app.1 he with h1 | ⟨rfl, h1⟩
      · exact absurd ⟨e, h1⟩ hu
      · exact ⟨A.n, by omega, by rw [hsn]; exact of_new h1 fun e h2 => hu ⟨e, h2⟩⟩
  · exact ⟨by rw [hs0 0 h.pos]; exact h.root.1, by rw [hK 0 h.pos (fun e => hq0 e.symm)]; exact h.root.2⟩
  · intro s hs hne
    rcases split s hs with hs | rfl | rfl
    · obtain ⟨e, he⟩ := hocc s hs
      by_cases hsq : s = q
      · subst hsq
        refine ⟨A.n + 1, hKq, by omega, by rw [hLm, hL s hs, ← h.len s hs]; exact hlt, by rw [hsm, hs0 s hs]; exact hqo.1, fun u hu hl => ?_⟩
        rw [hs0 s hs] at hu ⊢
        rw [hLm] at hl
        exact keep s hs u (hp5 u hu (by omega)) ⟨e, occ_suf hu he⟩ (.inr hl)
      · obtain ⟨p, h1, h2, h3, h4, h5⟩ := h.link s hs hne
        refine ⟨p, by rw [hK s hs hsq]; exact h1, by omega, by rw [hL p h2, hL s hs]; exact h3, by rw [hs0 p h2, hs0 s hs]; exact h4, fun u hu hl => ?_⟩
        rw [hs0 s hs] at hu ⊢
        rw [hL p h2] at hl
        exact keep s hs u (h5 u hu hl) ⟨e, occ_suf hu he⟩ (.inl hsq)
    · refine ⟨A.n + 1, hKn, by omega, by rw [hLm, hLn]; omega, by rw [hsm, hsn]; exact hw.suf, fun u hu hl => ?_⟩
      rw [hsn] at hu ⊢
      rw [hLm] at hl
      refine of_new hu fun e he => ?_
      have := hw.max u hu ⟨e, he⟩
      omega
    · refine ⟨p0, by rw [hKm]; exact hp1, by omega, by rw [hL p0 hp2, hLm]; exact hp0w, by rw [hs0 p0 hp2, hsm]; exact suf_of_len hp4 hqo.1 (by rw [h.len p0 hp2]; omega), fun u hu hl => ?_⟩
      rw [hsm] at hu ⊢
      rw [hL p0 hp2] at hl
      exact half u (hp5 u (hu.trans hqo.1) hl) ⟨ew, occ_suf hu hew⟩ hu.length_le
  · intro s hs d hd e he
    rcases split s hs with hs | rfl | rfl
    · rw [hs0 s hs] at he
      by_cases hc : d = c ∧ str s <:+ T ∧ (A.nx s c = none ∨ A.nx s c = some q)
      · obtain ⟨rfl, h1, h2⟩ := hc
        rcases h2 with h2 | h2
        · rw [hx1 s hs h1 h2] at hd; cases hd
        · rw [hx2 s hs h1 h2] at hd; cases hd
      · rw [hx3 s d hs hc] at hd
        rcases occ_app.1 he with h1 | ⟨rfl, h1⟩
        · exact h.enone s hs d hd e h1
        · obtain ⟨rfl, h2⟩ := suf_snoc.1 h1
          exact hc ⟨rfl, h2, .inl hd⟩
    · rw [hsn] at he
      have h1 := occ_len he
      have h2 := occ_le he
      simp only [List.length_append, List.length_singleton] at h1 h2
      omega
    · rw [hsm] at he
      by_cases hc : d = c ∧ str q <:+ T ∧ A.nx q c = none
      · rw [hc.1, hm1 hc.2.1 hc.2.2] at hd; cases hd
      · rw [hm2 d hc] at hd
        rcases occ_app.1 he with h1 | ⟨rfl, h1⟩
        · exact h.enone q hq d hd e (Inv.ext (A := A) hqo h1)
        · obtain ⟨rfl, h2⟩ := suf_snoc.1 h1
          exact hc ⟨rfl, chain_of hqo h2, hd⟩
  · intro s hs d t ht
    rcases split s hs with hs | rfl | rfl
    · rw [hs0 s hs]
      by_cases hc : d = c ∧ str s <:+ T ∧ (A.nx s c = none ∨ A.nx s c = some q)
      · obtain ⟨rfl, h1, h2⟩ := hc
        have hsuf : str s ++ [d] <:+ T ++ [d] := suf_snoc.2 ⟨rfl, h1⟩
        have ho : occ (T ++ [d]) (str s ++ [d]) (T.length + 1) := occ_app.2 (.inr ⟨rfl, hsuf⟩)
        rcases h2 with h2 | h2
        · rw [hx1 s hs h1 h2] at ht
          cases ht
          exact ⟨by omega, ⟨_, ho⟩, by rw [hsn]; exact of_new hsuf (h.enone s hs d h2)⟩
        · rw [hx2 s hs h1 h2] at ht
          cases ht
          obtain ⟨_, ⟨e, he⟩, h3⟩ := h.esome s hs d q h2
          exact ⟨by omega, ⟨_, ho⟩, by rw [hsm]; exact half _ h3 ⟨e, he⟩ (hw.max _ hsuf ⟨e, he⟩)⟩
      · rw [hx3 s d hs hc] at ht
        obtain ⟨h1, ⟨e, he⟩, h3⟩ := h.esome s hs d t ht
        refine ⟨by omega, ⟨e, occ_mono he⟩, ?_⟩
        rw [hs0 t h1]
        refine keep t h1 _ h3 ⟨e, he⟩ ?_
        by_cases htq : t = q
        · subst htq
          refine .inr (Nat.lt_of_not_le fun hle => hc ?_)
          have hsw : str s ++ [d] <:+ w := suf_of_len h3.1 hqo.1 hle
          have hsT := hsw.trans hw.suf
          obtain ⟨rfl, h4⟩ := suf_snoc.1 hsT
          exact ⟨rfl, h4, .inr ht⟩
        · exact .inl htq
    · rw [hxn d] at ht; cases ht
    · rw [hsm]
      by_cases hc : d = c ∧ str q <:+ T ∧ A.nx q c = none
      · obtain ⟨rfl, h1, h2⟩ := hc
        rw [hm1 h1 h2] at ht
        cases ht
        have hsuf : w ++ [d] <:+ T ++ [d] := suf_snoc.2 ⟨rfl, hqo.1.trans h1⟩
        refine ⟨by omega, ⟨T.length + 1, occ_app.2 (.inr ⟨rfl, hsuf⟩)⟩, ?_⟩
        rw [hsn]
        exact of_new hsuf fun e he => h.enone q hq d h2 e (Inv.ext (A := A) hqo he)
      · rw [hm2 d hc] at ht
        obtain ⟨h1, ⟨e, he⟩, h3⟩ := h.esome q hq d t ht
        have hsuf : w ++ [d] <:+ str q ++ [d] := suf_snoc.2 ⟨rfl, hqo.1⟩
        refine ⟨by omega, ⟨e, occ_mono (occ_suf hsuf he)⟩, ?_⟩
        rw [hs0 t h1]
        refine keep t h1 _ ⟨hsuf.trans h3.1, fun e' he' => h3.2 e' (Inv.ext (A := A) hqo he')⟩ ⟨e, occ_suf hsuf he⟩ ?_
        by_cases htq : t = q
        · subst htq
          refine .inr ?_
          simp
        · exact .inl htq
/-! ### The states whose parts end where the text ends -/
theorem Inv.chain_gap {T : List α} {A : Au α} {str : Nat → List α} (h : Inv T A str) {s p p2 : Nat} (hs : s < A.n) (hp : p < A.n) (hsT : str s <:+ T) (hpT : str p <:+ T) (hk : A.K p = some p2) (h1 : A.L p2 < A.L s) (h2 : A.L s ≤ A.L p) : s = p := by
  have hp0 : p ≠ 0 := fun e => by rw [e, h.root.2] at hk; cases hk
  obtain ⟨p', k1, k2, k3, k4, k5⟩ := h.link p hp hp0
  rw [hk] at k1
  cases k1
  have hsuf : str s <:+ str p := suf_of_len hsT hpT (by rw [h.len s hs, h.len p hp]; exact h2)
  exact h.uniq hs hp (h.at_ s hs) (Of.self _ _) (k5 _ hsuf (by rw [h.len s hs]; exact h1))
theorem Inv.chain_root {T : List α} {A : Au α} {str : Nat → List α} (h : Inv T A str) {s p : Nat} (hs : s < A.n) (hp : p < A.n) (hk : A.K p = none) (h2 : A.L s ≤ A.L p) : s = p := by
  have hp0 : p = 0 := Classical.byContradiction fun e => by obtain ⟨p', k1, _⟩ := h.link p hp e; rw [hk] at k1; cases k1
  subst hp0
  have hl : A.L 0 = 0 := by rw [← h.len 0 h.pos, h.root.1]; rfl
  refine h.inj s 0 hs h.pos ?_
  rw [h.root.1]
  exact List.eq_nil_of_length_eq_zero (by rw [h.len s hs]; omega)
theorem Inv.chain_link {T : List α} {A : Au α} {str : Nat → List α} (h : Inv T A str) {p p2 : Nat} (hp : p < A.n) (hpT : str p <:+ T) (hk : A.K p = some p2) : p2 < A.n ∧ str p2 <:+ T ∧ A.L p2 < A.L p := by
  have hp0 : p ≠ 0 := fun e => by rw [e, h.root.2] at hk; cases hk
  obtain ⟨p', k1, k2, k3, k4, k5⟩ := h.link p hp hp0
  rw [hk] at k1
  cases k1
  exact ⟨k2, k4.trans hpT, k3⟩
/-- Shorter ends have edges where longer ones have. -/
theorem Inv.chain_edge {T : List α} {A : Au α} {str : Nat → List α} (h : Inv T A str) {s p q : Nat} {c : α} (hs : s < A.n) (hp : p < A.n) (hsT : str s <:+ T) (hpT : str p <:+ T) (hl : A.L s ≤ A.L p) (hq : A.nx p c = some q) : ∃ t, A.nx s c = some t := by
  obtain ⟨_, ⟨e, he⟩, _⟩ := h.esome p hp c q hq
  cases hn : A.nx s c with
  | some t => exact ⟨t, rfl⟩
  | none =>
    have hsuf : str s <:+ str p := suf_of_len hsT hpT (by rw [h.len s hs, h.len p hp]; exact hl)
    exact absurd (occ_suf (suf_snoc.2 ⟨rfl, hsuf⟩) he) (h.enone s hs c hn e)
/-- The first end with an edge tells the longest end that was there. -/
theorem Inv.wd_some {T : List α} {A : Au α} {str : Nat → List α} (h : Inv T A str) {p q : Nat} {c : α} (hp : p < A.n) (hpT : str p <:+ T) (hq : A.nx p c = some q) (hmax : ∀ s, s < A.n → str s <:+ T → A.L p < A.L s → A.nx s c = none) :
    Wd T c (str p ++ [c]) ∧ q < A.n ∧ Of T (str q) (str p ++ [c]) := by
  obtain ⟨h1, h2, h3⟩ := h.esome p hp c q hq
  refine ⟨⟨suf_snoc.2 ⟨rfl, hpT⟩, h2, fun u hu hocc => ?_⟩, h1, h3⟩
  obtain ⟨e, he⟩ := hocc
  rcases suf_snoc_cases hu with rfl | ⟨u', rfl, hu'⟩
  · simp
  · obtain ⟨s, hs, hso⟩ := h.cover u' _ (occ_full.2 hu')
    have hsT := chain_of hso hu'
    have hle : A.L s ≤ A.L p := Nat.le_of_not_lt fun hlt => h.enone s hs c (hmax s hs hsT hlt) e (Inv.ext (A := A) hso he)
    have hul := hso.1.length_le
    rw [h.len s hs] at hul
    rw [List.length_append, List.length_append, h.len p hp]
    omega
theorem Inv.wd_none {T : List α} {A : Au α} {str : Nat → List α} (h : Inv T A str) {c : α} (hmax : ∀ s, s < A.n → str s <:+ T → A.nx s c = none) : Wd T c (str 0) := by
  rw [h.root.1]
  refine ⟨List.nil_suffix, ⟨0, occ_nil (Nat.zero_le _)⟩, fun u hu hocc => ?_⟩
  obtain ⟨e, he⟩ := hocc
  rcases suf_snoc_cases hu with rfl | ⟨u', rfl, hu'⟩
  · exact Nat.le_refl _
  · obtain ⟨s, hs, hso⟩ := h.cover u' _ (occ_full.2 hu')
    exact absurd (Inv.ext (A := A) hso he) (h.enone s hs c (hmax s hs (chain_of hso hu')) e)
/-- Ends whose edge leads to 'q' lie side by side. -/
theorem Inv.chain_q {T : List α} {A : Au α} {str : Nat → List α} (h : Inv T A str) {p s r q t : Nat} {c : α} (hp : p < A.n) (hs : s < A.n) (hr : r < A.n) (hpT : str p <:+ T) (hsT : str s <:+ T) (hrT : str r <:+ T) (h1 : A.nx p c = some q) (h2 : A.nx s c = some q) (l1 : A.L s ≤ A.L r) (l2 : A.L r ≤ A.L p) (h3 : A.nx r c = some t) : t = q := by
  obtain ⟨a1, ⟨e, he⟩, a3⟩ := h.esome p hp c q h1
  obtain ⟨b1, _, b3⟩ := h.esome s hs c q h2
  obtain ⟨c1, ⟨e2, he2⟩, c3⟩ := h.esome r hr c t h3
  have hsr : str s <:+ str r := suf_of_len hsT hrT (by rw [h.len s hs, h.len r hr]; exact l1)
  have hrp : str r <:+ str p := suf_of_len hrT hpT (by rw [h.len p hp, h.len r hr]; exact l2)
  have x1 : str s ++ [c] <:+ str r ++ [c] := suf_snoc.2 ⟨rfl, hsr⟩
  have x2 : str r ++ [c] <:+ str p ++ [c] := suf_snoc.2 ⟨rfl, hrp⟩
  exact h.uniq c1 a1 he2 c3 ⟨x2.trans a3.1, fun e' he' => b3.2 e' (occ_suf x1 he')⟩
end
end Go.Proofs

/- Plain laws: the automaton as a list of states; a sign is added as the program adds it. -/
namespace Go.Proofs
set_option linter.unusedSimpArgs false
set_option linter.unusedVariables false
structure Ste where
  long : Nat
  fin : Nat
  link : Int
  edges : List (UInt8 × Nat)
def Ste.z : Ste := ⟨0, 0, -1, []⟩
def nxE : List (UInt8 × Nat) → UInt8 → Option Nat
  | [], _ => none
  | e :: l, c => if e.1 = c then some e.2 else nxE l c
def setE : List (UInt8 × Nat) → UInt8 → Nat → List (UInt8 × Nat)
  | [], c, t => [(c, t)]
  | e :: l, c, t => if e.1 = c then (e.1, t) :: l else e :: setE l c t
theorem nxE_set (l : List (UInt8 × Nat)) (c : UInt8) (t : Nat) (d : UInt8) : nxE (setE l c t) d = if d = c then some t else nxE l d := by
  induction l with
  | nil =>
    simp only [setE, nxE]
    by_cases h : c = d
    · rw [if_pos h, if_pos h.symm]
    · rw [if_neg h, if_neg (fun e => h e.symm)]
  | cons e l ih =>
    rw [setE]
    by_cases he : e.1 = c
    · rw [if_pos he, nxE, nxE]
      simp only
      by_cases hd : d = c
      · rw [if_pos hd, if_pos (by rw [he, hd])]
      · rw [if_neg hd, if_neg (by rw [he]; exact fun h => hd h.symm), if_neg (by rw [he]; exact fun h => hd h.symm)]
    · rw [if_neg he, nxE, nxE, ih]
      by_cases hd : e.1 = d
      · rw [if_pos hd, if_pos hd, if_neg (by rw [← hd]; exact he)]
      · rw [if_neg hd, if_neg hd]
theorem setE_len (l : List (UInt8 × Nat)) (c : UInt8) (t : Nat) : (setE l c t).length = if nxE l c = none then l.length + 1 else l.length := by
  induction l with
  | nil => simp [setE, nxE]
  | cons e l ih =>
    rw [setE, nxE]
    by_cases he : e.1 = c
    · rw [if_pos he, if_pos he, if_neg (by simp)]; rfl
    · rw [if_neg he, if_neg he, List.length_cons, ih]
      split <;> simp
def gS (sts : List Ste) (s : Nat) : Ste := sts.getD s Ste.z
theorem gS_get {sts : List Ste} {s : Nat} (h : s < sts.length) : sts[s]? = some (gS sts s) := by
  simp [gS, List.getD, List.getElem?_eq_getElem h]
theorem gS_set {sts : List Ste} {p s : Nat} {x : Ste} (h : p < sts.length) : gS (sts.set p x) s = if s = p then x else gS sts s := by
  unfold gS List.getD
  rw [List.getElem?_set]
  by_cases e : p = s
  · subst e; simp [h]
  · rw [if_neg e, if_neg (fun h => e h.symm)]
theorem gS_left {sts l : List Ste} {s : Nat} (h : s < sts.length) : gS (sts ++ l) s = gS sts s := by
  unfold gS List.getD
  rw [List.getElem?_append_left h]
theorem gS_new (sts : List Ste) (x : Ste) : gS (sts ++ [x]) sts.length = x := by simp [gS, List.getD]
def setS (sts : List Ste) (p : Nat) (c : UInt8) (t : Nat) : List Ste := sts.set p ⟨(gS sts p).long, (gS sts p).fin, (gS sts p).link, setE (gS sts p).edges c t⟩
def linkS (sts : List Ste) (p : Nat) (l : Nat) : List Ste := sts.set p ⟨(gS sts p).long, (gS sts p).fin, (l : Int), (gS sts p).edges⟩
theorem setS_len (sts : List Ste) (p : Nat) (c : UInt8) (t : Nat) : (setS sts p c t).length = sts.length := by simp [setS]
theorem linkS_len (sts : List Ste) (p l : Nat) : (linkS sts p l).length = sts.length := by simp [linkS]
/-- From state to state along the shorter ends: an edge is set where there is none. -/
def ch1 (c : UInt8) (n : Nat) : Nat → List Ste → Int → List Ste × Int
  | 0, sts, p => (sts, p)
  | f + 1, sts, p => if p < 0 then (sts, p) else if nxE (gS sts p.toNat).edges c = none then ch1 c n f (setS sts p.toNat c n) (gS sts p.toNat).link else (sts, p)
/-- .. an edge is led elsewhere. -/
def ch2 (c : UInt8) (q m : Nat) : Nat → List Ste → Int → List Ste
  | 0, sts, _ => sts
  | f + 1, sts, p => if p < 0 then sts else if nxE (gS sts p.toNat).edges c = some q then ch2 c q m f (setS sts p.toNat c m) (gS sts p.toNat).link else sts
/-- A sign is added; 'e': how many there are then. -/
def addL (sts : List Ste) (last : Nat) (c : UInt8) (e : Nat) : List Ste :=
  let r := ch1 c sts.length (e + 1) (sts ++ [⟨e, e, 0, []⟩]) (last : Int)
  if r.2 < 0 then r.1 else
    match nxE (gS r.1 r.2.toNat).edges c with
    | none => r.1
    | some q =>
      if (gS r.1 q).long = (gS r.1 r.2.toNat).long + 1 then linkS r.1 sts.length q else
        linkS (linkS (ch2 c q r.1.length (e + 1) (r.1 ++ [⟨(gS r.1 r.2.toNat).long + 1, (gS r.1 q).fin, (gS r.1 q).link, (gS r.1 q).edges⟩]) r.2) q r.1.length) sts.length r.1.length
def ofL (sts : List Ste) : Au UInt8 := ⟨sts.length, fun s => (gS sts s).long, fun s => (gS sts s).fin, fun s => if (gS sts s).link < 0 then none else some (gS sts s).link.toNat, fun s c => nxE (gS sts s).edges c⟩
/-- What the loops leave of the old states: 'X' has a new edge. -/
structure Rw1 (S sts : List Ste) (N : Nat) (c : UInt8) (t : Nat) (g : Nat → UInt8 → Option Nat) (X : Nat → Prop) : Prop where
  len : sts.length = N
  same : ∀ s, s < S.length → (gS sts s).long = (gS S s).long ∧ (gS sts s).fin = (gS S s).fin ∧ (gS sts s).link = (gS S s).link
  up : ∀ s, S.length ≤ s → s < N → gS sts s = gS sts s
  yes : ∀ s, s < S.length → X s → nxE (gS sts s).edges c = some t
  no : ∀ s d, s < S.length → ¬ (d = c ∧ X s) → nxE (gS sts s).edges d = g s d
theorem ofL_K {sts : List Ste} {s : Nat} (h : (gS sts s).link < 0) : (ofL sts).K s = none := by simp [ofL, h]
theorem ofL_K' {sts : List Ste} {s : Nat} (h : ¬ (gS sts s).link < 0) : (ofL sts).K s = some (gS sts s).link.toNat := by simp [ofL, h]
theorem ch1_neg {c : UInt8} {n f : Nat} {sts : List Ste} {p : Int} (h : p < 0) : ch1 c n f sts p = (sts, p) := by
  cases f with
  | zero => rfl
  | succ f => rw [ch1, if_pos h]
theorem ch2_neg {c : UInt8} {q m f : Nat} {sts : List Ste} {p : Int} (h : p < 0) : ch2 c q m f sts p = sts := by
  cases f with
  | zero => rfl
  | succ f => rw [ch2, if_pos h]
/-- The first loop. -/
theorem ch1_ok {T : Bytes} {S : List Ste} {str : Nat → Bytes} (h : Inv T (ofL S) str) {c : UInt8} {x : Ste} : ∀ (f : Nat) (sts : List Ste) (p : Int) (X : Nat → Prop),
    Rw1 S sts (S.length + 1) c S.length (ofL S).nx X → gS sts S.length = x → (∀ s, X s ↔ s < S.length ∧ str s <:+ T ∧ (p < 0 ∨ (ofL S).L p.toNat < (ofL S).L s)) → (∀ s, X s → (ofL S).nx s c = none) →
    (0 ≤ p → p.toNat < S.length ∧ str p.toNat <:+ T ∧ (ofL S).L p.toNat < f) →
    ∃ X', Rw1 S (ch1 c S.length f sts p).1 (S.length + 1) c S.length (ofL S).nx X' ∧ gS (ch1 c S.length f sts p).1 S.length = x ∧ (∀ s, X' s ↔ s < S.length ∧ str s <:+ T ∧ (ofL S).nx s c = none) ∧
      (0 ≤ (ch1 c S.length f sts p).2 → (ch1 c S.length f sts p).2.toNat < S.length ∧ str (ch1 c S.length f sts p).2.toNat <:+ T ∧ (∃ q, (ofL S).nx (ch1 c S.length f sts p).2.toNat c = some q) ∧ ∀ s, s < S.length → str s <:+ T → (ofL S).L (ch1 c S.length f sts p).2.toNat < (ofL S).L s → (ofL S).nx s c = none) ∧
      ((ch1 c S.length f sts p).2 < 0 → ∀ s, s < S.length → str s <:+ T → (ofL S).nx s c = none) := by
  intro f
  induction f with
  | zero =>
    intro sts p X hR hx hX hXn hp
    have hneg : p < 0 := Int.lt_of_not_ge fun hge => by have := (hp hge).2.2; omega
    refine ⟨X, hR, hx, fun s => ?_, fun hge => ?_, fun _ s hs hsT => ?_⟩
    · rw [hX]
      refine ⟨fun hh => ⟨hh.1, hh.2.1, hXn s ((hX s).2 hh)⟩, fun hh => ⟨hh.1, hh.2.1, .inl hneg⟩⟩
    · have : p < 0 := hneg
      have : 0 ≤ p := hge
      omega
    · exact hXn s ((hX s).2 ⟨hs, hsT, .inl hneg⟩)
  | succ f ih =>
    intro sts p X hR hx hX hXn hp
    by_cases hneg : p < 0
    · rw [ch1_neg hneg]
      refine ⟨X, hR, hx, fun s => ?_, fun hge => ?_, fun _ s hs hsT => ?_⟩
      · rw [hX]
        refine ⟨fun hh => ⟨hh.1, hh.2.1, hXn s ((hX s).2 hh)⟩, fun hh => ⟨hh.1, hh.2.1, .inl hneg⟩⟩
      · have : 0 ≤ p := hge
        omega
      · exact hXn s ((hX s).2 ⟨hs, hsT, .inl hneg⟩)
    · obtain ⟨h1, h2, h3⟩ := hp (by omega)
      obtain ⟨r, hr⟩ : ∃ r : Nat, p = r := ⟨p.toNat, by omega⟩
      subst hr
      rw [Int.toNat_natCast] at h1 h2 h3
      have hnX : ¬ X r := fun hh => by
        have := (hX r).1 hh
        rw [Int.toNat_natCast] at this
        omega
      have hnx : nxE (gS sts r).edges c = (ofL S).nx r c := hR.no r c h1 (fun hh => hnX hh.2)
      rw [ch1, if_neg hneg, Int.toNat_natCast, hnx]
      cases hq : (ofL S).nx r c with
      | none =>
        rw [if_pos rfl]
        have hlk : (gS sts r).link = (gS S r).link := (hR.same r h1).2.2
        have hrl : r < sts.length := by rw [hR.len]; omega
        have hsl : S.length < sts.length := by rw [hR.len]; omega
        rw [hlk]
        have hg : ∀ s, gS (setS sts r c S.length) s = if s = r then ⟨(gS sts r).long, (gS sts r).fin, (gS sts r).link, setE (gS sts r).edges c S.length⟩ else gS sts s := fun s => gS_set hrl
        refine ih (setS sts r c S.length) (gS S r).link (fun s => X s ∨ s = r) ⟨by rw [setS_len]; exact hR.len, fun s hs => ?_, fun s _ _ => rfl, fun s hs hXs => ?_, fun s d hs hnd => ?_⟩ ?_ (fun s => ?_) (fun s hXs => ?_) (fun hge => ?_)
        · rw [hg]
          split
          · rename_i e; subst e; exact hR.same s hs
          · exact hR.same s hs
        · rw [hg]
          split
          · simp only; rw [nxE_set, if_pos rfl]
          · rename_i e; exact hR.yes s hs (hXs.resolve_right e)
        · rw [hg]
          split
          · rename_i e
            subst e
            simp only
            rw [nxE_set, if_neg (fun e2 => hnd ⟨e2, .inr rfl⟩)]
            exact hR.no s d hs (fun hh => hnd ⟨hh.1, .inl hh.2⟩)
          · exact hR.no s d hs (fun hh => hnd ⟨hh.1, .inl hh.2⟩)
        · rw [hg, if_neg (by omega)]; exact hx
        · rw [hX]
          constructor
          · rintro (⟨a1, a2, a3⟩ | rfl)
            · refine ⟨a1, a2, ?_⟩
              by_cases hl : (gS S r).link < 0
              · exact .inl hl
              · have := (h.chain_link h1 h2 (ofL_K' hl)).2.2
                rcases a3 with a3 | a3
                · omega
                · rw [Int.toNat_natCast] at a3
                  exact .inr (by omega)
            · refine ⟨h1, h2, ?_⟩
              by_cases hl : (gS S s).link < 0
              · exact .inl hl
              · exact .inr (h.chain_link h1 h2 (ofL_K' hl)).2.2
          · rintro ⟨a1, a2, a3⟩
            by_cases hgt : (ofL S).L r < (ofL S).L s
            · exact .inl ⟨a1, a2, .inr (by rw [Int.toNat_natCast]; exact hgt)⟩
            · refine .inr ?_
              by_cases hl : (gS S r).link < 0
              · exact h.chain_root a1 h1 (ofL_K hl) (by omega)
              · exact h.chain_gap a1 h1 a2 h2 (ofL_K' hl) (a3.resolve_left hl) (by omega)
        · rcases hXs with hXs | rfl
          · exact hXn s hXs
          · exact hq
        · have hl : ¬ (gS S r).link < 0 := by omega
          obtain ⟨b1, b2, b3⟩ := h.chain_link h1 h2 (ofL_K' hl)
          exact ⟨b1, b2, by omega⟩
      | some q =>
        rw [if_neg (by simp)]
        have hXiff : ∀ s, X s ↔ s < S.length ∧ str s <:+ T ∧ (ofL S).nx s c = none := fun s => by
          rw [hX, Int.toNat_natCast]
          constructor
          · rintro ⟨a1, a2, a3⟩
            exact ⟨a1, a2, hXn s ((hX s).2 ⟨a1, a2, by rw [Int.toNat_natCast]; exact a3⟩)⟩
          · rintro ⟨a1, a2, a3⟩
            refine ⟨a1, a2, .inr (Nat.lt_of_not_le fun hle => ?_)⟩
            obtain ⟨t, ht⟩ := h.chain_edge a1 h1 a2 h2 hle hq
            rw [a3] at ht; cases ht
        refine ⟨X, hR, hx, hXiff, fun _ => ⟨by simpa using h1, by simpa using h2, ⟨q, by simpa using hq⟩, fun s hs hsT hl => ?_⟩, fun hn => ?_⟩
        · have hl : (ofL S).L r < (ofL S).L s := by simpa using hl
          exact hXn s ((hX s).2 ⟨hs, hsT, .inr (by rw [Int.toNat_natCast]; exact hl)⟩)
        · have : ((r : Nat) : Int) < 0 := hn
          omega
/-- The second loop. -/
theorem ch2_ok {T : Bytes} {S : List Ste} {str : Nat → Bytes} (h : Inv T (ofL S) str) {c : UInt8} {x y : Ste} {r q : Nat} (hr : r < S.length) (hrT : str r <:+ T) (hrq : (ofL S).nx r c = some q) (hqn : q < S.length) {g : Nat → UInt8 → Option Nat}
    (hg1 : ∀ s, s < S.length → str s <:+ T → (ofL S).L s ≤ (ofL S).L r → g s c = (ofL S).nx s c) (hgr : ∀ s, s < S.length → str s <:+ T → (ofL S).L r < (ofL S).L s → (ofL S).nx s c = none) : ∀ (f : Nat) (sts : List Ste) (p : Int) (X : Nat → Prop),
    Rw1 S sts (S.length + 2) c (S.length + 1) g X → gS sts S.length = x → gS sts (S.length + 1) = y → (∀ s, X s ↔ s < S.length ∧ str s <:+ T ∧ (ofL S).nx s c = some q ∧ (p < 0 ∨ (ofL S).L p.toNat < (ofL S).L s)) →
    (0 ≤ p → p.toNat < S.length ∧ str p.toNat <:+ T ∧ (ofL S).L p.toNat < f ∧ (ofL S).L p.toNat ≤ (ofL S).L r) →
    ∃ X', Rw1 S (ch2 c q (S.length + 1) f sts p) (S.length + 2) c (S.length + 1) g X' ∧ gS (ch2 c q (S.length + 1) f sts p) S.length = x ∧ gS (ch2 c q (S.length + 1) f sts p) (S.length + 1) = y ∧ (∀ s, X' s ↔ s < S.length ∧ str s <:+ T ∧ (ofL S).nx s c = some q) := by
  intro f
  induction f with
  | zero =>
    intro sts p X hR hx hy hX hp
    have hneg : p < 0 := Int.lt_of_not_ge fun hge => by have := (hp hge).2.2.1; omega
    exact ⟨X, hR, hx, hy, fun s => by rw [hX]; exact ⟨fun hh => ⟨hh.1, hh.2.1, hh.2.2.1⟩, fun hh => ⟨hh.1, hh.2.1, hh.2.2, .inl hneg⟩⟩⟩
  | succ f ih =>
    intro sts p X hR hx hy hX hp
    by_cases hneg : p < 0
    · rw [ch2_neg hneg]
      exact ⟨X, hR, hx, hy, fun s => by rw [hX]; exact ⟨fun hh => ⟨hh.1, hh.2.1, hh.2.2.1⟩, fun hh => ⟨hh.1, hh.2.1, hh.2.2, .inl hneg⟩⟩⟩
    · obtain ⟨h1, h2, h3, h4⟩ := hp (by omega)
      obtain ⟨a, ha⟩ : ∃ a : Nat, p = a := ⟨p.toNat, by omega⟩
      subst ha
      rw [Int.toNat_natCast] at h1 h2 h3 h4
      have hnX : ¬ X a := fun hh => by
        have := (hX a).1 hh
        rw [Int.toNat_natCast] at this
        omega
      have hnx : nxE (gS sts a).edges c = (ofL S).nx a c := (hR.no a c h1 (fun hh => hnX hh.2)).trans (hg1 a h1 h2 h4)
      rw [ch2, if_neg hneg, Int.toNat_natCast, hnx]
      by_cases hq : (ofL S).nx a c = some q
      · rw [if_pos hq]
        have hlk : (gS sts a).link = (gS S a).link := (hR.same a h1).2.2
        have hrl : a < sts.length := by rw [hR.len]; omega
        rw [hlk]
        have hg : ∀ s, gS (setS sts a c (S.length + 1)) s = if s = a then ⟨(gS sts a).long, (gS sts a).fin, (gS sts a).link, setE (gS sts a).edges c (S.length + 1)⟩ else gS sts s := fun s => gS_set hrl
        refine ih (setS sts a c (S.length + 1)) (gS S a).link (fun s => X s ∨ s = a) ⟨by rw [setS_len]; exact hR.len, fun s hs => ?_, fun s _ _ => rfl, fun s hs hXs => ?_, fun s d hs hnd => ?_⟩ ?_ ?_ (fun s => ?_) (fun hge => ?_)
        · rw [hg]
          split
          · rename_i e; subst e; exact hR.same s hs
          · exact hR.same s hs
        · rw [hg]
          split
          · simp only; rw [nxE_set, if_pos rfl]
          · rename_i e; exact hR.yes s hs (hXs.resolve_right e)
        · rw [hg]
          split
          · rename_i e
            subst e
            simp only
            rw [nxE_set, if_neg (fun e2 => hnd ⟨e2, .inr rfl⟩)]
            exact hR.no s d hs (fun hh => hnd ⟨hh.1, .inl hh.2⟩)
          · exact hR.no s d hs (fun hh => hnd ⟨hh.1, .inl hh.2⟩)
        · rw [hg, if_neg (by omega)]; exact hx
        · rw [hg, if_neg (by omega)]; exact hy
        · rw [hX]
          constructor
          · rintro (⟨a1, a2, a4, a3⟩ | rfl)
            · refine ⟨a1, a2, a4, ?_⟩
              by_cases hl : (gS S a).link < 0
              · exact .inl hl
              · have := (h.chain_link h1 h2 (ofL_K' hl)).2.2
                rcases a3 with a3 | a3
                · omega
                · rw [Int.toNat_natCast] at a3
                  exact .inr (by omega)
            · refine ⟨h1, h2, hq, ?_⟩
              by_cases hl : (gS S s).link < 0
              · exact .inl hl
              · exact .inr (h.chain_link h1 h2 (ofL_K' hl)).2.2
          · rintro ⟨a1, a2, a4, a3⟩
            by_cases hgt : (ofL S).L a < (ofL S).L s
            · exact .inl ⟨a1, a2, a4, .inr (by rw [Int.toNat_natCast]; exact hgt)⟩
            · refine .inr ?_
              by_cases hl : (gS S a).link < 0
              · exact h.chain_root a1 h1 (ofL_K hl) (by omega)
              · exact h.chain_gap a1 h1 a2 h2 (ofL_K' hl) (a3.resolve_left hl) (by omega)
        · have hl : ¬ (gS S a).link < 0 := by omega
          obtain ⟨b1, b2, b3⟩ := h.chain_link h1 h2 (ofL_K' hl)
          exact ⟨b1, b2, by omega, by omega⟩
      · rw [if_neg hq]
        refine ⟨X, hR, hx, hy, fun s => ?_⟩
        rw [hX, Int.toNat_natCast]
        constructor
        · rintro ⟨a1, a2, a4, a3⟩
          exact ⟨a1, a2, a4⟩
        · rintro ⟨a1, a2, a3⟩
          refine ⟨a1, a2, a3, .inr (Nat.lt_of_not_le fun hle => ?_)⟩
          obtain ⟨t, ht⟩ := h.chain_edge h1 hr h2 hrT h4 hrq
          have := h.chain_q hr a1 h1 hrT a2 h2 hrq a3 hle h4 ht
          rw [this] at ht
          exact hq ht
end Go.Proofs
