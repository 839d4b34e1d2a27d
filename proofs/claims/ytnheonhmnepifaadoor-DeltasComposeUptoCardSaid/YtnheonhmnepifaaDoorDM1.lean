/- Walks: the reference makes a delta. -/
import Derived.Test.YtnheonhmnepifaaDoorPM1
import Derived.Test.YtnheonhmnepifaaDoorDD12
namespace Go.Proofs
open Go Go.Abs
set_option linter.unusedSimpArgs false
set_option linter.unusedVariables false
set_option maxRecDepth 20000
theorem lcp_step {a b : Bytes} {k i : Nat} {x y : UInt8} (hx : a[k]? = some x) (hy : b[i]? = some y) : lcp (a.drop k) (b.drop i) = if x = y then lcp (a.drop (k + 1)) (b.drop (i + 1)) + 1 else 0 := by
  rw [drop_cons hx, drop_cons hy]; rfl
theorem lcp_end1 {a b : Bytes} {k i : Nat} (h : a.length ≤ k) : lcp (a.drop k) (b.drop i) = 0 := by rw [List.drop_eq_nil_of_le h]; rfl
theorem lcp_end2 {a b : Bytes} {k i : Nat} (h : b.length ≤ i) : lcp (a.drop k) (b.drop i) = 0 := by rw [List.drop_eq_nil_of_le h]; exact lcp_nil_right _
theorem mkR_cons' {a : Bytes} {f : Nat} {l w data : Bytes} {c : UInt8} (hl : l = c :: w) : mkR a (f + 1) l data = if (bestM a l a.length).2 < 8 then mkR a f w (data ++ [c]) else fl data ++ ⟨(bestM a l a.length).1, (bestM a l a.length).2, []⟩ :: mkR a f (l.drop (bestM a l a.length).2) [] := by
  subst hl; rfl
theorem mkR_nil (a : Bytes) (f : Nat) (data : Bytes) : mkR a f [] data = fl data := by cases f <;> rfl
def InnQ (a b data : Bytes) (out : List PieceV) (tl : Tail) (i4 i k at_ long : Nat) (G : Heap) (r : Regs) (G' : Heap) : Prop :=
  agrees r [(0, .str a), (1, .str b), (4, .ptr i4 0), (6, .sl (out.map encPc) tl), (7, .str data), (8, .int .i64 i), (9, .int .i64 at_), (10, .int .i64 long), (11, .int .i64 k), (12, .int .i64 (lcp (a.drop k) (b.drop i))), (27, .int .i64 a.length), (28, .int .i64 k)] ∧ G' = G
def InnI (a b : Bytes) (i k : Nat) (G : Heap) (n : Nat) (G' : Heap) : Prop := G' = G ∧ k + n ≤ a.length ∧ i + n ≤ b.length ∧ n + lcp (a.drop (k + n)) (b.drop (i + n)) = lcp (a.drop k) (b.drop i)
def MidI (a : Bytes) (G : Heap) (k : Nat) (G' : Heap) : Prop := G' = G ∧ k ≤ a.length
def OutI (a b : Bytes) (H : Heap) (i4 : Nat) (t : Nat × Nat × List PieceV × Bytes × Tail) (G : Heap) : Prop :=
  AppOK H G 3 (t.2.2.1.map encPc) t.2.2.2.2 ∧ G i4 = some zD ∧ (b.drop t.2.1).length ≤ t.1 ∧ t.2.1 ≤ b.length ∧ t.2.2.2.1.length ≤ t.2.1 ∧ t.2.2.1.length ≤ t.2.1 ∧ t.2.2.1 ++ mkR a t.1 (b.drop t.2.1) t.2.2.2.1 = mkR a b.length b []
/-- The answer's tuple. -/
def makeT (a b : Bytes) : AV := .tup [.agg (encDl (makeV a b).1 .unk), .int .i64 (makeV a b).2]
set_option maxHeartbeats 6400000 in
theorem rMake_calls (a b : Bytes) (H : Heap) (ha : a.length ≤ 1099511627776) (hb : b.length ≤ 1099511627776) : ACalls Tryd.prog 21 [.str a, .str b] H fun x H' => x = makeT a b ∧ H' = H := by
  by_cases hbig : 65536 < a.length ∨ 65536 < b.length
  · have hmk : makeT a b = .tup [.agg (encDl DeltaV.zero .unk), .int .i64 4] := by
      unfold makeT makeV
      rw [if_pos hbig]
    by_cases k1 : 65536 < a.length
    · have z1 : decide ((65536 : Int) < a.length) = true := decide_eq_true (by omega)
      refine ACalls.of_code (X := { pure := puM }) puM_ok Tryd.func21 (by kernel_rfl) rfl (by kernel_rfl) (Nat.le_of_ble_eq_true rfl) ?_
      simp -implicitDefEqProofs only [go_sem, tys, regs0, Nat.reduceEqDiff, Nat.reduceAdd, Nat.reduceLeDiff, Nat.reduceLT, Nat.reduceMul, Int.natCast_one, Int.natCast_zero, Int.reduceEq, Int.reduceLT, Int.reduceLE, Int.reduceAdd, Int.reduceSub, Int.reduceToNat, UInt8.reduceToNat, Tryd.f21]
      with_reducible refine nwC_intro fun i4 hi4 => ?_
      simp -implicitDefEqProofs only [go_sem, tys, regs0, Nat.reduceEqDiff, Nat.reduceAdd, Nat.reduceLeDiff, Nat.reduceLT, Nat.reduceMul, Int.natCast_one, Int.natCast_zero, Int.reduceEq, Int.reduceLT, Int.reduceLE, Int.reduceAdd, Int.reduceSub, Int.reduceToNat, UInt8.reduceToNat, z1]
      refine Done.wk 3 (Done.drop1 hi4 ⟨?_, rfl⟩)
      rw [hmk]; rfl
    · have z1 : decide ((65536 : Int) < a.length) = false := decide_eq_false (by omega)
      have z2 : decide ((65536 : Int) < b.length) = true := decide_eq_true (by omega)
      refine ACalls.of_code (X := { pure := puM }) puM_ok Tryd.func21 (by kernel_rfl) rfl (by kernel_rfl) (Nat.le_of_ble_eq_true rfl) ?_
      simp -implicitDefEqProofs only [go_sem, tys, regs0, Nat.reduceEqDiff, Nat.reduceAdd, Nat.reduceLeDiff, Nat.reduceLT, Nat.reduceMul, Int.natCast_one, Int.natCast_zero, Int.reduceEq, Int.reduceLT, Int.reduceLE, Int.reduceAdd, Int.reduceSub, Int.reduceToNat, UInt8.reduceToNat, Tryd.f21]
      with_reducible refine nwC_intro fun i4 hi4 => ?_
      simp -implicitDefEqProofs only [go_sem, tys, regs0, Nat.reduceEqDiff, Nat.reduceAdd, Nat.reduceLeDiff, Nat.reduceLT, Nat.reduceMul, Int.natCast_one, Int.natCast_zero, Int.reduceEq, Int.reduceLT, Int.reduceLE, Int.reduceAdd, Int.reduceSub, Int.reduceToNat, UInt8.reduceToNat, z1, z2]
      refine Done.wk 3 (Done.drop1 hi4 ⟨?_, rfl⟩)
      rw [hmk]; rfl
  have z1 : decide ((65536 : Int) < a.length) = false := decide_eq_false (by omega)
  have z2 : decide ((65536 : Int) < b.length) = false := decide_eq_false (by omega)
  have hal : a.length ≤ 65536 := by omega
  have hbl : b.length ≤ 65536 := by omega
  refine ACalls.of_code (X := { pure := puM }) puM_ok Tryd.func21 (by kernel_rfl) rfl (by kernel_rfl) (Nat.le_of_ble_eq_true rfl) ?_
  simp -implicitDefEqProofs only [go_sem, tys, regs0, Nat.reduceEqDiff, Nat.reduceAdd, Nat.reduceLeDiff, Nat.reduceLT, Nat.reduceMul, Int.natCast_one, Int.natCast_zero, Int.reduceEq, Int.reduceLT, Int.reduceLE, Int.reduceAdd, Int.reduceSub, Int.reduceToNat, UInt8.reduceToNat, Tryd.f21]
  with_reducible refine nwC_intro fun i4 hi4 => ?_
  simp -implicitDefEqProofs only [go_sem, tys, regs0, Nat.reduceEqDiff, Nat.reduceAdd, Nat.reduceLeDiff, Nat.reduceLT, Nat.reduceMul, Int.natCast_one, Int.natCast_zero, Int.reduceEq, Int.reduceLT, Int.reduceLE, Int.reduceAdd, Int.reduceSub, Int.reduceToNat, UInt8.reduceToNat, z1, z2]
  have hA0 : AppOK H (H.put i4 zD) 3 (([] : List PieceV).map encPc) .exact := AppOK.nil ((Heap.Sub.rfl' H).put' hi4 _)
  have hZ0 := put_same H i4 zD
  have hfold : H.put i4 (.cells [.int .i64 0, .int .i64 0, .str [], .str [], .sl [] .exact]) = H.put i4 zD := rfl
  rw [hfold]
  generalize H.put i4 zD = G at *
  clear hfold
  refine aloop_intro (σ := Nat × Nat × List PieceV × Bytes × Tail) (fun t => [(0, .str a), (1, .str b), (4, .ptr i4 0), (6, .sl (t.2.2.1.map encPc) t.2.2.2.2), (7, .str t.2.2.2.1), (8, .int .i64 t.2.1)]) (OutI a b H i4) (fun t => b.length - t.2.1) (b.length, 0, [], [], .exact) ?_ ?_ ?_
  · simp -implicitDefEqProofs only [go_sem, tys, regs0, Nat.reduceEqDiff, Nat.reduceAdd, Nat.reduceLeDiff, Nat.reduceLT, Nat.reduceMul, Int.natCast_one, Int.natCast_zero, Int.reduceEq, Int.reduceLT, Int.reduceLE, Int.reduceAdd, Int.reduceSub, Int.reduceToNat, UInt8.reduceToNat]
  · exact ⟨hA0, hZ0, by simp, by simp, by simp, by simp, by simp⟩
  · clear hA0 hZ0
    rintro ⟨f, i, out, data, tl⟩ r G hv ⟨hA, hZ, hf, hi, hd, ho, hM⟩
    have h0 := hv.1
    have h1 := hv.2.1
    have h4 := hv.2.2.1
    have h6 := hv.2.2.2.1
    have h7 := hv.2.2.2.2.1
    have h8 := hv.2.2.2.2.2.1
    clear hv
    simp only at h0 h1 h4 h6 h7 h8 hA hZ hf hi hd ho hM
    simp -implicitDefEqProofs only [go_sem, tys, regs0, Nat.reduceEqDiff, Nat.reduceAdd, Nat.reduceLeDiff, Nat.reduceLT, Nat.reduceMul, Int.natCast_one, Int.natCast_zero, Int.reduceEq, Int.reduceLT, Int.reduceLE, Int.reduceAdd, Int.reduceSub, Int.reduceToNat, UInt8.reduceToNat, h0, h1, h4, h6, h7, h8]
    refine cnd_intro (fun g => ?_) (fun g => ?_)
    · simp only [decide_eq_true_eq] at g
      obtain ⟨c, hc⟩ : ∃ c, b[i]? = some c := getD_get' (by omega)
      have hdc := drop_cons hc
      simp -implicitDefEqProofs only [go_sem, tys, regs0, Nat.reduceEqDiff, Nat.reduceAdd, Nat.reduceLeDiff, Nat.reduceLT, Nat.reduceMul, Int.natCast_one, Int.natCast_zero, Int.reduceEq, Int.reduceLT, Int.reduceLE, Int.reduceAdd, Int.reduceSub, Int.reduceToNat, UInt8.reduceToNat, h0, h1, h4, h6, h7, h8]
      refine aloop_intro (σ := Nat) (fun k => [(0, .str a), (1, .str b), (4, .ptr i4 0), (6, .sl (out.map encPc) tl), (7, .str data), (8, .int .i64 i), (9, .int .i64 (bestM a (b.drop i) k).1), (10, .int .i64 (bestM a (b.drop i) k).2), (27, .int .i64 a.length), (28, .int .i64 k)]) (MidI a G) (fun k => a.length - k) 0 ?_ ?_ ?_
      · simp -implicitDefEqProofs only [go_sem, tys, regs0, Nat.reduceEqDiff, Nat.reduceAdd, Nat.reduceLeDiff, Nat.reduceLT, Nat.reduceMul, Int.natCast_one, Int.natCast_zero, Int.reduceEq, Int.reduceLT, Int.reduceLE, Int.reduceAdd, Int.reduceSub, Int.reduceToNat, UInt8.reduceToNat, h0, h1, h4, h6, h7, h8]
        exact ⟨rfl, rfl⟩
      · exact ⟨rfl, Nat.zero_le _⟩
      · clear h0 h1 h4 h6 h7 h8
        rintro k r G' hv ⟨rfl, hk⟩
        have h0 := hv.1
        have h1 := hv.2.1
        have h4 := hv.2.2.1
        have h6 := hv.2.2.2.1
        have h7 := hv.2.2.2.2.1
        have h8 := hv.2.2.2.2.2.1
        have h9 := hv.2.2.2.2.2.2.1
        have h10 := hv.2.2.2.2.2.2.2.1
        have h27 := hv.2.2.2.2.2.2.2.2.1
        have h28 := hv.2.2.2.2.2.2.2.2.2.1
        clear hv
        have hbo := bestM_ok a (b.drop i) k
        rw [List.length_drop] at hbo
        simp -implicitDefEqProofs only [go_sem, tys, regs0, Nat.reduceEqDiff, Nat.reduceAdd, Nat.reduceLeDiff, Nat.reduceLT, Nat.reduceMul, Int.natCast_one, Int.natCast_zero, Int.reduceEq, Int.reduceLT, Int.reduceLE, Int.reduceAdd, Int.reduceSub, Int.reduceToNat, UInt8.reduceToNat, h0, h1, h4, h6, h7, h8, h9, h10, h27, h28]
        refine cnd_intro (fun g2 => ?_) (fun g2 => ?_)
        · simp only [decide_eq_true_eq] at g2
          simp -implicitDefEqProofs only [go_sem, tys, regs0, Nat.reduceEqDiff, Nat.reduceAdd, Nat.reduceLeDiff, Nat.reduceLT, Nat.reduceMul, Int.natCast_one, Int.natCast_zero, Int.reduceEq, Int.reduceLT, Int.reduceLE, Int.reduceAdd, Int.reduceSub, Int.reduceToNat, UInt8.reduceToNat, h0, h1, h4, h6, h7, h8, h9, h10, h27, h28]
          with_reducible refine aloop_cut 4 (InnQ a b data out tl i4 i k (bestM a (b.drop i) k).1 (bestM a (b.drop i) k).2 G') ?_ ?_
          · rintro r2 G2 ⟨hv, rfl⟩
            clear h0 h1 h4 h6 h7 h8 h9 h10 h27 h28
            have h0 := hv.1
            have h1 := hv.2.1
            have h4 := hv.2.2.1
            have h6 := hv.2.2.2.1
            have h7 := hv.2.2.2.2.1
            have h8 := hv.2.2.2.2.2.1
            have h9 := hv.2.2.2.2.2.2.1
            have h10 := hv.2.2.2.2.2.2.2.1
            have h11 := hv.2.2.2.2.2.2.2.2.1
            have h12 := hv.2.2.2.2.2.2.2.2.2.1
            have h27 := hv.2.2.2.2.2.2.2.2.2.2.1
            have h28 := hv.2.2.2.2.2.2.2.2.2.2.2.1
            clear hv
            have hb1 := bestM.eq_2 a (b.drop i) k
            by_cases e : (bestM a (b.drop i) k).2 < lcp (a.drop k) (b.drop i)
            · have y1 : decide (((bestM a (b.drop i) k).2 : Int) < (lcp (a.drop k) (b.drop i) : Int)) = true := decide_eq_true (by omega)
              rw [if_pos e] at hb1
              simp -implicitDefEqProofs (disch := omega) only [go_sem, tys, regs0, Nat.reduceEqDiff, Nat.reduceAdd, Nat.reduceLeDiff, Nat.reduceLT, Nat.reduceMul, Int.natCast_one, Int.natCast_zero, Int.reduceEq, Int.reduceLT, Int.reduceLE, Int.reduceAdd, Int.reduceSub, Int.reduceToNat, UInt8.reduceToNat, Go.IntWalk.i64_in, h0, h1, h4, h6, h7, h8, h9, h10, h11, h12, h27, h28, y1]
              exact Again.mk (k + 1) (by simp -implicitDefEqProofs only [go_sem, tys, regs0, Nat.reduceEqDiff, Nat.reduceAdd, Nat.reduceLeDiff, Nat.reduceLT, Nat.reduceMul, Int.natCast_one, Int.natCast_zero, Int.reduceEq, Int.reduceLT, Int.reduceLE, Int.reduceAdd, Int.reduceSub, Int.reduceToNat, UInt8.reduceToNat, h0, h1, h4, h6, h7, h8, h9, h10, h11, h12, h27, h28, hb1]; exact rfl) ⟨rfl, by omega⟩ (by omega)
            · have y1 : decide (((bestM a (b.drop i) k).2 : Int) < (lcp (a.drop k) (b.drop i) : Int)) = false := decide_eq_false (by omega)
              rw [if_neg e] at hb1
              simp -implicitDefEqProofs (disch := omega) only [go_sem, tys, regs0, Nat.reduceEqDiff, Nat.reduceAdd, Nat.reduceLeDiff, Nat.reduceLT, Nat.reduceMul, Int.natCast_one, Int.natCast_zero, Int.reduceEq, Int.reduceLT, Int.reduceLE, Int.reduceAdd, Int.reduceSub, Int.reduceToNat, UInt8.reduceToNat, Go.IntWalk.i64_in, h0, h1, h4, h6, h7, h8, h9, h10, h11, h12, h27, h28, y1]
              exact Again.mk (k + 1) (by simp -implicitDefEqProofs only [go_sem, tys, regs0, Nat.reduceEqDiff, Nat.reduceAdd, Nat.reduceLeDiff, Nat.reduceLT, Nat.reduceMul, Int.natCast_one, Int.natCast_zero, Int.reduceEq, Int.reduceLT, Int.reduceLE, Int.reduceAdd, Int.reduceSub, Int.reduceToNat, UInt8.reduceToNat, h0, h1, h4, h6, h7, h8, h9, h10, h11, h12, h27, h28, hb1]; exact rfl) ⟨rfl, by omega⟩ (by omega)
          refine aloop_intro (σ := Nat) (fun n => [(0, .str a), (1, .str b), (4, .ptr i4 0), (6, .sl (out.map encPc) tl), (7, .str data), (8, .int .i64 i), (9, .int .i64 (bestM a (b.drop i) k).1), (10, .int .i64 (bestM a (b.drop i) k).2), (11, .int .i64 k), (12, .int .i64 n), (27, .int .i64 a.length), (28, .int .i64 k)]) (InnI a b i k G') (fun n => a.length - n) 0 ?_ ?_ ?_
          · simp -implicitDefEqProofs only [go_sem, tys, regs0, Nat.reduceEqDiff, Nat.reduceAdd, Nat.reduceLeDiff, Nat.reduceLT, Nat.reduceMul, Int.natCast_one, Int.natCast_zero, Int.reduceEq, Int.reduceLT, Int.reduceLE, Int.reduceAdd, Int.reduceSub, Int.reduceToNat, UInt8.reduceToNat, h0, h1, h4, h6, h7, h8, h9, h10, h27, h28]
          · exact ⟨rfl, by omega, by omega, by simp⟩
          · clear h0 h1 h4 h6 h7 h8 h9 h10 h27 h28
            rintro n r G2 hv ⟨rfl, hn1, hn2, hl⟩
            have h0 := hv.1
            have h1 := hv.2.1
            have h4 := hv.2.2.1
            have h6 := hv.2.2.2.1
            have h7 := hv.2.2.2.2.1
            have h8 := hv.2.2.2.2.2.1
            have h9 := hv.2.2.2.2.2.2.1
            have h10 := hv.2.2.2.2.2.2.2.1
            have h11 := hv.2.2.2.2.2.2.2.2.1
            have h12 := hv.2.2.2.2.2.2.2.2.2.1
            have h27 := hv.2.2.2.2.2.2.2.2.2.2.1
            have h28 := hv.2.2.2.2.2.2.2.2.2.2.2.1
            clear hv
            have w1 : IntKind.i64.wrap ((k : Int) + n) = ((k + n : Nat) : Int) := by rw [Go.IntWalk.i64_in _ (by omega)]; omega
            have w2 : IntKind.i64.wrap ((i : Int) + n) = ((i + n : Nat) : Int) := by rw [Go.IntWalk.i64_in _ (by omega)]; omega
            have w3 : IntKind.i64.wrap ((n : Int) + 1) = ((n + 1 : Nat) : Int) := by rw [Go.IntWalk.i64_in _ (by omega)]; omega
            by_cases e1 : k + n < a.length
            · have y1 : decide (((k + n : Nat) : Int) < a.length) = true := decide_eq_true (by omega)
              by_cases e2 : i + n < b.length
              · have y2 : decide (((i + n : Nat) : Int) < b.length) = true := decide_eq_true (by omega)
                obtain ⟨x, hx⟩ : ∃ x, a[k + n]? = some x := getD_get' e1
                obtain ⟨y, hy⟩ : ∃ y, b[i + n]? = some y := getD_get' e2
                rw [lcp_step hx hy] at hl
                by_cases e3 : x = y
                · have y3 : decide ((x.toNat : Int) = (y.toNat : Int)) = true := decide_eq_true (by rw [e3])
                  rw [if_pos e3] at hl
                  simp -implicitDefEqProofs only [go_sem, tys, regs0, Nat.reduceEqDiff, Nat.reduceAdd, Nat.reduceLeDiff, Nat.reduceLT, Nat.reduceMul, Int.natCast_one, Int.natCast_zero, Int.reduceEq, Int.reduceLT, Int.reduceLE, Int.reduceAdd, Int.reduceSub, Int.reduceToNat, UInt8.reduceToNat, h0, h1, h4, h6, h7, h8, h9, h10, h11, h12, h27, h28, w1, w2, w3, y1, y2, y3, hx, hy]
                  exact Again.mk (n + 1) (by simp -implicitDefEqProofs only [go_sem, tys, regs0, Nat.reduceEqDiff, Nat.reduceAdd, Nat.reduceLeDiff, Nat.reduceLT, Nat.reduceMul, Int.natCast_one, Int.natCast_zero, Int.reduceEq, Int.reduceLT, Int.reduceLE, Int.reduceAdd, Int.reduceSub, Int.reduceToNat, UInt8.reduceToNat, h0, h1, h4, h6, h7, h8, h9, h10, h11, h12, h27, h28]) ⟨rfl, by omega, by omega, by rw [← hl, ← Nat.add_assoc, ← Nat.add_assoc]; omega⟩ (by omega)
                · have y3 : decide ((x.toNat : Int) = (y.toNat : Int)) = false := decide_eq_false (fun e => e3 (UInt8.toNat_inj.1 (by omega)))
                  rw [if_neg e3] at hl
                  simp -implicitDefEqProofs only [go_sem, tys, regs0, Nat.reduceEqDiff, Nat.reduceAdd, Nat.reduceLeDiff, Nat.reduceLT, Nat.reduceMul, Int.natCast_one, Int.natCast_zero, Int.reduceEq, Int.reduceLT, Int.reduceLE, Int.reduceAdd, Int.reduceSub, Int.reduceToNat, UInt8.reduceToNat, h0, h1, h4, h6, h7, h8, h9, h10, h11, h12, h27, h28, w1, w2, w3, y1, y2, y3, hx, hy]
                  exact ⟨by simp -implicitDefEqProofs only [go_sem, tys, regs0, Nat.reduceEqDiff, Nat.reduceAdd, Nat.reduceLeDiff, Nat.reduceLT, Nat.reduceMul, Int.natCast_one, Int.natCast_zero, Int.reduceEq, Int.reduceLT, Int.reduceLE, Int.reduceAdd, Int.reduceSub, Int.reduceToNat, UInt8.reduceToNat, h0, h1, h4, h6, h7, h8, h9, h10, h11, h12, h27, h28]; rw [← hl]; exact rfl, rfl⟩
              · have y2 : decide (((i + n : Nat) : Int) < b.length) = false := decide_eq_false (by omega)
                rw [lcp_end2 (by omega)] at hl
                simp -implicitDefEqProofs only [go_sem, tys, regs0, Nat.reduceEqDiff, Nat.reduceAdd, Nat.reduceLeDiff, Nat.reduceLT, Nat.reduceMul, Int.natCast_one, Int.natCast_zero, Int.reduceEq, Int.reduceLT, Int.reduceLE, Int.reduceAdd, Int.reduceSub, Int.reduceToNat, UInt8.reduceToNat, h0, h1, h4, h6, h7, h8, h9, h10, h11, h12, h27, h28, w1, w2, w3, y1, y2]
                exact ⟨by simp -implicitDefEqProofs only [go_sem, tys, regs0, Nat.reduceEqDiff, Nat.reduceAdd, Nat.reduceLeDiff, Nat.reduceLT, Nat.reduceMul, Int.natCast_one, Int.natCast_zero, Int.reduceEq, Int.reduceLT, Int.reduceLE, Int.reduceAdd, Int.reduceSub, Int.reduceToNat, UInt8.reduceToNat, h0, h1, h4, h6, h7, h8, h9, h10, h11, h12, h27, h28]; rw [← hl]; exact rfl, rfl⟩
            · have y1 : decide (((k + n : Nat) : Int) < a.length) = false := decide_eq_false (by omega)
              rw [lcp_end1 (by omega)] at hl
              simp -implicitDefEqProofs only [go_sem, tys, regs0, Nat.reduceEqDiff, Nat.reduceAdd, Nat.reduceLeDiff, Nat.reduceLT, Nat.reduceMul, Int.natCast_one, Int.natCast_zero, Int.reduceEq, Int.reduceLT, Int.reduceLE, Int.reduceAdd, Int.reduceSub, Int.reduceToNat, UInt8.reduceToNat, h0, h1, h4, h6, h7, h8, h9, h10, h11, h12, h27, h28, w1, w2, w3, y1]
              exact ⟨by simp -implicitDefEqProofs only [go_sem, tys, regs0, Nat.reduceEqDiff, Nat.reduceAdd, Nat.reduceLeDiff, Nat.reduceLT, Nat.reduceMul, Int.natCast_one, Int.natCast_zero, Int.reduceEq, Int.reduceLT, Int.reduceLE, Int.reduceAdd, Int.reduceSub, Int.reduceToNat, UInt8.reduceToNat, h0, h1, h4, h6, h7, h8, h9, h10, h11, h12, h27, h28]; rw [← hl]; exact rfl, rfl⟩
        · simp only [decide_eq_false_iff_not] at g2
          have e : k = a.length := by omega
          subst e
          have hfs : f = (f - 1) + 1 := by
            rw [hdc] at hf
            simp only [List.length_cons] at hf
            omega
          have hmk := mkR_cons' (a := a) (f := f - 1) (data := data) hdc
          rw [← hfs, List.drop_drop] at hmk
          rw [List.length_drop] at hf
          generalize bestM a (b.drop i) a.length = bm at *
          by_cases e8 : bm.2 < 8
          · have y1 : decide ((bm.2 : Int) < 8) = true := decide_eq_true (by omega)
            rw [if_pos e8] at hmk
            have w1 : IntKind.i64.wrap ((i : Int) + 1) = ((i + 1 : Nat) : Int) := by rw [Go.IntWalk.i64_in _ (by omega)]; omega
            have hsl : List.drop i (List.take (i + 1) b) = [c] := by rw [List.take_add_one, hc, List.drop_append_of_le_length (by rw [List.length_take]; omega), List.drop_eq_nil_of_le (by rw [List.length_take]; omega)]; rfl
            simp -implicitDefEqProofs (disch := (first | omega | (simp only [List.length_append, List.length_cons, List.length_nil]; omega))) only [go_sem, binS_addD, tys, regs0, Nat.reduceEqDiff, Nat.reduceAdd, Nat.reduceLeDiff, Nat.reduceLT, Nat.reduceMul, Int.natCast_one, Int.natCast_zero, Int.reduceEq, Int.reduceLT, Int.reduceLE, Int.reduceAdd, Int.reduceSub, Int.reduceToNat, UInt8.reduceToNat, Go.IntWalk.i64_in, h0, h1, h4, h6, h7, h8, h9, h10, h27, h28, y1, w1, Int.toNat_natCast, hsl]
            refine ⟨⟨by omega, by omega⟩, ?_⟩
            exact Again.mk (f - 1, i + 1, out, data ++ [c], tl) (by simp -implicitDefEqProofs only [go_sem, tys, regs0, Nat.reduceEqDiff, Nat.reduceAdd, Nat.reduceLeDiff, Nat.reduceLT, Nat.reduceMul, Int.natCast_one, Int.natCast_zero, Int.reduceEq, Int.reduceLT, Int.reduceLE, Int.reduceAdd, Int.reduceSub, Int.reduceToNat, UInt8.reduceToNat, h0, h1, h4, h6, h7, h8]) ⟨hA, hZ, by simp only; rw [List.length_drop]; omega, by simp only; omega, by simp; omega, by simp only; omega, by simp only; rw [← hmk]; exact hM⟩ (by simp only; omega)
          · have y1 : decide ((bm.2 : Int) < 8) = false := decide_eq_false (by omega)
            rw [if_neg e8] at hmk
            have w1 : IntKind.i64.wrap ((i : Int) + bm.2) = ((i + bm.2 : Nat) : Int) := by rw [Go.IntWalk.i64_in _ (by omega)]; omega
            by_cases hdd : data = []
            · have y2 : decide (¬ data = []) = false := decide_eq_false (by simpa using hdd)
              have hfl : fl data = [] := by rw [hdd]; rfl
              rw [hfl, List.nil_append] at hmk
              simp -implicitDefEqProofs only [go_sem, tys, regs0, Nat.reduceEqDiff, Nat.reduceAdd, Nat.reduceLeDiff, Nat.reduceLT, Nat.reduceMul, Int.natCast_one, Int.natCast_zero, Int.reduceEq, Int.reduceLT, Int.reduceLE, Int.reduceAdd, Int.reduceSub, Int.reduceToNat, UInt8.reduceToNat, h0, h1, h4, h6, h7, h8, h9, h10, h27, h28, y1, y2, w1]
              refine AppOK.step hA (encPc_unif out) (by simp) (by simp; omega) (by simp; omega) (fun tl2 G2 hA2 hK2 => ?_)
              simp -implicitDefEqProofs only [go_sem, tys, regs0, Nat.reduceEqDiff, Nat.reduceAdd, Nat.reduceLeDiff, Nat.reduceLT, Nat.reduceMul, Int.natCast_one, Int.natCast_zero, Int.reduceEq, Int.reduceLT, Int.reduceLE, Int.reduceAdd, Int.reduceSub, Int.reduceToNat, UInt8.reduceToNat, h0, h1, h4, h6, h7, h8, h9, h10, h27, h28, w1]
              exact Again.mk (f - 1, i + bm.2, out ++ [(⟨bm.1, bm.2, []⟩ : PieceV)], [], tl2) (by simp -implicitDefEqProofs only [go_sem, tys, regs0, Nat.reduceEqDiff, Nat.reduceAdd, Nat.reduceLeDiff, Nat.reduceLT, Nat.reduceMul, Int.natCast_one, Int.natCast_zero, Int.reduceEq, Int.reduceLT, Int.reduceLE, Int.reduceAdd, Int.reduceSub, Int.reduceToNat, UInt8.reduceToNat, h0, h1, h4, h6, h7, h8]; simp [encPc, hdd]) ⟨by simpa [encPc] using hA2, hK2.cells hZ, by simp only; rw [List.length_drop]; omega, by simp only; omega, by simp, by simp; omega, by simp only; rw [← hM, hmk]; simp⟩ (by simp only; omega)
            · have y2 : decide (¬ data = []) = true := decide_eq_true hdd
              have hfl : fl data = [⟨0, 0, data⟩] := by unfold fl; rw [if_pos hdd]
              rw [hfl] at hmk
              simp -implicitDefEqProofs only [go_sem, tys, regs0, Nat.reduceEqDiff, Nat.reduceAdd, Nat.reduceLeDiff, Nat.reduceLT, Nat.reduceMul, Int.natCast_one, Int.natCast_zero, Int.reduceEq, Int.reduceLT, Int.reduceLE, Int.reduceAdd, Int.reduceSub, Int.reduceToNat, UInt8.reduceToNat, h0, h1, h4, h6, h7, h8, h9, h10, h27, h28, y1, y2, w1]
              refine AppOK.step hA (encPc_unif out) (by simp) (by simp; omega) (by simp; omega) (fun tl2 G2 hA2 hK2 => ?_)
              have e2 : out.map encPc ++ [[AV.int .i64 0, .int .i64 0, .str data]] = (out ++ [(⟨0, 0, data⟩ : PieceV)]).map encPc := by simp [encPc]
              rw [e2] at hA2 ⊢
              simp -implicitDefEqProofs only [go_sem, tys, regs0, Nat.reduceEqDiff, Nat.reduceAdd, Nat.reduceLeDiff, Nat.reduceLT, Nat.reduceMul, Int.natCast_one, Int.natCast_zero, Int.reduceEq, Int.reduceLT, Int.reduceLE, Int.reduceAdd, Int.reduceSub, Int.reduceToNat, UInt8.reduceToNat, h0, h1, h4, h6, h7, h8, h9, h10, h27, h28, w1]
              refine AppOK.step hA2 (encPc_unif _) (by simp) (by simp; omega) (by simp; omega) (fun tl3 G3 hA3 hK3 => ?_)
              simp -implicitDefEqProofs only [go_sem, tys, regs0, Nat.reduceEqDiff, Nat.reduceAdd, Nat.reduceLeDiff, Nat.reduceLT, Nat.reduceMul, Int.natCast_one, Int.natCast_zero, Int.reduceEq, Int.reduceLT, Int.reduceLE, Int.reduceAdd, Int.reduceSub, Int.reduceToNat, UInt8.reduceToNat, h0, h1, h4, h6, h7, h8, h9, h10, h27, h28, w1]
              exact Again.mk (f - 1, i + bm.2, out ++ [(⟨0, 0, data⟩ : PieceV)] ++ [(⟨bm.1, bm.2, []⟩ : PieceV)], [], tl3) (by simp -implicitDefEqProofs only [go_sem, tys, regs0, Nat.reduceEqDiff, Nat.reduceAdd, Nat.reduceLeDiff, Nat.reduceLT, Nat.reduceMul, Int.natCast_one, Int.natCast_zero, Int.reduceEq, Int.reduceLT, Int.reduceLE, Int.reduceAdd, Int.reduceSub, Int.reduceToNat, UInt8.reduceToNat, h0, h1, h4, h6, h7, h8]; simp [encPc]) ⟨by simpa [encPc] using hA3, hK3.cells (hK2.cells hZ), by simp only; rw [List.length_drop]; omega, by simp only; omega, by simp, by simp; omega, by simp only; rw [← hM, hmk]; simp⟩ (by simp only; omega)
    · simp only [decide_eq_false_iff_not] at g
      have e : i = b.length := by omega
      subst e
      rw [List.drop_length, mkR_nil] at hM
      have hR : Room = 1099511627776 := rfl
      have hfin : ∀ (L : List PieceV), L = mkR a b.length b [] → makeT a b = if (5000 : Int) < L.length then .tup [.agg (encDl DeltaV.zero .unk), .int .i64 4] else .tup [.agg (encDl ⟨a.length, b.length, sumOf a, sumOf b, L⟩ .unk), .int .i64 0] := fun L hL => by
        unfold makeT makeV
        rw [if_neg hbig, ← hL]
        split <;> rfl
      unfold zD at hZ
      by_cases hdd : data = []
      · have y2 : decide (¬ data = []) = false := decide_eq_false (by simpa using hdd)
        have hfl : fl data = [] := by rw [hdd]; rfl
        rw [hfl, List.append_nil] at hM
        have hfin := hfin out hM
        by_cases h5 : (5000 : Int) < out.length
        · have y3 : decide ((5000 : Int) < out.length) = true := decide_eq_true h5
          rw [if_pos h5] at hfin
          simp -implicitDefEqProofs only [go_sem, tys, regs0, Nat.reduceEqDiff, Nat.reduceAdd, Nat.reduceLeDiff, Nat.reduceLT, Nat.reduceMul, Int.natCast_one, Int.natCast_zero, Int.reduceEq, Int.reduceLT, Int.reduceLE, Int.reduceAdd, Int.reduceSub, Int.reduceToNat, UInt8.reduceToNat, h0, h1, h4, h6, h7, h8, y2, y3, hZ]
          refine Done.wk 3 (Done.drop (hA.sub.put' hi4 _) ⟨?_, rfl⟩)
          rw [hfin]; rfl
        · have y3 : decide ((5000 : Int) < out.length) = false := decide_eq_false h5
          rw [if_neg h5] at hfin
          simp -implicitDefEqProofs only [go_sem, tys, regs0, Nat.reduceEqDiff, Nat.reduceAdd, Nat.reduceLeDiff, Nat.reduceLT, Nat.reduceMul, Int.natCast_one, Int.natCast_zero, Int.reduceEq, Int.reduceLT, Int.reduceLE, Int.reduceAdd, Int.reduceSub, Int.reduceToNat, UInt8.reduceToNat, h0, h1, h4, h6, h7, h8, y2, y3, hZ, puM, puN, pu0, sSum_eq, hR, ha, hb]
          refine Done.wk 3 (Done.drop (hA.sub.put' hi4 _) ⟨?_, rfl⟩)
          rw [hfin]; rfl
      · have y2 : decide (¬ data = []) = true := decide_eq_true hdd
        have hfl : fl data = [⟨0, 0, data⟩] := by unfold fl; rw [if_pos hdd]
        rw [hfl] at hM
        have hfin := hfin _ hM
        simp -implicitDefEqProofs only [go_sem, tys, regs0, Nat.reduceEqDiff, Nat.reduceAdd, Nat.reduceLeDiff, Nat.reduceLT, Nat.reduceMul, Int.natCast_one, Int.natCast_zero, Int.reduceEq, Int.reduceLT, Int.reduceLE, Int.reduceAdd, Int.reduceSub, Int.reduceToNat, UInt8.reduceToNat, h0, h1, h4, h6, h7, h8, y2]
        refine AppOK.step hA (encPc_unif out) (by simp) (by simp; omega) (by simp; omega) (fun tl2 G2 hA2 hK2 => ?_)
        have e2 : out.map encPc ++ [[AV.int .i64 0, .int .i64 0, .str data]] = (out ++ [(⟨0, 0, data⟩ : PieceV)]).map encPc := by simp [encPc]
        rw [e2] at hA2 ⊢
        have hZ2 := hK2.cells hZ
        generalize out ++ [(⟨0, 0, data⟩ : PieceV)] = out2 at *
        by_cases h5 : (5000 : Int) < out2.length
        · have y3 : decide ((5000 : Int) < out2.length) = true := decide_eq_true h5
          rw [if_pos h5] at hfin
          simp -implicitDefEqProofs only [go_sem, tys, regs0, Nat.reduceEqDiff, Nat.reduceAdd, Nat.reduceLeDiff, Nat.reduceLT, Nat.reduceMul, Int.natCast_one, Int.natCast_zero, Int.reduceEq, Int.reduceLT, Int.reduceLE, Int.reduceAdd, Int.reduceSub, Int.reduceToNat, UInt8.reduceToNat, h0, h1, h4, h6, h7, h8, y3, hZ2]
          refine Done.wk 3 (Done.drop (hA2.sub.put' hi4 _) ⟨?_, rfl⟩)
          rw [hfin]; rfl
        · have y3 : decide ((5000 : Int) < out2.length) = false := decide_eq_false h5
          rw [if_neg h5] at hfin
          simp -implicitDefEqProofs only [go_sem, tys, regs0, Nat.reduceEqDiff, Nat.reduceAdd, Nat.reduceLeDiff, Nat.reduceLT, Nat.reduceMul, Int.natCast_one, Int.natCast_zero, Int.reduceEq, Int.reduceLT, Int.reduceLE, Int.reduceAdd, Int.reduceSub, Int.reduceToNat, UInt8.reduceToNat, h0, h1, h4, h6, h7, h8, y3, hZ2, puM, puN, pu0, sSum_eq, hR, ha, hb]
          refine Done.wk 3 (Done.drop (hA2.sub.put' hi4 _) ⟨?_, rfl⟩)
          rw [hfin]; rfl
def sMake : List AV → Option AV := fn2 .str .str fun a b => if a.length ≤ 1099511627776 ∧ b.length ≤ 1099511627776 then some (makeT a b) else none
theorem sMake_eq (a b : Bytes) (ha : a.length ≤ 1099511627776) (hb : b.length ≤ 1099511627776) : sMake [.str a, .str b] = some (.tup [.agg (encDl (makeV a b).1 .unk), .int .i64 (makeV a b).2]) := by
  unfold sMake
  rw [fn2_eq, Rd.str_eq, Rd.str_eq]
  simp only [Option.bind_some, if_pos (And.intro ha hb)]
  rfl
theorem sMake_ok {P : Program} {f : FuncId} (h : ∀ a b H, a.length ≤ 1099511627776 → b.length ≤ 1099511627776 → ACalls P f [.str a, .str b] H fun x H' => x = makeT a b ∧ H' = H) : ∀ xs v, sMake xs = some v → ∀ H, ACalls P f xs H fun x H' => x = v ∧ H' = H := by
  intro xs v hv H
  obtain ⟨x, y, a, b, rfl, h1, h2, h3⟩ := fn2_some hv
  cases Rd.str_some h1
  cases Rd.str_some h2
  obtain ⟨h4, rfl⟩ := some_if h3
  exact h a b H h4.1 h4.2
end Go.Proofs
