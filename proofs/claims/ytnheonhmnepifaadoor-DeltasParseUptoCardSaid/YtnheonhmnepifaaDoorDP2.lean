/- Walks: a reader's sums and pieces. -/
import Derived.Test.YtnheonhmnepifaaDoorDP1
namespace Go.Proofs
open Go Go.Abs
set_option linter.unusedSimpArgs false
set_option linter.unusedVariables false
set_option maxRecDepth 20000
theorem shr4 : ∀ m : Nat, m < 256 → shrI .u8 (m : Int) 4 = ((m / 16 : Nat) : Int) := by decide
theorem and15b : ∀ m : Nat, m < 256 → andI .u8 (m : Int) 15 = ((m % 16 : Nat) : Int) := by decide
def SumPost (s : Bytes) (p : Nat) (bad : Bool) (K : K1) (G : Heap) (id : Nat) : Prop :=
  ∀ (x : Bytes) (p' : Nat) (bad' : Bool), x.length ≤ 16 → p ≤ p' → p' ≤ s.length → (bad' = false → bad = false ∧ sumR (s.drop p) = some (x, s.drop p')) → (bad' = true → bad = true ∨ sumR (s.drop p) = none) →
    K (.str x) (G.put id (rdr s p' bad'))
theorem hexB_len (b : Bytes) : (hexB b).length = 2 * b.length := by
  induction b with
  | nil => rfl
  | cons c b ih => simp only [hexB, List.flatMap_cons, List.length_append, List.length_cons, List.length_nil] at ih ⊢; omega
set_option maxHeartbeats 1600000 in
theorem sum_walk {G : Heap} {id : Nat} {s : Bytes} {p : Nat} {bad : Bool} (hG : G id = some (rdr s p bad)) (hp : p ≤ s.length) (hs : s.length ≤ 1099511627776) (k : Bytes) (G1 : Heap) (hk : k.length ≤ 8)
    (hT : ∀ K : K1, K (.str k) G1 → ACalls Tryd.prog 90 [.ptr id 0, .int .i64 8] G K) : ACalls Tryd.prog 92 [.ptr id 0] G fun x H' => x = .str (hexB k) ∧ H' = G1 := by
  refine ACalls.of_code (X := { pure := pu0 }) pu0_ok Tryd.func92 (by kernel_rfl) rfl (by kernel_rfl) (Nat.le_of_ble_eq_true rfl) ?_
  simp -implicitDefEqProofs only [go_sem, tys, regs0, Nat.reduceEqDiff, Nat.reduceAdd, Nat.reduceLeDiff, Nat.reduceLT, Nat.reduceMul, Int.natCast_one, Int.natCast_zero, Int.reduceEq, Int.reduceLT, Int.reduceLE, Int.reduceAdd, Int.reduceSub, Int.reduceToNat, UInt8.reduceToNat, Tryd.f92]
  refine hT _ ?_
  simp -implicitDefEqProofs only [go_sem, tys, regs0, Nat.reduceEqDiff, Nat.reduceAdd, Nat.reduceLeDiff, Nat.reduceLT, Nat.reduceMul, Int.natCast_one, Int.natCast_zero, Int.reduceEq, Int.reduceLT, Int.reduceLE, Int.reduceAdd, Int.reduceSub, Int.reduceToNat, UInt8.reduceToNat]
  refine conv_bytes (by simp -implicitDefEqProofs only [go_sem, tys, regs0, Nat.reduceEqDiff, Nat.reduceAdd, Nat.reduceLeDiff, Nat.reduceLT, Nat.reduceMul, Int.natCast_one, Int.natCast_zero, Int.reduceEq, Int.reduceLT, Int.reduceLE, Int.reduceAdd, Int.reduceSub, Int.reduceToNat, UInt8.reduceToNat]) (by simp -implicitDefEqProofs only [go_sem, tys, regs0, Nat.reduceEqDiff, Nat.reduceAdd, Nat.reduceLeDiff, Nat.reduceLT, Nat.reduceMul, Int.natCast_one, Int.natCast_zero, Int.reduceEq, Int.reduceLT, Int.reduceLE, Int.reduceAdd, Int.reduceSub, Int.reduceToNat, UInt8.reduceToNat]) (fun idb hidb => ?_)
  have hB := put_same G1 idb (.cells (k.map fun b => AV.int .u8 (b.toNat : Int)))
  have hA := AppG.new (k := 1) ((Heap.Sub.rfl' G1).put' hidb (.cells (k.map fun b => AV.int .u8 (b.toNat : Int)))) (([] : Bytes).map bcell)
  simp -implicitDefEqProofs only [go_sem, tys, regs0, Nat.reduceEqDiff, Nat.reduceAdd, Nat.reduceLeDiff, Nat.reduceLT, Nat.reduceMul, Int.natCast_one, Int.natCast_zero, Int.reduceEq, Int.reduceLT, Int.reduceLE, Int.reduceAdd, Int.reduceSub, Int.reduceToNat, UInt8.reduceToNat]
  refine aloop_intro (σ := Nat × Tail) (fun t => [(3, .sl ((hexB (k.take t.1)).map bcell) t.2), (8, .ms idb 0 k.length 1), (9, .int .i64 k.length), (10, .int .i64 t.1)])
    (fun t G' => AppG G1 G' 1 ((hexB (k.take t.1)).map bcell) t.2 ∧ G' idb = some (.cells (k.map fun b => AV.int .u8 (b.toNat : Int))) ∧ t.1 ≤ k.length) (fun t => k.length - t.1) (0, .exact) ?_ ?_ ?_
  · simp -implicitDefEqProofs only [go_sem, tys, regs0, Nat.reduceEqDiff, Nat.reduceAdd, Nat.reduceLeDiff, Nat.reduceLT, Nat.reduceMul, Int.natCast_one, Int.natCast_zero, Int.reduceEq, Int.reduceLT, Int.reduceLE, Int.reduceAdd, Int.reduceSub, Int.reduceToNat, UInt8.reduceToNat]
    simp [hexB]
  · exact ⟨by simpa [hexB] using hA, hB, by omega⟩
  · clear hA hB
    rintro ⟨i, tl⟩ r G' hv ⟨hA, hB, hi⟩
    have h3 := hv.1
    have h8 := hv.2.1
    have h9 := hv.2.2.1
    have h10 := hv.2.2.2.1
    clear hv
    simp only at h3 h8 h9 h10 hA hB hi
    simp -implicitDefEqProofs only [go_sem, tys, regs0, Nat.reduceEqDiff, Nat.reduceAdd, Nat.reduceLeDiff, Nat.reduceLT, Nat.reduceMul, Int.natCast_one, Int.natCast_zero, Int.reduceEq, Int.reduceLT, Int.reduceLE, Int.reduceAdd, Int.reduceSub, Int.reduceToNat, UInt8.reduceToNat, h3, h8, h9, h10]
    refine cnd_intro (fun g => ?_) (fun g => ?_)
    · simp only [decide_eq_true_eq] at g
      obtain ⟨c, hc⟩ : ∃ c, k[i]? = some c := getD_get' (by omega)
      have hcl := c.toNat_lt
      have a1 := shr4 c.toNat hcl
      have a2 := and15b c.toNat hcl
      have d1 := dig_get (c.toNat / 16) (by omega)
      have d2 := dig_get (c.toNat % 16) (by omega)
      have hh : hexB (k.take (i + 1)) = hexB (k.take i) ++ [dig (c.toNat / 16), dig (c.toNat % 16)] := by rw [List.take_add_one, hc]; exact hexB_snoc _ _
      have hl : (hexB (k.take i)).length ≤ 16 := by rw [hexB_len, List.length_take]; omega
      have hhd : (List.drop (i * 1) (k.map fun b => AV.int .u8 (b.toNat : Int))).head? = some (.int .u8 c.toNat) := by rw [Nat.mul_one, List.head?_drop, List.getElem?_map, hc]; rfl
      generalize hx1 : dig (c.toNat / 16) = x1 at *
      generalize hx2 : dig (c.toNat % 16) = x2 at *
      generalize c.toNat / 16 = y1 at *
      generalize c.toNat % 16 = y2 at *
      simp -implicitDefEqProofs (disch := omega) only [go_sem, tys, regs0, Nat.reduceEqDiff, Nat.reduceAdd, Nat.reduceLeDiff, Nat.reduceLT, Nat.reduceMul, Int.natCast_one, Int.natCast_zero, Int.reduceEq, Int.reduceLT, Int.reduceLE, Int.reduceAdd, Int.reduceSub, Int.reduceToNat, UInt8.reduceToNat, Go.IntWalk.i64_in, h3, h8, h9, h10, hB, hhd]
      refine ⟨by omega, ?_⟩
      simp -implicitDefEqProofs (disch := omega) only [go_sem, tys, regs0, Nat.reduceEqDiff, Nat.reduceAdd, Nat.reduceLeDiff, Nat.reduceLT, Nat.reduceMul, Int.natCast_one, Int.natCast_zero, Int.reduceEq, Int.reduceLT, Int.reduceLE, Int.reduceAdd, Int.reduceSub, Int.reduceToNat, UInt8.reduceToNat, Go.IntWalk.i64_in, h3, h8, h9, h10, a1, a2, d1, d2]
      refine AppG.step hA (bcell_unif _) (by simp; omega) (by simp; omega) (fun tl2 G2 hA2 hK2 => ?_)
      have e : (hexB (k.take i)).map bcell ++ [[AV.int .u8 (x1.toNat : Int)], [AV.int .u8 (x2.toNat : Int)]] = (hexB (k.take (i + 1))).map bcell := by rw [hh, List.map_append]; rfl
      rw [e] at hA2
      simp -implicitDefEqProofs (disch := omega) only [go_sem, tys, regs0, Nat.reduceEqDiff, Nat.reduceAdd, Nat.reduceLeDiff, Nat.reduceLT, Nat.reduceMul, Int.natCast_one, Int.natCast_zero, Int.reduceEq, Int.reduceLT, Int.reduceLE, Int.reduceAdd, Int.reduceSub, Int.reduceToNat, UInt8.reduceToNat, Go.IntWalk.i64_in, h3, h8, h9, h10]
      exact Again.mk (i + 1, tl2) (by simp -implicitDefEqProofs only [go_sem, tys, regs0, Nat.reduceEqDiff, Nat.reduceAdd, Nat.reduceLeDiff, Nat.reduceLT, Nat.reduceMul, Int.natCast_one, Int.natCast_zero, Int.reduceEq, Int.reduceLT, Int.reduceLE, Int.reduceAdd, Int.reduceSub, Int.reduceToNat, UInt8.reduceToNat, h3, h8, h9, h10]; rw [← e]; simp) ⟨hA2, hK2.cells hB, by simp only; omega⟩ (by simp only; omega)
    · simp only [decide_eq_false_iff_not] at g
      have : i = k.length := by omega
      subst this
      rw [List.take_length] at h3 hA
      simp -implicitDefEqProofs only [go_sem, tys, regs0, Nat.reduceEqDiff, Nat.reduceAdd, Nat.reduceLeDiff, Nat.reduceLT, Nat.reduceMul, Int.natCast_one, Int.natCast_zero, Int.reduceEq, Int.reduceLT, Int.reduceLE, Int.reduceAdd, Int.reduceSub, Int.reduceToNat, UInt8.reduceToNat, h3, h8, h9, h10]
      refine conv_sl (l := hexB k) (by simp -implicitDefEqProofs only [go_sem, tys, regs0, Nat.reduceEqDiff, Nat.reduceAdd, Nat.reduceLeDiff, Nat.reduceLT, Nat.reduceMul, Int.natCast_one, Int.natCast_zero, Int.reduceEq, Int.reduceLT, Int.reduceLE, Int.reduceAdd, Int.reduceSub, Int.reduceToNat, UInt8.reduceToNat]) (by simp -implicitDefEqProofs only [go_sem, tys, regs0, Nat.reduceEqDiff, Nat.reduceAdd, Nat.reduceLeDiff, Nat.reduceLT, Nat.reduceMul, Int.natCast_one, Int.natCast_zero, Int.reduceEq, Int.reduceLT, Int.reduceLE, Int.reduceAdd, Int.reduceSub, Int.reduceToNat, UInt8.reduceToNat]) ?_
      simp -implicitDefEqProofs only [go_sem, tys, regs0, Nat.reduceEqDiff, Nat.reduceAdd, Nat.reduceLeDiff, Nat.reduceLT, Nat.reduceMul, Int.natCast_one, Int.natCast_zero, Int.reduceEq, Int.reduceLT, Int.reduceLE, Int.reduceAdd, Int.reduceSub, Int.reduceToNat, UInt8.reduceToNat, h3]
      exact Done.drop hA.sub ⟨rfl, rfl⟩
theorem sum_k {G : Heap} {id : Nat} {s : Bytes} {p : Nat} {bad : Bool} (hG : G id = some (rdr s p bad)) (hp : p ≤ s.length) (hs : s.length ≤ 1099511627776) {K : K1}
    (hK : SumPost s p bad K G id) : ACalls Tryd.prog 92 [.ptr id 0] G K := by
  by_cases h : p + 8 ≤ s.length
  · have hl : ((s.drop p).take 8).length ≤ 8 := by rw [List.length_take]; omega
    refine (sum_walk hG hp hs ((s.drop p).take 8) (G.put id (rdr s (p + 8 : Nat) bad)) hl (fun K hK => take_k hG hp hs (by omega) (fun m hm _ => by
      obtain rfl : m = 8 := by omega
      exact hK) (fun hf => by omega))).mono ?_
    rintro x H' ⟨rfl, rfl⟩
    refine hK (hexB ((s.drop p).take 8)) (p + 8) bad (by rw [hexB_len]; omega) (by omega) h (fun hb => ⟨hb, ?_⟩) (fun hb => .inl hb)
    unfold sumR
    rw [if_pos (by rw [List.length_drop]; omega), List.drop_drop]
  · refine (sum_walk hG hp hs [] (G.put id (rdr s p true)) (by simp) (fun K hK => take_k hG hp hs (by omega) (fun m hm hf => by omega) (fun _ => hK))).mono ?_
    rintro x H' ⟨rfl, rfl⟩
    refine hK [] p true (by simp) (by omega) hp (by simp) (fun _ => .inr ?_)
    unfold sumR
    rw [if_neg (by rw [List.length_drop]; omega)]
def PcPost (s : Bytes) (p : Nat) (bad : Bool) (K : K1) (G : Heap) (id : Nat) : Prop :=
  ∀ (x : PieceV) (p' : Nat) (bad' : Bool), pcR x → p ≤ p' → p' ≤ s.length → (bad' = false → bad = false ∧ pieceR (s.drop p) = some (x, s.drop p')) → (bad' = true → bad = true ∨ pieceR (s.drop p) = none) →
    K (.agg (encPc x)) (G.put id (rdr s p' bad'))
def PcRes (s : Bytes) (p : Nat) (bad : Bool) (G : Heap) (id : Nat) (x : AV) (H' : Heap) : Prop := ∃ (v : PieceV) (p' : Nat) (bad' : Bool), x = .agg (encPc v) ∧ H' = G.put id (rdr s p' bad') ∧ pcR v ∧ p ≤ p' ∧ p' ≤ s.length ∧
  (bad' = false → bad = false ∧ pieceR (s.drop p) = some (v, s.drop p')) ∧ (bad' = true → bad = true ∨ pieceR (s.drop p) = none)
theorem pcR_zero : pcR ⟨0, 0, []⟩ := by decide
theorem encPc_zero : encPc ⟨0, 0, []⟩ = [.int .i64 0, .int .i64 0, .str []] := rfl
theorem piece0 {l k : Bytes} (h : l = 0 :: k) : pieceR l = (num k).bind fun x => (num x.2).map fun y => (⟨x.1, y.1, []⟩, y.2) := by rw [h]; simp [pieceR]
theorem piece1 {l k : Bytes} (h : l = 1 :: k) : pieceR l = (num k).bind fun x => if x.1 = 0 ∨ x.2.length < x.1 then none else some (⟨0, 0, x.2.take x.1⟩, x.2.drop x.1) := by rw [h]; simp [pieceR]
set_option maxHeartbeats 3200000 in
theorem piece_k {G : Heap} {id : Nat} {s : Bytes} {p : Nat} {bad : Bool} (hG : G id = some (rdr s p bad)) (hp : p ≤ s.length) (hs : s.length ≤ 2097152) {K : K1}
    (hK : PcPost s p bad K G id) : ACalls Tryd.prog 93 [.ptr id 0] G K := by
  refine (?_ : ACalls _ _ _ _ (PcRes s p bad G id)).mono (by
    rintro x H' ⟨v, p', bad', rfl, rfl, h1, h2, h3, h4, h5⟩
    exact hK v p' bad' h1 h2 h3 h4 h5)
  clear hK
  have hs' : s.length ≤ 1099511627776 := by omega
  refine ACalls.of_code (X := { pure := pu0 }) pu0_ok Tryd.func93 (by kernel_rfl) rfl (by kernel_rfl) (Nat.le_of_ble_eq_true rfl) ?_
  simp -implicitDefEqProofs only [go_sem, tys, regs0, Nat.reduceEqDiff, Nat.reduceAdd, Nat.reduceLeDiff, Nat.reduceLT, Nat.reduceMul, Int.natCast_one, Int.natCast_zero, Int.reduceEq, Int.reduceLT, Int.reduceLE, Int.reduceAdd, Int.reduceSub, Int.reduceToNat, UInt8.reduceToNat, Tryd.f93]
  with_reducible refine nwC_intro fun i2 hi2 => ?_
  have n1 : ¬ id = i2 := fun e => by subst e; rw [hG] at hi2; cases hi2
  have n2 : ¬ i2 = id := fun e => n1 e.symm
  have hG2 : (G.put i2 (.cells [.int .i64 0, .int .i64 0, .str []])) id = some (rdr s p bad) := by rw [put_ne _ _ _ _ n1]; exact hG
  have hZ := put_same G i2 (.cells [.int .i64 0, .int .i64 0, .str []])
  simp -implicitDefEqProofs only [go_sem, tys, regs0, Nat.reduceEqDiff, Nat.reduceAdd, Nat.reduceLeDiff, Nat.reduceLT, Nat.reduceMul, Int.natCast_one, Int.natCast_zero, Int.reduceEq, Int.reduceLT, Int.reduceLE, Int.reduceAdd, Int.reduceSub, Int.reduceToNat, UInt8.reduceToNat]
  refine take_k hG2 hp hs' (by omega) (fun m hm hle => ?_) (fun hf => ?_)
  · obtain rfl : m = 1 := by omega
    obtain ⟨c, hc, hd, ht⟩ := drop_at (s := s) (p := p) (by omega)
    rw [ht]
    have hB1 := put_same (G.put i2 (.cells [.int .i64 0, .int .i64 0, .str []])) id (rdr s (p + 1 : Nat) bad)
    cases bad with
    | true =>
      unfold rdr at hB1 ⊢
      simp -implicitDefEqProofs only [go_sem, tys, regs0, Nat.reduceEqDiff, Nat.reduceAdd, Nat.reduceLeDiff, Nat.reduceLT, Nat.reduceMul, Int.natCast_one, Int.natCast_zero, Int.reduceEq, Int.reduceLT, Int.reduceLE, Int.reduceAdd, Int.reduceSub, Int.reduceToNat, UInt8.reduceToNat, hB1, put_ne, n1, n2]
      exact Done.drop (H' := G.put id (rdr s (p + 1 : Nat) true)) (by intro j o hj; by_cases e1 : j = id <;> by_cases e2 : j = i2 <;> simp_all [Heap.put, rdr]) ⟨⟨0, 0, []⟩, p + 1, true, rfl, rfl, pcR_zero, by omega, by omega, by simp, by simp⟩
    | false =>
      by_cases c0 : c = 0
      · have k0 : decide ((c.toNat : Int) = 0) = true := decide_eq_true (by rw [c0]; rfl)
        have hpc := piece0 (c0 ▸ hd)
        unfold rdr at hB1 ⊢
        simp -implicitDefEqProofs only [go_sem, tys, regs0, Nat.reduceEqDiff, Nat.reduceAdd, Nat.reduceLeDiff, Nat.reduceLT, Nat.reduceMul, Int.natCast_one, Int.natCast_zero, Int.reduceEq, Int.reduceLT, Int.reduceLE, Int.reduceAdd, Int.reduceSub, Int.reduceToNat, UInt8.reduceToNat, hB1, k0]
        refine number_k hB1 hle hs' (fun v1 p1 b1 hv1 g1 g2 g3 g4 => ?_)
        rw [put_put']
        have hB2 := put_same (G.put i2 (.cells [.int .i64 0, .int .i64 0, .str []])) id (rdr s p1 b1)
        simp -implicitDefEqProofs only [go_sem, tys, regs0, Nat.reduceEqDiff, Nat.reduceAdd, Nat.reduceLeDiff, Nat.reduceLT, Nat.reduceMul, Int.natCast_one, Int.natCast_zero, Int.reduceEq, Int.reduceLT, Int.reduceLE, Int.reduceAdd, Int.reduceSub, Int.reduceToNat, UInt8.reduceToNat]
        refine number_k hB2 g2 hs' (fun v2 p2 b2 hv2 u1 u2 u3 u4 => ?_)
        rw [put_put']
        have hZ2 : ((G.put i2 (.cells [.int .i64 0, .int .i64 0, .str []])).put id (rdr s p2 b2)) i2 = some (.cells [.int .i64 0, .int .i64 0, .str []]) := by rw [put_ne _ _ _ _ n2]; exact put_same _ _ _
        simp -implicitDefEqProofs only [go_sem, tys, regs0, Nat.reduceEqDiff, Nat.reduceAdd, Nat.reduceLeDiff, Nat.reduceLT, Nat.reduceMul, Int.natCast_one, Int.natCast_zero, Int.reduceEq, Int.reduceLT, Int.reduceLE, Int.reduceAdd, Int.reduceSub, Int.reduceToNat, UInt8.reduceToNat, hZ2, put_ne, n1, n2]
        refine Done.drop (H' := G.put id (rdr s p2 b2)) (by intro j o hj; by_cases e1 : j = id <;> by_cases e2 : j = i2 <;> simp_all [Heap.put, rdr]) ⟨⟨v1, v2, []⟩, p2, b2, rfl, rfl, ⟨⟨by simp only; omega, by simp only; omega⟩, ⟨by simp only; omega, by simp only; omega⟩, by simp⟩, by omega, u2, fun hb => ⟨rfl, ?_⟩, fun hb => .inr ?_⟩
        · rw [hpc, (g3 (u3 hb).1).2]; simp only [Option.bind_some]; rw [(u3 hb).2]; rfl
        · rw [hpc]
          cases b1 with
          | true => rcases g4 rfl with h | h
                    · cases h
                    · rw [h]; rfl
          | false =>
            rw [(g3 rfl).2]; simp only [Option.bind_some]
            rcases u4 hb with h | h
            · cases h
            · rw [h]; rfl
      · have k0 : decide ((c.toNat : Int) = 0) = false := decide_eq_false (fun e => c0 (UInt8.toNat_inj.1 (show c.toNat = 0 by omega)))
        by_cases c1 : c = 1
        · have k1 : decide ((c.toNat : Int) = 1) = true := decide_eq_true (by rw [c1]; rfl)
          have hpc := piece1 (c1 ▸ hd)
          unfold rdr at hB1 ⊢
          simp -implicitDefEqProofs only [go_sem, tys, regs0, Nat.reduceEqDiff, Nat.reduceAdd, Nat.reduceLeDiff, Nat.reduceLT, Nat.reduceMul, Int.natCast_one, Int.natCast_zero, Int.reduceEq, Int.reduceLT, Int.reduceLE, Int.reduceAdd, Int.reduceSub, Int.reduceToNat, UInt8.reduceToNat, hB1, k0, k1]
          refine number_k hB1 hle hs' (fun v1 p1 b1 hv1 g1 g2 g3 g4 => ?_)
          rw [put_put']
          have hB2 := put_same (G.put i2 (.cells [.int .i64 0, .int .i64 0, .str []])) id (rdr s p1 b1)
          simp -implicitDefEqProofs only [go_sem, tys, regs0, Nat.reduceEqDiff, Nat.reduceAdd, Nat.reduceLeDiff, Nat.reduceLT, Nat.reduceMul, Int.natCast_one, Int.natCast_zero, Int.reduceEq, Int.reduceLT, Int.reduceLE, Int.reduceAdd, Int.reduceSub, Int.reduceToNat, UInt8.reduceToNat]
          refine take_k hB2 g2 hs' (by omega) (fun m hm hle2 => ?_) (fun hf => ?_)
          · obtain rfl : v1 = m := by omega
            rw [put_put']
            have hB3 := put_same (G.put i2 (.cells [.int .i64 0, .int .i64 0, .str []])) id (rdr s (p1 + v1 : Nat) b1)
            have hZ3 : ((G.put i2 (.cells [.int .i64 0, .int .i64 0, .str []])).put id (rdr s (p1 + v1 : Nat) b1)) i2 = some (.cells [.int .i64 0, .int .i64 0, .str []]) := by rw [put_ne _ _ _ _ n2]; exact put_same _ _ _
            have htl : ((s.drop p1).take v1).length = v1 := by rw [List.length_take, List.length_drop]; omega
            have hdd : (s.drop p1).drop v1 = s.drop (p1 + v1) := List.drop_drop
            generalize htk : (s.drop p1).take v1 = tk at *
            simp -implicitDefEqProofs only [go_sem, tys, regs0, Nat.reduceEqDiff, Nat.reduceAdd, Nat.reduceLeDiff, Nat.reduceLT, Nat.reduceMul, Int.natCast_one, Int.natCast_zero, Int.reduceEq, Int.reduceLT, Int.reduceLE, Int.reduceAdd, Int.reduceSub, Int.reduceToNat, UInt8.reduceToNat]
            with_reducible refine nwC_intro fun i5 hi5 => ?_
            have m1 : ¬ id = i5 := fun e => by rw [← e, hB3] at hi5; cases hi5
            have m2 : ¬ i2 = i5 := fun e => by rw [← e, hZ3] at hi5; cases hi5
            have m3 : ¬ i5 = id := fun e => m1 e.symm
            have m4 : ¬ i5 = i2 := fun e => m2 e.symm
            have hi5G : G i5 = none := by rw [put_ne _ _ _ _ m3, put_ne _ _ _ _ m4] at hi5; exact hi5
            unfold rdr at hB3 hZ3 ⊢
            cases b1 with
            | true =>
              simp -implicitDefEqProofs only [go_sem, tys, regs0, Nat.reduceEqDiff, Nat.reduceAdd, Nat.reduceLeDiff, Nat.reduceLT, Nat.reduceMul, Int.natCast_one, Int.natCast_zero, Int.reduceEq, Int.reduceLT, Int.reduceLE, Int.reduceAdd, Int.reduceSub, Int.reduceToNat, UInt8.reduceToNat, hB3, hZ3, put_ne, n1, n2, m1, m2, m3, m4]
              refine Done.drop (H' := G.put id (rdr s (p1 + v1 : Nat) true)) (by intro j o hj; by_cases e1 : j = id <;> by_cases e2 : j = i2 <;> by_cases e3 : j = i5 <;> simp_all [Heap.put, rdr]) ⟨⟨0, 0, tk⟩, p1 + v1, true, rfl, rfl, ⟨by simp [inI], by simp [inI], by simp only; omega⟩, by omega, hle2, by simp, fun _ => .inr ?_⟩
              rw [hpc]
              rcases g4 rfl with h | h
              · cases h
              · rw [h]; rfl
            | false =>
              rw [(g3 rfl).2] at hpc
              simp only [Option.bind_some] at hpc
              by_cases hv0 : tk = []
              · have k2 : decide (tk = []) = true := decide_eq_true hv0
                simp -implicitDefEqProofs only [go_sem, tys, regs0, Nat.reduceEqDiff, Nat.reduceAdd, Nat.reduceLeDiff, Nat.reduceLT, Nat.reduceMul, Int.natCast_one, Int.natCast_zero, Int.reduceEq, Int.reduceLT, Int.reduceLE, Int.reduceAdd, Int.reduceSub, Int.reduceToNat, UInt8.reduceToNat, hB3, hZ3, put_ne, n1, n2, m1, m2, m3, m4, k2]
                refine Done.drop (H' := G.put id (rdr s (p1 + v1 : Nat) true)) (by intro j o hj; by_cases e1 : j = id <;> by_cases e2 : j = i2 <;> by_cases e3 : j = i5 <;> simp_all [Heap.put, rdr]) ⟨⟨0, 0, tk⟩, p1 + v1, true, rfl, rfl, ⟨by simp [inI], by simp [inI], by simp only; omega⟩, by omega, hle2, by simp, fun _ => .inr ?_⟩
                rw [hpc, if_pos]
                rw [hv0] at htl
                exact .inl htl.symm
              · have k2 : decide (tk = []) = false := decide_eq_false hv0
                simp -implicitDefEqProofs only [go_sem, tys, regs0, Nat.reduceEqDiff, Nat.reduceAdd, Nat.reduceLeDiff, Nat.reduceLT, Nat.reduceMul, Int.natCast_one, Int.natCast_zero, Int.reduceEq, Int.reduceLT, Int.reduceLE, Int.reduceAdd, Int.reduceSub, Int.reduceToNat, UInt8.reduceToNat, hB3, hZ3, put_ne, n1, n2, m1, m2, m3, m4, k2]
                refine Done.drop (H' := G.put id (rdr s (p1 + v1 : Nat) false)) (by intro j o hj; by_cases e1 : j = id <;> by_cases e2 : j = i2 <;> by_cases e3 : j = i5 <;> simp_all [Heap.put, rdr]) ⟨⟨0, 0, tk⟩, p1 + v1, false, rfl, rfl, ⟨by simp [inI], by simp [inI], by simp only; omega⟩, by omega, hle2, fun _ => ⟨rfl, ?_⟩, by simp⟩
                rw [hpc, if_neg, htk, hdd]
                rintro (h | h)
                · rw [h] at htl; exact hv0 (List.eq_nil_of_length_eq_zero htl)
                · rw [List.length_drop] at h; omega
          · rw [put_put']
            have hB3 := put_same (G.put i2 (.cells [.int .i64 0, .int .i64 0, .str []])) id (rdr s p1 true)
            have hZ3 : ((G.put i2 (.cells [.int .i64 0, .int .i64 0, .str []])).put id (rdr s p1 true)) i2 = some (.cells [.int .i64 0, .int .i64 0, .str []]) := by rw [put_ne _ _ _ _ n2]; exact put_same _ _ _
            simp -implicitDefEqProofs only [go_sem, tys, regs0, Nat.reduceEqDiff, Nat.reduceAdd, Nat.reduceLeDiff, Nat.reduceLT, Nat.reduceMul, Int.natCast_one, Int.natCast_zero, Int.reduceEq, Int.reduceLT, Int.reduceLE, Int.reduceAdd, Int.reduceSub, Int.reduceToNat, UInt8.reduceToNat]
            with_reducible refine nwC_intro fun i5 hi5 => ?_
            have m1 : ¬ id = i5 := fun e => by rw [← e, hB3] at hi5; cases hi5
            have m2 : ¬ i2 = i5 := fun e => by rw [← e, hZ3] at hi5; cases hi5
            have m3 : ¬ i5 = id := fun e => m1 e.symm
            have m4 : ¬ i5 = i2 := fun e => m2 e.symm
            have hi5G : G i5 = none := by rw [put_ne _ _ _ _ m3, put_ne _ _ _ _ m4] at hi5; exact hi5
            unfold rdr at hB3 hZ3 ⊢
            simp -implicitDefEqProofs only [go_sem, tys, regs0, Nat.reduceEqDiff, Nat.reduceAdd, Nat.reduceLeDiff, Nat.reduceLT, Nat.reduceMul, Int.natCast_one, Int.natCast_zero, Int.reduceEq, Int.reduceLT, Int.reduceLE, Int.reduceAdd, Int.reduceSub, Int.reduceToNat, UInt8.reduceToNat, hB3, hZ3, put_ne, n1, n2, m1, m2, m3, m4]
            refine Done.drop (H' := G.put id (rdr s p1 true)) (by intro j o hj; by_cases e1 : j = id <;> by_cases e2 : j = i2 <;> by_cases e3 : j = i5 <;> simp_all [Heap.put, rdr]) ⟨⟨0, 0, []⟩, p1, true, rfl, rfl, pcR_zero, by omega, g2, by simp, fun _ => .inr ?_⟩
            rw [hpc]
            cases b1 with
            | true =>
              rcases g4 rfl with h | h
              · cases h
              · rw [h]; rfl
            | false =>
              rw [(g3 rfl).2]
              simp only [Option.bind_some]
              rw [if_pos]
              rw [List.length_drop]
              omega
        · have k1 : decide ((c.toNat : Int) = 1) = false := decide_eq_false (fun e => c1 (UInt8.toNat_inj.1 (show c.toNat = 1 by omega)))
          unfold rdr at hB1 ⊢
          simp -implicitDefEqProofs only [go_sem, tys, regs0, Nat.reduceEqDiff, Nat.reduceAdd, Nat.reduceLeDiff, Nat.reduceLT, Nat.reduceMul, Int.natCast_one, Int.natCast_zero, Int.reduceEq, Int.reduceLT, Int.reduceLE, Int.reduceAdd, Int.reduceSub, Int.reduceToNat, UInt8.reduceToNat, hB1, k0, k1, put_ne, n1, n2]
          refine Done.drop (H' := G.put id (rdr s (p + 1 : Nat) true)) (by intro j o hj; by_cases e1 : j = id <;> by_cases e2 : j = i2 <;> simp_all [Heap.put, rdr]) ⟨⟨0, 0, []⟩, p + 1, true, rfl, rfl, pcR_zero, by omega, by omega, by simp, fun _ => .inr ?_⟩
          rw [hd, pieceR, if_neg c0, if_neg c1]
  · have hB1 := put_same (G.put i2 (.cells [.int .i64 0, .int .i64 0, .str []])) id (rdr s p true)
    unfold rdr at hB1 ⊢
    simp -implicitDefEqProofs only [go_sem, tys, regs0, Nat.reduceEqDiff, Nat.reduceAdd, Nat.reduceLeDiff, Nat.reduceLT, Nat.reduceMul, Int.natCast_one, Int.natCast_zero, Int.reduceEq, Int.reduceLT, Int.reduceLE, Int.reduceAdd, Int.reduceSub, Int.reduceToNat, UInt8.reduceToNat, hB1, put_ne, n1, n2]
    refine Done.drop (H' := G.put id (rdr s p true)) (by intro j o hj; by_cases e1 : j = id <;> by_cases e2 : j = i2 <;> simp_all [Heap.put, rdr]) ⟨⟨0, 0, []⟩, p, true, rfl, rfl, pcR_zero, by omega, by omega, by simp, fun _ => .inr ?_⟩
    rw [List.drop_eq_nil_of_le (by omega)]
    rfl
end Go.Proofs
