/- Walks: a reader of bytes, on the program's side. -/
import Derived.Test.YtnheonhmnepifaaDoorPR1
import Derived.Test.YtnheonhmnepifaaDoorDD12
namespace Go.Proofs
open Go Go.Abs
set_option linter.unusedSimpArgs false
set_option linter.unusedVariables false
set_option maxRecDepth 20000
def rdr (s : Bytes) (p : Int) (bad : Bool) : AObj := .cells [.str s, .int .i64 p, .bool bad]
theorem put_put' (H : Heap) (i : Nat) (a b : AObj) : (H.put i a).put i b = H.put i b := by
  funext j
  unfold Heap.put
  split <;> rfl
set_option maxHeartbeats 1600000 in
theorem take_k {G : Heap} {id : Nat} {s : Bytes} {p : Nat} {bad : Bool} {n : Int} (hG : G id = some (rdr s p bad)) (hp : p ≤ s.length) (hs : s.length ≤ 1099511627776) (hn : n < 1099511627776) {K : K1}
    (h1 : ∀ m : Nat, n = m → p + m ≤ s.length → K (.str ((s.drop p).take m)) (G.put id (rdr s (p + m : Nat) bad)))
    (h2 : (n < 0 ∨ (s.length : Int) - p < n) → K (.str []) (G.put id (rdr s p true))) : ACalls Tryd.prog 90 [.ptr id 0, .int .i64 n] G K := by
  have hw : IntKind.i64.wrap ((s.length : Int) - p) = s.length - p := Go.IntWalk.i64_in _ (by omega)
  unfold rdr at hG
  by_cases g : n < 0 ∨ (s.length : Int) - p < n
  · have h2 := h2 g
    unfold rdr at h2
    refine (?_ : ACalls _ _ _ _ fun x H' => x = .str [] ∧ H' = G.put id (.cells [.str s, .int .i64 p, .bool true])).mono (by rintro x H' ⟨rfl, rfl⟩; exact h2)
    by_cases g1 : n < 0
    · have k1 : decide (n < 0) = true := decide_eq_true g1
      refine ACalls.of_code (X := { pure := pu0 }) pu0_ok Tryd.func90 (by kernel_rfl) rfl (by kernel_rfl) (Nat.le_of_ble_eq_true rfl) ?_
      simp -implicitDefEqProofs only [go_sem, tys, regs0, Nat.reduceEqDiff, Nat.reduceAdd, Nat.reduceLeDiff, Nat.reduceLT, Nat.reduceMul, Int.natCast_one, Int.natCast_zero, Int.reduceEq, Int.reduceLT, Int.reduceLE, Int.reduceAdd, Int.reduceSub, Int.reduceToNat, UInt8.reduceToNat, Tryd.f90, hG, hw, k1]
      exact Done.now ⟨rfl, rfl⟩
    · have k1 : decide (n < 0) = false := decide_eq_false g1
      have k2 : decide ((s.length : Int) - p < n) = true := decide_eq_true (by omega)
      refine ACalls.of_code (X := { pure := pu0 }) pu0_ok Tryd.func90 (by kernel_rfl) rfl (by kernel_rfl) (Nat.le_of_ble_eq_true rfl) ?_
      simp -implicitDefEqProofs only [go_sem, tys, regs0, Nat.reduceEqDiff, Nat.reduceAdd, Nat.reduceLeDiff, Nat.reduceLT, Nat.reduceMul, Int.natCast_one, Int.natCast_zero, Int.reduceEq, Int.reduceLT, Int.reduceLE, Int.reduceAdd, Int.reduceSub, Int.reduceToNat, UInt8.reduceToNat, Tryd.f90, hG, hw, k1, k2]
      exact Done.now ⟨rfl, rfl⟩
  · obtain ⟨m, rfl⟩ : ∃ m : Nat, n = m := ⟨n.toNat, by omega⟩
    have h1 := h1 m rfl (by omega)
    unfold rdr at h1
    refine (?_ : ACalls _ _ _ _ fun x H' => x = .str ((s.drop p).take m) ∧ H' = G.put id (.cells [.str s, .int .i64 (p + m : Nat), .bool bad])).mono (by rintro x H' ⟨rfl, rfl⟩; exact h1)
    have k1 : decide ((m : Int) < 0) = false := decide_eq_false (by omega)
    have k2 : decide ((s.length : Int) - p < m) = false := decide_eq_false (by omega)
    have hw2 : IntKind.i64.wrap ((p : Int) + m) = p + m := Go.IntWalk.i64_in _ (by omega)
    have hw3 : IntKind.i64.wrap ((p : Int) + m - m) = p := by rw [Go.IntWalk.i64_in _ (by omega)]; omega
    refine ACalls.of_code (X := { pure := pu0 }) pu0_ok Tryd.func90 (by kernel_rfl) rfl (by kernel_rfl) (Nat.le_of_ble_eq_true rfl) ?_
    simp -implicitDefEqProofs only [go_sem, tys, regs0, Nat.reduceEqDiff, Nat.reduceAdd, Nat.reduceLeDiff, Nat.reduceLT, Nat.reduceMul, Int.natCast_one, Int.natCast_zero, Int.reduceEq, Int.reduceLT, Int.reduceLE, Int.reduceAdd, Int.reduceSub, Int.reduceToNat, UInt8.reduceToNat, Tryd.f90, hG, hw, hw2, hw3, k1, k2]
    refine ⟨⟨by omega, by omega⟩, Done.now ⟨?_, ?_⟩⟩
    · rw [show ((p : Int) + m).toNat = p + m from by omega, List.drop_take, Nat.add_sub_cancel_left]
    · rfl
theorem orN (n x k : Nat) (hn : n < 2 ^ k) (hb : n + x * 2 ^ k < 9223372036854775808) : orI .i64 (n : Int) ((x * 2 ^ k : Nat) : Int) = ((n + x * 2 ^ k : Nat) : Int) := by
  have e : (BitVec.ofInt IntKind.i64.bits (n : Int) ||| BitVec.ofInt IntKind.i64.bits ((x * 2 ^ k : Nat) : Int)).toNat = n + x * 2 ^ k := by
    show (BitVec.ofInt 64 (n : Int) ||| BitVec.ofInt 64 ((x * 2 ^ k : Nat) : Int)).toNat = n + x * 2 ^ k
    rw [BitVec.ofInt_natCast, BitVec.ofInt_natCast, BitVec.toNat_or]
    simp only [BitVec.toNat_ofNat]
    rw [Nat.mod_eq_of_lt (show n < 2 ^ 64 by simp; omega), Nat.mod_eq_of_lt (show x * 2 ^ k < 2 ^ 64 by simp; omega)]
    have := Nat.shiftLeft_add_eq_or_of_lt hn x
    rw [Nat.shiftLeft_eq] at this
    rw [Nat.or_comm, ← this]
    omega
  unfold orI
  rw [e]
  exact Go.IntWalk.i64_in _ (by omega)
theorem shlN (x k : Nat) (hk : k ≤ 64) (hb : x * 2 ^ k < 9223372036854775808) : shlI .i64 (x : Int) (k : Int) = ((x * 2 ^ k : Nat) : Int) := by
  unfold shlI
  have e : (min (k : Int).toNat IntKind.i64.bits) = k := by
    show min (k : Int).toNat 64 = k
    rw [Int.toNat_natCast]
    omega
  rw [e]
  have e2 : (x : Int) * 2 ^ k = ((x * 2 ^ k : Nat) : Int) := by simp
  rw [e2]
  exact Go.IntWalk.i64_in _ (by omega)
theorem and127b (c : UInt8) : andI .u8 (c.toNat : Int) 127 = ((c.toNat % 128 : Nat) : Int) := by
  have h := c.toNat_lt
  have e : (BitVec.ofInt IntKind.u8.bits (c.toNat : Int) &&& BitVec.ofInt IntKind.u8.bits 127).toNat = c.toNat % 128 := by
    show (BitVec.ofInt 8 (c.toNat : Int) &&& BitVec.ofInt 8 ((127 : Nat) : Int)).toNat = c.toNat % 128
    rw [BitVec.ofInt_natCast, BitVec.ofInt_natCast, BitVec.toNat_and]
    simp only [BitVec.toNat_ofNat]
    rw [Nat.mod_eq_of_lt (show c.toNat < 2 ^ 8 by simpa using h), Nat.mod_eq_of_lt (show 127 < 2 ^ 8 by decide)]
    exact Nat.and_two_pow_sub_one_eq_mod c.toNat 7
  unfold andI
  rw [e]
  exact Go.IntWalk.u8_in _ (by omega)
def NumPost (s : Bytes) (p : Nat) (bad : Bool) (K : K1) (G : Heap) (id : Nat) : Prop :=
  ∀ (v p' : Nat) (bad' : Bool), v < 34359738368 → p ≤ p' → p' ≤ s.length → (bad' = false → bad = false ∧ num (s.drop p) = some (v, s.drop p')) → (bad' = true → bad = true ∨ num (s.drop p) = none) →
    K (.int .i64 v) (G.put id (rdr s p' bad'))
def NumRes (s : Bytes) (p : Nat) (bad : Bool) (G : Heap) (id : Nat) (x : AV) (H' : Heap) : Prop := ∃ (v p' : Nat) (bad' : Bool), x = .int .i64 v ∧ H' = G.put id (rdr s p' bad') ∧ v < 34359738368 ∧ p ≤ p' ∧ p' ≤ s.length ∧
  (bad' = false → bad = false ∧ num (s.drop p) = some (v, s.drop p')) ∧ (bad' = true → bad = true ∨ num (s.drop p) = none)
def NumI (s : Bytes) (p : Nat) (bad : Bool) (G : Heap) (id : Nat) (t : Nat × Nat × Nat) (G' : Heap) : Prop :=
  G' = G.put id (rdr s t.2.2 bad) ∧ p ≤ t.2.2 ∧ t.2.2 ≤ s.length ∧ t.1 ≤ 5 ∧ t.2.1 < 2 ^ (7 * t.1) ∧ numR (5 - t.1) t.1 t.2.1 (s.drop t.2.2) = num (s.drop p)
theorem drop_at {s : Bytes} {p : Nat} (h : p < s.length) : ∃ c, s[p]? = some c ∧ s.drop p = c :: s.drop (p + 1) ∧ (s.drop p).take 1 = [c] := by
  obtain ⟨c, hc⟩ := getD_get' h
  have := drop_cons hc
  exact ⟨c, hc, this, by rw [this]; rfl⟩
set_option maxHeartbeats 1600000 in
theorem number_k {G : Heap} {id : Nat} {s : Bytes} {p : Nat} {bad : Bool} (hG : G id = some (rdr s p bad)) (hp : p ≤ s.length) (hs : s.length ≤ 1099511627776) {K : K1}
    (hK : NumPost s p bad K G id) : ACalls Tryd.prog 91 [.ptr id 0] G K := by
  refine (?_ : ACalls _ _ _ _ (NumRes s p bad G id)).mono (by
    rintro x H' ⟨v, p', bad', rfl, rfl, h1, h2, h3, h4, h5⟩
    exact hK v p' bad' h1 h2 h3 h4 h5)
  clear hK
  have hG0 : G.put id (rdr s p bad) = G := by
    funext j
    unfold Heap.put
    split
    · rename_i e; rw [e, hG]
    · rfl
  refine ACalls.of_code (X := { pure := pu0 }) pu0_ok Tryd.func91 (by kernel_rfl) rfl (by kernel_rfl) (Nat.le_of_ble_eq_true rfl) ?_
  simp -implicitDefEqProofs only [go_sem, tys, regs0, Nat.reduceEqDiff, Nat.reduceAdd, Nat.reduceLeDiff, Nat.reduceLT, Nat.reduceMul, Int.natCast_one, Int.natCast_zero, Int.reduceEq, Int.reduceLT, Int.reduceLE, Int.reduceAdd, Int.reduceSub, Int.reduceToNat, UInt8.reduceToNat, Tryd.f91]
  refine aloop_intro (σ := Nat × Nat × Nat) (fun t => [(0, .ptr id 0), (3, .int .i64 t.2.1), (6, .int .i64 t.1)]) (NumI s p bad G id) (fun t => 5 - t.1) (0, 0, p) ?_ ?_ ?_
  · simp -implicitDefEqProofs only [go_sem, tys, regs0, Nat.reduceEqDiff, Nat.reduceAdd, Nat.reduceLeDiff, Nat.reduceLT, Nat.reduceMul, Int.natCast_one, Int.natCast_zero, Int.reduceEq, Int.reduceLT, Int.reduceLE, Int.reduceAdd, Int.reduceSub, Int.reduceToNat, UInt8.reduceToNat]
  · exact ⟨hG0.symm, Nat.le_refl _, hp, by omega, by simp, rfl⟩
  · rintro ⟨i, n, q⟩ r G' hv ⟨hG', hpq, hq, hi, hn, hnum⟩
    have h0 := hv.1
    have h3 := hv.2.1
    have h6 := hv.2.2.1
    clear hv
    simp only at h3 h6 hG' hpq hq hi hn hnum
    have hB : G' id = some (rdr s q bad) := by rw [hG']; exact put_same _ _ _
    subst hG'
    simp -implicitDefEqProofs only [go_sem, tys, regs0, Nat.reduceEqDiff, Nat.reduceAdd, Nat.reduceLeDiff, Nat.reduceLT, Nat.reduceMul, Int.natCast_one, Int.natCast_zero, Int.reduceEq, Int.reduceLT, Int.reduceLE, Int.reduceAdd, Int.reduceSub, Int.reduceToNat, UInt8.reduceToNat, h0, h3, h6]
    refine cnd_intro (fun g => ?_) (fun g => ?_)
    · simp only [decide_eq_true_eq] at g
      have hi4 : i ≤ 4 := by omega
      simp -implicitDefEqProofs only [go_sem, tys, regs0, Nat.reduceEqDiff, Nat.reduceAdd, Nat.reduceLeDiff, Nat.reduceLT, Nat.reduceMul, Int.natCast_one, Int.natCast_zero, Int.reduceEq, Int.reduceLT, Int.reduceLE, Int.reduceAdd, Int.reduceSub, Int.reduceToNat, UInt8.reduceToNat, h0, h3, h6]
      refine take_k hB hq hs (by omega) (fun m hm hle => ?_) (fun hf => ?_)
      · obtain rfl : m = 1 := by omega
        obtain ⟨c, hc, hd, ht⟩ := drop_at (s := s) (p := q) (by omega)
        rw [ht, put_put']
        have hB1 := put_same G id (rdr s (q + 1 : Nat) bad)
        cases bad with
        | true =>
          unfold rdr at hB1 ⊢
          simp -implicitDefEqProofs only [go_sem, tys, regs0, Nat.reduceEqDiff, Nat.reduceAdd, Nat.reduceLeDiff, Nat.reduceLT, Nat.reduceMul, Int.natCast_one, Int.natCast_zero, Int.reduceEq, Int.reduceLT, Int.reduceLE, Int.reduceAdd, Int.reduceSub, Int.reduceToNat, UInt8.reduceToNat, h0, h3, h6, hB1]
          exact Done.now ⟨0, q + 1, true, rfl, rfl, by omega, by omega, by omega, by simp, by simp⟩
        | false =>
          have a1 := and127b c
          have hcl := c.toNat_lt
          have hcm : c.toNat % 128 < 128 := Nat.mod_lt _ (by omega)
          have hpw : 2 ^ (7 * i) ≤ 268435456 := Nat.le_trans (Nat.pow_le_pow_right (by omega) (show 7 * i ≤ 28 by omega)) (by decide)
          have hxm : c.toNat % 128 * 2 ^ (7 * i) ≤ 127 * 2 ^ (7 * i) := Nat.mul_le_mul_right _ (by omega)
          have w1 : IntKind.i64.wrap ((c.toNat % 128 : Nat) : Int) = ((c.toNat % 128 : Nat) : Int) := Go.IntWalk.i64_in _ (by omega)
          have w2 : IntKind.i64.wrap (7 * (i : Int)) = ((7 * i : Nat) : Int) := by rw [Go.IntWalk.i64_in _ (by omega)]; omega
          have w3 := shlN (c.toNat % 128) (7 * i) (by omega) (by omega)
          have w4 := orN n (c.toNat % 128) (7 * i) hn (by omega)
          have hnn : n + c.toNat % 128 * 2 ^ (7 * i) < 2 ^ (7 * (i + 1)) := by
            rw [show 7 * (i + 1) = 7 * i + 7 from by omega, Nat.pow_add]
            have e3 : (2 : Nat) ^ 7 = 128 := rfl
            rw [e3]
            omega
          have hn35 : n + c.toNat % 128 * 2 ^ (7 * i) < 34359738368 := by omega
          rw [hd, show 5 - i = (4 - i) + 1 from by omega, numR] at hnum
          generalize n + c.toNat % 128 * 2 ^ (7 * i) = n2 at *
          generalize c.toNat % 128 * 2 ^ (7 * i) = x2 at *
          generalize c.toNat % 128 = x1 at *
          unfold rdr at hB1 ⊢
          simp -implicitDefEqProofs only [go_sem, tys, regs0, Nat.reduceEqDiff, Nat.reduceAdd, Nat.reduceLeDiff, Nat.reduceLT, Nat.reduceMul, Int.natCast_one, Int.natCast_zero, Int.reduceEq, Int.reduceLT, Int.reduceLE, Int.reduceAdd, Int.reduceSub, Int.reduceToNat, UInt8.reduceToNat, h0, h3, h6, hB1, a1, w1, w2, w3, w4]
          refine ⟨by omega, ?_⟩
          refine cnd_intro (fun g2 => ?_) (fun g2 => ?_)
          · simp only [decide_eq_true_eq] at g2
            rw [if_pos (by omega)] at hnum
            by_cases z : 0 < i ∧ c = 0
            · have z1 : decide ((0 : Int) < i) = true := decide_eq_true (by omega)
              have z2 : decide ((c.toNat : Int) = 0) = true := decide_eq_true (by rw [z.2]; rfl)
              rw [if_pos z] at hnum
              simp -implicitDefEqProofs only [go_sem, tys, regs0, Nat.reduceEqDiff, Nat.reduceAdd, Nat.reduceLeDiff, Nat.reduceLT, Nat.reduceMul, Int.natCast_one, Int.natCast_zero, Int.reduceEq, Int.reduceLT, Int.reduceLE, Int.reduceAdd, Int.reduceSub, Int.reduceToNat, UInt8.reduceToNat, h0, h3, h6, hB1, z1, z2]
              exact Done.now ⟨n2, q + 1, true, rfl, rfl, hn35, by omega, by omega, by simp, fun _ => .inr hnum.symm⟩
            · rw [if_neg z] at hnum
              by_cases z1 : 0 < i
              · have z3 : decide ((0 : Int) < i) = true := decide_eq_true (by omega)
                have z2 : decide ((c.toNat : Int) = 0) = false := decide_eq_false (fun e => z ⟨z1, by
                  have : c.toNat = 0 := by omega
                  exact UInt8.toNat_inj.1 this⟩)
                simp -implicitDefEqProofs only [go_sem, tys, regs0, Nat.reduceEqDiff, Nat.reduceAdd, Nat.reduceLeDiff, Nat.reduceLT, Nat.reduceMul, Int.natCast_one, Int.natCast_zero, Int.reduceEq, Int.reduceLT, Int.reduceLE, Int.reduceAdd, Int.reduceSub, Int.reduceToNat, UInt8.reduceToNat, h0, h3, h6, hB1, z3, z2]
                exact Done.now ⟨n2, q + 1, false, rfl, rfl, hn35, by omega, by omega, fun _ => ⟨rfl, hnum.symm⟩, by simp⟩
              · have z3 : decide ((0 : Int) < i) = false := decide_eq_false (by omega)
                simp -implicitDefEqProofs only [go_sem, tys, regs0, Nat.reduceEqDiff, Nat.reduceAdd, Nat.reduceLeDiff, Nat.reduceLT, Nat.reduceMul, Int.natCast_one, Int.natCast_zero, Int.reduceEq, Int.reduceLT, Int.reduceLE, Int.reduceAdd, Int.reduceSub, Int.reduceToNat, UInt8.reduceToNat, h0, h3, h6, hB1, z3]
                exact Done.now ⟨n2, q + 1, false, rfl, rfl, hn35, by omega, by omega, fun _ => ⟨rfl, hnum.symm⟩, by simp⟩
          · simp only [decide_eq_false_iff_not] at g2
            rw [if_neg (by omega)] at hnum
            simp -implicitDefEqProofs (disch := omega) only [go_sem, tys, regs0, Nat.reduceEqDiff, Nat.reduceAdd, Nat.reduceLeDiff, Nat.reduceLT, Nat.reduceMul, Int.natCast_one, Int.natCast_zero, Int.reduceEq, Int.reduceLT, Int.reduceLE, Int.reduceAdd, Int.reduceSub, Int.reduceToNat, UInt8.reduceToNat, Go.IntWalk.i64_in, h0, h3, h6, hB1]
            exact Again.mk (i + 1, n2, q + 1) (by simp -implicitDefEqProofs only [go_sem, tys, regs0, Nat.reduceEqDiff, Nat.reduceAdd, Nat.reduceLeDiff, Nat.reduceLT, Nat.reduceMul, Int.natCast_one, Int.natCast_zero, Int.reduceEq, Int.reduceLT, Int.reduceLE, Int.reduceAdd, Int.reduceSub, Int.reduceToNat, UInt8.reduceToNat, h0, h3, h6]; simp) ⟨rfl, by simp only; omega, by simp only; omega, by simp only; omega, hnn, by simp only; rw [show 5 - (i + 1) = 4 - i from by omega]; exact hnum⟩ (by simp only; omega)
      · rw [put_put']
        have hB1 := put_same G id (rdr s q true)
        unfold rdr at hB1 ⊢
        simp -implicitDefEqProofs only [go_sem, tys, regs0, Nat.reduceEqDiff, Nat.reduceAdd, Nat.reduceLeDiff, Nat.reduceLT, Nat.reduceMul, Int.natCast_one, Int.natCast_zero, Int.reduceEq, Int.reduceLT, Int.reduceLE, Int.reduceAdd, Int.reduceSub, Int.reduceToNat, UInt8.reduceToNat, h0, h3, h6, hB1]
        have hq2 : q = s.length := by omega
        refine Done.now ⟨0, q, true, rfl, rfl, by omega, by omega, by omega, by simp, fun _ => .inr ?_⟩
        rw [← hnum, List.drop_eq_nil_of_le (by omega), show 5 - i = (4 - i) + 1 from by omega]
        rfl
    · simp only [decide_eq_false_iff_not] at g
      have : i = 5 := by omega
      subst this
      unfold rdr at hB ⊢
      simp -implicitDefEqProofs only [go_sem, tys, regs0, Nat.reduceEqDiff, Nat.reduceAdd, Nat.reduceLeDiff, Nat.reduceLT, Nat.reduceMul, Int.natCast_one, Int.natCast_zero, Int.reduceEq, Int.reduceLT, Int.reduceLE, Int.reduceAdd, Int.reduceSub, Int.reduceToNat, UInt8.reduceToNat, h0, h3, h6, hB]
      refine Done.now ⟨0, q, true, rfl, rfl, by omega, by omega, by omega, by simp, fun _ => .inr ?_⟩
      rw [← hnum]; rfl
end Go.Proofs
