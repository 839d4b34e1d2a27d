/- Walks: the reference's sums. -/
import Derived.Test.YtnheonhmnepifaaDoorDP4
namespace Go.Proofs
open Go Go.Abs
set_option linter.unusedSimpArgs false
set_option linter.unusedVariables false
set_option maxRecDepth 20000
def puQ : Pures := putP 20 sRep (putP 89 sFU puP5)
theorem puQ_ok : PuOK Tryd.prog puQ := by
  refine PuOK.put (PuOK.put puP5_ok (sFU_ok formatUint_calls)) ?_
  intro xs v hv H
  obtain ⟨x, y, p, q, rfl, h1, h2, h3⟩ := fn2_some hv
  cases Rd.str_some h1
  cases Rd.int_some h2
  split at h3
  · rename_i hc
    obtain ⟨rfl, h0, h16⟩ := hc
    cases h3
    obtain ⟨k, rfl⟩ : ∃ k : Nat, q = k := ⟨q.toNat, by omega⟩
    exact repeat_calls k (by omega) H
  · cases h3
theorem shl8 (n : Nat) (h : n * 256 < 18446744073709551616) : shlI .u64 (n : Int) 8 = ((n * 256 : Nat) : Int) := by
  unfold shlI
  have e2 : (n : Int) * 2 ^ (min (8 : Int).toNat IntKind.u64.bits) = ((n * 256 : Nat) : Int) := by
    show (n : Int) * 2 ^ (min 8 64) = _
    simp
  rw [e2]
  exact Go.IntWalk.u64_in _ (by omega)
theorem or8 (n c : Nat) (hc : c < 256) (h : n * 256 + c < 18446744073709551616) : orI .u64 ((n * 256 : Nat) : Int) (c : Int) = ((n * 256 + c : Nat) : Int) := by
  have e : (BitVec.ofInt IntKind.u64.bits ((n * 256 : Nat) : Int) ||| BitVec.ofInt IntKind.u64.bits (c : Int)).toNat = n * 256 + c := by
    show (BitVec.ofInt 64 ((n * 256 : Nat) : Int) ||| BitVec.ofInt 64 (c : Int)).toNat = n * 256 + c
    rw [BitVec.ofInt_natCast, BitVec.ofInt_natCast, BitVec.toNat_or]
    simp only [BitVec.toNat_ofNat]
    rw [Nat.mod_eq_of_lt (show n * 256 < 2 ^ 64 by simp; omega), Nat.mod_eq_of_lt (show c < 2 ^ 64 by simp; omega)]
    have := Nat.shiftLeft_add_eq_or_of_lt (show c < 2 ^ 8 by simpa using hc) n
    rw [Nat.shiftLeft_eq] at this
    exact this.symm
  unfold orI
  rw [e]
  exact Go.IntWalk.u64_in _ (by omega)
theorem beN_take {k : Bytes} {i : Nat} {c : UInt8} (h : k[i]? = some c) : beN (k.take (i + 1)) = beN (k.take i) * 256 + c.toNat := by
  rw [List.take_add_one, h]; exact beN_snoc _ _
set_option maxHeartbeats 1600000 in
theorem rhex_walk {G G1 : Heap} {it : Nat} (k : Bytes) (hk : k.length ≤ 8) {cap : List AV} (h3 : G it = some (.cells [.func 86 cap]))
    (hT : ∀ K : K1, K (.str k) G1 → ACalls Tryd.prog 86 (.int .i64 8 :: cap) G K) : ACalls Tryd.prog 88 [.ptr it 0] G fun x H' => x = .str (hexPad 16 (beN k)) ∧ H' = G1 := by
  have hlt : ∀ i, i ≤ k.length → beN (k.take i) < 256 ^ i := fun i hi => beN_lt i (k.take i) (by rw [List.length_take]; omega)
  refine ACalls.of_code (X := { pure := puQ }) puQ_ok Tryd.func88 (by kernel_rfl) rfl (by kernel_rfl) (Nat.le_of_ble_eq_true rfl) ?_
  simp -implicitDefEqProofs only [go_sem, tys, regs0, Nat.reduceEqDiff, Nat.reduceAdd, Nat.reduceLeDiff, Nat.reduceLT, Nat.reduceMul, Int.natCast_one, Int.natCast_zero, Int.reduceEq, Int.reduceLT, Int.reduceLE, Int.reduceAdd, Int.reduceSub, Int.reduceToNat, UInt8.reduceToNat, Tryd.f88, h3, puQ, puP5, puM, puN, pu0]
  refine hT _ ?_
  simp -implicitDefEqProofs only [go_sem, tys, regs0, Nat.reduceEqDiff, Nat.reduceAdd, Nat.reduceLeDiff, Nat.reduceLT, Nat.reduceMul, Int.natCast_one, Int.natCast_zero, Int.reduceEq, Int.reduceLT, Int.reduceLE, Int.reduceAdd, Int.reduceSub, Int.reduceToNat, UInt8.reduceToNat, puQ, puP5, puM, puN, pu0]
  refine aloop_intro (σ := Nat) (fun i => [(2, .str k), (3, .int .u64 (beN (k.take i))), (9, .int .i64 k.length), (10, .int .i64 i)]) (fun i G' => G' = G1 ∧ i ≤ k.length) (fun i => k.length - i) 0 ?_ ?_ ?_
  · simp -implicitDefEqProofs only [go_sem, tys, regs0, Nat.reduceEqDiff, Nat.reduceAdd, Nat.reduceLeDiff, Nat.reduceLT, Nat.reduceMul, Int.natCast_one, Int.natCast_zero, Int.reduceEq, Int.reduceLT, Int.reduceLE, Int.reduceAdd, Int.reduceSub, Int.reduceToNat, UInt8.reduceToNat]
    simp [beN]
  · exact ⟨rfl, by omega⟩
  · rintro i r G' hv ⟨rfl, hi⟩
    have r2 := hv.1
    have r3 := hv.2.1
    have r9 := hv.2.2.1
    have r10 := hv.2.2.2.1
    clear hv
    simp -implicitDefEqProofs only [go_sem, tys, regs0, Nat.reduceEqDiff, Nat.reduceAdd, Nat.reduceLeDiff, Nat.reduceLT, Nat.reduceMul, Int.natCast_one, Int.natCast_zero, Int.reduceEq, Int.reduceLT, Int.reduceLE, Int.reduceAdd, Int.reduceSub, Int.reduceToNat, UInt8.reduceToNat, r2, r3, r9, r10]
    refine cnd_intro (fun g => ?_) (fun g => ?_)
    · simp only [decide_eq_true_eq] at g
      obtain ⟨c, hc⟩ : ∃ c, k[i]? = some c := getD_get' (by omega)
      have hcl := c.toNat_lt
      have q1 := hlt i hi
      have q2 := hlt (i + 1) (by omega)
      have q3 := beN_take hc
      have q4 : 256 ^ (i + 1) ≤ 256 ^ 8 := Nat.pow_le_pow_right (by omega) (by omega)
      have q5 : (256 : Nat) ^ 8 = 18446744073709551616 := by decide
      have a1 := shl8 (beN (k.take i)) (by omega)
      have a2 := or8 (beN (k.take i)) c.toNat (by omega) (by omega)
      have a3 := u64_byte c
      simp -implicitDefEqProofs (disch := omega) only [go_sem, tys, regs0, Nat.reduceEqDiff, Nat.reduceAdd, Nat.reduceLeDiff, Nat.reduceLT, Nat.reduceMul, Int.natCast_one, Int.natCast_zero, Int.reduceEq, Int.reduceLT, Int.reduceLE, Int.reduceAdd, Int.reduceSub, Int.reduceToNat, UInt8.reduceToNat, Go.IntWalk.i64_in, r2, r3, r9, r10, hc, a1, a2, a3]
      exact Again.mk (i + 1) (by simp -implicitDefEqProofs only [go_sem, tys, regs0, Nat.reduceEqDiff, Nat.reduceAdd, Nat.reduceLeDiff, Nat.reduceLT, Nat.reduceMul, Int.natCast_one, Int.natCast_zero, Int.reduceEq, Int.reduceLT, Int.reduceLE, Int.reduceAdd, Int.reduceSub, Int.reduceToNat, UInt8.reduceToNat, r2, r3, r9, r10, q3]; exact rfl) ⟨rfl, by omega⟩ (by omega)
    · simp only [decide_eq_false_iff_not] at g
      have : i = k.length := by omega
      subst this
      have q1 := hlt k.length hi
      have q4 : 256 ^ k.length ≤ 256 ^ 8 := Nat.pow_le_pow_right (by omega) (by omega)
      have q5 : (256 : Nat) ^ 8 = 18446744073709551616 := by decide
      have q6 : (16 : Nat) ^ (15 + 1) = 18446744073709551616 := by decide
      rw [List.take_length] at r3 q1
      obtain ⟨p1, p2⟩ := hexMin_pad 15 (beN k) (by omega)
      have hf := sFU_eq (beN k) (by omega)
      have hp := sRep_eq (16 - (hexMin (beN k)).length) (by omega)
      have hw : IntKind.i64.wrap (16 - ((hexMin (beN k)).length : Int)) = ((16 - (hexMin (beN k)).length : Nat) : Int) := by rw [Go.IntWalk.i64_in _ (by omega)]; omega
      simp -implicitDefEqProofs (disch := (first | omega | (simp only [List.length_append, List.length_cons, List.length_nil]; omega))) only [go_sem, binS_addD, tys, regs0, Nat.reduceEqDiff, Nat.reduceAdd, Nat.reduceLeDiff, Nat.reduceLT, Nat.reduceMul, Int.natCast_one, Int.natCast_zero, Int.reduceEq, Int.reduceLT, Int.reduceLE, Int.reduceAdd, Int.reduceSub, Int.reduceToNat, UInt8.reduceToNat, Go.IntWalk.i64_in, r2, r3, r9, r10, puQ, puP5, puM, puN, pu0, hf, hp, hw]
      refine ⟨by rw [List.length_replicate]; omega, Done.now ⟨?_, rfl⟩⟩
      rw [p2]
def RHexPost (r : Bytes) (b : Bool) (K : K1) (G : Heap) (ir ib : Nat) : Prop :=
  ∀ (x r' : Bytes) (b' : Bool), x.length = 16 → r'.length ≤ r.length → (b' = false → b = false ∧ sumR r = some (x, r')) → (b' = true → b = true ∨ sumR r = none) → K (.str x) (RB G ir ib r' b')
theorem rhex_k {G : Heap} {it ir ib : Nat} (hne : ¬ ir = ib) {r : Bytes} {b : Bool} (h1 : G ir = some (.cells [.str r])) (h2 : G ib = some (.cells [.bool b])) (h3 : G it = some (.cells [takeF ir ib])) (hr : r.length ≤ 1099511627776) {K : K1}
    (hK : RHexPost r b K G ir ib) : ACalls Tryd.prog 88 [.ptr it 0] G K := by
  by_cases h : 8 ≤ r.length
  · have hl : (r.take 8).length = 8 := by rw [List.length_take]; omega
    refine (rhex_walk (r.take 8) (by omega) (G1 := RB G ir ib (r.drop 8) b) h3 (fun K hK => rtake_k hne h1 h2 hr (fun m hm _ => by
      obtain rfl : m = 8 := by omega
      exact hK) (fun hf => by omega))).mono ?_
    rintro x H' ⟨rfl, rfl⟩
    refine hK _ (r.drop 8) b (hexPad_len _ _) (by rw [List.length_drop]; omega) (fun e => ⟨e, ?_⟩) (fun e => .inl e)
    unfold sumR
    rw [if_pos h, ← hexPad_be 8 _ hl]
  · refine (rhex_walk [] (by simp) (G1 := RB G ir ib [] true) h3 (fun K hK => rtake_k hne h1 h2 hr (fun m hm hf => by omega) (fun _ => hK))).mono ?_
    rintro x H' ⟨rfl, rfl⟩
    refine hK _ [] true (hexPad_len _ _) (by simp) (by simp) (fun _ => .inr ?_)
    unfold sumR
    rw [if_neg h]
end Go.Proofs
