/- Walks: the reference's reader. -/
import Derived.Test.YtnheonhmnepifaaDoorDP3
namespace Go.Proofs
open Go Go.Abs
set_option linter.unusedSimpArgs false
set_option linter.unusedVariables false
set_option maxRecDepth 20000
theorem put_comm' {H : Heap} {i j : Nat} (h : ¬ i = j) (a b : AObj) : (H.put i a).put j b = (H.put j b).put i a := by
  funext k
  unfold Heap.put
  by_cases e1 : k = j <;> by_cases e2 : k = i <;> simp_all
theorem put_self {H : Heap} {i : Nat} {a : AObj} (h : H i = some a) : H.put i a = H := by
  funext k
  unfold Heap.put
  split
  · rename_i e; rw [e, h]
  · rfl
def RB (G : Heap) (ir ib : Nat) (rest : Bytes) (b : Bool) : Heap := (G.put ir (.cells [.str rest])).put ib (.cells [.bool b])
theorem RB_r (G : Heap) {ir ib : Nat} (h : ¬ ir = ib) (rest : Bytes) (b : Bool) : RB G ir ib rest b ir = some (.cells [.str rest]) := by unfold RB; rw [put_ne _ _ _ _ h]; exact put_same _ _ _
theorem RB_b (G : Heap) (ir ib : Nat) (rest : Bytes) (b : Bool) : RB G ir ib rest b ib = some (.cells [.bool b]) := put_same _ _ _
theorem RB_o (G : Heap) {ir ib i : Nat} (h1 : ¬ i = ir) (h2 : ¬ i = ib) (rest : Bytes) (b : Bool) : RB G ir ib rest b i = G i := by unfold RB; rw [put_ne _ _ _ _ h2, put_ne _ _ _ _ h1]
theorem RB_RB (G : Heap) {ir ib : Nat} (h : ¬ ir = ib) (r r' : Bytes) (b b' : Bool) : RB (RB G ir ib r b) ir ib r' b' = RB G ir ib r' b' := by
  have h' : ¬ ib = ir := fun e => h e.symm
  unfold RB
  rw [put_comm' h', put_put', put_put']
theorem RB_self {G : Heap} {ir ib : Nat} {r : Bytes} {b : Bool} (h1 : G ir = some (.cells [.str r])) (h2 : G ib = some (.cells [.bool b])) : RB G ir ib r b = G := by
  unfold RB
  rw [put_self h1, put_self h2]
set_option maxHeartbeats 1600000 in
theorem rtake_k {G : Heap} {ir ib : Nat} (hne : ¬ ir = ib) {r : Bytes} {b : Bool} {n : Int} (h1 : G ir = some (.cells [.str r])) (h2 : G ib = some (.cells [.bool b])) (hr : r.length ≤ 1099511627776) {K : K1}
    (k1 : ∀ m : Nat, n = m → m ≤ r.length → K (.str (r.take m)) (RB G ir ib (r.drop m) b)) (k2 : (n < 0 ∨ (r.length : Int) < n) → K (.str []) (RB G ir ib [] true)) :
    ACalls Tryd.prog 86 [.int .i64 n, .ptr ir 0, .ptr ib 0] G K := by
  have hne' : ¬ ib = ir := fun e => hne e.symm
  by_cases g : n < 0 ∨ (r.length : Int) < n
  · have k2 := k2 g
    refine (?_ : ACalls _ _ _ _ fun x H' => x = .str [] ∧ H' = RB G ir ib [] true).mono (by rintro x H' ⟨rfl, rfl⟩; exact k2)
    by_cases g1 : n < 0
    · have d1 : decide (n < 0) = true := decide_eq_true g1
      refine ACalls.of_code (X := { pure := pu0 }) pu0_ok Tryd.func86 (by kernel_rfl) rfl (by kernel_rfl) (Nat.le_of_ble_eq_true rfl) ?_
      simp -implicitDefEqProofs only [go_sem, tys, regs0, Nat.reduceEqDiff, Nat.reduceAdd, Nat.reduceLeDiff, Nat.reduceLT, Nat.reduceMul, Int.natCast_one, Int.natCast_zero, Int.reduceEq, Int.reduceLT, Int.reduceLE, Int.reduceAdd, Int.reduceSub, Int.reduceToNat, UInt8.reduceToNat, Tryd.f86, h1, h2, d1, put_ne, hne, hne']
      exact Done.now ⟨rfl, (put_comm' hne' _ _)⟩
    · have d1 : decide (n < 0) = false := decide_eq_false g1
      have d2 : decide ((r.length : Int) < n) = true := decide_eq_true (by omega)
      refine ACalls.of_code (X := { pure := pu0 }) pu0_ok Tryd.func86 (by kernel_rfl) rfl (by kernel_rfl) (Nat.le_of_ble_eq_true rfl) ?_
      simp -implicitDefEqProofs only [go_sem, tys, regs0, Nat.reduceEqDiff, Nat.reduceAdd, Nat.reduceLeDiff, Nat.reduceLT, Nat.reduceMul, Int.natCast_one, Int.natCast_zero, Int.reduceEq, Int.reduceLT, Int.reduceLE, Int.reduceAdd, Int.reduceSub, Int.reduceToNat, UInt8.reduceToNat, Tryd.f86, h1, h2, d1, d2, put_ne, hne, hne']
      exact Done.now ⟨rfl, (put_comm' hne' _ _)⟩
  · obtain ⟨m, rfl⟩ : ∃ m : Nat, n = m := ⟨n.toNat, by omega⟩
    have k1 := k1 m rfl (by omega)
    refine (?_ : ACalls _ _ _ _ fun x H' => x = .str (r.take m) ∧ H' = RB G ir ib (r.drop m) b).mono (by rintro x H' ⟨rfl, rfl⟩; exact k1)
    have d1 : decide ((m : Int) < 0) = false := decide_eq_false (by omega)
    have d2 : decide ((r.length : Int) < m) = false := decide_eq_false (by omega)
    refine ACalls.of_code (X := { pure := pu0 }) pu0_ok Tryd.func86 (by kernel_rfl) rfl (by kernel_rfl) (Nat.le_of_ble_eq_true rfl) ?_
    simp -implicitDefEqProofs only [go_sem, tys, regs0, Nat.reduceEqDiff, Nat.reduceAdd, Nat.reduceLeDiff, Nat.reduceLT, Nat.reduceMul, Int.natCast_one, Int.natCast_zero, Int.reduceEq, Int.reduceLT, Int.reduceLE, Int.reduceAdd, Int.reduceSub, Int.reduceToNat, UInt8.reduceToNat, Tryd.f86, h1, h2, d1, d2, put_ne, hne, hne']
    refine ⟨by omega, ⟨by omega, by omega⟩, Done.now ⟨rfl, ?_⟩⟩
    rw [List.take_length]
    unfold RB
    exact (put_self (by rw [put_ne _ _ _ _ hne']; exact h2)).symm
def takeF (ir ib : Nat) : AV := .func 86 [.ptr ir 0, .ptr ib 0]
def RNumPost (r : Bytes) (b : Bool) (K : K1) (G : Heap) (ir ib : Nat) : Prop :=
  ∀ (v : Nat) (r' : Bytes) (b' : Bool), v < 34359738368 → r'.length ≤ r.length → (b' = false → b = false ∧ num r = some (v, r')) → (b' = true → b = true ∨ num r = none) → K (.int .i64 v) (RB G ir ib r' b')
def RNumRes (r : Bytes) (b : Bool) (G : Heap) (ir ib : Nat) (x : AV) (H' : Heap) : Prop := ∃ (v : Nat) (r' : Bytes) (b' : Bool), x = .int .i64 v ∧ H' = RB G ir ib r' b' ∧ v < 34359738368 ∧ r'.length ≤ r.length ∧ (b' = false → b = false ∧ num r = some (v, r')) ∧ (b' = true → b = true ∨ num r = none)
def RNumI (r : Bytes) (b : Bool) (G : Heap) (ir ib : Nat) (t : Nat × Nat × Bytes) (G' : Heap) : Prop :=
  G' = RB G ir ib t.2.2 b ∧ t.2.2.length ≤ r.length ∧ t.1 ≤ 5 ∧ t.2.1 < 2 ^ (7 * t.1) ∧ numR (5 - t.1) t.1 t.2.1 t.2.2 = num r
set_option maxHeartbeats 1600000 in
theorem rnum_k {G : Heap} {it ir ib : Nat} (hne : ¬ ir = ib) (hn1 : ¬ it = ir) (hn2 : ¬ it = ib) {r : Bytes} {b : Bool} (h1 : G ir = some (.cells [.str r])) (h2 : G ib = some (.cells [.bool b])) (h3 : G it = some (.cells [takeF ir ib])) (hr : r.length ≤ 1099511627776) {K : K1}
    (hK : RNumPost r b K G ir ib) : ACalls Tryd.prog 87 [.ptr it 0, .ptr ib 0] G K := by
  have hne' : ¬ ib = ir := fun e => hne e.symm
  refine (?_ : ACalls _ _ _ _ (RNumRes r b G ir ib)).mono (by
    rintro x H' ⟨v, p', bad', rfl, rfl, h1, h2, h3, h4⟩
    exact hK v p' bad' h1 h2 h3 h4)
  clear hK
  refine ACalls.of_code (X := { pure := pu0 }) pu0_ok Tryd.func87 (by kernel_rfl) rfl (by kernel_rfl) (Nat.le_of_ble_eq_true rfl) ?_
  simp -implicitDefEqProofs only [go_sem, tys, regs0, Nat.reduceEqDiff, Nat.reduceAdd, Nat.reduceLeDiff, Nat.reduceLT, Nat.reduceMul, Int.natCast_one, Int.natCast_zero, Int.reduceEq, Int.reduceLT, Int.reduceLE, Int.reduceAdd, Int.reduceSub, Int.reduceToNat, UInt8.reduceToNat, Tryd.f87]
  refine aloop_intro (σ := Nat × Nat × Bytes) (fun t => [(0, .ptr it 0), (1, .ptr ib 0), (3, .int .i64 t.2.1), (4, .int .i64 t.1)]) (RNumI r b G ir ib) (fun t => 5 - t.1) (0, 0, r) ?_ ?_ ?_
  · simp -implicitDefEqProofs only [go_sem, tys, regs0, Nat.reduceEqDiff, Nat.reduceAdd, Nat.reduceLeDiff, Nat.reduceLT, Nat.reduceMul, Int.natCast_one, Int.natCast_zero, Int.reduceEq, Int.reduceLT, Int.reduceLE, Int.reduceAdd, Int.reduceSub, Int.reduceToNat, UInt8.reduceToNat]
  · exact ⟨(RB_self h1 h2).symm, Nat.le_refl _, by omega, by simp, rfl⟩
  · rintro ⟨i, n, q⟩ rg G' hv ⟨hG', hq, hi, hn, hnum⟩
    have h0 := hv.1
    have h1r := hv.2.1
    have h3r := hv.2.2.1
    have h4 := hv.2.2.2.1
    clear hv
    simp only at h0 h1r h3r h4 hG' hq hi hn hnum
    subst hG'
    have B1 := RB_r G hne q b
    have B2 := RB_b G ir ib q b
    have B3 : RB G ir ib q b it = some (.cells [takeF ir ib]) := by rw [RB_o G hn1 hn2]; exact h3
    unfold takeF at B3
    simp -implicitDefEqProofs only [go_sem, tys, regs0, Nat.reduceEqDiff, Nat.reduceAdd, Nat.reduceLeDiff, Nat.reduceLT, Nat.reduceMul, Int.natCast_one, Int.natCast_zero, Int.reduceEq, Int.reduceLT, Int.reduceLE, Int.reduceAdd, Int.reduceSub, Int.reduceToNat, UInt8.reduceToNat, h0, h1r, h3r, h4]
    refine cnd_intro (fun g => ?_) (fun g => ?_)
    · simp only [decide_eq_true_eq] at g
      have hi4 : i ≤ 4 := by omega
      simp -implicitDefEqProofs only [go_sem, tys, regs0, Nat.reduceEqDiff, Nat.reduceAdd, Nat.reduceLeDiff, Nat.reduceLT, Nat.reduceMul, Int.natCast_one, Int.natCast_zero, Int.reduceEq, Int.reduceLT, Int.reduceLE, Int.reduceAdd, Int.reduceSub, Int.reduceToNat, UInt8.reduceToNat, h0, h1r, h3r, h4, B3]
      refine rtake_k hne B1 B2 (by omega) (fun m hm hle => ?_) (fun hf => ?_)
      · obtain rfl : m = 1 := by omega
        rw [RB_RB G hne]
        obtain ⟨c, q', rfl⟩ : ∃ c q', q = c :: q' := by
          cases q with
          | nil => simp at hle
          | cons c q' => exact ⟨c, q', rfl⟩
        have ht : (c :: q').take 1 = [c] := rfl
        have hd : (c :: q').drop 1 = q' := rfl
        rw [ht, hd]
        have C2 := RB_b G ir ib q' b
        have a1 := and127b c
        have hcl := c.toNat_lt
        have hcm : c.toNat % 128 < 128 := Nat.mod_lt _ (by omega)
        have hpw : 2 ^ (7 * i) ≤ 268435456 := Nat.le_trans (Nat.pow_le_pow_right (by omega) (show 7 * i ≤ 28 by omega)) (by decide)
        have hxm : c.toNat % 128 * 2 ^ (7 * i) ≤ 127 * 2 ^ (7 * i) := Nat.mul_le_mul_right _ (by omega)
        have w1 : IntKind.i64.wrap ((c.toNat % 128 : Nat) : Int) = ((c.toNat % 128 : Nat) : Int) := Go.IntWalk.i64_in _ (by omega)
        have w2 : IntKind.i64.wrap (7 * (i : Int)) = ((7 * i : Nat) : Int) := by rw [Go.IntWalk.i64_in _ (by omega)]; omega
        have w3 := shlN (c.toNat % 128) (7 * i) (by omega) (by omega)
        have w4 := orN n (c.toNat % 128) (7 * i) hn (by omega)
        have hnn : n + c.toNat % 128 * 2 ^ (7 * i) < 2 ^ (7 * (i + 1)) := by
          rw [show 7 * (i + 1) = 7 * i + 7 from by omega, Nat.pow_add]
          have e3 : (2 : Nat) ^ 7 = 128 := rfl
          rw [e3]
          omega
        have hn35 : n + c.toNat % 128 * 2 ^ (7 * i) < 34359738368 := by omega
        rw [show 5 - i = (4 - i) + 1 from by omega, numR] at hnum
        simp only [List.length_cons] at hq
        generalize n + c.toNat % 128 * 2 ^ (7 * i) = n2 at *
        generalize c.toNat % 128 * 2 ^ (7 * i) = x2 at *
        generalize c.toNat % 128 = x1 at *
        have kz : decide ([c] = ([] : Bytes)) = false := by simp
        simp -implicitDefEqProofs only [go_sem, tys, regs0, Nat.reduceEqDiff, Nat.reduceAdd, Nat.reduceLeDiff, Nat.reduceLT, Nat.reduceMul, Int.natCast_one, Int.natCast_zero, Int.reduceEq, Int.reduceLT, Int.reduceLE, Int.reduceAdd, Int.reduceSub, Int.reduceToNat, UInt8.reduceToNat, h0, h1r, h3r, h4, C2, a1, w1, w2, w3, w4, kz]
        refine ⟨by omega, ?_⟩
        refine cnd_intro (fun g2 => ?_) (fun g2 => ?_)
        · simp only [decide_eq_true_eq] at g2
          rw [if_pos (by omega)] at hnum
          by_cases z : 0 < i ∧ c = 0
          · have z1 : decide ((0 : Int) < i) = true := decide_eq_true (by omega)
            have z2 : decide ((c.toNat : Int) = 0) = true := decide_eq_true (by rw [z.2]; rfl)
            rw [if_pos z] at hnum
            simp -implicitDefEqProofs only [go_sem, tys, regs0, Nat.reduceEqDiff, Nat.reduceAdd, Nat.reduceLeDiff, Nat.reduceLT, Nat.reduceMul, Int.natCast_one, Int.natCast_zero, Int.reduceEq, Int.reduceLT, Int.reduceLE, Int.reduceAdd, Int.reduceSub, Int.reduceToNat, UInt8.reduceToNat, h0, h1r, h3r, h4, C2, z1, z2]
            refine Done.now ⟨n2, q', true, rfl, ?_, hn35, by omega, by simp, fun _ => .inr hnum.symm⟩
            unfold RB; rw [put_put']
          · rw [if_neg z] at hnum
            have hfin : RNumRes r b G ir ib (.int .i64 n2) (RB G ir ib q' b) := by
              refine ⟨n2, q', b, rfl, rfl, hn35, by omega, fun e => ⟨e, hnum.symm⟩, fun e => .inl e⟩
            by_cases z1 : 0 < i
            · have z3 : decide ((0 : Int) < i) = true := decide_eq_true (by omega)
              have z2 : decide ((c.toNat : Int) = 0) = false := decide_eq_false (fun e => z ⟨z1, by
                have : c.toNat = 0 := by omega
                exact UInt8.toNat_inj.1 this⟩)
              simp -implicitDefEqProofs only [go_sem, tys, regs0, Nat.reduceEqDiff, Nat.reduceAdd, Nat.reduceLeDiff, Nat.reduceLT, Nat.reduceMul, Int.natCast_one, Int.natCast_zero, Int.reduceEq, Int.reduceLT, Int.reduceLE, Int.reduceAdd, Int.reduceSub, Int.reduceToNat, UInt8.reduceToNat, h0, h1r, h3r, h4, C2, z3, z2]
              exact Done.now hfin
            · have z3 : decide ((0 : Int) < i) = false := decide_eq_false (by omega)
              simp -implicitDefEqProofs only [go_sem, tys, regs0, Nat.reduceEqDiff, Nat.reduceAdd, Nat.reduceLeDiff, Nat.reduceLT, Nat.reduceMul, Int.natCast_one, Int.natCast_zero, Int.reduceEq, Int.reduceLT, Int.reduceLE, Int.reduceAdd, Int.reduceSub, Int.reduceToNat, UInt8.reduceToNat, h0, h1r, h3r, h4, C2, z3]
              exact Done.now hfin
        · simp only [decide_eq_false_iff_not] at g2
          rw [if_neg (by omega)] at hnum
          simp -implicitDefEqProofs (disch := omega) only [go_sem, tys, regs0, Nat.reduceEqDiff, Nat.reduceAdd, Nat.reduceLeDiff, Nat.reduceLT, Nat.reduceMul, Int.natCast_one, Int.natCast_zero, Int.reduceEq, Int.reduceLT, Int.reduceLE, Int.reduceAdd, Int.reduceSub, Int.reduceToNat, UInt8.reduceToNat, Go.IntWalk.i64_in, h0, h1r, h3r, h4]
          exact Again.mk (i + 1, n2, q') (by simp -implicitDefEqProofs only [go_sem, tys, regs0, Nat.reduceEqDiff, Nat.reduceAdd, Nat.reduceLeDiff, Nat.reduceLT, Nat.reduceMul, Int.natCast_one, Int.natCast_zero, Int.reduceEq, Int.reduceLT, Int.reduceLE, Int.reduceAdd, Int.reduceSub, Int.reduceToNat, UInt8.reduceToNat, h0, h1r, h3r, h4]; simp) ⟨rfl, by simp only; omega, by simp only; omega, hnn, by simp only; rw [show 5 - (i + 1) = 4 - i from by omega]; exact hnum⟩ (by simp only; omega)
      · rw [RB_RB G hne]
        have hq2 : q = [] := List.eq_nil_of_length_eq_zero (by omega)
        have kz : decide (([] : Bytes) = ([] : Bytes)) = true := by simp
        simp -implicitDefEqProofs only [go_sem, tys, regs0, Nat.reduceEqDiff, Nat.reduceAdd, Nat.reduceLeDiff, Nat.reduceLT, Nat.reduceMul, Int.natCast_one, Int.natCast_zero, Int.reduceEq, Int.reduceLT, Int.reduceLE, Int.reduceAdd, Int.reduceSub, Int.reduceToNat, UInt8.reduceToNat, h0, h1r, h3r, h4, kz]
        refine Done.now ⟨0, [], true, rfl, rfl, by omega, by simp, by simp, fun _ => .inr ?_⟩
        rw [← hnum, hq2, show 5 - i = (4 - i) + 1 from by omega]
        rfl
    · simp only [decide_eq_false_iff_not] at g
      have : i = 5 := by omega
      subst this
      simp -implicitDefEqProofs only [go_sem, tys, regs0, Nat.reduceEqDiff, Nat.reduceAdd, Nat.reduceLeDiff, Nat.reduceLT, Nat.reduceMul, Int.natCast_one, Int.natCast_zero, Int.reduceEq, Int.reduceLT, Int.reduceLE, Int.reduceAdd, Int.reduceSub, Int.reduceToNat, UInt8.reduceToNat, h0, h1r, h3r, h4, B2]
      refine Done.now ⟨0, q, true, rfl, by unfold RB; rw [put_put'], by omega, hq, by simp, fun _ => .inr ?_⟩
      rw [← hnum]; rfl
end Go.Proofs
