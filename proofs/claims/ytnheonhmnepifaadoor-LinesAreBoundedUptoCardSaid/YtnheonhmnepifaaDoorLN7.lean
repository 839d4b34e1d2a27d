/- Walks: where lines stand; ends of lines; what becomes of three parts. -/
import Derived.Test.YtnheonhmnepifaaDoorLN6
namespace Go.Proofs
open Go Go.Abs
set_option linter.unusedSimpArgs false
set_option linter.unusedVariables false
set_option maxRecDepth 20000
/-- Where each line of a base stands, or -1. -/
def plcV (n : Nat) (l : List (Nat × Nat)) : List Int := l.foldl (fun a p => a.set p.1 (p.2 : Int)) (List.replicate n (-1))
theorem fold_set_len (l : List (Nat × Nat)) : ∀ a : List Int, (l.foldl (fun a p => a.set p.1 (p.2 : Int)) a).length = a.length := by
  induction l with
  | nil => intro a; rfl
  | cons p l ih => intro a; rw [List.foldl_cons, ih, List.length_set]
theorem plcV_len (n : Nat) (l : List (Nat × Nat)) : (plcV n l).length = n := by
  unfold plcV; rw [fold_set_len, List.length_replicate]
theorem fold_set_get {N M : Nat} : ∀ (l : List (Nat × Nat)) (i k : Nat) (a : List Int) (n : Nat), Rise i k N M l → n < a.length → (l.foldl (fun a p => a.set p.1 (p.2 : Int)) a)[n]? = some (match lk n l with
    | some j => (j : Int)
    | none => a.getD n 0)
  | [], i, k, a, n, _, hn => by simp [lk, List.getD, List.getElem?_eq_getElem hn]
  | p :: l, i, k, a, n, h, hn => by
    rw [List.foldl_cons, fold_set_get l _ _ _ n h.2.2.2.2 (by rw [List.length_set]; exact hn), lk]
    by_cases e : p.1 = n
    · subst e
      rw [if_pos rfl, lk_lt h.2.2.2.2 (by omega)]
      simp [List.getD, List.getElem?_set, hn]
    · rw [if_neg e]
      cases lk n l with
      | some j => rfl
      | none => simp [List.getD, List.getElem?_set, e]
theorem plcV_get {N M : Nat} {l : List (Nat × Nat)} {n : Nat} (h : Rise 0 0 N M l) (hn : n < N) : (plcV N l)[n]? = some (match lk n l with
    | some j => (j : Int)
    | none => -1) := by
  unfold plcV
  rw [fold_set_get l 0 0 _ n h (by rw [List.length_replicate]; exact hn)]
  cases lk n l with
  | some j => rfl
  | none => simp [List.getD, hn]
theorem plcV_succ {n t : Nat} {l : List (Nat × Nat)} {p : Nat × Nat} (h : l[t]? = some p) : plcV n (l.take (t + 1)) = (plcV n (l.take t)).set p.1 (p.2 : Int) := by
  unfold plcV
  rw [List.take_add_one, h, List.foldl_append]
  rfl
def intC (l : List Int) : List AV := l.map (AV.int .i64)
theorem intC_set (l : List Int) (i : Nat) (v : Int) : (intC l).set i (.int .i64 v) = intC (l.set i v) := by
  unfold intC; rw [List.map_set]
theorem intC_len (l : List Int) : (intC l).length = l.length := by simp [intC]
theorem rep_neg (n i : Nat) (hi : i < n) : (intC (List.replicate i (-1) ++ List.replicate (n - i) 0)).set i (.int .i64 (-1)) = intC (List.replicate (i + 1) (-1) ++ List.replicate (n - (i + 1)) 0) := by
  rw [intC_set]
  congr 1
  obtain ⟨k, hk⟩ : ∃ k, n - i = k + 1 := ⟨n - i - 1, by omega⟩
  have h2 : n - (i + 1) = k := by omega
  rw [hk, h2, List.replicate_succ, List.replicate_succ', List.set_append, if_neg (by simp)]
  simp
set_option maxHeartbeats 1600000 in
theorem places_calls (l : List (Nat × Nat)) (n : Nat) (t : Tail) (H : Heap) (hn : n ≤ 1000) (hl : l.length ≤ 1000) (hm : ∀ p ∈ l, p.1 < n) :
    ACalls Tryd.prog 66 [.sl (l.map encP) t, .int .i64 (n : Int)] H fun x H' => x = .sl ((plcV n l).map encI) .unk ∧ H' = H := by
  refine ACalls.of_code (X := { pure := pu0 }) pu0_ok Tryd.func66 (by kernel_rfl) rfl (by kernel_rfl) (Nat.le_of_ble_eq_true rfl) ?_
  simp -implicitDefEqProofs only [go_sem, tys, regs0, Nat.reduceEqDiff, Nat.reduceAdd, Nat.reduceLeDiff, Nat.reduceLT, Nat.reduceMul, Int.natCast_one, Int.natCast_zero, Int.reduceEq, Int.reduceLT, Int.reduceLE, Int.reduceAdd, Int.reduceSub, Int.reduceToNat, UInt8.reduceToNat, Tryd.f66]
  with_reducible refine makeSlice_ms (e := tiI64) ?_ ?_ ?_ ?_ ?_ ?_
  · simp -implicitDefEqProofs only [go_sem, tys, regs0, Nat.reduceEqDiff, Nat.reduceAdd, Nat.reduceLeDiff, Nat.reduceLT, Nat.reduceMul, Int.natCast_one, Int.natCast_zero, Int.reduceEq, Int.reduceLT, Int.reduceLE, Int.reduceAdd, Int.reduceSub, Int.reduceToNat, UInt8.reduceToNat]
  · decide
  · omega
  · simp only []; omega
  · omega
  intro id hid
  have hz : (List.replicate ((n : Nat) : Int).toNat (tiI64.zero.cells)).flatten = intC (List.replicate 0 (-1) ++ List.replicate (n - 0) 0) := by
    rw [Int.toNat_natCast]; simp [intC, AV.cells, List.flatten_replicate_singleton]
  rw [hz, Int.toNat_natCast]
  simp -implicitDefEqProofs only [go_sem, tys, regs0, Nat.reduceEqDiff, Nat.reduceAdd, Nat.reduceLeDiff, Nat.reduceLT, Nat.reduceMul, Int.natCast_one, Int.natCast_zero, Int.reduceEq, Int.reduceLT, Int.reduceLE, Int.reduceAdd, Int.reduceSub, Int.reduceToNat, UInt8.reduceToNat]
  refine aloop_intro (σ := Nat) (fun i => [(0, .sl (l.map encP) t), (5, .ms id 0 n 1), (12, .int .i64 (n : Int)), (13, .int .i64 (i : Int))])
    (fun i G => G = H.put id (.cells (intC (List.replicate i (-1) ++ List.replicate (n - i) 0))) ∧ i ≤ n) (fun i => n - i) 0 ?_ ?_ ?_
  · simp -implicitDefEqProofs only [go_sem, tys, regs0, Nat.reduceEqDiff, Nat.reduceAdd, Nat.reduceLeDiff, Nat.reduceLT, Nat.reduceMul, Int.natCast_one, Int.natCast_zero, Int.reduceEq, Int.reduceLT, Int.reduceLE, Int.reduceAdd, Int.reduceSub, Int.reduceToNat, UInt8.reduceToNat]
  · exact ⟨rfl, Nat.zero_le _⟩
  · intro i r G hv hI
    have h0 := hv.1
    have h5 := hv.2.1
    have h12 := hv.2.2.1
    have h13 := hv.2.2.2.1
    have hG := hI.1.symm
    have hi := hI.2
    clear hv hI
    subst hG
    simp -implicitDefEqProofs only [go_sem, tys, regs0, Nat.reduceEqDiff, Nat.reduceAdd, Nat.reduceLeDiff, Nat.reduceLT, Nat.reduceMul, Int.natCast_one, Int.natCast_zero, Int.reduceEq, Int.reduceLT, Int.reduceLE, Int.reduceAdd, Int.reduceSub, Int.reduceToNat, UInt8.reduceToNat, h0, h5, h12, h13]
    refine cnd_intro (fun g => ?_) (fun g => ?_)
    · simp only [decide_eq_true_eq] at g
      have w : IntKind.i64.wrap ((i : Int) + 1) = ((i + 1 : Nat) : Int) := by rw [Go.IntWalk.i64_in _ (by omega)]; omega
      have hset := rep_neg n i (by omega)
      have hcl : (intC (List.replicate i (-1) ++ List.replicate (n - i) 0)).length = n := by rw [intC_len]; simp; omega
      simp -implicitDefEqProofs only [go_sem, tys, regs0, Nat.reduceEqDiff, Nat.reduceAdd, Nat.reduceLeDiff, Nat.reduceLT, Nat.reduceMul, Int.natCast_one, Int.natCast_zero, Int.reduceEq, Int.reduceLT, Int.reduceLE, Int.reduceAdd, Int.reduceSub, Int.reduceToNat, UInt8.reduceToNat, h0, h5, h12, h13, g, Int.toNat_natCast, Nat.mul_one, Nat.zero_add, hset, hcl, w]
      refine ⟨by omega, ?_⟩
      exact Again.mk (i + 1) (by simp -implicitDefEqProofs only [go_sem, tys, regs0, Nat.reduceEqDiff, Nat.reduceAdd, Nat.reduceLeDiff, Nat.reduceLT, Nat.reduceMul, Int.natCast_one, Int.natCast_zero, Int.reduceEq, Int.reduceLT, Int.reduceLE, Int.reduceAdd, Int.reduceSub, Int.reduceToNat, UInt8.reduceToNat, h0, h5, h12, h13]) ⟨rfl, by omega⟩ (by omega)
    · simp only [decide_eq_false_iff_not] at g
      have e : i = n := by omega
      subst e
      have e0 : intC (List.replicate i (-1) ++ List.replicate (i - i) 0) = intC (plcV i (l.take 0)) := by simp [plcV]
      rw [e0]
      simp -implicitDefEqProofs only [go_sem, tys, regs0, Nat.reduceEqDiff, Nat.reduceAdd, Nat.reduceLeDiff, Nat.reduceLT, Nat.reduceMul, Int.natCast_one, Int.natCast_zero, Int.reduceEq, Int.reduceLT, Int.reduceLE, Int.reduceAdd, Int.reduceSub, Int.reduceToNat, UInt8.reduceToNat, h0, h5, h12, h13]
      refine aloop_intro (σ := Nat) (fun m => [(5, .ms id 0 i 1), (20, .sl (l.map encP) t), (21, .int .i64 l.length), (22, .int .i64 (m : Int))])
        (fun m G => G id = some (.cells (intC (plcV i (l.take m)))) ∧ H.Sub G ∧ m ≤ l.length) (fun m => l.length - m) 0 ?_ ?_ ?_
      · simp -implicitDefEqProofs only [go_sem, tys, regs0, Nat.reduceEqDiff, Nat.reduceAdd, Nat.reduceLeDiff, Nat.reduceLT, Nat.reduceMul, Int.natCast_one, Int.natCast_zero, Int.reduceEq, Int.reduceLT, Int.reduceLE, Int.reduceAdd, Int.reduceSub, Int.reduceToNat, UInt8.reduceToNat, h0, h5]
      · exact ⟨put_same _ _ _, (Heap.Sub.rfl' H).put' hid _, Nat.zero_le _⟩
      · clear h0 h5 h12 h13
        intro m r G hv hI
        have h5 := hv.1
        have h20 := hv.2.1
        have h21 := hv.2.2.1
        have h22 := hv.2.2.2.1
        have hB := hI.1
        have hS := hI.2.1
        have hml := hI.2.2
        clear hv hI
        simp -implicitDefEqProofs only [go_sem, tys, regs0, Nat.reduceEqDiff, Nat.reduceAdd, Nat.reduceLeDiff, Nat.reduceLT, Nat.reduceMul, Int.natCast_one, Int.natCast_zero, Int.reduceEq, Int.reduceLT, Int.reduceLE, Int.reduceAdd, Int.reduceSub, Int.reduceToNat, UInt8.reduceToNat, h5, h20, h21, h22]
        refine cnd_intro (fun g2 => ?_) (fun g2 => ?_)
        · simp only [decide_eq_true_eq] at g2
          obtain ⟨p, hp⟩ : ∃ p, l[m]? = some p := getD_get' (by omega)
          have hpn := hm p (List.mem_of_getElem? hp)
          have w : IntKind.i64.wrap ((m : Int) + 1) = ((m + 1 : Nat) : Int) := by rw [Go.IntWalk.i64_in _ (by omega)]; omega
          have hpl := plcV_len i (l.take m)
          have hps := plcV_succ (n := i) hp
          have l1 : (p.1 : Int) < (i : Int) := by omega
          simp -implicitDefEqProofs only [go_sem, tys, regs0, Nat.reduceEqDiff, Nat.reduceAdd, Nat.reduceLeDiff, Nat.reduceLT, Nat.reduceMul, Int.natCast_one, Int.natCast_zero, Int.reduceEq, Int.reduceLT, Int.reduceLE, Int.reduceAdd, Int.reduceSub, Int.reduceToNat, UInt8.reduceToNat, h5, h20, h21, h22, hp, encP]
          with_reducible refine nwC_intro fun q hq => ?_
          have n2 : ¬ id = q := fun e => by rw [← e, hB] at hq; cases hq
          simp -implicitDefEqProofs only [go_sem, tys, regs0, Nat.reduceEqDiff, Nat.reduceAdd, Nat.reduceLeDiff, Nat.reduceLT, Nat.reduceMul, Int.natCast_one, Int.natCast_zero, Int.reduceEq, Int.reduceLT, Int.reduceLE, Int.reduceAdd, Int.reduceSub, Int.reduceToNat, UInt8.reduceToNat, h5, h20, h21, h22, put_ne, n2, hB, Int.toNat_natCast, Nat.mul_one, Nat.zero_add, l1, intC_len, hpl, intC_set, w, Int.toNat_one, Int.toNat_zero, Nat.zero_mul, Nat.one_mul]
          refine ⟨by omega, ?_⟩
          rw [← hps]
          exact Again.mk (m + 1) (by simp -implicitDefEqProofs only [go_sem, tys, regs0, Nat.reduceEqDiff, Nat.reduceAdd, Nat.reduceLeDiff, Nat.reduceLT, Nat.reduceMul, Int.natCast_one, Int.natCast_zero, Int.reduceEq, Int.reduceLT, Int.reduceLE, Int.reduceAdd, Int.reduceSub, Int.reduceToNat, UInt8.reduceToNat, h5, h20, h21, h22]) ⟨put_same _ _ _, (hS.put' (sub_none hS hq) _).put' hid _, by omega⟩ (by omega)
        · simp only [decide_eq_false_iff_not] at g2
          have e : m = l.length := by omega
          subst e
          rw [List.take_length] at hB
          have hpl := plcV_len i l
          simp -implicitDefEqProofs only [go_sem, tys, regs0, Nat.reduceEqDiff, Nat.reduceAdd, Nat.reduceLeDiff, Nat.reduceLT, Nat.reduceMul, Int.natCast_one, Int.natCast_zero, Int.reduceEq, Int.reduceLT, Int.reduceLE, Int.reduceAdd, Int.reduceSub, Int.reduceToNat, UInt8.reduceToNat, h5, h20, h21, h22]
          have hc : (intC (plcV i l)).length = i := by rw [intC_len, hpl]
          refine Done.via (Ghost.freeze1 hB (by rw [hc]; omega)) (Done.drop (H' := H) (fun j o hj => ?_) ⟨?_, rfl⟩)
          · rw [del_ne (fun e => by subst e; rw [hid] at hj; cases hj)]; exact hS j o hj
          · rw [List.drop_zero, List.take_of_length_le (by omega)]
            congr 1
            unfold intC
            rw [List.map_map]; rfl
end Go.Proofs
