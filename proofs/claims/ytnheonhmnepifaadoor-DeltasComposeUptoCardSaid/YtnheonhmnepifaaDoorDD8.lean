/- Walks: a delta is written, on the program's side. -/
import Derived.Test.YtnheonhmnepifaaDoorDD7
namespace Go.Proofs
open Go Go.Abs
set_option linter.unusedSimpArgs false
set_option linter.unusedVariables false
set_option maxRecDepth 20000
theorem bcell_unif (l : Bytes) : Unif 1 (l.map bcell) := bcell_len l
set_option maxHeartbeats 1600000 in
theorem putNumber_calls {F G : Heap} {l : Bytes} {tl : Tail} (n : Nat) (hn : n < 4398046511104) (hl : l.length ≤ 1099511627776) (h : AppG F G 1 (l.map bcell) tl) :
    ACalls Tryd.prog 94 [.sl (l.map bcell) tl, .int .i64 n] G fun x G' => ∃ tl', x = .sl ((l ++ groupsB n).map bcell) tl' ∧ AppG F G' 1 ((l ++ groupsB n).map bcell) tl' ∧ Kept G G' := by
  have hgl := groups6 hn
  refine ACalls.of_code (X := { pure := pu0 }) pu0_ok Tryd.func94 (by kernel_rfl) rfl (by kernel_rfl) (Nat.le_of_ble_eq_true rfl) ?_
  simp -implicitDefEqProofs only [go_sem, tys, regs0, Nat.reduceEqDiff, Nat.reduceAdd, Nat.reduceLeDiff, Nat.reduceLT, Nat.reduceMul, Int.natCast_one, Int.natCast_zero, Int.reduceEq, Int.reduceLT, Int.reduceLE, Int.reduceAdd, Int.reduceSub, Int.reduceToNat, UInt8.reduceToNat, Tryd.f94]
  refine aloop_intro (σ := Nat × Bytes × Tail) (fun s => [(0, .sl ((l ++ s.2.1).map bcell) s.2.2), (1, .int .i64 s.1)]) (fun s G' => AppG F G' 1 ((l ++ s.2.1).map bcell) s.2.2 ∧ Kept G G' ∧ groupsB n = s.2.1 ++ groupsB s.1 ∧ s.1 < 4398046511104) (fun s => s.1) (n, [], tl) ?_ ?_ ?_
  · simp -implicitDefEqProofs only [go_sem, tys, regs0, Nat.reduceEqDiff, Nat.reduceAdd, Nat.reduceLeDiff, Nat.reduceLT, Nat.reduceMul, Int.natCast_one, Int.natCast_zero, Int.reduceEq, Int.reduceLT, Int.reduceLE, Int.reduceAdd, Int.reduceSub, Int.reduceToNat, UInt8.reduceToNat, List.append_nil]
  · exact ⟨by simpa using h, Kept.rfl' G, rfl, hn⟩
  · rintro ⟨m, out, tl1⟩ r G' hv ⟨hA, hK, hg, hm⟩
    have h0 := hv.1
    have h1 := hv.2.1
    clear hv
    simp only at h0 h1 hg hm hA
    have ho : out.length ≤ 6 := by rw [hg, List.length_append] at hgl; omega
    simp -implicitDefEqProofs only [go_sem, tys, regs0, Nat.reduceEqDiff, Nat.reduceAdd, Nat.reduceLeDiff, Nat.reduceLT, Nat.reduceMul, Int.natCast_one, Int.natCast_zero, Int.reduceEq, Int.reduceLT, Int.reduceLE, Int.reduceAdd, Int.reduceSub, Int.reduceToNat, UInt8.reduceToNat, h0, h1]
    refine cnd_intro (fun g => ?_) (fun g => ?_)
    · simp only [decide_eq_true_eq] at g
      have a1 := and127 m (by omega)
      have a3 : orI .i64 ((m % 128 : Nat) : Int) 128 = ((m % 128 + 128 : Nat) : Int) := or128 (m % 128) (Nat.mod_lt _ (by omega))
      have a2 : IntKind.u8.wrap ((m % 128 + 128 : Nat) : Int) = ((UInt8.ofNat (m % 128 + 128)).toNat : Int) := wrap8 _
      have a4 := shrI64 m 7 7 rfl (by omega)
      rw [groupsB_big (n := m) (by omega)] at hg
      generalize UInt8.ofNat (m % 128 + 128) = b at *
      simp -implicitDefEqProofs only [go_sem, tys, regs0, Nat.reduceEqDiff, Nat.reduceAdd, Nat.reduceLeDiff, Nat.reduceLT, Nat.reduceMul, Int.natCast_one, Int.natCast_zero, Int.reduceEq, Int.reduceLT, Int.reduceLE, Int.reduceAdd, Int.reduceSub, Int.reduceToNat, UInt8.reduceToNat, h0, h1, a1, a2, a3, a4]
      refine AppG.step hA (bcell_unif _) (by simp; omega) (by simp; omega) (fun tl2 G2 hA2 hK2 => ?_)
      simp -implicitDefEqProofs only [go_sem, tys, regs0, Nat.reduceEqDiff, Nat.reduceAdd, Nat.reduceLeDiff, Nat.reduceLT, Nat.reduceMul, Int.natCast_one, Int.natCast_zero, Int.reduceEq, Int.reduceLT, Int.reduceLE, Int.reduceAdd, Int.reduceSub, Int.reduceToNat, UInt8.reduceToNat, h0, h1, a4]
      have e : (l ++ out).map bcell ++ [[AV.int .u8 (b.toNat : Int)]] = (l ++ (out ++ [b])).map bcell := by simp [bcell]
      rw [e] at hA2
      exact Again.mk (m / 2 ^ 7, out ++ [b], tl2) (by simp -implicitDefEqProofs only [go_sem, tys, regs0, Nat.reduceEqDiff, Nat.reduceAdd, Nat.reduceLeDiff, Nat.reduceLT, Nat.reduceMul, Int.natCast_one, Int.natCast_zero, Int.reduceEq, Int.reduceLT, Int.reduceLE, Int.reduceAdd, Int.reduceSub, Int.reduceToNat, UInt8.reduceToNat, h0, h1]; simp [bcell]) ⟨hA2, hK.trans hK2, by simpa using hg, by simp only; omega⟩ (by simp only; omega)
    · simp only [decide_eq_false_iff_not] at g
      have a2 := wrap8 m
      rw [groupsB_small (n := m) (by omega)] at hg
      generalize UInt8.ofNat m = b at *
      simp -implicitDefEqProofs only [go_sem, tys, regs0, Nat.reduceEqDiff, Nat.reduceAdd, Nat.reduceLeDiff, Nat.reduceLT, Nat.reduceMul, Int.natCast_one, Int.natCast_zero, Int.reduceEq, Int.reduceLT, Int.reduceLE, Int.reduceAdd, Int.reduceSub, Int.reduceToNat, UInt8.reduceToNat, h0, h1, a2]
      refine AppG.step hA (bcell_unif _) (by simp; omega) (by simp; omega) (fun tl2 G2 hA2 hK2 => ?_)
      have e : (l ++ out).map bcell ++ [[AV.int .u8 (b.toNat : Int)]] = (l ++ groupsB n).map bcell := by rw [hg]; simp [bcell]
      rw [e] at hA2
      simp -implicitDefEqProofs only [go_sem, tys, regs0, Nat.reduceEqDiff, Nat.reduceAdd, Nat.reduceLeDiff, Nat.reduceLT, Nat.reduceMul, Int.natCast_one, Int.natCast_zero, Int.reduceEq, Int.reduceLT, Int.reduceLE, Int.reduceAdd, Int.reduceSub, Int.reduceToNat, UInt8.reduceToNat, h0, h1]
      exact Done.now ⟨tl2, by rw [← e], hA2, hK.trans hK2⟩
theorem putNumber_k {F G : Heap} {l : Bytes} {tl : Tail} {n : Int} (hn : 0 ≤ n ∧ n < 4398046511104) (hl : l.length ≤ 1099511627776) (h : AppG F G 1 (l.map bcell) tl) {K : K1}
    (hK : ∀ tl' G', AppG F G' 1 ((l ++ groupsB n.toNat).map bcell) tl' → Kept G G' → K (.sl ((l ++ groupsB n.toNat).map bcell) tl') G') : ACalls Tryd.prog 94 [.sl (l.map bcell) tl, .int .i64 n] G K := by
  obtain ⟨m, rfl⟩ : ∃ m : Nat, n = m := ⟨n.toNat, by omega⟩
  refine (putNumber_calls m (by omega) hl h).mono ?_
  rintro x G' ⟨tl', rfl, h1, h2⟩
  exact hK tl' G' h1 h2
set_option maxHeartbeats 1600000 in
theorem putSum_calls {F G : Heap} {l : Bytes} {tl : Tail} (s : Bytes) (hs : sumB s = true) (hl : l.length ≤ 1099511627776) (h : AppG F G 1 (l.map bcell) tl) :
    ACalls Tryd.prog 95 [.sl (l.map bcell) tl, .str s] G fun x G' => ∃ tl', x = .sl ((l ++ rawB (hexN s)).map bcell) tl' ∧ AppG F G' 1 ((l ++ rawB (hexN s)).map bcell) tl' ∧ Kept G G' := by
  have hp := sPU_eq s hs
  have hn := hexN_all hs
  have hrl := rawB_len (hexN s)
  have hrg := fun i hi => rawB_get (n := hexN s) (i := i) hi
  generalize hexN s = n at *
  have hw : IntKind.i64.wrap (-8) = -8 := by decide
  refine ACalls.of_code (X := { pure := puP3 }) puP3_ok Tryd.func95 (by kernel_rfl) rfl (by kernel_rfl) (Nat.le_of_ble_eq_true rfl) ?_
  simp -implicitDefEqProofs only [go_sem, tys, regs0, Nat.reduceEqDiff, Nat.reduceAdd, Nat.reduceLeDiff, Nat.reduceLT, Nat.reduceMul, Int.natCast_one, Int.natCast_zero, Int.reduceEq, Int.reduceLT, Int.reduceLE, Int.reduceAdd, Int.reduceSub, Int.reduceToNat, UInt8.reduceToNat, Tryd.f95, puP3, hp]
  refine aloop_intro (σ := Nat × Tail) (fun s => [(0, .sl ((l ++ (rawB n).take s.1).map bcell) s.2), (5, .int .u64 n), (7, .int .i64 (56 - 8 * (s.1 : Int)))]) (fun s G' => AppG F G' 1 ((l ++ (rawB n).take s.1).map bcell) s.2 ∧ Kept G G' ∧ s.1 ≤ 8) (fun s => 8 - s.1) (0, tl) ?_ ?_ ?_
  · simp -implicitDefEqProofs only [go_sem, tys, regs0, Nat.reduceEqDiff, Nat.reduceAdd, Nat.reduceLeDiff, Nat.reduceLT, Nat.reduceMul, Int.natCast_one, Int.natCast_zero, Int.reduceEq, Int.reduceLT, Int.reduceLE, Int.reduceAdd, Int.reduceSub, Int.reduceToNat, UInt8.reduceToNat]
    simp
  · exact ⟨by simpa using h, Kept.rfl' G, by omega⟩
  · rintro ⟨i, tl1⟩ r G' hv ⟨hA, hK, hi⟩
    have h0 := hv.1
    have h5 := hv.2.1
    have h7 := hv.2.2.1
    clear hv
    simp only at h0 h5 h7 hA hi
    simp -implicitDefEqProofs only [go_sem, tys, regs0, Nat.reduceEqDiff, Nat.reduceAdd, Nat.reduceLeDiff, Nat.reduceLT, Nat.reduceMul, Int.natCast_one, Int.natCast_zero, Int.reduceEq, Int.reduceLT, Int.reduceLE, Int.reduceAdd, Int.reduceSub, Int.reduceToNat, UInt8.reduceToNat, h0, h5, h7]
    refine cnd_intro (fun g => ?_) (fun g => ?_)
    · simp only [decide_eq_true_eq] at g
      have a1 := shrN n (56 - 8 * i) ((56 : Int) - 8 * i) (by omega) (by omega)
      have a2 := wrap8 (n / 2 ^ (56 - 8 * i))
      have hg := hrg i (by omega)
      generalize UInt8.ofNat (n / 2 ^ (56 - 8 * i)) = b at *
      simp -implicitDefEqProofs (disch := omega) only [go_sem, tys, regs0, Nat.reduceEqDiff, Nat.reduceAdd, Nat.reduceLeDiff, Nat.reduceLT, Nat.reduceMul, Int.natCast_one, Int.natCast_zero, Int.reduceEq, Int.reduceLT, Int.reduceLE, Int.reduceAdd, Int.reduceSub, Int.reduceToNat, UInt8.reduceToNat, Go.IntWalk.i64_in, h0, h5, h7, a1, a2]
      refine ⟨by omega, ?_⟩
      refine AppG.step hA (bcell_unif _) (by simp; omega) (by simp; omega) (fun tl2 G2 hA2 hK2 => ?_)
      simp -implicitDefEqProofs (disch := omega) only [go_sem, tys, regs0, Nat.reduceEqDiff, Nat.reduceAdd, Nat.reduceLeDiff, Nat.reduceLT, Nat.reduceMul, Int.natCast_one, Int.natCast_zero, Int.reduceEq, Int.reduceLT, Int.reduceLE, Int.reduceAdd, Int.reduceSub, Int.reduceToNat, UInt8.reduceToNat, Go.IntWalk.i64_in, h0, h5, h7]
      have e : (l ++ (rawB n).take i).map bcell ++ [[AV.int .u8 (b.toNat : Int)]] = (l ++ (rawB n).take (i + 1)).map bcell := by rw [List.take_add_one, hg]; simp [bcell]
      rw [e] at hA2
      exact Again.mk (i + 1, tl2) (by simp -implicitDefEqProofs only [go_sem, tys, regs0, Nat.reduceEqDiff, Nat.reduceAdd, Nat.reduceLeDiff, Nat.reduceLT, Nat.reduceMul, Int.natCast_one, Int.natCast_zero, Int.reduceEq, Int.reduceLT, Int.reduceLE, Int.reduceAdd, Int.reduceSub, Int.reduceToNat, UInt8.reduceToNat, h0, h5, h7]; exact ⟨by rw [← e], by congr 1; omega⟩) ⟨hA2, hK.trans hK2, by simp only; omega⟩ (by simp only; omega)
    · simp only [decide_eq_false_iff_not] at g
      have e : i = 8 := by omega
      subst e
      rw [List.take_of_length_le (by omega)] at h0 hA
      simp -implicitDefEqProofs only [go_sem, tys, regs0, Nat.reduceEqDiff, Nat.reduceAdd, Nat.reduceLeDiff, Nat.reduceLT, Nat.reduceMul, Int.natCast_one, Int.natCast_zero, Int.reduceEq, Int.reduceLT, Int.reduceLE, Int.reduceAdd, Int.reduceSub, Int.reduceToNat, UInt8.reduceToNat, h0, h5, h7]
      exact Done.now ⟨tl1, rfl, hA, hK⟩
theorem putSum_k {F G : Heap} {l : Bytes} {tl : Tail} {s : Bytes} (hs : sumB s = true) (hl : l.length ≤ 1099511627776) (h : AppG F G 1 (l.map bcell) tl) {K : K1}
    (hK : ∀ tl' G', AppG F G' 1 ((l ++ rawB (hexN s)).map bcell) tl' → Kept G G' → K (.sl ((l ++ rawB (hexN s)).map bcell) tl') G') : ACalls Tryd.prog 95 [.sl (l.map bcell) tl, .str s] G K := by
  refine (putSum_calls s hs hl h).mono ?_
  rintro x G' ⟨tl', rfl, h1, h2⟩
  exact hK tl' G' h1 h2
end Go.Proofs
