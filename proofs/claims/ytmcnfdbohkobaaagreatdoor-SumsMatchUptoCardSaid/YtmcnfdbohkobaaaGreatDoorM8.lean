/-
  Walks and plain laws, part 8.
-/
import Derived.Test.YtmcnfdbohkobaaaGreatDoorM7
import Derived.Test.YtmcnfdbohkobaaaGreatDoorM6
import Derived.Test.YtmcnfdbohkobaaaGreatDoorM3
import Derived.Test.YtmcnfdbohkobaaaGreatDoorM2
import Derived.Test.YtmcnfdbohkobaaaGreatDoorM4
/- Walks: facts sorted by insertion. -/
namespace Go.Proofs
open Go Go.Abs
set_option linter.unusedSimpArgs false
set_option linter.unusedVariables false
set_option maxRecDepth 20000
theorem fit1_calls (a b : SetV) (H : Heap) : ACalls Tryz.prog 25 [.agg (encSet a), .agg (encSet b)] H fun x H' => x = .int .i64 (Lib.compareBytes a.key b.key) ∧ H' = H := by
  have hS := Heap.Sub.rfl' H
  refine ACalls.of_code (X := { pure := pu0 }) pu0_ok Tryz.func25 (by kernel_rfl) rfl (by kernel_rfl) (Nat.le_of_ble_eq_true rfl) ?_
  simp -implicitDefEqProofs only [go_sem, Tryz.f25, encSet]
  with_reducible refine nwC_intro fun i2 hi2 => ?_
  generalize E2 : Heap.put H i2 _ = G2
  have hO_2 := obj_new E2 hi2 hS
  have n2 := hO_2.1
  have hS := hO_2.2.1
  have g2 := hO_2.2.2.1
  clear hO_2
  simp -implicitDefEqProofs only [go_sem]
  with_reducible refine nwC_intro fun i3 hi3 => ?_
  generalize E3 : Heap.put G2 i3 _ = G3
  have hO_3 := obj_new E3 hi3 hS
  have n3 := hO_3.1
  have hS := hO_3.2.1
  have g3 := hO_3.2.2.1
  have d2_3 := obj_ne g2 hi3
  have g2 := hO_3.2.2.2 _ _ g2
  clear hO_3
  simp -implicitDefEqProofs only [go_sem, g2, g3]
  refine (strCompare_calls a.key b.key G3).pure_next _ ?_
  simp -implicitDefEqProofs only [go_sem]
  exact Done.drop hS ⟨rfl, rfl⟩
noncomputable def sFit1 := spF (fun p : SetV × SetV => [AV.agg (encSet p.1), AV.agg (encSet p.2)]) (fun _ => True) fun p => .int .i64 (Lib.compareBytes p.1.key p.2.key)
theorem sFit1_eq (a b : SetV) : sFit1 [.agg (encSet a), .agg (encSet b)] = some (.int .i64 (Lib.compareBytes a.key b.key)) := spF_eq (enc := fun p : SetV × SetV => [AV.agg (encSet p.1), AV.agg (encSet p.2)]) (fun a b e => by
  obtain ⟨⟨a1, a2⟩, ⟨a3, a4⟩⟩ := a
  obtain ⟨⟨b1, b2⟩, ⟨b3, b4⟩⟩ := b
  simp only [encSet] at e
  cases e; rfl) (a, b) trivial
noncomputable def puF1 : Pures := putP 999999999 sNone (putP 25 sFit1 pu0)
theorem puF1_dyn : isDyn puF1 = true := by simp only [puF1, go_sem, Nat.reduceEqDiff]
attribute [go_sem] puF1_dyn
theorem puF1_ok : PuOK Tryz.prog puF1 := .put (.put (pu0_ok) (spF_ok fun p H _ => fit1_calls p.1 p.2 H)) dyn_ok
def InsQ (H : Heap) (id n i : Nat) (l : List SetV) (r : Regs) (G : Heap) : Prop :=
  ∃ g, G = H.put id (.cells (g.map encSet).flatten) ∧ g.Perm l ∧ SortTo (·.key) g (i + 1) ∧ r 0 = .ms id 0 n 2 ∧ r 1 = .int .i64 0 ∧ r 2 = .int .i64 n ∧ r 3 = .func 25 [] ∧ r 8 = .int .i64 i
set_option maxHeartbeats 3200000 in
theorem ins_calls (l : List SetV) (id : Nat) (H : Heap) (ho : H id = some (.cells (l.map encSet).flatten)) (hn : l.length ≤ 1000) :
    ACalls Tryz.prog 86 [.ms id 0 l.length 2, .int .i64 0, .int .i64 l.length, .func 25 []] H fun x H' => x = .tup [] ∧ ∃ g, H' = H.put id (.cells (g.map encSet).flatten) ∧ g.Perm l ∧ SortTo (·.key) g l.length := by
  have hu : ∀ a : SetV, (encSet a).length = 2 := fun _ => rfl
  refine ACalls.of_code (X := { pure := puF1 }) puF1_ok Tryz.func86 (by kernel_rfl) rfl (by kernel_rfl) (Nat.le_of_ble_eq_true rfl) ?_
  simp -implicitDefEqProofs only [go_sem, Tryz.f86]
  generalize hL : l.length = n at *
  refine aloop_intro (σ := Nat × List SetV) (fun s => [(0, .ms id 0 n 2), (1, .int .i64 0), (2, .int .i64 n), (3, .func 25 []), (8, .int .i64 s.1)])
    (fun s G => 1 ≤ s.1 ∧ s.1 ≤ n + 1 ∧ G = H.put id (.cells (s.2.map encSet).flatten) ∧ s.2.Perm l ∧ SortTo (·.key) s.2 s.1) (fun s => n + 1 - s.1) (1, l) ?_ ?_ ?_
  · have w1 : IntKind.i64.wrap 1 = 1 := rfl
    simp -implicitDefEqProofs only [go_sem, w1]
  · exact ⟨Nat.le_refl _, by omega, (put_self ho).symm, .refl _, fun a b x y h1 h2 => by simp only at h2; omega⟩
  rintro ⟨i, g⟩ r G hv ⟨hi1, hi2, rfl, hp, hs⟩
  simp only at hi1 hi2 hp hs
  have e0 := hv.1
  have e1 := hv.2.1
  have e2 := hv.2.2.1
  have e3 := hv.2.2.2.1
  have e8 := hv.2.2.2.2.1
  simp only at e8
  clear hv
  by_cases gi : i < n
  rotate_left
  · have y0 : decide ((i : Int) < n) = false := decide_eq_false (by omega)
    simp -implicitDefEqProofs only [go_sem, e0, e1, e2, e3, e8, y0]
    exact Done.now ⟨rfl, g, rfl, hp, fun a b x y h1 h2 => hs a b x y h1 (by omega)⟩
  have y0 : decide ((i : Int) < n) = true := decide_eq_true (by omega)
  have ws : IntKind.i64.wrap ((i : Int) + 1) = ((i + 1 : Nat) : Int) := by rw [Go.IntWalk.i64_in _ (by omega)]; omega
  have hgl := hp.length_eq
  simp -implicitDefEqProofs only [go_sem, e0, e1, e2, e3, e8, y0]
  with_reducible refine aloop_cut 2 (InsQ H id n i l) ?_ ?_
  rotate_left
  · refine aloop_intro (σ := Nat × List SetV) (fun s => [(0, .ms id 0 n 2), (1, .int .i64 0), (2, .int .i64 n), (3, .func 25 []), (8, .int .i64 i), (9, .int .i64 s.1)])
      (fun s G => s.1 ≤ i ∧ G = H.put id (.cells (s.2.map encSet).flatten) ∧ s.2.Perm l ∧ SortBut (·.key) s.2 (i + 1) s.1) (fun s => s.1) (i, g) ?_ ?_ ?_
    · simp -implicitDefEqProofs only [go_sem, e0, e1, e2, e3, e8]
    · exact ⟨Nat.le_refl _, rfl, hp, hs.but⟩
    clear hs hp hgl
    rintro ⟨j, g⟩ r G hv ⟨hj, rfl, hp, hs⟩
    simp only at hj hp hs
    have e0 := hv.1
    have e1 := hv.2.1
    have e2 := hv.2.2.1
    have e3 := hv.2.2.2.1
    have e8 := hv.2.2.2.2.1
    have e9 := hv.2.2.2.2.2.1
    simp only at e9
    clear hv
    have hgl := hp.length_eq
    by_cases c0 : j = 0
    · subst c0
      have y1 : decide ((0 : Int) < ((0 : Nat) : Int)) = false := rfl
      simp -implicitDefEqProofs only [go_sem, e0, e1, e2, e3, e8, e9, y1]
      exact ⟨g, rfl, hp, hs.stop0, by simp -implicitDefEqProofs only [go_sem, e0], by simp -implicitDefEqProofs only [go_sem, e1], by simp -implicitDefEqProofs only [go_sem, e2], by simp -implicitDefEqProofs only [go_sem, e3], by simp -implicitDefEqProofs only [go_sem, e8]⟩
    have y1 : decide ((0 : Int) < (j : Int)) = true := decide_eq_true (by omega)
    obtain ⟨u, hu1⟩ : ∃ x, g[j - 1]? = some x := getD_get' (by omega)
    obtain ⟨v, hv1⟩ : ∃ x, g[j]? = some x := getD_get' (by omega)
    have wj : IntKind.i64.wrap ((j : Int) - 1) = ((j - 1 : Nat) : Int) := by rw [Go.IntWalk.i64_in _ (by omega)]; omega
    have q1 := sFit1_eq v u
    have ga : (H.put id (.cells (g.map encSet).flatten)) id = some (.cells (g.map encSet).flatten) := put_same _ _ _
    have f1 := flatU_get hu hv1
    have f2 := flatU_get hu hu1
    have fl := flatU_len hu g
    by_cases c1 : Lib.compareBytes v.key u.key < 0
    rotate_left
    · have y2 : decide (Lib.compareBytes v.key u.key < 0) = false := decide_eq_false c1
      simp -implicitDefEqProofs only [go_sem, e0, e1, e2, e3, e8, e9, y1, wj, ga, f1, f2, fl, q1, puF1, y2]
      refine ⟨by omega, by rw [List.length_drop, fl]; omega, by omega, by rw [List.length_drop, fl]; omega, ?_⟩
      have hle : LeK (·.key) u v := by
        unfold LeK
        cases hh : strLt v.key u.key with
        | false => rfl
        | true => exact absurd ((cmp_lt _ _).2 hh) c1
      exact ⟨g, rfl, hp, hs.stop (by omega) hu1 hv1 hle, by simp -implicitDefEqProofs only [go_sem, e0], by simp -implicitDefEqProofs only [go_sem, e1], by simp -implicitDefEqProofs only [go_sem, e2], by simp -implicitDefEqProofs only [go_sem, e3], by simp -implicitDefEqProofs only [go_sem, e8]⟩
    have y2 : decide (Lib.compareBytes v.key u.key < 0) = true := decide_eq_true c1
    simp -implicitDefEqProofs only [go_sem, e0, e1, e2, e3, e8, e9, y1, wj, ga, f1, f2, fl, q1, puF1, y2]
    refine ⟨by omega, by rw [List.length_drop, fl]; omega, by omega, by rw [List.length_drop, fl]; omega, ?_⟩
    have hgj : j < g.length := by omega
    have k1 := flatU_write hu u hgj
    have k2 := flatU_write hu (l := g.set j u) (j := j - 1) v (by rw [List.length_set]; omega)
    rw [k1, k2]
    refine ⟨by omega, by rw [List.length_drop, fl]; omega, by omega, by rw [List.length_drop, fl]; omega, by omega, rfl, by omega, by omega, rfl, by rw [flatU_len hu, List.length_set]; omega, ?_⟩
    have hsw := hs.swap (by omega) (by omega) hu1 hv1 ((cmp_lt _ _).1 c1)
    have hpw := (swap_perm (by omega) hu1 hv1).trans hp
    exact Again.mk (j - 1, swapL g j (j - 1) v u) (by simp -implicitDefEqProofs only [go_sem, e0, e1, e2, e3, e8]) ⟨by simp only; omega, rfl, hpw, hsw⟩ (by simp only; omega)
  clear hs hp hgl
  rintro r G ⟨g, rfl, hp, hs, e0, e1, e2, e3, e8⟩
  simp -implicitDefEqProofs only [go_sem, e0, e1, e2, e3, e8, ws]
  exact Again.mk (i + 1, g) (by simp -implicitDefEqProofs only [go_sem, e0, e1, e2, e3, e8]) ⟨by simp only; omega, by simp only; omega, rfl, hp, hs⟩ (by simp only; omega)
theorem ins_none (x : AV) (a : Nat) (H : Heap) (ha : a ≤ 1000) : ACalls Tryz.prog 86 [x, .int .i64 a, .int .i64 a, .func 25 []] H fun y H' => y = .tup [] ∧ H' = H := by
  have w1 : IntKind.i64.wrap ((a : Int) + 1) = a + 1 := by rw [Go.IntWalk.i64_in _ (by omega)]
  have y0 : decide ((a : Int) + 1 < a) = false := decide_eq_false (by omega)
  refine ACalls.of_code (X := { pure := puF1 }) puF1_ok Tryz.func86 (by kernel_rfl) rfl (by kernel_rfl) (Nat.le_of_ble_eq_true rfl) ?_
  simp -implicitDefEqProofs only [go_sem, Tryz.f86, w1]
  refine aloop_intro (σ := Unit) (fun s => [(2, .int .i64 a), (8, .int .i64 (a + 1))]) (fun s G => G = H) (fun s => 0) () ?_ ?_ ?_
  · simp -implicitDefEqProofs only [go_sem]
  · rfl
  rintro _ r G hv rfl
  have e2 := hv.1
  have e8 := hv.2.1
  simp -implicitDefEqProofs only [go_sem, e2, e8, y0]
  exact Done.now ⟨rfl, rfl⟩
def StQ (H : Heap) (x : AV) (id n : Nat) (l : List SetV) (r : Regs) (G : Heap) : Prop :=
  ∃ g, ∃ a : Nat, G = H.put id (.cells (g.map encSet).flatten) ∧ g.Perm l ∧ (a = 0 ∧ n < 20 ∧ g = l ∨ a = 20 ∧ n = 20 ∧ SortTo (·.key) g n) ∧ r 0 = x ∧ r 1 = .int .i64 n ∧ r 2 = .func 25 [] ∧ r 6 = .int .i64 20 ∧ r 7 = .int .i64 a
set_option maxHeartbeats 3200000 in
theorem stable_calls (l : List SetV) (id : Nat) (H : Heap) (ho : H id = some (.cells (l.map encSet).flatten)) (hn : l.length ≤ 20) :
    ACalls Tryz.prog 54 [.ms id 0 l.length 2, .int .i64 l.length, .func 25 []] H fun x H' => x = .tup [] ∧ ∃ g, H' = H.put id (.cells (g.map encSet).flatten) ∧ g.Perm l ∧ SortTo (·.key) g l.length := by
  refine ACalls.of_code (X := { pure := pu0 }) pu0_ok Tryz.func54 (by kernel_rfl) rfl (by kernel_rfl) (Nat.le_of_ble_eq_true rfl) ?_
  simp -implicitDefEqProofs only [go_sem, Tryz.f54]
  generalize hL : l.length = n at *
  with_reducible refine aloop_cut 0 (StQ H (.ms id 0 n 2) id n l) ?_ ?_
  rotate_left
  · refine aloop_intro (σ := Nat × List SetV) (fun s => [(0, .ms id 0 n 2), (1, .int .i64 n), (2, .func 25 []), (6, .int .i64 20), (7, .int .i64 s.1), (8, .int .i64 (s.1 + 20))])
      (fun s G => G = H.put id (.cells (s.2.map encSet).flatten) ∧ s.2.Perm l ∧ (s.1 = 0 ∧ s.2 = l ∨ s.1 = 20 ∧ n = 20 ∧ SortTo (·.key) s.2 n)) (fun s => 20 - s.1) (0, l) ?_ ?_ ?_
    · simp -implicitDefEqProofs only [go_sem, Int.zero_add]
    · exact ⟨(put_self ho).symm, .refl _, .inl ⟨rfl, rfl⟩⟩
    rintro ⟨a, g⟩ r G hv ⟨rfl, hp, hor⟩
    simp only at hp hor
    have e0 := hv.1
    have e1 := hv.2.1
    have e2 := hv.2.2.1
    have e6 := hv.2.2.2.1
    have e7 := hv.2.2.2.2.1
    have e8 := hv.2.2.2.2.2.1
    simp only at e7 e8
    clear hv
    by_cases c : a + 20 ≤ n
    rotate_left
    · have y0 : decide ((a : Int) + 20 ≤ n) = false := decide_eq_false (by omega)
      simp -implicitDefEqProofs only [go_sem, e0, e1, e2, e6, e7, e8, y0]
      refine ⟨g, a, rfl, hp, ?_, by simp -implicitDefEqProofs only [go_sem, e0], by simp -implicitDefEqProofs only [go_sem, e1], by simp -implicitDefEqProofs only [go_sem, e2], by simp -implicitDefEqProofs only [go_sem, e6], by simp -implicitDefEqProofs only [go_sem, e7]⟩
      rcases hor with ⟨h1, h2⟩ | h
      · exact .inl ⟨h1, by omega, h2⟩
      · exact .inr h
    have y0 : decide ((a : Int) + 20 ≤ n) = true := decide_eq_true (by omega)
    obtain ⟨rfl, rfl⟩ : a = 0 ∧ g = l := by
      rcases hor with h | ⟨h1, h2, -⟩
      · exact h
      · omega
    obtain rfl : n = 20 := by omega
    rw [put_self ho]
    have hin := ins_calls g id H ho (by omega)
    rw [hL] at hin
    have w1 : IntKind.i64.wrap (((0 : Nat) : Int) + 20 + 20) = 40 := rfl
    have z0 : ((20 : Nat) : Int) = 20 := rfl
    simp -implicitDefEqProofs only [go_sem, e0, e1, e2, e6, e7, e8, y0, z0, Int.natCast_zero, Int.zero_add] at hin ⊢
    refine hin.mono ?_
    clear hin
    rintro x G ⟨rfl, g2, rfl, hp2, hs2⟩
    simp -implicitDefEqProofs only [go_sem, e0, e1, e2, e6, e7, e8, w1]
    exact Again.mk (20, g2) (by simp -implicitDefEqProofs only [go_sem, e0, e1, e2, e6, e7, e8]; exact rfl) ⟨rfl, hp2, .inr ⟨rfl, hs2⟩⟩ (by simp only; omega)
  rintro r G ⟨g, a, rfl, hp, hor, e0, e1, e2, e6, e7⟩
  have y2 : decide ((20 : Int) < n) = false := decide_eq_false (by omega)
  have fin : ∀ (K : K1), (∀ g2, g2.Perm l → SortTo (·.key) g2 n → K (.tup []) (H.put id (.cells (g2.map encSet).flatten))) → ACalls Tryz.prog 86 [.ms id 0 n 2, .int .i64 a, .int .i64 n, .func 25 []] (H.put id (.cells (g.map encSet).flatten)) K := by
    intro K hK
    rcases hor with ⟨rfl, -, rfl⟩ | ⟨rfl, rfl, hs⟩
    · rw [put_self ho]
      have hin := ins_calls g id H ho (by omega)
      rw [hL] at hin
      refine hin.mono ?_
      rintro x G ⟨rfl, g2, rfl, hp2, hs2⟩
      exact hK g2 hp2 hs2
    · refine (ins_none (.ms id 0 20 2) 20 _ (by omega)).mono ?_
      rintro x G ⟨rfl, rfl⟩
      exact hK g hp hs
  simp -implicitDefEqProofs only [go_sem, e0, e1, e2, e6, e7]
  refine fin _ fun g2 hp2 hs2 => ?_
  simp -implicitDefEqProofs only [go_sem, e0, e1, e2, e6, e7]
  refine aloop_intro (σ := Unit) (fun s => [(1, .int .i64 n), (6, .int .i64 20)]) (fun s G => G = H.put id (.cells (g2.map encSet).flatten)) (fun s => 0) () ?_ ?_ ?_
  · simp -implicitDefEqProofs only [go_sem, e0, e1, e2, e6, e7]
  · rfl
  rintro _ r G hv rfl
  have e1 := hv.1
  have e6 := hv.2.1
  simp -implicitDefEqProofs only [go_sem, e1, e6, y2]
  exact Done.now ⟨rfl, g2, rfl, hp2, hs2⟩
theorem sortF_calls (l : List SetV) (id : Nat) (H : Heap) (ho : H id = some (.cells (l.map encSet).flatten)) (hn : l.length ≤ 20) :
    ACalls Tryz.prog 24 [.ms id 0 l.length 2, .func 25 []] H fun x H' => x = .tup [] ∧ ∃ g, H' = H.put id (.cells (g.map encSet).flatten) ∧ g.Perm l ∧ SortTo (·.key) g l.length := by
  refine ACalls.of_code (X := { pure := pu0 }) pu0_ok Tryz.func24 (by kernel_rfl) rfl (by kernel_rfl) (Nat.le_of_ble_eq_true rfl) ?_
  simp -implicitDefEqProofs only [go_sem, Tryz.f24]
  refine (stable_calls l id H ho hn).mono ?_
  rintro x G ⟨rfl, g, rfl, hp, hs⟩
  simp -implicitDefEqProofs only [go_sem]
  exact Done.now ⟨rfl, g, rfl, hp, hs⟩
theorem stable0_calls (H : Heap) : ACalls Tryz.prog 54 [.sl [] .exact, .int .i64 0, .func 25 []] H fun x H' => x = .tup [] ∧ H' = H := by
  refine ACalls.of_code (X := { pure := pu0 }) pu0_ok Tryz.func54 (by kernel_rfl) rfl (by kernel_rfl) (Nat.le_of_ble_eq_true rfl) ?_
  simp -implicitDefEqProofs only [go_sem, Tryz.f54]
  have y1 : decide ((20 : Int) ≤ 0) = false := rfl
  have y2 : decide ((20 : Int) < 0) = false := rfl
  with_reducible refine aloop_cut 0 (fun r G => G = H ∧ r 0 = .sl [] .exact ∧ r 1 = .int .i64 0 ∧ r 2 = .func 25 [] ∧ r 6 = .int .i64 20 ∧ r 7 = .int .i64 0) ?_ ?_
  rotate_left
  · refine aloop_intro (σ := Unit) (fun s => [(0, .sl [] .exact), (1, .int .i64 0), (2, .func 25 []), (6, .int .i64 20), (7, .int .i64 0), (8, .int .i64 20)]) (fun s G => G = H) (fun s => 0) () ?_ ?_ ?_
    · simp -implicitDefEqProofs only [go_sem]
    · rfl
    rintro _ r G hv rfl
    have e0 := hv.1
    have e1 := hv.2.1
    have e2 := hv.2.2.1
    have e6 := hv.2.2.2.1
    have e7 := hv.2.2.2.2.1
    have e8 := hv.2.2.2.2.2.1
    simp -implicitDefEqProofs only [go_sem, e0, e1, e2, e6, e7, e8, y1]
  rintro r G ⟨rfl, e0, e1, e2, e6, e7⟩
  simp -implicitDefEqProofs only [go_sem, e0, e1, e2, e6, e7]
  refine (ins_none (.sl [] .exact) 0 G (by omega)).pure_next _ ?_
  simp -implicitDefEqProofs only [go_sem, e0, e1, e2, e6, e7]
  refine aloop_intro (σ := Unit) (fun s => [(1, .int .i64 0), (6, .int .i64 20)]) (fun s G' => G' = G) (fun s => 0) () ?_ ?_ ?_
  · simp -implicitDefEqProofs only [go_sem, e0, e1, e2, e6, e7]
  · rfl
  rintro _ r G hv rfl
  have e1 := hv.1
  have e6 := hv.2.1
  simp -implicitDefEqProofs only [go_sem, e1, e6, y2]
  exact Done.now ⟨rfl, rfl⟩
theorem sortF0_calls (H : Heap) : ACalls Tryz.prog 24 [.sl [] .exact, .func 25 []] H fun x H' => x = .tup [] ∧ H' = H := by
  refine ACalls.of_code (X := { pure := pu0 }) pu0_ok Tryz.func24 (by kernel_rfl) rfl (by kernel_rfl) (Nat.le_of_ble_eq_true rfl) ?_
  simp -implicitDefEqProofs only [go_sem, Tryz.f24]
  refine (stable0_calls H).pure_next _ ?_
  simp -implicitDefEqProofs only [go_sem]
  exact Done.now ⟨rfl, rfl⟩
end Go.Proofs

/- Walks: what is there twice is left out. -/
namespace Go.Proofs
open Go Go.Abs
set_option linter.unusedSimpArgs false
set_option linter.unusedVariables false
set_option maxRecDepth 20000
theorem fit2_calls (a b : SetV) (H : Heap) : ACalls Tryz.prog 28 [.agg (encSet a), .agg (encSet b)] H fun x H' => x = .bool (decide (a.key = b.key)) ∧ H' = H := by
  have hS := Heap.Sub.rfl' H
  refine ACalls.of_code (X := { pure := pu0 }) pu0_ok Tryz.func28 (by kernel_rfl) rfl (by kernel_rfl) (Nat.le_of_ble_eq_true rfl) ?_
  simp -implicitDefEqProofs only [go_sem, Tryz.f28, encSet]
  with_reducible refine nwC_intro fun i2 hi2 => ?_
  generalize E2 : Heap.put H i2 _ = G2
  have hO_2 := obj_new E2 hi2 hS
  have n2 := hO_2.1
  have hS := hO_2.2.1
  have g2 := hO_2.2.2.1
  clear hO_2
  simp -implicitDefEqProofs only [go_sem]
  with_reducible refine nwC_intro fun i3 hi3 => ?_
  generalize E3 : Heap.put G2 i3 _ = G3
  have hO_3 := obj_new E3 hi3 hS
  have n3 := hO_3.1
  have hS := hO_3.2.1
  have g3 := hO_3.2.2.1
  have d2_3 := obj_ne g2 hi3
  have g2 := hO_3.2.2.2 _ _ g2
  clear hO_3
  simp -implicitDefEqProofs only [go_sem, g2, g3]
  exact Done.drop hS ⟨rfl, rfl⟩
noncomputable def sFit2 := spF (fun p : SetV × SetV => [AV.agg (encSet p.1), AV.agg (encSet p.2)]) (fun _ => True) fun p => .bool (decide (p.1.key = p.2.key))
theorem sFit2_eq (a b : SetV) : sFit2 [.agg (encSet a), .agg (encSet b)] = some (.bool (decide (a.key = b.key))) := spF_eq (enc := fun p : SetV × SetV => [AV.agg (encSet p.1), AV.agg (encSet p.2)]) (fun a b e => by
  obtain ⟨⟨a1, a2⟩, ⟨a3, a4⟩⟩ := a
  obtain ⟨⟨b1, b2⟩, ⟨b3, b4⟩⟩ := b
  simp only [encSet] at e
  cases e; rfl) (a, b) trivial
noncomputable def puF2 : Pures := putP 999999999 sNone (putP 28 sFit2 pu0)
theorem puF2_dyn : isDyn puF2 = true := by simp only [puF2, go_sem, Nat.reduceEqDiff]
attribute [go_sem] puF2_dyn
theorem puF2_ok : PuOK Tryz.prog puF2 := .put (.put (pu0_ok) (spF_ok fun p H _ => fit2_calls p.1 p.2 H)) dyn_ok
theorem writeC_eq {cs vs : List AV} {off : Nat} (h : off + vs.length ≤ cs.length) : writeC cs off vs = cs.take off ++ vs ++ cs.drop (off + vs.length) := by
  unfold writeC
  split
  · rename_i v
    simp only [List.length_singleton] at h ⊢
    rw [List.set_eq_take_append_cons_drop, if_pos (by omega)]
    simp
  · rfl
section
variable {α : Type} {enc : α → List AV} {k : Nat}
theorem flatU_unif (hu : ∀ a, (enc a).length = k) (l : List α) : Unif k (l.map enc) := fun c hc => by obtain ⟨a, -, rfl⟩ := List.mem_map.1 hc; exact hu a
theorem flatU_fill (hu : ∀ a, (enc a).length = k) {l : List α} {j : Nat} (hj : j ≤ l.length) (q : α) : writeC (l.map enc).flatten (j * k) (List.replicate (l.length - j) (enc q)).flatten = ((l.take j ++ List.replicate (l.length - j) q).map enc).flatten := by
  have h1 : (List.replicate (l.length - j) (enc q)).flatten.length = (l.length - j) * k := by
    rw [flatten_len (k := k) (fun c hc => by rw [List.eq_of_mem_replicate hc]; exact hu q), List.length_replicate]
  have h2 : j * k + (l.length - j) * k = l.length * k := by rw [← Nat.add_mul]; congr 1; omega
  rw [writeC_eq (by rw [h1, flatU_len hu, h2]; exact Nat.le_refl _), h1, h2, ← flatU_len hu l, List.drop_length, List.append_nil, List.map_append, List.flatten_append, List.map_replicate, ← flatten_take (flatU_unif hu l), List.map_take]
theorem chunksU (hu : ∀ a, (enc a).length = k) (l : List α) {n : Nat} (hn : n ≤ l.length) : ((List.range n).map fun i => (((l.map enc).flatten.drop 0).drop (i * k)).take k) = (l.take n).map enc := by
  refine List.ext_getElem? fun i => ?_
  by_cases h : i < n
  · obtain ⟨p, hp⟩ : ∃ p, l[i]? = some p := getD_get' (by omega)
    rw [List.getElem?_map, List.getElem?_range h, List.getElem?_map, List.getElem?_take, if_pos h, hp]
    simp only [Option.map_some, List.drop_zero]
    rw [flatU_get hu hp]
  · rw [List.getElem?_eq_none (by simp; omega), List.getElem?_eq_none (by simp; omega)]
end
/-- What is left. -/
def CompOK (l g : List SetV) : Prop := Asc (·.key) g ∧ (∀ y ∈ g, y ∈ l) ∧ g.length ≤ l.length
theorem sort_lt {l : List SetV} {n k : Nat} {u v : SetV} (hs : SortTo (·.key) l n) (hk : k + 1 < n) (hu : l[k]? = some u) (hv : l[k + 1]? = some v) (hne : ¬ v.key = u.key) : strLt u.key v.key = true := by
  rcases (hs k (k + 1) u v (by omega) hk hu hv).lt_or with h | h
  · exact h
  · exact absurd h.symm hne
theorem take_le {l : List SetV} {n k : Nat} {u y : SetV} (hs : SortTo (·.key) l n) (hk : k < n) (hu : l[k]? = some u) (hy : y ∈ l.take (k + 1)) : LeK (·.key) y u := by
  obtain ⟨a, ha⟩ := List.getElem?_of_mem hy
  have hak : a < k + 1 := by have := (List.getElem?_eq_some_iff.1 ha).1; rw [List.length_take] at this; omega
  rw [List.getElem?_take, if_pos hak] at ha
  by_cases e : a = k
  · subst e; rw [hu] at ha; cases ha; exact LeK.refl _
  · exact hs a k y u (by omega) hk ha hu
def CpQ (H : Heap) (id n : Nat) (l : List SetV) (r : Regs) (G : Heap) : Prop :=
  ∃ (q : Nat) (g : List SetV), G = H.put id (.cells (g.map encSet).flatten) ∧ g.length = n ∧ q ≤ n ∧ Asc (·.key) (g.take q) ∧ (∀ y ∈ g.take q, y ∈ l) ∧ r 0 = .ms id 0 n 2 ∧ r 5 = .int .i64 q
set_option maxHeartbeats 3200000 in
theorem compact_calls (l : List SetV) (id : Nat) (H : Heap) (ho : H id = some (.cells (l.map encSet).flatten)) (hs : SortTo (·.key) l l.length) (h1 : 1 ≤ l.length) (hn : l.length ≤ 1000) :
    ACalls Tryz.prog 27 [.ms id 0 l.length 2, .func 28 []] H fun x H' => ∃ g, x = .sl (g.map encSet) .unk ∧ CompOK l g ∧ H' = H.del id := by
  have hu : ∀ a : SetV, (encSet a).length = 2 := fun _ => rfl
  have fl := flatU_len hu l
  generalize hL : l.length = n at *
  have whole : Asc (·.key) l → Done Tryz.prog (fun x H' => ∃ g, x = .sl (g.map encSet) .unk ∧ CompOK l g ∧ H' = H.del id) (.ms id 0 n 2) H := fun ha => by
    refine Done.via (Ghost.freeze ho (by omega)) (Done.now ⟨l, ?_, ⟨ha, fun _ h => h, Nat.le_refl _⟩, rfl⟩)
    rw [chunksU hu l (by omega), ← hL, List.take_length]
  by_cases c0 : n < 2
  · have y0 : decide ((n : Int) < 2) = true := decide_eq_true (by omega)
    refine ACalls.of_code (X := { pure := puF2 }) puF2_ok Tryz.func27 (by kernel_rfl) rfl (by kernel_rfl) (Nat.le_of_ble_eq_true rfl) ?_
    simp -implicitDefEqProofs only [go_sem, Tryz.f27, y0]
    refine whole ?_
    obtain ⟨a, rfl⟩ : ∃ a, l = [a] := List.length_eq_one_iff.1 (by omega)
    exact List.pairwise_singleton _ _
  have y0 : decide ((n : Int) < 2) = false := decide_eq_false (by omega)
  refine ACalls.of_code (X := { pure := puF2 }) puF2_ok Tryz.func27 (by kernel_rfl) rfl (by kernel_rfl) (Nat.le_of_ble_eq_true rfl) ?_
  simp -implicitDefEqProofs only [go_sem, Tryz.f27, y0]
  refine aloop_intro (σ := Nat) (fun k => [(0, .ms id 0 n 2), (1, .func 28 []), (5, .int .i64 k)])
    (fun k G => 1 ≤ k ∧ k ≤ n ∧ G = H ∧ Asc (·.key) (l.take k)) (fun k => n - k) 1 ?_ ?_ ?_
  · simp -implicitDefEqProofs only [go_sem]
  · refine ⟨Nat.le_refl _, by omega, rfl, ?_⟩
    obtain ⟨a, t, rfl⟩ : ∃ a t, l = a :: t := by
      cases l with
      | nil => simp at hL; omega
      | cons a t => exact ⟨a, t, rfl⟩
    simp [Asc]
  rintro k r G hv ⟨hk1, hk2, rfl, ha⟩
  have e0 := hv.1
  have e1 := hv.2.1
  have e5 := hv.2.2.1
  clear hv
  by_cases c1 : k < n
  rotate_left
  · have y1 : decide ((k : Int) < n) = false := decide_eq_false (by omega)
    obtain rfl : k = n := by omega
    simp -implicitDefEqProofs only [go_sem, e0, e1, e5, y1]
    rw [← hL, List.take_length] at ha
    exact whole ha
  have y1 : decide ((k : Int) < n) = true := decide_eq_true (by omega)
  obtain ⟨u, hu1⟩ : ∃ x, l[k - 1]? = some x := getD_get' (by omega)
  obtain ⟨v, hv1⟩ : ∃ x, l[k]? = some x := getD_get' (by omega)
  have wk : IntKind.i64.wrap ((k : Int) - 1) = ((k - 1 : Nat) : Int) := by rw [Go.IntWalk.i64_in _ (by omega)]; omega
  have wk1 : IntKind.i64.wrap ((k : Int) + 1) = ((k + 1 : Nat) : Int) := by rw [Go.IntWalk.i64_in _ (by omega)]; omega
  have q1 := sFit2_eq v u
  have f1 := flatU_get hu hv1
  have f2 := flatU_get hu hu1
  have hk3 : k - 1 + 1 = k := by omega
  by_cases c2 : v.key = u.key
  rotate_left
  · have y2 : decide (v.key = u.key) = false := decide_eq_false c2
    simp -implicitDefEqProofs only [go_sem, e0, e1, e5, y1, wk, ho, f1, f2, fl, q1, puF2, y2, wk1]
    refine ⟨by omega, by rw [List.length_drop, fl]; omega, by omega, by rw [List.length_drop, fl]; omega, ?_⟩
    refine Again.mk (k + 1) (by simp -implicitDefEqProofs only [go_sem, e0, e1, e5]) ⟨by omega, by omega, rfl, ?_⟩ (by omega)
    rw [List.take_add_one, hv1]
    refine asc_snoc ha fun y hy => ?_
    exact (take_le hs (by omega) hu1 (by rw [hk3]; exact hy)).lt_of_lt (sort_lt hs (by omega) hu1 (by rw [hk3]; exact hv1) c2)
  have y2 : decide (v.key = u.key) = true := decide_eq_true c2
  simp -implicitDefEqProofs only [go_sem, e0, e1, e5, y1, wk, ho, f1, f2, fl, q1, puF2, y2, wk1]
  refine ⟨by omega, by rw [List.length_drop, fl]; omega, by omega, by rw [List.length_drop, fl]; omega, ?_⟩
  refine ⟨⟨by omega, by omega⟩, ?_⟩
  with_reducible refine aloop_cut 2 (CpQ G id n l) ?_ ?_
  rotate_left
  · refine aloop_intro (σ := Nat × Nat × List SetV) (fun s => [(0, .ms id 0 n 2), (1, .func 28 []), (5, .int .i64 s.1), (6, .ms id (k * 2) (n - k) 2), (7, .int .i64 s.2.1)])
      (fun s G' => 1 ≤ s.2.1 ∧ s.2.1 ≤ n - k ∧ s.1 < k + s.2.1 ∧ 1 ≤ s.1 ∧ G' = G.put id (.cells (s.2.2.map encSet).flatten) ∧ s.2.2.length = n ∧ (∀ i, k + s.2.1 ≤ i + 1 → s.2.2[i]? = l[i]?) ∧ Asc (·.key) (s.2.2.take s.1) ∧ ∃ z, l[k + s.2.1 - 1]? = some z ∧ ∀ y ∈ s.2.2.take s.1, y ∈ l ∧ LeK (·.key) y z)
      (fun s => n - s.2.1) (k, 1, l) ?_ ?_ ?_
    · have hnk : ((n : Int) - k).toNat = n - k := by omega
      simp -implicitDefEqProofs only [go_sem, e0, e1, e5, hnk]
    · refine ⟨Nat.le_refl _, by simp only; omega, by simp only; omega, hk1, (put_self ho).symm, hL, fun _ _ => rfl, ha, v, hv1, fun y hy => ⟨List.mem_of_mem_take hy, ?_⟩⟩
      have := take_le hs (k := k - 1) (by omega) hu1 (by rw [hk3]; exact hy)
      exact this.trans (LeK.of_eq c2.symm)
    clear e0 e1 e5 ha q1 f1 f2 y1 y2
    rintro ⟨q, k2, g⟩ r G' hv ⟨hb1, hb2, hb3, hb4, rfl, hgl, hsame, ha, z, hz, hall⟩
    simp only at hb1 hb2 hb3 hb4 hgl hsame ha hz hall
    have e0 := hv.1
    have e1 := hv.2.1
    have e5 := hv.2.2.1
    have e6 := hv.2.2.2.1
    have e7 := hv.2.2.2.2.1
    simp only at e5 e7
    clear hv
    by_cases c3 : k2 < n - k
    rotate_left
    · have y3 : decide ((k2 : Int) < ((n - k : Nat) : Int)) = false := decide_eq_false (by omega)
      simp -implicitDefEqProofs only [go_sem, e0, e1, e5, e6, e7, y3]
      exact ⟨q, g, rfl, hgl, by omega, ha, fun y hy => (hall y hy).1, by simp -implicitDefEqProofs only [go_sem, e0], by simp -implicitDefEqProofs only [go_sem, e5]⟩
    have y3 : decide ((k2 : Int) < ((n - k : Nat) : Int)) = true := decide_eq_true (by omega)
    obtain ⟨v2, hv2⟩ : ∃ x, l[k + k2]? = some x := getD_get' (by omega)
    have hg1 : g[k + k2]? = some v2 := by rw [hsame _ (by omega)]; exact hv2
    have hg2 : g[k + k2 - 1]? = some z := by rw [hsame _ (by omega)]; exact hz
    have w2 : IntKind.i64.wrap ((k2 : Int) - 1) = ((k2 - 1 : Nat) : Int) := by rw [Go.IntWalk.i64_in _ (by omega)]; omega
    have w3 : IntKind.i64.wrap ((k2 : Int) + 1) = ((k2 + 1 : Nat) : Int) := by rw [Go.IntWalk.i64_in _ (by omega)]; omega
    have w4 : IntKind.i64.wrap ((q : Int) + 1) = ((q + 1 : Nat) : Int) := by rw [Go.IntWalk.i64_in _ (by omega)]; omega
    have q3 := sFit2_eq v2 z
    have f3 := flatU_get hu hg1
    have f4 := flatU_get hu hg2
    have a3 : k * 2 + k2 * 2 = (k + k2) * 2 := by rw [Nat.add_mul]
    have a4 : k * 2 + (k2 - 1) * 2 = (k + k2 - 1) * 2 := by omega
    have fg := flatU_len hu g
    have go : (G.put id (.cells (g.map encSet).flatten)) id = some (.cells (g.map encSet).flatten) := put_same _ _ _
    by_cases c4 : v2.key = z.key
    · have y4 : decide (v2.key = z.key) = true := decide_eq_true c4
      simp -implicitDefEqProofs only [go_sem, e0, e1, e5, e6, e7, y3, w2, w3, go, a3, a4, f3, f4, fg, q3, puF2, y4]
      refine ⟨by omega, by rw [List.length_drop, fg]; omega, by omega, by rw [List.length_drop, fg]; omega, ?_⟩
      exact Again.mk (q, k2 + 1, g) (by simp -implicitDefEqProofs only [go_sem, e0, e1, e5, e6, e7]) ⟨by simp only; omega, by simp only; omega, by simp only; omega, hb4, rfl, hgl, fun i hi => hsame i (by simp only at hi; omega), ha, v2, by
        simp only
        rw [show k + (k2 + 1) - 1 = k + k2 by omega]; exact hv2, fun y hy => ⟨(hall y hy).1, (hall y hy).2.trans (LeK.of_eq c4.symm)⟩⟩ (by simp only; omega)
    have y4 : decide (v2.key = z.key) = false := decide_eq_false c4
    have hqg : q < g.length := by omega
    have k1 := flatU_write hu v2 hqg
    simp -implicitDefEqProofs only [go_sem, e0, e1, e5, e6, e7, y3, w2, w3, go, a3, a4, f3, f4, fg, q3, puF2, y4, w4, k1]
    refine ⟨by omega, by rw [List.length_drop, fg]; omega, by omega, by rw [List.length_drop, fg]; omega, by omega, by rw [List.length_drop, fg]; omega, by omega, rfl, by omega, ?_⟩
    have hlt : strLt z.key v2.key = true := sort_lt hs (k := k + k2 - 1) (by omega) hz (by rw [show k + k2 - 1 + 1 = k + k2 by omega]; exact hv2) c4
    have htk : (g.set q v2).take (q + 1) = g.take q ++ [v2] := by
      rw [List.take_add_one, List.getElem?_set_self hqg, List.take_set_of_le (Nat.le_refl _)]; rfl
    exact Again.mk (q + 1, k2 + 1, g.set q v2) (by simp -implicitDefEqProofs only [go_sem, e0, e1, e5, e6, e7]) ⟨by simp only; omega, by simp only; omega, by simp only; omega, by simp only; omega, rfl, by simp only [List.length_set]; exact hgl, fun i hi => by
        simp only at hi ⊢
        rw [List.getElem?_set_ne (by omega)]
        exact hsame i (by omega), by
        simp only
        rw [htk]
        exact asc_snoc ha fun y hy => (hall y hy).2.lt_of_lt hlt, v2, by
        simp only
        rw [show k + (k2 + 1) - 1 = k + k2 by omega]; exact hv2, fun y hy => by
        simp only at hy
        rw [htk] at hy
        rcases List.mem_append.1 hy with hy | hy
        · exact ⟨(hall y hy).1, (hall y hy).2.trans (LeK.of_lt hlt)⟩
        · rw [List.mem_singleton.1 hy]; exact ⟨List.mem_of_getElem? hv2, LeK.refl _⟩⟩ (by simp only; omega)
  clear whole
  rintro r G' ⟨q, g, rfl, hgl, hq, ha, hm, e0, e5⟩
  have hnq : ((n : Int) - q).toNat = n - q := by omega
  have go : (G.put id (.cells (g.map encSet).flatten)) id = some (.cells (g.map encSet).flatten) := put_same _ _ _
  have fg := flatU_len hu g
  have hfil := flatU_fill hu (l := g) (j := q) (by omega) SetV.zero
  rw [hgl] at hfil
  have hz : encSet SetV.zero = [.str [], .str []] := rfl
  rw [hz] at hfil
  simp -implicitDefEqProofs only [go_sem, e0, e5, hnq, go, fg, hfil]
  refine ⟨⟨by omega, by omega⟩, by rw [← Nat.add_mul]; omega, by omega, ?_⟩
  have hq0 : ((q : Int) - 0).toNat = q := by omega
  rw [hq0]
  have hlen : (g.take q ++ List.replicate (n - q) SetV.zero).length = n := by simp; omega
  refine Done.via (Ghost.freeze (put_same _ _ _) (by rw [flatU_len hu, hlen]; omega)) (Done.now ⟨g.take q, ?_, ⟨ha, hm, by rw [List.length_take]; omega⟩, ?_⟩)
  · rw [chunksU hu _ (by rw [hlen]; exact hq), List.take_append_of_le_length (by rw [List.length_take]; omega), List.take_take, Nat.min_self]
  · funext i
    simp only [Heap.del, Heap.put]
    split <;> rfl
theorem compact0_calls (H : Heap) : ACalls Tryz.prog 27 [.sl [] .exact, .func 28 []] H fun x H' => x = .sl [] .exact ∧ H' = H := by
  refine ACalls.of_code (X := { pure := puF2 }) puF2_ok Tryz.func27 (by kernel_rfl) rfl (by kernel_rfl) (Nat.le_of_ble_eq_true rfl) ?_
  simp -implicitDefEqProofs only [go_sem, Tryz.f27]
  exact Done.now ⟨rfl, rfl⟩
end Go.Proofs

/- Walks: a change of the machine that is being made. -/
namespace Go.Proofs
open Go Go.Abs
set_option linter.unusedSimpArgs false
set_option linter.unusedVariables false
set_option maxRecDepth 20000
theorem applyV_ok {w n : MacV} {l : List ChgV} (hM : MacOK w) (h : applyV w l = .ok n) : MacOK n := by
  unfold applyV at h
  split at h
  · cases h
  · exact doAll_ok hM h
set_option maxHeartbeats 1600000 in
theorem fit3_calls (w : MacV) (c : ChgV) (ta tb tc td : Tail) (iw : Nat) (G : Heap) (hw : G iw = some (.cells (encMac w ta tb tc td))) (hM : MacOK w) (hc : chgR c) :
    ACalls Tryz.prog 29 [.agg (encChg c), .ptr iw 0] G fun x G' => x = .tup [] ∧ ∃ n ta tb tc td, MacOK n ∧ G' = G.put iw (.cells (encMac n ta tb tc td)) := by
  have hap := rApply_calls w [c] ta tb tc td
  have hok := fun n (h : applyV w [c] = .ok n) => applyV_ok hM h
  have herr : ∀ e, applyV w [c] = .error e → ¬ e = 0 := fun e h => by
    unfold applyV at h
    rw [if_neg (by simp [(macErr_ok w).2 hM])] at h
    unfold doAll at h
    split at h
    · cases h
    · rename_i e2 he
      cases h
      exact doV_err he
  generalize applyV w [c] = av at *
  simp only [List.map_cons, List.map_nil] at hap
  unfold encChg at hap
  have hw0 := hw
  unfold encMac at hw hap
  refine ACalls.of_code (X := { pure := pu0 }) pu0_ok Tryz.func29 (by kernel_rfl) rfl (by kernel_rfl) (Nat.le_of_ble_eq_true rfl) ?_
  simp -implicitDefEqProofs only [go_sem, Tryz.f29, encChg]
  with_reducible refine nwC_intro fun i2 hi2 => ?_
  have d2 : ¬ i2 = iw := fun e => by rw [e, hw] at hi2; cases hi2
  have g2 := put_same G i2 (.cells [.int .i64 c.kind, .str c.file.path, .str c.file.data, .bool c.file.runs, .str c.set.key, .str c.set.value, .str c.svc.name, .str c.svc.path, .bool c.svc.auto, .bool c.svc.on])
  have w2 : (G.put i2 (.cells [.int .i64 c.kind, .str c.file.path, .str c.file.data, .bool c.file.runs, .str c.set.key, .str c.set.value, .str c.svc.name, .str c.svc.path, .bool c.svc.auto, .bool c.svc.on])) iw = _ := (put_ne _ _ _ _ (fun e => d2 e.symm)).trans hw
  have s2 : G.Sub (G.put i2 (.cells [.int .i64 c.kind, .str c.file.path, .str c.file.data, .bool c.file.runs, .str c.set.key, .str c.set.value, .str c.svc.name, .str c.svc.path, .bool c.svc.auto, .bool c.svc.on])) := (Heap.Sub.rfl' G).put' hi2 _
  simp -implicitDefEqProofs only [go_sem]
  generalize G.put i2 _ = G2 at *
  simp -implicitDefEqProofs only [go_sem, w2, g2]
  refine (hap .exact G2 hM.R (by simp) (fun d hd => by rw [List.mem_singleton.1 hd]; exact hc)).pure_next _ ?_
  cases av with
  | error e =>
    have y1 : decide (e = 0) = false := decide_eq_false (herr e rfl)
    unfold applyA encMac
    simp -implicitDefEqProofs only [go_sem]
    with_reducible refine nwC_intro fun i3 hi3 => ?_
    simp -implicitDefEqProofs only [go_sem, y1]
    refine Done.drop (H' := G) (fun i o hi => ?_) ⟨rfl, w, ta, tb, tc, td, hM, (put_self hw).symm⟩
    have := s2 _ _ hi
    first
      | exact this
      | (rw [put_ne _ _ _ _ (obj_ne this hi3)]; exact this)
      | (rw [put_ne _ _ _ _ (obj_ne this hi3), put_ne _ _ _ _ (obj_ne this hi3)]; exact this)
  | ok n =>
    have y1 : decide ((0 : Int) = 0) = true := rfl
    unfold applyA encMac
    simp -implicitDefEqProofs only [go_sem]
    with_reducible refine nwC_intro fun i3 hi3 => ?_
    have d3 : ¬ i3 = iw := fun e => by rw [e, w2] at hi3; cases hi3
    have w3 : (G2.put i3 (.cells [.sl (n.facts.map encSet) .unk, .sl (n.files.map encFile) .unk, .sl (n.sets.map encSet) .unk, .sl (n.svcs.map encSvc) .unk])) iw = _ := (put_ne _ _ _ _ (fun e => d3 e.symm)).trans w2
    simp -implicitDefEqProofs only [go_sem, y1, w3]
    refine Done.drop (H' := G.put iw (.cells (encMac n .unk .unk .unk .unk))) (fun i o hi => ?_) ⟨rfl, n, .unk, .unk, .unk, .unk, hok n rfl, rfl⟩
    by_cases e : i = iw
    · subst e
      rw [put_same] at hi ⊢
      exact hi
    · rw [put_ne _ _ _ _ e] at hi ⊢
      have := s2 _ _ hi
      first
        | exact this
        | (rw [put_ne _ _ _ _ (obj_ne this hi3)]; exact this)
end Go.Proofs

/- Walks: a right machine is made of a raw one. -/
namespace Go.Proofs
open Go Go.Abs
set_option linter.unusedSimpArgs false
set_option linter.unusedVariables false
set_option maxRecDepth 20000
def setL (fs : List SetV) (id : Nat) : AV := if fs = [] then .sl [] .exact else .ms id 0 fs.length 2
theorem setL_nil (id : Nat) : setL [] id = .sl [] .exact := rfl
theorem setL_ne {fs : List SetV} (h : fs ≠ []) (id : Nat) : setL fs id = .ms id 0 fs.length 2 := by unfold setL; rw [if_neg h]
/-- The facts are gathered. -/
structure Gath (H : Heap) (i1 i2 i3 : Nat) (c1 c2 : List AV) (fs : List SetV) (id : Nat) (G : Heap) : Prop where
  sub : H.Sub G
  d : ¬ i1 = i2 ∧ ¬ i1 = i3 ∧ ¬ i2 = i3 ∧ H i1 = none ∧ H i2 = none ∧ H i3 = none
  g1 : G i1 = some (.cells c1)
  g2 : G i2 = some (.cells c2)
  g3 : G i3 = some (.cells [setL fs id, .sl [] .exact, .sl [] .exact, .sl [] .exact])
  own : fs = [] ∨ (H id = none ∧ ¬ id = i1 ∧ ¬ id = i2 ∧ ¬ id = i3 ∧ G id = some (.cells (fs.map encSet).flatten))
  err : ∀ x ∈ fs, factErr x = 0
  len : fs.length ≤ 20
theorem Gath.put {H G : Heap} {i1 i2 i3 id j : Nat} {c1 c2 : List AV} {fs : List SetV} (h : Gath H i1 i2 i3 c1 c2 fs id G) (hj : G j = none) (o : AObj) : Gath H i1 i2 i3 c1 c2 fs id (G.put j o) := by
  obtain ⟨a, b, c, d, e, f, g, k⟩ := h
  refine ⟨a.put' (sub_none a hj) _, b, by rw [put_ne _ _ _ _ (obj_ne c hj)]; exact c, by rw [put_ne _ _ _ _ (obj_ne d hj)]; exact d, by rw [put_ne _ _ _ _ (obj_ne e hj)]; exact e, ?_, g, k⟩
  rcases f with f | ⟨f1, f2, f3, f4, f5⟩
  · exact .inl f
  · exact .inr ⟨f1, f2, f3, f4, by rw [put_ne _ _ _ _ (obj_ne f5 hj)]; exact f5⟩
/-- The changes are made. -/
structure Made (H : Heap) (i1 i2 i3 : Nat) (c1 c2 : List AV) (G : Heap) : Prop where
  sub : H.Sub G
  d : ¬ i1 = i2 ∧ ¬ i1 = i3 ∧ ¬ i2 = i3 ∧ H i1 = none ∧ H i2 = none ∧ H i3 = none
  g1 : G i1 = some (.cells c1)
  g2 : G i2 = some (.cells c2)
  g3 : ∃ n ta tb tc td, MacOK n ∧ G i3 = some (.cells (encMac n ta tb tc td))
theorem Made.put {H G : Heap} {i1 i2 i3 j : Nat} {c1 c2 : List AV} (h : Made H i1 i2 i3 c1 c2 G) (hj : G j = none) (o : AObj) : Made H i1 i2 i3 c1 c2 (G.put j o) := by
  obtain ⟨a, b, c, d, n, ta, tb, tc, td, e, f⟩ := h
  exact ⟨a.put' (sub_none a hj) _, b, by rw [put_ne _ _ _ _ (obj_ne c hj)]; exact c, by rw [put_ne _ _ _ _ (obj_ne d hj)]; exact d, n, ta, tb, tc, td, e, by rw [put_ne _ _ _ _ (obj_ne f hj)]; exact f⟩
theorem Made.set {H G : Heap} {i1 i2 i3 : Nat} {c1 c2 : List AV} (h : Made H i1 i2 i3 c1 c2 G) {n : MacV} {ta tb tc td : Tail} (hM : MacOK n) : Made H i1 i2 i3 c1 c2 (G.put i3 (.cells (encMac n ta tb tc td))) := by
  obtain ⟨a, b, c, d, -⟩ := h
  exact ⟨a.put' b.2.2.2.2.2 _, b, by rw [put_ne _ _ _ _ b.2.1]; exact c, by rw [put_ne _ _ _ _ b.2.2.1]; exact d, n, ta, tb, tc, td, hM, put_same _ _ _⟩
def GathQ (H : Heap) (i1 i2 i3 : Nat) (c1 c2 : List AV) (r : Regs) (G : Heap) : Prop := (∃ fs id, Gath H i1 i2 i3 c1 c2 fs id G) ∧ r 1 = .ptr i1 0 ∧ r 2 = .ptr i2 0 ∧ r 3 = .ptr i3 0
def MadeQ (H : Heap) (i1 i2 i3 : Nat) (c1 c2 : List AV) (r : Regs) (G : Heap) : Prop := Made H i1 i2 i3 c1 c2 G ∧ r 1 = .ptr i1 0 ∧ r 2 = .ptr i2 0 ∧ r 3 = .ptr i3 0 ∧ r 6 = .func 29 [.ptr i3 0]
theorem Gath.first {H G : Heap} {i1 i2 i3 id j : Nat} {c1 c2 : List AV} {x : SetV} (h : Gath H i1 i2 i3 c1 c2 [] id G) (hj : G j = none) (hx : factErr x = 0) :
    Gath H i1 i2 i3 c1 c2 [x] j ((G.put j (.cells (encSet x))).put i3 (.cells [.ms j 0 1 2, .sl [] .exact, .sl [] .exact, .sl [] .exact])) := by
  obtain ⟨a, b, c, d, e, f, g, k⟩ := h
  have n1 : ¬ i1 = j := obj_ne c hj
  have n2 : ¬ i2 = j := obj_ne d hj
  have n3 : ¬ i3 = j := obj_ne e hj
  refine ⟨(a.put' (sub_none a hj) _).put' b.2.2.2.2.2 _, b, by rw [put_ne _ _ _ _ b.2.1, put_ne _ _ _ _ n1]; exact c, by rw [put_ne _ _ _ _ b.2.2.1, put_ne _ _ _ _ n2]; exact d, put_same _ _ _, .inr ⟨sub_none a hj, fun e => n1 e.symm, fun e => n2 e.symm, fun e => n3 e.symm, ?_⟩, by simpa using hx, by simp⟩
  rw [put_ne _ _ _ _ (fun e => n3 e.symm), put_same]; simp
theorem Gath.next {H G : Heap} {i1 i2 i3 id j : Nat} {c1 c2 : List AV} {fs : List SetV} {x : SetV} (h : Gath H i1 i2 i3 c1 c2 fs id G) (hne : fs ≠ []) (hj : (G.del id) j = none ∨ G j = none) (hj2 : G j = none) (hx : factErr x = 0) (hl : fs.length < 20) :
    Gath H i1 i2 i3 c1 c2 (fs ++ [x]) j (((G.del id).put j (.cells ((fs.map encSet).flatten ++ encSet x))).put i3 (.cells [.ms j 0 (fs.length + 1) 2, .sl [] .exact, .sl [] .exact, .sl [] .exact])) := by
  obtain ⟨a, b, c, d, e, f, g, k⟩ := h
  obtain ⟨f1, f2, f3, f4, f5⟩ := f.resolve_left hne
  have n1 : ¬ i1 = j := obj_ne c hj2
  have n2 : ¬ i2 = j := obj_ne d hj2
  have n3 : ¬ i3 = j := obj_ne e hj2
  have ad : H.Sub (G.del id) := fun q o hq => by
    rw [del_ne (fun e => by rw [e, f1] at hq; cases hq)]; exact a _ _ hq
  refine ⟨(ad.put' (sub_none a hj2) _).put' b.2.2.2.2.2 _, b, by rw [put_ne _ _ _ _ b.2.1, put_ne _ _ _ _ n1, del_ne (fun e => f2 e.symm)]; exact c, by rw [put_ne _ _ _ _ b.2.2.1, put_ne _ _ _ _ n2, del_ne (fun e => f3 e.symm)]; exact d, ?_, .inr ⟨sub_none a hj2, fun e => n1 e.symm, fun e => n2 e.symm, fun e => n3 e.symm, ?_⟩, ?_, by simp; omega⟩
  · rw [put_same, setL_ne (by simp)]; simp
  · rw [put_ne _ _ _ _ (fun e => n3 e.symm), put_same]; simp
  · intro y hy
    rcases List.mem_append.1 hy with hy | hy
    · exact g y hy
    · rw [List.mem_singleton.1 hy]; exact hx
theorem gath_sort {H G : Heap} {i1 i2 i3 id : Nat} {c1 c2 : List AV} {fs : List SetV} (h : Gath H i1 i2 i3 c1 c2 fs id G) :
    ACalls Tryz.prog 24 [setL fs id, .func 25 []] G fun x G' => x = .tup [] ∧ ∃ g, Gath H i1 i2 i3 c1 c2 g id G' ∧ SortTo (·.key) g g.length := by
  by_cases hfs : fs = []
  · subst hfs
    refine (sortF0_calls G).mono ?_
    rintro x G' ⟨rfl, rfl⟩
    exact ⟨rfl, [], h, fun a b x y h1 h2 => by simp at h2⟩
  rw [setL_ne hfs]
  obtain ⟨a, b, c, d, e, f, g, k⟩ := h
  obtain ⟨f1, f2, f3, f4, f5⟩ := f.resolve_left hfs
  refine (sortF_calls fs id G f5 k).mono ?_
  rintro x G' ⟨rfl, g', rfl, hp, hs⟩
  have hne : g' ≠ [] := fun e => by rw [e] at hp; exact hfs (List.nil_perm.1 hp)
  refine ⟨rfl, g', ⟨a.put' f1 _, b, by rw [put_ne _ _ _ _ (fun e => f2 e.symm)]; exact c, by rw [put_ne _ _ _ _ (fun e => f3 e.symm)]; exact d, ?_, .inr ⟨f1, f2, f3, f4, put_same _ _ _⟩, fun x hx => g x (hp.subset hx), by rw [hp.length_eq]; exact k⟩, by rw [hp.length_eq]; exact hs⟩
  rw [put_ne _ _ _ _ (fun e => f4 e.symm), e, setL_ne hfs, setL_ne hne, hp.length_eq]
theorem facts_ok {g : List SetV} (h1 : g.length ≤ 20) (h2 : ∀ x ∈ g, factErr x = 0) (h3 : Asc (·.key) g) : MacOK ⟨g, [], [], []⟩ :=
  ⟨by simp only; omega, by simp, by simp, by simp, h2, h3, by simp, List.Pairwise.nil, by simp [Apart], by simp, List.Pairwise.nil, by simp, List.Pairwise.nil⟩
theorem gath_comp {H G : Heap} {i1 i2 i3 id : Nat} {c1 c2 : List AV} {fs : List SetV} (h : Gath H i1 i2 i3 c1 c2 fs id G) (hs : SortTo (·.key) fs fs.length) :
    ACalls Tryz.prog 27 [setL fs id, .func 28 []] G fun x G' => ∃ g t, x = .sl (g.map encSet) t ∧ MacOK ⟨g, [], [], []⟩ ∧
      (∃ v, G' i3 = some (.cells [v, .sl [] .exact, .sl [] .exact, .sl [] .exact])) ∧ Made H i1 i2 i3 c1 c2 (G'.put i3 (.cells [.sl (g.map encSet) t, .sl [] .exact, .sl [] .exact, .sl [] .exact])) := by
  by_cases hfs : fs = []
  · subst hfs
    refine (compact0_calls G).mono ?_
    rintro x G' ⟨rfl, rfl⟩
    have hM : MacOK ⟨[], [], [], []⟩ := facts_ok (by simp) (by simp) List.Pairwise.nil
    obtain ⟨a, b, c, d, e, -⟩ := h
    exact ⟨[], .exact, rfl, hM, ⟨_, e⟩, a.put' b.2.2.2.2.2 _, b, by rw [put_ne _ _ _ _ b.2.1]; exact c, by rw [put_ne _ _ _ _ b.2.2.1]; exact d, _, _, _, _, _, hM, put_same _ _ _⟩
  rw [setL_ne hfs]
  obtain ⟨a, b, c, d, e, f, g, k⟩ := h
  obtain ⟨f1, f2, f3, f4, f5⟩ := f.resolve_left hfs
  refine (compact_calls fs id G f5 hs (List.length_pos_iff.2 hfs) (by omega)).mono ?_
  rintro x G' ⟨g', rfl, ⟨h1, h2, h3⟩, rfl⟩
  have hM : MacOK ⟨g', [], [], []⟩ := facts_ok (by omega) (fun x hx => g x (h2 x hx)) h1
  have ad : H.Sub (G.del id) := fun q o hq => by
    rw [del_ne (fun e => by rw [e, f1] at hq; cases hq)]; exact a _ _ hq
  exact ⟨g', .unk, rfl, hM, ⟨_, (del_ne (fun e => f4 e.symm)).trans e⟩, ad.put' b.2.2.2.2.2 _, b, by rw [put_ne _ _ _ _ b.2.1, del_ne (fun e => f2 e.symm)]; exact c, by rw [put_ne _ _ _ _ b.2.2.1, del_ne (fun e => f3 e.symm)]; exact d, _, _, _, _, _, hM, put_same _ _ _⟩
set_option maxHeartbeats 12800000 in
theorem fit_calls (m : MacV) (ta tb tc td : Tail) (H : Heap) (hr : macR m) : ACalls Tryz.prog 9 [.agg (encMac m ta tb tc td)] H fun x H' => ∃ n ta tb tc td, x = .agg (encMac n ta tb tc td) ∧ MacOK n ∧ H' = H := by
  have hR : Room = 1099511627776 := rfl
  have hck := fun G => rCheck_calls m ta tb tc td G hr
  unfold encMac at hck
  obtain ⟨⟨l1, l2, l3, l4⟩, r1, r2, r3, r4⟩ := hr
  have hS := Heap.Sub.rfl' H
  refine ACalls.of_code (X := { pure := puRC, ms := fun t => decide (t = 43) }) puRC_ok Tryz.func9 (by kernel_rfl) rfl (by kernel_rfl) (Nat.le_of_ble_eq_true rfl) ?_
  simp -implicitDefEqProofs only [go_sem, Tryz.f9, encMac]
  with_reducible refine nwC_intro fun i1 hi1 => ?_
  generalize E1 : Heap.put H i1 _ = G1
  have hO_1 := obj_new E1 hi1 hS
  have n1 := hO_1.1
  have hS := hO_1.2.1
  have g1 := hO_1.2.2.1
  clear hO_1
  simp -implicitDefEqProofs only [go_sem]
  with_reducible refine nwC_intro fun i2 hi2 => ?_
  generalize E2 : Heap.put G1 i2 _ = G2
  have hO_2 := obj_new E2 hi2 hS
  have n2 := hO_2.1
  have hS := hO_2.2.1
  have g2 := hO_2.2.2.1
  have d1_2 := obj_ne g1 hi2
  have g1 := hO_2.2.2.2 _ _ g1
  clear hO_2
  simp -implicitDefEqProofs only [go_sem, g1, puRC]
  refine (hck G2).pure_next _ ?_
  by_cases c0 : macErr m = 0
  · have y0 : decide (macErr m = 0) = true := decide_eq_true c0
    simp -implicitDefEqProofs only [go_sem, y0, g1, g2]
    exact Done.drop (hS.put' n2 _) ⟨m, ta, tb, tc, td, rfl, (macErr_ok m).1 c0, rfl⟩
  have y0 : decide (macErr m = 0) = false := decide_eq_false c0
  simp -implicitDefEqProofs only [go_sem, y0, g1]
  with_reducible refine nwC_intro fun i3 hi3 => ?_
  generalize E3 : Heap.put G2 i3 _ = G3
  have hO_3 := obj_new E3 hi3 hS
  have n3 := hO_3.1
  have hS := hO_3.2.1
  have g3 := hO_3.2.2.1
  have d1_3 := obj_ne g1 hi3
  have g1 := hO_3.2.2.2 _ _ g1
  have d2_3 := obj_ne g2 hi3
  have g2 := hO_3.2.2.2 _ _ g2
  clear hO_3
  simp -implicitDefEqProofs only [go_sem, g3]
  have hGa : Gath H i1 i2 i3 (encMac m ta tb tc td) (encMac .zero .exact .exact .exact .exact) [] 0 (G3.put i3 (.cells [.sl [] .exact, .sl [] .exact, .sl [] .exact, .sl [] .exact])) :=
    ⟨hS.put' n3 _, ⟨d1_2, d1_3, d2_3, n1, n2, n3⟩, by rw [put_ne _ _ _ _ d1_3]; exact g1, by rw [put_ne _ _ _ _ d2_3]; exact g2, put_same _ _ _, .inl rfl, by simp, by simp⟩
  clear hS E1 E2 E3 y0 hck
  generalize G3.put i3 _ = G4 at *
  have q1 := hGa.g1
  unfold encMac at q1
  simp -implicitDefEqProofs only [go_sem, q1]
  with_reducible refine aloop_cut 0 (GathQ H i1 i2 i3 (encMac m ta tb tc td) (encMac .zero .exact .exact .exact .exact)) ?_ ?_
  rotate_left
  · refine aloop_intro (σ := Nat × List SetV × Nat) (fun s => [(1, .ptr i1 0), (2, .ptr i2 0), (3, .ptr i3 0), (19, .sl (m.facts.map encSet) ta), (20, .int .i64 m.facts.length), (21, .int .i64 s.1)])
      (fun s G => s.1 ≤ m.facts.length ∧ Gath H i1 i2 i3 (encMac m ta tb tc td) (encMac .zero .exact .exact .exact .exact) s.2.1 s.2.2 G) (fun s => m.facts.length - s.1) (0, [], 0) ?_ ?_ ?_
    · simp -implicitDefEqProofs only [go_sem]
    · exact ⟨Nat.zero_le _, hGa⟩
    clear hGa q1 g1 g2 g3
    rintro ⟨k, fs, id⟩ r G hv ⟨hk, hGa⟩
    simp only at hk hGa
    have e1 := hv.1
    have e2 := hv.2.1
    have e3 := hv.2.2.1
    have ea := hv.2.2.2.1
    have eb := hv.2.2.2.2.1
    have ec := hv.2.2.2.2.2.1
    simp only at ec
    clear hv
    by_cases gk : k < m.facts.length
    rotate_left
    · have y0 : decide ((k : Int) < m.facts.length) = false := decide_eq_false (by omega)
      simp -implicitDefEqProofs only [go_sem, e1, e2, e3, ea, eb, ec, y0]
      exact ⟨⟨fs, id, hGa⟩, by simp -implicitDefEqProofs only [go_sem, e1], by simp -implicitDefEqProofs only [go_sem, e2], by simp -implicitDefEqProofs only [go_sem, e3]⟩
    have y0 : decide ((k : Int) < m.facts.length) = true := decide_eq_true (by omega)
    obtain ⟨x, hx⟩ : ∃ x, m.facts[k]? = some x := getD_get' gk
    have ws : IntKind.i64.wrap ((k : Int) + 1) = ((k + 1 : Nat) : Int) := by rw [Go.IntWalk.i64_in _ (by omega)]; omega
    have hU : ∀ (a : SetV), a ∈ m.facts → (encSet a).length = 2 := fun _ _ => rfl
    have hxr := r1 x (List.mem_of_getElem? hx)
    have hfe := factErr.eq_1 x
    obtain ⟨p, d⟩ := x
    have hn := sStr_eq nameB p
    rw [hR, if_pos hxr.1] at hn
    have hvl := sStr_eq valueB d
    rw [hR, if_pos hxr.2] at hvl
    simp -implicitDefEqProofs only [go_sem, e1, e2, e3, ea, eb, ec, y0, hx]
    refine ⟨hU, Nat.le_refl _, ?_⟩
    simp only [encSet, List.take_succ_cons, List.take_zero, List.take_nil]
    with_reducible refine nwC_intro fun i5 hi5 => ?_
    simp -implicitDefEqProofs only [go_sem]
    replace hGa := hGa.put hi5 (.cells [.str p, .str d])
    have g5 := put_same G i5 (.cells [.str p, .str d])
    generalize G.put i5 (.cells [.str p, .str d]) = G6 at *
    have skip : ∀ r' : Regs, r' 1 = .ptr i1 0 → r' 2 = .ptr i2 0 → True := fun _ _ _ => trivial
    clear skip hi5
    cases n1 : nameB p with
    | false =>
      rw [n1] at hn
      simp -implicitDefEqProofs only [go_sem, e1, e2, e3, ea, eb, ec, g5, hn, puRC, ws]
      exact Again.mk (k + 1, fs, id) (by simp -implicitDefEqProofs only [go_sem, e1, e2, e3, ea, eb]) ⟨by simp only; omega, hGa⟩ (by simp only; omega)
    | true =>
    rw [n1] at hn
    cases n2 : valueB d with
    | false =>
      rw [n2] at hvl
      simp -implicitDefEqProofs only [go_sem, e1, e2, e3, ea, eb, ec, g5, hn, hvl, puRC, ws]
      exact Again.mk (k + 1, fs, id) (by simp -implicitDefEqProofs only [go_sem, e1, e2, e3, ea, eb]) ⟨by simp only; omega, hGa⟩ (by simp only; omega)
    | true =>
    rw [n2] at hvl
    have hf0 : factErr ⟨p, d⟩ = 0 := by rw [hfe]; simp [n1, n2]
    have k3 := hGa.g3
    have k1 := hGa.g1
    have gnone : ∀ id', G6 id' = none → G6 id' = none := fun _ h => h
    clear gnone
    by_cases hfs : fs = []
    · subst hfs
      rw [setL_nil] at k3
      have y5 : decide (((([] : List SetV).length : Nat) : Int) < 20) = true := rfl
      have y6 : decide ((0 : Int) < 20) = true := rfl
      simp -implicitDefEqProofs only [go_sem, e1, e2, e3, ea, eb, ec, g5, hn, hvl, puRC, k3, y6, List.length_nil]
      refine app_ms0 (by simp) (by simp) (by simp) fun id' hi => ?_
      have dd : ¬ i3 = id' := obj_ne k3 hi
      have k3' : (G6.put id' (.cells ([[AV.str p, AV.str d]] : List (List AV)).flatten)) i3 = _ := (put_ne _ _ _ _ dd).trans k3
      simp -implicitDefEqProofs only [go_sem, e1, e2, e3, ea, eb, ec, k3', ws]
      exact Again.mk (k + 1, [⟨p, d⟩], id') (by simp -implicitDefEqProofs only [go_sem, e1, e2, e3, ea, eb]) ⟨by simp only; omega, hGa.first hi hf0⟩ (by simp only; omega)
    · rw [setL_ne hfs] at k3
      by_cases c5 : fs.length < 20
      rotate_left
      · have y5 : decide ((fs.length : Int) < 20) = false := decide_eq_false (by omega)
        simp -implicitDefEqProofs only [go_sem, e1, e2, e3, ea, eb, ec, g5, hn, hvl, puRC, k3, y5, ws]
        exact Again.mk (k + 1, fs, id) (by simp -implicitDefEqProofs only [go_sem, e1, e2, e3, ea, eb]) ⟨by simp only; omega, hGa⟩ (by simp only; omega)
      have y5 : decide ((fs.length : Int) < 20) = true := decide_eq_true (by omega)
      obtain ⟨f1, f2, f3, f4, f5⟩ := hGa.own.resolve_left hfs
      simp -implicitDefEqProofs only [go_sem, e1, e2, e3, ea, eb, ec, g5, hn, hvl, puRC, k3, y5, ws]
      refine app_ms f5 (by rw [flatU_len (k := 2) (fun _ => rfl)]) (by simp; omega) (by simp; omega) fun id' hi => ?_
      have dd : ¬ i3 = id' := obj_ne k3 hi
      have k3' : ((G6.del id).put id' (.cells ((fs.map encSet).flatten ++ ([[AV.str p, AV.str d]] : List (List AV)).flatten))) i3 = _ := (put_ne _ _ _ _ dd).trans ((del_ne (fun e => f4 e.symm)).trans k3)
      simp -implicitDefEqProofs only [go_sem, e1, e2, e3, ea, eb, ec, k3', ws]
      exact Again.mk (k + 1, fs ++ [⟨p, d⟩], id') (by simp -implicitDefEqProofs only [go_sem, e1, e2, e3, ea, eb]) ⟨by simp only; omega, hGa.next hfs (.inr hi) hi hf0 c5⟩ (by simp only; omega)
  clear hGa q1 g1 g2 g3
  rintro r G ⟨⟨fs, id, hGa⟩, e1, e2, e3⟩
  have k3 := hGa.g3
  simp -implicitDefEqProofs only [go_sem, e1, e2, e3, k3]
  refine (gath_sort hGa).mono ?_
  rintro x G2 ⟨rfl, fs2, hGb, hs2⟩
  clear hGa k3
  have k3 := hGb.g3
  simp -implicitDefEqProofs only [go_sem, e1, e2, e3, k3]
  refine (gath_comp hGb hs2).mono ?_
  rintro x G5 ⟨g, t, rfl, hM, ⟨v, k5⟩, hMd⟩
  clear hGb k3
  simp -implicitDefEqProofs only [go_sem, e1, e2, e3, k5]
  generalize G5.put i3 _ = G6 at *
  clear k5 hM
  have q1 := hMd.g1
  unfold encMac at q1
  obtain ⟨q, hq1, hq2, mn⟩ : ∃ q : Nat, q ≤ m.files.length ∧ q ≤ 40 ∧ min (m.files.length : Int) 40 = (q : Int) := ⟨min m.files.length 40, by omega, by omega, by omega⟩
  have mt : ((q : Int)).toNat = q := by omega
  have mk : ((m.files.map encFile).take q) = (m.files.take q).map encFile := by rw [List.map_take]
  simp -implicitDefEqProofs only [go_sem, e1, e2, e3, q1, mn, mt, mk]
  refine ⟨by first | exact fun _ _ => rfl | exact ⟨by omega, fun _ _ => rfl⟩ | exact ⟨by omega, by omega, fun _ _ => rfl⟩, ?_⟩
  with_reducible refine aloop_cut 2 (MadeQ H i1 i2 i3 (encMac m ta tb tc td) (encMac .zero .exact .exact .exact .exact)) ?_ ?_
  rotate_left
  · refine aloop_intro (σ := Nat) (fun k => [(1, .ptr i1 0), (2, .ptr i2 0), (3, .ptr i3 0), (6, .func 29 [.ptr i3 0]), (60, .sl ((m.files.take q).map encFile) (cutTail none (some (Operand.tmp 59)) tb)), (61, .int .i64 q), (62, .int .i64 k)])
      (fun k G => k ≤ q ∧ Made H i1 i2 i3 (encMac m ta tb tc td) (encMac .zero .exact .exact .exact .exact) G) (fun k => q - k) 0 ?_ ?_ ?_
    · have hql : (m.files.take q).length = q := by rw [List.length_take]; omega
      simp -implicitDefEqProofs only [go_sem, e1, e2, e3, hql]
    · exact ⟨Nat.zero_le _, hMd⟩
    clear hMd q1 mn mt mk e1 e2 e3
    rintro k r G hv ⟨hk, hMd⟩
    have e1 := hv.1
    have e2 := hv.2.1
    have e3 := hv.2.2.1
    have e6 := hv.2.2.2.1
    have ea := hv.2.2.2.2.1
    have eb := hv.2.2.2.2.2.1
    have ec := hv.2.2.2.2.2.2.1
    clear hv
    by_cases gk : k < q
    rotate_left
    · have y0 : decide ((k : Int) < q) = false := decide_eq_false (by omega)
      simp -implicitDefEqProofs only [go_sem, e1, e2, e3, e6, ea, eb, ec, y0]
      exact ⟨hMd, by simp -implicitDefEqProofs only [go_sem, e1], by simp -implicitDefEqProofs only [go_sem, e2], by simp -implicitDefEqProofs only [go_sem, e3], by simp -implicitDefEqProofs only [go_sem, e6]⟩
    have y0 : decide ((k : Int) < q) = true := decide_eq_true (by omega)
    obtain ⟨x, hx⟩ : ∃ x, m.files[k]? = some x := getD_get' (by omega)
    have hx2 : (m.files.take q)[k]? = some x := by rw [List.getElem?_take, if_pos gk]; exact hx
    have ws : IntKind.i64.wrap ((k : Int) + 1) = ((k + 1 : Nat) : Int) := by rw [Go.IntWalk.i64_in _ (by omega)]; omega
    have hU : ∀ (a : FileV), a ∈ m.files.take q → (encFile a).length = 3 := fun _ _ => rfl
    have hxr := r2 x (List.mem_of_getElem? hx)
    obtain ⟨p, d, ru⟩ := x
    simp -implicitDefEqProofs only [go_sem, e1, e2, e3, e6, ea, eb, ec, y0, hx2]
    refine ⟨hU, Nat.le_refl _, ?_⟩
    simp only [encFile, List.take_succ_cons, List.take_zero, List.take_nil]
    with_reducible refine nwC_intro fun i5 hi5 => ?_
    simp -implicitDefEqProofs only [go_sem]
    obtain ⟨z, hz1, hz2, mn2⟩ : ∃ z : Nat, z ≤ d.length ∧ z ≤ 3000 ∧ min (d.length : Int) 3000 = (z : Int) := ⟨min d.length 3000, by omega, by omega, by omega⟩
    have mt2 : ((z : Int)).toNat = z := by omega
    replace hMd := hMd.put hi5 (.cells [.str p, .str (d.take z), .bool ru])
    have g5 := put_same G i5 (.cells [.str p, .str d, .bool ru])
    simp -implicitDefEqProofs only [go_sem, e1, e2, e3, e6, ea, eb, ec, g5, mn2, mt2]
    refine ⟨by first | omega | exact ⟨by omega, by omega⟩, ?_⟩
    generalize G.put i5 (.cells [.str p, .str (d.take z), .bool ru]) = G6 at *
    obtain ⟨w, xa, xb, xc, xd, hM, gw⟩ := hMd.g3
    have hf3 := fit3_calls w ⟨1, ⟨p, d.take z, ru⟩, .zero, .zero⟩ xa xb xc xd i3 G6 gw hM ⟨⟨hxr.1, by have := hxr.2; simp only [List.length_take]; omega⟩, (by decide : setR SetV.zero), (by decide : svcR SvcV.zero)⟩
    unfold encChg at hf3
    refine hf3.mono ?_
    rintro x G7 ⟨rfl, n, ya, yb, yc, yd, hM2, rfl⟩
    simp -implicitDefEqProofs only [go_sem, e1, e2, e3, e6, ea, eb, ec, ws]
    exact Again.mk (k + 1) (by simp -implicitDefEqProofs only [go_sem, e1, e2, e3, e6, ea, eb]) ⟨by omega, hMd.set hM2⟩ (by omega)
  clear hMd q1 mn mt mk e1 e2 e3
  rintro r G6 ⟨hMd, e1, e2, e3, e6⟩
  have q1 := hMd.g1
  unfold encMac at q1
  obtain ⟨q, hq1, hq2, mn⟩ : ∃ q : Nat, q ≤ m.sets.length ∧ q ≤ 40 ∧ min (m.sets.length : Int) 40 = (q : Int) := ⟨min m.sets.length 40, by omega, by omega, by omega⟩
  have mt : ((q : Int)).toNat = q := by omega
  have mk : ((m.sets.map encSet).take q) = (m.sets.take q).map encSet := by rw [List.map_take]
  simp -implicitDefEqProofs only [go_sem, e1, e2, e3, e6, q1, mn, mt, mk]
  refine ⟨by first | exact fun _ _ => rfl | exact ⟨by omega, fun _ _ => rfl⟩ | exact ⟨by omega, by omega, fun _ _ => rfl⟩, ?_⟩
  with_reducible refine aloop_cut 4 (MadeQ H i1 i2 i3 (encMac m ta tb tc td) (encMac .zero .exact .exact .exact .exact)) ?_ ?_
  rotate_left
  · refine aloop_intro (σ := Nat) (fun k => [(1, .ptr i1 0), (2, .ptr i2 0), (3, .ptr i3 0), (6, .func 29 [.ptr i3 0]), (85, .sl ((m.sets.take q).map encSet) (cutTail none (some (Operand.tmp 84)) tc)), (86, .int .i64 q), (87, .int .i64 k)])
      (fun k G => k ≤ q ∧ Made H i1 i2 i3 (encMac m ta tb tc td) (encMac .zero .exact .exact .exact .exact) G) (fun k => q - k) 0 ?_ ?_ ?_
    · have hql : (m.sets.take q).length = q := by rw [List.length_take]; omega
      simp -implicitDefEqProofs only [go_sem, e1, e2, e3, e6, hql]
    · exact ⟨Nat.zero_le _, hMd⟩
    clear hMd q1 mn mt mk e1 e2 e3 e6
    rintro k r G hv ⟨hk, hMd⟩
    have e1 := hv.1
    have e2 := hv.2.1
    have e3 := hv.2.2.1
    have e6 := hv.2.2.2.1
    have ea := hv.2.2.2.2.1
    have eb := hv.2.2.2.2.2.1
    have ec := hv.2.2.2.2.2.2.1
    clear hv
    by_cases gk : k < q
    rotate_left
    · have y0 : decide ((k : Int) < q) = false := decide_eq_false (by omega)
      simp -implicitDefEqProofs only [go_sem, e1, e2, e3, e6, ea, eb, ec, y0]
      exact ⟨hMd, by simp -implicitDefEqProofs only [go_sem, e1], by simp -implicitDefEqProofs only [go_sem, e2], by simp -implicitDefEqProofs only [go_sem, e3], by simp -implicitDefEqProofs only [go_sem, e6]⟩
    have y0 : decide ((k : Int) < q) = true := decide_eq_true (by omega)
    obtain ⟨x, hx⟩ : ∃ x, m.sets[k]? = some x := getD_get' (by omega)
    have hx2 : (m.sets.take q)[k]? = some x := by rw [List.getElem?_take, if_pos gk]; exact hx
    have ws : IntKind.i64.wrap ((k : Int) + 1) = ((k + 1 : Nat) : Int) := by rw [Go.IntWalk.i64_in _ (by omega)]; omega
    have hU : ∀ (a : SetV), a ∈ m.sets.take q → (encSet a).length = 2 := fun _ _ => rfl
    have hxr := r3 x (List.mem_of_getElem? hx)
    obtain ⟨p, d⟩ := x
    simp -implicitDefEqProofs only [go_sem, e1, e2, e3, e6, ea, eb, ec, y0, hx2]
    refine ⟨hU, Nat.le_refl _, ?_⟩
    simp only [encSet, List.take_succ_cons, List.take_zero, List.take_nil]
    with_reducible refine nwC_intro fun i5 hi5 => ?_
    simp -implicitDefEqProofs only [go_sem]
    replace hMd := hMd.put hi5 (.cells [.str p, .str d])
    have g5 := put_same G i5 (.cells [.str p, .str d])
    simp -implicitDefEqProofs only [go_sem, e1, e2, e3, e6, ea, eb, ec, g5]
    generalize G.put i5 (.cells [.str p, .str d]) = G6 at *
    obtain ⟨w, xa, xb, xc, xd, hM, gw⟩ := hMd.g3
    have hf3 := fit3_calls w ⟨3, .zero, ⟨p, d⟩, .zero⟩ xa xb xc xd i3 G6 gw hM ⟨(by decide : fileR FileV.zero), hxr, (by decide : svcR SvcV.zero)⟩
    unfold encChg at hf3
    refine hf3.mono ?_
    rintro x G7 ⟨rfl, n, ya, yb, yc, yd, hM2, rfl⟩
    simp -implicitDefEqProofs only [go_sem, e1, e2, e3, e6, ea, eb, ec, ws]
    exact Again.mk (k + 1) (by simp -implicitDefEqProofs only [go_sem, e1, e2, e3, e6, ea, eb]) ⟨by omega, hMd.set hM2⟩ (by omega)
  clear hMd q1 mn mt mk e1 e2 e3 e6
  rintro r G6 ⟨hMd, e1, e2, e3, e6⟩
  have q1 := hMd.g1
  unfold encMac at q1
  obtain ⟨q, hq1, hq2, mn⟩ : ∃ q : Nat, q ≤ m.svcs.length ∧ q ≤ 40 ∧ min (m.svcs.length : Int) 40 = (q : Int) := ⟨min m.svcs.length 40, by omega, by omega, by omega⟩
  have mt : ((q : Int)).toNat = q := by omega
  have mk : ((m.svcs.map encSvc).take q) = (m.svcs.take q).map encSvc := by rw [List.map_take]
  simp -implicitDefEqProofs only [go_sem, e1, e2, e3, e6, q1, mn, mt, mk]
  refine ⟨by first | exact fun _ _ => rfl | exact ⟨by omega, fun _ _ => rfl⟩ | exact ⟨by omega, by omega, fun _ _ => rfl⟩, ?_⟩
  with_reducible refine aloop_cut 6 (MadeQ H i1 i2 i3 (encMac m ta tb tc td) (encMac .zero .exact .exact .exact .exact)) ?_ ?_
  rotate_left
  · refine aloop_intro (σ := Nat) (fun k => [(1, .ptr i1 0), (2, .ptr i2 0), (3, .ptr i3 0), (6, .func 29 [.ptr i3 0]), (102, .sl ((m.svcs.take q).map encSvc) (cutTail none (some (Operand.tmp 101)) td)), (103, .int .i64 q), (104, .int .i64 k)])
      (fun k G => k ≤ q ∧ Made H i1 i2 i3 (encMac m ta tb tc td) (encMac .zero .exact .exact .exact .exact) G) (fun k => q - k) 0 ?_ ?_ ?_
    · have hql : (m.svcs.take q).length = q := by rw [List.length_take]; omega
      simp -implicitDefEqProofs only [go_sem, e1, e2, e3, e6, hql]
    · exact ⟨Nat.zero_le _, hMd⟩
    clear hMd q1 mn mt mk e1 e2 e3 e6
    rintro k r G hv ⟨hk, hMd⟩
    have e1 := hv.1
    have e2 := hv.2.1
    have e3 := hv.2.2.1
    have e6 := hv.2.2.2.1
    have ea := hv.2.2.2.2.1
    have eb := hv.2.2.2.2.2.1
    have ec := hv.2.2.2.2.2.2.1
    clear hv
    by_cases gk : k < q
    rotate_left
    · have y0 : decide ((k : Int) < q) = false := decide_eq_false (by omega)
      simp -implicitDefEqProofs only [go_sem, e1, e2, e3, e6, ea, eb, ec, y0]
      exact ⟨hMd, by simp -implicitDefEqProofs only [go_sem, e1], by simp -implicitDefEqProofs only [go_sem, e2], by simp -implicitDefEqProofs only [go_sem, e3], by simp -implicitDefEqProofs only [go_sem, e6]⟩
    have y0 : decide ((k : Int) < q) = true := decide_eq_true (by omega)
    obtain ⟨x, hx⟩ : ∃ x, m.svcs[k]? = some x := getD_get' (by omega)
    have hx2 : (m.svcs.take q)[k]? = some x := by rw [List.getElem?_take, if_pos gk]; exact hx
    have ws : IntKind.i64.wrap ((k : Int) + 1) = ((k + 1 : Nat) : Int) := by rw [Go.IntWalk.i64_in _ (by omega)]; omega
    have hU : ∀ (a : SvcV), a ∈ m.svcs.take q → (encSvc a).length = 4 := fun _ _ => rfl
    have hxr := r4 x (List.mem_of_getElem? hx)
    obtain ⟨p, d, au, on⟩ := x
    simp -implicitDefEqProofs only [go_sem, e1, e2, e3, e6, ea, eb, ec, y0, hx2]
    refine ⟨hU, Nat.le_refl _, ?_⟩
    simp only [encSvc, List.take_succ_cons, List.take_zero, List.take_nil]
    with_reducible refine nwC_intro fun i5 hi5 => ?_
    simp -implicitDefEqProofs only [go_sem]
    replace hMd := hMd.put hi5 (.cells [.str p, .str d, .bool au, .bool on])
    have g5 := put_same G i5 (.cells [.str p, .str d, .bool au, .bool on])
    simp -implicitDefEqProofs only [go_sem, e1, e2, e3, e6, ea, eb, ec, g5]
    generalize G.put i5 (.cells [.str p, .str d, .bool au, .bool on]) = G6 at *
    obtain ⟨w, xa, xb, xc, xd, hM, gw⟩ := hMd.g3
    have hf3 := fit3_calls w ⟨5, .zero, .zero, ⟨p, d, au, on⟩⟩ xa xb xc xd i3 G6 gw hM ⟨(by decide : fileR FileV.zero), (by decide : setR SetV.zero), hxr⟩
    unfold encChg at hf3
    refine hf3.mono ?_
    rintro x G7 ⟨rfl, n, ya, yb, yc, yd, hM2, rfl⟩
    simp -implicitDefEqProofs only [go_sem, e1, e2, e3, e6, ea, eb, ec, ws]
    exact Again.mk (k + 1) (by simp -implicitDefEqProofs only [go_sem, e1, e2, e3, e6, ea, eb]) ⟨by omega, hMd.set hM2⟩ (by omega)
  clear hMd q1 mn mt mk e1 e2 e3 e6
  rintro r G6 ⟨hMd, e1, e2, e3, e6⟩
  obtain ⟨n, xa, xb, xc, xd, hM, g3⟩ := hMd.g3
  have g2 := hMd.g2
  unfold encMac at g2 g3
  simp -implicitDefEqProofs only [go_sem, e1, e2, e3, g2, g3]
  exact Done.drop (hMd.sub.put' hMd.d.2.2.2.2.1 _) ⟨n, xa, xb, xc, xd, rfl, hM, rfl⟩
end Go.Proofs

/- What every law begins with. -/
namespace Go.Proofs
open Go Go.Abs
set_option linter.unusedSimpArgs false
set_option linter.unusedVariables false
set_option maxRecDepth 20000
theorem landed_calls (H : Heap) : ACalls Tryz.prog 4 [] H fun x H' => x = .bool true ∧ H' = H := by
  have hR : Room = 1099511627776 := rfl
  have hn : nameB [97] = true := by decide
  refine ACalls.of_code (X := { pure := puN }) puN_ok Tryz.func4 (by kernel_rfl) rfl (by kernel_rfl) (Nat.le_of_ble_eq_true rfl) ?_
  simp -implicitDefEqProofs only [go_sem, Tryz.f4, puN, sStr_eq, hR, hn]
  exact Done.now ⟨rfl, rfl⟩
end Go.Proofs

/- The law TextsMatch. -/
namespace Go.Proofs
open Go Go.Abs
set_option linter.unusedSimpArgs false
set_option linter.unusedVariables false
set_option maxRecDepth 20000
theorem linesT_bound {α : Type} {ln : α → Bytes} {k : Nat} : ∀ {l : List α}, (∀ x ∈ l, (ln x).length ≤ k) → (linesT ln l).length ≤ l.length * (k + 1)
  | [], _ => by simp [linesT]
  | x :: l, h => by
    have h1 := h x (List.mem_cons_self ..)
    have h2 := linesT_bound (l := l) fun y hy => h y (List.mem_cons_of_mem _ hy)
    have e : linesT ln (x :: l) = ln x ++ ([10] ++ linesT ln l) := by simp [linesT]
    rw [e]
    simp only [List.length_append, List.length_cons, List.length_nil, Nat.add_mul, Nat.one_mul]
    omega
theorem macText_len {m : MacV} (h : MacOK m) : (macText m).length ≤ 1000000000 := by
  have b1 : (linesT factLn m.facts).length ≤ m.facts.length * 5001 := linesT_bound fun x hx => by
    obtain ⟨p, q⟩ := factErr_ok (h.e1 x hx)
    have a := nameB_len p; have b := valueB_len q; have c := quoteB_len x.value
    simp only [factLn, wFact, List.length_append, List.length_cons, List.length_nil]
    omega
  have b2 : (linesT fileLn m.files).length ≤ m.files.length * 270001 := linesT_bound fun x hx => by
    obtain ⟨p, q⟩ := fileErr_ok (h.e2 x hx)
    have a := pathB_len p; have c := quoteB_len x.data
    have hw : (if x.runs = true then wRun else wFile).length ≤ 4 := by split <;> decide
    simp only [fileLn, List.length_append, List.length_cons, List.length_nil]
    omega
  have b3 : (linesT setLn m.sets).length ≤ m.sets.length * 5001 := linesT_bound fun x hx => by
    obtain ⟨p, q⟩ := setErr_ok (h.e3 x hx)
    have a := pathB_len p; have b := valueB_len q; have c := quoteB_len x.value
    simp only [setLn, wSet, List.length_append, List.length_cons, List.length_nil]
    omega
  have b4 : (linesT svcLn m.svcs).length ≤ m.svcs.length * 5001 := linesT_bound fun x hx => by
    obtain ⟨p, q⟩ := svcErr_ok (h.e4 x hx)
    have a := nameB_len p; have b := pathB_len q; have c := bitV_len x.auto; have d := bitV_len x.on
    simp only [svcLn, svcLine, wService, List.length_append, List.length_cons, List.length_nil]
    omega
  have := h.l1; have := h.l2; have := h.l3; have := h.l4
  have e : (macText m).length = (linesT factLn m.facts).length + (linesT fileLn m.files).length + (linesT setLn m.sets).length + (linesT svcLn m.svcs).length := by simp [macText]; omega
  omega
end Go.Proofs

/- Walks: sizes, sums and booting of a machine; Same on the program's side. -/
namespace Go.Proofs
open Go Go.Abs
set_option linter.unusedSimpArgs false
set_option linter.unusedVariables false
set_option maxRecDepth 20000
set_option maxHeartbeats 1600000 in
theorem dSame_calls (m n : MacV) (a b c d a' b' c' d' : Tail) (H : Heap) (hr : macR m) : ACalls Tryz.prog 7 [.agg (encMac m a b c d), .agg (encMac n a' b' c' d')] H fun x H' => x = .bool (decide (m = n)) ∧ H' = H := by
  obtain ⟨⟨l1, l2, l3, l4⟩, _⟩ := hr
  have hS := Heap.Sub.rfl' H
  have q1 := sEqL_eq decSet_enc m.facts n.facts a a' l1
  have q2 := sEqL_eq decFile_enc m.files n.files b b' l2
  have q3 := sEqL_eq decSet_enc m.sets n.sets c c' l3
  have q4 := sEqL_eq decSvc_enc m.svcs n.svcs d d' l4
  have hd : decide (m = n) = (decide (m.facts = n.facts) && (decide (m.files = n.files) && (decide (m.sets = n.sets) && decide (m.svcs = n.svcs)))) := by
    obtain ⟨x1, x2, x3, x4⟩ := m
    obtain ⟨y1, y2, y3, y4⟩ := n
    rw [Bool.eq_iff_iff]
    simp
  rw [hd]
  clear hd
  generalize decide (m.facts = n.facts) = e1 at *
  generalize decide (m.files = n.files) = e2 at *
  generalize decide (m.sets = n.sets) = e3 at *
  generalize decide (m.svcs = n.svcs) = e4 at *
  refine ACalls.of_code (X := { pure := puM9 }) puM9_ok Tryz.func7 (by kernel_rfl) rfl (by kernel_rfl) (Nat.le_of_ble_eq_true rfl) ?_
  simp -implicitDefEqProofs only [go_sem, Tryz.f7, encMac]
  with_reducible refine nwC_intro fun i2 hi2 => ?_
  generalize E2 : Heap.put H i2 _ = G2
  have hO_2 := obj_new E2 hi2 hS
  have n2 := hO_2.1
  have hS := hO_2.2.1
  have g2 := hO_2.2.2.1
  clear hO_2
  simp -implicitDefEqProofs only [go_sem]
  with_reducible refine nwC_intro fun i3 hi3 => ?_
  generalize E3 : Heap.put G2 i3 _ = G3
  have hO_3 := obj_new E3 hi3 hS
  have n3 := hO_3.1
  have hS := hO_3.2.1
  have g3 := hO_3.2.2.1
  have d2_3 := obj_ne g2 hi3
  have g2 := hO_3.2.2.2 _ _ g2
  clear hO_3
  cases e1 <;> cases e2 <;> cases e3 <;> cases e4
  all_goals
    simp -implicitDefEqProofs only [go_sem, g2, g3, puM9, pu0, q1, q2, q3, q4]
    exact Done.drop hS ⟨rfl, rfl⟩
/-- The bytes of files. -/
def sizeV (l : List FileV) : Nat := (l.map (·.data.length)).sum
theorem sizeV_take {l : List FileV} {i : Nat} {x : FileV} (h : l[i]? = some x) : sizeV (l.take (i + 1)) = sizeV (l.take i) + x.data.length := by
  unfold sizeV
  rw [List.take_add_one, h]
  simp
theorem sizeV_le {l : List FileV} (h : ∀ x ∈ l, x.data.length ≤ 65536) : sizeV l ≤ l.length * 65536 := by
  induction l with
  | nil => simp [sizeV]
  | cons x l ih =>
    have h1 := h x (by simp)
    have h2 := ih fun y hy => h y (List.mem_cons_of_mem _ hy)
    unfold sizeV at h2 ⊢
    rw [List.map_cons, List.sum_cons, List.length_cons]
    omega
theorem sizeV_mac {m : MacV} (h : MacOK m) (i : Nat) : sizeV (m.files.take i) ≤ 131072000 := by
  have h1 := sizeV_le (l := m.files.take i) fun x hx => (fileErr_ok (h.e2 x (List.mem_of_mem_take hx))).2
  have h2 := h.l2
  have h3 : (m.files.take i).length ≤ 2000 := by rw [List.length_take]; omega
  have : (m.files.take i).length * 65536 ≤ 2000 * 65536 := Nat.mul_le_mul_right _ h3
  omega
set_option maxHeartbeats 1600000 in
theorem size_calls (m : MacV) (ta tb tc td : Tail) (H : Heap) (hM : MacOK m) :
    ACalls Tryz.prog 13 [.agg (encMac m ta tb tc td)] H fun x H' => x = .tup [.int .i64 (sizeV m.files), .int .i64 0] ∧ H' = H := by
  have hS := Heap.Sub.rfl' H
  have hck := fun G => check_calls m ta tb tc td G hM.R
  rw [(macErr_ok m).2 hM] at hck
  have z1 : decide (¬ (0 : Int) = 0) = false := rfl
  have hl2 := hM.l2
  unfold encMac at hck
  refine ACalls.of_code (X := { pure := pu0 }) pu0_ok Tryz.func13 (by kernel_rfl) rfl (by kernel_rfl) (Nat.le_of_ble_eq_true rfl) ?_
  simp -implicitDefEqProofs only [go_sem, Tryz.f13, encMac]
  with_reducible refine nwC_intro fun i1 hi1 => ?_
  generalize E1 : Heap.put H i1 _ = G1
  have hO_1 := obj_new E1 hi1 hS
  have n1 := hO_1.1
  have hS := hO_1.2.1
  have g1 := hO_1.2.2.1
  clear hO_1
  simp -implicitDefEqProofs only [go_sem, g1]
  refine (hck G1).pure_next _ ?_
  simp -implicitDefEqProofs only [go_sem, z1, g1]
  refine aloop_intro (σ := Nat) (fun i => [(5, .int .i64 (sizeV (m.files.take i))), (14, .sl (m.files.map encFile) tb), (15, .int .i64 m.files.length), (16, .int .i64 i)])
    (fun i G => H.Sub G ∧ i ≤ m.files.length) (fun i => m.files.length - i) 0 ?_ ?_ ?_
  · simp -implicitDefEqProofs only [go_sem, List.take_zero]
    exact rfl
  · exact ⟨hS, Nat.zero_le _⟩
  clear hS g1 E1
  rintro i r G hv ⟨hS, hi⟩
  have e5 := hv.1
  have e14 := hv.2.1
  have e15 := hv.2.2.1
  have e16 := hv.2.2.2.1
  clear hv
  by_cases g : i < m.files.length
  rotate_left
  · have y0 : decide ((i : Int) < m.files.length) = false := decide_eq_false (by omega)
    obtain rfl : i = m.files.length := by omega
    rw [List.take_length] at e5
    simp -implicitDefEqProofs only [go_sem, e5, e14, e15, e16, y0]
    exact Done.drop hS ⟨rfl, rfl⟩
  have y0 : decide ((i : Int) < m.files.length) = true := decide_eq_true (by omega)
  obtain ⟨x, hx⟩ : ∃ x, m.files[i]? = some x := getD_get' g
  have ws : IntKind.i64.wrap ((i : Int) + 1) = ((i + 1 : Nat) : Int) := by rw [Go.IntWalk.i64_in _ (by omega)]; omega
  have h1 := sizeV_take hx
  have h2 := sizeV_mac hM (i + 1)
  have wl : IntKind.i64.wrap ((sizeV (m.files.take i) : Int) + (x.data.length : Int)) = ((sizeV (m.files.take (i + 1)) : Nat) : Int) := by rw [Go.IntWalk.i64_in _ (by omega)]; omega
  have hU : ∀ (a : FileV), a ∈ m.files → (encFile a).length = 3 := fun _ _ => rfl
  obtain ⟨p, dt, ru⟩ := x
  simp only at wl
  simp -implicitDefEqProofs only [go_sem, e5, e14, e15, e16, y0, hx]
  refine ⟨hU, Nat.le_refl _, ?_⟩
  simp only [encFile, List.take_succ_cons, List.take_zero, List.take_nil]
  with_reducible refine nwC_intro fun i5 hi5 => ?_
  simp -implicitDefEqProofs only [go_sem, e5, e14, e15, e16, wl, ws]
  exact Again.mk (i + 1) (by simp -implicitDefEqProofs only [go_sem, e14, e15]) ⟨hS.put' (sub_none hS hi5) _, by omega⟩ (by omega)
theorem sum_calls (m : MacV) (ta tb tc td : Tail) (H : Heap) (hM : MacOK m) :
    ACalls Tryz.prog 12 [.agg (encMac m ta tb tc td)] H fun x H' => x = (if 4194304 < (macText m).length then .tup [.str [], .int .i64 4] else .tup [.str (sumOf (macText m)), .int .i64 0]) ∧ H' = H := by
  have hS := Heap.Sub.rfl' H
  have hml := macText_len hM
  have kp := fun G => print_calls m ta tb tc td G hM.R (by omega)
  have hpv := printA.eq_1 m
  rw [if_neg (by simp [(macErr_ok m).2 hM])] at hpv
  rw [hpv] at kp
  have ks := fun G => sumOf_calls (macText m) G (by show _ ≤ 1099511627776; omega)
  unfold encMac at kp
  refine ACalls.of_code (X := { pure := pu0 }) pu0_ok Tryz.func12 (by kernel_rfl) rfl (by kernel_rfl) (Nat.le_of_ble_eq_true rfl) ?_
  simp -implicitDefEqProofs only [go_sem, Tryz.f12, encMac]
  with_reducible refine nwC_intro fun i1 hi1 => ?_
  generalize E1 : Heap.put H i1 _ = G1
  have hO_1 := obj_new E1 hi1 hS
  have n1 := hO_1.1
  have hS := hO_1.2.1
  have g1 := hO_1.2.2.1
  clear hO_1
  simp -implicitDefEqProofs only [go_sem, g1]
  refine (kp G1).pure_next _ ?_
  by_cases h1 : 4194304 < (macText m).length
  · rw [if_pos h1, if_pos h1]
    have z1 : decide (¬ (4 : Int) = 0) = true := rfl
    simp -implicitDefEqProofs only [go_sem, z1]
    exact Done.drop hS ⟨rfl, rfl⟩
  · rw [if_neg h1, if_neg h1]
    have z1 : decide (¬ (0 : Int) = 0) = false := rfl
    simp -implicitDefEqProofs only [go_sem, z1]
    refine (ks G1).pure_next _ ?_
    simp -implicitDefEqProofs only [go_sem]
    exact Done.drop hS ⟨rfl, rfl⟩
theorem dBoot_calls (m : MacV) (ta tb tc td : Tail) (H : Heap) (hM : MacOK m) :
    ACalls Tryz.prog 14 [.agg (encMac m ta tb tc td)] H fun x H' => x = .tup [.agg (encMac (bootV m) .unk .unk .unk .unk), .int .i64 0] ∧ H' = H := by
  have hS := Heap.Sub.rfl' H
  have hck := fun G => check_calls m ta tb tc td G hM.R
  rw [(macErr_ok m).2 hM] at hck
  have kb := fun G => bootP_calls m ta tb tc td G hM.R
  have z1 : decide (¬ (0 : Int) = 0) = false := rfl
  unfold encMac at hck kb
  refine ACalls.of_code (X := { pure := pu0 }) pu0_ok Tryz.func14 (by kernel_rfl) rfl (by kernel_rfl) (Nat.le_of_ble_eq_true rfl) ?_
  simp -implicitDefEqProofs only [go_sem, Tryz.f14, encMac]
  with_reducible refine nwC_intro fun i1 hi1 => ?_
  generalize E1 : Heap.put H i1 _ = G1
  have hO_1 := obj_new E1 hi1 hS
  have n1 := hO_1.1
  have hS := hO_1.2.1
  have g1 := hO_1.2.2.1
  clear hO_1
  simp -implicitDefEqProofs only [go_sem]
  with_reducible refine nwC_intro fun i2 hi2 => ?_
  generalize E2 : Heap.put G1 i2 _ = G2
  have hO_2 := obj_new E2 hi2 hS
  have n2 := hO_2.1
  have hS := hO_2.2.1
  have g2 := hO_2.2.2.1
  have d1_2 := obj_ne g1 hi2
  have g1 := hO_2.2.2.2 _ _ g1
  clear hO_2
  simp -implicitDefEqProofs only [go_sem, g1]
  refine (hck G2).pure_next _ ?_
  simp -implicitDefEqProofs only [go_sem, z1, g1]
  refine (kb G2).pure_next _ ?_
  simp -implicitDefEqProofs only [go_sem, g2, put_same]
  exact Done.drop (hS.put' n2 _) ⟨rfl, rfl⟩
end Go.Proofs
