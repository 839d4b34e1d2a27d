/-
  Walks and plain laws, part 6.
-/
import Derived.Test.YtfippeedjajnkaaGreatDoorM5
import Derived.Test.YtfippeedjajnkaaGreatDoorM3
import Derived.Test.YtfippeedjajnkaaGreatDoorM1
import Derived.Test.YtfippeedjajnkaaGreatDoorM2
/- Walks: one change of a machine of maps, on the reference's side. -/
namespace Go.Proofs
open Go Go.Abs
open Nat (reduceEqDiff reduceAdd reduceLeDiff reduceLT reduceMul)
open Int (reduceEq reduceLE reduceSub reduceToNat)
set_option linter.unusedSimpArgs false
set_option linter.unusedVariables false
set_option maxRecDepth 20000
theorem preB_under (p d : Bytes) : preB (d ++ [47]) p = underB p d := by
  unfold preB underB
  rw [Bool.eq_iff_iff, decide_eq_true_eq, List.isPrefixOf_iff_prefix, List.prefix_iff_eq_take]
  exact ⟨fun h => h.symm, fun h => h.symm⟩
theorem under_calls (p d : Bytes) (H : Heap) (hp : p.length ≤ 1099511627776) (hd : d.length ≤ 1099511627776) : ACalls Tryz.prog 123 [.str p, .str d] H fun x H' => x = .bool (underB p d) ∧ H' = H := by
  refine ACalls.of_code (X := { pure := puS3 }) puS3_ok Tryz.func123 (by kernel_rfl) rfl (by kernel_rfl) (Nat.le_of_ble_eq_true rfl) ?_
  simp -implicitDefEqProofs (disch := (first | omega | (simp only [List.length_append, List.length_cons, List.length_nil]; omega))) only [go_sem, binS_addD, reduceEqDiff, reduceAdd, reduceLeDiff, reduceLT, reduceMul, reduceEq, Int.reduceLT, reduceLE, Int.reduceAdd, reduceSub, reduceToNat, UInt8.reduceToNat, Go.IntWalk.i64_in, Tryz.f123, puS3, sPre_eq]
  exact Done.now ⟨by rw [preB_under], rfl⟩
noncomputable def sUnder := spF (fun p : Bytes × Bytes => [AV.str p.1, AV.str p.2]) (fun p => p.1.length ≤ 1099511627776 ∧ p.2.length ≤ 1099511627776) fun p => .bool (underB p.1 p.2)
theorem sUnder_eq (p d : Bytes) (hp : p.length ≤ 1099511627776) (hd : d.length ≤ 1099511627776) : sUnder [.str p, .str d] = some (.bool (underB p d)) := spF_eq (enc := fun p : Bytes × Bytes => [AV.str p.1, AV.str p.2]) (fun a b e => by
  obtain ⟨a1, a2⟩ := a
  obtain ⟨b1, b2⟩ := b
  cases e; rfl) (p, d) ⟨hp, hd⟩
noncomputable def puU : Pures := putP 123 sUnder pu0
theorem puU_dyn : isDyn puU = false := by simp only [puU, go_sem, Nat.reduceEqDiff]
attribute [go_sem] puU_dyn
theorem puU_ok : PuOK Tryz.prog puU := .put (pu0_ok) (spF_ok fun p H h => under_calls p.1 p.2 H h.1 h.2)
def RWM (H G : Heap) (iw i1 i2 i3 : Nat) (ta : Tail) (m : MacV) : Prop := RW H G iw i1 i2 i3 (m.facts.map encSet) ta m.files m.sets m.svcs
def DoR (H : Heap) (iw i1 i2 i3 : Nat) (ta : Tail) (m : MacV) (d : Except Int MacV) (x : AV) (G : Heap) : Prop := match d with
  | .ok n => x = .int .i64 0 ∧ RWM H G iw i1 i2 i3 ta n
  | .error e => x = .int .i64 e ∧ RWM H G iw i1 i2 i3 ta m
theorem RW.mono {H G G' : Heap} {iw i1 i2 i3 : Nat} {fs : List (List AV)} {ta : Tail} {lf : List FileV} {ls : List SetV} {lv : List SvcV} (h : RW H G iw i1 i2 i3 fs ta lf ls lv) (hs : G.Sub G') : RW H G' iw i1 i2 i3 fs ta lf ls lv := by
  obtain ⟨a, b, c, d, e, f, g, ⟨e1, h1, k1⟩, ⟨e2, h2, k2⟩, ⟨e3, h3, k3⟩⟩ := h
  exact ⟨fun i o hi => hs _ _ (a i o hi), b, c, d, e, f, hs _ _ g, ⟨e1, hs _ _ h1, k1⟩, ⟨e2, hs _ _ h2, k2⟩, ⟨e3, hs _ _ h3, k3⟩⟩
theorem sub_back {G1 G : Heap} {m : Nat} {o : AObj} (g1 : G1 m = some o) (h : ∀ i p, G1 i = some p → ¬ i = m → G i = some p) : G1.Sub (G.put m o) := fun i p hi => by
  by_cases e : i = m
  · subst e; rw [g1] at hi; cases hi; exact put_same _ _ _
  · rw [put_ne _ _ _ _ e]; exact h i p hi e
/-- Behind the look for conflicts. -/
def DoQ (G1 : Heap) (iw ic : Nat) (c : Prop) (r : Regs) (G : Heap) : Prop := G1.Sub G ∧ c ∧ r 0 = .ptr iw 0 ∧ r 3 = .ptr ic 0
set_option maxHeartbeats 6400000 in
theorem rDo_calls {H G : Heap} {iw i1 i2 i3 : Nat} {ta : Tail} {m : MacV} {c : ChgV} (hR : RWM H G iw i1 i2 i3 ta m) (hr : macR m) (hc : chgR c) :
    ACalls Tryz.prog 90 [.ptr iw 0, .agg (encChg c)] G (DoR H iw i1 i2 i3 ta m (doV m c)) := by
  obtain ⟨⟨l1, l2, l3, l4⟩, r1, r2, r3, r4⟩ := hr
  have hv := doV.eq_1 m c
  generalize doV m c = dv at *
  have hb := hc.1.1
  refine ACalls.of_code (X := { pure := puU }) puU_ok Tryz.func90 (by kernel_rfl) rfl (by kernel_rfl) (Nat.le_of_ble_eq_true rfl) ?_
  simp -implicitDefEqProofs only [go_sem, reduceEqDiff, reduceAdd, reduceLeDiff, reduceLT, reduceMul, reduceEq, Int.reduceLT, reduceLE, Int.reduceAdd, reduceSub, reduceToNat, UInt8.reduceToNat, Tryz.f90, encChg, puU]
  with_reducible refine nwC_intro fun ic hic => ?_
  have hR1 : RWM H (G.put ic (.cells (encChg c))) iw i1 i2 i3 ta m := hR.put hic _
  have gc := put_same G ic (.cells (encChg c))
  unfold encChg at hR1 gc
  simp -implicitDefEqProofs only [go_sem, reduceEqDiff, reduceAdd, reduceLeDiff, reduceLT, reduceMul, reduceEq, Int.reduceLT, reduceLE, Int.reduceAdd, reduceSub, reduceToNat, UInt8.reduceToNat, puU]
  generalize G.put ic _ = G1 at *
  clear hic
  have hce := rChangeError_calls c G1 hc
  unfold encChg at hce
  refine hce.pure_next _ ?_
  by_cases c0 : chgErr c = 0
  rotate_left
  · have y0 : decide (¬ chgErr c = 0) = true := decide_eq_true c0
    rw [if_pos c0] at hv
    subst hv
    simp -implicitDefEqProofs only [go_sem, reduceEqDiff, reduceAdd, reduceLeDiff, reduceLT, reduceMul, reduceEq, Int.reduceLT, reduceLE, Int.reduceAdd, reduceSub, reduceToNat, UInt8.reduceToNat, y0]
    exact Done.now ⟨rfl, hR1⟩
  have y0 : decide (¬ chgErr c = 0) = false := decide_eq_false (by simpa using c0)
  rw [if_neg (by simpa using c0)] at hv
  have kw := hR1.w
  have gp : ∀ i, G1 i = none → ¬ ic = i := fun i hi e => by rw [e, hi] at gc; cases gc
  obtain ⟨es1, g1, m1⟩ := hR1.f
  obtain ⟨es2, g2, m2⟩ := hR1.s
  obtain ⟨es3, g3, m3⟩ := hR1.v
  have hg1 := m1.get c.file.path
  have hg2 := m2.get c.set.key
  have hg3 := m3.get c.svc.name
  by_cases k2 : c.kind = 2
  · have y2 : decide (c.kind = 2) = true := decide_eq_true k2
    rw [if_pos k2] at hv
    cases hk : getK (·.path) c.file.path m.files with
    | none =>
      rw [hk] at hg1 hv
      simp only [Option.map_none] at hg1
      rw [if_neg (by simp)] at hv
      subst hv
      simp -implicitDefEqProofs only [go_sem, reduceEqDiff, reduceAdd, reduceLeDiff, reduceLT, reduceMul, reduceEq, Int.reduceLT, reduceLE, Int.reduceAdd, reduceSub, reduceToNat, UInt8.reduceToNat, y0, y2, gc, kw, g1, hg1]
      with_reducible refine nwC_intro fun i6 hi6 => ?_
      have hR2 : RWM H (G1.put i6 (.cells ([.str [], .str [], .bool false]))) iw i1 i2 i3 ta m := hR1.put hi6 _
      have gc2 : (G1.put i6 (.cells ([.str [], .str [], .bool false]))) ic = some (.cells (encChg c)) := by rw [put_ne _ _ _ _ (gp _ hi6)]; exact gc
      unfold encChg at gc2
      have g6 := put_same G1 i6 (.cells ([.str [], .str [], .bool false]))
      try simp -implicitDefEqProofs only [go_sem, reduceEqDiff, reduceAdd, reduceLeDiff, reduceLT, reduceMul, reduceEq, Int.reduceLT, reduceLE, Int.reduceAdd, reduceSub, reduceToNat, UInt8.reduceToNat]
      generalize G1.put i6 _ = G2 at *
      have kw2 := hR2.w
      obtain ⟨es, k1, mm⟩ := hR2.f
      try simp -implicitDefEqProofs only [go_sem, reduceEqDiff, reduceAdd, reduceLeDiff, reduceLT, reduceMul, reduceEq, Int.reduceLT, reduceLE, Int.reduceAdd, reduceSub, reduceToNat, UInt8.reduceToNat, gc2, kw2, k1, g6]
      exact Done.now ⟨rfl, hR2⟩
    | some f =>
      rw [hk] at hg1 hv
      simp only [Option.map_some] at hg1
      unfold encFile at hg1
      rw [if_pos (by simp)] at hv
      subst hv
      simp -implicitDefEqProofs only [go_sem, reduceEqDiff, reduceAdd, reduceLeDiff, reduceLT, reduceMul, reduceEq, Int.reduceLT, reduceLE, Int.reduceAdd, reduceSub, reduceToNat, UInt8.reduceToNat, y0, y2, gc, kw, g1, hg1]
      with_reducible refine nwC_intro fun i6 hi6 => ?_
      have hR2 : RWM H (G1.put i6 (.cells (encFile f))) iw i1 i2 i3 ta m := hR1.put hi6 _
      have gc2 : (G1.put i6 (.cells (encFile f))) ic = some (.cells (encChg c)) := by rw [put_ne _ _ _ _ (gp _ hi6)]; exact gc
      unfold encChg at gc2
      have g6 := put_same G1 i6 (.cells (encFile f))
      unfold encFile at hR2 gc2 g6
      try simp -implicitDefEqProofs only [go_sem, reduceEqDiff, reduceAdd, reduceLeDiff, reduceLT, reduceMul, reduceEq, Int.reduceLT, reduceLE, Int.reduceAdd, reduceSub, reduceToNat, UInt8.reduceToNat]
      generalize G1.put i6 _ = G2 at *
      have kw2 := hR2.w
      obtain ⟨es, k1, mm⟩ := hR2.f
      simp -implicitDefEqProofs only [go_sem, reduceEqDiff, reduceAdd, reduceLeDiff, reduceLT, reduceMul, reduceEq, Int.reduceLT, reduceLE, Int.reduceAdd, reduceSub, reduceToNat, UInt8.reduceToNat, gc2, kw2, k1, g6]
      exact Done.now ⟨rfl, hR2.setF (mm.del _)⟩
  have y2 : decide (c.kind = 2) = false := decide_eq_false k2
  rw [if_neg k2] at hv
  by_cases k4 : c.kind = 4
  · have y4 : decide (c.kind = 4) = true := decide_eq_true k4
    rw [if_pos k4] at hv
    cases hk : getK (·.key) c.set.key m.sets with
    | none =>
      rw [hk] at hg2 hv
      simp only [Option.map_none] at hg2
      rw [if_neg (by simp)] at hv
      subst hv
      have hR2 := hR1
      obtain ⟨es, k1, mm⟩ := hR2.s
      have kw2 := kw
      have gc2 := gc
      obtain rfl : es = es2 := by rw [k1] at g2; cases g2; rfl
      try simp -implicitDefEqProofs only [go_sem, reduceEqDiff, reduceAdd, reduceLeDiff, reduceLT, reduceMul, reduceEq, Int.reduceLT, reduceLE, Int.reduceAdd, reduceSub, reduceToNat, UInt8.reduceToNat, y0, y2, y4, gc2, kw2, k1, hg2]
      exact Done.now ⟨rfl, hR2⟩
    | some f =>
      rw [hk] at hg2 hv
      simp only [Option.map_some] at hg2
      rw [if_pos (by simp)] at hv
      subst hv
      have hR2 := hR1
      obtain ⟨es, k1, mm⟩ := hR2.s
      have kw2 := kw
      have gc2 := gc
      obtain rfl : es = es2 := by rw [k1] at g2; cases g2; rfl
      simp -implicitDefEqProofs only [go_sem, reduceEqDiff, reduceAdd, reduceLeDiff, reduceLT, reduceMul, reduceEq, Int.reduceLT, reduceLE, Int.reduceAdd, reduceSub, reduceToNat, UInt8.reduceToNat, y0, y2, y4, gc2, kw2, k1, hg2]
      exact Done.now ⟨rfl, hR2.setS (mm.del _)⟩
  have y4 : decide (c.kind = 4) = false := decide_eq_false k4
  rw [if_neg k4] at hv
  by_cases k6 : c.kind = 6
  · have y6 : decide (c.kind = 6) = true := decide_eq_true k6
    rw [if_pos k6] at hv
    cases hk : getK (·.name) c.svc.name m.svcs with
    | none =>
      rw [hk] at hg3 hv
      simp only [Option.map_none] at hg3
      rw [if_neg (by simp)] at hv
      subst hv
      simp -implicitDefEqProofs only [go_sem, reduceEqDiff, reduceAdd, reduceLeDiff, reduceLT, reduceMul, reduceEq, Int.reduceLT, reduceLE, Int.reduceAdd, reduceSub, reduceToNat, UInt8.reduceToNat, y0, y2, y4, y6, gc, kw, g3, hg3]
      with_reducible refine nwC_intro fun i6 hi6 => ?_
      have hR2 : RWM H (G1.put i6 (.cells ([.str [], .str [], .bool false, .bool false]))) iw i1 i2 i3 ta m := hR1.put hi6 _
      have gc2 : (G1.put i6 (.cells ([.str [], .str [], .bool false, .bool false]))) ic = some (.cells (encChg c)) := by rw [put_ne _ _ _ _ (gp _ hi6)]; exact gc
      unfold encChg at gc2
      have g6 := put_same G1 i6 (.cells ([.str [], .str [], .bool false, .bool false]))
      try simp -implicitDefEqProofs only [go_sem, reduceEqDiff, reduceAdd, reduceLeDiff, reduceLT, reduceMul, reduceEq, Int.reduceLT, reduceLE, Int.reduceAdd, reduceSub, reduceToNat, UInt8.reduceToNat]
      generalize G1.put i6 _ = G2 at *
      have kw2 := hR2.w
      obtain ⟨es, k1, mm⟩ := hR2.v
      try simp -implicitDefEqProofs only [go_sem, reduceEqDiff, reduceAdd, reduceLeDiff, reduceLT, reduceMul, reduceEq, Int.reduceLT, reduceLE, Int.reduceAdd, reduceSub, reduceToNat, UInt8.reduceToNat, gc2, kw2, k1, g6]
      exact Done.now ⟨rfl, hR2⟩
    | some f =>
      rw [hk] at hg3 hv
      simp only [Option.map_some] at hg3
      unfold encSvc at hg3
      rw [if_pos (by simp)] at hv
      subst hv
      simp -implicitDefEqProofs only [go_sem, reduceEqDiff, reduceAdd, reduceLeDiff, reduceLT, reduceMul, reduceEq, Int.reduceLT, reduceLE, Int.reduceAdd, reduceSub, reduceToNat, UInt8.reduceToNat, y0, y2, y4, y6, gc, kw, g3, hg3]
      with_reducible refine nwC_intro fun i6 hi6 => ?_
      have hR2 : RWM H (G1.put i6 (.cells (encSvc f))) iw i1 i2 i3 ta m := hR1.put hi6 _
      have gc2 : (G1.put i6 (.cells (encSvc f))) ic = some (.cells (encChg c)) := by rw [put_ne _ _ _ _ (gp _ hi6)]; exact gc
      unfold encChg at gc2
      have g6 := put_same G1 i6 (.cells (encSvc f))
      unfold encSvc at hR2 gc2 g6
      try simp -implicitDefEqProofs only [go_sem, reduceEqDiff, reduceAdd, reduceLeDiff, reduceLT, reduceMul, reduceEq, Int.reduceLT, reduceLE, Int.reduceAdd, reduceSub, reduceToNat, UInt8.reduceToNat]
      generalize G1.put i6 _ = G2 at *
      have kw2 := hR2.w
      obtain ⟨es, k1, mm⟩ := hR2.v
      simp -implicitDefEqProofs only [go_sem, reduceEqDiff, reduceAdd, reduceLeDiff, reduceLT, reduceMul, reduceEq, Int.reduceLT, reduceLE, Int.reduceAdd, reduceSub, reduceToNat, UInt8.reduceToNat, gc2, kw2, k1, g6]
      exact Done.now ⟨rfl, hR2.setV (mm.del _)⟩
  have y6 : decide (c.kind = 6) = false := decide_eq_false k6
  rw [if_neg k6] at hv
  by_cases k1 : c.kind = 1
  · have y1 : decide (c.kind = 1) = true := decide_eq_true k1
    rw [if_pos k1] at hv
    have hcv := conflictV.eq_1 m.files c.file.path
    have hp1 : c.file.path.length ≤ 1099511627776 := hb
    simp -implicitDefEqProofs only [go_sem, reduceEqDiff, reduceAdd, reduceLeDiff, reduceLT, reduceMul, reduceEq, Int.reduceLT, reduceLE, Int.reduceAdd, reduceSub, reduceToNat, UInt8.reduceToNat, y0, y2, y4, y6, y1, gc, kw, g1]
    refine range_intro ⟨_, _, by simp -implicitDefEqProofs only [go_sem, reduceEqDiff, reduceAdd, reduceLeDiff, reduceLT, reduceMul, reduceEq, Int.reduceLT, reduceLE, Int.reduceAdd, reduceSub, reduceToNat, UInt8.reduceToNat]; rfl⟩ g1 fun bs cl it hbl hn _ hit => ?_
    have dm : ¬ i1 = it := fun e => by rw [e, hit] at g1; cases g1
    have q1 : ((G1.put i1 (.bmap .str es1 bs cl)).put it (.iter (some i1) cl [])) it = some (.iter (some i1) cl []) := put_same _ _ _
    have q2 : ((G1.put i1 (.bmap .str es1 bs cl)).put it (.iter (some i1) cl [])) i1 = some (.bmap .str es1 bs cl) := by rw [put_ne _ _ _ _ dm, put_same]
    have q3 : ∀ i o, G1 i = some o → ¬ i = i1 → ((G1.put i1 (.bmap .str es1 bs cl)).put it (.iter (some i1) cl [])) i = some o := fun i o hi h => by
      rw [put_ne _ _ _ _ (obj_ne hi hit), put_ne _ _ _ _ h]; exact hi
    have dc : ¬ ic = i1 := fun e => by rw [e, g1] at gc; cases gc
    have dni : ¬ ic = it := fun e => by rw [e, hit] at gc; cases gc
    simp -implicitDefEqProofs only [go_sem, reduceEqDiff, reduceAdd, reduceLeDiff, reduceLT, reduceMul, reduceEq, Int.reduceLT, reduceLE, Int.reduceAdd, reduceSub, reduceToNat, UInt8.reduceToNat]
    generalize (G1.put i1 (.bmap .str es1 bs cl)).put it (.iter (some i1) cl []) = G0 at *
    with_reducible refine aloop_cut 1 (DoQ G1 iw ic (conflictV m.files c.file.path = false)) ?_ ?_
    rotate_left
    · refine aloop_intro (σ := List Nat × List Nat × List Bytes) (fun t => [(0, .ptr iw 0), (3, .ptr ic 0), (128, .ptr it 0)])
        (fun t G => SeenK es1 bs t.1 t.2.1 t.2.2 ∧ (∀ k ∈ t.2.2, underB k c.file.path = false ∧ underB c.file.path k = false) ∧ G it = some (.iter (some i1) cl t.2.1) ∧ G i1 = some (.bmap .str es1 bs cl) ∧ (∀ i o, G1 i = some o → ¬ i = i1 → G i = some o)) (fun t => es1.length - t.1.length) ([], [], []) ?_ ?_ ?_
      · simp -implicitDefEqProofs only [go_sem, reduceEqDiff, reduceAdd, reduceLeDiff, reduceLT, reduceMul, reduceEq, Int.reduceLT, reduceLE, Int.reduceAdd, reduceSub, reduceToNat, UInt8.reduceToNat]
      · exact ⟨SeenK.nil _ _, by simp, q1, q2, q3⟩
      clear q1 q2 q3
      rintro ⟨js, seen, ks⟩ r G hv2 ⟨hS, hno, q1, q2, q3⟩
      have h0 := hv2.1
      have h3 := hv2.2.1
      have h6 := hv2.2.2.1
      clear hv2
      simp only at h0 h3 h6 hS hno q1 q2
      simp -implicitDefEqProofs only [go_sem, reduceEqDiff, reduceAdd, reduceLeDiff, reduceLT, reduceMul, reduceEq, Int.reduceLT, reduceLE, Int.reduceAdd, reduceSub, reduceToNat, UInt8.reduceToNat, h0, h3, h6]
      refine next_intro2 q1 q2 (fun j k v b hj hbj hsn => ?_) (fun ha => ?_)
      rotate_left
      · simp -implicitDefEqProofs only [go_sem, reduceEqDiff, reduceAdd, reduceLeDiff, reduceLT, reduceMul, reduceEq, Int.reduceLT, reduceLE, Int.reduceAdd, reduceSub, reduceToNat, UInt8.reduceToNat, h0, h3, h6]
        refine ⟨sub_back g1 q3, ?_, by simp -implicitDefEqProofs only [go_sem, reduceEqDiff, reduceAdd, reduceLeDiff, reduceLT, reduceMul, reduceEq, Int.reduceLT, reduceLE, Int.reduceAdd, reduceSub, reduceToNat, UInt8.reduceToNat, h0], by simp -implicitDefEqProofs only [go_sem, reduceEqDiff, reduceAdd, reduceLeDiff, reduceLT, reduceMul, reduceEq, Int.reduceLT, reduceLE, Int.reduceAdd, reduceSub, reduceToNat, UInt8.reduceToNat, h3]⟩
        have hp := (hS.all hbl hn ha).trans m1.keys
        unfold conflictV
        rw [List.any_eq_false]
        intro f hf
        obtain ⟨a1, a2⟩ := hno f.path (hp.symm.subset (List.mem_map_of_mem hf))
        simp [a1, a2]
      obtain ⟨f, hf, rfl, rfl⟩ : ∃ f ∈ m.files, k = .s f.path ∧ v = .agg (encFile f) := by
        obtain ⟨-, xs, rfl, hp⟩ := m1
        have := List.mem_of_getElem? hj
        obtain ⟨f, hf, e⟩ := List.mem_map.1 this
        cases e
        exact ⟨f, hp.subset hf, rfl, rfl⟩
      have hS2 := hS.step hj hbj hsn
      have hlen := hS2.len
      have p1 : (G.put it (.iter (some i1) cl (seen ++ [b]))) it = some (.iter (some i1) cl (seen ++ [b])) := put_same _ _ _
      have p2 : (G.put it (.iter (some i1) cl (seen ++ [b]))) i1 = some (.bmap .str es1 bs cl) := by rw [put_ne _ _ _ _ dm]; exact q2
      have p3 : ∀ i o, G1 i = some o → ¬ i = i1 → (G.put it (.iter (some i1) cl (seen ++ [b]))) i = some o := fun i o hi h => by
        rw [put_ne _ _ _ _ (obj_ne hi hit)]; exact q3 i o hi h
      generalize G.put it (.iter (some i1) cl (seen ++ [b])) = G3 at *
      have gc3 := p3 _ _ gc dc
      simp -implicitDefEqProofs only [go_sem, reduceEqDiff, reduceAdd, reduceLeDiff, reduceLT, reduceMul, reduceEq, Int.reduceLT, reduceLE, Int.reduceAdd, reduceSub, reduceToNat, UInt8.reduceToNat, h0, h3, h6]
      refine here_intro p1 p2 hbj hj ?_
      have hkv : (Key.s f.path).av .str = .str f.path := rfl
      have u1 := sUnder_eq f.path c.file.path (r2 f hf).1 hp1
      have u2 := sUnder_eq c.file.path f.path hp1 (r2 f hf).1
      have bad : (underB f.path c.file.path || underB c.file.path f.path) = true → conflictV m.files c.file.path = true := fun h => List.any_eq_true.2 ⟨f, hf, h⟩
      by_cases b1 : underB f.path c.file.path = true
      · rw [b1] at u1
        rw [if_pos (bad (by rw [b1]; rfl))] at hv
        subst hv
        simp -implicitDefEqProofs only [go_sem, reduceEqDiff, reduceAdd, reduceLeDiff, reduceLT, reduceMul, reduceEq, Int.reduceLT, reduceLE, Int.reduceAdd, reduceSub, reduceToNat, UInt8.reduceToNat, h0, h3, h6, hkv, u1, gc3]
        exact Done.via (Ghost.unborn p2) (Done.now ⟨rfl, RW.mono hR1 (sub_back g1 p3)⟩)
      have b1 : underB f.path c.file.path = false := by simpa using b1
      rw [b1] at u1
      by_cases b2 : underB c.file.path f.path = true
      · rw [b2] at u2
        rw [if_pos (bad (by rw [b2]; simp))] at hv
        subst hv
        simp -implicitDefEqProofs only [go_sem, reduceEqDiff, reduceAdd, reduceLeDiff, reduceLT, reduceMul, reduceEq, Int.reduceLT, reduceLE, Int.reduceAdd, reduceSub, reduceToNat, UInt8.reduceToNat, h0, h3, h6, hkv, u1, u2, gc3]
        exact Done.via (Ghost.unborn p2) (Done.now ⟨rfl, RW.mono hR1 (sub_back g1 p3)⟩)
      have b2 : underB c.file.path f.path = false := by simpa using b2
      rw [b2] at u2
      simp -implicitDefEqProofs only [go_sem, reduceEqDiff, reduceAdd, reduceLeDiff, reduceLT, reduceMul, reduceEq, Int.reduceLT, reduceLE, Int.reduceAdd, reduceSub, reduceToNat, UInt8.reduceToNat, h0, h3, h6, hkv, u1, u2, gc3]
      exact Again.mk (js ++ [j], seen ++ [b], ks ++ [keyS (.s f.path, .agg (encFile f))]) (by simp -implicitDefEqProofs only [go_sem, reduceEqDiff, reduceAdd, reduceLeDiff, reduceLT, reduceMul, reduceEq, Int.reduceLT, reduceLE, Int.reduceAdd, reduceSub, reduceToNat, UInt8.reduceToNat, h0, h3, h6]) ⟨hS2, fun k hk => by
        rcases List.mem_append.1 hk with hk | hk
        · exact hno k hk
        · rw [List.mem_singleton.1 hk]; exact ⟨b1, b2⟩, p1, p2, p3⟩ (by simp only [List.length_append, List.length_singleton] at hlen ⊢; omega)
    clear q1 q2 q3 hit dm hn hbl dni
    rintro r G9 ⟨hsub, hcf, e0, e3⟩
    rw [if_neg (by rw [hcf]; simp)] at hv
    replace hR1 := RW.mono hR1 hsub
    replace gc := hsub _ _ gc
    replace g1 := hsub _ _ g1
    replace kw := hsub _ _ kw
    clear hsub g2 g3 gp hcf hce
    have gp : ∀ i, G9 i = none → ¬ ic = i := fun i hi e => by rw [e, hi] at gc; cases gc
    cases hk : getK (·.path) c.file.path m.files with
    | none =>
      rw [hk] at hg1 hv
      simp only [Option.map_none] at hg1
      by_cases cl : 2000 ≤ m.files.length
      · rw [if_pos (by simp; omega)] at hv
        subst hv
        have yl : decide ((2000 : Int) ≤ m.files.length) = true := decide_eq_true (by omega)
        simp -implicitDefEqProofs only [go_sem, reduceEqDiff, reduceAdd, reduceLeDiff, reduceLT, reduceMul, reduceEq, Int.reduceLT, reduceLE, Int.reduceAdd, reduceSub, reduceToNat, UInt8.reduceToNat, e0, e3, gc, kw, g1, hg1]
        with_reducible refine nwC_intro fun i6 hi6 => ?_
        have hR2 : RWM H (G9.put i6 (.cells ([.str [], .str [], .bool false]))) iw i1 i2 i3 ta m := hR1.put hi6 _
        have gc2 : (G9.put i6 (.cells ([.str [], .str [], .bool false]))) ic = some (.cells (encChg c)) := by rw [put_ne _ _ _ _ (gp _ hi6)]; exact gc
        unfold encChg at gc2
        have g6 := put_same G9 i6 (.cells ([.str [], .str [], .bool false]))
        try simp -implicitDefEqProofs only [go_sem, reduceEqDiff, reduceAdd, reduceLeDiff, reduceLT, reduceMul, reduceEq, Int.reduceLT, reduceLE, Int.reduceAdd, reduceSub, reduceToNat, UInt8.reduceToNat]
        generalize G9.put i6 _ = G2 at *
        have kw2 := hR2.w
        obtain ⟨es, k1, mm⟩ := hR2.f
        have ml := mm.len
        simp -implicitDefEqProofs only [go_sem, reduceEqDiff, reduceAdd, reduceLeDiff, reduceLT, reduceMul, reduceEq, Int.reduceLT, reduceLE, Int.reduceAdd, reduceSub, reduceToNat, UInt8.reduceToNat, e0, e3, gc2, kw2, k1, g6, ml, yl]
        exact Done.now ⟨rfl, hR2⟩
      · rw [if_neg (by simp; omega)] at hv
        subst hv
        have yl : decide ((2000 : Int) ≤ m.files.length) = false := decide_eq_false (by omega)
        simp -implicitDefEqProofs only [go_sem, reduceEqDiff, reduceAdd, reduceLeDiff, reduceLT, reduceMul, reduceEq, Int.reduceLT, reduceLE, Int.reduceAdd, reduceSub, reduceToNat, UInt8.reduceToNat, e0, e3, gc, kw, g1, hg1]
        with_reducible refine nwC_intro fun i6 hi6 => ?_
        have hR2 : RWM H (G9.put i6 (.cells ([.str [], .str [], .bool false]))) iw i1 i2 i3 ta m := hR1.put hi6 _
        have gc2 : (G9.put i6 (.cells ([.str [], .str [], .bool false]))) ic = some (.cells (encChg c)) := by rw [put_ne _ _ _ _ (gp _ hi6)]; exact gc
        unfold encChg at gc2
        have g6 := put_same G9 i6 (.cells ([.str [], .str [], .bool false]))
        try simp -implicitDefEqProofs only [go_sem, reduceEqDiff, reduceAdd, reduceLeDiff, reduceLT, reduceMul, reduceEq, Int.reduceLT, reduceLE, Int.reduceAdd, reduceSub, reduceToNat, UInt8.reduceToNat]
        generalize G9.put i6 _ = G2 at *
        have kw2 := hR2.w
        obtain ⟨es, k1, mm⟩ := hR2.f
        have ml := mm.len
        simp -implicitDefEqProofs only [go_sem, reduceEqDiff, reduceAdd, reduceLeDiff, reduceLT, reduceMul, reduceEq, Int.reduceLT, reduceLE, Int.reduceAdd, reduceSub, reduceToNat, UInt8.reduceToNat, e0, e3, gc2, kw2, k1, g6, ml, yl]
        exact Done.now ⟨rfl, hR2.setF (mm.set c.file)⟩
    | some f =>
      rw [hk] at hg1 hv
      simp only [Option.map_some] at hg1
      unfold encFile at hg1
      rw [if_neg (by simp)] at hv
      subst hv
      simp -implicitDefEqProofs only [go_sem, reduceEqDiff, reduceAdd, reduceLeDiff, reduceLT, reduceMul, reduceEq, Int.reduceLT, reduceLE, Int.reduceAdd, reduceSub, reduceToNat, UInt8.reduceToNat, e0, e3, gc, kw, g1, hg1]
      with_reducible refine nwC_intro fun i6 hi6 => ?_
      have hR2 : RWM H (G9.put i6 (.cells (encFile f))) iw i1 i2 i3 ta m := hR1.put hi6 _
      have gc2 : (G9.put i6 (.cells (encFile f))) ic = some (.cells (encChg c)) := by rw [put_ne _ _ _ _ (gp _ hi6)]; exact gc
      unfold encChg at gc2
      have g6 := put_same G9 i6 (.cells (encFile f))
      unfold encFile at hR2 gc2 g6
      try simp -implicitDefEqProofs only [go_sem, reduceEqDiff, reduceAdd, reduceLeDiff, reduceLT, reduceMul, reduceEq, Int.reduceLT, reduceLE, Int.reduceAdd, reduceSub, reduceToNat, UInt8.reduceToNat]
      generalize G9.put i6 _ = G2 at *
      have kw2 := hR2.w
      obtain ⟨es, k1, mm⟩ := hR2.f
      simp -implicitDefEqProofs only [go_sem, reduceEqDiff, reduceAdd, reduceLeDiff, reduceLT, reduceMul, reduceEq, Int.reduceLT, reduceLE, Int.reduceAdd, reduceSub, reduceToNat, UInt8.reduceToNat, e0, e3, gc2, kw2, k1, g6]
      exact Done.now ⟨rfl, hR2.setF (mm.set c.file)⟩
  have y1 : decide (c.kind = 1) = false := decide_eq_false k1
  rw [if_neg k1] at hv
  by_cases k3 : c.kind = 3
  · have y3 : decide (c.kind = 3) = true := decide_eq_true k3
    rw [if_pos k3] at hv
    cases hk : getK (·.key) c.set.key m.sets with
    | none =>
      rw [hk] at hg2 hv
      simp only [Option.map_none] at hg2
      by_cases cl : 2000 ≤ m.sets.length
      · rw [if_pos (by simp; omega)] at hv
        subst hv
        have yl : decide ((2000 : Int) ≤ m.sets.length) = true := decide_eq_true (by omega)
        have hR2 := hR1
        obtain ⟨es, k1, mm⟩ := hR2.s
        have kw2 := kw
        have gc2 := gc
        obtain rfl : es = es2 := by rw [k1] at g2; cases g2; rfl
        have ml := mm.len
        simp -implicitDefEqProofs only [go_sem, reduceEqDiff, reduceAdd, reduceLeDiff, reduceLT, reduceMul, reduceEq, Int.reduceLT, reduceLE, Int.reduceAdd, reduceSub, reduceToNat, UInt8.reduceToNat, y0, y2, y4, y6, y1, y3, gc2, kw2, k1, hg2, ml, yl]
        exact Done.now ⟨rfl, hR2⟩
      · rw [if_neg (by simp; omega)] at hv
        subst hv
        have yl : decide ((2000 : Int) ≤ m.sets.length) = false := decide_eq_false (by omega)
        have hR2 := hR1
        obtain ⟨es, k1, mm⟩ := hR2.s
        have kw2 := kw
        have gc2 := gc
        obtain rfl : es = es2 := by rw [k1] at g2; cases g2; rfl
        have ml := mm.len
        simp -implicitDefEqProofs only [go_sem, reduceEqDiff, reduceAdd, reduceLeDiff, reduceLT, reduceMul, reduceEq, Int.reduceLT, reduceLE, Int.reduceAdd, reduceSub, reduceToNat, UInt8.reduceToNat, y0, y2, y4, y6, y1, y3, gc2, kw2, k1, hg2, ml, yl]
        exact Done.now ⟨rfl, hR2.setS (mm.set c.set)⟩
    | some f =>
      rw [hk] at hg2 hv
      simp only [Option.map_some] at hg2
      rw [if_neg (by simp)] at hv
      subst hv
      have hR2 := hR1
      obtain ⟨es, k1, mm⟩ := hR2.s
      have kw2 := kw
      have gc2 := gc
      obtain rfl : es = es2 := by rw [k1] at g2; cases g2; rfl
      simp -implicitDefEqProofs only [go_sem, reduceEqDiff, reduceAdd, reduceLeDiff, reduceLT, reduceMul, reduceEq, Int.reduceLT, reduceLE, Int.reduceAdd, reduceSub, reduceToNat, UInt8.reduceToNat, y0, y2, y4, y6, y1, y3, gc2, kw2, k1, hg2]
      exact Done.now ⟨rfl, hR2.setS (mm.set c.set)⟩
  have y3 : decide (c.kind = 3) = false := decide_eq_false k3
  rw [if_neg k3] at hv
  cases hk : getK (·.name) c.svc.name m.svcs with
    | none =>
      rw [hk] at hg3 hv
      simp only [Option.map_none] at hg3
      by_cases cl : 100 ≤ m.svcs.length
      · rw [if_pos (by simp; omega)] at hv
        subst hv
        have yl : decide ((100 : Int) ≤ m.svcs.length) = true := decide_eq_true (by omega)
        simp -implicitDefEqProofs only [go_sem, reduceEqDiff, reduceAdd, reduceLeDiff, reduceLT, reduceMul, reduceEq, Int.reduceLT, reduceLE, Int.reduceAdd, reduceSub, reduceToNat, UInt8.reduceToNat, y0, y2, y4, y6, y1, y3, gc, kw, g3, hg3]
        with_reducible refine nwC_intro fun i6 hi6 => ?_
        have hR2 : RWM H (G1.put i6 (.cells ([.str [], .str [], .bool false, .bool false]))) iw i1 i2 i3 ta m := hR1.put hi6 _
        have gc2 : (G1.put i6 (.cells ([.str [], .str [], .bool false, .bool false]))) ic = some (.cells (encChg c)) := by rw [put_ne _ _ _ _ (gp _ hi6)]; exact gc
        unfold encChg at gc2
        have g6 := put_same G1 i6 (.cells ([.str [], .str [], .bool false, .bool false]))
        try simp -implicitDefEqProofs only [go_sem, reduceEqDiff, reduceAdd, reduceLeDiff, reduceLT, reduceMul, reduceEq, Int.reduceLT, reduceLE, Int.reduceAdd, reduceSub, reduceToNat, UInt8.reduceToNat]
        generalize G1.put i6 _ = G2 at *
        have kw2 := hR2.w
        obtain ⟨es, k1, mm⟩ := hR2.v
        have ml := mm.len
        simp -implicitDefEqProofs only [go_sem, reduceEqDiff, reduceAdd, reduceLeDiff, reduceLT, reduceMul, reduceEq, Int.reduceLT, reduceLE, Int.reduceAdd, reduceSub, reduceToNat, UInt8.reduceToNat, gc2, kw2, k1, g6, ml, yl]
        exact Done.now ⟨rfl, hR2⟩
      · rw [if_neg (by simp; omega)] at hv
        subst hv
        have yl : decide ((100 : Int) ≤ m.svcs.length) = false := decide_eq_false (by omega)
        simp -implicitDefEqProofs only [go_sem, reduceEqDiff, reduceAdd, reduceLeDiff, reduceLT, reduceMul, reduceEq, Int.reduceLT, reduceLE, Int.reduceAdd, reduceSub, reduceToNat, UInt8.reduceToNat, y0, y2, y4, y6, y1, y3, gc, kw, g3, hg3]
        with_reducible refine nwC_intro fun i6 hi6 => ?_
        have hR2 : RWM H (G1.put i6 (.cells ([.str [], .str [], .bool false, .bool false]))) iw i1 i2 i3 ta m := hR1.put hi6 _
        have gc2 : (G1.put i6 (.cells ([.str [], .str [], .bool false, .bool false]))) ic = some (.cells (encChg c)) := by rw [put_ne _ _ _ _ (gp _ hi6)]; exact gc
        unfold encChg at gc2
        have g6 := put_same G1 i6 (.cells ([.str [], .str [], .bool false, .bool false]))
        try simp -implicitDefEqProofs only [go_sem, reduceEqDiff, reduceAdd, reduceLeDiff, reduceLT, reduceMul, reduceEq, Int.reduceLT, reduceLE, Int.reduceAdd, reduceSub, reduceToNat, UInt8.reduceToNat]
        generalize G1.put i6 _ = G2 at *
        have kw2 := hR2.w
        obtain ⟨es, k1, mm⟩ := hR2.v
        have ml := mm.len
        simp -implicitDefEqProofs only [go_sem, reduceEqDiff, reduceAdd, reduceLeDiff, reduceLT, reduceMul, reduceEq, Int.reduceLT, reduceLE, Int.reduceAdd, reduceSub, reduceToNat, UInt8.reduceToNat, gc2, kw2, k1, g6, ml, yl]
        exact Done.now ⟨rfl, hR2.setV (mm.set c.svc)⟩
    | some f =>
      rw [hk] at hg3 hv
      simp only [Option.map_some] at hg3
      unfold encSvc at hg3
      rw [if_neg (by simp)] at hv
      subst hv
      simp -implicitDefEqProofs only [go_sem, reduceEqDiff, reduceAdd, reduceLeDiff, reduceLT, reduceMul, reduceEq, Int.reduceLT, reduceLE, Int.reduceAdd, reduceSub, reduceToNat, UInt8.reduceToNat, y0, y2, y4, y6, y1, y3, gc, kw, g3, hg3]
      with_reducible refine nwC_intro fun i6 hi6 => ?_
      have hR2 : RWM H (G1.put i6 (.cells (encSvc f))) iw i1 i2 i3 ta m := hR1.put hi6 _
      have gc2 : (G1.put i6 (.cells (encSvc f))) ic = some (.cells (encChg c)) := by rw [put_ne _ _ _ _ (gp _ hi6)]; exact gc
      unfold encChg at gc2
      have g6 := put_same G1 i6 (.cells (encSvc f))
      unfold encSvc at hR2 gc2 g6
      try simp -implicitDefEqProofs only [go_sem, reduceEqDiff, reduceAdd, reduceLeDiff, reduceLT, reduceMul, reduceEq, Int.reduceLT, reduceLE, Int.reduceAdd, reduceSub, reduceToNat, UInt8.reduceToNat]
      generalize G1.put i6 _ = G2 at *
      have kw2 := hR2.w
      obtain ⟨es, k1, mm⟩ := hR2.v
      simp -implicitDefEqProofs only [go_sem, reduceEqDiff, reduceAdd, reduceLeDiff, reduceLT, reduceMul, reduceEq, Int.reduceLT, reduceLE, Int.reduceAdd, reduceSub, reduceToNat, UInt8.reduceToNat, gc2, kw2, k1, g6]
      exact Done.now ⟨rfl, hR2.setV (mm.set c.svc)⟩
end Go.Proofs

/- How many files lie below a directory: plain Lean, no program. -/
namespace Go.Proofs
open Go Go.Abs
set_option linter.unusedSimpArgs false
set_option linter.unusedVariables false
def dirsTo (p : Bytes) (i : Nat) : List Bytes := ((List.range i).filter fun k => p[k]? = some 47).map fun k => p.take k
theorem dirsTo_all (p : Bytes) : dirsTo p p.length = dirsB p := rfl
theorem dirsTo_zero (p : Bytes) : dirsTo p 0 = [] := rfl
theorem dirsTo_yes {p : Bytes} {i : Nat} (h : p[i]? = some 47) : dirsTo p (i + 1) = dirsTo p i ++ [p.take i] := by
  unfold dirsTo
  rw [List.range_succ, List.filter_append, List.map_append]
  simp [h]
theorem dirsTo_no {p : Bytes} {i : Nat} (h : ¬ p[i]? = some 47) : dirsTo p (i + 1) = dirsTo p i := by
  unfold dirsTo
  rw [List.range_succ, List.filter_append, List.map_append]
  simp [h]
theorem dirsTo_new {p : Bytes} {i : Nat} (h : i < p.length) : p.take i ∉ dirsTo p i := by
  unfold dirsTo
  simp only [List.mem_map, List.mem_filter, List.mem_range, decide_eq_true_eq, not_exists, not_and]
  intro k hk e
  have := congrArg List.length e
  rw [List.length_take, List.length_take] at this
  omega
theorem dirsTo_mono {stop : Bytes → Bool} {p : Bytes} {i : Nat} (h : (dirsTo p i).any stop = true) : ∀ k, i ≤ k → (dirsTo p k).any stop = true := by
  intro k hk
  induction k with
  | zero => obtain rfl : i = 0 := by omega
            exact h
  | succ k ih =>
    by_cases e : i = k + 1
    · subst e; exact h
    · have := ih (by omega)
      by_cases c : p[k]? = some 47
      · rw [dirsTo_yes c, List.any_append, this]; rfl
      · rw [dirsTo_no c]; exact this
/-- How many files lie below. -/
def cntU (l : List FileV) (d : Bytes) : Nat := (l.filter fun f => underB f.path d).length
theorem cntU_le (l : List FileV) (d : Bytes) : cntU l d ≤ l.length := List.length_filter_le _ _
theorem cntU_pos {l : List FileV} {d : Bytes} : 0 < cntU l d ↔ (l.any fun f => underB f.path d) = true := by
  unfold cntU
  rw [List.length_pos_iff, ne_eq, List.filter_eq_nil_iff, List.any_eq_true]
  constructor
  · intro h
    by_cases e : ∃ x ∈ l, underB x.path d = true
    · exact e
    · exact absurd (fun x hx hu => e ⟨x, hx, hu⟩) h
  · rintro ⟨x, hx, hu⟩ h
    exact h x hx hu
theorem cntU_perm {l m : List FileV} (h : l.Perm m) (d : Bytes) : cntU l d = cntU m d := (h.filter _).length_eq
theorem cntU_cons (x : FileV) (l : List FileV) (d : Bytes) : cntU (x :: l) d = cntU l d + if underB x.path d = true then 1 else 0 := by
  unfold cntU
  rw [List.filter_cons]
  split <;> simp_all
theorem perm_del {α : Type} {key : α → Bytes} {k : Bytes} {f : α} : ∀ {l : List α}, (l.map key).Nodup → getK key k l = some f → l.Perm (f :: delK key k l)
  | [], _, h => by cases h
  | x :: l, hn, h => by
    rw [List.map_cons, List.nodup_cons] at hn
    unfold getK at h
    rw [List.find?_cons] at h
    by_cases e : key x = k
    · rw [decide_eq_true e] at h
      cases h
      have e2 : delK key k (f :: l) = l := by
        unfold delK
        rw [List.filter_cons_of_neg (by simp [e]), List.filter_eq_self]
        intro y hy
        simp only [decide_eq_true_eq]
        intro e3
        exact hn.1 (by rw [e, ← e3]; exact List.mem_map_of_mem hy)
      rw [e2]
    · rw [decide_eq_false e] at h
      have e2 : delK key k (x :: l) = x :: delK key k l := by
        unfold delK
        rw [List.filter_cons_of_pos (by simp [e])]
      rw [e2]
      exact ((perm_del hn.2 h).cons x).trans (.swap f x _)
theorem del_none {α : Type} {key : α → Bytes} {k : Bytes} {l : List α} (h : getK key k l = none) : delK key k l = l := by
  unfold delK
  rw [List.filter_eq_self]
  intro y hy
  unfold getK at h
  rw [List.find?_eq_none] at h
  simpa using h y hy
theorem getK_key {α : Type} {key : α → Bytes} {k : Bytes} {l : List α} {f : α} (h : getK key k l = some f) : key f = k := by simpa using List.find?_some h
/-- The count behind a file that is put. -/
theorem cntU_put {l : List FileV} {x : FileV} (ha : Asc (·.path) l) (d : Bytes) : (cntU (putK (·.path) x l) d : Int) = cntU l d + if (getK (·.path) x.path l).isNone ∧ underB x.path d = true then 1 else 0 := by
  rw [cntU_perm (putK_perm ha) d, cntU_cons]
  cases hg : getK (·.path) x.path l with
  | none =>
    rw [del_none hg]
    by_cases hu : underB x.path d = true <;> simp [hu]
  | some f =>
    have h1 := getK_key hg
    rw [cntU_perm (perm_del ha.nodup hg) d, cntU_cons]
    try simp only at h1
    rw [h1]
    simp
theorem cntU_del {l : List FileV} {p : Bytes} {f : FileV} (ha : Asc (·.path) l) (hg : getK (·.path) p l = some f) (d : Bytes) : (cntU (delK (·.path) p l) d : Int) = cntU l d - if underB p d = true then 1 else 0 := by
  have h1 := getK_key hg
  try simp only at h1
  rw [cntU_perm (perm_del ha.nodup hg) d, cntU_cons, h1]
  split <;> omega
/-- A map of counts. -/
def CountOK (es : List (Key × AV)) (F : Bytes → Int) : Prop := ∀ d, (mget es (.s d)).getD (.int .i64 0) = .int .i64 (F d)
theorem CountOK.nil : CountOK [] (fun _ => 0) := fun _ => rfl
theorem CountOK.set {es : List (Key × AV)} {F : Bytes → Int} (h : CountOK es F) (d : Bytes) (v : Int) : CountOK (mset es (.s d) (.int .i64 v)) (fun x => if d = x then v else F x) := fun x => by
  rw [mget_mset]
  by_cases e : d = x
  · subst e
    simp
  · have e1 : ¬ Key.s d = Key.s x := fun h => e (by cases h; rfl)
    rw [if_neg e1]
    simp only [if_neg e]
    exact h x
theorem CountOK.eq {es : List (Key × AV)} {F F' : Bytes → Int} (h : CountOK es F) (e : ∀ d, F d = F' d) : CountOK es F' := fun d => by rw [h d, e d]
/-- Counted up to a place of the path. -/
def cntTo (F : Bytes → Int) (p : Bytes) (n : Int) (i : Nat) (d : Bytes) : Int := F d + if d ∈ dirsTo p i then n else 0
theorem cntTo_zero (F : Bytes → Int) (p : Bytes) (n : Int) (d : Bytes) : cntTo F p n 0 d = F d := by simp [cntTo, dirsTo_zero]
theorem cntTo_no {F : Bytes → Int} {p : Bytes} {n : Int} {i : Nat} (h : ¬ p[i]? = some 47) (d : Bytes) : cntTo F p n (i + 1) d = cntTo F p n i d := by unfold cntTo; rw [dirsTo_no h]
theorem cntTo_yes {F : Bytes → Int} {p : Bytes} {n : Int} {i : Nat} (h : p[i]? = some 47) (d : Bytes) : cntTo F p n (i + 1) d = if p.take i = d then cntTo F p n i (p.take i) + n else cntTo F p n i d := by
  have hlt := (List.getElem?_eq_some_iff.1 h).1
  unfold cntTo
  rw [dirsTo_yes h]
  by_cases e : p.take i = d
  · subst e
    rw [if_pos rfl, if_pos (by simp), if_neg (dirsTo_new hlt)]
    omega
  · rw [if_neg e]
    have : d ∈ dirsTo p i ++ [p.take i] ↔ d ∈ dirsTo p i := by
      rw [List.mem_append, List.mem_singleton]
      exact ⟨fun h => h.resolve_right fun e2 => e e2.symm, .inl⟩
    simp only [this]
theorem cntTo_all (F : Bytes → Int) (p : Bytes) (n : Int) (d : Bytes) : cntTo F p n p.length d = F d + if underB p d = true then n else 0 := by
  unfold cntTo
  rw [dirsTo_all]
  simp only [under_dirs]
end Go.Proofs

/- What leads from one machine to another: plain Lean, no program. -/
namespace Go.Proofs
open Go Go.Abs
set_option linter.unusedSimpArgs false
set_option linter.unusedVariables false
section
variable {α : Type} {key : α → Bytes}
theorem getK_none_lt {l : List α} {k : Bytes} (h : ∀ y ∈ l, strLt k (key y) = true) : getK key k l = none := by
  unfold getK
  rw [List.find?_eq_none]
  intro y hy
  simp only [decide_eq_true_eq]
  intro e
  have := h y hy
  rw [e, lt_irr] at this; cases this
theorem getK_skip {l : List α} {k : Bytes} {x : α} (h : ¬ key x = k) : getK key k (x :: l) = getK key k l := by
  unfold getK
  rw [List.find?_cons, decide_eq_false h]
theorem getK_hit {l : List α} {x : α} : getK key (key x) (x :: l) = some x := by
  unfold getK
  rw [List.find?_cons, decide_eq_true rfl]
def goneV (key : α → Bytes) (a b : List α) : List α := a.filter fun x => (getK key (key x) b).isNone
theorem goneV_nil (a : List α) : goneV key a [] = a := by
  unfold goneV
  rw [List.filter_eq_self]
  intro x _
  rfl
theorem filter_cong {p q : α → Bool} {l : List α} (h : ∀ x ∈ l, p x = q x) : l.filter p = l.filter q := List.filter_congr h
end
section
variable {α : Type} [DecidableEq α] (key : α → Bytes)
def comeV (a b : List α) : List α := b.filter fun x => decide (getK key (key x) a ≠ some x)
/-- Both lists, walked side by side. -/
def sidesV : List α → List α → List α × List α
  | [], b => ([], b)
  | x :: a, [] => (x :: a, [])
  | x :: a, y :: b =>
    if strLt (key x) (key y) = true then (x :: (sidesV a (y :: b)).1, (sidesV a (y :: b)).2)
    else if strLt (key y) (key x) = true then ((sidesV (x :: a) b).1, y :: (sidesV (x :: a) b).2)
    else ((sidesV a b).1, if x ≠ y then y :: (sidesV a b).2 else (sidesV a b).2)
termination_by a b => a.length + b.length
variable {key}
theorem comeV_nil (b : List α) : comeV key [] b = b := by
  unfold comeV
  rw [List.filter_eq_self]
  intro x _
  simp [getK]
theorem sides_eq : ∀ (a b : List α), Asc key a → Asc key b → sidesV key a b = (goneV key a b, comeV key a b)
  | [], b, _, _ => by
    rw [sidesV, comeV_nil]; rfl
  | x :: a, [], _, _ => by
    rw [sidesV, goneV_nil]; rfl
  | x :: a, y :: b, ha, hb => by
    obtain ⟨a1, a2⟩ := List.pairwise_cons.1 ha
    obtain ⟨b1, b2⟩ := List.pairwise_cons.1 hb
    rw [sidesV]
    by_cases c1 : strLt (key x) (key y) = true
    · rw [if_pos c1, sides_eq a (y :: b) a2 hb]
      have hx : getK key (key x) (y :: b) = none := getK_none_lt fun z hz => by
        rcases List.mem_cons.1 hz with rfl | hz
        · exact c1
        · exact lt_tr c1 (b1 z hz)
      have e1 : goneV key (x :: a) (y :: b) = x :: goneV key a (y :: b) := by
        unfold goneV
        rw [List.filter_cons_of_pos (by rw [hx]; rfl)]
      have e2 : comeV key (x :: a) (y :: b) = comeV key a (y :: b) := by
        unfold comeV
        refine filter_cong fun z hz => ?_
        have : ¬ key x = key z := fun e => by
          have h1 : strLt (key x) (key z) = true := by
            rcases List.mem_cons.1 hz with rfl | hz
            · exact c1
            · exact lt_tr c1 (b1 z hz)
          rw [e, lt_irr] at h1; cases h1
        rw [getK_skip this]
      rw [e1, e2]
    rw [if_neg c1]
    by_cases c2 : strLt (key y) (key x) = true
    · rw [if_pos c2, sides_eq (x :: a) b ha b2]
      have hy : getK key (key y) (x :: a) = none := getK_none_lt fun z hz => by
        rcases List.mem_cons.1 hz with rfl | hz
        · exact c2
        · exact lt_tr c2 (a1 z hz)
      have e1 : comeV key (x :: a) (y :: b) = y :: comeV key (x :: a) b := by
        unfold comeV
        rw [List.filter_cons_of_pos (by rw [hy]; simp)]
      have e2 : goneV key (x :: a) (y :: b) = goneV key (x :: a) b := by
        unfold goneV
        refine filter_cong fun z hz => ?_
        have : ¬ key y = key z := fun e => by
          have h1 : strLt (key y) (key z) = true := by
            rcases List.mem_cons.1 hz with rfl | hz
            · exact c2
            · exact lt_tr c2 (a1 z hz)
          rw [e, lt_irr] at h1; cases h1
        rw [getK_skip this]
      rw [e1, e2]
    rw [if_neg c2, sides_eq a b a2 b2]
    have e : key x = key y := by
      rcases lt_tri (key x) (key y) with t | t | t
      · exact absurd t c1
      · exact t
      · exact absurd t c2
    have e1 : goneV key (x :: a) (y :: b) = goneV key a b := by
      unfold goneV
      rw [List.filter_cons_of_neg (by rw [e, getK_hit]; simp)]
      refine filter_cong fun z hz => ?_
      rw [getK_skip]
      intro e2
      have := a1 z hz
      rw [e, e2, lt_irr] at this; cases this
    have e2 : comeV key (x :: a) (y :: b) = if x ≠ y then y :: comeV key a b else comeV key a b := by
      unfold comeV
      have hr : (b.filter fun z => decide (getK key (key z) (x :: a) ≠ some z)) = b.filter fun z => decide (getK key (key z) a ≠ some z) := by
        refine filter_cong fun z hz => ?_
        rw [getK_skip]
        intro e2
        have := b1 z hz
        rw [← e, e2, lt_irr] at this; cases this
      have hg : getK key (key y) (x :: a) = some x := by rw [← e]; exact getK_hit
      by_cases c : x = y
      · rw [List.filter_cons_of_neg (by rw [hg]; simp [c]), hr, if_neg (by simp [c])]
      · rw [List.filter_cons_of_pos (by rw [hg]; simp [c]), hr, if_pos c]
    rw [e1, e2]
termination_by a b => a.length + b.length
end
def rmF (f : FileV) : ChgV := ⟨2, ⟨f.path, [], false⟩, .zero, .zero⟩
def rmS (s : SetV) : ChgV := ⟨4, .zero, ⟨s.key, []⟩, .zero⟩
def rmV (s : SvcV) : ChgV := ⟨6, .zero, .zero, ⟨s.name, [], false, false⟩⟩
def ptF (f : FileV) : ChgV := ⟨1, f, .zero, .zero⟩
def ptS (s : SetV) : ChgV := ⟨3, .zero, s, .zero⟩
def ptV (s : SvcV) : ChgV := ⟨5, .zero, .zero, s⟩
/-- Changes that make b of a. -/
def diffV (a b : MacV) : List ChgV :=
  (goneV (·.path) a.files b.files).map rmF ++ (goneV (·.key) a.sets b.sets).map rmS ++ (goneV (·.name) a.svcs b.svcs).map rmV ++
  (comeV (·.path) a.files b.files).map ptF ++ (comeV (·.key) a.sets b.sets).map ptS ++ (comeV (·.name) a.svcs b.svcs).map ptV
theorem doAll_append : ∀ (l k : List ChgV) (m : MacV), doAll m (l ++ k) = match doAll m l with
    | .ok n => doAll n k
    | .error e => .error e
  | [], k, m => rfl
  | c :: l, k, m => by
    rw [List.cons_append, doAll, doAll]
    cases doV m c with
    | ok n => exact doAll_append l k n
    | error e => rfl
/-! ### The differences, made -/
section
variable {α : Type} {key : α → Bytes}
def delAll (key : α → Bytes) (g : List α) (l : List α) : List α := g.foldl (fun l x => delK key (key x) l) l
def putAll (key : α → Bytes) (g : List α) (l : List α) : List α := g.foldl (fun l x => putK key x l) l
theorem delK_get {l : List α} {k j : Bytes} : getK key j (delK key k l) = if j = k then none else getK key j l := by
  unfold getK delK
  rw [List.find?_filter]
  by_cases h : j = k
  · subst h
    rw [if_pos rfl, List.find?_eq_none]
    intro x _
    simp
  · rw [if_neg h]
    congr 1
    funext x
    by_cases e : key x = j
    · subst e; simp [h]
    · simp [e]
theorem get_perm {l m : List α} (hp : l.Perm m) (hn : (l.map key).Nodup) (k : Bytes) : getK key k l = getK key k m := find_perm hp hn k
theorem putK_get {l : List α} (h : Asc key l) (x : α) (k : Bytes) : getK key k (putK key x l) = if k = key x then some x else getK key k l := by
  rw [get_perm (putK_perm h) h.put.nodup]
  by_cases e : k = key x
  · subst e
    rw [if_pos rfl]
    unfold getK
    rw [List.find?_cons, decide_eq_true rfl]
  · rw [if_neg e]
    have : getK key k (x :: delK key (key x) l) = getK key k (delK key (key x) l) := by
      unfold getK
      rw [List.find?_cons, decide_eq_false (fun h => e h.symm)]
    rw [this, delK_get, if_neg e]
/-- Lists in order that answer alike are the same. -/
theorem Asc.ext_get {l m : List α} (h1 : Asc key l) (h2 : Asc key m) (h : ∀ k, getK key k l = getK key k m) : l = m := by
  refine Asc.uniq h1 h2 ((List.perm_ext_iff_of_nodup ?_ ?_).2 fun x => ?_)
  · exact h1.imp fun h e => by rw [e, lt_irr] at h; cases h
  · exact h2.imp fun h e => by rw [e, lt_irr] at h; cases h
  · constructor
    · intro hx
      obtain ⟨i, hi⟩ := List.getElem?_of_mem hx
      have := getK_at h1 hi
      rw [h] at this
      exact List.mem_of_find?_eq_some this
    · intro hx
      obtain ⟨i, hi⟩ := List.getElem?_of_mem hx
      have := getK_at h2 hi
      rw [← h] at this
      exact List.mem_of_find?_eq_some this
theorem delAll_get : ∀ (g l : List α) (k : Bytes), getK key k (delAll key g l) = if (g.any fun x => decide (key x = k)) = true then none else getK key k l
  | [], l, k => rfl
  | x :: g, l, k => by
    show getK key k (delAll key g (delK key (key x) l)) = _
    rw [delAll_get g, delK_get, List.any_cons]
    by_cases e : key x = k
    · subst e; simp
    · have : ¬ k = key x := fun h => e h.symm
      simp [e, this]
theorem delAll_asc : ∀ (g : List α) {l : List α}, Asc key l → Asc key (delAll key g l)
  | [], l, h => h
  | x :: g, l, h => delAll_asc g (h.del _)
theorem putAll_asc : ∀ (g : List α) {l : List α}, Asc key l → Asc key (putAll key g l)
  | [], l, h => h
  | x :: g, l, h => putAll_asc g h.put
end
end Go.Proofs

/- Walks: changes of a machine, on the reference's side. -/
namespace Go.Proofs
open Go Go.Abs
open Nat (reduceEqDiff reduceAdd reduceLeDiff reduceLT reduceMul)
open Int (reduceEq reduceLE reduceSub reduceToNat)
set_option linter.unusedSimpArgs false
set_option linter.unusedVariables false
set_option maxRecDepth 20000
theorem pathB_len {s : Bytes} (h : pathB s = true) : s.length ≤ 200 := by
  unfold pathB at h
  simp only [Bool.and_eq_true, decide_eq_true_eq] at h
  omega
theorem nameB_len {s : Bytes} (h : nameB s = true) : s.length ≤ 40 := by
  unfold nameB sEach at h
  simp only [Bool.and_eq_true, decide_eq_true_eq] at h
  omega
theorem valueB_len {s : Bytes} (h : valueB s = true) : s.length ≤ 1000 := by
  unfold valueB sEach at h
  simp only [Bool.or_eq_true, Bool.and_eq_true, decide_eq_true_eq] at h
  rcases h with rfl | h
  · simp
  · omega
theorem fileErr_ok {f : FileV} (h : fileErr f = 0) : pathB f.path = true ∧ f.data.length ≤ 65536 := by
  unfold fileErr at h
  split at h
  · cases h
  split at h
  · cases h
  · exact ⟨by simp_all, by omega⟩
theorem setErr_ok {f : SetV} (h : setErr f = 0) : pathB f.key = true ∧ valueB f.value = true := by
  unfold setErr at h
  split at h
  · cases h
  split at h
  · cases h
  · exact ⟨by simp_all, by simp_all⟩
theorem factErr_ok {f : SetV} (h : factErr f = 0) : nameB f.key = true ∧ valueB f.value = true := by
  unfold factErr at h
  split at h
  · cases h
  split at h
  · cases h
  · exact ⟨by simp_all, by simp_all⟩
theorem svcErr_ok {f : SvcV} (h : svcErr f = 0) : nameB f.name = true ∧ pathB f.path = true := by
  unfold svcErr at h
  split at h
  · cases h
  · exact ⟨by simp_all, by simp_all⟩
theorem MacOK.R {m : MacV} (h : MacOK m) : macR m := by
  refine ⟨⟨by have := h.l1; omega, by have := h.l2; omega, by have := h.l3; omega, by have := h.l4; omega⟩, fun x hx => ?_, fun x hx => ?_, fun x hx => ?_, fun x hx => ?_⟩
  · obtain ⟨a, b⟩ := factErr_ok (h.e1 x hx)
    have := nameB_len a; have := valueB_len b
    exact ⟨by omega, by omega⟩
  · obtain ⟨a, b⟩ := fileErr_ok (h.e2 x hx)
    have := pathB_len a
    exact ⟨by omega, by omega⟩
  · obtain ⟨a, b⟩ := setErr_ok (h.e3 x hx)
    have := pathB_len a; have := valueB_len b
    exact ⟨by omega, by omega⟩
  · obtain ⟨a, b⟩ := svcErr_ok (h.e4 x hx)
    have := nameB_len a; have := pathB_len b
    exact ⟨by omega, by omega⟩
/-- What Apply answers. -/
def applyA (r : Except Int MacV) : AV := match r with
  | .ok n => .tup [.agg (encMac n .unk .unk .unk .unk), .int .i64 0]
  | .error e => .tup [.agg (encMac .zero .unk .unk .unk .unk), .int .i64 e]
def ApQ (H : Heap) (iw i1 i2 i3 i4 : Nat) (ta : Tail) (d : Except Int MacV) (r : Regs) (G : Heap) : Prop := ∃ n, d = .ok n ∧ MacOK n ∧ RWM H G iw i1 i2 i3 ta n ∧ r 4 = .ptr i4 0 ∧ r 7 = .ptr iw 0
set_option maxHeartbeats 3200000 in
theorem rApply_calls (m : MacV) (l : List ChgV) (ta tb tc td t : Tail) (H : Heap) (hr : macR m) (hl : l.length ≤ 1099511627776) (hc : ∀ c ∈ l, chgR c) :
    ACalls Tryz.prog 50 [.agg (encMac m ta tb tc td), .sl (l.map encChg) t] H fun x H' => x = applyA (applyV m l) ∧ H' = H := by
  have hv := applyV.eq_1 m l
  generalize applyV m l = av at *
  have hS := Heap.Sub.rfl' H
  refine ACalls.of_code (X := { pure := pu0 }) pu0_ok Tryz.func50 (by kernel_rfl) rfl (by kernel_rfl) (Nat.le_of_ble_eq_true rfl) ?_
  simp -implicitDefEqProofs only [go_sem, reduceEqDiff, reduceAdd, reduceLeDiff, reduceLT, reduceMul, reduceEq, Int.reduceLT, reduceLE, Int.reduceAdd, reduceSub, reduceToNat, UInt8.reduceToNat, Tryz.f50, encMac]
  with_reducible refine nwC_intro fun im him => ?_
  generalize Em : Heap.put H im _ = G1
  have hO_m := obj_new Em him hS
  have nm := hO_m.1
  have hS := hO_m.2.1
  have gm := hO_m.2.2.1
  clear hO_m
  simp -implicitDefEqProofs only [go_sem, reduceEqDiff, reduceAdd, reduceLeDiff, reduceLT, reduceMul, reduceEq, Int.reduceLT, reduceLE, Int.reduceAdd, reduceSub, reduceToNat, UInt8.reduceToNat]
  with_reducible refine nwC_intro fun i4 hi4 => ?_
  generalize E4 : Heap.put G1 i4 _ = G2
  have hO_4 := obj_new E4 hi4 hS
  have n4 := hO_4.1
  have hS := hO_4.2.1
  have g4 := hO_4.2.2.1
  have dm_4 := obj_ne gm hi4
  have gm := hO_4.2.2.2 _ _ gm
  clear hO_4
  have hck := rCheck_calls m ta tb tc td G2 hr
  have hwo := fun h1 h2 h3 => worldOf_calls m ta tb tc td G2 hr h1 h2 h3
  unfold encMac at hck hwo
  have g40 := g4
  simp -implicitDefEqProofs only [go_sem, reduceEqDiff, reduceAdd, reduceLeDiff, reduceLT, reduceMul, reduceEq, Int.reduceLT, reduceLE, Int.reduceAdd, reduceSub, reduceToNat, UInt8.reduceToNat, gm]
  refine hck.pure_next _ ?_
  by_cases c0 : macErr m = 0
  rotate_left
  · have y0 : decide (¬ macErr m = 0) = true := decide_eq_true c0
    rw [if_pos c0] at hv
    subst hv
    simp -implicitDefEqProofs only [go_sem, reduceEqDiff, reduceAdd, reduceLeDiff, reduceLT, reduceMul, reduceEq, Int.reduceLT, reduceLE, Int.reduceAdd, reduceSub, reduceToNat, UInt8.reduceToNat, y0, g4]
    exact Done.wk 3 (Done.drop (hS.put' n4 _) ⟨rfl, rfl⟩)
  have y0 : decide (¬ macErr m = 0) = false := decide_eq_false (by simpa using c0)
  rw [if_neg (by simpa using c0)] at hv
  have hM := (macErr_ok m).1 c0
  simp -implicitDefEqProofs only [go_sem, reduceEqDiff, reduceAdd, reduceLeDiff, reduceLT, reduceMul, reduceEq, Int.reduceLT, reduceLE, Int.reduceAdd, reduceSub, reduceToNat, UInt8.reduceToNat, y0, gm]
  refine (hwo hM.a2 hM.a3 hM.a4).mono ?_
  rintro x G3 ⟨iw, i1, i2, i3, rfl, hR⟩
  clear hck hwo
  simp -implicitDefEqProofs only [go_sem, reduceEqDiff, reduceAdd, reduceLeDiff, reduceLT, reduceMul, reduceEq, Int.reduceLT, reduceLE, Int.reduceAdd, reduceSub, reduceToNat, UInt8.reduceToNat]
  with_reducible refine aloop_cut 0 (ApQ G2 iw i1 i2 i3 i4 ta av) ?_ ?_
  rotate_left
  · refine aloop_intro (σ := Nat × MacV) (fun s => [(4, .ptr i4 0), (7, .ptr iw 0), (19, .sl (l.map encChg) t), (20, .int .i64 l.length), (21, .int .i64 s.1)])
      (fun s G => s.1 ≤ l.length ∧ MacOK s.2 ∧ RWM G2 G iw i1 i2 i3 ta s.2 ∧ av = doAll s.2 (l.drop s.1)) (fun s => l.length - s.1) (0, m) ?_ ?_ ?_
    · simp -implicitDefEqProofs only [go_sem, reduceEqDiff, reduceAdd, reduceLeDiff, reduceLT, reduceMul, reduceEq, Int.reduceLT, reduceLE, Int.reduceAdd, reduceSub, reduceToNat, UInt8.reduceToNat]
    · exact ⟨Nat.zero_le _, hM, hR, hv⟩
    clear hR hv hM
    rintro ⟨i, n⟩ r G hvv ⟨hi, hM, hR, hv⟩
    simp only at hi hM hR hv
    have e4 := hvv.1
    have e7 := hvv.2.1
    have ea := hvv.2.2.1
    have eb := hvv.2.2.2.1
    have ec := hvv.2.2.2.2.1
    simp only at ec
    clear hvv
    by_cases g : i < l.length
    rotate_left
    · have y0 : decide ((i : Int) < l.length) = false := decide_eq_false (by omega)
      obtain rfl : i = l.length := by omega
      rw [List.drop_length, doAll] at hv
      simp -implicitDefEqProofs only [go_sem, reduceEqDiff, reduceAdd, reduceLeDiff, reduceLT, reduceMul, reduceEq, Int.reduceLT, reduceLE, Int.reduceAdd, reduceSub, reduceToNat, UInt8.reduceToNat, e4, e7, ea, eb, ec, y0]
      exact ⟨n, hv, hM, hR, by simp -implicitDefEqProofs only [go_sem, reduceEqDiff, reduceAdd, reduceLeDiff, reduceLT, reduceMul, reduceEq, Int.reduceLT, reduceLE, Int.reduceAdd, reduceSub, reduceToNat, UInt8.reduceToNat, e4], by simp -implicitDefEqProofs only [go_sem, reduceEqDiff, reduceAdd, reduceLeDiff, reduceLT, reduceMul, reduceEq, Int.reduceLT, reduceLE, Int.reduceAdd, reduceSub, reduceToNat, UInt8.reduceToNat, e7]⟩
    have y1 : decide ((i : Int) < l.length) = true := decide_eq_true (by omega)
    obtain ⟨c, hx⟩ : ∃ x, l[i]? = some x := getD_get' g
    have ws : IntKind.i64.wrap ((i : Int) + 1) = ((i + 1 : Nat) : Int) := by rw [Go.IntWalk.i64_in _ (by omega)]; omega
    have hU : ∀ (a : ChgV), a ∈ l → (encChg a).length = 10 := fun _ _ => rfl
    rw [drop_at hx, doAll] at hv
    have hcc := hc c (List.mem_of_getElem? hx)
    have ht : (encChg c).take 10 = encChg c := rfl
    simp -implicitDefEqProofs only [go_sem, reduceEqDiff, reduceAdd, reduceLeDiff, reduceLT, reduceMul, reduceEq, Int.reduceLT, reduceLE, Int.reduceAdd, reduceSub, reduceToNat, UInt8.reduceToNat, e4, e7, ea, eb, ec, y1, hx]
    refine ⟨hU, Nat.le_refl _, ?_⟩
    rw [ht]
    simp only [encChg]
    with_reducible refine nwC_intro fun i5 hi5 => ?_
    simp -implicitDefEqProofs only [go_sem, reduceEqDiff, reduceAdd, reduceLeDiff, reduceLT, reduceMul, reduceEq, Int.reduceLT, reduceLE, Int.reduceAdd, reduceSub, reduceToNat, UInt8.reduceToNat]
    have hR2 : RWM G2 (G.put i5 (.cells (encChg c))) iw i1 i2 i3 ta n := RW.put hR hi5 _
    have g5 := put_same G i5 (.cells (encChg c))
    unfold encChg at hR2 g5
    generalize G.put i5 _ = G6 at *
    have hdo := rDo_calls hR2 hM.R hcc
    unfold encChg at hdo
    simp -implicitDefEqProofs only [go_sem, reduceEqDiff, reduceAdd, reduceLeDiff, reduceLT, reduceMul, reduceEq, Int.reduceLT, reduceLE, Int.reduceAdd, reduceSub, reduceToNat, UInt8.reduceToNat, e4, e7, ea, eb, ec, g5]
    refine hdo.mono ?_
    clear hdo
    intro x G7 hx7
    cases hd : doV n c with
    | error e =>
      rw [hd] at hx7 hv
      simp only at hv
      obtain ⟨rfl, hR7⟩ := hx7
      subst hv
      have he : ¬ e = 0 := doV_err hd
      have y2 : decide (¬ e = 0) = true := decide_eq_true he
      have g4 := hR7.sub _ _ g40
      simp -implicitDefEqProofs only [go_sem, reduceEqDiff, reduceAdd, reduceLeDiff, reduceLT, reduceMul, reduceEq, Int.reduceLT, reduceLE, Int.reduceAdd, reduceSub, reduceToNat, UInt8.reduceToNat, e4, e7, ea, eb, ec, y2, g4]
      exact Done.wk 3 (Done.drop (Heap.Sub.put' (fun i o hi => hR7.sub _ _ (hS i o hi)) n4 _) ⟨rfl, rfl⟩)
    | ok n2 =>
      rw [hd] at hx7 hv
      simp only at hv
      obtain ⟨rfl, hR7⟩ := hx7
      have y2 : decide (¬ (0 : Int) = 0) = false := rfl
      simp -implicitDefEqProofs only [go_sem, reduceEqDiff, reduceAdd, reduceLeDiff, reduceLT, reduceMul, reduceEq, Int.reduceLT, reduceLE, Int.reduceAdd, reduceSub, reduceToNat, UInt8.reduceToNat, e4, e7, ea, eb, ec, y2, ws]
      exact Again.mk (i + 1, n2) (by simp -implicitDefEqProofs only [go_sem, reduceEqDiff, reduceAdd, reduceLeDiff, reduceLT, reduceMul, reduceEq, Int.reduceLT, reduceLE, Int.reduceAdd, reduceSub, reduceToNat, UInt8.reduceToNat, e4, e7, ea, eb, ec]) ⟨by simp only; omega, doV_ok hM hd, hR7, hv⟩ (by simp only; omega)
  clear hR
  rintro r G ⟨n, hv, hM, hR, e4, e7⟩
  subst hv
  obtain ⟨⟨q1, q2, q3, q4⟩, -, -, -, -⟩ := hM.R
  have hma := machine_calls hR q1 q2 q3 q4
  have g4 := hR.sub _ _ g40
  simp -implicitDefEqProofs only [go_sem, reduceEqDiff, reduceAdd, reduceLeDiff, reduceLT, reduceMul, reduceEq, Int.reduceLT, reduceLE, Int.reduceAdd, reduceSub, reduceToNat, UInt8.reduceToNat, e4, e7]
  refine hma.pure_next _ ?_
  unfold encMac
  simp -implicitDefEqProofs only [go_sem, reduceEqDiff, reduceAdd, reduceLeDiff, reduceLT, reduceMul, reduceEq, Int.reduceLT, reduceLE, Int.reduceAdd, reduceSub, reduceToNat, UInt8.reduceToNat, e4, e7, g4]
  refine Done.drop (Heap.Sub.put' (fun i o hi => hR.sub _ _ (hS i o hi)) n4 _) ⟨rfl, rfl⟩
end Go.Proofs

/- The changes that lead from one machine to another do so: plain Lean, no program. -/
namespace Go.Proofs
open Go Go.Abs
set_option linter.unusedSimpArgs false
set_option linter.unusedVariables false
section
variable {α : Type} {key : α → Bytes}
theorem getK_filter {p : α → Bool} {k : Bytes} : ∀ {l : List α}, (l.map key).Nodup → getK key k (l.filter p) = match getK key k l with
    | some x => if p x = true then some x else none
    | none => none
  | [], _ => rfl
  | x :: l, hn => by
    rw [List.map_cons, List.nodup_cons] at hn
    have ih := getK_filter (p := p) (k := k) hn.2
    by_cases e : key x = k
    · subst e
      rw [getK_hit]
      simp only
      by_cases hp : p x = true
      · rw [List.filter_cons_of_pos hp, if_pos hp, getK_hit]
      · rw [List.filter_cons_of_neg hp, if_neg hp]
        unfold getK
        rw [List.find?_eq_none]
        intro y hy
        simp only [decide_eq_true_eq]
        intro e2
        exact hn.1 (by rw [← e2]; exact List.mem_map_of_mem (List.mem_filter.1 hy).1)
    · rw [getK_skip e, ← ih]
      by_cases hp : p x = true
      · rw [List.filter_cons_of_pos hp, getK_skip e]
      · rw [List.filter_cons_of_neg hp]
theorem putAll_get : ∀ (g : List α) {l : List α} (k : Bytes), Asc key l → (g.map key).Nodup → getK key k (putAll key g l) = match getK key k g with
    | some x => some x
    | none => getK key k l
  | [], l, k, _, _ => rfl
  | x :: g, l, k, h, hn => by
    rw [List.map_cons, List.nodup_cons] at hn
    show getK key k (putAll key g (putK key x l)) = _
    rw [putAll_get g k h.put hn.2, putK_get h]
    by_cases e : key x = k
    · subst e
      rw [getK_hit]
      have : getK key (key x) g = none := by
        unfold getK
        rw [List.find?_eq_none]
        intro y hy
        simp only [decide_eq_true_eq]
        intro e2
        exact hn.1 (by rw [← e2]; exact List.mem_map_of_mem hy)
      rw [this]
      simp
    · rw [getK_skip e, if_neg (fun h => e h.symm)]
theorem filter_nodup {p : α → Bool} {l : List α} (h : Asc key l) : ((l.filter p).map key).Nodup := Asc.nodup (List.Pairwise.filter _ h)
theorem any_getK {g : List α} {k : Bytes} : (g.any fun x => decide (key x = k)) = (getK key k g).isSome := by
  unfold getK
  rw [Bool.eq_iff_iff, List.any_eq_true, List.find?_isSome]
theorem diff_list [DecidableEq α] {a b : List α} (ha : Asc key a) (hb : Asc key b) : putAll key (comeV key a b) (delAll key (goneV key a b) a) = b := by
  refine Asc.ext_get (putAll_asc _ (delAll_asc _ ha)) hb fun k => ?_
  unfold comeV goneV
  rw [putAll_get _ k (delAll_asc _ ha) (filter_nodup hb), delAll_get, any_getK]
  rw [getK_filter hb.nodup, getK_filter ha.nodup]
  cases h1 : getK key k b with
  | some y =>
    have hy := getK_key h1
    simp only
    rw [hy]
    cases h2 : getK key k a with
    | some x =>
      have hx := getK_key h2
      simp only [hx, h1]
      by_cases e : x = y
      · simp [e]
      · simp [e]
    | none => simp
  | none =>
    simp only
    cases h2 : getK key k a with
    | some x =>
      have hx := getK_key h2
      simp [hx, h1]
    | none => simp
theorem nodup_sub : ∀ {l m : List Bytes}, l.Nodup → (∀ x ∈ l, x ∈ m) → l.length ≤ m.length
  | [], m, _, _ => Nat.zero_le _
  | x :: l, m, hn, h => by
    rw [List.nodup_cons] at hn
    have hx := h x (List.mem_cons_self ..)
    have ih := nodup_sub (m := m.erase x) hn.2 fun y hy => by
      have hne : y ≠ x := fun e => hn.1 (e ▸ hy)
      exact (List.mem_erase_of_ne hne).2 (h y (List.mem_cons_of_mem _ hy))
    rw [List.length_erase_of_mem hx] at ih
    have := List.length_pos_of_mem hx
    simp only [List.length_cons]
    omega
/-- All keys are keys of these. -/
def KeysIn (key : α → Bytes) (l B : List α) : Prop := ∀ x ∈ l, key x ∈ B.map key
theorem KeysIn.put {l B : List α} {x : α} (h : KeysIn key l B) (hx : x ∈ B) : KeysIn key (putK key x l) B := fun y hy => by
  rcases putK_mem hy with e | hy
  · rw [e]; exact List.mem_map_of_mem hx
  · exact h y hy
theorem KeysIn.room {l B : List α} {x : α} (h : KeysIn key l B) (hl : Asc key l) (hx : x ∈ B) (hg : getK key (key x) l = none) : l.length < B.length := by
  have hn : (key x :: l.map key).Nodup := by
    rw [List.nodup_cons]
    refine ⟨fun hm => ?_, hl.nodup⟩
    obtain ⟨y, hy, e⟩ := List.mem_map.1 hm
    unfold getK at hg
    rw [List.find?_eq_none] at hg
    have := hg y hy
    simp [e] at this
  have := nodup_sub (m := B.map key) hn fun k hk => by
    rcases List.mem_cons.1 hk with e | hk
    · rw [e]; exact List.mem_map_of_mem hx
    · obtain ⟨y, hy, e⟩ := List.mem_map.1 hk
      rw [← e]; exact h y hy
  simp only [List.length_cons, List.length_map] at this
  omega
theorem isNone_get {o : Option α} (h : o.isNone = true) : o = none := by cases o with | none => rfl | some x => cases h
theorem some_del {l : List α} {k : Bytes} {x : α} (h : (getK key k l).isSome = true) (hne : ¬ k = key x) : (getK key k (delK key (key x) l)).isSome = true := by rw [delK_get, if_neg hne]; exact h
end
theorem chg_rmF {x : FileV} (h : pathB x.path = true) : chgErr (rmF x) = 0 := by
  unfold chgErr rmF
  simp [partErr, pathErr, h, kept]
theorem chg_rmS {x : SetV} (h : pathB x.key = true) : chgErr (rmS x) = 0 := by
  unfold chgErr rmS
  simp [partErr, pathErr, h, kept]
theorem chg_rmV {x : SvcV} (h : nameB x.name = true) : chgErr (rmV x) = 0 := by
  unfold chgErr rmV
  simp [partErr, nameErr, h, kept]
theorem chg_ptF {x : FileV} (h : fileErr x = 0) : chgErr (ptF x) = 0 := by
  unfold chgErr ptF
  simp [partErr, h, kept]
theorem chg_ptS {x : SetV} (h : setErr x = 0) : chgErr (ptS x) = 0 := by
  unfold chgErr ptS
  simp [partErr, h, kept]
theorem chg_ptV {x : SvcV} (h : svcErr x = 0) : chgErr (ptV x) = 0 := by
  unfold chgErr ptV
  simp [partErr, h, kept]
theorem do_rmF : ∀ (g : List FileV) (m : MacV), (∀ x ∈ g, pathB x.path = true) → (g.map (·.path)).Nodup → (∀ x ∈ g, (getK (·.path) x.path m.files).isSome = true) → doAll m (g.map rmF) = .ok { m with files := delAll (·.path) g m.files }
  | [], m, _, _, _ => rfl
  | x :: g, m, h1, h2, h3 => by
    rw [List.map_cons, List.nodup_cons] at h2
    have hd : doV m (rmF x) = .ok { m with files := delK (·.path) x.path m.files } := by
      have hc := chg_rmF (h1 x (List.mem_cons_self ..))
      unfold rmF at hc ⊢
      unfold doV
      simp only
      rw [if_neg (by simp [hc]), if_pos True.intro, if_pos (h3 x (List.mem_cons_self ..))]
    rw [List.map_cons, doAll, hd]
    simp only
    rw [do_rmF g _ (fun y hy => h1 y (List.mem_cons_of_mem _ hy)) h2.2 fun y hy => some_del (key := fun z : FileV => z.path) (h3 y (List.mem_cons_of_mem _ hy)) fun e => h2.1 (by rw [← e]; exact List.mem_map_of_mem hy)]
    rfl
theorem do_rmS : ∀ (g : List SetV) (m : MacV), (∀ x ∈ g, pathB x.key = true) → (g.map (·.key)).Nodup → (∀ x ∈ g, (getK (·.key) x.key m.sets).isSome = true) → doAll m (g.map rmS) = .ok { m with sets := delAll (·.key) g m.sets }
  | [], m, _, _, _ => rfl
  | x :: g, m, h1, h2, h3 => by
    rw [List.map_cons, List.nodup_cons] at h2
    have hd : doV m (rmS x) = .ok { m with sets := delK (·.key) x.key m.sets } := by
      have hc := chg_rmS (h1 x (List.mem_cons_self ..))
      unfold rmS at hc ⊢
      unfold doV
      simp only
      rw [if_neg (by simp [hc]), if_neg (by decide), if_pos True.intro, if_pos (h3 x (List.mem_cons_self ..))]
    rw [List.map_cons, doAll, hd]
    simp only
    rw [do_rmS g _ (fun y hy => h1 y (List.mem_cons_of_mem _ hy)) h2.2 fun y hy => some_del (key := fun z : SetV => z.key) (h3 y (List.mem_cons_of_mem _ hy)) fun e => h2.1 (by rw [← e]; exact List.mem_map_of_mem hy)]
    rfl
theorem do_rmV : ∀ (g : List SvcV) (m : MacV), (∀ x ∈ g, nameB x.name = true) → (g.map (·.name)).Nodup → (∀ x ∈ g, (getK (·.name) x.name m.svcs).isSome = true) → doAll m (g.map rmV) = .ok { m with svcs := delAll (·.name) g m.svcs }
  | [], m, _, _, _ => rfl
  | x :: g, m, h1, h2, h3 => by
    rw [List.map_cons, List.nodup_cons] at h2
    have hd : doV m (rmV x) = .ok { m with svcs := delK (·.name) x.name m.svcs } := by
      have hc := chg_rmV (h1 x (List.mem_cons_self ..))
      unfold rmV at hc ⊢
      unfold doV
      simp only
      rw [if_neg (by simp [hc]), if_neg (by decide), if_neg (by decide), if_pos True.intro, if_pos (h3 x (List.mem_cons_self ..))]
    rw [List.map_cons, doAll, hd]
    simp only
    rw [do_rmV g _ (fun y hy => h1 y (List.mem_cons_of_mem _ hy)) h2.2 fun y hy => some_del (key := fun z : SvcV => z.name) (h3 y (List.mem_cons_of_mem _ hy)) fun e => h2.1 (by rw [← e]; exact List.mem_map_of_mem hy)]
    rfl
theorem do_ptF (B : List FileV) (hB : Apart B) (hlen : B.length ≤ 2000) (he : ∀ x ∈ B, fileErr x = 0) : ∀ (g : List FileV) (m : MacV), (∀ x ∈ g, x ∈ B) → Asc (·.path) m.files → KeysIn (·.path) m.files B → doAll m (g.map ptF) = .ok { m with files := putAll (·.path) g m.files }
  | [], m, _, _, _ => rfl
  | x :: g, m, h1, h2, h3 => by
    have hx := h1 x (List.mem_cons_self ..)
    have hcf : conflictV m.files x.path = false := by
      unfold conflictV
      rw [List.any_eq_false]
      intro f hf
      obtain ⟨y, hy, e⟩ := List.mem_map.1 (h3 f hf)
      simp only at e
      rw [← e, hB y hy x hx, hB x hx y hy]
      simp
    have hd : doV m (ptF x) = .ok { m with files := putK (·.path) x m.files } := by
      have hc := chg_ptF (he x hx)
      unfold ptF at hc ⊢
      unfold doV
      simp only
      rw [if_neg (by simp [hc]), if_neg (by decide), if_neg (by decide), if_neg (by decide), if_pos True.intro, if_neg (by rw [hcf]; simp), if_neg]
      · rintro ⟨a, b⟩
        have := h3.room h2 hx (isNone_get a)
        omega
    rw [List.map_cons, doAll, hd]
    simp only
    rw [do_ptF B hB hlen he g _ (fun y hy => h1 y (List.mem_cons_of_mem _ hy)) h2.put (h3.put hx)]
    rfl
theorem do_ptS (B : List SetV) (hlen : B.length ≤ 2000) (he : ∀ x ∈ B, setErr x = 0) : ∀ (g : List SetV) (m : MacV), (∀ x ∈ g, x ∈ B) → Asc (·.key) m.sets → KeysIn (·.key) m.sets B → doAll m (g.map ptS) = .ok { m with sets := putAll (·.key) g m.sets }
  | [], m, _, _, _ => rfl
  | x :: g, m, h1, h2, h3 => by
    have hx := h1 x (List.mem_cons_self ..)
    have hd : doV m (ptS x) = .ok { m with sets := putK (·.key) x m.sets } := by
      have hc := chg_ptS (he x hx)
      unfold ptS at hc ⊢
      unfold doV
      simp only
      rw [if_neg (by simp [hc]), if_neg (by decide), if_neg (by decide), if_neg (by decide), if_neg (by decide), if_pos True.intro, if_neg]
      · rintro ⟨a, b⟩
        have := h3.room h2 hx (isNone_get a)
        omega
    rw [List.map_cons, doAll, hd]
    simp only
    rw [do_ptS B hlen he g _ (fun y hy => h1 y (List.mem_cons_of_mem _ hy)) h2.put (h3.put hx)]
    rfl
theorem do_ptV (B : List SvcV) (hlen : B.length ≤ 100) (he : ∀ x ∈ B, svcErr x = 0) : ∀ (g : List SvcV) (m : MacV), (∀ x ∈ g, x ∈ B) → Asc (·.name) m.svcs → KeysIn (·.name) m.svcs B → doAll m (g.map ptV) = .ok { m with svcs := putAll (·.name) g m.svcs }
  | [], m, _, _, _ => rfl
  | x :: g, m, h1, h2, h3 => by
    have hx := h1 x (List.mem_cons_self ..)
    have hd : doV m (ptV x) = .ok { m with svcs := putK (·.name) x m.svcs } := by
      have hc := chg_ptV (he x hx)
      unfold ptV at hc ⊢
      unfold doV
      simp only
      rw [if_neg (by simp [hc]), if_neg (by decide), if_neg (by decide), if_neg (by decide), if_neg (by decide), if_neg (by decide), if_neg]
      · rintro ⟨a, b⟩
        have := h3.room h2 hx (isNone_get a)
        omega
    rw [List.map_cons, doAll, hd]
    simp only
    rw [do_ptV B hlen he g _ (fun y hy => h1 y (List.mem_cons_of_mem _ hy)) h2.put (h3.put hx)]
    rfl
section
variable {α : Type} {key : α → Bytes}
theorem gone_some {a b : List α} (ha : Asc key a) {x : α} (hx : x ∈ goneV key a b) : (getK key (key x) a).isSome = true := by
  obtain ⟨i, hi⟩ := List.getElem?_of_mem (List.mem_filter.1 hx).1
  rw [getK_at ha hi]; rfl
theorem gone_keys {a b : List α} (ha : Asc key a) : KeysIn key (delAll key (goneV key a b) a) b := fun x hx => by
  obtain ⟨i, hi⟩ := List.getElem?_of_mem hx
  have h1 := getK_at (delAll_asc (goneV key a b) ha) hi
  rw [delAll_get, any_getK] at h1
  unfold goneV at h1
  rw [getK_filter ha.nodup] at h1
  cases h2 : getK key (key x) a with
  | none => rw [h2] at h1; simp at h1
  | some y =>
    have hy := getK_key h2
    rw [h2] at h1
    simp only [hy] at h1
    cases h3 : getK key (key x) b with
    | none => rw [h3] at h1; simp at h1
    | some z =>
      have hz := getK_key h3
      rw [← hz]
      exact List.mem_map_of_mem (List.mem_of_find?_eq_some h3)
end
/-- The changes lead there. -/
theorem diff_leads {a b : MacV} (ha : MacOK a) (hb : MacOK b) (hf : a.facts = b.facts) : doAll a (diffV a b) = .ok b := by
  unfold diffV
  rw [doAll_append, doAll_append, doAll_append, doAll_append, doAll_append]
  have s1 := do_rmF (goneV (·.path) a.files b.files) a (fun x hx => (fileErr_ok (ha.e2 x (List.mem_filter.1 hx).1)).1) (filter_nodup ha.a2) (fun x hx => gone_some (key := fun z : FileV => z.path) ha.a2 hx)
  rw [s1]
  have s2 := do_rmS (goneV (·.key) a.sets b.sets) { a with files := delAll (·.path) (goneV (·.path) a.files b.files) a.files } (fun x hx => (setErr_ok (ha.e3 x (List.mem_filter.1 hx).1)).1) (filter_nodup ha.a3) (fun x hx => gone_some (key := fun z : SetV => z.key) ha.a3 hx)
  simp only at s2 ⊢
  rw [s2]
  have s3 := do_rmV (goneV (·.name) a.svcs b.svcs) { a with files := delAll (·.path) (goneV (·.path) a.files b.files) a.files, sets := delAll (·.key) (goneV (·.key) a.sets b.sets) a.sets } (fun x hx => (svcErr_ok (ha.e4 x (List.mem_filter.1 hx).1)).1) (filter_nodup ha.a4) (fun x hx => gone_some (key := fun z : SvcV => z.name) ha.a4 hx)
  simp only at s3 ⊢
  rw [s3]
  have s4 := do_ptF b.files hb.ap hb.l2 hb.e2 (comeV (·.path) a.files b.files) { a with files := delAll (·.path) (goneV (·.path) a.files b.files) a.files, sets := delAll (·.key) (goneV (·.key) a.sets b.sets) a.sets, svcs := delAll (·.name) (goneV (·.name) a.svcs b.svcs) a.svcs } (fun x hx => (List.mem_filter.1 hx).1) (delAll_asc _ ha.a2) (gone_keys ha.a2)
  simp only at s4 ⊢
  rw [s4]
  have s5 := do_ptS b.sets hb.l3 hb.e3 (comeV (·.key) a.sets b.sets) { a with files := putAll (·.path) (comeV (·.path) a.files b.files) (delAll (·.path) (goneV (·.path) a.files b.files) a.files), sets := delAll (·.key) (goneV (·.key) a.sets b.sets) a.sets, svcs := delAll (·.name) (goneV (·.name) a.svcs b.svcs) a.svcs } (fun x hx => (List.mem_filter.1 hx).1) (delAll_asc _ ha.a3) (gone_keys ha.a3)
  simp only at s5 ⊢
  rw [s5]
  have s6 := do_ptV b.svcs hb.l4 hb.e4 (comeV (·.name) a.svcs b.svcs) { a with files := putAll (·.path) (comeV (·.path) a.files b.files) (delAll (·.path) (goneV (·.path) a.files b.files) a.files), sets := putAll (·.key) (comeV (·.key) a.sets b.sets) (delAll (·.key) (goneV (·.key) a.sets b.sets) a.sets), svcs := delAll (·.name) (goneV (·.name) a.svcs b.svcs) a.svcs } (fun x hx => (List.mem_filter.1 hx).1) (delAll_asc _ ha.a4) (gone_keys ha.a4)
  simp only at s6 ⊢
  rw [s6]
  rw [diff_list ha.a2 hb.a2, diff_list ha.a3 hb.a3, diff_list ha.a4 hb.a4, hf]
theorem diff_R {a b : MacV} (ha : MacOK a) (hb : MacOK b) : ∀ c ∈ diffV a b, chgR c := by
  have zf : fileR FileV.zero := by decide
  have zs : setR SetV.zero := by decide
  have zv : svcR SvcV.zero := by decide
  obtain ⟨-, -, ra2, ra3, ra4⟩ := ha.R
  obtain ⟨-, -, rb2, rb3, rb4⟩ := hb.R
  intro c hc
  unfold diffV at hc
  simp only [List.mem_append, List.mem_map] at hc
  rcases hc with ((((⟨x, hx, rfl⟩ | ⟨x, hx, rfl⟩) | ⟨x, hx, rfl⟩) | ⟨x, hx, rfl⟩) | ⟨x, hx, rfl⟩) | ⟨x, hx, rfl⟩
  · exact ⟨⟨(ra2 x (List.mem_filter.1 hx).1).1, by simp [rmF]⟩, zs, zv⟩
  · exact ⟨zf, ⟨(ra3 x (List.mem_filter.1 hx).1).1, by simp [rmS]⟩, zv⟩
  · exact ⟨zf, zs, (ra4 x (List.mem_filter.1 hx).1).1, by simp [rmV]⟩
  · exact ⟨rb2 x (List.mem_filter.1 hx).1, zs, zv⟩
  · exact ⟨zf, rb3 x (List.mem_filter.1 hx).1, zv⟩
  · exact ⟨zf, zs, rb4 x (List.mem_filter.1 hx).1⟩
theorem diff_len {a b : MacV} (ha : MacOK a) (hb : MacOK b) : (diffV a b).length ≤ 10000 := by
  have h1 := List.length_filter_le (fun x : FileV => (getK (·.path) x.path b.files).isNone) a.files
  have h2 := List.length_filter_le (fun x : SetV => (getK (·.key) x.key b.sets).isNone) a.sets
  have h3 := List.length_filter_le (fun x : SvcV => (getK (·.name) x.name b.svcs).isNone) a.svcs
  have h4 := List.length_filter_le (fun x : FileV => decide (getK (·.path) x.path a.files ≠ some x)) b.files
  have h5 := List.length_filter_le (fun x : SetV => decide (getK (·.key) x.key a.sets ≠ some x)) b.sets
  have h6 := List.length_filter_le (fun x : SvcV => decide (getK (·.name) x.name a.svcs ≠ some x)) b.svcs
  have := ha.l2; have := ha.l3; have := ha.l4; have := hb.l2; have := hb.l3; have := hb.l4
  unfold diffV goneV comeV
  simp only [List.length_append, List.length_map]
  omega
end Go.Proofs

/- Lists that grow beside others. -/
namespace Go.Proofs
open Go Go.Abs
set_option linter.unusedSimpArgs false
set_option linter.unusedVariables false
set_option maxRecDepth 20000
/-- Two lists have not the same room. -/
def tokNe (t u : Tail) : Prop := ∀ i k ty k' ty', t = .tok i k ty → u ≠ .tok i k' ty'
theorem tokNe.symm {t u : Tail} (h : tokNe t u) : tokNe u t := fun i k ty k' ty' h1 h2 => h i k' ty' k ty h2 h1
theorem tokNe_exact (t : Tail) : tokNe .exact t := fun i k ty k' ty' h => by cases h
/-- What one list's growing leaves: all but its room. -/
def Grows (G G' : Heap) (tl tl' : Tail) : Prop := (∀ i o, G i = some o → (∀ k ty, tl ≠ .tok i k ty) → G' i = some o) ∧ (∀ i k ty, tl' = .tok i k ty → G i = none)
theorem AppG.step2 {et : Option TypeId} {H G : Heap} {e : TI} {acc new : List (List AV)} {tl : Tail} {K : K1} (h : AppG H G e.size acc tl) (hu : Unif e.size acc) (hn : new ≠ [])
    (h1 : (acc.length + new.length) * e.bytes ≤ 140737488355328) (h2 : acc.length + new.length ≤ 4611686018427387904)
    (hK : ∀ tl' G', AppG H G' e.size (acc ++ new) tl' → Grows G G' tl tl' → K (.sl (acc ++ new) tl') G') : appK et false e (.sl acc tl) new G K := by
  have hnone : ∀ id', G id' = none → H id' = none := fun id' hid' => sub_none h.1 hid'
  rcases h.2 with rfl | ⟨id, ty, rfl, h3, h4⟩
  · refine app_exact hu h1 h2 (fun e => absurd e hn) (fun _ id' hid' => ?_)
    refine hK _ _ ⟨h.1.put' (hnone _ hid') _, .inr ⟨id', _, rfl, hnone _ hid', put_same _ _ _⟩⟩ ⟨fun i o hi _ => ?_, fun i k ty e => by cases e; exact hid'⟩
    have : ¬ i = id' := fun e => by subst e; rw [hid'] at hi; cases hi
    rw [put_ne _ _ _ _ this]; exact hi
  · refine app_tok hu h4 h1 h2 (fun id' hid' => ?_)
    refine hK _ _ ⟨?_, .inr ⟨id', _, rfl, hnone _ hid', put_same _ _ _⟩⟩ ⟨fun i o hi hno => ?_, fun i k ty e => by cases e; exact hid'⟩
    · refine Heap.Sub.put' (fun i o hi => ?_) (hnone _ hid') _
      have : ¬ i = id := fun e => by subst e; rw [h3] at hi; cases hi
      show (if i = id then none else G i) = some o
      rw [if_neg this]; exact h.1 i o hi
    · have a1 : ¬ i = id' := fun e => by subst e; rw [hid'] at hi; cases hi
      have a2 : ¬ i = id := fun e => by subst e; exact hno _ _ rfl
      rw [put_ne _ _ _ _ a1]
      show (if i = id then none else G i) = some o
      rw [if_neg a2]; exact hi
theorem Grows.cells {H G G' : Heap} {k : Nat} {acc : List (List AV)} {tl tl' : Tail} (h : Grows G G' tl tl') (ha : AppG H G k acc tl) {i : Nat} {cs : List AV} (hi : G i = some (.cells cs)) : G' i = some (.cells cs) := by
  refine h.1 i _ hi (fun k ty e => ?_)
  rcases ha.2 with h2 | ⟨id, ty2, h2, h3, h4⟩
  · rw [e] at h2; cases h2
  · rw [e] at h2; cases h2; rw [hi] at h4; cases h4
theorem Grows.other {H G G' : Heap} {k2 : Nat} {acc2 : List (List AV)} {tl tl' u : Tail} (h : Grows G G' tl tl') (hs : H.Sub G') (ha : AppG H G k2 acc2 u) (hne : tokNe u tl) : AppG H G' k2 acc2 u ∧ tokNe u tl' := by
  rcases ha.2 with rfl | ⟨id, ty2, rfl, h3, h4⟩
  · exact ⟨⟨hs, .inl rfl⟩, tokNe_exact _⟩
  · refine ⟨⟨hs, .inr ⟨id, ty2, rfl, h3, h.1 id _ h4 (fun k ty e => hne id _ _ _ _ rfl e)⟩⟩, fun i k ty k' ty' e1 e2 => ?_⟩
    cases e1
    have := h.2 _ _ _ e2
    rw [h4] at this; cases this
theorem _root_.Go.Abs.AppG.set {H G : Heap} {k : Nat} {acc : List (List AV)} {tl : Tail} (h : AppG H G k acc tl) {id : Nat} (hid : H id = none) {cs : List AV} (ho : G id = some (.cells cs)) (o' : AObj) : AppG H (G.put id o') k acc tl := by
  refine ⟨h.1.put' hid o', ?_⟩
  rcases h.2 with h2 | ⟨i, ty, h2, h3, h4⟩
  · exact .inl h2
  · have : ¬ i = id := fun e => by subst e; rw [h4] at ho; cases ho
    exact .inr ⟨i, ty, h2, h3, by rw [put_ne _ _ _ _ this]; exact h4⟩
end Go.Proofs
