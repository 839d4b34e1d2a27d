/- Walks: the pairs of equal lines, on the reference's side. -/
import Derived.Test.YtnheonhmnepifaaDoorLN5
namespace Go.Proofs
open Go Go.Abs
set_option linter.unusedSimpArgs false
set_option linter.unusedVariables false
set_option maxRecDepth 20000
/-- Pairs that are met one by one. -/
def Gr {α : Type} [DecidableEq α] (x y : List α) : Nat → List (Nat × Nat) → Prop
  | _, [] => True
  | j, p :: l => ∃ a, x[p.1]? = some a ∧ j ≤ p.2 ∧ idx a (y.drop j) = some (p.2 - j) ∧ Gr x y (p.2 + 1) l
theorem prs_gr {α : Type} [DecidableEq α] (X Y : List α) : ∀ (x : List α) (i k : Nat), X.drop i = x → Gr X Y k (prs i k x (Y.drop k))
  | [], i, k, _ => trivial
  | a :: x, i, k, h => by
    have h1 : X[i]? = some a := by
      have := congrArg List.head? h
      rwa [List.head?_drop] at this
    have h2 : X.drop (i + 1) = x := by
      have := congrArg List.tail h
      rwa [List.tail_drop] at this
    have hskip : Gr X Y k (prs (i + 1) k x (Y.drop k)) := prs_gr X Y x (i + 1) k h2
    cases hi : idx a (Y.drop k) with
    | none => rw [prs_none hi]; exact hskip
    | some n =>
      by_cases hc : 1 + lcs x ((Y.drop k).drop (n + 1)) = lcs (a :: x) (Y.drop k)
      · rw [prs_take hi hc, List.drop_drop]
        refine ⟨a, h1, by simp, ?_, ?_⟩
        · simp only; rw [hi]; congr 1; omega
        · exact prs_gr X Y x (i + 1) (k + n + 1) h2
      · rw [prs_skip hi hc]; exact hskip
theorem Gr.lt {α : Type} [DecidableEq α] {x y : List α} : ∀ {l : List (Nat × Nat)} {j : Nat}, Gr x y j l → ∀ p ∈ l, p.1 < x.length ∧ p.2 < y.length
  | [], _, _, p, h => by cases h
  | q :: l, j, ⟨a, h1, h2, h3, h4⟩, p, h => by
    rcases List.mem_cons.1 h with rfl | h
    · have := idx_lt h3
      rw [List.length_drop] at this
      exact ⟨(List.getElem?_eq_some_iff.1 h1).1, by omega⟩
    · exact h4.lt p h
theorem TabG.sub2 {H G G' : Heap} {T n w : Nat} {ids : List Nat} {c : Nat → Nat → Nat} (h : TabG H G T ids n w c) (hs : G.Sub G') : TabG H G' T ids n w c :=
  ⟨fun i o hi => hs i o (h.sub i o hi), h.nT, h.le, hs _ _ h.tab, fun i d hi => ⟨(h.row i d hi).1, (h.row i d hi).2.1, hs _ _ (h.row i d hi).2.2⟩, h.nd⟩
theorem fitsV_none {a b : List Bytes} {pl : List Nat} {i k : Nat} {xi : Bytes} {left : Int} (hg : gpos b 0 (elems a pl) = some k) (hx : a[i]? = some xi) (h : idx xi (b.drop k) = none) : fitsV a b (pl ++ [i]) i left = false := by
  have e : elems a (pl ++ [i]) = elems a pl ++ [xi] := by simp [elems, List.getD, hx]
  unfold fitsV
  rw [e, gpos_one hg, h]
theorem fitsV_some {a b : List Bytes} {pl : List Nat} {i k n : Nat} {xi : Bytes} {left : Int} (hg : gpos b 0 (elems a pl) = some k) (hx : a[i]? = some xi) (h : idx xi (b.drop k) = some n) : fitsV a b (pl ++ [i]) i left = decide (left ≤ (lcs (a.drop (i + 1)) (b.drop (k + n + 1)) : Int)) := by
  have e : elems a (pl ++ [i]) = elems a pl ++ [xi] := by simp [elems, List.getD, hx]
  unfold fitsV
  rw [e, gpos_one hg, h]
theorem gpos_step {a b : List Bytes} {pl : List Nat} {i k n : Nat} {xi : Bytes} (hg : gpos b 0 (elems a pl) = some k) (hx : a[i]? = some xi) (h : idx xi (b.drop k) = some n) : gpos b 0 (elems a (pl ++ [i])) = some (k + n + 1) := by
  have e : elems a (pl ++ [i]) = elems a pl ++ [xi] := by simp [elems, List.getD, hx]
  rw [e, gpos_one hg, h]
set_option maxHeartbeats 6400000 in
theorem pairs_calls (a b : List Bytes) (t1 t2 : Tail) (H : Heap) (hx : a.length ≤ 1000) (hy : b.length ≤ 1000) :
    ACalls Tryd.prog 14 [.sl (a.map encS) t1, .sl (b.map encS) t2] H fun v H' => v = .sl ((prs 0 0 a b).map encP) .unk ∧ H' = H := by
  have wa : IntKind.i64.wrap ((a.length : Int) + 1) = ((a.length + 1 : Nat) : Int) := by rw [Go.IntWalk.i64_in _ (by omega)]; omega
  have wb : IntKind.i64.wrap ((b.length : Int) + 1) = ((b.length + 1 : Nat) : Int) := by rw [Go.IntWalk.i64_in _ (by omega)]; omega
  have wa1 : IntKind.i64.wrap ((a.length : Int) - 1) = (a.length : Int) - 1 := Go.IntWalk.i64_in _ (by omega)
  have wb1 : IntKind.i64.wrap ((b.length : Int) - 1) = (b.length : Int) - 1 := Go.IntWalk.i64_in _ (by omega)
  have hS0 : H.Sub H := Heap.Sub.rfl' H
  have hal := hx
  have hbl := hy
  refine ACalls.of_code (X := { pure := pu0 }) pu0_ok Tryd.func14 (by kernel_rfl) rfl (by kernel_rfl) (Nat.le_of_ble_eq_true rfl) ?_
  simp -implicitDefEqProofs only [go_sem, tys, regs0, Nat.reduceEqDiff, Nat.reduceAdd, Nat.reduceLeDiff, Nat.reduceLT, Nat.reduceMul, Int.natCast_one, Int.natCast_zero, Int.reduceEq, Int.reduceLT, Int.reduceLE, Int.reduceAdd, Int.reduceSub, Int.reduceToNat, UInt8.reduceToNat, Tryd.f14, wa]
  with_reducible refine makeSlice_ms (e := tiInts) ?_ ?_ ?_ ?_ ?_ ?_
  · simp -implicitDefEqProofs only [go_sem, tys, regs0, Nat.reduceEqDiff, Nat.reduceAdd, Nat.reduceLeDiff, Nat.reduceLT, Nat.reduceMul, Int.natCast_one, Int.natCast_zero, Int.reduceEq, Int.reduceLT, Int.reduceLE, Int.reduceAdd, Int.reduceSub, Int.reduceToNat, UInt8.reduceToNat]
  · decide
  · omega
  · simp only []; omega
  · omega
  intro T hT
  have hz : (List.replicate ((a.length + 1 : Nat) : Int).toNat (tiInts.zero.cells)).flatten = fillL (.sl [] .exact) [] (a.length + 1) := by
    rw [Int.toNat_natCast, fillL]
    simp [AV.cells, List.flatten_replicate_singleton]
  rw [hz, Int.toNat_natCast]
  have hT0 := TabG.new (w := b.length + 1) (n := a.length + 1) (c := fun _ _ => 0) hS0 hT
  simp -implicitDefEqProofs only [go_sem, tys, regs0, Nat.reduceEqDiff, Nat.reduceAdd, Nat.reduceLeDiff, Nat.reduceLT, Nat.reduceMul, Int.natCast_one, Int.natCast_zero, Int.reduceEq, Int.reduceLT, Int.reduceLE, Int.reduceAdd, Int.reduceSub, Int.reduceToNat, UInt8.reduceToNat]
  refine aloop_intro (σ := List Nat) (fun ids => [(0, .sl (a.map encS) t1), (1, .sl (b.map encS) t2), (5, .int .i64 (a.length : Int)), (6, .int .i64 (b.length : Int)), (7, .ms T 0 (a.length + 1) 1), (26, .int .i64 ((a.length + 1 : Nat) : Int)), (27, .int .i64 ids.length)])
    (fun ids G => TabG H G T ids (a.length + 1) (b.length + 1) (fun _ _ => 0)) (fun ids => a.length + 1 - ids.length) [] ?_ ?_ ?_
  · simp -implicitDefEqProofs only [go_sem, tys, regs0, Nat.reduceEqDiff, Nat.reduceAdd, Nat.reduceLeDiff, Nat.reduceLT, Nat.reduceMul, Int.natCast_one, Int.natCast_zero, Int.reduceEq, Int.reduceLT, Int.reduceLE, Int.reduceAdd, Int.reduceSub, Int.reduceToNat, UInt8.reduceToNat]
  · exact hT0
  · clear hT0 hT hS0
    intro ids r G hv hT
    have h0 := hv.1
    have h1 := hv.2.1
    have h5 := hv.2.2.1
    have h6 := hv.2.2.2.1
    have h7 := hv.2.2.2.2.1
    have h26 := hv.2.2.2.2.2.1
    have h27 := hv.2.2.2.2.2.2.1
    clear hv
    simp -implicitDefEqProofs only [go_sem, tys, regs0, Nat.reduceEqDiff, Nat.reduceAdd, Nat.reduceLeDiff, Nat.reduceLT, Nat.reduceMul, Int.natCast_one, Int.natCast_zero, Int.reduceEq, Int.reduceLT, Int.reduceLE, Int.reduceAdd, Int.reduceSub, Int.reduceToNat, UInt8.reduceToNat, h0, h1, h5, h6, h7, h26, h27]
    refine cnd_intro (fun g => ?_) (fun g => ?_)
    · simp only [decide_eq_true_eq] at g
      have hlt : ids.length < a.length + 1 := by omega
      have w : IntKind.i64.wrap ((ids.length : Int) + 1) = ((ids.length + 1 : Nat) : Int) := by rw [Go.IntWalk.i64_in _ (by omega)]; omega
      simp -implicitDefEqProofs only [go_sem, tys, regs0, Nat.reduceEqDiff, Nat.reduceAdd, Nat.reduceLeDiff, Nat.reduceLT, Nat.reduceMul, Int.natCast_one, Int.natCast_zero, Int.reduceEq, Int.reduceLT, Int.reduceLE, Int.reduceAdd, Int.reduceSub, Int.reduceToNat, UInt8.reduceToNat, h0, h1, h5, h6, h7, h26, h27, wb]
      with_reducible refine makeSlice_ms (e := tiI64) ?_ ?_ ?_ ?_ ?_ ?_
      · simp -implicitDefEqProofs only [go_sem, tys, regs0, Nat.reduceEqDiff, Nat.reduceAdd, Nat.reduceLeDiff, Nat.reduceLT, Nat.reduceMul, Int.natCast_one, Int.natCast_zero, Int.reduceEq, Int.reduceLT, Int.reduceLE, Int.reduceAdd, Int.reduceSub, Int.reduceToNat, UInt8.reduceToNat]
      · decide
      · omega
      · simp only []; omega
      · omega
      intro d hd
      have hdT : ¬ T = d := fun e => by subst e; rw [hT.tab] at hd; cases hd
      have hz2 : (List.replicate ((b.length + 1 : Nat) : Int).toNat (tiI64.zero.cells)).flatten = rowC (b.length + 1) (fun _ => 0) := by
        rw [Int.toNat_natCast]; exact rowC_zero _
      have hadd := hT.add hlt hd
      have hset := fillL_set (z := AV.sl [] .exact) (done := ids.map fun d => AV.ms d 0 (b.length + 1) 1) (n := a.length + 1) (by simpa using hlt) (.ms d 0 (b.length + 1) 1)
      rw [List.length_map] at hset
      have hfl := fillL_len (z := AV.sl [] .exact) (done := ids.map fun d => AV.ms d 0 (b.length + 1) 1) (n := a.length + 1) (by simp; omega)
      have e2 : ids.map (fun d => AV.ms d 0 (b.length + 1) 1) ++ [AV.ms d 0 (b.length + 1) 1] = (ids ++ [d]).map fun d => AV.ms d 0 (b.length + 1) 1 := by simp
      rw [e2] at hset
      rw [hz2, Int.toNat_natCast]
      have htab := hT.tab
      simp -implicitDefEqProofs (disch := omega) only [go_sem, tys, regs0, Nat.reduceEqDiff, Nat.reduceAdd, Nat.reduceLeDiff, Nat.reduceLT, Nat.reduceMul, Int.natCast_one, Int.natCast_zero, Int.reduceEq, Int.reduceLT, Int.reduceLE, Int.reduceAdd, Int.reduceSub, Int.reduceToNat, UInt8.reduceToNat, Go.IntWalk.i64_in, h0, h1, h5, h6, h7, h26, h27, put_ne, hdT, htab, Int.toNat_natCast, Nat.mul_one, Nat.zero_add, hset, hfl, w]
      refine ⟨by omega, by omega, ?_⟩
      exact Again.mk (ids ++ [d]) (by simp -implicitDefEqProofs only [go_sem, tys, regs0, Nat.reduceEqDiff, Nat.reduceAdd, Nat.reduceLeDiff, Nat.reduceLT, Nat.reduceMul, Int.natCast_one, Int.natCast_zero, Int.reduceEq, Int.reduceLT, Int.reduceLE, Int.reduceAdd, Int.reduceSub, Int.reduceToNat, UInt8.reduceToNat, h0, h1, h5, h6, h7, h26, h27]; simp) hadd (by simp; omega)
    · simp only [decide_eq_false_iff_not] at g
      have hle := hT.le
      have hlen : ids.length = a.length + 1 := by omega
      simp -implicitDefEqProofs only [go_sem, tys, regs0, Nat.reduceEqDiff, Nat.reduceAdd, Nat.reduceLeDiff, Nat.reduceLT, Nat.reduceMul, Int.natCast_one, Int.natCast_zero, Int.reduceEq, Int.reduceLT, Int.reduceLE, Int.reduceAdd, Int.reduceSub, Int.reduceToNat, UInt8.reduceToNat, h0, h1, h5, h6, h7, wa1]
      refine aloop_intro (σ := Nat) (fun p => [(0, .sl (a.map encS) t1), (1, .sl (b.map encS) t2), (5, .int .i64 (a.length : Int)), (6, .int .i64 (b.length : Int)), (7, .ms T 0 (a.length + 1) 1), (9, .int .i64 ((p : Int) - 1))])
        (fun p G => TabG H G T ids (a.length + 1) (b.length + 1) (cT a b p (b.length + 1)) ∧ p ≤ a.length) (fun p => p) a.length ?_ ?_ ?_
      · simp -implicitDefEqProofs only [go_sem, tys, regs0, Nat.reduceEqDiff, Nat.reduceAdd, Nat.reduceLeDiff, Nat.reduceLT, Nat.reduceMul, Int.natCast_one, Int.natCast_zero, Int.reduceEq, Int.reduceLT, Int.reduceLE, Int.reduceAdd, Int.reduceSub, Int.reduceToNat, UInt8.reduceToNat, h0, h1, h5, h6, h7]
      · refine ⟨hT.congr fun i k hi hk => ?_, Nat.le_refl _⟩
        unfold cT
        split
        · have e1 : a.drop i = [] ∨ b.drop k = [] := by
            by_cases h : a.length ≤ i
            · exact .inl (List.drop_eq_nil_of_le h)
            · exact .inr (List.drop_eq_nil_of_le (by omega))
          rcases e1 with e1 | e1
          · rw [e1, lcs_nil]
          · rw [e1, lcs_nil']
        · rfl
      · clear hT h0 h1 h5 h6 h7 h26 h27
        rintro p r G hv ⟨hT, hp⟩
        have h0 := hv.1
        have h1 := hv.2.1
        have h5 := hv.2.2.1
        have h6 := hv.2.2.2.1
        have h7 := hv.2.2.2.2.1
        have h9 := hv.2.2.2.2.2.1
        clear hv
        simp -implicitDefEqProofs only [go_sem, tys, regs0, Nat.reduceEqDiff, Nat.reduceAdd, Nat.reduceLeDiff, Nat.reduceLT, Nat.reduceMul, Int.natCast_one, Int.natCast_zero, Int.reduceEq, Int.reduceLT, Int.reduceLE, Int.reduceAdd, Int.reduceSub, Int.reduceToNat, UInt8.reduceToNat, h0, h1, h5, h6, h7, h9]
        refine cnd_intro (fun g => ?_) (fun g => ?_)
        · simp only [decide_eq_true_eq] at g
          obtain ⟨i, rfl⟩ : ∃ i, p = i + 1 := ⟨p - 1, by omega⟩
          have e0 : (((i + 1 : Nat) : Int) - 1) = (i : Int) := by omega
          rw [e0] at h9
          obtain ⟨xi, hxi⟩ : ∃ c, a[i]? = some c := getD_get' (by omega)
          have wi : IntKind.i64.wrap ((i : Int) + 1) = ((i + 1 : Nat) : Int) := by rw [Go.IntWalk.i64_in _ (by omega)]; omega
          have wi1 : IntKind.i64.wrap ((i : Int) - 1) = (i : Int) - 1 := Go.IntWalk.i64_in _ (by omega)
          simp -implicitDefEqProofs only [go_sem, tys, regs0, Nat.reduceEqDiff, Nat.reduceAdd, Nat.reduceLeDiff, Nat.reduceLT, Nat.reduceMul, Int.natCast_one, Int.natCast_zero, Int.reduceEq, Int.reduceLT, Int.reduceLE, Int.reduceAdd, Int.reduceSub, Int.reduceToNat, UInt8.reduceToNat, h0, h1, h5, h6, h7, h9, wb1]
          refine aloop_intro (σ := Nat) (fun q => [(0, .sl (a.map encS) t1), (1, .sl (b.map encS) t2), (5, .int .i64 (a.length : Int)), (6, .int .i64 (b.length : Int)), (7, .ms T 0 (a.length + 1) 1), (9, .int .i64 (i : Int)), (10, .int .i64 ((q : Int) - 1))])
            (fun q G => TabG H G T ids (a.length + 1) (b.length + 1) (cT a b (i + 1) q) ∧ q ≤ b.length) (fun q => q) b.length ?_ ?_ ?_
          · simp -implicitDefEqProofs only [go_sem, tys, regs0, Nat.reduceEqDiff, Nat.reduceAdd, Nat.reduceLeDiff, Nat.reduceLT, Nat.reduceMul, Int.natCast_one, Int.natCast_zero, Int.reduceEq, Int.reduceLT, Int.reduceLE, Int.reduceAdd, Int.reduceSub, Int.reduceToNat, UInt8.reduceToNat, h0, h1, h5, h6, h7, h9]
          · refine ⟨hT.congr fun i' k hi hk => ?_, Nat.le_refl _⟩
            unfold cT
            by_cases e : i' + 1 = i + 1 ∧ k = b.length
            · rw [if_neg (by omega), if_pos (by omega), e.2, List.drop_length, lcs_nil']
            · by_cases e1 : i + 1 ≤ i' ∨ i' + 1 = i + 1 ∧ b.length ≤ k
              · rw [if_pos e1, if_pos (by omega)]
              · rw [if_neg e1, if_neg (by omega)]
          · clear hT h0 h1 h5 h6 h7 h9
            rintro q r G hv ⟨hT, hq⟩
            have h0 := hv.1
            have h1 := hv.2.1
            have h5 := hv.2.2.1
            have h6 := hv.2.2.2.1
            have h7 := hv.2.2.2.2.1
            have h9 := hv.2.2.2.2.2.1
            have h10 := hv.2.2.2.2.2.2.1
            clear hv
            simp -implicitDefEqProofs only [go_sem, tys, regs0, Nat.reduceEqDiff, Nat.reduceAdd, Nat.reduceLeDiff, Nat.reduceLT, Nat.reduceMul, Int.natCast_one, Int.natCast_zero, Int.reduceEq, Int.reduceLT, Int.reduceLE, Int.reduceAdd, Int.reduceSub, Int.reduceToNat, UInt8.reduceToNat, h0, h1, h5, h6, h7, h9, h10]
            refine cnd_intro (fun g2 => ?_) (fun g2 => ?_)
            · simp only [decide_eq_true_eq] at g2
              obtain ⟨k, rfl⟩ : ∃ k, q = k + 1 := ⟨q - 1, by omega⟩
              have e1 : (((k + 1 : Nat) : Int) - 1) = (k : Int) := by omega
              rw [e1] at h10
              obtain ⟨yk, hyk⟩ : ∃ c, b[k]? = some c := getD_get' (by omega)
              have wk1 : IntKind.i64.wrap ((k : Int) + 1) = ((k + 1 : Nat) : Int) := by rw [Go.IntWalk.i64_in _ (by omega)]; omega
              have wk2 : IntKind.i64.wrap ((k : Int) - 1) = (k : Int) - 1 := Go.IntWalk.i64_in _ (by omega)
              have c1 : cT a b (i + 1) (k + 1) (i + 1) k = lcs (a.drop (i + 1)) (b.drop k) := cT_lcs (by omega)
              have c2 : cT a b (i + 1) (k + 1) i (k + 1) = lcs (a.drop i) (b.drop (k + 1)) := cT_lcs (by omega)
              have c3 : cT a b (i + 1) (k + 1) (i + 1) (k + 1) = lcs (a.drop (i + 1)) (b.drop (k + 1)) := cT_lcs (by omega)
              have hone := cT_one hxi hyk
              have hst := cT_step a b i k
              have hlc := (lcs_le (a.drop (i + 1)) (b.drop (k + 1))).2
              rw [List.length_drop] at hlc
              have htab := hT.tab
              obtain ⟨d, hd, hdh, hdG⟩ := hT.at hlen (i := i) (by omega)
              obtain ⟨d', hd', hdh', hdG'⟩ := hT.at hlen (i := i + 1) (by omega)
              have hne : ¬ d' = d := fun e => by
                subst e
                have := (List.getElem?_inj (List.getElem?_eq_some_iff.1 hd').1 hT.nd).1 (hd'.trans hd.symm)
                omega
              generalize cT a b (i + 1) (k + 1) = c at *
              have r1 := rowC_head (w := b.length + 1) (c := c (i + 1)) (k := k) (by omega)
              have r2 := rowC_head (w := b.length + 1) (c := c i) (k := k + 1) (by omega)
              have r3 := rowC_head (w := b.length + 1) (c := c (i + 1)) (k := k + 1) (by omega)
              have hT1 := hT.set (k := k) (v := max (c (i + 1) k) (c i (k + 1))) hd
              have m1 : max ((c (i + 1) k : Nat) : Int) ((c i (k + 1) : Nat) : Int) = ((max (c (i + 1) k) (c i (k + 1)) : Nat) : Int) := by omega
              have hdT : ¬ T = d := fun e => (hT.row i d hd).2.1 e.symm
              have l1 : (i : Int) < ((a.length + 1 : Nat) : Int) := by omega
              have l2 : ((i + 1 : Nat) : Int) < ((a.length + 1 : Nat) : Int) := by omega
              have l3 : (k : Int) < ((b.length + 1 : Nat) : Int) := by omega
              have l4 : ((k + 1 : Nat) : Int) < ((b.length + 1 : Nat) : Int) := by omega
              have l5 : k + 1 ≤ b.length + 1 := by omega
              simp -implicitDefEqProofs only [go_sem, tys, regs0, Nat.reduceEqDiff, Nat.reduceAdd, Nat.reduceLeDiff, Nat.reduceLT, Nat.reduceMul, Int.natCast_one, Int.natCast_zero, Int.reduceEq, Int.reduceLT, Int.reduceLE, Int.reduceAdd, Int.reduceSub, Int.reduceToNat, UInt8.reduceToNat, h0, h1, h5, h6, h7, h9, h10, htab, wi, wk1, hdh, hdh', hdG, hdG', r1, r2, m1, rowC_set, Int.toNat_natCast, Nat.mul_one, Nat.zero_add, l1, l2, l3, l4, rowC_len, l5, hxi, hyk, encS]
              generalize G.put d (.cells (rowC (b.length + 1) (fun j => if j = k then max (c (i + 1) k) (c i (k + 1)) else c i j))) = G1 at *
              have htab1 := hT1.tab
              have hdG1 := (hT1.row i d hd).2.2
              have hdG1' := (hT1.row (i + 1) d' hd').2.2
              have r4 := rowC_head (w := b.length + 1) (c := fun k' => if i = i ∧ k' = k then max (c (i + 1) k) (c i (k + 1)) else c i k') (k := k) (by omega)
              have r5 := rowC_head (w := b.length + 1) (c := fun k' => if i + 1 = i ∧ k' = k then max (c (i + 1) k) (c i (k + 1)) else c (i + 1) k') (k := k + 1) (by omega)
              have n1 : ¬ i + 1 = i := by omega
              have n2 : ¬ k + 1 = k := by omega
              simp only [n1, n2, false_and, and_false, true_and, if_true, if_false] at r4 r5 hdG1 hdG1'
              by_cases exy : xi = yk
              · have y1 : decide (xi = yk) = true := decide_eq_true exy
                rw [if_pos exy] at hone
                have wc : IntKind.i64.wrap (1 + ((c (i + 1) (k + 1) : Nat) : Int)) = ((1 + c (i + 1) (k + 1) : Nat) : Int) := by rw [Go.IntWalk.i64_in _ (by omega)]; omega
                have m2 : max ((max (c (i + 1) k) (c i (k + 1)) : Nat) : Int) ((1 + c (i + 1) (k + 1) : Nat) : Int) = ((max (max (c (i + 1) k) (c i (k + 1))) (1 + c (i + 1) (k + 1)) : Nat) : Int) := by omega
                have hT2 := hT1.set (k := k) (v := max (max (c (i + 1) k) (c i (k + 1))) (1 + c (i + 1) (k + 1))) hd
                simp only [true_and] at hT2
                simp -implicitDefEqProofs only [go_sem, tys, regs0, Nat.reduceEqDiff, Nat.reduceAdd, Nat.reduceLeDiff, Nat.reduceLT, Nat.reduceMul, Int.natCast_one, Int.natCast_zero, Int.reduceEq, Int.reduceLT, Int.reduceLE, Int.reduceAdd, Int.reduceSub, Int.reduceToNat, UInt8.reduceToNat, h0, h1, h5, h6, h7, h9, h10, y1, htab1, wi, wk1, wk2, wc, hdh, hdh', hdG1, hdG1', r4, r5, m2, rowC_set, Int.toNat_natCast, Nat.mul_one, Nat.zero_add, l1, l2, l3, l4, rowC_len, l5, n2]
                refine Again.mk k (by simp -implicitDefEqProofs only [go_sem, tys, regs0, Nat.reduceEqDiff, Nat.reduceAdd, Nat.reduceLeDiff, Nat.reduceLT, Nat.reduceMul, Int.natCast_one, Int.natCast_zero, Int.reduceEq, Int.reduceLT, Int.reduceLE, Int.reduceAdd, Int.reduceSub, Int.reduceToNat, UInt8.reduceToNat, h0, h1, h5, h6, h7, h9, h10]) ⟨hT2.congr fun i' k' hi' hk' => ?_, by omega⟩ (by omega)
                rw [← hst i' k', hone, c1, c2, c3]
                by_cases e2 : i' = i ∧ k' = k
                · rw [if_pos e2, if_pos e2]
                · rw [if_neg e2, if_neg e2, if_neg e2]
              · have y1 : decide (xi = yk) = false := decide_eq_false exy
                rw [if_neg exy] at hone
                simp -implicitDefEqProofs only [go_sem, tys, regs0, Nat.reduceEqDiff, Nat.reduceAdd, Nat.reduceLeDiff, Nat.reduceLT, Nat.reduceMul, Int.natCast_one, Int.natCast_zero, Int.reduceEq, Int.reduceLT, Int.reduceLE, Int.reduceAdd, Int.reduceSub, Int.reduceToNat, UInt8.reduceToNat, h0, h1, h5, h6, h7, h9, h10, y1, wk2]
                refine Again.mk k (by simp -implicitDefEqProofs only [go_sem, tys, regs0, Nat.reduceEqDiff, Nat.reduceAdd, Nat.reduceLeDiff, Nat.reduceLT, Nat.reduceMul, Int.natCast_one, Int.natCast_zero, Int.reduceEq, Int.reduceLT, Int.reduceLE, Int.reduceAdd, Int.reduceSub, Int.reduceToNat, UInt8.reduceToNat, h0, h1, h5, h6, h7, h9, h10]) ⟨hT1.congr fun i' k' hi' hk' => ?_, by omega⟩ (by omega)
                rw [← hst i' k', hone, c1, c2]
            · simp only [decide_eq_false_iff_not] at g2
              have e : q = 0 := by omega
              subst e
              simp -implicitDefEqProofs only [go_sem, tys, regs0, Nat.reduceEqDiff, Nat.reduceAdd, Nat.reduceLeDiff, Nat.reduceLT, Nat.reduceMul, Int.natCast_one, Int.natCast_zero, Int.reduceEq, Int.reduceLT, Int.reduceLE, Int.reduceAdd, Int.reduceSub, Int.reduceToNat, UInt8.reduceToNat, h0, h1, h5, h6, h7, h9, h10, wi1]
              refine Again.mk i (by simp -implicitDefEqProofs only [go_sem, tys, regs0, Nat.reduceEqDiff, Nat.reduceAdd, Nat.reduceLeDiff, Nat.reduceLT, Nat.reduceMul, Int.natCast_one, Int.natCast_zero, Int.reduceEq, Int.reduceLT, Int.reduceLE, Int.reduceAdd, Int.reduceSub, Int.reduceToNat, UInt8.reduceToNat, h0, h1, h5, h6, h7, h9, h10]) ⟨hT.congr fun i' k' hi' hk' => ?_, by omega⟩ (by omega)
              unfold cT
              by_cases e1 : i + 1 ≤ i' ∨ i' + 1 = i + 1 ∧ 0 ≤ k'
              · rw [if_pos e1, if_pos (by omega)]
              · rw [if_neg e1, if_neg (by omega)]
        · simp only [decide_eq_false_iff_not] at g
          have e : p = 0 := by omega
          subst e
          have hT := hT.congr (c' := fun i k => lcs (a.drop i) (b.drop k)) fun i k hi hk => by rw [cT_lcs (by omega)]
          have hA0 : AppOK H G 1 (([] : List Nat).map encN) .exact := AppOK.nil hT.sub
          have htab := hT.tab
          obtain ⟨d, hd, hdh, hdG⟩ := hT.at hlen (i := 0) (by omega)
          have r1 := rowC_head (w := b.length + 1) (c := fun k => lcs (a.drop 0) (b.drop k)) (k := 0) (by omega)
          rw [List.drop_zero] at hdh
          simp only [List.drop_zero] at r1 hdG
          have l1 : (0 : Int) < ((a.length + 1 : Nat) : Int) := by omega
          have l2 : (0 : Int) < ((b.length + 1 : Nat) : Int) := by omega
          simp -implicitDefEqProofs only [go_sem, tys, regs0, Nat.reduceEqDiff, Nat.reduceAdd, Nat.reduceLeDiff, Nat.reduceLT, Nat.reduceMul, Int.natCast_one, Int.natCast_zero, Int.reduceEq, Int.reduceLT, Int.reduceLE, Int.reduceAdd, Int.reduceSub, Int.reduceToNat, UInt8.reduceToNat, h0, h1, h5, h6, h7, h9, htab, hdh, hdG, r1, l1, l2, Int.toNat_zero, Nat.mul_one, Nat.zero_add, Nat.zero_mul, Int.le_refl]
          refine aloop_intro (σ := Nat × Nat × List (Nat × Nat) × Tail) (fun s => [(0, .sl (a.map encS) t1), (1, .sl (b.map encS) t2), (7, .ms T 0 (a.length + 1) 1), (11, .sl ((s.2.2.1.map (·.1)).map encN) s.2.2.2), (12, .int .i64 (s.1 : Int)), (13, .int .i64 (lcs (a.drop s.1) (b.drop s.2.1) : Int))])
            (fun s G => AppOK H G 1 ((s.2.2.1.map (·.1)).map encN) s.2.2.2 ∧ TabG H G T ids (a.length + 1) (b.length + 1) (fun i k => lcs (a.drop i) (b.drop k)) ∧ s.1 ≤ a.length ∧ s.2.1 ≤ b.length ∧ s.2.2.1 ++ prs s.1 s.2.1 (a.drop s.1) (b.drop s.2.1) = prs 0 0 a b ∧ s.2.2.1.length ≤ s.1 ∧ gpos b 0 (elems a (s.2.2.1.map (·.1))) = some s.2.1 ∧ ∀ p ∈ s.2.2.1, p.1 < a.length) (fun s => a.length - s.1) (0, 0, [], .exact) ?_ ?_ ?_
          · simp -implicitDefEqProofs only [go_sem, tys, regs0, Nat.reduceEqDiff, Nat.reduceAdd, Nat.reduceLeDiff, Nat.reduceLT, Nat.reduceMul, Int.natCast_one, Int.natCast_zero, Int.reduceEq, Int.reduceLT, Int.reduceLE, Int.reduceAdd, Int.reduceSub, Int.reduceToNat, UInt8.reduceToNat, h0, h1, h7]
          · exact ⟨hA0, hT, Nat.zero_le _, Nat.zero_le _, rfl, Nat.le_refl _, rfl, by simp⟩
          · clear hT hA0 h0 h1 h5 h6 h7 h9 htab hd hdh hdG r1 l1 l2
            rintro ⟨i, k, ps, tl⟩ r G hv ⟨hA, hT, hi, hk, hM, ho, hg, hm⟩
            have h0 := hv.1
            have h1 := hv.2.1
            have h7 := hv.2.2.1
            have h11 := hv.2.2.2.1
            have h12 := hv.2.2.2.2.1
            have h13 := hv.2.2.2.2.2.1
            clear hv
            simp only at h0 h1 h7 h11 h12 h13 hA hT hi hk hM ho hg hm
            simp -implicitDefEqProofs only [go_sem, tys, regs0, Nat.reduceEqDiff, Nat.reduceAdd, Nat.reduceLeDiff, Nat.reduceLT, Nat.reduceMul, Int.natCast_one, Int.natCast_zero, Int.reduceEq, Int.reduceLT, Int.reduceLE, Int.reduceAdd, Int.reduceSub, Int.reduceToNat, UInt8.reduceToNat, h0, h1, h7, h11, h12, h13]
            refine cnd_intro (fun g3 => ?_) (fun g3 => ?_)
            · simp only [decide_eq_true_eq] at g3
              have hia : i < a.length := by
                have := (lcs_le (a.drop i) (b.drop k)).1
                rw [List.length_drop] at this
                omega
              have hlb := (lcs_le (a.drop i) (b.drop k)).2
              rw [List.length_drop] at hlb
              obtain ⟨xi, hxi⟩ : ∃ c, a[i]? = some c := getD_get' hia
              have hda := drop_get hxi
              have wi : IntKind.i64.wrap ((i : Int) + 1) = ((i + 1 : Nat) : Int) := by rw [Go.IntWalk.i64_in _ (by omega)]; omega
              have wl : IntKind.i64.wrap ((lcs (a.drop i) (b.drop k) : Int) - 1) = (lcs (a.drop i) (b.drop k) : Int) - 1 := Go.IntWalk.i64_in _ (by omega)
              have hplen : (ps.map (·.1)).length ≤ 999 := by rw [List.length_map]; omega
              have hpm : ∀ j ∈ ps.map (·.1) ++ [i], j < a.length := by
                intro j hj
                rcases List.mem_append.1 hj with h | h
                · obtain ⟨p, hp, rfl⟩ := List.mem_map.1 h
                  exact hm p hp
                · rw [List.mem_singleton] at h; rw [h]; exact hia
              have hfn := fun (h : idx xi (b.drop k) = none) => fitsV_none (left := (lcs (a.drop i) (b.drop k) : Int) - 1) hg hxi h
              have hfs := fun n (h : idx xi (b.drop k) = some n) => fitsV_some (left := (lcs (a.drop i) (b.drop k) : Int) - 1) hg hxi h
              have hgs := fun n (h : idx xi (b.drop k) = some n) => gpos_step hg hxi h
              generalize hpl : ps.map (·.1) = pl at *
              simp -implicitDefEqProofs only [go_sem, tys, regs0, Nat.reduceEqDiff, Nat.reduceAdd, Nat.reduceLeDiff, Nat.reduceLT, Nat.reduceMul, Int.natCast_one, Int.natCast_zero, Int.reduceEq, Int.reduceLT, Int.reduceLE, Int.reduceAdd, Int.reduceSub, Int.reduceToNat, UInt8.reduceToNat, h0, h1, h7, h11, h12, h13]
              refine cloneN_calls pl tl G (by omega) (fun tl1 G1 hA1 => ?_)
              simp -implicitDefEqProofs only [go_sem, tys, regs0, Nat.reduceEqDiff, Nat.reduceAdd, Nat.reduceLeDiff, Nat.reduceLT, Nat.reduceMul, Int.natCast_one, Int.natCast_zero, Int.reduceEq, Int.reduceLT, Int.reduceLE, Int.reduceAdd, Int.reduceSub, Int.reduceToNat, UInt8.reduceToNat, h0, h1, h7, h11, h12, h13]
              refine AppOK.step hA1 (encN_unif pl) (by simp) (by simp; omega) (by simp; omega) (fun tl2 G2 hA2 hK2 => ?_)
              have e2 : pl.map encN ++ [[AV.int .i64 (i : Int)]] = (pl ++ [i]).map encN := by rw [List.map_append]; rfl
              rw [e2] at hA2 ⊢
              have hT2 := hT.sub2 hA2.sub
              have hA' := hA.sub2 hA2.sub
              simp -implicitDefEqProofs only [go_sem, tys, regs0, Nat.reduceEqDiff, Nat.reduceAdd, Nat.reduceLeDiff, Nat.reduceLT, Nat.reduceMul, Int.natCast_one, Int.natCast_zero, Int.reduceEq, Int.reduceLT, Int.reduceLE, Int.reduceAdd, Int.reduceSub, Int.reduceToNat, UInt8.reduceToNat, h0, h1, h7, h11, h12, h13, wl]
              refine (fits_calls a b (pl ++ [i]) i ((lcs (a.drop i) (b.drop k) : Int) - 1) t1 t2 tl2 hT2 hlen hx hy (by simp; omega) hpm (by simp)).next1 ?_
              cases hix : idx xi (b.drop k) with
              | none =>
                rw [hfn hix]
                rw [hda, prs_none hix] at hM
                have hl2 := lcs_none (x := a.drop (i + 1)) hix
                rw [← hda] at hl2
                simp -implicitDefEqProofs only [go_sem, tys, regs0, Nat.reduceEqDiff, Nat.reduceAdd, Nat.reduceLeDiff, Nat.reduceLT, Nat.reduceMul, Int.natCast_one, Int.natCast_zero, Int.reduceEq, Int.reduceLT, Int.reduceLE, Int.reduceAdd, Int.reduceSub, Int.reduceToNat, UInt8.reduceToNat, h0, h1, h7, h11, h12, h13, wi]
                exact Again.mk (i + 1, k, ps, tl) (by simp -implicitDefEqProofs only [go_sem, tys, regs0, Nat.reduceEqDiff, Nat.reduceAdd, Nat.reduceLeDiff, Nat.reduceLT, Nat.reduceMul, Int.natCast_one, Int.natCast_zero, Int.reduceEq, Int.reduceLT, Int.reduceLE, Int.reduceAdd, Int.reduceSub, Int.reduceToNat, UInt8.reduceToNat, h0, h1, h7, h11, h12, h13, hl2, hpl]) ⟨by simp only; rw [hpl]; exact hA', hT2, by simp only; omega, hk, hM, by simp only; omega, by simp only; rw [hpl]; exact hg, hm⟩ (by simp only; omega)
              | some n =>
                have hn := idx_lt hix
                rw [List.length_drop] at hn
                have hdd : (b.drop k).drop (n + 1) = b.drop (k + n + 1) := by rw [List.drop_drop]; rfl
                have hge := lcs_ge (x := a.drop (i + 1)) hix
                rw [← hda, hdd] at hge
                rw [hfs n hix]
                by_cases hc : 1 + lcs (a.drop (i + 1)) (b.drop (k + n + 1)) = lcs (a.drop i) (b.drop k)
                · have y1 : decide ((lcs (a.drop i) (b.drop k) : Int) - 1 ≤ (lcs (a.drop (i + 1)) (b.drop (k + n + 1)) : Int)) = true := decide_eq_true (by omega)
                  have el : (lcs (a.drop i) (b.drop k) : Int) - 1 = (lcs (a.drop (i + 1)) (b.drop (k + n + 1)) : Int) := by omega
                  have hM2 := hM
                  rw [hda, prs_take hix (by rw [hdd, ← hda]; exact hc), hdd] at hM2
                  simp -implicitDefEqProofs only [go_sem, tys, regs0, Nat.reduceEqDiff, Nat.reduceAdd, Nat.reduceLeDiff, Nat.reduceLT, Nat.reduceMul, Int.natCast_one, Int.natCast_zero, Int.reduceEq, Int.reduceLT, Int.reduceLE, Int.reduceAdd, Int.reduceSub, Int.reduceToNat, UInt8.reduceToNat, h0, h1, h7, h11, h12, h13, y1]
                  refine AppOK.step hA' (encN_unif pl) (by simp) (by simp; omega) (by simp; omega) (fun tl3 G3 hA3 hK3 => ?_)
                  rw [e2] at hA3 ⊢
                  rw [el] at wl
                  have hpl2 : (ps ++ [(i, k + n)]).map (·.1) = pl ++ [i] := by rw [List.map_append, hpl]; rfl
                  simp -implicitDefEqProofs only [go_sem, tys, regs0, Nat.reduceEqDiff, Nat.reduceAdd, Nat.reduceLeDiff, Nat.reduceLT, Nat.reduceMul, Int.natCast_one, Int.natCast_zero, Int.reduceEq, Int.reduceLT, Int.reduceLE, Int.reduceAdd, Int.reduceSub, Int.reduceToNat, UInt8.reduceToNat, h0, h1, h7, h11, h12, h13, el, wl, wi]
                  exact Again.mk (i + 1, k + n + 1, ps ++ [(i, k + n)], tl3) (by simp -implicitDefEqProofs only [go_sem, tys, regs0, Nat.reduceEqDiff, Nat.reduceAdd, Nat.reduceLeDiff, Nat.reduceLT, Nat.reduceMul, Int.natCast_one, Int.natCast_zero, Int.reduceEq, Int.reduceLT, Int.reduceLE, Int.reduceAdd, Int.reduceSub, Int.reduceToNat, UInt8.reduceToNat, h0, h1, h7, h11, h12, h13, hpl2]) ⟨by simp only; rw [hpl2]; exact hA3, hT2.kept hA3.sub hK3, by simp only; omega, by simp only; omega, by simp only; rw [← hM2]; simp, by simp; omega, by simp only; rw [hpl2]; exact hgs n hix, fun p hp => by
                    rcases List.mem_append.1 hp with h | h
                    · exact hm p h
                    · rw [List.mem_singleton] at h; rw [h]; exact hia⟩ (by simp only; omega)
                · have y1 : decide ((lcs (a.drop i) (b.drop k) : Int) - 1 ≤ (lcs (a.drop (i + 1)) (b.drop (k + n + 1)) : Int)) = false := decide_eq_false (by omega)
                  have hM2 := hM
                  have hc' : ¬ 1 + lcs (a.drop (i + 1)) ((b.drop k).drop (n + 1)) = lcs (xi :: a.drop (i + 1)) (b.drop k) := by rw [hdd, ← hda]; exact hc
                  rw [hda, prs_skip hix hc'] at hM2
                  have hl2 := lcs_skip hix hc'
                  rw [← hda] at hl2
                  simp -implicitDefEqProofs only [go_sem, tys, regs0, Nat.reduceEqDiff, Nat.reduceAdd, Nat.reduceLeDiff, Nat.reduceLT, Nat.reduceMul, Int.natCast_one, Int.natCast_zero, Int.reduceEq, Int.reduceLT, Int.reduceLE, Int.reduceAdd, Int.reduceSub, Int.reduceToNat, UInt8.reduceToNat, h0, h1, h7, h11, h12, h13, wi, y1]
                  exact Again.mk (i + 1, k, ps, tl) (by simp -implicitDefEqProofs only [go_sem, tys, regs0, Nat.reduceEqDiff, Nat.reduceAdd, Nat.reduceLeDiff, Nat.reduceLT, Nat.reduceMul, Int.natCast_one, Int.natCast_zero, Int.reduceEq, Int.reduceLT, Int.reduceLE, Int.reduceAdd, Int.reduceSub, Int.reduceToNat, UInt8.reduceToNat, h0, h1, h7, h11, h12, h13, hl2, hpl]) ⟨by simp only; rw [hpl]; exact hA', hT2, by simp only; omega, hk, hM2, by simp only; omega, by simp only; rw [hpl]; exact hg, hm⟩ (by simp only; omega)
            · simp only [decide_eq_false_iff_not] at g3
              have hz : lcs (a.drop i) (b.drop k) = 0 := by omega
              rw [prs_zero _ _ _ _ hz, List.append_nil] at hM
              have hgr : Gr a b 0 ps := by rw [hM]; exact prs_gr a b a 0 0 rfl
              have hal := hA.sub
              have hA0 : AppOK H G 2 (([] : List (Nat × Nat)).map encP) .exact := AppOK.nil hA.sub
              have hps : ps.length ≤ 1000 := by omega
              rw [← hM]
              clear hM hT hg hA
              simp -implicitDefEqProofs only [go_sem, tys, regs0, Nat.reduceEqDiff, Nat.reduceAdd, Nat.reduceLeDiff, Nat.reduceLT, Nat.reduceMul, Int.natCast_one, Int.natCast_zero, Int.reduceEq, Int.reduceLT, Int.reduceLE, Int.reduceAdd, Int.reduceSub, Int.reduceToNat, UInt8.reduceToNat, h0, h1, h7, h11, h12, h13]
              refine aloop_intro (σ := Nat × Nat × Tail) (fun s => [(0, .sl (a.map encS) t1), (1, .sl (b.map encS) t2), (14, .sl ((ps.take s.1).map encP) s.2.2), (15, .int .i64 (s.2.1 : Int)), (131, .sl ((ps.map (·.1)).map encN) tl), (132, .int .i64 ps.length), (133, .int .i64 (s.1 : Int))])
                (fun s G => AppOK H G 2 ((ps.take s.1).map encP) s.2.2 ∧ s.1 ≤ ps.length ∧ Gr a b s.2.1 (ps.drop s.1)) (fun s => ps.length - s.1) (0, 0, .exact) ?_ ?_ ?_
              · simp -implicitDefEqProofs only [go_sem, tys, regs0, Nat.reduceEqDiff, Nat.reduceAdd, Nat.reduceLeDiff, Nat.reduceLT, Nat.reduceMul, Int.natCast_one, Int.natCast_zero, Int.reduceEq, Int.reduceLT, Int.reduceLE, Int.reduceAdd, Int.reduceSub, Int.reduceToNat, UInt8.reduceToNat, h0, h1, h11]
              · exact ⟨hA0, Nat.zero_le _, hgr⟩
              · clear hA0 hgr h0 h1 h7 h11 h12 h13
                rintro ⟨t, j, tl2⟩ r G hv ⟨hA, ht, hgr⟩
                have h0 := hv.1
                have h1 := hv.2.1
                have h14 := hv.2.2.1
                have h15 := hv.2.2.2.1
                have h131 := hv.2.2.2.2.1
                have h132 := hv.2.2.2.2.2.1
                have h133 := hv.2.2.2.2.2.2.1
                clear hv
                simp only at h0 h1 h14 h15 h131 h132 h133 hA ht hgr
                simp -implicitDefEqProofs only [go_sem, tys, regs0, Nat.reduceEqDiff, Nat.reduceAdd, Nat.reduceLeDiff, Nat.reduceLT, Nat.reduceMul, Int.natCast_one, Int.natCast_zero, Int.reduceEq, Int.reduceLT, Int.reduceLE, Int.reduceAdd, Int.reduceSub, Int.reduceToNat, UInt8.reduceToNat, h0, h1, h14, h15, h131, h132, h133]
                refine cnd_intro (fun g4 => ?_) (fun g4 => ?_)
                · simp only [decide_eq_true_eq] at g4
                  obtain ⟨p, hp⟩ : ∃ p, ps[t]? = some p := getD_get' (by omega)
                  rw [drop_get hp] at hgr
                  obtain ⟨xa, hxa, hjp, hix, hgr2⟩ := hgr
                  have hlt := idx_lt hix
                  rw [List.length_drop] at hlt
                  have hsome := idx_some hix
                  have wt : IntKind.i64.wrap ((t : Int) + 1) = ((t + 1 : Nat) : Int) := by rw [Go.IntWalk.i64_in _ (by omega)]; omega
                  have hpt : (ps.take (t + 1)).map encP = (ps.take t).map encP ++ [encP p] := by rw [List.take_add_one, hp, List.map_append]; rfl
                  simp -implicitDefEqProofs only [go_sem, tys, regs0, Nat.reduceEqDiff, Nat.reduceAdd, Nat.reduceLeDiff, Nat.reduceLT, Nat.reduceMul, Int.natCast_one, Int.natCast_zero, Int.reduceEq, Int.reduceLT, Int.reduceLE, Int.reduceAdd, Int.reduceSub, Int.reduceToNat, UInt8.reduceToNat, h0, h1, h14, h15, h131, h132, h133, hp, encN, List.getElem?_map]
                  refine aloop_intro (σ := Nat) (fun m => [(0, .sl (a.map encS) t1), (1, .sl (b.map encS) t2), (14, .sl ((ps.take t).map encP) tl2), (15, .int .i64 ((j + m : Nat) : Int)), (17, .int .i64 (p.1 : Int)), (131, .sl ((ps.map (·.1)).map encN) tl), (132, .int .i64 ps.length), (133, .int .i64 (t : Int))])
                    (fun m G2 => G2 = G ∧ j + m ≤ p.2) (fun m => p.2 - m) 0 ?_ ?_ ?_
                  · simp -implicitDefEqProofs only [go_sem, tys, regs0, Nat.reduceEqDiff, Nat.reduceAdd, Nat.reduceLeDiff, Nat.reduceLT, Nat.reduceMul, Int.natCast_one, Int.natCast_zero, Int.reduceEq, Int.reduceLT, Int.reduceLE, Int.reduceAdd, Int.reduceSub, Int.reduceToNat, UInt8.reduceToNat, h0, h1, h14, h15, h131, h132, h133]
                  · exact ⟨rfl, by omega⟩
                  · clear h0 h1 h14 h15 h131 h132 h133
                    rintro m r G2 hv ⟨rfl, hmy⟩
                    have h0 := hv.1
                    have h1 := hv.2.1
                    have h14 := hv.2.2.1
                    have h15 := hv.2.2.2.1
                    have h17 := hv.2.2.2.2.1
                    have h131 := hv.2.2.2.2.2.1
                    have h132 := hv.2.2.2.2.2.2.1
                    have h133 := hv.2.2.2.2.2.2.2.1
                    clear hv
                    obtain ⟨yb, hyb⟩ : ∃ y, b[j + m]? = some y := getD_get' (by omega)
                    have wj : IntKind.i64.wrap (((j + m : Nat) : Int) + 1) = ((j + (m + 1) : Nat) : Int) := by rw [Go.IntWalk.i64_in _ (by omega)]; omega
                    by_cases c1 : j + m = p.2
                    · have hyx : yb = xa := by
                        have h3 := hsome.1
                        rw [List.getElem?_drop, show j + (p.2 - j) = j + m by omega, hyb] at h3
                        exact Option.some.inj h3
                      have y1 : decide (¬ yb = xa) = false := decide_eq_false (by simpa using hyx)
                      simp -implicitDefEqProofs only [go_sem, tys, regs0, Nat.reduceEqDiff, Nat.reduceAdd, Nat.reduceLeDiff, Nat.reduceLT, Nat.reduceMul, Int.natCast_one, Int.natCast_zero, Int.reduceEq, Int.reduceLT, Int.reduceLE, Int.reduceAdd, Int.reduceSub, Int.reduceToNat, UInt8.reduceToNat, h0, h1, h14, h15, h17, h131, h132, h133, hyb, hxa, encS, y1]
                      refine AppOK.step hA (encP_unif _) (by simp) (by simp; omega) (by simp; omega) (fun tl3 G3 hA3 hK3 => ?_)
                      have e3 : (ps.take t).map encP ++ [[AV.int .i64 (p.1 : Int), .int .i64 ((j + m : Nat) : Int)]] = (ps.take (t + 1)).map encP := by rw [hpt, c1]; rfl
                      rw [e3] at hA3 ⊢
                      simp -implicitDefEqProofs only [go_sem, tys, regs0, Nat.reduceEqDiff, Nat.reduceAdd, Nat.reduceLeDiff, Nat.reduceLT, Nat.reduceMul, Int.natCast_one, Int.natCast_zero, Int.reduceEq, Int.reduceLT, Int.reduceLE, Int.reduceAdd, Int.reduceSub, Int.reduceToNat, UInt8.reduceToNat, h0, h1, h14, h15, h17, h131, h132, h133, wj, wt]
                      exact Again.mk (t + 1, j + (m + 1), tl3) (by simp -implicitDefEqProofs only [go_sem, tys, regs0, Nat.reduceEqDiff, Nat.reduceAdd, Nat.reduceLeDiff, Nat.reduceLT, Nat.reduceMul, Int.natCast_one, Int.natCast_zero, Int.reduceEq, Int.reduceLT, Int.reduceLE, Int.reduceAdd, Int.reduceSub, Int.reduceToNat, UInt8.reduceToNat, h0, h1, h14, h15, h17, h131, h132, h133]) ⟨hA3, by simp only; omega, by simp only; rw [show j + (m + 1) = p.2 + 1 by omega]; exact hgr2⟩ (by simp only; omega)
                    · have hyx : ¬ yb = xa := fun e => by
                        have h3 := hsome.2 m (by omega)
                        rw [List.getElem?_drop, hyb, e] at h3
                        exact h3 rfl
                      have y1 : decide (¬ yb = xa) = true := decide_eq_true hyx
                      simp -implicitDefEqProofs only [go_sem, tys, regs0, Nat.reduceEqDiff, Nat.reduceAdd, Nat.reduceLeDiff, Nat.reduceLT, Nat.reduceMul, Int.natCast_one, Int.natCast_zero, Int.reduceEq, Int.reduceLT, Int.reduceLE, Int.reduceAdd, Int.reduceSub, Int.reduceToNat, UInt8.reduceToNat, h0, h1, h14, h15, h17, h131, h132, h133, hyb, hxa, encS, y1, wj]
                      exact Again.mk (m + 1) (by simp -implicitDefEqProofs only [go_sem, tys, regs0, Nat.reduceEqDiff, Nat.reduceAdd, Nat.reduceLeDiff, Nat.reduceLT, Nat.reduceMul, Int.natCast_one, Int.natCast_zero, Int.reduceEq, Int.reduceLT, Int.reduceLE, Int.reduceAdd, Int.reduceSub, Int.reduceToNat, UInt8.reduceToNat, h0, h1, h14, h15, h17, h131, h132, h133]) ⟨rfl, by omega⟩ (by omega)
                · simp only [decide_eq_false_iff_not] at g4
                  have e : t = ps.length := by omega
                  subst e
                  rw [List.take_length] at hA h14
                  simp -implicitDefEqProofs only [go_sem, tys, regs0, Nat.reduceEqDiff, Nat.reduceAdd, Nat.reduceLeDiff, Nat.reduceLT, Nat.reduceMul, Int.natCast_one, Int.natCast_zero, Int.reduceEq, Int.reduceLT, Int.reduceLE, Int.reduceAdd, Int.reduceSub, Int.reduceToNat, UInt8.reduceToNat, h0, h1, h14]
                  refine Done.wk 1 (Done.drop hA.sub ⟨?_, rfl⟩)
                  rfl
end Go.Proofs
