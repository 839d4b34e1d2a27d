/- Walks: delta.Compose. -/
import Derived.Test.YtnheonhmnepifaaDoorCO1
namespace Go.Proofs
open Go Go.Abs
set_option linter.unusedSimpArgs false
set_option linter.unusedVariables false
set_option maxRecDepth 20000
theorem cutAll_snoc : ∀ (l : List PieceV) (q : PieceV) (b at_ long : Int), cutAll (l ++ [q]) b at_ long = cutAll l b at_ long ++ (if max (at_ - (b + pcSum l)) 0 < min (at_ + long - (b + pcSum l)) (pcSize q) then [partV q (max (at_ - (b + pcSum l)) 0) (min (at_ + long - (b + pcSum l)) (pcSize q))] else [])
  | [], q, b, at_, long => by simp [cutAll, pcSum]
  | p :: l, q, b, at_, long => by
    have e : b + pcSize p + pcSum l = b + pcSum (p :: l) := by unfold pcSum; rw [List.map_cons, List.sum_cons]; omega
    rw [List.cons_append, cutAll, cutAll_snoc l q, cutAll, e, List.append_assoc]
theorem cutAll_len : ∀ (l : List PieceV) (b at_ long : Int), (cutAll l b at_ long).length ≤ l.length
  | [], _, _, _ => by simp [cutAll]
  | p :: l, b, at_, long => by
    have := cutAll_len l (b + pcSize p) at_ long
    rw [cutAll, List.length_append, List.length_cons]
    split <;> simp <;> omega
theorem compL_snoc (d e : List PieceV) (p : PieceV) : compL d (e ++ [p]) = compL d e ++ (if p.data ≠ [] then [p] else cutAll d 0 p.at_ p.long) := by
  unfold compL
  rw [List.map_append, List.flatten_append]
  simp
theorem compL_len (d : List PieceV) (m : Nat) (hd : d.length ≤ m) (h1 : 1 ≤ m) : ∀ e : List PieceV, (compL d e).length ≤ e.length * m
  | [] => by simp [compL]
  | p :: e => by
    have ih := compL_len d m hd h1 e
    have e1 : compL d (p :: e) = (if p.data ≠ [] then [p] else cutAll d 0 p.at_ p.long) ++ compL d e := by unfold compL; rw [List.map_cons, List.flatten_cons]
    rw [e1, List.length_append, List.length_cons, Nat.succ_mul]
    have := cutAll_len d 0 p.at_ p.long
    split
    · rw [List.length_singleton]; omega
    · omega
theorem unitsL_ge {old : Int} : ∀ l : List PieceV, (∀ p ∈ l, pcE old p = 0) → l.length ≤ (unitsL l).length ∧ ((unitsL l).length : Int) = pcSum l
  | [], _ => by simp [unitsL, pcSum]
  | p :: l, h => by
    obtain ⟨i1, i2⟩ := unitsL_ge l fun q hq => h q (List.mem_cons_of_mem _ hq)
    obtain ⟨u1, u2⟩ := units_len (h p (List.mem_cons_self ..))
    have hU : unitsL (p :: l) = units p ++ unitsL l := by simp [unitsL]
    have hs : pcSum (p :: l) = pcSize p + pcSum l := by unfold pcSum; rw [List.map_cons, List.sum_cons]
    rw [hU, List.length_append, List.length_cons, hs]
    omega
theorem compL_short {o1 o2 : Int} {d : List PieceV} (hd : ∀ p ∈ d, pcE o1 p = 0) : ∀ e : List PieceV, (∀ p ∈ e, pcE o2 p = 0) → ((compL d e).length : Int) ≤ pcSum e
  | [], _ => by simp [compL, pcSum]
  | p :: e, h => by
    have ih := compL_short hd e fun q hq => h q (List.mem_cons_of_mem _ hq)
    have hp := h p (List.mem_cons_self ..)
    have e1 : compL d (p :: e) = (if p.data ≠ [] then [p] else cutAll d 0 p.at_ p.long) ++ compL d e := by unfold compL; rw [List.map_cons, List.flatten_cons]
    have hs : pcSum (p :: e) = pcSize p + pcSum e := by unfold pcSum; rw [List.map_cons, List.sum_cons]
    rw [e1, List.length_append, hs]
    have hps := (units_len hp).2
    by_cases hdp : p.data = []
    · rw [if_neg (by simpa using hdp)]
      obtain ⟨c1, c2⟩ := cutAll_ok d 0 p.at_ p.long hd
      obtain ⟨g1, g2, g3⟩ := pcE_copy hp hdp
      have := (unitsL_ge _ c1).1
      rw [c2, List.length_drop, List.length_take] at this
      have hsz : pcSize p = p.long := by unfold pcSize; rw [if_neg (by simpa using hdp)]
      omega
    · rw [if_pos hdp, List.length_singleton]
      omega
theorem cutAll_dl {m : Nat} : ∀ (l : List PieceV) (b at_ long : Int), (∀ p ∈ l, p.data.length ≤ m) → ∀ p ∈ cutAll l b at_ long, p.data.length ≤ m
  | [], _, _, _, _, p, hp => by simp [cutAll] at hp
  | q :: l, b, at_, long, h, p, hp => by
    rw [cutAll] at hp
    rcases List.mem_append.1 hp with hp | hp
    · split at hp
      · rw [List.mem_singleton] at hp
        rw [hp]
        unfold partV
        have := h q (List.mem_cons_self ..)
        split
        · simp only [List.length_drop, List.length_take]; omega
        · simp
      · cases hp
    · exact cutAll_dl l _ at_ long (fun q hq => h q (List.mem_cons_of_mem _ hq)) p hp
theorem compL_jR {o1 o2 : Int} {d e : List PieceV} (ho : o1 ≤ 65536) (hd : ∀ p ∈ d, pcE o1 p = 0) (he : ∀ p ∈ e, pcE o2 p = 0) (hdr : ∀ p ∈ d, pcR p) (her : ∀ p ∈ e, pcR p) (hs : pcSum e ≤ 65536) : jR (compL d e) := by
  have hl := compL_short hd e he
  refine ⟨by omega, fun p hp => ?_⟩
  have hE := compL_ok hd he p hp
  have hdl : p.data.length ≤ 4194304 := by
    unfold compL at hp
    obtain ⟨l, hl, hpl⟩ := List.mem_flatten.1 hp
    obtain ⟨x, hx, rfl⟩ := List.mem_map.1 hl
    by_cases h : x.data = []
    · rw [if_neg (by simpa using h)] at hpl
      exact cutAll_dl d 0 x.at_ x.long (fun q hq => (hdr q hq).2.2) p hpl
    · rw [if_pos h, List.mem_singleton] at hpl
      rw [hpl]
      exact (her x hx).2.2
  refine ⟨fun hdp => ?_, by omega⟩
  obtain ⟨g1, g2, g3⟩ := pcE_copy hE hdp
  omega
def composeV (d e : DeltaV) : DeltaV × Int :=
  if deltaE d ≠ 0 then (DeltaV.zero, deltaE d) else if deltaE e ≠ 0 then (DeltaV.zero, deltaE e) else if ¬ d.new = e.old ∨ ¬ d.nsum = e.osum then (DeltaV.zero, 11) else
  if (5000 : Int) < (joinedV (compL d.ps e.ps)).length then (DeltaV.zero, 4) else (⟨d.old, e.new, d.osum, e.nsum, joinedV (compL d.ps e.ps)⟩, 0)
structure CoH (d e : DeltaV) (t t2 : Tail) (H : Heap) (i2 i3 i4 : Nat) (G : Heap) : Prop where
  sub : H.Sub G
  g2 : G i2 = some (.cells [.int .i64 d.old, .int .i64 d.new, .str d.osum, .str d.nsum, .sl (d.ps.map encPc) t])
  g3 : G i3 = some (.cells [.int .i64 e.old, .int .i64 e.new, .str e.osum, .str e.nsum, .sl (e.ps.map encPc) t2])
  g4 : G i4 = some (.cells [.int .i64 0, .int .i64 0, .str [], .str [], .sl [] .exact])
theorem CoH.put {d e : DeltaV} {t t2 : Tail} {H : Heap} {i2 i3 i4 : Nat} {G : Heap} (h : CoH d e t t2 H i2 i3 i4 G) {i : Nat} (hi : G i = none) (o : AObj) : CoH d e t t2 H i2 i3 i4 (G.put i o) := by
  have n2 : ¬ i2 = i := fun x => by rw [← x, h.g2] at hi; cases hi
  have n3 : ¬ i3 = i := fun x => by rw [← x, h.g3] at hi; cases hi
  have n4 : ¬ i4 = i := fun x => by rw [← x, h.g4] at hi; cases hi
  exact ⟨h.sub.put' (sub_none h.sub hi) _, by rw [put_ne _ _ _ _ n2]; exact h.g2, by rw [put_ne _ _ _ _ n3]; exact h.g3, by rw [put_ne _ _ _ _ n4]; exact h.g4⟩
theorem CoH.kept {d e : DeltaV} {t t2 : Tail} {H : Heap} {i2 i3 i4 : Nat} {G G' : Heap} (h : CoH d e t t2 H i2 i3 i4 G) (hs : H.Sub G') (hk : Kept G G') : CoH d e t t2 H i2 i3 i4 G' :=
  ⟨hs, hk.cells h.g2, hk.cells h.g3, hk.cells h.g4⟩
def CoQ (d e : DeltaV) (t t2 : Tail) (H : Heap) (i2 i3 i4 : Nat) (r : Regs) (G : Heap) : Prop := CoH d e t t2 H i2 i3 i4 G ∧ deltaE d = 0 ∧ deltaE e = 0 ∧ agrees r [(2, .ptr i2 0), (3, .ptr i3 0), (4, .ptr i4 0)]
theorem pcSum_take {old : Int} {l : List PieceV} (h : ∀ p ∈ l, pcE old p = 0) (k : Nat) : 0 ≤ pcSum (l.take k) ∧ pcSum (l.take k) ≤ pcSum l := by
  have h1 := unitsL_ge (l.take k) (fun p hp => h p (List.mem_of_mem_take hp))
  have h2 := unitsL_ge (l.drop k) (fun p hp => h p (List.mem_of_mem_drop hp))
  have e : pcSum l = pcSum (l.take k) + pcSum (l.drop k) := by
    unfold pcSum
    rw [← List.sum_append, ← List.map_append, List.take_append_drop]
  omega
set_option maxHeartbeats 6400000 in
theorem compose_calls (d e : DeltaV) (t t2 : Tail) (H : Heap) (hd : dlR d) (he : dlR e) :
    ACalls Tryd.prog 23 [.agg (encDl d t), .agg (encDl e t2)] H fun x H' => x = .tup [.agg (encDl (composeV d e).1 .unk), .int .i64 (composeV d e).2] ∧ H' = H := by
  have q1 := sCheck_eq d t hd
  have q2 := sCheck_eq e t2 he
  have hu : encDl d t = [.int .i64 d.old, .int .i64 d.new, .str d.osum, .str d.nsum, .sl (d.ps.map encPc) t] := rfl
  have hu2 : encDl e t2 = [.int .i64 e.old, .int .i64 e.new, .str e.osum, .str e.nsum, .sl (e.ps.map encPc) t2] := rfl
  rw [hu] at q1 ⊢
  rw [hu2] at q2 ⊢
  refine ACalls.of_code (X := { pure := puJ }) puJ_ok Tryd.func23 (by kernel_rfl) rfl (by kernel_rfl) (Nat.le_of_ble_eq_true rfl) ?_
  simp -implicitDefEqProofs only [go_sem, tys, regs0, Nat.reduceEqDiff, Nat.reduceAdd, Nat.reduceLeDiff, Nat.reduceLT, Nat.reduceMul, Int.natCast_one, Int.natCast_zero, Int.reduceEq, Int.reduceLT, Int.reduceLE, Int.reduceAdd, Int.reduceSub, Int.reduceToNat, UInt8.reduceToNat, Tryd.f23]
  with_reducible refine nwC_intro fun i2 hi2 => ?_
  simp -implicitDefEqProofs only [go_sem, tys, regs0, Nat.reduceEqDiff, Nat.reduceAdd, Nat.reduceLeDiff, Nat.reduceLT, Nat.reduceMul, Int.natCast_one, Int.natCast_zero, Int.reduceEq, Int.reduceLT, Int.reduceLE, Int.reduceAdd, Int.reduceSub, Int.reduceToNat, UInt8.reduceToNat]
  with_reducible refine nwC_intro fun i3 hi3 => ?_
  have n1 := (heap_none hi3).1
  have n2 := (heap_none hi3).2.1
  have hi3H := (heap_none hi3).2.2
  simp -implicitDefEqProofs only [go_sem, tys, regs0, Nat.reduceEqDiff, Nat.reduceAdd, Nat.reduceLeDiff, Nat.reduceLT, Nat.reduceMul, Int.natCast_one, Int.natCast_zero, Int.reduceEq, Int.reduceLT, Int.reduceLE, Int.reduceAdd, Int.reduceSub, Int.reduceToNat, UInt8.reduceToNat, put_ne, n1, n2]
  with_reducible refine nwC_intro fun i4 hi4 => ?_
  have n3 := (heap_none hi4).1
  have n4 := (heap_none hi4).2.1
  have hi4G := (heap_none hi4).2.2
  have n5 := (heap_none hi4G).1
  have n6 := (heap_none hi4G).2.1
  have hi4H := (heap_none hi4G).2.2
  simp -implicitDefEqProofs only [go_sem, tys, regs0, Nat.reduceEqDiff, Nat.reduceAdd, Nat.reduceLeDiff, Nat.reduceLT, Nat.reduceMul, Int.natCast_one, Int.natCast_zero, Int.reduceEq, Int.reduceLT, Int.reduceLE, Int.reduceAdd, Int.reduceSub, Int.reduceToNat, UInt8.reduceToNat, put_ne, n1, n2, n3, n4, n5, n6]
  have hC : CoH d e t t2 H i2 i3 i4 (((H.put i2 (.cells [.int .i64 d.old, .int .i64 d.new, .str d.osum, .str d.nsum, .sl (d.ps.map encPc) t])).put i3 (.cells [.int .i64 e.old, .int .i64 e.new, .str e.osum, .str e.nsum, .sl (e.ps.map encPc) t2])).put i4 (.cells [.int .i64 0, .int .i64 0, .str [], .str [], .sl [] .exact])) :=
    ⟨(((Heap.Sub.rfl' H).put' hi2 _).put' hi3H _).put' hi4H _, by rw [put_ne _ _ _ _ n6, put_ne _ _ _ _ n2, put_same], by rw [put_ne _ _ _ _ n4, put_same], put_same _ _ _⟩
  generalize ((H.put i2 (.cells [.int .i64 d.old, .int .i64 d.new, .str d.osum, .str d.nsum, .sl (d.ps.map encPc) t])).put i3 (.cells [.int .i64 e.old, .int .i64 e.new, .str e.osum, .str e.nsum, .sl (e.ps.map encPc) t2])).put i4 (.cells [.int .i64 0, .int .i64 0, .str [], .str [], .sl [] .exact]) = G0 at *
  clear hi3 hi4 hi4G n1 n3 n5
  have n32 : ¬ i3 = i2 := fun x => n2 x.symm
  have n43 : ¬ i4 = i3 := fun x => n4 x.symm
  have n42 : ¬ i4 = i2 := fun x => n6 x.symm
  with_reducible refine aloop_cut 0 (CoQ d e t t2 H i2 i3 i4) ?_ ?_
  rotate_left
  · refine aloop_intro (σ := Nat) (fun i => [(2, .ptr i2 0), (3, .ptr i3 0), (4, .ptr i4 0), (21, .agg [.int .i64 d.old, .int .i64 d.new, .str d.osum, .str d.nsum, .sl (d.ps.map encPc) t, .int .i64 e.old, .int .i64 e.new, .str e.osum, .str e.nsum, .sl (e.ps.map encPc) t2]), (22, .int .i64 i)])
      (fun i G => CoH d e t t2 H i2 i3 i4 G ∧ i ≤ 2 ∧ (1 ≤ i → deltaE d = 0) ∧ (2 ≤ i → deltaE e = 0)) (fun i => 2 - i) 0 ?_ ?_ ?_
    · simp -implicitDefEqProofs only [go_sem, tys, regs0, Nat.reduceEqDiff, Nat.reduceAdd, Nat.reduceLeDiff, Nat.reduceLT, Nat.reduceMul, Int.natCast_one, Int.natCast_zero, Int.reduceEq, Int.reduceLT, Int.reduceLE, Int.reduceAdd, Int.reduceSub, Int.reduceToNat, UInt8.reduceToNat]
    · exact ⟨hC, by omega, fun h => by omega, fun h => by omega⟩
    · clear hC
      rintro i r G hv ⟨hC, hi, hd0, he0⟩
      have h2 := hv.1
      have h3 := hv.2.1
      have h4 := hv.2.2.1
      have h21 := hv.2.2.2.1
      have h22 := hv.2.2.2.2.1
      clear hv
      obtain rfl | rfl | rfl : i = 0 ∨ i = 1 ∨ i = 2 := by omega
      · have h22 : r 22 = .int .i64 0 := h22
        have hx : indexA Tryd.prog 110 (.agg [.int .i64 d.old, .int .i64 d.new, .str d.osum, .str d.nsum, .sl (d.ps.map encPc) t, .int .i64 e.old, .int .i64 e.new, .str e.osum, .str e.nsum, .sl (e.ps.map encPc) t2]) (.int .i64 0) = some (.agg [.int .i64 d.old, .int .i64 d.new, .str d.osum, .str d.nsum, .sl (d.ps.map encPc) t]) := by rfl
        simp -implicitDefEqProofs only [go_sem, tys, regs0, Nat.reduceEqDiff, Nat.reduceAdd, Nat.reduceLeDiff, Nat.reduceLT, Nat.reduceMul, Int.natCast_one, Int.natCast_zero, Int.reduceEq, Int.reduceLT, Int.reduceLE, Int.reduceAdd, Int.reduceSub, Int.reduceToNat, UInt8.reduceToNat, h2, h3, h4, h21, h22, hx]
        with_reducible refine nwC_intro fun i7 hi7 => ?_
        have hC7 := hC.put hi7 (.cells [.int .i64 d.old, .int .i64 d.new, .str d.osum, .str d.nsum, .sl (d.ps.map encPc) t])
        have g4 := hC7.g4
        by_cases hE : deltaE d = 0
        · rw [hE] at q1
          simp -implicitDefEqProofs only [go_sem, tys, regs0, Nat.reduceEqDiff, Nat.reduceAdd, Nat.reduceLeDiff, Nat.reduceLT, Nat.reduceMul, Int.natCast_one, Int.natCast_zero, Int.reduceEq, Int.reduceLT, Int.reduceLE, Int.reduceAdd, Int.reduceSub, Int.reduceToNat, UInt8.reduceToNat, h2, h3, h4, h21, h22, puJ, puH, puF, puP8, puP7, puP6, puP5, puM, puN, pu0, q1]
          exact Again.mk 1 (by simp -implicitDefEqProofs only [go_sem, tys, regs0, Nat.reduceEqDiff, Nat.reduceAdd, Nat.reduceLeDiff, Nat.reduceLT, Nat.reduceMul, Int.natCast_one, Int.natCast_zero, Int.reduceEq, Int.reduceLT, Int.reduceLE, Int.reduceAdd, Int.reduceSub, Int.reduceToNat, UInt8.reduceToNat, h2, h3, h4, h21, h22]; exact rfl) ⟨hC7, by omega, fun _ => hE, fun h => by omega⟩ (by omega)
        · have y1 : decide (¬ deltaE d = 0) = true := decide_eq_true hE
          have e1 : composeV d e = (DeltaV.zero, deltaE d) := by unfold composeV; rw [if_pos hE]
          simp -implicitDefEqProofs only [go_sem, tys, regs0, Nat.reduceEqDiff, Nat.reduceAdd, Nat.reduceLeDiff, Nat.reduceLT, Nat.reduceMul, Int.natCast_one, Int.natCast_zero, Int.reduceEq, Int.reduceLT, Int.reduceLE, Int.reduceAdd, Int.reduceSub, Int.reduceToNat, UInt8.reduceToNat, h2, h3, h4, h21, h22, puJ, puH, puF, puP8, puP7, puP6, puP5, puM, puN, pu0, q1, y1, g4]
          refine Done.wk 3 (Done.drop (hC7.sub.put' hi4H _) ⟨?_, rfl⟩)
          rw [e1]; rfl
      · have h22 : r 22 = .int .i64 1 := h22
        have hx : indexA Tryd.prog 110 (.agg [.int .i64 d.old, .int .i64 d.new, .str d.osum, .str d.nsum, .sl (d.ps.map encPc) t, .int .i64 e.old, .int .i64 e.new, .str e.osum, .str e.nsum, .sl (e.ps.map encPc) t2]) (.int .i64 1) = some (.agg [.int .i64 e.old, .int .i64 e.new, .str e.osum, .str e.nsum, .sl (e.ps.map encPc) t2]) := by rfl
        simp -implicitDefEqProofs only [go_sem, tys, regs0, Nat.reduceEqDiff, Nat.reduceAdd, Nat.reduceLeDiff, Nat.reduceLT, Nat.reduceMul, Int.natCast_one, Int.natCast_zero, Int.reduceEq, Int.reduceLT, Int.reduceLE, Int.reduceAdd, Int.reduceSub, Int.reduceToNat, UInt8.reduceToNat, h2, h3, h4, h21, h22, hx]
        with_reducible refine nwC_intro fun i7 hi7 => ?_
        have hC7 := hC.put hi7 (.cells [.int .i64 e.old, .int .i64 e.new, .str e.osum, .str e.nsum, .sl (e.ps.map encPc) t2])
        have g4 := hC7.g4
        have hd0 := hd0 (by omega)
        by_cases hE : deltaE e = 0
        · rw [hE] at q2
          simp -implicitDefEqProofs only [go_sem, tys, regs0, Nat.reduceEqDiff, Nat.reduceAdd, Nat.reduceLeDiff, Nat.reduceLT, Nat.reduceMul, Int.natCast_one, Int.natCast_zero, Int.reduceEq, Int.reduceLT, Int.reduceLE, Int.reduceAdd, Int.reduceSub, Int.reduceToNat, UInt8.reduceToNat, h2, h3, h4, h21, h22, puJ, puH, puF, puP8, puP7, puP6, puP5, puM, puN, pu0, q2]
          exact Again.mk 2 (by simp -implicitDefEqProofs only [go_sem, tys, regs0, Nat.reduceEqDiff, Nat.reduceAdd, Nat.reduceLeDiff, Nat.reduceLT, Nat.reduceMul, Int.natCast_one, Int.natCast_zero, Int.reduceEq, Int.reduceLT, Int.reduceLE, Int.reduceAdd, Int.reduceSub, Int.reduceToNat, UInt8.reduceToNat, h2, h3, h4, h21, h22]; exact rfl) ⟨hC7, by omega, fun _ => hd0, fun _ => hE⟩ (by omega)
        · have y1 : decide (¬ deltaE e = 0) = true := decide_eq_true hE
          have e1 : composeV d e = (DeltaV.zero, deltaE e) := by unfold composeV; rw [if_neg (by simpa using hd0), if_pos hE]
          simp -implicitDefEqProofs only [go_sem, tys, regs0, Nat.reduceEqDiff, Nat.reduceAdd, Nat.reduceLeDiff, Nat.reduceLT, Nat.reduceMul, Int.natCast_one, Int.natCast_zero, Int.reduceEq, Int.reduceLT, Int.reduceLE, Int.reduceAdd, Int.reduceSub, Int.reduceToNat, UInt8.reduceToNat, h2, h3, h4, h21, h22, puJ, puH, puF, puP8, puP7, puP6, puP5, puM, puN, pu0, q2, y1, g4]
          refine Done.wk 3 (Done.drop (hC7.sub.put' hi4H _) ⟨?_, rfl⟩)
          rw [e1]; rfl
      · have h22 : r 22 = .int .i64 2 := h22
        simp -implicitDefEqProofs only [go_sem, tys, regs0, Nat.reduceEqDiff, Nat.reduceAdd, Nat.reduceLeDiff, Nat.reduceLT, Nat.reduceMul, Int.natCast_one, Int.natCast_zero, Int.reduceEq, Int.reduceLT, Int.reduceLE, Int.reduceAdd, Int.reduceSub, Int.reduceToNat, UInt8.reduceToNat, h2, h3, h4, h21, h22]
        exact ⟨hC, hd0 (by omega), he0 (by omega), by simp -implicitDefEqProofs only [go_sem, tys, regs0, Nat.reduceEqDiff, Nat.reduceAdd, Nat.reduceLeDiff, Nat.reduceLT, Nat.reduceMul, Int.natCast_one, Int.natCast_zero, Int.reduceEq, Int.reduceLT, Int.reduceLE, Int.reduceAdd, Int.reduceSub, Int.reduceToNat, UInt8.reduceToNat, h2, h3, h4]⟩
  clear hC
  rintro r G ⟨hC, hE1, hE2, hv⟩
  have h2 := hv.1
  have h3 := hv.2.1
  have h4 := hv.2.2.1
  clear hv
  have g2 := hC.g2
  have g3 := hC.g3
  have g4 := hC.g4
  have e0 : composeV d e = if ¬ d.new = e.old ∨ ¬ d.nsum = e.osum then (DeltaV.zero, 11) else if (5000 : Int) < (joinedV (compL d.ps e.ps)).length then (DeltaV.zero, 4) else (⟨d.old, e.new, d.osum, e.nsum, joinedV (compL d.ps e.ps)⟩, 0) := by
    unfold composeV
    rw [if_neg (by simpa using hE1), if_neg (by simpa using hE2)]
  by_cases k1 : d.new = e.old
  rotate_left
  · have y1 : decide (¬ d.new = e.old) = true := decide_eq_true k1
    rw [if_pos (.inl k1)] at e0
    simp -implicitDefEqProofs only [go_sem, tys, regs0, Nat.reduceEqDiff, Nat.reduceAdd, Nat.reduceLeDiff, Nat.reduceLT, Nat.reduceMul, Int.natCast_one, Int.natCast_zero, Int.reduceEq, Int.reduceLT, Int.reduceLE, Int.reduceAdd, Int.reduceSub, Int.reduceToNat, UInt8.reduceToNat, h2, h3, h4, g2, g3, g4, y1]
    refine Done.wk 3 (Done.drop (hC.sub.put' hi4H _) ⟨?_, rfl⟩)
    rw [e0]; rfl
  have y1 : decide (¬ d.new = e.old) = false := decide_eq_false (by simpa using k1)
  by_cases k2 : d.nsum = e.osum
  rotate_left
  · have y2 : decide (¬ d.nsum = e.osum) = true := decide_eq_true k2
    rw [if_pos (.inr k2)] at e0
    simp -implicitDefEqProofs only [go_sem, tys, regs0, Nat.reduceEqDiff, Nat.reduceAdd, Nat.reduceLeDiff, Nat.reduceLT, Nat.reduceMul, Int.natCast_one, Int.natCast_zero, Int.reduceEq, Int.reduceLT, Int.reduceLE, Int.reduceAdd, Int.reduceSub, Int.reduceToNat, UInt8.reduceToNat, h2, h3, h4, g2, g3, g4, y1, y2]
    refine Done.wk 3 (Done.drop (hC.sub.put' hi4H _) ⟨?_, rfl⟩)
    rw [e0]; rfl
  have y2 : decide (¬ d.nsum = e.osum) = false := decide_eq_false (by simpa using k2)
  rw [if_neg (by simp [k1, k2])] at e0
  simp -implicitDefEqProofs only [go_sem, tys, regs0, Nat.reduceEqDiff, Nat.reduceAdd, Nat.reduceLeDiff, Nat.reduceLT, Nat.reduceMul, Int.natCast_one, Int.natCast_zero, Int.reduceEq, Int.reduceLT, Int.reduceLE, Int.reduceAdd, Int.reduceSub, Int.reduceToNat, UInt8.reduceToNat, h2, h3, h4, g2, g3, g4, y1, y2]
  obtain ⟨a1, a2, a3, a4, a5, a6, a7, a8⟩ := deltaE_ok hE1
  obtain ⟨f1, f2, f3, f4, f5, f6⟩ := stepsV_ok a7
  obtain ⟨b1, b2, b3, b4, b5, b6, b7, b8⟩ := deltaE_ok hE2
  obtain ⟨c1, c2, c3, c4, c5, c6⟩ := stepsV_ok b7
  have hjr := compL_jR f2 f4 c4 hd.2.2.2.2.2 he.2.2.2.2.2 c5
  have hlen := compL_len d.ps 5000 f3 (by omega)
  refine aloop_intro (σ := Nat × Tail) (fun s => [(2, .ptr i2 0), (3, .ptr i3 0), (4, .ptr i4 0), (9, .sl ((compL d.ps (e.ps.take s.1)).map encPc) s.2), (46, .sl (e.ps.map encPc) t2), (47, .int .i64 e.ps.length), (48, .int .i64 s.1)])
    (fun s G => CoH d e t t2 H i2 i3 i4 G ∧ AppOK H G 3 ((compL d.ps (e.ps.take s.1)).map encPc) s.2 ∧ s.1 ≤ e.ps.length) (fun s => e.ps.length - s.1) (0, .exact) ?_ ?_ ?_
  · simp -implicitDefEqProofs only [go_sem, tys, regs0, Nat.reduceEqDiff, Nat.reduceAdd, Nat.reduceLeDiff, Nat.reduceLT, Nat.reduceMul, Int.natCast_one, Int.natCast_zero, Int.reduceEq, Int.reduceLT, Int.reduceLE, Int.reduceAdd, Int.reduceSub, Int.reduceToNat, UInt8.reduceToNat, h2, h3, h4]
    exact rfl
  · exact ⟨hC, AppOK.nil hC.sub, Nat.zero_le _⟩
  clear hC g2 g3 g4 h2 h3 h4 q1 q2
  rintro ⟨j, tl⟩ r G hv ⟨hC, hA, hj⟩
  have h2 := hv.1
  have h3 := hv.2.1
  have h4 := hv.2.2.1
  have h9 := hv.2.2.2.1
  have h46 := hv.2.2.2.2.1
  have h47 := hv.2.2.2.2.2.1
  have h48 := hv.2.2.2.2.2.2.1
  clear hv
  simp only at h2 h3 h4 h9 h46 h47 h48 hA hj
  have g2 := hC.g2
  have g3 := hC.g3
  have g4 := hC.g4
  by_cases gj : j < e.ps.length
  · have z1 : decide ((j : Int) < e.ps.length) = true := decide_eq_true (by omega)
    obtain ⟨p, hp⟩ : ∃ p, e.ps[j]? = some p := getD_get' gj
    have hpm := List.mem_of_getElem? hp
    have hpE := c4 p hpm
    have htk : e.ps.take (j + 1) = e.ps.take j ++ [p] := by rw [List.take_add_one, hp]; rfl
    have hsn := compL_snoc d.ps (e.ps.take j) p
    rw [← htk] at hsn
    have hl := hlen (e.ps.take j)
    rw [List.length_take] at hl
    have hl : (compL d.ps (e.ps.take j)).length ≤ 25000000 := Nat.le_trans hl (by have : min j e.ps.length * 5000 ≤ 5000 * 5000 := Nat.mul_le_mul_right _ (by omega); omega)
    have wj : IntKind.i64.wrap ((j : Int) + 1) = ((j + 1 : Nat) : Int) := by rw [Go.IntWalk.i64_in _ (by omega)]; omega
    simp -implicitDefEqProofs only [go_sem, tys, regs0, Nat.reduceEqDiff, Nat.reduceAdd, Nat.reduceLeDiff, Nat.reduceLT, Nat.reduceMul, Int.natCast_one, Int.natCast_zero, Int.reduceEq, Int.reduceLT, Int.reduceLE, Int.reduceAdd, Int.reduceSub, Int.reduceToNat, UInt8.reduceToNat, h2, h3, h4, h9, h46, h47, h48, z1, hp, encPc]
    with_reducible refine nwC_intro fun i11 hi11 => ?_
    have hC1 := hC.put hi11 (.cells [.int .i64 p.at_, .int .i64 p.long, .str p.data])
    have hA1 := hA.put hi11 (.cells [.int .i64 p.at_, .int .i64 p.long, .str p.data])
    have g11 := put_same G i11 (.cells [.int .i64 p.at_, .int .i64 p.long, .str p.data])
    simp -implicitDefEqProofs only [go_sem, tys, regs0, Nat.reduceEqDiff, Nat.reduceAdd, Nat.reduceLeDiff, Nat.reduceLT, Nat.reduceMul, Int.natCast_one, Int.natCast_zero, Int.reduceEq, Int.reduceLT, Int.reduceLE, Int.reduceAdd, Int.reduceSub, Int.reduceToNat, UInt8.reduceToNat, h2, h3, h4, h9, h46, h47, h48]
    generalize G.put i11 (.cells [.int .i64 p.at_, .int .i64 p.long, .str p.data]) = G1 at *
    by_cases hd0 : p.data = []
    · have z2 : decide (¬ p.data = []) = false := decide_eq_false (by simpa using hd0)
      rw [if_neg (by simpa using hd0)] at hsn
      obtain ⟨p1, p2, p3⟩ := pcE_copy hpE hd0
      have g21 := hC1.g2
      simp -implicitDefEqProofs only [go_sem, tys, regs0, Nat.reduceEqDiff, Nat.reduceAdd, Nat.reduceLeDiff, Nat.reduceLT, Nat.reduceMul, Int.natCast_one, Int.natCast_zero, Int.reduceEq, Int.reduceLT, Int.reduceLE, Int.reduceAdd, Int.reduceSub, Int.reduceToNat, UInt8.reduceToNat, h2, h3, h4, h9, h46, h47, h48, g11, z2, g21]
      have hbase : compL d.ps (e.ps.take j) ++ cutAll (d.ps.take 0) 0 p.at_ p.long = compL d.ps (e.ps.take j) := by simp [cutAll]
      refine aloop_intro (σ := Nat × Tail) (fun s => [(2, .ptr i2 0), (3, .ptr i3 0), (4, .ptr i4 0), (9, .sl ((compL d.ps (e.ps.take j) ++ cutAll (d.ps.take s.1) 0 p.at_ p.long).map encPc) s.2), (11, .ptr i11 0), (12, .int .i64 (pcSum (d.ps.take s.1))), (46, .sl (e.ps.map encPc) t2), (47, .int .i64 e.ps.length), (48, .int .i64 j), (60, .sl (d.ps.map encPc) t), (61, .int .i64 d.ps.length), (62, .int .i64 s.1)])
        (fun s G => CoH d e t t2 H i2 i3 i4 G ∧ AppOK H G 3 ((compL d.ps (e.ps.take j) ++ cutAll (d.ps.take s.1) 0 p.at_ p.long).map encPc) s.2 ∧ G i11 = some (.cells [.int .i64 p.at_, .int .i64 p.long, .str p.data]) ∧ s.1 ≤ d.ps.length) (fun s => d.ps.length - s.1) (0, tl) ?_ ?_ ?_
      · simp -implicitDefEqProofs only [go_sem, tys, regs0, Nat.reduceEqDiff, Nat.reduceAdd, Nat.reduceLeDiff, Nat.reduceLT, Nat.reduceMul, Int.natCast_one, Int.natCast_zero, Int.reduceEq, Int.reduceLT, Int.reduceLE, Int.reduceAdd, Int.reduceSub, Int.reduceToNat, UInt8.reduceToNat, h2, h3, h4, h9, h46, h47, h48, hbase]
        exact ⟨by simp [cutAll], rfl⟩
      · exact ⟨hC1, by simp only; rw [hbase]; exact hA1, g11, Nat.zero_le _⟩
      clear hC1 hA1 g11 g21 h2 h3 h4 h9 h46 h47 h48 g2 g3 g4 hA hC hi11
      rintro ⟨k, tl⟩ r G hv ⟨hC, hA, g11, hk⟩
      have h2 := hv.1
      have h3 := hv.2.1
      have h4 := hv.2.2.1
      have h9 := hv.2.2.2.1
      have h11 := hv.2.2.2.2.1
      have h12 := hv.2.2.2.2.2.1
      have h46 := hv.2.2.2.2.2.2.1
      have h47 := hv.2.2.2.2.2.2.2.1
      have h48 := hv.2.2.2.2.2.2.2.2.1
      have h60 := hv.2.2.2.2.2.2.2.2.2.1
      have h61 := hv.2.2.2.2.2.2.2.2.2.2.1
      have h62 := hv.2.2.2.2.2.2.2.2.2.2.2.1
      clear hv
      simp only at h2 h3 h4 h9 h11 h12 h46 h47 h48 h60 h61 h62 hA g11 hk
      by_cases gk : k < d.ps.length
      · have z3 : decide ((k : Int) < d.ps.length) = true := decide_eq_true (by omega)
        obtain ⟨q, hq⟩ : ∃ q, d.ps[k]? = some q := getD_get' gk
        have hqm := List.mem_of_getElem? hq
        have hqE := f4 q hqm
        have hqR := hd.2.2.2.2.2 q hqm
        have htk2 : d.ps.take (k + 1) = d.ps.take k ++ [q] := by rw [List.take_add_one, hq]; rfl
        have hcs := cutAll_snoc (d.ps.take k) q 0 p.at_ p.long
        rw [← htk2, Int.zero_add] at hcs
        have hps := pcSum_succ hq
        have hb1 := pcSum_take f4 k
        have hb2 := pcSum_take f4 (k + 1)
        have hsz := (units_len hqE).2
        have hcl := cutAll_len (d.ps.take k) 0 p.at_ p.long
        rw [List.length_take] at hcl
        have qs := sSize_eq q
        have w1 : IntKind.i64.wrap (p.at_ - pcSum (d.ps.take k)) = p.at_ - pcSum (d.ps.take k) := Go.IntWalk.i64_in _ (by omega)
        have w2 : IntKind.i64.wrap (p.at_ + p.long) = p.at_ + p.long := Go.IntWalk.i64_in _ (by omega)
        have w3 : IntKind.i64.wrap (p.at_ + p.long - pcSum (d.ps.take k)) = p.at_ + p.long - pcSum (d.ps.take k) := Go.IntWalk.i64_in _ (by omega)
        have w4 : IntKind.i64.wrap (pcSum (d.ps.take k) + pcSize q) = pcSum (d.ps.take (k + 1)) := by rw [hps]; exact Go.IntWalk.i64_in _ (by omega)
        have wk : IntKind.i64.wrap ((k : Int) + 1) = ((k + 1 : Nat) : Int) := by rw [Go.IntWalk.i64_in _ (by omega)]; omega
        unfold encPc at qs
        simp -implicitDefEqProofs only [go_sem, tys, regs0, Nat.reduceEqDiff, Nat.reduceAdd, Nat.reduceLeDiff, Nat.reduceLT, Nat.reduceMul, Int.natCast_one, Int.natCast_zero, Int.reduceEq, Int.reduceLT, Int.reduceLE, Int.reduceAdd, Int.reduceSub, Int.reduceToNat, UInt8.reduceToNat, h2, h3, h4, h9, h11, h12, h46, h47, h48, h60, h61, h62, z3, hq, encPc]
        with_reducible refine nwC_intro fun i14 hi14 => ?_
        have hC1 := hC.put hi14 (.cells [.int .i64 q.at_, .int .i64 q.long, .str q.data])
        have hA1 := hA.put hi14 (.cells [.int .i64 q.at_, .int .i64 q.long, .str q.data])
        have g14 := put_same G i14 (.cells [.int .i64 q.at_, .int .i64 q.long, .str q.data])
        have m1 : ¬ i11 = i14 := fun x => by rw [← x, g11] at hi14; cases hi14
        have g11' : (G.put i14 (.cells [.int .i64 q.at_, .int .i64 q.long, .str q.data])) i11 = some (.cells [.int .i64 p.at_, .int .i64 p.long, .str p.data]) := by rw [put_ne _ _ _ _ m1]; exact g11
        simp -implicitDefEqProofs only [go_sem, tys, regs0, Nat.reduceEqDiff, Nat.reduceAdd, Nat.reduceLeDiff, Nat.reduceLT, Nat.reduceMul, Int.natCast_one, Int.natCast_zero, Int.reduceEq, Int.reduceLT, Int.reduceLE, Int.reduceAdd, Int.reduceSub, Int.reduceToNat, UInt8.reduceToNat, h2, h3, h4, h9, h11, h12, h46, h47, h48, h60, h61, h62]
        generalize G.put i14 (.cells [.int .i64 q.at_, .int .i64 q.long, .str q.data]) = G1 at *
        simp -implicitDefEqProofs only [go_sem, tys, regs0, Nat.reduceEqDiff, Nat.reduceAdd, Nat.reduceLeDiff, Nat.reduceLT, Nat.reduceMul, Int.natCast_one, Int.natCast_zero, Int.reduceEq, Int.reduceLT, Int.reduceLE, Int.reduceAdd, Int.reduceSub, Int.reduceToNat, UInt8.reduceToNat, h2, h3, h4, h9, h11, h12, h46, h47, h48, h60, h61, h62, g14, g11', puJ, qs, w1, w2, w3, w4]
        by_cases hc : max (p.at_ - pcSum (d.ps.take k)) 0 < min (p.at_ + p.long - pcSum (d.ps.take k)) (pcSize q)
        · have y5 : decide (max (p.at_ - pcSum (d.ps.take k)) 0 < min (p.at_ + p.long - pcSum (d.ps.take k)) (pcSize q)) = true := decide_eq_true hc
          rw [if_pos hc] at hcs
          have qp := sPart_eq q (max (p.at_ - pcSum (d.ps.take k)) 0) (min (p.at_ + p.long - pcSum (d.ps.take k)) (pcSize q)) (by
            have hat : 0 ≤ q.at_ ∧ q.at_ ≤ 65536 := by
              by_cases hqd : q.data = []
              · have := pcE_copy hqE hqd; omega
              · have := pcE_data hqE hqd; omega
            refine ⟨by omega, by omega, by omega, by omega, by omega, by omega⟩)
          generalize partV q (max (p.at_ - pcSum (d.ps.take k)) 0) (min (p.at_ + p.long - pcSum (d.ps.take k)) (pcSize q)) = pv at *
          unfold encPc at qp
          simp -implicitDefEqProofs only [go_sem, tys, regs0, Nat.reduceEqDiff, Nat.reduceAdd, Nat.reduceLeDiff, Nat.reduceLT, Nat.reduceMul, Int.natCast_one, Int.natCast_zero, Int.reduceEq, Int.reduceLT, Int.reduceLE, Int.reduceAdd, Int.reduceSub, Int.reduceToNat, UInt8.reduceToNat, h2, h3, h4, h9, h11, h12, h46, h47, h48, h60, h61, h62, g14, g11', puJ, qp, y5]
          refine AppOK.step hA1 (encPc_unif _) (by simp) (by simp; omega) (by simp; omega) (fun tl2 G2 hA2 hK2 => ?_)
          have e2 : (compL d.ps (e.ps.take j) ++ cutAll (d.ps.take k) 0 p.at_ p.long).map encPc ++ [[AV.int .i64 pv.at_, .int .i64 pv.long, .str pv.data]] = (compL d.ps (e.ps.take j) ++ cutAll (d.ps.take (k + 1)) 0 p.at_ p.long).map encPc := by rw [hcs, ← List.append_assoc]; simp [encPc]
          rw [e2] at hA2 ⊢
          have hC2 := hC1.kept hA2.sub hK2
          have g11'' := hK2.cells g11'
          simp -implicitDefEqProofs only [go_sem, tys, regs0, Nat.reduceEqDiff, Nat.reduceAdd, Nat.reduceLeDiff, Nat.reduceLT, Nat.reduceMul, Int.natCast_one, Int.natCast_zero, Int.reduceEq, Int.reduceLT, Int.reduceLE, Int.reduceAdd, Int.reduceSub, Int.reduceToNat, UInt8.reduceToNat, h2, h3, h4, h11, h12, h46, h47, h48, h60, h61, h62, w4, wk]
          exact Again.mk (k + 1, tl2) (by simp -implicitDefEqProofs only [go_sem, tys, regs0, Nat.reduceEqDiff, Nat.reduceAdd, Nat.reduceLeDiff, Nat.reduceLT, Nat.reduceMul, Int.natCast_one, Int.natCast_zero, Int.reduceEq, Int.reduceLT, Int.reduceLE, Int.reduceAdd, Int.reduceSub, Int.reduceToNat, UInt8.reduceToNat, h2, h3, h4, h11, h12, h46, h47, h48, h60, h61, h62]) ⟨hC2, hA2, g11'', by simp only; omega⟩ (by simp only; omega)
        · have y5 : decide (max (p.at_ - pcSum (d.ps.take k)) 0 < min (p.at_ + p.long - pcSum (d.ps.take k)) (pcSize q)) = false := decide_eq_false hc
          rw [if_neg hc, List.append_nil] at hcs
          simp -implicitDefEqProofs only [go_sem, tys, regs0, Nat.reduceEqDiff, Nat.reduceAdd, Nat.reduceLeDiff, Nat.reduceLT, Nat.reduceMul, Int.natCast_one, Int.natCast_zero, Int.reduceEq, Int.reduceLT, Int.reduceLE, Int.reduceAdd, Int.reduceSub, Int.reduceToNat, UInt8.reduceToNat, h2, h3, h4, h9, h11, h12, h46, h47, h48, h60, h61, h62, g14, g11', y5, w4, wk]
          exact Again.mk (k + 1, tl) (by simp -implicitDefEqProofs only [go_sem, tys, regs0, Nat.reduceEqDiff, Nat.reduceAdd, Nat.reduceLeDiff, Nat.reduceLT, Nat.reduceMul, Int.natCast_one, Int.natCast_zero, Int.reduceEq, Int.reduceLT, Int.reduceLE, Int.reduceAdd, Int.reduceSub, Int.reduceToNat, UInt8.reduceToNat, h2, h3, h4, h9, h11, h12, h46, h47, h48, h60, h61, h62, hcs]) ⟨hC1, by simp only; rw [hcs]; exact hA1, g11', by simp only; omega⟩ (by simp only; omega)
      · have z3 : decide ((k : Int) < d.ps.length) = false := decide_eq_false (by omega)
        obtain rfl : k = d.ps.length := by omega
        rw [List.take_length, ← hsn] at h9 hA
        simp -implicitDefEqProofs only [go_sem, tys, regs0, Nat.reduceEqDiff, Nat.reduceAdd, Nat.reduceLeDiff, Nat.reduceLT, Nat.reduceMul, Int.natCast_one, Int.natCast_zero, Int.reduceEq, Int.reduceLT, Int.reduceLE, Int.reduceAdd, Int.reduceSub, Int.reduceToNat, UInt8.reduceToNat, h2, h3, h4, h9, h11, h12, h46, h47, h48, h60, h61, h62, z3, wj]
        exact Again.mk (j + 1, tl) (by simp -implicitDefEqProofs only [go_sem, tys, regs0, Nat.reduceEqDiff, Nat.reduceAdd, Nat.reduceLeDiff, Nat.reduceLT, Nat.reduceMul, Int.natCast_one, Int.natCast_zero, Int.reduceEq, Int.reduceLT, Int.reduceLE, Int.reduceAdd, Int.reduceSub, Int.reduceToNat, UInt8.reduceToNat, h2, h3, h4, h9, h46, h47, h48]) ⟨hC, hA, by simp only; omega⟩ (by simp only; omega)
    · have z2 : decide (¬ p.data = []) = true := decide_eq_true hd0
      rw [if_pos hd0] at hsn
      simp -implicitDefEqProofs only [go_sem, tys, regs0, Nat.reduceEqDiff, Nat.reduceAdd, Nat.reduceLeDiff, Nat.reduceLT, Nat.reduceMul, Int.natCast_one, Int.natCast_zero, Int.reduceEq, Int.reduceLT, Int.reduceLE, Int.reduceAdd, Int.reduceSub, Int.reduceToNat, UInt8.reduceToNat, h2, h3, h4, h9, h46, h47, h48, g11, z2]
      refine AppOK.step hA1 (encPc_unif _) (by simp) (by simp; omega) (by simp; omega) (fun tl2 G2 hA2 hK2 => ?_)
      have e2 : (compL d.ps (e.ps.take j)).map encPc ++ [[AV.int .i64 p.at_, .int .i64 p.long, .str p.data]] = (compL d.ps (e.ps.take (j + 1))).map encPc := by rw [hsn]; simp [encPc]
      rw [e2] at hA2 ⊢
      have hC2 := hC1.kept hA2.sub hK2
      simp -implicitDefEqProofs only [go_sem, tys, regs0, Nat.reduceEqDiff, Nat.reduceAdd, Nat.reduceLeDiff, Nat.reduceLT, Nat.reduceMul, Int.natCast_one, Int.natCast_zero, Int.reduceEq, Int.reduceLT, Int.reduceLE, Int.reduceAdd, Int.reduceSub, Int.reduceToNat, UInt8.reduceToNat, h2, h3, h4, h9, h46, h47, h48, wj]
      exact Again.mk (j + 1, tl2) (by simp -implicitDefEqProofs only [go_sem, tys, regs0, Nat.reduceEqDiff, Nat.reduceAdd, Nat.reduceLeDiff, Nat.reduceLT, Nat.reduceMul, Int.natCast_one, Int.natCast_zero, Int.reduceEq, Int.reduceLT, Int.reduceLE, Int.reduceAdd, Int.reduceSub, Int.reduceToNat, UInt8.reduceToNat, h2, h3, h4, h46, h47, h48]) ⟨hC2, hA2, by simp only; omega⟩ (by simp only; omega)
  · have z1 : decide ((j : Int) < e.ps.length) = false := decide_eq_false (by omega)
    obtain rfl : j = e.ps.length := by omega
    rw [List.take_length] at h9 hA
    have qj := sJl_eq (compL d.ps e.ps) tl hjr
    simp -implicitDefEqProofs only [go_sem, tys, regs0, Nat.reduceEqDiff, Nat.reduceAdd, Nat.reduceLeDiff, Nat.reduceLT, Nat.reduceMul, Int.natCast_one, Int.natCast_zero, Int.reduceEq, Int.reduceLT, Int.reduceLE, Int.reduceAdd, Int.reduceSub, Int.reduceToNat, UInt8.reduceToNat, h2, h3, h4, h9, h46, h47, h48, z1, g2, g3, puJ, puH, puF, puP8, puP7, puP6, puP5, puM, puN, pu0, qj]
    with_reducible refine nwC_intro fun i18 hi18 => ?_
    have m4 : ¬ i4 = i18 := fun x => by rw [← x, g4] at hi18; cases hi18
    by_cases h5 : (5000 : Int) < (joinedV (compL d.ps e.ps)).length
    · have y3 : decide ((5000 : Int) < (joinedV (compL d.ps e.ps)).length) = true := decide_eq_true h5
      rw [if_pos h5] at e0
      simp -implicitDefEqProofs only [go_sem, tys, regs0, Nat.reduceEqDiff, Nat.reduceAdd, Nat.reduceLeDiff, Nat.reduceLT, Nat.reduceMul, Int.natCast_one, Int.natCast_zero, Int.reduceEq, Int.reduceLT, Int.reduceLE, Int.reduceAdd, Int.reduceSub, Int.reduceToNat, UInt8.reduceToNat, h2, h3, h4, put_ne, m4, g4, y3]
      refine Done.wk 3 (Done.drop ((hC.sub.put' (sub_none hC.sub hi18) _).put' hi4H _) ⟨?_, rfl⟩)
      rw [e0]; rfl
    · have y3 : decide ((5000 : Int) < (joinedV (compL d.ps e.ps)).length) = false := decide_eq_false h5
      rw [if_neg h5] at e0
      simp -implicitDefEqProofs only [go_sem, tys, regs0, Nat.reduceEqDiff, Nat.reduceAdd, Nat.reduceLeDiff, Nat.reduceLT, Nat.reduceMul, Int.natCast_one, Int.natCast_zero, Int.reduceEq, Int.reduceLT, Int.reduceLE, Int.reduceAdd, Int.reduceSub, Int.reduceToNat, UInt8.reduceToNat, h2, h3, h4, put_ne, m4, g4, y3]
      refine Done.wk 3 (Done.drop ((hC.sub.put' (sub_none hC.sub hi18) _).put' hi4H _) ⟨?_, rfl⟩)
      rw [e0]; rfl
end Go.Proofs
