/- Walks: delta.Make answers as the reference does. -/
import Derived.Test.YtnheonhmnepifaaDoorAU5
import Derived.Test.YtnheonhmnepifaaDoorDM1
namespace Go.Proofs
open Go Go.Abs
set_option linter.unusedSimpArgs false
set_option linter.unusedVariables false
set_option maxRecDepth 20000
theorem longest_best {H G : Heap} {A : Nat} {T : Bytes} {S : List Ste} {last : Nat} (hok : AOk T S last) (h : AR H G A S) (hN : ND S) (hT : T.length ≤ 65536) (w : Bytes) (hw : w.length ≤ 65536) :
    ACalls Tryd.prog 77 [.ptr A 0, .str w] G fun x G' => x = .tup [.int .i64 ((bestM T w T.length).1 : Int), .int .i64 ((bestM T w T.length).2 : Int)] ∧ G' = G := by
  obtain ⟨str, hinv, _⟩ := hok.inv
  obtain ⟨hb, h1, h2⟩ := read_best hinv w
  refine (longest_calls h hN hinv.lk.1 (fun s hs => ?_) w hw).mono ?_
  · have h3 := (hinv.at_ s hs).1
    have e : (ofL S).E s = (gS S s).fin := rfl
    omega
  · rintro x G' ⟨rfl, rfl⟩
    rw [hb]
    refine ⟨?_, rfl⟩
    simp only
    rw [Int.ofNat_sub h1]
def MakI (a b : Bytes) (H H1 : Heap) (i4 i6 A : Nat) (S : List Ste) (t : Nat × Nat × Nat × List PieceV × Tail) (G : Heap) : Prop :=
  AppOK H G 3 (t.2.2.2.1.map encPc) t.2.2.2.2 ∧ G i4 = some zD ∧ G i6 = some (nD a.length b.length (sumOf a) (sumOf b) t.2.2.2.1 t.2.2.2.2) ∧ AR H1 G A S ∧ (b.drop t.2.1).length ≤ t.1 ∧ t.2.1 ≤ b.length ∧ t.2.2.1 ≤ t.2.1 ∧ t.2.2.2.1.length ≤ t.2.1 ∧ t.2.2.2.1 ++ mkR a t.1 (b.drop t.2.1) ((b.take t.2.1).drop t.2.2.1) = mkR a b.length b []
set_option maxHeartbeats 6400000 in
theorem make_calls (a b : Bytes) (H : Heap) (ha : a.length ≤ 1099511627776) (hb : b.length ≤ 1099511627776) : ACalls Tryd.prog 22 [.str a, .str b] H fun x H' => x = makeT a b ∧ H' = H := by
  by_cases hbig : 65536 < a.length ∨ 65536 < b.length
  · have hmk : makeT a b = .tup [.agg (encDl DeltaV.zero .unk), .int .i64 4] := by
      unfold makeT makeV
      rw [if_pos hbig]
    by_cases k1 : 65536 < a.length
    · have z1 : decide ((65536 : Int) < a.length) = true := decide_eq_true (by omega)
      refine ACalls.of_code (X := { pure := puM }) puM_ok Tryd.func22 (by kernel_rfl) rfl (by kernel_rfl) (Nat.le_of_ble_eq_true rfl) ?_
      simp -implicitDefEqProofs only [go_sem, tys, regs0, Nat.reduceEqDiff, Nat.reduceAdd, Nat.reduceLeDiff, Nat.reduceLT, Nat.reduceMul, Int.natCast_one, Int.natCast_zero, Int.reduceEq, Int.reduceLT, Int.reduceLE, Int.reduceAdd, Int.reduceSub, Int.reduceToNat, UInt8.reduceToNat, Tryd.f22]
      with_reducible refine nwC_intro fun i4 hi4 => ?_
      simp -implicitDefEqProofs only [go_sem, tys, regs0, Nat.reduceEqDiff, Nat.reduceAdd, Nat.reduceLeDiff, Nat.reduceLT, Nat.reduceMul, Int.natCast_one, Int.natCast_zero, Int.reduceEq, Int.reduceLT, Int.reduceLE, Int.reduceAdd, Int.reduceSub, Int.reduceToNat, UInt8.reduceToNat, z1]
      refine Done.wk 3 (Done.drop1 hi4 ⟨?_, rfl⟩)
      rw [hmk]; rfl
    · have z1 : decide ((65536 : Int) < a.length) = false := decide_eq_false (by omega)
      have z2 : decide ((65536 : Int) < b.length) = true := decide_eq_true (by omega)
      refine ACalls.of_code (X := { pure := puM }) puM_ok Tryd.func22 (by kernel_rfl) rfl (by kernel_rfl) (Nat.le_of_ble_eq_true rfl) ?_
      simp -implicitDefEqProofs only [go_sem, tys, regs0, Nat.reduceEqDiff, Nat.reduceAdd, Nat.reduceLeDiff, Nat.reduceLT, Nat.reduceMul, Int.natCast_one, Int.natCast_zero, Int.reduceEq, Int.reduceLT, Int.reduceLE, Int.reduceAdd, Int.reduceSub, Int.reduceToNat, UInt8.reduceToNat, Tryd.f22]
      with_reducible refine nwC_intro fun i4 hi4 => ?_
      simp -implicitDefEqProofs only [go_sem, tys, regs0, Nat.reduceEqDiff, Nat.reduceAdd, Nat.reduceLeDiff, Nat.reduceLT, Nat.reduceMul, Int.natCast_one, Int.natCast_zero, Int.reduceEq, Int.reduceLT, Int.reduceLE, Int.reduceAdd, Int.reduceSub, Int.reduceToNat, UInt8.reduceToNat, z1, z2]
      refine Done.wk 3 (Done.drop1 hi4 ⟨?_, rfl⟩)
      rw [hmk]; rfl
  have z1 : decide ((65536 : Int) < a.length) = false := decide_eq_false (by omega)
  have z2 : decide ((65536 : Int) < b.length) = false := decide_eq_false (by omega)
  have hal : a.length ≤ 65536 := by omega
  have hbl : b.length ≤ 65536 := by omega
  have hR : Room = 1099511627776 := rfl
  refine ACalls.of_code (X := { pure := puM }) puM_ok Tryd.func22 (by kernel_rfl) rfl (by kernel_rfl) (Nat.le_of_ble_eq_true rfl) ?_
  simp -implicitDefEqProofs only [go_sem, tys, regs0, Nat.reduceEqDiff, Nat.reduceAdd, Nat.reduceLeDiff, Nat.reduceLT, Nat.reduceMul, Int.natCast_one, Int.natCast_zero, Int.reduceEq, Int.reduceLT, Int.reduceLE, Int.reduceAdd, Int.reduceSub, Int.reduceToNat, UInt8.reduceToNat, Tryd.f22]
  with_reducible refine nwC_intro fun i4 hi4 => ?_
  simp -implicitDefEqProofs only [go_sem, tys, regs0, Nat.reduceEqDiff, Nat.reduceAdd, Nat.reduceLeDiff, Nat.reduceLT, Nat.reduceMul, Int.natCast_one, Int.natCast_zero, Int.reduceEq, Int.reduceLT, Int.reduceLE, Int.reduceAdd, Int.reduceSub, Int.reduceToNat, UInt8.reduceToNat, z1, z2, puM, puN, pu0, sSum_eq, hR, ha, hb]
  with_reducible refine nwC_intro fun i6 hi6 => ?_
  simp -implicitDefEqProofs only [go_sem, tys, regs0, Nat.reduceEqDiff, Nat.reduceAdd, Nat.reduceLeDiff, Nat.reduceLT, Nat.reduceMul, Int.natCast_one, Int.natCast_zero, Int.reduceEq, Int.reduceLT, Int.reduceLE, Int.reduceAdd, Int.reduceSub, Int.reduceToNat, UInt8.reduceToNat]
  have hn46 : ¬ i4 = i6 := fun e => by rw [← e, put_same] at hi6; cases hi6
  have hn64 : ¬ i6 = i4 := fun e => hn46 e.symm
  have hi6H : H i6 = none := by rw [put_ne _ _ _ _ hn64] at hi6; exact hi6
  have hH1 : H.Sub ((H.put i4 zD).put i6 (nD a.length b.length (sumOf a) (sumOf b) [] .exact)) := ((Heap.Sub.rfl' H).put' hi4 _).put' hi6H _
  have hz4 : ((H.put i4 zD).put i6 (nD a.length b.length (sumOf a) (sumOf b) [] .exact)) i4 = some zD := by rw [put_ne _ _ _ _ hn46, put_same]
  have hz6 := put_same (H.put i4 zD) i6 (nD a.length b.length (sumOf a) (sumOf b) [] .exact)
  have hfold : (H.put i4 (.cells [.int .i64 0, .int .i64 0, .str [], .str [], .sl [] .exact])).put i6 (.cells [.int .i64 (a.length : Int), .int .i64 (b.length : Int), .str (sumOf a), .str (sumOf b), .sl [] .exact]) = (H.put i4 zD).put i6 (nD a.length b.length (sumOf a) (sumOf b) [] .exact) := rfl
  try rw [hfold]
  generalize (H.put i4 zD).put i6 (nD a.length b.length (sumOf a) (sumOf b) [] .exact) = H1 at *
  clear hfold hi6
  refine (newAutomaton_calls a H1 hal).mono ?_
  rintro x G ⟨A, S, last, rfl, hok, hAH, hND⟩
  have hAR := hAH.ar
  have hsub1 : H1.Sub G := by
    rcases hAH with ⟨sid, ev, h⟩ | ⟨_, _, h, _⟩
    · exact h.sub
    · exact h
  have hz4G := hsub1 _ _ hz4
  have hz6G := hsub1 _ _ hz6
  have hsubG : H.Sub G := fun i o hi => hsub1 i o (hH1 i o hi)
  simp -implicitDefEqProofs only [go_sem, tys, regs0, Nat.reduceEqDiff, Nat.reduceAdd, Nat.reduceLeDiff, Nat.reduceLT, Nat.reduceMul, Int.natCast_one, Int.natCast_zero, Int.reduceEq, Int.reduceLT, Int.reduceLE, Int.reduceAdd, Int.reduceSub, Int.reduceToNat, UInt8.reduceToNat]
  refine aloop_intro (σ := Nat × Nat × Nat × List PieceV × Tail) (fun t => [(0, .str a), (1, .str b), (4, .ptr i4 0), (6, .ptr i6 0), (7, .ptr A 0), (8, .int .i64 t.2.2.1), (9, .int .i64 t.2.1)]) (MakI a b H H1 i4 i6 A S) (fun t => b.length - t.2.1) (b.length, 0, 0, [], .exact) ?_ ?_ ?_
  · simp -implicitDefEqProofs only [go_sem, tys, regs0, Nat.reduceEqDiff, Nat.reduceAdd, Nat.reduceLeDiff, Nat.reduceLT, Nat.reduceMul, Int.natCast_one, Int.natCast_zero, Int.reduceEq, Int.reduceLT, Int.reduceLE, Int.reduceAdd, Int.reduceSub, Int.reduceToNat, UInt8.reduceToNat]
  · exact ⟨AppOK.nil hsubG, hz4G, hz6G, hAR, by simp, by simp, by simp, by simp, by simp⟩
  · clear hsub1 hz4G hz6G hsubG hAR hAH hH1
    rintro ⟨f, i, fr, out, tl⟩ r G hv ⟨hA, hZ, hD, hAR, hf, hi, hd, ho, hM⟩
    have h0 := hv.1
    have h1 := hv.2.1
    have h4 := hv.2.2.1
    have h6 := hv.2.2.2.1
    have h7 := hv.2.2.2.2.1
    have h8 := hv.2.2.2.2.2.1
    have h9 := hv.2.2.2.2.2.2.1
    clear hv
    simp only at h0 h1 h4 h6 h7 h8 h9 hA hZ hD hAR hf hi hd ho hM
    by_cases g : i < b.length
    · have y0 : decide ((i : Int) < b.length) = true := decide_eq_true (by omega)
      obtain ⟨c, hc⟩ : ∃ c, b[i]? = some c := getD_get' g
      have hdc := drop_cons hc
      have hfs : f = (f - 1) + 1 := by
        rw [hdc] at hf
        simp only [List.length_cons] at hf
        omega
      have hmk := mkR_cons' (a := a) (f := f - 1) (data := (b.take i).drop fr) hdc
      have hbo := bestM_ok a (b.drop i) a.length
      have hlb := longest_best hok hAR hND hal (b.drop i) (by rw [List.length_drop]; omega)
      rw [← hfs, List.drop_drop] at hmk
      rw [List.length_drop] at hf hbo
      generalize bestM a (b.drop i) a.length = bm at *
      unfold nD at hD
      simp -implicitDefEqProofs only [go_sem, tys, regs0, Nat.reduceEqDiff, Nat.reduceAdd, Nat.reduceLeDiff, Nat.reduceLT, Nat.reduceMul, Int.natCast_one, Int.natCast_zero, Int.reduceEq, Int.reduceLT, Int.reduceLE, Int.reduceAdd, Int.reduceSub, Int.reduceToNat, UInt8.reduceToNat, h0, h1, h4, h6, h7, h8, h9, y0, Int.toNat_natCast, List.take_length]
      refine ⟨⟨by omega, by omega⟩, ?_⟩
      refine hlb.pure_next _ ?_
      by_cases e8 : bm.2 < 8
      · have y1 : decide ((bm.2 : Int) < 8) = true := decide_eq_true (by omega)
        rw [if_pos e8] at hmk
        have w1 : IntKind.i64.wrap ((i : Int) + 1) = ((i + 1 : Nat) : Int) := by rw [Go.IntWalk.i64_in _ (by omega)]; omega
        have hdt : (b.take (i + 1)).drop fr = (b.take i).drop fr ++ [c] := by rw [List.take_add_one, hc, List.drop_append_of_le_length (by rw [List.length_take]; omega)]; rfl
        simp -implicitDefEqProofs only [go_sem, tys, regs0, Nat.reduceEqDiff, Nat.reduceAdd, Nat.reduceLeDiff, Nat.reduceLT, Nat.reduceMul, Int.natCast_one, Int.natCast_zero, Int.reduceEq, Int.reduceLT, Int.reduceLE, Int.reduceAdd, Int.reduceSub, Int.reduceToNat, UInt8.reduceToNat, h0, h1, h4, h6, h7, h8, h9, y1, w1]
        exact Again.mk (f - 1, i + 1, fr, out, tl) (by simp -implicitDefEqProofs only [go_sem, tys, regs0, Nat.reduceEqDiff, Nat.reduceAdd, Nat.reduceLeDiff, Nat.reduceLT, Nat.reduceMul, Int.natCast_one, Int.natCast_zero, Int.reduceEq, Int.reduceLT, Int.reduceLE, Int.reduceAdd, Int.reduceSub, Int.reduceToNat, UInt8.reduceToNat, h0, h1, h4, h6, h7, h8, h9]) ⟨hA, hZ, hD, hAR, by simp only; rw [List.length_drop]; omega, by simp only; omega, by simp only; omega, by simp only; omega, by simp only; rw [hdt, ← hmk]; exact hM⟩ (by simp only; omega)
      have y1 : decide ((bm.2 : Int) < 8) = false := decide_eq_false (by omega)
      rw [if_neg e8] at hmk
      have w1 : IntKind.i64.wrap ((i : Int) + bm.2) = ((i + bm.2 : Nat) : Int) := by rw [Go.IntWalk.i64_in _ (by omega)]; omega
      have hcut : (b.take (i + bm.2)).drop (i + bm.2) = [] := List.drop_eq_nil_of_le (by rw [List.length_take]; omega)
      by_cases hdd : fr < i
      · have y2 : decide ((fr : Int) < i) = true := decide_eq_true (by omega)
        have hfl : fl ((b.take i).drop fr) = [⟨0, 0, (b.take i).drop fr⟩] := by
          unfold fl
          rw [if_pos]
          intro e
          have := congrArg List.length e
          rw [List.length_drop, List.length_take] at this
          simp only [List.length_nil] at this
          omega
        rw [hfl] at hmk
        have hAR2 := hAR
        simp -implicitDefEqProofs only [go_sem, tys, regs0, Nat.reduceEqDiff, Nat.reduceAdd, Nat.reduceLeDiff, Nat.reduceLT, Nat.reduceMul, Int.natCast_one, Int.natCast_zero, Int.reduceEq, Int.reduceLT, Int.reduceLE, Int.reduceAdd, Int.reduceSub, Int.reduceToNat, UInt8.reduceToNat, h0, h1, h4, h6, h7, h8, h9, y1, y2, hD, Int.toNat_natCast]
        refine ⟨⟨by omega, by omega⟩, ?_⟩
        refine AppOK.step hA (encPc_unif out) (by simp) (by simp; omega) (by simp; omega) (fun tl2 G2 hA2 hK2 => ?_)
        have e2 : out.map encPc ++ [[AV.int .i64 0, .int .i64 0, .str ((b.take i).drop fr)]] = (out ++ [(⟨0, 0, (b.take i).drop fr⟩ : PieceV)]).map encPc := by simp [encPc]
        rw [e2] at hA2 ⊢
        have hD2 := hK2.cells hD
        have hZ2 := hK2.cells hZ
        have hAR2 := hAR.kept hK2
        have hol : (out ++ [(⟨0, 0, (b.take i).drop fr⟩ : PieceV)]).length = out.length + 1 := by simp
        have hM2 : (out ++ [(⟨0, 0, (b.take i).drop fr⟩ : PieceV)]) ++ (⟨bm.1, bm.2, []⟩ :: mkR a (f - 1) (b.drop (i + bm.2)) []) = mkR a b.length b [] := by rw [← hM, hmk]; simp
        generalize out ++ [(⟨0, 0, (b.take i).drop fr⟩ : PieceV)] = out2 at *
        simp -implicitDefEqProofs only [go_sem, tys, regs0, Nat.reduceEqDiff, Nat.reduceAdd, Nat.reduceLeDiff, Nat.reduceLT, Nat.reduceMul, Int.natCast_one, Int.natCast_zero, Int.reduceEq, Int.reduceLT, Int.reduceLE, Int.reduceAdd, Int.reduceSub, Int.reduceToNat, UInt8.reduceToNat, h0, h1, h4, h6, h7, h8, h9, hD2]
        have hA3 := hA2.set hi6H hD2 (o' := nD a.length b.length (sumOf a) (sumOf b) out2 tl2) (fun n e => by cases e)
        have hD3 := put_same G2 i6 (nD a.length b.length (sumOf a) (sumOf b) out2 tl2)
        have hZ3 : (G2.put i6 (nD a.length b.length (sumOf a) (sumOf b) out2 tl2)) i4 = some zD := by rw [put_ne _ _ _ _ hn46]; exact hZ2
        have hAR3 := hAR2.put hz6 (nD a.length b.length (sumOf a) (sumOf b) out2 tl2)
        unfold nD at hA3 hD3 hZ3 hAR3
        generalize G2.put i6 (.cells [.int .i64 (a.length : Int), .int .i64 (b.length : Int), .str (sumOf a), .str (sumOf b), .sl (out2.map encPc) tl2]) = G3 at *
        refine AppOK.step hA3 (encPc_unif out2) (by simp) (by simp; omega) (by simp; omega) (fun tl3 G4 hA4 hK4 => ?_)
        have e4 : out2.map encPc ++ [[AV.int .i64 (bm.1 : Int), .int .i64 (bm.2 : Int), .str []]] = (out2 ++ [(⟨bm.1, bm.2, []⟩ : PieceV)]).map encPc := by simp [encPc]
        rw [e4] at hA4 ⊢
        have hD4 := hK4.cells hD3
        have hZ4 := hK4.cells hZ3
        have hAR4 := (hAR3).kept hK4
        simp -implicitDefEqProofs only [go_sem, tys, regs0, Nat.reduceEqDiff, Nat.reduceAdd, Nat.reduceLeDiff, Nat.reduceLT, Nat.reduceMul, Int.natCast_one, Int.natCast_zero, Int.reduceEq, Int.reduceLT, Int.reduceLE, Int.reduceAdd, Int.reduceSub, Int.reduceToNat, UInt8.reduceToNat, h0, h1, h4, h6, h7, h8, h9, w1, hD4]
        exact Again.mk (f - 1, i + bm.2, i + bm.2, out2 ++ [(⟨bm.1, bm.2, []⟩ : PieceV)], tl3) (by simp -implicitDefEqProofs only [go_sem, tys, regs0, Nat.reduceEqDiff, Nat.reduceAdd, Nat.reduceLeDiff, Nat.reduceLT, Nat.reduceMul, Int.natCast_one, Int.natCast_zero, Int.reduceEq, Int.reduceLT, Int.reduceLE, Int.reduceAdd, Int.reduceSub, Int.reduceToNat, UInt8.reduceToNat, h0, h1, h4, h6, h7, h8, h9]) ⟨hA4.set hi6H hD4 (fun n e => by cases e), by rw [put_ne _ _ _ _ hn46]; exact hZ4, by rw [put_same]; rfl, hAR4.put hz6 _, by simp only; rw [List.length_drop]; omega, by simp only; omega, by simp, by simp; omega, by simp only; rw [hcut, ← hM2]; simp⟩ (by simp only; omega)
      · have y2 : decide ((fr : Int) < i) = false := decide_eq_false (by omega)
        have hfl : fl ((b.take i).drop fr) = [] := by
          have : (b.take i).drop fr = [] := List.drop_eq_nil_of_le (by rw [List.length_take]; omega)
          rw [this]; rfl
        rw [hfl, List.nil_append] at hmk
        simp -implicitDefEqProofs only [go_sem, tys, regs0, Nat.reduceEqDiff, Nat.reduceAdd, Nat.reduceLeDiff, Nat.reduceLT, Nat.reduceMul, Int.natCast_one, Int.natCast_zero, Int.reduceEq, Int.reduceLT, Int.reduceLE, Int.reduceAdd, Int.reduceSub, Int.reduceToNat, UInt8.reduceToNat, h0, h1, h4, h6, h7, h8, h9, y1, y2, hD, Int.toNat_natCast]
        refine AppOK.step hA (encPc_unif out) (by simp) (by simp; omega) (by simp; omega) (fun tl3 G4 hA4 hK4 => ?_)
        have e4 : out.map encPc ++ [[AV.int .i64 (bm.1 : Int), .int .i64 (bm.2 : Int), .str []]] = (out ++ [(⟨bm.1, bm.2, []⟩ : PieceV)]).map encPc := by simp [encPc]
        rw [e4] at hA4 ⊢
        have hD4 := hK4.cells hD
        have hZ4 := hK4.cells hZ
        have hAR4 := (hAR).kept hK4
        simp -implicitDefEqProofs only [go_sem, tys, regs0, Nat.reduceEqDiff, Nat.reduceAdd, Nat.reduceLeDiff, Nat.reduceLT, Nat.reduceMul, Int.natCast_one, Int.natCast_zero, Int.reduceEq, Int.reduceLT, Int.reduceLE, Int.reduceAdd, Int.reduceSub, Int.reduceToNat, UInt8.reduceToNat, h0, h1, h4, h6, h7, h8, h9, w1, hD4]
        exact Again.mk (f - 1, i + bm.2, i + bm.2, out ++ [(⟨bm.1, bm.2, []⟩ : PieceV)], tl3) (by simp -implicitDefEqProofs only [go_sem, tys, regs0, Nat.reduceEqDiff, Nat.reduceAdd, Nat.reduceLeDiff, Nat.reduceLT, Nat.reduceMul, Int.natCast_one, Int.natCast_zero, Int.reduceEq, Int.reduceLT, Int.reduceLE, Int.reduceAdd, Int.reduceSub, Int.reduceToNat, UInt8.reduceToNat, h0, h1, h4, h6, h7, h8, h9]) ⟨hA4.set hi6H hD4 (fun n e => by cases e), by rw [put_ne _ _ _ _ hn46]; exact hZ4, by rw [put_same]; rfl, hAR4.put hz6 _, by simp only; rw [List.length_drop]; omega, by simp only; omega, by simp, by simp; omega, by simp only; rw [hcut, ← hM, hmk]; simp⟩ (by simp only; omega)
    · have e : i = b.length := by omega
      subst e
      have y0 : decide ((b.length : Int) < b.length) = false := decide_eq_false (by omega)
      rw [List.drop_length, List.take_length, mkR_nil] at hM
      have hfin : ∀ (L : List PieceV), L = mkR a b.length b [] → makeT a b = if (5000 : Int) < L.length then .tup [.agg (encDl DeltaV.zero .unk), .int .i64 4] else .tup [.agg (encDl ⟨a.length, b.length, sumOf a, sumOf b, L⟩ .unk), .int .i64 0] := fun L hL => by
        unfold makeT makeV
        rw [if_neg hbig, ← hL]
        split <;> rfl
      unfold zD at hZ
      unfold nD at hD
      by_cases hdd : fr < b.length
      · have y2 : decide ((fr : Int) < b.length) = true := decide_eq_true (by omega)
        have hfl : fl (b.drop fr) = [⟨0, 0, b.drop fr⟩] := by
          unfold fl
          rw [if_pos]
          intro e
          have := congrArg List.length e
          rw [List.length_drop] at this
          simp only [List.length_nil] at this
          omega
        rw [hfl] at hM
        have hfin := hfin _ hM
        simp -implicitDefEqProofs only [go_sem, tys, regs0, Nat.reduceEqDiff, Nat.reduceAdd, Nat.reduceLeDiff, Nat.reduceLT, Nat.reduceMul, Int.natCast_one, Int.natCast_zero, Int.reduceEq, Int.reduceLT, Int.reduceLE, Int.reduceAdd, Int.reduceSub, Int.reduceToNat, UInt8.reduceToNat, h0, h1, h4, h6, h7, h8, h9, y0, y2, hD, Int.toNat_natCast, List.take_length]
        refine ⟨⟨by omega, by omega⟩, ?_⟩
        refine AppOK.step hA (encPc_unif out) (by simp) (by simp; omega) (by simp; omega) (fun tl2 G2 hA2 hK2 => ?_)
        have e2 : out.map encPc ++ [[AV.int .i64 0, .int .i64 0, .str (b.drop fr)]] = (out ++ [(⟨0, 0, b.drop fr⟩ : PieceV)]).map encPc := by simp [encPc]
        rw [e2] at hA2 ⊢
        have hZ2 := hK2.cells hZ
        have hD2 := hK2.cells hD
        generalize out ++ [(⟨0, 0, b.drop fr⟩ : PieceV)] = out2 at *
        simp -implicitDefEqProofs only [go_sem, tys, regs0, Nat.reduceEqDiff, Nat.reduceAdd, Nat.reduceLeDiff, Nat.reduceLT, Nat.reduceMul, Int.natCast_one, Int.natCast_zero, Int.reduceEq, Int.reduceLT, Int.reduceLE, Int.reduceAdd, Int.reduceSub, Int.reduceToNat, UInt8.reduceToNat, h0, h1, h4, h6, h7, h8, h9, hD2]
        by_cases h5 : (5000 : Int) < out2.length
        · have y3 : decide ((5000 : Int) < out2.length) = true := decide_eq_true h5
          rw [if_pos h5] at hfin
          simp -implicitDefEqProofs only [go_sem, tys, regs0, Nat.reduceEqDiff, Nat.reduceAdd, Nat.reduceLeDiff, Nat.reduceLT, Nat.reduceMul, Int.natCast_one, Int.natCast_zero, Int.reduceEq, Int.reduceLT, Int.reduceLE, Int.reduceAdd, Int.reduceSub, Int.reduceToNat, UInt8.reduceToNat, h4, h6, y3, put_ne, hn46, hn64, hZ2]
          refine Done.wk 3 (Done.drop ((hA2.sub.put' hi6H _).put' hi4 _) ⟨?_, rfl⟩)
          rw [hfin]; rfl
        · have y3 : decide ((5000 : Int) < out2.length) = false := decide_eq_false h5
          rw [if_neg h5] at hfin
          simp -implicitDefEqProofs only [go_sem, tys, regs0, Nat.reduceEqDiff, Nat.reduceAdd, Nat.reduceLeDiff, Nat.reduceLT, Nat.reduceMul, Int.natCast_one, Int.natCast_zero, Int.reduceEq, Int.reduceLT, Int.reduceLE, Int.reduceAdd, Int.reduceSub, Int.reduceToNat, UInt8.reduceToNat, h4, h6, y3, put_ne, hn46, hn64, hZ2, hD2]
          refine Done.wk 3 (Done.drop ((hA2.sub.put' hi6H _).put' hi4 _) ⟨?_, rfl⟩)
          rw [hfin]; rfl
      · have y2 : decide ((fr : Int) < b.length) = false := decide_eq_false (by omega)
        have hfl : fl (b.drop fr) = [] := by rw [List.drop_eq_nil_of_le (by omega)]; rfl
        rw [hfl, List.append_nil] at hM
        have hfin := hfin out hM
        simp -implicitDefEqProofs only [go_sem, tys, regs0, Nat.reduceEqDiff, Nat.reduceAdd, Nat.reduceLeDiff, Nat.reduceLT, Nat.reduceMul, Int.natCast_one, Int.natCast_zero, Int.reduceEq, Int.reduceLT, Int.reduceLE, Int.reduceAdd, Int.reduceSub, Int.reduceToNat, UInt8.reduceToNat, h0, h1, h4, h6, h7, h8, h9, y0, y2, hD]
        by_cases h5 : (5000 : Int) < out.length
        · have y3 : decide ((5000 : Int) < out.length) = true := decide_eq_true h5
          rw [if_pos h5] at hfin
          simp -implicitDefEqProofs only [go_sem, tys, regs0, Nat.reduceEqDiff, Nat.reduceAdd, Nat.reduceLeDiff, Nat.reduceLT, Nat.reduceMul, Int.natCast_one, Int.natCast_zero, Int.reduceEq, Int.reduceLT, Int.reduceLE, Int.reduceAdd, Int.reduceSub, Int.reduceToNat, UInt8.reduceToNat, h4, h6, y3, put_ne, hn46, hn64, hZ]
          refine Done.wk 3 (Done.drop (hA.sub.put' hi4 _) ⟨?_, rfl⟩)
          rw [hfin]; rfl
        · have y3 : decide ((5000 : Int) < out.length) = false := decide_eq_false h5
          rw [if_neg h5] at hfin
          simp -implicitDefEqProofs only [go_sem, tys, regs0, Nat.reduceEqDiff, Nat.reduceAdd, Nat.reduceLeDiff, Nat.reduceLT, Nat.reduceMul, Int.natCast_one, Int.natCast_zero, Int.reduceEq, Int.reduceLT, Int.reduceLE, Int.reduceAdd, Int.reduceSub, Int.reduceToNat, UInt8.reduceToNat, h4, h6, y3, put_ne, hn46, hn64, hZ, hD]
          refine Done.wk 3 (Done.drop (hA.sub.put' hi4 _) ⟨?_, rfl⟩)
          rw [hfin]; rfl
end Go.Proofs
