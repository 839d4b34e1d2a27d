/-
  Walks and plain laws, part 7.
-/
import Derived.Test.YtejjfogjhjmkbaaDoorM6
import Derived.Test.YtejjfogjhjmkbaaDoorM4
import Derived.Test.YtejjfogjhjmkbaaDoorM2
import Derived.Test.YtejjfogjhjmkbaaDoorM3
/- Walks: delta.Make answers as the reference does. -/
namespace Go.Proofs
open Go Go.Abs
set_option linter.unusedSimpArgs false
set_option linter.unusedVariables false
set_option maxRecDepth 20000
theorem longest_best {H G : Heap} {A : Nat} {T : Bytes} {S : List Ste} {last : Nat} (hok : AOk T S last) (h : AR H G A S) (hN : ND S) (hT : T.length ≤ 65536) (w : Bytes) (hw : w.length ≤ 65536) :
    ACalls Tryd.prog 18 [.ptr A 0, .str w] G fun x G' => x = .tup [.int .i64 ((bestM T w T.length).1 : Int), .int .i64 ((bestM T w T.length).2 : Int)] ∧ G' = G := by
  obtain ⟨str, hinv, _⟩ := hok.inv
  obtain ⟨hb, h1, h2⟩ := read_best hinv w
  refine (longest_calls h hN hinv.lk.1 (fun s hs => ?_) w hw).mono ?_
  · have h3 := (hinv.at_ s hs).1
    have e : (ofL S).E s = (gS S s).fin := rfl
    omega
  · rintro x G' ⟨rfl, rfl⟩
    rw [hb]
    refine ⟨?_, rfl⟩
    simp only
    rw [Int.ofNat_sub h1]
def MakI (a b : Bytes) (H H1 : Heap) (i4 i6 A : Nat) (S : List Ste) (t : Nat × Nat × Nat × List PieceV × Tail) (G : Heap) : Prop :=
  AppOK H G 3 (t.2.2.2.1.map encPc) t.2.2.2.2 ∧ G i4 = some zD ∧ G i6 = some (nD a.length b.length (sumOf a) (sumOf b) t.2.2.2.1 t.2.2.2.2) ∧ AR H1 G A S ∧ (b.drop t.2.1).length ≤ t.1 ∧ t.2.1 ≤ b.length ∧ t.2.2.1 ≤ t.2.1 ∧ t.2.2.2.1.length ≤ t.2.1 ∧ t.2.2.2.1 ++ mkR a t.1 (b.drop t.2.1) ((b.take t.2.1).drop t.2.2.1) = mkR a b.length b []
set_option maxHeartbeats 6400000 in
theorem make_calls (a b : Bytes) (H : Heap) (ha : a.length ≤ 1099511627776) (hb : b.length ≤ 1099511627776) : ACalls Tryd.prog 5 [.str a, .str b] H fun x H' => x = makeT a b ∧ H' = H := by
  by_cases hbig : 65536 < a.length ∨ 65536 < b.length
  · have hmk : makeT a b = .tup [.agg (encDl DeltaV.zero .unk), .int .i64 4] := by
      unfold makeT makeV
      rw [if_pos hbig]
    by_cases k1 : 65536 < a.length
    · have z1 : decide ((65536 : Int) < a.length) = true := decide_eq_true (by omega)
      refine ACalls.of_code (X := { pure := puM }) puM_ok Tryd.func5 (by kernel_rfl) rfl (by kernel_rfl) (Nat.le_of_ble_eq_true rfl) ?_
      simp -implicitDefEqProofs only [go_sem, tys, regs0, Nat.reduceEqDiff, Nat.reduceAdd, Nat.reduceLeDiff, Nat.reduceLT, Nat.reduceMul, Int.natCast_one, Int.natCast_zero, Int.reduceEq, Int.reduceLT, Int.reduceLE, Int.reduceAdd, Int.reduceSub, Int.reduceToNat, UInt8.reduceToNat, Tryd.f5]
      with_reducible refine nwC_intro fun i4 hi4 => ?_
      simp -implicitDefEqProofs only [go_sem, tys, regs0, Nat.reduceEqDiff, Nat.reduceAdd, Nat.reduceLeDiff, Nat.reduceLT, Nat.reduceMul, Int.natCast_one, Int.natCast_zero, Int.reduceEq, Int.reduceLT, Int.reduceLE, Int.reduceAdd, Int.reduceSub, Int.reduceToNat, UInt8.reduceToNat, z1]
      refine Done.wk 3 (Done.drop1 hi4 ⟨?_, rfl⟩)
      rw [hmk]; rfl
    · have z1 : decide ((65536 : Int) < a.length) = false := decide_eq_false (by omega)
      have z2 : decide ((65536 : Int) < b.length) = true := decide_eq_true (by omega)
      refine ACalls.of_code (X := { pure := puM }) puM_ok Tryd.func5 (by kernel_rfl) rfl (by kernel_rfl) (Nat.le_of_ble_eq_true rfl) ?_
      simp -implicitDefEqProofs only [go_sem, tys, regs0, Nat.reduceEqDiff, Nat.reduceAdd, Nat.reduceLeDiff, Nat.reduceLT, Nat.reduceMul, Int.natCast_one, Int.natCast_zero, Int.reduceEq, Int.reduceLT, Int.reduceLE, Int.reduceAdd, Int.reduceSub, Int.reduceToNat, UInt8.reduceToNat, Tryd.f5]
      with_reducible refine nwC_intro fun i4 hi4 => ?_
      simp -implicitDefEqProofs only [go_sem, tys, regs0, Nat.reduceEqDiff, Nat.reduceAdd, Nat.reduceLeDiff, Nat.reduceLT, Nat.reduceMul, Int.natCast_one, Int.natCast_zero, Int.reduceEq, Int.reduceLT, Int.reduceLE, Int.reduceAdd, Int.reduceSub, Int.reduceToNat, UInt8.reduceToNat, z1, z2]
      refine Done.wk 3 (Done.drop1 hi4 ⟨?_, rfl⟩)
      rw [hmk]; rfl
  have z1 : decide ((65536 : Int) < a.length) = false := decide_eq_false (by omega)
  have z2 : decide ((65536 : Int) < b.length) = false := decide_eq_false (by omega)
  have hal : a.length ≤ 65536 := by omega
  have hbl : b.length ≤ 65536 := by omega
  have hR : Room = 1099511627776 := rfl
  refine ACalls.of_code (X := { pure := puM }) puM_ok Tryd.func5 (by kernel_rfl) rfl (by kernel_rfl) (Nat.le_of_ble_eq_true rfl) ?_
  simp -implicitDefEqProofs only [go_sem, tys, regs0, Nat.reduceEqDiff, Nat.reduceAdd, Nat.reduceLeDiff, Nat.reduceLT, Nat.reduceMul, Int.natCast_one, Int.natCast_zero, Int.reduceEq, Int.reduceLT, Int.reduceLE, Int.reduceAdd, Int.reduceSub, Int.reduceToNat, UInt8.reduceToNat, Tryd.f5]
  with_reducible refine nwC_intro fun i4 hi4 => ?_
  simp -implicitDefEqProofs only [go_sem, tys, regs0, Nat.reduceEqDiff, Nat.reduceAdd, Nat.reduceLeDiff, Nat.reduceLT, Nat.reduceMul, Int.natCast_one, Int.natCast_zero, Int.reduceEq, Int.reduceLT, Int.reduceLE, Int.reduceAdd, Int.reduceSub, Int.reduceToNat, UInt8.reduceToNat, z1, z2, puM, puN, pu0, sSum_eq, hR, ha, hb]
  with_reducible refine nwC_intro fun i6 hi6 => ?_
  simp -implicitDefEqProofs only [go_sem, tys, regs0, Nat.reduceEqDiff, Nat.reduceAdd, Nat.reduceLeDiff, Nat.reduceLT, Nat.reduceMul, Int.natCast_one, Int.natCast_zero, Int.reduceEq, Int.reduceLT, Int.reduceLE, Int.reduceAdd, Int.reduceSub, Int.reduceToNat, UInt8.reduceToNat]
  have hn46 : ¬ i4 = i6 := fun e => by rw [← e, put_same] at hi6; cases hi6
  have hn64 : ¬ i6 = i4 := fun e => hn46 e.symm
  have hi6H : H i6 = none := by rw [put_ne _ _ _ _ hn64] at hi6; exact hi6
  have hH1 : H.Sub ((H.put i4 zD).put i6 (nD a.length b.length (sumOf a) (sumOf b) [] .exact)) := ((Heap.Sub.rfl' H).put' hi4 _).put' hi6H _
  have hz4 : ((H.put i4 zD).put i6 (nD a.length b.length (sumOf a) (sumOf b) [] .exact)) i4 = some zD := by rw [put_ne _ _ _ _ hn46, put_same]
  have hz6 := put_same (H.put i4 zD) i6 (nD a.length b.length (sumOf a) (sumOf b) [] .exact)
  have hfold : (H.put i4 (.cells [.int .i64 0, .int .i64 0, .str [], .str [], .sl [] .exact])).put i6 (.cells [.int .i64 (a.length : Int), .int .i64 (b.length : Int), .str (sumOf a), .str (sumOf b), .sl [] .exact]) = (H.put i4 zD).put i6 (nD a.length b.length (sumOf a) (sumOf b) [] .exact) := rfl
  try rw [hfold]
  generalize (H.put i4 zD).put i6 (nD a.length b.length (sumOf a) (sumOf b) [] .exact) = H1 at *
  clear hfold hi6
  refine (newAutomaton_calls a H1 hal).mono ?_
  rintro x G ⟨A, S, last, rfl, hok, hAH, hND⟩
  have hAR := hAH.ar
  have hsub1 : H1.Sub G := by
    rcases hAH with ⟨sid, ev, h⟩ | ⟨_, _, h, _⟩
    · exact h.sub
    · exact h
  have hz4G := hsub1 _ _ hz4
  have hz6G := hsub1 _ _ hz6
  have hsubG : H.Sub G := fun i o hi => hsub1 i o (hH1 i o hi)
  simp -implicitDefEqProofs only [go_sem, tys, regs0, Nat.reduceEqDiff, Nat.reduceAdd, Nat.reduceLeDiff, Nat.reduceLT, Nat.reduceMul, Int.natCast_one, Int.natCast_zero, Int.reduceEq, Int.reduceLT, Int.reduceLE, Int.reduceAdd, Int.reduceSub, Int.reduceToNat, UInt8.reduceToNat]
  refine aloop_intro (σ := Nat × Nat × Nat × List PieceV × Tail) (fun t => [(0, .str a), (1, .str b), (4, .ptr i4 0), (6, .ptr i6 0), (7, .ptr A 0), (8, .int .i64 t.2.2.1), (9, .int .i64 t.2.1)]) (MakI a b H H1 i4 i6 A S) (fun t => b.length - t.2.1) (b.length, 0, 0, [], .exact) ?_ ?_ ?_
  · simp -implicitDefEqProofs only [go_sem, tys, regs0, Nat.reduceEqDiff, Nat.reduceAdd, Nat.reduceLeDiff, Nat.reduceLT, Nat.reduceMul, Int.natCast_one, Int.natCast_zero, Int.reduceEq, Int.reduceLT, Int.reduceLE, Int.reduceAdd, Int.reduceSub, Int.reduceToNat, UInt8.reduceToNat]
  · exact ⟨AppOK.nil hsubG, hz4G, hz6G, hAR, by simp, by simp, by simp, by simp, by simp⟩
  · clear hsub1 hz4G hz6G hsubG hAR hAH hH1
    rintro ⟨f, i, fr, out, tl⟩ r G hv ⟨hA, hZ, hD, hAR, hf, hi, hd, ho, hM⟩
    have h0 := hv.1
    have h1 := hv.2.1
    have h4 := hv.2.2.1
    have h6 := hv.2.2.2.1
    have h7 := hv.2.2.2.2.1
    have h8 := hv.2.2.2.2.2.1
    have h9 := hv.2.2.2.2.2.2.1
    clear hv
    simp only at h0 h1 h4 h6 h7 h8 h9 hA hZ hD hAR hf hi hd ho hM
    by_cases g : i < b.length
    · have y0 : decide ((i : Int) < b.length) = true := decide_eq_true (by omega)
      obtain ⟨c, hc⟩ : ∃ c, b[i]? = some c := getD_get' g
      have hdc := drop_cons hc
      have hfs : f = (f - 1) + 1 := by
        rw [hdc] at hf
        simp only [List.length_cons] at hf
        omega
      have hmk := mkR_cons' (a := a) (f := f - 1) (data := (b.take i).drop fr) hdc
      have hbo := bestM_ok a (b.drop i) a.length
      have hlb := longest_best hok hAR hND hal (b.drop i) (by rw [List.length_drop]; omega)
      rw [← hfs, List.drop_drop] at hmk
      rw [List.length_drop] at hf hbo
      generalize bestM a (b.drop i) a.length = bm at *
      unfold nD at hD
      simp -implicitDefEqProofs only [go_sem, tys, regs0, Nat.reduceEqDiff, Nat.reduceAdd, Nat.reduceLeDiff, Nat.reduceLT, Nat.reduceMul, Int.natCast_one, Int.natCast_zero, Int.reduceEq, Int.reduceLT, Int.reduceLE, Int.reduceAdd, Int.reduceSub, Int.reduceToNat, UInt8.reduceToNat, h0, h1, h4, h6, h7, h8, h9, y0, Int.toNat_natCast, List.take_length]
      refine ⟨⟨by omega, by omega⟩, ?_⟩
      refine hlb.pure_next _ ?_
      by_cases e8 : bm.2 < 8
      · have y1 : decide ((bm.2 : Int) < 8) = true := decide_eq_true (by omega)
        rw [if_pos e8] at hmk
        have w1 : IntKind.i64.wrap ((i : Int) + 1) = ((i + 1 : Nat) : Int) := by rw [Go.IntWalk.i64_in _ (by omega)]; omega
        have hdt : (b.take (i + 1)).drop fr = (b.take i).drop fr ++ [c] := by rw [List.take_add_one, hc, List.drop_append_of_le_length (by rw [List.length_take]; omega)]; rfl
        simp -implicitDefEqProofs only [go_sem, tys, regs0, Nat.reduceEqDiff, Nat.reduceAdd, Nat.reduceLeDiff, Nat.reduceLT, Nat.reduceMul, Int.natCast_one, Int.natCast_zero, Int.reduceEq, Int.reduceLT, Int.reduceLE, Int.reduceAdd, Int.reduceSub, Int.reduceToNat, UInt8.reduceToNat, h0, h1, h4, h6, h7, h8, h9, y1, w1]
        exact Again.mk (f - 1, i + 1, fr, out, tl) (by simp -implicitDefEqProofs only [go_sem, tys, regs0, Nat.reduceEqDiff, Nat.reduceAdd, Nat.reduceLeDiff, Nat.reduceLT, Nat.reduceMul, Int.natCast_one, Int.natCast_zero, Int.reduceEq, Int.reduceLT, Int.reduceLE, Int.reduceAdd, Int.reduceSub, Int.reduceToNat, UInt8.reduceToNat, h0, h1, h4, h6, h7, h8, h9]) ⟨hA, hZ, hD, hAR, by simp only; rw [List.length_drop]; omega, by simp only; omega, by simp only; omega, by simp only; omega, by simp only; rw [hdt, ← hmk]; exact hM⟩ (by simp only; omega)
      have y1 : decide ((bm.2 : Int) < 8) = false := decide_eq_false (by omega)
      rw [if_neg e8] at hmk
      have w1 : IntKind.i64.wrap ((i : Int) + bm.2) = ((i + bm.2 : Nat) : Int) := by rw [Go.IntWalk.i64_in _ (by omega)]; omega
      have hcut : (b.take (i + bm.2)).drop (i + bm.2) = [] := List.drop_eq_nil_of_le (by rw [List.length_take]; omega)
      by_cases hdd : fr < i
      · have y2 : decide ((fr : Int) < i) = true := decide_eq_true (by omega)
        have hfl : fl ((b.take i).drop fr) = [⟨0, 0, (b.take i).drop fr⟩] := by
          unfold fl
          rw [if_pos]
          intro e
          have := congrArg List.length e
          rw [List.length_drop, List.length_take] at this
          simp only [List.length_nil] at this
          omega
        rw [hfl] at hmk
        have hAR2 := hAR
        simp -implicitDefEqProofs only [go_sem, tys, regs0, Nat.reduceEqDiff, Nat.reduceAdd, Nat.reduceLeDiff, Nat.reduceLT, Nat.reduceMul, Int.natCast_one, Int.natCast_zero, Int.reduceEq, Int.reduceLT, Int.reduceLE, Int.reduceAdd, Int.reduceSub, Int.reduceToNat, UInt8.reduceToNat, h0, h1, h4, h6, h7, h8, h9, y1, y2, hD, Int.toNat_natCast]
        refine ⟨⟨by omega, by omega⟩, ?_⟩
        refine AppOK.step hA (encPc_unif out) (by simp) (by simp; omega) (by simp; omega) (fun tl2 G2 hA2 hK2 => ?_)
        have e2 : out.map encPc ++ [[AV.int .i64 0, .int .i64 0, .str ((b.take i).drop fr)]] = (out ++ [(⟨0, 0, (b.take i).drop fr⟩ : PieceV)]).map encPc := by simp [encPc]
        rw [e2] at hA2 ⊢
        have hD2 := hK2.cells hD
        have hZ2 := hK2.cells hZ
        have hAR2 := hAR.kept hK2
        have hol : (out ++ [(⟨0, 0, (b.take i).drop fr⟩ : PieceV)]).length = out.length + 1 := by simp
        have hM2 : (out ++ [(⟨0, 0, (b.take i).drop fr⟩ : PieceV)]) ++ (⟨bm.1, bm.2, []⟩ :: mkR a (f - 1) (b.drop (i + bm.2)) []) = mkR a b.length b [] := by rw [← hM, hmk]; simp
        generalize out ++ [(⟨0, 0, (b.take i).drop fr⟩ : PieceV)] = out2 at *
        simp -implicitDefEqProofs only [go_sem, tys, regs0, Nat.reduceEqDiff, Nat.reduceAdd, Nat.reduceLeDiff, Nat.reduceLT, Nat.reduceMul, Int.natCast_one, Int.natCast_zero, Int.reduceEq, Int.reduceLT, Int.reduceLE, Int.reduceAdd, Int.reduceSub, Int.reduceToNat, UInt8.reduceToNat, h0, h1, h4, h6, h7, h8, h9, hD2]
        have hA3 := hA2.set hi6H hD2 (o' := nD a.length b.length (sumOf a) (sumOf b) out2 tl2) (fun n e => by cases e)
        have hD3 := put_same G2 i6 (nD a.length b.length (sumOf a) (sumOf b) out2 tl2)
        have hZ3 : (G2.put i6 (nD a.length b.length (sumOf a) (sumOf b) out2 tl2)) i4 = some zD := by rw [put_ne _ _ _ _ hn46]; exact hZ2
        have hAR3 := hAR2.put hz6 (nD a.length b.length (sumOf a) (sumOf b) out2 tl2)
        unfold nD at hA3 hD3 hZ3 hAR3
        generalize G2.put i6 (.cells [.int .i64 (a.length : Int), .int .i64 (b.length : Int), .str (sumOf a), .str (sumOf b), .sl (out2.map encPc) tl2]) = G3 at *
        refine AppOK.step hA3 (encPc_unif out2) (by simp) (by simp; omega) (by simp; omega) (fun tl3 G4 hA4 hK4 => ?_)
        have e4 : out2.map encPc ++ [[AV.int .i64 (bm.1 : Int), .int .i64 (bm.2 : Int), .str []]] = (out2 ++ [(⟨bm.1, bm.2, []⟩ : PieceV)]).map encPc := by simp [encPc]
        rw [e4] at hA4 ⊢
        have hD4 := hK4.cells hD3
        have hZ4 := hK4.cells hZ3
        have hAR4 := (hAR3).kept hK4
        simp -implicitDefEqProofs only [go_sem, tys, regs0, Nat.reduceEqDiff, Nat.reduceAdd, Nat.reduceLeDiff, Nat.reduceLT, Nat.reduceMul, Int.natCast_one, Int.natCast_zero, Int.reduceEq, Int.reduceLT, Int.reduceLE, Int.reduceAdd, Int.reduceSub, Int.reduceToNat, UInt8.reduceToNat, h0, h1, h4, h6, h7, h8, h9, w1, hD4]
        exact Again.mk (f - 1, i + bm.2, i + bm.2, out2 ++ [(⟨bm.1, bm.2, []⟩ : PieceV)], tl3) (by simp -implicitDefEqProofs only [go_sem, tys, regs0, Nat.reduceEqDiff, Nat.reduceAdd, Nat.reduceLeDiff, Nat.reduceLT, Nat.reduceMul, Int.natCast_one, Int.natCast_zero, Int.reduceEq, Int.reduceLT, Int.reduceLE, Int.reduceAdd, Int.reduceSub, Int.reduceToNat, UInt8.reduceToNat, h0, h1, h4, h6, h7, h8, h9]) ⟨hA4.set hi6H hD4 (fun n e => by cases e), by rw [put_ne _ _ _ _ hn46]; exact hZ4, by rw [put_same]; rfl, hAR4.put hz6 _, by simp only; rw [List.length_drop]; omega, by simp only; omega, by simp, by simp; omega, by simp only; rw [hcut, ← hM2]; simp⟩ (by simp only; omega)
      · have y2 : decide ((fr : Int) < i) = false := decide_eq_false (by omega)
        have hfl : fl ((b.take i).drop fr) = [] := by
          have : (b.take i).drop fr = [] := List.drop_eq_nil_of_le (by rw [List.length_take]; omega)
          rw [this]; rfl
        rw [hfl, List.nil_append] at hmk
        simp -implicitDefEqProofs only [go_sem, tys, regs0, Nat.reduceEqDiff, Nat.reduceAdd, Nat.reduceLeDiff, Nat.reduceLT, Nat.reduceMul, Int.natCast_one, Int.natCast_zero, Int.reduceEq, Int.reduceLT, Int.reduceLE, Int.reduceAdd, Int.reduceSub, Int.reduceToNat, UInt8.reduceToNat, h0, h1, h4, h6, h7, h8, h9, y1, y2, hD, Int.toNat_natCast]
        refine AppOK.step hA (encPc_unif out) (by simp) (by simp; omega) (by simp; omega) (fun tl3 G4 hA4 hK4 => ?_)
        have e4 : out.map encPc ++ [[AV.int .i64 (bm.1 : Int), .int .i64 (bm.2 : Int), .str []]] = (out ++ [(⟨bm.1, bm.2, []⟩ : PieceV)]).map encPc := by simp [encPc]
        rw [e4] at hA4 ⊢
        have hD4 := hK4.cells hD
        have hZ4 := hK4.cells hZ
        have hAR4 := (hAR).kept hK4
        simp -implicitDefEqProofs only [go_sem, tys, regs0, Nat.reduceEqDiff, Nat.reduceAdd, Nat.reduceLeDiff, Nat.reduceLT, Nat.reduceMul, Int.natCast_one, Int.natCast_zero, Int.reduceEq, Int.reduceLT, Int.reduceLE, Int.reduceAdd, Int.reduceSub, Int.reduceToNat, UInt8.reduceToNat, h0, h1, h4, h6, h7, h8, h9, w1, hD4]
        exact Again.mk (f - 1, i + bm.2, i + bm.2, out ++ [(⟨bm.1, bm.2, []⟩ : PieceV)], tl3) (by simp -implicitDefEqProofs only [go_sem, tys, regs0, Nat.reduceEqDiff, Nat.reduceAdd, Nat.reduceLeDiff, Nat.reduceLT, Nat.reduceMul, Int.natCast_one, Int.natCast_zero, Int.reduceEq, Int.reduceLT, Int.reduceLE, Int.reduceAdd, Int.reduceSub, Int.reduceToNat, UInt8.reduceToNat, h0, h1, h4, h6, h7, h8, h9]) ⟨hA4.set hi6H hD4 (fun n e => by cases e), by rw [put_ne _ _ _ _ hn46]; exact hZ4, by rw [put_same]; rfl, hAR4.put hz6 _, by simp only; rw [List.length_drop]; omega, by simp only; omega, by simp, by simp; omega, by simp only; rw [hcut, ← hM, hmk]; simp⟩ (by simp only; omega)
    · have e : i = b.length := by omega
      subst e
      have y0 : decide ((b.length : Int) < b.length) = false := decide_eq_false (by omega)
      rw [List.drop_length, List.take_length, mkR_nil] at hM
      have hfin : ∀ (L : List PieceV), L = mkR a b.length b [] → makeT a b = if (5000 : Int) < L.length then .tup [.agg (encDl DeltaV.zero .unk), .int .i64 4] else .tup [.agg (encDl ⟨a.length, b.length, sumOf a, sumOf b, L⟩ .unk), .int .i64 0] := fun L hL => by
        unfold makeT makeV
        rw [if_neg hbig, ← hL]
        split <;> rfl
      unfold zD at hZ
      unfold nD at hD
      by_cases hdd : fr < b.length
      · have y2 : decide ((fr : Int) < b.length) = true := decide_eq_true (by omega)
        have hfl : fl (b.drop fr) = [⟨0, 0, b.drop fr⟩] := by
          unfold fl
          rw [if_pos]
          intro e
          have := congrArg List.length e
          rw [List.length_drop] at this
          simp only [List.length_nil] at this
          omega
        rw [hfl] at hM
        have hfin := hfin _ hM
        simp -implicitDefEqProofs only [go_sem, tys, regs0, Nat.reduceEqDiff, Nat.reduceAdd, Nat.reduceLeDiff, Nat.reduceLT, Nat.reduceMul, Int.natCast_one, Int.natCast_zero, Int.reduceEq, Int.reduceLT, Int.reduceLE, Int.reduceAdd, Int.reduceSub, Int.reduceToNat, UInt8.reduceToNat, h0, h1, h4, h6, h7, h8, h9, y0, y2, hD, Int.toNat_natCast, List.take_length]
        refine ⟨⟨by omega, by omega⟩, ?_⟩
        refine AppOK.step hA (encPc_unif out) (by simp) (by simp; omega) (by simp; omega) (fun tl2 G2 hA2 hK2 => ?_)
        have e2 : out.map encPc ++ [[AV.int .i64 0, .int .i64 0, .str (b.drop fr)]] = (out ++ [(⟨0, 0, b.drop fr⟩ : PieceV)]).map encPc := by simp [encPc]
        rw [e2] at hA2 ⊢
        have hZ2 := hK2.cells hZ
        have hD2 := hK2.cells hD
        generalize out ++ [(⟨0, 0, b.drop fr⟩ : PieceV)] = out2 at *
        simp -implicitDefEqProofs only [go_sem, tys, regs0, Nat.reduceEqDiff, Nat.reduceAdd, Nat.reduceLeDiff, Nat.reduceLT, Nat.reduceMul, Int.natCast_one, Int.natCast_zero, Int.reduceEq, Int.reduceLT, Int.reduceLE, Int.reduceAdd, Int.reduceSub, Int.reduceToNat, UInt8.reduceToNat, h0, h1, h4, h6, h7, h8, h9, hD2]
        by_cases h5 : (5000 : Int) < out2.length
        · have y3 : decide ((5000 : Int) < out2.length) = true := decide_eq_true h5
          rw [if_pos h5] at hfin
          simp -implicitDefEqProofs only [go_sem, tys, regs0, Nat.reduceEqDiff, Nat.reduceAdd, Nat.reduceLeDiff, Nat.reduceLT, Nat.reduceMul, Int.natCast_one, Int.natCast_zero, Int.reduceEq, Int.reduceLT, Int.reduceLE, Int.reduceAdd, Int.reduceSub, Int.reduceToNat, UInt8.reduceToNat, h4, h6, y3, put_ne, hn46, hn64, hZ2]
          refine Done.wk 3 (Done.drop ((hA2.sub.put' hi6H _).put' hi4 _) ⟨?_, rfl⟩)
          rw [hfin]; rfl
        · have y3 : decide ((5000 : Int) < out2.length) = false := decide_eq_false h5
          rw [if_neg h5] at hfin
          simp -implicitDefEqProofs only [go_sem, tys, regs0, Nat.reduceEqDiff, Nat.reduceAdd, Nat.reduceLeDiff, Nat.reduceLT, Nat.reduceMul, Int.natCast_one, Int.natCast_zero, Int.reduceEq, Int.reduceLT, Int.reduceLE, Int.reduceAdd, Int.reduceSub, Int.reduceToNat, UInt8.reduceToNat, h4, h6, y3, put_ne, hn46, hn64, hZ2, hD2]
          refine Done.wk 3 (Done.drop ((hA2.sub.put' hi6H _).put' hi4 _) ⟨?_, rfl⟩)
          rw [hfin]; rfl
      · have y2 : decide ((fr : Int) < b.length) = false := decide_eq_false (by omega)
        have hfl : fl (b.drop fr) = [] := by rw [List.drop_eq_nil_of_le (by omega)]; rfl
        rw [hfl, List.append_nil] at hM
        have hfin := hfin out hM
        simp -implicitDefEqProofs only [go_sem, tys, regs0, Nat.reduceEqDiff, Nat.reduceAdd, Nat.reduceLeDiff, Nat.reduceLT, Nat.reduceMul, Int.natCast_one, Int.natCast_zero, Int.reduceEq, Int.reduceLT, Int.reduceLE, Int.reduceAdd, Int.reduceSub, Int.reduceToNat, UInt8.reduceToNat, h0, h1, h4, h6, h7, h8, h9, y0, y2, hD]
        by_cases h5 : (5000 : Int) < out.length
        · have y3 : decide ((5000 : Int) < out.length) = true := decide_eq_true h5
          rw [if_pos h5] at hfin
          simp -implicitDefEqProofs only [go_sem, tys, regs0, Nat.reduceEqDiff, Nat.reduceAdd, Nat.reduceLeDiff, Nat.reduceLT, Nat.reduceMul, Int.natCast_one, Int.natCast_zero, Int.reduceEq, Int.reduceLT, Int.reduceLE, Int.reduceAdd, Int.reduceSub, Int.reduceToNat, UInt8.reduceToNat, h4, h6, y3, put_ne, hn46, hn64, hZ]
          refine Done.wk 3 (Done.drop (hA.sub.put' hi4 _) ⟨?_, rfl⟩)
          rw [hfin]; rfl
        · have y3 : decide ((5000 : Int) < out.length) = false := decide_eq_false h5
          rw [if_neg h5] at hfin
          simp -implicitDefEqProofs only [go_sem, tys, regs0, Nat.reduceEqDiff, Nat.reduceAdd, Nat.reduceLeDiff, Nat.reduceLT, Nat.reduceMul, Int.natCast_one, Int.natCast_zero, Int.reduceEq, Int.reduceLT, Int.reduceLE, Int.reduceAdd, Int.reduceSub, Int.reduceToNat, UInt8.reduceToNat, h4, h6, y3, put_ne, hn46, hn64, hZ, hD]
          refine Done.wk 3 (Done.drop (hA.sub.put' hi4 _) ⟨?_, rfl⟩)
          rw [hfin]; rfl
end Go.Proofs

/- Plain law and walks: what is made answers as the law says. -/
namespace Go.Proofs
open Go Go.Abs
set_option linter.unusedSimpArgs false
set_option linter.unusedVariables false
set_option maxRecDepth 20000
theorem lcp_pre : ∀ x w : Bytes, w.take (lcp x w) = x.take (lcp x w)
  | x :: xs, y :: ys => by
    rw [lcp]
    split
    · rename_i e
      rw [List.take_succ_cons, List.take_succ_cons, lcp_pre xs ys, e]
    · rfl
  | [], _ => by simp [lcp]
  | _ :: _, [] => by simp [lcp]
theorem bestM_pre (a w : Bytes) : ∀ k, w.take (bestM a w k).2 = (a.drop (bestM a w k).1).take (bestM a w k).2
  | 0 => by simp [bestM]
  | k + 1 => by
    rw [bestM]
    split
    · exact lcp_pre _ _
    · exact bestM_pre a w k
theorem madeV_append (a : Bytes) (x y : List PieceV) : madeV a (x ++ y) = madeV a x ++ madeV a y := by simp [madeV]
theorem madeV_fl (a data : Bytes) : madeV a (fl data) = data := by
  unfold fl
  split
  · rename_i h
    simp [madeV, pcMade, h]
  · rename_i h
    have : data = [] := by simpa using h
    rw [this]; rfl
theorem mkR_made (a : Bytes) : ∀ (f : Nat) (w data : Bytes), w.length ≤ f → madeV a (mkR a f w data) = data ++ w := by
  intro f
  induction f with
  | zero =>
    intro w data h
    obtain rfl : w = [] := List.eq_nil_of_length_eq_zero (by omega)
    rw [mkR, madeV_fl, List.append_nil]
  | succ f ih =>
    intro w data h
    cases w with
    | nil => rw [mkR, madeV_fl, List.append_nil]
    | cons c w =>
      rw [List.length_cons] at h
      rw [mkR]
      split
      · rw [ih w _ (by omega)]; simp
      · rename_i h8
        have hp := bestM_pre a (c :: w) a.length
        have hb := bestM_ok a (c :: w) a.length
        generalize bestM a (c :: w) a.length = bm at *
        have e : ∀ p l, madeV a (p :: l) = pcMade a p ++ madeV a l := fun p l => by simp [madeV]
        rw [madeV_append, madeV_fl, e, ih _ _ (by rw [List.length_drop, List.length_cons]; omega), List.nil_append]
        have e2 : pcMade a ⟨bm.1, bm.2, []⟩ = (c :: w).take bm.2 := by
          unfold pcMade
          rw [if_neg (by simp), hp]
          simp only
          rw [show (((bm.1 : Int) + (bm.2 : Int)).toNat) = bm.1 + bm.2 by omega, Int.toNat_natCast, List.drop_take, Nat.add_sub_cancel_left]
        rw [e2, List.take_append_drop]
theorem makeV_len (a b : Bytes) : (makeV a b).1.ps.length ≤ 5000 := by
  unfold makeV
  split
  · exact Nat.zero_le _
  · split
    · exact Nat.zero_le _
    · simp only; omega
theorem makeV_dlR (a b : Bytes) : dlR (makeV a b).1 := by
  by_cases h : (makeV a b).2 = 0
  · exact (makeV_ok h).1
  · have : (makeV a b).1 = DeltaV.zero := by
      unfold makeV at h ⊢
      split
      · rfl
      · split
        · rfl
        · rename_i h1 h2
          rw [if_neg h1, if_neg h2] at h
          exact absurd rfl h
    rw [this]
    refine ⟨by decide, by decide, by decide, by decide, by decide, fun p hp => by cases hp⟩
theorem make_made {a b : Bytes} (h : (makeV a b).2 = 0) : applyV a (makeV a b).1 = (b, 0) := by
  have hE := (makeV_ok h).2
  unfold applyV
  rw [if_neg (by simpa using hE)]
  unfold makeV at h ⊢
  split at h
  · cases h
  · rename_i h1
    rw [if_neg h1]
    split at h
    · cases h
    · rename_i h2
      rw [if_neg h2]
      unfold patchV
      have hm := mkR_made a b.length b [] (Nat.le_refl _)
      rw [List.nil_append] at hm
      simp only [hm]
      simp
def puH : Pures := putP 5 sMake (putP 6 sMake puF)
theorem puH_ok : PuOK Tryd.prog puH := .put (.put (puF_ok) (sMake_ok fun a b H h1 h2 => rMake_calls a b H h1 h2)) (sMake_ok fun a b H h1 h2 => make_calls a b H h1 h2)
end Go.Proofs

/- Plain laws: another byte, another sum. -/
namespace Go.Proofs
open Go Go.Abs
set_option linter.unusedSimpArgs false
set_option linter.unusedVariables false
theorem xor64 {a b : Int} : ∃ n : Nat, n < 18446744073709551616 ∧ n = (BitVec.ofInt 64 a ^^^ BitVec.ofInt 64 b).toNat ∧ xorI .u64 a b = (n : Int) := by
  have h := (BitVec.ofInt 64 a ^^^ BitVec.ofInt 64 b).isLt
  refine ⟨(BitVec.ofInt 64 a ^^^ BitVec.ofInt 64 b).toNat, h, rfl, ?_⟩
  unfold xorI
  exact Go.IntWalk.u64_in _ (by
    have e : (BitVec.ofInt IntKind.u64.bits a ^^^ BitVec.ofInt IntKind.u64.bits b).toNat = (BitVec.ofInt 64 a ^^^ BitVec.ofInt 64 b).toNat := rfl
    omega)
theorem ofInt_inj {a b : Int} (ha : 0 ≤ a ∧ a < 18446744073709551616) (hb : 0 ≤ b ∧ b < 18446744073709551616) (h : BitVec.ofInt 64 a = BitVec.ofInt 64 b) : a = b := by
  have := congrArg BitVec.toNat h
  rw [BitVec.toNat_ofInt, BitVec.toNat_ofInt] at this
  omega
theorem xor64_inj {a b c d : Int} (h : xorI .u64 a b = xorI .u64 c d) : BitVec.ofInt 64 a ^^^ BitVec.ofInt 64 b = BitVec.ofInt 64 c ^^^ BitVec.ofInt 64 d := by
  obtain ⟨n, h1, h2, h3⟩ := @xor64 a b
  obtain ⟨m, g1, g2, g3⟩ := @xor64 c d
  apply BitVec.eq_of_toNat_eq
  rw [← h2, ← g2]
  omega
theorem mulP_nat {x y : Nat} (hx : x < 18446744073709551616) (hy : y < 18446744073709551616) (h : (x * 1099511628211) % 18446744073709551616 = (y * 1099511628211) % 18446744073709551616) : x = y := by
  have key : ∀ z : Nat, z < 18446744073709551616 → ((z * 1099511628211) % 18446744073709551616 * 14886173955864302971) % 18446744073709551616 = z := fun z hz => by
    rw [Nat.mod_mul_mod, Nat.mul_assoc, Nat.mul_mod, show (1099511628211 * 14886173955864302971) % 18446744073709551616 = 1 from rfl, Nat.mul_one, Nat.mod_mod, Nat.mod_eq_of_lt hz]
  rw [← key x hx, ← key y hy, h]
theorem mulP_inj {x y : Nat} (hx : x < 18446744073709551616) (hy : y < 18446744073709551616) (h : IntKind.u64.wrap ((x : Int) * 1099511628211) = IntKind.u64.wrap ((y : Int) * 1099511628211)) : x = y := by
  have e : ∀ n : Nat, IntKind.u64.wrap ((n : Int) * 1099511628211) = (((n * 1099511628211) % 18446744073709551616 : Nat) : Int) := fun n => by
    unfold IntKind.wrap
    simp [IntKind.signed, IntKind.bits]
  rw [e, e] at h
  exact mulP_nat hx hy (by exact_mod_cast h)
theorem fnvStep_inj {h h' : Int} {c c' : UInt8} (hh : 0 ≤ h ∧ h < 18446744073709551616) (hh' : 0 ≤ h' ∧ h' < 18446744073709551616) (e : fnvStep h c = fnvStep h' c') : (c = c' → h = h') ∧ (h = h' → c = c') := by
  unfold fnvStep at e
  obtain ⟨n, h1, h2, h3⟩ := @xor64 h (c.toNat : Int)
  obtain ⟨m, g1, g2, g3⟩ := @xor64 h' (c'.toNat : Int)
  rw [h3, g3] at e
  have e1 := mulP_inj h1 g1 e
  have e2 := xor64_inj (show xorI .u64 h (c.toNat : Int) = xorI .u64 h' (c'.toNat : Int) by rw [h3, g3, e1])
  refine ⟨fun hc => ?_, fun hc => ?_⟩
  · subst hc
    exact ofInt_inj hh hh' ((BitVec.xor_right_inj (BitVec.ofInt 64 (c.toNat : Int))).1 (by rw [BitVec.xor_comm, e2, BitVec.xor_comm]))
  · subst hc
    have := (BitVec.xor_right_inj _).1 e2
    have := ofInt_inj ⟨by omega, by have := c.toNat_lt; omega⟩ ⟨by omega, by have := c'.toNat_lt; omega⟩ this
    exact UInt8.toNat_inj.1 (by omega)
theorem fold_ne : ∀ (s : Bytes) (h h' : Int), (0 ≤ h ∧ h < 18446744073709551616) → (0 ≤ h' ∧ h' < 18446744073709551616) → h ≠ h' → s.foldl fnvStep h ≠ s.foldl fnvStep h'
  | [], _, _, _, _, hne => hne
  | c :: s, h, h', h1, h2, hne => by
    rw [List.foldl_cons, List.foldl_cons]
    exact fold_ne s _ _ (fnvStep_range _ _) (fnvStep_range _ _) fun e => hne ((fnvStep_inj h1 h2 e).1 rfl)
/-- Another byte: another number. -/
theorem fnv_ne (pre post : Bytes) {x y : UInt8} (hxy : x ≠ y) : fnv (pre ++ x :: post) ≠ fnv (pre ++ y :: post) := by
  unfold fnv
  rw [List.foldl_append, List.foldl_append, List.foldl_cons, List.foldl_cons]
  have hr := foldl_range pre 14695981039346656037 (by omega)
  exact fold_ne post _ _ (fnvStep_range _ _) (fnvStep_range _ _) fun e => hxy ((fnvStep_inj hr hr e).2 rfl)
theorem dig_inj {a b : Nat} (ha : a < 16) (hb : b < 16) (h : dig a = dig b) : a = b := by
  have : ∀ a, a < 16 → ∀ b, b < 16 → dig a = dig b → a = b := by decide
  exact this a ha b hb h
theorem hexPad_inj : ∀ (k a b : Nat), a < 16 ^ k → b < 16 ^ k → hexPad k a = hexPad k b → a = b
  | 0, a, b, ha, hb, _ => by simp at ha hb; omega
  | k + 1, a, b, ha, hb, h => by
    rw [hexPad, hexPad] at h
    have hl : (hexPad k (a / 16)).length = (hexPad k (b / 16)).length := by rw [hexPad_len, hexPad_len]
    obtain ⟨h1, h2⟩ := List.append_inj h hl
    rw [Nat.pow_succ] at ha hb
    have i1 := hexPad_inj k (a / 16) (b / 16) (by omega) (by omega) h1
    have i2 := dig_inj (Nat.mod_lt _ (by omega)) (Nat.mod_lt _ (by omega)) (List.singleton_inj.1 h2)
    omega
/-- Another byte: another sum. -/
theorem sumOf_ne (pre post : Bytes) {x y : UInt8} (hxy : x ≠ y) : sumOf (pre ++ x :: post) ≠ sumOf (pre ++ y :: post) := fun e => by
  have h := hexPad_inj 16 _ _ (by have := fnvN_lt (pre ++ x :: post); omega) (by have := fnvN_lt (pre ++ y :: post); omega) e
  exact fnv_ne pre post hxy (by rw [fnvN_eq, fnvN_eq, h])
/-- A text of which one byte is changed. -/
theorem sumOf_set {s : Bytes} {i : Nat} {x y : UInt8} (hi : s[i]? = some x) (hxy : x ≠ y) : sumOf (s.set i y) ≠ sumOf s := by
  have hlt := (List.getElem?_eq_some_iff.1 hi).1
  have e1 : s = s.take i ++ x :: s.drop (i + 1) := by
    have h2 := List.take_append_drop i s
    have h3 : s.drop i = x :: s.drop (i + 1) := by
      rw [List.drop_eq_getElem_cons hlt]
      congr 1
      rw [List.getElem?_eq_getElem hlt] at hi
      exact Option.some.inj hi
    rw [h3] at h2
    exact h2.symm
  have e2 : s.set i y = s.take i ++ y :: s.drop (i + 1) := by
    rw [List.set_eq_take_append_cons_drop, if_pos hlt]
  rw [e2]
  conv => rhs; rw [e1]
  exact fun e => sumOf_ne _ _ hxy e.symm
end Go.Proofs

/- Plain laws: a printed delta with another byte is refused. -/
namespace Go.Proofs
open Go Go.Abs
set_option linter.unusedSimpArgs false
set_option linter.unusedVariables false
theorem sumR_suf {l : Bytes} {h r : Bytes} (e : sumR l = some (h, r)) : r <:+ l := by
  unfold sumR at e
  split at e
  · cases e; exact List.drop_suffix _ _
  · cases e
theorem numR_suf : ∀ (f i n : Nat) (l : Bytes) (m : Nat) (r : Bytes), numR f i n l = some (m, r) → r <:+ l
  | 0, _, _, _, _, _, e => by cases e
  | f + 1, i, n, [], _, _, e => by cases e
  | f + 1, i, n, c :: l, m, r, e => by
    rw [numR] at e
    split at e
    · split at e
      · cases e
      · cases e; exact List.suffix_cons _ _
    · exact (numR_suf f _ _ l m r e).trans (List.suffix_cons _ _)
theorem num_suf {l : Bytes} {x : Nat × Bytes} (e : num l = some x) : x.2 <:+ l := numR_suf 5 0 0 l x.1 x.2 e
theorem pieceR_suf {l : Bytes} {x : PieceV × Bytes} (e : pieceR l = some x) : x.2 <:+ l := by
  cases l with
  | nil => cases e
  | cons c l =>
    rw [pieceR] at e
    split at e
    · simp only [Option.bind_eq_some_iff, Option.map_eq_some_iff] at e
      obtain ⟨a, h1, b, h2, rfl⟩ := e
      exact ((num_suf h2).trans (num_suf h1)).trans (List.suffix_cons _ _)
    · split at e
      · simp only [Option.bind_eq_some_iff] at e
        obtain ⟨a, h1, h2⟩ := e
        split at h2
        · cases h2
        · cases h2
          exact ((List.drop_suffix _ _).trans (num_suf h1)).trans (List.suffix_cons _ _)
      · cases e
theorem piecesR_suf : ∀ (k : Nat) (l : Bytes) (x : List PieceV × Bytes), piecesR k l = some x → x.2 <:+ l
  | 0, l, x, e => by cases e; exact List.suffix_refl _
  | k + 1, l, x, e => by
    rw [piecesR] at e
    simp only [Option.bind_eq_some_iff, Option.map_eq_some_iff] at e
    obtain ⟨a, h1, b, h2, rfl⟩ := e
    exact (piecesR_suf k a.2 b h2).trans (pieceR_suf h1)
/-- What is left over stands at the end. -/
theorem bodyR_suf {s : Bytes} {d : DeltaV} {r : Bytes} (e : bodyR s = some (d, r)) : r <:+ s := by
  unfold bodyR at e
  split at e
  · simp only [Option.bind_eq_some_iff, Option.map_eq_some_iff] at e
    obtain ⟨a, h1, b, h2, u, h3, v, h4, n, h5, p, h6, h7⟩ := e
    cases h7
    exact (((((piecesR_suf _ _ _ h6).trans (num_suf h5)).trans (sumR_suf (h := v.1) h4)).trans (sumR_suf (h := u.1) h3)).trans (num_suf h2)).trans ((num_suf h1).trans (List.drop_suffix _ _))
  · cases e
theorem hexB_inj : ∀ (x y : Bytes), x.length = y.length → hexB x = hexB y → x = y
  | [], [], _, _ => rfl
  | [], _ :: _, h, _ => by cases h
  | _ :: _, [], h, _ => by cases h
  | a :: x, b :: y, h, e => by
    have e1 : hexB (a :: x) = dig (a.toNat / 16) :: dig (a.toNat % 16) :: hexB x := by simp [hexB]
    have e2 : hexB (b :: y) = dig (b.toNat / 16) :: dig (b.toNat % 16) :: hexB y := by simp [hexB]
    rw [e1, e2] at e
    obtain ⟨h1, h2⟩ := List.cons.inj e
    obtain ⟨h3, h4⟩ := List.cons.inj h2
    have l1 := a.toNat_lt
    have l2 := b.toNat_lt
    have i1 := dig_inj (by omega) (by omega) h1
    have i2 := dig_inj (by omega) (by omega) h3
    have : a = b := UInt8.toNat_inj.1 (by omega)
    rw [this, hexB_inj x y (by simpa using h) h4]
theorem parseV_zero {s : Bytes} (h : (parseV s).2 ≠ 0) : (parseV s).1 = DeltaV.zero := by
  unfold parseV at h ⊢
  split
  · rfl
  · rename_i h1
    rw [if_neg h1] at h
    split
    · rfl
    · rename_i d r hb
      rw [hb] at h
      simp only at h
      split
      · rename_i hh he
        rw [he] at h
        simp only at h
        split
        · rfl
        · rename_i h2
          rw [if_neg h2] at h
          split
          · rfl
          · rename_i h3
            rw [if_neg h3] at h
            exact absurd rfl h
      · rfl
theorem parseV_sum {s : Bytes} (h : (parseV s).2 = 0) : ∃ r, r <:+ s ∧ r.length = 8 ∧ hexB r = sumOf (s.take (s.length - 8)) := by
  unfold parseV at h
  split at h
  · cases h
  split at h
  · cases h
  rename_i d r hb
  split at h
  · rename_i hh he
    split at h
    · cases h
    rename_i h2
    have h2 := Decidable.not_not.1 h2
    unfold sumR at he
    split at he
    · rename_i h8
      obtain ⟨e1, e2⟩ := Prod.mk.inj (Option.some.inj he)
      have hl : r.length = 8 := by
        have := congrArg List.length e2
        rw [List.length_drop] at this
        simp only [List.length_nil] at this
        omega
      rw [List.take_of_length_le (by omega)] at e1
      rw [hl] at h2
      exact ⟨r, bodyR_suf hb, hl, by rw [e1, h2]⟩
    · cases he
  · cases h
/-- A printed delta with another byte is refused. -/
theorem bent_refused {d : DeltaV} {i : Nat} {x y : UInt8} (hi : (printB d)[i]? = some x) (hxy : x ≠ y) : (parseV ((printB d).set i y)).2 ≠ 0 := by
  intro h0
  obtain ⟨r, h1, h2, h3⟩ := parseV_sum h0
  have hR := rawB_len (hexN (sumOf (bodyB d)))
  have hsum := sumR_raw [] (sumOf_form (bodyB d))
  rw [List.append_nil] at hsum
  unfold sumR at hsum
  rw [if_pos (by omega), List.take_of_length_le (by omega)] at hsum
  have hx := (Prod.mk.inj (Option.some.inj hsum)).1
  unfold printB at hi h1 h3
  generalize rawB (hexN (sumOf (bodyB d))) = R at *
  generalize bodyB d = B at *
  have hlen : ((B ++ R).set i y).length - 8 = B.length := by rw [List.length_set, List.length_append]; omega
  rw [hlen] at h3
  have hr : r = ((B ++ R).set i y).drop B.length := by
    obtain ⟨u, hu⟩ := h1
    have : u.length = B.length := by
      have := congrArg List.length hu
      rw [List.length_append, List.length_set, List.length_append] at this
      omega
    rw [← hu, ← this, List.drop_left]
  by_cases hlt : i < B.length
  · rw [List.set_append_left _ _ hlt] at h3 hr
    rw [List.drop_append_of_le_length (by rw [List.length_set]; omega), List.drop_eq_nil_of_le (by rw [List.length_set]; omega), List.nil_append] at hr
    rw [List.take_append_of_le_length (by rw [List.length_set]; omega), List.take_of_length_le (by rw [List.length_set]; omega), hr, hx] at h3
    rw [List.getElem?_append_left hlt] at hi
    exact sumOf_set hi hxy h3.symm
  · rw [List.set_append_right _ _ (by omega)] at h3 hr
    rw [List.drop_left] at hr
    rw [List.take_left, ← hx, hr] at h3
    have e := hexB_inj _ _ (by rw [List.length_set]) h3
    rw [List.getElem?_append_right (by omega)] at hi
    have hlt2 := (List.getElem?_eq_some_iff.1 hi).1
    have : (R.set (i - B.length) y)[i - B.length]? = some y := by rw [List.getElem?_set, if_pos rfl, if_pos hlt2]
    rw [e, hi] at this
    exact hxy (Option.some.inj this)
end Go.Proofs

/- Plain laws: a delta of which a byte of data is changed makes nothing. -/
namespace Go.Proofs
open Go Go.Abs
set_option linter.unusedSimpArgs false
set_option linter.unusedVariables false
/-- The pieces around one. -/
theorem split_at {α : Type} {l : List α} {k : Nat} {p : α} (h : l[k]? = some p) (q : α) : l = l.take k ++ p :: l.drop (k + 1) ∧ l.set k q = l.take k ++ q :: l.drop (k + 1) := by
  have hlt := (List.getElem?_eq_some_iff.1 h).1
  refine ⟨?_, by rw [List.set_eq_take_append_cons_drop, if_pos hlt]⟩
  have h2 := List.take_append_drop k l
  rw [drop_cons h] at h2
  exact h2.symm
theorem bent_piece {a : Bytes} {l : List PieceV} {k i : Nat} {p : PieceV} {x y : UInt8} (hp : l[k]? = some p) (hi : p.data[i]? = some x) (hxy : x ≠ y) :
    sumOf (madeV a (l.set k { p with data := p.data.set i y })) ≠ sumOf (madeV a l) := by
  have hne : ¬ p.data = [] := fun e => by rw [e] at hi; cases hi
  have hne2 : ¬ p.data.set i y = [] := fun e => by
    have := congrArg List.length e
    rw [List.length_set] at this
    exact hne (List.eq_nil_of_length_eq_zero this)
  obtain ⟨e1, e2⟩ := split_at hp { p with data := p.data.set i y }
  obtain ⟨d1, d2⟩ := split_at hi y
  rw [e2]
  conv => rhs; rw [e1]
  have m : ∀ (u v : List PieceV) (q : PieceV), madeV a (u ++ q :: v) = madeV a u ++ (pcMade a q ++ madeV a v) := fun u v q => by simp [madeV]
  rw [m, m]
  have c1 : pcMade a { p with data := p.data.set i y } = p.data.set i y := by unfold pcMade; rw [if_pos hne2]
  have c2 : pcMade a p = p.data := by unfold pcMade; rw [if_pos hne]
  rw [c1, c2, d2]
  conv => rhs; rw [d1]
  have e3 : ∀ (z : UInt8), madeV a (l.take k) ++ (p.data.take i ++ z :: p.data.drop (i + 1) ++ madeV a (l.drop (k + 1))) = (madeV a (l.take k) ++ p.data.take i) ++ z :: (p.data.drop (i + 1) ++ madeV a (l.drop (k + 1))) := fun z => by simp
  rw [e3, e3]
  exact sumOf_ne _ _ (fun e => hxy e.symm)
theorem map_set_same {α β : Type} (f : α → β) {l : List α} {k : Nat} {p q : α} (hp : l[k]? = some p) (h : f q = f p) : (l.set k q).map f = l.map f := by
  obtain ⟨e1, e2⟩ := split_at hp q
  rw [e2]
  conv => rhs; rw [e1]
  simp [h]
theorem bent_E {d : DeltaV} {k i : Nat} {p : PieceV} {x y : UInt8} (hp : d.ps[k]? = some p) (hi : p.data[i]? = some x) : deltaE { d with ps := d.ps.set k { p with data := p.data.set i y } } = deltaE d := by
  have hne : ¬ p.data = [] := fun e => by rw [e] at hi; cases hi
  have hne2 : ¬ p.data.set i y = [] := fun e => by
    have := congrArg List.length e
    rw [List.length_set] at this
    exact hne (List.eq_nil_of_length_eq_zero this)
  have h1 : ∀ old, (d.ps.set k { p with data := p.data.set i y }).map (pcE old) = d.ps.map (pcE old) := fun old => map_set_same _ hp (by unfold pcE; rw [if_pos hne, if_pos hne2])
  have h2 : (d.ps.set k { p with data := p.data.set i y }).map pcSize = d.ps.map pcSize := map_set_same _ hp (by unfold pcSize; rw [if_pos hne, if_pos hne2, List.length_set])
  have h3 : ∀ old, stepsV (d.ps.set k { p with data := p.data.set i y }) old = stepsV d.ps old := fun old => by
    unfold stepsV pcSum
    rw [h1, h2, List.length_set]
  unfold deltaE
  simp only [h3]
/-- A delta with another byte of data makes nothing. -/
theorem bent_apply {a b : Bytes} {d : DeltaV} {k i : Nat} {p : PieceV} {x y : UInt8} (h : applyV a d = (b, 0)) (hp : d.ps[k]? = some p) (hi : p.data[i]? = some x) (hxy : x ≠ y) : applyV a { d with ps := d.ps.set k { p with data := p.data.set i y } } = ([], 14) := by
  unfold applyV at h ⊢
  split at h
  · rename_i hh; exact absurd (Prod.mk.inj h).2 hh
  rename_i hE
  rw [bent_E hp hi, if_neg hE]
  unfold patchV at h ⊢
  split at h
  · cases h
  rename_i h1
  split at h
  · cases h
  rename_i h2
  simp only
  rw [if_neg h1, if_pos]
  have h2 := Decidable.not_not.1 h2
  rw [← h2]
  exact bent_piece hp hi hxy
/-- Another old text makes nothing. -/
theorem bent_old {a b a' : Bytes} {d : DeltaV} (h : applyV a d = (b, 0)) (hne : ¬ a'.length = a.length ∨ sumOf a' ≠ sumOf a) : applyV a' d = ([], 14) := by
  unfold applyV at h ⊢
  split at h
  · rename_i hh; exact absurd (Prod.mk.inj h).2 hh
  rename_i hE
  rw [if_neg hE]
  unfold patchV at h ⊢
  split at h
  · cases h
  rename_i h1
  simp only [not_or, Decidable.not_not] at h1
  rw [if_pos]
  rcases hne with hl | hs
  · exact .inl (by omega)
  · exact .inr (by rw [← h1.2]; exact hs)
end Go.Proofs

/- Walks: which piece has data. -/
namespace Go.Proofs
open Go Go.Abs
set_option linter.unusedSimpArgs false
set_option linter.unusedVariables false
set_option maxRecDepth 20000
theorem hasData_calls (p : PieceV) (H : Heap) : ACalls Tryd.prog 10 [.agg (encPc p)] H fun x H' => x = .bool (decide (¬ p.data = [])) ∧ H' = H := by
  refine ACalls.of_code (X := { pure := pu0 }) pu0_ok Tryd.func10 (by kernel_rfl) rfl (by kernel_rfl) (Nat.le_of_ble_eq_true rfl) ?_
  simp -implicitDefEqProofs only [go_sem, tys, regs0, Nat.reduceEqDiff, Nat.reduceAdd, Nat.reduceLeDiff, Nat.reduceLT, Nat.reduceMul, Int.natCast_one, Int.natCast_zero, Int.reduceEq, Int.reduceLT, Int.reduceLE, Int.reduceAdd, Int.reduceSub, Int.reduceToNat, UInt8.reduceToNat, Tryd.f10, encPc]
  with_reducible refine nwC_intro fun i1 hi1 => ?_
  simp -implicitDefEqProofs only [go_sem, tys, regs0, Nat.reduceEqDiff, Nat.reduceAdd, Nat.reduceLeDiff, Nat.reduceLT, Nat.reduceMul, Int.natCast_one, Int.natCast_zero, Int.reduceEq, Int.reduceLT, Int.reduceLE, Int.reduceAdd, Int.reduceSub, Int.reduceToNat, UInt8.reduceToNat]
  exact Done.drop1 hi1 ⟨rfl, rfl⟩
def IdxQ (l : List PieceV) (H : Heap) (x : AV) (H' : Heap) : Prop := H' = H ∧ ((∃ (k : Nat) (p : PieceV), x = .int .i64 (k : Int) ∧ l[k]? = some p ∧ ¬ p.data = []) ∨ x = .int .i64 (-1))
theorem indexFunc_calls (l : List PieceV) (t : Tail) (H : Heap) (hl : l.length ≤ 1099511627776) : ACalls Tryd.prog 9 [.sl (l.map encPc) t, .func 10 []] H (IdxQ l H) := by
  refine ACalls.of_code (X := { pure := pu0 }) pu0_ok Tryd.func9 (by kernel_rfl) rfl (by kernel_rfl) (Nat.le_of_ble_eq_true rfl) ?_
  simp -implicitDefEqProofs only [go_sem, tys, regs0, Nat.reduceEqDiff, Nat.reduceAdd, Nat.reduceLeDiff, Nat.reduceLT, Nat.reduceMul, Int.natCast_one, Int.natCast_zero, Int.reduceEq, Int.reduceLT, Int.reduceLE, Int.reduceAdd, Int.reduceSub, Int.reduceToNat, UInt8.reduceToNat, Tryd.f9]
  refine aloop_intro (σ := Nat) (fun i => [(0, .sl (l.map encPc) t), (1, .func 10 []), (7, .int .i64 l.length), (8, .int .i64 i)]) (fun i G => G = H ∧ i ≤ l.length) (fun i => l.length - i) 0 ?_ ?_ ?_
  · simp -implicitDefEqProofs only [go_sem, tys, regs0, Nat.reduceEqDiff, Nat.reduceAdd, Nat.reduceLeDiff, Nat.reduceLT, Nat.reduceMul, Int.natCast_one, Int.natCast_zero, Int.reduceEq, Int.reduceLT, Int.reduceLE, Int.reduceAdd, Int.reduceSub, Int.reduceToNat, UInt8.reduceToNat]
    try exact rfl
  · exact ⟨rfl, Nat.zero_le _⟩
  rintro i r G hv ⟨rfl, hi⟩
  have h0 := hv.1
  have h1 := hv.2.1
  have h7 := hv.2.2.1
  have h8 := hv.2.2.2.1
  clear hv
  by_cases gi : i < l.length
  · have z1 : decide ((i : Int) < l.length) = true := decide_eq_true (by omega)
    obtain ⟨p, hp⟩ : ∃ p, l[i]? = some p := getD_get' gi
    have hc := hasData_calls p G
    have wi : IntKind.i64.wrap ((i : Int) + 1) = ((i + 1 : Nat) : Int) := by rw [Go.IntWalk.i64_in _ (by omega)]; omega
    simp -implicitDefEqProofs only [go_sem, tys, regs0, Nat.reduceEqDiff, Nat.reduceAdd, Nat.reduceLeDiff, Nat.reduceLT, Nat.reduceMul, Int.natCast_one, Int.natCast_zero, Int.reduceEq, Int.reduceLT, Int.reduceLE, Int.reduceAdd, Int.reduceSub, Int.reduceToNat, UInt8.reduceToNat, h0, h1, h7, h8, z1, hp]
    refine ⟨fun _ _ => rfl, by simp [encPc], ?_⟩
    have h3 : List.take 3 (encPc p) = encPc p := rfl
    rw [h3]
    refine hc.pure_next _ ?_
    by_cases hd : p.data = []
    · have y : decide (¬ p.data = []) = false := decide_eq_false (by simpa using hd)
      simp -implicitDefEqProofs only [go_sem, tys, regs0, Nat.reduceEqDiff, Nat.reduceAdd, Nat.reduceLeDiff, Nat.reduceLT, Nat.reduceMul, Int.natCast_one, Int.natCast_zero, Int.reduceEq, Int.reduceLT, Int.reduceLE, Int.reduceAdd, Int.reduceSub, Int.reduceToNat, UInt8.reduceToNat, h0, h1, h7, h8, y, wi]
      exact Again.mk (i + 1) (by simp -implicitDefEqProofs only [go_sem, tys, regs0, Nat.reduceEqDiff, Nat.reduceAdd, Nat.reduceLeDiff, Nat.reduceLT, Nat.reduceMul, Int.natCast_one, Int.natCast_zero, Int.reduceEq, Int.reduceLT, Int.reduceLE, Int.reduceAdd, Int.reduceSub, Int.reduceToNat, UInt8.reduceToNat, h0, h1, h7, h8]) ⟨rfl, by omega⟩ (by omega)
    · have y : decide (¬ p.data = []) = true := decide_eq_true hd
      simp -implicitDefEqProofs only [go_sem, tys, regs0, Nat.reduceEqDiff, Nat.reduceAdd, Nat.reduceLeDiff, Nat.reduceLT, Nat.reduceMul, Int.natCast_one, Int.natCast_zero, Int.reduceEq, Int.reduceLT, Int.reduceLE, Int.reduceAdd, Int.reduceSub, Int.reduceToNat, UInt8.reduceToNat, h0, h1, h7, h8, y]
      exact Done.now ⟨rfl, .inl ⟨i, p, rfl, hp, hd⟩⟩
  · have z1 : decide ((i : Int) < l.length) = false := decide_eq_false (by omega)
    simp -implicitDefEqProofs only [go_sem, tys, regs0, Nat.reduceEqDiff, Nat.reduceAdd, Nat.reduceLeDiff, Nat.reduceLT, Nat.reduceMul, Int.natCast_one, Int.natCast_zero, Int.reduceEq, Int.reduceLT, Int.reduceLE, Int.reduceAdd, Int.reduceSub, Int.reduceToNat, UInt8.reduceToNat, h0, h1, h7, h8, z1]
    exact Done.now ⟨rfl, .inr rfl⟩
end Go.Proofs

/- Walks: a reader of bytes, on the program's side. -/
namespace Go.Proofs
open Go Go.Abs
set_option linter.unusedSimpArgs false
set_option linter.unusedVariables false
set_option maxRecDepth 20000
def rdr (s : Bytes) (p : Int) (bad : Bool) : AObj := .cells [.str s, .int .i64 p, .bool bad]
theorem put_put' (H : Heap) (i : Nat) (a b : AObj) : (H.put i a).put i b = H.put i b := by
  funext j
  unfold Heap.put
  split <;> rfl
set_option maxHeartbeats 1600000 in
theorem take_k {G : Heap} {id : Nat} {s : Bytes} {p : Nat} {bad : Bool} {n : Int} (hG : G id = some (rdr s p bad)) (hp : p ≤ s.length) (hs : s.length ≤ 1099511627776) (hn : n < 1099511627776) {K : K1}
    (h1 : ∀ m : Nat, n = m → p + m ≤ s.length → K (.str ((s.drop p).take m)) (G.put id (rdr s (p + m : Nat) bad)))
    (h2 : (n < 0 ∨ (s.length : Int) - p < n) → K (.str []) (G.put id (rdr s p true))) : ACalls Tryd.prog 25 [.ptr id 0, .int .i64 n] G K := by
  have hw : IntKind.i64.wrap ((s.length : Int) - p) = s.length - p := Go.IntWalk.i64_in _ (by omega)
  unfold rdr at hG
  by_cases g : n < 0 ∨ (s.length : Int) - p < n
  · have h2 := h2 g
    unfold rdr at h2
    refine (?_ : ACalls _ _ _ _ fun x H' => x = .str [] ∧ H' = G.put id (.cells [.str s, .int .i64 p, .bool true])).mono (by rintro x H' ⟨rfl, rfl⟩; exact h2)
    by_cases g1 : n < 0
    · have k1 : decide (n < 0) = true := decide_eq_true g1
      refine ACalls.of_code (X := { pure := pu0 }) pu0_ok Tryd.func25 (by kernel_rfl) rfl (by kernel_rfl) (Nat.le_of_ble_eq_true rfl) ?_
      simp -implicitDefEqProofs only [go_sem, tys, regs0, Nat.reduceEqDiff, Nat.reduceAdd, Nat.reduceLeDiff, Nat.reduceLT, Nat.reduceMul, Int.natCast_one, Int.natCast_zero, Int.reduceEq, Int.reduceLT, Int.reduceLE, Int.reduceAdd, Int.reduceSub, Int.reduceToNat, UInt8.reduceToNat, Tryd.f25, hG, hw, k1]
      exact Done.now ⟨rfl, rfl⟩
    · have k1 : decide (n < 0) = false := decide_eq_false g1
      have k2 : decide ((s.length : Int) - p < n) = true := decide_eq_true (by omega)
      refine ACalls.of_code (X := { pure := pu0 }) pu0_ok Tryd.func25 (by kernel_rfl) rfl (by kernel_rfl) (Nat.le_of_ble_eq_true rfl) ?_
      simp -implicitDefEqProofs only [go_sem, tys, regs0, Nat.reduceEqDiff, Nat.reduceAdd, Nat.reduceLeDiff, Nat.reduceLT, Nat.reduceMul, Int.natCast_one, Int.natCast_zero, Int.reduceEq, Int.reduceLT, Int.reduceLE, Int.reduceAdd, Int.reduceSub, Int.reduceToNat, UInt8.reduceToNat, Tryd.f25, hG, hw, k1, k2]
      exact Done.now ⟨rfl, rfl⟩
  · obtain ⟨m, rfl⟩ : ∃ m : Nat, n = m := ⟨n.toNat, by omega⟩
    have h1 := h1 m rfl (by omega)
    unfold rdr at h1
    refine (?_ : ACalls _ _ _ _ fun x H' => x = .str ((s.drop p).take m) ∧ H' = G.put id (.cells [.str s, .int .i64 (p + m : Nat), .bool bad])).mono (by rintro x H' ⟨rfl, rfl⟩; exact h1)
    have k1 : decide ((m : Int) < 0) = false := decide_eq_false (by omega)
    have k2 : decide ((s.length : Int) - p < m) = false := decide_eq_false (by omega)
    have hw2 : IntKind.i64.wrap ((p : Int) + m) = p + m := Go.IntWalk.i64_in _ (by omega)
    have hw3 : IntKind.i64.wrap ((p : Int) + m - m) = p := by rw [Go.IntWalk.i64_in _ (by omega)]; omega
    refine ACalls.of_code (X := { pure := pu0 }) pu0_ok Tryd.func25 (by kernel_rfl) rfl (by kernel_rfl) (Nat.le_of_ble_eq_true rfl) ?_
    simp -implicitDefEqProofs only [go_sem, tys, regs0, Nat.reduceEqDiff, Nat.reduceAdd, Nat.reduceLeDiff, Nat.reduceLT, Nat.reduceMul, Int.natCast_one, Int.natCast_zero, Int.reduceEq, Int.reduceLT, Int.reduceLE, Int.reduceAdd, Int.reduceSub, Int.reduceToNat, UInt8.reduceToNat, Tryd.f25, hG, hw, hw2, hw3, k1, k2]
    refine ⟨⟨by omega, by omega⟩, Done.now ⟨?_, ?_⟩⟩
    · rw [show ((p : Int) + m).toNat = p + m from by omega, List.drop_take, Nat.add_sub_cancel_left]
    · rfl
theorem orN (n x k : Nat) (hn : n < 2 ^ k) (hb : n + x * 2 ^ k < 9223372036854775808) : orI .i64 (n : Int) ((x * 2 ^ k : Nat) : Int) = ((n + x * 2 ^ k : Nat) : Int) := by
  have e : (BitVec.ofInt IntKind.i64.bits (n : Int) ||| BitVec.ofInt IntKind.i64.bits ((x * 2 ^ k : Nat) : Int)).toNat = n + x * 2 ^ k := by
    show (BitVec.ofInt 64 (n : Int) ||| BitVec.ofInt 64 ((x * 2 ^ k : Nat) : Int)).toNat = n + x * 2 ^ k
    rw [BitVec.ofInt_natCast, BitVec.ofInt_natCast, BitVec.toNat_or]
    simp only [BitVec.toNat_ofNat]
    rw [Nat.mod_eq_of_lt (show n < 2 ^ 64 by simp; omega), Nat.mod_eq_of_lt (show x * 2 ^ k < 2 ^ 64 by simp; omega)]
    have := Nat.shiftLeft_add_eq_or_of_lt hn x
    rw [Nat.shiftLeft_eq] at this
    rw [Nat.or_comm, ← this]
    omega
  unfold orI
  rw [e]
  exact Go.IntWalk.i64_in _ (by omega)
theorem shlN (x k : Nat) (hk : k ≤ 64) (hb : x * 2 ^ k < 9223372036854775808) : shlI .i64 (x : Int) (k : Int) = ((x * 2 ^ k : Nat) : Int) := by
  unfold shlI
  have e : (min (k : Int).toNat IntKind.i64.bits) = k := by
    show min (k : Int).toNat 64 = k
    rw [Int.toNat_natCast]
    omega
  rw [e]
  have e2 : (x : Int) * 2 ^ k = ((x * 2 ^ k : Nat) : Int) := by simp
  rw [e2]
  exact Go.IntWalk.i64_in _ (by omega)
theorem and127b (c : UInt8) : andI .u8 (c.toNat : Int) 127 = ((c.toNat % 128 : Nat) : Int) := by
  have h := c.toNat_lt
  have e : (BitVec.ofInt IntKind.u8.bits (c.toNat : Int) &&& BitVec.ofInt IntKind.u8.bits 127).toNat = c.toNat % 128 := by
    show (BitVec.ofInt 8 (c.toNat : Int) &&& BitVec.ofInt 8 ((127 : Nat) : Int)).toNat = c.toNat % 128
    rw [BitVec.ofInt_natCast, BitVec.ofInt_natCast, BitVec.toNat_and]
    simp only [BitVec.toNat_ofNat]
    rw [Nat.mod_eq_of_lt (show c.toNat < 2 ^ 8 by simpa using h), Nat.mod_eq_of_lt (show 127 < 2 ^ 8 by decide)]
    exact Nat.and_two_pow_sub_one_eq_mod c.toNat 7
  unfold andI
  rw [e]
  exact Go.IntWalk.u8_in _ (by omega)
def NumPost (s : Bytes) (p : Nat) (bad : Bool) (K : K1) (G : Heap) (id : Nat) : Prop :=
  ∀ (v p' : Nat) (bad' : Bool), v < 34359738368 → p ≤ p' → p' ≤ s.length → (bad' = false → bad = false ∧ num (s.drop p) = some (v, s.drop p')) → (bad' = true → bad = true ∨ num (s.drop p) = none) →
    K (.int .i64 v) (G.put id (rdr s p' bad'))
def NumRes (s : Bytes) (p : Nat) (bad : Bool) (G : Heap) (id : Nat) (x : AV) (H' : Heap) : Prop := ∃ (v p' : Nat) (bad' : Bool), x = .int .i64 v ∧ H' = G.put id (rdr s p' bad') ∧ v < 34359738368 ∧ p ≤ p' ∧ p' ≤ s.length ∧
  (bad' = false → bad = false ∧ num (s.drop p) = some (v, s.drop p')) ∧ (bad' = true → bad = true ∨ num (s.drop p) = none)
def NumI (s : Bytes) (p : Nat) (bad : Bool) (G : Heap) (id : Nat) (t : Nat × Nat × Nat) (G' : Heap) : Prop :=
  G' = G.put id (rdr s t.2.2 bad) ∧ p ≤ t.2.2 ∧ t.2.2 ≤ s.length ∧ t.1 ≤ 5 ∧ t.2.1 < 2 ^ (7 * t.1) ∧ numR (5 - t.1) t.1 t.2.1 (s.drop t.2.2) = num (s.drop p)
theorem drop_at {s : Bytes} {p : Nat} (h : p < s.length) : ∃ c, s[p]? = some c ∧ s.drop p = c :: s.drop (p + 1) ∧ (s.drop p).take 1 = [c] := by
  obtain ⟨c, hc⟩ := getD_get' h
  have := drop_cons hc
  exact ⟨c, hc, this, by rw [this]; rfl⟩
set_option maxHeartbeats 1600000 in
theorem number_k {G : Heap} {id : Nat} {s : Bytes} {p : Nat} {bad : Bool} (hG : G id = some (rdr s p bad)) (hp : p ≤ s.length) (hs : s.length ≤ 1099511627776) {K : K1}
    (hK : NumPost s p bad K G id) : ACalls Tryd.prog 26 [.ptr id 0] G K := by
  refine (?_ : ACalls _ _ _ _ (NumRes s p bad G id)).mono (by
    rintro x H' ⟨v, p', bad', rfl, rfl, h1, h2, h3, h4, h5⟩
    exact hK v p' bad' h1 h2 h3 h4 h5)
  clear hK
  have hG0 : G.put id (rdr s p bad) = G := by
    funext j
    unfold Heap.put
    split
    · rename_i e; rw [e, hG]
    · rfl
  refine ACalls.of_code (X := { pure := pu0 }) pu0_ok Tryd.func26 (by kernel_rfl) rfl (by kernel_rfl) (Nat.le_of_ble_eq_true rfl) ?_
  simp -implicitDefEqProofs only [go_sem, tys, regs0, Nat.reduceEqDiff, Nat.reduceAdd, Nat.reduceLeDiff, Nat.reduceLT, Nat.reduceMul, Int.natCast_one, Int.natCast_zero, Int.reduceEq, Int.reduceLT, Int.reduceLE, Int.reduceAdd, Int.reduceSub, Int.reduceToNat, UInt8.reduceToNat, Tryd.f26]
  refine aloop_intro (σ := Nat × Nat × Nat) (fun t => [(0, .ptr id 0), (3, .int .i64 t.2.1), (6, .int .i64 t.1)]) (NumI s p bad G id) (fun t => 5 - t.1) (0, 0, p) ?_ ?_ ?_
  · simp -implicitDefEqProofs only [go_sem, tys, regs0, Nat.reduceEqDiff, Nat.reduceAdd, Nat.reduceLeDiff, Nat.reduceLT, Nat.reduceMul, Int.natCast_one, Int.natCast_zero, Int.reduceEq, Int.reduceLT, Int.reduceLE, Int.reduceAdd, Int.reduceSub, Int.reduceToNat, UInt8.reduceToNat]
  · exact ⟨hG0.symm, Nat.le_refl _, hp, by omega, by simp, rfl⟩
  · rintro ⟨i, n, q⟩ r G' hv ⟨hG', hpq, hq, hi, hn, hnum⟩
    have h0 := hv.1
    have h3 := hv.2.1
    have h6 := hv.2.2.1
    clear hv
    simp only at h3 h6 hG' hpq hq hi hn hnum
    have hB : G' id = some (rdr s q bad) := by rw [hG']; exact put_same _ _ _
    subst hG'
    simp -implicitDefEqProofs only [go_sem, tys, regs0, Nat.reduceEqDiff, Nat.reduceAdd, Nat.reduceLeDiff, Nat.reduceLT, Nat.reduceMul, Int.natCast_one, Int.natCast_zero, Int.reduceEq, Int.reduceLT, Int.reduceLE, Int.reduceAdd, Int.reduceSub, Int.reduceToNat, UInt8.reduceToNat, h0, h3, h6]
    refine cnd_intro (fun g => ?_) (fun g => ?_)
    · simp only [decide_eq_true_eq] at g
      have hi4 : i ≤ 4 := by omega
      simp -implicitDefEqProofs only [go_sem, tys, regs0, Nat.reduceEqDiff, Nat.reduceAdd, Nat.reduceLeDiff, Nat.reduceLT, Nat.reduceMul, Int.natCast_one, Int.natCast_zero, Int.reduceEq, Int.reduceLT, Int.reduceLE, Int.reduceAdd, Int.reduceSub, Int.reduceToNat, UInt8.reduceToNat, h0, h3, h6]
      refine take_k hB hq hs (by omega) (fun m hm hle => ?_) (fun hf => ?_)
      · obtain rfl : m = 1 := by omega
        obtain ⟨c, hc, hd, ht⟩ := drop_at (s := s) (p := q) (by omega)
        rw [ht, put_put']
        have hB1 := put_same G id (rdr s (q + 1 : Nat) bad)
        cases bad with
        | true =>
          unfold rdr at hB1 ⊢
          simp -implicitDefEqProofs only [go_sem, tys, regs0, Nat.reduceEqDiff, Nat.reduceAdd, Nat.reduceLeDiff, Nat.reduceLT, Nat.reduceMul, Int.natCast_one, Int.natCast_zero, Int.reduceEq, Int.reduceLT, Int.reduceLE, Int.reduceAdd, Int.reduceSub, Int.reduceToNat, UInt8.reduceToNat, h0, h3, h6, hB1]
          exact Done.now ⟨0, q + 1, true, rfl, rfl, by omega, by omega, by omega, by simp, by simp⟩
        | false =>
          have a1 := and127b c
          have hcl := c.toNat_lt
          have hcm : c.toNat % 128 < 128 := Nat.mod_lt _ (by omega)
          have hpw : 2 ^ (7 * i) ≤ 268435456 := Nat.le_trans (Nat.pow_le_pow_right (by omega) (show 7 * i ≤ 28 by omega)) (by decide)
          have hxm : c.toNat % 128 * 2 ^ (7 * i) ≤ 127 * 2 ^ (7 * i) := Nat.mul_le_mul_right _ (by omega)
          have w1 : IntKind.i64.wrap ((c.toNat % 128 : Nat) : Int) = ((c.toNat % 128 : Nat) : Int) := Go.IntWalk.i64_in _ (by omega)
          have w2 : IntKind.i64.wrap (7 * (i : Int)) = ((7 * i : Nat) : Int) := by rw [Go.IntWalk.i64_in _ (by omega)]; omega
          have w3 := shlN (c.toNat % 128) (7 * i) (by omega) (by omega)
          have w4 := orN n (c.toNat % 128) (7 * i) hn (by omega)
          have hnn : n + c.toNat % 128 * 2 ^ (7 * i) < 2 ^ (7 * (i + 1)) := by
            rw [show 7 * (i + 1) = 7 * i + 7 from by omega, Nat.pow_add]
            have e3 : (2 : Nat) ^ 7 = 128 := rfl
            rw [e3]
            omega
          have hn35 : n + c.toNat % 128 * 2 ^ (7 * i) < 34359738368 := by omega
          rw [hd, show 5 - i = (4 - i) + 1 from by omega, numR] at hnum
          generalize n + c.toNat % 128 * 2 ^ (7 * i) = n2 at *
          generalize c.toNat % 128 * 2 ^ (7 * i) = x2 at *
          generalize c.toNat % 128 = x1 at *
          unfold rdr at hB1 ⊢
          simp -implicitDefEqProofs only [go_sem, tys, regs0, Nat.reduceEqDiff, Nat.reduceAdd, Nat.reduceLeDiff, Nat.reduceLT, Nat.reduceMul, Int.natCast_one, Int.natCast_zero, Int.reduceEq, Int.reduceLT, Int.reduceLE, Int.reduceAdd, Int.reduceSub, Int.reduceToNat, UInt8.reduceToNat, h0, h3, h6, hB1, a1, w1, w2, w3, w4]
          refine ⟨by omega, ?_⟩
          refine cnd_intro (fun g2 => ?_) (fun g2 => ?_)
          · simp only [decide_eq_true_eq] at g2
            rw [if_pos (by omega)] at hnum
            by_cases z : 0 < i ∧ c = 0
            · have z1 : decide ((0 : Int) < i) = true := decide_eq_true (by omega)
              have z2 : decide ((c.toNat : Int) = 0) = true := decide_eq_true (by rw [z.2]; rfl)
              rw [if_pos z] at hnum
              simp -implicitDefEqProofs only [go_sem, tys, regs0, Nat.reduceEqDiff, Nat.reduceAdd, Nat.reduceLeDiff, Nat.reduceLT, Nat.reduceMul, Int.natCast_one, Int.natCast_zero, Int.reduceEq, Int.reduceLT, Int.reduceLE, Int.reduceAdd, Int.reduceSub, Int.reduceToNat, UInt8.reduceToNat, h0, h3, h6, hB1, z1, z2]
              exact Done.now ⟨n2, q + 1, true, rfl, rfl, hn35, by omega, by omega, by simp, fun _ => .inr hnum.symm⟩
            · rw [if_neg z] at hnum
              by_cases z1 : 0 < i
              · have z3 : decide ((0 : Int) < i) = true := decide_eq_true (by omega)
                have z2 : decide ((c.toNat : Int) = 0) = false := decide_eq_false (fun e => z ⟨z1, by
                  have : c.toNat = 0 := by omega
                  exact UInt8.toNat_inj.1 this⟩)
                simp -implicitDefEqProofs only [go_sem, tys, regs0, Nat.reduceEqDiff, Nat.reduceAdd, Nat.reduceLeDiff, Nat.reduceLT, Nat.reduceMul, Int.natCast_one, Int.natCast_zero, Int.reduceEq, Int.reduceLT, Int.reduceLE, Int.reduceAdd, Int.reduceSub, Int.reduceToNat, UInt8.reduceToNat, h0, h3, h6, hB1, z3, z2]
                exact Done.now ⟨n2, q + 1, false, rfl, rfl, hn35, by omega, by omega, fun _ => ⟨rfl, hnum.symm⟩, by simp⟩
              · have z3 : decide ((0 : Int) < i) = false := decide_eq_false (by omega)
                simp -implicitDefEqProofs only [go_sem, tys, regs0, Nat.reduceEqDiff, Nat.reduceAdd, Nat.reduceLeDiff, Nat.reduceLT, Nat.reduceMul, Int.natCast_one, Int.natCast_zero, Int.reduceEq, Int.reduceLT, Int.reduceLE, Int.reduceAdd, Int.reduceSub, Int.reduceToNat, UInt8.reduceToNat, h0, h3, h6, hB1, z3]
                exact Done.now ⟨n2, q + 1, false, rfl, rfl, hn35, by omega, by omega, fun _ => ⟨rfl, hnum.symm⟩, by simp⟩
          · simp only [decide_eq_false_iff_not] at g2
            rw [if_neg (by omega)] at hnum
            simp -implicitDefEqProofs (disch := omega) only [go_sem, tys, regs0, Nat.reduceEqDiff, Nat.reduceAdd, Nat.reduceLeDiff, Nat.reduceLT, Nat.reduceMul, Int.natCast_one, Int.natCast_zero, Int.reduceEq, Int.reduceLT, Int.reduceLE, Int.reduceAdd, Int.reduceSub, Int.reduceToNat, UInt8.reduceToNat, Go.IntWalk.i64_in, h0, h3, h6, hB1]
            exact Again.mk (i + 1, n2, q + 1) (by simp -implicitDefEqProofs only [go_sem, tys, regs0, Nat.reduceEqDiff, Nat.reduceAdd, Nat.reduceLeDiff, Nat.reduceLT, Nat.reduceMul, Int.natCast_one, Int.natCast_zero, Int.reduceEq, Int.reduceLT, Int.reduceLE, Int.reduceAdd, Int.reduceSub, Int.reduceToNat, UInt8.reduceToNat, h0, h3, h6]; simp) ⟨rfl, by simp only; omega, by simp only; omega, by simp only; omega, hnn, by simp only; rw [show 5 - (i + 1) = 4 - i from by omega]; exact hnum⟩ (by simp only; omega)
      · rw [put_put']
        have hB1 := put_same G id (rdr s q true)
        unfold rdr at hB1 ⊢
        simp -implicitDefEqProofs only [go_sem, tys, regs0, Nat.reduceEqDiff, Nat.reduceAdd, Nat.reduceLeDiff, Nat.reduceLT, Nat.reduceMul, Int.natCast_one, Int.natCast_zero, Int.reduceEq, Int.reduceLT, Int.reduceLE, Int.reduceAdd, Int.reduceSub, Int.reduceToNat, UInt8.reduceToNat, h0, h3, h6, hB1]
        have hq2 : q = s.length := by omega
        refine Done.now ⟨0, q, true, rfl, rfl, by omega, by omega, by omega, by simp, fun _ => .inr ?_⟩
        rw [← hnum, List.drop_eq_nil_of_le (by omega), show 5 - i = (4 - i) + 1 from by omega]
        rfl
    · simp only [decide_eq_false_iff_not] at g
      have : i = 5 := by omega
      subst this
      unfold rdr at hB ⊢
      simp -implicitDefEqProofs only [go_sem, tys, regs0, Nat.reduceEqDiff, Nat.reduceAdd, Nat.reduceLeDiff, Nat.reduceLT, Nat.reduceMul, Int.natCast_one, Int.natCast_zero, Int.reduceEq, Int.reduceLT, Int.reduceLE, Int.reduceAdd, Int.reduceSub, Int.reduceToNat, UInt8.reduceToNat, h0, h3, h6, hB]
      refine Done.now ⟨0, q, true, rfl, rfl, by omega, by omega, by omega, by simp, fun _ => .inr ?_⟩
      rw [← hnum]; rfl
end Go.Proofs

/- Walks: a reader's sums and pieces. -/
namespace Go.Proofs
open Go Go.Abs
set_option linter.unusedSimpArgs false
set_option linter.unusedVariables false
set_option maxRecDepth 20000
theorem shr4 : ∀ m : Nat, m < 256 → shrI .u8 (m : Int) 4 = ((m / 16 : Nat) : Int) := by decide
theorem and15b : ∀ m : Nat, m < 256 → andI .u8 (m : Int) 15 = ((m % 16 : Nat) : Int) := by decide
def SumPost (s : Bytes) (p : Nat) (bad : Bool) (K : K1) (G : Heap) (id : Nat) : Prop :=
  ∀ (x : Bytes) (p' : Nat) (bad' : Bool), x.length ≤ 16 → p ≤ p' → p' ≤ s.length → (bad' = false → bad = false ∧ sumR (s.drop p) = some (x, s.drop p')) → (bad' = true → bad = true ∨ sumR (s.drop p) = none) →
    K (.str x) (G.put id (rdr s p' bad'))
theorem hexB_len (b : Bytes) : (hexB b).length = 2 * b.length := by
  induction b with
  | nil => rfl
  | cons c b ih => simp only [hexB, List.flatMap_cons, List.length_append, List.length_cons, List.length_nil] at ih ⊢; omega
set_option maxHeartbeats 1600000 in
theorem sum_walk {G : Heap} {id : Nat} {s : Bytes} {p : Nat} {bad : Bool} (hG : G id = some (rdr s p bad)) (hp : p ≤ s.length) (hs : s.length ≤ 1099511627776) (k : Bytes) (G1 : Heap) (hk : k.length ≤ 8)
    (hT : ∀ K : K1, K (.str k) G1 → ACalls Tryd.prog 25 [.ptr id 0, .int .i64 8] G K) : ACalls Tryd.prog 27 [.ptr id 0] G fun x H' => x = .str (hexB k) ∧ H' = G1 := by
  refine ACalls.of_code (X := { pure := pu0 }) pu0_ok Tryd.func27 (by kernel_rfl) rfl (by kernel_rfl) (Nat.le_of_ble_eq_true rfl) ?_
  simp -implicitDefEqProofs only [go_sem, tys, regs0, Nat.reduceEqDiff, Nat.reduceAdd, Nat.reduceLeDiff, Nat.reduceLT, Nat.reduceMul, Int.natCast_one, Int.natCast_zero, Int.reduceEq, Int.reduceLT, Int.reduceLE, Int.reduceAdd, Int.reduceSub, Int.reduceToNat, UInt8.reduceToNat, Tryd.f27]
  refine hT _ ?_
  simp -implicitDefEqProofs only [go_sem, tys, regs0, Nat.reduceEqDiff, Nat.reduceAdd, Nat.reduceLeDiff, Nat.reduceLT, Nat.reduceMul, Int.natCast_one, Int.natCast_zero, Int.reduceEq, Int.reduceLT, Int.reduceLE, Int.reduceAdd, Int.reduceSub, Int.reduceToNat, UInt8.reduceToNat]
  refine conv_bytes (by simp -implicitDefEqProofs only [go_sem, tys, regs0, Nat.reduceEqDiff, Nat.reduceAdd, Nat.reduceLeDiff, Nat.reduceLT, Nat.reduceMul, Int.natCast_one, Int.natCast_zero, Int.reduceEq, Int.reduceLT, Int.reduceLE, Int.reduceAdd, Int.reduceSub, Int.reduceToNat, UInt8.reduceToNat]) (by simp -implicitDefEqProofs only [go_sem, tys, regs0, Nat.reduceEqDiff, Nat.reduceAdd, Nat.reduceLeDiff, Nat.reduceLT, Nat.reduceMul, Int.natCast_one, Int.natCast_zero, Int.reduceEq, Int.reduceLT, Int.reduceLE, Int.reduceAdd, Int.reduceSub, Int.reduceToNat, UInt8.reduceToNat]) (fun idb hidb => ?_)
  have hB := put_same G1 idb (.cells (k.map fun b => AV.int .u8 (b.toNat : Int)))
  have hA := AppG.new (k := 1) ((Heap.Sub.rfl' G1).put' hidb (.cells (k.map fun b => AV.int .u8 (b.toNat : Int)))) (([] : Bytes).map bcell)
  simp -implicitDefEqProofs only [go_sem, tys, regs0, Nat.reduceEqDiff, Nat.reduceAdd, Nat.reduceLeDiff, Nat.reduceLT, Nat.reduceMul, Int.natCast_one, Int.natCast_zero, Int.reduceEq, Int.reduceLT, Int.reduceLE, Int.reduceAdd, Int.reduceSub, Int.reduceToNat, UInt8.reduceToNat]
  refine aloop_intro (σ := Nat × Tail) (fun t => [(3, .sl ((hexB (k.take t.1)).map bcell) t.2), (8, .ms idb 0 k.length 1), (9, .int .i64 k.length), (10, .int .i64 t.1)])
    (fun t G' => AppG G1 G' 1 ((hexB (k.take t.1)).map bcell) t.2 ∧ G' idb = some (.cells (k.map fun b => AV.int .u8 (b.toNat : Int))) ∧ t.1 ≤ k.length) (fun t => k.length - t.1) (0, .exact) ?_ ?_ ?_
  · simp -implicitDefEqProofs only [go_sem, tys, regs0, Nat.reduceEqDiff, Nat.reduceAdd, Nat.reduceLeDiff, Nat.reduceLT, Nat.reduceMul, Int.natCast_one, Int.natCast_zero, Int.reduceEq, Int.reduceLT, Int.reduceLE, Int.reduceAdd, Int.reduceSub, Int.reduceToNat, UInt8.reduceToNat]
    simp [hexB]
  · exact ⟨by simpa [hexB] using hA, hB, by omega⟩
  · clear hA hB
    rintro ⟨i, tl⟩ r G' hv ⟨hA, hB, hi⟩
    have h3 := hv.1
    have h8 := hv.2.1
    have h9 := hv.2.2.1
    have h10 := hv.2.2.2.1
    clear hv
    simp only at h3 h8 h9 h10 hA hB hi
    simp -implicitDefEqProofs only [go_sem, tys, regs0, Nat.reduceEqDiff, Nat.reduceAdd, Nat.reduceLeDiff, Nat.reduceLT, Nat.reduceMul, Int.natCast_one, Int.natCast_zero, Int.reduceEq, Int.reduceLT, Int.reduceLE, Int.reduceAdd, Int.reduceSub, Int.reduceToNat, UInt8.reduceToNat, h3, h8, h9, h10]
    refine cnd_intro (fun g => ?_) (fun g => ?_)
    · simp only [decide_eq_true_eq] at g
      obtain ⟨c, hc⟩ : ∃ c, k[i]? = some c := getD_get' (by omega)
      have hcl := c.toNat_lt
      have a1 := shr4 c.toNat hcl
      have a2 := and15b c.toNat hcl
      have d1 := dig_get (c.toNat / 16) (by omega)
      have d2 := dig_get (c.toNat % 16) (by omega)
      have hh : hexB (k.take (i + 1)) = hexB (k.take i) ++ [dig (c.toNat / 16), dig (c.toNat % 16)] := by rw [List.take_add_one, hc]; exact hexB_snoc _ _
      have hl : (hexB (k.take i)).length ≤ 16 := by rw [hexB_len, List.length_take]; omega
      have hhd : (List.drop (i * 1) (k.map fun b => AV.int .u8 (b.toNat : Int))).head? = some (.int .u8 c.toNat) := by rw [Nat.mul_one, List.head?_drop, List.getElem?_map, hc]; rfl
      generalize hx1 : dig (c.toNat / 16) = x1 at *
      generalize hx2 : dig (c.toNat % 16) = x2 at *
      generalize c.toNat / 16 = y1 at *
      generalize c.toNat % 16 = y2 at *
      simp -implicitDefEqProofs (disch := omega) only [go_sem, tys, regs0, Nat.reduceEqDiff, Nat.reduceAdd, Nat.reduceLeDiff, Nat.reduceLT, Nat.reduceMul, Int.natCast_one, Int.natCast_zero, Int.reduceEq, Int.reduceLT, Int.reduceLE, Int.reduceAdd, Int.reduceSub, Int.reduceToNat, UInt8.reduceToNat, Go.IntWalk.i64_in, h3, h8, h9, h10, hB, hhd]
      refine ⟨by omega, ?_⟩
      simp -implicitDefEqProofs (disch := omega) only [go_sem, tys, regs0, Nat.reduceEqDiff, Nat.reduceAdd, Nat.reduceLeDiff, Nat.reduceLT, Nat.reduceMul, Int.natCast_one, Int.natCast_zero, Int.reduceEq, Int.reduceLT, Int.reduceLE, Int.reduceAdd, Int.reduceSub, Int.reduceToNat, UInt8.reduceToNat, Go.IntWalk.i64_in, h3, h8, h9, h10, a1, a2, d1, d2]
      refine AppG.step hA (bcell_unif _) (by simp; omega) (by simp; omega) (fun tl2 G2 hA2 hK2 => ?_)
      have e : (hexB (k.take i)).map bcell ++ [[AV.int .u8 (x1.toNat : Int)], [AV.int .u8 (x2.toNat : Int)]] = (hexB (k.take (i + 1))).map bcell := by rw [hh, List.map_append]; rfl
      rw [e] at hA2
      simp -implicitDefEqProofs (disch := omega) only [go_sem, tys, regs0, Nat.reduceEqDiff, Nat.reduceAdd, Nat.reduceLeDiff, Nat.reduceLT, Nat.reduceMul, Int.natCast_one, Int.natCast_zero, Int.reduceEq, Int.reduceLT, Int.reduceLE, Int.reduceAdd, Int.reduceSub, Int.reduceToNat, UInt8.reduceToNat, Go.IntWalk.i64_in, h3, h8, h9, h10]
      exact Again.mk (i + 1, tl2) (by simp -implicitDefEqProofs only [go_sem, tys, regs0, Nat.reduceEqDiff, Nat.reduceAdd, Nat.reduceLeDiff, Nat.reduceLT, Nat.reduceMul, Int.natCast_one, Int.natCast_zero, Int.reduceEq, Int.reduceLT, Int.reduceLE, Int.reduceAdd, Int.reduceSub, Int.reduceToNat, UInt8.reduceToNat, h3, h8, h9, h10]; rw [← e]; simp) ⟨hA2, hK2.cells hB, by simp only; omega⟩ (by simp only; omega)
    · simp only [decide_eq_false_iff_not] at g
      have : i = k.length := by omega
      subst this
      rw [List.take_length] at h3 hA
      simp -implicitDefEqProofs only [go_sem, tys, regs0, Nat.reduceEqDiff, Nat.reduceAdd, Nat.reduceLeDiff, Nat.reduceLT, Nat.reduceMul, Int.natCast_one, Int.natCast_zero, Int.reduceEq, Int.reduceLT, Int.reduceLE, Int.reduceAdd, Int.reduceSub, Int.reduceToNat, UInt8.reduceToNat, h3, h8, h9, h10]
      refine conv_sl (l := hexB k) (by simp -implicitDefEqProofs only [go_sem, tys, regs0, Nat.reduceEqDiff, Nat.reduceAdd, Nat.reduceLeDiff, Nat.reduceLT, Nat.reduceMul, Int.natCast_one, Int.natCast_zero, Int.reduceEq, Int.reduceLT, Int.reduceLE, Int.reduceAdd, Int.reduceSub, Int.reduceToNat, UInt8.reduceToNat]) (by simp -implicitDefEqProofs only [go_sem, tys, regs0, Nat.reduceEqDiff, Nat.reduceAdd, Nat.reduceLeDiff, Nat.reduceLT, Nat.reduceMul, Int.natCast_one, Int.natCast_zero, Int.reduceEq, Int.reduceLT, Int.reduceLE, Int.reduceAdd, Int.reduceSub, Int.reduceToNat, UInt8.reduceToNat]) ?_
      simp -implicitDefEqProofs only [go_sem, tys, regs0, Nat.reduceEqDiff, Nat.reduceAdd, Nat.reduceLeDiff, Nat.reduceLT, Nat.reduceMul, Int.natCast_one, Int.natCast_zero, Int.reduceEq, Int.reduceLT, Int.reduceLE, Int.reduceAdd, Int.reduceSub, Int.reduceToNat, UInt8.reduceToNat, h3]
      exact Done.drop hA.sub ⟨rfl, rfl⟩
theorem sum_k {G : Heap} {id : Nat} {s : Bytes} {p : Nat} {bad : Bool} (hG : G id = some (rdr s p bad)) (hp : p ≤ s.length) (hs : s.length ≤ 1099511627776) {K : K1}
    (hK : SumPost s p bad K G id) : ACalls Tryd.prog 27 [.ptr id 0] G K := by
  by_cases h : p + 8 ≤ s.length
  · have hl : ((s.drop p).take 8).length ≤ 8 := by rw [List.length_take]; omega
    refine (sum_walk hG hp hs ((s.drop p).take 8) (G.put id (rdr s (p + 8 : Nat) bad)) hl (fun K hK => take_k hG hp hs (by omega) (fun m hm _ => by
      obtain rfl : m = 8 := by omega
      exact hK) (fun hf => by omega))).mono ?_
    rintro x H' ⟨rfl, rfl⟩
    refine hK (hexB ((s.drop p).take 8)) (p + 8) bad (by rw [hexB_len]; omega) (by omega) h (fun hb => ⟨hb, ?_⟩) (fun hb => .inl hb)
    unfold sumR
    rw [if_pos (by rw [List.length_drop]; omega), List.drop_drop]
  · refine (sum_walk hG hp hs [] (G.put id (rdr s p true)) (by simp) (fun K hK => take_k hG hp hs (by omega) (fun m hm hf => by omega) (fun _ => hK))).mono ?_
    rintro x H' ⟨rfl, rfl⟩
    refine hK [] p true (by simp) (by omega) hp (by simp) (fun _ => .inr ?_)
    unfold sumR
    rw [if_neg (by rw [List.length_drop]; omega)]
def PcPost (s : Bytes) (p : Nat) (bad : Bool) (K : K1) (G : Heap) (id : Nat) : Prop :=
  ∀ (x : PieceV) (p' : Nat) (bad' : Bool), pcR x → p ≤ p' → p' ≤ s.length → (bad' = false → bad = false ∧ pieceR (s.drop p) = some (x, s.drop p')) → (bad' = true → bad = true ∨ pieceR (s.drop p) = none) →
    K (.agg (encPc x)) (G.put id (rdr s p' bad'))
def PcRes (s : Bytes) (p : Nat) (bad : Bool) (G : Heap) (id : Nat) (x : AV) (H' : Heap) : Prop := ∃ (v : PieceV) (p' : Nat) (bad' : Bool), x = .agg (encPc v) ∧ H' = G.put id (rdr s p' bad') ∧ pcR v ∧ p ≤ p' ∧ p' ≤ s.length ∧
  (bad' = false → bad = false ∧ pieceR (s.drop p) = some (v, s.drop p')) ∧ (bad' = true → bad = true ∨ pieceR (s.drop p) = none)
theorem pcR_zero : pcR ⟨0, 0, []⟩ := by decide
theorem encPc_zero : encPc ⟨0, 0, []⟩ = [.int .i64 0, .int .i64 0, .str []] := rfl
theorem piece0 {l k : Bytes} (h : l = 0 :: k) : pieceR l = (num k).bind fun x => (num x.2).map fun y => (⟨x.1, y.1, []⟩, y.2) := by rw [h]; simp [pieceR]
theorem piece1 {l k : Bytes} (h : l = 1 :: k) : pieceR l = (num k).bind fun x => if x.1 = 0 ∨ x.2.length < x.1 then none else some (⟨0, 0, x.2.take x.1⟩, x.2.drop x.1) := by rw [h]; simp [pieceR]
set_option maxHeartbeats 3200000 in
theorem piece_k {G : Heap} {id : Nat} {s : Bytes} {p : Nat} {bad : Bool} (hG : G id = some (rdr s p bad)) (hp : p ≤ s.length) (hs : s.length ≤ 2097152) {K : K1}
    (hK : PcPost s p bad K G id) : ACalls Tryd.prog 28 [.ptr id 0] G K := by
  refine (?_ : ACalls _ _ _ _ (PcRes s p bad G id)).mono (by
    rintro x H' ⟨v, p', bad', rfl, rfl, h1, h2, h3, h4, h5⟩
    exact hK v p' bad' h1 h2 h3 h4 h5)
  clear hK
  have hs' : s.length ≤ 1099511627776 := by omega
  refine ACalls.of_code (X := { pure := pu0 }) pu0_ok Tryd.func28 (by kernel_rfl) rfl (by kernel_rfl) (Nat.le_of_ble_eq_true rfl) ?_
  simp -implicitDefEqProofs only [go_sem, tys, regs0, Nat.reduceEqDiff, Nat.reduceAdd, Nat.reduceLeDiff, Nat.reduceLT, Nat.reduceMul, Int.natCast_one, Int.natCast_zero, Int.reduceEq, Int.reduceLT, Int.reduceLE, Int.reduceAdd, Int.reduceSub, Int.reduceToNat, UInt8.reduceToNat, Tryd.f28]
  with_reducible refine nwC_intro fun i2 hi2 => ?_
  have n1 : ¬ id = i2 := fun e => by subst e; rw [hG] at hi2; cases hi2
  have n2 : ¬ i2 = id := fun e => n1 e.symm
  have hG2 : (G.put i2 (.cells [.int .i64 0, .int .i64 0, .str []])) id = some (rdr s p bad) := by rw [put_ne _ _ _ _ n1]; exact hG
  have hZ := put_same G i2 (.cells [.int .i64 0, .int .i64 0, .str []])
  simp -implicitDefEqProofs only [go_sem, tys, regs0, Nat.reduceEqDiff, Nat.reduceAdd, Nat.reduceLeDiff, Nat.reduceLT, Nat.reduceMul, Int.natCast_one, Int.natCast_zero, Int.reduceEq, Int.reduceLT, Int.reduceLE, Int.reduceAdd, Int.reduceSub, Int.reduceToNat, UInt8.reduceToNat]
  refine take_k hG2 hp hs' (by omega) (fun m hm hle => ?_) (fun hf => ?_)
  · obtain rfl : m = 1 := by omega
    obtain ⟨c, hc, hd, ht⟩ := drop_at (s := s) (p := p) (by omega)
    rw [ht]
    have hB1 := put_same (G.put i2 (.cells [.int .i64 0, .int .i64 0, .str []])) id (rdr s (p + 1 : Nat) bad)
    cases bad with
    | true =>
      unfold rdr at hB1 ⊢
      simp -implicitDefEqProofs only [go_sem, tys, regs0, Nat.reduceEqDiff, Nat.reduceAdd, Nat.reduceLeDiff, Nat.reduceLT, Nat.reduceMul, Int.natCast_one, Int.natCast_zero, Int.reduceEq, Int.reduceLT, Int.reduceLE, Int.reduceAdd, Int.reduceSub, Int.reduceToNat, UInt8.reduceToNat, hB1, put_ne, n1, n2]
      exact Done.drop (H' := G.put id (rdr s (p + 1 : Nat) true)) (by intro j o hj; by_cases e1 : j = id <;> by_cases e2 : j = i2 <;> simp_all [Heap.put, rdr]) ⟨⟨0, 0, []⟩, p + 1, true, rfl, rfl, pcR_zero, by omega, by omega, by simp, by simp⟩
    | false =>
      by_cases c0 : c = 0
      · have k0 : decide ((c.toNat : Int) = 0) = true := decide_eq_true (by rw [c0]; rfl)
        have hpc := piece0 (c0 ▸ hd)
        unfold rdr at hB1 ⊢
        simp -implicitDefEqProofs only [go_sem, tys, regs0, Nat.reduceEqDiff, Nat.reduceAdd, Nat.reduceLeDiff, Nat.reduceLT, Nat.reduceMul, Int.natCast_one, Int.natCast_zero, Int.reduceEq, Int.reduceLT, Int.reduceLE, Int.reduceAdd, Int.reduceSub, Int.reduceToNat, UInt8.reduceToNat, hB1, k0]
        refine number_k hB1 hle hs' (fun v1 p1 b1 hv1 g1 g2 g3 g4 => ?_)
        rw [put_put']
        have hB2 := put_same (G.put i2 (.cells [.int .i64 0, .int .i64 0, .str []])) id (rdr s p1 b1)
        simp -implicitDefEqProofs only [go_sem, tys, regs0, Nat.reduceEqDiff, Nat.reduceAdd, Nat.reduceLeDiff, Nat.reduceLT, Nat.reduceMul, Int.natCast_one, Int.natCast_zero, Int.reduceEq, Int.reduceLT, Int.reduceLE, Int.reduceAdd, Int.reduceSub, Int.reduceToNat, UInt8.reduceToNat]
        refine number_k hB2 g2 hs' (fun v2 p2 b2 hv2 u1 u2 u3 u4 => ?_)
        rw [put_put']
        have hZ2 : ((G.put i2 (.cells [.int .i64 0, .int .i64 0, .str []])).put id (rdr s p2 b2)) i2 = some (.cells [.int .i64 0, .int .i64 0, .str []]) := by rw [put_ne _ _ _ _ n2]; exact put_same _ _ _
        simp -implicitDefEqProofs only [go_sem, tys, regs0, Nat.reduceEqDiff, Nat.reduceAdd, Nat.reduceLeDiff, Nat.reduceLT, Nat.reduceMul, Int.natCast_one, Int.natCast_zero, Int.reduceEq, Int.reduceLT, Int.reduceLE, Int.reduceAdd, Int.reduceSub, Int.reduceToNat, UInt8.reduceToNat, hZ2, put_ne, n1, n2]
        refine Done.drop (H' := G.put id (rdr s p2 b2)) (by intro j o hj; by_cases e1 : j = id <;> by_cases e2 : j = i2 <;> simp_all [Heap.put, rdr]) ⟨⟨v1, v2, []⟩, p2, b2, rfl, rfl, ⟨⟨by simp only; omega, by simp only; omega⟩, ⟨by simp only; omega, by simp only; omega⟩, by simp⟩, by omega, u2, fun hb => ⟨rfl, ?_⟩, fun hb => .inr ?_⟩
        · rw [hpc, (g3 (u3 hb).1).2]; simp only [Option.bind_some]; rw [(u3 hb).2]; rfl
        · rw [hpc]
          cases b1 with
          | true => rcases g4 rfl with h | h
                    · cases h
                    · rw [h]; rfl
          | false =>
            rw [(g3 rfl).2]; simp only [Option.bind_some]
            rcases u4 hb with h | h
            · cases h
            · rw [h]; rfl
      · have k0 : decide ((c.toNat : Int) = 0) = false := decide_eq_false (fun e => c0 (UInt8.toNat_inj.1 (show c.toNat = 0 by omega)))
        by_cases c1 : c = 1
        · have k1 : decide ((c.toNat : Int) = 1) = true := decide_eq_true (by rw [c1]; rfl)
          have hpc := piece1 (c1 ▸ hd)
          unfold rdr at hB1 ⊢
          simp -implicitDefEqProofs only [go_sem, tys, regs0, Nat.reduceEqDiff, Nat.reduceAdd, Nat.reduceLeDiff, Nat.reduceLT, Nat.reduceMul, Int.natCast_one, Int.natCast_zero, Int.reduceEq, Int.reduceLT, Int.reduceLE, Int.reduceAdd, Int.reduceSub, Int.reduceToNat, UInt8.reduceToNat, hB1, k0, k1]
          refine number_k hB1 hle hs' (fun v1 p1 b1 hv1 g1 g2 g3 g4 => ?_)
          rw [put_put']
          have hB2 := put_same (G.put i2 (.cells [.int .i64 0, .int .i64 0, .str []])) id (rdr s p1 b1)
          simp -implicitDefEqProofs only [go_sem, tys, regs0, Nat.reduceEqDiff, Nat.reduceAdd, Nat.reduceLeDiff, Nat.reduceLT, Nat.reduceMul, Int.natCast_one, Int.natCast_zero, Int.reduceEq, Int.reduceLT, Int.reduceLE, Int.reduceAdd, Int.reduceSub, Int.reduceToNat, UInt8.reduceToNat]
          refine take_k hB2 g2 hs' (by omega) (fun m hm hle2 => ?_) (fun hf => ?_)
          · obtain rfl : v1 = m := by omega
            rw [put_put']
            have hB3 := put_same (G.put i2 (.cells [.int .i64 0, .int .i64 0, .str []])) id (rdr s (p1 + v1 : Nat) b1)
            have hZ3 : ((G.put i2 (.cells [.int .i64 0, .int .i64 0, .str []])).put id (rdr s (p1 + v1 : Nat) b1)) i2 = some (.cells [.int .i64 0, .int .i64 0, .str []]) := by rw [put_ne _ _ _ _ n2]; exact put_same _ _ _
            have htl : ((s.drop p1).take v1).length = v1 := by rw [List.length_take, List.length_drop]; omega
            have hdd : (s.drop p1).drop v1 = s.drop (p1 + v1) := List.drop_drop
            generalize htk : (s.drop p1).take v1 = tk at *
            simp -implicitDefEqProofs only [go_sem, tys, regs0, Nat.reduceEqDiff, Nat.reduceAdd, Nat.reduceLeDiff, Nat.reduceLT, Nat.reduceMul, Int.natCast_one, Int.natCast_zero, Int.reduceEq, Int.reduceLT, Int.reduceLE, Int.reduceAdd, Int.reduceSub, Int.reduceToNat, UInt8.reduceToNat]
            with_reducible refine nwC_intro fun i5 hi5 => ?_
            have m1 : ¬ id = i5 := fun e => by rw [← e, hB3] at hi5; cases hi5
            have m2 : ¬ i2 = i5 := fun e => by rw [← e, hZ3] at hi5; cases hi5
            have m3 : ¬ i5 = id := fun e => m1 e.symm
            have m4 : ¬ i5 = i2 := fun e => m2 e.symm
            have hi5G : G i5 = none := by rw [put_ne _ _ _ _ m3, put_ne _ _ _ _ m4] at hi5; exact hi5
            unfold rdr at hB3 hZ3 ⊢
            cases b1 with
            | true =>
              simp -implicitDefEqProofs only [go_sem, tys, regs0, Nat.reduceEqDiff, Nat.reduceAdd, Nat.reduceLeDiff, Nat.reduceLT, Nat.reduceMul, Int.natCast_one, Int.natCast_zero, Int.reduceEq, Int.reduceLT, Int.reduceLE, Int.reduceAdd, Int.reduceSub, Int.reduceToNat, UInt8.reduceToNat, hB3, hZ3, put_ne, n1, n2, m1, m2, m3, m4]
              refine Done.drop (H' := G.put id (rdr s (p1 + v1 : Nat) true)) (by intro j o hj; by_cases e1 : j = id <;> by_cases e2 : j = i2 <;> by_cases e3 : j = i5 <;> simp_all [Heap.put, rdr]) ⟨⟨0, 0, tk⟩, p1 + v1, true, rfl, rfl, ⟨by simp [inI], by simp [inI], by simp only; omega⟩, by omega, hle2, by simp, fun _ => .inr ?_⟩
              rw [hpc]
              rcases g4 rfl with h | h
              · cases h
              · rw [h]; rfl
            | false =>
              rw [(g3 rfl).2] at hpc
              simp only [Option.bind_some] at hpc
              by_cases hv0 : tk = []
              · have k2 : decide (tk = []) = true := decide_eq_true hv0
                simp -implicitDefEqProofs only [go_sem, tys, regs0, Nat.reduceEqDiff, Nat.reduceAdd, Nat.reduceLeDiff, Nat.reduceLT, Nat.reduceMul, Int.natCast_one, Int.natCast_zero, Int.reduceEq, Int.reduceLT, Int.reduceLE, Int.reduceAdd, Int.reduceSub, Int.reduceToNat, UInt8.reduceToNat, hB3, hZ3, put_ne, n1, n2, m1, m2, m3, m4, k2]
                refine Done.drop (H' := G.put id (rdr s (p1 + v1 : Nat) true)) (by intro j o hj; by_cases e1 : j = id <;> by_cases e2 : j = i2 <;> by_cases e3 : j = i5 <;> simp_all [Heap.put, rdr]) ⟨⟨0, 0, tk⟩, p1 + v1, true, rfl, rfl, ⟨by simp [inI], by simp [inI], by simp only; omega⟩, by omega, hle2, by simp, fun _ => .inr ?_⟩
                rw [hpc, if_pos]
                rw [hv0] at htl
                exact .inl htl.symm
              · have k2 : decide (tk = []) = false := decide_eq_false hv0
                simp -implicitDefEqProofs only [go_sem, tys, regs0, Nat.reduceEqDiff, Nat.reduceAdd, Nat.reduceLeDiff, Nat.reduceLT, Nat.reduceMul, Int.natCast_one, Int.natCast_zero, Int.reduceEq, Int.reduceLT, Int.reduceLE, Int.reduceAdd, Int.reduceSub, Int.reduceToNat, UInt8.reduceToNat, hB3, hZ3, put_ne, n1, n2, m1, m2, m3, m4, k2]
                refine Done.drop (H' := G.put id (rdr s (p1 + v1 : Nat) false)) (by intro j o hj; by_cases e1 : j = id <;> by_cases e2 : j = i2 <;> by_cases e3 : j = i5 <;> simp_all [Heap.put, rdr]) ⟨⟨0, 0, tk⟩, p1 + v1, false, rfl, rfl, ⟨by simp [inI], by simp [inI], by simp only; omega⟩, by omega, hle2, fun _ => ⟨rfl, ?_⟩, by simp⟩
                rw [hpc, if_neg, htk, hdd]
                rintro (h | h)
                · rw [h] at htl; exact hv0 (List.eq_nil_of_length_eq_zero htl)
                · rw [List.length_drop] at h; omega
          · rw [put_put']
            have hB3 := put_same (G.put i2 (.cells [.int .i64 0, .int .i64 0, .str []])) id (rdr s p1 true)
            have hZ3 : ((G.put i2 (.cells [.int .i64 0, .int .i64 0, .str []])).put id (rdr s p1 true)) i2 = some (.cells [.int .i64 0, .int .i64 0, .str []]) := by rw [put_ne _ _ _ _ n2]; exact put_same _ _ _
            simp -implicitDefEqProofs only [go_sem, tys, regs0, Nat.reduceEqDiff, Nat.reduceAdd, Nat.reduceLeDiff, Nat.reduceLT, Nat.reduceMul, Int.natCast_one, Int.natCast_zero, Int.reduceEq, Int.reduceLT, Int.reduceLE, Int.reduceAdd, Int.reduceSub, Int.reduceToNat, UInt8.reduceToNat]
            with_reducible refine nwC_intro fun i5 hi5 => ?_
            have m1 : ¬ id = i5 := fun e => by rw [← e, hB3] at hi5; cases hi5
            have m2 : ¬ i2 = i5 := fun e => by rw [← e, hZ3] at hi5; cases hi5
            have m3 : ¬ i5 = id := fun e => m1 e.symm
            have m4 : ¬ i5 = i2 := fun e => m2 e.symm
            have hi5G : G i5 = none := by rw [put_ne _ _ _ _ m3, put_ne _ _ _ _ m4] at hi5; exact hi5
            unfold rdr at hB3 hZ3 ⊢
            simp -implicitDefEqProofs only [go_sem, tys, regs0, Nat.reduceEqDiff, Nat.reduceAdd, Nat.reduceLeDiff, Nat.reduceLT, Nat.reduceMul, Int.natCast_one, Int.natCast_zero, Int.reduceEq, Int.reduceLT, Int.reduceLE, Int.reduceAdd, Int.reduceSub, Int.reduceToNat, UInt8.reduceToNat, hB3, hZ3, put_ne, n1, n2, m1, m2, m3, m4]
            refine Done.drop (H' := G.put id (rdr s p1 true)) (by intro j o hj; by_cases e1 : j = id <;> by_cases e2 : j = i2 <;> by_cases e3 : j = i5 <;> simp_all [Heap.put, rdr]) ⟨⟨0, 0, []⟩, p1, true, rfl, rfl, pcR_zero, by omega, g2, by simp, fun _ => .inr ?_⟩
            rw [hpc]
            cases b1 with
            | true =>
              rcases g4 rfl with h | h
              · cases h
              · rw [h]; rfl
            | false =>
              rw [(g3 rfl).2]
              simp only [Option.bind_some]
              rw [if_pos]
              rw [List.length_drop]
              omega
        · have k1 : decide ((c.toNat : Int) = 1) = false := decide_eq_false (fun e => c1 (UInt8.toNat_inj.1 (show c.toNat = 1 by omega)))
          unfold rdr at hB1 ⊢
          simp -implicitDefEqProofs only [go_sem, tys, regs0, Nat.reduceEqDiff, Nat.reduceAdd, Nat.reduceLeDiff, Nat.reduceLT, Nat.reduceMul, Int.natCast_one, Int.natCast_zero, Int.reduceEq, Int.reduceLT, Int.reduceLE, Int.reduceAdd, Int.reduceSub, Int.reduceToNat, UInt8.reduceToNat, hB1, k0, k1, put_ne, n1, n2]
          refine Done.drop (H' := G.put id (rdr s (p + 1 : Nat) true)) (by intro j o hj; by_cases e1 : j = id <;> by_cases e2 : j = i2 <;> simp_all [Heap.put, rdr]) ⟨⟨0, 0, []⟩, p + 1, true, rfl, rfl, pcR_zero, by omega, by omega, by simp, fun _ => .inr ?_⟩
          rw [hd, pieceR, if_neg c0, if_neg c1]
  · have hB1 := put_same (G.put i2 (.cells [.int .i64 0, .int .i64 0, .str []])) id (rdr s p true)
    unfold rdr at hB1 ⊢
    simp -implicitDefEqProofs only [go_sem, tys, regs0, Nat.reduceEqDiff, Nat.reduceAdd, Nat.reduceLeDiff, Nat.reduceLT, Nat.reduceMul, Int.natCast_one, Int.natCast_zero, Int.reduceEq, Int.reduceLT, Int.reduceLE, Int.reduceAdd, Int.reduceSub, Int.reduceToNat, UInt8.reduceToNat, hB1, put_ne, n1, n2]
    refine Done.drop (H' := G.put id (rdr s p true)) (by intro j o hj; by_cases e1 : j = id <;> by_cases e2 : j = i2 <;> simp_all [Heap.put, rdr]) ⟨⟨0, 0, []⟩, p, true, rfl, rfl, pcR_zero, by omega, by omega, by simp, fun _ => .inr ?_⟩
    rw [List.drop_eq_nil_of_le (by omega)]
    rfl
end Go.Proofs
