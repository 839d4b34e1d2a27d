import Derived.Test.YtnheonhmnepifaaW2

namespace Go.Proofs
open Go Go.Abs
set_option linter.unusedSimpArgs false

theorem first_calls (l : List Int) (t : Tail) (H : Heap) (hl : (l.length : Int) ≤ 9223372036854775807) : ACalls Try.prog 13 [.sl (l.map encI) t] H fun x H' => x = .int .i64 (firstOf l) ∧ H' = H := by
  refine ACalls.of_code (X := { pure := puA }) puA_ok Try.func13 (by kernel_rfl) rfl (by kernel_rfl) (Nat.le_of_ble_eq_true rfl) ?_
  simp -implicitDefEqProofs only [go_sem, tys, regs0, Try.f13, Nat.reduceEqDiff]
  refine aloop_intro (σ := Nat) (fun i => [(5, .sl (l.map encI) t), (6, .int .i64 l.length), (7, .int .i64 i)]) (fun i G => G = H ∧ i ≤ l.length ∧ firstOf (l.take i) = 0) (fun i => l.length - i) 0 ?_ ?_ ?_
  · simp -implicitDefEqProofs only [go_sem, tys, regs0, Nat.reduceEqDiff]
    simp
  · simp [firstOf]
  · rintro i r G ⟨h5, h6, h7, -⟩ ⟨rfl, hi, hz⟩
    simp -implicitDefEqProofs only [go_sem, tys, Nat.reduceEqDiff, h5, h6, h7]
    refine cnd_intro (fun h => ?_) (fun h => ?_)
    · simp only [decide_eq_true_eq] at h
      obtain ⟨c, hc⟩ : ∃ c, l[i]? = some c := ⟨l[i]'(by omega), List.getElem?_eq_getElem _⟩
      simp -implicitDefEqProofs only [go_sem, tys, Nat.reduceEqDiff, h5, h6, h7, hc, encI]
      refine cnd_intro (fun g => ?_) (fun g => ?_)
      · simp -implicitDefEqProofs only [go_sem, tys, Nat.reduceEqDiff, h5, h6, h7]
        simp only [decide_eq_true_eq] at g
        exact Done.now ⟨by rw [firstOf_at hz hc g], rfl⟩
      · simp -implicitDefEqProofs (disch := omega) only [go_sem, tys, Nat.reduceEqDiff, h5, h6, h7, Go.IntWalk.i64_in]
        simp only [decide_eq_false_iff_not, Decidable.not_not] at g
        refine Again.mk (i + 1) (by simp -implicitDefEqProofs only [go_sem, h5, h6, h7, Nat.reduceEqDiff]; exact rfl) ⟨rfl, by omega, ?_⟩ (by omega)
        rw [firstOf_take_succ hz hc, g]
    · simp only [decide_eq_false_iff_not] at h
      have e : i = l.length := by omega
      subst e
      rw [List.take_length] at hz
      simp -implicitDefEqProofs only [go_sem, tys, Nat.reduceEqDiff, h5, h6, h7]
      exact Done.now ⟨by rw [hz], rfl⟩

theorem waysError_calls (l : List Way) (sizes : List Int) (t1 t2 : Tail) (H : Heap) (hl : l.length ≤ 9223372036854775807) (hs : sizes.length ≤ 9223372036854775807) :
    ACalls Try.prog 7 [.sl (l.map encWay) t1, .sl (sizes.map encI) t2] H fun x H' => x = .int .i64 (checkWays l sizes) ∧ H' = H := by
  refine ACalls.of_code (X := { pure := puA }) puA_ok Try.func7 (by kernel_rfl) rfl (by kernel_rfl) (Nat.le_of_ble_eq_true rfl) ?_
  simp -implicitDefEqProofs only [go_sem, tys, regs0, Try.f7, Nat.reduceEqDiff, puA12, sOut_eq, puA14, sWhen_eq]
  refine gd_intro (fun h1 => ?_) (fun h1 => ?_)
  · simp -implicitDefEqProofs only [go_sem, tys, regs0, Nat.reduceEqDiff, h1]
    refine Done.now ⟨?_, rfl⟩
    simp only [decide_eq_true_eq] at h1
    rw [checkWays, if_pos (by omega)]
  simp -implicitDefEqProofs only [go_sem, tys, regs0, Nat.reduceEqDiff, h1]
  refine cnd_intro (fun h2 => ?_) (fun h2 => ?_)
  · simp -implicitDefEqProofs only [go_sem, tys, regs0, Nat.reduceEqDiff, h1]
    refine Done.now ⟨?_, rfl⟩
    simp only [decide_eq_true_eq] at h2
    rw [checkWays, if_pos (by omega)]
  simp only [decide_eq_true_eq, decide_eq_false_iff_not] at h1 h2
  simp -implicitDefEqProofs only [go_sem, tys, regs0, Nat.reduceEqDiff]
  have hc : checkWays l sizes = if firstOf (sizes.map sizeErr) ≠ 0 then 3 else firstOf (l.map (wayErr sizes.length)) := by rw [checkWays, if_neg (by omega)]
  refine aloop_intro (σ := Nat) (fun i => [(0, .sl (l.map encWay) t1), (1, .sl (sizes.map encI) t2), (18, .sl (sizes.map encI) t2), (19, .int .i64 sizes.length), (20, .int .i64 i)]) (fun i G => G = H ∧ i ≤ sizes.length ∧ firstOf ((sizes.map sizeErr).take i) = 0) (fun i => sizes.length - i) 0 ?_ ?_ ?_
  · simp -implicitDefEqProofs only [go_sem, tys, regs0, Nat.reduceEqDiff]
    simp
  · simp [firstOf]
  · rintro i r G ⟨e0, e1, e17, e18, e19, -⟩ ⟨rfl, hi, hz⟩
    simp -implicitDefEqProofs only [go_sem, tys, regs0, Nat.reduceEqDiff, e0, e1, e17, e18, e19]
    refine cnd_intro (fun h => ?_) (fun h => ?_)
    · simp only [decide_eq_true_eq] at h
      obtain ⟨c, hc'⟩ : ∃ c, sizes[i]? = some c := ⟨sizes[i]'(by omega), List.getElem?_eq_getElem _⟩
      have hce : (sizes.map sizeErr)[i]? = some (sizeErr c) := by simp [hc']
      simp -implicitDefEqProofs only [go_sem, tys, regs0, Nat.reduceEqDiff, e0, e1, e17, e18, e19, hc', encI]
      have yes : out c 0 1000000000 = true → .int .i64 3 = AV.int .i64 (checkWays l sizes) := fun ho => by
        have : sizeErr c = 3 := by simp only [sizeErr, ho, if_true]
        rw [hc, firstOf_at hz hce (by rw [this]; decide), this]
        rfl
      have no : out c 0 1000000000 = false → firstOf ((sizes.map sizeErr).take (i + 1)) = 0 := fun ho => by
        rw [firstOf_take_succ hz hce]
        simp only [sizeErr, ho]
        rfl
      refine gd_intro (fun g1 => ?_) (fun g1 => ?_)
      · simp -implicitDefEqProofs only [go_sem, tys, regs0, Nat.reduceEqDiff, e0, e1, e17, e18, e19, g1]
        simp only [decide_eq_true_eq] at g1
        exact Done.now ⟨yes (by simp [out, g1]), rfl⟩
      · simp -implicitDefEqProofs only [go_sem, tys, regs0, Nat.reduceEqDiff, e0, e1, e17, e18, e19, g1]
        refine cnd_intro (fun ho => ?_) (fun ho => ?_)
        · simp -implicitDefEqProofs only [go_sem, tys, regs0, Nat.reduceEqDiff, e0, e1, e17, e18, e19]
          simp only [decide_eq_true_eq] at ho
          exact Done.now ⟨yes (by simp [out, ho]), rfl⟩
        · simp -implicitDefEqProofs (disch := omega) only [go_sem, tys, regs0, Nat.reduceEqDiff, e0, e1, e17, e18, e19, Go.IntWalk.i64_in]
          simp only [decide_eq_false_iff_not] at ho g1
          exact Again.mk (i + 1) (by simp -implicitDefEqProofs only [go_sem, e0, e1, e17, e18, e19, Nat.reduceEqDiff]; exact rfl) ⟨rfl, by omega, no (by simp [out, ho, g1])⟩ (by omega)
    · simp only [decide_eq_false_iff_not] at h
      have e : i = sizes.length := by omega
      subst e
      rw [List.take_of_length_le (by simp)] at hz
      rw [if_neg (by simp [hz])] at hc
      simp -implicitDefEqProofs only [go_sem, tys, regs0, Nat.reduceEqDiff, e0, e1, e17, e18, e19]
      refine aloop_intro (σ := Nat) (fun i => [(1, .sl (sizes.map encI) t2), (31, .sl (l.map encWay) t1), (32, .int .i64 l.length), (33, .int .i64 i)]) (fun i G' => G.Sub G' ∧ i ≤ l.length ∧ firstOf ((l.map (wayErr sizes.length)).take i) = 0) (fun i => l.length - i) 0 ?_ ?_ ?_
      · simp -implicitDefEqProofs only [go_sem, tys, regs0, Nat.reduceEqDiff, e1]
        simp
      · exact ⟨fun _ _ h => h, by simp, by simp [firstOf]⟩
      · clear e0 e1 e17 e18 e19
        rintro i r G' ⟨e1, e26, e27, e28, -⟩ ⟨hsub, hi, hz⟩
        simp -implicitDefEqProofs only [go_sem, tys, regs0, Nat.reduceEqDiff, e1, e26, e27, e28]
        refine cnd_intro (fun h => ?_) (fun h => ?_)
        · simp only [decide_eq_true_eq] at h
          obtain ⟨⟨c0, c1, c2⟩, hc'⟩ : ∃ c, l[i]? = some c := ⟨l[i]'(by omega), List.getElem?_eq_getElem _⟩
          have hce : (l.map (wayErr sizes.length))[i]? = some (wayErr sizes.length (c0, c1, c2)) := by simp [hc']
          simp -implicitDefEqProofs only [go_sem, tys, regs0, Nat.reduceEqDiff, Nat.reduceAdd, Nat.reduceLeDiff, Nat.reduceLT, Nat.reduceMul, e1, e26, e27, e28, hc', encWay]
          refine nwC_intro fun id hid => ?_
          have hsub' := fun o => hsub.put hid o
          simp -implicitDefEqProofs only [go_sem, tys, regs0, Nat.reduceEqDiff, Nat.reduceAdd, Nat.reduceLeDiff, Nat.reduceLT, Nat.reduceMul, e1, e26, e27, e28]
          have fin : ∀ (b1 b2 b3 : Bool), b1 = (out c0 0 ((sizes.length : Int) - 1) || out c1 0 ((sizes.length : Int) - 1)) → b2 = decide (c0 = c1) → b3 = out c2 0 1000000000 →
              firstOf [if b1 = true then 10 else 0, if b2 = true then 2 else 0, if b3 = true then 3 else 0] = wayErr sizes.length (c0, c1, c2) := by
            rintro b1 b2 b3 rfl rfl rfl
            simp only [wayErr, decide_eq_true_eq]
            split <;> split <;> split <;> simp [firstOf, *]
          have out1 : ∀ c k : Int, c < 0 → out c 0 (k - 1) = true := fun c k h => by simp [out, h]
          have out2 : ∀ c k : Int, k ≤ c → out c 0 (k - 1) = true := fun c k h => by simp [out]; omega
          have out3 : ∀ c k : Int, ¬ c < 0 → out c 0 (k - 1) = decide (k ≤ c) := fun c k h => by simp only [out]; congr 1; simp; omega
          refine gd_intro (fun g1 => ?_) (fun g1 => ?_)
          · simp -implicitDefEqProofs (disch := omega) only [go_sem, tys, regs0, Nat.reduceEqDiff, Nat.reduceAdd, Nat.reduceLeDiff, Nat.reduceLT, Nat.reduceMul, e1, e26, e27, e28, puA12, sOut_eq, puA14, sWhen_eq, Go.IntWalk.i64_in, g1]
            refine gd_intro (fun g6 => ?_) (fun g6 => ?_)
            · simp -implicitDefEqProofs (disch := omega) only [go_sem, tys, regs0, Nat.reduceEqDiff, Nat.reduceAdd, Nat.reduceLeDiff, Nat.reduceLT, Nat.reduceMul, e1, e26, e27, e28, puA12, sOut_eq, puA14, sWhen_eq, Go.IntWalk.i64_in, g6]
              simp only [decide_eq_true_eq, decide_eq_false_iff_not] at g1 g6
              refine ACalls.pure_next _ (first_calls [_, _, _] .exact _ (by simp)) ?_
              have hf := fin true (decide (c0 = c1)) true (by rw [out1 c0 _ g1]; rfl) rfl (by simp [out, g6])
              simp only [if_true, decide_eq_true_eq, Bool.false_eq_true, if_false] at hf
              simp -implicitDefEqProofs (disch := omega) only [go_sem, tys, regs0, Nat.reduceEqDiff, Nat.reduceAdd, Nat.reduceLeDiff, Nat.reduceLT, Nat.reduceMul, e1, e26, e27, e28, puA12, sOut_eq, puA14, sWhen_eq, Go.IntWalk.i64_in, hf]
              refine cnd_intro (fun g9 => ?_) (fun g9 => ?_)
              · simp -implicitDefEqProofs (disch := omega) only [go_sem, tys, regs0, Nat.reduceEqDiff, Nat.reduceAdd, Nat.reduceLeDiff, Nat.reduceLT, Nat.reduceMul, e1, e26, e27, e28, puA12, sOut_eq, puA14, sWhen_eq, Go.IntWalk.i64_in, hf]
                simp only [decide_eq_true_eq] at g9
                exact Done.drop (hsub' _) ⟨by rw [hc, firstOf_at hz hce g9], rfl⟩
              · simp -implicitDefEqProofs (disch := omega) only [go_sem, tys, regs0, Nat.reduceEqDiff, Nat.reduceAdd, Nat.reduceLeDiff, Nat.reduceLT, Nat.reduceMul, e1, e26, e27, e28, puA12, sOut_eq, puA14, sWhen_eq, Go.IntWalk.i64_in, hf]
                simp only [decide_eq_false_iff_not, Decidable.not_not] at g9
                exact Again.mk (i + 1) (by simp -implicitDefEqProofs only [go_sem, e1, e26, e27, e28, Nat.reduceEqDiff]; exact rfl) ⟨hsub' _, by omega, by rw [firstOf_take_succ hz hce, g9]⟩ (by omega)
            · simp -implicitDefEqProofs (disch := omega) only [go_sem, tys, regs0, Nat.reduceEqDiff, Nat.reduceAdd, Nat.reduceLeDiff, Nat.reduceLT, Nat.reduceMul, e1, e26, e27, e28, puA12, sOut_eq, puA14, sWhen_eq, Go.IntWalk.i64_in, g6]
              simp only [decide_eq_true_eq, decide_eq_false_iff_not] at g1 g6
              refine ACalls.pure_next _ (first_calls [_, _, _] .exact _ (by simp)) ?_
              have hf := fin true (decide (c0 = c1)) (decide (1000000000 < c2)) (by rw [out1 c0 _ g1]; rfl) rfl (by simp [out, g6])
              simp only [if_true, decide_eq_true_eq, Bool.false_eq_true, if_false] at hf
              simp -implicitDefEqProofs (disch := omega) only [go_sem, tys, regs0, Nat.reduceEqDiff, Nat.reduceAdd, Nat.reduceLeDiff, Nat.reduceLT, Nat.reduceMul, e1, e26, e27, e28, puA12, sOut_eq, puA14, sWhen_eq, Go.IntWalk.i64_in, hf]
              refine cnd_intro (fun g9 => ?_) (fun g9 => ?_)
              · simp -implicitDefEqProofs (disch := omega) only [go_sem, tys, regs0, Nat.reduceEqDiff, Nat.reduceAdd, Nat.reduceLeDiff, Nat.reduceLT, Nat.reduceMul, e1, e26, e27, e28, puA12, sOut_eq, puA14, sWhen_eq, Go.IntWalk.i64_in, hf]
                simp only [decide_eq_true_eq] at g9
                exact Done.drop (hsub' _) ⟨by rw [hc, firstOf_at hz hce g9], rfl⟩
              · simp -implicitDefEqProofs (disch := omega) only [go_sem, tys, regs0, Nat.reduceEqDiff, Nat.reduceAdd, Nat.reduceLeDiff, Nat.reduceLT, Nat.reduceMul, e1, e26, e27, e28, puA12, sOut_eq, puA14, sWhen_eq, Go.IntWalk.i64_in, hf]
                simp only [decide_eq_false_iff_not, Decidable.not_not] at g9
                exact Again.mk (i + 1) (by simp -implicitDefEqProofs only [go_sem, e1, e26, e27, e28, Nat.reduceEqDiff]; exact rfl) ⟨hsub' _, by omega, by rw [firstOf_take_succ hz hce, g9]⟩ (by omega)
          · simp -implicitDefEqProofs (disch := omega) only [go_sem, tys, regs0, Nat.reduceEqDiff, Nat.reduceAdd, Nat.reduceLeDiff, Nat.reduceLT, Nat.reduceMul, e1, e26, e27, e28, puA12, sOut_eq, puA14, sWhen_eq, Go.IntWalk.i64_in, g1]
            refine gd_intro (fun g2 => ?_) (fun g2 => ?_)
            · simp -implicitDefEqProofs (disch := omega) only [go_sem, tys, regs0, Nat.reduceEqDiff, Nat.reduceAdd, Nat.reduceLeDiff, Nat.reduceLT, Nat.reduceMul, e1, e26, e27, e28, puA12, sOut_eq, puA14, sWhen_eq, Go.IntWalk.i64_in, g2]
              refine gd_intro (fun g6 => ?_) (fun g6 => ?_)
              · simp -implicitDefEqProofs (disch := omega) only [go_sem, tys, regs0, Nat.reduceEqDiff, Nat.reduceAdd, Nat.reduceLeDiff, Nat.reduceLT, Nat.reduceMul, e1, e26, e27, e28, puA12, sOut_eq, puA14, sWhen_eq, Go.IntWalk.i64_in, g6]
                simp only [decide_eq_true_eq, decide_eq_false_iff_not] at g1 g2 g6
                refine ACalls.pure_next _ (first_calls [_, _, _] .exact _ (by simp)) ?_
                have hf := fin true (decide (c0 = c1)) true (by rw [out2 c0 _ g2]; rfl) rfl (by simp [out, g6])
                simp only [if_true, decide_eq_true_eq, Bool.false_eq_true, if_false] at hf
                simp -implicitDefEqProofs (disch := omega) only [go_sem, tys, regs0, Nat.reduceEqDiff, Nat.reduceAdd, Nat.reduceLeDiff, Nat.reduceLT, Nat.reduceMul, e1, e26, e27, e28, puA12, sOut_eq, puA14, sWhen_eq, Go.IntWalk.i64_in, hf]
                refine cnd_intro (fun g9 => ?_) (fun g9 => ?_)
                · simp -implicitDefEqProofs (disch := omega) only [go_sem, tys, regs0, Nat.reduceEqDiff, Nat.reduceAdd, Nat.reduceLeDiff, Nat.reduceLT, Nat.reduceMul, e1, e26, e27, e28, puA12, sOut_eq, puA14, sWhen_eq, Go.IntWalk.i64_in, hf]
                  simp only [decide_eq_true_eq] at g9
                  exact Done.drop (hsub' _) ⟨by rw [hc, firstOf_at hz hce g9], rfl⟩
                · simp -implicitDefEqProofs (disch := omega) only [go_sem, tys, regs0, Nat.reduceEqDiff, Nat.reduceAdd, Nat.reduceLeDiff, Nat.reduceLT, Nat.reduceMul, e1, e26, e27, e28, puA12, sOut_eq, puA14, sWhen_eq, Go.IntWalk.i64_in, hf]
                  simp only [decide_eq_false_iff_not, Decidable.not_not] at g9
                  exact Again.mk (i + 1) (by simp -implicitDefEqProofs only [go_sem, e1, e26, e27, e28, Nat.reduceEqDiff]; exact rfl) ⟨hsub' _, by omega, by rw [firstOf_take_succ hz hce, g9]⟩ (by omega)
              · simp -implicitDefEqProofs (disch := omega) only [go_sem, tys, regs0, Nat.reduceEqDiff, Nat.reduceAdd, Nat.reduceLeDiff, Nat.reduceLT, Nat.reduceMul, e1, e26, e27, e28, puA12, sOut_eq, puA14, sWhen_eq, Go.IntWalk.i64_in, g6]
                simp only [decide_eq_true_eq, decide_eq_false_iff_not] at g1 g2 g6
                refine ACalls.pure_next _ (first_calls [_, _, _] .exact _ (by simp)) ?_
                have hf := fin true (decide (c0 = c1)) (decide (1000000000 < c2)) (by rw [out2 c0 _ g2]; rfl) rfl (by simp [out, g6])
                simp only [if_true, decide_eq_true_eq, Bool.false_eq_true, if_false] at hf
                simp -implicitDefEqProofs (disch := omega) only [go_sem, tys, regs0, Nat.reduceEqDiff, Nat.reduceAdd, Nat.reduceLeDiff, Nat.reduceLT, Nat.reduceMul, e1, e26, e27, e28, puA12, sOut_eq, puA14, sWhen_eq, Go.IntWalk.i64_in, hf]
                refine cnd_intro (fun g9 => ?_) (fun g9 => ?_)
                · simp -implicitDefEqProofs (disch := omega) only [go_sem, tys, regs0, Nat.reduceEqDiff, Nat.reduceAdd, Nat.reduceLeDiff, Nat.reduceLT, Nat.reduceMul, e1, e26, e27, e28, puA12, sOut_eq, puA14, sWhen_eq, Go.IntWalk.i64_in, hf]
                  simp only [decide_eq_true_eq] at g9
                  exact Done.drop (hsub' _) ⟨by rw [hc, firstOf_at hz hce g9], rfl⟩
                · simp -implicitDefEqProofs (disch := omega) only [go_sem, tys, regs0, Nat.reduceEqDiff, Nat.reduceAdd, Nat.reduceLeDiff, Nat.reduceLT, Nat.reduceMul, e1, e26, e27, e28, puA12, sOut_eq, puA14, sWhen_eq, Go.IntWalk.i64_in, hf]
                  simp only [decide_eq_false_iff_not, Decidable.not_not] at g9
                  exact Again.mk (i + 1) (by simp -implicitDefEqProofs only [go_sem, e1, e26, e27, e28, Nat.reduceEqDiff]; exact rfl) ⟨hsub' _, by omega, by rw [firstOf_take_succ hz hce, g9]⟩ (by omega)
            · simp -implicitDefEqProofs (disch := omega) only [go_sem, tys, regs0, Nat.reduceEqDiff, Nat.reduceAdd, Nat.reduceLeDiff, Nat.reduceLT, Nat.reduceMul, e1, e26, e27, e28, puA12, sOut_eq, puA14, sWhen_eq, Go.IntWalk.i64_in, g2]
              refine gd_intro (fun g3 => ?_) (fun g3 => ?_)
              · simp -implicitDefEqProofs (disch := omega) only [go_sem, tys, regs0, Nat.reduceEqDiff, Nat.reduceAdd, Nat.reduceLeDiff, Nat.reduceLT, Nat.reduceMul, e1, e26, e27, e28, puA12, sOut_eq, puA14, sWhen_eq, Go.IntWalk.i64_in, g3]
                refine gd_intro (fun g6 => ?_) (fun g6 => ?_)
                · simp -implicitDefEqProofs (disch := omega) only [go_sem, tys, regs0, Nat.reduceEqDiff, Nat.reduceAdd, Nat.reduceLeDiff, Nat.reduceLT, Nat.reduceMul, e1, e26, e27, e28, puA12, sOut_eq, puA14, sWhen_eq, Go.IntWalk.i64_in, g6]
                  simp only [decide_eq_true_eq, decide_eq_false_iff_not] at g1 g2 g3 g6
                  refine ACalls.pure_next _ (first_calls [_, _, _] .exact _ (by simp)) ?_
                  have hf := fin true (decide (c0 = c1)) true (by rw [out1 c1 _ g3, Bool.or_true]) rfl (by simp [out, g6])
                  simp only [if_true, decide_eq_true_eq, Bool.false_eq_true, if_false] at hf
                  simp -implicitDefEqProofs (disch := omega) only [go_sem, tys, regs0, Nat.reduceEqDiff, Nat.reduceAdd, Nat.reduceLeDiff, Nat.reduceLT, Nat.reduceMul, e1, e26, e27, e28, puA12, sOut_eq, puA14, sWhen_eq, Go.IntWalk.i64_in, hf]
                  refine cnd_intro (fun g9 => ?_) (fun g9 => ?_)
                  · simp -implicitDefEqProofs (disch := omega) only [go_sem, tys, regs0, Nat.reduceEqDiff, Nat.reduceAdd, Nat.reduceLeDiff, Nat.reduceLT, Nat.reduceMul, e1, e26, e27, e28, puA12, sOut_eq, puA14, sWhen_eq, Go.IntWalk.i64_in, hf]
                    simp only [decide_eq_true_eq] at g9
                    exact Done.drop (hsub' _) ⟨by rw [hc, firstOf_at hz hce g9], rfl⟩
                  · simp -implicitDefEqProofs (disch := omega) only [go_sem, tys, regs0, Nat.reduceEqDiff, Nat.reduceAdd, Nat.reduceLeDiff, Nat.reduceLT, Nat.reduceMul, e1, e26, e27, e28, puA12, sOut_eq, puA14, sWhen_eq, Go.IntWalk.i64_in, hf]
                    simp only [decide_eq_false_iff_not, Decidable.not_not] at g9
                    exact Again.mk (i + 1) (by simp -implicitDefEqProofs only [go_sem, e1, e26, e27, e28, Nat.reduceEqDiff]; exact rfl) ⟨hsub' _, by omega, by rw [firstOf_take_succ hz hce, g9]⟩ (by omega)
                · simp -implicitDefEqProofs (disch := omega) only [go_sem, tys, regs0, Nat.reduceEqDiff, Nat.reduceAdd, Nat.reduceLeDiff, Nat.reduceLT, Nat.reduceMul, e1, e26, e27, e28, puA12, sOut_eq, puA14, sWhen_eq, Go.IntWalk.i64_in, g6]
                  simp only [decide_eq_true_eq, decide_eq_false_iff_not] at g1 g2 g3 g6
                  refine ACalls.pure_next _ (first_calls [_, _, _] .exact _ (by simp)) ?_
                  have hf := fin true (decide (c0 = c1)) (decide (1000000000 < c2)) (by rw [out1 c1 _ g3, Bool.or_true]) rfl (by simp [out, g6])
                  simp only [if_true, decide_eq_true_eq, Bool.false_eq_true, if_false] at hf
                  simp -implicitDefEqProofs (disch := omega) only [go_sem, tys, regs0, Nat.reduceEqDiff, Nat.reduceAdd, Nat.reduceLeDiff, Nat.reduceLT, Nat.reduceMul, e1, e26, e27, e28, puA12, sOut_eq, puA14, sWhen_eq, Go.IntWalk.i64_in, hf]
                  refine cnd_intro (fun g9 => ?_) (fun g9 => ?_)
                  · simp -implicitDefEqProofs (disch := omega) only [go_sem, tys, regs0, Nat.reduceEqDiff, Nat.reduceAdd, Nat.reduceLeDiff, Nat.reduceLT, Nat.reduceMul, e1, e26, e27, e28, puA12, sOut_eq, puA14, sWhen_eq, Go.IntWalk.i64_in, hf]
                    simp only [decide_eq_true_eq] at g9
                    exact Done.drop (hsub' _) ⟨by rw [hc, firstOf_at hz hce g9], rfl⟩
                  · simp -implicitDefEqProofs (disch := omega) only [go_sem, tys, regs0, Nat.reduceEqDiff, Nat.reduceAdd, Nat.reduceLeDiff, Nat.reduceLT, Nat.reduceMul, e1, e26, e27, e28, puA12, sOut_eq, puA14, sWhen_eq, Go.IntWalk.i64_in, hf]
                    simp only [decide_eq_false_iff_not, Decidable.not_not] at g9
                    exact Again.mk (i + 1) (by simp -implicitDefEqProofs only [go_sem, e1, e26, e27, e28, Nat.reduceEqDiff]; exact rfl) ⟨hsub' _, by omega, by rw [firstOf_take_succ hz hce, g9]⟩ (by omega)
              · simp -implicitDefEqProofs (disch := omega) only [go_sem, tys, regs0, Nat.reduceEqDiff, Nat.reduceAdd, Nat.reduceLeDiff, Nat.reduceLT, Nat.reduceMul, e1, e26, e27, e28, puA12, sOut_eq, puA14, sWhen_eq, Go.IntWalk.i64_in, g3]
                refine gd_intro (fun g6 => ?_) (fun g6 => ?_)
                · simp -implicitDefEqProofs (disch := omega) only [go_sem, tys, regs0, Nat.reduceEqDiff, Nat.reduceAdd, Nat.reduceLeDiff, Nat.reduceLT, Nat.reduceMul, e1, e26, e27, e28, puA12, sOut_eq, puA14, sWhen_eq, Go.IntWalk.i64_in, g6]
                  simp only [decide_eq_true_eq, decide_eq_false_iff_not] at g1 g2 g3 g6
                  refine ACalls.pure_next _ (first_calls [_, _, _] .exact _ (by simp)) ?_
                  have hf := fin (decide ((sizes.length : Int) ≤ c1)) (decide (c0 = c1)) true (by rw [out3 c0 _ g1, out3 c1 _ g3, decide_eq_false g2, Bool.false_or]) rfl (by simp [out, g6])
                  simp only [if_true, decide_eq_true_eq, Bool.false_eq_true, if_false] at hf
                  simp -implicitDefEqProofs (disch := omega) only [go_sem, tys, regs0, Nat.reduceEqDiff, Nat.reduceAdd, Nat.reduceLeDiff, Nat.reduceLT, Nat.reduceMul, e1, e26, e27, e28, puA12, sOut_eq, puA14, sWhen_eq, Go.IntWalk.i64_in, hf]
                  refine cnd_intro (fun g9 => ?_) (fun g9 => ?_)
                  · simp -implicitDefEqProofs (disch := omega) only [go_sem, tys, regs0, Nat.reduceEqDiff, Nat.reduceAdd, Nat.reduceLeDiff, Nat.reduceLT, Nat.reduceMul, e1, e26, e27, e28, puA12, sOut_eq, puA14, sWhen_eq, Go.IntWalk.i64_in, hf]
                    simp only [decide_eq_true_eq] at g9
                    exact Done.drop (hsub' _) ⟨by rw [hc, firstOf_at hz hce g9], rfl⟩
                  · simp -implicitDefEqProofs (disch := omega) only [go_sem, tys, regs0, Nat.reduceEqDiff, Nat.reduceAdd, Nat.reduceLeDiff, Nat.reduceLT, Nat.reduceMul, e1, e26, e27, e28, puA12, sOut_eq, puA14, sWhen_eq, Go.IntWalk.i64_in, hf]
                    simp only [decide_eq_false_iff_not, Decidable.not_not] at g9
                    exact Again.mk (i + 1) (by simp -implicitDefEqProofs only [go_sem, e1, e26, e27, e28, Nat.reduceEqDiff]; exact rfl) ⟨hsub' _, by omega, by rw [firstOf_take_succ hz hce, g9]⟩ (by omega)
                · simp -implicitDefEqProofs (disch := omega) only [go_sem, tys, regs0, Nat.reduceEqDiff, Nat.reduceAdd, Nat.reduceLeDiff, Nat.reduceLT, Nat.reduceMul, e1, e26, e27, e28, puA12, sOut_eq, puA14, sWhen_eq, Go.IntWalk.i64_in, g6]
                  simp only [decide_eq_true_eq, decide_eq_false_iff_not] at g1 g2 g3 g6
                  refine ACalls.pure_next _ (first_calls [_, _, _] .exact _ (by simp)) ?_
                  have hf := fin (decide ((sizes.length : Int) ≤ c1)) (decide (c0 = c1)) (decide (1000000000 < c2)) (by rw [out3 c0 _ g1, out3 c1 _ g3, decide_eq_false g2, Bool.false_or]) rfl (by simp [out, g6])
                  simp only [if_true, decide_eq_true_eq, Bool.false_eq_true, if_false] at hf
                  simp -implicitDefEqProofs (disch := omega) only [go_sem, tys, regs0, Nat.reduceEqDiff, Nat.reduceAdd, Nat.reduceLeDiff, Nat.reduceLT, Nat.reduceMul, e1, e26, e27, e28, puA12, sOut_eq, puA14, sWhen_eq, Go.IntWalk.i64_in, hf]
                  refine cnd_intro (fun g9 => ?_) (fun g9 => ?_)
                  · simp -implicitDefEqProofs (disch := omega) only [go_sem, tys, regs0, Nat.reduceEqDiff, Nat.reduceAdd, Nat.reduceLeDiff, Nat.reduceLT, Nat.reduceMul, e1, e26, e27, e28, puA12, sOut_eq, puA14, sWhen_eq, Go.IntWalk.i64_in, hf]
                    simp only [decide_eq_true_eq] at g9
                    exact Done.drop (hsub' _) ⟨by rw [hc, firstOf_at hz hce g9], rfl⟩
                  · simp -implicitDefEqProofs (disch := omega) only [go_sem, tys, regs0, Nat.reduceEqDiff, Nat.reduceAdd, Nat.reduceLeDiff, Nat.reduceLT, Nat.reduceMul, e1, e26, e27, e28, puA12, sOut_eq, puA14, sWhen_eq, Go.IntWalk.i64_in, hf]
                    simp only [decide_eq_false_iff_not, Decidable.not_not] at g9
                    exact Again.mk (i + 1) (by simp -implicitDefEqProofs only [go_sem, e1, e26, e27, e28, Nat.reduceEqDiff]; exact rfl) ⟨hsub' _, by omega, by rw [firstOf_take_succ hz hce, g9]⟩ (by omega)
        · simp only [decide_eq_false_iff_not] at h
          have e : i = l.length := by omega
          subst e
          rw [List.take_of_length_le (by simp)] at hz
          simp -implicitDefEqProofs only [go_sem, tys, regs0, Nat.reduceEqDiff, e1, e26, e27, e28]
          exact Done.drop hsub ⟨by rw [hc, hz], rfl⟩
end Go.Proofs
