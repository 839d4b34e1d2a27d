import Derived.Test.YtnheonhmnepifaaW1
import Derived.Test.YtnheonhmnepifaaAbs4

namespace Go.Proofs
open Go Go.Abs
set_option linter.unusedSimpArgs false

abbrev Way := Int × Int × Int
def encWay (w : Way) : List AV := [.int .i64 w.1, .int .i64 w.2.1, .int .i64 w.2.2]
def encI (n : Int) : List AV := [.int .i64 n]
def out (n a b : Int) : Bool := decide (n < a ∨ b < n)
def wayErr (k : Int) (w : Way) : Int := if out w.1 0 (k - 1) || out w.2.1 0 (k - 1) then 10 else if w.1 = w.2.1 then 2 else if out w.2.2 0 1000000000 then 3 else 0
def firstOf : List Int → Int
  | [] => 0
  | e :: l => if e = 0 then firstOf l else e
def sizeErr (n : Int) : Int := if out n 0 1000000000 then 3 else 0
def checkWays (l : List Way) (sizes : List Int) : Int :=
  if (1000 < l.length ∨ 200 < sizes.length) then 4 else if firstOf (sizes.map sizeErr) ≠ 0 then 3 else firstOf (l.map (wayErr sizes.length))

theorem puA12 : puA 12 = some sOut := rfl
theorem puA14 : puA 14 = some sWhen := rfl
theorem firstOf_drop {l : List Int} {i : Nat} (h : firstOf (l.take i) = 0) : firstOf l = firstOf (l.drop i) := by
  induction l generalizing i with
  | nil => simp
  | cons e l ih =>
    cases i with
    | zero => rfl
    | succ i =>
      simp only [List.take_succ_cons, firstOf] at h
      split at h
      · rename_i he; simp only [firstOf, he, if_true, List.drop_succ_cons]; exact ih h
      · exact absurd h ‹_›
theorem firstOf_take_succ {l : List Int} {i : Nat} {e : Int} (h : firstOf (l.take i) = 0) (he : l[i]? = some e) : firstOf (l.take (i + 1)) = e := by
  induction l generalizing i with
  | nil => simp at he
  | cons d l ih =>
    cases i with
    | zero => simp at he; subst he; simp only [List.take_succ_cons, firstOf]; split <;> simp_all [firstOf]
    | succ i =>
      simp only [List.take_succ_cons, firstOf] at h ⊢
      split at h
      · rename_i hd; simp only [hd, if_true]; exact ih h (by simpa using he)
      · exact absurd h ‹_›
theorem firstOf_at {l : List Int} {i : Nat} {e : Int} (h : firstOf (l.take i) = 0) (he : l[i]? = some e) (hne : e ≠ 0) : firstOf l = e := by
  rw [firstOf_drop h]
  have : l.drop i = e :: l.drop (i + 1) := by
    obtain ⟨hi, rfl⟩ := List.getElem?_eq_some_iff.1 he
    exact List.drop_eq_getElem_cons hi
  rw [this]
  simp [firstOf, hne]

theorem checkWays_calls (l : List Way) (sizes : List Int) (t1 t2 : Tail) (H : Heap) (hl : l.length ≤ 9223372036854775807) (hs : sizes.length ≤ 9223372036854775807) :
    ACalls Try.prog 6 [.sl (l.map encWay) t1, .sl (sizes.map encI) t2] H fun x H' => x = .int .i64 (checkWays l sizes) ∧ H' = H := by
  refine ACalls.of_code (X := { pure := puA }) puA_ok Try.func6 (by kernel_rfl) rfl (by kernel_rfl) (Nat.le_of_ble_eq_true rfl) ?_
  simp -implicitDefEqProofs only [go_sem, tys, regs0, Try.f6, Nat.reduceEqDiff, puA12, sOut_eq]
  refine gd_intro (fun h1 => ?_) (fun h1 => ?_)
  · simp -implicitDefEqProofs only [go_sem, tys, regs0, Nat.reduceEqDiff, puA12, sOut_eq, h1]
    refine Done.now ⟨?_, rfl⟩
    simp only [decide_eq_true_eq] at h1
    rw [checkWays, if_pos (by omega)]
  simp -implicitDefEqProofs only [go_sem, tys, regs0, Nat.reduceEqDiff, puA12, sOut_eq, h1]
  refine cnd_intro (fun h2 => ?_) (fun h2 => ?_)
  · simp -implicitDefEqProofs only [go_sem, tys, regs0, Nat.reduceEqDiff, puA12, sOut_eq, h1]
    refine Done.now ⟨?_, rfl⟩
    simp only [decide_eq_true_eq] at h2
    rw [checkWays, if_pos (by omega)]
  simp only [decide_eq_true_eq, decide_eq_false_iff_not] at h1 h2
  simp -implicitDefEqProofs only [go_sem, tys, regs0, Nat.reduceEqDiff, puA12, sOut_eq]
  have hc : checkWays l sizes = if firstOf (sizes.map sizeErr) ≠ 0 then 3 else firstOf (l.map (wayErr sizes.length)) := by rw [checkWays, if_neg (by omega)]
  refine aloop_intro (σ := Nat) (fun i => [(0, .sl (l.map encWay) t1), (1, .sl (sizes.map encI) t2), (17, .sl (sizes.map encI) t2), (18, .int .i64 sizes.length), (19, .int .i64 i)]) (fun i G => G = H ∧ i ≤ sizes.length ∧ firstOf ((sizes.map sizeErr).take i) = 0) (fun i => sizes.length - i) 0 ?_ ?_ ?_
  · simp -implicitDefEqProofs only [go_sem, tys, regs0, Nat.reduceEqDiff]
    simp
  · simp [firstOf]
  · rintro i r G ⟨e0, e1, e17, e18, e19, -⟩ ⟨rfl, hi, hz⟩
    simp -implicitDefEqProofs only [go_sem, tys, regs0, Nat.reduceEqDiff, e0, e1, e17, e18, e19]
    refine cnd_intro (fun h => ?_) (fun h => ?_)
    · simp only [decide_eq_true_eq] at h
      obtain ⟨c, hc'⟩ : ∃ c, sizes[i]? = some c := ⟨sizes[i]'(by omega), List.getElem?_eq_getElem _⟩
      have hce : (sizes.map sizeErr)[i]? = some (sizeErr c) := by simp [hc']
      simp -implicitDefEqProofs only [go_sem, tys, regs0, Nat.reduceEqDiff, e0, e1, e17, e18, e19, hc', encI, puA12, sOut_eq]
      refine cnd_intro (fun ho => ?_) (fun ho => ?_)
      · simp -implicitDefEqProofs only [go_sem, tys, regs0, Nat.reduceEqDiff, e0, e1, e17, e18, e19]
        refine Done.now ⟨?_, rfl⟩
        have : sizeErr c = 3 := by simp only [sizeErr, out, ho, if_true]
        rw [hc, firstOf_at hz hce (by rw [this]; decide), this]
        rfl
      · simp -implicitDefEqProofs (disch := omega) only [go_sem, tys, regs0, Nat.reduceEqDiff, e0, e1, e17, e18, e19, Go.IntWalk.i64_in]
        refine Again.mk (i + 1) (by simp -implicitDefEqProofs only [go_sem, e0, e1, e17, e18, e19, Nat.reduceEqDiff]; exact rfl) ⟨rfl, by omega, ?_⟩ (by omega)
        rw [firstOf_take_succ hz hce]
        simp only [sizeErr, out, ho]
        rfl
    · simp only [decide_eq_false_iff_not] at h
      have e : i = sizes.length := by omega
      subst e
      rw [List.take_of_length_le (by simp)] at hz
      rw [if_neg (by simp [hz])] at hc
      simp -implicitDefEqProofs only [go_sem, tys, regs0, Nat.reduceEqDiff, e0, e1, e17, e18, e19]
      refine aloop_intro (σ := Nat) (fun i => [(1, .sl (sizes.map encI) t2), (26, .sl (l.map encWay) t1), (27, .int .i64 l.length), (28, .int .i64 i)]) (fun i G' => G.Sub G' ∧ i ≤ l.length ∧ firstOf ((l.map (wayErr sizes.length)).take i) = 0) (fun i => l.length - i) 0 ?_ ?_ ?_
      · simp -implicitDefEqProofs only [go_sem, tys, regs0, Nat.reduceEqDiff, e1]
        simp
      · exact ⟨fun _ _ h => h, by simp, by simp [firstOf]⟩
      · clear e0 e1 e17 e18 e19
        rintro i r G' ⟨e1, e26, e27, e28, -⟩ ⟨hsub, hi, hz⟩
        simp -implicitDefEqProofs only [go_sem, tys, regs0, Nat.reduceEqDiff, e1, e26, e27, e28]
        refine cnd_intro (fun h => ?_) (fun h => ?_)
        · simp only [decide_eq_true_eq] at h
          obtain ⟨⟨c0, c1, c2⟩, hc'⟩ : ∃ c, l[i]? = some c := ⟨l[i]'(by omega), List.getElem?_eq_getElem _⟩
          have hce : (l.map (wayErr sizes.length))[i]? = some (wayErr sizes.length (c0, c1, c2)) := by simp [hc']
          simp -implicitDefEqProofs only [go_sem, tys, regs0, Nat.reduceEqDiff, Nat.reduceAdd, Nat.reduceLeDiff, e1, e26, e27, e28, hc', encWay, puA12, sOut_eq]
          refine nwC_intro fun id hid => ?_
          have hsub' := fun o => hsub.put hid o
          simp -implicitDefEqProofs (disch := omega) only [go_sem, tys, regs0, Nat.reduceEqDiff, Nat.reduceAdd, Nat.reduceLeDiff, e1, e26, e27, e28, puA12, sOut_eq, Go.IntWalk.i64_in]
          refine gd_intro (fun g1 => ?_) (fun g1 => ?_)
          · simp -implicitDefEqProofs (disch := omega) only [go_sem, tys, regs0, Nat.reduceEqDiff, Nat.reduceAdd, Nat.reduceLeDiff, e1, e26, e27, e28, puA12, sOut_eq, Go.IntWalk.i64_in, g1]
            refine Done.drop (hsub' _) ⟨?_, rfl⟩
            have : wayErr sizes.length (c0, c1, c2) = 10 := by simp only [wayErr, out, g1]; rfl
            rw [hc, firstOf_at hz hce (by rw [this]; decide), this]
          · simp -implicitDefEqProofs (disch := omega) only [go_sem, tys, regs0, Nat.reduceEqDiff, Nat.reduceAdd, Nat.reduceLeDiff, e1, e26, e27, e28, puA12, sOut_eq, Go.IntWalk.i64_in, g1]
            refine cnd_intro (fun g2 => ?_) (fun g2 => ?_)
            · simp -implicitDefEqProofs (disch := omega) only [go_sem, tys, regs0, Nat.reduceEqDiff, Nat.reduceAdd, Nat.reduceLeDiff, e1, e26, e27, e28, puA12, sOut_eq, Go.IntWalk.i64_in, g1]
              refine Done.drop (hsub' _) ⟨?_, rfl⟩
              have : wayErr sizes.length (c0, c1, c2) = 10 := by simp only [wayErr, out, g1, g2]; rfl
              rw [hc, firstOf_at hz hce (by rw [this]; decide), this]
            · simp -implicitDefEqProofs (disch := omega) only [go_sem, tys, regs0, Nat.reduceEqDiff, Nat.reduceAdd, Nat.reduceLeDiff, e1, e26, e27, e28, puA12, sOut_eq, Go.IntWalk.i64_in, g1]
              refine cnd_intro (fun g3 => ?_) (fun g3 => ?_)
              · simp -implicitDefEqProofs (disch := omega) only [go_sem, tys, regs0, Nat.reduceEqDiff, Nat.reduceAdd, Nat.reduceLeDiff, e1, e26, e27, e28, puA12, sOut_eq, Go.IntWalk.i64_in, g1]
                refine Done.drop (hsub' _) ⟨?_, rfl⟩
                simp only [decide_eq_true_eq] at g3
                have : wayErr sizes.length (c0, c1, c2) = 2 := by simp only [wayErr, out, g1, g2, g3]; simp
                rw [hc, firstOf_at hz hce (by rw [this]; decide), this]
              · simp -implicitDefEqProofs (disch := omega) only [go_sem, tys, regs0, Nat.reduceEqDiff, Nat.reduceAdd, Nat.reduceLeDiff, e1, e26, e27, e28, puA12, sOut_eq, Go.IntWalk.i64_in, g1]
                simp only [decide_eq_false_iff_not] at g3
                refine cnd_intro (fun g4 => ?_) (fun g4 => ?_)
                · simp -implicitDefEqProofs (disch := omega) only [go_sem, tys, regs0, Nat.reduceEqDiff, Nat.reduceAdd, Nat.reduceLeDiff, e1, e26, e27, e28, puA12, sOut_eq, Go.IntWalk.i64_in, g1]
                  refine Done.drop (hsub' _) ⟨?_, rfl⟩
                  have : wayErr sizes.length (c0, c1, c2) = 3 := by simp only [wayErr, out, g1, g2, g3, g4]; simp
                  rw [hc, firstOf_at hz hce (by rw [this]; decide), this]
                · simp -implicitDefEqProofs (disch := omega) only [go_sem, tys, regs0, Nat.reduceEqDiff, Nat.reduceAdd, Nat.reduceLeDiff, e1, e26, e27, e28, puA12, sOut_eq, Go.IntWalk.i64_in, g1]
                  refine Again.mk (i + 1) (by simp -implicitDefEqProofs only [go_sem, e1, e26, e27, e28, Nat.reduceEqDiff]; exact rfl) ⟨hsub' _, by omega, ?_⟩ (by omega)
                  rw [firstOf_take_succ hz hce]
                  simp only [wayErr, out, g1, g2, g3, g4]
                  simp
        · simp only [decide_eq_false_iff_not] at h
          have e : i = l.length := by omega
          subst e
          rw [List.take_of_length_le (by simp)] at hz
          simp -implicitDefEqProofs only [go_sem, tys, regs0, Nat.reduceEqDiff, e1, e26, e27, e28]
          exact Done.drop hsub ⟨by rw [hc, hz], rfl⟩
end Go.Proofs
