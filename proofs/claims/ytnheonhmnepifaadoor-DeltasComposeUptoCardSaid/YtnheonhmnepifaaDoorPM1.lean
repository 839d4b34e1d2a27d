/- Plain laws: the reference makes a delta. -/
import Derived.Test.YtnheonhmnepifaaDoorPR1
namespace Go.Proofs
open Go Go.Abs
set_option linter.unusedSimpArgs false
set_option linter.unusedVariables false
def zD : AObj := .cells [.int .i64 0, .int .i64 0, .str [], .str [], .sl [] .exact]
def nD (a b : Int) (u v : Bytes) (out : List PieceV) (tl : Tail) : AObj := .cells [.int .i64 a, .int .i64 b, .str u, .str v, .sl (out.map encPc) tl]
/-- How long two texts are alike. -/
def lcp : Bytes → Bytes → Nat
  | x :: xs, y :: ys => if x = y then lcp xs ys + 1 else 0
  | _, _ => 0
theorem lcp_nil_right (x : Bytes) : lcp x [] = 0 := by cases x <;> rfl
theorem lcp_le : ∀ x y : Bytes, lcp x y ≤ x.length ∧ lcp x y ≤ y.length
  | [], _ => by simp [lcp]
  | _ :: _, [] => by simp [lcp]
  | x :: xs, y :: ys => by
    have := lcp_le xs ys
    simp only [lcp]
    split <;> simp <;> omega
/-- The longest part of 'a' at the beginning of 'w', among the first places. -/
def bestM (a w : Bytes) : Nat → Nat × Nat
  | 0 => (0, 0)
  | k + 1 => if (bestM a w k).2 < lcp (a.drop k) w then (k, lcp (a.drop k) w) else bestM a w k
theorem bestM_ok (a w : Bytes) : ∀ k, (bestM a w k).1 + (bestM a w k).2 ≤ a.length ∧ (bestM a w k).2 ≤ w.length
  | 0 => by simp [bestM]
  | k + 1 => by
    have h := bestM_ok a w k
    have h2 := lcp_le (a.drop k) w
    rw [List.length_drop] at h2
    rw [bestM]
    split
    · simp only; omega
    · exact h
def fl (data : Bytes) : List PieceV := if data ≠ [] then [⟨0, 0, data⟩] else []
def mkR (a : Bytes) : Nat → Bytes → Bytes → List PieceV
  | 0, _, data => fl data
  | _ + 1, [], data => fl data
  | f + 1, c :: w, data => if (bestM a (c :: w) a.length).2 < 8 then mkR a f w (data ++ [c]) else fl data ++ ⟨(bestM a (c :: w) a.length).1, (bestM a (c :: w) a.length).2, []⟩ :: mkR a f ((c :: w).drop (bestM a (c :: w) a.length).2) []
theorem fl_ok {a : Bytes} {data : Bytes} (hd : data.length ≤ 4194304) : (∀ p ∈ fl data, pcR p ∧ pcE a.length p = 0) ∧ pcSum (fl data) = data.length := by
  unfold fl
  by_cases h : data = []
  · rw [if_neg (by simpa using h), h]; simp [pcSum]
  · rw [if_pos h]
    refine ⟨fun p hp => ?_, by simp [pcSum, pcSize, h]⟩
    rw [List.mem_singleton] at hp
    subst hp
    exact ⟨⟨by simp [inI], by simp [inI], hd⟩, by simp [pcE, h]⟩
theorem pcSum_append (x y : List PieceV) : pcSum (x ++ y) = pcSum x + pcSum y := by simp [pcSum]
theorem mkR_ok {a : Bytes} (ha : a.length ≤ 65536) : ∀ (f : Nat) (w data : Bytes), w.length ≤ f → data.length + w.length ≤ 65536 → (∀ p ∈ mkR a f w data, pcR p ∧ pcE a.length p = 0) ∧ pcSum (mkR a f w data) = data.length + w.length := by
  intro f
  induction f with
  | zero =>
    intro w data h1 h2
    obtain rfl : w = [] := List.eq_nil_of_length_eq_zero (by omega)
    have := fl_ok (a := a) (data := data) (by omega)
    exact ⟨this.1, by rw [mkR, this.2]; simp⟩
  | succ f ih =>
    intro w data h1 h2
    cases w with
    | nil =>
      have := fl_ok (a := a) (data := data) (by omega)
      exact ⟨this.1, by rw [mkR, this.2]; simp⟩
    | cons c w =>
      simp only [List.length_cons] at h1 h2
      rw [mkR]
      split
      · have := ih w (data ++ [c]) (by omega) (by simp; omega)
        refine ⟨this.1, ?_⟩
        rw [this.2]
        simp only [List.length_append, List.length_cons, List.length_nil]
        omega
      · rename_i h8
        have hb := bestM_ok a (c :: w) a.length
        generalize bestM a (c :: w) a.length = m at *
        simp only [List.length_cons] at hb
        have h3 := ih ((c :: w).drop m.2) [] (by rw [List.length_drop, List.length_cons]; omega) (by rw [List.length_drop, List.length_cons, List.length_nil]; omega)
        have h4 := fl_ok (a := a) (data := data) (by omega)
        refine ⟨fun p hp => ?_, ?_⟩
        · rcases List.mem_append.1 hp with h | h
          · exact h4.1 p h
          · rcases List.mem_cons.1 h with h | h
            · subst h
              refine ⟨⟨⟨by simp only; omega, by simp only; omega⟩, ⟨by simp only; omega, by simp only; omega⟩, by simp⟩, ?_⟩
              unfold pcE
              rw [if_neg (by simp), if_neg]
              simp only
              omega
            · exact h3.1 p h
        · have e : pcSum (⟨m.1, m.2, []⟩ :: mkR a f ((c :: w).drop m.2) []) = m.2 + pcSum (mkR a f ((c :: w).drop m.2) []) := by simp [pcSum, pcSize]
          rw [pcSum_append, h4.2, e, h3.2, List.length_drop]
          simp only [List.length_cons, List.length_nil]
          omega
theorem fst0_zero : ∀ (l : List Int), (∀ x ∈ l, x = 0) → fst0 l = 0
  | [], _ => rfl
  | x :: l, h => by
    rw [fst0, if_pos (h x (List.mem_cons_self ..))]
    exact fst0_zero l fun y hy => h y (List.mem_cons_of_mem _ hy)
/-- What the reference makes. -/
def makeV (a b : Bytes) : DeltaV × Int :=
  if 65536 < a.length ∨ 65536 < b.length then (DeltaV.zero, 4) else if (5000 : Int) < (mkR a b.length b []).length then (DeltaV.zero, 4) else
  (⟨a.length, b.length, sumOf a, sumOf b, mkR a b.length b []⟩, 0)
theorem makeV_ok {a b : Bytes} (h : (makeV a b).2 = 0) : dlR (makeV a b).1 ∧ deltaE (makeV a b).1 = 0 := by
  unfold makeV at h ⊢
  split at h
  · cases h
  · rename_i h1
    rw [if_neg h1]
    split at h
    · cases h
    · rename_i h2
      rw [if_neg h2]
      have hm := mkR_ok (a := a) (by omega) b.length b [] (Nat.le_refl _) (by simp; omega)
      have hs : ∀ x : Bytes, (sumOf x).length ≤ 1099511627776 := fun x => by rw [sumOf_len]; omega
      refine ⟨⟨⟨by simp only; omega, by simp only; omega⟩, ⟨by simp only; omega, by simp only; omega⟩, hs _, hs _, by simp only; omega, fun p hp => (hm.1 p hp).1⟩, ?_⟩
      have hst : stepsV (mkR a b.length b []) a.length = ((b.length : Int), 0) := by
        unfold stepsV
        have hf : fst0 ((mkR a b.length b []).map (pcE a.length)) = 0 := fst0_zero _ (by
          intro x hx
          obtain ⟨p, hp, rfl⟩ := List.mem_map.1 hx
          exact (hm.1 p hp).2)
        have hsum := hm.2
        simp only [List.length_nil] at hsum
        rw [if_neg (by omega), if_neg h2, hf, if_neg (by simp), hsum, if_neg (by omega)]
        simp
      unfold deltaE
      simp only [hst, sumOf_form]
      rw [if_neg (by omega)]
      simp
end Go.Proofs
