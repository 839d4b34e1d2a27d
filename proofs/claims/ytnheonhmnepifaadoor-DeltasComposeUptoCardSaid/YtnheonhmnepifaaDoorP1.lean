/- What strings are cut into; signs and names: plain Lean, no program. -/
import Derived.Lib.Bytealg
namespace Go.Proofs
set_option linter.unusedSimpArgs false
set_option linter.unusedVariables false
abbrev Bytes := List UInt8
def splitB (c : UInt8) : Bytes → List Bytes
  | [] => [[]]
  | b :: l => if b = c then [] :: splitB c l else
    match splitB c l with
    | h :: t => (b :: h) :: t
    | [] => [[b]]
theorem splitB_ne (c : UInt8) (l : Bytes) : splitB c l ≠ [] := by
  cases l with
  | nil => simp [splitB]
  | cons b l =>
    unfold splitB
    split
    · simp
    · split <;> simp
theorem splitB_none {c : UInt8} : ∀ {l : Bytes}, l.count c = 0 → splitB c l = [l]
  | [], _ => rfl
  | b :: l, h => by
    rw [List.count_cons] at h
    have hb : ¬ b = c := by intro e; subst e; simp at h
    have hl : l.count c = 0 := by omega
    unfold splitB
    rw [if_neg hb, splitB_none hl]
theorem indexByte_none {c : UInt8} : ∀ {l : Bytes}, Lib.indexByte l c = -1 ↔ l.count c = 0
  | [] => by simp [Lib.indexByte]
  | b :: l => by
    have ih := indexByte_none (c := c) (l := l)
    have hge := Lib.indexByte_ge l c
    unfold Lib.indexByte
    rw [List.count_cons]
    by_cases hb : (b == c) = true
    · rw [if_pos hb, if_pos hb]; omega
    · rw [if_neg hb, if_neg hb]
      by_cases h2 : Lib.indexByte l c = -1
      · simp [h2, ih.1 h2]
      · have : ¬ l.count c = 0 := fun e => h2 (ih.2 e)
        have hb2 : (Lib.indexByte l c == -1) = false := by simpa using h2
        rw [hb2]
        simp only [Bool.false_eq_true, if_false]
        omega
theorem indexByte_some {c : UInt8} : ∀ {l : Bytes} {m : Nat}, Lib.indexByte l c = (m : Int) → m < l.length ∧ splitB c l = l.take m :: splitB c (l.drop (m + 1)) ∧ l.count c = (l.drop (m + 1)).count c + 1
  | [], m, h => by simp [Lib.indexByte] at h
  | b :: l, m, h => by
    unfold Lib.indexByte at h
    by_cases hb : (b == c) = true
    · rw [if_pos hb] at h
      have : m = 0 := by omega
      subst this
      have hb' : b = c := by simpa using hb
      subst hb'
      refine ⟨by simp, by simp [splitB], by simp⟩
    · rw [if_neg hb] at h
      have hge := Lib.indexByte_ge l c
      by_cases h2 : Lib.indexByte l c = -1
      · rw [h2] at h; simp at h
      · have hb2 : (Lib.indexByte l c == -1) = false := by simpa using h2
        rw [hb2] at h
        simp only [Bool.false_eq_true, if_false] at h
        obtain ⟨k, rfl⟩ : ∃ k, m = k + 1 := ⟨m - 1, by omega⟩
        obtain ⟨i1, i2, i3⟩ := indexByte_some (c := c) (l := l) (m := k) (by omega)
        have hb' : ¬ b = c := by simpa using hb
        refine ⟨by simp; omega, ?_, ?_⟩
        · rw [splitB, if_neg hb', i2]; simp
        · rw [List.count_cons, if_neg hb, i3]; simp
theorem splitB_len {c : UInt8} : ∀ (l : Bytes), (splitB c l).length = l.count c + 1
  | [] => by simp [splitB]
  | b :: l => by
    have ih := splitB_len (c := c) l
    unfold splitB
    rw [List.count_cons]
    by_cases hb : b = c
    · simp [hb, ih]
    · simp only [hb, if_false, beq_iff_eq]
      cases hs : splitB c l with
      | nil => exact absurd hs (splitB_ne c l)
      | cons h t => rw [hs] at ih; simpa using ih
/-- Each part of a text is no longer than it. -/
theorem splitB_mem {c : UInt8} : ∀ (l : Bytes), ∀ p ∈ splitB c l, p.length ≤ l.length
  | [], p, h => by simp [splitB] at h; simp [h]
  | b :: l, p, h => by
    have ih := splitB_mem (c := c) l
    unfold splitB at h
    split at h
    · rcases List.mem_cons.1 h with rfl | h
      · simp
      · have := ih p h; simp; omega
    · split at h
      · rename_i hd t hs
        rw [hs] at ih
        rcases List.mem_cons.1 h with rfl | h
        · have := ih hd (by simp); simp; omega
        · have := ih p (by simp [h]); simp; omega
      · rename_i hs; exact absurd hs (splitB_ne c l)
end Go.Proofs
