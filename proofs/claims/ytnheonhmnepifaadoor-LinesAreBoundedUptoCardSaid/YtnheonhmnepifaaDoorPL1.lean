/- Plain laws: the longest common lists of lines, the pairs that are told. -/
namespace Go.Proofs
set_option linter.unusedSimpArgs false
set_option linter.unusedVariables false
section
variable {α β : Type} [DecidableEq α] [DecidableEq β]
/-- How many pairs of equal elements there are at most. -/
def lcs : List α → List α → Nat
  | [], _ => 0
  | _ :: _, [] => 0
  | a :: x, b :: y => if a = b then max (max (lcs x (b :: y)) (lcs (a :: x) y)) (1 + lcs x y) else max (lcs x (b :: y)) (lcs (a :: x) y)
termination_by x y => x.length + y.length
theorem lcs_nil (y : List α) : lcs [] y = 0 := by rw [lcs]
theorem lcs_nil' (x : List α) : lcs x [] = 0 := by cases x <;> rw [lcs]
theorem lcs_cons (a b : α) (x y : List α) : lcs (a :: x) (b :: y) = if a = b then max (max (lcs x (b :: y)) (lcs (a :: x) y)) (1 + lcs x y) else max (lcs x (b :: y)) (lcs (a :: x) y) := by rw [lcs]
theorem lcs_le (x y : List α) : lcs x y ≤ x.length ∧ lcs x y ≤ y.length := by
  induction x generalizing y with
  | nil => simp [lcs_nil]
  | cons a x ih =>
    induction y with
    | nil => simp [lcs_nil']
    | cons b y ih2 =>
      have h1 := ih (b :: y)
      have h2 := ih y
      rw [lcs_cons]
      simp only [List.length_cons] at *
      split <;> omega
theorem lcs_mono1 (a : α) (x y : List α) : lcs x y ≤ lcs (a :: x) y := by
  cases y with
  | nil => simp [lcs_nil']
  | cons b y => rw [lcs_cons]; split <;> omega
theorem lcs_mono2 (b : α) (x y : List α) : lcs x y ≤ lcs x (b :: y) := by
  cases x with
  | nil => simp [lcs_nil]
  | cons a x => rw [lcs_cons]; split <;> omega
theorem lcs_step (x y : List α) : (∀ a, lcs (a :: x) y ≤ 1 + lcs x y) ∧ (∀ b, lcs x (b :: y) ≤ 1 + lcs x y) := by
  induction hn : x.length + y.length using Nat.strongRecOn generalizing x y with
  | _ n ih =>
    constructor
    · intro a
      cases y with
      | nil => simp [lcs_nil']
      | cons b y =>
        have h1 := (ih (x.length + y.length) (by simp at hn; omega) x y rfl).1 a
        have h2 := lcs_mono2 b x y
        rw [lcs_cons]
        split <;> omega
    · intro b
      cases x with
      | nil => simp [lcs_nil]
      | cons a x =>
        have h1 := (ih (x.length + y.length) (by simp at hn; omega) x y rfl).2 b
        have h2 := lcs_mono1 a x y
        rw [lcs_cons]
        split <;> omega
/-- The first place of an element. -/
def idx (a : α) : List α → Option Nat
  | [] => none
  | b :: y => if b = a then some 0 else (idx a y).map (· + 1)
theorem idx_some {a : α} : ∀ {y : List α} {n : Nat}, idx a y = some n → y[n]? = some a ∧ ∀ j, j < n → y[j]? ≠ some a
  | [], n, h => by simp [idx] at h
  | b :: y, n, h => by
    unfold idx at h
    split at h
    · rename_i e; cases h; subst e; exact ⟨rfl, by intro j hj; omega⟩
    · rename_i e
      rw [Option.map_eq_some_iff] at h
      obtain ⟨m, hm, rfl⟩ := h
      obtain ⟨h1, h2⟩ := idx_some hm
      refine ⟨by simpa using h1, ?_⟩
      intro j hj
      cases j with
      | zero => simpa using e
      | succ j => simpa using h2 j (by omega)
theorem idx_none {a : α} : ∀ {y : List α}, idx a y = none → ∀ j : Nat, y[j]? ≠ some a
  | [], h, j => by simp
  | b :: y, h, j => by
    unfold idx at h
    split at h
    · cases h
    · rename_i e
      rw [Option.map_eq_none_iff] at h
      cases j with
      | zero => simpa using e
      | succ j => simpa using idx_none h j
theorem idx_eq {a : α} : ∀ {y : List α} {n : Nat}, y[n]? = some a → (∀ j, j < n → y[j]? ≠ some a) → idx a y = some n
  | [], n, h, _ => by simp at h
  | b :: y, n, h, h2 => by
    unfold idx
    cases n with
    | zero => simp at h; rw [if_pos h]
    | succ n =>
      have : ¬ b = a := fun e => h2 0 (by omega) (by simp [e])
      rw [if_neg this, idx_eq (n := n) (by simpa using h) (fun j hj => by simpa using h2 (j + 1) (by omega))]
      rfl
theorem idx_eq_none {a : α} : ∀ {y : List α}, (∀ j, j < y.length → y[j]? ≠ some a) → idx a y = none
  | [], _ => rfl
  | b :: y, h => by
    unfold idx
    have : ¬ b = a := fun e => h 0 (by simp) (by simp [e])
    rw [if_neg this, idx_eq_none (fun j hj => by simpa using h (j + 1) (by simp; omega))]
    rfl
theorem lcs_idx (a : α) (x : List α) : ∀ (y : List α), lcs (a :: x) y = match idx a y with
    | none => lcs x y
    | some n => max (lcs x y) (1 + lcs x (y.drop (n + 1)))
  | [] => by simp [idx, lcs_nil']
  | b :: y => by
    have ih := lcs_idx a x y
    have h1 := (lcs_step x y).1 a
    have h2 := lcs_mono2 b x y
    rw [lcs_cons, idx]
    by_cases e : a = b
    · rw [if_pos e, if_pos e.symm]
      simp only [Nat.zero_add, List.drop_succ_cons, List.drop_zero]
      omega
    · rw [if_neg e, if_neg (fun h => e h.symm)]
      cases hi : idx a y with
      | none => rw [hi] at ih; simp only [Option.map_none] at ih ⊢; omega
      | some n =>
        have h3 := lcs_mono2 b x y
        rw [hi] at ih; simp only [Option.map_some, List.drop_succ_cons] at ih ⊢
        have key : ∀ p q r s : Nat, q = max r s → r ≤ p → max p q = max p s := fun p q r s => by omega
        exact key _ _ _ _ ih h3
/-- The pairs: 'i' and 'k' are the places of what is left. -/
def prs (i k : Nat) : List α → List α → List (Nat × Nat)
  | [], _ => []
  | a :: x, y => match idx a y with
    | none => prs (i + 1) k x y
    | some n => if 1 + lcs x (y.drop (n + 1)) = lcs (a :: x) y then (i, k + n) :: prs (i + 1) (k + n + 1) x (y.drop (n + 1)) else prs (i + 1) k x y
theorem prs_none {i k : Nat} {a : α} {x y : List α} (h : idx a y = none) : prs i k (a :: x) y = prs (i + 1) k x y := by rw [prs, h]
theorem prs_take {i k n : Nat} {a : α} {x y : List α} (h : idx a y = some n) (h2 : 1 + lcs x (y.drop (n + 1)) = lcs (a :: x) y) : prs i k (a :: x) y = (i, k + n) :: prs (i + 1) (k + n + 1) x (y.drop (n + 1)) := by
  rw [prs, h]; simp only [if_pos h2]
theorem prs_skip {i k n : Nat} {a : α} {x y : List α} (h : idx a y = some n) (h2 : ¬ 1 + lcs x (y.drop (n + 1)) = lcs (a :: x) y) : prs i k (a :: x) y = prs (i + 1) k x y := by
  rw [prs, h]; simp only [if_neg h2]
theorem lcs_none {a : α} {x y : List α} (h : idx a y = none) : lcs (a :: x) y = lcs x y := by rw [lcs_idx, h]
theorem lcs_skip {n : Nat} {a : α} {x y : List α} (h : idx a y = some n) (h2 : ¬ 1 + lcs x (y.drop (n + 1)) = lcs (a :: x) y) : lcs (a :: x) y = lcs x y := by
  have := lcs_idx a x y
  rw [h] at this
  simp only at this
  omega
theorem lcs_ge {n : Nat} {a : α} {x y : List α} (h : idx a y = some n) : 1 + lcs x (y.drop (n + 1)) ≤ lcs (a :: x) y := by
  have := lcs_idx a x y
  rw [h] at this
  simp only at this
  omega
/-- Nothing is left to be paired. -/
theorem prs_zero : ∀ (x : List α) (i k : Nat) (y : List α), lcs x y = 0 → prs i k x y = []
  | [], i, k, y, h => rfl
  | a :: x, i, k, y, h => by
    cases hi : idx a y with
    | none => rw [prs_none hi]; exact prs_zero x _ _ _ (by rw [lcs_none hi] at h; exact h)
    | some n => have := lcs_ge (x := x) hi; omega
theorem prs_len : ∀ (x : List α) (i k : Nat) (y : List α), (prs i k x y).length = lcs x y
  | [], i, k, y => by simp [prs, lcs_nil]
  | a :: x, i, k, y => by
    cases hi : idx a y with
    | none => rw [prs_none hi, lcs_none hi]; exact prs_len x _ _ _
    | some n =>
      by_cases h : 1 + lcs x (y.drop (n + 1)) = lcs (a :: x) y
      · rw [prs_take hi h, List.length_cons, prs_len x, ← h]; omega
      · rw [prs_skip hi h, lcs_skip hi h]; exact prs_len x _ _ _
/-- Pairs that rise. -/
def Rise : Nat → Nat → Nat → Nat → List (Nat × Nat) → Prop
  | _, _, _, _, [] => True
  | i, k, n, m, p :: l => i ≤ p.1 ∧ p.1 < n ∧ k ≤ p.2 ∧ p.2 < m ∧ Rise (p.1 + 1) (p.2 + 1) n m l
theorem Rise.mono : ∀ {l : List (Nat × Nat)} {i k i' k' n m : Nat}, i' ≤ i → k' ≤ k → Rise i k n m l → Rise i' k' n m l
  | [], _, _, _, _, _, _, _, _, _ => trivial
  | p :: l, i, k, i', k', n, m, h1, h2, h => ⟨by have := h.1; omega, h.2.1, by have := h.2.2.1; omega, h.2.2.2.1, h.2.2.2.2⟩
theorem idx_lt {a : α} {y : List α} {n : Nat} (h : idx a y = some n) : n < y.length := (List.getElem?_eq_some_iff.1 (idx_some h).1).1
theorem prs_rise : ∀ (x : List α) (i k : Nat) (y : List α), Rise i k (i + x.length) (k + y.length) (prs i k x y)
  | [], i, k, y => trivial
  | a :: x, i, k, y => by
    have h0 := prs_rise x (i + 1) k y
    have e : i + 1 + x.length = i + (a :: x).length := by simp only [List.length_cons]; omega
    cases hi : idx a y with
    | none => rw [prs_none hi, ← e]; exact h0.mono (by omega) (by omega)
    | some n =>
      by_cases h : 1 + lcs x (y.drop (n + 1)) = lcs (a :: x) y
      · have hn := idx_lt hi
        have h3 := prs_rise x (i + 1) (k + n + 1) (y.drop (n + 1))
        have e2 : k + n + 1 + (y.drop (n + 1)).length = k + y.length := by rw [List.length_drop]; omega
        rw [prs_take hi h, ← e, ← e2]
        exact ⟨by omega, by simp; omega, by omega, by simp only; rw [e2]; omega, h3⟩
      · rw [prs_skip hi h, ← e]; exact h0.mono (by omega) (by omega)
/-- Elements by other names. -/
theorem idx_map {f : α → β} {a : α} : ∀ {y : List α}, (∀ b ∈ y, f b = f a → b = a) → idx (f a) (y.map f) = idx a y
  | [], _ => rfl
  | b :: y, h => by
    rw [List.map_cons, idx, idx, idx_map fun c hc => h c (List.mem_cons_of_mem _ hc)]
    by_cases e : b = a
    · rw [if_pos e, if_pos (by rw [e])]
    · rw [if_neg e, if_neg (fun e2 => e (h b (List.mem_cons_self ..) e2))]
theorem lcs_map {f : α → β} : ∀ {x : List α} {y : List α}, (∀ a ∈ x, ∀ b ∈ y, f b = f a → b = a) → lcs (x.map f) (y.map f) = lcs x y
  | [], y, _ => by simp [lcs_nil]
  | a :: x, y, h => by
    have hx : ∀ y', (∀ b ∈ y', b ∈ y) → lcs (x.map f) (y'.map f) = lcs x y' := fun y' hy => lcs_map fun c hc b hb => h c (List.mem_cons_of_mem _ hc) b (hy b hb)
    rw [List.map_cons, lcs_idx, lcs_idx, idx_map (h a (List.mem_cons_self ..))]
    cases idx a y with
    | none => exact hx y fun _ hb => hb
    | some n =>
      simp only [← List.map_drop]
      rw [hx y fun _ hb => hb, hx _ fun b hb => List.mem_of_mem_drop hb]
theorem prs_map {f : α → β} : ∀ {x : List α} {i k : Nat} {y : List α}, (∀ a ∈ x, ∀ b ∈ y, f b = f a → b = a) → prs i k (x.map f) (y.map f) = prs i k x y
  | [], i, k, y, _ => rfl
  | a :: x, i, k, y, h => by
    have hx : ∀ i k y', (∀ b ∈ y', b ∈ y) → prs i k (x.map f) (y'.map f) = prs i k x y' := fun i k y' hy => prs_map fun c hc b hb => h c (List.mem_cons_of_mem _ hc) b (hy b hb)
    have hm := lcs_map h
    rw [List.map_cons] at hm
    rw [List.map_cons, prs, prs, idx_map (h a (List.mem_cons_self ..)), hm]
    cases idx a y with
    | none => exact hx _ _ y fun _ hb => hb
    | some n =>
      simp only [← List.map_drop]
      rw [lcs_map fun c hc b hb => h c (List.mem_cons_of_mem _ hc) b (List.mem_of_mem_drop hb), hx _ _ y fun _ hb => hb, hx _ _ _ fun b hb => List.mem_of_mem_drop hb]
/-- A text beside itself. -/
theorem lcs_self : ∀ x : List α, lcs x x = x.length
  | [] => by simp [lcs_nil]
  | a :: x => by
    have h1 := lcs_self x
    have h2 := (lcs_le (a :: x) (a :: x)).1
    have h3 : 1 + lcs x x ≤ lcs (a :: x) (a :: x) := by rw [lcs_cons, if_pos rfl]; omega
    simp only [List.length_cons] at *
    omega
theorem prs_self : ∀ (x : List α) (i : Nat), prs i i x x = (List.range x.length).map fun j => (i + j, i + j)
  | [], i => rfl
  | a :: x, i => by
    have h0 : idx a (a :: x) = some 0 := by simp [idx]
    have h1 : 1 + lcs x ((a :: x).drop (0 + 1)) = lcs (a :: x) (a :: x) := by
      rw [lcs_self]; simp [lcs_self]; omega
    rw [prs_take h0 h1, List.length_cons, List.range_succ_eq_map, List.map_cons, List.map_map]
    simp only [Nat.add_zero, Nat.zero_add, List.drop_succ_cons, List.drop_zero]
    rw [prs_self x (i + 1)]
    congr 1
    apply List.map_congr_left
    intro j _
    simp only [Function.comp_apply, Prod.mk.injEq]
    omega
/-- What is paired is equal. -/
theorem prs_same : ∀ (x : List α) (i k : Nat) (y : List α), ∀ p ∈ prs i k x y, ∃ a, i ≤ p.1 ∧ k ≤ p.2 ∧ x[p.1 - i]? = some a ∧ y[p.2 - k]? = some a
  | [], i, k, y, p, h => by simp [prs] at h
  | a :: x, i, k, y, p, h => by
    have skip : p ∈ prs (i + 1) k x y → ∃ a', i ≤ p.1 ∧ k ≤ p.2 ∧ (a :: x)[p.1 - i]? = some a' ∧ y[p.2 - k]? = some a' := fun h => by
      obtain ⟨c, h1, h2, h3, h4⟩ := prs_same x _ _ _ p h
      refine ⟨c, by omega, by omega, ?_, h4⟩
      have : p.1 - i = (p.1 - (i + 1)) + 1 := by omega
      rw [this, List.getElem?_cons_succ]; exact h3
    cases hi : idx a y with
    | none => rw [prs_none hi] at h; exact skip h
    | some n =>
      by_cases hc : 1 + lcs x (y.drop (n + 1)) = lcs (a :: x) y
      · rw [prs_take hi hc] at h
        rcases List.mem_cons.1 h with rfl | h
        · refine ⟨a, by simp, by simp, by simp, ?_⟩
          simp only
          rw [Nat.add_sub_cancel_left]
          exact (idx_some hi).1
        · obtain ⟨c, h1, h2, h3, h4⟩ := prs_same x _ _ _ p h
          refine ⟨c, by omega, by omega, ?_, ?_⟩
          · have : p.1 - i = (p.1 - (i + 1)) + 1 := by omega
            rw [this, List.getElem?_cons_succ]; exact h3
          · rw [List.getElem?_drop] at h4
            have : p.2 - k = n + 1 + (p.2 - (k + n + 1)) := by omega
            rw [this]; exact h4
      · rw [prs_skip hi hc] at h; exact skip h
end
end Go.Proofs
