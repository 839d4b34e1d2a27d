/- Plain laws: lines of a text; what two sides have made is put together. -/
import Derived.Test.YtnheonhmnepifaaDoorPL1
import Derived.Test.YtnheonhmnepifaaDoorP1
namespace Go.Proofs
set_option linter.unusedSimpArgs false
set_option linter.unusedVariables false
/-- A text cut behind each sign of a kind. -/
def splitA (c : UInt8) : Bytes → List Bytes
  | [] => [[]]
  | b :: l => if b = c then [b] :: splitA c l else
    match splitA c l with
    | h :: t => (b :: h) :: t
    | [] => [[b]]
theorem splitA_ne (c : UInt8) (l : Bytes) : splitA c l ≠ [] := by
  cases l with
  | nil => simp [splitA]
  | cons b l =>
    unfold splitA
    split
    · simp
    · split <;> simp
theorem splitA_none {c : UInt8} : ∀ {l : Bytes}, l.count c = 0 → splitA c l = [l]
  | [], _ => rfl
  | b :: l, h => by
    rw [List.count_cons] at h
    have hb : ¬ b = c := by intro e; subst e; simp at h
    have hl : l.count c = 0 := by omega
    unfold splitA
    rw [if_neg hb, splitA_none hl]
theorem splitA_some {c : UInt8} : ∀ {l : Bytes} {m : Nat}, Lib.indexByte l c = (m : Int) → m < l.length ∧ splitA c l = l.take (m + 1) :: splitA c (l.drop (m + 1)) ∧ l.count c = (l.drop (m + 1)).count c + 1
  | [], m, h => by simp [Lib.indexByte] at h
  | b :: l, m, h => by
    have hfull := indexByte_some h
    refine ⟨hfull.1, ?_, hfull.2.2⟩
    unfold Lib.indexByte at h
    by_cases hb : (b == c) = true
    · rw [if_pos hb] at h
      have : m = 0 := by omega
      subst this
      have hb' : b = c := by simpa using hb
      subst hb'
      simp [splitA]
    · rw [if_neg hb] at h
      have hge := Lib.indexByte_ge l c
      by_cases h2 : Lib.indexByte l c = -1
      · rw [h2] at h; simp at h
      · have hb2 : (Lib.indexByte l c == -1) = false := by simpa using h2
        rw [hb2] at h
        simp only [Bool.false_eq_true, if_false] at h
        obtain ⟨k, rfl⟩ : ∃ k, m = k + 1 := ⟨m - 1, by omega⟩
        obtain ⟨i1, i2, i3⟩ := splitA_some (c := c) (l := l) (m := k) (by omega)
        have hb' : ¬ b = c := by simpa using hb
        rw [splitA, if_neg hb', i2]; simp
theorem splitA_len {c : UInt8} : ∀ (l : Bytes), (splitA c l).length = l.count c + 1
  | [] => by simp [splitA]
  | b :: l => by
    have ih := splitA_len (c := c) l
    unfold splitA
    rw [List.count_cons]
    by_cases hb : b = c
    · simp [hb, ih]
    · simp only [hb, if_false, beq_iff_eq]
      cases hs : splitA c l with
      | nil => exact absurd hs (splitA_ne c l)
      | cons h t => rw [hs] at ih; simpa using ih
theorem splitA_flat {c : UInt8} : ∀ (l : Bytes), (splitA c l).flatten = l
  | [] => by simp [splitA]
  | b :: l => by
    have ih := splitA_flat (c := c) l
    unfold splitA
    by_cases hb : b = c
    · simp [hb, ih]
    · simp only [hb, if_false]
      cases hs : splitA c l with
      | nil => exact absurd hs (splitA_ne c l)
      | cons h t => rw [hs] at ih; simpa using ih
/-- The lines of a text, with their line feeds. -/
def linesV (s : Bytes) : List Bytes := if (splitA 10 s).getLast? = some [] then (splitA 10 s).dropLast else splitA 10 s
theorem linesV_flat (s : Bytes) : (linesV s).flatten = s := by
  unfold linesV
  split
  · rename_i h
    have h2 := splitA_flat (c := 10) s
    obtain ⟨l, hl⟩ : ∃ l, splitA 10 s = l ++ [[]] := List.getLast?_eq_some_iff.1 h
    rw [hl] at h2 ⊢
    rw [List.dropLast_concat]
    simpa using h2
  · exact splitA_flat s
theorem linesV_len (s : Bytes) : (linesV s).length ≤ s.length + 1 := by
  have h1 := splitA_len (c := 10) s
  have h2 : s.count 10 ≤ s.length := List.count_le_length
  unfold linesV
  split
  · rw [List.length_dropLast]; omega
  · omega
/-- What is wrong with two texts. -/
def linesE (a b : Bytes) : Int := if 65536 < a.length ∨ 1000 < (linesV a).length ∨ 65536 < b.length ∨ 1000 < (linesV b).length then 4 else 0
theorem linesE_ok {a b : Bytes} (h : linesE a b = 0) : a.length ≤ 65536 ∧ (linesV a).length ≤ 1000 ∧ b.length ≤ 65536 ∧ (linesV b).length ≤ 1000 := by
  unfold linesE at h
  split at h
  · cases h
  · omega
def pairsV (a b : Bytes) : List (Nat × Nat) := prs 0 0 (linesV a) (linesV b)
/-! ### Merging -/
def endedV (s : Bytes) : Bytes := if s ≠ [] ∧ ¬ s.getLast? = some 10 then s ++ [10] else s
theorem endedV_len (s : Bytes) : (endedV s).length ≤ s.length + 1 := by
  unfold endedV; split <;> simp
def mark1 : Bytes := [60, 60, 60, 60, 60, 60, 60, 10]
def mark2 : Bytes := [61, 61, 61, 61, 61, 61, 61, 10]
def mark3 : Bytes := [62, 62, 62, 62, 62, 62, 62, 10]
def clashV (a b : Bytes) : Bytes := mark1 ++ endedV a ++ mark2 ++ endedV b ++ mark3
def settleV (base a b : Bytes) : Bytes × Bool := if a = base then (b, false) else if b = base ∨ a = b then (a, false) else (clashV a b, true)
theorem settleV_len (base a b : Bytes) : (settleV base a b).1.length ≤ a.length + b.length + 26 := by
  have h1 := endedV_len a
  have h2 := endedV_len b
  unfold settleV
  split
  · simp; omega
  · split
    · simp; omega
    · simp only [clashV, mark1, mark2, mark3, List.length_append, List.length_cons, List.length_nil]; omega
structure MS where
  i : Nat
  k : Nat
  m : Nat
  out : Bytes
  n : Nat
def partT (l : List Bytes) (lo hi : Nat) : Bytes := ((l.take hi).drop lo).flatten
def partV (x y z : List Bytes) (s : MS) (i k m : Nat) : MS :=
  ⟨s.i, s.k, s.m, s.out ++ (settleV (partT x s.i i) (partT y s.k k) (partT z s.m m)).1, s.n + if (settleV (partT x s.i i) (partT y s.k k) (partT z s.m m)).2 then 1 else 0⟩
def stepV (x y z : List Bytes) (s : MS) (t : Nat × Nat × Nat) : MS :=
  ⟨t.1 + 1, t.2.1 + 1, t.2.2 + 1, (partV x y z s t.1 t.2.1 t.2.2).out ++ x.getD t.1 [], (partV x y z s t.1 t.2.1 t.2.2).n⟩
def lk (n : Nat) : List (Nat × Nat) → Option Nat
  | [] => none
  | p :: l => if p.1 = n then some p.2 else lk n l
def tripF (pa pb : List (Nat × Nat)) (n : Nat) : Option (Nat × Nat × Nat) := (lk n pa).bind fun j => (lk n pb).map fun k => (n, j, k)
def tripG (pb : List (Nat × Nat)) (p : Nat × Nat) : Option (Nat × Nat × Nat) := (lk p.1 pb).map fun k => (p.1, p.2, k)
def ms0 : MS := ⟨0, 0, 0, [], 0⟩
/-- As the program goes: line by line; as the reference goes: pair by pair. -/
def mergeP (x y z : List Bytes) (pa pb : List (Nat × Nat)) (n : Nat) : MS := ((List.range n).filterMap (tripF pa pb)).foldl (stepV x y z) ms0
def mergeR (x y z : List Bytes) (pa pb : List (Nat × Nat)) (n : Nat) : MS := ((pa.take n).filterMap (tripG pb)).foldl (stepV x y z) ms0
theorem lk_lt {n i k N M : Nat} : ∀ {l : List (Nat × Nat)}, Rise i k N M l → n < i → lk n l = none
  | [], _, _ => rfl
  | p :: l, h, hn => by
    rw [lk, if_neg (by have := h.1; omega)]
    exact lk_lt h.2.2.2.2 (by have := h.1; omega)
theorem lk_some {n N M : Nat} : ∀ {l : List (Nat × Nat)} {j : Nat} {i k : Nat}, Rise i k N M l → lk n l = some j → i ≤ n ∧ n < N ∧ k ≤ j ∧ j < M ∧ (n, j) ∈ l
  | [], j, i, k, _, h => by cases h
  | p :: l, j, i, k, h, h2 => by
    unfold lk at h2
    split at h2
    · rename_i e
      cases h2
      subst e
      exact ⟨h.1, h.2.1, h.2.2.1, h.2.2.2.1, List.mem_cons_self ..⟩
    · obtain ⟨h3, h4, h5, h6, h7⟩ := lk_some h.2.2.2.2 h2
      exact ⟨by have := h.1; omega, h4, by have := h.2.2.1; omega, h6, List.mem_cons_of_mem _ h7⟩
theorem lk_rise {N M : Nat} : ∀ {l : List (Nat × Nat)} {i k n j n' j' : Nat}, Rise i k N M l → lk n l = some j → lk n' l = some j' → n < n' → j < j'
  | [], i, k, n, j, n', j', _, h, _, _ => by cases h
  | p :: l, i, k, n, j, n', j', h, h2, h3, hn => by
    unfold lk at h2 h3
    split at h2
    · rename_i e
      cases h2
      split at h3
      · omega
      · have := lk_some h.2.2.2.2 h3; omega
    · split at h3
      · rename_i e1 e2
        have := lk_some h.2.2.2.2 h2
        omega
      · exact lk_rise h.2.2.2.2 h2 h3 hn
theorem fm_congr {α β : Type} {f g : α → Option β} : ∀ {l : List α}, (∀ x ∈ l, f x = g x) → l.filterMap f = l.filterMap g
  | [], _ => rfl
  | a :: l, h => by
    rw [List.filterMap_cons, List.filterMap_cons, h a (List.mem_cons_self ..), fm_congr fun x hx => h x (List.mem_cons_of_mem _ hx)]
theorem trip_eq {N M : Nat} (pb : List (Nat × Nat)) : ∀ (pa : List (Nat × Nat)) (i k : Nat), Rise i k N M pa → (List.range' i (N - i)).filterMap (tripF pa pb) = pa.filterMap (tripG pb)
  | [], i, k, _ => by
    rw [List.filterMap_nil, List.filterMap_eq_nil_iff]
    intro n _; rfl
  | p :: l, i, k, h => by
    have h1 := h.1
    have h2 := h.2.1
    have e : List.range' i (N - i) = List.range' i (p.1 - i) ++ (p.1 :: List.range' (p.1 + 1) (N - (p.1 + 1))) := by
      have e1 : N - i = (p.1 - i) + (N - p.1) := by omega
      have e2 : N - p.1 = (N - (p.1 + 1)) + 1 := by omega
      rw [e1, ← List.range'_append, e2, List.range'_succ]
      have e3 : i + 1 * (p.1 - i) = p.1 := by omega
      rw [e3]
    have a1 : (List.range' i (p.1 - i)).filterMap (tripF (p :: l) pb) = [] := by
      rw [List.filterMap_eq_nil_iff]
      intro n hn
      rw [List.mem_range'_1] at hn
      rw [tripF, lk, if_neg (by omega), lk_lt h.2.2.2.2 (by omega)]
      rfl
    have a2 : tripF (p :: l) pb p.1 = tripG pb p := by
      rw [tripF, lk, if_pos rfl]; rfl
    have a3 : (List.range' (p.1 + 1) (N - (p.1 + 1))).filterMap (tripF (p :: l) pb) = (List.range' (p.1 + 1) (N - (p.1 + 1))).filterMap (tripF l pb) := by
      apply fm_congr
      intro n hn
      rw [List.mem_range'_1] at hn
      rw [tripF, lk, if_neg (by omega)]
      rfl
    rw [e, List.filterMap_append, a1, List.nil_append, List.filterMap_cons, List.filterMap_cons, a2, a3, trip_eq pb l _ _ h.2.2.2.2]
theorem merge_eq {N M : Nat} {x y z : List Bytes} {pa pb : List (Nat × Nat)} (h : Rise 0 0 N M pa) : mergeP x y z pa pb N = mergeR x y z pa pb pa.length := by
  unfold mergeP mergeR
  have := trip_eq pb pa 0 0 h
  rw [Nat.sub_zero, ← List.range_eq_range'] at this
  rw [this, List.take_length]
theorem mergeP_succ (x y z : List Bytes) (pa pb : List (Nat × Nat)) (n : Nat) : mergeP x y z pa pb (n + 1) = match tripF pa pb n with
    | none => mergeP x y z pa pb n
    | some t => stepV x y z (mergeP x y z pa pb n) t := by
  unfold mergeP
  rw [List.range_succ, List.filterMap_append, List.foldl_append, List.filterMap_cons, List.filterMap_nil]
  cases tripF pa pb n <;> rfl
theorem mergeR_succ {x y z : List Bytes} {pa pb : List (Nat × Nat)} {n : Nat} {p : Nat × Nat} (h : pa[n]? = some p) : mergeR x y z pa pb (n + 1) = match tripG pb p with
    | none => mergeR x y z pa pb n
    | some t => stepV x y z (mergeR x y z pa pb n) t := by
  unfold mergeR
  rw [List.take_add_one, h, List.filterMap_append, List.foldl_append]
  simp only [Option.toList_some, List.filterMap_cons, List.filterMap_nil]
  cases tripG pb p <;> rfl
/-- The whole. -/
def mergeD (base a b : Bytes) : MS := partV (linesV base) (linesV a) (linesV b) (mergeR (linesV base) (linesV a) (linesV b) (pairsV base a) (pairsV base b) (pairsV base a).length) (linesV base).length (linesV a).length (linesV b).length
def mergeV (base a b : Bytes) : Bytes × Int × Int := if ¬ linesE base a = 0 then ([], 0, linesE base a) else if ¬ linesE base b = 0 then ([], 0, linesE base b) else
  if 65536 < (mergeD base a b).out.length then ([], 0, 4) else ((mergeD base a b).out, (mergeD base a b).n, 0)
theorem pairs_rise (a b : Bytes) : Rise 0 0 (linesV a).length (linesV b).length (pairsV a b) := by
  have := prs_rise (linesV a) 0 0 (linesV b)
  rwa [Nat.zero_add, Nat.zero_add] at this
theorem pairs_same {a b : Bytes} {n j : Nat} (h : lk n (pairsV a b) = some j) : n < (linesV a).length ∧ j < (linesV b).length ∧ (linesV a)[n]? = (linesV b)[j]? := by
  obtain ⟨_, h1, _, h2, h3⟩ := lk_some (n := n) (pairs_rise a b) h
  obtain ⟨c, _, _, h4, h5⟩ := prs_same _ _ _ _ _ h3
  simp only [Nat.sub_zero] at h4 h5
  exact ⟨h1, h2, by rw [h4, h5]⟩
/-- What holds while lines are gone through: 'n' is the next one. -/
def MOk (y z : List Bytes) (pa pb : List (Nat × Nat)) (n : Nat) (s : MS) : Prop :=
  s.i ≤ n ∧ s.k ≤ y.length ∧ s.m ≤ z.length ∧ (∀ n' j, n ≤ n' → lk n' pa = some j → s.k ≤ j) ∧ (∀ n' j, n ≤ n' → lk n' pb = some j → s.m ≤ j)
theorem mok_zero (y z : List Bytes) (pa pb : List (Nat × Nat)) : MOk y z pa pb 0 ms0 := ⟨Nat.le_refl _, Nat.zero_le _, Nat.zero_le _, fun _ _ _ _ => Nat.zero_le _, fun _ _ _ _ => Nat.zero_le _⟩
theorem MOk.skip {y z : List Bytes} {pa pb : List (Nat × Nat)} {n : Nat} {s : MS} (h : MOk y z pa pb n s) : MOk y z pa pb (n + 1) s :=
  ⟨by have := h.1; omega, h.2.1, h.2.2.1, fun n' j hn hj => h.2.2.2.1 n' j (by omega) hj, fun n' j hn hj => h.2.2.2.2 n' j (by omega) hj⟩
theorem MOk.to {y z : List Bytes} {pa pb : List (Nat × Nat)} {n n' : Nat} {s : MS} (h : MOk y z pa pb n s) (hn : n ≤ n') : MOk y z pa pb n' s :=
  ⟨by have := h.1; omega, h.2.1, h.2.2.1, fun n2 j h2 hj => h.2.2.2.1 n2 j (by omega) hj, fun n2 j h2 hj => h.2.2.2.2 n2 j (by omega) hj⟩
theorem MOk.step {N M M' : Nat} {x y z : List Bytes} {pa pb : List (Nat × Nat)} {n j k : Nat} {s : MS} (ha : Rise 0 0 N y.length pa) (hb : Rise 0 0 N z.length pb) (h1 : lk n pa = some j) (h2 : lk n pb = some k) : MOk y z pa pb (n + 1) (stepV x y z s (n, j, k)) := by
  obtain ⟨_, _, _, h3, _⟩ := lk_some ha h1
  obtain ⟨_, _, _, h4, _⟩ := lk_some hb h2
  refine ⟨Nat.le_refl _, h3, h4, fun n' j' hn hj => ?_, fun n' j' hn hj => ?_⟩
  · exact lk_rise ha h1 hj (by omega)
  · exact lk_rise hb h2 hj (by omega)
theorem partT_le (l : List Bytes) (lo hi : Nat) : (partT l lo hi).length ≤ l.flatten.length := by
  unfold partT
  have h1 : l.flatten = (l.take hi).flatten ++ (l.drop hi).flatten := by rw [← List.flatten_append, List.take_append_drop]
  have h2 : (l.take hi).flatten = ((l.take hi).take lo).flatten ++ ((l.take hi).drop lo).flatten := by rw [← List.flatten_append, List.take_append_drop]
  rw [h1, h2]
  simp only [List.length_append]
  omega
theorem partV_len (x y z : List Bytes) (s : MS) (i k m : Nat) : (partV x y z s i k m).out.length ≤ s.out.length + y.flatten.length + z.flatten.length + 26 := by
  have h1 := settleV_len (partT x s.i i) (partT y s.k k) (partT z s.m m)
  have h2 := partT_le y s.k k
  have h3 := partT_le z s.m m
  simp only [partV, List.length_append]
  omega
theorem getD_le (l : List Bytes) (n : Nat) : (l.getD n []).length ≤ l.flatten.length := by
  cases h : l[n]? with
  | none => simp [List.getD, h]
  | some c =>
    have : c ∈ l := List.mem_of_getElem? h
    obtain ⟨l1, l2, rfl⟩ := List.append_of_mem this
    simp only [List.getD, h, Option.getD_some, List.flatten_append, List.flatten_cons, List.length_append]
    omega
theorem stepV_len (x y z : List Bytes) (s : MS) (t : Nat × Nat × Nat) : (stepV x y z s t).out.length ≤ s.out.length + (x.flatten.length + y.flatten.length + z.flatten.length + 26) := by
  have h1 := partV_len x y z s t.1 t.2.1 t.2.2
  have h2 := getD_le x t.1
  simp only [stepV, List.length_append]
  omega
theorem fold_len (x y z : List Bytes) : ∀ (ts : List (Nat × Nat × Nat)) (s : MS), (ts.foldl (stepV x y z) s).out.length ≤ s.out.length + ts.length * (x.flatten.length + y.flatten.length + z.flatten.length + 26)
  | [], s => by simp
  | t :: ts, s => by
    have h1 := fold_len x y z ts (stepV x y z s t)
    have h2 := stepV_len x y z s t
    rw [List.foldl_cons, List.length_cons, Nat.succ_mul]
    omega
theorem partV_n (x y z : List Bytes) (s : MS) (i k m : Nat) : (partV x y z s i k m).n ≤ s.n + 1 := by
  simp only [partV]; split <;> omega
theorem fold_n (x y z : List Bytes) : ∀ (ts : List (Nat × Nat × Nat)) (s : MS), (ts.foldl (stepV x y z) s).n ≤ s.n + ts.length
  | [], s => by simp
  | t :: ts, s => by
    have h1 := fold_n x y z ts (stepV x y z s t)
    have h2 : (stepV x y z s t).n ≤ s.n + 1 := partV_n x y z s t.1 t.2.1 t.2.2
    rw [List.foldl_cons, List.length_cons]
    omega
theorem mergeP_len (x y z : List Bytes) (pa pb : List (Nat × Nat)) (n : Nat) : (mergeP x y z pa pb n).out.length ≤ n * (x.flatten.length + y.flatten.length + z.flatten.length + 26) ∧ (mergeP x y z pa pb n).n ≤ n := by
  have h1 := fold_len x y z ((List.range n).filterMap (tripF pa pb)) ms0
  have h3 := fold_n x y z ((List.range n).filterMap (tripF pa pb)) ms0
  have h2 : ((List.range n).filterMap (tripF pa pb)).length ≤ n := by
    have := List.length_filterMap_le (tripF pa pb) (List.range n)
    rwa [List.length_range] at this
  have h4 := Nat.mul_le_mul_right (x.flatten.length + y.flatten.length + z.flatten.length + 26) h2
  have h5 : ms0.out.length = 0 := rfl
  have h6 : ms0.n = 0 := rfl
  unfold mergeP
  constructor <;> omega
theorem mergeR_len (x y z : List Bytes) (pa pb : List (Nat × Nat)) (n : Nat) : (mergeR x y z pa pb n).out.length ≤ n * (x.flatten.length + y.flatten.length + z.flatten.length + 26) ∧ (mergeR x y z pa pb n).n ≤ n := by
  have h1 := fold_len x y z ((pa.take n).filterMap (tripG pb)) ms0
  have h3 := fold_n x y z ((pa.take n).filterMap (tripG pb)) ms0
  have h2 : ((pa.take n).filterMap (tripG pb)).length ≤ n := by
    have := List.length_filterMap_le (tripG pb) (pa.take n)
    rw [List.length_take] at this
    omega
  have h4 := Nat.mul_le_mul_right (x.flatten.length + y.flatten.length + z.flatten.length + 26) h2
  have h5 : ms0.out.length = 0 := rfl
  have h6 : ms0.n = 0 := rfl
  unfold mergeR
  constructor <;> omega
/-! ### Without changes of one side it is the other side -/
theorem partT_all (l : List Bytes) (k : Nat) (h : k ≤ l.length) (lo : Nat) (hl : lo ≤ k) : (l.take lo).flatten ++ partT l lo k = (l.take k).flatten := by
  unfold partT
  rw [← List.flatten_append]
  congr 1
  have : l.take lo = (l.take k).take lo := by rw [List.take_take, Nat.min_eq_left hl]
  rw [this, List.take_append_drop]
theorem take_getD {l : List Bytes} {k : Nat} (h : k < l.length) : (l.take k).flatten ++ l.getD k [] = (l.take (k + 1)).flatten := by
  rw [List.take_add_one, List.getElem?_eq_getElem h, List.flatten_append]
  simp [List.getD, List.getElem?_eq_getElem h]
theorem getD_eq_of {l l' : List Bytes} {n j : Nat} (h : l[n]? = l'[j]?) : l.getD n [] = l'.getD j [] := by simp [List.getD, h]
theorem lk_self (x : Nat) (n : Nat) : ∀ (i : Nat), i ≤ n → n < i + x → lk n ((List.range x).map fun j => (i + j, i + j)) = some n := by
  induction x with
  | zero => intro i h1 h2; omega
  | succ x ih =>
    intro i h1 h2
    rw [List.range_succ_eq_map, List.map_cons, List.map_map, lk]
    by_cases e : i = n
    · rw [if_pos (by simpa using e), ← e]; simp
    · rw [if_neg (by simpa using e)]
      have h := ih (i + 1) (by omega) (by omega)
      rw [← h]
      congr 1
      apply List.map_congr_left
      intro j _
      simp only [Function.comp_apply, Prod.mk.injEq]
      omega
theorem pairs_self (s : Bytes) {n : Nat} (h : n < (linesV s).length) : lk n (pairsV s s) = some n := by
  unfold pairsV
  rw [prs_self]
  exact lk_self _ n 0 (Nat.zero_le _) (by omega)
theorem pairs_self' (s : Bytes) {n j : Nat} (h : lk n (pairsV s s) = some j) : j = n := by
  obtain ⟨_, h1, _⟩ := lk_some (n := n) (pairs_rise s s) h
  rw [pairs_self s h1] at h
  exact (Option.some.inj h).symm
theorem settle_left (x b : Bytes) : settleV x x b = (b, false) := by simp [settleV]
theorem settle_right (x a : Bytes) : settleV x a x = (a, false) := by
  unfold settleV
  by_cases h : a = x
  · simp [h]
  · rw [if_neg h, if_pos (.inl rfl)]
theorem merge_left (base b : Bytes) : ∀ n, n ≤ (linesV base).length → MOk (linesV base) (linesV b) (pairsV base base) (pairsV base b) n (mergeP (linesV base) (linesV base) (linesV b) (pairsV base base) (pairsV base b) n) ∧
    (mergeP (linesV base) (linesV base) (linesV b) (pairsV base base) (pairsV base b) n).i = (mergeP (linesV base) (linesV base) (linesV b) (pairsV base base) (pairsV base b) n).k ∧
    (mergeP (linesV base) (linesV base) (linesV b) (pairsV base base) (pairsV base b) n).out = ((linesV b).take (mergeP (linesV base) (linesV base) (linesV b) (pairsV base base) (pairsV base b) n).m).flatten ∧
    (mergeP (linesV base) (linesV base) (linesV b) (pairsV base base) (pairsV base b) n).n = 0
  | 0, _ => ⟨mok_zero _ _ _ _, rfl, rfl, rfl⟩
  | n + 1, hn => by
    obtain ⟨h1, h2, h3, h4⟩ := merge_left base b n (by omega)
    rw [mergeP_succ]
    generalize mergeP (linesV base) (linesV base) (linesV b) (pairsV base base) (pairsV base b) n = s at *
    have e1 := pairs_self base (n := n) (by omega)
    cases hb : lk n (pairsV base b) with
    | none =>
      have : tripF (pairsV base base) (pairsV base b) n = none := by rw [tripF, e1, hb]; rfl
      rw [this]
      exact ⟨h1.skip, h2, h3, h4⟩
    | some k =>
      have : tripF (pairsV base base) (pairsV base b) n = some (n, n, k) := by rw [tripF, e1, hb]; rfl
      rw [this]
      simp only
      obtain ⟨p1, p2, p3⟩ := pairs_same hb
      refine ⟨MOk.step (M := 0) (M' := 0) (pairs_rise _ _) (pairs_rise _ _) e1 hb, rfl, ?_, ?_⟩
      · simp only [stepV, partV, h2, settle_left, h3]
        rw [getD_eq_of p3, partT_all _ _ (by omega) _ (h1.2.2.2.2 n k (Nat.le_refl _) hb), take_getD p2]
      · simp [stepV, partV, h2, settle_left, h4]
theorem merge_right (base a : Bytes) : ∀ n, n ≤ (linesV base).length → MOk (linesV a) (linesV base) (pairsV base a) (pairsV base base) n (mergeP (linesV base) (linesV a) (linesV base) (pairsV base a) (pairsV base base) n) ∧
    (mergeP (linesV base) (linesV a) (linesV base) (pairsV base a) (pairsV base base) n).i = (mergeP (linesV base) (linesV a) (linesV base) (pairsV base a) (pairsV base base) n).m ∧
    (mergeP (linesV base) (linesV a) (linesV base) (pairsV base a) (pairsV base base) n).out = ((linesV a).take (mergeP (linesV base) (linesV a) (linesV base) (pairsV base a) (pairsV base base) n).k).flatten ∧
    (mergeP (linesV base) (linesV a) (linesV base) (pairsV base a) (pairsV base base) n).n = 0
  | 0, _ => ⟨mok_zero _ _ _ _, rfl, rfl, rfl⟩
  | n + 1, hn => by
    obtain ⟨h1, h2, h3, h4⟩ := merge_right base a n (by omega)
    rw [mergeP_succ]
    generalize mergeP (linesV base) (linesV a) (linesV base) (pairsV base a) (pairsV base base) n = s at *
    have e1 := pairs_self base (n := n) (by omega)
    cases hb : lk n (pairsV base a) with
    | none =>
      have : tripF (pairsV base a) (pairsV base base) n = none := by rw [tripF, hb]; rfl
      rw [this]
      exact ⟨h1.skip, h2, h3, h4⟩
    | some k =>
      have : tripF (pairsV base a) (pairsV base base) n = some (n, k, n) := by rw [tripF, e1, hb]; rfl
      rw [this]
      simp only
      obtain ⟨p1, p2, p3⟩ := pairs_same hb
      refine ⟨MOk.step (M := 0) (M' := 0) (pairs_rise _ _) (pairs_rise _ _) hb e1, rfl, ?_, ?_⟩
      · simp only [stepV, partV, h2, settle_right, h3]
        rw [getD_eq_of p3, partT_all _ _ (by omega) _ (h1.2.2.2.1 n k (Nat.le_refl _) hb), take_getD p2]
      · simp [stepV, partV, h2, settle_right, h4]
theorem mergeD_eq (base a b : Bytes) : mergeD base a b = partV (linesV base) (linesV a) (linesV b) (mergeP (linesV base) (linesV a) (linesV b) (pairsV base a) (pairsV base b) (linesV base).length) (linesV base).length (linesV a).length (linesV b).length := by
  unfold mergeD
  rw [merge_eq (pairs_rise base a)]
theorem mergeV_left {base b : Bytes} (h : linesE base b = 0) : mergeV base base b = (b, 0, 0) := by
  have hok := linesE_ok h
  have hbb : linesE base base = 0 := by unfold linesE; rw [if_neg (by omega)]
  obtain ⟨h1, h2, h3, h4⟩ := merge_left base b _ (Nat.le_refl _)
  have e : (mergeD base base b).out = b ∧ (mergeD base base b).n = 0 := by
    rw [mergeD_eq]
    generalize mergeP (linesV base) (linesV base) (linesV b) (pairsV base base) (pairsV base b) (linesV base).length = s at *
    unfold partV
    rw [h2, settle_left, h3, h4]
    simp only [Bool.false_eq_true, if_false]
    rw [partT_all _ _ (Nat.le_refl _) _ h1.2.2.1, List.take_length, linesV_flat]
    simp
  unfold mergeV
  rw [hbb, h, e.1, e.2]
  simp only [not_true, if_false]
  rw [if_neg (by omega)]
  rfl
theorem mergeV_right {base a : Bytes} (h : linesE base a = 0) : mergeV base a base = (a, 0, 0) := by
  have hok := linesE_ok h
  have hbb : linesE base base = 0 := by unfold linesE; rw [if_neg (by omega)]
  obtain ⟨h1, h2, h3, h4⟩ := merge_right base a _ (Nat.le_refl _)
  have e : (mergeD base a base).out = a ∧ (mergeD base a base).n = 0 := by
    rw [mergeD_eq]
    generalize mergeP (linesV base) (linesV a) (linesV base) (pairsV base a) (pairsV base base) (linesV base).length = s at *
    unfold partV
    rw [h2, settle_right, h3, h4]
    simp only [Bool.false_eq_true, if_false]
    rw [partT_all _ _ (Nat.le_refl _) _ h1.2.1, List.take_length, linesV_flat]
    simp
  unfold mergeV
  rw [hbb, h, e.1, e.2]
  simp only [not_true, if_false]
  rw [if_neg (by omega)]
  rfl
end Go.Proofs
