/-
  Walks and plain laws, part 5.
-/
import Derived.Test.YtfippeedjajnkaaGreatDoorM4
import Derived.Test.YtfippeedjajnkaaGreatDoorM2
import Derived.Sort.Walk0
import Derived.Test.YtfippeedjajnkaaGreatDoorAbs4
import Derived.Sort.EncStr
import Derived.Sort.Grow
import Derived.Shelf.SlIter.Nil
import Derived.Shelf.SlIter.Sorted
import Derived.Test.YtfippeedjajnkaaGreatDoorTy
import Derived.KernelRfl
import Derived.Shelf.SortM.Plain
import Derived.Shelf.SortM.SortNone
import Derived.Test.YtfippeedjajnkaaGreatDoorM1
/- Lists in order of their keys, and maps: plain Lean, no program. -/
namespace Go.Proofs
open Go Go.Abs
set_option linter.unusedSimpArgs false
set_option linter.unusedVariables false
theorem lt_lex (a b : Bytes) : strLt a b = decide (a < b) := Go.Proofs.bytesLess_eq a b
theorem lt_irr (a : Bytes) : strLt a a = false := by rw [lt_lex]; simp [List.lt_irrefl]
theorem lt_tr {a b c : Bytes} (h : strLt a b = true) (k : strLt b c = true) : strLt a c = true := by
  rw [lt_lex, decide_eq_true_eq] at *
  exact List.lt_trans h k
theorem lt_tri (a b : Bytes) : strLt a b = true ∨ a = b ∨ strLt b a = true := by
  simp only [lt_lex, decide_eq_true_eq]
  by_cases h : a < b
  · exact .inl h
  · by_cases h2 : b < a
    · exact .inr (.inr h2)
    · exact .inr (.inl (List.le_antisymm (List.not_lt.1 h2) (List.not_lt.1 h)))
section
variable {α : Type} (key : α → Bytes)
/-- The keys rise. -/
def Asc (l : List α) : Prop := l.Pairwise fun a b => strLt (key a) (key b) = true
def putK (x : α) : List α → List α
  | [] => [x]
  | y :: l => if strLt (key x) (key y) = true then x :: y :: l else if key x = key y then x :: l else y :: putK x l
def delK (k : Bytes) (l : List α) : List α := l.filter fun x => decide (¬ key x = k)
def getK (k : Bytes) (l : List α) : Option α := l.find? fun x => decide (key x = k)
variable {key}
theorem Asc.nodup {l : List α} (h : Asc key l) : (l.map key).Nodup := by
  rw [List.Nodup, List.pairwise_map]
  exact h.imp fun h e => by rw [e, lt_irr] at h; cases h
theorem Asc.del {l : List α} (h : Asc key l) (k : Bytes) : Asc key (delK key k l) := List.Pairwise.filter _ h
theorem putK_mem {x : α} : ∀ {l : List α} {y : α}, y ∈ putK key x l → y = x ∨ y ∈ l
  | [], y, h => by simpa [putK] using h
  | z :: l, y, h => by
    unfold putK at h
    split at h
    · simpa using h
    split at h
    · rcases List.mem_cons.1 h with h | h
      · exact .inl h
      · exact .inr (List.mem_cons_of_mem _ h)
    · rcases List.mem_cons.1 h with h | h
      · exact .inr (by rw [h]; exact List.mem_cons_self ..)
      · rcases putK_mem h with h | h
        · exact .inl h
        · exact .inr (List.mem_cons_of_mem _ h)
theorem Asc.put {x : α} : ∀ {l : List α}, Asc key l → Asc key (putK key x l)
  | [], _ => by simp [putK, Asc]
  | z :: l, h => by
    obtain ⟨h1, h2⟩ := List.pairwise_cons.1 h
    unfold putK
    split
    · rename_i c
      exact List.pairwise_cons.2 ⟨fun y hy => by
        rcases List.mem_cons.1 hy with e | e
        · rw [e]; exact c
        · exact lt_tr c (h1 y e), h⟩
    split
    · rename_i c e
      exact List.pairwise_cons.2 ⟨fun y hy => by rw [e]; exact h1 y hy, h2⟩
    · rename_i c e
      refine List.pairwise_cons.2 ⟨fun y hy => ?_, Asc.put h2⟩
      rcases putK_mem hy with e2 | e2
      · rw [e2]
        rcases lt_tri (key x) (key z) with t | t | t
        · exact absurd t c
        · exact absurd t e
        · exact t
      · exact h1 y e2
theorem putK_perm {x : α} : ∀ {l : List α}, Asc key l → (putK key x l).Perm (x :: delK key (key x) l)
  | [], _ => by simp [putK, delK]
  | z :: l, h => by
    obtain ⟨h1, h2⟩ := List.pairwise_cons.1 h
    unfold putK
    split
    · rename_i c
      have e : delK key (key x) (z :: l) = z :: l := by
        unfold delK
        rw [List.filter_eq_self]
        intro y hy
        have hlt : strLt (key x) (key y) = true := by
          rcases List.mem_cons.1 hy with e | e
          · rw [e]; exact c
          · exact lt_tr c (h1 y e)
        simp only [decide_eq_true_eq]
        intro e
        rw [e, lt_irr] at hlt; cases hlt
      rw [e]
    split
    · rename_i c e
      have e2 : delK key (key x) (z :: l) = l := by
        unfold delK
        rw [List.filter_cons_of_neg (by simp [e]), List.filter_eq_self]
        intro y hy
        have hlt := h1 y hy
        simp only [decide_eq_true_eq]
        intro e3
        rw [← e, ← e3, lt_irr] at hlt; cases hlt
      rw [e2]
    · rename_i c e
      have e2 : delK key (key x) (z :: l) = z :: delK key (key x) l := by
        unfold delK
        rw [List.filter_cons_of_pos (by simp; exact fun h => e h.symm)]
      rw [e2]
      exact ((putK_perm h2).cons z).trans (.swap x z _)
theorem Asc.take {l : List α} (h : Asc key l) (i : Nat) : Asc key (l.take i) := List.Pairwise.sublist (List.take_sublist i l) h
end
end Go.Proofs

/- A contract of the library that sorts a slice of strings in place, at the level of the abstract machine. -/
namespace Go.Abs
open Go.RowKit
set_option linter.unusedSimpArgs false
set_option linter.unusedVariables false
section
variable {P : Program} {C : Cx} {H : Heap} {w : World}
end
end Go.Abs

/- Contracts of the library that give the keys of a map, at the level of the abstract machine. -/
namespace Go.Abs
open Go.RowKit
set_option linter.unusedSimpArgs false
set_option linter.unusedVariables false
section
variable {P : Program} {C : Cx} {H : Heap} {w : World}
def keyS : Key × AV → List UInt8
  | (.s l, _) => l
  | _ => []
open Go.Shelf Go.Proofs in
end
end Go.Abs

/- Maps that hold a list in order: plain Lean, no program. -/
namespace Go.Proofs
open Go Go.Abs
set_option linter.unusedSimpArgs false
set_option linter.unusedVariables false
section
variable {α : Type} {key : α → Bytes} {enc : α → AV}
def entK (key : α → Bytes) (enc : α → AV) (x : α) : Key × AV := (.s (key x), enc x)
/-- The entries of a map that holds these things. -/
def MapOf (key : α → Bytes) (enc : α → AV) (es : List (Key × AV)) (l : List α) : Prop := Asc key l ∧ ∃ xs : List α, es = xs.map (entK key enc) ∧ xs.Perm l
theorem MapOf.nil : MapOf key enc [] [] := ⟨List.Pairwise.nil, [], rfl, .refl _⟩
theorem MapOf.len {es : List (Key × AV)} {l : List α} (h : MapOf key enc es l) : es.length = l.length := by
  obtain ⟨-, xs, rfl, hp⟩ := h
  rw [List.length_map, hp.length_eq]
theorem MapOf.keys {es : List (Key × AV)} {l : List α} (h : MapOf key enc es l) : (es.map keyS).Perm (l.map key) := by
  obtain ⟨-, xs, rfl, hp⟩ := h
  have e : (xs.map (entK key enc)).map keyS = xs.map key := by simp [entK, keyS, Function.comp_def]
  rw [e]
  exact hp.map key
theorem MapOf.nodup {es : List (Key × AV)} {l : List α} (h : MapOf key enc es l) : (es.map keyS).Nodup := h.keys.nodup_iff.2 h.1.nodup
theorem find_perm {xs l : List α} (hp : xs.Perm l) (hn : (xs.map key).Nodup) (k : Bytes) : xs.find? (fun x => decide (key x = k)) = l.find? fun x => decide (key x = k) := by
  induction hp with
  | nil => rfl
  | cons x hp ih =>
    simp only [List.map_cons, List.nodup_cons] at hn
    rw [List.find?_cons, List.find?_cons, ih hn.2]
  | swap x y l =>
    simp only [List.map_cons, List.nodup_cons, List.mem_cons, not_or] at hn
    rw [List.find?_cons, List.find?_cons, List.find?_cons, List.find?_cons]
    by_cases h1 : key x = k
    · have : ¬ key y = k := fun h2 => hn.1.1 (h2.trans h1.symm)
      simp [h1, this]
    · simp [h1]
  | trans h1 h2 ih1 ih2 => rw [ih1 hn, ih2 ((h1.map key).nodup_iff.1 hn)]
theorem MapOf.get {es : List (Key × AV)} {l : List α} (h : MapOf key enc es l) (k : Bytes) : mget es (.s k) = (getK key k l).map enc := by
  obtain ⟨ha, xs, rfl, hp⟩ := h
  have hn : (xs.map key).Nodup := (hp.map key).nodup_iff.2 ha.nodup
  unfold getK
  rw [← find_perm hp hn k]
  unfold mget
  clear hn hp
  induction xs with
  | nil => rfl
  | cons x xs ih =>
    rw [List.map_cons, List.find?_cons, List.find?_cons]
    by_cases hk : key x = k
    · simp [entK, hk]
    · simp only [entK, Key.s.injEq, hk, decide_false]
      exact ih
theorem mset_ent (x : α) : ∀ (xs : List α), (xs.map key).Nodup → ∃ ys : List α, mset (xs.map (entK key enc)) (.s (key x)) (enc x) = ys.map (entK key enc) ∧ ys.Perm (x :: delK key (key x) xs)
  | [], _ => ⟨[x], rfl, by simp [delK]⟩
  | y :: xs, h => by
    simp only [List.map_cons, List.nodup_cons] at h
    rw [List.map_cons, mset]
    by_cases hk : key y = key x
    · refine ⟨x :: xs, by simp [entK, hk], ?_⟩
      have e : delK key (key x) (y :: xs) = xs := by
        unfold delK
        rw [List.filter_cons_of_neg (by simp [hk]), List.filter_eq_self]
        intro z hz
        simp only [decide_eq_true_eq]
        intro e
        exact h.1 (by rw [hk, ← e]; exact List.mem_map_of_mem hz)
      rw [e]
    · obtain ⟨ys, h1, h2⟩ := mset_ent x xs h.2
      refine ⟨y :: ys, ?_, ?_⟩
      · rw [if_neg (by simp [entK, hk]), h1]; rfl
      · have e : delK key (key x) (y :: xs) = y :: delK key (key x) xs := by
          unfold delK
          rw [List.filter_cons_of_pos (by simp [hk])]
        rw [e]
        exact (h2.cons y).trans (.swap x y _)
theorem MapOf.set {es : List (Key × AV)} {l : List α} (h : MapOf key enc es l) (x : α) : MapOf key enc (mset es (.s (key x)) (enc x)) (putK key x l) := by
  obtain ⟨ha, xs, rfl, hp⟩ := h
  obtain ⟨ys, h1, h2⟩ := mset_ent (key := key) (enc := enc) x xs ((hp.map key).nodup_iff.2 ha.nodup)
  exact ⟨ha.put, ys, h1, h2.trans (((hp.filter _).cons x).trans (putK_perm ha).symm)⟩
theorem mdel_ent (k : Bytes) : ∀ (xs : List α), (xs.map key).Nodup → mdel (xs.map (entK key enc)) (.s k) = (delK key k xs).map (entK key enc)
  | [], _ => rfl
  | y :: xs, h => by
    simp only [List.map_cons, List.nodup_cons] at h
    rw [List.map_cons, mdel]
    by_cases hk : key y = k
    · have e : delK key k (y :: xs) = xs := by
        unfold delK
        rw [List.filter_cons_of_neg (by simp [hk]), List.filter_eq_self]
        intro z hz
        simp only [decide_eq_true_eq]
        intro e
        exact h.1 (by rw [hk, ← e]; exact List.mem_map_of_mem hz)
      rw [e, if_pos (by simp [entK, hk])]
    · have e : delK key k (y :: xs) = y :: delK key k xs := by
        unfold delK
        rw [List.filter_cons_of_pos (by simp [hk])]
      rw [e, if_neg (by simp [entK, hk]), mdel_ent k xs h.2]
      rfl
theorem MapOf.del {es : List (Key × AV)} {l : List α} (h : MapOf key enc es l) (k : Bytes) : MapOf key enc (mdel es (.s k)) (delK key k l) := by
  obtain ⟨ha, xs, rfl, hp⟩ := h
  refine ⟨ha.del k, delK key k xs, mdel_ent k xs ((hp.map key).nodup_iff.2 ha.nodup), hp.filter _⟩
end
end Go.Proofs

/- Changes of a machine: plain Lean, no program. -/
namespace Go.Proofs
open Go Go.Abs
set_option linter.unusedSimpArgs false
set_option linter.unusedVariables false
/-- Does a path lie below another one? -/
def underB (p d : Bytes) : Bool := (d ++ [47]).isPrefixOf p
end Go.Proofs

/- Right machines, and that changes leave them right: plain Lean, no program. -/
namespace Go.Proofs
open Go Go.Abs
set_option linter.unusedSimpArgs false
set_option linter.unusedVariables false
section
variable {α : Type} {key : α → Bytes} {err : α → Int}
theorem ordB_no {p : Option Bytes} {k : Bytes} : ordB p k = false ↔ ∀ q, p = some q → strLt q k = true := by
  cases p with
  | none => simp [ordB]
  | some q =>
    simp only [ordB, leB, Option.some.injEq]
    constructor
    · rintro h _ rfl
      rw [Bool.or_eq_false_iff] at h
      rcases lt_tri q k with t | t | t
      · exact t
      · simp [t] at h
      · rw [t] at h; cases h.1
    · intro h
      have h := h q rfl
      rw [Bool.or_eq_false_iff]
      refine ⟨?_, ?_⟩
      · cases hh : strLt k q with
        | false => rfl
        | true => have := lt_tr h hh; rw [lt_irr] at this; cases this
      · refine decide_eq_false fun e => ?_
        rw [e, lt_irr] at h; cases h
theorem eachE_zero : ∀ (p : Option Bytes) (l : List α), eachE err key p l = 0 ↔ (∀ x ∈ l, err x = 0) ∧ Asc key l ∧ ∀ q, p = some q → ∀ x ∈ l, strLt q (key x) = true
  | p, [] => by simp [eachE, Asc]
  | p, x :: l => by
    unfold eachE
    by_cases h1 : err x = 0
    · rw [if_neg (by simp [h1])]
      by_cases h2 : ordB p (key x) = true
      · rw [if_pos h2]
        refine ⟨fun h => by omega, fun h => ?_⟩
        have : ordB p (key x) = false := ordB_no.2 fun q hq => h.2.2 q hq x (List.mem_cons_self ..)
        rw [this] at h2; cases h2
      · rw [if_neg h2, eachE_zero (some (key x)) l]
        have h2 := ordB_no.1 (by simpa using h2)
        constructor
        · rintro ⟨a, b, c⟩
          refine ⟨fun y hy => ?_, List.pairwise_cons.2 ⟨c _ rfl, b⟩, fun q hq y hy => ?_⟩
          · rcases List.mem_cons.1 hy with rfl | hy
            · exact h1
            · exact a y hy
          · rcases List.mem_cons.1 hy with rfl | hy
            · exact h2 q hq
            · exact lt_tr (h2 q hq) (c _ rfl y hy)
        · rintro ⟨a, b, c⟩
          obtain ⟨b1, b2⟩ := List.pairwise_cons.1 b
          exact ⟨fun y hy => a y (List.mem_cons_of_mem _ hy), b2, fun q hq y hy => by cases hq; exact b1 y hy⟩
    · rw [if_pos h1]
      exact ⟨fun h => absurd h h1, fun h => absurd (h.1 x (List.mem_cons_self ..)) h1⟩
end
theorem under_dirs {p d : Bytes} : d ∈ dirsB p ↔ underB p d = true := by
  unfold dirsB underB
  simp only [List.mem_map, List.mem_filter, List.mem_range, decide_eq_true_eq, List.isPrefixOf_iff_prefix]
  constructor
  · rintro ⟨k, ⟨h1, h2⟩, rfl⟩
    have e : p = p.take k ++ 47 :: p.drop (k + 1) := by
      conv => lhs; rw [← List.take_append_drop k p]
      rw [drop_at h2]
    refine ⟨p.drop (k + 1), ?_⟩
    conv => rhs; rw [e]
    simp
  · rintro ⟨t, rfl⟩
    refine ⟨d.length, ⟨by simp, by simp⟩, by simp⟩
theorem under_lt {p d : Bytes} (h : underB p d = true) : strLt d p = true := by
  rw [lt_lex, decide_eq_true_eq]
  unfold underB at h
  rw [List.isPrefixOf_iff_prefix] at h
  obtain ⟨t, rfl⟩ := h
  induction d with
  | nil => exact List.Lex.nil
  | cons x d ih => exact List.Lex.cons ih
theorem under_self (p : Bytes) : underB p p = false := by
  cases h : underB p p with
  | false => rfl
  | true => have := under_lt h; rw [lt_irr] at this; cases this
/-- No file lies below another one. -/
def Apart (l : List FileV) : Prop := ∀ x ∈ l, ∀ y ∈ l, underB x.path y.path = false
theorem clash_no {seen : List Bytes} {p : Bytes} : clash seen p = false ↔ ∀ d ∈ seen, underB p d = false := by
  unfold clash
  rw [List.any_eq_false]
  simp only [List.contains_iff_mem]
  constructor
  · intro h d hd
    cases hh : underB p d with
    | false => rfl
    | true => exact absurd hd (h d (under_dirs.2 hh))
  · intro h d hd hs
    have := h d hs
    rw [under_dirs.1 hd] at this; cases this
theorem filesE_zero : ∀ (p : Option Bytes) (seen : List Bytes) (l : List FileV), filesE p seen l = 0 ↔ (∀ x ∈ l, fileErr x = 0) ∧ Asc (·.path) l ∧ (∀ q, p = some q → ∀ x ∈ l, strLt q x.path = true) ∧ (∀ x ∈ l, ∀ d ∈ seen, underB x.path d = false) ∧ l.Pairwise fun a b => underB b.path a.path = false
  | p, seen, [] => by simp [filesE, Asc]
  | p, seen, x :: l => by
    unfold filesE
    by_cases h1 : fileErr x = 0
    · rw [if_neg (by simp [h1])]
      by_cases h2 : ordB p x.path = true
      · rw [if_pos h2]
        refine ⟨fun h => by omega, fun h => ?_⟩
        have : ordB p x.path = false := ordB_no.2 fun q hq => h.2.2.1 q hq x (List.mem_cons_self ..)
        rw [this] at h2; cases h2
      · rw [if_neg h2]
        have h2 := ordB_no.1 (by simpa using h2)
        by_cases h3 : clash seen x.path = true
        · rw [if_pos h3]
          refine ⟨fun h => by omega, fun h => ?_⟩
          have : clash seen x.path = false := clash_no.2 fun d hd => h.2.2.2.1 x (List.mem_cons_self ..) d hd
          rw [this] at h3; cases h3
        rw [if_neg h3, filesE_zero (some x.path) (x.path :: seen) l]
        have h3 := clash_no.1 (by simpa using h3)
        constructor
        · rintro ⟨a, b, c, d, e⟩
          refine ⟨fun y hy => ?_, List.pairwise_cons.2 ⟨c _ rfl, b⟩, fun q hq y hy => ?_, fun y hy z hz => ?_, List.pairwise_cons.2 ⟨fun y hy => d y hy _ (List.mem_cons_self ..), e⟩⟩
          · rcases List.mem_cons.1 hy with rfl | hy
            · exact h1
            · exact a y hy
          · rcases List.mem_cons.1 hy with rfl | hy
            · exact h2 q hq
            · exact lt_tr (h2 q hq) (c _ rfl y hy)
          · rcases List.mem_cons.1 hy with rfl | hy
            · exact h3 z hz
            · exact d y hy z (List.mem_cons_of_mem _ hz)
        · rintro ⟨a, b, c, d, e⟩
          obtain ⟨b1, b2⟩ := List.pairwise_cons.1 b
          obtain ⟨e1, e2⟩ := List.pairwise_cons.1 e
          refine ⟨fun y hy => a y (List.mem_cons_of_mem _ hy), b2, fun q hq y hy => by cases hq; exact b1 y hy, fun y hy z hz => ?_, e2⟩
          rcases List.mem_cons.1 hz with rfl | hz
          · exact e1 y hy
          · exact d y (List.mem_cons_of_mem _ hy) z hz
    · rw [if_pos h1]
      exact ⟨fun h => absurd h h1, fun h => absurd (h.1 x (List.mem_cons_self ..)) h1⟩
/-- A right machine. -/
structure MacOK (m : MacV) : Prop where
  l1 : m.facts.length ≤ 100
  l2 : m.files.length ≤ 2000
  l3 : m.sets.length ≤ 2000
  l4 : m.svcs.length ≤ 100
  e1 : ∀ x ∈ m.facts, factErr x = 0
  a1 : Asc (·.key) m.facts
  e2 : ∀ x ∈ m.files, fileErr x = 0
  a2 : Asc (·.path) m.files
  ap : Apart m.files
  e3 : ∀ x ∈ m.sets, setErr x = 0
  a3 : Asc (·.key) m.sets
  e4 : ∀ x ∈ m.svcs, svcErr x = 0
  a4 : Asc (·.name) m.svcs
theorem apart_of {l : List FileV} (h : Asc (·.path) l) (h2 : l.Pairwise fun a b => underB b.path a.path = false) : Apart l := by
  intro x hx y hy
  obtain ⟨i, hi, rfl⟩ := List.mem_iff_getElem.1 hx
  obtain ⟨j, hj, rfl⟩ := List.mem_iff_getElem.1 hy
  rcases Nat.lt_trichotomy i j with t | t | t
  · cases hh : underB (l[i]).path (l[j]).path with
    | false => rfl
    | true =>
      have a := under_lt hh
      have b := List.pairwise_iff_getElem.1 h i j hi hj t
      have c := lt_tr a b
      simp only at c
      rw [lt_irr] at c; cases c
  · subst t; exact under_self _
  · exact List.pairwise_iff_getElem.1 h2 j i hj hi t
theorem apart_pw {l : List FileV} (h : Apart l) : l.Pairwise fun a b => underB b.path a.path = false :=
  List.pairwise_iff_getElem.2 fun i j hi hj _ => h _ (List.getElem_mem hj) _ (List.getElem_mem hi)
theorem macErr_ok (m : MacV) : macErr m = 0 ↔ MacOK m := by
  unfold macErr
  by_cases h0 : 100 < m.facts.length ∨ 2000 < m.files.length ∨ 2000 < m.sets.length ∨ 100 < m.svcs.length
  · rw [if_pos h0]
    exact ⟨fun h => by omega, fun h => by have := h.l1; have := h.l2; have := h.l3; have := h.l4; omega⟩
  rw [if_neg h0]
  by_cases h1 : eachE factErr (·.key) none m.facts = 0
  · rw [if_neg (by simp [h1])]
    by_cases h2 : filesE none [] m.files = 0
    · rw [if_neg (by simp [h2])]
      by_cases h3 : eachE setErr (·.key) none m.sets = 0
      · rw [if_neg (by simp [h3])]
        rw [eachE_zero] at h1 h3 ⊢
        rw [filesE_zero] at h2
        constructor
        · rintro h4
          exact ⟨by omega, by omega, by omega, by omega, h1.1, h1.2.1, h2.1, h2.2.1, apart_of h2.2.1 h2.2.2.2.2, h3.1, h3.2.1, h4.1, h4.2.1⟩
        · intro h
          exact ⟨h.e4, h.a4, by simp⟩
      · rw [if_pos h3]
        exact ⟨fun h => absurd h h3, fun h => absurd (eachE_zero _ _ |>.2 ⟨h.e3, h.a3, by simp⟩) h3⟩
    · rw [if_pos h2]
      exact ⟨fun h => absurd h h2, fun h => absurd (filesE_zero _ _ _ |>.2 ⟨h.e2, h.a2, by simp, by simp, apart_pw h.ap⟩) h2⟩
  · rw [if_pos h1]
    exact ⟨fun h => absurd h h1, fun h => absurd (eachE_zero _ _ |>.2 ⟨h.e1, h.a1, by simp⟩) h1⟩
section
variable {α : Type} {key : α → Bytes}
end
end Go.Proofs

/- What one step forgets at the end of a function: when a map's entries were born. -/
namespace Go.Proofs
open Go Go.Abs Go.RowKit
set_option linter.unusedSimpArgs false
set_option linter.unusedVariables false
theorem put_owned {C : Cx} {H : Heap} {id : Nat} {o o' : AObj} (hm : H id = some o) (ho : ∀ j, o'.owns j ↔ o.owns j) (b j : Nat) : Owned C (H.put id o') b j ↔ Owned C H b j := by
  constructor
  · rintro ⟨i, p, h1, h2, h3⟩
    by_cases e : i = id
    · subst e
      rw [put_same] at h1
      cases h1
      exact ⟨i, o, hm, h2, (ho j).1 h3⟩
    · rw [put_ne _ _ _ _ e] at h1
      exact ⟨i, p, h1, h2, h3⟩
  · rintro ⟨i, p, h1, h2, h3⟩
    by_cases e : i = id
    · subst e
      rw [hm] at h1
      cases h1
      exact ⟨i, o', put_same _ _ _, h2, (ho j).2 h3⟩
    · exact ⟨i, p, by rw [put_ne _ _ _ _ e]; exact h1, h2, h3⟩
/-- When the entries were born is forgotten. -/
theorem _root_.Go.Abs.Ghost.unborn {P : Program} {H : Heap} {x : AV} {id : Nat} {kk : KK} {es : List (Key × AV)} {bs : List Nat} {cl : Nat} (hm : H id = some (.bmap kk es bs cl)) : Ghost P x H x (H.put id (.map kk es)) := fun C w v h1 h2 => by
  have hle : Le C H w C (H.put id (.map kk es)) w := ⟨Nat.le_refl _, fun _ _ => rfl, rfl, fun _ _ h => h, fun b off h => ⟨⟨h.1, fun h3 => h.2 ((put_owned (o' := .map kk es) hm (fun j => Iff.rfl) b off).1 h3)⟩, rfl⟩, Below.refl _ _⟩
  refine ⟨C, ⟨fun i o hi => ?_, fun i j oi oj hi hj => ?_, h1.base, h1.tab.le hle⟩, hle, h2.mono hle⟩
  · by_cases e : i = id
    · subst e
      rw [put_same] at hi
      cases hi
      obtain ⟨g1, g2, fs, a1, a2, a3, a4, a5⟩ := h1.live i _ hm
      exact ⟨g1, g2, fs, cl, a1, a2.mono hle, a4, a5⟩
    · rw [put_ne _ _ _ _ e] at hi
      obtain ⟨g1, g2, g3⟩ := h1.live i o hi
      exact ⟨g1, g2, g3.mono hle rfl⟩
  · have ex : ∀ i o, H.put id (.map kk es) i = some o → ∃ o', H i = some o' := fun i o h => by
      by_cases e : i = id
      · subst e; exact ⟨_, hm⟩
      · rw [put_ne _ _ _ _ e] at h; exact ⟨o, h⟩
    obtain ⟨o1, e1⟩ := ex i oi hi
    obtain ⟨o2, e2⟩ := ex j oj hj
    exact h1.inj i j o1 o2 e1 e2
end Go.Proofs

/- The library's contracts laid at this program. -/
namespace Go.Proofs
open Go.Shelf
end Go.Proofs

/- Strings sorted in place, and the keys of maps, by the library's contracts. -/
namespace Go.Proofs
open Go Go.Abs Go.Shelf
set_option linter.unusedVariables false
set_option maxRecDepth 20000
end Go.Proofs

/- Walks: the keys of a map, on the reference's side. -/
namespace Go.Proofs
open Go Go.Abs
set_option linter.unusedSimpArgs false
set_option linter.unusedVariables false
set_option maxRecDepth 20000
/-- What a walk over a map has seen. -/
structure SeenK (es : List (Key × AV)) (bs : List Nat) (js : List Nat) (seen : List Nat) (ks : List Bytes) : Prop where
  nodup : js.Nodup
  lt : ∀ j ∈ js, j < es.length
  stamps : seen = js.map fun j => bs.getD j 0
  keys : ks = js.map fun j => keyS (es.getD j default)
theorem SeenK.nil (es : List (Key × AV)) (bs : List Nat) : SeenK es bs [] [] [] := ⟨List.nodup_nil, by simp, rfl, rfl⟩
theorem SeenK.step {es : List (Key × AV)} {bs js seen : List Nat} {ks : List Bytes} (h : SeenK es bs js seen ks) {j b : Nat} {e : Key × AV} (hj : es[j]? = some e) (hb : bs[j]? = some b) (hs : b ∉ seen) : SeenK es bs (js ++ [j]) (seen ++ [b]) (ks ++ [keyS e]) := by
  obtain ⟨h1, h2, h3, h4⟩ := h
  have hjn : j ∉ js := fun hm => hs (by rw [h3]; exact List.mem_map.2 ⟨j, hm, by simp [List.getD, hb]⟩)
  refine ⟨?_, fun i hi => ?_, ?_, ?_⟩
  · rw [List.nodup_append]
    exact ⟨h1, by simp, fun a ha c hc => by rw [List.mem_singleton.1 hc]; exact fun e => hjn (e ▸ ha)⟩
  · rcases List.mem_append.1 hi with h | h
    · exact h2 i h
    · rw [List.mem_singleton.1 h]; exact (List.getElem?_eq_some_iff.1 hj).1
  · rw [List.map_append, ← h3]; simp [List.getD, hb]
  · rw [List.map_append, ← h4]; simp [List.getD, hj]
theorem nodup_lt : ∀ (n : Nat) (l : List Nat), l.Nodup → (∀ j ∈ l, j < n) → l.length ≤ n
  | 0, [], _, _ => Nat.le_refl _
  | 0, x :: l, _, h => absurd (h x (List.mem_cons_self ..)) (by omega)
  | n + 1, l, hn, h => by
    have h1 := nodup_lt n (l.erase n) (hn.erase n) fun j hj => by
      have h2 := h j (List.mem_of_mem_erase hj)
      have h3 : j ≠ n := fun e => by subst e; exact List.Nodup.not_mem_erase hn hj
      omega
    have h2 : l.length ≤ (l.erase n).length + 1 := by rw [List.length_erase]; split <;> omega
    omega
theorem SeenK.len {es : List (Key × AV)} {bs js seen : List Nat} {ks : List Bytes} (h : SeenK es bs js seen ks) : js.length ≤ es.length ∧ ks.length = js.length := by
  refine ⟨?_, by rw [h.keys]; simp⟩
  exact nodup_lt _ _ h.nodup h.lt
theorem SeenK.all {es : List (Key × AV)} {bs js seen : List Nat} {ks : List Bytes} (h : SeenK es bs js seen ks) (hl : bs.length = es.length) (hn : bs.Nodup) (ha : ∀ b ∈ bs, b ∈ seen) : ks.Perm (es.map keyS) := by
  have hp : js.Perm (List.range es.length) := by
    refine (List.perm_ext_iff_of_nodup h.nodup List.nodup_range).2 fun j => ⟨fun hj => List.mem_range.2 (h.lt j hj), fun hj => ?_⟩
    have hj := List.mem_range.1 hj
    have hb : bs[j]? = some (bs[j]'(by omega)) := List.getElem?_eq_getElem _
    have hm := ha _ (List.mem_of_getElem? hb)
    rw [h.stamps] at hm
    obtain ⟨i, hi, e⟩ := List.mem_map.1 hm
    have hil := h.lt i hi
    have e2 : bs.getD i 0 = bs[i]'(by omega) := by simp [List.getD, show i < bs.length by omega]
    rw [e2] at e
    have : i = j := (List.getElem_inj hn).1 e
    rw [← this]; exact hi
  rw [h.keys]
  refine (hp.map _).trans ?_
  have e : (List.range es.length).map (fun j => keyS (es.getD j default)) = es.map keyS := by
    refine List.ext_getElem (by simp) fun i h1 h2 => ?_
    simp at h1
    simp [List.getD, h1]
  rw [e]
end Go.Proofs
