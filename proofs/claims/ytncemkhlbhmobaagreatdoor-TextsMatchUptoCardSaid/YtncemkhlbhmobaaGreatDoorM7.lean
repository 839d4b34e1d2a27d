/-
  Walks and plain laws, part 7.
-/
import Derived.Test.YtncemkhlbhmobaaGreatDoorM6
import Derived.Test.YtncemkhlbhmobaaGreatDoorM1
/- Maps that hold a list in order: plain Lean, no program. -/
namespace Go.Proofs
open Go Go.Abs
set_option linter.unusedSimpArgs false
set_option linter.unusedVariables false
section
variable {α : Type} {key : α → Bytes} {enc : α → AV}
def entK (key : α → Bytes) (enc : α → AV) (x : α) : Key × AV := (.s (key x), enc x)
/-- The entries of a map that holds these things. -/
def MapOf (key : α → Bytes) (enc : α → AV) (es : List (Key × AV)) (l : List α) : Prop := Asc key l ∧ ∃ xs : List α, es = xs.map (entK key enc) ∧ xs.Perm l
theorem MapOf.nil : MapOf key enc [] [] := ⟨List.Pairwise.nil, [], rfl, .refl _⟩
theorem MapOf.len {es : List (Key × AV)} {l : List α} (h : MapOf key enc es l) : es.length = l.length := by
  obtain ⟨-, xs, rfl, hp⟩ := h
  rw [List.length_map, hp.length_eq]
theorem MapOf.keys {es : List (Key × AV)} {l : List α} (h : MapOf key enc es l) : (es.map keyS).Perm (l.map key) := by
  obtain ⟨-, xs, rfl, hp⟩ := h
  have e : (xs.map (entK key enc)).map keyS = xs.map key := by simp [entK, keyS, Function.comp_def]
  rw [e]
  exact hp.map key
theorem MapOf.nodup {es : List (Key × AV)} {l : List α} (h : MapOf key enc es l) : (es.map keyS).Nodup := h.keys.nodup_iff.2 h.1.nodup
theorem find_perm {xs l : List α} (hp : xs.Perm l) (hn : (xs.map key).Nodup) (k : Bytes) : xs.find? (fun x => decide (key x = k)) = l.find? fun x => decide (key x = k) := by
  induction hp with
  | nil => rfl
  | cons x hp ih =>
    simp only [List.map_cons, List.nodup_cons] at hn
    rw [List.find?_cons, List.find?_cons, ih hn.2]
  | swap x y l =>
    simp only [List.map_cons, List.nodup_cons, List.mem_cons, not_or] at hn
    rw [List.find?_cons, List.find?_cons, List.find?_cons, List.find?_cons]
    by_cases h1 : key x = k
    · have : ¬ key y = k := fun h2 => hn.1.1 (h2.trans h1.symm)
      simp [h1, this]
    · simp [h1]
  | trans h1 h2 ih1 ih2 => rw [ih1 hn, ih2 ((h1.map key).nodup_iff.1 hn)]
theorem MapOf.get {es : List (Key × AV)} {l : List α} (h : MapOf key enc es l) (k : Bytes) : mget es (.s k) = (getK key k l).map enc := by
  obtain ⟨ha, xs, rfl, hp⟩ := h
  have hn : (xs.map key).Nodup := (hp.map key).nodup_iff.2 ha.nodup
  unfold getK
  rw [← find_perm hp hn k]
  unfold mget
  clear hn hp
  induction xs with
  | nil => rfl
  | cons x xs ih =>
    rw [List.map_cons, List.find?_cons, List.find?_cons]
    by_cases hk : key x = k
    · simp [entK, hk]
    · simp only [entK, Key.s.injEq, hk, decide_false]
      exact ih
theorem mset_ent (x : α) : ∀ (xs : List α), (xs.map key).Nodup → ∃ ys : List α, mset (xs.map (entK key enc)) (.s (key x)) (enc x) = ys.map (entK key enc) ∧ ys.Perm (x :: delK key (key x) xs)
  | [], _ => ⟨[x], rfl, by simp [delK]⟩
  | y :: xs, h => by
    simp only [List.map_cons, List.nodup_cons] at h
    rw [List.map_cons, mset]
    by_cases hk : key y = key x
    · refine ⟨x :: xs, by simp [entK, hk], ?_⟩
      have e : delK key (key x) (y :: xs) = xs := by
        unfold delK
        rw [List.filter_cons_of_neg (by simp [hk]), List.filter_eq_self]
        intro z hz
        simp only [decide_eq_true_eq]
        intro e
        exact h.1 (by rw [hk, ← e]; exact List.mem_map_of_mem hz)
      rw [e]
    · obtain ⟨ys, h1, h2⟩ := mset_ent x xs h.2
      refine ⟨y :: ys, ?_, ?_⟩
      · rw [if_neg (by simp [entK, hk]), h1]; rfl
      · have e : delK key (key x) (y :: xs) = y :: delK key (key x) xs := by
          unfold delK
          rw [List.filter_cons_of_pos (by simp [hk])]
        rw [e]
        exact (h2.cons y).trans (.swap x y _)
theorem MapOf.set {es : List (Key × AV)} {l : List α} (h : MapOf key enc es l) (x : α) : MapOf key enc (mset es (.s (key x)) (enc x)) (putK key x l) := by
  obtain ⟨ha, xs, rfl, hp⟩ := h
  obtain ⟨ys, h1, h2⟩ := mset_ent (key := key) (enc := enc) x xs ((hp.map key).nodup_iff.2 ha.nodup)
  exact ⟨ha.put, ys, h1, h2.trans (((hp.filter _).cons x).trans (putK_perm ha).symm)⟩
theorem mdel_ent (k : Bytes) : ∀ (xs : List α), (xs.map key).Nodup → mdel (xs.map (entK key enc)) (.s k) = (delK key k xs).map (entK key enc)
  | [], _ => rfl
  | y :: xs, h => by
    simp only [List.map_cons, List.nodup_cons] at h
    rw [List.map_cons, mdel]
    by_cases hk : key y = k
    · have e : delK key k (y :: xs) = xs := by
        unfold delK
        rw [List.filter_cons_of_neg (by simp [hk]), List.filter_eq_self]
        intro z hz
        simp only [decide_eq_true_eq]
        intro e
        exact h.1 (by rw [hk, ← e]; exact List.mem_map_of_mem hz)
      rw [e, if_pos (by simp [entK, hk])]
    · have e : delK key k (y :: xs) = y :: delK key k xs := by
        unfold delK
        rw [List.filter_cons_of_pos (by simp [hk])]
      rw [e, if_neg (by simp [entK, hk]), mdel_ent k xs h.2]
      rfl
theorem MapOf.del {es : List (Key × AV)} {l : List α} (h : MapOf key enc es l) (k : Bytes) : MapOf key enc (mdel es (.s k)) (delK key k l) := by
  obtain ⟨ha, xs, rfl, hp⟩ := h
  refine ⟨ha.del k, delK key k xs, mdel_ent k xs ((hp.map key).nodup_iff.2 ha.nodup), hp.filter _⟩
theorem MapOf.sorted {es : List (Key × AV)} {l : List α} (h : MapOf key enc es l) {ss : List Bytes} (hp : ss.Perm (es.map keyS)) : (ss.mergeSort fun x y => decide (x ≤ y)) = l.map key := sort_keys h.1 (hp.trans h.keys)
theorem getK_at {l : List α} (h : Asc key l) {i : Nat} {x : α} (hx : l[i]? = some x) : getK key (key x) l = some x := by
  have hm := List.mem_of_getElem? hx
  unfold getK
  cases hf : l.find? fun y => decide (key y = key x) with
  | none =>
    rw [List.find?_eq_none] at hf
    exact absurd (by simp) (hf x hm)
  | some y =>
    have h1 := List.find?_some hf
    have h2 := List.mem_of_find?_eq_some hf
    simp only [decide_eq_true_eq] at h1
    congr 1
    have hn := h.nodup
    obtain ⟨j, hj⟩ := List.getElem?_of_mem h2
    have e1 : (l.map key)[j]? = (l.map key)[i]? := by simp [hj, hx, h1]
    have hji := (List.getElem?_inj (by simpa using (List.getElem?_eq_some_iff.1 hj).1) hn).1 e1
    subst hji
    rw [hj] at hx
    exact Option.some.inj hx
end
end Go.Proofs

/- Changes of a machine: plain Lean, no program. -/
namespace Go.Proofs
open Go Go.Abs
set_option linter.unusedSimpArgs false
set_option linter.unusedVariables false
/-- Does a path lie below another one? -/
def underB (p d : Bytes) : Bool := (d ++ [47]).isPrefixOf p
def conflictV (l : List FileV) (p : Bytes) : Bool := l.any fun f => underB f.path p || underB p f.path
abbrev putF (m : MacV) (f : FileV) : MacV := { m with files := putK (·.path) f m.files }
/-- One change. -/
def doV (m : MacV) (c : ChgV) : Except Int MacV :=
  if chgErr c ≠ 0 then .error (chgErr c)
  else if c.kind = 2 then (if (getK (·.path) c.file.path m.files).isSome then .ok { m with files := delK (·.path) c.file.path m.files } else .error 10)
  else if c.kind = 4 then (if (getK (·.key) c.set.key m.sets).isSome then .ok { m with sets := delK (·.key) c.set.key m.sets } else .error 10)
  else if c.kind = 6 then (if (getK (·.name) c.svc.name m.svcs).isSome then .ok { m with svcs := delK (·.name) c.svc.name m.svcs } else .error 10)
  else if c.kind = 1 then
    (if conflictV m.files c.file.path = true then .error 11
     else if (getK (·.path) c.file.path m.files).isNone ∧ 2000 ≤ m.files.length then .error 4
     else .ok (putF m c.file))
  else if c.kind = 3 then
    (if (getK (·.key) c.set.key m.sets).isNone ∧ 2000 ≤ m.sets.length then .error 4 else .ok { m with sets := putK (·.key) c.set m.sets })
  else (if (getK (·.name) c.svc.name m.svcs).isNone ∧ 100 ≤ m.svcs.length then .error 4 else .ok { m with svcs := putK (·.name) c.svc m.svcs })
def doAll : MacV → List ChgV → Except Int MacV
  | m, [] => .ok m
  | m, c :: l => match doV m c with
    | .ok n => doAll n l
    | .error e => .error e
def applyV (m : MacV) (l : List ChgV) : Except Int MacV := if macErr m ≠ 0 then .error (macErr m) else doAll m l
end Go.Proofs

/- Right machines, and that changes leave them right: plain Lean, no program. -/
namespace Go.Proofs
open Go Go.Abs
set_option linter.unusedSimpArgs false
set_option linter.unusedVariables false
section
variable {α : Type} {key : α → Bytes} {err : α → Int}
theorem ordB_no {p : Option Bytes} {k : Bytes} : ordB p k = false ↔ ∀ q, p = some q → strLt q k = true := by
  cases p with
  | none => simp [ordB]
  | some q =>
    simp only [ordB, leB, Option.some.injEq]
    constructor
    · rintro h _ rfl
      rw [Bool.or_eq_false_iff] at h
      rcases lt_tri q k with t | t | t
      · exact t
      · simp [t] at h
      · rw [t] at h; cases h.1
    · intro h
      have h := h q rfl
      rw [Bool.or_eq_false_iff]
      refine ⟨?_, ?_⟩
      · cases hh : strLt k q with
        | false => rfl
        | true => have := lt_tr h hh; rw [lt_irr] at this; cases this
      · refine decide_eq_false fun e => ?_
        rw [e, lt_irr] at h; cases h
theorem eachE_zero : ∀ (p : Option Bytes) (l : List α), eachE err key p l = 0 ↔ (∀ x ∈ l, err x = 0) ∧ Asc key l ∧ ∀ q, p = some q → ∀ x ∈ l, strLt q (key x) = true
  | p, [] => by simp [eachE, Asc]
  | p, x :: l => by
    unfold eachE
    by_cases h1 : err x = 0
    · rw [if_neg (by simp [h1])]
      by_cases h2 : ordB p (key x) = true
      · rw [if_pos h2]
        refine ⟨fun h => by omega, fun h => ?_⟩
        have : ordB p (key x) = false := ordB_no.2 fun q hq => h.2.2 q hq x (List.mem_cons_self ..)
        rw [this] at h2; cases h2
      · rw [if_neg h2, eachE_zero (some (key x)) l]
        have h2 := ordB_no.1 (by simpa using h2)
        constructor
        · rintro ⟨a, b, c⟩
          refine ⟨fun y hy => ?_, List.pairwise_cons.2 ⟨c _ rfl, b⟩, fun q hq y hy => ?_⟩
          · rcases List.mem_cons.1 hy with rfl | hy
            · exact h1
            · exact a y hy
          · rcases List.mem_cons.1 hy with rfl | hy
            · exact h2 q hq
            · exact lt_tr (h2 q hq) (c _ rfl y hy)
        · rintro ⟨a, b, c⟩
          obtain ⟨b1, b2⟩ := List.pairwise_cons.1 b
          exact ⟨fun y hy => a y (List.mem_cons_of_mem _ hy), b2, fun q hq y hy => by cases hq; exact b1 y hy⟩
    · rw [if_pos h1]
      exact ⟨fun h => absurd h h1, fun h => absurd (h.1 x (List.mem_cons_self ..)) h1⟩
end
theorem under_dirs {p d : Bytes} : d ∈ dirsB p ↔ underB p d = true := by
  unfold dirsB underB
  simp only [List.mem_map, List.mem_filter, List.mem_range, decide_eq_true_eq, List.isPrefixOf_iff_prefix]
  constructor
  · rintro ⟨k, ⟨h1, h2⟩, rfl⟩
    have e : p = p.take k ++ 47 :: p.drop (k + 1) := by
      conv => lhs; rw [← List.take_append_drop k p]
      rw [drop_at h2]
    refine ⟨p.drop (k + 1), ?_⟩
    conv => rhs; rw [e]
    simp
  · rintro ⟨t, rfl⟩
    refine ⟨d.length, ⟨by simp, by simp⟩, by simp⟩
theorem under_lt {p d : Bytes} (h : underB p d = true) : strLt d p = true := by
  rw [lt_lex, decide_eq_true_eq]
  unfold underB at h
  rw [List.isPrefixOf_iff_prefix] at h
  obtain ⟨t, rfl⟩ := h
  induction d with
  | nil => exact List.Lex.nil
  | cons x d ih => exact List.Lex.cons ih
theorem under_self (p : Bytes) : underB p p = false := by
  cases h : underB p p with
  | false => rfl
  | true => have := under_lt h; rw [lt_irr] at this; cases this
/-- No file lies below another one. -/
def Apart (l : List FileV) : Prop := ∀ x ∈ l, ∀ y ∈ l, underB x.path y.path = false
theorem clash_no {seen : List Bytes} {p : Bytes} : clash seen p = false ↔ ∀ d ∈ seen, underB p d = false := by
  unfold clash
  rw [List.any_eq_false]
  simp only [List.contains_iff_mem]
  constructor
  · intro h d hd
    cases hh : underB p d with
    | false => rfl
    | true => exact absurd hd (h d (under_dirs.2 hh))
  · intro h d hd hs
    have := h d hs
    rw [under_dirs.1 hd] at this; cases this
theorem filesE_zero : ∀ (p : Option Bytes) (seen : List Bytes) (l : List FileV), filesE p seen l = 0 ↔ (∀ x ∈ l, fileErr x = 0) ∧ Asc (·.path) l ∧ (∀ q, p = some q → ∀ x ∈ l, strLt q x.path = true) ∧ (∀ x ∈ l, ∀ d ∈ seen, underB x.path d = false) ∧ l.Pairwise fun a b => underB b.path a.path = false
  | p, seen, [] => by simp [filesE, Asc]
  | p, seen, x :: l => by
    unfold filesE
    by_cases h1 : fileErr x = 0
    · rw [if_neg (by simp [h1])]
      by_cases h2 : ordB p x.path = true
      · rw [if_pos h2]
        refine ⟨fun h => by omega, fun h => ?_⟩
        have : ordB p x.path = false := ordB_no.2 fun q hq => h.2.2.1 q hq x (List.mem_cons_self ..)
        rw [this] at h2; cases h2
      · rw [if_neg h2]
        have h2 := ordB_no.1 (by simpa using h2)
        by_cases h3 : clash seen x.path = true
        · rw [if_pos h3]
          refine ⟨fun h => by omega, fun h => ?_⟩
          have : clash seen x.path = false := clash_no.2 fun d hd => h.2.2.2.1 x (List.mem_cons_self ..) d hd
          rw [this] at h3; cases h3
        rw [if_neg h3, filesE_zero (some x.path) (x.path :: seen) l]
        have h3 := clash_no.1 (by simpa using h3)
        constructor
        · rintro ⟨a, b, c, d, e⟩
          refine ⟨fun y hy => ?_, List.pairwise_cons.2 ⟨c _ rfl, b⟩, fun q hq y hy => ?_, fun y hy z hz => ?_, List.pairwise_cons.2 ⟨fun y hy => d y hy _ (List.mem_cons_self ..), e⟩⟩
          · rcases List.mem_cons.1 hy with rfl | hy
            · exact h1
            · exact a y hy
          · rcases List.mem_cons.1 hy with rfl | hy
            · exact h2 q hq
            · exact lt_tr (h2 q hq) (c _ rfl y hy)
          · rcases List.mem_cons.1 hy with rfl | hy
            · exact h3 z hz
            · exact d y hy z (List.mem_cons_of_mem _ hz)
        · rintro ⟨a, b, c, d, e⟩
          obtain ⟨b1, b2⟩ := List.pairwise_cons.1 b
          obtain ⟨e1, e2⟩ := List.pairwise_cons.1 e
          refine ⟨fun y hy => a y (List.mem_cons_of_mem _ hy), b2, fun q hq y hy => by cases hq; exact b1 y hy, fun y hy z hz => ?_, e2⟩
          rcases List.mem_cons.1 hz with rfl | hz
          · exact e1 y hy
          · exact d y (List.mem_cons_of_mem _ hy) z hz
    · rw [if_pos h1]
      exact ⟨fun h => absurd h h1, fun h => absurd (h.1 x (List.mem_cons_self ..)) h1⟩
/-- A right machine. -/
structure MacOK (m : MacV) : Prop where
  l1 : m.facts.length ≤ 100
  l2 : m.files.length ≤ 2000
  l3 : m.sets.length ≤ 2000
  l4 : m.svcs.length ≤ 100
  e1 : ∀ x ∈ m.facts, factErr x = 0
  a1 : Asc (·.key) m.facts
  e2 : ∀ x ∈ m.files, fileErr x = 0
  a2 : Asc (·.path) m.files
  ap : Apart m.files
  e3 : ∀ x ∈ m.sets, setErr x = 0
  a3 : Asc (·.key) m.sets
  e4 : ∀ x ∈ m.svcs, svcErr x = 0
  a4 : Asc (·.name) m.svcs
theorem apart_of {l : List FileV} (h : Asc (·.path) l) (h2 : l.Pairwise fun a b => underB b.path a.path = false) : Apart l := by
  intro x hx y hy
  obtain ⟨i, hi, rfl⟩ := List.mem_iff_getElem.1 hx
  obtain ⟨j, hj, rfl⟩ := List.mem_iff_getElem.1 hy
  rcases Nat.lt_trichotomy i j with t | t | t
  · cases hh : underB (l[i]).path (l[j]).path with
    | false => rfl
    | true =>
      have a := under_lt hh
      have b := List.pairwise_iff_getElem.1 h i j hi hj t
      have c := lt_tr a b
      simp only at c
      rw [lt_irr] at c; cases c
  · subst t; exact under_self _
  · exact List.pairwise_iff_getElem.1 h2 j i hj hi t
theorem apart_pw {l : List FileV} (h : Apart l) : l.Pairwise fun a b => underB b.path a.path = false :=
  List.pairwise_iff_getElem.2 fun i j hi hj _ => h _ (List.getElem_mem hj) _ (List.getElem_mem hi)
theorem macErr_ok (m : MacV) : macErr m = 0 ↔ MacOK m := by
  unfold macErr
  by_cases h0 : 100 < m.facts.length ∨ 2000 < m.files.length ∨ 2000 < m.sets.length ∨ 100 < m.svcs.length
  · rw [if_pos h0]
    exact ⟨fun h => by omega, fun h => by have := h.l1; have := h.l2; have := h.l3; have := h.l4; omega⟩
  rw [if_neg h0]
  by_cases h1 : eachE factErr (·.key) none m.facts = 0
  · rw [if_neg (by simp [h1])]
    by_cases h2 : filesE none [] m.files = 0
    · rw [if_neg (by simp [h2])]
      by_cases h3 : eachE setErr (·.key) none m.sets = 0
      · rw [if_neg (by simp [h3])]
        rw [eachE_zero] at h1 h3 ⊢
        rw [filesE_zero] at h2
        constructor
        · rintro h4
          exact ⟨by omega, by omega, by omega, by omega, h1.1, h1.2.1, h2.1, h2.2.1, apart_of h2.2.1 h2.2.2.2.2, h3.1, h3.2.1, h4.1, h4.2.1⟩
        · intro h
          exact ⟨h.e4, h.a4, by simp⟩
      · rw [if_pos h3]
        exact ⟨fun h => absurd h h3, fun h => absurd (eachE_zero _ _ |>.2 ⟨h.e3, h.a3, by simp⟩) h3⟩
    · rw [if_pos h2]
      exact ⟨fun h => absurd h h2, fun h => absurd (filesE_zero _ _ _ |>.2 ⟨h.e2, h.a2, by simp, by simp, apart_pw h.ap⟩) h2⟩
  · rw [if_pos h1]
    exact ⟨fun h => absurd h h1, fun h => absurd (eachE_zero _ _ |>.2 ⟨h.e1, h.a1, by simp⟩) h1⟩
section
variable {α : Type} {key : α → Bytes}
theorem delK_len (k : Bytes) (l : List α) : (delK key k l).length ≤ l.length := List.length_filter_le _ _
theorem delK_mem {k : Bytes} {l : List α} {x : α} (h : x ∈ delK key k l) : x ∈ l := (List.mem_filter.1 h).1
theorem putK_len {x : α} : ∀ {l : List α}, Asc key l → (putK key x l).length = if (getK key (key x) l).isNone then l.length + 1 else l.length
  | [], _ => rfl
  | y :: l, h => by
    obtain ⟨h1, h2⟩ := List.pairwise_cons.1 h
    unfold putK getK
    split
    · rename_i c
      have : (y :: l).find? (fun z => decide (key z = key x)) = none := by
        rw [List.find?_eq_none]
        intro z hz
        simp only [decide_eq_true_eq]
        intro e
        have : strLt (key x) (key z) = true := by
          rcases List.mem_cons.1 hz with rfl | hz
          · exact c
          · exact lt_tr c (h1 z hz)
        rw [e, lt_irr] at this; cases this
      rw [this]; rfl
    split
    · rename_i c e
      rw [List.find?_cons, decide_eq_true e.symm]
      rfl
    · rename_i c e
      rw [List.find?_cons, decide_eq_false (fun h => e h.symm), List.length_cons, putK_len h2]
      unfold getK
      split <;> simp [*]
end
theorem doV_ok {m n : MacV} {c : ChgV} (h : MacOK m) (hd : doV m c = .ok n) : MacOK n := by
  unfold doV at hd
  split at hd
  · cases hd
  rename_i hc
  have hc : chgErr c = 0 := by simpa using hc
  have hk : ¬ (c.kind < 1 ∨ 6 < c.kind) := fun hk => by unfold chgErr at hc; rw [if_pos hk] at hc; cases hc
  have hp : partErr c = 0 := by
    unfold chgErr at hc
    rw [if_neg hk] at hc
    split at hc
    · assumption
    · rename_i h; simpa using h
  obtain ⟨l1, l2, l3, l4, e1, a1, e2, a2, ap, e3, a3, e4, a4⟩ := h
  split at hd
  · split at hd
    · cases hd
      exact ⟨l1, Nat.le_trans (delK_len _ _) l2, l3, l4, e1, a1, fun x hx => e2 x (delK_mem hx), a2.del _, fun x hx y hy => ap x (delK_mem hx) y (delK_mem hy), e3, a3, e4, a4⟩
    · cases hd
  split at hd
  · split at hd
    · cases hd
      exact ⟨l1, l2, Nat.le_trans (delK_len _ _) l3, l4, e1, a1, e2, a2, ap, fun x hx => e3 x (delK_mem hx), a3.del _, e4, a4⟩
    · cases hd
  split at hd
  · split at hd
    · cases hd
      exact ⟨l1, l2, l3, Nat.le_trans (delK_len _ _) l4, e1, a1, e2, a2, ap, e3, a3, fun x hx => e4 x (delK_mem hx), a4.del _⟩
    · cases hd
  split at hd
  · rename_i k1
    have hp : fileErr c.file = 0 := by unfold partErr at hp; rw [if_pos k1] at hp; exact hp
    split at hd
    · cases hd
    rename_i hcf
    have hcf : ∀ f ∈ m.files, underB f.path c.file.path = false ∧ underB c.file.path f.path = false := by
      intro f hf
      have hcf : conflictV m.files c.file.path = false := by simpa using hcf
      have := List.any_eq_false.1 hcf f hf
      simpa using this
    split at hd
    · cases hd
    rename_i hl
    cases hd
    refine ⟨l1, ?_, l3, l4, e1, a1, fun x hx => ?_, a2.put, fun x hx y hy => ?_, e3, a3, e4, a4⟩
    · show (putK (·.path) c.file m.files).length ≤ 2000
      rw [putK_len a2]
      split
      · rename_i g
        have : ¬ 2000 ≤ m.files.length := fun h => hl ⟨g, h⟩
        omega
      · exact l2
    · rcases putK_mem hx with rfl | hx
      · exact hp
      · exact e2 x hx
    · rcases putK_mem hx with rfl | hx <;> rcases putK_mem hy with rfl | hy
      · exact under_self _
      · exact (hcf y hy).2
      · exact (hcf x hx).1
      · exact ap x hx y hy
  split at hd
  · rename_i k1 k3
    have hp : setErr c.set = 0 := by unfold partErr at hp; rw [if_neg k1, if_neg (by omega), if_pos k3] at hp; exact hp
    split at hd
    · cases hd
    rename_i hl
    cases hd
    refine ⟨l1, l2, ?_, l4, e1, a1, e2, a2, ap, fun x hx => ?_, a3.put, e4, a4⟩
    · show (putK (·.key) c.set m.sets).length ≤ 2000
      rw [putK_len a3]
      split
      · rename_i g
        have : ¬ 2000 ≤ m.sets.length := fun h => hl ⟨g, h⟩
        omega
      · exact l3
    · rcases putK_mem hx with rfl | hx
      · exact hp
      · exact e3 x hx
  · rename_i k2 k4 k6 k1 k3
    have k5 : c.kind = 5 := by omega
    have hp : svcErr c.svc = 0 := by unfold partErr at hp; rw [if_neg k1, if_neg k2, if_neg k3, if_neg k4, if_pos k5] at hp; exact hp
    split at hd
    · cases hd
    rename_i hl
    cases hd
    refine ⟨l1, l2, l3, ?_, e1, a1, e2, a2, ap, e3, a3, fun x hx => ?_, a4.put⟩
    · show (putK (·.name) c.svc m.svcs).length ≤ 100
      rw [putK_len a4]
      split
      · rename_i g
        have : ¬ 100 ≤ m.svcs.length := fun h => hl ⟨g, h⟩
        omega
      · exact l4
    · rcases putK_mem hx with rfl | hx
      · exact hp
      · exact e4 x hx
theorem doV_err {m : MacV} {c : ChgV} {e : Int} (h : doV m c = .error e) : ¬ e = 0 := by
  unfold doV at h
  repeat' split at h
  all_goals first | (cases h; done) | (cases h; assumption) | (cases h; omega)
theorem doAll_ok : ∀ {l : List ChgV} {m n : MacV}, MacOK m → doAll m l = .ok n → MacOK n
  | [], m, n, h, hd => by cases hd; exact h
  | c :: l, m, n, h, hd => by
    unfold doAll at hd
    split at hd
    · rename_i k hk
      exact doAll_ok (doV_ok h hk) hd
    · cases hd
end Go.Proofs

/- Machines as texts: what is written is read; plain Lean, no program. -/
namespace Go.Proofs
open Go Go.Abs
set_option linter.unusedSimpArgs false
set_option linter.unusedVariables false
def factLn (s : SetV) : Bytes := wFact ++ [32] ++ s.key ++ [32] ++ quoteB s.value
def fileLn (f : FileV) : Bytes := (if f.runs = true then wRun else wFile) ++ [32] ++ f.path ++ [32] ++ quoteB f.data
def setLn (s : SetV) : Bytes := wSet ++ [32] ++ s.key ++ [32] ++ quoteB s.value
def svcLn (s : SvcV) : Bytes := wService ++ [32] ++ svcLine s
def linesT {α : Type} (ln : α → Bytes) (l : List α) : Bytes := (l.map fun x => ln x ++ [10]).flatten
theorem linesT_take {α : Type} {ln : α → Bytes} {l : List α} {i : Nat} {c : α} (h : l[i]? = some c) : linesT ln (l.take (i + 1)) = linesT ln (l.take i) ++ (ln c ++ [10]) := by
  unfold linesT
  rw [List.take_add_one, h]
  simp
theorem linesT_le {α : Type} (ln : α → Bytes) (l : List α) (i : Nat) : (linesT ln (l.take i)).length ≤ (linesT ln l).length := by
  have e : linesT ln l = linesT ln (l.take i) ++ linesT ln (l.drop i) := by
    unfold linesT
    rw [← List.flatten_append, ← List.map_append, List.take_append_drop]
  rw [e, List.length_append]
  omega
def macText (m : MacV) : Bytes := linesT factLn m.facts ++ linesT fileLn m.files ++ linesT setLn m.sets ++ linesT svcLn m.svcs
/-- A thing's line is read. -/
theorem read_one {ln : Bytes} {s s2 : MacV × Int} (h : lineM s ln = some s2) (h10 : ∀ x ∈ ln, x ≠ 10) (rest : Bytes) (n : Nat) : rdL lineM s n (splitB 10 (ln ++ [10] ++ rest)) = rdL lineM s2 (n + 1) (splitB 10 rest) := by
  have e : ln ++ [10] ++ rest = ln ++ 10 :: rest := by simp
  rw [rdL_cut, e, if_neg (by simp), cutB_app h10]
  simp only
  rw [h]
theorem app10 {a b : Bytes} (h1 : ∀ x ∈ a, x ≠ 10) (h2 : ∀ x ∈ b, x ≠ 10) : ∀ x ∈ a ++ b, x ≠ 10 := fun x hx => by
  rcases List.mem_append.1 hx with h | h
  · exact h1 x h
  · exact h2 x h
theorem restV_fact (k v : Bytes) (two : Bool) : restV wFact k v two = (⟨wFact, .zero, ⟨k, unqD v⟩, .zero⟩, two && (unq v).isSome) := by
  unfold restV
  rw [if_pos (.inl rfl)]
theorem restV_file {w : Bytes} (hw : w = wFile ∨ w = wRun) (k v : Bytes) (two : Bool) : restV w k v two = (⟨w, ⟨k, unqD v, decide (w = wRun) || decide (w = wPutrun)⟩, .zero, .zero⟩, two && (unq v).isSome) := by
  unfold restV
  rw [if_neg (by rcases hw with h | h <;> rw [h] <;> decide), if_pos (by rcases hw with h | h <;> simp [h])]
theorem fact_line {x : SetV} (h : nameB x.key = true) (m : MacV) (r : Int) (hr : r ≤ 0) : lineM (m, r) (factLn x) = some ({ m with facts := m.facts ++ [x] }, 0) ∧ ∀ c ∈ factLn x, c ≠ 10 := by
  have hpl := name_plain h
  refine ⟨?_, app10 (app10 (app10 (app10 (by decide) (by decide)) fun c hc => (hpl.2 c hc).2) (by decide)) (quote_ten _)⟩
  unfold lineM factLn
  rw [read_quoted (by decide) hpl, restV_fact]
  simp only [unq_quote, unqD, Option.isSome_some, Bool.and_true, if_true, Option.getD_some]
  unfold stepM
  simp only [show rankV wFact = 0 by decide]
  rw [if_neg (by omega)]
  rfl
theorem file_line {x : FileV} (h : pathB x.path = true) (m : MacV) (r : Int) (hr : r ≤ 1) : lineM (m, r) (fileLn x) = some ({ m with files := m.files ++ [x] }, 1) ∧ ∀ c ∈ fileLn x, c ≠ 10 := by
  have hpl := path_plain h
  unfold fileLn
  obtain ⟨w, hw, hw2⟩ : ∃ w, (if x.runs = true then wRun else wFile) = w ∧ (w = wFile ∨ w = wRun) := ⟨_, rfl, by split <;> simp⟩
  have hr2 : (decide (w = wRun) || decide (w = wPutrun)) = x.runs := by
    rw [← hw]
    cases x.runs <;> decide
  have hw3 : (∀ c ∈ w, c ≠ 32) ∧ (∀ c ∈ w, c ≠ 10) ∧ rankV w = 1 := by rcases hw2 with rfl | rfl <;> decide
  rw [hw]
  refine ⟨?_, app10 (app10 (app10 (app10 hw3.2.1 (by decide)) fun c hc => (hpl.2 c hc).2) (by decide)) (quote_ten _)⟩
  unfold lineM
  rw [read_quoted hw3.1 hpl, restV_file hw2, hr2]
  simp only [unq_quote, unqD, Option.isSome_some, Bool.and_true, if_true, Option.getD_some]
  unfold stepM
  simp only [hw3.2.2]
  rw [if_neg (by omega)]
  rfl
theorem set_line {x : SetV} (h : pathB x.key = true) (m : MacV) (r : Int) (hr : r ≤ 2) : lineM (m, r) (setLn x) = some ({ m with sets := m.sets ++ [x] }, 2) ∧ ∀ c ∈ setLn x, c ≠ 10 := by
  have hpl := path_plain h
  refine ⟨?_, app10 (app10 (app10 (app10 (by decide) (by decide)) fun c hc => (hpl.2 c hc).2) (by decide)) (quote_ten _)⟩
  unfold lineM setLn
  rw [read_quoted (by decide) hpl, restV_set]
  simp only [unq_quote, unqD, Option.isSome_some, Bool.and_true, if_true, Option.getD_some]
  unfold stepM
  simp only [show rankV wSet = 2 by decide]
  rw [if_neg (by omega)]
  rfl
theorem svc_line {x : SvcV} (h : nameB x.name = true ∧ pathB x.path = true) (m : MacV) (r : Int) (hr : r ≤ 3) : lineM (m, r) (svcLn x) = some ({ m with svcs := m.svcs ++ [x] }, 3) ∧ ∀ c ∈ svcLn x, c ≠ 10 := by
  have hnl := name_plain h.1
  have hpl := path_plain h.2
  refine ⟨?_, app10 (app10 (by decide) (by decide)) ?_⟩
  · unfold lineM svcLn
    rw [read_service h]
    simp only [if_true]
    unfold stepM
    simp only [show rankV wService = 3 by decide]
    rw [if_neg (by omega)]
    rfl
  · unfold svcLine
    exact app10 (app10 (app10 (app10 (app10 (app10 (fun x hx => (hnl.2 x hx).2) (by decide)) fun x hx => (hpl.2 x hx).2) (by decide)) fun x hx => (bit_plain _ x hx).2) (by decide)) fun x hx => (bit_plain _ x hx).2
/-- Things of a kind are read, one by one. -/
theorem read_list {α : Type} {ln : α → Bytes} {ok : α → Prop} {add : MacV → α → MacV} {k : Int} (h : ∀ x, ok x → ∀ m r, r ≤ k → lineM (m, r) (ln x) = some (add m x, k) ∧ ∀ c ∈ ln x, c ≠ 10) (rest : Bytes) :
    ∀ (l : List α) (m : MacV) (r : Int) (n : Nat), (∀ x ∈ l, ok x) → r ≤ k → ∃ r2, r2 ≤ k ∧ rdL lineM (m, r) n (splitB 10 (linesT ln l ++ rest)) = rdL lineM (l.foldl add m, r2) (n + l.length) (splitB 10 rest)
  | [], m, r, n, _, hr => ⟨r, hr, rfl⟩
  | x :: l, m, r, n, hl, hr => by
    obtain ⟨h1, h2⟩ := h x (hl x (List.mem_cons_self ..)) m r hr
    obtain ⟨r2, h3, h4⟩ := read_list h rest l (add m x) k (n + 1) (fun y hy => hl y (List.mem_cons_of_mem _ hy)) (Int.le_refl _)
    refine ⟨r2, h3, ?_⟩
    have e : linesT ln (x :: l) ++ rest = ln x ++ [10] ++ (linesT ln l ++ rest) := by simp [linesT]
    rw [e, read_one h1 h2, h4, List.foldl_cons, List.length_cons]
    congr 1
    omega
theorem fold_facts (l : List SetV) (m : MacV) : l.foldl (fun m x => { m with facts := m.facts ++ [x] }) m = { m with facts := m.facts ++ l } := by
  induction l generalizing m with
  | nil => simp
  | cons x l ih => rw [List.foldl_cons, ih]; simp
theorem fold_files (l : List FileV) (m : MacV) : l.foldl (fun m x => { m with files := m.files ++ [x] }) m = { m with files := m.files ++ l } := by
  induction l generalizing m with
  | nil => simp
  | cons x l ih => rw [List.foldl_cons, ih]; simp
theorem fold_sets (l : List SetV) (m : MacV) : l.foldl (fun m x => { m with sets := m.sets ++ [x] }) m = { m with sets := m.sets ++ l } := by
  induction l generalizing m with
  | nil => simp
  | cons x l ih => rw [List.foldl_cons, ih]; simp
theorem fold_svcs (l : List SvcV) (m : MacV) : l.foldl (fun m x => { m with svcs := m.svcs ++ [x] }) m = { m with svcs := m.svcs ++ l } := by
  induction l generalizing m with
  | nil => simp
  | cons x l ih => rw [List.foldl_cons, ih]; simp
theorem setErr_path {f : SetV} (h : setErr f = 0) : pathB f.key = true := by
  unfold setErr at h
  cases hh : pathB f.key with
  | true => rfl
  | false => rw [hh] at h; simp at h
theorem factErr_name {f : SetV} (h : factErr f = 0) : nameB f.key = true := by
  unfold factErr at h
  cases hh : nameB f.key with
  | true => rfl
  | false => rw [hh] at h; simp at h
theorem fileErr_path {f : FileV} (h : fileErr f = 0) : pathB f.path = true := by
  unfold fileErr at h
  cases hh : pathB f.path with
  | true => rfl
  | false => rw [hh] at h; simp at h
theorem svcErr_both {f : SvcV} (h : svcErr f = 0) : nameB f.name = true ∧ pathB f.path = true := by
  unfold svcErr at h
  split at h
  · cases h
  · exact ⟨by simp_all, by simp_all⟩
theorem parse_printM {m : MacV} (h : MacOK m) (hl : (macText m).length ≤ 4194304) : parseMV (macText m) = (m, 0, 0) := by
  have hz := (macErr_ok m).2 h
  unfold parseMV
  rw [if_neg (by omega)]
  have e : macText m = linesT factLn m.facts ++ (linesT fileLn m.files ++ (linesT setLn m.sets ++ (linesT svcLn m.svcs ++ []))) := by simp [macText]
  rw [e]
  obtain ⟨a1, b1, c1⟩ := read_list (ok := fun x => factErr x = 0) (fun x hx m r hr => fact_line (factErr_name hx) m r hr) (linesT fileLn m.files ++ (linesT setLn m.sets ++ (linesT svcLn m.svcs ++ []))) m.facts .zero 0 0 h.e1 (Int.le_refl _)
  rw [c1]
  obtain ⟨a2, b2, c2⟩ := read_list (ok := fun x => fileErr x = 0) (fun x hx m r hr => file_line (fileErr_path hx) m r hr) (linesT setLn m.sets ++ (linesT svcLn m.svcs ++ [])) m.files (m.facts.foldl (fun m x => { m with facts := m.facts ++ [x] }) .zero) a1 (0 + m.facts.length) h.e2 (by omega)
  rw [c2]
  obtain ⟨a3, b3, c3⟩ := read_list (ok := fun x => setErr x = 0) (fun x hx m r hr => set_line (setErr_path hx) m r hr) (linesT svcLn m.svcs ++ []) m.sets (m.files.foldl (fun m x => { m with files := m.files ++ [x] }) (m.facts.foldl (fun m x => { m with facts := m.facts ++ [x] }) .zero)) a2 (0 + m.facts.length + m.files.length) h.e3 (by omega)
  rw [c3]
  obtain ⟨a4, b4, c4⟩ := read_list (ok := fun x => svcErr x = 0) (fun x hx m r hr => svc_line (svcErr_both hx) m r hr) [] m.svcs (m.sets.foldl (fun m x => { m with sets := m.sets ++ [x] }) (m.files.foldl (fun m x => { m with files := m.files ++ [x] }) (m.facts.foldl (fun m x => { m with facts := m.facts ++ [x] }) .zero))) a3 (0 + m.facts.length + m.files.length + m.sets.length) h.e4 (by omega)
  rw [c4, fold_facts, fold_files, fold_sets, fold_svcs]
  rw [rdL_cut, if_pos rfl]
  simp only [MacV.zero, List.nil_append]
  obtain ⟨q1, q2, q3, q4⟩ := m
  simp [hz]
end Go.Proofs

/- Walks: a machine is written, on both sides. -/
namespace Go.Proofs
open Go Go.Abs
open Nat (reduceEqDiff reduceAdd reduceLeDiff reduceLT reduceMul)
open Int (reduceEq reduceLE reduceSub reduceToNat)
set_option linter.unusedSimpArgs false
set_option linter.unusedVariables false
set_option maxRecDepth 20000
noncomputable def sSvW2 := spF (fun f : SvcV => [.agg (encSvc f)]) svcR (fun s => .str (svcLine s))
theorem sSvW2_eq (n p : Bytes) (u v : Bool) (h : svcR ⟨n, p, u, v⟩) : sSvW2 [.agg [.str n, .str p, .bool u, .bool v]] = some (.str (svcLine ⟨n, p, u, v⟩)) :=
  spF_eq (enc := fun f : SvcV => [.agg (encSvc f)]) (fun a b e => by
    obtain ⟨x1, x2, x3, x4⟩ := a
    obtain ⟨y1, y2, y3, y4⟩ := b
    cases e; rfl) ⟨n, p, u, v⟩ h
noncomputable def puTP : Pures := putP 59 sSvW2 puCP1
theorem puTP_dyn : isDyn puTP = false := by simp only [puTP, go_sem, Nat.reduceEqDiff]
attribute [go_sem] puTP_dyn
theorem puTP_ok : PuOK Tryz.prog puTP := .put (puCP1_ok) (spF_ok fun f H h => serviceWords_calls f H h)
def BldM (H : Heap) (im b : Nat) (s : Bytes) (r : Regs) (G : Heap) : Prop := BldOK H G b s ∧ r 1 = .ptr im 0 ∧ r 3 = bldP b
/-- The text so far. -/
def upTo (m : MacV) : Nat → Bytes
  | 0 => []
  | 1 => linesT factLn m.facts
  | 2 => linesT factLn m.facts ++ linesT fileLn m.files
  | 3 => linesT factLn m.facts ++ linesT fileLn m.files ++ linesT setLn m.sets
  | _ => macText m
set_option maxHeartbeats 12800000 in
theorem machineText_calls (m : MacV) (ta tb tc td : Tail) (H : Heap) (hr : macR m) (hT : (macText m).length ≤ 140737488355328) :
    ACalls Tryz.prog 61 [.agg (encMac m ta tb tc td)] H fun x H' => x = .str (macText m) ∧ H' = H := by
  obtain ⟨⟨l1, l2, l3, l4⟩, r1, r2, r3, r4⟩ := hr
  have hS := Heap.Sub.rfl' H
  have hlen : (macText m).length = (linesT factLn m.facts).length + (linesT fileLn m.files).length + (linesT setLn m.sets).length + (linesT svcLn m.svcs).length := by simp [macText]; omega
  refine ACalls.of_code (X := { pure := puTP, ms := fun t => decide (t = 3) }) puTP_ok Tryz.func61 (by kernel_rfl) rfl (by kernel_rfl) (Nat.le_of_ble_eq_true rfl) ?_
  simp -implicitDefEqProofs only [go_sem, reduceEqDiff, reduceAdd, reduceLeDiff, reduceLT, reduceMul, reduceEq, Int.reduceLT, reduceLE, Int.reduceAdd, reduceSub, reduceToNat, UInt8.reduceToNat, Tryz.f61, encMac]
  with_reducible refine nwC_intro fun im him => ?_
  generalize Em : Heap.put H im _ = G1
  have hO_m := obj_new Em him hS
  have nm := hO_m.1
  have hS := hO_m.2.1
  have gm := hO_m.2.2.1
  clear hO_m
  simp -implicitDefEqProofs only [go_sem, reduceEqDiff, reduceAdd, reduceLeDiff, reduceLT, reduceMul, reduceEq, Int.reduceLT, reduceLE, Int.reduceAdd, reduceSub, reduceToNat, UInt8.reduceToNat]
  with_reducible refine nwT_intro fun b hb => ?_
  simp -implicitDefEqProofs only [go_sem, reduceEqDiff, reduceAdd, reduceLeDiff, reduceLT, reduceMul, reduceEq, Int.reduceLT, reduceLE, Int.reduceAdd, reduceSub, reduceToNat, UInt8.reduceToNat]
  have gm2 : (G1.put b (.cells [.nilp, .snil])) im = _ := (put_ne _ _ _ _ (obj_ne gm hb)).trans gm
  have hB := BldG.new (Heap.Sub.rfl' G1) hb
  generalize G1.put b (.cells [.nilp, .snil]) = G0 at *
  simp -implicitDefEqProofs only [go_sem, reduceEqDiff, reduceAdd, reduceLeDiff, reduceLT, reduceMul, reduceEq, Int.reduceLT, reduceLE, Int.reduceAdd, reduceSub, reduceToNat, UInt8.reduceToNat, gm2]
  with_reducible refine aloop_cut 0 (BldM G1 im b (upTo m 1)) ?_ ?_
  rotate_left
  · refine aloop_intro (σ := Nat) (fun i => [(1, .ptr im 0), (3, bldP b), (13, .sl (m.facts.map encSet) ta), (14, .int .i64 m.facts.length), (15, .int .i64 i)])
      (fun i G => i ≤ m.facts.length ∧ BldOK G1 G b (upTo m 0 ++ linesT factLn (m.facts.take i))) (fun i => m.facts.length - i) 0 ?_ ?_ ?_
    · simp -implicitDefEqProofs only [go_sem, reduceEqDiff, reduceAdd, reduceLeDiff, reduceLT, reduceMul, reduceEq, Int.reduceLT, reduceLE, Int.reduceAdd, reduceSub, reduceToNat, UInt8.reduceToNat, bldP]
    · exact ⟨Nat.zero_le _, by simpa [linesT, upTo] using hB⟩
    clear hB
    rintro i r G hv ⟨hi, hB⟩
    have e1 := hv.1
    have e3 := hv.2.1
    have ea := hv.2.2.1
    have eb := hv.2.2.2.1
    have ec := hv.2.2.2.2.1
    clear hv
    by_cases g : i < m.facts.length
    rotate_left
    · have y0 : decide ((i : Int) < m.facts.length) = false := decide_eq_false (by omega)
      obtain rfl : i = m.facts.length := by omega
      rw [List.take_length] at hB
      simp -implicitDefEqProofs only [go_sem, reduceEqDiff, reduceAdd, reduceLeDiff, reduceLT, reduceMul, reduceEq, Int.reduceLT, reduceLE, Int.reduceAdd, reduceSub, reduceToNat, UInt8.reduceToNat, e1, e3, ea, eb, ec, y0]
      exact ⟨hB, by simp -implicitDefEqProofs only [go_sem, reduceEqDiff, reduceAdd, reduceLeDiff, reduceLT, reduceMul, reduceEq, Int.reduceLT, reduceLE, Int.reduceAdd, reduceSub, reduceToNat, UInt8.reduceToNat, e1], by simp -implicitDefEqProofs only [go_sem, reduceEqDiff, reduceAdd, reduceLeDiff, reduceLT, reduceMul, reduceEq, Int.reduceLT, reduceLE, Int.reduceAdd, reduceSub, reduceToNat, UInt8.reduceToNat, e3]⟩
    have y0 : decide ((i : Int) < m.facts.length) = true := decide_eq_true (by omega)
    obtain ⟨x, hx⟩ : ∃ x, m.facts[i]? = some x := getD_get' g
    have hxr := r1 x (List.mem_of_getElem? hx)
    have ws : IntKind.i64.wrap ((i : Int) + 1) = ((i + 1 : Nat) : Int) := by rw [Go.IntWalk.i64_in _ (by omega)]; omega
    have hU : ∀ (a : SetV), a ∈ m.facts → (encSet a).length = 2 := fun _ _ => rfl
    have hn := linesT_take (ln := factLn) hx
    have hle := linesT_le factLn m.facts (i + 1)
    have hup : (upTo m 0).length + (linesT factLn m.facts).length ≤ (macText m).length := by
      rw [hlen]
      simp only [upTo, List.length_append, List.length_nil]
      omega
    obtain ⟨p, d⟩ := x
    have fin : ∀ s, s = factLn ⟨p, d⟩ ++ [10] → ∀ G7, BldOK G1 G7 b (upTo m 0 ++ linesT factLn (m.facts.take i)) → ∀ K : K1, (∀ G', BldOK G1 G' b (upTo m 0 ++ linesT factLn (m.facts.take (i + 1))) → K (.tup [.int .i64 s.length, .nilIface]) G') → ACalls Tryz.prog 56 [bldP b, .str s] G7 K := by
      intro s hs G7 hB7 K hK
      rw [hn, ← hs, List.length_append] at hle
      refine writeString_k hB7 (by rw [List.length_append]; omega) fun G' hB' _ => hK G' ?_
      rw [hn, ← hs, ← List.append_assoc]; exact hB'
    simp -implicitDefEqProofs only [go_sem, reduceEqDiff, reduceAdd, reduceLeDiff, reduceLT, reduceMul, reduceEq, Int.reduceLT, reduceLE, Int.reduceAdd, reduceSub, reduceToNat, UInt8.reduceToNat, e1, e3, ea, eb, ec, y0, hx]
    refine ⟨hU, Nat.le_refl _, ?_⟩
    simp only [encSet, List.take_succ_cons, List.take_zero, List.take_nil]
    with_reducible refine nwC_intro fun i7 hi7 => ?_
    replace hB := BldG.put hB hi7 (.cells [.str p, .str d])
    have g7 := put_same G i7 (.cells [.str p, .str d])
    try simp -implicitDefEqProofs only [go_sem, reduceEqDiff, reduceAdd, reduceLeDiff, reduceLT, reduceMul, reduceEq, Int.reduceLT, reduceLE, Int.reduceAdd, reduceSub, reduceToNat, UInt8.reduceToNat]
    generalize G.put i7 (.cells [.str p, .str d]) = G7 at *
    have hsl := settingLine_calls wFact ⟨p, d⟩ G7 (by decide) hxr
    simp only [encSet, wFact, wSet] at hsl
    try simp -implicitDefEqProofs only [go_sem, reduceEqDiff, reduceAdd, reduceLeDiff, reduceLT, reduceMul, reduceEq, Int.reduceLT, reduceLE, Int.reduceAdd, reduceSub, reduceToNat, UInt8.reduceToNat, e1, e3, ea, eb, ec, g7]
    refine hsl.pure_next _ ?_
    try simp -implicitDefEqProofs only [go_sem, reduceEqDiff, reduceAdd, reduceLeDiff, reduceLT, reduceMul, reduceEq, Int.reduceLT, reduceLE, Int.reduceAdd, reduceSub, reduceToNat, UInt8.reduceToNat, e1, e3, ea, eb, ec]
    try refine ⟨by omega, by omega, ?_⟩
    refine fin _ ?_ G7 hB _ fun G' hB' => ?_
    · simp [factLn, wFact, wFile, wRun, wSet, wService]
    simp -implicitDefEqProofs only [go_sem, reduceEqDiff, reduceAdd, reduceLeDiff, reduceLT, reduceMul, reduceEq, Int.reduceLT, reduceLE, Int.reduceAdd, reduceSub, reduceToNat, UInt8.reduceToNat, e1, e3, ea, eb, ec, ws]
    exact Again.mk (i + 1) (by simp -implicitDefEqProofs only [go_sem, reduceEqDiff, reduceAdd, reduceLeDiff, reduceLT, reduceMul, reduceEq, Int.reduceLT, reduceLE, Int.reduceAdd, reduceSub, reduceToNat, UInt8.reduceToNat, e1, e3, ea, eb]) ⟨by omega, hB'⟩ (by omega)
  clear hB
  rintro r G ⟨hB, e1, e3⟩
  have gm3 := hB.sub _ _ gm
  simp -implicitDefEqProofs only [go_sem, reduceEqDiff, reduceAdd, reduceLeDiff, reduceLT, reduceMul, reduceEq, Int.reduceLT, reduceLE, Int.reduceAdd, reduceSub, reduceToNat, UInt8.reduceToNat, e1, e3, gm3]
  clear gm3
  with_reducible refine aloop_cut 2 (BldM G1 im b (upTo m 2)) ?_ ?_
  rotate_left
  · refine aloop_intro (σ := Nat) (fun i => [(1, .ptr im 0), (3, bldP b), (24, .sl (m.files.map encFile) tb), (25, .int .i64 m.files.length), (26, .int .i64 i)])
      (fun i G => i ≤ m.files.length ∧ BldOK G1 G b (upTo m 1 ++ linesT fileLn (m.files.take i))) (fun i => m.files.length - i) 0 ?_ ?_ ?_
    · simp -implicitDefEqProofs only [go_sem, reduceEqDiff, reduceAdd, reduceLeDiff, reduceLT, reduceMul, reduceEq, Int.reduceLT, reduceLE, Int.reduceAdd, reduceSub, reduceToNat, UInt8.reduceToNat, e1, e3, bldP]
    · exact ⟨Nat.zero_le _, by simpa [linesT, upTo] using hB⟩
    clear hB e1 e3
    rintro i r G hv ⟨hi, hB⟩
    have e1 := hv.1
    have e3 := hv.2.1
    have ea := hv.2.2.1
    have eb := hv.2.2.2.1
    have ec := hv.2.2.2.2.1
    clear hv
    by_cases g : i < m.files.length
    rotate_left
    · have y0 : decide ((i : Int) < m.files.length) = false := decide_eq_false (by omega)
      obtain rfl : i = m.files.length := by omega
      rw [List.take_length] at hB
      simp -implicitDefEqProofs only [go_sem, reduceEqDiff, reduceAdd, reduceLeDiff, reduceLT, reduceMul, reduceEq, Int.reduceLT, reduceLE, Int.reduceAdd, reduceSub, reduceToNat, UInt8.reduceToNat, e1, e3, ea, eb, ec, y0]
      exact ⟨hB, by simp -implicitDefEqProofs only [go_sem, reduceEqDiff, reduceAdd, reduceLeDiff, reduceLT, reduceMul, reduceEq, Int.reduceLT, reduceLE, Int.reduceAdd, reduceSub, reduceToNat, UInt8.reduceToNat, e1], by simp -implicitDefEqProofs only [go_sem, reduceEqDiff, reduceAdd, reduceLeDiff, reduceLT, reduceMul, reduceEq, Int.reduceLT, reduceLE, Int.reduceAdd, reduceSub, reduceToNat, UInt8.reduceToNat, e3]⟩
    have y0 : decide ((i : Int) < m.files.length) = true := decide_eq_true (by omega)
    obtain ⟨x, hx⟩ : ∃ x, m.files[i]? = some x := getD_get' g
    have hxr := r2 x (List.mem_of_getElem? hx)
    have ws : IntKind.i64.wrap ((i : Int) + 1) = ((i + 1 : Nat) : Int) := by rw [Go.IntWalk.i64_in _ (by omega)]; omega
    have hU : ∀ (a : FileV), a ∈ m.files → (encFile a).length = 3 := fun _ _ => rfl
    have hn := linesT_take (ln := fileLn) hx
    have hle := linesT_le fileLn m.files (i + 1)
    have hup : (upTo m 1).length + (linesT fileLn m.files).length ≤ (macText m).length := by
      rw [hlen]
      simp only [upTo, List.length_append, List.length_nil]
      omega
    obtain ⟨p, d, ru⟩ := x
    have fin : ∀ s, s = fileLn ⟨p, d, ru⟩ ++ [10] → ∀ G7, BldOK G1 G7 b (upTo m 1 ++ linesT fileLn (m.files.take i)) → ∀ K : K1, (∀ G', BldOK G1 G' b (upTo m 1 ++ linesT fileLn (m.files.take (i + 1))) → K (.tup [.int .i64 s.length, .nilIface]) G') → ACalls Tryz.prog 56 [bldP b, .str s] G7 K := by
      intro s hs G7 hB7 K hK
      rw [hn, ← hs, List.length_append] at hle
      refine writeString_k hB7 (by rw [List.length_append]; omega) fun G' hB' _ => hK G' ?_
      rw [hn, ← hs, ← List.append_assoc]; exact hB'
    simp -implicitDefEqProofs only [go_sem, reduceEqDiff, reduceAdd, reduceLeDiff, reduceLT, reduceMul, reduceEq, Int.reduceLT, reduceLE, Int.reduceAdd, reduceSub, reduceToNat, UInt8.reduceToNat, e1, e3, ea, eb, ec, y0, hx]
    refine ⟨hU, Nat.le_refl _, ?_⟩
    simp only [encFile, List.take_succ_cons, List.take_zero, List.take_nil]
    with_reducible refine nwC_intro fun i7 hi7 => ?_
    replace hB := BldG.put hB hi7 (.cells [.str p, .str d, .bool ru])
    have g7 := put_same G i7 (.cells [.str p, .str d, .bool ru])
    try simp -implicitDefEqProofs only [go_sem, reduceEqDiff, reduceAdd, reduceLeDiff, reduceLT, reduceMul, reduceEq, Int.reduceLT, reduceLE, Int.reduceAdd, reduceSub, reduceToNat, UInt8.reduceToNat]
    generalize G.put i7 (.cells [.str p, .str d, .bool ru]) = G7 at *
    have hsl := fileLine_calls wFile wRun ⟨p, d, ru⟩ G7 (by decide) (by decide) hxr
    simp only [encFile, wFile, wRun] at hsl
    try simp -implicitDefEqProofs only [go_sem, reduceEqDiff, reduceAdd, reduceLeDiff, reduceLT, reduceMul, reduceEq, Int.reduceLT, reduceLE, Int.reduceAdd, reduceSub, reduceToNat, UInt8.reduceToNat, e1, e3, ea, eb, ec, g7]
    refine hsl.pure_next _ ?_
    try simp -implicitDefEqProofs only [go_sem, reduceEqDiff, reduceAdd, reduceLeDiff, reduceLT, reduceMul, reduceEq, Int.reduceLT, reduceLE, Int.reduceAdd, reduceSub, reduceToNat, UInt8.reduceToNat, e1, e3, ea, eb, ec]
    try refine ⟨by omega, by omega, ?_⟩
    refine fin _ ?_ G7 hB _ fun G' hB' => ?_
    · simp [fileLn, wFact, wFile, wRun, wSet, wService]
    simp -implicitDefEqProofs only [go_sem, reduceEqDiff, reduceAdd, reduceLeDiff, reduceLT, reduceMul, reduceEq, Int.reduceLT, reduceLE, Int.reduceAdd, reduceSub, reduceToNat, UInt8.reduceToNat, e1, e3, ea, eb, ec, ws]
    exact Again.mk (i + 1) (by simp -implicitDefEqProofs only [go_sem, reduceEqDiff, reduceAdd, reduceLeDiff, reduceLT, reduceMul, reduceEq, Int.reduceLT, reduceLE, Int.reduceAdd, reduceSub, reduceToNat, UInt8.reduceToNat, e1, e3, ea, eb]) ⟨by omega, hB'⟩ (by omega)
  clear hB e1 e3
  rintro r G ⟨hB, e1, e3⟩
  have gm3 := hB.sub _ _ gm
  simp -implicitDefEqProofs only [go_sem, reduceEqDiff, reduceAdd, reduceLeDiff, reduceLT, reduceMul, reduceEq, Int.reduceLT, reduceLE, Int.reduceAdd, reduceSub, reduceToNat, UInt8.reduceToNat, e1, e3, gm3]
  clear gm3
  with_reducible refine aloop_cut 4 (BldM G1 im b (upTo m 3)) ?_ ?_
  rotate_left
  · refine aloop_intro (σ := Nat) (fun i => [(1, .ptr im 0), (3, bldP b), (35, .sl (m.sets.map encSet) tc), (36, .int .i64 m.sets.length), (37, .int .i64 i)])
      (fun i G => i ≤ m.sets.length ∧ BldOK G1 G b (upTo m 2 ++ linesT setLn (m.sets.take i))) (fun i => m.sets.length - i) 0 ?_ ?_ ?_
    · simp -implicitDefEqProofs only [go_sem, reduceEqDiff, reduceAdd, reduceLeDiff, reduceLT, reduceMul, reduceEq, Int.reduceLT, reduceLE, Int.reduceAdd, reduceSub, reduceToNat, UInt8.reduceToNat, e1, e3, bldP]
    · exact ⟨Nat.zero_le _, by simpa [linesT, upTo] using hB⟩
    clear hB e1 e3
    rintro i r G hv ⟨hi, hB⟩
    have e1 := hv.1
    have e3 := hv.2.1
    have ea := hv.2.2.1
    have eb := hv.2.2.2.1
    have ec := hv.2.2.2.2.1
    clear hv
    by_cases g : i < m.sets.length
    rotate_left
    · have y0 : decide ((i : Int) < m.sets.length) = false := decide_eq_false (by omega)
      obtain rfl : i = m.sets.length := by omega
      rw [List.take_length] at hB
      simp -implicitDefEqProofs only [go_sem, reduceEqDiff, reduceAdd, reduceLeDiff, reduceLT, reduceMul, reduceEq, Int.reduceLT, reduceLE, Int.reduceAdd, reduceSub, reduceToNat, UInt8.reduceToNat, e1, e3, ea, eb, ec, y0]
      exact ⟨hB, by simp -implicitDefEqProofs only [go_sem, reduceEqDiff, reduceAdd, reduceLeDiff, reduceLT, reduceMul, reduceEq, Int.reduceLT, reduceLE, Int.reduceAdd, reduceSub, reduceToNat, UInt8.reduceToNat, e1], by simp -implicitDefEqProofs only [go_sem, reduceEqDiff, reduceAdd, reduceLeDiff, reduceLT, reduceMul, reduceEq, Int.reduceLT, reduceLE, Int.reduceAdd, reduceSub, reduceToNat, UInt8.reduceToNat, e3]⟩
    have y0 : decide ((i : Int) < m.sets.length) = true := decide_eq_true (by omega)
    obtain ⟨x, hx⟩ : ∃ x, m.sets[i]? = some x := getD_get' g
    have hxr := r3 x (List.mem_of_getElem? hx)
    have ws : IntKind.i64.wrap ((i : Int) + 1) = ((i + 1 : Nat) : Int) := by rw [Go.IntWalk.i64_in _ (by omega)]; omega
    have hU : ∀ (a : SetV), a ∈ m.sets → (encSet a).length = 2 := fun _ _ => rfl
    have hn := linesT_take (ln := setLn) hx
    have hle := linesT_le setLn m.sets (i + 1)
    have hup : (upTo m 2).length + (linesT setLn m.sets).length ≤ (macText m).length := by
      rw [hlen]
      simp only [upTo, List.length_append, List.length_nil]
      omega
    obtain ⟨p, d⟩ := x
    have fin : ∀ s, s = setLn ⟨p, d⟩ ++ [10] → ∀ G7, BldOK G1 G7 b (upTo m 2 ++ linesT setLn (m.sets.take i)) → ∀ K : K1, (∀ G', BldOK G1 G' b (upTo m 2 ++ linesT setLn (m.sets.take (i + 1))) → K (.tup [.int .i64 s.length, .nilIface]) G') → ACalls Tryz.prog 56 [bldP b, .str s] G7 K := by
      intro s hs G7 hB7 K hK
      rw [hn, ← hs, List.length_append] at hle
      refine writeString_k hB7 (by rw [List.length_append]; omega) fun G' hB' _ => hK G' ?_
      rw [hn, ← hs, ← List.append_assoc]; exact hB'
    simp -implicitDefEqProofs only [go_sem, reduceEqDiff, reduceAdd, reduceLeDiff, reduceLT, reduceMul, reduceEq, Int.reduceLT, reduceLE, Int.reduceAdd, reduceSub, reduceToNat, UInt8.reduceToNat, e1, e3, ea, eb, ec, y0, hx]
    refine ⟨hU, Nat.le_refl _, ?_⟩
    simp only [encSet, List.take_succ_cons, List.take_zero, List.take_nil]
    with_reducible refine nwC_intro fun i7 hi7 => ?_
    replace hB := BldG.put hB hi7 (.cells [.str p, .str d])
    have g7 := put_same G i7 (.cells [.str p, .str d])
    try simp -implicitDefEqProofs only [go_sem, reduceEqDiff, reduceAdd, reduceLeDiff, reduceLT, reduceMul, reduceEq, Int.reduceLT, reduceLE, Int.reduceAdd, reduceSub, reduceToNat, UInt8.reduceToNat]
    generalize G.put i7 (.cells [.str p, .str d]) = G7 at *
    have hsl := settingLine_calls wSet ⟨p, d⟩ G7 (by decide) hxr
    simp only [encSet, wFact, wSet] at hsl
    try simp -implicitDefEqProofs only [go_sem, reduceEqDiff, reduceAdd, reduceLeDiff, reduceLT, reduceMul, reduceEq, Int.reduceLT, reduceLE, Int.reduceAdd, reduceSub, reduceToNat, UInt8.reduceToNat, e1, e3, ea, eb, ec, g7]
    refine hsl.pure_next _ ?_
    try simp -implicitDefEqProofs only [go_sem, reduceEqDiff, reduceAdd, reduceLeDiff, reduceLT, reduceMul, reduceEq, Int.reduceLT, reduceLE, Int.reduceAdd, reduceSub, reduceToNat, UInt8.reduceToNat, e1, e3, ea, eb, ec]
    try refine ⟨by omega, by omega, ?_⟩
    refine fin _ ?_ G7 hB _ fun G' hB' => ?_
    · simp [setLn, wFact, wFile, wRun, wSet, wService]
    simp -implicitDefEqProofs only [go_sem, reduceEqDiff, reduceAdd, reduceLeDiff, reduceLT, reduceMul, reduceEq, Int.reduceLT, reduceLE, Int.reduceAdd, reduceSub, reduceToNat, UInt8.reduceToNat, e1, e3, ea, eb, ec, ws]
    exact Again.mk (i + 1) (by simp -implicitDefEqProofs only [go_sem, reduceEqDiff, reduceAdd, reduceLeDiff, reduceLT, reduceMul, reduceEq, Int.reduceLT, reduceLE, Int.reduceAdd, reduceSub, reduceToNat, UInt8.reduceToNat, e1, e3, ea, eb]) ⟨by omega, hB'⟩ (by omega)
  clear hB e1 e3
  rintro r G ⟨hB, e1, e3⟩
  have gm3 := hB.sub _ _ gm
  simp -implicitDefEqProofs only [go_sem, reduceEqDiff, reduceAdd, reduceLeDiff, reduceLT, reduceMul, reduceEq, Int.reduceLT, reduceLE, Int.reduceAdd, reduceSub, reduceToNat, UInt8.reduceToNat, e1, e3, gm3]
  clear gm3
  with_reducible refine aloop_cut 6 (BldM G1 im b (upTo m 4)) ?_ ?_
  rotate_left
  · refine aloop_intro (σ := Nat) (fun i => [(1, .ptr im 0), (3, bldP b), (46, .sl (m.svcs.map encSvc) td), (47, .int .i64 m.svcs.length), (48, .int .i64 i)])
      (fun i G => i ≤ m.svcs.length ∧ BldOK G1 G b (upTo m 3 ++ linesT svcLn (m.svcs.take i))) (fun i => m.svcs.length - i) 0 ?_ ?_ ?_
    · simp -implicitDefEqProofs only [go_sem, reduceEqDiff, reduceAdd, reduceLeDiff, reduceLT, reduceMul, reduceEq, Int.reduceLT, reduceLE, Int.reduceAdd, reduceSub, reduceToNat, UInt8.reduceToNat, e1, e3, bldP]
    · exact ⟨Nat.zero_le _, by simpa [linesT, upTo] using hB⟩
    clear hB e1 e3
    rintro i r G hv ⟨hi, hB⟩
    have e1 := hv.1
    have e3 := hv.2.1
    have ea := hv.2.2.1
    have eb := hv.2.2.2.1
    have ec := hv.2.2.2.2.1
    clear hv
    by_cases g : i < m.svcs.length
    rotate_left
    · have y0 : decide ((i : Int) < m.svcs.length) = false := decide_eq_false (by omega)
      obtain rfl : i = m.svcs.length := by omega
      rw [List.take_length] at hB
      simp -implicitDefEqProofs only [go_sem, reduceEqDiff, reduceAdd, reduceLeDiff, reduceLT, reduceMul, reduceEq, Int.reduceLT, reduceLE, Int.reduceAdd, reduceSub, reduceToNat, UInt8.reduceToNat, e1, e3, ea, eb, ec, y0]
      exact ⟨hB, by simp -implicitDefEqProofs only [go_sem, reduceEqDiff, reduceAdd, reduceLeDiff, reduceLT, reduceMul, reduceEq, Int.reduceLT, reduceLE, Int.reduceAdd, reduceSub, reduceToNat, UInt8.reduceToNat, e1], by simp -implicitDefEqProofs only [go_sem, reduceEqDiff, reduceAdd, reduceLeDiff, reduceLT, reduceMul, reduceEq, Int.reduceLT, reduceLE, Int.reduceAdd, reduceSub, reduceToNat, UInt8.reduceToNat, e3]⟩
    have y0 : decide ((i : Int) < m.svcs.length) = true := decide_eq_true (by omega)
    obtain ⟨x, hx⟩ : ∃ x, m.svcs[i]? = some x := getD_get' g
    have hxr := r4 x (List.mem_of_getElem? hx)
    have ws : IntKind.i64.wrap ((i : Int) + 1) = ((i + 1 : Nat) : Int) := by rw [Go.IntWalk.i64_in _ (by omega)]; omega
    have hU : ∀ (a : SvcV), a ∈ m.svcs → (encSvc a).length = 4 := fun _ _ => rfl
    have hn := linesT_take (ln := svcLn) hx
    have hle := linesT_le svcLn m.svcs (i + 1)
    have hup : (upTo m 3).length + (linesT svcLn m.svcs).length ≤ (macText m).length := by
      rw [hlen]
      simp only [upTo, List.length_append, List.length_nil]
      omega
    obtain ⟨p, d, au, on⟩ := x
    have fin : ∀ s, s = svcLn ⟨p, d, au, on⟩ ++ [10] → ∀ G7, BldOK G1 G7 b (upTo m 3 ++ linesT svcLn (m.svcs.take i)) → ∀ K : K1, (∀ G', BldOK G1 G' b (upTo m 3 ++ linesT svcLn (m.svcs.take (i + 1))) → K (.tup [.int .i64 s.length, .nilIface]) G') → ACalls Tryz.prog 56 [bldP b, .str s] G7 K := by
      intro s hs G7 hB7 K hK
      rw [hn, ← hs, List.length_append] at hle
      refine writeString_k hB7 (by rw [List.length_append]; omega) fun G' hB' _ => hK G' ?_
      rw [hn, ← hs, ← List.append_assoc]; exact hB'
    simp -implicitDefEqProofs only [go_sem, reduceEqDiff, reduceAdd, reduceLeDiff, reduceLT, reduceMul, reduceEq, Int.reduceLT, reduceLE, Int.reduceAdd, reduceSub, reduceToNat, UInt8.reduceToNat, e1, e3, ea, eb, ec, y0, hx]
    refine ⟨hU, Nat.le_refl _, ?_⟩
    simp only [encSvc, List.take_succ_cons, List.take_zero, List.take_nil]
    with_reducible refine nwC_intro fun i7 hi7 => ?_
    replace hB := BldG.put hB hi7 (.cells [.str p, .str d, .bool au, .bool on])
    have g7 := put_same G i7 (.cells [.str p, .str d, .bool au, .bool on])
    try simp -implicitDefEqProofs only [go_sem, reduceEqDiff, reduceAdd, reduceLeDiff, reduceLT, reduceMul, reduceEq, Int.reduceLT, reduceLE, Int.reduceAdd, reduceSub, reduceToNat, UInt8.reduceToNat]
    generalize G.put i7 (.cells [.str p, .str d, .bool au, .bool on]) = G7 at *
    have hsl := serviceLine_calls ⟨p, d, au, on⟩ G7 hxr
    simp only [encSvc] at hsl
    try simp -implicitDefEqProofs only [go_sem, reduceEqDiff, reduceAdd, reduceLeDiff, reduceLT, reduceMul, reduceEq, Int.reduceLT, reduceLE, Int.reduceAdd, reduceSub, reduceToNat, UInt8.reduceToNat, e1, e3, ea, eb, ec, g7]
    refine hsl.pure_next _ ?_
    try simp -implicitDefEqProofs only [go_sem, reduceEqDiff, reduceAdd, reduceLeDiff, reduceLT, reduceMul, reduceEq, Int.reduceLT, reduceLE, Int.reduceAdd, reduceSub, reduceToNat, UInt8.reduceToNat, e1, e3, ea, eb, ec]
    try refine ⟨by omega, by omega, ?_⟩
    refine fin _ ?_ G7 hB _ fun G' hB' => ?_
    · simp [svcLn, wFact, wFile, wRun, wSet, wService]
    simp -implicitDefEqProofs only [go_sem, reduceEqDiff, reduceAdd, reduceLeDiff, reduceLT, reduceMul, reduceEq, Int.reduceLT, reduceLE, Int.reduceAdd, reduceSub, reduceToNat, UInt8.reduceToNat, e1, e3, ea, eb, ec, ws]
    exact Again.mk (i + 1) (by simp -implicitDefEqProofs only [go_sem, reduceEqDiff, reduceAdd, reduceLeDiff, reduceLT, reduceMul, reduceEq, Int.reduceLT, reduceLE, Int.reduceAdd, reduceSub, reduceToNat, UInt8.reduceToNat, e1, e3, ea, eb]) ⟨by omega, hB'⟩ (by omega)
  clear hB e1 e3
  rintro r G ⟨hB, e1, e3⟩
  simp -implicitDefEqProofs only [go_sem, reduceEqDiff, reduceAdd, reduceLeDiff, reduceLT, reduceMul, reduceEq, Int.reduceLT, reduceLE, Int.reduceAdd, reduceSub, reduceToNat, UInt8.reduceToNat, e1, e3]
  refine bldString_k hB (by simpa [upTo] using hT) (fun h => by cases h) ?_
  simp -implicitDefEqProofs only [go_sem, reduceEqDiff, reduceAdd, reduceLeDiff, reduceLT, reduceMul, reduceEq, Int.reduceLT, reduceLE, Int.reduceAdd, reduceSub, reduceToNat, UInt8.reduceToNat]
  exact Done.drop (fun i o hi => hB.sub _ _ (hS i o hi)) ⟨by simp [upTo], rfl⟩
def printA (m : MacV) : AV := if macErr m ≠ 0 then .tup [.str [], .int .i64 (macErr m)] else if 4194304 < (macText m).length then .tup [.str [], .int .i64 4] else .tup [.str (macText m), .int .i64 0]
theorem print_calls (m : MacV) (ta tb tc td : Tail) (H : Heap) (hr : macR m) (hT : (macText m).length ≤ 140737488355328) :
    ACalls Tryz.prog 29 [.agg (encMac m ta tb tc td)] H fun x H' => x = printA m ∧ H' = H := by
  have hS := Heap.Sub.rfl' H
  have hck := fun G => check_calls m ta tb tc td G hr
  have hmt := fun G => machineText_calls m ta tb tc td G hr hT
  have hv := printA.eq_1 m
  unfold encMac at hck hmt
  refine ACalls.of_code (X := { pure := pu0 }) pu0_ok Tryz.func29 (by kernel_rfl) rfl (by kernel_rfl) (Nat.le_of_ble_eq_true rfl) ?_
  simp -implicitDefEqProofs only [go_sem, reduceEqDiff, reduceAdd, reduceLeDiff, reduceLT, reduceMul, reduceEq, Int.reduceLT, reduceLE, Int.reduceAdd, reduceSub, reduceToNat, UInt8.reduceToNat, Tryz.f29, encMac]
  with_reducible refine nwC_intro fun im him => ?_
  generalize Em : Heap.put H im _ = G1
  have hO_m := obj_new Em him hS
  have nm := hO_m.1
  have hS := hO_m.2.1
  have gm := hO_m.2.2.1
  clear hO_m
  simp -implicitDefEqProofs only [go_sem, reduceEqDiff, reduceAdd, reduceLeDiff, reduceLT, reduceMul, reduceEq, Int.reduceLT, reduceLE, Int.reduceAdd, reduceSub, reduceToNat, UInt8.reduceToNat, gm]
  refine (hck G1).pure_next _ ?_
  by_cases c0 : macErr m = 0
  rotate_left
  · have y0 : decide (¬ macErr m = 0) = true := decide_eq_true c0
    rw [if_pos c0] at hv
    simp -implicitDefEqProofs only [go_sem, reduceEqDiff, reduceAdd, reduceLeDiff, reduceLT, reduceMul, reduceEq, Int.reduceLT, reduceLE, Int.reduceAdd, reduceSub, reduceToNat, UInt8.reduceToNat, y0]
    exact Done.drop hS ⟨hv.symm, rfl⟩
  have y0 : decide (¬ macErr m = 0) = false := decide_eq_false (by simpa using c0)
  rw [if_neg (by simpa using c0)] at hv
  simp -implicitDefEqProofs only [go_sem, reduceEqDiff, reduceAdd, reduceLeDiff, reduceLT, reduceMul, reduceEq, Int.reduceLT, reduceLE, Int.reduceAdd, reduceSub, reduceToNat, UInt8.reduceToNat, y0, gm]
  refine (hmt G1).pure_next _ ?_
  simp -implicitDefEqProofs only [go_sem, reduceEqDiff, reduceAdd, reduceLeDiff, reduceLT, reduceMul, reduceEq, Int.reduceLT, reduceLE, Int.reduceAdd, reduceSub, reduceToNat, UInt8.reduceToNat]
  refine (sized_calls (macText m) G1).pure_next _ ?_
  by_cases c1 : 4194304 < (macText m).length
  · rw [if_pos c1] at hv ⊢
    simp -implicitDefEqProofs only [go_sem, reduceEqDiff, reduceAdd, reduceLeDiff, reduceLT, reduceMul, reduceEq, Int.reduceLT, reduceLE, Int.reduceAdd, reduceSub, reduceToNat, UInt8.reduceToNat]
    exact Done.drop hS ⟨hv.symm, rfl⟩
  · rw [if_neg c1] at hv ⊢
    simp -implicitDefEqProofs only [go_sem, reduceEqDiff, reduceAdd, reduceLeDiff, reduceLT, reduceMul, reduceEq, Int.reduceLT, reduceLE, Int.reduceAdd, reduceSub, reduceToNat, UInt8.reduceToNat]
    exact Done.drop hS ⟨hv.symm, rfl⟩
set_option maxHeartbeats 12800000 in
theorem rPrint_calls (m : MacV) (ta tb tc td : Tail) (H : Heap) (hr : macR m) (hT : (macText m).length ≤ 140737488355328) :
    ACalls Tryz.prog 28 [.agg (encMac m ta tb tc td)] H fun x H' => x = .str (macText m) ∧ H' = H := by
  obtain ⟨⟨l1, l2, l3, l4⟩, r1, r2, r3, r4⟩ := hr
  have hS := Heap.Sub.rfl' H
  have hlen : (macText m).length = (linesT factLn m.facts).length + (linesT fileLn m.files).length + (linesT setLn m.sets).length + (linesT svcLn m.svcs).length := by simp [macText]; omega
  refine ACalls.of_code (X := { pure := puTP, ms := fun t => decide (t = 3) }) puTP_ok Tryz.func28 (by kernel_rfl) rfl (by kernel_rfl) (Nat.le_of_ble_eq_true rfl) ?_
  simp -implicitDefEqProofs only [go_sem, reduceEqDiff, reduceAdd, reduceLeDiff, reduceLT, reduceMul, reduceEq, Int.reduceLT, reduceLE, Int.reduceAdd, reduceSub, reduceToNat, UInt8.reduceToNat, Tryz.f28, encMac]
  with_reducible refine nwC_intro fun im him => ?_
  generalize Em : Heap.put H im _ = G1
  have hO_m := obj_new Em him hS
  have nm := hO_m.1
  have hS := hO_m.2.1
  have gm := hO_m.2.2.1
  clear hO_m
  simp -implicitDefEqProofs only [go_sem, reduceEqDiff, reduceAdd, reduceLeDiff, reduceLT, reduceMul, reduceEq, Int.reduceLT, reduceLE, Int.reduceAdd, reduceSub, reduceToNat, UInt8.reduceToNat]
  with_reducible refine nwT_intro fun b hb => ?_
  simp -implicitDefEqProofs only [go_sem, reduceEqDiff, reduceAdd, reduceLeDiff, reduceLT, reduceMul, reduceEq, Int.reduceLT, reduceLE, Int.reduceAdd, reduceSub, reduceToNat, UInt8.reduceToNat]
  have gm2 : (G1.put b (.cells [.nilp, .snil])) im = _ := (put_ne _ _ _ _ (obj_ne gm hb)).trans gm
  have hB := BldG.new (Heap.Sub.rfl' G1) hb
  generalize G1.put b (.cells [.nilp, .snil]) = G0 at *
  simp -implicitDefEqProofs only [go_sem, reduceEqDiff, reduceAdd, reduceLeDiff, reduceLT, reduceMul, reduceEq, Int.reduceLT, reduceLE, Int.reduceAdd, reduceSub, reduceToNat, UInt8.reduceToNat, gm2]
  with_reducible refine aloop_cut 0 (BldM G1 im b (upTo m 1)) ?_ ?_
  rotate_left
  · refine aloop_intro (σ := Nat) (fun i => [(1, .ptr im 0), (3, bldP b), (14, .sl (m.facts.map encSet) ta), (15, .int .i64 m.facts.length), (16, .int .i64 i)])
      (fun i G => i ≤ m.facts.length ∧ BldOK G1 G b (upTo m 0 ++ linesT factLn (m.facts.take i))) (fun i => m.facts.length - i) 0 ?_ ?_ ?_
    · simp -implicitDefEqProofs only [go_sem, reduceEqDiff, reduceAdd, reduceLeDiff, reduceLT, reduceMul, reduceEq, Int.reduceLT, reduceLE, Int.reduceAdd, reduceSub, reduceToNat, UInt8.reduceToNat, bldP]
    · exact ⟨Nat.zero_le _, by simpa [linesT, upTo] using hB⟩
    clear hB
    rintro i r G hv ⟨hi, hB⟩
    have e1 := hv.1
    have e3 := hv.2.1
    have ea := hv.2.2.1
    have eb := hv.2.2.2.1
    have ec := hv.2.2.2.2.1
    clear hv
    by_cases g : i < m.facts.length
    rotate_left
    · have y0 : decide ((i : Int) < m.facts.length) = false := decide_eq_false (by omega)
      obtain rfl : i = m.facts.length := by omega
      rw [List.take_length] at hB
      simp -implicitDefEqProofs only [go_sem, reduceEqDiff, reduceAdd, reduceLeDiff, reduceLT, reduceMul, reduceEq, Int.reduceLT, reduceLE, Int.reduceAdd, reduceSub, reduceToNat, UInt8.reduceToNat, e1, e3, ea, eb, ec, y0]
      exact ⟨hB, by simp -implicitDefEqProofs only [go_sem, reduceEqDiff, reduceAdd, reduceLeDiff, reduceLT, reduceMul, reduceEq, Int.reduceLT, reduceLE, Int.reduceAdd, reduceSub, reduceToNat, UInt8.reduceToNat, e1], by simp -implicitDefEqProofs only [go_sem, reduceEqDiff, reduceAdd, reduceLeDiff, reduceLT, reduceMul, reduceEq, Int.reduceLT, reduceLE, Int.reduceAdd, reduceSub, reduceToNat, UInt8.reduceToNat, e3]⟩
    have y0 : decide ((i : Int) < m.facts.length) = true := decide_eq_true (by omega)
    obtain ⟨x, hx⟩ : ∃ x, m.facts[i]? = some x := getD_get' g
    have hxr := r1 x (List.mem_of_getElem? hx)
    have ws : IntKind.i64.wrap ((i : Int) + 1) = ((i + 1 : Nat) : Int) := by rw [Go.IntWalk.i64_in _ (by omega)]; omega
    have hU : ∀ (a : SetV), a ∈ m.facts → (encSet a).length = 2 := fun _ _ => rfl
    have hn := linesT_take (ln := factLn) hx
    have hle := linesT_le factLn m.facts (i + 1)
    have hup : (upTo m 0).length + (linesT factLn m.facts).length ≤ (macText m).length := by
      rw [hlen]
      simp only [upTo, List.length_append, List.length_nil]
      omega
    obtain ⟨p, d⟩ := x
    have fin : ∀ s, s = factLn ⟨p, d⟩ ++ [10] → ∀ G7, BldOK G1 G7 b (upTo m 0 ++ linesT factLn (m.facts.take i)) → ∀ K : K1, (∀ G', BldOK G1 G' b (upTo m 0 ++ linesT factLn (m.facts.take (i + 1))) → K (.tup [.int .i64 s.length, .nilIface]) G') → ACalls Tryz.prog 56 [bldP b, .str s] G7 K := by
      intro s hs G7 hB7 K hK
      rw [hn, ← hs, List.length_append] at hle
      refine writeString_k hB7 (by rw [List.length_append]; omega) fun G' hB' _ => hK G' ?_
      rw [hn, ← hs, ← List.append_assoc]; exact hB'
    simp -implicitDefEqProofs only [go_sem, reduceEqDiff, reduceAdd, reduceLeDiff, reduceLT, reduceMul, reduceEq, Int.reduceLT, reduceLE, Int.reduceAdd, reduceSub, reduceToNat, UInt8.reduceToNat, e1, e3, ea, eb, ec, y0, hx]
    refine ⟨hU, Nat.le_refl _, ?_⟩
    simp only [encSet, List.take_succ_cons, List.take_zero, List.take_nil]
    with_reducible refine nwC_intro fun i7 hi7 => ?_
    replace hB := BldG.put hB hi7 (.cells [.str p, .str d])
    have g7 := put_same G i7 (.cells [.str p, .str d])
    try simp -implicitDefEqProofs only [go_sem, reduceEqDiff, reduceAdd, reduceLeDiff, reduceLT, reduceMul, reduceEq, Int.reduceLT, reduceLE, Int.reduceAdd, reduceSub, reduceToNat, UInt8.reduceToNat]
    generalize G.put i7 (.cells [.str p, .str d]) = G7 at *
    have q := sQuo_eq d hxr.2
    have ql := quoteB_len d
    have h1 := hxr.1
    have h2 := hxr.2
    simp only at h1 h2
    simp -implicitDefEqProofs (disch := (first | omega | (simp only [List.length_append, List.length_cons, List.length_nil]; omega))) only [go_sem, binS_addD, reduceEqDiff, reduceAdd, reduceLeDiff, reduceLT, reduceMul, reduceEq, Int.reduceLT, reduceLE, Int.reduceAdd, reduceSub, reduceToNat, UInt8.reduceToNat, Go.IntWalk.i64_in, e1, e3, ea, eb, ec, g7, puTP, puCP1, q]
    try refine ⟨by omega, by omega, ?_⟩
    refine fin _ ?_ G7 hB _ fun G' hB' => ?_
    · simp [factLn, wFact, wFile, wRun, wSet, wService]
    simp -implicitDefEqProofs only [go_sem, reduceEqDiff, reduceAdd, reduceLeDiff, reduceLT, reduceMul, reduceEq, Int.reduceLT, reduceLE, Int.reduceAdd, reduceSub, reduceToNat, UInt8.reduceToNat, e1, e3, ea, eb, ec, ws]
    exact Again.mk (i + 1) (by simp -implicitDefEqProofs only [go_sem, reduceEqDiff, reduceAdd, reduceLeDiff, reduceLT, reduceMul, reduceEq, Int.reduceLT, reduceLE, Int.reduceAdd, reduceSub, reduceToNat, UInt8.reduceToNat, e1, e3, ea, eb]) ⟨by omega, hB'⟩ (by omega)
  clear hB
  rintro r G ⟨hB, e1, e3⟩
  have gm3 := hB.sub _ _ gm
  simp -implicitDefEqProofs only [go_sem, reduceEqDiff, reduceAdd, reduceLeDiff, reduceLT, reduceMul, reduceEq, Int.reduceLT, reduceLE, Int.reduceAdd, reduceSub, reduceToNat, UInt8.reduceToNat, e1, e3, gm3]
  clear gm3
  with_reducible refine aloop_cut 2 (BldM G1 im b (upTo m 2)) ?_ ?_
  rotate_left
  · refine aloop_intro (σ := Nat) (fun i => [(1, .ptr im 0), (3, bldP b), (32, .sl (m.files.map encFile) tb), (33, .int .i64 m.files.length), (34, .int .i64 i)])
      (fun i G => i ≤ m.files.length ∧ BldOK G1 G b (upTo m 1 ++ linesT fileLn (m.files.take i))) (fun i => m.files.length - i) 0 ?_ ?_ ?_
    · simp -implicitDefEqProofs only [go_sem, reduceEqDiff, reduceAdd, reduceLeDiff, reduceLT, reduceMul, reduceEq, Int.reduceLT, reduceLE, Int.reduceAdd, reduceSub, reduceToNat, UInt8.reduceToNat, e1, e3, bldP]
    · exact ⟨Nat.zero_le _, by simpa [linesT, upTo] using hB⟩
    clear hB e1 e3
    rintro i r G hv ⟨hi, hB⟩
    have e1 := hv.1
    have e3 := hv.2.1
    have ea := hv.2.2.1
    have eb := hv.2.2.2.1
    have ec := hv.2.2.2.2.1
    clear hv
    by_cases g : i < m.files.length
    rotate_left
    · have y0 : decide ((i : Int) < m.files.length) = false := decide_eq_false (by omega)
      obtain rfl : i = m.files.length := by omega
      rw [List.take_length] at hB
      simp -implicitDefEqProofs only [go_sem, reduceEqDiff, reduceAdd, reduceLeDiff, reduceLT, reduceMul, reduceEq, Int.reduceLT, reduceLE, Int.reduceAdd, reduceSub, reduceToNat, UInt8.reduceToNat, e1, e3, ea, eb, ec, y0]
      exact ⟨hB, by simp -implicitDefEqProofs only [go_sem, reduceEqDiff, reduceAdd, reduceLeDiff, reduceLT, reduceMul, reduceEq, Int.reduceLT, reduceLE, Int.reduceAdd, reduceSub, reduceToNat, UInt8.reduceToNat, e1], by simp -implicitDefEqProofs only [go_sem, reduceEqDiff, reduceAdd, reduceLeDiff, reduceLT, reduceMul, reduceEq, Int.reduceLT, reduceLE, Int.reduceAdd, reduceSub, reduceToNat, UInt8.reduceToNat, e3]⟩
    have y0 : decide ((i : Int) < m.files.length) = true := decide_eq_true (by omega)
    obtain ⟨x, hx⟩ : ∃ x, m.files[i]? = some x := getD_get' g
    have hxr := r2 x (List.mem_of_getElem? hx)
    have ws : IntKind.i64.wrap ((i : Int) + 1) = ((i + 1 : Nat) : Int) := by rw [Go.IntWalk.i64_in _ (by omega)]; omega
    have hU : ∀ (a : FileV), a ∈ m.files → (encFile a).length = 3 := fun _ _ => rfl
    have hn := linesT_take (ln := fileLn) hx
    have hle := linesT_le fileLn m.files (i + 1)
    have hup : (upTo m 1).length + (linesT fileLn m.files).length ≤ (macText m).length := by
      rw [hlen]
      simp only [upTo, List.length_append, List.length_nil]
      omega
    obtain ⟨p, d, ru⟩ := x
    have fin : ∀ s, s = fileLn ⟨p, d, ru⟩ ++ [10] → ∀ G7, BldOK G1 G7 b (upTo m 1 ++ linesT fileLn (m.files.take i)) → ∀ K : K1, (∀ G', BldOK G1 G' b (upTo m 1 ++ linesT fileLn (m.files.take (i + 1))) → K (.tup [.int .i64 s.length, .nilIface]) G') → ACalls Tryz.prog 56 [bldP b, .str s] G7 K := by
      intro s hs G7 hB7 K hK
      rw [hn, ← hs, List.length_append] at hle
      refine writeString_k hB7 (by rw [List.length_append]; omega) fun G' hB' _ => hK G' ?_
      rw [hn, ← hs, ← List.append_assoc]; exact hB'
    simp -implicitDefEqProofs only [go_sem, reduceEqDiff, reduceAdd, reduceLeDiff, reduceLT, reduceMul, reduceEq, Int.reduceLT, reduceLE, Int.reduceAdd, reduceSub, reduceToNat, UInt8.reduceToNat, e1, e3, ea, eb, ec, y0, hx]
    refine ⟨hU, Nat.le_refl _, ?_⟩
    simp only [encFile, List.take_succ_cons, List.take_zero, List.take_nil]
    with_reducible refine nwC_intro fun i7 hi7 => ?_
    replace hB := BldG.put hB hi7 (.cells [.str p, .str d, .bool ru])
    have g7 := put_same G i7 (.cells [.str p, .str d, .bool ru])
    try simp -implicitDefEqProofs only [go_sem, reduceEqDiff, reduceAdd, reduceLeDiff, reduceLT, reduceMul, reduceEq, Int.reduceLT, reduceLE, Int.reduceAdd, reduceSub, reduceToNat, UInt8.reduceToNat]
    generalize G.put i7 (.cells [.str p, .str d, .bool ru]) = G7 at *
    have q := sQuo_eq d hxr.2
    have ql := quoteB_len d
    have h1 := hxr.1
    have h2 := hxr.2
    simp only at h1 h2
    cases ru
    all_goals
      simp -implicitDefEqProofs (disch := (first | omega | (simp only [List.length_append, List.length_cons, List.length_nil]; omega))) only [go_sem, binS_addD, reduceEqDiff, reduceAdd, reduceLeDiff, reduceLT, reduceMul, reduceEq, Int.reduceLT, reduceLE, Int.reduceAdd, reduceSub, reduceToNat, UInt8.reduceToNat, Go.IntWalk.i64_in, e1, e3, ea, eb, ec, g7, puTP, puCP1, q]
      try refine ⟨by omega, by omega, ?_⟩
      refine fin _ ?_ G7 hB _ fun G' hB' => ?_
      · simp [fileLn, wFact, wFile, wRun, wSet, wService]
      simp -implicitDefEqProofs only [go_sem, reduceEqDiff, reduceAdd, reduceLeDiff, reduceLT, reduceMul, reduceEq, Int.reduceLT, reduceLE, Int.reduceAdd, reduceSub, reduceToNat, UInt8.reduceToNat, e1, e3, ea, eb, ec, ws]
      exact Again.mk (i + 1) (by simp -implicitDefEqProofs only [go_sem, reduceEqDiff, reduceAdd, reduceLeDiff, reduceLT, reduceMul, reduceEq, Int.reduceLT, reduceLE, Int.reduceAdd, reduceSub, reduceToNat, UInt8.reduceToNat, e1, e3, ea, eb]) ⟨by omega, hB'⟩ (by omega)
  clear hB e1 e3
  rintro r G ⟨hB, e1, e3⟩
  have gm3 := hB.sub _ _ gm
  simp -implicitDefEqProofs only [go_sem, reduceEqDiff, reduceAdd, reduceLeDiff, reduceLT, reduceMul, reduceEq, Int.reduceLT, reduceLE, Int.reduceAdd, reduceSub, reduceToNat, UInt8.reduceToNat, e1, e3, gm3]
  clear gm3
  with_reducible refine aloop_cut 4 (BldM G1 im b (upTo m 3)) ?_ ?_
  rotate_left
  · refine aloop_intro (σ := Nat) (fun i => [(1, .ptr im 0), (3, bldP b), (53, .sl (m.sets.map encSet) tc), (54, .int .i64 m.sets.length), (55, .int .i64 i)])
      (fun i G => i ≤ m.sets.length ∧ BldOK G1 G b (upTo m 2 ++ linesT setLn (m.sets.take i))) (fun i => m.sets.length - i) 0 ?_ ?_ ?_
    · simp -implicitDefEqProofs only [go_sem, reduceEqDiff, reduceAdd, reduceLeDiff, reduceLT, reduceMul, reduceEq, Int.reduceLT, reduceLE, Int.reduceAdd, reduceSub, reduceToNat, UInt8.reduceToNat, e1, e3, bldP]
    · exact ⟨Nat.zero_le _, by simpa [linesT, upTo] using hB⟩
    clear hB e1 e3
    rintro i r G hv ⟨hi, hB⟩
    have e1 := hv.1
    have e3 := hv.2.1
    have ea := hv.2.2.1
    have eb := hv.2.2.2.1
    have ec := hv.2.2.2.2.1
    clear hv
    by_cases g : i < m.sets.length
    rotate_left
    · have y0 : decide ((i : Int) < m.sets.length) = false := decide_eq_false (by omega)
      obtain rfl : i = m.sets.length := by omega
      rw [List.take_length] at hB
      simp -implicitDefEqProofs only [go_sem, reduceEqDiff, reduceAdd, reduceLeDiff, reduceLT, reduceMul, reduceEq, Int.reduceLT, reduceLE, Int.reduceAdd, reduceSub, reduceToNat, UInt8.reduceToNat, e1, e3, ea, eb, ec, y0]
      exact ⟨hB, by simp -implicitDefEqProofs only [go_sem, reduceEqDiff, reduceAdd, reduceLeDiff, reduceLT, reduceMul, reduceEq, Int.reduceLT, reduceLE, Int.reduceAdd, reduceSub, reduceToNat, UInt8.reduceToNat, e1], by simp -implicitDefEqProofs only [go_sem, reduceEqDiff, reduceAdd, reduceLeDiff, reduceLT, reduceMul, reduceEq, Int.reduceLT, reduceLE, Int.reduceAdd, reduceSub, reduceToNat, UInt8.reduceToNat, e3]⟩
    have y0 : decide ((i : Int) < m.sets.length) = true := decide_eq_true (by omega)
    obtain ⟨x, hx⟩ : ∃ x, m.sets[i]? = some x := getD_get' g
    have hxr := r3 x (List.mem_of_getElem? hx)
    have ws : IntKind.i64.wrap ((i : Int) + 1) = ((i + 1 : Nat) : Int) := by rw [Go.IntWalk.i64_in _ (by omega)]; omega
    have hU : ∀ (a : SetV), a ∈ m.sets → (encSet a).length = 2 := fun _ _ => rfl
    have hn := linesT_take (ln := setLn) hx
    have hle := linesT_le setLn m.sets (i + 1)
    have hup : (upTo m 2).length + (linesT setLn m.sets).length ≤ (macText m).length := by
      rw [hlen]
      simp only [upTo, List.length_append, List.length_nil]
      omega
    obtain ⟨p, d⟩ := x
    have fin : ∀ s, s = setLn ⟨p, d⟩ ++ [10] → ∀ G7, BldOK G1 G7 b (upTo m 2 ++ linesT setLn (m.sets.take i)) → ∀ K : K1, (∀ G', BldOK G1 G' b (upTo m 2 ++ linesT setLn (m.sets.take (i + 1))) → K (.tup [.int .i64 s.length, .nilIface]) G') → ACalls Tryz.prog 56 [bldP b, .str s] G7 K := by
      intro s hs G7 hB7 K hK
      rw [hn, ← hs, List.length_append] at hle
      refine writeString_k hB7 (by rw [List.length_append]; omega) fun G' hB' _ => hK G' ?_
      rw [hn, ← hs, ← List.append_assoc]; exact hB'
    simp -implicitDefEqProofs only [go_sem, reduceEqDiff, reduceAdd, reduceLeDiff, reduceLT, reduceMul, reduceEq, Int.reduceLT, reduceLE, Int.reduceAdd, reduceSub, reduceToNat, UInt8.reduceToNat, e1, e3, ea, eb, ec, y0, hx]
    refine ⟨hU, Nat.le_refl _, ?_⟩
    simp only [encSet, List.take_succ_cons, List.take_zero, List.take_nil]
    with_reducible refine nwC_intro fun i7 hi7 => ?_
    replace hB := BldG.put hB hi7 (.cells [.str p, .str d])
    have g7 := put_same G i7 (.cells [.str p, .str d])
    try simp -implicitDefEqProofs only [go_sem, reduceEqDiff, reduceAdd, reduceLeDiff, reduceLT, reduceMul, reduceEq, Int.reduceLT, reduceLE, Int.reduceAdd, reduceSub, reduceToNat, UInt8.reduceToNat]
    generalize G.put i7 (.cells [.str p, .str d]) = G7 at *
    have q := sQuo_eq d hxr.2
    have ql := quoteB_len d
    have h1 := hxr.1
    have h2 := hxr.2
    simp only at h1 h2
    simp -implicitDefEqProofs (disch := (first | omega | (simp only [List.length_append, List.length_cons, List.length_nil]; omega))) only [go_sem, binS_addD, reduceEqDiff, reduceAdd, reduceLeDiff, reduceLT, reduceMul, reduceEq, Int.reduceLT, reduceLE, Int.reduceAdd, reduceSub, reduceToNat, UInt8.reduceToNat, Go.IntWalk.i64_in, e1, e3, ea, eb, ec, g7, puTP, puCP1, q]
    try refine ⟨by omega, by omega, ?_⟩
    refine fin _ ?_ G7 hB _ fun G' hB' => ?_
    · simp [setLn, wFact, wFile, wRun, wSet, wService]
    simp -implicitDefEqProofs only [go_sem, reduceEqDiff, reduceAdd, reduceLeDiff, reduceLT, reduceMul, reduceEq, Int.reduceLT, reduceLE, Int.reduceAdd, reduceSub, reduceToNat, UInt8.reduceToNat, e1, e3, ea, eb, ec, ws]
    exact Again.mk (i + 1) (by simp -implicitDefEqProofs only [go_sem, reduceEqDiff, reduceAdd, reduceLeDiff, reduceLT, reduceMul, reduceEq, Int.reduceLT, reduceLE, Int.reduceAdd, reduceSub, reduceToNat, UInt8.reduceToNat, e1, e3, ea, eb]) ⟨by omega, hB'⟩ (by omega)
  clear hB e1 e3
  rintro r G ⟨hB, e1, e3⟩
  have gm3 := hB.sub _ _ gm
  simp -implicitDefEqProofs only [go_sem, reduceEqDiff, reduceAdd, reduceLeDiff, reduceLT, reduceMul, reduceEq, Int.reduceLT, reduceLE, Int.reduceAdd, reduceSub, reduceToNat, UInt8.reduceToNat, e1, e3, gm3]
  clear gm3
  with_reducible refine aloop_cut 6 (BldM G1 im b (upTo m 4)) ?_ ?_
  rotate_left
  · refine aloop_intro (σ := Nat) (fun i => [(1, .ptr im 0), (3, bldP b), (71, .sl (m.svcs.map encSvc) td), (72, .int .i64 m.svcs.length), (73, .int .i64 i)])
      (fun i G => i ≤ m.svcs.length ∧ BldOK G1 G b (upTo m 3 ++ linesT svcLn (m.svcs.take i))) (fun i => m.svcs.length - i) 0 ?_ ?_ ?_
    · simp -implicitDefEqProofs only [go_sem, reduceEqDiff, reduceAdd, reduceLeDiff, reduceLT, reduceMul, reduceEq, Int.reduceLT, reduceLE, Int.reduceAdd, reduceSub, reduceToNat, UInt8.reduceToNat, e1, e3, bldP]
    · exact ⟨Nat.zero_le _, by simpa [linesT, upTo] using hB⟩
    clear hB e1 e3
    rintro i r G hv ⟨hi, hB⟩
    have e1 := hv.1
    have e3 := hv.2.1
    have ea := hv.2.2.1
    have eb := hv.2.2.2.1
    have ec := hv.2.2.2.2.1
    clear hv
    by_cases g : i < m.svcs.length
    rotate_left
    · have y0 : decide ((i : Int) < m.svcs.length) = false := decide_eq_false (by omega)
      obtain rfl : i = m.svcs.length := by omega
      rw [List.take_length] at hB
      simp -implicitDefEqProofs only [go_sem, reduceEqDiff, reduceAdd, reduceLeDiff, reduceLT, reduceMul, reduceEq, Int.reduceLT, reduceLE, Int.reduceAdd, reduceSub, reduceToNat, UInt8.reduceToNat, e1, e3, ea, eb, ec, y0]
      exact ⟨hB, by simp -implicitDefEqProofs only [go_sem, reduceEqDiff, reduceAdd, reduceLeDiff, reduceLT, reduceMul, reduceEq, Int.reduceLT, reduceLE, Int.reduceAdd, reduceSub, reduceToNat, UInt8.reduceToNat, e1], by simp -implicitDefEqProofs only [go_sem, reduceEqDiff, reduceAdd, reduceLeDiff, reduceLT, reduceMul, reduceEq, Int.reduceLT, reduceLE, Int.reduceAdd, reduceSub, reduceToNat, UInt8.reduceToNat, e3]⟩
    have y0 : decide ((i : Int) < m.svcs.length) = true := decide_eq_true (by omega)
    obtain ⟨x, hx⟩ : ∃ x, m.svcs[i]? = some x := getD_get' g
    have hxr := r4 x (List.mem_of_getElem? hx)
    have ws : IntKind.i64.wrap ((i : Int) + 1) = ((i + 1 : Nat) : Int) := by rw [Go.IntWalk.i64_in _ (by omega)]; omega
    have hU : ∀ (a : SvcV), a ∈ m.svcs → (encSvc a).length = 4 := fun _ _ => rfl
    have hn := linesT_take (ln := svcLn) hx
    have hle := linesT_le svcLn m.svcs (i + 1)
    have hup : (upTo m 3).length + (linesT svcLn m.svcs).length ≤ (macText m).length := by
      rw [hlen]
      simp only [upTo, List.length_append, List.length_nil]
      omega
    obtain ⟨p, d, au, on⟩ := x
    have fin : ∀ s, s = svcLn ⟨p, d, au, on⟩ ++ [10] → ∀ G7, BldOK G1 G7 b (upTo m 3 ++ linesT svcLn (m.svcs.take i)) → ∀ K : K1, (∀ G', BldOK G1 G' b (upTo m 3 ++ linesT svcLn (m.svcs.take (i + 1))) → K (.tup [.int .i64 s.length, .nilIface]) G') → ACalls Tryz.prog 56 [bldP b, .str s] G7 K := by
      intro s hs G7 hB7 K hK
      rw [hn, ← hs, List.length_append] at hle
      refine writeString_k hB7 (by rw [List.length_append]; omega) fun G' hB' _ => hK G' ?_
      rw [hn, ← hs, ← List.append_assoc]; exact hB'
    simp -implicitDefEqProofs only [go_sem, reduceEqDiff, reduceAdd, reduceLeDiff, reduceLT, reduceMul, reduceEq, Int.reduceLT, reduceLE, Int.reduceAdd, reduceSub, reduceToNat, UInt8.reduceToNat, e1, e3, ea, eb, ec, y0, hx]
    refine ⟨hU, Nat.le_refl _, ?_⟩
    simp only [encSvc, List.take_succ_cons, List.take_zero, List.take_nil]
    with_reducible refine nwC_intro fun i7 hi7 => ?_
    replace hB := BldG.put hB hi7 (.cells [.str p, .str d, .bool au, .bool on])
    have g7 := put_same G i7 (.cells [.str p, .str d, .bool au, .bool on])
    try simp -implicitDefEqProofs only [go_sem, reduceEqDiff, reduceAdd, reduceLeDiff, reduceLT, reduceMul, reduceEq, Int.reduceLT, reduceLE, Int.reduceAdd, reduceSub, reduceToNat, UInt8.reduceToNat]
    generalize G.put i7 (.cells [.str p, .str d, .bool au, .bool on]) = G7 at *
    have q := sSvW2_eq p d au on hxr
    have h1 := hxr.1
    have h2 := hxr.2
    simp only at h1 h2
    have q3 : (svcLine ⟨p, d, au, on⟩).length ≤ p.length + d.length + 5 := by simp only [svcLine, List.length_append, List.length_cons, List.length_nil, bitV_len]; omega
    obtain ⟨sv, hsv⟩ : ∃ sv, svcLine ⟨p, d, au, on⟩ = sv := ⟨_, rfl⟩
    rw [hsv] at q q3
    simp -implicitDefEqProofs (disch := (first | omega | (simp only [List.length_append, List.length_cons, List.length_nil]; omega))) only [go_sem, binS_addD, reduceEqDiff, reduceAdd, reduceLeDiff, reduceLT, reduceMul, reduceEq, Int.reduceLT, reduceLE, Int.reduceAdd, reduceSub, reduceToNat, UInt8.reduceToNat, Go.IntWalk.i64_in, e1, e3, ea, eb, ec, g7, puTP, puCP1, q]
    try refine ⟨by omega, by omega, ?_⟩
    refine fin _ ?_ G7 hB _ fun G' hB' => ?_
    · simp [svcLn, wFact, wFile, wRun, wSet, wService]
      try simp [hsv]
    simp -implicitDefEqProofs only [go_sem, reduceEqDiff, reduceAdd, reduceLeDiff, reduceLT, reduceMul, reduceEq, Int.reduceLT, reduceLE, Int.reduceAdd, reduceSub, reduceToNat, UInt8.reduceToNat, e1, e3, ea, eb, ec, ws]
    exact Again.mk (i + 1) (by simp -implicitDefEqProofs only [go_sem, reduceEqDiff, reduceAdd, reduceLeDiff, reduceLT, reduceMul, reduceEq, Int.reduceLT, reduceLE, Int.reduceAdd, reduceSub, reduceToNat, UInt8.reduceToNat, e1, e3, ea, eb]) ⟨by omega, hB'⟩ (by omega)
  clear hB e1 e3
  rintro r G ⟨hB, e1, e3⟩
  simp -implicitDefEqProofs only [go_sem, reduceEqDiff, reduceAdd, reduceLeDiff, reduceLT, reduceMul, reduceEq, Int.reduceLT, reduceLE, Int.reduceAdd, reduceSub, reduceToNat, UInt8.reduceToNat, e1, e3]
  refine bldString_k hB (by simpa [upTo] using hT) (fun h => by cases h) ?_
  simp -implicitDefEqProofs only [go_sem, reduceEqDiff, reduceAdd, reduceLeDiff, reduceLT, reduceMul, reduceEq, Int.reduceLT, reduceLE, Int.reduceAdd, reduceSub, reduceToNat, UInt8.reduceToNat]
  exact Done.drop (fun i o hi => hB.sub _ _ (hS i o hi)) ⟨by simp [upTo], rfl⟩
end Go.Proofs
