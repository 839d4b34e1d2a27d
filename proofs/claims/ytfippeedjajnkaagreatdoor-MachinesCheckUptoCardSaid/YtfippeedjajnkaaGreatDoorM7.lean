/-
  Walks and plain laws, part 7.
-/
import Derived.Test.YtfippeedjajnkaaGreatDoorM6
import Derived.Test.YtfippeedjajnkaaGreatDoorM2
import Derived.Test.YtfippeedjajnkaaGreatDoorM5
/- Walks: one change of a machine of maps, on the reference's side. -/
namespace Go.Proofs
open Go Go.Abs
open Nat (reduceEqDiff reduceAdd reduceLeDiff reduceLT reduceMul)
open Int (reduceEq reduceLE reduceSub reduceToNat)
set_option linter.unusedSimpArgs false
set_option linter.unusedVariables false
set_option maxRecDepth 20000
noncomputable def sUnder := spF (fun p : Bytes × Bytes => [AV.str p.1, AV.str p.2]) (fun p => p.1.length ≤ 1099511627776 ∧ p.2.length ≤ 1099511627776) fun p => .bool (underB p.1 p.2)
noncomputable def puU : Pures := putP 123 sUnder pu0
theorem puU_dyn : isDyn puU = false := by simp only [puU, go_sem, Nat.reduceEqDiff]
attribute [go_sem] puU_dyn
theorem RW.mono {H G G' : Heap} {iw i1 i2 i3 : Nat} {fs : List (List AV)} {ta : Tail} {lf : List FileV} {ls : List SetV} {lv : List SvcV} (h : RW H G iw i1 i2 i3 fs ta lf ls lv) (hs : G.Sub G') : RW H G' iw i1 i2 i3 fs ta lf ls lv := by
  obtain ⟨a, b, c, d, e, f, g, ⟨e1, h1, k1⟩, ⟨e2, h2, k2⟩, ⟨e3, h3, k3⟩⟩ := h
  exact ⟨fun i o hi => hs _ _ (a i o hi), b, c, d, e, f, hs _ _ g, ⟨e1, hs _ _ h1, k1⟩, ⟨e2, hs _ _ h2, k2⟩, ⟨e3, hs _ _ h3, k3⟩⟩
end Go.Proofs

/- How many files lie below a directory: plain Lean, no program. -/
namespace Go.Proofs
open Go Go.Abs
set_option linter.unusedSimpArgs false
set_option linter.unusedVariables false
/-- A map of counts. -/
def CountOK (es : List (Key × AV)) (F : Bytes → Int) : Prop := ∀ d, (mget es (.s d)).getD (.int .i64 0) = .int .i64 (F d)
theorem CountOK.nil : CountOK [] (fun _ => 0) := fun _ => rfl
theorem CountOK.set {es : List (Key × AV)} {F : Bytes → Int} (h : CountOK es F) (d : Bytes) (v : Int) : CountOK (mset es (.s d) (.int .i64 v)) (fun x => if d = x then v else F x) := fun x => by
  rw [mget_mset]
  by_cases e : d = x
  · subst e
    simp
  · have e1 : ¬ Key.s d = Key.s x := fun h => e (by cases h; rfl)
    rw [if_neg e1]
    simp only [if_neg e]
    exact h x
end Go.Proofs

/- What leads from one machine to another: plain Lean, no program. -/
namespace Go.Proofs
open Go Go.Abs
set_option linter.unusedSimpArgs false
set_option linter.unusedVariables false
section
variable {α : Type} {key : α → Bytes}
theorem getK_none_lt {l : List α} {k : Bytes} (h : ∀ y ∈ l, strLt k (key y) = true) : getK key k l = none := by
  unfold getK
  rw [List.find?_eq_none]
  intro y hy
  simp only [decide_eq_true_eq]
  intro e
  have := h y hy
  rw [e, lt_irr] at this; cases this
theorem getK_skip {l : List α} {k : Bytes} {x : α} (h : ¬ key x = k) : getK key k (x :: l) = getK key k l := by
  unfold getK
  rw [List.find?_cons, decide_eq_false h]
theorem getK_hit {l : List α} {x : α} : getK key (key x) (x :: l) = some x := by
  unfold getK
  rw [List.find?_cons, decide_eq_true rfl]
def goneV (key : α → Bytes) (a b : List α) : List α := a.filter fun x => (getK key (key x) b).isNone
theorem goneV_nil (a : List α) : goneV key a [] = a := by
  unfold goneV
  rw [List.filter_eq_self]
  intro x _
  rfl
theorem filter_cong {p q : α → Bool} {l : List α} (h : ∀ x ∈ l, p x = q x) : l.filter p = l.filter q := List.filter_congr h
end
section
variable {α : Type} [DecidableEq α] (key : α → Bytes)
def comeV (a b : List α) : List α := b.filter fun x => decide (getK key (key x) a ≠ some x)
/-- Both lists, walked side by side. -/
def sidesV : List α → List α → List α × List α
  | [], b => ([], b)
  | x :: a, [] => (x :: a, [])
  | x :: a, y :: b =>
    if strLt (key x) (key y) = true then (x :: (sidesV a (y :: b)).1, (sidesV a (y :: b)).2)
    else if strLt (key y) (key x) = true then ((sidesV (x :: a) b).1, y :: (sidesV (x :: a) b).2)
    else ((sidesV a b).1, if x ≠ y then y :: (sidesV a b).2 else (sidesV a b).2)
termination_by a b => a.length + b.length
variable {key}
theorem comeV_nil (b : List α) : comeV key [] b = b := by
  unfold comeV
  rw [List.filter_eq_self]
  intro x _
  simp [getK]
theorem sides_eq : ∀ (a b : List α), Asc key a → Asc key b → sidesV key a b = (goneV key a b, comeV key a b)
  | [], b, _, _ => by
    rw [sidesV, comeV_nil]; rfl
  | x :: a, [], _, _ => by
    rw [sidesV, goneV_nil]; rfl
  | x :: a, y :: b, ha, hb => by
    obtain ⟨a1, a2⟩ := List.pairwise_cons.1 ha
    obtain ⟨b1, b2⟩ := List.pairwise_cons.1 hb
    rw [sidesV]
    by_cases c1 : strLt (key x) (key y) = true
    · rw [if_pos c1, sides_eq a (y :: b) a2 hb]
      have hx : getK key (key x) (y :: b) = none := getK_none_lt fun z hz => by
        rcases List.mem_cons.1 hz with rfl | hz
        · exact c1
        · exact lt_tr c1 (b1 z hz)
      have e1 : goneV key (x :: a) (y :: b) = x :: goneV key a (y :: b) := by
        unfold goneV
        rw [List.filter_cons_of_pos (by rw [hx]; rfl)]
      have e2 : comeV key (x :: a) (y :: b) = comeV key a (y :: b) := by
        unfold comeV
        refine filter_cong fun z hz => ?_
        have : ¬ key x = key z := fun e => by
          have h1 : strLt (key x) (key z) = true := by
            rcases List.mem_cons.1 hz with rfl | hz
            · exact c1
            · exact lt_tr c1 (b1 z hz)
          rw [e, lt_irr] at h1; cases h1
        rw [getK_skip this]
      rw [e1, e2]
    rw [if_neg c1]
    by_cases c2 : strLt (key y) (key x) = true
    · rw [if_pos c2, sides_eq (x :: a) b ha b2]
      have hy : getK key (key y) (x :: a) = none := getK_none_lt fun z hz => by
        rcases List.mem_cons.1 hz with rfl | hz
        · exact c2
        · exact lt_tr c2 (a1 z hz)
      have e1 : comeV key (x :: a) (y :: b) = y :: comeV key (x :: a) b := by
        unfold comeV
        rw [List.filter_cons_of_pos (by rw [hy]; simp)]
      have e2 : goneV key (x :: a) (y :: b) = goneV key (x :: a) b := by
        unfold goneV
        refine filter_cong fun z hz => ?_
        have : ¬ key y = key z := fun e => by
          have h1 : strLt (key y) (key z) = true := by
            rcases List.mem_cons.1 hz with rfl | hz
            · exact c2
            · exact lt_tr c2 (a1 z hz)
          rw [e, lt_irr] at h1; cases h1
        rw [getK_skip this]
      rw [e1, e2]
    rw [if_neg c2, sides_eq a b a2 b2]
    have e : key x = key y := by
      rcases lt_tri (key x) (key y) with t | t | t
      · exact absurd t c1
      · exact t
      · exact absurd t c2
    have e1 : goneV key (x :: a) (y :: b) = goneV key a b := by
      unfold goneV
      rw [List.filter_cons_of_neg (by rw [e, getK_hit]; simp)]
      refine filter_cong fun z hz => ?_
      rw [getK_skip]
      intro e2
      have := a1 z hz
      rw [e, e2, lt_irr] at this; cases this
    have e2 : comeV key (x :: a) (y :: b) = if x ≠ y then y :: comeV key a b else comeV key a b := by
      unfold comeV
      have hr : (b.filter fun z => decide (getK key (key z) (x :: a) ≠ some z)) = b.filter fun z => decide (getK key (key z) a ≠ some z) := by
        refine filter_cong fun z hz => ?_
        rw [getK_skip]
        intro e2
        have := b1 z hz
        rw [← e, e2, lt_irr] at this; cases this
      have hg : getK key (key y) (x :: a) = some x := by rw [← e]; exact getK_hit
      by_cases c : x = y
      · rw [List.filter_cons_of_neg (by rw [hg]; simp [c]), hr, if_neg (by simp [c])]
      · rw [List.filter_cons_of_pos (by rw [hg]; simp [c]), hr, if_pos c]
    rw [e1, e2]
termination_by a b => a.length + b.length
end
def rmF (f : FileV) : ChgV := ⟨2, ⟨f.path, [], false⟩, .zero, .zero⟩
def rmS (s : SetV) : ChgV := ⟨4, .zero, ⟨s.key, []⟩, .zero⟩
def rmV (s : SvcV) : ChgV := ⟨6, .zero, .zero, ⟨s.name, [], false, false⟩⟩
def ptF (f : FileV) : ChgV := ⟨1, f, .zero, .zero⟩
def ptS (s : SetV) : ChgV := ⟨3, .zero, s, .zero⟩
def ptV (s : SvcV) : ChgV := ⟨5, .zero, .zero, s⟩
/-- Changes that make b of a. -/
def diffV (a b : MacV) : List ChgV :=
  (goneV (·.path) a.files b.files).map rmF ++ (goneV (·.key) a.sets b.sets).map rmS ++ (goneV (·.name) a.svcs b.svcs).map rmV ++
  (comeV (·.path) a.files b.files).map ptF ++ (comeV (·.key) a.sets b.sets).map ptS ++ (comeV (·.name) a.svcs b.svcs).map ptV
/-! ### The differences, made -/
section
variable {α : Type} {key : α → Bytes}
end
end Go.Proofs

/- Walks: changes of a machine, on the reference's side. -/
namespace Go.Proofs
open Go Go.Abs
open Nat (reduceEqDiff reduceAdd reduceLeDiff reduceLT reduceMul)
open Int (reduceEq reduceLE reduceSub reduceToNat)
set_option linter.unusedSimpArgs false
set_option linter.unusedVariables false
set_option maxRecDepth 20000
theorem pathB_len {s : Bytes} (h : pathB s = true) : s.length ≤ 200 := by
  unfold pathB at h
  simp only [Bool.and_eq_true, decide_eq_true_eq] at h
  omega
theorem nameB_len {s : Bytes} (h : nameB s = true) : s.length ≤ 40 := by
  unfold nameB sEach at h
  simp only [Bool.and_eq_true, decide_eq_true_eq] at h
  omega
theorem valueB_len {s : Bytes} (h : valueB s = true) : s.length ≤ 1000 := by
  unfold valueB sEach at h
  simp only [Bool.or_eq_true, Bool.and_eq_true, decide_eq_true_eq] at h
  rcases h with rfl | h
  · simp
  · omega
theorem fileErr_ok {f : FileV} (h : fileErr f = 0) : pathB f.path = true ∧ f.data.length ≤ 65536 := by
  unfold fileErr at h
  split at h
  · cases h
  split at h
  · cases h
  · exact ⟨by simp_all, by omega⟩
theorem setErr_ok {f : SetV} (h : setErr f = 0) : pathB f.key = true ∧ valueB f.value = true := by
  unfold setErr at h
  split at h
  · cases h
  split at h
  · cases h
  · exact ⟨by simp_all, by simp_all⟩
theorem factErr_ok {f : SetV} (h : factErr f = 0) : nameB f.key = true ∧ valueB f.value = true := by
  unfold factErr at h
  split at h
  · cases h
  split at h
  · cases h
  · exact ⟨by simp_all, by simp_all⟩
theorem svcErr_ok {f : SvcV} (h : svcErr f = 0) : nameB f.name = true ∧ pathB f.path = true := by
  unfold svcErr at h
  split at h
  · cases h
  · exact ⟨by simp_all, by simp_all⟩
theorem MacOK.R {m : MacV} (h : MacOK m) : macR m := by
  refine ⟨⟨by have := h.l1; omega, by have := h.l2; omega, by have := h.l3; omega, by have := h.l4; omega⟩, fun x hx => ?_, fun x hx => ?_, fun x hx => ?_, fun x hx => ?_⟩
  · obtain ⟨a, b⟩ := factErr_ok (h.e1 x hx)
    have := nameB_len a; have := valueB_len b
    exact ⟨by omega, by omega⟩
  · obtain ⟨a, b⟩ := fileErr_ok (h.e2 x hx)
    have := pathB_len a
    exact ⟨by omega, by omega⟩
  · obtain ⟨a, b⟩ := setErr_ok (h.e3 x hx)
    have := pathB_len a; have := valueB_len b
    exact ⟨by omega, by omega⟩
  · obtain ⟨a, b⟩ := svcErr_ok (h.e4 x hx)
    have := nameB_len a; have := pathB_len b
    exact ⟨by omega, by omega⟩
end Go.Proofs

/- The changes that lead from one machine to another do so: plain Lean, no program. -/
namespace Go.Proofs
open Go Go.Abs
set_option linter.unusedSimpArgs false
set_option linter.unusedVariables false
section
variable {α : Type} {key : α → Bytes}
/-- All keys are keys of these. -/
def KeysIn (key : α → Bytes) (l B : List α) : Prop := ∀ x ∈ l, key x ∈ B.map key
theorem KeysIn.put {l B : List α} {x : α} (h : KeysIn key l B) (hx : x ∈ B) : KeysIn key (putK key x l) B := fun y hy => by
  rcases putK_mem hy with e | hy
  · rw [e]; exact List.mem_map_of_mem hx
  · exact h y hy
end
section
variable {α : Type} {key : α → Bytes}
end
end Go.Proofs

/- Lists that grow beside others. -/
namespace Go.Proofs
open Go Go.Abs
set_option linter.unusedSimpArgs false
set_option linter.unusedVariables false
set_option maxRecDepth 20000
/-- Two lists have not the same room. -/
def tokNe (t u : Tail) : Prop := ∀ i k ty k' ty', t = .tok i k ty → u ≠ .tok i k' ty'
theorem tokNe.symm {t u : Tail} (h : tokNe t u) : tokNe u t := fun i k ty k' ty' h1 h2 => h i k' ty' k ty h2 h1
theorem tokNe_exact (t : Tail) : tokNe .exact t := fun i k ty k' ty' h => by cases h
/-- What one list's growing leaves: all but its room. -/
def Grows (G G' : Heap) (tl tl' : Tail) : Prop := (∀ i o, G i = some o → (∀ k ty, tl ≠ .tok i k ty) → G' i = some o) ∧ (∀ i k ty, tl' = .tok i k ty → G i = none)
theorem AppG.step2 {et : Option TypeId} {H G : Heap} {e : TI} {acc new : List (List AV)} {tl : Tail} {K : K1} (h : AppG H G e.size acc tl) (hu : Unif e.size acc) (hn : new ≠ [])
    (h1 : (acc.length + new.length) * e.bytes ≤ 140737488355328) (h2 : acc.length + new.length ≤ 4611686018427387904)
    (hK : ∀ tl' G', AppG H G' e.size (acc ++ new) tl' → Grows G G' tl tl' → K (.sl (acc ++ new) tl') G') : appK et false e (.sl acc tl) new G K := by
  have hnone : ∀ id', G id' = none → H id' = none := fun id' hid' => sub_none h.1 hid'
  rcases h.2 with rfl | ⟨id, ty, rfl, h3, h4⟩
  · refine app_exact hu h1 h2 (fun e => absurd e hn) (fun _ id' hid' => ?_)
    refine hK _ _ ⟨h.1.put' (hnone _ hid') _, .inr ⟨id', _, rfl, hnone _ hid', put_same _ _ _⟩⟩ ⟨fun i o hi _ => ?_, fun i k ty e => by cases e; exact hid'⟩
    have : ¬ i = id' := fun e => by subst e; rw [hid'] at hi; cases hi
    rw [put_ne _ _ _ _ this]; exact hi
  · refine app_tok hu h4 h1 h2 (fun id' hid' => ?_)
    refine hK _ _ ⟨?_, .inr ⟨id', _, rfl, hnone _ hid', put_same _ _ _⟩⟩ ⟨fun i o hi hno => ?_, fun i k ty e => by cases e; exact hid'⟩
    · refine Heap.Sub.put' (fun i o hi => ?_) (hnone _ hid') _
      have : ¬ i = id := fun e => by subst e; rw [h3] at hi; cases hi
      show (if i = id then none else G i) = some o
      rw [if_neg this]; exact h.1 i o hi
    · have a1 : ¬ i = id' := fun e => by subst e; rw [hid'] at hi; cases hi
      have a2 : ¬ i = id := fun e => by subst e; exact hno _ _ rfl
      rw [put_ne _ _ _ _ a1]
      show (if i = id then none else G i) = some o
      rw [if_neg a2]; exact hi
theorem Grows.cells {H G G' : Heap} {k : Nat} {acc : List (List AV)} {tl tl' : Tail} (h : Grows G G' tl tl') (ha : AppG H G k acc tl) {i : Nat} {cs : List AV} (hi : G i = some (.cells cs)) : G' i = some (.cells cs) := by
  refine h.1 i _ hi (fun k ty e => ?_)
  rcases ha.2 with h2 | ⟨id, ty2, h2, h3, h4⟩
  · rw [e] at h2; cases h2
  · rw [e] at h2; cases h2; rw [hi] at h4; cases h4
theorem Grows.other {H G G' : Heap} {k2 : Nat} {acc2 : List (List AV)} {tl tl' u : Tail} (h : Grows G G' tl tl') (hs : H.Sub G') (ha : AppG H G k2 acc2 u) (hne : tokNe u tl) : AppG H G' k2 acc2 u ∧ tokNe u tl' := by
  rcases ha.2 with rfl | ⟨id, ty2, rfl, h3, h4⟩
  · exact ⟨⟨hs, .inl rfl⟩, tokNe_exact _⟩
  · refine ⟨⟨hs, .inr ⟨id, ty2, rfl, h3, h.1 id _ h4 (fun k ty e => hne id _ _ _ _ rfl e)⟩⟩, fun i k ty k' ty' e1 e2 => ?_⟩
    cases e1
    have := h.2 _ _ _ e2
    rw [h4] at this; cases this
theorem _root_.Go.Abs.AppG.set {H G : Heap} {k : Nat} {acc : List (List AV)} {tl : Tail} (h : AppG H G k acc tl) {id : Nat} (hid : H id = none) {cs : List AV} (ho : G id = some (.cells cs)) (o' : AObj) : AppG H (G.put id o') k acc tl := by
  refine ⟨h.1.put' hid o', ?_⟩
  rcases h.2 with h2 | ⟨i, ty, h2, h3, h4⟩
  · exact .inl h2
  · have : ¬ i = id := fun e => by subst e; rw [h4] at ho; cases ho
    exact .inr ⟨i, ty, h2, h3, by rw [put_ne _ _ _ _ this]; exact h4⟩
end Go.Proofs
