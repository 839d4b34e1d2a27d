/- What is held: plain Lean, no program. -/
import Derived.Test.YtknageenalghdaaDoorP4
namespace Go.Proofs
open Go Go.Abs
set_option linter.unusedSimpArgs false
set_option linter.unusedVariables false
structure HeldV where
  owner : Bytes
  kind : Int
  path : Bytes
  sum : Bytes
  base : Bytes
  deriving DecidableEq
def encHeld (h : HeldV) : List AV := [.str h.owner, .int .i64 h.kind, .str h.path, .str h.sum, .str h.base]
def decHeld : List AV → Option HeldV
  | [.str a, .int .i64 k, .str b, .str c, .str d] => some ⟨a, k, b, c, d⟩
  | _ => none
theorem decHeld_some {c : List AV} {a : HeldV} (h : decHeld c = some a) : c = encHeld a := by
  unfold decHeld at h; split at h
  · cases h; rfl
  · cases h
theorem decHeld_enc (h : HeldV) : decHeld (encHeld h) = some h := rfl
/-- The sizes that may be. -/
def heldR (h : HeldV) : Prop := h.owner.length ≤ 1048576 ∧ h.path.length ≤ 1048576 ∧ h.sum.length ≤ 1048576 ∧ h.base.length ≤ 1048576
instance (h : HeldV) : Decidable (heldR h) := inferInstanceAs (Decidable (_ ∧ _))
def thing (k : Int) : Int := if k = 5 then 1 else if k = 6 then 2 else 0
def named (h : HeldV) : Bool := if h.kind = 6 then nameB h.path else pathB h.path
def badSum (h : HeldV) : Bool := !sumB h.sum || (decide (h.base ≠ []) && decide (h.kind ≠ 3)) || (decide (h.kind = 3) && decide (h.sum ≠ sumOf (114 :: h.base)) && decide (h.sum ≠ sumOf (45 :: h.base)))
def heldErr (h : HeldV) : Int := if nameB h.owner = false then 5 else if h.kind < 1 ∨ 6 < h.kind then 1 else if named h = false then 5 else if badSum h = true then 2 else 0
def heldCmp (a b : HeldV) : Int := if Lib.compareBytes a.owner b.owner ≠ 0 then Lib.compareBytes a.owner b.owner else if thing a.kind ≠ thing b.kind then thing a.kind - thing b.kind else Lib.compareBytes a.path b.path
instance : Inhabited HeldV := ⟨⟨[], 0, [], [], []⟩⟩
/-- The error of the thing at a place, with the order. -/
def errAt (l : List HeldV) (i : Nat) : Int :=
  if heldErr (l.getD i default) ≠ 0 then heldErr (l.getD i default) else if 0 < i ∧ 0 ≤ heldCmp (l.getD (i - 1) default) (l.getD i default) then 7 else 0
def errs (l : List HeldV) : List Int := (List.range l.length).map (errAt l)
theorem errs_get {l : List HeldV} {i : Nat} (h : i < l.length) : (errs l)[i]? = some (errAt l i) := by
  unfold errs; rw [List.getElem?_map, List.getElem?_range h]; rfl
theorem errs_len (l : List HeldV) : (errs l).length = l.length := by simp [errs]
def firstOf : List Int → Int
  | [] => 0
  | e :: l => if e = 0 then firstOf l else e
def sameP (a b : HeldV) : Bool := decide (thing a.kind = thing b.kind) && decide (a.path = b.path)
def shareB (a b : HeldV) : Bool := decide (a.kind = 2) && decide (b.kind = 2) && decide (a.sum = b.sum)
/-- Is there one that cannot be held together with the last one before it at its place? -/
def confl : List HeldV → List HeldV → Bool
  | _, [] => false
  | seen, h :: l => (match seen.find? (sameP h) with | some x => !shareB x h | none => false) || confl (h :: seen) l
def keepErr (l : List HeldV) : Int := if 5000 < l.length then 4 else if firstOf (errs l) ≠ 0 then firstOf (errs l) else if confl [] l then 11 else 0
def keyH (d : Int) (h : HeldV) : Key := .t [.i (thing h.kind + d), .s h.path]
theorem keyH_eq (d : Int) (a b : HeldV) : keyH d a = keyH d b ↔ sameP a b = true := by
  simp [keyH, sameP]
/-- What a map of the last things at their places holds. -/
def MapOK (d : Int) (es : List (Key × AV)) (seen : List HeldV) : Prop := ∀ h, mget es (keyH d h) = (seen.find? (sameP h)).map fun x => .agg (encHeld x)
theorem mget_mset (es : List (Key × AV)) (k k' : Key) (v : AV) : mget (mset es k v) k' = if k = k' then some v else mget es k' := by
  induction es with
  | nil => simp only [mset, mget, List.find?_cons, List.find?_nil]; by_cases h : k = k' <;> simp [h]
  | cons e es ih =>
    unfold mget at ih ⊢
    simp only [mset]
    by_cases he : e.1 = k
    · rw [if_pos he]
      simp only [List.find?_cons]
      by_cases h : k = k'
      · simp [h]
      · have : ¬ e.1 = k' := by rw [he]; exact h
        simp [h, this]
    · rw [if_neg he]
      simp only [List.find?_cons]
      by_cases h : e.1 = k'
      · have : ¬ k = k' := fun e' => he (h.trans e'.symm)
        simp [h, this]
      · simp only [h, decide_false]
        exact ih
theorem MapOK.nil (d : Int) : MapOK d [] [] := fun h => rfl
theorem sameP_comm (a b : HeldV) : sameP a b = sameP b a := by
  unfold sameP
  rw [Bool.eq_iff_iff]
  simp only [Bool.and_eq_true, decide_eq_true_eq]
  constructor <;> rintro ⟨h1, h2⟩ <;> exact ⟨h1.symm, h2.symm⟩
theorem MapOK.set {d : Int} {es : List (Key × AV)} {seen : List HeldV} (h : MapOK d es seen) (x : HeldV) : MapOK d (mset es (keyH d x) (.agg (encHeld x))) (x :: seen) := fun y => by
  rw [mget_mset, List.find?_cons]
  by_cases hs : sameP y x = true
  · rw [if_pos ((keyH_eq d x y).2 (by rw [sameP_comm]; exact hs)), hs]; rfl
  · rw [if_neg (fun e => hs (by rw [sameP_comm]; exact (keyH_eq d x y).1 e))]
    have : sameP y x = false := by simpa using hs
    rw [this]; exact h y
theorem opt_cases {α : Type} (o : Option α) {p : Prop} (h1 : o = none → p) (h2 : ∀ x, o = some x → p) : p := by
  cases o with
  | none => exact h1 rfl
  | some x => exact h2 x rfl
end Go.Proofs
