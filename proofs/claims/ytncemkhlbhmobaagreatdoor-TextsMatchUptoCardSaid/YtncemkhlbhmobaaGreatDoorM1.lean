/-
  Walks and plain laws, part 1.
-/
import Derived.Lib.Bytealg
import Derived.Test.YtncemkhlbhmobaaGreatDoorAbs4
import Derived.Test.YtncemkhlbhmobaaGreatDoorTy
import Derived.IntWalk
/- What strings are cut into; signs and names: plain Lean, no program. -/
namespace Go.Proofs
set_option linter.unusedSimpArgs false
set_option linter.unusedVariables false
abbrev Bytes := List UInt8
def splitB (c : UInt8) : Bytes → List Bytes
  | [] => [[]]
  | b :: l => if b = c then [] :: splitB c l else
    match splitB c l with
    | h :: t => (b :: h) :: t
    | [] => [[b]]
theorem splitB_ne (c : UInt8) (l : Bytes) : splitB c l ≠ [] := by
  cases l with
  | nil => simp [splitB]
  | cons b l =>
    unfold splitB
    split
    · simp
    · split <;> simp
theorem splitB_none {c : UInt8} : ∀ {l : Bytes}, l.count c = 0 → splitB c l = [l]
  | [], _ => rfl
  | b :: l, h => by
    rw [List.count_cons] at h
    have hb : ¬ b = c := by intro e; subst e; simp at h
    have hl : l.count c = 0 := by omega
    unfold splitB
    rw [if_neg hb, splitB_none hl]
theorem indexByte_none {c : UInt8} : ∀ {l : Bytes}, Lib.indexByte l c = -1 ↔ l.count c = 0
  | [] => by simp [Lib.indexByte]
  | b :: l => by
    have ih := indexByte_none (c := c) (l := l)
    have hge := Lib.indexByte_ge l c
    unfold Lib.indexByte
    rw [List.count_cons]
    by_cases hb : (b == c) = true
    · rw [if_pos hb, if_pos hb]; omega
    · rw [if_neg hb, if_neg hb]
      by_cases h2 : Lib.indexByte l c = -1
      · simp [h2, ih.1 h2]
      · have : ¬ l.count c = 0 := fun e => h2 (ih.2 e)
        have hb2 : (Lib.indexByte l c == -1) = false := by simpa using h2
        rw [hb2]
        simp only [Bool.false_eq_true, if_false]
        omega
theorem indexByte_some {c : UInt8} : ∀ {l : Bytes} {m : Nat}, Lib.indexByte l c = (m : Int) → m < l.length ∧ splitB c l = l.take m :: splitB c (l.drop (m + 1)) ∧ l.count c = (l.drop (m + 1)).count c + 1
  | [], m, h => by simp [Lib.indexByte] at h
  | b :: l, m, h => by
    unfold Lib.indexByte at h
    by_cases hb : (b == c) = true
    · rw [if_pos hb] at h
      have : m = 0 := by omega
      subst this
      have hb' : b = c := by simpa using hb
      subst hb'
      refine ⟨by simp, by simp [splitB], by simp⟩
    · rw [if_neg hb] at h
      have hge := Lib.indexByte_ge l c
      by_cases h2 : Lib.indexByte l c = -1
      · rw [h2] at h; simp at h
      · have hb2 : (Lib.indexByte l c == -1) = false := by simpa using h2
        rw [hb2] at h
        simp only [Bool.false_eq_true, if_false] at h
        obtain ⟨k, rfl⟩ : ∃ k, m = k + 1 := ⟨m - 1, by omega⟩
        obtain ⟨i1, i2, i3⟩ := indexByte_some (c := c) (l := l) (m := k) (by omega)
        have hb' : ¬ b = c := by simpa using hb
        refine ⟨by simp; omega, ?_, ?_⟩
        · rw [splitB, if_neg hb', i2]; simp
        · rw [List.count_cons, if_neg hb, i3]; simp
theorem splitB_len {c : UInt8} : ∀ (l : Bytes), (splitB c l).length = l.count c + 1
  | [] => by simp [splitB]
  | b :: l => by
    have ih := splitB_len (c := c) l
    unfold splitB
    rw [List.count_cons]
    by_cases hb : b = c
    · simp [hb, ih]
    · simp only [hb, if_false, beq_iff_eq]
      cases hs : splitB c l with
      | nil => exact absurd hs (splitB_ne c l)
      | cons h t => rw [hs] at ih; simpa using ih
/-- Each part of a text is no longer than it. -/
theorem splitB_mem {c : UInt8} : ∀ (l : Bytes), ∀ p ∈ splitB c l, p.length ≤ l.length
  | [], p, h => by simp [splitB] at h; simp [h]
  | b :: l, p, h => by
    have ih := splitB_mem (c := c) l
    unfold splitB at h
    split at h
    · rcases List.mem_cons.1 h with rfl | h
      · simp
      · have := ih p h; simp; omega
    · split at h
      · rename_i hd t hs
        rw [hs] at ih
        rcases List.mem_cons.1 h with rfl | h
        · have := ih hd (by simp); simp; omega
        · have := ih p (by simp [h]); simp; omega
      · rename_i hs; exact absurd hs (splitB_ne c l)
end Go.Proofs

/- Signs, names, paths, values: plain Lean, no program. -/
namespace Go.Proofs
set_option linter.unusedSimpArgs false
set_option linter.unusedVariables false
def isSm (c : Int) : Bool := decide (97 ≤ c) && decide (c ≤ 122)
def isDg (c : Int) : Bool := decide (48 ≤ c) && decide (c ≤ 57)
def isNm (c : Int) : Bool := isSm c || isDg c || decide (c = 45) || decide (c = 46)
def isPt (c : Int) : Bool := isSm c || (decide (65 ≤ c) && decide (c ≤ 90)) || isDg c || decide (c = 45) || decide (c = 46) || decide (c = 95)
def isVl (c : Int) : Bool := decide (32 ≤ c) && decide (c ≤ 126)
def allB (p : Int → Bool) (s : Bytes) : Bool := s.all fun b => p (b.toNat : Int)
def sEach (p : Int → Bool) (s : Bytes) (most : Int) : Bool := allB p s && decide (s ≠ []) && decide ((s.length : Int) ≤ most)
def nameB (s : Bytes) : Bool := sEach isNm s 40 && isSm ((s.headD 0).toNat : Int)
def partB (s : Bytes) : Bool := sEach isPt s 40 && decide (s ≠ [46]) && decide (s ≠ [46, 46])
def pathB (s : Bytes) : Bool := (splitB 47 s).all partB && decide ((s.length : Int) ≤ 200)
def valueB (s : Bytes) : Bool := decide (s = []) || sEach isVl s 1000
theorem allB_succ {p : Int → Bool} {s : Bytes} {i : Nat} {c : UInt8} (h : allB p (s.take i) = true) (hc : s[i]? = some c) (hp : p (c.toNat : Int) = true) : allB p (s.take (i + 1)) = true := by
  unfold allB at *
  rw [List.take_add_one, hc]
  simp [List.all_append, h, hp]
theorem allB_false {p : Int → Bool} {s : Bytes} {i : Nat} {c : UInt8} (hc : s[i]? = some c) (hp : p (c.toNat : Int) = false) : allB p s = false := by
  unfold allB
  rw [List.all_eq_false]
  exact ⟨c, List.mem_of_getElem? hc, by simp [hp]⟩
theorem sEach_false {p : Int → Bool} {s : Bytes} {i : Nat} {c : UInt8} {n : Int} (hc : s[i]? = some c) (hp : p (c.toNat : Int) = false) : sEach p s n = false := by
  unfold sEach; rw [allB_false hc hp]; simp
theorem head_of {s : Bytes} {c : UInt8} (h : s[0]? = some c) : s.headD 0 = c := by
  cases s with
  | nil => cases h
  | cons b l => simpa using h
theorem not_nil_of {s : Bytes} {i : Nat} {c : UInt8} (h : s[i]? = some c) : s ≠ [] := by rintro rfl; simp at h
end Go.Proofs

/- The sum of a text: plain Lean, no program. -/
namespace Go.Proofs
open Go Go.Abs
open Nat (reduceEqDiff reduceAdd reduceLeDiff reduceLT reduceMul)
open Int (reduceEq reduceLE reduceSub reduceToNat)
set_option linter.unusedSimpArgs false
set_option linter.unusedVariables false
/-- The digit of a number below 16. -/
def dig (n : Nat) : UInt8 := ([48, 49, 50, 51, 52, 53, 54, 55, 56, 57, 97, 98, 99, 100, 101, 102] : List UInt8).getD n 0
theorem dig_get (m : Nat) (h : m < 16) : ([48, 49, 50, 51, 52, 53, 54, 55, 56, 57, 97, 98, 99, 100, 101, 102] : List UInt8)[m]? = some (dig m) := by
  unfold dig
  rw [List.getD]
  cases hh : ([48, 49, 50, 51, 52, 53, 54, 55, 56, 57, 97, 98, 99, 100, 101, 102] : List UInt8)[m]? with
  | none => rw [List.getElem?_eq_none_iff] at hh; simp at hh; omega
  | some v => rfl
end Go.Proofs

/- Things of a machine, changes, items, what is held: plain Lean, no program. -/
namespace Go.Proofs
open Go Go.Abs
set_option linter.unusedSimpArgs false
set_option linter.unusedVariables false
structure FileV where
  path : Bytes
  data : Bytes
  runs : Bool
  deriving DecidableEq
structure SetV where
  key : Bytes
  value : Bytes
  deriving DecidableEq
structure SvcV where
  name : Bytes
  path : Bytes
  auto : Bool
  on : Bool
  deriving DecidableEq
/-- A change; an item. -/
structure ChgV where
  kind : Int
  file : FileV
  set : SetV
  svc : SvcV
  deriving DecidableEq
def FileV.zero : FileV := ⟨[], [], false⟩
def SetV.zero : SetV := ⟨[], []⟩
def SvcV.zero : SvcV := ⟨[], [], false, false⟩
def encFile (f : FileV) : List AV := [.str f.path, .str f.data, .bool f.runs]
def encSet (s : SetV) : List AV := [.str s.key, .str s.value]
def encSvc (s : SvcV) : List AV := [.str s.name, .str s.path, .bool s.auto, .bool s.on]
def encChg (c : ChgV) : List AV := [.int .i64 c.kind, .str c.file.path, .str c.file.data, .bool c.file.runs, .str c.set.key, .str c.set.value, .str c.svc.name, .str c.svc.path, .bool c.svc.auto, .bool c.svc.on]
def decFile : List AV → Option FileV
  | [.str a, .str b, .bool c] => some ⟨a, b, c⟩
  | _ => none
def decSet : List AV → Option SetV
  | [.str a, .str b] => some ⟨a, b⟩
  | _ => none
def decSvc : List AV → Option SvcV
  | [.str a, .str b, .bool c, .bool d] => some ⟨a, b, c, d⟩
  | _ => none
def decChg : List AV → Option ChgV
  | [.int .i64 k, .str a, .str b, .bool c, .str d, .str e, .str f, .str g, .bool h, .bool i] => some ⟨k, ⟨a, b, c⟩, ⟨d, e⟩, ⟨f, g, h, i⟩⟩
  | _ => none
theorem decFile_some {c : List AV} {a : FileV} (h : decFile c = some a) : c = encFile a := by
  unfold decFile at h; split at h
  · cases h; rfl
  · cases h
theorem decSet_some {c : List AV} {a : SetV} (h : decSet c = some a) : c = encSet a := by
  unfold decSet at h; split at h
  · cases h; rfl
  · cases h
theorem decSvc_some {c : List AV} {a : SvcV} (h : decSvc c = some a) : c = encSvc a := by
  unfold decSvc at h; split at h
  · cases h; rfl
  · cases h
def fileErr (f : FileV) : Int := if pathB f.path = false then 5 else if (65536 : Int) < f.data.length then 4 else 0
def setErr (s : SetV) : Int := if pathB s.key = false then 5 else if valueB s.value = false then 2 else 0
def factErr (s : SetV) : Int := if nameB s.key = false then 5 else if valueB s.value = false then 2 else 0
def svcErr (s : SvcV) : Int := if nameB s.name = false ∨ pathB s.path = false then 5 else 0
def pathErr (p : Bytes) : Int := if pathB p = false then 5 else 0
def nameErr (p : Bytes) : Int := if nameB p = false then 5 else 0
/-- What is wrong with the part that a change needs; the change with that part alone. -/
def partErr (c : ChgV) : Int :=
  if c.kind = 1 then fileErr c.file else if c.kind = 2 then pathErr c.file.path else if c.kind = 3 then setErr c.set else if c.kind = 4 then pathErr c.set.key
  else if c.kind = 5 then svcErr c.svc else nameErr c.svc.name
def kept (c : ChgV) : ChgV :=
  if c.kind = 1 then ⟨c.kind, c.file, .zero, .zero⟩ else if c.kind = 2 then ⟨c.kind, ⟨c.file.path, [], false⟩, .zero, .zero⟩ else if c.kind = 3 then ⟨c.kind, .zero, c.set, .zero⟩ else if c.kind = 4 then ⟨c.kind, .zero, ⟨c.set.key, []⟩, .zero⟩
  else if c.kind = 5 then ⟨c.kind, .zero, .zero, c.svc⟩ else ⟨c.kind, .zero, .zero, ⟨c.svc.name, [], false, false⟩⟩
def chgErr (c : ChgV) : Int := if c.kind < 1 ∨ 6 < c.kind then 1 else if partErr c ≠ 0 then partErr c else if c ≠ kept c then 2 else 0
/-- The sizes that may be. -/
def roomy (s : Bytes) : Prop := s.length ≤ 1099511627776
instance (s : Bytes) : Decidable (roomy s) := inferInstanceAs (Decidable (_ ≤ _))
def fileR (f : FileV) : Prop := f.path.length ≤ 1099511627776 ∧ f.data.length ≤ 1099511627776
def setR (f : SetV) : Prop := f.key.length ≤ 1099511627776 ∧ f.value.length ≤ 1099511627776
def svcR (f : SvcV) : Prop := f.name.length ≤ 1099511627776 ∧ f.path.length ≤ 1099511627776
def chgR (c : ChgV) : Prop := fileR c.file ∧ setR c.set ∧ svcR c.svc
instance (f : FileV) : Decidable (fileR f) := inferInstanceAs (Decidable (_ ∧ _))
instance (f : SetV) : Decidable (setR f) := inferInstanceAs (Decidable (_ ∧ _))
instance (f : SvcV) : Decidable (svcR f) := inferInstanceAs (Decidable (_ ∧ _))
instance (f : ChgV) : Decidable (chgR f) := inferInstanceAs (Decidable (_ ∧ _ ∧ _))
end Go.Proofs

/- What is held: plain Lean, no program. -/
namespace Go.Proofs
open Go Go.Abs
set_option linter.unusedSimpArgs false
set_option linter.unusedVariables false
structure HeldV where
  owner : Bytes
  kind : Int
  path : Bytes
  sum : Bytes
  base : Bytes
  deriving DecidableEq
def encHeld (h : HeldV) : List AV := [.str h.owner, .int .i64 h.kind, .str h.path, .str h.sum, .str h.base]
/-- The sizes that may be. -/
def heldR (h : HeldV) : Prop := h.owner.length ≤ 1048576 ∧ h.path.length ≤ 1048576 ∧ h.sum.length ≤ 1048576 ∧ h.base.length ≤ 1048576
instance (h : HeldV) : Decidable (heldR h) := inferInstanceAs (Decidable (_ ∧ _))
def thing (k : Int) : Int := if k = 5 then 1 else if k = 6 then 2 else 0
def named (h : HeldV) : Bool := if h.kind = 6 then nameB h.path else pathB h.path
instance : Inhabited HeldV := ⟨⟨[], 0, [], [], []⟩⟩
def firstOf : List Int → Int
  | [] => 0
  | e :: l => if e = 0 then firstOf l else e
def sameP (a b : HeldV) : Bool := decide (thing a.kind = thing b.kind) && decide (a.path = b.path)
def keyH (d : Int) (h : HeldV) : Key := .t [.i (thing h.kind + d), .s h.path]
theorem keyH_eq (d : Int) (a b : HeldV) : keyH d a = keyH d b ↔ sameP a b = true := by
  simp [keyH, sameP]
/-- What a map of the last things at their places holds. -/
def MapOK (d : Int) (es : List (Key × AV)) (seen : List HeldV) : Prop := ∀ h, mget es (keyH d h) = (seen.find? (sameP h)).map fun x => .agg (encHeld x)
theorem mget_mset (es : List (Key × AV)) (k k' : Key) (v : AV) : mget (mset es k v) k' = if k = k' then some v else mget es k' := by
  induction es with
  | nil => simp only [mset, mget, List.find?_cons, List.find?_nil]; by_cases h : k = k' <;> simp [h]
  | cons e es ih =>
    unfold mget at ih ⊢
    simp only [mset]
    by_cases he : e.1 = k
    · rw [if_pos he]
      simp only [List.find?_cons]
      by_cases h : k = k'
      · simp [h]
      · have : ¬ e.1 = k' := by rw [he]; exact h
        simp [h, this]
    · rw [if_neg he]
      simp only [List.find?_cons]
      by_cases h : e.1 = k'
      · have : ¬ k = k' := fun e' => he (h.trans e'.symm)
        simp [h, this]
      · simp only [h, decide_false]
        exact ih
theorem MapOK.nil (d : Int) : MapOK d [] [] := fun h => rfl
theorem sameP_comm (a b : HeldV) : sameP a b = sameP b a := by
  unfold sameP
  rw [Bool.eq_iff_iff]
  simp only [Bool.and_eq_true, decide_eq_true_eq]
  constructor <;> rintro ⟨h1, h2⟩ <;> exact ⟨h1.symm, h2.symm⟩
theorem MapOK.set {d : Int} {es : List (Key × AV)} {seen : List HeldV} (h : MapOK d es seen) (x : HeldV) : MapOK d (mset es (keyH d x) (.agg (encHeld x))) (x :: seen) := fun y => by
  rw [mget_mset, List.find?_cons]
  by_cases hs : sameP y x = true
  · rw [if_pos ((keyH_eq d x y).2 (by rw [sameP_comm]; exact hs)), hs]; rfl
  · rw [if_neg (fun e => hs (by rw [sameP_comm]; exact (keyH_eq d x y).1 e))]
    have : sameP y x = false := by simpa using hs
    rw [this]; exact h y
end Go.Proofs

/- Machines: plain Lean, no program. -/
namespace Go.Proofs
open Go Go.Abs
set_option linter.unusedSimpArgs false
set_option linter.unusedVariables false
structure MacV where
  facts : List SetV
  files : List FileV
  sets : List SetV
  svcs : List SvcV
  deriving DecidableEq
def MacV.zero : MacV := ⟨[], [], [], []⟩
def encMac (m : MacV) (a b c d : Tail) : List AV := [.sl (m.facts.map encSet) a, .sl (m.files.map encFile) b, .sl (m.sets.map encSet) c, .sl (m.svcs.map encSvc) d]
theorem decSet_enc (s : SetV) : decSet (encSet s) = some s := rfl
theorem decFile_enc (s : FileV) : decFile (encFile s) = some s := rfl
theorem decSvc_enc (s : SvcV) : decSvc (encSvc s) = some s := rfl
def macR (m : MacV) : Prop := (m.facts.length ≤ 1099511627776 ∧ m.files.length ≤ 1099511627776 ∧ m.sets.length ≤ 1099511627776 ∧ m.svcs.length ≤ 1099511627776) ∧ (∀ x ∈ m.facts, setR x) ∧ (∀ x ∈ m.files, fileR x) ∧ (∀ x ∈ m.sets, setR x) ∧ (∀ x ∈ m.svcs, svcR x)
/-- One behind the other: no greater. -/
def leB (a b : Bytes) : Bool := strLt a b || decide (a = b)
def ordB (p : Option Bytes) (k : Bytes) : Bool := match p with
  | some q => leB k q
  | none => false
def eachE {α : Type} (err : α → Int) (key : α → Bytes) : Option Bytes → List α → Int
  | _, [] => 0
  | p, x :: l => if err x ≠ 0 then err x else if ordB p (key x) = true then 7 else eachE err key (some (key x)) l
def prevK {α : Type} (key : α → Bytes) (l : List α) (i : Nat) : Option Bytes := if i = 0 then none else (l[i - 1]?).map key
theorem prevK_succ {α : Type} (key : α → Bytes) {l : List α} {i : Nat} {x : α} (h : l[i]? = some x) : prevK key l (i + 1) = some (key x) := by
  unfold prevK
  rw [if_neg (by omega), Nat.add_sub_cancel, h]; rfl
theorem drop_at {α : Type} {l : List α} {i : Nat} {x : α} (h : l[i]? = some x) : l.drop i = x :: l.drop (i + 1) := by
  have hlt := (List.getElem?_eq_some_iff.1 h).1
  rw [List.drop_eq_getElem_cons hlt]
  congr 1
  rw [List.getElem?_eq_getElem hlt] at h
  exact Option.some.inj h
/-- The directories in which a path lies. -/
def dirsB (p : Bytes) : List Bytes := ((List.range p.length).filter fun k => p[k]? = some 47).map fun k => p.take k
def clash (seen : List Bytes) (p : Bytes) : Bool := (dirsB p).any fun d => seen.contains d
def filesE : Option Bytes → List Bytes → List FileV → Int
  | _, _, [] => 0
  | p, seen, x :: l => if fileErr x ≠ 0 then fileErr x else if ordB p x.path = true then 7 else if clash seen x.path = true then 11 else filesE (some x.path) (x.path :: seen) l
def macErr (m : MacV) : Int :=
  if 100 < m.facts.length ∨ 2000 < m.files.length ∨ 2000 < m.sets.length ∨ 100 < m.svcs.length then 4
  else if eachE factErr (·.key) none m.facts ≠ 0 then eachE factErr (·.key) none m.facts
  else if filesE none [] m.files ≠ 0 then filesE none [] m.files
  else if eachE setErr (·.key) none m.sets ≠ 0 then eachE setErr (·.key) none m.sets
  else eachE svcErr (·.name) none m.svcs
/-- What the map of the paths holds. -/
def SeenOK (es : List (Key × AV)) (seen : List Bytes) : Prop := ∀ d, mget es (.s d) = if seen.contains d then some (.bool true) else none
theorem SeenOK.nil : SeenOK [] [] := fun d => rfl
theorem SeenOK.set {es : List (Key × AV)} {seen : List Bytes} (h : SeenOK es seen) (p : Bytes) : SeenOK (mset es (.s p) (.bool true)) (p :: seen) := fun d => by
  rw [mget_mset, List.contains_cons]
  by_cases e : p = d
  · subst e
    rw [if_pos rfl]
    simp
  · have e1 : ¬ Key.s p = Key.s d := fun h => e (by cases h; rfl)
    have e2 : (d == p) = false := by simpa using fun h => e h.symm
    rw [if_neg e1, e2, Bool.false_or]
    exact h d
theorem SeenOK.get {es : List (Key × AV)} {seen : List Bytes} (h : SeenOK es seen) (d : Bytes) : (mget es (.s d)).getD (.bool false) = .bool (seen.contains d) := by
  rw [h]
  split
  · rename_i e; rw [e]; rfl
  · rename_i e
    have : seen.contains d = false := by simpa using e
    rw [this]; rfl
/-- The clash, sign by sign. -/
def clashTo (seen : List Bytes) (p : Bytes) (i : Nat) : Bool := (((List.range i).filter fun k => p[k]? = some 47).map fun k => p.take k).any fun d => seen.contains d
theorem clashTo_succ (seen : List Bytes) (p : Bytes) (i : Nat) : clashTo seen p (i + 1) = (clashTo seen p i || (decide (p[i]? = some 47) && seen.contains (p.take i))) := by
  unfold clashTo
  rw [List.range_succ, List.filter_append, List.map_append, List.any_append]
  congr 1
  by_cases h : p[i]? = some 47 <;> simp [h]
theorem clashTo_all (seen : List Bytes) (p : Bytes) : clashTo seen p p.length = clash seen p := rfl
theorem clashTo_mono {seen : List Bytes} {p : Bytes} {i : Nat} (h : clashTo seen p i = true) : ∀ k, i ≤ k → clashTo seen p k = true := by
  intro k hk
  induction k with
  | zero => obtain rfl : i = 0 := by omega
            exact h
  | succ k ih =>
    by_cases e : i = k + 1
    · subst e; exact h
    · rw [clashTo_succ, ih (by omega)]; rfl
end Go.Proofs

/- Plain laws: what is quoted, and what quotes are read as. -/
namespace Go.Proofs
set_option linter.unusedSimpArgs false
set_option linter.unusedVariables false
def qc (c : UInt8) : Bytes :=
  if c = 92 ∨ c = 34 then [92, c] else if c = 10 then [92, 110] else if c.toNat < 32 ∨ 126 < c.toNat then [92, 120, dig (c.toNat / 16), dig (c.toNat % 16)] else [c]
def quoteI (s : Bytes) : Bytes := s.flatMap qc
def quoteB (s : Bytes) : Bytes := 34 :: (quoteI s ++ [34])
/-- The value of a digit. -/
def hexI (c : UInt8) : Int := Lib.indexByte [48, 49, 50, 51, 52, 53, 54, 55, 56, 57, 97, 98, 99, 100, 101, 102] c
/-- What stands behind a backslash: the byte, and how many it takes. -/
def escB (s : Bytes) : Option (UInt8 × Nat) :=
  match s with
  | [] => none
  | a :: r =>
    if a = 92 ∨ a = 34 then some (a, 1) else if a = 110 then some (10, 1) else if a = 120 then
      match r with
      | h :: l :: _ =>
        if hexI h < 0 ∨ hexI l < 0 then none else
          if (32 ≤ 16 * hexI h + hexI l ∧ 16 * hexI h + hexI l ≤ 126) ∨ 16 * hexI h + hexI l = 10 then none else some (UInt8.ofNat (16 * hexI h + hexI l).toNat, 3)
      | _ => none
    else none
/-- What stands between quotes. -/
def unqI (s : Bytes) : Option Bytes :=
  match s with
  | [] => some []
  | c :: r =>
    if c.toNat < 32 ∨ 126 < c.toNat ∨ c = 34 then none else
      if c = 92 then
        match escB r with
        | some (x, n) => (unqI (r.drop n)).map (x :: ·)
        | none => none
      else (unqI r).map (c :: ·)
termination_by s.length
decreasing_by
  all_goals simp only [List.length_drop, List.length_cons]; omega
def unq (s : Bytes) : Option Bytes := if s.length < 2 ∨ s.head? ≠ some 34 ∨ s.getLast? ≠ some 34 then none else unqI ((s.drop 1).dropLast)
/-- As the reference reads it. -/
def dqI (s : Bytes) : Option Bytes :=
  match s with
  | [] => some []
  | c :: r =>
    if c ≠ 92 then (dqI r).map (c :: ·) else
      match r with
      | [] => none
      | a :: r2 =>
        if a = 34 ∨ a = 92 then (dqI r2).map (a :: ·) else if a = 110 then (dqI r2).map (10 :: ·) else if a = 120 then
          match r2 with
          | h :: l :: r3 => (dqI r3).map (UInt8.ofNat (IntKind.u8.wrap (hexI h * 16 + hexI l)).toNat :: ·)
          | _ => none
        else none
termination_by s.length
theorem hexI_dig : ∀ k, k < 16 → hexI (dig k) = (k : Int) := by decide
theorem hexI_val : ∀ n, n < 256 → 0 ≤ hexI (UInt8.ofNat n) → hexI (UInt8.ofNat n) < 16 ∧ dig (hexI (UInt8.ofNat n)).toNat = UInt8.ofNat n := by decide +kernel
theorem hexI_ge (c : UInt8) : -1 ≤ hexI c := Lib.indexByte_ge _ _
theorem hexI_some {c : UInt8} (h : 0 ≤ hexI c) : ∃ k : Nat, k < 16 ∧ hexI c = k ∧ dig k = c := by
  have hc := c.toNat_lt
  have e : UInt8.ofNat c.toNat = c := by simp
  have := hexI_val c.toNat hc (by rw [e]; exact h)
  rw [e] at this
  exact ⟨(hexI c).toNat, by omega, by omega, this.2⟩
theorem qc_ne (c : UInt8) : qc c ≠ [] := by
  unfold qc
  repeat' split
  all_goals simp
theorem escB_qc {c : UInt8} (h : c = 92 ∨ c = 34 ∨ c = 10 ∨ c.toNat < 32 ∨ 126 < c.toNat) (r : Bytes) : ∃ e, qc c = 92 :: e ∧ escB (e ++ r) = some (c, e.length) := by
  have hc := c.toNat_lt
  unfold qc
  by_cases h1 : c = 92 ∨ c = 34
  · rw [if_pos h1]
    exact ⟨[c], rfl, by simp [escB, h1]⟩
  · rw [if_neg h1]
    by_cases h2 : c = 10
    · rw [if_pos h2]
      exact ⟨[110], rfl, by subst h2; simp [escB]⟩
    · rw [if_neg h2]
      have h3 : c.toNat < 32 ∨ 126 < c.toNat := by
        simp only [not_or] at h1
        rcases h with h | h | h | h | h
        · exact absurd h h1.1
        · exact absurd h h1.2
        · exact absurd h h2
        · exact .inl h
        · exact .inr h
      rw [if_pos h3]
      refine ⟨_, rfl, ?_⟩
      have e1 := hexI_dig (c.toNat / 16) (by omega)
      have e2 := hexI_dig (c.toNat % 16) (by omega)
      have n10 : ¬ c.toNat = 10 := fun e => h2 (UInt8.toNat_inj.1 (by rw [e]; rfl))
      simp only [escB, List.cons_append, List.nil_append]
      rw [if_neg (by decide), if_neg (by decide), if_pos trivial, e1, e2, if_neg (by omega), if_neg (by omega)]
      have : (16 * ((c.toNat / 16 : Nat) : Int) + ((c.toNat % 16 : Nat) : Int)).toNat = c.toNat := by omega
      rw [this]
      simp
theorem qc_plain {c : UInt8} (h : ¬ (c = 92 ∨ c = 34 ∨ c = 10 ∨ c.toNat < 32 ∨ 126 < c.toNat)) : qc c = [c] := by
  simp only [not_or] at h
  unfold qc
  rw [if_neg (by simp [h.1, h.2.1]), if_neg h.2.2.1, if_neg (by omega)]
/-- What is quoted is read. -/
theorem unqI_quote : ∀ s : Bytes, unqI (quoteI s) = some s
  | [] => by rw [quoteI, List.flatMap_nil, unqI]
  | c :: s => by
    have ih := unqI_quote s
    unfold quoteI at ih ⊢
    rw [List.flatMap_cons]
    by_cases h : c = 92 ∨ c = 34 ∨ c = 10 ∨ c.toNat < 32 ∨ 126 < c.toNat
    · obtain ⟨e, h1, h2⟩ := escB_qc h (s.flatMap qc)
      rw [h1, List.cons_append, unqI, if_neg (by decide), if_pos rfl, h2]
      simp only
      rw [List.drop_left, ih]
      rfl
    · rw [qc_plain h, List.cons_append, List.nil_append, unqI]
      simp only [not_or] at h
      rw [if_neg (by simp only [not_or]; exact ⟨by omega, by omega, h.2.1⟩), if_neg h.1, ih]
      rfl
theorem escB_back {r : Bytes} {x : UInt8} {n : Nat} (h : escB r = some (x, n)) : qc x = 92 :: r.take n ∧ n ≤ r.length := by
  unfold escB at h
  split at h
  · cases h
  rename_i a r
  split at h
  · rename_i h1
    cases h
    unfold qc
    rw [if_pos h1]
    exact ⟨rfl, by simp⟩
  rename_i h1
  split at h
  · rename_i h2
    cases h
    subst h2
    exact ⟨rfl, by simp⟩
  split at h
  · rename_i h3
    split at h
    · rename_i hh ll rest
      split at h
      · cases h
      rename_i g1
      split at h
      · cases h
      rename_i g2
      cases h
      subst h3
      obtain ⟨k1, a1, a2, a3⟩ := hexI_some (c := hh) (by omega)
      obtain ⟨k2, b1, b2, b3⟩ := hexI_some (c := ll) (by omega)
      rw [a2, b2] at g2 ⊢
      have e : (16 * (k1 : Int) + (k2 : Int)).toNat = 16 * k1 + k2 := by omega
      rw [e]
      have e2 : (UInt8.ofNat (16 * k1 + k2)).toNat = 16 * k1 + k2 := by simp only [UInt8.toNat_ofNat']; omega
      have ne : ∀ m : UInt8, ¬ 16 * k1 + k2 = m.toNat → ¬ UInt8.ofNat (16 * k1 + k2) = m := fun m hm hx => hm (by rw [← hx, e2])
      unfold qc
      rw [if_neg, if_neg (ne 10 (by show ¬ _ = 10; omega)), e2, if_pos (by omega)]
      · refine ⟨?_, by simp⟩
        have d1 : (16 * k1 + k2) / 16 = k1 := by omega
        have d2 : (16 * k1 + k2) % 16 = k2 := by omega
        rw [d1, d2, a3, b3]
        rfl
      · simp only [not_or]
        exact ⟨ne 92 (by show ¬ _ = 92; omega), ne 34 (by show ¬ _ = 34; omega)⟩
    · cases h
  · cases h
/-- What is read was quoted. -/
theorem unqI_back : ∀ (n : Nat) (s t : Bytes), s.length ≤ n → unqI s = some t → quoteI t = s := by
  intro n
  induction n with
  | zero =>
    intro s t hn h
    obtain rfl : s = [] := List.eq_nil_of_length_eq_zero (by omega)
    rw [unqI] at h
    cases h; rfl
  | succ n ih =>
    intro s t hn h
    cases s with
    | nil => rw [unqI] at h; cases h; rfl
    | cons c r =>
      rw [List.length_cons] at hn
      rw [unqI] at h
      split at h
      · cases h
      rename_i g
      simp only [not_or] at g
      split at h
      · rename_i h92
        split at h
        · rename_i x k he
          obtain ⟨q1, q2⟩ := escB_back he
          obtain ⟨u, hu, rfl⟩ := Option.map_eq_some_iff.1 h
          have := ih (r.drop k) u (by rw [List.length_drop]; omega) hu
          unfold quoteI at this ⊢
          rw [List.flatMap_cons, this, q1, h92, List.cons_append, List.take_append_drop]
        · cases h
      · rename_i h92
        obtain ⟨u, hu, rfl⟩ := Option.map_eq_some_iff.1 h
        have := ih r u (by omega) hu
        unfold quoteI at this ⊢
        have h10 : ¬ c = 10 := by
          intro e
          have : c.toNat = 10 := by rw [e]; rfl
          omega
        rw [List.flatMap_cons, this, qc_plain (by simp only [not_or]; exact ⟨h92, g.2.2, h10, by omega, by omega⟩)]
        rfl
theorem dqI_quote : ∀ s : Bytes, dqI (quoteI s) = some s
  | [] => by rw [quoteI, List.flatMap_nil, dqI]
  | c :: s => by
    have hc := c.toNat_lt
    have ih := dqI_quote s
    unfold quoteI at ih ⊢
    rw [List.flatMap_cons]
    generalize s.flatMap qc = q at *
    unfold qc
    split
    · rename_i h
      rw [List.cons_append, List.cons_append, List.nil_append, dqI.eq_def]
      simp only
      rw [if_neg (by decide)]
      try simp only
      rw [if_pos h.symm, ih]; rfl
    · split
      · rename_i h1 h
        rw [List.cons_append, List.cons_append, List.nil_append, dqI.eq_def]
        simp only
        rw [if_neg (by decide)]
        try simp only
        rw [if_neg (by decide), if_pos trivial, ih, h]; rfl
      · split
        · rw [List.cons_append, List.cons_append, List.cons_append, List.cons_append, List.nil_append, dqI.eq_def]
          simp only
          rw [if_neg (by decide)]
          try simp only
          rw [if_neg (by decide), if_neg (by decide), if_pos trivial, ih]
          have e1 := hexI_dig (c.toNat / 16) (by omega)
          have e2 := hexI_dig (c.toNat % 16) (by omega)
          rw [e1, e2]
          have : (IntKind.u8.wrap (((c.toNat / 16 : Nat) : Int) * 16 + ((c.toNat % 16 : Nat) : Int))).toNat = c.toNat := by
            unfold IntKind.wrap
            simp [IntKind.signed, IntKind.bits]
            omega
          rw [this]
          simp
        · rename_i h1 h2 h3
          simp only [not_or] at h1
          rw [List.cons_append, List.nil_append, dqI.eq_def]
          simp only
          rw [if_pos h1.1, ih]; rfl
/-- The reference's answer is the same. -/
theorem unq_ref (s : Bytes) : unq s = if s.length < 2 ∨ s.head? ≠ some 34 ∨ s.getLast? ≠ some 34 then none else match dqI ((s.drop 1).dropLast) with
    | some t => if quoteB t = s then some t else none
    | none => none := by
  unfold unq
  split
  · rfl
  rename_i h
  simp only [not_or, Decidable.not_not, ne_eq] at h
  obtain ⟨h1, h2, h3⟩ := h
  have hs : s = 34 :: ((s.drop 1).dropLast ++ [34]) := by
    cases s with
    | nil => simp at h1
    | cons a r =>
      simp only [List.head?_cons, Option.some.injEq] at h2
      subst h2
      cases r with
      | nil => simp at h1
      | cons b r =>
        rw [List.drop_one, List.tail_cons]
        congr 1
        rw [List.getLast?_cons_cons] at h3
        obtain ⟨m, x, hm⟩ : ∃ m x, b :: r = m ++ [x] := ⟨(b :: r).dropLast, (b :: r).getLast (by simp), (List.dropLast_concat_getLast _).symm⟩
        rw [hm] at h3 ⊢
        rw [List.getLast?_concat] at h3
        rw [List.dropLast_concat, Option.some.inj h3]
  generalize (s.drop 1).dropLast = m at *
  cases hu : unqI m with
  | some t =>
    have := unqI_back m.length m t (Nat.le_refl _) hu
    have hd := dqI_quote t
    rw [this] at hd
    rw [hd]
    simp only
    rw [if_pos]
    rw [hs, quoteB, this]
  | none =>
    cases hd : dqI m with
    | none => rfl
    | some t =>
      simp only
      rw [if_neg]
      intro e
      rw [hs, quoteB] at e
      have e2 := (List.cons.inj e).2
      have e3 := List.append_cancel_right e2
      rw [← e3, unqI_quote] at hu
      cases hu
theorem unq_quote (s : Bytes) : unq (quoteB s) = some s := by
  unfold unq quoteB
  rw [if_neg]
  · rw [List.drop_one, List.tail_cons, List.dropLast_concat]
    exact unqI_quote s
  · simp only [not_or, Decidable.not_not, ne_eq]
    refine ⟨by simp, rfl, ?_⟩
    rw [← List.cons_append, List.getLast?_concat]
theorem quoteI_len (s : Bytes) : (quoteI s).length ≤ 4 * s.length := by
  induction s with
  | nil => simp [quoteI]
  | cons c s ih =>
    unfold quoteI at ih ⊢
    rw [List.flatMap_cons, List.length_append, List.length_cons]
    have : (qc c).length ≤ 4 := by
      unfold qc
      repeat' split
      all_goals simp
    omega
theorem quoteI_snoc (s : Bytes) (c : UInt8) : quoteI (s ++ [c]) = quoteI s ++ qc c := by simp [quoteI]
theorem unqI_len : ∀ (n : Nat) (s t : Bytes), s.length ≤ n → unqI s = some t → t.length ≤ s.length := fun n s t h1 h2 => by
  have h := unqI_back n s t h1 h2
  have key : ∀ l : Bytes, l.length ≤ (quoteI l).length := by
    intro l
    induction l with
    | nil => simp
    | cons c l ih =>
      unfold quoteI at ih ⊢
      rw [List.flatMap_cons, List.length_append, List.length_cons]
      have := List.length_pos_iff.2 (qc_ne c)
      omega
  rw [← h]; exact key t
end Go.Proofs

/- Lines of things: plain Lean, no program. -/
namespace Go.Proofs
open Go Go.Abs
set_option linter.unusedSimpArgs false
set_option linter.unusedVariables false
def cutB (c : UInt8) : Bytes → Option (Bytes × Bytes)
  | [] => none
  | b :: l => if b = c then some ([], l) else (cutB c l).map fun p => (b :: p.1, p.2)
theorem cutB_none {c : UInt8} : ∀ {l : Bytes}, Lib.indexByte l c = -1 → cutB c l = none ∧ splitB c l = [l]
  | [], h => ⟨rfl, rfl⟩
  | b :: l, h => by
    have hge := Lib.indexByte_ge l c
    unfold Lib.indexByte at h
    by_cases hb : (b == c) = true
    · rw [if_pos hb] at h; omega
    · rw [if_neg hb] at h
      have h2 : Lib.indexByte l c = -1 := by
        by_cases h2 : Lib.indexByte l c = -1
        · exact h2
        · have : (Lib.indexByte l c == -1) = false := by simpa using h2
          rw [this] at h
          simp only [Bool.false_eq_true, if_false] at h
          omega
      obtain ⟨i1, i2⟩ := cutB_none h2
      have hb' : ¬ b = c := by simpa using hb
      refine ⟨by rw [cutB, if_neg hb', i1]; rfl, by rw [splitB, if_neg hb', i2]⟩
theorem cutB_some {c : UInt8} : ∀ {l : Bytes} {m : Nat}, Lib.indexByte l c = (m : Int) → cutB c l = some (l.take m, l.drop (m + 1))
  | [], m, h => by simp [Lib.indexByte] at h
  | b :: l, m, h => by
    have hge := Lib.indexByte_ge l c
    unfold Lib.indexByte at h
    by_cases hb : (b == c) = true
    · rw [if_pos hb] at h
      obtain rfl : m = 0 := by omega
      have hb' : b = c := by simpa using hb
      rw [cutB, if_pos hb']; rfl
    · rw [if_neg hb] at h
      have hb' : ¬ b = c := by simpa using hb
      by_cases h2 : Lib.indexByte l c = -1
      · rw [h2] at h; simp at h
      · have e : (Lib.indexByte l c == -1) = false := by simpa using h2
        rw [e] at h
        simp only [Bool.false_eq_true, if_false] at h
        obtain ⟨k, rfl⟩ : ∃ k, m = k + 1 := ⟨m - 1, by omega⟩
        rw [cutB, if_neg hb', cutB_some (m := k) (by omega)]
        rfl
theorem cutB_split {c : UInt8} {l : Bytes} : (∀ p, cutB c l = some p → splitB c l = p.1 :: splitB c p.2) ∧ (cutB c l = none → splitB c l = [l]) := by
  by_cases h : Lib.indexByte l c = -1
  · obtain ⟨h1, h2⟩ := cutB_none h
    exact ⟨fun p hp => (by rw [h1] at hp; cases hp), fun _ => h2⟩
  · have hge := Lib.indexByte_ge l c
    obtain ⟨m, hm⟩ : ∃ m : Nat, Lib.indexByte l c = m := ⟨(Lib.indexByte l c).toNat, by omega⟩
    have h1 := cutB_some hm
    exact ⟨fun p hp => (by rw [h1] at hp; cases hp; exact (indexByte_some hm).2.1), fun hn => (by rw [h1] at hn; cases hn)⟩
theorem cutB_len {c : UInt8} {l : Bytes} {p : Bytes × Bytes} (h : cutB c l = some p) : p.1.length + p.2.length + 1 = l.length ∧ l = p.1 ++ c :: p.2 := by
  induction l generalizing p with
  | nil => cases h
  | cons b l ih =>
    rw [cutB] at h
    split at h
    · rename_i hb; subst hb; cases h; exact ⟨by simp, rfl⟩
    · obtain ⟨q, hq, rfl⟩ := Option.map_eq_some_iff.1 h
      obtain ⟨h1, h2⟩ := ih hq
      refine ⟨by simp only [List.length_cons]; omega, ?_⟩
      simp only [List.cons_append]
      rw [← h2]
def cutT (c : UInt8) (s : Bytes) : Bytes × Bytes × Bool := match cutB c s with
  | some p => (p.1, p.2, true)
  | none => (s, [], false)
theorem cutT_len (c : UInt8) (s : Bytes) : (cutT c s).1.length ≤ s.length ∧ (cutT c s).2.1.length ≤ s.length := by
  unfold cutT
  split
  · rename_i p hp
    have := (cutB_len hp).1
    simp only
    omega
  · simp
/-! ### Lines -/
structure LineV where
  word : Bytes
  file : FileV
  set : SetV
  svc : SvcV
  deriving DecidableEq
def LineV.zero : LineV := ⟨[], .zero, .zero, .zero⟩
def encLine (l : LineV) : List AV := [.str l.word, .str l.file.path, .str l.file.data, .bool l.file.runs, .str l.set.key, .str l.set.value, .str l.svc.name, .str l.svc.path, .bool l.svc.auto, .bool l.svc.on]
abbrev wFact : Bytes := [102, 97, 99, 116]
abbrev wSet : Bytes := [115, 101, 116]
abbrev wFile : Bytes := [102, 105, 108, 101]
abbrev wRun : Bytes := [114, 117, 110]
abbrev wPut : Bytes := [112, 117, 116]
abbrev wPutrun : Bytes := [112, 117, 116, 114, 117, 110]
abbrev wService : Bytes := [115, 101, 114, 118, 105, 99, 101]
abbrev wRemove : Bytes := [114, 101, 109, 111, 118, 101]
abbrev wUnset : Bytes := [117, 110, 115, 101, 116]
abbrev wDrop : Bytes := [100, 114, 111, 112]
def isBitB (s : Bytes) : Bool := decide (s = [48]) || decide (s = [49])
def unqD (s : Bytes) : Bytes := (unq s).getD []
def svcPart (word key : Bytes) (two : Bool) : List Bytes → LineV × Bool
  | [a, b, c] => if two = true ∧ a ≠ [] ∧ isBitB b = true ∧ isBitB c = true then (⟨word, .zero, .zero, ⟨key, a, decide (b = [49]), decide (c = [49])⟩⟩, true) else (.zero, false)
  | _ => (.zero, false)
theorem svcPart_false (word key : Bytes) (p : List Bytes) : svcPart word key false p = (.zero, false) := by
  unfold svcPart
  split <;> simp
theorem svcPart_len (word key : Bytes) (two : Bool) {p : List Bytes} (h : ¬ p.length = 3) : svcPart word key two p = (.zero, false) := by
  unfold svcPart
  split
  · exact absurd rfl h
  · rfl
/-- What stands behind the word: a key, and what stands behind it. -/
def restV (word key value : Bytes) (two : Bool) : LineV × Bool :=
  if word = wFact ∨ word = wSet then (⟨word, .zero, ⟨key, unqD value⟩, .zero⟩, two && (unq value).isSome)
  else if word = wFile ∨ word = wRun ∨ word = wPut ∨ word = wPutrun then (⟨word, ⟨key, unqD value, decide (word = wRun) || decide (word = wPutrun)⟩, .zero, .zero⟩, two && (unq value).isSome)
  else if word = wService then
    svcPart word key two (splitB 32 value)
  else if word = wRemove then (⟨word, ⟨key, [], false⟩, .zero, .zero⟩, !two)
  else if word = wUnset then (⟨word, .zero, ⟨key, []⟩, .zero⟩, !two)
  else if word = wDrop then (⟨word, .zero, .zero, ⟨key, [], false, false⟩⟩, !two)
  else (⟨word, .zero, .zero, .zero⟩, !two)
def readLineV (s : Bytes) : LineV × Bool :=
  if (cutT 32 s).2.2 = false ∨ (cutT 32 (cutT 32 s).2.1).1 = [] then (.zero, false)
  else restV (cutT 32 s).1 (cutT 32 (cutT 32 s).2.1).1 (cutT 32 (cutT 32 s).2.1).2.1 (cutT 32 (cutT 32 s).2.1).2.2
def rankV (w : Bytes) : Int := if w = wFact then 0 else if w = wFile ∨ w = wRun then 1 else if w = wSet then 2 else if w = wService then 3 else -1
/-- Lines one by one; the last one must be empty. -/
def rdL {σ : Type} (step : σ → Bytes → Option σ) : σ → Nat → List Bytes → Except Nat σ
  | s, n, [] => .ok s
  | s, n, [l] => if l = [] then .ok s else .error n
  | s, n, l :: l2 :: ls => match step s l with
    | some s' => rdL step s' (n + 1) (l2 :: ls)
    | none => .error n
def addM (m : MacV) (r : Int) (x : LineV) : MacV :=
  if r = 0 then { m with facts := m.facts ++ [x.set] } else if r = 1 then { m with files := m.files ++ [x.file] } else if r = 2 then { m with sets := m.sets ++ [x.set] } else { m with svcs := m.svcs ++ [x.svc] }
def stepM (s : MacV × Int) (x : LineV) : Option (MacV × Int) := if rankV x.word < s.2 then none else some (addM s.1 (rankV x.word) x, rankV x.word)
def lineM (s : MacV × Int) (l : Bytes) : Option (MacV × Int) := if (readLineV l).2 = true then stepM s (readLineV l).1 else none
def parseMV (text : Bytes) : MacV × Nat × Int :=
  if 4194304 < text.length then (.zero, 0, 4) else
    match rdL lineM (.zero, 0) 0 (splitB 10 text) with
    | .error n => (.zero, n, 8)
    | .ok s => if macErr s.1 ≠ 0 then (.zero, 0, macErr s.1) else (s.1, 0, 0)
theorem splitB_cons (c : UInt8) (s : Bytes) : ∃ a l, splitB c s = a :: l := by
  have := splitB_ne c s
  cases h : splitB c s with
  | nil => exact absurd h this
  | cons a l => exact ⟨a, l, rfl⟩
theorem rdL_cut {σ : Type} (step : σ → Bytes → Option σ) (s : σ) (n : Nat) (t : Bytes) : rdL step s n (splitB 10 t) = if t = [] then .ok s else match cutB 10 t with
    | none => .error n
    | some p => match step s p.1 with
      | some s' => rdL step s' (n + 1) (splitB 10 p.2)
      | none => .error n := by
  by_cases h : t = []
  · subst h; rw [if_pos rfl]; rfl
  rw [if_neg h]
  cases hc : cutB 10 t with
  | none => rw [cutB_split.2 hc]; simp only [rdL]; rw [if_neg h]
  | some p =>
    rw [cutB_split.1 p hc]
    obtain ⟨a, l, ha⟩ := splitB_cons 10 p.2
    show rdL step s n (p.1 :: splitB 10 p.2) = (match step s p.1 with
      | some s' => rdL step s' (n + 1) (splitB 10 p.2)
      | none => .error n)
    rw [ha]
    rfl
/-- Nothing that is read is longer than what it is read from. -/
def lineR (n : Nat) (x : LineV) : Prop := x.word.length ≤ n ∧ (x.file.path.length ≤ n ∧ x.file.data.length ≤ n) ∧ (x.set.key.length ≤ n ∧ x.set.value.length ≤ n) ∧ (x.svc.name.length ≤ n ∧ x.svc.path.length ≤ n)
theorem lineR_zero (n : Nat) : lineR n .zero := by simp [lineR, LineV.zero, FileV.zero, SetV.zero, SvcV.zero]
theorem unq_len {s t : Bytes} (h : unq s = some t) : t.length ≤ s.length := by
  unfold unq at h
  split at h
  · cases h
  · have := unqI_len _ _ _ (Nat.le_refl _) h
    simp only [List.length_dropLast, List.length_drop] at this
    omega
theorem unqD_len (s : Bytes) : (unqD s).length ≤ s.length := by
  unfold unqD
  cases h : unq s with
  | none => simp
  | some t => exact unq_len h
theorem splitB_le {c : UInt8} : ∀ {s : Bytes} {p : Bytes}, p ∈ splitB c s → p.length ≤ s.length
  | [], p, h => by simp [splitB] at h; simp [h]
  | b :: l, p, h => by
    unfold splitB at h
    split at h
    · rcases List.mem_cons.1 h with h | h
      · simp [h]
      · have := splitB_le h; simp; omega
    · have hi := @splitB_le c l
      split at h
      · rename_i a t ht
        rw [ht] at hi
        rcases List.mem_cons.1 h with h | h
        · have := hi (List.mem_cons_self ..)
          rw [h]; simp; omega
        · have := hi (List.mem_cons_of_mem _ h); simp; omega
      · simp at h; simp [h]
theorem restV_len {word key value : Bytes} {two : Bool} {n : Nat} (h1 : word.length ≤ n) (h2 : key.length ≤ n) (h3 : value.length ≤ n) : lineR n (restV word key value two).1 := by
  have h4 := unqD_len value
  unfold restV
  split
  · exact ⟨h1, by simp [FileV.zero], ⟨h2, by simp only; omega⟩, by simp [SvcV.zero]⟩
  split
  · exact ⟨h1, ⟨h2, by simp only; omega⟩, by simp [SetV.zero], by simp [SvcV.zero]⟩
  split
  · unfold svcPart
    split
    · rename_i a b c hs
      split
      · have ha : a.length ≤ value.length := splitB_le (c := 32) (by rw [hs]; simp)
        exact ⟨h1, by simp [FileV.zero], by simp [SetV.zero], h2, by simp only; omega⟩
      · exact lineR_zero n
    · exact lineR_zero n
  split
  · exact ⟨h1, ⟨h2, by simp⟩, by simp [SetV.zero], by simp [SvcV.zero]⟩
  split
  · exact ⟨h1, by simp [FileV.zero], ⟨h2, by simp⟩, by simp [SvcV.zero]⟩
  split
  · exact ⟨h1, by simp [FileV.zero], by simp [SetV.zero], h2, by simp⟩
  · exact ⟨h1, by simp [FileV.zero], by simp [SetV.zero], by simp [SvcV.zero]⟩
theorem readLineV_len (s : Bytes) : lineR s.length (readLineV s).1 := by
  have h1 := cutT_len 32 s
  have h2 := cutT_len 32 (cutT 32 s).2.1
  unfold readLineV
  split
  · exact lineR_zero _
  · exact restV_len (by omega) (by omega) (by omega)
end Go.Proofs

/- Changes as texts: plain Lean, no program. -/
namespace Go.Proofs
open Go Go.Abs
set_option linter.unusedSimpArgs false
set_option linter.unusedVariables false
def bitV (b : Bool) : Bytes := if b then [49] else [48]
def svcLine (s : SvcV) : Bytes := s.name ++ [32] ++ s.path ++ [32] ++ bitV s.auto ++ [32] ++ bitV s.on
/-! ### What is written is read -/
theorem cutB_app {c : UInt8} : ∀ {a b : Bytes}, (∀ x ∈ a, x ≠ c) → cutB c (a ++ c :: b) = some (a, b)
  | [], b, h => by rw [List.nil_append, cutB, if_pos rfl]
  | x :: a, b, h => by
    rw [List.cons_append, cutB, if_neg (h x (List.mem_cons_self ..)), cutB_app fun y hy => h y (List.mem_cons_of_mem _ hy)]
    rfl
theorem cutB_no {c : UInt8} : ∀ {a : Bytes}, (∀ x ∈ a, x ≠ c) → cutB c a = none
  | [], h => rfl
  | x :: a, h => by
    rw [cutB, if_neg (h x (List.mem_cons_self ..)), cutB_no fun y hy => h y (List.mem_cons_of_mem _ hy)]
    rfl
theorem cutT_app {c : UInt8} {a b : Bytes} (h : ∀ x ∈ a, x ≠ c) : cutT c (a ++ c :: b) = (a, b, true) := by unfold cutT; rw [cutB_app h]
theorem splitB_app {c : UInt8} {a b : Bytes} (h : ∀ x ∈ a, x ≠ c) : splitB c (a ++ c :: b) = a :: splitB c b := cutB_split.1 _ (cutB_app h)
theorem splitB_no {c : UInt8} {a : Bytes} (h : ∀ x ∈ a, x ≠ c) : splitB c a = [a] := cutB_split.2 (cutB_no h)
theorem mem_split {c : UInt8} : ∀ {s : Bytes} {x : UInt8}, x ∈ s → x = c ∨ ∃ p ∈ splitB c s, x ∈ p
  | b :: l, x, h => by
    unfold splitB
    by_cases hb : b = c
    · rw [if_pos hb]
      rcases List.mem_cons.1 h with h | h
      · exact .inl (h.trans hb)
      · rcases mem_split (c := c) h with h | ⟨p, hp, hx⟩
        · exact .inl h
        · exact .inr ⟨p, List.mem_cons_of_mem _ hp, hx⟩
    · rw [if_neg hb]
      obtain ⟨a, t, ht⟩ : ∃ a t, splitB c l = a :: t := by
        cases hs : splitB c l with
        | nil => exact absurd hs (splitB_ne c l)
        | cons a t => exact ⟨a, t, rfl⟩
      rw [ht]
      rcases List.mem_cons.1 h with h | h
      · exact .inr ⟨b :: a, List.mem_cons_self .., by rw [h]; exact List.mem_cons_self ..⟩
      · rcases mem_split (c := c) h with h | ⟨p, hp, hx⟩
        · exact .inl h
        · rw [ht] at hp
          rcases List.mem_cons.1 hp with h | h
          · exact .inr ⟨b :: a, List.mem_cons_self .., by rw [← h]; exact List.mem_cons_of_mem _ hx⟩
          · exact .inr ⟨p, List.mem_cons_of_mem _ h, hx⟩
/-- A sign that needs no care. -/
def plainC (c : UInt8) : Prop := c ≠ 32 ∧ c ≠ 10
theorem plain_pt (c : UInt8) (h : isPt (c.toNat : Int) = true) : plainC c := by
  refine ⟨?_, ?_⟩ <;> rintro rfl <;> revert h <;> decide
theorem plain_nm (c : UInt8) (h : isNm (c.toNat : Int) = true) : plainC c := by
  refine ⟨?_, ?_⟩ <;> rintro rfl <;> revert h <;> decide
theorem path_plain {s : Bytes} (h : pathB s = true) : s ≠ [] ∧ ∀ x ∈ s, plainC x := by
  unfold pathB at h
  rw [Bool.and_eq_true, List.all_eq_true] at h
  have hp := h.1
  refine ⟨?_, fun x hx => ?_⟩
  · rintro rfl
    have := hp [] (by simp [splitB])
    simp [partB, sEach] at this
  · rcases mem_split (c := 47) hx with h | ⟨p, h1, h2⟩
    · subst h; exact ⟨by decide, by decide⟩
    · have := hp p h1
      unfold partB sEach allB at this
      simp only [Bool.and_eq_true, List.all_eq_true] at this
      exact plain_pt x (this.1.1.1.1 x h2)
theorem name_plain {s : Bytes} (h : nameB s = true) : s ≠ [] ∧ ∀ x ∈ s, plainC x := by
  unfold nameB sEach allB at h
  simp only [Bool.and_eq_true, List.all_eq_true, decide_eq_true_eq] at h
  exact ⟨h.1.1.2, fun x hx => plain_nm x (h.1.1.1 x hx)⟩
theorem dig_ne : ∀ k, k < 16 → dig k ≠ 10 := by decide
theorem quote_ten (s : Bytes) : ∀ x ∈ quoteB s, x ≠ 10 := by
  intro x hx
  unfold quoteB quoteI at hx
  rcases List.mem_cons.1 hx with h | h
  · rw [h]; decide
  rcases List.mem_append.1 h with h | h
  · obtain ⟨c, _, hc⟩ := List.mem_flatMap.1 h
    have hl := c.toNat_lt
    unfold qc at hc
    split at hc
    · rename_i h1
      rcases List.mem_cons.1 hc with h | h
      · rw [h]; decide
      · rw [List.mem_singleton.1 h]
        rcases h1 with h1 | h1 <;> rw [h1] <;> decide
    split at hc
    · simp only [List.mem_cons, List.not_mem_nil, or_false] at hc
      rcases hc with h | h <;> rw [h] <;> decide
    rename_i h2
    split at hc
    · simp only [List.mem_cons, List.not_mem_nil, or_false] at hc
      rcases hc with h | h | h | h <;> rw [h]
      · decide
      · decide
      · exact dig_ne _ (by omega)
      · exact dig_ne _ (by omega)
    · rw [List.mem_singleton.1 hc]; exact h2
  · rw [List.mem_singleton.1 h]; decide
/-- A line with a key and quotes. -/
theorem read_quoted {w k v : Bytes} (hw : ∀ x ∈ w, x ≠ 32) (hk : k ≠ [] ∧ ∀ x ∈ k, plainC x) : readLineV (w ++ [32] ++ k ++ [32] ++ quoteB v) = restV w k (quoteB v) true := by
  have e : w ++ [32] ++ k ++ [32] ++ quoteB v = w ++ 32 :: (k ++ 32 :: quoteB v) := by simp
  rw [e]
  unfold readLineV
  rw [cutT_app hw]
  simp only
  rw [cutT_app fun x hx => (hk.2 x hx).1]
  simp only
  rw [if_neg (by simp [hk.1])]
theorem bit_plain (b : Bool) : ∀ x ∈ bitV b, plainC x := by
  cases b <;> intro x hx <;> simp [bitV] at hx <;> subst hx <;> exact ⟨by decide, by decide⟩
theorem isBit_bit (b : Bool) : isBitB (bitV b) = true ∧ decide (bitV b = [49]) = b := by cases b <;> decide
theorem restV_service (k v : Bytes) (two : Bool) : restV wService k v two = svcPart wService k two (splitB 32 v) := by
  unfold restV
  rw [if_neg (by decide), if_neg (by decide), if_pos rfl]
theorem restV_set (k v : Bytes) (two : Bool) : restV wSet k v two = (⟨wSet, .zero, ⟨k, unqD v⟩, .zero⟩, two && (unq v).isSome) := by
  unfold restV
  rw [if_pos (.inr rfl)]
theorem read_service {s : SvcV} (h : nameB s.name = true ∧ pathB s.path = true) : readLineV (wService ++ [32] ++ svcLine s) = (⟨wService, .zero, .zero, s⟩, true) := by
  have hn := name_plain h.1
  have hp := path_plain h.2
  have e : wService ++ [32] ++ svcLine s = wService ++ 32 :: (s.name ++ 32 :: (s.path ++ 32 :: (bitV s.auto ++ 32 :: bitV s.on))) := by simp [svcLine]
  rw [e]
  unfold readLineV
  rw [cutT_app (by decide)]
  simp only
  rw [cutT_app fun x hx => (hn.2 x hx).1]
  simp only
  rw [if_neg (by simp [hn.1]), restV_service]
  rw [splitB_app fun x hx => (hp.2 x hx).1, splitB_app fun x hx => (bit_plain _ x hx).1, splitB_no fun x hx => (bit_plain _ x hx).1]
  rw [svcPart, if_pos ⟨rfl, hp.1, (isBit_bit _).1, (isBit_bit _).1⟩, (isBit_bit _).2, (isBit_bit _).2]
end Go.Proofs

/- Strings as elements; tests of signs and strings. -/
namespace Go.Proofs
open Go Go.Abs
set_option linter.unusedSimpArgs false
set_option linter.unusedVariables false
/-- Lengths that may be. -/
abbrev Room : Nat := 1099511627776
def encBs (s : Bytes) : List AV := [.str s]
theorem pu0_ok : PuOK Tryz.prog pu0 := PuOK.zero
def sByte (p : Int → Bool) : List AV → Option AV := fn1 (.int .u8) fun c => some (.bool (p c))
theorem sByte_eq (p : Int → Bool) (c : Int) : sByte p [.int .u8 c] = some (.bool (p c)) := rfl
def sStr (p : Bytes → Bool) : List AV → Option AV := fn1 .str fun s => if s.length ≤ Room then some (.bool (p s)) else none
theorem sStr_eq (p : Bytes → Bool) (s : Bytes) : sStr p [.str s] = if s.length ≤ Room then some (.bool (p s)) else none := rfl
theorem sByte_ok {P : Program} {f : FuncId} {p : Int → Bool} (h : ∀ c H, ACalls P f [.int .u8 c] H fun x H' => x = .bool (p c) ∧ H' = H) : ∀ xs v, sByte p xs = some v → ∀ H, ACalls P f xs H fun x H' => x = v ∧ H' = H := by
  intro xs v hv H
  obtain ⟨x, c, rfl, h1, h2⟩ := fn1_some hv
  cases h2
  cases Rd.int_some h1
  exact h c H
theorem sStr_ok {P : Program} {f : FuncId} {p : Bytes → Bool} (h : ∀ s H, s.length ≤ Room → ACalls P f [.str s] H fun x H' => x = .bool (p s) ∧ H' = H) : ∀ xs v, sStr p xs = some v → ∀ H, ACalls P f xs H fun x H' => x = v ∧ H' = H := by
  intro xs v hv H
  obtain ⟨x, s, rfl, h1, h2⟩ := fn1_some hv
  split at h2
  · cases h2
    cases Rd.str_some h1
    exact h s H ‹_›
  · cases h2
end Go.Proofs
