/-
  Walks and plain laws, part 1.
-/
import Derived.Lib.Bytealg
import Derived.Test.YtmcnfdbohkobaaaGreatDoorAbs4
import Derived.Sort.Walk0
import Derived.Sort.EncStr
import Derived.Sort.Grow
import Derived.Shelf.SlIter.Nil
import Derived.Shelf.SlIter.Sorted
import Derived.Test.YtmcnfdbohkobaaaGreatDoorTy
import Derived.IntWalk
/- What strings are cut into; signs and names: plain Lean, no program. -/
namespace Go.Proofs
set_option linter.unusedSimpArgs false
set_option linter.unusedVariables false
abbrev Bytes := List UInt8
def splitB (c : UInt8) : Bytes → List Bytes
  | [] => [[]]
  | b :: l => if b = c then [] :: splitB c l else
    match splitB c l with
    | h :: t => (b :: h) :: t
    | [] => [[b]]
theorem splitB_ne (c : UInt8) (l : Bytes) : splitB c l ≠ [] := by
  cases l with
  | nil => simp [splitB]
  | cons b l =>
    unfold splitB
    split
    · simp
    · split <;> simp
theorem splitB_none {c : UInt8} : ∀ {l : Bytes}, l.count c = 0 → splitB c l = [l]
  | [], _ => rfl
  | b :: l, h => by
    rw [List.count_cons] at h
    have hb : ¬ b = c := by intro e; subst e; simp at h
    have hl : l.count c = 0 := by omega
    unfold splitB
    rw [if_neg hb, splitB_none hl]
theorem indexByte_none {c : UInt8} : ∀ {l : Bytes}, Lib.indexByte l c = -1 ↔ l.count c = 0
  | [] => by simp [Lib.indexByte]
  | b :: l => by
    have ih := indexByte_none (c := c) (l := l)
    have hge := Lib.indexByte_ge l c
    unfold Lib.indexByte
    rw [List.count_cons]
    by_cases hb : (b == c) = true
    · rw [if_pos hb, if_pos hb]; omega
    · rw [if_neg hb, if_neg hb]
      by_cases h2 : Lib.indexByte l c = -1
      · simp [h2, ih.1 h2]
      · have : ¬ l.count c = 0 := fun e => h2 (ih.2 e)
        have hb2 : (Lib.indexByte l c == -1) = false := by simpa using h2
        rw [hb2]
        simp only [Bool.false_eq_true, if_false]
        omega
theorem indexByte_some {c : UInt8} : ∀ {l : Bytes} {m : Nat}, Lib.indexByte l c = (m : Int) → m < l.length ∧ splitB c l = l.take m :: splitB c (l.drop (m + 1)) ∧ l.count c = (l.drop (m + 1)).count c + 1
  | [], m, h => by simp [Lib.indexByte] at h
  | b :: l, m, h => by
    unfold Lib.indexByte at h
    by_cases hb : (b == c) = true
    · rw [if_pos hb] at h
      have : m = 0 := by omega
      subst this
      have hb' : b = c := by simpa using hb
      subst hb'
      refine ⟨by simp, by simp [splitB], by simp⟩
    · rw [if_neg hb] at h
      have hge := Lib.indexByte_ge l c
      by_cases h2 : Lib.indexByte l c = -1
      · rw [h2] at h; simp at h
      · have hb2 : (Lib.indexByte l c == -1) = false := by simpa using h2
        rw [hb2] at h
        simp only [Bool.false_eq_true, if_false] at h
        obtain ⟨k, rfl⟩ : ∃ k, m = k + 1 := ⟨m - 1, by omega⟩
        obtain ⟨i1, i2, i3⟩ := indexByte_some (c := c) (l := l) (m := k) (by omega)
        have hb' : ¬ b = c := by simpa using hb
        refine ⟨by simp; omega, ?_, ?_⟩
        · rw [splitB, if_neg hb', i2]; simp
        · rw [List.count_cons, if_neg hb, i3]; simp
theorem splitB_len {c : UInt8} : ∀ (l : Bytes), (splitB c l).length = l.count c + 1
  | [] => by simp [splitB]
  | b :: l => by
    have ih := splitB_len (c := c) l
    unfold splitB
    rw [List.count_cons]
    by_cases hb : b = c
    · simp [hb, ih]
    · simp only [hb, if_false, beq_iff_eq]
      cases hs : splitB c l with
      | nil => exact absurd hs (splitB_ne c l)
      | cons h t => rw [hs] at ih; simpa using ih
/-- Each part of a text is no longer than it. -/
theorem splitB_mem {c : UInt8} : ∀ (l : Bytes), ∀ p ∈ splitB c l, p.length ≤ l.length
  | [], p, h => by simp [splitB] at h; simp [h]
  | b :: l, p, h => by
    have ih := splitB_mem (c := c) l
    unfold splitB at h
    split at h
    · rcases List.mem_cons.1 h with rfl | h
      · simp
      · have := ih p h; simp; omega
    · split at h
      · rename_i hd t hs
        rw [hs] at ih
        rcases List.mem_cons.1 h with rfl | h
        · have := ih hd (by simp); simp; omega
        · have := ih p (by simp [h]); simp; omega
      · rename_i hs; exact absurd hs (splitB_ne c l)
end Go.Proofs

/- Signs, names, paths, values: plain Lean, no program. -/
namespace Go.Proofs
set_option linter.unusedSimpArgs false
set_option linter.unusedVariables false
def isSm (c : Int) : Bool := decide (97 ≤ c) && decide (c ≤ 122)
def isDg (c : Int) : Bool := decide (48 ≤ c) && decide (c ≤ 57)
def isNm (c : Int) : Bool := isSm c || isDg c || decide (c = 45) || decide (c = 46)
def isPt (c : Int) : Bool := isSm c || (decide (65 ≤ c) && decide (c ≤ 90)) || isDg c || decide (c = 45) || decide (c = 46) || decide (c = 95)
def isVl (c : Int) : Bool := decide (32 ≤ c) && decide (c ≤ 126)
def allB (p : Int → Bool) (s : Bytes) : Bool := s.all fun b => p (b.toNat : Int)
def sEach (p : Int → Bool) (s : Bytes) (most : Int) : Bool := allB p s && decide (s ≠ []) && decide ((s.length : Int) ≤ most)
def nameB (s : Bytes) : Bool := sEach isNm s 40 && isSm ((s.headD 0).toNat : Int)
def partB (s : Bytes) : Bool := sEach isPt s 40 && decide (s ≠ [46]) && decide (s ≠ [46, 46])
def pathB (s : Bytes) : Bool := (splitB 47 s).all partB && decide ((s.length : Int) ≤ 200)
def valueB (s : Bytes) : Bool := decide (s = []) || sEach isVl s 1000
theorem allB_succ {p : Int → Bool} {s : Bytes} {i : Nat} {c : UInt8} (h : allB p (s.take i) = true) (hc : s[i]? = some c) (hp : p (c.toNat : Int) = true) : allB p (s.take (i + 1)) = true := by
  unfold allB at *
  rw [List.take_add_one, hc]
  simp [List.all_append, h, hp]
theorem allB_false {p : Int → Bool} {s : Bytes} {i : Nat} {c : UInt8} (hc : s[i]? = some c) (hp : p (c.toNat : Int) = false) : allB p s = false := by
  unfold allB
  rw [List.all_eq_false]
  exact ⟨c, List.mem_of_getElem? hc, by simp [hp]⟩
theorem sEach_false {p : Int → Bool} {s : Bytes} {i : Nat} {c : UInt8} {n : Int} (hc : s[i]? = some c) (hp : p (c.toNat : Int) = false) : sEach p s n = false := by
  unfold sEach; rw [allB_false hc hp]; simp
theorem head_of {s : Bytes} {c : UInt8} (h : s[0]? = some c) : s.headD 0 = c := by
  cases s with
  | nil => cases h
  | cons b l => simpa using h
theorem not_nil_of {s : Bytes} {i : Nat} {c : UInt8} (h : s[i]? = some c) : s ≠ [] := by rintro rfl; simp at h
end Go.Proofs

/- The sum of a text: plain Lean, no program. -/
namespace Go.Proofs
open Go Go.Abs
set_option linter.unusedSimpArgs false
set_option linter.unusedVariables false
/-- The digit of a number below 16. -/
def dig (n : Nat) : UInt8 := ([48, 49, 50, 51, 52, 53, 54, 55, 56, 57, 97, 98, 99, 100, 101, 102] : List UInt8).getD n 0
/-- So many digits of a number. -/
def hexPad : Nat → Nat → Bytes
  | 0, _ => []
  | k + 1, n => hexPad k (n / 16) ++ [dig (n % 16)]
def hexMin (n : Nat) : Bytes := if h : n < 16 then [dig n] else hexMin (n / 16) ++ [dig (n % 16)]
termination_by n
decreasing_by omega
theorem hexMin_small {n : Nat} (h : n < 16) : hexMin n = [dig n] := by rw [hexMin, dif_pos h]
theorem hexMin_big {n : Nat} (h : ¬ n < 16) : hexMin n = hexMin (n / 16) ++ [dig (n % 16)] := by rw [hexMin, dif_neg h]
theorem hexPad_zero : ∀ k, hexPad k 0 = List.replicate k 48
  | 0 => rfl
  | k + 1 => by
    rw [hexPad, show 0 / 16 = 0 from rfl, hexPad_zero k, List.replicate_succ']
    rfl
theorem hexPad_len : ∀ k n, (hexPad k n).length = k
  | 0, _ => rfl
  | k + 1, n => by simp [hexPad, hexPad_len k]
theorem hexMin_pad : ∀ (k n : Nat), n < 16 ^ (k + 1) → (hexMin n).length ≤ k + 1 ∧ hexPad (k + 1) n = List.replicate (k + 1 - (hexMin n).length) 48 ++ hexMin n := by
  intro k
  induction k with
  | zero =>
    intro n h
    have h : n < 16 := by simpa using h
    rw [hexMin_small h, hexPad, hexPad]
    simp [Nat.mod_eq_of_lt h]
  | succ k ih =>
    intro n h
    by_cases hn : n < 16
    · rw [hexMin_small hn, hexPad, show n / 16 = 0 from by omega, hexPad_zero, Nat.mod_eq_of_lt hn]
      simp
    · have hd : n / 16 < 16 ^ (k + 1) := by
        rw [Nat.div_lt_iff_lt_mul (by omega)]
        have : 16 ^ (k + 1 + 1) = 16 ^ (k + 1) * 16 := Nat.pow_succ ..
        omega
      obtain ⟨i1, i2⟩ := ih (n / 16) hd
      rw [hexMin_big hn, hexPad, i2]
      refine ⟨by simp; omega, ?_⟩
      rw [← List.append_assoc]
      congr 3
      simp
theorem hexPad_get : ∀ (k n i : Nat), i < k → (hexPad k n)[i]? = some (dig (n / 16 ^ (k - 1 - i) % 16))
  | 0, _, _, h => by omega
  | k + 1, n, i, h => by
    rw [hexPad]
    by_cases hi : i < k
    · rw [List.getElem?_append_left (by rw [hexPad_len]; exact hi), hexPad_get k _ i hi]
      have e : k + 1 - 1 - i = (k - 1 - i) + 1 := by omega
      rw [e, Nat.pow_succ, Nat.mul_comm, Nat.div_div_eq_div_mul]
    · have e : i = k := by omega
      subst e
      rw [List.getElem?_append_right (by rw [hexPad_len]; omega), hexPad_len]
      simp
theorem pow16 : ∀ i, i < 16 → 16 ^ (16 - 1 - i) = 2 ^ (60 - 4 * i) := by decide
theorem hexPad_get2 (n i : Nat) (h : i < 16) : (hexPad 16 n)[i]? = some (dig (n / 2 ^ (60 - 4 * i) % 16)) := by
  rw [← pow16 i h]; exact hexPad_get 16 n i h
/-- One step of the sum, as the machine takes it. -/
def fnvStep (h : Int) (c : UInt8) : Int := IntKind.u64.wrap (xorI .u64 h (c.toNat : Int) * 1099511628211)
def fnv (s : Bytes) : Int := s.foldl fnvStep 14695981039346656037
theorem fnv_succ {s : Bytes} {i : Nat} {c : UInt8} (hc : s[i]? = some c) : fnv (s.take (i + 1)) = fnvStep (fnv (s.take i)) c := by
  unfold fnv
  rw [List.take_add_one, hc]
  simp
theorem u64_range (n : Int) : 0 ≤ IntKind.u64.wrap n ∧ IntKind.u64.wrap n < 18446744073709551616 := by
  have h1 : IntKind.u64.wrap n = n % 18446744073709551616 := by
    unfold IntKind.wrap
    simp [IntKind.signed, IntKind.bits]
  rw [h1]; omega
theorem fnvStep_range (h : Int) (c : UInt8) : 0 ≤ fnvStep h c ∧ fnvStep h c < 18446744073709551616 := u64_range _
theorem foldl_range (s : Bytes) : ∀ h : Int, 0 ≤ h ∧ h < 18446744073709551616 → 0 ≤ s.foldl fnvStep h ∧ s.foldl fnvStep h < 18446744073709551616 := by
  induction s with
  | nil => intro h hh; exact hh
  | cons c s ih => intro h _; exact ih _ (fnvStep_range _ _)
theorem fnv_range (s : Bytes) : 0 ≤ fnv s ∧ fnv s < 18446744073709551616 := foldl_range s _ (by omega)
def fnvN (s : Bytes) : Nat := (fnv s).toNat
theorem fnvN_eq (s : Bytes) : fnv s = (fnvN s : Int) := by have := fnv_range s; unfold fnvN; omega
theorem fnvN_lt (s : Bytes) : fnvN s < 18446744073709551616 := by have := fnv_range s; unfold fnvN; omega
def sumOf (s : Bytes) : Bytes := hexPad 16 (fnvN s)
theorem u64_byte (c : UInt8) : IntKind.u64.wrap (c.toNat : Int) = (c.toNat : Int) := Go.IntWalk.u64_in _ (by have := c.toNat_lt; omega)
theorem and15 (n : Nat) (h : n < 18446744073709551616) : andI .u64 (n : Int) 15 = ((n % 16 : Nat) : Int) := by
  have e : (BitVec.ofInt IntKind.u64.bits (n : Int) &&& BitVec.ofInt IntKind.u64.bits 15).toNat = n % 16 := by
    show (BitVec.ofInt 64 (n : Int) &&& BitVec.ofInt 64 ((15 : Nat) : Int)).toNat = n % 16
    rw [BitVec.ofInt_natCast, BitVec.ofInt_natCast, BitVec.toNat_and]
    simp only [BitVec.toNat_ofNat]
    rw [Nat.mod_eq_of_lt (show n < 2 ^ 64 by simpa using h), Nat.mod_eq_of_lt (show 15 < 2 ^ 64 by decide)]
    exact Nat.and_two_pow_sub_one_eq_mod n 4
  unfold andI
  rw [e]
  exact Go.IntWalk.u64_in _ (by omega)
theorem shrN (n b : Nat) (z : Int) (hz : z = b) (h : b ≤ 64) : shrI .u64 (n : Int) z = ((n / 2 ^ b : Nat) : Int) := by
  subst hz
  unfold shrI
  have e : min (b : Int).toNat IntKind.u64.bits = b := Nat.min_eq_left h
  rw [e, show ((2 : Int) ^ b) = ((2 ^ b : Nat) : Int) from by simp, Int.fdiv_eq_ediv_of_nonneg _ (Int.natCast_nonneg _)]
  rfl
theorem dig_get (m : Nat) (h : m < 16) : ([48, 49, 50, 51, 52, 53, 54, 55, 56, 57, 97, 98, 99, 100, 101, 102] : List UInt8)[m]? = some (dig m) := by
  unfold dig
  rw [List.getD]
  cases hh : ([48, 49, 50, 51, 52, 53, 54, 55, 56, 57, 97, 98, 99, 100, 101, 102] : List UInt8)[m]? with
  | none => rw [List.getElem?_eq_none_iff] at hh; simp at hh; omega
  | some v => rfl
theorem dig_get36 (m : Nat) (h : m < 16) : ([48, 49, 50, 51, 52, 53, 54, 55, 56, 57, 97, 98, 99, 100, 101, 102, 103, 104, 105, 106, 107, 108, 109, 110, 111, 112, 113, 114, 115, 116, 117, 118, 119, 120, 121, 122] : List UInt8)[m]? = some (dig m) := by
  rw [← dig_get m h]
  have : ([48, 49, 50, 51, 52, 53, 54, 55, 56, 57, 97, 98, 99, 100, 101, 102, 103, 104, 105, 106, 107, 108, 109, 110, 111, 112, 113, 114, 115, 116, 117, 118, 119, 120, 121, 122] : List UInt8) = [48, 49, 50, 51, 52, 53, 54, 55, 56, 57, 97, 98, 99, 100, 101, 102] ++ [103, 104, 105, 106, 107, 108, 109, 110, 111, 112, 113, 114, 115, 116, 117, 118, 119, 120, 121, 122] := rfl
  rw [this, List.getElem?_append_left (by simpa using h)]
theorem and32 (n : Nat) (h : n < 4294967296) : andI .u64 (n : Int) 4294967295 = (n : Int) := by
  have e : (BitVec.ofInt IntKind.u64.bits (n : Int) &&& BitVec.ofInt IntKind.u64.bits 4294967295).toNat = n := by
    show (BitVec.ofInt 64 (n : Int) &&& BitVec.ofInt 64 ((4294967295 : Nat) : Int)).toNat = n
    rw [BitVec.ofInt_natCast, BitVec.ofInt_natCast, BitVec.toNat_and]
    simp only [BitVec.toNat_ofNat]
    rw [Nat.mod_eq_of_lt (show n < 2 ^ 64 by simp; omega), Nat.mod_eq_of_lt (show 4294967295 < 2 ^ 64 by decide)]
    exact (Nat.and_two_pow_sub_one_eq_mod n 32).trans (Nat.mod_eq_of_lt h)
  unfold andI
  rw [e]
  exact Go.IntWalk.u64_in _ (by omega)
theorem shr32 (n : Nat) (h : n < 4294967296) : shrI .u64 (n : Int) 32 = 0 := by
  rw [shrN n 32 32 rfl (by omega), Nat.div_eq_of_lt (by simpa using h)]; rfl
end Go.Proofs

/- Things of a machine, changes, items, what is held: plain Lean, no program. -/
namespace Go.Proofs
open Go Go.Abs
set_option linter.unusedSimpArgs false
set_option linter.unusedVariables false
structure FileV where
  path : Bytes
  data : Bytes
  runs : Bool
  deriving DecidableEq
structure SetV where
  key : Bytes
  value : Bytes
  deriving DecidableEq
structure SvcV where
  name : Bytes
  path : Bytes
  auto : Bool
  on : Bool
  deriving DecidableEq
/-- A change; an item. -/
structure ChgV where
  kind : Int
  file : FileV
  set : SetV
  svc : SvcV
  deriving DecidableEq
def FileV.zero : FileV := ⟨[], [], false⟩
def SetV.zero : SetV := ⟨[], []⟩
def SvcV.zero : SvcV := ⟨[], [], false, false⟩
def encFile (f : FileV) : List AV := [.str f.path, .str f.data, .bool f.runs]
def encSet (s : SetV) : List AV := [.str s.key, .str s.value]
def encSvc (s : SvcV) : List AV := [.str s.name, .str s.path, .bool s.auto, .bool s.on]
def encChg (c : ChgV) : List AV := [.int .i64 c.kind, .str c.file.path, .str c.file.data, .bool c.file.runs, .str c.set.key, .str c.set.value, .str c.svc.name, .str c.svc.path, .bool c.svc.auto, .bool c.svc.on]
def decFile : List AV → Option FileV
  | [.str a, .str b, .bool c] => some ⟨a, b, c⟩
  | _ => none
def decSet : List AV → Option SetV
  | [.str a, .str b] => some ⟨a, b⟩
  | _ => none
def decSvc : List AV → Option SvcV
  | [.str a, .str b, .bool c, .bool d] => some ⟨a, b, c, d⟩
  | _ => none
def decChg : List AV → Option ChgV
  | [.int .i64 k, .str a, .str b, .bool c, .str d, .str e, .str f, .str g, .bool h, .bool i] => some ⟨k, ⟨a, b, c⟩, ⟨d, e⟩, ⟨f, g, h, i⟩⟩
  | _ => none
theorem decFile_some {c : List AV} {a : FileV} (h : decFile c = some a) : c = encFile a := by
  unfold decFile at h; split at h
  · cases h; rfl
  · cases h
theorem decSet_some {c : List AV} {a : SetV} (h : decSet c = some a) : c = encSet a := by
  unfold decSet at h; split at h
  · cases h; rfl
  · cases h
theorem decSvc_some {c : List AV} {a : SvcV} (h : decSvc c = some a) : c = encSvc a := by
  unfold decSvc at h; split at h
  · cases h; rfl
  · cases h
def fileErr (f : FileV) : Int := if pathB f.path = false then 5 else if (65536 : Int) < f.data.length then 4 else 0
def setErr (s : SetV) : Int := if pathB s.key = false then 5 else if valueB s.value = false then 2 else 0
def factErr (s : SetV) : Int := if nameB s.key = false then 5 else if valueB s.value = false then 2 else 0
def svcErr (s : SvcV) : Int := if nameB s.name = false ∨ pathB s.path = false then 5 else 0
def pathErr (p : Bytes) : Int := if pathB p = false then 5 else 0
def nameErr (p : Bytes) : Int := if nameB p = false then 5 else 0
/-- What is wrong with the part that a change needs; the change with that part alone. -/
def partErr (c : ChgV) : Int :=
  if c.kind = 1 then fileErr c.file else if c.kind = 2 then pathErr c.file.path else if c.kind = 3 then setErr c.set else if c.kind = 4 then pathErr c.set.key
  else if c.kind = 5 then svcErr c.svc else nameErr c.svc.name
def kept (c : ChgV) : ChgV :=
  if c.kind = 1 then ⟨c.kind, c.file, .zero, .zero⟩ else if c.kind = 2 then ⟨c.kind, ⟨c.file.path, [], false⟩, .zero, .zero⟩ else if c.kind = 3 then ⟨c.kind, .zero, c.set, .zero⟩ else if c.kind = 4 then ⟨c.kind, .zero, ⟨c.set.key, []⟩, .zero⟩
  else if c.kind = 5 then ⟨c.kind, .zero, .zero, c.svc⟩ else ⟨c.kind, .zero, .zero, ⟨c.svc.name, [], false, false⟩⟩
def chgErr (c : ChgV) : Int := if c.kind < 1 ∨ 6 < c.kind then 1 else if partErr c ≠ 0 then partErr c else if c ≠ kept c then 2 else 0
/-- The sizes that may be. -/
def roomy (s : Bytes) : Prop := s.length ≤ 1099511627776
instance (s : Bytes) : Decidable (roomy s) := inferInstanceAs (Decidable (_ ≤ _))
def fileR (f : FileV) : Prop := f.path.length ≤ 1099511627776 ∧ f.data.length ≤ 1099511627776
def setR (f : SetV) : Prop := f.key.length ≤ 1099511627776 ∧ f.value.length ≤ 1099511627776
def svcR (f : SvcV) : Prop := f.name.length ≤ 1099511627776 ∧ f.path.length ≤ 1099511627776
def chgR (c : ChgV) : Prop := fileR c.file ∧ setR c.set ∧ svcR c.svc
instance (f : FileV) : Decidable (fileR f) := inferInstanceAs (Decidable (_ ∧ _))
instance (f : SetV) : Decidable (setR f) := inferInstanceAs (Decidable (_ ∧ _))
instance (f : SvcV) : Decidable (svcR f) := inferInstanceAs (Decidable (_ ∧ _))
instance (f : ChgV) : Decidable (chgR f) := inferInstanceAs (Decidable (_ ∧ _ ∧ _))
end Go.Proofs

/- What is held: plain Lean, no program. -/
namespace Go.Proofs
open Go Go.Abs
set_option linter.unusedSimpArgs false
set_option linter.unusedVariables false
structure HeldV where
  owner : Bytes
  kind : Int
  path : Bytes
  sum : Bytes
  base : Bytes
  deriving DecidableEq
def encHeld (h : HeldV) : List AV := [.str h.owner, .int .i64 h.kind, .str h.path, .str h.sum, .str h.base]
/-- The sizes that may be. -/
def heldR (h : HeldV) : Prop := h.owner.length ≤ 1048576 ∧ h.path.length ≤ 1048576 ∧ h.sum.length ≤ 1048576 ∧ h.base.length ≤ 1048576
instance (h : HeldV) : Decidable (heldR h) := inferInstanceAs (Decidable (_ ∧ _))
def thing (k : Int) : Int := if k = 5 then 1 else if k = 6 then 2 else 0
def named (h : HeldV) : Bool := if h.kind = 6 then nameB h.path else pathB h.path
instance : Inhabited HeldV := ⟨⟨[], 0, [], [], []⟩⟩
def firstOf : List Int → Int
  | [] => 0
  | e :: l => if e = 0 then firstOf l else e
def sameP (a b : HeldV) : Bool := decide (thing a.kind = thing b.kind) && decide (a.path = b.path)
def keyH (d : Int) (h : HeldV) : Key := .t [.i (thing h.kind + d), .s h.path]
theorem keyH_eq (d : Int) (a b : HeldV) : keyH d a = keyH d b ↔ sameP a b = true := by
  simp [keyH, sameP]
/-- What a map of the last things at their places holds. -/
def MapOK (d : Int) (es : List (Key × AV)) (seen : List HeldV) : Prop := ∀ h, mget es (keyH d h) = (seen.find? (sameP h)).map fun x => .agg (encHeld x)
theorem mget_mset (es : List (Key × AV)) (k k' : Key) (v : AV) : mget (mset es k v) k' = if k = k' then some v else mget es k' := by
  induction es with
  | nil => simp only [mset, mget, List.find?_cons, List.find?_nil]; by_cases h : k = k' <;> simp [h]
  | cons e es ih =>
    unfold mget at ih ⊢
    simp only [mset]
    by_cases he : e.1 = k
    · rw [if_pos he]
      simp only [List.find?_cons]
      by_cases h : k = k'
      · simp [h]
      · have : ¬ e.1 = k' := by rw [he]; exact h
        simp [h, this]
    · rw [if_neg he]
      simp only [List.find?_cons]
      by_cases h : e.1 = k'
      · have : ¬ k = k' := fun e' => he (h.trans e'.symm)
        simp [h, this]
      · simp only [h, decide_false]
        exact ih
theorem MapOK.nil (d : Int) : MapOK d [] [] := fun h => rfl
theorem sameP_comm (a b : HeldV) : sameP a b = sameP b a := by
  unfold sameP
  rw [Bool.eq_iff_iff]
  simp only [Bool.and_eq_true, decide_eq_true_eq]
  constructor <;> rintro ⟨h1, h2⟩ <;> exact ⟨h1.symm, h2.symm⟩
theorem MapOK.set {d : Int} {es : List (Key × AV)} {seen : List HeldV} (h : MapOK d es seen) (x : HeldV) : MapOK d (mset es (keyH d x) (.agg (encHeld x))) (x :: seen) := fun y => by
  rw [mget_mset, List.find?_cons]
  by_cases hs : sameP y x = true
  · rw [if_pos ((keyH_eq d x y).2 (by rw [sameP_comm]; exact hs)), hs]; rfl
  · rw [if_neg (fun e => hs (by rw [sameP_comm]; exact (keyH_eq d x y).1 e))]
    have : sameP y x = false := by simpa using hs
    rw [this]; exact h y
end Go.Proofs

/- Machines: plain Lean, no program. -/
namespace Go.Proofs
open Go Go.Abs
set_option linter.unusedSimpArgs false
set_option linter.unusedVariables false
structure MacV where
  facts : List SetV
  files : List FileV
  sets : List SetV
  svcs : List SvcV
  deriving DecidableEq
def MacV.zero : MacV := ⟨[], [], [], []⟩
def encMac (m : MacV) (a b c d : Tail) : List AV := [.sl (m.facts.map encSet) a, .sl (m.files.map encFile) b, .sl (m.sets.map encSet) c, .sl (m.svcs.map encSvc) d]
def decMac : List AV → Option MacV
  | [.sl a _, .sl b _, .sl c _, .sl d _] => (decL decSet a).bind fun a => (decL decFile b).bind fun b => (decL decSet c).bind fun c => (decL decSvc d).bind fun d => some ⟨a, b, c, d⟩
  | _ => none
theorem decSet_enc (s : SetV) : decSet (encSet s) = some s := rfl
theorem decFile_enc (s : FileV) : decFile (encFile s) = some s := rfl
theorem decSvc_enc (s : SvcV) : decSvc (encSvc s) = some s := rfl
theorem decMac_enc (m : MacV) (a b c d : Tail) : decMac (encMac m a b c d) = some m := by
  unfold decMac encMac
  simp only [decL_map decSet_enc, decL_map decFile_enc, decL_map decSvc_enc, Option.bind_some]
def macR (m : MacV) : Prop := (m.facts.length ≤ 1099511627776 ∧ m.files.length ≤ 1099511627776 ∧ m.sets.length ≤ 1099511627776 ∧ m.svcs.length ≤ 1099511627776) ∧ (∀ x ∈ m.facts, setR x) ∧ (∀ x ∈ m.files, fileR x) ∧ (∀ x ∈ m.sets, setR x) ∧ (∀ x ∈ m.svcs, svcR x)
/-- One behind the other: no greater. -/
def leB (a b : Bytes) : Bool := strLt a b || decide (a = b)
def ordB (p : Option Bytes) (k : Bytes) : Bool := match p with
  | some q => leB k q
  | none => false
def eachE {α : Type} (err : α → Int) (key : α → Bytes) : Option Bytes → List α → Int
  | _, [] => 0
  | p, x :: l => if err x ≠ 0 then err x else if ordB p (key x) = true then 7 else eachE err key (some (key x)) l
def prevK {α : Type} (key : α → Bytes) (l : List α) (i : Nat) : Option Bytes := if i = 0 then none else (l[i - 1]?).map key
theorem prevK_succ {α : Type} (key : α → Bytes) {l : List α} {i : Nat} {x : α} (h : l[i]? = some x) : prevK key l (i + 1) = some (key x) := by
  unfold prevK
  rw [if_neg (by omega), Nat.add_sub_cancel, h]; rfl
theorem drop_at {α : Type} {l : List α} {i : Nat} {x : α} (h : l[i]? = some x) : l.drop i = x :: l.drop (i + 1) := by
  have hlt := (List.getElem?_eq_some_iff.1 h).1
  rw [List.drop_eq_getElem_cons hlt]
  congr 1
  rw [List.getElem?_eq_getElem hlt] at h
  exact Option.some.inj h
/-- The directories in which a path lies. -/
def dirsB (p : Bytes) : List Bytes := ((List.range p.length).filter fun k => p[k]? = some 47).map fun k => p.take k
def clash (seen : List Bytes) (p : Bytes) : Bool := (dirsB p).any fun d => seen.contains d
def filesE : Option Bytes → List Bytes → List FileV → Int
  | _, _, [] => 0
  | p, seen, x :: l => if fileErr x ≠ 0 then fileErr x else if ordB p x.path = true then 7 else if clash seen x.path = true then 11 else filesE (some x.path) (x.path :: seen) l
def macErr (m : MacV) : Int :=
  if 100 < m.facts.length ∨ 2000 < m.files.length ∨ 2000 < m.sets.length ∨ 100 < m.svcs.length then 4
  else if eachE factErr (·.key) none m.facts ≠ 0 then eachE factErr (·.key) none m.facts
  else if filesE none [] m.files ≠ 0 then filesE none [] m.files
  else if eachE setErr (·.key) none m.sets ≠ 0 then eachE setErr (·.key) none m.sets
  else eachE svcErr (·.name) none m.svcs
/-- What the map of the paths holds. -/
def SeenOK (es : List (Key × AV)) (seen : List Bytes) : Prop := ∀ d, mget es (.s d) = if seen.contains d then some (.bool true) else none
theorem SeenOK.nil : SeenOK [] [] := fun d => rfl
theorem SeenOK.set {es : List (Key × AV)} {seen : List Bytes} (h : SeenOK es seen) (p : Bytes) : SeenOK (mset es (.s p) (.bool true)) (p :: seen) := fun d => by
  rw [mget_mset, List.contains_cons]
  by_cases e : p = d
  · subst e
    rw [if_pos rfl]
    simp
  · have e1 : ¬ Key.s p = Key.s d := fun h => e (by cases h; rfl)
    have e2 : (d == p) = false := by simpa using fun h => e h.symm
    rw [if_neg e1, e2, Bool.false_or]
    exact h d
theorem SeenOK.get {es : List (Key × AV)} {seen : List Bytes} (h : SeenOK es seen) (d : Bytes) : (mget es (.s d)).getD (.bool false) = .bool (seen.contains d) := by
  rw [h]
  split
  · rename_i e; rw [e]; rfl
  · rename_i e
    have : seen.contains d = false := by simpa using e
    rw [this]; rfl
/-- The clash, sign by sign. -/
def clashTo (seen : List Bytes) (p : Bytes) (i : Nat) : Bool := (((List.range i).filter fun k => p[k]? = some 47).map fun k => p.take k).any fun d => seen.contains d
theorem clashTo_succ (seen : List Bytes) (p : Bytes) (i : Nat) : clashTo seen p (i + 1) = (clashTo seen p i || (decide (p[i]? = some 47) && seen.contains (p.take i))) := by
  unfold clashTo
  rw [List.range_succ, List.filter_append, List.map_append, List.any_append]
  congr 1
  by_cases h : p[i]? = some 47 <;> simp [h]
theorem clashTo_all (seen : List Bytes) (p : Bytes) : clashTo seen p p.length = clash seen p := rfl
theorem clashTo_mono {seen : List Bytes} {p : Bytes} {i : Nat} (h : clashTo seen p i = true) : ∀ k, i ≤ k → clashTo seen p k = true := by
  intro k hk
  induction k with
  | zero => obtain rfl : i = 0 := by omega
            exact h
  | succ k ih =>
    by_cases e : i = k + 1
    · subst e; exact h
    · rw [clashTo_succ, ih (by omega)]; rfl
end Go.Proofs

/- Lists in order of their keys, and maps: plain Lean, no program. -/
namespace Go.Proofs
open Go Go.Abs
set_option linter.unusedSimpArgs false
set_option linter.unusedVariables false
theorem lt_lex (a b : Bytes) : strLt a b = decide (a < b) := Go.Proofs.bytesLess_eq a b
theorem lt_irr (a : Bytes) : strLt a a = false := by rw [lt_lex]; simp [List.lt_irrefl]
theorem lt_tr {a b c : Bytes} (h : strLt a b = true) (k : strLt b c = true) : strLt a c = true := by
  rw [lt_lex, decide_eq_true_eq] at *
  exact List.lt_trans h k
theorem lt_tri (a b : Bytes) : strLt a b = true ∨ a = b ∨ strLt b a = true := by
  simp only [lt_lex, decide_eq_true_eq]
  by_cases h : a < b
  · exact .inl h
  · by_cases h2 : b < a
    · exact .inr (.inr h2)
    · exact .inr (.inl (List.le_antisymm (List.not_lt.1 h2) (List.not_lt.1 h)))
theorem lt_le {a b : Bytes} (h : strLt a b = true) : a ≤ b := by
  rw [lt_lex, decide_eq_true_eq] at h
  exact List.le_of_lt h
section
variable {α : Type} (key : α → Bytes)
/-- The keys rise. -/
def Asc (l : List α) : Prop := l.Pairwise fun a b => strLt (key a) (key b) = true
def putK (x : α) : List α → List α
  | [] => [x]
  | y :: l => if strLt (key x) (key y) = true then x :: y :: l else if key x = key y then x :: l else y :: putK x l
def delK (k : Bytes) (l : List α) : List α := l.filter fun x => decide (¬ key x = k)
def getK (k : Bytes) (l : List α) : Option α := l.find? fun x => decide (key x = k)
variable {key}
theorem Asc.nodup {l : List α} (h : Asc key l) : (l.map key).Nodup := by
  rw [List.Nodup, List.pairwise_map]
  exact h.imp fun h e => by rw [e, lt_irr] at h; cases h
theorem Asc.del {l : List α} (h : Asc key l) (k : Bytes) : Asc key (delK key k l) := List.Pairwise.filter _ h
theorem putK_mem {x : α} : ∀ {l : List α} {y : α}, y ∈ putK key x l → y = x ∨ y ∈ l
  | [], y, h => by simpa [putK] using h
  | z :: l, y, h => by
    unfold putK at h
    split at h
    · simpa using h
    split at h
    · rcases List.mem_cons.1 h with h | h
      · exact .inl h
      · exact .inr (List.mem_cons_of_mem _ h)
    · rcases List.mem_cons.1 h with h | h
      · exact .inr (by rw [h]; exact List.mem_cons_self ..)
      · rcases putK_mem h with h | h
        · exact .inl h
        · exact .inr (List.mem_cons_of_mem _ h)
theorem Asc.put {x : α} : ∀ {l : List α}, Asc key l → Asc key (putK key x l)
  | [], _ => by simp [putK, Asc]
  | z :: l, h => by
    obtain ⟨h1, h2⟩ := List.pairwise_cons.1 h
    unfold putK
    split
    · rename_i c
      exact List.pairwise_cons.2 ⟨fun y hy => by
        rcases List.mem_cons.1 hy with e | e
        · rw [e]; exact c
        · exact lt_tr c (h1 y e), h⟩
    split
    · rename_i c e
      exact List.pairwise_cons.2 ⟨fun y hy => by rw [e]; exact h1 y hy, h2⟩
    · rename_i c e
      refine List.pairwise_cons.2 ⟨fun y hy => ?_, Asc.put h2⟩
      rcases putK_mem hy with e2 | e2
      · rw [e2]
        rcases lt_tri (key x) (key z) with t | t | t
        · exact absurd t c
        · exact absurd t e
        · exact t
      · exact h1 y e2
theorem putK_perm {x : α} : ∀ {l : List α}, Asc key l → (putK key x l).Perm (x :: delK key (key x) l)
  | [], _ => by simp [putK, delK]
  | z :: l, h => by
    obtain ⟨h1, h2⟩ := List.pairwise_cons.1 h
    unfold putK
    split
    · rename_i c
      have e : delK key (key x) (z :: l) = z :: l := by
        unfold delK
        rw [List.filter_eq_self]
        intro y hy
        have hlt : strLt (key x) (key y) = true := by
          rcases List.mem_cons.1 hy with e | e
          · rw [e]; exact c
          · exact lt_tr c (h1 y e)
        simp only [decide_eq_true_eq]
        intro e
        rw [e, lt_irr] at hlt; cases hlt
      rw [e]
    split
    · rename_i c e
      have e2 : delK key (key x) (z :: l) = l := by
        unfold delK
        rw [List.filter_cons_of_neg (by simp [e]), List.filter_eq_self]
        intro y hy
        have hlt := h1 y hy
        simp only [decide_eq_true_eq]
        intro e3
        rw [← e, ← e3, lt_irr] at hlt; cases hlt
      rw [e2]
    · rename_i c e
      have e2 : delK key (key x) (z :: l) = z :: delK key (key x) l := by
        unfold delK
        rw [List.filter_cons_of_pos (by simp; exact fun h => e h.symm)]
      rw [e2]
      exact ((putK_perm h2).cons z).trans (.swap x z _)
theorem putK_end {x : α} : ∀ {l : List α}, (∀ y ∈ l, strLt (key y) (key x) = true) → putK key x l = l ++ [x]
  | [], _ => rfl
  | z :: l, h => by
    have hz := h z (List.mem_cons_self ..)
    have h1 : ¬ strLt (key x) (key z) = true := fun c => by
      have := lt_tr c hz
      rw [lt_irr] at this; cases this
    have h2 : ¬ key x = key z := fun c => by rw [c, lt_irr] at hz; cases hz
    rw [putK, if_neg h1, if_neg h2, putK_end fun y hy => h y (List.mem_cons_of_mem _ hy)]
    rfl
theorem putK_take {l : List α} (h : Asc key l) {i : Nat} {x : α} (hx : l[i]? = some x) : putK key x (l.take i) = l.take (i + 1) := by
  rw [List.take_add_one, hx]
  refine putK_end fun y hy => ?_
  obtain ⟨j, hj⟩ := List.getElem?_of_mem hy
  have hji : j < i := by have := (List.getElem?_eq_some_iff.1 hj).1; rw [List.length_take] at this; omega
  rw [List.getElem?_take, if_pos hji] at hj
  obtain ⟨a, ha⟩ := List.getElem?_eq_some_iff.1 hj
  obtain ⟨b, hb⟩ := List.getElem?_eq_some_iff.1 hx
  rw [← ha, ← hb]
  exact List.pairwise_iff_getElem.1 h j i a b hji
theorem Asc.take {l : List α} (h : Asc key l) (i : Nat) : Asc key (l.take i) := List.Pairwise.sublist (List.take_sublist i l) h
/-- Lists in order that hold the same are the same. -/
theorem Asc.uniq : ∀ {l m : List α}, Asc key l → Asc key m → l.Perm m → l = m
  | [], m, _, _, h => (List.nil_perm.1 h).symm
  | x :: l, [], _, _, h => by simpa using h.length_eq
  | x :: l, y :: m, h1, h2, h => by
    obtain ⟨a1, a2⟩ := List.pairwise_cons.1 h1
    obtain ⟨b1, b2⟩ := List.pairwise_cons.1 h2
    have e : x = y := by
      have hx : x ∈ y :: m := h.subset (List.mem_cons_self ..)
      have hy : y ∈ x :: l := h.symm.subset (List.mem_cons_self ..)
      rcases List.mem_cons.1 hx with e | e
      · exact e
      rcases List.mem_cons.1 hy with e2 | e2
      · exact e2.symm
      have t1 := b1 x e
      have t2 := a1 y e2
      have t3 := lt_tr t1 t2
      rw [lt_irr] at t3; cases t3
    subst e
    rw [Asc.uniq a2 b2 (List.Perm.cons_inv h)]
/-- The keys, sorted. -/
theorem sort_keys {l : List α} (h : Asc key l) {ss : List Bytes} (hp : ss.Perm (l.map key)) : (ss.mergeSort fun x y => decide (x ≤ y)) = l.map key := by
  have hs : (ss.mergeSort fun x y => decide (x ≤ y)).Pairwise fun a b => a ≤ b := by
    have := List.pairwise_mergeSort (le := fun x y : Bytes => decide (x ≤ y)) (fun a b c h1 h2 => by
      simp only [decide_eq_true_eq] at *; exact List.le_trans h1 h2) (fun a b => by
      simp only [Bool.or_eq_true, decide_eq_true_eq]; exact List.le_total a b) ss
    exact this.imp fun h => by simpa using h
  have hp2 : (ss.mergeSort fun x y => decide (x ≤ y)).Perm (l.map key) := (List.mergeSort_perm ss _).trans hp
  have hnd : (ss.mergeSort fun x y => decide (x ≤ y)).Nodup := hp2.nodup_iff.2 h.nodup
  refine Asc.uniq (key := id) ?_ ?_ hp2
  · have := hs.and hnd
    refine this.imp fun h => ?_
    rcases lt_tri _ _ with t | t | t
    · exact t
    · exact absurd t h.2
    · exact absurd (List.le_antisymm h.1 (lt_le t)) h.2
  · exact List.pairwise_map.2 h
end
end Go.Proofs

/- A contract of the library that sorts a slice of strings in place, at the level of the abstract machine. -/
namespace Go.Abs
open Go.RowKit
set_option linter.unusedSimpArgs false
set_option linter.unusedVariables false
section
variable {P : Program} {C : Cx} {H : Heap} {w : World}
theorem Rel.grown (hrel : Rel P C H w) (os : Array Obj) : Le C H w C H (Sort.grow w os) ∧ Rel P C H (Sort.grow w os) := by
  have hg : ∀ b, b < w.heap.size → (Sort.grow w os).heap[b]? = w.heap[b]? := fun b hb => by
    unfold Sort.grow
    simp only
    rw [Array.getElem?_append_left hb]
  have hsz : (Sort.grow w os).heap.size = w.heap.size + os.size := by simp [Sort.grow]
  have hle : Le C H w C H (Sort.grow w os) := by
    refine ⟨Nat.le_refl _, fun _ _ => rfl, rfl, fun b s h => ?_, fun b off h => ⟨⟨by rw [hsz]; have := h.1; omega, h.2⟩, ?_⟩, ⟨rfl, rfl, rfl, by rw [hsz]; omega, fun k hk => hg k (by have := hrel.base; omega)⟩⟩
    · have hlt : b < w.heap.size := by
        rcases Nat.lt_or_ge b w.heap.size with h' | h'
        · exact h'
        · simp [World.shape?, Array.getElem?_eq_none h'] at h
      unfold World.shape? at *
      rw [hg b hlt]; exact h
    · unfold World.cell?
      rw [hg b h.1]
  refine ⟨hle, fun id o ho => ?_, hrel.inj, by rw [hsz]; have := hrel.base; omega, hrel.tab.le hle⟩
  obtain ⟨h1, h2, h3⟩ := hrel.live id o ho
  exact ⟨h1, h2, h3.mono hle (hg _ h3.lt)⟩
theorem Rel.aheadN (hrel : Rel P C H w) (n : Nat) : Le C H w C H (Sort.ahead w n) ∧ Rel P C H (Sort.ahead w n) := by
  have hle : Le C H w C H (Sort.ahead w n) := ⟨Nat.le_refl _, fun _ _ => rfl, rfl, fun _ _ h => h, fun _ _ h => ⟨h, rfl⟩, ⟨rfl, rfl, rfl, Nat.le_refl _, fun _ _ => rfl⟩⟩
  exact ⟨hle, fun id o ho => by obtain ⟨h1, h2, h3⟩ := hrel.live id o ho; exact ⟨h1, h2, h3.mono hle rfl⟩, hrel.inj, hrel.base, hrel.tab.le hle⟩
theorem putRow_blk {α : Type} [Inhabited α] {enc : α → Value} {b off : Nat} {arr : Array Value} {ty : TypeId} {fr : Nat × Nat} (h : w.heap[b]? = some (.cells arr ty fr)) (d : Array α) :
    Sort.putRow enc w b off d = setBlk w b (.cells (Sort.putCells enc off d arr) ty fr) := by
  have hlt : b < w.heap.size := (Array.getElem?_eq_some_iff.1 h).1
  unfold Sort.putRow Sort.mapBlock setBlk
  congr 1
  apply Array.ext_getElem?
  intro k
  rw [Array.getElem?_modify]
  by_cases hk : b = k
  · subst hk
    rw [if_pos rfl, h]
    simp [Sort.onCells, hlt]
  · rw [if_neg hk, Array.getElem?_setIfInBounds_ne hk]
theorem str_val {l : List UInt8} {v : Value} (h : Repr C H w (.str l) v) : v = Go.Proofs.encStr l := by
  cases h with
  | str _ s h =>
    subst h
    rfl
/-- Cells of an object that are strings, written in one row. -/
theorem strs_put (hrel : Rel P C H w) {id : Nat} {ss ts : List (List UInt8)} (ho : H id = some (.cells (ss.map .str))) (hl : ts.length = ss.length) :
    Le C H w C (H.put id (.cells (ts.map .str))) (Sort.putRow Go.Proofs.encStr w (C.β id) 0 ts.toArray) ∧ Rel P C (H.put id (.cells (ts.map .str))) (Sort.putRow Go.Proofs.encStr w (C.β id) 0 ts.toArray) := by
  obtain ⟨-, -, arr, ty, fr, a1, a2, a3, a4⟩ := hrel.live id _ ho
  rw [putRow_blk a1]
  have hps : (Sort.putCells Go.Proofs.encStr 0 ts.toArray arr).size = arr.size := by simp [Sort.putCells]
  have hlt : C.β id < w.heap.size := (Array.getElem?_eq_some_iff.1 a1).1
  simp only [List.length_map] at a2 a3
  refine Le.set_own hrel ho (fun off hno => absurd trivial hno) (fun s hs => ?_) (fun C' H' w' hle hb => ⟨_, ty, fr, hb, ?_, fun j hj => ?_, ?_⟩)
  · unfold World.shape? at hs ⊢
    rw [a1] at hs; rw [setBlk_self hlt]; simpa [hps] using hs
  · rw [hps, List.length_map]; omega
  · rw [List.length_map] at hj
    have hja : j < arr.size := by omega
    have e : (Sort.putCells Go.Proofs.encStr 0 ts.toArray arr).getD j default = Go.Proofs.encStr ts[j] := by
      rw [Array.getD_eq_getD_getElem?]
      simp only [Sort.putCells, Array.getElem?_mapIdx, Array.getElem?_eq_getElem hja, Option.map_some, Option.getD_some]
      rw [if_pos ⟨Nat.zero_le _, by simpa using hj⟩]
      simp [hj]
    rw [e]
    refine ⟨rfl, ?_⟩
    have e2 : (ts.map AV.str).getD j .junk = .str ts[j] := by simp [List.getD, hj]
    rw [e2]
    exact .str _ _ (by simp)
  · rw [hps]; exact a4
theorem strs_hold (hrel : Rel P C H w) {id : Nat} {ss : List (List UInt8)} (ho : H id = some (.cells (ss.map .str))) : Sort.Holds Go.Proofs.encStr w (C.β id) 0 ss.toArray ∧ C.β id < w.heap.size := by
  obtain ⟨-, -, arr, ty, fr, a1, a2, a3, a4⟩ := hrel.live id _ ho
  simp only [List.length_map] at a2 a3
  refine ⟨fun j hj => ?_, (Array.getElem?_eq_some_iff.1 a1).1⟩
  simp only [List.size_toArray] at hj
  have hja : j < arr.size := by omega
  have h3 := (a3 j hj).2
  have e2 : (ss.map AV.str).getD j .junk = .str ss[j] := by simp [List.getD, hj]
  rw [e2] at h3
  have h4 := str_val h3
  have e3 : arr.getD j default = arr[j] := by simp [Array.getD_eq_getD_getElem?, hja]
  rw [e3] at h4
  have h5 := a4 j (Nat.zero_le _) hja
  obtain ⟨lo, hi⟩ := fr
  refine ⟨?_, ?_⟩
  · simp only [World.cell?, a1, Nat.zero_add]
    simp [hja, h4, hj]
  · simp only [World.frozen?, a1, Nat.zero_add]
    simp only at h5
    rw [Bool.eq_false_iff]
    simpa using h5
/-- A contract on slices of strings that are sorted in place. -/
theorem sort_bridge {f : FuncId} {fn : Func} (hf : P.funcs[f]? = some fn) (hn : (fn.name == "runtime.NumGoroutine") = false) (hb : fn.body.isNone = false) (srt : List (List UInt8) → List (List UInt8)) (hsl : ∀ ss, (srt ss).length = ss.length)
    (hc : ∀ (blk off cap : Nat) (ss : List (List UInt8)) (w : World), Sort.Holds Go.Proofs.encStr w blk off ss.toArray → blk < w.heap.size → ss.length < 4611686018427387904 →
      Calls P f #[.slice (some ⟨blk, off, none⟩) ss.length cap] w fun e w' => e = .returned (.tuple #[]) ∧ ∃ n os, w' = Sort.grow (Sort.putRow Go.Proofs.encStr (Sort.ahead w n) blk off (srt ss).toArray) os)
    {H : Heap} {id : Nat} {ss : List (List UInt8)} (ho : H id = some (.cells (ss.map .str))) (hne : ss ≠ []) (hlen : ss.length < 4611686018427387904) :
    ACalls P f [.ms id 0 ss.length 1] H fun x H' => x = .tup [] ∧ H' = H.put id (.cells ((srt ss).map .str)) := by
  refine ⟨fun C w vs hrel hv => ?_⟩
  rw [callFunc_enter hf hn hb]
  refine ⟨rfl, ?_⟩
  obtain ⟨hv1, hv2⟩ := hv
  match vs, hv1 with
  | [v], _ =>
    have h0 := hv2 0 (by simp)
    simp only [List.getD_cons_zero] at h0
    have hp : 0 < ss.length := List.length_pos_iff.2 hne
    cases h0 with
    | ms _ _ _ _ a cap h ha hl hs =>
      rw [ha (by omega)]
      obtain ⟨hH, hB⟩ := strs_hold hrel ho
      refine (hc _ _ cap ss w hH hB hlen).mono ?_
      rintro e w' ⟨rfl, n, os, rfl⟩
      obtain ⟨l1, r1⟩ := hrel.aheadN n
      obtain ⟨l2, r2⟩ := strs_put r1 ho (hsl ss)
      obtain ⟨l3, r3⟩ := r2.grown os
      exact ⟨C, _, .tup [], _, rfl, r3, (l1.trans l2).trans l3, .tup [] #[] rfl (by simp), rfl, rfl⟩
/-- Nothing to sort. -/
theorem sort_bridge0 {f : FuncId} {fn : Func} (hf : P.funcs[f]? = some fn) (hn : (fn.name == "runtime.NumGoroutine") = false) (hb : fn.body.isNone = false)
    (hc : ∀ (p : Option Addr) (cap : Nat) (w : World), Calls P f #[.slice p 0 cap] w fun e w' => e = .returned (.tuple #[]) ∧ w' = w) (H : Heap) :
    ACalls P f [.sl [] .exact] H fun x H' => x = .tup [] ∧ H' = H := by
  refine ⟨fun C w vs hrel hv => ?_⟩
  rw [callFunc_enter hf hn hb]
  refine ⟨rfl, ?_⟩
  obtain ⟨hv1, hv2⟩ := hv
  match vs, hv1 with
  | [v], _ =>
    have h0 := hv2 0 (by simp)
    simp only [List.getD_cons_zero] at h0
    cases h0 with
    | sl _ _ a cap b off us ha hc0 hr hl ht =>
      refine (hc a cap w).mono ?_
      rintro e w' ⟨rfl, rfl⟩
      exact ⟨C, H, .tup [], _, rfl, hrel, Le.refl _ _ _, .tup [] #[] rfl (by simp), rfl, rfl⟩
end
end Go.Abs

/- Contracts of the library that give the keys of a map, at the level of the abstract machine. -/
namespace Go.Abs
open Go.RowKit
set_option linter.unusedSimpArgs false
set_option linter.unusedVariables false
section
variable {P : Program} {C : Cx} {H : Heap} {w : World}
/-- Nothing that lay has turned. -/
theorem Rel.kept (hrel : Rel P C H w) {w' : World} (hb : Below w.heap.size w w') : Le C H w C H w' ∧ Rel P C H w' := by
  have hle : Le C H w C H w' := by
    refine ⟨Nat.le_refl _, fun _ _ => rfl, rfl, fun b s h => ?_, fun b off h => ⟨⟨Nat.lt_of_lt_of_le h.1 hb.size, h.2⟩, ?_⟩, hb.mono hrel.base⟩
    · have hlt : b < w.heap.size := by
        rcases Nat.lt_or_ge b w.heap.size with h' | h'
        · exact h'
        · simp [World.shape?, Array.getElem?_eq_none h'] at h
      unfold World.shape? at *
      rw [hb.block b hlt]; exact h
    · unfold World.cell?
      rw [hb.block b h.1]
  refine ⟨hle, fun id o ho => ?_, hrel.inj, Nat.le_trans hrel.base hb.size, hrel.tab.le hle⟩
  obtain ⟨h1, h2, h3⟩ := hrel.live id o ho
  exact ⟨h1, h2, h3.mono hle (hb.block _ h3.lt)⟩
def keyS : Key × AV → List UInt8
  | (.s l, _) => l
  | _ => []
open Go.Shelf Go.Proofs in
end
end Go.Abs

/- Maps that hold a list in order: plain Lean, no program. -/
namespace Go.Proofs
open Go Go.Abs
set_option linter.unusedSimpArgs false
set_option linter.unusedVariables false
section
variable {α : Type} {key : α → Bytes} {enc : α → AV}
def entK (key : α → Bytes) (enc : α → AV) (x : α) : Key × AV := (.s (key x), enc x)
/-- The entries of a map that holds these things. -/
def MapOf (key : α → Bytes) (enc : α → AV) (es : List (Key × AV)) (l : List α) : Prop := Asc key l ∧ ∃ xs : List α, es = xs.map (entK key enc) ∧ xs.Perm l
theorem MapOf.nil : MapOf key enc [] [] := ⟨List.Pairwise.nil, [], rfl, .refl _⟩
theorem MapOf.len {es : List (Key × AV)} {l : List α} (h : MapOf key enc es l) : es.length = l.length := by
  obtain ⟨-, xs, rfl, hp⟩ := h
  rw [List.length_map, hp.length_eq]
theorem MapOf.keys {es : List (Key × AV)} {l : List α} (h : MapOf key enc es l) : (es.map keyS).Perm (l.map key) := by
  obtain ⟨-, xs, rfl, hp⟩ := h
  have e : (xs.map (entK key enc)).map keyS = xs.map key := by simp [entK, keyS, Function.comp_def]
  rw [e]
  exact hp.map key
theorem MapOf.nodup {es : List (Key × AV)} {l : List α} (h : MapOf key enc es l) : (es.map keyS).Nodup := h.keys.nodup_iff.2 h.1.nodup
theorem find_perm {xs l : List α} (hp : xs.Perm l) (hn : (xs.map key).Nodup) (k : Bytes) : xs.find? (fun x => decide (key x = k)) = l.find? fun x => decide (key x = k) := by
  induction hp with
  | nil => rfl
  | cons x hp ih =>
    simp only [List.map_cons, List.nodup_cons] at hn
    rw [List.find?_cons, List.find?_cons, ih hn.2]
  | swap x y l =>
    simp only [List.map_cons, List.nodup_cons, List.mem_cons, not_or] at hn
    rw [List.find?_cons, List.find?_cons, List.find?_cons, List.find?_cons]
    by_cases h1 : key x = k
    · have : ¬ key y = k := fun h2 => hn.1.1 (h2.trans h1.symm)
      simp [h1, this]
    · simp [h1]
  | trans h1 h2 ih1 ih2 => rw [ih1 hn, ih2 ((h1.map key).nodup_iff.1 hn)]
theorem MapOf.get {es : List (Key × AV)} {l : List α} (h : MapOf key enc es l) (k : Bytes) : mget es (.s k) = (getK key k l).map enc := by
  obtain ⟨ha, xs, rfl, hp⟩ := h
  have hn : (xs.map key).Nodup := (hp.map key).nodup_iff.2 ha.nodup
  unfold getK
  rw [← find_perm hp hn k]
  unfold mget
  clear hn hp
  induction xs with
  | nil => rfl
  | cons x xs ih =>
    rw [List.map_cons, List.find?_cons, List.find?_cons]
    by_cases hk : key x = k
    · simp [entK, hk]
    · simp only [entK, Key.s.injEq, hk, decide_false]
      exact ih
theorem mset_ent (x : α) : ∀ (xs : List α), (xs.map key).Nodup → ∃ ys : List α, mset (xs.map (entK key enc)) (.s (key x)) (enc x) = ys.map (entK key enc) ∧ ys.Perm (x :: delK key (key x) xs)
  | [], _ => ⟨[x], rfl, by simp [delK]⟩
  | y :: xs, h => by
    simp only [List.map_cons, List.nodup_cons] at h
    rw [List.map_cons, mset]
    by_cases hk : key y = key x
    · refine ⟨x :: xs, by simp [entK, hk], ?_⟩
      have e : delK key (key x) (y :: xs) = xs := by
        unfold delK
        rw [List.filter_cons_of_neg (by simp [hk]), List.filter_eq_self]
        intro z hz
        simp only [decide_eq_true_eq]
        intro e
        exact h.1 (by rw [hk, ← e]; exact List.mem_map_of_mem hz)
      rw [e]
    · obtain ⟨ys, h1, h2⟩ := mset_ent x xs h.2
      refine ⟨y :: ys, ?_, ?_⟩
      · rw [if_neg (by simp [entK, hk]), h1]; rfl
      · have e : delK key (key x) (y :: xs) = y :: delK key (key x) xs := by
          unfold delK
          rw [List.filter_cons_of_pos (by simp [hk])]
        rw [e]
        exact (h2.cons y).trans (.swap x y _)
theorem MapOf.set {es : List (Key × AV)} {l : List α} (h : MapOf key enc es l) (x : α) : MapOf key enc (mset es (.s (key x)) (enc x)) (putK key x l) := by
  obtain ⟨ha, xs, rfl, hp⟩ := h
  obtain ⟨ys, h1, h2⟩ := mset_ent (key := key) (enc := enc) x xs ((hp.map key).nodup_iff.2 ha.nodup)
  exact ⟨ha.put, ys, h1, h2.trans (((hp.filter _).cons x).trans (putK_perm ha).symm)⟩
theorem mdel_ent (k : Bytes) : ∀ (xs : List α), (xs.map key).Nodup → mdel (xs.map (entK key enc)) (.s k) = (delK key k xs).map (entK key enc)
  | [], _ => rfl
  | y :: xs, h => by
    simp only [List.map_cons, List.nodup_cons] at h
    rw [List.map_cons, mdel]
    by_cases hk : key y = k
    · have e : delK key k (y :: xs) = xs := by
        unfold delK
        rw [List.filter_cons_of_neg (by simp [hk]), List.filter_eq_self]
        intro z hz
        simp only [decide_eq_true_eq]
        intro e
        exact h.1 (by rw [hk, ← e]; exact List.mem_map_of_mem hz)
      rw [e, if_pos (by simp [entK, hk])]
    · have e : delK key k (y :: xs) = y :: delK key k xs := by
        unfold delK
        rw [List.filter_cons_of_pos (by simp [hk])]
      rw [e, if_neg (by simp [entK, hk]), mdel_ent k xs h.2]
      rfl
theorem MapOf.del {es : List (Key × AV)} {l : List α} (h : MapOf key enc es l) (k : Bytes) : MapOf key enc (mdel es (.s k)) (delK key k l) := by
  obtain ⟨ha, xs, rfl, hp⟩ := h
  refine ⟨ha.del k, delK key k xs, mdel_ent k xs ((hp.map key).nodup_iff.2 ha.nodup), hp.filter _⟩
theorem MapOf.sorted {es : List (Key × AV)} {l : List α} (h : MapOf key enc es l) {ss : List Bytes} (hp : ss.Perm (es.map keyS)) : (ss.mergeSort fun x y => decide (x ≤ y)) = l.map key := sort_keys h.1 (hp.trans h.keys)
theorem getK_at {l : List α} (h : Asc key l) {i : Nat} {x : α} (hx : l[i]? = some x) : getK key (key x) l = some x := by
  have hm := List.mem_of_getElem? hx
  unfold getK
  cases hf : l.find? fun y => decide (key y = key x) with
  | none =>
    rw [List.find?_eq_none] at hf
    exact absurd (by simp) (hf x hm)
  | some y =>
    have h1 := List.find?_some hf
    have h2 := List.mem_of_find?_eq_some hf
    simp only [decide_eq_true_eq] at h1
    congr 1
    have hn := h.nodup
    obtain ⟨j, hj⟩ := List.getElem?_of_mem h2
    have e1 : (l.map key)[j]? = (l.map key)[i]? := by simp [hj, hx, h1]
    have hji := (List.getElem?_inj (by simpa using (List.getElem?_eq_some_iff.1 hj).1) hn).1 e1
    subst hji
    rw [hj] at hx
    exact Option.some.inj hx
end
end Go.Proofs

/- Changes of a machine: plain Lean, no program. -/
namespace Go.Proofs
open Go Go.Abs
set_option linter.unusedSimpArgs false
set_option linter.unusedVariables false
/-- Does a path lie below another one? -/
def underB (p d : Bytes) : Bool := (d ++ [47]).isPrefixOf p
def conflictV (l : List FileV) (p : Bytes) : Bool := l.any fun f => underB f.path p || underB p f.path
abbrev putF (m : MacV) (f : FileV) : MacV := { m with files := putK (·.path) f m.files }
/-- One change. -/
def doV (m : MacV) (c : ChgV) : Except Int MacV :=
  if chgErr c ≠ 0 then .error (chgErr c)
  else if c.kind = 2 then (if (getK (·.path) c.file.path m.files).isSome then .ok { m with files := delK (·.path) c.file.path m.files } else .error 10)
  else if c.kind = 4 then (if (getK (·.key) c.set.key m.sets).isSome then .ok { m with sets := delK (·.key) c.set.key m.sets } else .error 10)
  else if c.kind = 6 then (if (getK (·.name) c.svc.name m.svcs).isSome then .ok { m with svcs := delK (·.name) c.svc.name m.svcs } else .error 10)
  else if c.kind = 1 then
    (if conflictV m.files c.file.path = true then .error 11
     else if (getK (·.path) c.file.path m.files).isNone ∧ 2000 ≤ m.files.length then .error 4
     else .ok (putF m c.file))
  else if c.kind = 3 then
    (if (getK (·.key) c.set.key m.sets).isNone ∧ 2000 ≤ m.sets.length then .error 4 else .ok { m with sets := putK (·.key) c.set m.sets })
  else (if (getK (·.name) c.svc.name m.svcs).isNone ∧ 100 ≤ m.svcs.length then .error 4 else .ok { m with svcs := putK (·.name) c.svc m.svcs })
def doAll : MacV → List ChgV → Except Int MacV
  | m, [] => .ok m
  | m, c :: l => match doV m c with
    | .ok n => doAll n l
    | .error e => .error e
def applyV (m : MacV) (l : List ChgV) : Except Int MacV := if macErr m ≠ 0 then .error (macErr m) else doAll m l
end Go.Proofs

/- Right machines, and that changes leave them right: plain Lean, no program. -/
namespace Go.Proofs
open Go Go.Abs
set_option linter.unusedSimpArgs false
set_option linter.unusedVariables false
section
variable {α : Type} {key : α → Bytes} {err : α → Int}
theorem ordB_no {p : Option Bytes} {k : Bytes} : ordB p k = false ↔ ∀ q, p = some q → strLt q k = true := by
  cases p with
  | none => simp [ordB]
  | some q =>
    simp only [ordB, leB, Option.some.injEq]
    constructor
    · rintro h _ rfl
      rw [Bool.or_eq_false_iff] at h
      rcases lt_tri q k with t | t | t
      · exact t
      · simp [t] at h
      · rw [t] at h; cases h.1
    · intro h
      have h := h q rfl
      rw [Bool.or_eq_false_iff]
      refine ⟨?_, ?_⟩
      · cases hh : strLt k q with
        | false => rfl
        | true => have := lt_tr h hh; rw [lt_irr] at this; cases this
      · refine decide_eq_false fun e => ?_
        rw [e, lt_irr] at h; cases h
theorem eachE_zero : ∀ (p : Option Bytes) (l : List α), eachE err key p l = 0 ↔ (∀ x ∈ l, err x = 0) ∧ Asc key l ∧ ∀ q, p = some q → ∀ x ∈ l, strLt q (key x) = true
  | p, [] => by simp [eachE, Asc]
  | p, x :: l => by
    unfold eachE
    by_cases h1 : err x = 0
    · rw [if_neg (by simp [h1])]
      by_cases h2 : ordB p (key x) = true
      · rw [if_pos h2]
        refine ⟨fun h => by omega, fun h => ?_⟩
        have : ordB p (key x) = false := ordB_no.2 fun q hq => h.2.2 q hq x (List.mem_cons_self ..)
        rw [this] at h2; cases h2
      · rw [if_neg h2, eachE_zero (some (key x)) l]
        have h2 := ordB_no.1 (by simpa using h2)
        constructor
        · rintro ⟨a, b, c⟩
          refine ⟨fun y hy => ?_, List.pairwise_cons.2 ⟨c _ rfl, b⟩, fun q hq y hy => ?_⟩
          · rcases List.mem_cons.1 hy with rfl | hy
            · exact h1
            · exact a y hy
          · rcases List.mem_cons.1 hy with rfl | hy
            · exact h2 q hq
            · exact lt_tr (h2 q hq) (c _ rfl y hy)
        · rintro ⟨a, b, c⟩
          obtain ⟨b1, b2⟩ := List.pairwise_cons.1 b
          exact ⟨fun y hy => a y (List.mem_cons_of_mem _ hy), b2, fun q hq y hy => by cases hq; exact b1 y hy⟩
    · rw [if_pos h1]
      exact ⟨fun h => absurd h h1, fun h => absurd (h.1 x (List.mem_cons_self ..)) h1⟩
end
theorem under_dirs {p d : Bytes} : d ∈ dirsB p ↔ underB p d = true := by
  unfold dirsB underB
  simp only [List.mem_map, List.mem_filter, List.mem_range, decide_eq_true_eq, List.isPrefixOf_iff_prefix]
  constructor
  · rintro ⟨k, ⟨h1, h2⟩, rfl⟩
    have e : p = p.take k ++ 47 :: p.drop (k + 1) := by
      conv => lhs; rw [← List.take_append_drop k p]
      rw [drop_at h2]
    refine ⟨p.drop (k + 1), ?_⟩
    conv => rhs; rw [e]
    simp
  · rintro ⟨t, rfl⟩
    refine ⟨d.length, ⟨by simp, by simp⟩, by simp⟩
theorem under_lt {p d : Bytes} (h : underB p d = true) : strLt d p = true := by
  rw [lt_lex, decide_eq_true_eq]
  unfold underB at h
  rw [List.isPrefixOf_iff_prefix] at h
  obtain ⟨t, rfl⟩ := h
  induction d with
  | nil => exact List.Lex.nil
  | cons x d ih => exact List.Lex.cons ih
theorem under_self (p : Bytes) : underB p p = false := by
  cases h : underB p p with
  | false => rfl
  | true => have := under_lt h; rw [lt_irr] at this; cases this
/-- No file lies below another one. -/
def Apart (l : List FileV) : Prop := ∀ x ∈ l, ∀ y ∈ l, underB x.path y.path = false
theorem clash_no {seen : List Bytes} {p : Bytes} : clash seen p = false ↔ ∀ d ∈ seen, underB p d = false := by
  unfold clash
  rw [List.any_eq_false]
  simp only [List.contains_iff_mem]
  constructor
  · intro h d hd
    cases hh : underB p d with
    | false => rfl
    | true => exact absurd hd (h d (under_dirs.2 hh))
  · intro h d hd hs
    have := h d hs
    rw [under_dirs.1 hd] at this; cases this
theorem filesE_zero : ∀ (p : Option Bytes) (seen : List Bytes) (l : List FileV), filesE p seen l = 0 ↔ (∀ x ∈ l, fileErr x = 0) ∧ Asc (·.path) l ∧ (∀ q, p = some q → ∀ x ∈ l, strLt q x.path = true) ∧ (∀ x ∈ l, ∀ d ∈ seen, underB x.path d = false) ∧ l.Pairwise fun a b => underB b.path a.path = false
  | p, seen, [] => by simp [filesE, Asc]
  | p, seen, x :: l => by
    unfold filesE
    by_cases h1 : fileErr x = 0
    · rw [if_neg (by simp [h1])]
      by_cases h2 : ordB p x.path = true
      · rw [if_pos h2]
        refine ⟨fun h => by omega, fun h => ?_⟩
        have : ordB p x.path = false := ordB_no.2 fun q hq => h.2.2.1 q hq x (List.mem_cons_self ..)
        rw [this] at h2; cases h2
      · rw [if_neg h2]
        have h2 := ordB_no.1 (by simpa using h2)
        by_cases h3 : clash seen x.path = true
        · rw [if_pos h3]
          refine ⟨fun h => by omega, fun h => ?_⟩
          have : clash seen x.path = false := clash_no.2 fun d hd => h.2.2.2.1 x (List.mem_cons_self ..) d hd
          rw [this] at h3; cases h3
        rw [if_neg h3, filesE_zero (some x.path) (x.path :: seen) l]
        have h3 := clash_no.1 (by simpa using h3)
        constructor
        · rintro ⟨a, b, c, d, e⟩
          refine ⟨fun y hy => ?_, List.pairwise_cons.2 ⟨c _ rfl, b⟩, fun q hq y hy => ?_, fun y hy z hz => ?_, List.pairwise_cons.2 ⟨fun y hy => d y hy _ (List.mem_cons_self ..), e⟩⟩
          · rcases List.mem_cons.1 hy with rfl | hy
            · exact h1
            · exact a y hy
          · rcases List.mem_cons.1 hy with rfl | hy
            · exact h2 q hq
            · exact lt_tr (h2 q hq) (c _ rfl y hy)
          · rcases List.mem_cons.1 hy with rfl | hy
            · exact h3 z hz
            · exact d y hy z (List.mem_cons_of_mem _ hz)
        · rintro ⟨a, b, c, d, e⟩
          obtain ⟨b1, b2⟩ := List.pairwise_cons.1 b
          obtain ⟨e1, e2⟩ := List.pairwise_cons.1 e
          refine ⟨fun y hy => a y (List.mem_cons_of_mem _ hy), b2, fun q hq y hy => by cases hq; exact b1 y hy, fun y hy z hz => ?_, e2⟩
          rcases List.mem_cons.1 hz with rfl | hz
          · exact e1 y hy
          · exact d y (List.mem_cons_of_mem _ hy) z hz
    · rw [if_pos h1]
      exact ⟨fun h => absurd h h1, fun h => absurd (h.1 x (List.mem_cons_self ..)) h1⟩
/-- A right machine. -/
structure MacOK (m : MacV) : Prop where
  l1 : m.facts.length ≤ 100
  l2 : m.files.length ≤ 2000
  l3 : m.sets.length ≤ 2000
  l4 : m.svcs.length ≤ 100
  e1 : ∀ x ∈ m.facts, factErr x = 0
  a1 : Asc (·.key) m.facts
  e2 : ∀ x ∈ m.files, fileErr x = 0
  a2 : Asc (·.path) m.files
  ap : Apart m.files
  e3 : ∀ x ∈ m.sets, setErr x = 0
  a3 : Asc (·.key) m.sets
  e4 : ∀ x ∈ m.svcs, svcErr x = 0
  a4 : Asc (·.name) m.svcs
theorem apart_of {l : List FileV} (h : Asc (·.path) l) (h2 : l.Pairwise fun a b => underB b.path a.path = false) : Apart l := by
  intro x hx y hy
  obtain ⟨i, hi, rfl⟩ := List.mem_iff_getElem.1 hx
  obtain ⟨j, hj, rfl⟩ := List.mem_iff_getElem.1 hy
  rcases Nat.lt_trichotomy i j with t | t | t
  · cases hh : underB (l[i]).path (l[j]).path with
    | false => rfl
    | true =>
      have a := under_lt hh
      have b := List.pairwise_iff_getElem.1 h i j hi hj t
      have c := lt_tr a b
      simp only at c
      rw [lt_irr] at c; cases c
  · subst t; exact under_self _
  · exact List.pairwise_iff_getElem.1 h2 j i hj hi t
theorem apart_pw {l : List FileV} (h : Apart l) : l.Pairwise fun a b => underB b.path a.path = false :=
  List.pairwise_iff_getElem.2 fun i j hi hj _ => h _ (List.getElem_mem hj) _ (List.getElem_mem hi)
theorem macErr_ok (m : MacV) : macErr m = 0 ↔ MacOK m := by
  unfold macErr
  by_cases h0 : 100 < m.facts.length ∨ 2000 < m.files.length ∨ 2000 < m.sets.length ∨ 100 < m.svcs.length
  · rw [if_pos h0]
    exact ⟨fun h => by omega, fun h => by have := h.l1; have := h.l2; have := h.l3; have := h.l4; omega⟩
  rw [if_neg h0]
  by_cases h1 : eachE factErr (·.key) none m.facts = 0
  · rw [if_neg (by simp [h1])]
    by_cases h2 : filesE none [] m.files = 0
    · rw [if_neg (by simp [h2])]
      by_cases h3 : eachE setErr (·.key) none m.sets = 0
      · rw [if_neg (by simp [h3])]
        rw [eachE_zero] at h1 h3 ⊢
        rw [filesE_zero] at h2
        constructor
        · rintro h4
          exact ⟨by omega, by omega, by omega, by omega, h1.1, h1.2.1, h2.1, h2.2.1, apart_of h2.2.1 h2.2.2.2.2, h3.1, h3.2.1, h4.1, h4.2.1⟩
        · intro h
          exact ⟨h.e4, h.a4, by simp⟩
      · rw [if_pos h3]
        exact ⟨fun h => absurd h h3, fun h => absurd (eachE_zero _ _ |>.2 ⟨h.e3, h.a3, by simp⟩) h3⟩
    · rw [if_pos h2]
      exact ⟨fun h => absurd h h2, fun h => absurd (filesE_zero _ _ _ |>.2 ⟨h.e2, h.a2, by simp, by simp, apart_pw h.ap⟩) h2⟩
  · rw [if_pos h1]
    exact ⟨fun h => absurd h h1, fun h => absurd (eachE_zero _ _ |>.2 ⟨h.e1, h.a1, by simp⟩) h1⟩
section
variable {α : Type} {key : α → Bytes}
theorem delK_len (k : Bytes) (l : List α) : (delK key k l).length ≤ l.length := List.length_filter_le _ _
theorem delK_mem {k : Bytes} {l : List α} {x : α} (h : x ∈ delK key k l) : x ∈ l := (List.mem_filter.1 h).1
theorem putK_len {x : α} : ∀ {l : List α}, Asc key l → (putK key x l).length = if (getK key (key x) l).isNone then l.length + 1 else l.length
  | [], _ => rfl
  | y :: l, h => by
    obtain ⟨h1, h2⟩ := List.pairwise_cons.1 h
    unfold putK getK
    split
    · rename_i c
      have : (y :: l).find? (fun z => decide (key z = key x)) = none := by
        rw [List.find?_eq_none]
        intro z hz
        simp only [decide_eq_true_eq]
        intro e
        have : strLt (key x) (key z) = true := by
          rcases List.mem_cons.1 hz with rfl | hz
          · exact c
          · exact lt_tr c (h1 z hz)
        rw [e, lt_irr] at this; cases this
      rw [this]; rfl
    split
    · rename_i c e
      rw [List.find?_cons, decide_eq_true e.symm]
      rfl
    · rename_i c e
      rw [List.find?_cons, decide_eq_false (fun h => e h.symm), List.length_cons, putK_len h2]
      unfold getK
      split <;> simp [*]
end
theorem doV_ok {m n : MacV} {c : ChgV} (h : MacOK m) (hd : doV m c = .ok n) : MacOK n := by
  unfold doV at hd
  split at hd
  · cases hd
  rename_i hc
  have hc : chgErr c = 0 := by simpa using hc
  have hk : ¬ (c.kind < 1 ∨ 6 < c.kind) := fun hk => by unfold chgErr at hc; rw [if_pos hk] at hc; cases hc
  have hp : partErr c = 0 := by
    unfold chgErr at hc
    rw [if_neg hk] at hc
    split at hc
    · assumption
    · rename_i h; simpa using h
  obtain ⟨l1, l2, l3, l4, e1, a1, e2, a2, ap, e3, a3, e4, a4⟩ := h
  split at hd
  · split at hd
    · cases hd
      exact ⟨l1, Nat.le_trans (delK_len _ _) l2, l3, l4, e1, a1, fun x hx => e2 x (delK_mem hx), a2.del _, fun x hx y hy => ap x (delK_mem hx) y (delK_mem hy), e3, a3, e4, a4⟩
    · cases hd
  split at hd
  · split at hd
    · cases hd
      exact ⟨l1, l2, Nat.le_trans (delK_len _ _) l3, l4, e1, a1, e2, a2, ap, fun x hx => e3 x (delK_mem hx), a3.del _, e4, a4⟩
    · cases hd
  split at hd
  · split at hd
    · cases hd
      exact ⟨l1, l2, l3, Nat.le_trans (delK_len _ _) l4, e1, a1, e2, a2, ap, e3, a3, fun x hx => e4 x (delK_mem hx), a4.del _⟩
    · cases hd
  split at hd
  · rename_i k1
    have hp : fileErr c.file = 0 := by unfold partErr at hp; rw [if_pos k1] at hp; exact hp
    split at hd
    · cases hd
    rename_i hcf
    have hcf : ∀ f ∈ m.files, underB f.path c.file.path = false ∧ underB c.file.path f.path = false := by
      intro f hf
      have hcf : conflictV m.files c.file.path = false := by simpa using hcf
      have := List.any_eq_false.1 hcf f hf
      simpa using this
    split at hd
    · cases hd
    rename_i hl
    cases hd
    refine ⟨l1, ?_, l3, l4, e1, a1, fun x hx => ?_, a2.put, fun x hx y hy => ?_, e3, a3, e4, a4⟩
    · show (putK (·.path) c.file m.files).length ≤ 2000
      rw [putK_len a2]
      split
      · rename_i g
        have : ¬ 2000 ≤ m.files.length := fun h => hl ⟨g, h⟩
        omega
      · exact l2
    · rcases putK_mem hx with rfl | hx
      · exact hp
      · exact e2 x hx
    · rcases putK_mem hx with rfl | hx <;> rcases putK_mem hy with rfl | hy
      · exact under_self _
      · exact (hcf y hy).2
      · exact (hcf x hx).1
      · exact ap x hx y hy
  split at hd
  · rename_i k1 k3
    have hp : setErr c.set = 0 := by unfold partErr at hp; rw [if_neg k1, if_neg (by omega), if_pos k3] at hp; exact hp
    split at hd
    · cases hd
    rename_i hl
    cases hd
    refine ⟨l1, l2, ?_, l4, e1, a1, e2, a2, ap, fun x hx => ?_, a3.put, e4, a4⟩
    · show (putK (·.key) c.set m.sets).length ≤ 2000
      rw [putK_len a3]
      split
      · rename_i g
        have : ¬ 2000 ≤ m.sets.length := fun h => hl ⟨g, h⟩
        omega
      · exact l3
    · rcases putK_mem hx with rfl | hx
      · exact hp
      · exact e3 x hx
  · rename_i k2 k4 k6 k1 k3
    have k5 : c.kind = 5 := by omega
    have hp : svcErr c.svc = 0 := by unfold partErr at hp; rw [if_neg k1, if_neg k2, if_neg k3, if_neg k4, if_pos k5] at hp; exact hp
    split at hd
    · cases hd
    rename_i hl
    cases hd
    refine ⟨l1, l2, l3, ?_, e1, a1, e2, a2, ap, e3, a3, fun x hx => ?_, a4.put⟩
    · show (putK (·.name) c.svc m.svcs).length ≤ 100
      rw [putK_len a4]
      split
      · rename_i g
        have : ¬ 100 ≤ m.svcs.length := fun h => hl ⟨g, h⟩
        omega
      · exact l4
    · rcases putK_mem hx with rfl | hx
      · exact hp
      · exact e4 x hx
theorem doV_err {m : MacV} {c : ChgV} {e : Int} (h : doV m c = .error e) : ¬ e = 0 := by
  unfold doV at h
  repeat' split at h
  all_goals first | (cases h; done) | (cases h; assumption) | (cases h; omega)
theorem doAll_ok : ∀ {l : List ChgV} {m n : MacV}, MacOK m → doAll m l = .ok n → MacOK n
  | [], m, n, h, hd => by cases hd; exact h
  | c :: l, m, n, h, hd => by
    unfold doAll at hd
    split at hd
    · rename_i k hk
      exact doAll_ok (doV_ok h hk) hd
    · cases hd
end Go.Proofs

/- Disks: plain Lean, no program. -/
namespace Go.Proofs
open Go Go.Abs
set_option linter.unusedSimpArgs false
set_option linter.unusedVariables false
/-- A machine that was switched on. -/
def bootS (s : SvcV) : SvcV := { s with on := s.auto }
def bootV (m : MacV) : MacV := { m with svcs := m.svcs.map bootS }
theorem bootV_ok {m : MacV} (h : MacOK m) : MacOK (bootV m) := by
  obtain ⟨l1, l2, l3, l4, e1, a1, e2, a2, ap, e3, a3, e4, a4⟩ := h
  refine ⟨l1, l2, l3, by simpa [bootV] using l4, e1, a1, e2, a2, ap, e3, a3, fun x hx => ?_, ?_⟩
  · obtain ⟨y, hy, rfl⟩ := List.mem_map.1 hx
    exact e4 y hy
  · show Asc (·.name) (m.svcs.map bootS)
    unfold Asc at a4 ⊢
    rw [List.pairwise_map]
    exact a4
structure DkV where
  m : MacV
  off : Bool
  cut : Bool
  torn : Bool
  after : Int
  writes : Int
/-- Both disks hold the same. -/
structure Eqv (D E : DkV) : Prop where
  m : E.m = D.m
  off : E.off = D.off
  cut : E.cut = D.cut
  torn : E.torn = D.torn
  writes : E.writes = D.writes
  after : D.cut = true → E.after = D.after
/-- What a disk is, behind so many steps. -/
structure DkOK (n : Nat) (D : DkV) : Prop where
  m : MacOK D.m
  off : D.off = true → D.cut = false
  a : -(n : Int) ≤ D.after ∧ D.after ≤ 1000000
  w : 0 ≤ D.writes ∧ D.writes ≤ n
end Go.Proofs

/- Strings as elements; tests of signs and strings. -/
namespace Go.Proofs
open Go Go.Abs
set_option linter.unusedSimpArgs false
set_option linter.unusedVariables false
/-- Lengths that may be. -/
abbrev Room : Nat := 1099511627776
def encBs (s : Bytes) : List AV := [.str s]
theorem pu0_ok : PuOK Tryz.prog pu0 := PuOK.zero
def sByte (p : Int → Bool) : List AV → Option AV := fn1 (.int .u8) fun c => some (.bool (p c))
theorem sByte_eq (p : Int → Bool) (c : Int) : sByte p [.int .u8 c] = some (.bool (p c)) := rfl
def sStr (p : Bytes → Bool) : List AV → Option AV := fn1 .str fun s => if s.length ≤ Room then some (.bool (p s)) else none
theorem sStr_eq (p : Bytes → Bool) (s : Bytes) : sStr p [.str s] = if s.length ≤ Room then some (.bool (p s)) else none := rfl
theorem sByte_ok {P : Program} {f : FuncId} {p : Int → Bool} (h : ∀ c H, ACalls P f [.int .u8 c] H fun x H' => x = .bool (p c) ∧ H' = H) : ∀ xs v, sByte p xs = some v → ∀ H, ACalls P f xs H fun x H' => x = v ∧ H' = H := by
  intro xs v hv H
  obtain ⟨x, c, rfl, h1, h2⟩ := fn1_some hv
  cases h2
  cases Rd.int_some h1
  exact h c H
theorem sStr_ok {P : Program} {f : FuncId} {p : Bytes → Bool} (h : ∀ s H, s.length ≤ Room → ACalls P f [.str s] H fun x H' => x = .bool (p s) ∧ H' = H) : ∀ xs v, sStr p xs = some v → ∀ H, ACalls P f xs H fun x H' => x = v ∧ H' = H := by
  intro xs v hv H
  obtain ⟨x, s, rfl, h1, h2⟩ := fn1_some hv
  split at h2
  · cases h2
    cases Rd.str_some h1
    exact h s H ‹_›
  · cases h2
end Go.Proofs
