/-
  Walks and plain laws, part 1.
-/
import Derived.Lib.Bytealg
import Derived.Test.YtejjfogjhjmkbaaDoorAbs4
import Derived.Test.YtejjfogjhjmkbaaDoorTy
import Derived.IntWalk
/- What strings are cut into; signs and names: plain Lean, no program. -/
namespace Go.Proofs
set_option linter.unusedSimpArgs false
set_option linter.unusedVariables false
abbrev Bytes := List UInt8
def splitB (c : UInt8) : Bytes → List Bytes
  | [] => [[]]
  | b :: l => if b = c then [] :: splitB c l else
    match splitB c l with
    | h :: t => (b :: h) :: t
    | [] => [[b]]
theorem splitB_ne (c : UInt8) (l : Bytes) : splitB c l ≠ [] := by
  cases l with
  | nil => simp [splitB]
  | cons b l =>
    unfold splitB
    split
    · simp
    · split <;> simp
theorem splitB_none {c : UInt8} : ∀ {l : Bytes}, l.count c = 0 → splitB c l = [l]
  | [], _ => rfl
  | b :: l, h => by
    rw [List.count_cons] at h
    have hb : ¬ b = c := by intro e; subst e; simp at h
    have hl : l.count c = 0 := by omega
    unfold splitB
    rw [if_neg hb, splitB_none hl]
theorem indexByte_none {c : UInt8} : ∀ {l : Bytes}, Lib.indexByte l c = -1 ↔ l.count c = 0
  | [] => by simp [Lib.indexByte]
  | b :: l => by
    have ih := indexByte_none (c := c) (l := l)
    have hge := Lib.indexByte_ge l c
    unfold Lib.indexByte
    rw [List.count_cons]
    by_cases hb : (b == c) = true
    · rw [if_pos hb, if_pos hb]; omega
    · rw [if_neg hb, if_neg hb]
      by_cases h2 : Lib.indexByte l c = -1
      · simp [h2, ih.1 h2]
      · have : ¬ l.count c = 0 := fun e => h2 (ih.2 e)
        have hb2 : (Lib.indexByte l c == -1) = false := by simpa using h2
        rw [hb2]
        simp only [Bool.false_eq_true, if_false]
        omega
theorem indexByte_some {c : UInt8} : ∀ {l : Bytes} {m : Nat}, Lib.indexByte l c = (m : Int) → m < l.length ∧ splitB c l = l.take m :: splitB c (l.drop (m + 1)) ∧ l.count c = (l.drop (m + 1)).count c + 1
  | [], m, h => by simp [Lib.indexByte] at h
  | b :: l, m, h => by
    unfold Lib.indexByte at h
    by_cases hb : (b == c) = true
    · rw [if_pos hb] at h
      have : m = 0 := by omega
      subst this
      have hb' : b = c := by simpa using hb
      subst hb'
      refine ⟨by simp, by simp [splitB], by simp⟩
    · rw [if_neg hb] at h
      have hge := Lib.indexByte_ge l c
      by_cases h2 : Lib.indexByte l c = -1
      · rw [h2] at h; simp at h
      · have hb2 : (Lib.indexByte l c == -1) = false := by simpa using h2
        rw [hb2] at h
        simp only [Bool.false_eq_true, if_false] at h
        obtain ⟨k, rfl⟩ : ∃ k, m = k + 1 := ⟨m - 1, by omega⟩
        obtain ⟨i1, i2, i3⟩ := indexByte_some (c := c) (l := l) (m := k) (by omega)
        have hb' : ¬ b = c := by simpa using hb
        refine ⟨by simp; omega, ?_, ?_⟩
        · rw [splitB, if_neg hb', i2]; simp
        · rw [List.count_cons, if_neg hb, i3]; simp
theorem splitB_len {c : UInt8} : ∀ (l : Bytes), (splitB c l).length = l.count c + 1
  | [] => by simp [splitB]
  | b :: l => by
    have ih := splitB_len (c := c) l
    unfold splitB
    rw [List.count_cons]
    by_cases hb : b = c
    · simp [hb, ih]
    · simp only [hb, if_false, beq_iff_eq]
      cases hs : splitB c l with
      | nil => exact absurd hs (splitB_ne c l)
      | cons h t => rw [hs] at ih; simpa using ih
/-- Each part of a text is no longer than it. -/
theorem splitB_mem {c : UInt8} : ∀ (l : Bytes), ∀ p ∈ splitB c l, p.length ≤ l.length
  | [], p, h => by simp [splitB] at h; simp [h]
  | b :: l, p, h => by
    have ih := splitB_mem (c := c) l
    unfold splitB at h
    split at h
    · rcases List.mem_cons.1 h with rfl | h
      · simp
      · have := ih p h; simp; omega
    · split at h
      · rename_i hd t hs
        rw [hs] at ih
        rcases List.mem_cons.1 h with rfl | h
        · have := ih hd (by simp); simp; omega
        · have := ih p (by simp [h]); simp; omega
      · rename_i hs; exact absurd hs (splitB_ne c l)
end Go.Proofs

/- Signs, names, paths, values: plain Lean, no program. -/
namespace Go.Proofs
set_option linter.unusedSimpArgs false
set_option linter.unusedVariables false
def isSm (c : Int) : Bool := decide (97 ≤ c) && decide (c ≤ 122)
def isDg (c : Int) : Bool := decide (48 ≤ c) && decide (c ≤ 57)
def isNm (c : Int) : Bool := isSm c || isDg c || decide (c = 45) || decide (c = 46)
def isPt (c : Int) : Bool := isSm c || (decide (65 ≤ c) && decide (c ≤ 90)) || isDg c || decide (c = 45) || decide (c = 46) || decide (c = 95)
def isVl (c : Int) : Bool := decide (32 ≤ c) && decide (c ≤ 126)
def isHx (c : Int) : Bool := (decide (48 ≤ c) && decide (c ≤ 57)) || (decide (97 ≤ c) && decide (c ≤ 102))
def allB (p : Int → Bool) (s : Bytes) : Bool := s.all fun b => p (b.toNat : Int)
def sEach (p : Int → Bool) (s : Bytes) (most : Int) : Bool := allB p s && decide (s ≠ []) && decide ((s.length : Int) ≤ most)
def nameB (s : Bytes) : Bool := sEach isNm s 40 && isSm ((s.headD 0).toNat : Int)
def partB (s : Bytes) : Bool := sEach isPt s 40 && decide (s ≠ [46]) && decide (s ≠ [46, 46])
def pathB (s : Bytes) : Bool := (splitB 47 s).all partB && decide ((s.length : Int) ≤ 200)
def valueB (s : Bytes) : Bool := decide (s = []) || sEach isVl s 1000
def sumB (s : Bytes) : Bool := allB isHx s && decide ((s.length : Int) = 16)
theorem allB_succ {p : Int → Bool} {s : Bytes} {i : Nat} {c : UInt8} (h : allB p (s.take i) = true) (hc : s[i]? = some c) (hp : p (c.toNat : Int) = true) : allB p (s.take (i + 1)) = true := by
  unfold allB at *
  rw [List.take_add_one, hc]
  simp [List.all_append, h, hp]
theorem allB_false {p : Int → Bool} {s : Bytes} {i : Nat} {c : UInt8} (hc : s[i]? = some c) (hp : p (c.toNat : Int) = false) : allB p s = false := by
  unfold allB
  rw [List.all_eq_false]
  exact ⟨c, List.mem_of_getElem? hc, by simp [hp]⟩
theorem sEach_false {p : Int → Bool} {s : Bytes} {i : Nat} {c : UInt8} {n : Int} (hc : s[i]? = some c) (hp : p (c.toNat : Int) = false) : sEach p s n = false := by
  unfold sEach; rw [allB_false hc hp]; simp
theorem head_of {s : Bytes} {c : UInt8} (h : s[0]? = some c) : s.headD 0 = c := by
  cases s with
  | nil => cases h
  | cons b l => simpa using h
theorem not_nil_of {s : Bytes} {i : Nat} {c : UInt8} (h : s[i]? = some c) : s ≠ [] := by rintro rfl; simp at h
end Go.Proofs

/- The sum of a text: plain Lean, no program. -/
namespace Go.Proofs
open Go Go.Abs
set_option linter.unusedSimpArgs false
set_option linter.unusedVariables false
/-- The digit of a number below 16. -/
def dig (n : Nat) : UInt8 := ([48, 49, 50, 51, 52, 53, 54, 55, 56, 57, 97, 98, 99, 100, 101, 102] : List UInt8).getD n 0
/-- So many digits of a number. -/
def hexPad : Nat → Nat → Bytes
  | 0, _ => []
  | k + 1, n => hexPad k (n / 16) ++ [dig (n % 16)]
def hexMin (n : Nat) : Bytes := if h : n < 16 then [dig n] else hexMin (n / 16) ++ [dig (n % 16)]
termination_by n
decreasing_by omega
theorem hexMin_small {n : Nat} (h : n < 16) : hexMin n = [dig n] := by rw [hexMin, dif_pos h]
theorem hexMin_big {n : Nat} (h : ¬ n < 16) : hexMin n = hexMin (n / 16) ++ [dig (n % 16)] := by rw [hexMin, dif_neg h]
theorem hexPad_zero : ∀ k, hexPad k 0 = List.replicate k 48
  | 0 => rfl
  | k + 1 => by
    rw [hexPad, show 0 / 16 = 0 from rfl, hexPad_zero k, List.replicate_succ']
    rfl
theorem hexPad_len : ∀ k n, (hexPad k n).length = k
  | 0, _ => rfl
  | k + 1, n => by simp [hexPad, hexPad_len k]
theorem hexMin_pad : ∀ (k n : Nat), n < 16 ^ (k + 1) → (hexMin n).length ≤ k + 1 ∧ hexPad (k + 1) n = List.replicate (k + 1 - (hexMin n).length) 48 ++ hexMin n := by
  intro k
  induction k with
  | zero =>
    intro n h
    have h : n < 16 := by simpa using h
    rw [hexMin_small h, hexPad, hexPad]
    simp [Nat.mod_eq_of_lt h]
  | succ k ih =>
    intro n h
    by_cases hn : n < 16
    · rw [hexMin_small hn, hexPad, show n / 16 = 0 from by omega, hexPad_zero, Nat.mod_eq_of_lt hn]
      simp
    · have hd : n / 16 < 16 ^ (k + 1) := by
        rw [Nat.div_lt_iff_lt_mul (by omega)]
        have : 16 ^ (k + 1 + 1) = 16 ^ (k + 1) * 16 := Nat.pow_succ ..
        omega
      obtain ⟨i1, i2⟩ := ih (n / 16) hd
      rw [hexMin_big hn, hexPad, i2]
      refine ⟨by simp; omega, ?_⟩
      rw [← List.append_assoc]
      congr 3
      simp
theorem hexPad_get : ∀ (k n i : Nat), i < k → (hexPad k n)[i]? = some (dig (n / 16 ^ (k - 1 - i) % 16))
  | 0, _, _, h => by omega
  | k + 1, n, i, h => by
    rw [hexPad]
    by_cases hi : i < k
    · rw [List.getElem?_append_left (by rw [hexPad_len]; exact hi), hexPad_get k _ i hi]
      have e : k + 1 - 1 - i = (k - 1 - i) + 1 := by omega
      rw [e, Nat.pow_succ, Nat.mul_comm, Nat.div_div_eq_div_mul]
    · have e : i = k := by omega
      subst e
      rw [List.getElem?_append_right (by rw [hexPad_len]; omega), hexPad_len]
      simp
theorem pow16 : ∀ i, i < 16 → 16 ^ (16 - 1 - i) = 2 ^ (60 - 4 * i) := by decide
theorem hexPad_get2 (n i : Nat) (h : i < 16) : (hexPad 16 n)[i]? = some (dig (n / 2 ^ (60 - 4 * i) % 16)) := by
  rw [← pow16 i h]; exact hexPad_get 16 n i h
/-- One step of the sum, as the machine takes it. -/
def fnvStep (h : Int) (c : UInt8) : Int := IntKind.u64.wrap (xorI .u64 h (c.toNat : Int) * 1099511628211)
def fnv (s : Bytes) : Int := s.foldl fnvStep 14695981039346656037
theorem fnv_succ {s : Bytes} {i : Nat} {c : UInt8} (hc : s[i]? = some c) : fnv (s.take (i + 1)) = fnvStep (fnv (s.take i)) c := by
  unfold fnv
  rw [List.take_add_one, hc]
  simp
theorem u64_range (n : Int) : 0 ≤ IntKind.u64.wrap n ∧ IntKind.u64.wrap n < 18446744073709551616 := by
  have h1 : IntKind.u64.wrap n = n % 18446744073709551616 := by
    unfold IntKind.wrap
    simp [IntKind.signed, IntKind.bits]
  rw [h1]; omega
theorem fnvStep_range (h : Int) (c : UInt8) : 0 ≤ fnvStep h c ∧ fnvStep h c < 18446744073709551616 := u64_range _
theorem foldl_range (s : Bytes) : ∀ h : Int, 0 ≤ h ∧ h < 18446744073709551616 → 0 ≤ s.foldl fnvStep h ∧ s.foldl fnvStep h < 18446744073709551616 := by
  induction s with
  | nil => intro h hh; exact hh
  | cons c s ih => intro h _; exact ih _ (fnvStep_range _ _)
theorem fnv_range (s : Bytes) : 0 ≤ fnv s ∧ fnv s < 18446744073709551616 := foldl_range s _ (by omega)
def fnvN (s : Bytes) : Nat := (fnv s).toNat
theorem fnvN_eq (s : Bytes) : fnv s = (fnvN s : Int) := by have := fnv_range s; unfold fnvN; omega
theorem fnvN_lt (s : Bytes) : fnvN s < 18446744073709551616 := by have := fnv_range s; unfold fnvN; omega
def sumOf (s : Bytes) : Bytes := hexPad 16 (fnvN s)
theorem sumOf_len (s : Bytes) : (sumOf s).length = 16 := hexPad_len _ _
theorem u64_byte (c : UInt8) : IntKind.u64.wrap (c.toNat : Int) = (c.toNat : Int) := Go.IntWalk.u64_in _ (by have := c.toNat_lt; omega)
theorem i64_byte (c : UInt8) : IntKind.i64.wrap (c.toNat : Int) = (c.toNat : Int) := Go.IntWalk.i64_in _ (by have := c.toNat_lt; omega)
theorem and15 (n : Nat) (h : n < 18446744073709551616) : andI .u64 (n : Int) 15 = ((n % 16 : Nat) : Int) := by
  have e : (BitVec.ofInt IntKind.u64.bits (n : Int) &&& BitVec.ofInt IntKind.u64.bits 15).toNat = n % 16 := by
    show (BitVec.ofInt 64 (n : Int) &&& BitVec.ofInt 64 ((15 : Nat) : Int)).toNat = n % 16
    rw [BitVec.ofInt_natCast, BitVec.ofInt_natCast, BitVec.toNat_and]
    simp only [BitVec.toNat_ofNat]
    rw [Nat.mod_eq_of_lt (show n < 2 ^ 64 by simpa using h), Nat.mod_eq_of_lt (show 15 < 2 ^ 64 by decide)]
    exact Nat.and_two_pow_sub_one_eq_mod n 4
  unfold andI
  rw [e]
  exact Go.IntWalk.u64_in _ (by omega)
theorem shrN (n b : Nat) (z : Int) (hz : z = b) (h : b ≤ 64) : shrI .u64 (n : Int) z = ((n / 2 ^ b : Nat) : Int) := by
  subst hz
  unfold shrI
  have e : min (b : Int).toNat IntKind.u64.bits = b := Nat.min_eq_left h
  rw [e, show ((2 : Int) ^ b) = ((2 ^ b : Nat) : Int) from by simp, Int.fdiv_eq_ediv_of_nonneg _ (Int.natCast_nonneg _)]
  rfl
theorem dig_get (m : Nat) (h : m < 16) : ([48, 49, 50, 51, 52, 53, 54, 55, 56, 57, 97, 98, 99, 100, 101, 102] : List UInt8)[m]? = some (dig m) := by
  unfold dig
  rw [List.getD]
  cases hh : ([48, 49, 50, 51, 52, 53, 54, 55, 56, 57, 97, 98, 99, 100, 101, 102] : List UInt8)[m]? with
  | none => rw [List.getElem?_eq_none_iff] at hh; simp at hh; omega
  | some v => rfl
theorem dig_get36 (m : Nat) (h : m < 16) : ([48, 49, 50, 51, 52, 53, 54, 55, 56, 57, 97, 98, 99, 100, 101, 102, 103, 104, 105, 106, 107, 108, 109, 110, 111, 112, 113, 114, 115, 116, 117, 118, 119, 120, 121, 122] : List UInt8)[m]? = some (dig m) := by
  rw [← dig_get m h]
  have : ([48, 49, 50, 51, 52, 53, 54, 55, 56, 57, 97, 98, 99, 100, 101, 102, 103, 104, 105, 106, 107, 108, 109, 110, 111, 112, 113, 114, 115, 116, 117, 118, 119, 120, 121, 122] : List UInt8) = [48, 49, 50, 51, 52, 53, 54, 55, 56, 57, 97, 98, 99, 100, 101, 102] ++ [103, 104, 105, 106, 107, 108, 109, 110, 111, 112, 113, 114, 115, 116, 117, 118, 119, 120, 121, 122] := rfl
  rw [this, List.getElem?_append_left (by simpa using h)]
theorem and32 (n : Nat) (h : n < 4294967296) : andI .u64 (n : Int) 4294967295 = (n : Int) := by
  have e : (BitVec.ofInt IntKind.u64.bits (n : Int) &&& BitVec.ofInt IntKind.u64.bits 4294967295).toNat = n := by
    show (BitVec.ofInt 64 (n : Int) &&& BitVec.ofInt 64 ((4294967295 : Nat) : Int)).toNat = n
    rw [BitVec.ofInt_natCast, BitVec.ofInt_natCast, BitVec.toNat_and]
    simp only [BitVec.toNat_ofNat]
    rw [Nat.mod_eq_of_lt (show n < 2 ^ 64 by simp; omega), Nat.mod_eq_of_lt (show 4294967295 < 2 ^ 64 by decide)]
    exact (Nat.and_two_pow_sub_one_eq_mod n 32).trans (Nat.mod_eq_of_lt h)
  unfold andI
  rw [e]
  exact Go.IntWalk.u64_in _ (by omega)
theorem shr32 (n : Nat) (h : n < 4294967296) : shrI .u64 (n : Int) 32 = 0 := by
  rw [shrN n 32 32 rfl (by omega), Nat.div_eq_of_lt (by simpa using h)]; rfl
end Go.Proofs

/- Pieces and deltas: plain Lean, no program. -/
namespace Go.Proofs
open Go Go.Abs
set_option linter.unusedSimpArgs false
set_option linter.unusedVariables false
structure PieceV where
  at_ : Int
  long : Int
  data : Bytes
  deriving DecidableEq
structure DeltaV where
  old : Int
  new : Int
  osum : Bytes
  nsum : Bytes
  ps : List PieceV
  deriving DecidableEq
def encPc (p : PieceV) : List AV := [.int .i64 p.at_, .int .i64 p.long, .str p.data]
def decPc : List AV → Option PieceV
  | [.int .i64 a, .int .i64 b, .str c] => some ⟨a, b, c⟩
  | _ => none
theorem decPc_enc (p : PieceV) : decPc (encPc p) = some p := rfl
theorem decPc_some {c : List AV} {p : PieceV} (h : decPc c = some p) : c = encPc p := by
  unfold decPc at h; split at h
  · cases h; rfl
  · cases h
def inI (n : Int) : Prop := -9223372036854775808 ≤ n ∧ n ≤ 9223372036854775807
instance (n : Int) : Decidable (inI n) := inferInstanceAs (Decidable (_ ∧ _))
def pcR (p : PieceV) : Prop := inI p.at_ ∧ inI p.long ∧ p.data.length ≤ 4194304
instance (p : PieceV) : Decidable (pcR p) := inferInstanceAs (Decidable (_ ∧ _ ∧ _))
/-- The first that is not 0. -/
def fst0 : List Int → Int
  | [] => 0
  | e :: l => if e = 0 then fst0 l else e
theorem fst0_at {l : List Int} {i : Nat} {e : Int} (h : fst0 (l.take i) = 0) (he : l[i]? = some e) (hne : e ≠ 0) : fst0 l = e := by
  induction l generalizing i with
  | nil => simp at he
  | cons d l ih =>
    cases i with
    | zero => simp at he; subst he; simp [fst0, hne]
    | succ i =>
      simp only [List.take_succ_cons, fst0] at h
      split at h
      · rename_i hd; simp only [fst0, hd, if_true]; exact ih h (by simpa using he)
      · exact absurd h ‹_›
theorem fst0_succ {l : List Int} {i : Nat} {e : Int} (h : fst0 (l.take i) = 0) (he : l[i]? = some e) (h0 : e = 0) : fst0 (l.take (i + 1)) = 0 := by
  induction l generalizing i with
  | nil => simp at he
  | cons d l ih =>
    cases i with
    | zero => simp at he; subst he; simp [fst0, h0]
    | succ i =>
      simp only [List.take_succ_cons, fst0] at h ⊢
      split at h
      · rename_i hd; simp only [hd, if_true]; exact ih h (by simpa using he)
      · exact absurd h ‹_›
def pcE (old : Int) (p : PieceV) : Int :=
  if p.data ≠ [] then (if p.at_ ≠ 0 ∨ p.long ≠ 0 then 2 else 0) else if p.at_ < 0 ∨ p.long < 1 ∨ old < p.long ∨ old - p.long < p.at_ then 3 else 0
def pcSize (p : PieceV) : Int := if p.data ≠ [] then p.data.length else p.long
def pcSum (l : List PieceV) : Int := (l.map pcSize).sum
def stepsV (l : List PieceV) (old : Int) : Int × Int :=
  if old < 0 ∨ 65536 < old then (0, 3) else if (5000 : Int) < l.length then (0, 4) else
  if fst0 (l.map (pcE old)) ≠ 0 then (0, fst0 (l.map (pcE old))) else if 65536 < pcSum l then (0, 4) else (pcSum l, 0)
theorem pcSum_succ {l : List PieceV} {i : Nat} {p : PieceV} (h : l[i]? = some p) : pcSum (l.take (i + 1)) = pcSum (l.take i) + pcSize p := by
  unfold pcSum
  rw [List.take_add_one, h]
  simp
/-- A right piece makes no more than this. -/
theorem pcSize_ok {old : Int} {p : PieceV} (hr : pcR p) (ho : old ≤ 65536) (h : pcE old p = 0) : 0 ≤ pcSize p ∧ pcSize p ≤ 4194304 := by
  obtain ⟨h1, h2, h3⟩ := hr
  unfold pcE at h
  unfold pcSize
  split at h
  · rename_i hd
    rw [if_pos hd]; omega
  · rename_i hd
    rw [if_neg hd]
    split at h
    · omega
    · omega
theorem stepsV_range {l : List PieceV} {old : Int} : 0 ≤ (stepsV l old).2 ∧ (stepsV l old).2 ≤ 4 := by
  have : ∀ l : List Int, (∀ e ∈ l, e = 0 ∨ e = 2 ∨ e = 3) → 0 ≤ fst0 l ∧ fst0 l ≤ 4 := by
    intro l hl
    induction l with
    | nil => simp [fst0]
    | cons e l ih =>
      unfold fst0
      split
      · exact ih fun e he => hl e (List.mem_cons_of_mem _ he)
      · have := hl e (List.mem_cons_self ..); omega
  have h2 := this (l.map (pcE old)) (by
    intro e he
    simp only [List.mem_map] at he
    obtain ⟨p, _, rfl⟩ := he
    unfold pcE
    split <;> split <;> omega)
  unfold stepsV
  split
  · simp
  · split
    · simp
    · split
      · exact h2
      · split <;> simp
def encDl (d : DeltaV) (t : Tail) : List AV := [.int .i64 d.old, .int .i64 d.new, .str d.osum, .str d.nsum, .sl (d.ps.map encPc) t]
def decDl : List AV → Option (DeltaV × Tail)
  | [.int .i64 a, .int .i64 b, .str c, .str e, .sl es t] => (decL decPc es).map fun l => (⟨a, b, c, e, l⟩, t)
  | _ => none
theorem decDl_enc (d : DeltaV) (t : Tail) : decDl (encDl d t) = some (d, t) := by
  unfold decDl encDl
  simp [decL_map (enc := encPc) decPc_enc]
theorem decDl_some {c : List AV} {p : DeltaV × Tail} (h : decDl c = some p) : c = encDl p.1 p.2 := by
  unfold decDl at h; split at h
  · rename_i a b c e es t
    cases hl : decL decPc es with
    | none => rw [hl] at h; cases h
    | some l =>
      rw [hl] at h
      cases h
      have := decL_some (enc := encPc) (fun _ _ => decPc_some) es l hl
      subst this
      rfl
  · cases h
def psR (l : List PieceV) : Prop := l.length ≤ 1099511627776 ∧ ∀ p ∈ l, pcR p
instance (l : List PieceV) : Decidable (psR l) := inferInstanceAs (Decidable (_ ∧ _))
def dlR (d : DeltaV) : Prop := inI d.old ∧ inI d.new ∧ d.osum.length ≤ 1099511627776 ∧ d.nsum.length ≤ 1099511627776 ∧ psR d.ps
instance (d : DeltaV) : Decidable (dlR d) := inferInstanceAs (Decidable (_ ∧ _ ∧ _ ∧ _ ∧ _))
def deltaE (d : DeltaV) : Int :=
  if d.old < 0 ∨ 65536 < d.old ∨ d.new < 0 ∨ 65536 < d.new then 3 else if sumB d.osum = false ∨ sumB d.nsum = false then 2 else
  if (stepsV d.ps d.old).2 ≠ 0 then (stepsV d.ps d.old).2 else if (stepsV d.ps d.old).1 ≠ d.new then 11 else 0
/-- What a piece makes of a text; what pieces make. -/
def pcMade (a : Bytes) (p : PieceV) : Bytes := if p.data ≠ [] then p.data else (a.take (p.at_ + p.long).toNat).drop p.at_.toNat
def madeV (a : Bytes) (l : List PieceV) : Bytes := (l.map (pcMade a)).flatten
def DeltaV.zero : DeltaV := ⟨0, 0, [], [], []⟩
def sameV (a b : DeltaV) : Prop := a.old = b.old ∧ a.new = b.new ∧ a.osum = b.osum ∧ a.nsum = b.nsum ∧ a.ps = b.ps
theorem madeV_succ {a : Bytes} {l : List PieceV} {i : Nat} {p : PieceV} (h : l[i]? = some p) : madeV a (l.take (i + 1)) = madeV a (l.take i) ++ pcMade a p := by
  unfold madeV
  rw [List.take_add_one, h]
  simp
theorem pcMade_len {a : Bytes} {p : PieceV} (h : pcE a.length p = 0) : ((pcMade a p).length : Int) = pcSize p := by
  unfold pcE at h
  unfold pcMade pcSize
  split at h
  · rename_i hd
    rw [if_pos hd, if_pos hd]
  · rename_i hd
    rw [if_neg hd, if_neg hd]
    split at h
    · omega
    · rw [List.length_drop, List.length_take]; omega
theorem madeV_len {a : Bytes} : ∀ {l : List PieceV}, (∀ p ∈ l, pcE a.length p = 0) → ((madeV a l).length : Int) = pcSum l
  | [], _ => rfl
  | p :: l, h => by
    have h1 := pcMade_len (h p (List.mem_cons_self ..))
    have h2 := madeV_len fun q hq => h q (List.mem_cons_of_mem _ hq)
    unfold madeV pcSum at *
    simp only [List.map_cons, List.flatten_cons, List.length_append, List.sum_cons]
    omega
theorem fst0_all {l : List Int} (h : fst0 l = 0) : ∀ e ∈ l, e = 0 := by
  induction l with
  | nil => intro e he; cases he
  | cons d l ih =>
    unfold fst0 at h
    split at h
    · rename_i hd
      intro e he
      rcases List.mem_cons.1 he with rfl | he
      · exact hd
      · exact ih h e he
    · exact absurd h ‹_›
theorem stepsV_ok {l : List PieceV} {old : Int} (h : (stepsV l old).2 = 0) : 0 ≤ old ∧ old ≤ 65536 ∧ l.length ≤ 5000 ∧ (∀ p ∈ l, pcE old p = 0) ∧ pcSum l ≤ 65536 ∧ (stepsV l old).1 = pcSum l := by
  unfold stepsV at h ⊢
  split at h
  · simp at h
  · rename_i h1
    split at h
    · simp at h
    · rename_i h2
      split at h
      · rename_i h3; exact absurd h h3
      · rename_i h3
        split at h
        · simp at h
        · rename_i h4
          rw [if_neg h1, if_neg h2, if_neg h3, if_neg h4]
          refine ⟨by omega, by omega, by omega, fun p hp => ?_, by omega, rfl⟩
          exact fst0_all (Decidable.not_not.1 h3) _ (List.mem_map_of_mem hp)
theorem deltaE_ok {d : DeltaV} (h : deltaE d = 0) : 0 ≤ d.old ∧ d.old ≤ 65536 ∧ 0 ≤ d.new ∧ d.new ≤ 65536 ∧ sumB d.osum = true ∧ sumB d.nsum = true ∧ (stepsV d.ps d.old).2 = 0 ∧ d.new = pcSum d.ps := by
  unfold deltaE at h
  split at h
  · omega
  · rename_i h1
    split at h
    · omega
    · rename_i h2
      split at h
      · rename_i h3; exact absurd h h3
      · rename_i h3
        split at h
        · omega
        · rename_i h4
          have h5 : (stepsV d.ps d.old).2 = 0 := Decidable.not_not.1 h3
          have h6 := (stepsV_ok h5).2.2.2.2.2
          refine ⟨by omega, by omega, by omega, by omega, ?_, ?_, h5, by omega⟩
          · cases hs : sumB d.osum with
            | true => rfl
            | false => exact absurd (.inl hs) h2
          · cases hs : sumB d.nsum with
            | true => rfl
            | false => exact absurd (.inr hs) h2
end Go.Proofs

/- Strings as elements; tests of signs and strings. -/
namespace Go.Proofs
open Go Go.Abs
set_option linter.unusedSimpArgs false
set_option linter.unusedVariables false
/-- Lengths that may be. -/
abbrev Room : Nat := 1099511627776
def encS (s : Bytes) : List AV := [.str s]
def decS : List AV → Option Bytes
  | [.str s] => some s
  | _ => none
theorem decS_enc (s : Bytes) : decS (encS s) = some s := rfl
theorem decS_some {c : List AV} {s : Bytes} (h : decS c = some s) : c = encS s := by
  unfold decS at h
  split at h
  · cases h; rfl
  · cases h
theorem pu0_ok : PuOK Tryd.prog pu0 := PuOK.zero
def sByte (p : Int → Bool) : List AV → Option AV := fn1 (.int .u8) fun c => some (.bool (p c))
theorem sByte_eq (p : Int → Bool) (c : Int) : sByte p [.int .u8 c] = some (.bool (p c)) := rfl
def sStr (p : Bytes → Bool) : List AV → Option AV := fn1 .str fun s => if s.length ≤ Room then some (.bool (p s)) else none
theorem sStr_eq (p : Bytes → Bool) (s : Bytes) : sStr p [.str s] = if s.length ≤ Room then some (.bool (p s)) else none := rfl
theorem sByte_ok {P : Program} {f : FuncId} {p : Int → Bool} (h : ∀ c H, ACalls P f [.int .u8 c] H fun x H' => x = .bool (p c) ∧ H' = H) : ∀ xs v, sByte p xs = some v → ∀ H, ACalls P f xs H fun x H' => x = v ∧ H' = H := by
  intro xs v hv H
  obtain ⟨x, c, rfl, h1, h2⟩ := fn1_some hv
  cases h2
  cases Rd.int_some h1
  exact h c H
theorem sStr_ok {P : Program} {f : FuncId} {p : Bytes → Bool} (h : ∀ s H, s.length ≤ Room → ACalls P f [.str s] H fun x H' => x = .bool (p s) ∧ H' = H) : ∀ xs v, sStr p xs = some v → ∀ H, ACalls P f xs H fun x H' => x = v ∧ H' = H := by
  intro xs v hv H
  obtain ⟨x, s, rfl, h1, h2⟩ := fn1_some hv
  split at h2
  · cases h2
    cases Rd.str_some h1
    exact h s H ‹_›
  · cases h2
end Go.Proofs

/- Walks of small things: the first error, lists that are compared. -/
namespace Go.Proofs
open Go Go.Abs
set_option linter.unusedSimpArgs false
set_option linter.unusedVariables false
def encI (n : Int) : List AV := [.int .i64 n]
def decI : List AV → Option Int
  | [.int .i64 n] => some n
  | _ => none
theorem decI_some {c : List AV} {n : Int} (h : decI c = some n) : c = encI n := by
  unfold decI at h; split at h
  · cases h; rfl
  · cases h
def sWhen : List AV → Option AV := fn2 .bool (.int .i64) fun b e => some (.int .i64 (if b then e else 0))
def sFirst : List AV → Option AV := fn1 (Rd.list decI) fun l => if l.length ≤ 1099511627776 then some (.int .i64 (fst0 l)) else none
theorem sWhen_eq (b : Bool) (e : Int) : sWhen [.bool b, .int .i64 e] = some (.int .i64 (if b then e else 0)) := rfl
theorem decL_nil {α : Type} (d : List AV → Option α) : decL d [] = some [] := rfl
theorem decL_cons {α : Type} (d : List AV → Option α) (c : List AV) (es : List (List AV)) : decL d (c :: es) = (d c).bind fun a => (decL d es).map (a :: ·) := by
  rw [decL]
  cases d c <;> cases decL d es <;> rfl
theorem rdL_eq {α : Type} (d : List AV → Option α) (es : List (List AV)) (t : Tail) : (Rd.list d).rd (.sl es t) = decL d es := rfl
theorem decI_eq (n : Int) : decI [.int .i64 n] = some n := rfl
attribute [go_sem] decL_nil decL_cons rdL_eq decI_eq
theorem take_eq_succ {α : Type} {a b : List α} {i : Nat} {x y : α} (ha : a[i]? = some x) (hb : b[i]? = some y) : a.take (i + 1) = b.take (i + 1) ↔ a.take i = b.take i ∧ x = y := by
  rw [List.take_add_one, List.take_add_one, ha, hb]
  constructor
  · intro h
    have hl : (a.take i).length = (b.take i).length := by
      have h1 : i < a.length := (List.getElem?_eq_some_iff.1 ha).1
      have h2 : i < b.length := (List.getElem?_eq_some_iff.1 hb).1
      simp; omega
    have := List.append_inj h hl
    exact ⟨this.1, by simpa using this.2⟩
  · rintro ⟨h1, rfl⟩; rw [h1]
theorem get_some {α : Type} {l : List α} {i : Nat} (h : i < l.length) : ∃ x, l[i]? = some x := ⟨l[i], List.getElem?_eq_getElem h⟩
theorem sWhen_ok {P : Program} {f : FuncId} (h : ∀ b e H, ACalls P f [.bool b, .int .i64 e] H fun x H' => x = .int .i64 (if b then e else 0) ∧ H' = H) : ∀ xs v, sWhen xs = some v → ∀ H, ACalls P f xs H fun x H' => x = v ∧ H' = H := by
  intro xs v hv H
  obtain ⟨x, y, p, q, rfl, h1, h2, h3⟩ := fn2_some hv
  cases Rd.bool_some h1; cases Rd.int_some h2; cases h3
  exact h _ _ H
theorem sFirst_ok {P : Program} {f : FuncId} (h : ∀ (l : List Int) (t : Tail) (H : Heap), l.length ≤ 1099511627776 → ACalls P f [.sl (l.map encI) t] H fun x H' => x = .int .i64 (fst0 l) ∧ H' = H) : ∀ xs v, sFirst xs = some v → ∀ H, ACalls P f xs H fun x H' => x = v ∧ H' = H := by
  intro xs v hv H
  obtain ⟨x, l, rfl, h1, h2⟩ := fn1_some hv
  split at h2
  · cases h2
    obtain ⟨t, rfl⟩ := Rd.list_some (enc := encI) (fun _ _ => decI_some) h1
    exact h l t H ‹_›
  · cases h2
theorem sFirst_eq (l : List Int) (t : Tail) (h : l.length ≤ 1099511627776) : sFirst [.sl (l.map encI) t] = some (.int .i64 (fst0 l)) := by
  show ((Rd.list decI).rd (.sl (l.map encI) t)).bind _ = _
  rw [Rd.list_eq (enc := encI) (fun _ => rfl) l t]
  simp only [Option.bind_some, if_pos h]
theorem sFirst_two (a b : Int) (t : Tail) : sFirst [.sl [[.int .i64 a], [.int .i64 b]] t] = some (.int .i64 (fst0 [a, b])) := sFirst_eq [a, b] t (by simp)
theorem sFirst_three (a b c : Int) (t : Tail) : sFirst [.sl [[.int .i64 a], [.int .i64 b], [.int .i64 c]] t] = some (.int .i64 (fst0 [a, b, c])) := sFirst_eq [a, b, c] t (by simp)
end Go.Proofs

/- Walks: names; what has the form of a sum. -/
namespace Go.Proofs
open Go Go.Abs
set_option linter.unusedSimpArgs false
set_option linter.unusedVariables false

theorem isSmall_calls (c : Int) (H : Heap) : ACalls Tryd.prog 32 [.int .u8 c] H fun x H' => x = .bool (isSm c) ∧ H' = H := by
  refine ACalls.of_code (X := { pure := pu0 }) pu0_ok Tryd.func32 (by kernel_rfl) rfl (by kernel_rfl) (Nat.le_of_ble_eq_true rfl) ?_
  simp -implicitDefEqProofs only [go_sem, tys, regs0, Nat.reduceEqDiff, Nat.reduceAdd, Nat.reduceLeDiff, Nat.reduceLT, Nat.reduceMul, Int.natCast_one, Int.natCast_zero, Int.reduceEq, Int.reduceLT, Int.reduceLE, Int.reduceAdd, Int.reduceSub, Int.reduceToNat, UInt8.reduceToNat, Tryd.f32]
  repeat' (first | (with_reducible refine gd_intro (fun h => ?_) (fun h => ?_) <;> first | (exact absurd h (by decide)) | (simp at h; done) | simp -implicitDefEqProofs (disch := omega) only [go_sem, tys, regs0, Nat.reduceEqDiff, Nat.reduceAdd, Nat.reduceLeDiff, Nat.reduceLT, Nat.reduceMul, Int.natCast_one, Int.natCast_zero, Int.reduceEq, Int.reduceLT, Int.reduceLE, Int.reduceAdd, Int.reduceSub, Int.reduceToNat, UInt8.reduceToNat, Go.IntWalk.i64_in, *]) | (with_reducible refine cnd_intro (fun h => ?_) (fun h => ?_) <;> first | (exact absurd h (by decide)) | (simp at h; done) | simp -implicitDefEqProofs (disch := omega) only [go_sem, tys, regs0, Nat.reduceEqDiff, Nat.reduceAdd, Nat.reduceLeDiff, Nat.reduceLT, Nat.reduceMul, Int.natCast_one, Int.natCast_zero, Int.reduceEq, Int.reduceLT, Int.reduceLE, Int.reduceAdd, Int.reduceSub, Int.reduceToNat, UInt8.reduceToNat, Go.IntWalk.i64_in, *]))
  all_goals (refine Done.now ⟨?_, rfl⟩; simp only [decide_eq_true_eq, decide_eq_false_iff_not] at h; simp [isSm, h])
theorem isDigit_calls (c : Int) (H : Heap) : ACalls Tryd.prog 33 [.int .u8 c] H fun x H' => x = .bool (isDg c) ∧ H' = H := by
  refine ACalls.of_code (X := { pure := pu0 }) pu0_ok Tryd.func33 (by kernel_rfl) rfl (by kernel_rfl) (Nat.le_of_ble_eq_true rfl) ?_
  simp -implicitDefEqProofs only [go_sem, tys, regs0, Nat.reduceEqDiff, Nat.reduceAdd, Nat.reduceLeDiff, Nat.reduceLT, Nat.reduceMul, Int.natCast_one, Int.natCast_zero, Int.reduceEq, Int.reduceLT, Int.reduceLE, Int.reduceAdd, Int.reduceSub, Int.reduceToNat, UInt8.reduceToNat, Tryd.f33]
  repeat' (first | (with_reducible refine gd_intro (fun h => ?_) (fun h => ?_) <;> first | (exact absurd h (by decide)) | (simp at h; done) | simp -implicitDefEqProofs (disch := omega) only [go_sem, tys, regs0, Nat.reduceEqDiff, Nat.reduceAdd, Nat.reduceLeDiff, Nat.reduceLT, Nat.reduceMul, Int.natCast_one, Int.natCast_zero, Int.reduceEq, Int.reduceLT, Int.reduceLE, Int.reduceAdd, Int.reduceSub, Int.reduceToNat, UInt8.reduceToNat, Go.IntWalk.i64_in, *]) | (with_reducible refine cnd_intro (fun h => ?_) (fun h => ?_) <;> first | (exact absurd h (by decide)) | (simp at h; done) | simp -implicitDefEqProofs (disch := omega) only [go_sem, tys, regs0, Nat.reduceEqDiff, Nat.reduceAdd, Nat.reduceLeDiff, Nat.reduceLT, Nat.reduceMul, Int.natCast_one, Int.natCast_zero, Int.reduceEq, Int.reduceLT, Int.reduceLE, Int.reduceAdd, Int.reduceSub, Int.reduceToNat, UInt8.reduceToNat, Go.IntWalk.i64_in, *]))
  all_goals (refine Done.now ⟨?_, rfl⟩; simp only [decide_eq_true_eq, decide_eq_false_iff_not] at h; simp [isDg, h])
def puV1 : Pures := putP 32 (sByte isSm) (putP 33 (sByte isDg) pu0)
theorem puV1_ok : PuOK Tryd.prog puV1 := .put (.put (PuOK.zero) (sByte_ok isDigit_calls)) (sByte_ok isSmall_calls)
theorem isName1_calls (c : Int) (H : Heap) : ACalls Tryd.prog 31 [.int .u8 c] H fun x H' => x = .bool (isNm c) ∧ H' = H := by
  refine ACalls.of_code (X := { pure := puV1 }) puV1_ok Tryd.func31 (by kernel_rfl) rfl (by kernel_rfl) (Nat.le_of_ble_eq_true rfl) ?_
  simp -implicitDefEqProofs only [go_sem, tys, regs0, Nat.reduceEqDiff, Nat.reduceAdd, Nat.reduceLeDiff, Nat.reduceLT, Nat.reduceMul, Int.natCast_one, Int.natCast_zero, Int.reduceEq, Int.reduceLT, Int.reduceLE, Int.reduceAdd, Int.reduceSub, Int.reduceToNat, UInt8.reduceToNat, Tryd.f31, puV1, sByte_eq]
  repeat' (first | (with_reducible refine gd_intro (fun h => ?_) (fun h => ?_) <;> first | (exact absurd h (by decide)) | (simp at h; done) | simp -implicitDefEqProofs (disch := omega) only [go_sem, tys, regs0, Nat.reduceEqDiff, Nat.reduceAdd, Nat.reduceLeDiff, Nat.reduceLT, Nat.reduceMul, Int.natCast_one, Int.natCast_zero, Int.reduceEq, Int.reduceLT, Int.reduceLE, Int.reduceAdd, Int.reduceSub, Int.reduceToNat, UInt8.reduceToNat, Go.IntWalk.i64_in, puV1, sByte_eq, *]) | (with_reducible refine cnd_intro (fun h => ?_) (fun h => ?_) <;> first | (exact absurd h (by decide)) | (simp at h; done) | simp -implicitDefEqProofs (disch := omega) only [go_sem, tys, regs0, Nat.reduceEqDiff, Nat.reduceAdd, Nat.reduceLeDiff, Nat.reduceLT, Nat.reduceMul, Int.natCast_one, Int.natCast_zero, Int.reduceEq, Int.reduceLT, Int.reduceLE, Int.reduceAdd, Int.reduceSub, Int.reduceToNat, UInt8.reduceToNat, Go.IntWalk.i64_in, puV1, sByte_eq, *]))
  all_goals (refine Done.now ⟨?_, rfl⟩; simp_all [isNm])
theorem each_calls (s : Bytes) (most : Int) (f : FuncId) (p : Int → Bool) (H : Heap) (hs : s.length ≤ Room) (hf : ∀ c H, ACalls Tryd.prog f [.int .u8 c] H fun x H' => x = .bool (p c) ∧ H' = H) :
    ACalls Tryd.prog 30 [.str s, .int .i64 most, .func f []] H fun x H' => x = .bool (sEach p s most) ∧ H' = H := by
  have hR : Room = 1099511627776 := rfl
  rw [hR] at hs
  refine ACalls.of_code (X := {}) (fun _ _ h => nomatch h) Tryd.func30 (by kernel_rfl) rfl (by kernel_rfl) (Nat.le_of_ble_eq_true rfl) ?_
  simp -implicitDefEqProofs only [go_sem, tys, regs0, Nat.reduceEqDiff, Nat.reduceAdd, Nat.reduceLeDiff, Nat.reduceLT, Nat.reduceMul, Int.natCast_one, Int.natCast_zero, Int.reduceEq, Int.reduceLT, Int.reduceLE, Int.reduceAdd, Int.reduceSub, Int.reduceToNat, UInt8.reduceToNat, Tryd.f30]
  refine aloop_intro (σ := Nat) (fun i => [(0, .str s), (1, .int .i64 most), (2, .func f []), (7, .int .i64 i)]) (fun i G => G = H ∧ i ≤ s.length ∧ allB p (s.take i) = true) (fun i => s.length - i) 0 ?_ ?_ ?_
  · simp -implicitDefEqProofs only [go_sem, tys, regs0, Nat.reduceEqDiff, Nat.reduceAdd, Nat.reduceLeDiff, Nat.reduceLT, Nat.reduceMul, Int.natCast_one, Int.natCast_zero, Int.reduceEq, Int.reduceLT, Int.reduceLE, Int.reduceAdd, Int.reduceSub, Int.reduceToNat, UInt8.reduceToNat]
  · simp [allB]
  · intro i r G hv hI
    have h0 := hv.1
    have h1 := hv.2.1
    have h2 := hv.2.2.1
    have h7 := hv.2.2.2.1
    have hG := hI.1
    have hp := hI.2.2
    have hi := hI.2.1
    subst hG
    simp -implicitDefEqProofs only [go_sem, tys, regs0, Nat.reduceEqDiff, Nat.reduceAdd, Nat.reduceLeDiff, Nat.reduceLT, Nat.reduceMul, Int.natCast_one, Int.natCast_zero, Int.reduceEq, Int.reduceLT, Int.reduceLE, Int.reduceAdd, Int.reduceSub, Int.reduceToNat, UInt8.reduceToNat, h0, h1, h2, h7]
    refine cnd_intro (fun h => ?_) (fun h => ?_)
    · simp only [decide_eq_true_eq] at h
      obtain ⟨c, hc⟩ : ∃ c, s[i]? = some c := ⟨s[i]'(by omega), List.getElem?_eq_getElem _⟩
      simp -implicitDefEqProofs only [go_sem, tys, regs0, Nat.reduceEqDiff, Nat.reduceAdd, Nat.reduceLeDiff, Nat.reduceLT, Nat.reduceMul, Int.natCast_one, Int.natCast_zero, Int.reduceEq, Int.reduceLT, Int.reduceLE, Int.reduceAdd, Int.reduceSub, Int.reduceToNat, UInt8.reduceToNat, h0, h1, h2, h7, hc]
      refine ACalls.pure_next _ (hf c.toNat _) ?_
      simp -implicitDefEqProofs only [go_sem, tys, regs0, Nat.reduceEqDiff, Nat.reduceAdd, Nat.reduceLeDiff, Nat.reduceLT, Nat.reduceMul, Int.natCast_one, Int.natCast_zero, Int.reduceEq, Int.reduceLT, Int.reduceLE, Int.reduceAdd, Int.reduceSub, Int.reduceToNat, UInt8.reduceToNat, h0, h1, h2, h7, hc]
      refine cnd_intro (fun hpc => ?_) (fun hpc => ?_) <;> simp only [Bool.not_eq_true', Bool.not_eq_false'] at hpc
      · simp -implicitDefEqProofs only [go_sem, tys, regs0, Nat.reduceEqDiff, Nat.reduceAdd, Nat.reduceLeDiff, Nat.reduceLT, Nat.reduceMul, Int.natCast_one, Int.natCast_zero, Int.reduceEq, Int.reduceLT, Int.reduceLE, Int.reduceAdd, Int.reduceSub, Int.reduceToNat, UInt8.reduceToNat, h0, h1, h2, h7, hc]
        exact Done.now ⟨by rw [sEach_false hc hpc], rfl⟩
      · simp -implicitDefEqProofs (disch := omega) only [go_sem, tys, regs0, Nat.reduceEqDiff, Nat.reduceAdd, Nat.reduceLeDiff, Nat.reduceLT, Nat.reduceMul, Int.natCast_one, Int.natCast_zero, Int.reduceEq, Int.reduceLT, Int.reduceLE, Int.reduceAdd, Int.reduceSub, Int.reduceToNat, UInt8.reduceToNat, Go.IntWalk.i64_in, h0, h1, h2, h7, hc]
        exact Again.mk (i + 1) (by simp -implicitDefEqProofs only [go_sem, tys, regs0, Nat.reduceEqDiff, Nat.reduceAdd, Nat.reduceLeDiff, Nat.reduceLT, Nat.reduceMul, Int.natCast_one, Int.natCast_zero, Int.reduceEq, Int.reduceLT, Int.reduceLE, Int.reduceAdd, Int.reduceSub, Int.reduceToNat, UInt8.reduceToNat, h0, h1, h2, h7]; exact rfl) ⟨rfl, by omega, allB_succ hp hc hpc⟩ (by omega)
    · simp only [decide_eq_false_iff_not] at h
      have e : i = s.length := by omega
      subst e
      rw [List.take_length] at hp
      simp -implicitDefEqProofs only [go_sem, tys, regs0, Nat.reduceEqDiff, Nat.reduceAdd, Nat.reduceLeDiff, Nat.reduceLT, Nat.reduceMul, Int.natCast_one, Int.natCast_zero, Int.reduceEq, Int.reduceLT, Int.reduceLE, Int.reduceAdd, Int.reduceSub, Int.reduceToNat, UInt8.reduceToNat, h0, h1, h2, h7]
      refine gd_intro (fun hn => ?_) (fun hn => ?_) <;> simp -implicitDefEqProofs only [go_sem, tys, regs0, Nat.reduceEqDiff, Nat.reduceAdd, Nat.reduceLeDiff, Nat.reduceLT, Nat.reduceMul, Int.natCast_one, Int.natCast_zero, Int.reduceEq, Int.reduceLT, Int.reduceLE, Int.reduceAdd, Int.reduceSub, Int.reduceToNat, UInt8.reduceToNat, h0, h1, h2, h7, hn] <;> refine Done.now ⟨?_, rfl⟩ <;> simp only [sEach, hp, hn, ne_eq] <;> simp
def sEachP : List AV → Option AV
  | [.str s, .int .i64 most, .func f []] => if s.length ≤ Room then (if f = 31 then some (.bool (sEach isNm s most)) else none) else none
  | _ => none
theorem sEachP_eq (s : Bytes) (most : Int) (f : FuncId) : sEachP [.str s, .int .i64 most, .func f []] = if s.length ≤ Room then (if f = 31 then some (.bool (sEach isNm s most)) else none) else none := rfl
def puV2 : Pures := putP 30 sEachP puV1
theorem puV2_ok : PuOK Tryd.prog puV2 := by
  refine PuOK.put puV1_ok ?_
  intro xs v h H
  unfold sEachP at h
  split at h
  · rename_i s most f
    split at h
    · rename_i hs
      split at h
      · rename_i hf; subst hf; cases h; exact each_calls s most _ isNm H hs isName1_calls
      · cases h
    · cases h
  · cases h
theorem isName_calls (s : Bytes) (H : Heap) (hs : s.length ≤ Room) : ACalls Tryd.prog 15 [.str s] H fun x H' => x = .bool (nameB s) ∧ H' = H := by
  refine ACalls.of_code (X := { pure := puV2 }) puV2_ok Tryd.func15 (by kernel_rfl) rfl (by kernel_rfl) (Nat.le_of_ble_eq_true rfl) ?_
  simp -implicitDefEqProofs only [go_sem, tys, regs0, Nat.reduceEqDiff, Nat.reduceAdd, Nat.reduceLeDiff, Nat.reduceLT, Nat.reduceMul, Int.natCast_one, Int.natCast_zero, Int.reduceEq, Int.reduceLT, Int.reduceLE, Int.reduceAdd, Int.reduceSub, Int.reduceToNat, UInt8.reduceToNat, Tryd.f15, puV2, puV1, sByte_eq, sEachP_eq, hs]
  refine gd_intro (fun hn => ?_) (fun hn => ?_)
  · obtain ⟨c, l, rfl⟩ : ∃ c l, s = c :: l := by
      cases s with
      | nil => simp [sEach] at hn
      | cons c l => exact ⟨c, l, rfl⟩
    simp -implicitDefEqProofs only [go_sem, tys, regs0, Nat.reduceEqDiff, Nat.reduceAdd, Nat.reduceLeDiff, Nat.reduceLT, Nat.reduceMul, Int.natCast_one, Int.natCast_zero, Int.reduceEq, Int.reduceLT, Int.reduceLE, Int.reduceAdd, Int.reduceSub, Int.reduceToNat, UInt8.reduceToNat, puV2, puV1, sByte_eq, hn, Int.toNat_zero, Int.le_refl]
    exact Done.now ⟨by simp [nameB, hn], rfl⟩
  · simp -implicitDefEqProofs only [go_sem, tys, regs0, Nat.reduceEqDiff, Nat.reduceAdd, Nat.reduceLeDiff, Nat.reduceLT, Nat.reduceMul, Int.natCast_one, Int.natCast_zero, Int.reduceEq, Int.reduceLT, Int.reduceLE, Int.reduceAdd, Int.reduceSub, Int.reduceToNat, UInt8.reduceToNat, puV2, puV1, sByte_eq, hn]
    exact Done.now ⟨by simp [nameB, hn], rfl⟩
theorem dIsSum_calls (s : Bytes) (H : Heap) (hs : s.length ≤ Room) : ACalls Tryd.prog 39 [.str s] H fun x H' => x = .bool (sumB s) ∧ H' = H := by
  have hR : Room = 1099511627776 := rfl
  rw [hR] at hs
  clear hR
  refine ACalls.of_code (X := { pure := pu0 }) pu0_ok Tryd.func39 (by kernel_rfl) rfl (by kernel_rfl) (Nat.le_of_ble_eq_true rfl) ?_
  simp -implicitDefEqProofs only [go_sem, tys, regs0, Nat.reduceEqDiff, Nat.reduceAdd, Nat.reduceLeDiff, Nat.reduceLT, Nat.reduceMul, Int.natCast_one, Int.natCast_zero, Int.reduceEq, Int.reduceLT, Int.reduceLE, Int.reduceAdd, Int.reduceSub, Int.reduceToNat, UInt8.reduceToNat, Tryd.f39]
  refine aloop_intro (σ := Nat) (fun i => [(0, .str s), (3, .int .i64 i)]) (fun i G => G = H ∧ i ≤ s.length ∧ allB isHx (s.take i) = true) (fun i => s.length - i) 0 ?_ ?_ ?_
  · simp -implicitDefEqProofs only [go_sem, tys, regs0, Nat.reduceEqDiff, Nat.reduceAdd, Nat.reduceLeDiff, Nat.reduceLT, Nat.reduceMul, Int.natCast_one, Int.natCast_zero, Int.reduceEq, Int.reduceLT, Int.reduceLE, Int.reduceAdd, Int.reduceSub, Int.reduceToNat, UInt8.reduceToNat]
  · simp [allB]
  · intro i r G hv hI
    have h0 := hv.1
    have h8 := hv.2.1
    have hG := hI.1.symm
    have hi := hI.2.1
    have hp := hI.2.2
    clear hv hI
    subst hG
    simp -implicitDefEqProofs only [go_sem, tys, regs0, Nat.reduceEqDiff, Nat.reduceAdd, Nat.reduceLeDiff, Nat.reduceLT, Nat.reduceMul, Int.natCast_one, Int.natCast_zero, Int.reduceEq, Int.reduceLT, Int.reduceLE, Int.reduceAdd, Int.reduceSub, Int.reduceToNat, UInt8.reduceToNat, h0, h8]
    refine cnd_intro (fun h => ?_) (fun h => ?_)
    · simp only [decide_eq_true_eq] at h
      obtain ⟨c, hc⟩ : ∃ c, s[i]? = some c := ⟨s[i]'(by omega), List.getElem?_eq_getElem _⟩
      have bad1 : isHx (c.toNat : Int) = false → sumB s = false := fun e => by simp [sumB, sEach, allB_false hc e, not_nil_of hc]
      have good : isHx (c.toNat : Int) = true → allB isHx (s.take (i + 1)) = true := fun e2 => allB_succ hp hc e2
      clear hp
      generalize hcn : (c.toNat : Int) = k at *
      simp -implicitDefEqProofs only [go_sem, tys, regs0, Nat.reduceEqDiff, Nat.reduceAdd, Nat.reduceLeDiff, Nat.reduceLT, Nat.reduceMul, Int.natCast_one, Int.natCast_zero, Int.reduceEq, Int.reduceLT, Int.reduceLE, Int.reduceAdd, Int.reduceSub, Int.reduceToNat, UInt8.reduceToNat, h0, h8, hc, hcn]
      repeat' (first | (with_reducible refine gd_intro (fun h => ?_) (fun h => ?_) <;> first | (exact absurd h (by decide)) | (simp at h; done) | simp -implicitDefEqProofs (disch := omega) only [go_sem, tys, regs0, Nat.reduceEqDiff, Nat.reduceAdd, Nat.reduceLeDiff, Nat.reduceLT, Nat.reduceMul, Int.natCast_one, Int.natCast_zero, Int.reduceEq, Int.reduceLT, Int.reduceLE, Int.reduceAdd, Int.reduceSub, Int.reduceToNat, UInt8.reduceToNat, Go.IntWalk.i64_in, *]) | (with_reducible refine cnd_intro (fun h => ?_) (fun h => ?_) <;> first | (exact absurd h (by decide)) | (simp at h; done) | simp -implicitDefEqProofs (disch := omega) only [go_sem, tys, regs0, Nat.reduceEqDiff, Nat.reduceAdd, Nat.reduceLeDiff, Nat.reduceLT, Nat.reduceMul, Int.natCast_one, Int.natCast_zero, Int.reduceEq, Int.reduceLT, Int.reduceLE, Int.reduceAdd, Int.reduceSub, Int.reduceToNat, UInt8.reduceToNat, Go.IntWalk.i64_in, *]))
      all_goals first
        | (refine Done.now ⟨?_, rfl⟩
           simp only [decide_eq_true_eq, decide_eq_false_iff_not, Bool.not_eq_true', Bool.not_eq_false', Decidable.not_not, Int.not_lt, Int.not_le, ne_eq] at *
           rw [bad1 (by simp [isHx]; omega)]; done)
        | (simp only [decide_eq_true_eq, decide_eq_false_iff_not, Bool.not_eq_true', Bool.not_eq_false', Decidable.not_not, Int.not_lt, Int.not_le, ne_eq] at *
           exact Again.mk (i + 1) (by simp -implicitDefEqProofs only [go_sem, tys, regs0, Nat.reduceEqDiff, Nat.reduceAdd, Nat.reduceLeDiff, Nat.reduceLT, Nat.reduceMul, Int.natCast_one, Int.natCast_zero, Int.reduceEq, Int.reduceLT, Int.reduceLE, Int.reduceAdd, Int.reduceSub, Int.reduceToNat, UInt8.reduceToNat, h0, h8]; exact rfl) ⟨rfl, by omega, good (by simp [isHx]; omega)⟩ (by omega))
    · simp only [decide_eq_false_iff_not] at h
      have e : i = s.length := by omega
      subst e
      rw [List.take_length] at hp
      simp -implicitDefEqProofs only [go_sem, tys, regs0, Nat.reduceEqDiff, Nat.reduceAdd, Nat.reduceLeDiff, Nat.reduceLT, Nat.reduceMul, Int.natCast_one, Int.natCast_zero, Int.reduceEq, Int.reduceLT, Int.reduceLE, Int.reduceAdd, Int.reduceSub, Int.reduceToNat, UInt8.reduceToNat, h0, h8]
      repeat' (first | (with_reducible refine gd_intro (fun h => ?_) (fun h => ?_) <;> first | (exact absurd h (by decide)) | (simp at h; done) | simp -implicitDefEqProofs (disch := omega) only [go_sem, tys, regs0, Nat.reduceEqDiff, Nat.reduceAdd, Nat.reduceLeDiff, Nat.reduceLT, Nat.reduceMul, Int.natCast_one, Int.natCast_zero, Int.reduceEq, Int.reduceLT, Int.reduceLE, Int.reduceAdd, Int.reduceSub, Int.reduceToNat, UInt8.reduceToNat, Go.IntWalk.i64_in, *]) | (with_reducible refine cnd_intro (fun h => ?_) (fun h => ?_) <;> first | (exact absurd h (by decide)) | (simp at h; done) | simp -implicitDefEqProofs (disch := omega) only [go_sem, tys, regs0, Nat.reduceEqDiff, Nat.reduceAdd, Nat.reduceLeDiff, Nat.reduceLT, Nat.reduceMul, Int.natCast_one, Int.natCast_zero, Int.reduceEq, Int.reduceLT, Int.reduceLE, Int.reduceAdd, Int.reduceSub, Int.reduceToNat, UInt8.reduceToNat, Go.IntWalk.i64_in, *]))
      all_goals refine Done.now ⟨?_, rfl⟩
      all_goals try simp only [decide_eq_true_eq, decide_eq_false_iff_not, Bool.not_eq_true', Bool.not_eq_false', Decidable.not_not, Int.not_lt, Int.not_le, ne_eq] at *
      all_goals (by_cases hn : s = [] <;> simp_all [sumB, sEach] <;> omega)

def puN : Pures := putP 15 (sStr nameB) (putP 39 (sStr sumB) pu0)
theorem puN_ok : PuOK Tryd.prog puN := .put (.put (PuOK.zero) (sStr_ok dIsSum_calls)) (sStr_ok isName_calls)
end Go.Proofs

/- Walks: sums, of the program and of the reference. -/
namespace Go.Proofs
open Go Go.Abs
set_option linter.unusedSimpArgs false
set_option linter.unusedVariables false
def encB (b : UInt8) : AV := .int .u8 b.toNat
set_option maxHeartbeats 1600000 in
theorem sumOf_calls (s : Bytes) (H : Heap) (hs : s.length ≤ Room) : ACalls Tryd.prog 16 [.str s] H fun x H' => x = .str (sumOf s) ∧ H' = H := by
  have hR : Room = 1099511627776 := rfl
  rw [hR] at hs
  clear hR
  refine ACalls.of_code (X := { pure := puN }) puN_ok Tryd.func16 (by kernel_rfl) rfl (by kernel_rfl) (Nat.le_of_ble_eq_true rfl) ?_
  simp -implicitDefEqProofs only [go_sem, tys, regs0, Nat.reduceEqDiff, Nat.reduceAdd, Nat.reduceLeDiff, Nat.reduceLT, Nat.reduceMul, Int.natCast_one, Int.natCast_zero, Int.reduceEq, Int.reduceLT, Int.reduceLE, Int.reduceAdd, Int.reduceSub, Int.reduceToNat, UInt8.reduceToNat, Tryd.f16]
  refine aloop_intro (σ := Nat) (fun i => [(0, .str s), (3, .int .u64 (fnv (s.take i))), (4, .int .i64 i)]) (fun i G => G = H ∧ i ≤ s.length) (fun i => s.length - i) 0 ?_ ?_ ?_
  · simp -implicitDefEqProofs only [go_sem, tys, regs0, Nat.reduceEqDiff, Nat.reduceAdd, Nat.reduceLeDiff, Nat.reduceLT, Nat.reduceMul, Int.natCast_one, Int.natCast_zero, Int.reduceEq, Int.reduceLT, Int.reduceLE, Int.reduceAdd, Int.reduceSub, Int.reduceToNat, UInt8.reduceToNat]
    simp [fnv]
  · simp
  · intro i r G hv hI
    have h0 := hv.1
    have h3 := hv.2.1
    have h4 := hv.2.2.1
    have hG := hI.1.symm
    have hi := hI.2
    clear hv hI
    subst hG
    simp -implicitDefEqProofs only [go_sem, tys, regs0, Nat.reduceEqDiff, Nat.reduceAdd, Nat.reduceLeDiff, Nat.reduceLT, Nat.reduceMul, Int.natCast_one, Int.natCast_zero, Int.reduceEq, Int.reduceLT, Int.reduceLE, Int.reduceAdd, Int.reduceSub, Int.reduceToNat, UInt8.reduceToNat, h0, h3, h4]
    refine cnd_intro (fun h => ?_) (fun h => ?_)
    · simp only [decide_eq_true_eq] at h
      obtain ⟨c, hc⟩ : ∃ c, s[i]? = some c := ⟨s[i]'(by omega), List.getElem?_eq_getElem _⟩
      simp -implicitDefEqProofs (disch := omega) only [go_sem, tys, regs0, Nat.reduceEqDiff, Nat.reduceAdd, Nat.reduceLeDiff, Nat.reduceLT, Nat.reduceMul, Int.natCast_one, Int.natCast_zero, Int.reduceEq, Int.reduceLT, Int.reduceLE, Int.reduceAdd, Int.reduceSub, Int.reduceToNat, UInt8.reduceToNat, Go.IntWalk.i64_in, h0, h3, h4, hc, u64_byte]
      refine Again.mk (i + 1) (by simp -implicitDefEqProofs only [go_sem, tys, regs0, Nat.reduceEqDiff, Nat.reduceAdd, Nat.reduceLeDiff, Nat.reduceLT, Nat.reduceMul, Int.natCast_one, Int.natCast_zero, Int.reduceEq, Int.reduceLT, Int.reduceLE, Int.reduceAdd, Int.reduceSub, Int.reduceToNat, UInt8.reduceToNat, h0, h3, h4]; rw [fnv_succ hc]; exact ⟨rfl, rfl⟩) ⟨rfl, by omega⟩ (by omega)
    · simp only [decide_eq_false_iff_not] at h
      have e : i = s.length := by omega
      subst e
      rw [List.take_length, fnvN_eq] at h3
      have hn := fnvN_lt s
      unfold sumOf
      generalize fnvN s = n at *
      simp -implicitDefEqProofs only [go_sem, tys, regs0, Nat.reduceEqDiff, Nat.reduceAdd, Nat.reduceLeDiff, Nat.reduceLT, Nat.reduceMul, Int.natCast_one, Int.natCast_zero, Int.reduceEq, Int.reduceLT, Int.reduceLE, Int.reduceAdd, Int.reduceSub, Int.reduceToNat, UInt8.reduceToNat, h0, h3, h4]
      with_reducible refine makeSlice_ms (e := tiU8) ?_ ?_ ?_ ?_ ?_ ?_
      · simp -implicitDefEqProofs only [go_sem, tys, regs0, Nat.reduceEqDiff, Nat.reduceAdd, Nat.reduceLeDiff, Nat.reduceLT, Nat.reduceMul, Int.natCast_one, Int.natCast_zero, Int.reduceEq, Int.reduceLT, Int.reduceLE, Int.reduceAdd, Int.reduceSub, Int.reduceToNat, UInt8.reduceToNat]
      · decide
      · omega
      · decide
      · decide
      intro id hid
      simp -implicitDefEqProofs only [go_sem, tys, regs0, Nat.reduceEqDiff, Nat.reduceAdd, Nat.reduceLeDiff, Nat.reduceLT, Nat.reduceMul, Int.natCast_one, Int.natCast_zero, Int.reduceEq, Int.reduceLT, Int.reduceLE, Int.reduceAdd, Int.reduceSub, Int.reduceToNat, UInt8.reduceToNat, h0, h3, h4]
      refine aloop_intro (σ := Nat) (fun i => [(0, .str s), (3, .int .u64 n), (5, .ms id 0 16 1), (22, .int .i64 16), (23, .int .i64 i)]) (fun i G => G = H.put id (.cells (fillL (.int .u8 0) (((hexPad 16 n).take i).map encB) 16)) ∧ i ≤ 16) (fun i => 16 - i) 0 ?_ ?_ ?_
      · simp -implicitDefEqProofs only [go_sem, tys, regs0, Nat.reduceEqDiff, Nat.reduceAdd, Nat.reduceLeDiff, Nat.reduceLT, Nat.reduceMul, Int.natCast_one, Int.natCast_zero, Int.reduceEq, Int.reduceLT, Int.reduceLE, Int.reduceAdd, Int.reduceSub, Int.reduceToNat, UInt8.reduceToNat, h0, h3]
      · refine ⟨?_, by omega⟩
        congr 1
      · intro i r G hv hI
        have h0 := hv.1
        have h3 := hv.2.1
        have h5 := hv.2.2.1
        have h22 := hv.2.2.2.1
        have h23 := hv.2.2.2.2.1
        have hG := hI.1.symm
        have hi := hI.2
        clear hv hI
        subst hG
        have hlen : (((hexPad 16 n).take i).map encB).length = i := by simp [hexPad_len]; omega
        simp -implicitDefEqProofs only [go_sem, tys, regs0, Nat.reduceEqDiff, Nat.reduceAdd, Nat.reduceLeDiff, Nat.reduceLT, Nat.reduceMul, Int.natCast_one, Int.natCast_zero, Int.reduceEq, Int.reduceLT, Int.reduceLE, Int.reduceAdd, Int.reduceSub, Int.reduceToNat, UInt8.reduceToNat, h0, h3, h5, h22, h23]
        refine cnd_intro (fun h => ?_) (fun h => ?_)
        · simp only [decide_eq_true_eq] at h
          have e2 := shrN n (60 - 4 * i) ((60 : Int) - 4 * i) (by omega) (by omega)
          have hlt : n / 2 ^ (60 - 4 * i) < 18446744073709551616 := Nat.lt_of_le_of_lt (Nat.div_le_self _ _) hn
          have e3 := and15 _ hlt
          have e4 := dig_get (n / 2 ^ (60 - 4 * i) % 16) (Nat.mod_lt _ (by omega))
          simp -implicitDefEqProofs (disch := omega) only [go_sem, tys, regs0, Nat.reduceEqDiff, Nat.reduceAdd, Nat.reduceLeDiff, Nat.reduceLT, Nat.reduceMul, Int.natCast_one, Int.natCast_zero, Int.reduceEq, Int.reduceLT, Int.reduceLE, Int.reduceAdd, Int.reduceSub, Int.reduceToNat, UInt8.reduceToNat, Go.IntWalk.i64_in, h0, h3, h5, h22, h23, e2, e3, e4]
          refine ⟨by omega, by omega, by rw [fillL_len (by omega)]; omega, ?_⟩
          have hg := hexPad_get2 n i (by omega)
          clear e2 e3 e4 hlt
          generalize dig (n / 2 ^ (60 - 4 * i) % 16) = d at hg
          have e5 : (fillL (AV.int .u8 0) (((hexPad 16 n).take i).map encB) 16).set (i * 1) (.int .u8 (d.toNat : Int)) = fillL (.int .u8 0) (((hexPad 16 n).take (i + 1)).map encB) 16 := by
            have := fillL_set (z := AV.int .u8 0) (done := ((hexPad 16 n).take i).map encB) (n := 16) (by omega) (encB d)
            rw [hlen] at this
            rw [Nat.mul_one]
            have e6 : ((hexPad 16 n).take i).map encB ++ [encB d] = ((hexPad 16 n).take (i + 1)).map encB := by
              rw [List.take_add_one, hg, List.map_append]
              rfl
            rw [e6] at this
            exact this
          rw [e5]
          exact Again.mk (i + 1) (by simp -implicitDefEqProofs only [go_sem, tys, regs0, Nat.reduceEqDiff, Nat.reduceAdd, Nat.reduceLeDiff, Nat.reduceLT, Nat.reduceMul, Int.natCast_one, Int.natCast_zero, Int.reduceEq, Int.reduceLT, Int.reduceLE, Int.reduceAdd, Int.reduceSub, Int.reduceToNat, UInt8.reduceToNat, h0, h3, h5, h22, h23]; exact rfl) ⟨rfl, by omega⟩ (by omega)
        · simp only [decide_eq_false_iff_not] at h
          have e : i = 16 := by omega
          subst e
          simp -implicitDefEqProofs only [go_sem, tys, regs0, Nat.reduceEqDiff, Nat.reduceAdd, Nat.reduceLeDiff, Nat.reduceLT, Nat.reduceMul, Int.natCast_one, Int.natCast_zero, Int.reduceEq, Int.reduceLT, Int.reduceLE, Int.reduceAdd, Int.reduceSub, Int.reduceToNat, UInt8.reduceToNat, h0, h3, h5, h22, h23]
          have ef : fillL (AV.int .u8 0) (((hexPad 16 n).take 16).map encB) 16 = (hexPad 16 n).map encB := by
            rw [List.take_of_length_le (by rw [hexPad_len]; omega)]
            have := fillL_full (z := AV.int .u8 0) (done := (hexPad 16 n).map encB)
            rwa [List.length_map, hexPad_len] at this
          rw [ef]
          with_reducible refine conv_ms (l := hexPad 16 n) ?_ ?_ (put_same _ _ _) ?_ ?_ ?_
          · simp -implicitDefEqProofs only [go_sem, tys, regs0, Nat.reduceEqDiff, Nat.reduceAdd, Nat.reduceLeDiff, Nat.reduceLT, Nat.reduceMul, Int.natCast_one, Int.natCast_zero, Int.reduceEq, Int.reduceLT, Int.reduceLE, Int.reduceAdd, Int.reduceSub, Int.reduceToNat, UInt8.reduceToNat]
          · simp -implicitDefEqProofs only [go_sem, tys, regs0, Nat.reduceEqDiff, Nat.reduceAdd, Nat.reduceLeDiff, Nat.reduceLT, Nat.reduceMul, Int.natCast_one, Int.natCast_zero, Int.reduceEq, Int.reduceLT, Int.reduceLE, Int.reduceAdd, Int.reduceSub, Int.reduceToNat, UInt8.reduceToNat]
          · simp [hexPad_len]
          · rw [List.drop_zero, List.take_of_length_le (by simp [hexPad_len])]; rfl
          simp -implicitDefEqProofs only [go_sem, tys, regs0, Nat.reduceEqDiff, Nat.reduceAdd, Nat.reduceLeDiff, Nat.reduceLT, Nat.reduceMul, Int.natCast_one, Int.natCast_zero, Int.reduceEq, Int.reduceLT, Int.reduceLE, Int.reduceAdd, Int.reduceSub, Int.reduceToNat, UInt8.reduceToNat]
          exact Done.drop (fun i o ho => by rw [put_ne]; exact ho; intro e; subst e; rw [hid] at ho; cases ho) ⟨rfl, rfl⟩
/-! ### The reference's: the digits without zeros, and zeros before them -/
theorem isPow2_calls (H : Heap) : ACalls Tryd.prog 69 [.int .i64 16] H fun x H' => x = .bool true ∧ H' = H := by
  refine ACalls.of_code (X := { pure := puN }) puN_ok Tryd.func69 (by kernel_rfl) rfl (by kernel_rfl) (Nat.le_of_ble_eq_true rfl) ?_
  simp -implicitDefEqProofs only [go_sem, tys, regs0, Nat.reduceEqDiff, Nat.reduceAdd, Nat.reduceLeDiff, Nat.reduceLT, Nat.reduceMul, Int.natCast_one, Int.natCast_zero, Int.reduceEq, Int.reduceLT, Int.reduceLE, Int.reduceAdd, Int.reduceSub, Int.reduceToNat, UInt8.reduceToNat, Tryd.f69]
  exact Done.now ⟨by rw [show IntKind.i64.wrap 15 = 15 from by decide, show andI .i64 16 15 = 0 from by decide]; rfl, rfl⟩
theorem tz64_calls (H : Heap) : ACalls Tryd.prog 76 [.int .u64 16] H fun x H' => x = .int .i64 4 ∧ H' = H := by
  have e1 : IntKind.u64.wrap (-16) = 18446744073709551600 := by decide
  have e2 : andI .u64 16 18446744073709551600 = 16 := by decide
  have e3 : IntKind.u64.wrap (16 * 285870213051353865) = 4573923408821661840 := by decide
  have e4 : shrI .u64 4573923408821661840 58 = 15 := by decide
  have e5 : IntKind.i64.wrap 4 = 4 := by decide
  have e6 : IntKind.u64.wrap 4573923408821661840 = 4573923408821661840 := by decide
  refine ACalls.of_code (X := { pure := puN }) puN_ok Tryd.func76 (by kernel_rfl) rfl (by kernel_rfl) (Nat.le_of_ble_eq_true rfl) ?_
  simp -implicitDefEqProofs only [go_sem, tys, regs0, Nat.reduceEqDiff, Nat.reduceAdd, Nat.reduceLeDiff, Nat.reduceLT, Nat.reduceMul, Int.natCast_one, Int.natCast_zero, Int.reduceEq, Int.reduceLT, Int.reduceLE, Int.reduceAdd, Int.reduceSub, Int.reduceToNat, UInt8.reduceToNat, Tryd.f76, e1, e2, e3, e4, e5, e6, Int.reduceMul]
  exact Done.now ⟨rfl, rfl⟩
theorem tz_calls (H : Heap) : ACalls Tryd.prog 70 [.int .u64 16] H fun x H' => x = .int .i64 4 ∧ H' = H := by
  refine ACalls.of_code (X := { pure := pu0 }) pu0_ok Tryd.func70 (by kernel_rfl) rfl (by kernel_rfl) (Nat.le_of_ble_eq_true rfl) ?_
  simp -implicitDefEqProofs only [go_sem, tys, regs0, Nat.reduceEqDiff, Nat.reduceAdd, Nat.reduceLeDiff, Nat.reduceLT, Nat.reduceMul, Int.natCast_one, Int.natCast_zero, Int.reduceEq, Int.reduceLT, Int.reduceLE, Int.reduceAdd, Int.reduceSub, Int.reduceToNat, UInt8.reduceToNat, Tryd.f70]
  refine ACalls.pure_next _ (tz64_calls _) ?_
  simp -implicitDefEqProofs only [go_sem, tys, regs0, Nat.reduceEqDiff, Nat.reduceAdd, Nat.reduceLeDiff, Nat.reduceLT, Nat.reduceMul, Int.natCast_one, Int.natCast_zero, Int.reduceEq, Int.reduceLT, Int.reduceLE, Int.reduceAdd, Int.reduceSub, Int.reduceToNat, UInt8.reduceToNat]
  exact Done.now ⟨rfl, rfl⟩
def sPow2 : List AV → Option AV := fn1 (.int .i64) fun n => if n = 16 then some (.bool true) else none
theorem sPow2_eq (n : Int) : sPow2 [.int .i64 n] = if n = 16 then some (.bool true) else none := rfl
def sTz : List AV → Option AV := fn1 (.int .u64) fun n => if n = 16 then some (.int .i64 4) else none
theorem sTz_eq (n : Int) : sTz [.int .u64 n] = if n = 16 then some (.int .i64 4) else none := rfl
def puS1 : Pures := putP 70 sTz (putP 69 sPow2 puN)
theorem puS1_ok : PuOK Tryd.prog puS1 := by
  refine PuOK.put (PuOK.put puN_ok ?_) ?_ <;> intro xs v h H <;> obtain ⟨x, n, rfl, h1, h2⟩ := fn1_some h <;> cases Rd.int_some h1 <;> split at h2 <;> cases h2 <;> rename_i hn <;> subst hn
  · exact isPow2_calls H
  · exact tz_calls H
theorem pow4 (u k : Nat) (h : u < 16 ^ (k + 1)) : u / 16 < 16 ^ k := by
  rw [Nat.div_lt_iff_lt_mul (by omega), ← Nat.pow_succ]; exact h
set_option maxHeartbeats 1600000 in
theorem formatBits_calls (n : Nat) (hn : n < 18446744073709551616) (H : Heap) :
    ACalls Tryd.prog 55 [.sl [] .exact, .int .u64 n, .int .i64 16, .bool false, .bool false] H fun x H' => x = .tup [.sl [] .exact, .str (hexMin n)] ∧ H' = H := by
  have c1 : IntKind.u64.wrap 4 = 4 := by decide
  have c2 : IntKind.u64.wrap 16 = 16 := by decide
  have c3 : IntKind.u64.wrap 15 = 15 := by decide
  have c4 : IntKind.i64.wrap 64 = 64 := by decide
  refine ACalls.of_code (X := { pure := puS1 }) puS1_ok Tryd.func55 (by kernel_rfl) rfl (by kernel_rfl) (Nat.le_of_ble_eq_true rfl) ?_
  simp -implicitDefEqProofs only [go_sem, tys, regs0, Nat.reduceEqDiff, Nat.reduceAdd, Nat.reduceLeDiff, Nat.reduceLT, Nat.reduceMul, Int.natCast_one, Int.natCast_zero, Int.reduceEq, Int.reduceLT, Int.reduceLE, Int.reduceAdd, Int.reduceSub, Int.reduceToNat, UInt8.reduceToNat, Tryd.f55, puS1, sTz_eq, sPow2_eq, c1, c2, c3]
  refine nwC_intro fun id hid => ?_
  simp -implicitDefEqProofs only [go_sem, tys, regs0, Nat.reduceEqDiff, Nat.reduceAdd, Nat.reduceLeDiff, Nat.reduceLT, Nat.reduceMul, Int.natCast_one, Int.natCast_zero, Int.reduceEq, Int.reduceLT, Int.reduceLE, Int.reduceAdd, Int.reduceSub, Int.reduceToNat, UInt8.reduceToNat, puS1, sTz_eq, sPow2_eq, c1, c2, c3]
  have hz : ∀ l : List AV, l = fillR (.int .u8 0) 65 [] → H.put id (.cells l) = H.put id (.cells (fillR (.int .u8 0) 65 [])) := fun l h => by rw [h]
  rw [hz _ (by rfl)]
  clear hz
  refine aloop_intro (σ := Bytes × Nat) (fun p => [(1, .int .u64 p.2), (3, .bool false), (4, .bool false), (10, .sl [] .exact), (12, .ptr id 0), (13, .int .i64 ((65 - p.1.length : Nat) : Int)), (14, .int .u64 4), (15, .int .u64 16), (16, .int .u64 15)])
    (fun p G => G = H.put id (.cells (fillR (.int .u8 0) (65 - p.1.length) (p.1.map encB))) ∧ p.1.length ≤ 15 ∧ p.2 < 16 ^ (16 - p.1.length) ∧ hexMin n = hexMin p.2 ++ p.1) (fun p => p.2) ([], n) ?_ ?_ ?_
  · simp -implicitDefEqProofs only [go_sem, tys, regs0, Nat.reduceEqDiff, Nat.reduceAdd, Nat.reduceLeDiff, Nat.reduceLT, Nat.reduceMul, Int.natCast_one, Int.natCast_zero, Int.reduceEq, Int.reduceLT, Int.reduceLE, Int.reduceAdd, Int.reduceSub, Int.reduceToNat, UInt8.reduceToNat]
    rfl
  · exact ⟨rfl, by simp, by simpa using hn, by simp⟩
  · intro p r G hv hI
    have h1 := hv.1
    have h3 := hv.2.1
    have h4 := hv.2.2.1
    have h10 := hv.2.2.2.1
    have h12 := hv.2.2.2.2.1
    have h13 := hv.2.2.2.2.2.1
    have h14 := hv.2.2.2.2.2.2.1
    have h15 := hv.2.2.2.2.2.2.2.1
    have h16 := hv.2.2.2.2.2.2.2.2.1
    have hG := hI.1.symm
    have ht := hI.2.1
    have hu := hI.2.2.1
    have hm := hI.2.2.2
    clear hv hI
    subst hG
    obtain ⟨t, u⟩ := p
    simp only at h1 h13 ht hu hm ⊢
    simp -implicitDefEqProofs only [go_sem, tys, regs0, Nat.reduceEqDiff, Nat.reduceAdd, Nat.reduceLeDiff, Nat.reduceLT, Nat.reduceMul, Int.natCast_one, Int.natCast_zero, Int.reduceEq, Int.reduceLT, Int.reduceLE, Int.reduceAdd, Int.reduceSub, Int.reduceToNat, UInt8.reduceToNat, h1, h15]
    refine cnd_intro (fun h => ?_) (fun h => ?_)
    · simp only [decide_eq_true_eq] at h
      have hu16 : 16 ≤ u := by omega
      have hlen : t.length ≤ 14 := by
        rcases Nat.lt_or_ge t.length 15 with h | h
        · omega
        · have : t.length = 15 := by omega
          rw [this] at hu; simp at hu; omega
      have hub : u < 18446744073709551616 := Nat.lt_of_lt_of_le hu (by have := Nat.pow_le_pow_right (n := 16) (by omega) (show 16 - t.length ≤ 16 by omega); simpa using this)
      have e1 : (((65 - t.length : Nat) : Int) - 1).toNat = 65 - t.length - 1 := by omega
      have e2 := and15 u hub
      have e3 := dig_get36 (u % 16) (Nat.mod_lt _ (by omega))
      have e4 := shrN u 4 4 (by omega) (by omega)
      simp -implicitDefEqProofs (disch := omega) only [go_sem, tys, regs0, Nat.reduceEqDiff, Nat.reduceAdd, Nat.reduceLeDiff, Nat.reduceLT, Nat.reduceMul, Int.natCast_one, Int.natCast_zero, Int.reduceEq, Int.reduceLT, Int.reduceLE, Int.reduceAdd, Int.reduceSub, Int.reduceToNat, UInt8.reduceToNat, Go.IntWalk.i64_in, h1, h3, h4, h10, h12, h13, h14, h15, h16, e1, e2, e3, e4]
      have hset : (fillR (AV.int .u8 0) (65 - t.length) (t.map encB)).set ((65 - t.length - 1) * 1) (.int .u8 ((dig (u % 16)).toNat : Int)) = fillR (.int .u8 0) (65 - (dig (u % 16) :: t).length) ((dig (u % 16) :: t).map encB) := by
        rw [Nat.mul_one]
        have := fillR_set (z := AV.int .u8 0) (i := 65 - t.length) (t := t.map encB) (by omega) (encB (dig (u % 16)))
        rw [show 65 - (dig (u % 16) :: t).length = 65 - t.length - 1 from by simp; omega, List.map_cons]
        exact this
      rw [hset]
      refine ⟨⟨by omega, by omega⟩, by rw [fillR_len]; simp; omega, ?_⟩
      have hpos : (((65 - t.length : Nat) : Int) - 1) = ((65 - (dig (u % 16) :: t).length : Nat) : Int) := by simp; omega
      rw [hpos]
      refine Again.mk (dig (u % 16) :: t, u / 2 ^ 4) (by simp -implicitDefEqProofs only [go_sem, tys, regs0, Nat.reduceEqDiff, Nat.reduceAdd, Nat.reduceLeDiff, Nat.reduceLT, Nat.reduceMul, Int.natCast_one, Int.natCast_zero, Int.reduceEq, Int.reduceLT, Int.reduceLE, Int.reduceAdd, Int.reduceSub, Int.reduceToNat, UInt8.reduceToNat, h1, h3, h4, h10, h12, h13, h14, h15, h16]) ⟨rfl, by simp; omega, ?_, ?_⟩ (show u / 2 ^ 4 < u from by omega)
      · have : 16 - t.length = (16 - (dig (u % 16) :: t).length) + 1 := by simp; omega
        rw [this] at hu
        exact pow4 u _ hu
      · rw [hm, hexMin_big (by omega)]; simp
    · simp only [decide_eq_false_iff_not] at h
      have hu16 : u < 16 := by omega
      have e1 : (((65 - t.length : Nat) : Int) - 1).toNat = 65 - t.length - 1 := by omega
      have e3 := dig_get36 u hu16
      simp -implicitDefEqProofs (disch := omega) only [go_sem, tys, regs0, Nat.reduceEqDiff, Nat.reduceAdd, Nat.reduceLeDiff, Nat.reduceLT, Nat.reduceMul, Int.natCast_one, Int.natCast_zero, Int.reduceEq, Int.reduceLT, Int.reduceLE, Int.reduceAdd, Int.reduceSub, Int.reduceToNat, UInt8.reduceToNat, Go.IntWalk.i64_in, h1, h3, h4, h10, h12, h13, h14, h15, h16, e1, e3]
      have hset : (fillR (AV.int .u8 0) (65 - t.length) (t.map encB)).set ((65 - t.length - 1) * 1) (.int .u8 ((dig u).toNat : Int)) = fillR (.int .u8 0) (65 - t.length - 1) ((dig u :: t).map encB) := by
        rw [Nat.mul_one]
        exact fillR_set (z := AV.int .u8 0) (i := 65 - t.length) (t := t.map encB) (by omega) (encB (dig u))
      rw [hset]
      have hl2 : (fillR (AV.int .u8 0) (65 - t.length - 1) ((dig u :: t).map encB)).length = 65 := by rw [fillR_len]; simp; omega
      have hn2 : (65 - (((65 - t.length : Nat) : Int) - 1)).toNat = (dig u :: t).length := by simp; omega
      rw [hl2, hn2, Nat.mul_one]
      refine ⟨⟨by omega, by omega⟩, by rw [fillR_len]; simp; omega, by omega, by omega, by omega, ?_⟩
      with_reducible refine conv_ms (l := dig u :: t) ?_ ?_ (put_same _ _ _) ?_ ?_ ?_
      · simp -implicitDefEqProofs only [go_sem, tys, regs0, Nat.reduceEqDiff, Nat.reduceAdd, Nat.reduceLeDiff, Nat.reduceLT, Nat.reduceMul, Int.natCast_one, Int.natCast_zero, Int.reduceEq, Int.reduceLT, Int.reduceLE, Int.reduceAdd, Int.reduceSub, Int.reduceToNat, UInt8.reduceToNat]
      · simp -implicitDefEqProofs only [go_sem, tys, regs0, Nat.reduceEqDiff, Nat.reduceAdd, Nat.reduceLeDiff, Nat.reduceLT, Nat.reduceMul, Int.natCast_one, Int.natCast_zero, Int.reduceEq, Int.reduceLT, Int.reduceLE, Int.reduceAdd, Int.reduceSub, Int.reduceToNat, UInt8.reduceToNat]
      · rw [hl2]; simp; omega
      · rw [fillR_drop, List.take_of_length_le (by simp)]; rfl
      simp -implicitDefEqProofs only [go_sem, tys, regs0, Nat.reduceEqDiff, Nat.reduceAdd, Nat.reduceLeDiff, Nat.reduceLT, Nat.reduceMul, Int.natCast_one, Int.natCast_zero, Int.reduceEq, Int.reduceLT, Int.reduceLE, Int.reduceAdd, Int.reduceSub, Int.reduceToNat, UInt8.reduceToNat, h1, h3, h4, h10, h12, h13, h14, h15, h16]
      refine Done.drop (fun i o ho => by rw [put_ne]; exact ho; intro e; subst e; rw [hid] at ho; cases ho) ⟨?_, rfl⟩
      rw [hm, hexMin_small hu16]; rfl
end Go.Proofs

/- Walks: the reference's SumOf. -/
namespace Go.Proofs
open Go Go.Abs
set_option linter.unusedSimpArgs false
set_option linter.unusedVariables false
def preB (p s : Bytes) : Bool := decide (s.take p.length = p)
theorem preB_long {p s : Bytes} (h : s.length < p.length) : preB p s = false := by
  unfold preB
  rw [decide_eq_false_iff_not]
  intro e
  have := congrArg List.length e
  rw [List.length_take] at this
  omega
def sPre : List AV → Option AV := fn2 .str .str fun s p => some (.bool (preB p s))
theorem sPre_eq (s p : Bytes) : sPre [.str s, .str p] = some (.bool (preB p s)) := rfl
theorem sPre_ok {P : Program} {f : FuncId} (h : ∀ s p H, ACalls P f [.str s, .str p] H fun x H' => x = .bool (preB p s) ∧ H' = H) : ∀ xs v, sPre xs = some v → ∀ H, ACalls P f xs H fun x H' => x = v ∧ H' = H := by
  intro xs v hv H
  obtain ⟨x, y, p, q, rfl, h1, h2, h3⟩ := fn2_some hv
  cases h3
  cases Rd.str_some h1
  cases Rd.str_some h2
  exact h _ _ _
theorem hasPrefixL_calls (s p : Bytes) (H : Heap) : ACalls Tryd.prog 58 [.str s, .str p] H fun x H' => x = .bool (preB p s) ∧ H' = H := by
  refine ACalls.of_code (X := { pure := puS1 }) puS1_ok Tryd.func58 (by kernel_rfl) rfl (by kernel_rfl) (Nat.le_of_ble_eq_true rfl) ?_
  simp -implicitDefEqProofs only [go_sem, tys, regs0, Nat.reduceEqDiff, Nat.reduceAdd, Nat.reduceLeDiff, Nat.reduceLT, Nat.reduceMul, Int.natCast_one, Int.natCast_zero, Int.reduceEq, Int.reduceLT, Int.reduceLE, Int.reduceAdd, Int.reduceSub, Int.reduceToNat, UInt8.reduceToNat, Tryd.f58]
  refine gd_intro (fun h => ?_) (fun h => ?_)
  · have h' := h
    simp only [decide_eq_true_eq] at h'
    simp -implicitDefEqProofs only [go_sem, tys, regs0, Nat.reduceEqDiff, Nat.reduceAdd, Nat.reduceLeDiff, Nat.reduceLT, Nat.reduceMul, Int.natCast_one, Int.natCast_zero, Int.reduceEq, Int.reduceLT, Int.reduceLE, Int.reduceAdd, Int.reduceSub, Int.reduceToNat, UInt8.reduceToNat, h, Int.toNat_natCast]
    exact ⟨h', Done.now ⟨rfl, rfl⟩⟩
  · have h' := h
    simp only [decide_eq_false_iff_not] at h'
    simp -implicitDefEqProofs only [go_sem, tys, regs0, Nat.reduceEqDiff, Nat.reduceAdd, Nat.reduceLeDiff, Nat.reduceLT, Nat.reduceMul, Int.natCast_one, Int.natCast_zero, Int.reduceEq, Int.reduceLT, Int.reduceLE, Int.reduceAdd, Int.reduceSub, Int.reduceToNat, UInt8.reduceToNat, h]
    exact Done.now ⟨by rw [preB_long (by omega)], rfl⟩
def puS2 : Pures := putP 58 sPre puS1
theorem puS2_ok : PuOK Tryd.prog puS2 := .put (puS1_ok) (sPre_ok hasPrefixL_calls)
theorem hasPrefix_calls (s p : Bytes) (H : Heap) : ACalls Tryd.prog 46 [.str s, .str p] H fun x H' => x = .bool (preB p s) ∧ H' = H := by
  refine ACalls.of_code (X := { pure := puS2 }) puS2_ok Tryd.func46 (by kernel_rfl) rfl (by kernel_rfl) (Nat.le_of_ble_eq_true rfl) ?_
  simp -implicitDefEqProofs only [go_sem, tys, regs0, Nat.reduceEqDiff, Nat.reduceAdd, Nat.reduceLeDiff, Nat.reduceLT, Nat.reduceMul, Int.natCast_one, Int.natCast_zero, Int.reduceEq, Int.reduceLT, Int.reduceLE, Int.reduceAdd, Int.reduceSub, Int.reduceToNat, UInt8.reduceToNat, Tryd.f46, puS2, sPre_eq]
  exact Done.now ⟨rfl, rfl⟩
theorem mul64_calls (k : Nat) (hk : k ≤ 16) (H : Heap) : ACalls Tryd.prog 57 [.int .u64 1, .int .u64 k] H fun x H' => x = .tup [.int .u64 0, .int .u64 k] ∧ H' = H := by
  have a1 : andI .u64 1 4294967295 = 1 := by decide
  have a2 : shrI .u64 1 32 = 0 := by decide
  have a3 : andI .u64 0 4294967295 = 0 := by decide
  have a4 : shrI .u64 0 32 = 0 := by decide
  have a5 := and32 k (by omega)
  have a6 := shr32 k (by omega)
  have a7 : IntKind.u64.wrap k = k := Go.IntWalk.u64_in _ (by omega)
  have a8 : IntKind.u64.wrap 0 = 0 := by decide
  refine ACalls.of_code (X := { pure := puS2 }) puS2_ok Tryd.func57 (by kernel_rfl) rfl (by kernel_rfl) (Nat.le_of_ble_eq_true rfl) ?_
  simp -implicitDefEqProofs only [go_sem, tys, regs0, Nat.reduceEqDiff, Nat.reduceAdd, Nat.reduceLeDiff, Nat.reduceLT, Nat.reduceMul, Int.natCast_one, Int.natCast_zero, Int.reduceEq, Int.reduceLT, Int.reduceLE, Int.reduceAdd, Int.reduceSub, Int.reduceToNat, UInt8.reduceToNat, Tryd.f57, a1, a2, a3, a4, a5, a6, a7, a8, Int.one_mul, Int.zero_mul, Int.mul_zero, Int.add_zero, Int.zero_add]
  exact Done.now ⟨rfl, rfl⟩
def sMul : List AV → Option AV := fn2 (.int .u64) (.int .u64) fun a b => if a = 1 ∧ 0 ≤ b ∧ b ≤ 16 then some (.tup [.int .u64 0, .int .u64 b]) else none
theorem sMul_eq (a b : Int) : sMul [.int .u64 a, .int .u64 b] = if a = 1 ∧ 0 ≤ b ∧ b ≤ 16 then some (.tup [.int .u64 0, .int .u64 b]) else none := rfl
theorem sMul_ok {P : Program} {f : FuncId} (h : ∀ (k : Nat), k ≤ 16 → ∀ H, ACalls P f [.int .u64 1, .int .u64 k] H fun x H' => x = .tup [.int .u64 0, .int .u64 k] ∧ H' = H) : ∀ xs v, sMul xs = some v → ∀ H, ACalls P f xs H fun x H' => x = v ∧ H' = H := by
  intro xs v hv H
  obtain ⟨x, y, p, q, rfl, h1, h2, h3⟩ := fn2_some hv
  cases Rd.int_some h1
  cases Rd.int_some h2
  split at h3
  · rename_i hc
    obtain ⟨rfl, h0, h16⟩ := hc
    cases h3
    obtain ⟨k, rfl⟩ : ∃ k : Nat, q = k := ⟨q.toNat, by omega⟩
    exact h k (by omega) H
  · cases h3
def puS3 : Pures := putP 57 sMul (putP 46 sPre puS2)
theorem puS3_ok : PuOK Tryd.prog puS3 := .put (.put (puS2_ok) (sPre_ok hasPrefix_calls)) (sMul_ok mul64_calls)
theorem mul_calls (k : Nat) (hk : k ≤ 16) (H : Heap) : ACalls Tryd.prog 45 [.int .u64 1, .int .u64 k] H fun x H' => x = .tup [.int .u64 0, .int .u64 k] ∧ H' = H := by
  have hk' : (0 : Int) ≤ k ∧ (k : Int) ≤ 16 := by omega
  refine ACalls.of_code (X := { pure := puS3 }) puS3_ok Tryd.func45 (by kernel_rfl) rfl (by kernel_rfl) (Nat.le_of_ble_eq_true rfl) ?_
  simp -implicitDefEqProofs only [go_sem, tys, regs0, Nat.reduceEqDiff, Nat.reduceAdd, Nat.reduceLeDiff, Nat.reduceLT, Nat.reduceMul, Int.natCast_one, Int.natCast_zero, Int.reduceEq, Int.reduceLT, Int.reduceLE, Int.reduceAdd, Int.reduceSub, Int.reduceToNat, UInt8.reduceToNat, Tryd.f45, puS3, sMul_eq, hk']
  exact Done.now ⟨rfl, rfl⟩
def puS4 : Pures := putP 45 sMul puS3
theorem puS4_ok : PuOK Tryd.prog puS4 := .put (puS3_ok) (sMul_ok mul_calls)
theorem preB_ne (a : UInt8) (h : a ≠ 48) (l m : Bytes) : preB [48] ((a :: l).append m) = false := by
  unfold preB
  rw [decide_eq_false_iff_not]
  intro e
  have := congrArg List.head? e
  simp at this
  exact h this
theorem preB_eq48 (l : Bytes) : preB [48] (48 :: l) = true := by simp [preB]
theorem zeros (k : Nat) (h : k ≤ 64) : ((List.replicate 64 48 : Bytes).take k) = List.replicate k 48 := by rw [List.take_replicate, Nat.min_eq_left h]
set_option maxHeartbeats 1600000 in
set_option maxRecDepth 100000 in
theorem repeat_calls (k : Nat) (hk : k ≤ 16) (H : Heap) : ACalls Tryd.prog 37 [.str [48], .int .i64 k] H fun x H' => x = .str (List.replicate k 48) ∧ H' = H := by
  have a0 : IntKind.u64.wrap k = k := Go.IntWalk.u64_in _ (by omega)
  have a1 : IntKind.u64.wrap 1 = 1 := by decide
  have a2 : IntKind.i64.wrap k = k := Go.IntWalk.i64_in _ (by omega)
  have hk' : (0 : Int) ≤ k ∧ (k : Int) ≤ 16 := by omega
  have d1 : decide ((k : Int) < 0) = false := by simp
  have d2 : decide ((9223372036854775807 : Int) < k) = false := by simp; omega
  have d3 : decide ((k : Int) ≤ 128) = true := by simp; omega
  have d4 : decide ((k : Int) ≤ 64) = true := by simp; omega
  by_cases k0 : k = 0
  · subst k0
    refine ACalls.of_code (X := { pure := puS4 }) puS4_ok Tryd.func37 (by kernel_rfl) rfl (by kernel_rfl) (Nat.le_of_ble_eq_true rfl) ?_
    simp -implicitDefEqProofs only [go_sem, tys, regs0, Nat.reduceEqDiff, Nat.reduceAdd, Nat.reduceLeDiff, Nat.reduceLT, Nat.reduceMul, Int.natCast_one, Int.natCast_zero, Int.reduceEq, Int.reduceLT, Int.reduceLE, Int.reduceAdd, Int.reduceSub, Int.reduceToNat, UInt8.reduceToNat, Tryd.f37]
    exact Done.now ⟨rfl, rfl⟩
  by_cases k1 : k = 1
  · subst k1
    refine ACalls.of_code (X := { pure := puS4 }) puS4_ok Tryd.func37 (by kernel_rfl) rfl (by kernel_rfl) (Nat.le_of_ble_eq_true rfl) ?_
    simp -implicitDefEqProofs only [go_sem, tys, regs0, Nat.reduceEqDiff, Nat.reduceAdd, Nat.reduceLeDiff, Nat.reduceLT, Nat.reduceMul, Int.natCast_one, Int.natCast_zero, Int.reduceEq, Int.reduceLT, Int.reduceLE, Int.reduceAdd, Int.reduceSub, Int.reduceToNat, UInt8.reduceToNat, Tryd.f37]
    exact Done.now ⟨rfl, rfl⟩
  have d5 : decide ((k : Int) = 0) = false := by simp; omega
  have d6 : decide ((k : Int) = 1) = false := by simp; omega
  have q1 := preB_ne 32 (by decide)
  have q2 := preB_ne 45 (by decide)
  refine ACalls.of_code (X := { pure := puS4 }) puS4_ok Tryd.func37 (by kernel_rfl) rfl (by kernel_rfl) (Nat.le_of_ble_eq_true rfl) ?_
  simp -implicitDefEqProofs only [go_sem, tys, regs0, Nat.reduceEqDiff, Nat.reduceAdd, Nat.reduceLeDiff, Nat.reduceLT, Nat.reduceMul, Int.natCast_one, Int.natCast_zero, Int.reduceEq, Int.reduceLT, Int.reduceLE, Int.reduceAdd, Int.reduceSub, Int.reduceToNat, UInt8.reduceToNat, Tryd.f37, puS4, puS3, sPre_eq, sMul_eq, hk', a0, a1, a2, d1, d2, d3, d4, d5, d6, q1, q2, preB_eq48]
  exact ⟨by omega, Done.now ⟨congrArg AV.str (zeros k (by omega)), rfl⟩⟩
def sFB : List AV → Option AV
  | [.sl [] .exact, .int .u64 u, .int .i64 b, .bool false, .bool false] => if 0 ≤ u ∧ u < 18446744073709551616 ∧ b = 16 then some (.tup [.sl [] .exact, .str (hexMin u.toNat)]) else none
  | _ => none
theorem sFB_eq (n : Nat) : sFB [.sl [] .exact, .int .u64 n, .int .i64 16, .bool false, .bool false] = if n < 18446744073709551616 then some (.tup [.sl [] .exact, .str (hexMin n)]) else none := by
  by_cases h : n < 18446744073709551616
  · have : (0 : Int) ≤ n ∧ (n : Int) < 18446744073709551616 ∧ (16 : Int) = 16 := by omega
    simp [sFB, h]
    omega
  · have : ¬ (n : Int) < 18446744073709551616 := by omega
    simp [sFB, h, this]
def puS5 : Pures := putP 55 sFB puS4
theorem puS5_ok : PuOK Tryd.prog puS5 := by
  refine PuOK.put puS4_ok ?_
  intro xs v h H
  unfold sFB at h
  split at h
  · split at h
    · rename_i u b hc
      obtain ⟨h0, h1, rfl⟩ := hc
      cases h
      obtain ⟨n, rfl⟩ : ∃ n : Nat, u = n := ⟨u.toNat, by omega⟩
      exact formatBits_calls n (by omega) H
    · cases h
  · cases h
theorem formatUintI_calls (n : Nat) (hn : n < 18446744073709551616) (H : Heap) : ACalls Tryd.prog 44 [.int .u64 n, .int .i64 16] H fun x H' => x = .str (hexMin n) ∧ H' = H := by
  refine ACalls.of_code (X := { pure := puS5 }) puS5_ok Tryd.func44 (by kernel_rfl) rfl (by kernel_rfl) (Nat.le_of_ble_eq_true rfl) ?_
  simp -implicitDefEqProofs only [go_sem, tys, regs0, Nat.reduceEqDiff, Nat.reduceAdd, Nat.reduceLeDiff, Nat.reduceLT, Nat.reduceMul, Int.natCast_one, Int.natCast_zero, Int.reduceEq, Int.reduceLT, Int.reduceLE, Int.reduceAdd, Int.reduceSub, Int.reduceToNat, UInt8.reduceToNat, Tryd.f44, puS5, sFB_eq, hn]
  exact Done.now ⟨rfl, rfl⟩
def fitsU (u : Int) : Bool := decide (0 ≤ u) && decide (u < 18446744073709551616)
theorem fitsU_nat {n : Nat} (h : n < 18446744073709551616) : fitsU (n : Int) = true := by simp [fitsU]; omega
theorem fitsU_out {u : Int} (h : fitsU u = true) : 0 ≤ u ∧ u < 18446744073709551616 := by simpa [fitsU] using h
def sFU : List AV → Option AV := fn2 (.int .u64) (.int .i64) fun u b => if fitsU u = true ∧ b = 16 then some (.str (hexMin u.toNat)) else none
theorem sFU_eq0 (x y : Int) : sFU [.int .u64 x, .int .i64 y] = if fitsU x = true ∧ y = 16 then some (.str (hexMin x.toNat)) else none := by
  simp only [sFU, fn2_eq, Rd.int_eq, Option.bind_some]
theorem sFU_eq (n : Nat) (hn : n < 18446744073709551616) : sFU [.int .u64 n, .int .i64 16] = some (.str (hexMin n)) := by
  rw [sFU_eq0, if_pos ⟨fitsU_nat hn, rfl⟩, Int.toNat_natCast]
theorem sFU_ok {P : Program} {f : FuncId} (h : ∀ (n : Nat), n < 18446744073709551616 → ∀ H, ACalls P f [.int .u64 n, .int .i64 16] H fun x H' => x = .str (hexMin n) ∧ H' = H) : ∀ xs v, sFU xs = some v → ∀ H, ACalls P f xs H fun x H' => x = v ∧ H' = H := by
  intro xs v hv H
  obtain ⟨x, y, p, q, rfl, h1, h2, h3⟩ := fn2_some hv
  cases Rd.int_some h1
  cases Rd.int_some h2
  split at h3
  · rename_i hc
    obtain ⟨hf, rfl⟩ := hc
    obtain ⟨h0, h16⟩ := fitsU_out hf
    cases h3
    obtain ⟨k, rfl⟩ : ∃ k : Nat, p = k := ⟨p.toNat, by omega⟩
    exact h k (by omega) H
  · cases h3
def puS6 : Pures := putP 44 sFU puS5
theorem puS6_ok : PuOK Tryd.prog puS6 := .put (puS5_ok) (sFU_ok formatUintI_calls)
theorem formatUint_calls (n : Nat) (hn : n < 18446744073709551616) (H : Heap) : ACalls Tryd.prog 36 [.int .u64 n, .int .i64 16] H fun x H' => x = .str (hexMin n) ∧ H' = H := by
  refine ACalls.of_code (X := { pure := puS6 }) puS6_ok Tryd.func36 (by kernel_rfl) rfl (by kernel_rfl) (Nat.le_of_ble_eq_true rfl) ?_
  simp -implicitDefEqProofs only [go_sem, tys, regs0, Nat.reduceEqDiff, Nat.reduceAdd, Nat.reduceLeDiff, Nat.reduceLT, Nat.reduceMul, Int.natCast_one, Int.natCast_zero, Int.reduceEq, Int.reduceLT, Int.reduceLE, Int.reduceAdd, Int.reduceSub, Int.reduceToNat, UInt8.reduceToNat, Tryd.f36, puS6, sFU_eq n hn]
  exact Done.now ⟨rfl, rfl⟩
def sRep : List AV → Option AV := fn2 .str (.int .i64) fun s k => if s = [48] ∧ 0 ≤ k ∧ k ≤ 16 then some (.str (List.replicate k.toNat 48)) else none
theorem sRep_eq (k : Nat) (hk : k ≤ 16) : sRep [.str [48], .int .i64 k] = some (.str (List.replicate k 48)) := by
  have h : ([48] : Bytes) = [48] ∧ (0 : Int) ≤ k ∧ (k : Int) ≤ 16 := ⟨rfl, by omega, by omega⟩
  simp only [sRep, fn2_eq, Rd.int_eq, Rd.str_eq, Option.bind_some]
  rw [if_pos ⟨trivial, h.2⟩, Int.toNat_natCast]
def puS7 : Pures := putP 37 sRep (putP 36 sFU puS6)
theorem puS7_ok : PuOK Tryd.prog puS7 := by
  refine PuOK.put (PuOK.put puS6_ok (sFU_ok formatUint_calls)) ?_
  intro xs v hv H
  obtain ⟨x, y, p, q, rfl, h1, h2, h3⟩ := fn2_some hv
  cases Rd.str_some h1
  cases Rd.int_some h2
  split at h3
  · rename_i hc
    obtain ⟨rfl, h0, h16⟩ := hc
    cases h3
    obtain ⟨k, rfl⟩ : ∃ k : Nat, q = k := ⟨q.toNat, by omega⟩
    exact repeat_calls k (by omega) H
  · cases h3
theorem rSumOf_calls (s : Bytes) (H : Heap) (hs : s.length ≤ Room) : ACalls Tryd.prog 19 [.str s] H fun x H' => x = .str (sumOf s) ∧ H' = H := by
  have hR : Room = 1099511627776 := rfl
  rw [hR] at hs
  clear hR
  refine ACalls.of_code (X := { pure := puS7 }) puS7_ok Tryd.func19 (by kernel_rfl) rfl (by kernel_rfl) (Nat.le_of_ble_eq_true rfl) ?_
  simp -implicitDefEqProofs only [go_sem, tys, regs0, Nat.reduceEqDiff, Nat.reduceAdd, Nat.reduceLeDiff, Nat.reduceLT, Nat.reduceMul, Int.natCast_one, Int.natCast_zero, Int.reduceEq, Int.reduceLT, Int.reduceLE, Int.reduceAdd, Int.reduceSub, Int.reduceToNat, UInt8.reduceToNat, Tryd.f19]
  refine aloop_intro (σ := Nat) (fun i => [(0, .str s), (3, .int .u64 (fnv (s.take i))), (7, .int .i64 s.length), (8, .int .i64 i)]) (fun i G => G = H ∧ i ≤ s.length) (fun i => s.length - i) 0 ?_ ?_ ?_
  · simp -implicitDefEqProofs only [go_sem, tys, regs0, Nat.reduceEqDiff, Nat.reduceAdd, Nat.reduceLeDiff, Nat.reduceLT, Nat.reduceMul, Int.natCast_one, Int.natCast_zero, Int.reduceEq, Int.reduceLT, Int.reduceLE, Int.reduceAdd, Int.reduceSub, Int.reduceToNat, UInt8.reduceToNat]
    simp [fnv]
  · simp
  · intro i r G hv hI
    have h0 := hv.1
    have h3 := hv.2.1
    have h7 := hv.2.2.1
    have h8 := hv.2.2.2.1
    have hG := hI.1.symm
    have hi := hI.2
    clear hv hI
    subst hG
    simp -implicitDefEqProofs only [go_sem, tys, regs0, Nat.reduceEqDiff, Nat.reduceAdd, Nat.reduceLeDiff, Nat.reduceLT, Nat.reduceMul, Int.natCast_one, Int.natCast_zero, Int.reduceEq, Int.reduceLT, Int.reduceLE, Int.reduceAdd, Int.reduceSub, Int.reduceToNat, UInt8.reduceToNat, h0, h3, h7, h8]
    refine cnd_intro (fun h => ?_) (fun h => ?_)
    · simp only [decide_eq_true_eq] at h
      obtain ⟨c, hc⟩ : ∃ c, s[i]? = some c := ⟨s[i]'(by omega), List.getElem?_eq_getElem _⟩
      simp -implicitDefEqProofs (disch := omega) only [go_sem, tys, regs0, Nat.reduceEqDiff, Nat.reduceAdd, Nat.reduceLeDiff, Nat.reduceLT, Nat.reduceMul, Int.natCast_one, Int.natCast_zero, Int.reduceEq, Int.reduceLT, Int.reduceLE, Int.reduceAdd, Int.reduceSub, Int.reduceToNat, UInt8.reduceToNat, Go.IntWalk.i64_in, h0, h3, h7, h8, hc, u64_byte]
      refine Again.mk (i + 1) (by simp -implicitDefEqProofs only [go_sem, tys, regs0, Nat.reduceEqDiff, Nat.reduceAdd, Nat.reduceLeDiff, Nat.reduceLT, Nat.reduceMul, Int.natCast_one, Int.natCast_zero, Int.reduceEq, Int.reduceLT, Int.reduceLE, Int.reduceAdd, Int.reduceSub, Int.reduceToNat, UInt8.reduceToNat, h0, h3, h7, h8]; rw [fnv_succ hc]; exact ⟨rfl, rfl⟩) ⟨rfl, by omega⟩ (by omega)
    · simp only [decide_eq_false_iff_not] at h
      have e : i = s.length := by omega
      subst e
      rw [List.take_length, fnvN_eq] at h3
      have hn := fnvN_lt s
      unfold sumOf
      generalize fnvN s = n at *
      obtain ⟨hl, hp⟩ := hexMin_pad 15 n (by simpa using hn)
      have e1 : (16 : Int) - ((hexMin n).length : Int) = ((16 - (hexMin n).length : Nat) : Int) := by omega
      have e2 := sRep_eq (16 - (hexMin n).length) (by omega)
      have e3 := sFU_eq n hn
      have e4 : ((16 - (hexMin n).length : Nat) : Int) = ((16 - (hexMin n).length : Nat) : Int) := rfl
      simp -implicitDefEqProofs (disch := omega) only [go_sem, tys, regs0, Nat.reduceEqDiff, Nat.reduceAdd, Nat.reduceLeDiff, Nat.reduceLT, Nat.reduceMul, Int.natCast_one, Int.natCast_zero, Int.reduceEq, Int.reduceLT, Int.reduceLE, Int.reduceAdd, Int.reduceSub, Int.reduceToNat, UInt8.reduceToNat, Go.IntWalk.i64_in, h0, h3, h7, h8, puS7, e3, e1, e2]
      exact ⟨by simp; omega, Done.now ⟨congrArg AV.str hp.symm, rfl⟩⟩
def sSum : List AV → Option AV := fn1 .str fun s => if s.length ≤ Room then some (.str (sumOf s)) else none
theorem sSum_eq (s : Bytes) : sSum [.str s] = if s.length ≤ Room then some (.str (sumOf s)) else none := rfl
theorem sSum_ok {P : Program} {f : FuncId} (h : ∀ s H, s.length ≤ Room → ACalls P f [.str s] H fun x H' => x = .str (sumOf s) ∧ H' = H) : ∀ xs v, sSum xs = some v → ∀ H, ACalls P f xs H fun x H' => x = v ∧ H' = H := by
  intro xs v hv H
  obtain ⟨x, s, rfl, h1, h2⟩ := fn1_some hv
  split at h2
  · cases h2
    cases Rd.str_some h1
    exact h s H ‹_›
  · cases h2
def puM : Pures := putP 16 sSum (putP 19 sSum puN)
theorem puM_ok : PuOK Tryd.prog puM := .put (.put (puN_ok) (sSum_ok rSumOf_calls)) (sSum_ok sumOf_calls)
end Go.Proofs
