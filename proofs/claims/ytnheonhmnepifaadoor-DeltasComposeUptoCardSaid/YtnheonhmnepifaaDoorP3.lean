/- The sum of a text: plain Lean, no program. -/
import Derived.Test.YtnheonhmnepifaaDoorP2
import Derived.Test.YtnheonhmnepifaaDoorAbs4
namespace Go.Proofs
open Go Go.Abs
set_option linter.unusedSimpArgs false
set_option linter.unusedVariables false
/-- The digit of a number below 16. -/
def dig (n : Nat) : UInt8 := ([48, 49, 50, 51, 52, 53, 54, 55, 56, 57, 97, 98, 99, 100, 101, 102] : List UInt8).getD n 0
/-- So many digits of a number. -/
def hexPad : Nat → Nat → Bytes
  | 0, _ => []
  | k + 1, n => hexPad k (n / 16) ++ [dig (n % 16)]
def hexMin (n : Nat) : Bytes := if h : n < 16 then [dig n] else hexMin (n / 16) ++ [dig (n % 16)]
termination_by n
decreasing_by omega
theorem hexMin_small {n : Nat} (h : n < 16) : hexMin n = [dig n] := by rw [hexMin, dif_pos h]
theorem hexMin_big {n : Nat} (h : ¬ n < 16) : hexMin n = hexMin (n / 16) ++ [dig (n % 16)] := by rw [hexMin, dif_neg h]
theorem hexPad_zero : ∀ k, hexPad k 0 = List.replicate k 48
  | 0 => rfl
  | k + 1 => by
    rw [hexPad, show 0 / 16 = 0 from rfl, hexPad_zero k, List.replicate_succ']
    rfl
theorem hexPad_len : ∀ k n, (hexPad k n).length = k
  | 0, _ => rfl
  | k + 1, n => by simp [hexPad, hexPad_len k]
theorem hexMin_pad : ∀ (k n : Nat), n < 16 ^ (k + 1) → (hexMin n).length ≤ k + 1 ∧ hexPad (k + 1) n = List.replicate (k + 1 - (hexMin n).length) 48 ++ hexMin n := by
  intro k
  induction k with
  | zero =>
    intro n h
    have h : n < 16 := by simpa using h
    rw [hexMin_small h, hexPad, hexPad]
    simp [Nat.mod_eq_of_lt h]
  | succ k ih =>
    intro n h
    by_cases hn : n < 16
    · rw [hexMin_small hn, hexPad, show n / 16 = 0 from by omega, hexPad_zero, Nat.mod_eq_of_lt hn]
      simp
    · have hd : n / 16 < 16 ^ (k + 1) := by
        rw [Nat.div_lt_iff_lt_mul (by omega)]
        have : 16 ^ (k + 1 + 1) = 16 ^ (k + 1) * 16 := Nat.pow_succ ..
        omega
      obtain ⟨i1, i2⟩ := ih (n / 16) hd
      rw [hexMin_big hn, hexPad, i2]
      refine ⟨by simp; omega, ?_⟩
      rw [← List.append_assoc]
      congr 3
      simp
theorem hexPad_get : ∀ (k n i : Nat), i < k → (hexPad k n)[i]? = some (dig (n / 16 ^ (k - 1 - i) % 16))
  | 0, _, _, h => by omega
  | k + 1, n, i, h => by
    rw [hexPad]
    by_cases hi : i < k
    · rw [List.getElem?_append_left (by rw [hexPad_len]; exact hi), hexPad_get k _ i hi]
      have e : k + 1 - 1 - i = (k - 1 - i) + 1 := by omega
      rw [e, Nat.pow_succ, Nat.mul_comm, Nat.div_div_eq_div_mul]
    · have e : i = k := by omega
      subst e
      rw [List.getElem?_append_right (by rw [hexPad_len]; omega), hexPad_len]
      simp
theorem pow16 : ∀ i, i < 16 → 16 ^ (16 - 1 - i) = 2 ^ (60 - 4 * i) := by decide
theorem hexPad_get2 (n i : Nat) (h : i < 16) : (hexPad 16 n)[i]? = some (dig (n / 2 ^ (60 - 4 * i) % 16)) := by
  rw [← pow16 i h]; exact hexPad_get 16 n i h
/-- One step of the sum, as the machine takes it. -/
def fnvStep (h : Int) (c : UInt8) : Int := IntKind.u64.wrap (xorI .u64 h (c.toNat : Int) * 1099511628211)
def fnv (s : Bytes) : Int := s.foldl fnvStep 14695981039346656037
theorem fnv_succ {s : Bytes} {i : Nat} {c : UInt8} (hc : s[i]? = some c) : fnv (s.take (i + 1)) = fnvStep (fnv (s.take i)) c := by
  unfold fnv
  rw [List.take_add_one, hc]
  simp
theorem u64_range (n : Int) : 0 ≤ IntKind.u64.wrap n ∧ IntKind.u64.wrap n < 18446744073709551616 := by
  have h1 : IntKind.u64.wrap n = n % 18446744073709551616 := by
    unfold IntKind.wrap
    simp [IntKind.signed, IntKind.bits]
  rw [h1]; omega
theorem fnvStep_range (h : Int) (c : UInt8) : 0 ≤ fnvStep h c ∧ fnvStep h c < 18446744073709551616 := u64_range _
theorem foldl_range (s : Bytes) : ∀ h : Int, 0 ≤ h ∧ h < 18446744073709551616 → 0 ≤ s.foldl fnvStep h ∧ s.foldl fnvStep h < 18446744073709551616 := by
  induction s with
  | nil => intro h hh; exact hh
  | cons c s ih => intro h _; exact ih _ (fnvStep_range _ _)
theorem fnv_range (s : Bytes) : 0 ≤ fnv s ∧ fnv s < 18446744073709551616 := foldl_range s _ (by omega)
def fnvN (s : Bytes) : Nat := (fnv s).toNat
theorem fnvN_eq (s : Bytes) : fnv s = (fnvN s : Int) := by have := fnv_range s; unfold fnvN; omega
theorem fnvN_lt (s : Bytes) : fnvN s < 18446744073709551616 := by have := fnv_range s; unfold fnvN; omega
def sumOf (s : Bytes) : Bytes := hexPad 16 (fnvN s)
theorem sumOf_len (s : Bytes) : (sumOf s).length = 16 := hexPad_len _ _
theorem u64_byte (c : UInt8) : IntKind.u64.wrap (c.toNat : Int) = (c.toNat : Int) := Go.IntWalk.u64_in _ (by have := c.toNat_lt; omega)
theorem i64_byte (c : UInt8) : IntKind.i64.wrap (c.toNat : Int) = (c.toNat : Int) := Go.IntWalk.i64_in _ (by have := c.toNat_lt; omega)
theorem and15 (n : Nat) (h : n < 18446744073709551616) : andI .u64 (n : Int) 15 = ((n % 16 : Nat) : Int) := by
  have e : (BitVec.ofInt IntKind.u64.bits (n : Int) &&& BitVec.ofInt IntKind.u64.bits 15).toNat = n % 16 := by
    show (BitVec.ofInt 64 (n : Int) &&& BitVec.ofInt 64 ((15 : Nat) : Int)).toNat = n % 16
    rw [BitVec.ofInt_natCast, BitVec.ofInt_natCast, BitVec.toNat_and]
    simp only [BitVec.toNat_ofNat]
    rw [Nat.mod_eq_of_lt (show n < 2 ^ 64 by simpa using h), Nat.mod_eq_of_lt (show 15 < 2 ^ 64 by decide)]
    exact Nat.and_two_pow_sub_one_eq_mod n 4
  unfold andI
  rw [e]
  exact Go.IntWalk.u64_in _ (by omega)
theorem shrN (n b : Nat) (z : Int) (hz : z = b) (h : b ≤ 64) : shrI .u64 (n : Int) z = ((n / 2 ^ b : Nat) : Int) := by
  subst hz
  unfold shrI
  have e : min (b : Int).toNat IntKind.u64.bits = b := Nat.min_eq_left h
  rw [e, show ((2 : Int) ^ b) = ((2 ^ b : Nat) : Int) from by simp, Int.fdiv_eq_ediv_of_nonneg _ (Int.natCast_nonneg _)]
  rfl
theorem dig_get (m : Nat) (h : m < 16) : ([48, 49, 50, 51, 52, 53, 54, 55, 56, 57, 97, 98, 99, 100, 101, 102] : List UInt8)[m]? = some (dig m) := by
  unfold dig
  rw [List.getD]
  cases hh : ([48, 49, 50, 51, 52, 53, 54, 55, 56, 57, 97, 98, 99, 100, 101, 102] : List UInt8)[m]? with
  | none => rw [List.getElem?_eq_none_iff] at hh; simp at hh; omega
  | some v => rfl
theorem dig_get36 (m : Nat) (h : m < 16) : ([48, 49, 50, 51, 52, 53, 54, 55, 56, 57, 97, 98, 99, 100, 101, 102, 103, 104, 105, 106, 107, 108, 109, 110, 111, 112, 113, 114, 115, 116, 117, 118, 119, 120, 121, 122] : List UInt8)[m]? = some (dig m) := by
  rw [← dig_get m h]
  have : ([48, 49, 50, 51, 52, 53, 54, 55, 56, 57, 97, 98, 99, 100, 101, 102, 103, 104, 105, 106, 107, 108, 109, 110, 111, 112, 113, 114, 115, 116, 117, 118, 119, 120, 121, 122] : List UInt8) = [48, 49, 50, 51, 52, 53, 54, 55, 56, 57, 97, 98, 99, 100, 101, 102] ++ [103, 104, 105, 106, 107, 108, 109, 110, 111, 112, 113, 114, 115, 116, 117, 118, 119, 120, 121, 122] := rfl
  rw [this, List.getElem?_append_left (by simpa using h)]
theorem and32 (n : Nat) (h : n < 4294967296) : andI .u64 (n : Int) 4294967295 = (n : Int) := by
  have e : (BitVec.ofInt IntKind.u64.bits (n : Int) &&& BitVec.ofInt IntKind.u64.bits 4294967295).toNat = n := by
    show (BitVec.ofInt 64 (n : Int) &&& BitVec.ofInt 64 ((4294967295 : Nat) : Int)).toNat = n
    rw [BitVec.ofInt_natCast, BitVec.ofInt_natCast, BitVec.toNat_and]
    simp only [BitVec.toNat_ofNat]
    rw [Nat.mod_eq_of_lt (show n < 2 ^ 64 by simp; omega), Nat.mod_eq_of_lt (show 4294967295 < 2 ^ 64 by decide)]
    exact (Nat.and_two_pow_sub_one_eq_mod n 32).trans (Nat.mod_eq_of_lt h)
  unfold andI
  rw [e]
  exact Go.IntWalk.u64_in _ (by omega)
theorem shr32 (n : Nat) (h : n < 4294967296) : shrI .u64 (n : Int) 32 = 0 := by
  rw [shrN n 32 32 rfl (by omega), Nat.div_eq_of_lt (by simpa using h)]; rfl
end Go.Proofs
