/- Numbers in groups of bits, sums as bytes: plain Lean, no program. -/
import Derived.Test.YtnheonhmnepifaaDoorPD2
namespace Go.Proofs
open Go Go.Abs
set_option linter.unusedSimpArgs false
set_option linter.unusedVariables false
def groupsB (n : Nat) : Bytes := if h : n < 128 then [UInt8.ofNat n] else UInt8.ofNat (n % 128 + 128) :: groupsB (n / 128)
termination_by n
decreasing_by omega
theorem groupsB_small {n : Nat} (h : n < 128) : groupsB n = [UInt8.ofNat n] := by rw [groupsB, dif_pos h]
theorem groupsB_big {n : Nat} (h : ¬ n < 128) : groupsB n = UInt8.ofNat (n % 128 + 128) :: groupsB (n / 128) := by rw [groupsB, dif_neg h]
theorem groupsB_len : ∀ (k n : Nat), n < 128 ^ (k + 1) → (groupsB n).length ≤ k + 1 := by
  intro k
  induction k with
  | zero => intro n h; rw [groupsB_small (by simpa using h)]; simp
  | succ k ih =>
    intro n h
    by_cases hn : n < 128
    · rw [groupsB_small hn]; simp
    · rw [groupsB_big hn, List.length_cons]
      have hd : n / 128 < 128 ^ (k + 1) := by
        rw [Nat.div_lt_iff_lt_mul (by omega)]
        have : 128 ^ (k + 1 + 1) = 128 ^ (k + 1) * 128 := Nat.pow_succ ..
        omega
      have := ih _ hd
      omega
/-- What the digit means. -/
def dgV (c : UInt8) : Nat := if c.toNat ≤ 57 then c.toNat - 48 else c.toNat - 87
def hexN (s : Bytes) : Nat := s.foldl (fun v c => v * 16 + dgV c) 0
theorem hexN_succ {s : Bytes} {i : Nat} {c : UInt8} (h : s[i]? = some c) : hexN (s.take (i + 1)) = hexN (s.take i) * 16 + dgV c := by
  unfold hexN
  rw [List.take_add_one, h, List.foldl_append]
  rfl
theorem dgV_lt {c : UInt8} (h : isHx (c.toNat : Int) = true) : dgV c < 16 := by
  simp only [isHx, Bool.or_eq_true, Bool.and_eq_true, decide_eq_true_eq] at h
  unfold dgV
  split <;> omega
theorem sumB_at {s : Bytes} (h : sumB s = true) {i : Nat} {c : UInt8} (hc : s[i]? = some c) : isHx (c.toNat : Int) = true := by
  simp only [sumB, Bool.and_eq_true, allB, List.all_eq_true] at h
  exact h.1 c (List.mem_of_getElem? hc)
theorem sumB_len {s : Bytes} (h : sumB s = true) : s.length = 16 := by
  simp only [sumB, Bool.and_eq_true, decide_eq_true_eq] at h
  omega
theorem hexN_lt {s : Bytes} (h : sumB s = true) : ∀ i, hexN (s.take i) < 16 ^ i := by
  intro i
  induction i with
  | zero => simp [hexN]
  | succ i ih =>
    cases hc : s[i]? with
    | none =>
      rw [List.take_add_one, hc]
      simp only [Option.toList_none, List.append_nil]
      have : 16 ^ (i + 1) = 16 ^ i * 16 := Nat.pow_succ ..
      omega
    | some c =>
      rw [hexN_succ hc]
      have := dgV_lt (sumB_at h hc)
      have : 16 ^ (i + 1) = 16 ^ i * 16 := Nat.pow_succ ..
      omega
theorem hexN_all {s : Bytes} (h : sumB s = true) : hexN s < 18446744073709551616 := by
  have := hexN_lt h 16
  rw [List.take_of_length_le (by rw [sumB_len h]; omega)] at this
  simpa using this
/-- The bytes of a number, the highest first. -/
def rawB (n : Nat) : Bytes := (List.range 8).map fun i => UInt8.ofNat (n / 2 ^ (56 - 8 * i))
theorem rawB_len (n : Nat) : (rawB n).length = 8 := by simp [rawB]
theorem rawB_get {n i : Nat} (h : i < 8) : (rawB n)[i]? = some (UInt8.ofNat (n / 2 ^ (56 - 8 * i))) := by
  unfold rawB
  rw [List.getElem?_map, List.getElem?_range h]
  rfl
theorem sumOf_form (s : Bytes) : sumB (sumOf s) = true := by
  have hd : ∀ m, m < 16 → isHx ((dig m).toNat : Int) = true := by decide
  have : ∀ k n, allB isHx (hexPad k n) = true := by
    intro k
    induction k with
    | zero => intro n; rfl
    | succ k ih =>
      intro n
      unfold allB at *
      rw [hexPad, List.all_append, ih]
      simp [hd (n % 16) (Nat.mod_lt _ (by omega))]
  unfold sumB
  rw [sumOf_len]
  unfold sumOf
  rw [this]
  rfl
def pieceB (p : PieceV) : Bytes := if p.data ≠ [] then 1 :: (groupsB p.data.length ++ p.data) else 0 :: (groupsB p.at_.toNat ++ groupsB p.long.toNat)
def headB (d : DeltaV) : Bytes := [79, 70, 68, 49] ++ groupsB d.old.toNat ++ groupsB d.new.toNat ++ rawB (hexN d.osum) ++ rawB (hexN d.nsum) ++ groupsB d.ps.length
def bodyB (d : DeltaV) : Bytes := headB d ++ (d.ps.map pieceB).flatten
def printB (d : DeltaV) : Bytes := bodyB d ++ rawB (hexN (sumOf (bodyB d)))
/-! ### The machine's operations -/
theorem u8_of {n : Nat} (h : n < 256) : ((UInt8.ofNat n).toNat : Int) = n := by
  rw [UInt8.toNat_ofNat_of_lt' (by simpa using h)]
theorem u8_of_mod (n : Nat) : (UInt8.ofNat n).toNat = n % 256 := by simp
theorem wrap8 (n : Nat) : IntKind.u8.wrap (n : Int) = ((UInt8.ofNat n).toNat : Int) := by
  rw [u8_of_mod]
  unfold IntKind.wrap
  simp [IntKind.signed, IntKind.bits]
theorem and127 (n : Nat) (h : n < 9223372036854775808) : andI .i64 (n : Int) 127 = ((n % 128 : Nat) : Int) := by
  have e : (BitVec.ofInt IntKind.i64.bits (n : Int) &&& BitVec.ofInt IntKind.i64.bits 127).toNat = n % 128 := by
    show (BitVec.ofInt 64 (n : Int) &&& BitVec.ofInt 64 ((127 : Nat) : Int)).toNat = n % 128
    rw [BitVec.ofInt_natCast, BitVec.ofInt_natCast, BitVec.toNat_and]
    simp only [BitVec.toNat_ofNat]
    rw [Nat.mod_eq_of_lt (show n < 2 ^ 64 by simp; omega), Nat.mod_eq_of_lt (show 127 < 2 ^ 64 by decide)]
    exact Nat.and_two_pow_sub_one_eq_mod n 7
  unfold andI
  rw [e]
  exact Go.IntWalk.i64_in _ (by omega)
theorem or128 : ∀ m : Nat, m < 128 → orI .i64 (m : Int) 128 = ((m + 128 : Nat) : Int) := by decide
theorem or128b : ∀ m : Nat, m < 128 → orI .u8 (m : Int) 128 = ((m + 128 : Nat) : Int) := by decide
theorem shrI64 (n b : Nat) (z : Int) (hz : z = b) (h : b ≤ 64) : shrI .i64 (n : Int) z = ((n / 2 ^ b : Nat) : Int) := by
  subst hz
  unfold shrI
  have e : min (b : Int).toNat IntKind.i64.bits = b := Nat.min_eq_left h
  rw [e, show ((2 : Int) ^ b) = ((2 ^ b : Nat) : Int) from by simp, Int.fdiv_eq_ediv_of_nonneg _ (Int.natCast_nonneg _)]
  rfl
theorem or32 {c : UInt8} (h : isHx (c.toNat : Int) = true) (h2 : ¬ c.toNat ≤ 57) : orI .u8 (c.toNat : Int) 32 = c.toNat := by
  have key : ∀ n : Nat, n < 103 → 97 ≤ n → orI .u8 (n : Int) 32 = n := by decide
  simp only [isHx, Bool.or_eq_true, Bool.and_eq_true, decide_eq_true_eq] at h
  exact key _ (by omega) (by omega)
end Go.Proofs
