/- Signs, names, paths, values: plain Lean, no program. -/
import Derived.Test.YtnheonhmnepifaaDoorP1
namespace Go.Proofs
set_option linter.unusedSimpArgs false
set_option linter.unusedVariables false
def isSm (c : Int) : Bool := decide (97 ≤ c) && decide (c ≤ 122)
def isDg (c : Int) : Bool := decide (48 ≤ c) && decide (c ≤ 57)
def isNm (c : Int) : Bool := isSm c || isDg c || decide (c = 45) || decide (c = 46)
def isPt (c : Int) : Bool := isSm c || (decide (65 ≤ c) && decide (c ≤ 90)) || isDg c || decide (c = 45) || decide (c = 46) || decide (c = 95)
def isVl (c : Int) : Bool := decide (32 ≤ c) && decide (c ≤ 126)
def isHx (c : Int) : Bool := (decide (48 ≤ c) && decide (c ≤ 57)) || (decide (97 ≤ c) && decide (c ≤ 102))
def allB (p : Int → Bool) (s : Bytes) : Bool := s.all fun b => p (b.toNat : Int)
def sEach (p : Int → Bool) (s : Bytes) (most : Int) : Bool := allB p s && decide (s ≠ []) && decide ((s.length : Int) ≤ most)
def nameB (s : Bytes) : Bool := sEach isNm s 40 && isSm ((s.headD 0).toNat : Int)
def partB (s : Bytes) : Bool := sEach isPt s 40 && decide (s ≠ [46]) && decide (s ≠ [46, 46])
def pathB (s : Bytes) : Bool := (splitB 47 s).all partB && decide ((s.length : Int) ≤ 200)
def valueB (s : Bytes) : Bool := decide (s = []) || sEach isVl s 1000
def sumB (s : Bytes) : Bool := allB isHx s && decide ((s.length : Int) = 16)
theorem allB_succ {p : Int → Bool} {s : Bytes} {i : Nat} {c : UInt8} (h : allB p (s.take i) = true) (hc : s[i]? = some c) (hp : p (c.toNat : Int) = true) : allB p (s.take (i + 1)) = true := by
  unfold allB at *
  rw [List.take_add_one, hc]
  simp [List.all_append, h, hp]
theorem allB_false {p : Int → Bool} {s : Bytes} {i : Nat} {c : UInt8} (hc : s[i]? = some c) (hp : p (c.toNat : Int) = false) : allB p s = false := by
  unfold allB
  rw [List.all_eq_false]
  exact ⟨c, List.mem_of_getElem? hc, by simp [hp]⟩
theorem sEach_false {p : Int → Bool} {s : Bytes} {i : Nat} {c : UInt8} {n : Int} (hc : s[i]? = some c) (hp : p (c.toNat : Int) = false) : sEach p s n = false := by
  unfold sEach; rw [allB_false hc hp]; simp
theorem head_of {s : Bytes} {c : UInt8} (h : s[0]? = some c) : s.headD 0 = c := by
  cases s with
  | nil => cases h
  | cons b l => simpa using h
theorem not_nil_of {s : Bytes} {i : Nat} {c : UInt8} (h : s[i]? = some c) : s ≠ [] := by rintro rfl; simp at h
end Go.Proofs
