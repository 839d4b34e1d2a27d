/- Strings as elements; tests of signs and strings. -/
import Derived.Test.YtnheonhmnepifaaDoorAbs4
import Derived.Test.YtnheonhmnepifaaDoorTy
import Derived.IntWalk
import Derived.Test.YtnheonhmnepifaaDoorP1
import Derived.Test.YtnheonhmnepifaaDoorP2
namespace Go.Proofs
open Go Go.Abs
set_option linter.unusedSimpArgs false
set_option linter.unusedVariables false
/-- Lengths that may be. -/
abbrev Room : Nat := 1099511627776
def encS (s : Bytes) : List AV := [.str s]
def decS : List AV → Option Bytes
  | [.str s] => some s
  | _ => none
theorem decS_enc (s : Bytes) : decS (encS s) = some s := rfl
theorem decS_some {c : List AV} {s : Bytes} (h : decS c = some s) : c = encS s := by
  unfold decS at h
  split at h
  · cases h; rfl
  · cases h
theorem pu0_ok : PuOK Tryd.prog pu0 := PuOK.zero
def sByte (p : Int → Bool) : List AV → Option AV := fn1 (.int .u8) fun c => some (.bool (p c))
theorem sByte_eq (p : Int → Bool) (c : Int) : sByte p [.int .u8 c] = some (.bool (p c)) := rfl
def sStr (p : Bytes → Bool) : List AV → Option AV := fn1 .str fun s => if s.length ≤ Room then some (.bool (p s)) else none
theorem sStr_eq (p : Bytes → Bool) (s : Bytes) : sStr p [.str s] = if s.length ≤ Room then some (.bool (p s)) else none := rfl
theorem sByte_ok {P : Program} {f : FuncId} {p : Int → Bool} (h : ∀ c H, ACalls P f [.int .u8 c] H fun x H' => x = .bool (p c) ∧ H' = H) : ∀ xs v, sByte p xs = some v → ∀ H, ACalls P f xs H fun x H' => x = v ∧ H' = H := by
  intro xs v hv H
  obtain ⟨x, c, rfl, h1, h2⟩ := fn1_some hv
  cases h2
  cases Rd.int_some h1
  exact h c H
theorem sStr_ok {P : Program} {f : FuncId} {p : Bytes → Bool} (h : ∀ s H, s.length ≤ Room → ACalls P f [.str s] H fun x H' => x = .bool (p s) ∧ H' = H) : ∀ xs v, sStr p xs = some v → ∀ H, ACalls P f xs H fun x H' => x = v ∧ H' = H := by
  intro xs v hv H
  obtain ⟨x, s, rfl, h1, h2⟩ := fn1_some hv
  split at h2
  · cases h2
    cases Rd.str_some h1
    exact h s H ‹_›
  · cases h2
end Go.Proofs
