import Derived.Test.YtnheonhmnepifaaTy
import Derived.IntWalk
import Derived.Test.YtnheonhmnepifaaAbs4

namespace Go.Proofs
open Go Go.Abs
set_option linter.unusedSimpArgs false

/-- The function of one byte, or two numbers, or one truth. -/
def sByte (p : Int → Bool) : List AV → Option AV
  | [.int .u8 c] => some (.bool (p c))
  | _ => none
def sOut : List AV → Option AV
  | [.int .i64 n, .int .i64 a, .int .i64 b] => some (.bool (decide (n < a ∨ b < n)))
  | _ => none
def sWhen : List AV → Option AV
  | [.bool b, .int .i64 e] => some (.int .i64 (if b then e else 0))
  | _ => none
theorem sByte_eq (p : Int → Bool) (c : Int) : sByte p [.int .u8 c] = some (.bool (p c)) := rfl
theorem sOut_eq (n a b : Int) : sOut [.int .i64 n, .int .i64 a, .int .i64 b] = some (.bool (decide (n < a ∨ b < n))) := rfl
theorem sWhen_eq (b : Bool) (e : Int) : sWhen [.bool b, .int .i64 e] = some (.int .i64 (if b then e else 0)) := rfl
theorem sByte_inv {p : Int → Bool} {xs : List AV} {v : AV} (h : sByte p xs = some v) : ∃ c, xs = [.int .u8 c] ∧ v = .bool (p c) := by
  unfold sByte at h
  split at h
  · cases h; exact ⟨_, rfl, rfl⟩
  · cases h
theorem sOut_inv {xs : List AV} {v : AV} (h : sOut xs = some v) : ∃ n a b, xs = [.int .i64 n, .int .i64 a, .int .i64 b] ∧ v = .bool (decide (n < a ∨ b < n)) := by
  unfold sOut at h
  split at h
  · cases h; exact ⟨_, _, _, rfl, rfl⟩
  · cases h
theorem sWhen_inv {xs : List AV} {v : AV} (h : sWhen xs = some v) : ∃ b e, xs = [.bool b, .int .i64 e] ∧ v = .int .i64 (if b then e else 0) := by
  unfold sWhen at h
  split at h
  · cases h; exact ⟨_, _, rfl, rfl⟩
  · cases h

def isSm (c : Int) : Bool := decide (97 ≤ c) && decide (c ≤ 122)
def isDg (c : Int) : Bool := decide (48 ≤ c) && decide (c ≤ 57)
theorem isSmall_calls (c : Int) (H : Heap) : ACalls Try.prog 25 [.int .u8 c] H fun x H' => x = .bool (isSm c) ∧ H' = H := by
  refine ACalls.of_code (X := {}) (fun _ _ h => nomatch h) Try.func25 (by kernel_rfl) rfl (by kernel_rfl) (Nat.le_of_ble_eq_true rfl) ?_
  simp -implicitDefEqProofs only [go_sem, tys, regs0, Try.f25, Nat.reduceEqDiff]
  refine gd_intro (fun h => ?_) (fun h => ?_) <;> 
  simp -implicitDefEqProofs only [go_sem, tys, regs0, Nat.reduceEqDiff, h] <;> refine Done.now ?_ <;> simp only [decide_eq_true_eq, decide_eq_false_iff_not] at h <;> simp [isSm, h]
theorem isDigit_calls (c : Int) (H : Heap) : ACalls Try.prog 26 [.int .u8 c] H fun x H' => x = .bool (isDg c) ∧ H' = H := by
  refine ACalls.of_code (X := {}) (fun _ _ h => nomatch h) Try.func26 (by kernel_rfl) rfl (by kernel_rfl) (Nat.le_of_ble_eq_true rfl) ?_
  simp -implicitDefEqProofs only [go_sem, tys, regs0, Try.f26, Nat.reduceEqDiff]
  refine gd_intro (fun h => ?_) (fun h => ?_) <;> 
  simp -implicitDefEqProofs only [go_sem, tys, regs0, Nat.reduceEqDiff, h] <;> refine Done.now ?_ <;> simp only [decide_eq_true_eq, decide_eq_false_iff_not] at h <;> simp [isDg, h]
theorem when_calls (b : Bool) (e : Int) (H : Heap) : ACalls Try.prog 14 [.bool b, .int .i64 e] H fun x H' => x = .int .i64 (if b then e else 0) ∧ H' = H := by
  refine ACalls.of_code (X := {}) (fun _ _ h => nomatch h) Try.func14 (by kernel_rfl) rfl (by kernel_rfl) (Nat.le_of_ble_eq_true rfl) ?_
  simp -implicitDefEqProofs only [go_sem, tys, regs0, Try.f14, Nat.reduceEqDiff]
  refine cnd_intro (fun h => ?_) (fun h => ?_) <;> 
  simp -implicitDefEqProofs only [go_sem, tys, regs0, Nat.reduceEqDiff, h] <;> refine Done.now ?_ <;> simp [*]
theorem outside_calls (n a b : Int) (H : Heap) : ACalls Try.prog 12 [.int .i64 n, .int .i64 a, .int .i64 b] H fun x H' => x = .bool (decide (n < a ∨ b < n)) ∧ H' = H := by
  refine ACalls.of_code (X := {}) (fun _ _ h => nomatch h) Try.func12 (by kernel_rfl) rfl (by kernel_rfl) (Nat.le_of_ble_eq_true rfl) ?_
  simp -implicitDefEqProofs only [go_sem, tys, regs0, Try.f12, Nat.reduceEqDiff]
  refine gd_intro (fun h => ?_) (fun h => ?_) <;> 
  simp -implicitDefEqProofs only [go_sem, tys, regs0, Nat.reduceEqDiff, h] <;> refine Done.now ?_ <;> simp at h <;> simp [h]
  omega
def puA : Pures := putP 14 sWhen (putP 12 sOut (putP 25 (sByte isSm) (putP 26 (sByte isDg) pu0)))
theorem puA_ok : PuOK Try.prog puA := by
  refine PuOK.put (PuOK.put (PuOK.put (PuOK.put PuOK.zero ?_) ?_) ?_) ?_ <;> intro xs v h H
  · obtain ⟨c, rfl, rfl⟩ := sByte_inv h; exact isDigit_calls c H
  · obtain ⟨c, rfl, rfl⟩ := sByte_inv h; exact isSmall_calls c H
  · obtain ⟨n, a, b, rfl, rfl⟩ := sOut_inv h; exact outside_calls n a b H
  · obtain ⟨b, e, rfl, rfl⟩ := sWhen_inv h; exact when_calls b e H
def isNm (c : Int) : Bool := isSm c || isDg c || decide (c = 45) || decide (c = 46)
theorem isName1_calls (c : Int) (H : Heap) : ACalls Try.prog 24 [.int .u8 c] H fun x H' => x = .bool (isNm c) ∧ H' = H := by
  refine ACalls.of_code (X := { pure := puA }) puA_ok Try.func24 (by kernel_rfl) rfl (by kernel_rfl) (Nat.le_of_ble_eq_true rfl) ?_
  simp -implicitDefEqProofs only [go_sem, tys, regs0, Try.f24, Nat.reduceEqDiff, puA, sByte_eq]
  refine gd_intro (fun h => ?_) (fun h => ?_)
  · simp -implicitDefEqProofs only [go_sem, tys, regs0, Nat.reduceEqDiff, puA, sByte_eq, h]
    refine Done.now ?_
    simp [isNm, h]
  · simp -implicitDefEqProofs only [go_sem, tys, regs0, Nat.reduceEqDiff, puA, sByte_eq, h]
    refine gd_intro (fun h2 => ?_) (fun h2 => ?_)
    · simp -implicitDefEqProofs only [go_sem, tys, regs0, Nat.reduceEqDiff, puA, sByte_eq, h2]
      refine Done.now ?_
      simp [isNm, h2]
    · simp -implicitDefEqProofs only [go_sem, tys, regs0, Nat.reduceEqDiff, puA, sByte_eq, h2]
      refine gd_intro (fun h3 => ?_) (fun h3 => ?_)
      · simp -implicitDefEqProofs only [go_sem, tys, regs0, Nat.reduceEqDiff, puA, sByte_eq, h3]
        refine Done.now ?_
        simp only [decide_eq_true_eq] at h3
        simp [isNm, h3]
      · simp -implicitDefEqProofs only [go_sem, tys, regs0, Nat.reduceEqDiff, puA, sByte_eq, h3]
        refine Done.now ?_
        simp only [decide_eq_false_iff_not] at h3
        simp [isNm, h, h2, h3]

/-- Bytes as numbers. -/
def bI (b : UInt8) : Int := (b.toNat : Int)
def sEach (p : Int → Bool) (s : List UInt8) (most : Int) : Bool := s.all (fun b => p (b.toNat : Int)) && decide (s ≠ []) && decide ((s.length : Int) ≤ most)
theorem each_calls (s : List UInt8) (most : Int) (f : FuncId) (p : Int → Bool) (H : Heap) (hs : (s.length : Int) ≤ 9223372036854775806) (hf : ∀ c H, ACalls Try.prog f [.int .u8 c] H fun x H' => x = .bool (p c) ∧ H' = H) :
    ACalls Try.prog 23 [.str s, .int .i64 most, .func f []] H fun x H' => x = .bool (sEach p s most) ∧ H' = H := by
  refine ACalls.of_code (X := {}) (fun _ _ h => nomatch h) Try.func23 (by kernel_rfl) rfl (by kernel_rfl) (Nat.le_of_ble_eq_true rfl) ?_
  simp -implicitDefEqProofs only [go_sem, tys, regs0, Try.f23, Nat.reduceEqDiff]
  refine aloop_intro (σ := Nat) (fun i => [(0, .str s), (1, .int .i64 most), (2, .func f []), (7, .int .i64 i)]) (fun i G => G = H ∧ i ≤ s.length ∧ (s.take i).all (fun b => p (b.toNat : Int)) = true) (fun i => s.length - i) 0 ?_ ?_ ?_
  · simp -implicitDefEqProofs only [go_sem, tys, regs0, Nat.reduceEqDiff]
    simp
  · simp
  · rintro i r G ⟨h0, h1, h2, h7, -⟩ ⟨rfl, hi, hp⟩
    simp -implicitDefEqProofs only [go_sem, tys, regs0, Nat.reduceEqDiff, h0, h1, h2, h7]
    refine cnd_intro (fun h => ?_) (fun h => ?_)
    · simp only [decide_eq_true_eq] at h
      obtain ⟨c, hc⟩ : ∃ c, s[i]? = some c := ⟨s[i]'(by omega), List.getElem?_eq_getElem _⟩
      simp -implicitDefEqProofs only [go_sem, tys, regs0, Nat.reduceEqDiff, h0, h1, h2, h7, hc]
      refine ACalls.pure_next _ (hf c.toNat _) ?_
      simp -implicitDefEqProofs only [go_sem, tys, regs0, Nat.reduceEqDiff, h0, h1, h2, h7, hc]
      refine cnd_intro (fun hpc => ?_) (fun hpc => ?_) <;> simp only [Bool.not_eq_true', Bool.not_eq_false'] at hpc
      · simp -implicitDefEqProofs only [go_sem, tys, regs0, Nat.reduceEqDiff, h0, h1, h2, h7, hc]
        refine Done.now ⟨?_, rfl⟩
        congr 1
        symm
        unfold sEach
        have : s.all (fun b => p (b.toNat : Int)) = false := by
          rw [List.all_eq_false]
          exact ⟨c, List.mem_of_getElem? hc, by simp [hpc]⟩
        simp [this]
      · simp -implicitDefEqProofs (disch := omega) only [go_sem, tys, regs0, Nat.reduceEqDiff, h0, h1, h2, h7, hc, Go.IntWalk.i64_in]
        refine Again.mk (i + 1) (by simp -implicitDefEqProofs only [go_sem, h0, h1, h2, h7, Nat.reduceEqDiff]; exact rfl) ⟨rfl, by omega, ?_⟩ (by omega)
        rw [List.take_add_one, hc]
        simp [List.all_append, hp, hpc]
    · simp only [decide_eq_false_iff_not] at h
      have e : i = s.length := by omega
      subst e
      rw [List.take_length] at hp
      simp -implicitDefEqProofs only [go_sem, tys, regs0, Nat.reduceEqDiff, h0, h1, h2, h7]
      refine gd_intro (fun hn => ?_) (fun hn => ?_) <;> simp -implicitDefEqProofs only [go_sem, tys, regs0, Nat.reduceEqDiff, h0, h1, h2, h7, hn] <;> refine Done.now ⟨?_, rfl⟩ <;> simp only [sEach, hp, hn, ne_eq] <;> simp

theorem isName_calls (s : List UInt8) (H : Heap) (hs : (s.length : Int) ≤ 9223372036854775806) :
    ACalls Try.prog 11 [.str s] H fun x H' => x = .bool (sEach isNm s 40 && isSm ((s.headD 0).toNat : Int)) ∧ H' = H := by
  refine ACalls.of_code (X := { pure := puA }) puA_ok Try.func11 (by kernel_rfl) rfl (by kernel_rfl) (Nat.le_of_ble_eq_true rfl) ?_
  simp -implicitDefEqProofs only [go_sem, tys, regs0, Try.f11, Nat.reduceEqDiff, puA, sByte_eq]
  refine ACalls.pure_next _ (each_calls s 40 24 isNm H hs isName1_calls) ?_
  simp -implicitDefEqProofs only [go_sem, tys, regs0, Try.f11, Nat.reduceEqDiff, puA, sByte_eq]
  refine gd_intro (fun hn => ?_) (fun hn => ?_)
  · obtain ⟨c, l, rfl⟩ : ∃ c l, s = c :: l := by
      cases s with
      | nil => simp [sEach] at hn
      | cons c l => exact ⟨c, l, rfl⟩
    simp -implicitDefEqProofs only [go_sem, tys, regs0, Nat.reduceEqDiff, puA, sByte_eq, hn, Int.toNat_zero, Int.le_refl]
    refine Done.now ⟨?_, rfl⟩
    rfl
  · simp -implicitDefEqProofs only [go_sem, tys, regs0, Nat.reduceEqDiff, puA, sByte_eq, hn]
    exact Done.now ⟨rfl, rfl⟩
theorem landed_calls (H : Heap) : ACalls Try.prog 5 [] H fun x H' => x = .bool true ∧ H' = H := by
  refine ACalls.of_code (X := { pure := puA }) puA_ok Try.func5 (by kernel_rfl) rfl (by kernel_rfl) (Nat.le_of_ble_eq_true rfl) ?_
  simp -implicitDefEqProofs only [go_sem, tys, regs0, Try.f5, Nat.reduceEqDiff, puA, sByte_eq]
  refine ACalls.pure_next _ (isName_calls _ H (by simp)) ?_
  simp -implicitDefEqProofs only [go_sem, tys, regs0, Nat.reduceEqDiff]
  exact Done.now ⟨by rw [show (sEach isNm [97] 40 && isSm ((([97] : List UInt8).headD 0).toNat : Int)) = true from by decide], rfl⟩
end Go.Proofs
