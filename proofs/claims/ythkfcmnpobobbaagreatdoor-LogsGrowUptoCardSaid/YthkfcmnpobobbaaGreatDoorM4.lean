/-
  Walks and plain laws, part 4.
-/
import Derived.Test.YthkfcmnpobobbaaGreatDoorM3
import Derived.Test.YthkfcmnpobobbaaGreatDoorM1
import Derived.Test.YthkfcmnpobobbaaGreatDoorM2
/- Walks: the reference's SumOf. -/
namespace Go.Proofs
open Go Go.Abs
set_option linter.unusedSimpArgs false
set_option linter.unusedVariables false
def preB (p s : Bytes) : Bool := decide (s.take p.length = p)
theorem preB_long {p s : Bytes} (h : s.length < p.length) : preB p s = false := by
  unfold preB
  rw [decide_eq_false_iff_not]
  intro e
  have := congrArg List.length e
  rw [List.length_take] at this
  omega
def sPre : List AV → Option AV := fn2 .str .str fun s p => some (.bool (preB p s))
theorem sPre_eq (s p : Bytes) : sPre [.str s, .str p] = some (.bool (preB p s)) := rfl
theorem sPre_ok {P : Program} {f : FuncId} (h : ∀ s p H, ACalls P f [.str s, .str p] H fun x H' => x = .bool (preB p s) ∧ H' = H) : ∀ xs v, sPre xs = some v → ∀ H, ACalls P f xs H fun x H' => x = v ∧ H' = H := by
  intro xs v hv H
  obtain ⟨x, y, p, q, rfl, h1, h2, h3⟩ := fn2_some hv
  cases h3
  cases Rd.str_some h1
  cases Rd.str_some h2
  exact h _ _ _
theorem hasPrefixL_calls (s p : Bytes) (H : Heap) : ACalls Tryz.prog 202 [.str s, .str p] H fun x H' => x = .bool (preB p s) ∧ H' = H := by
  refine ACalls.of_code (X := { pure := puS1 }) puS1_ok Tryz.func202 (by kernel_rfl) rfl (by kernel_rfl) (Nat.le_of_ble_eq_true rfl) ?_
  simp -implicitDefEqProofs only [go_sem, Tryz.f202]
  refine gd_intro (fun h => ?_) (fun h => ?_)
  · have h' := h
    simp only [decide_eq_true_eq] at h'
    simp -implicitDefEqProofs only [go_sem, h, Int.toNat_natCast]
    exact ⟨h', Done.now ⟨rfl, rfl⟩⟩
  · have h' := h
    simp only [decide_eq_false_iff_not] at h'
    simp -implicitDefEqProofs only [go_sem, h]
    exact Done.now ⟨by rw [preB_long (by omega)], rfl⟩
def puS2 : Pures := putP 202 sPre puS1
theorem puS2_dyn : isDyn puS2 = false := by simp only [puS2, go_sem, Nat.reduceEqDiff]
attribute [go_sem] puS2_dyn
theorem puS2_ok : PuOK Tryz.prog puS2 := .put (puS1_ok) (sPre_ok hasPrefixL_calls)
theorem hasPrefix_calls (s p : Bytes) (H : Heap) : ACalls Tryz.prog 158 [.str s, .str p] H fun x H' => x = .bool (preB p s) ∧ H' = H := by
  refine ACalls.of_code (X := { pure := puS2 }) puS2_ok Tryz.func158 (by kernel_rfl) rfl (by kernel_rfl) (Nat.le_of_ble_eq_true rfl) ?_
  simp -implicitDefEqProofs only [go_sem, Tryz.f158, puS2, sPre_eq]
  exact Done.now ⟨rfl, rfl⟩
theorem mul64_calls (k : Nat) (hk : k ≤ 16) (H : Heap) : ACalls Tryz.prog 201 [.int .u64 1, .int .u64 k] H fun x H' => x = .tup [.int .u64 0, .int .u64 k] ∧ H' = H := by
  have a1 : andI .u64 1 4294967295 = 1 := by decide
  have a2 : shrI .u64 1 32 = 0 := by decide
  have a3 : andI .u64 0 4294967295 = 0 := by decide
  have a4 : shrI .u64 0 32 = 0 := by decide
  have a5 := and32 k (by omega)
  have a6 := shr32 k (by omega)
  have a7 : IntKind.u64.wrap k = k := Go.IntWalk.u64_in _ (by omega)
  have a8 : IntKind.u64.wrap 0 = 0 := by decide
  refine ACalls.of_code (X := { pure := puS2 }) puS2_ok Tryz.func201 (by kernel_rfl) rfl (by kernel_rfl) (Nat.le_of_ble_eq_true rfl) ?_
  simp -implicitDefEqProofs only [go_sem, Tryz.f201, a1, a2, a3, a4, a5, a6, a7, a8, Int.one_mul, Int.zero_mul, Int.mul_zero, Int.add_zero, Int.zero_add]
  exact Done.now ⟨rfl, rfl⟩
def sMul : List AV → Option AV := fn2 (.int .u64) (.int .u64) fun a b => if a = 1 ∧ 0 ≤ b ∧ b ≤ 16 then some (.tup [.int .u64 0, .int .u64 b]) else none
theorem sMul_eq (a b : Int) : sMul [.int .u64 a, .int .u64 b] = if a = 1 ∧ 0 ≤ b ∧ b ≤ 16 then some (.tup [.int .u64 0, .int .u64 b]) else none := rfl
theorem sMul_ok {P : Program} {f : FuncId} (h : ∀ (k : Nat), k ≤ 16 → ∀ H, ACalls P f [.int .u64 1, .int .u64 k] H fun x H' => x = .tup [.int .u64 0, .int .u64 k] ∧ H' = H) : ∀ xs v, sMul xs = some v → ∀ H, ACalls P f xs H fun x H' => x = v ∧ H' = H := by
  intro xs v hv H
  obtain ⟨x, y, p, q, rfl, h1, h2, h3⟩ := fn2_some hv
  cases Rd.int_some h1
  cases Rd.int_some h2
  split at h3
  · rename_i hc
    obtain ⟨rfl, h0, h16⟩ := hc
    cases h3
    obtain ⟨k, rfl⟩ : ∃ k : Nat, q = k := ⟨q.toNat, by omega⟩
    exact h k (by omega) H
  · cases h3
def puS3 : Pures := putP 201 sMul (putP 158 sPre puS2)
theorem puS3_dyn : isDyn puS3 = false := by simp only [puS3, go_sem, Nat.reduceEqDiff]
attribute [go_sem] puS3_dyn
theorem puS3_ok : PuOK Tryz.prog puS3 := .put (.put (puS2_ok) (sPre_ok hasPrefix_calls)) (sMul_ok mul64_calls)
theorem mul_calls (k : Nat) (hk : k ≤ 16) (H : Heap) : ACalls Tryz.prog 157 [.int .u64 1, .int .u64 k] H fun x H' => x = .tup [.int .u64 0, .int .u64 k] ∧ H' = H := by
  have hk' : (0 : Int) ≤ k ∧ (k : Int) ≤ 16 := by omega
  refine ACalls.of_code (X := { pure := puS3 }) puS3_ok Tryz.func157 (by kernel_rfl) rfl (by kernel_rfl) (Nat.le_of_ble_eq_true rfl) ?_
  simp -implicitDefEqProofs only [go_sem, Tryz.f157, puS3, sMul_eq, hk']
  exact Done.now ⟨rfl, rfl⟩
def puS4 : Pures := putP 157 sMul puS3
theorem puS4_dyn : isDyn puS4 = false := by simp only [puS4, go_sem, Nat.reduceEqDiff]
attribute [go_sem] puS4_dyn
theorem puS4_ok : PuOK Tryz.prog puS4 := .put (puS3_ok) (sMul_ok mul_calls)
theorem preB_ne (a : UInt8) (h : a ≠ 48) (l m : Bytes) : preB [48] ((a :: l).append m) = false := by
  unfold preB
  rw [decide_eq_false_iff_not]
  intro e
  have := congrArg List.head? e
  simp at this
  exact h this
theorem preB_eq48 (l : Bytes) : preB [48] (48 :: l) = true := by simp [preB]
theorem zeros (k : Nat) (h : k ≤ 64) : ((List.replicate 64 48 : Bytes).take k) = List.replicate k 48 := by rw [List.take_replicate, Nat.min_eq_left h]
set_option maxHeartbeats 1600000 in
set_option maxRecDepth 100000 in
theorem repeat_calls (k : Nat) (hk : k ≤ 16) (H : Heap) : ACalls Tryz.prog 96 [.str [48], .int .i64 k] H fun x H' => x = .str (List.replicate k 48) ∧ H' = H := by
  have a0 : IntKind.u64.wrap k = k := Go.IntWalk.u64_in _ (by omega)
  have a1 : IntKind.u64.wrap 1 = 1 := by decide
  have a2 : IntKind.i64.wrap k = k := Go.IntWalk.i64_in _ (by omega)
  have hk' : (0 : Int) ≤ k ∧ (k : Int) ≤ 16 := by omega
  have d1 : decide ((k : Int) < 0) = false := by simp
  have d2 : decide ((9223372036854775807 : Int) < k) = false := by simp; omega
  have d3 : decide ((k : Int) ≤ 128) = true := by simp; omega
  have d4 : decide ((k : Int) ≤ 64) = true := by simp; omega
  by_cases k0 : k = 0
  · subst k0
    refine ACalls.of_code (X := { pure := puS4 }) puS4_ok Tryz.func96 (by kernel_rfl) rfl (by kernel_rfl) (Nat.le_of_ble_eq_true rfl) ?_
    simp -implicitDefEqProofs only [go_sem, Tryz.f96]
    exact Done.now ⟨rfl, rfl⟩
  by_cases k1 : k = 1
  · subst k1
    refine ACalls.of_code (X := { pure := puS4 }) puS4_ok Tryz.func96 (by kernel_rfl) rfl (by kernel_rfl) (Nat.le_of_ble_eq_true rfl) ?_
    simp -implicitDefEqProofs only [go_sem, Tryz.f96]
    exact Done.now ⟨rfl, rfl⟩
  have d5 : decide ((k : Int) = 0) = false := by simp; omega
  have d6 : decide ((k : Int) = 1) = false := by simp; omega
  have q1 := preB_ne 32 (by decide)
  have q2 := preB_ne 45 (by decide)
  refine ACalls.of_code (X := { pure := puS4 }) puS4_ok Tryz.func96 (by kernel_rfl) rfl (by kernel_rfl) (Nat.le_of_ble_eq_true rfl) ?_
  simp -implicitDefEqProofs only [go_sem, Tryz.f96, puS4, puS3, sPre_eq, sMul_eq, hk', a0, a1, a2, d1, d2, d3, d4, d5, d6, q1, q2, preB_eq48]
  exact ⟨by omega, Done.now ⟨congrArg AV.str (zeros k (by omega)), rfl⟩⟩
def sFB : List AV → Option AV
  | [.sl [] .exact, .int .u64 u, .int .i64 b, .bool false, .bool false] => if 0 ≤ u ∧ u < 18446744073709551616 ∧ b = 16 then some (.tup [.sl [] .exact, .str (hexMin u.toNat)]) else none
  | _ => none
theorem sFB_eq (n : Nat) : sFB [.sl [] .exact, .int .u64 n, .int .i64 16, .bool false, .bool false] = if n < 18446744073709551616 then some (.tup [.sl [] .exact, .str (hexMin n)]) else none := by
  by_cases h : n < 18446744073709551616
  · have : (0 : Int) ≤ n ∧ (n : Int) < 18446744073709551616 ∧ (16 : Int) = 16 := by omega
    simp [sFB, h]
    omega
  · have : ¬ (n : Int) < 18446744073709551616 := by omega
    simp [sFB, h, this]
def puS5 : Pures := putP 199 sFB puS4
theorem puS5_dyn : isDyn puS5 = false := by simp only [puS5, go_sem, Nat.reduceEqDiff]
attribute [go_sem] puS5_dyn
theorem puS5_ok : PuOK Tryz.prog puS5 := by
  refine PuOK.put puS4_ok ?_
  intro xs v h H
  unfold sFB at h
  split at h
  · split at h
    · rename_i u b hc
      obtain ⟨h0, h1, rfl⟩ := hc
      cases h
      obtain ⟨n, rfl⟩ : ∃ n : Nat, u = n := ⟨u.toNat, by omega⟩
      exact formatBits_calls n (by omega) H
    · cases h
  · cases h
theorem formatUintI_calls (n : Nat) (hn : n < 18446744073709551616) (H : Heap) : ACalls Tryz.prog 156 [.int .u64 n, .int .i64 16] H fun x H' => x = .str (hexMin n) ∧ H' = H := by
  refine ACalls.of_code (X := { pure := puS5 }) puS5_ok Tryz.func156 (by kernel_rfl) rfl (by kernel_rfl) (Nat.le_of_ble_eq_true rfl) ?_
  simp -implicitDefEqProofs only [go_sem, Tryz.f156, puS5, sFB_eq, hn]
  exact Done.now ⟨rfl, rfl⟩
def fitsU (u : Int) : Bool := decide (0 ≤ u) && decide (u < 18446744073709551616)
theorem fitsU_nat {n : Nat} (h : n < 18446744073709551616) : fitsU (n : Int) = true := by simp [fitsU]; omega
theorem fitsU_out {u : Int} (h : fitsU u = true) : 0 ≤ u ∧ u < 18446744073709551616 := by simpa [fitsU] using h
def sFU : List AV → Option AV := fn2 (.int .u64) (.int .i64) fun u b => if fitsU u = true ∧ b = 16 then some (.str (hexMin u.toNat)) else none
theorem sFU_eq0 (x y : Int) : sFU [.int .u64 x, .int .i64 y] = if fitsU x = true ∧ y = 16 then some (.str (hexMin x.toNat)) else none := by
  simp only [sFU, fn2_eq, Rd.int_eq, Option.bind_some]
theorem sFU_eq (n : Nat) (hn : n < 18446744073709551616) : sFU [.int .u64 n, .int .i64 16] = some (.str (hexMin n)) := by
  rw [sFU_eq0, if_pos ⟨fitsU_nat hn, rfl⟩, Int.toNat_natCast]
theorem sFU_ok {P : Program} {f : FuncId} (h : ∀ (n : Nat), n < 18446744073709551616 → ∀ H, ACalls P f [.int .u64 n, .int .i64 16] H fun x H' => x = .str (hexMin n) ∧ H' = H) : ∀ xs v, sFU xs = some v → ∀ H, ACalls P f xs H fun x H' => x = v ∧ H' = H := by
  intro xs v hv H
  obtain ⟨x, y, p, q, rfl, h1, h2, h3⟩ := fn2_some hv
  cases Rd.int_some h1
  cases Rd.int_some h2
  split at h3
  · rename_i hc
    obtain ⟨hf, rfl⟩ := hc
    obtain ⟨h0, h16⟩ := fitsU_out hf
    cases h3
    obtain ⟨k, rfl⟩ : ∃ k : Nat, p = k := ⟨p.toNat, by omega⟩
    exact h k (by omega) H
  · cases h3
def puS6 : Pures := putP 156 sFU puS5
theorem puS6_dyn : isDyn puS6 = false := by simp only [puS6, go_sem, Nat.reduceEqDiff]
attribute [go_sem] puS6_dyn
theorem puS6_ok : PuOK Tryz.prog puS6 := .put (puS5_ok) (sFU_ok formatUintI_calls)
theorem formatUint_calls (n : Nat) (hn : n < 18446744073709551616) (H : Heap) : ACalls Tryz.prog 95 [.int .u64 n, .int .i64 16] H fun x H' => x = .str (hexMin n) ∧ H' = H := by
  refine ACalls.of_code (X := { pure := puS6 }) puS6_ok Tryz.func95 (by kernel_rfl) rfl (by kernel_rfl) (Nat.le_of_ble_eq_true rfl) ?_
  simp -implicitDefEqProofs only [go_sem, Tryz.f95, puS6, sFU_eq n hn]
  exact Done.now ⟨rfl, rfl⟩
def sRep : List AV → Option AV := fn2 .str (.int .i64) fun s k => if s = [48] ∧ 0 ≤ k ∧ k ≤ 16 then some (.str (List.replicate k.toNat 48)) else none
theorem sRep_eq (k : Nat) (hk : k ≤ 16) : sRep [.str [48], .int .i64 k] = some (.str (List.replicate k 48)) := by
  have h : ([48] : Bytes) = [48] ∧ (0 : Int) ≤ k ∧ (k : Int) ≤ 16 := ⟨rfl, by omega, by omega⟩
  simp only [sRep, fn2_eq, Rd.int_eq, Rd.str_eq, Option.bind_some]
  rw [if_pos ⟨trivial, h.2⟩, Int.toNat_natCast]
def puS7 : Pures := putP 96 sRep (putP 95 sFU puS6)
theorem puS7_dyn : isDyn puS7 = false := by simp only [puS7, go_sem, Nat.reduceEqDiff]
attribute [go_sem] puS7_dyn
theorem puS7_ok : PuOK Tryz.prog puS7 := by
  refine PuOK.put (PuOK.put puS6_ok (sFU_ok formatUint_calls)) ?_
  intro xs v hv H
  obtain ⟨x, y, p, q, rfl, h1, h2, h3⟩ := fn2_some hv
  cases Rd.str_some h1
  cases Rd.int_some h2
  split at h3
  · rename_i hc
    obtain ⟨rfl, h0, h16⟩ := hc
    cases h3
    obtain ⟨k, rfl⟩ : ∃ k : Nat, q = k := ⟨q.toNat, by omega⟩
    exact repeat_calls k (by omega) H
  · cases h3
theorem rSumOf_calls (s : Bytes) (H : Heap) (hs : s.length ≤ Room) : ACalls Tryz.prog 26 [.str s] H fun x H' => x = .str (sumOf s) ∧ H' = H := by
  have hR : Room = 1099511627776 := rfl
  rw [hR] at hs
  clear hR
  refine ACalls.of_code (X := { pure := puS7 }) puS7_ok Tryz.func26 (by kernel_rfl) rfl (by kernel_rfl) (Nat.le_of_ble_eq_true rfl) ?_
  simp -implicitDefEqProofs only [go_sem, Tryz.f26]
  refine aloop_intro (σ := Nat) (fun i => [(0, .str s), (3, .int .u64 (fnv (s.take i))), (7, .int .i64 s.length), (8, .int .i64 i)]) (fun i G => G = H ∧ i ≤ s.length) (fun i => s.length - i) 0 ?_ ?_ ?_
  · simp -implicitDefEqProofs only [go_sem]
    simp [fnv]
  · simp
  · intro i r G hv hI
    have h0 := hv.1
    have h3 := hv.2.1
    have h7 := hv.2.2.1
    have h8 := hv.2.2.2.1
    have hG := hI.1.symm
    have hi := hI.2
    clear hv hI
    subst hG
    simp -implicitDefEqProofs only [go_sem, h0, h3, h7, h8]
    refine cnd_intro (fun h => ?_) (fun h => ?_)
    · simp only [decide_eq_true_eq] at h
      obtain ⟨c, hc⟩ : ∃ c, s[i]? = some c := ⟨s[i]'(by omega), List.getElem?_eq_getElem _⟩
      simp -implicitDefEqProofs (disch := omega) only [go_sem, Go.IntWalk.i64_in, h0, h3, h7, h8, hc, u64_byte]
      refine Again.mk (i + 1) (by simp -implicitDefEqProofs only [go_sem, h0, h3, h7, h8]; rw [fnv_succ hc]; exact ⟨rfl, rfl⟩) ⟨rfl, by omega⟩ (by omega)
    · simp only [decide_eq_false_iff_not] at h
      have e : i = s.length := by omega
      subst e
      rw [List.take_length, fnvN_eq] at h3
      have hn := fnvN_lt s
      unfold sumOf
      generalize fnvN s = n at *
      obtain ⟨hl, hp⟩ := hexMin_pad 15 n (by simpa using hn)
      have e1 : (16 : Int) - ((hexMin n).length : Int) = ((16 - (hexMin n).length : Nat) : Int) := by omega
      have e2 := sRep_eq (16 - (hexMin n).length) (by omega)
      have e3 := sFU_eq n hn
      have e4 : ((16 - (hexMin n).length : Nat) : Int) = ((16 - (hexMin n).length : Nat) : Int) := rfl
      simp -implicitDefEqProofs (disch := omega) only [go_sem, Go.IntWalk.i64_in, h0, h3, h7, h8, puS7, e3, e1, e2]
      exact ⟨by simp; omega, Done.now ⟨congrArg AV.str hp.symm, rfl⟩⟩
def sSum : List AV → Option AV := fn1 .str fun s => if s.length ≤ Room then some (.str (sumOf s)) else none
def puM : Pures := putP 93 sSum (putP 26 sSum puN)
theorem puM_dyn : isDyn puM = false := by simp only [puM, go_sem, Nat.reduceEqDiff]
attribute [go_sem] puM_dyn
end Go.Proofs

/- Plain laws: what is quoted, and what quotes are read as. -/
namespace Go.Proofs
set_option linter.unusedSimpArgs false
set_option linter.unusedVariables false
def qc (c : UInt8) : Bytes :=
  if c = 92 ∨ c = 34 then [92, c] else if c = 10 then [92, 110] else if c.toNat < 32 ∨ 126 < c.toNat then [92, 120, dig (c.toNat / 16), dig (c.toNat % 16)] else [c]
def quoteI (s : Bytes) : Bytes := s.flatMap qc
def quoteB (s : Bytes) : Bytes := 34 :: (quoteI s ++ [34])
/-- The value of a digit. -/
def hexI (c : UInt8) : Int := Lib.indexByte [48, 49, 50, 51, 52, 53, 54, 55, 56, 57, 97, 98, 99, 100, 101, 102] c
/-- What stands behind a backslash: the byte, and how many it takes. -/
def escB (s : Bytes) : Option (UInt8 × Nat) :=
  match s with
  | [] => none
  | a :: r =>
    if a = 92 ∨ a = 34 then some (a, 1) else if a = 110 then some (10, 1) else if a = 120 then
      match r with
      | h :: l :: _ =>
        if hexI h < 0 ∨ hexI l < 0 then none else
          if (32 ≤ 16 * hexI h + hexI l ∧ 16 * hexI h + hexI l ≤ 126) ∨ 16 * hexI h + hexI l = 10 then none else some (UInt8.ofNat (16 * hexI h + hexI l).toNat, 3)
      | _ => none
    else none
/-- What stands between quotes. -/
def unqI (s : Bytes) : Option Bytes :=
  match s with
  | [] => some []
  | c :: r =>
    if c.toNat < 32 ∨ 126 < c.toNat ∨ c = 34 then none else
      if c = 92 then
        match escB r with
        | some (x, n) => (unqI (r.drop n)).map (x :: ·)
        | none => none
      else (unqI r).map (c :: ·)
termination_by s.length
decreasing_by
  all_goals simp only [List.length_drop, List.length_cons]; omega
def unq (s : Bytes) : Option Bytes := if s.length < 2 ∨ s.head? ≠ some 34 ∨ s.getLast? ≠ some 34 then none else unqI ((s.drop 1).dropLast)
/-- As the reference reads it. -/
def dqI (s : Bytes) : Option Bytes :=
  match s with
  | [] => some []
  | c :: r =>
    if c ≠ 92 then (dqI r).map (c :: ·) else
      match r with
      | [] => none
      | a :: r2 =>
        if a = 34 ∨ a = 92 then (dqI r2).map (a :: ·) else if a = 110 then (dqI r2).map (10 :: ·) else if a = 120 then
          match r2 with
          | h :: l :: r3 => (dqI r3).map (UInt8.ofNat (IntKind.u8.wrap (hexI h * 16 + hexI l)).toNat :: ·)
          | _ => none
        else none
termination_by s.length
theorem hexI_dig : ∀ k, k < 16 → hexI (dig k) = (k : Int) := by decide
theorem hexI_val : ∀ n, n < 256 → 0 ≤ hexI (UInt8.ofNat n) → hexI (UInt8.ofNat n) < 16 ∧ dig (hexI (UInt8.ofNat n)).toNat = UInt8.ofNat n := by decide +kernel
theorem hexI_ge (c : UInt8) : -1 ≤ hexI c := Lib.indexByte_ge _ _
theorem hexI_some {c : UInt8} (h : 0 ≤ hexI c) : ∃ k : Nat, k < 16 ∧ hexI c = k ∧ dig k = c := by
  have hc := c.toNat_lt
  have e : UInt8.ofNat c.toNat = c := by simp
  have := hexI_val c.toNat hc (by rw [e]; exact h)
  rw [e] at this
  exact ⟨(hexI c).toNat, by omega, by omega, this.2⟩
theorem qc_ne (c : UInt8) : qc c ≠ [] := by
  unfold qc
  repeat' split
  all_goals simp
theorem escB_qc {c : UInt8} (h : c = 92 ∨ c = 34 ∨ c = 10 ∨ c.toNat < 32 ∨ 126 < c.toNat) (r : Bytes) : ∃ e, qc c = 92 :: e ∧ escB (e ++ r) = some (c, e.length) := by
  have hc := c.toNat_lt
  unfold qc
  by_cases h1 : c = 92 ∨ c = 34
  · rw [if_pos h1]
    exact ⟨[c], rfl, by simp [escB, h1]⟩
  · rw [if_neg h1]
    by_cases h2 : c = 10
    · rw [if_pos h2]
      exact ⟨[110], rfl, by subst h2; simp [escB]⟩
    · rw [if_neg h2]
      have h3 : c.toNat < 32 ∨ 126 < c.toNat := by
        simp only [not_or] at h1
        rcases h with h | h | h | h | h
        · exact absurd h h1.1
        · exact absurd h h1.2
        · exact absurd h h2
        · exact .inl h
        · exact .inr h
      rw [if_pos h3]
      refine ⟨_, rfl, ?_⟩
      have e1 := hexI_dig (c.toNat / 16) (by omega)
      have e2 := hexI_dig (c.toNat % 16) (by omega)
      have n10 : ¬ c.toNat = 10 := fun e => h2 (UInt8.toNat_inj.1 (by rw [e]; rfl))
      simp only [escB, List.cons_append, List.nil_append]
      rw [if_neg (by decide), if_neg (by decide), if_pos trivial, e1, e2, if_neg (by omega), if_neg (by omega)]
      have : (16 * ((c.toNat / 16 : Nat) : Int) + ((c.toNat % 16 : Nat) : Int)).toNat = c.toNat := by omega
      rw [this]
      simp
theorem qc_plain {c : UInt8} (h : ¬ (c = 92 ∨ c = 34 ∨ c = 10 ∨ c.toNat < 32 ∨ 126 < c.toNat)) : qc c = [c] := by
  simp only [not_or] at h
  unfold qc
  rw [if_neg (by simp [h.1, h.2.1]), if_neg h.2.2.1, if_neg (by omega)]
/-- What is quoted is read. -/
theorem unqI_quote : ∀ s : Bytes, unqI (quoteI s) = some s
  | [] => by rw [quoteI, List.flatMap_nil, unqI]
  | c :: s => by
    have ih := unqI_quote s
    unfold quoteI at ih ⊢
    rw [List.flatMap_cons]
    by_cases h : c = 92 ∨ c = 34 ∨ c = 10 ∨ c.toNat < 32 ∨ 126 < c.toNat
    · obtain ⟨e, h1, h2⟩ := escB_qc h (s.flatMap qc)
      rw [h1, List.cons_append, unqI, if_neg (by decide), if_pos rfl, h2]
      simp only
      rw [List.drop_left, ih]
      rfl
    · rw [qc_plain h, List.cons_append, List.nil_append, unqI]
      simp only [not_or] at h
      rw [if_neg (by simp only [not_or]; exact ⟨by omega, by omega, h.2.1⟩), if_neg h.1, ih]
      rfl
theorem escB_back {r : Bytes} {x : UInt8} {n : Nat} (h : escB r = some (x, n)) : qc x = 92 :: r.take n ∧ n ≤ r.length := by
  unfold escB at h
  split at h
  · cases h
  rename_i a r
  split at h
  · rename_i h1
    cases h
    unfold qc
    rw [if_pos h1]
    exact ⟨rfl, by simp⟩
  rename_i h1
  split at h
  · rename_i h2
    cases h
    subst h2
    exact ⟨rfl, by simp⟩
  split at h
  · rename_i h3
    split at h
    · rename_i hh ll rest
      split at h
      · cases h
      rename_i g1
      split at h
      · cases h
      rename_i g2
      cases h
      subst h3
      obtain ⟨k1, a1, a2, a3⟩ := hexI_some (c := hh) (by omega)
      obtain ⟨k2, b1, b2, b3⟩ := hexI_some (c := ll) (by omega)
      rw [a2, b2] at g2 ⊢
      have e : (16 * (k1 : Int) + (k2 : Int)).toNat = 16 * k1 + k2 := by omega
      rw [e]
      have e2 : (UInt8.ofNat (16 * k1 + k2)).toNat = 16 * k1 + k2 := by simp only [UInt8.toNat_ofNat']; omega
      have ne : ∀ m : UInt8, ¬ 16 * k1 + k2 = m.toNat → ¬ UInt8.ofNat (16 * k1 + k2) = m := fun m hm hx => hm (by rw [← hx, e2])
      unfold qc
      rw [if_neg, if_neg (ne 10 (by show ¬ _ = 10; omega)), e2, if_pos (by omega)]
      · refine ⟨?_, by simp⟩
        have d1 : (16 * k1 + k2) / 16 = k1 := by omega
        have d2 : (16 * k1 + k2) % 16 = k2 := by omega
        rw [d1, d2, a3, b3]
        rfl
      · simp only [not_or]
        exact ⟨ne 92 (by show ¬ _ = 92; omega), ne 34 (by show ¬ _ = 34; omega)⟩
    · cases h
  · cases h
/-- What is read was quoted. -/
theorem unqI_back : ∀ (n : Nat) (s t : Bytes), s.length ≤ n → unqI s = some t → quoteI t = s := by
  intro n
  induction n with
  | zero =>
    intro s t hn h
    obtain rfl : s = [] := List.eq_nil_of_length_eq_zero (by omega)
    rw [unqI] at h
    cases h; rfl
  | succ n ih =>
    intro s t hn h
    cases s with
    | nil => rw [unqI] at h; cases h; rfl
    | cons c r =>
      rw [List.length_cons] at hn
      rw [unqI] at h
      split at h
      · cases h
      rename_i g
      simp only [not_or] at g
      split at h
      · rename_i h92
        split at h
        · rename_i x k he
          obtain ⟨q1, q2⟩ := escB_back he
          obtain ⟨u, hu, rfl⟩ := Option.map_eq_some_iff.1 h
          have := ih (r.drop k) u (by rw [List.length_drop]; omega) hu
          unfold quoteI at this ⊢
          rw [List.flatMap_cons, this, q1, h92, List.cons_append, List.take_append_drop]
        · cases h
      · rename_i h92
        obtain ⟨u, hu, rfl⟩ := Option.map_eq_some_iff.1 h
        have := ih r u (by omega) hu
        unfold quoteI at this ⊢
        have h10 : ¬ c = 10 := by
          intro e
          have : c.toNat = 10 := by rw [e]; rfl
          omega
        rw [List.flatMap_cons, this, qc_plain (by simp only [not_or]; exact ⟨h92, g.2.2, h10, by omega, by omega⟩)]
        rfl
theorem unq_quote (s : Bytes) : unq (quoteB s) = some s := by
  unfold unq quoteB
  rw [if_neg]
  · rw [List.drop_one, List.tail_cons, List.dropLast_concat]
    exact unqI_quote s
  · simp only [not_or, Decidable.not_not, ne_eq]
    refine ⟨by simp, rfl, ?_⟩
    rw [← List.cons_append, List.getLast?_concat]
theorem quoteI_len (s : Bytes) : (quoteI s).length ≤ 4 * s.length := by
  induction s with
  | nil => simp [quoteI]
  | cons c s ih =>
    unfold quoteI at ih ⊢
    rw [List.flatMap_cons, List.length_append, List.length_cons]
    have : (qc c).length ≤ 4 := by
      unfold qc
      repeat' split
      all_goals simp
    omega
theorem quoteI_snoc (s : Bytes) (c : UInt8) : quoteI (s ++ [c]) = quoteI s ++ qc c := by simp [quoteI]
theorem unqI_len : ∀ (n : Nat) (s t : Bytes), s.length ≤ n → unqI s = some t → t.length ≤ s.length := fun n s t h1 h2 => by
  have h := unqI_back n s t h1 h2
  have key : ∀ l : Bytes, l.length ≤ (quoteI l).length := by
    intro l
    induction l with
    | nil => simp
    | cons c l ih =>
      unfold quoteI at ih ⊢
      rw [List.flatMap_cons, List.length_append, List.length_cons]
      have := List.length_pos_iff.2 (qc_ne c)
      omega
  rw [← h]; exact key t
end Go.Proofs

/- Walks: Quote, on both sides. -/
namespace Go.Proofs
open Go Go.Abs
set_option linter.unusedSimpArgs false
set_option linter.unusedVariables false
set_option maxRecDepth 20000
theorem shr4u : ∀ m : Nat, m < 256 → shrI .u8 (m : Int) 4 = ((m / 16 : Nat) : Int) := by decide
theorem and15u : ∀ m : Nat, m < 256 → andI .u8 (m : Int) 15 = ((m % 16 : Nat) : Int) := by decide
theorem AppG.tok0 {H : Heap} {id k : Nat} {ty : Option TypeId} (h : H id = none) : AppG H (H.put id (.tail 0)) k [] (.tok id k ty) :=
  ⟨(Heap.Sub.rfl' H).put' h _, .inr ⟨id, ty, rfl, h, by rw [put_same]; simp⟩⟩
def accQ (s : Bytes) : Bytes := 34 :: quoteI s
theorem accQ_nil : [[AV.int .u8 34]] = (accQ []).map bcell := rfl
theorem accQ_take {s : Bytes} {i : Nat} {c : UInt8} (h : s[i]? = some c) : accQ (s.take (i + 1)) = accQ (s.take i) ++ qc c := by
  rw [List.take_add_one, h]
  unfold accQ
  rw [List.cons_append]
  exact congrArg _ (quoteI_snoc _ _)
theorem accQ_len (s : Bytes) (i : Nat) : (accQ (s.take i)).length ≤ 4 * s.length + 1 := by
  have := quoteI_len (s.take i)
  rw [List.length_take] at this
  unfold accQ
  rw [List.length_cons]
  omega
theorem accQ_end (s : Bytes) : (accQ s).map bcell ++ [[AV.int .u8 34]] = (quoteB s).map bcell := by simp [accQ, quoteB, bcell]
theorem u8_eq {c : UInt8} {n : Nat} (h : n < 256) : ((c.toNat : Int) = n) ↔ c = UInt8.ofNat n := by
  constructor
  · intro e
    apply UInt8.toNat_inj.1
    simp only [UInt8.toNat_ofNat']
    omega
  · rintro rfl
    simp only [UInt8.toNat_ofNat']
    omega
set_option maxHeartbeats 3200000 in
theorem quote_calls (s : Bytes) (H : Heap) (hs : s.length ≤ 1099511627776) : ACalls Tryz.prog 142 [.str s] H fun x H' => x = .str (quoteB s) ∧ H' = H := by
  have w0 : IntKind.i64.wrap ((s.length : Int) + 2) = ((s.length + 2 : Nat) : Int) := by rw [Go.IntWalk.i64_in _ (by omega)]; omega
  refine ACalls.of_code (X := { pure := pu0 }) pu0_ok Tryz.func142 (by kernel_rfl) rfl (by kernel_rfl) (Nat.le_of_ble_eq_true rfl) ?_
  simp -implicitDefEqProofs only [go_sem, Tryz.f142, w0]
  refine makeSlice_tok (e := tiU8) (by simp -implicitDefEqProofs only [go_sem]) ⟨rfl, rfl, by decide⟩ (by omega) (by simp only; omega) (by omega) (fun id hid => ?_)
  have hA := AppG.tok0 (k := 1) (ty := some 5) hid
  generalize H.put id (.tail 0) = G at *
  simp -implicitDefEqProofs only [go_sem]
  refine AppG.step (e := tiU8) hA (by simp [Unif]) (by simp) (by simp) (fun tl G1 hA1 hK1 => ?_)
  clear hA hid
  rw [List.nil_append, accQ_nil] at hA1
  rw [List.nil_append, accQ_nil]
  simp -implicitDefEqProofs only [go_sem]
  refine aloop_intro (σ := Nat × Tail) (fun t => [(0, .str s), (3, .sl ((accQ (s.take t.1)).map bcell) t.2), (4, .int .i64 t.1)])
    (fun t G' => AppG H G' 1 ((accQ (s.take t.1)).map bcell) t.2 ∧ t.1 ≤ s.length) (fun t => s.length - t.1) (0, tl) ?_ ?_ ?_
  · simp -implicitDefEqProofs only [go_sem]
  · exact ⟨hA1, Nat.zero_le _⟩
  clear hA1 hK1
  rintro ⟨i, tl1⟩ r G2 hv ⟨hA, hi⟩
  have h0 := hv.1
  have h3 := hv.2.1
  have h4 := hv.2.2.1
  clear hv
  simp only at h0 h3 h4 hA hi
  have hql := accQ_len s i
  have hU := bcell_len (accQ (s.take i))
  by_cases g : i < s.length
  · have y0 : decide ((i : Int) < s.length) = true := decide_eq_true (by omega)
    obtain ⟨c, hc⟩ : ∃ c, s[i]? = some c := getD_get' g
    have hq := accQ_take hc
    have hcl := c.toNat_lt
    have ws : IntKind.i64.wrap ((i : Int) + 1) = ((i + 1 : Nat) : Int) := by rw [Go.IntWalk.i64_in _ (by omega)]; omega
    have e92 := @u8_eq c 92 (by decide)
    have e34 := @u8_eq c 34 (by decide)
    have e10 := @u8_eq c 10 (by decide)
    have a1 := shr4u c.toNat hcl
    have a2 := and15u c.toNat hcl
    have d1 := dig_get (c.toNat / 16) (by omega)
    have d2 := dig_get (c.toNat % 16) (by omega)
    have again : ∀ (l : Bytes) (es : List (List AV)), qc c = l → es = l.map bcell → (accQ (s.take i)).map bcell ++ es = (accQ (s.take (i + 1))).map bcell := fun l es h1 h2 => by rw [hq, h1, h2, List.map_append]
    have hel : (accQ (s.take i)).length ≤ 8796093022208 := by omega
    have fin : ∀ (es : List (List AV)) (k : K1), (accQ (s.take i)).map bcell ++ es = (accQ (s.take (i + 1))).map bcell → es.length ≤ 4 →
        (∀ tl2 G3, AppG H G3 1 ((accQ (s.take (i + 1))).map bcell) tl2 → k (.sl ((accQ (s.take (i + 1))).map bcell) tl2) G3) → appK (some 5) false tiU8 (.sl ((accQ (s.take i)).map bcell) tl1) es G2 k := fun es k h1 h2 h3 => by
      refine AppG.step (e := tiU8) hA hU (by simp; omega) (by simp; omega) (fun tl2 G3 hA3 hK3 => ?_)
      rw [h1] at hA3 ⊢
      exact h3 tl2 G3 hA3
    by_cases c1 : c = 92 ∨ c = 34
    · have hqc : qc c = [92, c] := by unfold qc; rw [if_pos c1]
      have ag := again _ [[.int .u8 92], [.int .u8 c.toNat]] hqc rfl
      by_cases c2 : c = 92
      · have y1 : decide ((c.toNat : Int) = 92) = true := decide_eq_true (e92.2 c2)
        simp -implicitDefEqProofs only [go_sem, h0, h3, h4, y0, hc, y1]
        refine fin _ _ ag (by simp) (fun tl2 G3 hA3 => ?_)
        simp -implicitDefEqProofs only [go_sem, h0, h4, ws]
        exact Again.mk (i + 1, tl2) (by simp -implicitDefEqProofs only [go_sem, h0, h4]) ⟨hA3, by simp only; omega⟩ (by simp only; omega)
      · have y1 : decide ((c.toNat : Int) = 92) = false := decide_eq_false (fun e => c2 (e92.1 e))
        have y2 : decide ((c.toNat : Int) = 34) = true := decide_eq_true (e34.2 (c1.resolve_left c2))
        simp -implicitDefEqProofs only [go_sem, h0, h3, h4, y0, hc, y1, y2]
        refine fin _ _ ag (by simp) (fun tl2 G3 hA3 => ?_)
        simp -implicitDefEqProofs only [go_sem, h0, h4, ws]
        exact Again.mk (i + 1, tl2) (by simp -implicitDefEqProofs only [go_sem, h0, h4]) ⟨hA3, by simp only; omega⟩ (by simp only; omega)
    simp only [not_or] at c1
    have y1 : decide ((c.toNat : Int) = 92) = false := decide_eq_false (fun e => c1.1 (e92.1 e))
    have y2 : decide ((c.toNat : Int) = 34) = false := decide_eq_false (fun e => c1.2 (e34.1 e))
    by_cases c2 : c = 10
    · have hqc : qc c = [92, 110] := by unfold qc; rw [if_neg (by simp only [not_or]; exact c1), if_pos c2]
      have ag := again _ [[.int .u8 92], [.int .u8 110]] hqc rfl
      have y3 : decide ((c.toNat : Int) = 10) = true := decide_eq_true (e10.2 c2)
      simp -implicitDefEqProofs only [go_sem, h0, h3, h4, y0, hc, y1, y2, y3]
      refine fin _ _ ag (by simp) (fun tl2 G3 hA3 => ?_)
      simp -implicitDefEqProofs only [go_sem, h0, h4, ws]
      exact Again.mk (i + 1, tl2) (by simp -implicitDefEqProofs only [go_sem, h0, h4]) ⟨hA3, by simp only; omega⟩ (by simp only; omega)
    have y3 : decide ((c.toNat : Int) = 10) = false := decide_eq_false (fun e => c2 (e10.1 e))
    by_cases c3 : c.toNat < 32 ∨ 126 < c.toNat
    · have hqc : qc c = [92, 120, dig (c.toNat / 16), dig (c.toNat % 16)] := by unfold qc; rw [if_neg (by simp only [not_or]; exact c1), if_neg c2, if_pos c3]
      have ag := again _ [[.int .u8 92], [.int .u8 120], [.int .u8 (dig (c.toNat / 16)).toNat], [.int .u8 (dig (c.toNat % 16)).toNat]] hqc rfl
      by_cases c4 : c.toNat < 32
      · have y4 : decide ((c.toNat : Int) < 32) = true := decide_eq_true (by omega)
        simp -implicitDefEqProofs only [go_sem, h0, h3, h4, y0, hc, y1, y2, y3, y4, a1, a2, Int.toNat_natCast, d1, d2]
        refine fin _ _ ag (by simp) (fun tl2 G3 hA3 => ?_)
        simp -implicitDefEqProofs only [go_sem, h0, h4, ws]
        exact Again.mk (i + 1, tl2) (by simp -implicitDefEqProofs only [go_sem, h0, h4]) ⟨hA3, by simp only; omega⟩ (by simp only; omega)
      · have y4 : decide ((c.toNat : Int) < 32) = false := decide_eq_false (by omega)
        have y5 : decide (126 < (c.toNat : Int)) = true := decide_eq_true (by omega)
        simp -implicitDefEqProofs only [go_sem, h0, h3, h4, y0, hc, y1, y2, y3, y4, y5, a1, a2, Int.toNat_natCast, d1, d2]
        refine fin _ _ ag (by simp) (fun tl2 G3 hA3 => ?_)
        simp -implicitDefEqProofs only [go_sem, h0, h4, ws]
        exact Again.mk (i + 1, tl2) (by simp -implicitDefEqProofs only [go_sem, h0, h4]) ⟨hA3, by simp only; omega⟩ (by simp only; omega)
    simp only [not_or] at c3
    have hqc : qc c = [c] := by unfold qc; rw [if_neg (by simp only [not_or]; exact c1), if_neg c2, if_neg (by omega)]
    have ag := again _ [[.int .u8 c.toNat]] hqc rfl
    have y4 : decide ((c.toNat : Int) < 32) = false := decide_eq_false (by omega)
    have y5 : decide (126 < (c.toNat : Int)) = false := decide_eq_false (by omega)
    simp -implicitDefEqProofs only [go_sem, h0, h3, h4, y0, hc, y1, y2, y3, y4, y5]
    refine fin _ _ ag (by simp) (fun tl2 G3 hA3 => ?_)
    simp -implicitDefEqProofs only [go_sem, h0, h4, ws]
    exact Again.mk (i + 1, tl2) (by simp -implicitDefEqProofs only [go_sem, h0, h4]) ⟨hA3, by simp only; omega⟩ (by simp only; omega)
  · have y0 : decide ((i : Int) < s.length) = false := decide_eq_false (by omega)
    obtain rfl : i = s.length := by omega
    rw [List.take_length] at h3 hA hql hU
    simp -implicitDefEqProofs only [go_sem, h0, h3, h4, y0]
    refine AppG.step (e := tiU8) hA hU (by simp; omega) (by simp; omega) (fun tl2 G3 hA3 hK3 => ?_)
    rw [accQ_end]
    simp -implicitDefEqProofs only [go_sem]
    refine conv_sl (by simp -implicitDefEqProofs only [go_sem]) (by simp -implicitDefEqProofs only [go_sem]) ?_
    simp -implicitDefEqProofs only [go_sem]
    exact Done.drop hA3.1 ⟨rfl, rfl⟩
/-! ### The reference's -/
theorem writeByte_calls {g : Bool} {H G : Heap} {b : Nat} {l : Bytes} {c : UInt8} (h : BldG g H G b l) (hl : l.length + 1 ≤ 140737488355328) :
    ACalls Tryz.prog 152 [bldP b, .int .u8 c.toNat] G fun x G' => x = .nilIface ∧ BldG g H G' b (l ++ [c]) ∧ BKept b G G' := by
  obtain ⟨h1, h2, p, buf, h3, h4, h5⟩ := h
  have hc := copyCheck_calls h4 h3
  have hne : ([[AV.int .u8 c.toNat]] : List (List AV)) ≠ [] := by simp
  rcases h5 with ⟨rfl, rfl⟩ | ⟨t, rfl, t2, t3, t4, t9⟩
  · refine ACalls.of_code (X := { pure := pu0 }) pu0_ok Tryz.func152 (by kernel_rfl) rfl (by kernel_rfl) (Nat.le_of_ble_eq_true rfl) ?_
    simp -implicitDefEqProofs only [go_sem, Tryz.f152]
    refine hc.next1 ?_
    simp -implicitDefEqProofs only [go_sem]
    refine app_snil (by simp) (by simp) (fun hn => absurd hn hne) (fun hn t' ht' => ?_)
    have n1 := (heap_none ht').1
    have n2 := (heap_none ht').2.1
    have n3 := (heap_none ht').2.2
    have n4 : H t' = none := by
      cases hh : H t' with
      | none => rfl
      | some x => have := h1 t' x hh; rw [n3] at this; cases this
    simp -implicitDefEqProofs only [go_sem, put_ne, n2]
    refine Done.now ⟨rfl, ⟨((h1.put' h2 _).put' n4 _).put' h2 _, h2, _, _, put_same _ _ _, .inr rfl, .inr ⟨t', rfl, n4, ?_, n1, fun _ => by simp⟩⟩, fun i o hi hb _ => ?_⟩
    · rw [put_ne _ _ _ _ n1, put_same]; simp
    · have n5 : ¬ i = t' := fun e => by subst e; rw [n3] at hi; cases hi
      rw [put_ne _ _ _ _ hb, put_ne _ _ _ _ n5, put_ne _ _ _ _ hb]; exact hi
  · have htk : tokOf G b = some t := by simp [tokOf, h3]
    have t5 : (G.put b (.cells [bldP b, .sl (l.map bcell) (.tok t 1 (some 5))])) t = some (.tail ((l.map bcell).length * 1)) := by
      rw [put_ne _ _ _ _ t4]; simpa using t3
    refine ACalls.of_code (X := { pure := pu0 }) pu0_ok Tryz.func152 (by kernel_rfl) rfl (by kernel_rfl) (Nat.le_of_ble_eq_true rfl) ?_
    simp -implicitDefEqProofs only [go_sem, Tryz.f152]
    refine hc.next1 ?_
    simp -implicitDefEqProofs only [go_sem]
    refine app_tok' (e := tiU8) (bcell_len l) t5 (by simp at hl ⊢; omega) (by simp at hl ⊢; omega) (fun t' ht' => ?_)
    have n1 := (heap_none ht').1
    have n2 := (heap_none ht').2.1
    have n3 := (heap_none ht').2.2
    have n4 : H t' = none := by
      cases hh : H t' with
      | none => rfl
      | some x => have := h1 t' x hh; rw [n3] at this; cases this
    have n6 : ¬ b = t := fun e => t4 e.symm
    have n7 : H.Sub ((G.put b (.cells [bldP b, .sl (l.map bcell) (.tok t 1 (some 5))])).del t) := fun i o hi => by
      rw [del_ne (fun e => by subst e; rw [t2] at hi; cases hi)]
      exact h1.put' h2 _ i o hi
    simp -implicitDefEqProofs only [go_sem, put_ne, n2, del_ne, n6]
    refine Done.now ⟨rfl, ⟨(n7.put' n4 _).put' h2 _, h2, _, _, put_same _ _ _, .inr rfl, .inr ⟨t', by rw [List.map_append]; rfl, n4, ?_, n1, fun e => by simp⟩⟩, fun i o hi hb hk => ?_⟩
    · rw [put_ne _ _ _ _ n1, put_same]; simp
    · have n5 : ¬ i = t' := fun e => by subst e; rw [n3] at hi; cases hi
      have n8 : ¬ i = t := fun e => hk (by rw [htk, e])
      rw [put_ne _ _ _ _ hb, put_ne _ _ _ _ n5, del_ne n8, put_ne _ _ _ _ hb]; exact hi
theorem writeByte_k {g : Bool} {H G : Heap} {b : Nat} {l : Bytes} {c : UInt8} (h : BldG g H G b l) (hl : l.length + 1 ≤ 140737488355328) {K : K1} (hK : ∀ G', BldG g H G' b (l ++ [c]) → BKept b G G' → K .nilIface G') :
    ACalls Tryz.prog 152 [bldP b, .int .u8 c.toNat] G K := by
  refine (writeByte_calls h hl).mono ?_
  rintro x G' ⟨rfl, h1, h2⟩
  exact hK G' h1 h2
end Go.Proofs

/- Walks: Quote, on the reference's side; escape; Unquote. -/
namespace Go.Proofs
open Go Go.Abs
set_option linter.unusedSimpArgs false
set_option linter.unusedVariables false
set_option maxRecDepth 20000
theorem hexCut : ∀ m : Nat, m < 16 → ((48 :: ([49, 50, 51, 52, 53, 54, 55, 56, 57, 97, 98, 99, 100, 101, 102] : Bytes).take m).drop m) = [dig m] := by decide
theorem take_drop1 {s : Bytes} {i : Nat} {c : UInt8} (h : s[i]? = some c) : (s.take (i + 1)).drop i = [c] := by
  rw [List.take_add_one, h, List.drop_append_of_le_length (by rw [List.length_take]; have := (List.getElem?_eq_some_iff.1 h).1; omega), List.drop_of_length_le (by rw [List.length_take]; omega)]
  rfl
set_option maxHeartbeats 3200000 in
theorem rQuote_calls (s : Bytes) (H : Heap) (hs : s.length ≤ 1099511627776) : ACalls Tryz.prog 84 [.str s] H fun x H' => x = .str (quoteB s) ∧ H' = H := by
  refine ACalls.of_code (X := { pure := pu0, ms := fun t => decide (t = 3) }) pu0_ok Tryz.func84 (by kernel_rfl) rfl (by kernel_rfl) (Nat.le_of_ble_eq_true rfl) ?_
  simp -implicitDefEqProofs only [go_sem, Tryz.f84]
  with_reducible refine nwT_intro fun b hb => ?_
  have hnew := BldG.new (Heap.Sub.rfl' H) hb
  simp -implicitDefEqProofs only [go_sem]
  refine writeByte_k (c := 34) hnew (by simp) (fun G hG hK => ?_)
  clear hnew hK
  rw [show ([] : Bytes) ++ [34] = accQ [] from rfl] at hG
  simp -implicitDefEqProofs only [go_sem]
  refine aloop_intro (σ := Nat) (fun i => [(0, .str s), (3, bldP b), (8, .int .i64 s.length), (9, .int .i64 i)]) (fun i G' => BldOK H G' b (accQ (s.take i)) ∧ i ≤ s.length) (fun i => s.length - i) 0 ?_ ?_ ?_
  · simp -implicitDefEqProofs only [go_sem]
  · exact ⟨hG, Nat.zero_le _⟩
  clear hG
  rintro i r G2 hv ⟨hB, hi⟩
  have h0 := hv.1
  have h3 := hv.2.1
  have h8 := hv.2.2.1
  have h9 := hv.2.2.2.1
  clear hv
  have hql := accQ_len s i
  by_cases g : i < s.length
  · have y0 : decide ((i : Int) < s.length) = true := decide_eq_true (by omega)
    obtain ⟨c, hc⟩ : ∃ c, s[i]? = some c := getD_get' g
    have hq := accQ_take hc
    have hcl := c.toNat_lt
    have ws : IntKind.i64.wrap ((i : Int) + 1) = ((i + 1 : Nat) : Int) := by rw [Go.IntWalk.i64_in _ (by omega)]; omega
    have e92 := @u8_eq c 92 (by decide)
    have e34 := @u8_eq c 34 (by decide)
    have e10 := @u8_eq c 10 (by decide)
    have a1 := shr4u c.toNat hcl
    have a2 := and15u c.toNat hcl
    have b1 : IntKind.u8.wrap (((c.toNat / 16 : Nat) : Int) + 1) = ((c.toNat / 16 + 1 : Nat) : Int) := by rw [Go.IntWalk.u8_in _ (by omega)]; omega
    have b2 : IntKind.u8.wrap (((c.toNat % 16 : Nat) : Int) + 1) = ((c.toNat % 16 + 1 : Nat) : Int) := by rw [Go.IntWalk.u8_in _ (by omega)]; omega
    have d1 := hexCut (c.toNat / 16) (by omega)
    have d2 := hexCut (c.toNat % 16) (by omega)
    have t1 := take_drop1 hc
    have fin : ∀ {k : K1} (l : Bytes), qc c = l → (∀ G3, BldOK H G3 b (accQ (s.take (i + 1))) → k (.tup [.int .i64 l.length, .nilIface]) G3) → ACalls Tryz.prog 109 [bldP b, .str l] G2 k := fun {k} l h1 h2 => by
      have hl : l.length ≤ 4 := by
        rw [← h1]
        unfold qc
        repeat' split
        all_goals simp
      refine writeString_k hB (by omega) (fun G3 hG3 _ => ?_)
      rw [← h1, ← hq] at hG3
      exact h2 G3 hG3
    by_cases c1 : c = 92 ∨ c = 34
    · have hqc : qc c = [92, c] := by unfold qc; rw [if_pos c1]
      by_cases c2 : c = 34
      · have y1 : decide ((c.toNat : Int) = 34) = true := decide_eq_true (e34.2 c2)
        simp -implicitDefEqProofs only [go_sem, h0, h3, h8, h9, y0, hc, y1, ws, Int.toNat_natCast, t1]
        refine ⟨by omega, ?_⟩
        refine fin _ hqc (fun G3 hB3 => ?_)
        simp -implicitDefEqProofs only [go_sem, h0, h3, h8, h9, ws]
        exact Again.mk (i + 1) (by simp -implicitDefEqProofs only [go_sem, h0, h3, h8, h9]) ⟨hB3, by omega⟩ (by omega)
      · have y1 : decide ((c.toNat : Int) = 34) = false := decide_eq_false (fun e => c2 (e34.1 e))
        have y2 : decide ((c.toNat : Int) = 92) = true := decide_eq_true (e92.2 (c1.resolve_right c2))
        simp -implicitDefEqProofs only [go_sem, h0, h3, h8, h9, y0, hc, y1, y2, ws, Int.toNat_natCast, t1]
        refine ⟨by omega, ?_⟩
        refine fin _ hqc (fun G3 hB3 => ?_)
        simp -implicitDefEqProofs only [go_sem, h0, h3, h8, h9, ws]
        exact Again.mk (i + 1) (by simp -implicitDefEqProofs only [go_sem, h0, h3, h8, h9]) ⟨hB3, by omega⟩ (by omega)
    simp only [not_or] at c1
    have y1 : decide ((c.toNat : Int) = 92) = false := decide_eq_false (fun e => c1.1 (e92.1 e))
    have y2 : decide ((c.toNat : Int) = 34) = false := decide_eq_false (fun e => c1.2 (e34.1 e))
    by_cases c2 : c = 10
    · have hqc : qc c = [92, 110] := by unfold qc; rw [if_neg (by simp only [not_or]; exact c1), if_pos c2]
      have y3 : decide ((c.toNat : Int) = 10) = true := decide_eq_true (e10.2 c2)
      simp -implicitDefEqProofs only [go_sem, h0, h3, h8, h9, y0, hc, y1, y2, y3]
      refine fin _ hqc (fun G3 hB3 => ?_)
      simp -implicitDefEqProofs only [go_sem, h0, h3, h8, h9, ws]
      exact Again.mk (i + 1) (by simp -implicitDefEqProofs only [go_sem, h0, h3, h8, h9]) ⟨hB3, by omega⟩ (by omega)
    have y3 : decide ((c.toNat : Int) = 10) = false := decide_eq_false (fun e => c2 (e10.1 e))
    by_cases c3 : c.toNat < 32 ∨ 126 < c.toNat
    · have hqc : qc c = [92, 120, dig (c.toNat / 16), dig (c.toNat % 16)] := by unfold qc; rw [if_neg (by simp only [not_or]; exact c1), if_neg c2, if_pos c3]
      by_cases c4 : c.toNat < 32
      · have y4 : decide ((c.toNat : Int) < 32) = true := decide_eq_true (by omega)
        simp -implicitDefEqProofs only [go_sem, h0, h3, h8, h9, y0, hc, y1, y2, y3, y4, a1, a2, b1, b2, Int.toNat_natCast, List.take_length, d1, d2]
        refine ⟨by omega, ⟨by omega, by omega⟩, ?_⟩
        refine fin _ hqc (fun G3 hB3 => ?_)
        simp -implicitDefEqProofs only [go_sem, h0, h3, h8, h9, ws]
        exact Again.mk (i + 1) (by simp -implicitDefEqProofs only [go_sem, h0, h3, h8, h9]) ⟨hB3, by omega⟩ (by omega)
      · have y4 : decide ((c.toNat : Int) < 32) = false := decide_eq_false (by omega)
        have y5 : decide (126 < (c.toNat : Int)) = true := decide_eq_true (by omega)
        simp -implicitDefEqProofs only [go_sem, h0, h3, h8, h9, y0, hc, y1, y2, y3, y4, y5, a1, a2, b1, b2, Int.toNat_natCast, d1, d2]
        refine ⟨by omega, ⟨by omega, by omega⟩, ?_⟩
        refine fin _ hqc (fun G3 hB3 => ?_)
        simp -implicitDefEqProofs only [go_sem, h0, h3, h8, h9, ws]
        exact Again.mk (i + 1) (by simp -implicitDefEqProofs only [go_sem, h0, h3, h8, h9]) ⟨hB3, by omega⟩ (by omega)
    simp only [not_or] at c3
    have hqc : qc c = [c] := by unfold qc; rw [if_neg (by simp only [not_or]; exact c1), if_neg c2, if_neg (by omega)]
    have y4 : decide ((c.toNat : Int) < 32) = false := decide_eq_false (by omega)
    have y5 : decide (126 < (c.toNat : Int)) = false := decide_eq_false (by omega)
    simp -implicitDefEqProofs only [go_sem, h0, h3, h8, h9, y0, hc, y1, y2, y3, y4, y5]
    refine writeByte_k hB (by omega) (fun G3 hB3 _ => ?_)
    rw [← hqc, ← hq] at hB3
    simp -implicitDefEqProofs only [go_sem, h0, h3, h8, h9, ws]
    exact Again.mk (i + 1) (by simp -implicitDefEqProofs only [go_sem, h0, h3, h8, h9]) ⟨hB3, by omega⟩ (by omega)
  · have y0 : decide ((i : Int) < s.length) = false := decide_eq_false (by omega)
    obtain rfl : i = s.length := by omega
    rw [List.take_length] at hB hql
    simp -implicitDefEqProofs only [go_sem, h0, h3, h8, h9, y0]
    refine bldString_k hB (by omega) (fun e => by cases e) ?_
    simp -implicitDefEqProofs only [go_sem]
    refine ⟨by simp; omega, ?_⟩
    exact Done.drop hB.1 ⟨rfl, rfl⟩
end Go.Proofs

/- Walks: escape and Unquote. -/
namespace Go.Proofs
open Go Go.Abs
set_option linter.unusedSimpArgs false
set_option linter.unusedVariables false
set_option maxRecDepth 20000
theorem strIdxB_calls (s : Bytes) (c : Int) (H : Heap) : ACalls Tryz.prog 188 [.str s, .int .u8 c] H fun x H' => x = .int .i64 (Lib.indexByte s c.toNat.toUInt8) ∧ H' = H := by
  refine ACalls.of_code (X := { pure := puK2 }) puK2_ok Tryz.func188 (by kernel_rfl) rfl (by kernel_rfl) (Nat.le_of_ble_eq_true rfl) ?_
  simp -implicitDefEqProofs only [go_sem, Tryz.f188, puK2, puK1, sIdxB_eq]
  exact Done.now ⟨rfl, rfl⟩
def escT (s : Bytes) : AV := match escB s with
  | some (x, n) => .tup [.int .u8 x.toNat, .int .i64 n]
  | none => .tup [.int .u8 0, .int .i64 0]
noncomputable def puQ1 : Pures := putP 188 sIdxB pu0
theorem puQ1_dyn : isDyn puQ1 = false := by simp only [puQ1, go_sem, Nat.reduceEqDiff]
attribute [go_sem] puQ1_dyn
theorem puQ1_ok : PuOK Tryz.prog puQ1 := .put (pu0_ok) (sIdxB_ok strIdxB_calls)
theorem escB_cons (a : UInt8) (r : Bytes) : escB (a :: r) = if a = 92 ∨ a = 34 then some (a, 1) else if a = 110 then some (10, 1) else if a = 120 then
      match r with
      | h :: l :: _ =>
        if hexI h < 0 ∨ hexI l < 0 then none else
          if (32 ≤ 16 * hexI h + hexI l ∧ 16 * hexI h + hexI l ≤ 126) ∨ 16 * hexI h + hexI l = 10 then none else some (UInt8.ofNat (16 * hexI h + hexI l).toNat, 3)
      | _ => none
    else none := rfl
set_option maxHeartbeats 1600000 in
theorem escape_calls (s : Bytes) (H : Heap) (hs : s.length ≤ 1099511627776) : ACalls Tryz.prog 149 [.str s] H fun x H' => x = escT s ∧ H' = H := by
  cases s with
  | nil =>
    refine ACalls.of_code (X := { pure := puQ1 }) puQ1_ok Tryz.func149 (by kernel_rfl) rfl (by kernel_rfl) (Nat.le_of_ble_eq_true rfl) ?_
    simp -implicitDefEqProofs only [go_sem, Tryz.f149]
    exact Done.now ⟨rfl, rfl⟩
  | cons a r =>
    have hal := a.toNat_lt
    have e92 := @u8_eq a 92 (by decide)
    have e34 := @u8_eq a 34 (by decide)
    have e110 := @u8_eq a 110 (by decide)
    have e120 := @u8_eq a 120 (by decide)
    have hv : escT (a :: r) = match escB (a :: r) with
      | some (x, n) => .tup [.int .u8 x.toNat, .int .i64 n]
      | none => .tup [.int .u8 0, .int .i64 0] := rfl
    have y0 : decide (a :: r = []) = false := by simp
    by_cases c1 : a = 92
    · have y1 : decide ((a.toNat : Int) = 92) = true := decide_eq_true (e92.2 c1)
      refine ACalls.of_code (X := { pure := puQ1 }) puQ1_ok Tryz.func149 (by kernel_rfl) rfl (by kernel_rfl) (Nat.le_of_ble_eq_true rfl) ?_
      simp -implicitDefEqProofs only [go_sem, Tryz.f149, y0, y1, Int.toNat_zero, Int.le_refl]
      exact Done.now ⟨by rw [hv, escB_cons, if_pos (.inl c1)]; rfl, rfl⟩
    have y1 : decide ((a.toNat : Int) = 92) = false := decide_eq_false (fun e => c1 (e92.1 e))
    by_cases c2 : a = 34
    · have y2 : decide ((a.toNat : Int) = 34) = true := decide_eq_true (e34.2 c2)
      refine ACalls.of_code (X := { pure := puQ1 }) puQ1_ok Tryz.func149 (by kernel_rfl) rfl (by kernel_rfl) (Nat.le_of_ble_eq_true rfl) ?_
      simp -implicitDefEqProofs only [go_sem, Tryz.f149, y0, y1, y2, Int.toNat_zero, Int.le_refl]
      exact Done.now ⟨by rw [hv, escB_cons, if_pos (.inr c2)]; rfl, rfl⟩
    have y2 : decide ((a.toNat : Int) = 34) = false := decide_eq_false (fun e => c2 (e34.1 e))
    by_cases c3 : a = 110
    · have y3 : decide ((a.toNat : Int) = 110) = true := decide_eq_true (e110.2 c3)
      refine ACalls.of_code (X := { pure := puQ1 }) puQ1_ok Tryz.func149 (by kernel_rfl) rfl (by kernel_rfl) (Nat.le_of_ble_eq_true rfl) ?_
      simp -implicitDefEqProofs only [go_sem, Tryz.f149, y0, y1, y2, y3, Int.toNat_zero, Int.le_refl]
      exact Done.now ⟨by rw [hv, escB_cons, if_neg (by simp [c1, c2]), if_pos c3]; rfl, rfl⟩
    have y3 : decide ((a.toNat : Int) = 110) = false := decide_eq_false (fun e => c3 (e110.1 e))
    by_cases c4 : a = 120
    · have y4 : decide (¬ (a.toNat : Int) = 120) = false := decide_eq_false (by simpa using e120.2 c4)
      match r with
      | [] =>
        have y5 : decide ((([a] : Bytes).length : Int) < 3) = true := decide_eq_true (by simp)
        refine ACalls.of_code (X := { pure := puQ1 }) puQ1_ok Tryz.func149 (by kernel_rfl) rfl (by kernel_rfl) (Nat.le_of_ble_eq_true rfl) ?_
        simp -implicitDefEqProofs only [go_sem, Tryz.f149, y0, y1, y2, y3, y4, y5, Int.toNat_zero, Int.le_refl]
        exact Done.now ⟨by rw [hv, escB_cons, if_neg (by simp [c1, c2]), if_neg c3, if_pos c4], rfl⟩
      | [h] =>
        have y5 : decide ((([a, h] : Bytes).length : Int) < 3) = true := decide_eq_true (by simp)
        refine ACalls.of_code (X := { pure := puQ1 }) puQ1_ok Tryz.func149 (by kernel_rfl) rfl (by kernel_rfl) (Nat.le_of_ble_eq_true rfl) ?_
        simp -implicitDefEqProofs only [go_sem, Tryz.f149, y0, y1, y2, y3, y4, y5, Int.toNat_zero, Int.le_refl]
        exact Done.now ⟨by rw [hv, escB_cons, if_neg (by simp [c1, c2]), if_neg c3, if_pos c4], rfl⟩
      | h :: l :: rest =>
        have y5 : decide (((rest.length + 1 + 1 + 1 : Nat) : Int) < 3) = false := decide_eq_false (by omega)
        have hv2 : escB (a :: h :: l :: rest) = if hexI h < 0 ∨ hexI l < 0 then none else
          if (32 ≤ 16 * hexI h + hexI l ∧ 16 * hexI h + hexI l ≤ 126) ∨ 16 * hexI h + hexI l = 10 then none else some (UInt8.ofNat (16 * hexI h + hexI l).toNat, 3) := by rw [escB_cons, if_neg (by simp [c1, c2]), if_neg c3, if_pos c4]
        rw [hv2] at hv
        rw [hv]
        clear hv hv2
        have hh : Lib.indexByte [48, 49, 50, 51, 52, 53, 54, 55, 56, 57, 97, 98, 99, 100, 101, 102] h = hexI h := rfl
        have hl : Lib.indexByte [48, 49, 50, 51, 52, 53, 54, 55, 56, 57, 97, 98, 99, 100, 101, 102] l = hexI l := rfl
        have ge1 := hexI_ge h
        have ge2 := hexI_ge l
        refine ACalls.of_code (X := { pure := puQ1 }) puQ1_ok Tryz.func149 (by kernel_rfl) rfl (by kernel_rfl) (Nat.le_of_ble_eq_true rfl) ?_
        simp -implicitDefEqProofs only [go_sem, Tryz.f149, y0, y1, y2, y3, y4, y5, Int.toNat_zero, Int.le_refl, puQ1, sIdxB_eq, u8_nat, hh, hl]
        by_cases g1 : hexI h < 0
        · have z1 : decide (hexI h < 0) = true := decide_eq_true g1
          simp -implicitDefEqProofs only [go_sem, z1]
          exact Done.now ⟨by rw [if_pos (.inl g1)], rfl⟩
        have z1 : decide (hexI h < 0) = false := decide_eq_false g1
        by_cases g2 : hexI l < 0
        · have z2 : decide (hexI l < 0) = true := decide_eq_true g2
          simp -implicitDefEqProofs only [go_sem, z1, z2]
          exact Done.now ⟨by rw [if_pos (.inr g2)], rfl⟩
        have z2 : decide (hexI l < 0) = false := decide_eq_false g2
        rw [if_neg (by omega)]
        obtain ⟨k1, b1, b2, _⟩ := hexI_some (c := h) (by omega)
        obtain ⟨k2, b3, b4, _⟩ := hexI_some (c := l) (by omega)
        have w1 : IntKind.i64.wrap (16 * hexI h) = 16 * hexI h := Go.IntWalk.i64_in _ (by omega)
        have w2 : IntKind.i64.wrap (16 * hexI h + hexI l) = 16 * hexI h + hexI l := Go.IntWalk.i64_in _ (by omega)
        have w3 : IntKind.u8.wrap (16 * hexI h + hexI l) = 16 * hexI h + hexI l := Go.IntWalk.u8_in _ (by omega)
        have hn : 16 * hexI h + hexI l = ((16 * k1 + k2 : Nat) : Int) := by omega
        rw [hn] at w2 w3 ⊢
        have w4 : (UInt8.ofNat (16 * k1 + k2)).toNat = 16 * k1 + k2 := by
          simp only [UInt8.toNat_ofNat']
          omega
        simp -implicitDefEqProofs only [go_sem, z1, z2, w1, hn, w2, w3]
        by_cases g3 : 32 ≤ 16 * k1 + k2
        · have z3 : decide ((32 : Int) ≤ ((16 * k1 + k2 : Nat) : Int)) = true := decide_eq_true (by omega)
          by_cases g4 : 16 * k1 + k2 ≤ 126
          · have z4 : decide (((16 * k1 + k2 : Nat) : Int) ≤ 126) = true := decide_eq_true (by omega)
            simp -implicitDefEqProofs only [go_sem, z3, z4]
            exact Done.now ⟨by rw [if_pos (by omega)], rfl⟩
          · have z4 : decide (((16 * k1 + k2 : Nat) : Int) ≤ 126) = false := decide_eq_false (by omega)
            have z5 : decide (((16 * k1 + k2 : Nat) : Int) = 10) = false := decide_eq_false (by omega)
            simp -implicitDefEqProofs only [go_sem, z3, z4, z5]
            exact Done.now ⟨by rw [if_neg (by omega)]; simp only [Int.toNat_natCast]; rw [w4]; rfl, rfl⟩
        · have z3 : decide ((32 : Int) ≤ ((16 * k1 + k2 : Nat) : Int)) = false := decide_eq_false (by omega)
          by_cases g5 : 16 * k1 + k2 = 10
          · have z5 : decide (((16 * k1 + k2 : Nat) : Int) = 10) = true := decide_eq_true (by omega)
            simp -implicitDefEqProofs only [go_sem, z3, z5]
            exact Done.now ⟨by rw [if_pos (by omega)], rfl⟩
          · have z5 : decide (((16 * k1 + k2 : Nat) : Int) = 10) = false := decide_eq_false (by omega)
            simp -implicitDefEqProofs only [go_sem, z3, z5]
            exact Done.now ⟨by rw [if_neg (by omega)]; simp only [Int.toNat_natCast]; rw [w4]; rfl, rfl⟩
    · have y4 : decide (¬ (a.toNat : Int) = 120) = true := decide_eq_true (fun e => c4 (e120.1 e))
      refine ACalls.of_code (X := { pure := puQ1 }) puQ1_ok Tryz.func149 (by kernel_rfl) rfl (by kernel_rfl) (Nat.le_of_ble_eq_true rfl) ?_
      simp -implicitDefEqProofs only [go_sem, Tryz.f149, y0, y1, y2, y3, y4, Int.toNat_zero, Int.le_refl]
      exact Done.now ⟨by rw [hv, escB_cons, if_neg (by simp [c1, c2]), if_neg c3, if_neg c4], rfl⟩
noncomputable def sEsc := spF (fun s : Bytes => [AV.str s]) (fun s => s.length ≤ 1099511627776) escT
theorem sEsc_eq (s : Bytes) (h : s.length ≤ 1099511627776) : sEsc [.str s] = some (escT s) := spF_eq (fun a b e => by cases e; rfl) s h
noncomputable def puQ2 : Pures := putP 149 sEsc puQ1
theorem puQ2_dyn : isDyn puQ2 = false := by simp only [puQ2, go_sem, Nat.reduceEqDiff]
attribute [go_sem] puQ2_dyn
theorem puQ2_ok : PuOK Tryz.prog puQ2 := .put (puQ1_ok) (spF_ok fun s H h => escape_calls s H h)
def unqT (s : Bytes) : AV := match unq s with
  | some t => .tup [.str t, .int .i64 0]
  | none => .tup [.str [], .int .i64 8]
theorem inner_eq (s : Bytes) : (s.drop 1).dropLast = (s.take (s.length - 1)).drop 1 := by
  rw [List.dropLast_eq_take, List.length_drop, List.drop_take]
theorem unqI_nil : unqI [] = some [] := by rw [unqI]
theorem unqI_cons (c : UInt8) (r : Bytes) : unqI (c :: r) = if c.toNat < 32 ∨ 126 < c.toNat ∨ c = 34 then none else
      if c = 92 then
        match escB r with
        | some (x, n) => (unqI (r.drop n)).map (x :: ·)
        | none => none
      else (unqI r).map (c :: ·) := by
  first | (rw [unqI.eq_def]; done) | (rw [unqI.eq_def]; rfl)
set_option maxHeartbeats 3200000 in
theorem unquote_calls (s : Bytes) (H : Heap) (hs : s.length ≤ 1099511627776) : ACalls Tryz.prog 78 [.str s] H fun x H' => x = unqT s ∧ H' = H := by
  have hv : unqT s = match unq s with
    | some t => .tup [.str t, .int .i64 0]
    | none => .tup [.str [], .int .i64 8] := rfl
  by_cases g0 : s.length < 2
  · have y0 : decide ((s.length : Int) < 2) = true := decide_eq_true (by omega)
    refine ACalls.of_code (X := { pure := puQ2 }) puQ2_ok Tryz.func78 (by kernel_rfl) rfl (by kernel_rfl) (Nat.le_of_ble_eq_true rfl) ?_
    simp -implicitDefEqProofs only [go_sem, Tryz.f78, y0]
    exact Done.now ⟨by rw [hv, unq, if_pos (.inl g0)], rfl⟩
  have y0 : decide ((s.length : Int) < 2) = false := decide_eq_false (by omega)
  obtain ⟨a, ha⟩ : ∃ a, s[0]? = some a := getD_get' (by omega)
  obtain ⟨z, hz⟩ : ∃ z, s[s.length - 1]? = some z := getD_get' (by omega)
  have a34 := @u8_eq a 34 (by decide)
  have z34 := @u8_eq z 34 (by decide)
  have w0 : IntKind.i64.wrap ((s.length : Int) - 1) = ((s.length - 1 : Nat) : Int) := by rw [Go.IntWalk.i64_in _ (by omega)]; omega
  have hh : s.head? = some a := by rw [List.head?_eq_getElem?]; exact ha
  have hl : s.getLast? = some z := by rw [List.getLast?_eq_getElem?]; exact hz
  by_cases g1 : a = 34
  rotate_left
  · have y1 : decide (¬ (a.toNat : Int) = 34) = true := decide_eq_true (fun e => g1 (a34.1 e))
    refine ACalls.of_code (X := { pure := puQ2 }) puQ2_ok Tryz.func78 (by kernel_rfl) rfl (by kernel_rfl) (Nat.le_of_ble_eq_true rfl) ?_
    simp -implicitDefEqProofs only [go_sem, Tryz.f78, y0, Int.toNat_zero, ha, y1, Int.le_refl]
    exact Done.now ⟨by rw [hv, unq, if_pos (.inr (.inl (by rw [hh]; simpa using g1)))], rfl⟩
  have y1 : decide (¬ (a.toNat : Int) = 34) = false := decide_eq_false (by simpa using a34.2 g1)
  by_cases g2 : z = 34
  rotate_left
  · have y2 : decide (¬ (z.toNat : Int) = 34) = true := decide_eq_true (fun e => g2 (z34.1 e))
    refine ACalls.of_code (X := { pure := puQ2 }) puQ2_ok Tryz.func78 (by kernel_rfl) rfl (by kernel_rfl) (Nat.le_of_ble_eq_true rfl) ?_
    simp -implicitDefEqProofs only [go_sem, Tryz.f78, y0, Int.toNat_zero, ha, y1, Int.le_refl, w0, Int.toNat_natCast, hz, y2]
    exact Done.now ⟨by rw [hv, unq, if_pos (.inr (.inr (by rw [hl]; simpa using g2)))], rfl⟩
  have y2 : decide (¬ (z.toNat : Int) = 34) = false := decide_eq_false (by simpa using z34.2 g2)
  have hu : unq s = unqI ((s.take (s.length - 1)).drop 1) := by
    rw [unq, if_neg (by rw [hh, hl, g1, g2]; simp; omega), inner_eq]
  rw [hu] at hv
  rw [hv]
  have hml : ((s.take (s.length - 1)).drop 1).length ≤ s.length := by rw [List.length_drop, List.length_take]; omega
  refine ACalls.of_code (X := { pure := puQ2 }) puQ2_ok Tryz.func78 (by kernel_rfl) rfl (by kernel_rfl) (Nat.le_of_ble_eq_true rfl) ?_
  simp -implicitDefEqProofs only [go_sem, Tryz.f78, y0, Int.toNat_zero, ha, y1, Int.le_refl, w0, Int.toNat_natCast, hz, y2, Int.toNat_one]
  refine ⟨by omega, ?_⟩
  generalize (s.take (s.length - 1)).drop 1 = m at *
  refine makeSlice_tok (e := tiU8) (by simp -implicitDefEqProofs only [go_sem]) ⟨rfl, rfl, by decide⟩ (by omega) (by simp only; omega) (by omega) (fun id hid => ?_)
  have hA := AppG.tok0 (k := 1) (ty := some 5) hid
  generalize H.put id (.tail 0) = G at *
  generalize hel : elemT Tryz.prog 70 = et at *
  rw [show et = some 5 by rw [← hel]; simp -implicitDefEqProofs only [go_sem, elemT_eq]]
  clear hel hid hh hl ha hz w0 y0 y1 y2 hv hu g0 g1 g2 a34 z34
  simp -implicitDefEqProofs only [go_sem]
  refine aloop_intro (σ := Nat × Bytes × Tail) (fun t => [(0, .str m), (4, .sl (t.2.1.map bcell) t.2.2), (5, .int .i64 t.1)])
    (fun t G' => AppG H G' 1 (t.2.1.map bcell) t.2.2 ∧ t.1 ≤ m.length ∧ t.2.1.length ≤ t.1 ∧ unqI m = (unqI (m.drop t.1)).map (t.2.1 ++ ·)) (fun t => m.length - t.1) (0, [], .tok id 1 (some 5)) ?_ ?_ ?_
  · simp -implicitDefEqProofs only [go_sem]
  · exact ⟨hA, Nat.zero_le _, Nat.le_refl _, by simp⟩
  clear hA
  rintro ⟨i, out, tl⟩ r G2 hv ⟨hA, hi, ho, hI⟩
  have h0 := hv.1
  have h4 := hv.2.1
  have h5 := hv.2.2.1
  clear hv
  simp only at h0 h4 h5 hA hi ho hI
  have hU := bcell_len out
  by_cases g : i < m.length
  · have y0 : decide ((i : Int) < m.length) = true := decide_eq_true (by omega)
    obtain ⟨c, hc⟩ : ∃ c, m[i]? = some c := getD_get' g
    have hd : m.drop i = c :: m.drop (i + 1) := by
      rw [List.drop_eq_getElem_cons g]
      congr 1
      rw [List.getElem?_eq_getElem g] at hc
      exact Option.some.inj hc
    rw [hd, unqI_cons] at hI
    have hcl := c.toNat_lt
    have e34 := @u8_eq c 34 (by decide)
    have e92 := @u8_eq c 92 (by decide)
    have ws : IntKind.i64.wrap ((i : Int) + 1) = ((i + 1 : Nat) : Int) := by rw [Go.IntWalk.i64_in _ (by omega)]; omega
    by_cases c1 : c.toNat < 32
    · have y1 : decide ((c.toNat : Int) < 32) = true := decide_eq_true (by omega)
      rw [if_pos (.inl c1)] at hI
      simp -implicitDefEqProofs only [go_sem, h0, h4, h5, y0, hc, y1]
      exact Done.drop hA.1 ⟨by rw [hI]; rfl, rfl⟩
    have y1 : decide ((c.toNat : Int) < 32) = false := decide_eq_false (by omega)
    by_cases c2 : 126 < c.toNat
    · have y2 : decide (126 < (c.toNat : Int)) = true := decide_eq_true (by omega)
      rw [if_pos (.inr (.inl c2))] at hI
      simp -implicitDefEqProofs only [go_sem, h0, h4, h5, y0, hc, y1, y2]
      exact Done.drop hA.1 ⟨by rw [hI]; rfl, rfl⟩
    have y2 : decide (126 < (c.toNat : Int)) = false := decide_eq_false (by omega)
    by_cases c3 : c = 34
    · have y3 : decide ((c.toNat : Int) = 34) = true := decide_eq_true (e34.2 c3)
      rw [if_pos (.inr (.inr c3))] at hI
      simp -implicitDefEqProofs only [go_sem, h0, h4, h5, y0, hc, y1, y2, y3]
      exact Done.drop hA.1 ⟨by rw [hI]; rfl, rfl⟩
    have y3 : decide ((c.toNat : Int) = 34) = false := decide_eq_false (fun e => c3 (e34.1 e))
    rw [if_neg (by simp only [not_or]; exact ⟨c1, c2, c3⟩)] at hI
    have fin : ∀ (x : UInt8) (k : K1), (∀ tl2 G3, AppG H G3 1 ((out ++ [x]).map bcell) tl2 → k (.sl ((out ++ [x]).map bcell) tl2) G3) → appK (some 5) false tiU8 (.sl (out.map bcell) tl) [[.int .u8 x.toNat]] G2 k := fun x k h1 => by
      refine AppG.step (e := tiU8) hA hU (by simp; omega) (by simp; omega) (fun tl2 G3 hA3 hK3 => ?_)
      have e : out.map bcell ++ [[AV.int .u8 x.toNat]] = (out ++ [x]).map bcell := by simp [bcell]
      rw [e] at hA3 ⊢
      exact h1 tl2 G3 hA3
    by_cases c4 : c = 92
    rotate_left
    · have y4 : decide ((c.toNat : Int) = 92) = false := decide_eq_false (fun e => c4 (e92.1 e))
      rw [if_neg c4] at hI
      simp -implicitDefEqProofs only [go_sem, h0, h4, h5, y0, hc, y1, y2, y3, y4]
      refine fin _ _ (fun tl2 G3 hA3 => ?_)
      simp -implicitDefEqProofs only [go_sem, h0, h5, ws]
      refine Again.mk (i + 1, out ++ [c], tl2) (by simp -implicitDefEqProofs only [go_sem, h0, h5]) ⟨hA3, by simp only; omega, by simp only [List.length_append, List.length_cons, List.length_nil]; omega, ?_⟩ (by simp only; omega)
      rw [hI, Option.map_map]
      congr 1
      funext l
      simp
    have y4 : decide ((c.toNat : Int) = 92) = true := decide_eq_true (e92.2 c4)
    rw [if_pos c4] at hI
    have hel : (m.drop (i + 1)).length ≤ 1099511627776 := by rw [List.length_drop]; omega
    have q1 := sEsc_eq (m.drop (i + 1)) hel
    have hbk := fun x n => @escB_back (m.drop (i + 1)) x n
    unfold escT at q1
    generalize escB (m.drop (i + 1)) = eo at *
    cases eo with
    | none =>
      simp only at q1 hI
      simp -implicitDefEqProofs only [go_sem, h0, h4, h5, y0, hc, y1, y2, y3, y4, ws, Int.toNat_natCast, List.take_length, puQ2, q1]
      refine ⟨by omega, ?_⟩
      exact Done.drop hA.1 ⟨by rw [hI]; rfl, rfl⟩
    | some p =>
      obtain ⟨x, n⟩ := p
      simp only at q1 hI
      obtain ⟨hb1, hb2⟩ := hbk x n rfl
      rw [List.length_drop] at hb2
      have hn0 : ¬ n = 0 := by
        intro e
        rw [e, List.take_zero] at hb1
        unfold qc at hb1
        repeat' split at hb1
        all_goals simp_all
      have y5 : decide ((n : Int) = 0) = false := decide_eq_false (by omega)
      have w2 : IntKind.i64.wrap ((i : Int) + n) = ((i + n : Nat) : Int) := by rw [Go.IntWalk.i64_in _ (by omega)]; omega
      have w3 : IntKind.i64.wrap (((i + n : Nat) : Int) + 1) = ((i + n + 1 : Nat) : Int) := by rw [Go.IntWalk.i64_in _ (by omega)]; omega
      simp -implicitDefEqProofs only [go_sem, h0, h4, h5, y0, hc, y1, y2, y3, y4, ws, Int.toNat_natCast, List.take_length, puQ2, q1, y5, w2]
      refine ⟨by omega, ?_⟩
      refine fin _ _ (fun tl2 G3 hA3 => ?_)
      simp -implicitDefEqProofs only [go_sem, h0, h5, w3]
      refine Again.mk (i + n + 1, out ++ [x], tl2) (by simp -implicitDefEqProofs only [go_sem, h0, h5]) ⟨hA3, by simp only; omega, by simp only [List.length_append, List.length_cons, List.length_nil]; omega, ?_⟩ (by simp only; omega)
      rw [hI, List.drop_drop, Option.map_map, show i + 1 + n = i + n + 1 by omega]
      congr 1
      funext l
      simp
  · have y0 : decide ((i : Int) < m.length) = false := decide_eq_false (by omega)
    obtain rfl : i = m.length := by omega
    rw [List.drop_length, unqI_nil] at hI
    simp -implicitDefEqProofs only [go_sem, h0, h4, h5, y0]
    refine conv_sl (by simp -implicitDefEqProofs only [go_sem]) (by simp -implicitDefEqProofs only [go_sem]) ?_
    simp -implicitDefEqProofs only [go_sem]
    exact Done.drop hA.1 ⟨by rw [hI]; simp, rfl⟩
end Go.Proofs

/- Walks: Unquote, on the reference's side. -/
namespace Go.Proofs
open Go Go.Abs
set_option linter.unusedSimpArgs false
set_option linter.unusedVariables false
set_option maxRecDepth 20000
noncomputable def sQuo := spF (fun s : Bytes => [AV.str s]) (fun s => s.length ≤ 1099511627776) (fun s => .str (quoteB s))
theorem sQuo_eq (s : Bytes) (h : s.length ≤ 1099511627776) : sQuo [.str s] = some (.str (quoteB s)) := spF_eq (fun a b e => by cases e; rfl) s h
noncomputable def puQ4 : Pures := putP 84 sQuo (putP 114 sIdxL pu0)
theorem puQ4_dyn : isDyn puQ4 = false := by simp only [puQ4, go_sem, Nat.reduceEqDiff]
attribute [go_sem] puQ4_dyn
/-- What is left to read, and what was read. -/
def dRest (m rest out : Bytes) : Prop := dqI m = (dqI rest).map (out ++ ·)
theorem dRest.step {m rest rest2 out : Bytes} {x : UInt8} (h : dRest m rest out) (e : dqI rest = (dqI rest2).map (x :: ·)) : dRest m rest2 (out ++ [x]) := by
  unfold dRest at h ⊢
  rw [h, e, Option.map_map]
  congr 1
  funext l
  simp
def AppL (H G : Heap) (acc : Bytes) (tl : Tail) : Prop := AppG H G 1 (acc.map bcell) tl ∨ (tl = .lit ∧ H.Sub G)
theorem AppL.sub {H G : Heap} {acc : Bytes} {tl : Tail} (h : AppL H G acc tl) : H.Sub G := by
  rcases h with h | h
  · exact h.1
  · exact h.2
theorem AppL.step {H G : Heap} {acc : Bytes} {tl : Tail} {x : UInt8} {n : Int} (h : AppL H G acc tl) (hx : n = x.toNat) (hl : acc.length ≤ 1099511627776) {k : K1} (hk : ∀ tl2 G3, AppL H G3 (acc ++ [x]) tl2 → k (.sl ((acc ++ [x]).map bcell) tl2) G3) :
    appK (some 5) false tiU8 (.sl (acc.map bcell) tl) [[.int .u8 n]] G k := by
  subst hx
  have e : acc.map bcell ++ [[AV.int .u8 x.toNat]] = (acc ++ [x]).map bcell := by simp [bcell]
  rcases h with h | ⟨rfl, hs⟩
  · refine AppG.step (e := tiU8) h (bcell_len acc) (by simp; omega) (by simp; omega) (fun tl2 G3 hA3 hK3 => ?_)
    rw [e] at hA3 ⊢
    exact hk tl2 G3 (.inl hA3)
  · refine ⟨fun e => by simp at e, fun _ => ⟨bcell_len acc, by simp; omega, by simp; omega, fun id hid => ?_⟩⟩
    rw [e]
    refine hk _ _ (.inl ⟨hs.put' (sub_none hs hid) _, .inr ⟨id, _, rfl, sub_none hs hid, ?_⟩⟩)
    rw [put_same]
    simp
end Go.Proofs
