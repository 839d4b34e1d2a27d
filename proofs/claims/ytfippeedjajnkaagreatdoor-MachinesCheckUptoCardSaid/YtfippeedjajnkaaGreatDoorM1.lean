/-
  Walks and plain laws, part 1.
-/
import Derived.Lib.Bytealg
import Derived.Test.YtfippeedjajnkaaGreatDoorAbs4
import Derived.Test.YtfippeedjajnkaaGreatDoorTy
import Derived.IntWalk
/- What strings are cut into; signs and names: plain Lean, no program. -/
namespace Go.Proofs
set_option linter.unusedSimpArgs false
set_option linter.unusedVariables false
abbrev Bytes := List UInt8
def splitB (c : UInt8) : Bytes → List Bytes
  | [] => [[]]
  | b :: l => if b = c then [] :: splitB c l else
    match splitB c l with
    | h :: t => (b :: h) :: t
    | [] => [[b]]
theorem splitB_ne (c : UInt8) (l : Bytes) : splitB c l ≠ [] := by
  cases l with
  | nil => simp [splitB]
  | cons b l =>
    unfold splitB
    split
    · simp
    · split <;> simp
theorem splitB_none {c : UInt8} : ∀ {l : Bytes}, l.count c = 0 → splitB c l = [l]
  | [], _ => rfl
  | b :: l, h => by
    rw [List.count_cons] at h
    have hb : ¬ b = c := by intro e; subst e; simp at h
    have hl : l.count c = 0 := by omega
    unfold splitB
    rw [if_neg hb, splitB_none hl]
theorem indexByte_none {c : UInt8} : ∀ {l : Bytes}, Lib.indexByte l c = -1 ↔ l.count c = 0
  | [] => by simp [Lib.indexByte]
  | b :: l => by
    have ih := indexByte_none (c := c) (l := l)
    have hge := Lib.indexByte_ge l c
    unfold Lib.indexByte
    rw [List.count_cons]
    by_cases hb : (b == c) = true
    · rw [if_pos hb, if_pos hb]; omega
    · rw [if_neg hb, if_neg hb]
      by_cases h2 : Lib.indexByte l c = -1
      · simp [h2, ih.1 h2]
      · have : ¬ l.count c = 0 := fun e => h2 (ih.2 e)
        have hb2 : (Lib.indexByte l c == -1) = false := by simpa using h2
        rw [hb2]
        simp only [Bool.false_eq_true, if_false]
        omega
theorem indexByte_some {c : UInt8} : ∀ {l : Bytes} {m : Nat}, Lib.indexByte l c = (m : Int) → m < l.length ∧ splitB c l = l.take m :: splitB c (l.drop (m + 1)) ∧ l.count c = (l.drop (m + 1)).count c + 1
  | [], m, h => by simp [Lib.indexByte] at h
  | b :: l, m, h => by
    unfold Lib.indexByte at h
    by_cases hb : (b == c) = true
    · rw [if_pos hb] at h
      have : m = 0 := by omega
      subst this
      have hb' : b = c := by simpa using hb
      subst hb'
      refine ⟨by simp, by simp [splitB], by simp⟩
    · rw [if_neg hb] at h
      have hge := Lib.indexByte_ge l c
      by_cases h2 : Lib.indexByte l c = -1
      · rw [h2] at h; simp at h
      · have hb2 : (Lib.indexByte l c == -1) = false := by simpa using h2
        rw [hb2] at h
        simp only [Bool.false_eq_true, if_false] at h
        obtain ⟨k, rfl⟩ : ∃ k, m = k + 1 := ⟨m - 1, by omega⟩
        obtain ⟨i1, i2, i3⟩ := indexByte_some (c := c) (l := l) (m := k) (by omega)
        have hb' : ¬ b = c := by simpa using hb
        refine ⟨by simp; omega, ?_, ?_⟩
        · rw [splitB, if_neg hb', i2]; simp
        · rw [List.count_cons, if_neg hb, i3]; simp
theorem splitB_len {c : UInt8} : ∀ (l : Bytes), (splitB c l).length = l.count c + 1
  | [] => by simp [splitB]
  | b :: l => by
    have ih := splitB_len (c := c) l
    unfold splitB
    rw [List.count_cons]
    by_cases hb : b = c
    · simp [hb, ih]
    · simp only [hb, if_false, beq_iff_eq]
      cases hs : splitB c l with
      | nil => exact absurd hs (splitB_ne c l)
      | cons h t => rw [hs] at ih; simpa using ih
/-- Each part of a text is no longer than it. -/
theorem splitB_mem {c : UInt8} : ∀ (l : Bytes), ∀ p ∈ splitB c l, p.length ≤ l.length
  | [], p, h => by simp [splitB] at h; simp [h]
  | b :: l, p, h => by
    have ih := splitB_mem (c := c) l
    unfold splitB at h
    split at h
    · rcases List.mem_cons.1 h with rfl | h
      · simp
      · have := ih p h; simp; omega
    · split at h
      · rename_i hd t hs
        rw [hs] at ih
        rcases List.mem_cons.1 h with rfl | h
        · have := ih hd (by simp); simp; omega
        · have := ih p (by simp [h]); simp; omega
      · rename_i hs; exact absurd hs (splitB_ne c l)
end Go.Proofs

/- Signs, names, paths, values: plain Lean, no program. -/
namespace Go.Proofs
set_option linter.unusedSimpArgs false
set_option linter.unusedVariables false
def isSm (c : Int) : Bool := decide (97 ≤ c) && decide (c ≤ 122)
def isDg (c : Int) : Bool := decide (48 ≤ c) && decide (c ≤ 57)
def isNm (c : Int) : Bool := isSm c || isDg c || decide (c = 45) || decide (c = 46)
def isPt (c : Int) : Bool := isSm c || (decide (65 ≤ c) && decide (c ≤ 90)) || isDg c || decide (c = 45) || decide (c = 46) || decide (c = 95)
def isVl (c : Int) : Bool := decide (32 ≤ c) && decide (c ≤ 126)
def allB (p : Int → Bool) (s : Bytes) : Bool := s.all fun b => p (b.toNat : Int)
def sEach (p : Int → Bool) (s : Bytes) (most : Int) : Bool := allB p s && decide (s ≠ []) && decide ((s.length : Int) ≤ most)
def nameB (s : Bytes) : Bool := sEach isNm s 40 && isSm ((s.headD 0).toNat : Int)
def partB (s : Bytes) : Bool := sEach isPt s 40 && decide (s ≠ [46]) && decide (s ≠ [46, 46])
def pathB (s : Bytes) : Bool := (splitB 47 s).all partB && decide ((s.length : Int) ≤ 200)
def valueB (s : Bytes) : Bool := decide (s = []) || sEach isVl s 1000
theorem allB_succ {p : Int → Bool} {s : Bytes} {i : Nat} {c : UInt8} (h : allB p (s.take i) = true) (hc : s[i]? = some c) (hp : p (c.toNat : Int) = true) : allB p (s.take (i + 1)) = true := by
  unfold allB at *
  rw [List.take_add_one, hc]
  simp [List.all_append, h, hp]
theorem allB_false {p : Int → Bool} {s : Bytes} {i : Nat} {c : UInt8} (hc : s[i]? = some c) (hp : p (c.toNat : Int) = false) : allB p s = false := by
  unfold allB
  rw [List.all_eq_false]
  exact ⟨c, List.mem_of_getElem? hc, by simp [hp]⟩
theorem sEach_false {p : Int → Bool} {s : Bytes} {i : Nat} {c : UInt8} {n : Int} (hc : s[i]? = some c) (hp : p (c.toNat : Int) = false) : sEach p s n = false := by
  unfold sEach; rw [allB_false hc hp]; simp
theorem head_of {s : Bytes} {c : UInt8} (h : s[0]? = some c) : s.headD 0 = c := by
  cases s with
  | nil => cases h
  | cons b l => simpa using h
theorem not_nil_of {s : Bytes} {i : Nat} {c : UInt8} (h : s[i]? = some c) : s ≠ [] := by rintro rfl; simp at h
end Go.Proofs

/- Strings as elements; tests of signs and strings. -/
namespace Go.Proofs
open Go Go.Abs
set_option linter.unusedSimpArgs false
set_option linter.unusedVariables false
/-- Lengths that may be. -/
abbrev Room : Nat := 1099511627776
def encBs (s : Bytes) : List AV := [.str s]
theorem pu0_ok : PuOK Tryz.prog pu0 := PuOK.zero
def sByte (p : Int → Bool) : List AV → Option AV := fn1 (.int .u8) fun c => some (.bool (p c))
theorem sByte_eq (p : Int → Bool) (c : Int) : sByte p [.int .u8 c] = some (.bool (p c)) := rfl
def sStr (p : Bytes → Bool) : List AV → Option AV := fn1 .str fun s => if s.length ≤ Room then some (.bool (p s)) else none
theorem sStr_eq (p : Bytes → Bool) (s : Bytes) : sStr p [.str s] = if s.length ≤ Room then some (.bool (p s)) else none := rfl
theorem sByte_ok {P : Program} {f : FuncId} {p : Int → Bool} (h : ∀ c H, ACalls P f [.int .u8 c] H fun x H' => x = .bool (p c) ∧ H' = H) : ∀ xs v, sByte p xs = some v → ∀ H, ACalls P f xs H fun x H' => x = v ∧ H' = H := by
  intro xs v hv H
  obtain ⟨x, c, rfl, h1, h2⟩ := fn1_some hv
  cases h2
  cases Rd.int_some h1
  exact h c H
theorem sStr_ok {P : Program} {f : FuncId} {p : Bytes → Bool} (h : ∀ s H, s.length ≤ Room → ACalls P f [.str s] H fun x H' => x = .bool (p s) ∧ H' = H) : ∀ xs v, sStr p xs = some v → ∀ H, ACalls P f xs H fun x H' => x = v ∧ H' = H := by
  intro xs v hv H
  obtain ⟨x, s, rfl, h1, h2⟩ := fn1_some hv
  split at h2
  · cases h2
    cases Rd.str_some h1
    exact h s H ‹_›
  · cases h2
end Go.Proofs

/- Walks of Go's functions on strings: Index, Count, Split (of one byte), Compare. -/
namespace Go.Proofs
open Go Go.Abs
open Nat (reduceEqDiff reduceAdd reduceLeDiff reduceLT reduceMul)
open Int (reduceEq reduceLE reduceSub reduceToNat)
set_option linter.unusedSimpArgs false
set_option linter.unusedVariables false
def sIdxB : List AV → Option AV := fn2 .str (.int .u8) fun s c => some (.int .i64 (Lib.indexByte s c.toNat.toUInt8))
def sCntB : List AV → Option AV := fn2 .str (.int .u8) fun s c => some (.int .i64 (Lib.countByte s c.toNat.toUInt8))
def sCmpS : List AV → Option AV := fn2 .str .str fun s t => some (.int .i64 (Lib.compareBytes s t))
def one1 : Bytes → Option UInt8
  | [b] => some b
  | _ => none
theorem one1_eq (b : UInt8) : one1 [b] = some b := rfl
theorem one1_some {s : Bytes} {b : UInt8} (h : one1 s = some b) : s = [b] := by
  unfold one1 at h
  split at h
  · cases h; rfl
  · cases h
def sCnt : List AV → Option AV := fn2 .str .str fun s p => (one1 p).bind fun c => some (.int .i64 (s.count c))
def sSplit : List AV → Option AV := fn2 .str .str fun s p => (one1 p).bind fun c => if s.length ≤ Room then some (.sl ((splitB c s).map encBs) .unk) else none
attribute [go_sem] one1_eq
def puK1 : Pures := putP 130 sCmpS (putP 188 sCntB (putP 197 sIdxB pu0))
theorem puK1_dyn : isDyn puK1 = false := by simp only [puK1, go_sem, Nat.reduceEqDiff]
attribute [go_sem] puK1_dyn
theorem sIdxB_ok {P : Program} {f : FuncId} (h : ∀ s c H, ACalls P f [.str s, .int .u8 c] H fun x H' => x = .int .i64 (Lib.indexByte s c.toNat.toUInt8) ∧ H' = H) : ∀ xs v, sIdxB xs = some v → ∀ H, ACalls P f xs H fun x H' => x = v ∧ H' = H := by
  intro xs v hv H
  obtain ⟨x, y, p, q, rfl, h1, h2, h3⟩ := fn2_some hv
  cases h3; cases Rd.str_some h1; cases Rd.int_some h2
  exact h _ _ H
theorem sCntB_ok {P : Program} {f : FuncId} (h : ∀ s c H, ACalls P f [.str s, .int .u8 c] H fun x H' => x = .int .i64 (Lib.countByte s c.toNat.toUInt8) ∧ H' = H) : ∀ xs v, sCntB xs = some v → ∀ H, ACalls P f xs H fun x H' => x = v ∧ H' = H := by
  intro xs v hv H
  obtain ⟨x, y, p, q, rfl, h1, h2, h3⟩ := fn2_some hv
  cases h3; cases Rd.str_some h1; cases Rd.int_some h2
  exact h _ _ H
theorem sCmpS_ok {P : Program} {f : FuncId} (h : ∀ s t H, ACalls P f [.str s, .str t] H fun x H' => x = .int .i64 (Lib.compareBytes s t) ∧ H' = H) : ∀ xs v, sCmpS xs = some v → ∀ H, ACalls P f xs H fun x H' => x = v ∧ H' = H := by
  intro xs v hv H
  obtain ⟨x, y, p, q, rfl, h1, h2, h3⟩ := fn2_some hv
  cases h3; cases Rd.str_some h1; cases Rd.str_some h2
  exact h _ _ H
theorem idxBX_calls (s : Bytes) (c : Int) (H : Heap) : ACalls Tryz.prog 197 [.str s, .int .u8 c] H fun x H' => x = .int .i64 (Lib.indexByte s c.toNat.toUInt8) ∧ H' = H :=
  indexByteString_calls Tryz.func197 (by kernel_rfl) rfl (by kernel_rfl) (by kernel_rfl) _ _ H
theorem cntBX_calls (s : Bytes) (c : Int) (H : Heap) : ACalls Tryz.prog 188 [.str s, .int .u8 c] H fun x H' => x = .int .i64 (Lib.countByte s c.toNat.toUInt8) ∧ H' = H :=
  countString_calls Tryz.func188 (by kernel_rfl) rfl (by kernel_rfl) (by kernel_rfl) _ _ H
theorem cmpX_calls (s t : Bytes) (H : Heap) : ACalls Tryz.prog 130 [.str s, .str t] H fun x H' => x = .int .i64 (Lib.compareBytes s t) ∧ H' = H :=
  cmpString_calls Tryz.func130 (by kernel_rfl) rfl (by kernel_rfl) (by kernel_rfl) _ _ H
theorem puK1_ok : PuOK Tryz.prog puK1 := .put (.put (.put (.zero) (sIdxB_ok idxBX_calls)) (sCntB_ok cntBX_calls)) (sCmpS_ok cmpX_calls)
theorem sIdxB_eq (s : Bytes) (c : Int) : sIdxB [.str s, .int .u8 c] = some (.int .i64 (Lib.indexByte s c.toNat.toUInt8)) := rfl
theorem sCntB_eq (s : Bytes) (c : Int) : sCntB [.str s, .int .u8 c] = some (.int .i64 (Lib.countByte s c.toNat.toUInt8)) := rfl
theorem sCmpS_eq (s t : Bytes) : sCmpS [.str s, .str t] = some (.int .i64 (Lib.compareBytes s t)) := rfl
theorem sCnt_eq (s : Bytes) (c : UInt8) : sCnt [.str s, .str [c]] = some (.int .i64 (s.count c)) := rfl
theorem sSplit_eq (s : Bytes) (c : UInt8) : sSplit [.str s, .str [c]] = if s.length ≤ Room then some (.sl ((splitB c s).map encBs) .unk) else none := rfl
theorem u8_nat (c : UInt8) : c.toNat.toUInt8 = c := by simp
theorem indexByte_calls (s : Bytes) (c : Int) (H : Heap) : ACalls Tryz.prog 193 [.str s, .int .u8 c] H fun x H' => x = .int .i64 (Lib.indexByte s c.toNat.toUInt8) ∧ H' = H := by
  refine ACalls.of_code (X := { pure := puK1 }) puK1_ok Tryz.func193 (by kernel_rfl) rfl (by kernel_rfl) (Nat.le_of_ble_eq_true rfl) ?_
  simp -implicitDefEqProofs only [go_sem, reduceEqDiff, reduceAdd, reduceLeDiff, reduceLT, reduceMul, reduceEq, Int.reduceLT, reduceLE, Int.reduceAdd, reduceSub, reduceToNat, UInt8.reduceToNat, Tryz.f193, puK1, sIdxB_eq]
  exact Done.now ⟨rfl, rfl⟩
theorem compareString_calls (s t : Bytes) (H : Heap) : ACalls Tryz.prog 98 [.str s, .str t] H fun x H' => x = .int .i64 (Lib.compareBytes s t) ∧ H' = H := by
  refine ACalls.of_code (X := { pure := puK1 }) puK1_ok Tryz.func98 (by kernel_rfl) rfl (by kernel_rfl) (Nat.le_of_ble_eq_true rfl) ?_
  simp -implicitDefEqProofs only [go_sem, reduceEqDiff, reduceAdd, reduceLeDiff, reduceLT, reduceMul, reduceEq, Int.reduceLT, reduceLE, Int.reduceAdd, reduceSub, reduceToNat, UInt8.reduceToNat, Tryz.f98, puK1, sCmpS_eq]
  exact Done.now ⟨rfl, rfl⟩
def puK2 : Pures := putP 98 sCmpS (putP 193 sIdxB puK1)
theorem puK2_dyn : isDyn puK2 = false := by simp only [puK2, go_sem, Nat.reduceEqDiff]
attribute [go_sem] puK2_dyn
theorem puK2_ok : PuOK Tryz.prog puK2 := .put (.put (puK1_ok) (sIdxB_ok indexByte_calls)) (sCmpS_ok compareString_calls)
theorem strCompare_calls (s t : Bytes) (H : Heap) : ACalls Tryz.prog 46 [.str s, .str t] H fun x H' => x = .int .i64 (Lib.compareBytes s t) ∧ H' = H := by
  refine ACalls.of_code (X := { pure := puK2 }) puK2_ok Tryz.func46 (by kernel_rfl) rfl (by kernel_rfl) (Nat.le_of_ble_eq_true rfl) ?_
  simp -implicitDefEqProofs only [go_sem, reduceEqDiff, reduceAdd, reduceLeDiff, reduceLT, reduceMul, reduceEq, Int.reduceLT, reduceLE, Int.reduceAdd, reduceSub, reduceToNat, UInt8.reduceToNat, Tryz.f46, puK2, sCmpS_eq]
  exact Done.now ⟨rfl, rfl⟩
theorem indexL_calls (s : Bytes) (c : UInt8) (H : Heap) : ACalls Tryz.prog 189 [.str s, .str [c]] H fun x H' => x = .int .i64 (Lib.indexByte s c) ∧ H' = H := by
  refine ACalls.of_code (X := { pure := puK2 }) puK2_ok Tryz.func189 (by kernel_rfl) rfl (by kernel_rfl) (Nat.le_of_ble_eq_true rfl) ?_
  simp -implicitDefEqProofs only [go_sem, reduceEqDiff, reduceAdd, reduceLeDiff, reduceLT, reduceMul, reduceEq, Int.reduceLT, reduceLE, Int.reduceAdd, reduceSub, reduceToNat, UInt8.reduceToNat, Tryz.f189, puK2, sIdxB_eq, puK1]
  repeat' (first | (with_reducible refine gd_intro (fun h => ?_) (fun h => ?_) <;> first | (exact absurd h (by decide)) | (simp at h; done) | simp -implicitDefEqProofs (disch := omega) only [go_sem, reduceEqDiff, reduceAdd, reduceLeDiff, reduceLT, reduceMul, reduceEq, Int.reduceLT, reduceLE, Int.reduceAdd, reduceSub, reduceToNat, UInt8.reduceToNat, Go.IntWalk.i64_in, puK2, sIdxB_eq, puK1, *]) | (with_reducible refine cnd_intro (fun h => ?_) (fun h => ?_) <;> first | (exact absurd h (by decide)) | (simp at h; done) | simp -implicitDefEqProofs (disch := omega) only [go_sem, reduceEqDiff, reduceAdd, reduceLeDiff, reduceLT, reduceMul, reduceEq, Int.reduceLT, reduceLE, Int.reduceAdd, reduceSub, reduceToNat, UInt8.reduceToNat, Go.IntWalk.i64_in, puK2, sIdxB_eq, puK1, *]))
  · simp only [decide_eq_true_eq] at h
    subst h
    exact Done.now ⟨by simp [Lib.indexByte], rfl⟩
  · exact Done.now ⟨by rw [u8_nat], rfl⟩
def sIdxL : List AV → Option AV := fn2 .str .str fun s p => (one1 p).bind fun c => some (.int .i64 (Lib.indexByte s c))
theorem sIdxL_eq (s : Bytes) (c : UInt8) : sIdxL [.str s, .str [c]] = some (.int .i64 (Lib.indexByte s c)) := rfl
theorem one_of {α : Type} {p : Bytes} {F : UInt8 → Option α} {v : α} (h : (one1 p).bind F = some v) : ∃ c, p = [c] ∧ F c = some v := by
  rw [Option.bind_eq_some_iff] at h
  obtain ⟨c, h1, h2⟩ := h
  exact ⟨c, one1_some h1, h2⟩
def puK3 : Pures := putP 189 sIdxL puK2
theorem puK3_dyn : isDyn puK3 = false := by simp only [puK3, go_sem, Nat.reduceEqDiff]
attribute [go_sem] puK3_dyn
theorem sIdxL_ok {P : Program} {f : FuncId} (h : ∀ s c H, ACalls P f [.str s, .str [c]] H fun x H' => x = .int .i64 (Lib.indexByte s c) ∧ H' = H) : ∀ xs v, sIdxL xs = some v → ∀ H, ACalls P f xs H fun x H' => x = v ∧ H' = H := by
  intro xs v hv H
  obtain ⟨x, y, p, q, rfl, h1, h2, h3⟩ := fn2_some hv
  obtain ⟨c, rfl, h3⟩ := one_of h3
  cases h3; cases Rd.str_some h1; cases Rd.str_some h2
  exact h _ _ H
theorem puK3_ok : PuOK Tryz.prog puK3 := .put (puK2_ok) (sIdxL_ok indexL_calls)
theorem index_calls (s : Bytes) (c : UInt8) (H : Heap) : ACalls Tryz.prog 171 [.str s, .str [c]] H fun x H' => x = .int .i64 (Lib.indexByte s c) ∧ H' = H := by
  refine ACalls.of_code (X := { pure := puK3 }) puK3_ok Tryz.func171 (by kernel_rfl) rfl (by kernel_rfl) (Nat.le_of_ble_eq_true rfl) ?_
  simp -implicitDefEqProofs only [go_sem, reduceEqDiff, reduceAdd, reduceLeDiff, reduceLT, reduceMul, reduceEq, Int.reduceLT, reduceLE, Int.reduceAdd, reduceSub, reduceToNat, UInt8.reduceToNat, Tryz.f171, puK3, sIdxL_eq]
  exact Done.now ⟨rfl, rfl⟩
theorem count_calls (s : Bytes) (c : UInt8) (H : Heap) : ACalls Tryz.prog 170 [.str s, .str [c]] H fun x H' => x = .int .i64 (s.count c) ∧ H' = H := by
  refine ACalls.of_code (X := { pure := puK3 }) puK3_ok Tryz.func170 (by kernel_rfl) rfl (by kernel_rfl) (Nat.le_of_ble_eq_true rfl) ?_
  simp -implicitDefEqProofs only [go_sem, reduceEqDiff, reduceAdd, reduceLeDiff, reduceLT, reduceMul, reduceEq, Int.reduceLT, reduceLE, Int.reduceAdd, reduceSub, reduceToNat, UInt8.reduceToNat, Tryz.f170, puK3, puK2, puK1, sCntB_eq]
  repeat' (first | (with_reducible refine gd_intro (fun h => ?_) (fun h => ?_) <;> first | (exact absurd h (by decide)) | (simp at h; done) | simp -implicitDefEqProofs (disch := omega) only [go_sem, reduceEqDiff, reduceAdd, reduceLeDiff, reduceLT, reduceMul, reduceEq, Int.reduceLT, reduceLE, Int.reduceAdd, reduceSub, reduceToNat, UInt8.reduceToNat, Go.IntWalk.i64_in, puK3, puK2, puK1, sCntB_eq, *]) | (with_reducible refine cnd_intro (fun h => ?_) (fun h => ?_) <;> first | (exact absurd h (by decide)) | (simp at h; done) | simp -implicitDefEqProofs (disch := omega) only [go_sem, reduceEqDiff, reduceAdd, reduceLeDiff, reduceLT, reduceMul, reduceEq, Int.reduceLT, reduceLE, Int.reduceAdd, reduceSub, reduceToNat, UInt8.reduceToNat, Go.IntWalk.i64_in, puK3, puK2, puK1, sCntB_eq, *]))
  exact Done.now ⟨by rw [u8_nat]; rfl, rfl⟩
def puK4 : Pures := putP 170 sCnt (putP 171 sIdxL puK3)
theorem puK4_dyn : isDyn puK4 = false := by simp only [puK4, go_sem, Nat.reduceEqDiff]
attribute [go_sem] puK4_dyn
theorem sCnt_ok {P : Program} {f : FuncId} (h : ∀ s c H, ACalls P f [.str s, .str [c]] H fun x H' => x = .int .i64 (s.count c) ∧ H' = H) : ∀ xs v, sCnt xs = some v → ∀ H, ACalls P f xs H fun x H' => x = v ∧ H' = H := by
  intro xs v hv H
  obtain ⟨x, y, p, q, rfl, h1, h2, h3⟩ := fn2_some hv
  obtain ⟨c, rfl, h3⟩ := one_of h3
  cases h3; cases Rd.str_some h1; cases Rd.str_some h2
  exact h _ _ H
theorem puK4_ok : PuOK Tryz.prog puK4 := .put (.put (puK3_ok) (sIdxL_ok index_calls)) (sCnt_ok count_calls)
/-- What the cells of the slice hold while it is filled. -/
def fillC (done : List Bytes) (n : Nat) : List AV := done.map AV.str ++ List.replicate (n - done.length) (.str [])
theorem fillC_len {done : List Bytes} {n : Nat} (h : done.length ≤ n) : (fillC done n).length = n := by
  simp [fillC]; omega
theorem fillC_set {done : List Bytes} {n : Nat} (h : done.length < n) (p : Bytes) : (fillC done n).set done.length (.str p) = fillC (done ++ [p]) n := by
  unfold fillC
  rw [List.set_append, if_neg (by simp)]
  obtain ⟨k, hk⟩ : ∃ k, n - done.length = k + 1 := ⟨n - done.length - 1, by omega⟩
  have : n - (done ++ [p]).length = k := by simp; omega
  rw [hk, this, List.replicate_succ]
  simp
theorem split_calls (s : Bytes) (c : UInt8) (H : Heap) (hs : s.length ≤ Room) :
    ACalls Tryz.prog 135 [.str s, .str [c], .int .i64 0, .int .i64 (-1)] H fun x H' => x = .sl ((splitB c s).map encBs) .unk ∧ H' = H := by
  have hcnt : s.count c ≤ s.length := List.count_le_length
  have hR : Room = 1099511627776 := rfl
  rw [hR] at hs
  clear hR
  refine ACalls.of_code (X := { pure := puK4 }) puK4_ok Tryz.func135 (by kernel_rfl) rfl (by kernel_rfl) (Nat.le_of_ble_eq_true rfl) ?_
  simp -implicitDefEqProofs only [go_sem, reduceEqDiff, reduceAdd, reduceLeDiff, reduceLT, reduceMul, reduceEq, Int.reduceLT, reduceLE, Int.reduceAdd, reduceSub, reduceToNat, UInt8.reduceToNat, Tryz.f135, puK4, sCnt_eq, sIdxL_eq]
  repeat' (first | (with_reducible refine gd_intro (fun h => ?_) (fun h => ?_) <;> first | (exact absurd h (by decide)) | (simp at h; done) | simp -implicitDefEqProofs (disch := omega) only [go_sem, reduceEqDiff, reduceAdd, reduceLeDiff, reduceLT, reduceMul, reduceEq, Int.reduceLT, reduceLE, Int.reduceAdd, reduceSub, reduceToNat, UInt8.reduceToNat, Go.IntWalk.i64_in, puK4, sCnt_eq, sIdxL_eq, *]) | (with_reducible refine cnd_intro (fun h => ?_) (fun h => ?_) <;> first | (exact absurd h (by decide)) | (simp at h; done) | simp -implicitDefEqProofs (disch := omega) only [go_sem, reduceEqDiff, reduceAdd, reduceLeDiff, reduceLT, reduceMul, reduceEq, Int.reduceLT, reduceLE, Int.reduceAdd, reduceSub, reduceToNat, UInt8.reduceToNat, Go.IntWalk.i64_in, puK4, sCnt_eq, sIdxL_eq, *]))
  have hm : min ((s.count c : Int) + 1) ((s.length : Int) + 1) = ((s.count c + 1 : Nat) : Int) := by omega
  rw [hm]
  with_reducible refine makeSlice_ms (e := tiStr) ?_ ?_ ?_ ?_ ?_ ?_
  · simp -implicitDefEqProofs only [go_sem, reduceEqDiff, reduceAdd, reduceLeDiff, reduceLT, reduceMul, reduceEq, Int.reduceLT, reduceLE, Int.reduceAdd, reduceSub, reduceToNat, UInt8.reduceToNat]
  · decide
  · omega
  · simp only []; omega
  · omega
  intro id hid
  have hw : (((s.count c + 1 : Nat) : Int) - 1) = (s.count c : Int) := by omega
  simp -implicitDefEqProofs (disch := omega) only [go_sem, reduceEqDiff, reduceAdd, reduceLeDiff, reduceLT, reduceMul, reduceEq, Int.reduceLT, reduceLE, Int.reduceAdd, reduceSub, reduceToNat, UInt8.reduceToNat, Go.IntWalk.i64_in, puK4, sCnt_eq, sIdxL_eq, *]
  have hflat : ([AV.str []] :: List.replicate (s.count c) [AV.str []]).flatten = fillC [] (s.count c + 1) := by
    simp [fillC, List.flatten_replicate_singleton, List.replicate_succ]
  rw [hflat]
  refine aloop_intro (σ := List Bytes × Bytes) (fun p => [(0, .str p.2), (1, .str [c]), (2, .int .i64 0), (3, .int .i64 (s.count c)), (9, .ms id 0 (s.count c + 1) 1), (10, .int .i64 p.1.length)])
    (fun p G => G = H.put id (.cells (fillC p.1 (s.count c + 1))) ∧ splitB c s = p.1 ++ splitB c p.2 ∧ p.2.count c + p.1.length = s.count c ∧ p.2.length ≤ s.length) (fun p => p.2.length) ([], s) ?_ ?_ ?_
  · simp -implicitDefEqProofs (disch := omega) only [go_sem, reduceEqDiff, reduceAdd, reduceLeDiff, reduceLT, reduceMul, reduceEq, Int.reduceLT, reduceLE, Int.reduceAdd, reduceSub, reduceToNat, UInt8.reduceToNat, Go.IntWalk.i64_in, *]
  · simp
  · rintro ⟨done, rest⟩ r G ⟨h0, h1, h2, h3, h9, h10, -⟩ ⟨rfl, hspl, hct, hl⟩
    simp only at h0 h1 h2 h3 h9 h10 hspl hct hl
    have hcr : rest.count c ≤ rest.length := List.count_le_length
    simp -implicitDefEqProofs only [go_sem, reduceEqDiff, reduceAdd, reduceLeDiff, reduceLT, reduceMul, reduceEq, Int.reduceLT, reduceLE, Int.reduceAdd, reduceSub, reduceToNat, UInt8.reduceToNat, h0, h1, h2, h3, h9, h10, puK4, sIdxL_eq]
    refine cnd_intro (fun hlt => ?_) (fun hlt => ?_)
    · simp only [decide_eq_true_eq] at hlt
      obtain ⟨m, hm2⟩ : ∃ m : Nat, Lib.indexByte rest c = (m : Int) := by
        have h1 := Lib.indexByte_ge rest c
        have h2 : ¬ Lib.indexByte rest c = -1 := fun e => by have := indexByte_none.1 e; omega
        exact ⟨(Lib.indexByte rest c).toNat, by omega⟩
      obtain ⟨i1, i2, i3⟩ := indexByte_some hm2
      have hb : decide ((m : Int) < 0) = false := by simp
      simp -implicitDefEqProofs (disch := omega) only [go_sem, reduceEqDiff, reduceAdd, reduceLeDiff, reduceLT, reduceMul, reduceEq, Int.reduceLT, reduceLE, Int.reduceAdd, reduceSub, reduceToNat, UInt8.reduceToNat, Go.IntWalk.i64_in, h0, h1, h2, h3, h9, h10, puK4, sIdxL_eq, hm2, hb]
      refine ⟨by omega, by omega, by rw [fillC_len (by omega)]; omega, by omega, ?_⟩
      have e1 : ((m : Int) + 1).toNat = m + 1 := by omega
      have e2 : ((m : Int) + 0).toNat = m := by omega
      rw [e1, e2, List.take_length, Nat.mul_one, fillC_set (by omega)]
      refine Again.mk (done ++ [rest.take m], rest.drop (m + 1)) (by simp -implicitDefEqProofs only [go_sem, reduceEqDiff, reduceAdd, reduceLeDiff, reduceLT, reduceMul, reduceEq, Int.reduceLT, reduceLE, Int.reduceAdd, reduceSub, reduceToNat, UInt8.reduceToNat, h0, h1, h2, h3, h9, h10]; simp) ⟨rfl, by rw [hspl, i2]; simp, by simp; omega, by simp; omega⟩ (by simp; omega)
    · simp only [decide_eq_false_iff_not] at hlt
      simp -implicitDefEqProofs (disch := omega) only [go_sem, reduceEqDiff, reduceAdd, reduceLeDiff, reduceLT, reduceMul, reduceEq, Int.reduceLT, reduceLE, Int.reduceAdd, reduceSub, reduceToNat, UInt8.reduceToNat, Go.IntWalk.i64_in, h0, h1, h2, h3, h9, h10, puK4, sIdxL_eq]
      have hz : rest.count c = 0 := by omega
      have hd : done.length = s.count c := by omega
      refine ⟨by omega, by rw [fillC_len (by omega)]; omega, by omega, ?_⟩
      rw [Nat.mul_one, fillC_set (by omega)]
      have e1 : ((done.length : Int) + 1 - 0).toNat = s.count c + 1 := by omega
      rw [e1]
      have e2 : fillC (done ++ [rest]) (s.count c + 1) = (splitB c s).map AV.str := by
        rw [hspl, splitB_none hz]
        simp [fillC, hd]
      rw [e2]
      have e3 : ((splitB c s).map AV.str).length = s.count c + 1 := by rw [List.length_map, splitB_len]
      refine Done.via (Ghost.freeze1 (put_same _ _ _) (by rw [e3]; omega)) (Done.now ⟨?_, del_put _ hid⟩)
      rw [List.drop_zero, List.take_of_length_le (by rw [e3]; omega), List.map_map]
      rfl
def sGen : List AV → Option AV
  | [.str s, .str [c], .int .i64 n, .int .i64 k] => if n = 0 ∧ k = -1 ∧ s.length ≤ Room then some (.sl ((splitB c s).map encBs) .unk) else none
  | _ => none
theorem sGen_eq (s : Bytes) (c : UInt8) : sGen [.str s, .str [c], .int .i64 0, .int .i64 (-1)] = if s.length ≤ Room then some (.sl ((splitB c s).map encBs) .unk) else none := by simp [sGen]
def puK5 : Pures := putP 135 sGen (putP 46 sCmpS puK4)
theorem puK5_dyn : isDyn puK5 = false := by simp only [puK5, go_sem, Nat.reduceEqDiff]
attribute [go_sem] puK5_dyn
theorem sGen_ok : ∀ xs v, sGen xs = some v → ∀ H, ACalls Tryz.prog 135 xs H fun x H' => x = v ∧ H' = H := by
  intro xs v h H
  unfold sGen at h
  split at h
  · split at h
    · rename_i hc
      obtain ⟨rfl, rfl, hr⟩ := hc
      cases h
      exact split_calls _ _ H hr
    · cases h
  · cases h
theorem puK5_ok : PuOK Tryz.prog puK5 := .put (.put (puK4_ok) (sCmpS_ok strCompare_calls)) sGen_ok
theorem splitT_calls (s : Bytes) (c : UInt8) (H : Heap) (hs : s.length ≤ Room) :
    ACalls Tryz.prog 105 [.str s, .str [c]] H fun x H' => x = .sl ((splitB c s).map encBs) .unk ∧ H' = H := by
  refine ACalls.of_code (X := { pure := puK5 }) puK5_ok Tryz.func105 (by kernel_rfl) rfl (by kernel_rfl) (Nat.le_of_ble_eq_true rfl) ?_
  simp -implicitDefEqProofs only [go_sem, reduceEqDiff, reduceAdd, reduceLeDiff, reduceLT, reduceMul, reduceEq, Int.reduceLT, reduceLE, Int.reduceAdd, reduceSub, reduceToNat, UInt8.reduceToNat, Tryz.f105, puK5, sGen_eq, hs]
  exact Done.now ⟨rfl, rfl⟩
theorem sSplit_ok {P : Program} {f : FuncId} (h : ∀ s c H, s.length ≤ Room → ACalls P f [.str s, .str [c]] H fun x H' => x = .sl ((splitB c s).map encBs) .unk ∧ H' = H) : ∀ xs v, sSplit xs = some v → ∀ H, ACalls P f xs H fun x H' => x = v ∧ H' = H := by
  intro xs v hv H
  obtain ⟨x, y, p, q, rfl, h1, h2, h3⟩ := fn2_some hv
  obtain ⟨c, rfl, h3⟩ := one_of h3
  split at h3
  · rename_i hr
    cases h3
    cases Rd.str_some h1
    cases Rd.str_some h2
    exact h _ _ H hr
  · cases h3
def puK : Pures := putP 105 sSplit puK5
theorem puK_dyn : isDyn puK = false := by simp only [puK, go_sem, Nat.reduceEqDiff]
attribute [go_sem] puK_dyn
theorem puK_ok : PuOK Tryz.prog puK := .put (puK5_ok) (sSplit_ok splitT_calls)
end Go.Proofs

/- Walks: names, paths, values, of the program and of the reference. -/
namespace Go.Proofs
open Go Go.Abs
open Nat (reduceEqDiff reduceAdd reduceLeDiff reduceLT reduceMul)
open Int (reduceEq reduceLE reduceSub reduceToNat)
set_option linter.unusedSimpArgs false
set_option linter.unusedVariables false
theorem isSmall_calls (c : Int) (H : Heap) : ACalls Tryz.prog 95 [.int .u8 c] H fun x H' => x = .bool (isSm c) ∧ H' = H := by
  refine ACalls.of_code (X := { pure := puK }) puK_ok Tryz.func95 (by kernel_rfl) rfl (by kernel_rfl) (Nat.le_of_ble_eq_true rfl) ?_
  simp -implicitDefEqProofs only [go_sem, reduceEqDiff, reduceAdd, reduceLeDiff, reduceLT, reduceMul, reduceEq, Int.reduceLT, reduceLE, Int.reduceAdd, reduceSub, reduceToNat, UInt8.reduceToNat, Tryz.f95]
  repeat' (first | (with_reducible refine gd_intro (fun h => ?_) (fun h => ?_) <;> first | (exact absurd h (by decide)) | (simp at h; done) | simp -implicitDefEqProofs (disch := omega) only [go_sem, reduceEqDiff, reduceAdd, reduceLeDiff, reduceLT, reduceMul, reduceEq, Int.reduceLT, reduceLE, Int.reduceAdd, reduceSub, reduceToNat, UInt8.reduceToNat, Go.IntWalk.i64_in, *]) | (with_reducible refine cnd_intro (fun h => ?_) (fun h => ?_) <;> first | (exact absurd h (by decide)) | (simp at h; done) | simp -implicitDefEqProofs (disch := omega) only [go_sem, reduceEqDiff, reduceAdd, reduceLeDiff, reduceLT, reduceMul, reduceEq, Int.reduceLT, reduceLE, Int.reduceAdd, reduceSub, reduceToNat, UInt8.reduceToNat, Go.IntWalk.i64_in, *]))
  all_goals (refine Done.now ⟨?_, rfl⟩; simp only [decide_eq_true_eq, decide_eq_false_iff_not] at h; simp [isSm, h])
theorem isDigit_calls (c : Int) (H : Heap) : ACalls Tryz.prog 96 [.int .u8 c] H fun x H' => x = .bool (isDg c) ∧ H' = H := by
  refine ACalls.of_code (X := { pure := puK }) puK_ok Tryz.func96 (by kernel_rfl) rfl (by kernel_rfl) (Nat.le_of_ble_eq_true rfl) ?_
  simp -implicitDefEqProofs only [go_sem, reduceEqDiff, reduceAdd, reduceLeDiff, reduceLT, reduceMul, reduceEq, Int.reduceLT, reduceLE, Int.reduceAdd, reduceSub, reduceToNat, UInt8.reduceToNat, Tryz.f96]
  repeat' (first | (with_reducible refine gd_intro (fun h => ?_) (fun h => ?_) <;> first | (exact absurd h (by decide)) | (simp at h; done) | simp -implicitDefEqProofs (disch := omega) only [go_sem, reduceEqDiff, reduceAdd, reduceLeDiff, reduceLT, reduceMul, reduceEq, Int.reduceLT, reduceLE, Int.reduceAdd, reduceSub, reduceToNat, UInt8.reduceToNat, Go.IntWalk.i64_in, *]) | (with_reducible refine cnd_intro (fun h => ?_) (fun h => ?_) <;> first | (exact absurd h (by decide)) | (simp at h; done) | simp -implicitDefEqProofs (disch := omega) only [go_sem, reduceEqDiff, reduceAdd, reduceLeDiff, reduceLT, reduceMul, reduceEq, Int.reduceLT, reduceLE, Int.reduceAdd, reduceSub, reduceToNat, UInt8.reduceToNat, Go.IntWalk.i64_in, *]))
  all_goals (refine Done.now ⟨?_, rfl⟩; simp only [decide_eq_true_eq, decide_eq_false_iff_not] at h; simp [isDg, h])
def puV1 : Pures := putP 95 (sByte isSm) (putP 96 (sByte isDg) puK)
theorem puV1_dyn : isDyn puV1 = false := by simp only [puV1, go_sem, Nat.reduceEqDiff]
attribute [go_sem] puV1_dyn
theorem puV1_ok : PuOK Tryz.prog puV1 := .put (.put (puK_ok) (sByte_ok isDigit_calls)) (sByte_ok isSmall_calls)
theorem isName1_calls (c : Int) (H : Heap) : ACalls Tryz.prog 94 [.int .u8 c] H fun x H' => x = .bool (isNm c) ∧ H' = H := by
  refine ACalls.of_code (X := { pure := puV1 }) puV1_ok Tryz.func94 (by kernel_rfl) rfl (by kernel_rfl) (Nat.le_of_ble_eq_true rfl) ?_
  simp -implicitDefEqProofs only [go_sem, reduceEqDiff, reduceAdd, reduceLeDiff, reduceLT, reduceMul, reduceEq, Int.reduceLT, reduceLE, Int.reduceAdd, reduceSub, reduceToNat, UInt8.reduceToNat, Tryz.f94, puV1, sByte_eq]
  repeat' (first | (with_reducible refine gd_intro (fun h => ?_) (fun h => ?_) <;> first | (exact absurd h (by decide)) | (simp at h; done) | simp -implicitDefEqProofs (disch := omega) only [go_sem, reduceEqDiff, reduceAdd, reduceLeDiff, reduceLT, reduceMul, reduceEq, Int.reduceLT, reduceLE, Int.reduceAdd, reduceSub, reduceToNat, UInt8.reduceToNat, Go.IntWalk.i64_in, puV1, sByte_eq, *]) | (with_reducible refine cnd_intro (fun h => ?_) (fun h => ?_) <;> first | (exact absurd h (by decide)) | (simp at h; done) | simp -implicitDefEqProofs (disch := omega) only [go_sem, reduceEqDiff, reduceAdd, reduceLeDiff, reduceLT, reduceMul, reduceEq, Int.reduceLT, reduceLE, Int.reduceAdd, reduceSub, reduceToNat, UInt8.reduceToNat, Go.IntWalk.i64_in, puV1, sByte_eq, *]))
  all_goals (refine Done.now ⟨?_, rfl⟩; simp_all [isNm])
theorem isPart1_calls (c : Int) (H : Heap) : ACalls Tryz.prog 136 [.int .u8 c] H fun x H' => x = .bool (isPt c) ∧ H' = H := by
  refine ACalls.of_code (X := { pure := puV1 }) puV1_ok Tryz.func136 (by kernel_rfl) rfl (by kernel_rfl) (Nat.le_of_ble_eq_true rfl) ?_
  simp -implicitDefEqProofs only [go_sem, reduceEqDiff, reduceAdd, reduceLeDiff, reduceLT, reduceMul, reduceEq, Int.reduceLT, reduceLE, Int.reduceAdd, reduceSub, reduceToNat, UInt8.reduceToNat, Tryz.f136, puV1, sByte_eq]
  repeat' (first | (with_reducible refine gd_intro (fun h => ?_) (fun h => ?_) <;> first | (exact absurd h (by decide)) | (simp at h; done) | simp -implicitDefEqProofs (disch := omega) only [go_sem, reduceEqDiff, reduceAdd, reduceLeDiff, reduceLT, reduceMul, reduceEq, Int.reduceLT, reduceLE, Int.reduceAdd, reduceSub, reduceToNat, UInt8.reduceToNat, Go.IntWalk.i64_in, puV1, sByte_eq, *]) | (with_reducible refine cnd_intro (fun h => ?_) (fun h => ?_) <;> first | (exact absurd h (by decide)) | (simp at h; done) | simp -implicitDefEqProofs (disch := omega) only [go_sem, reduceEqDiff, reduceAdd, reduceLeDiff, reduceLT, reduceMul, reduceEq, Int.reduceLT, reduceLE, Int.reduceAdd, reduceSub, reduceToNat, UInt8.reduceToNat, Go.IntWalk.i64_in, puV1, sByte_eq, *]))
  all_goals (refine Done.now ⟨?_, rfl⟩; simp_all [isPt] <;> omega)
theorem isValue1_calls (c : Int) (H : Heap) : ACalls Tryz.prog 134 [.int .u8 c] H fun x H' => x = .bool (isVl c) ∧ H' = H := by
  refine ACalls.of_code (X := { pure := puV1 }) puV1_ok Tryz.func134 (by kernel_rfl) rfl (by kernel_rfl) (Nat.le_of_ble_eq_true rfl) ?_
  simp -implicitDefEqProofs only [go_sem, reduceEqDiff, reduceAdd, reduceLeDiff, reduceLT, reduceMul, reduceEq, Int.reduceLT, reduceLE, Int.reduceAdd, reduceSub, reduceToNat, UInt8.reduceToNat, Tryz.f134, puV1, sByte_eq]
  repeat' (first | (with_reducible refine gd_intro (fun h => ?_) (fun h => ?_) <;> first | (exact absurd h (by decide)) | (simp at h; done) | simp -implicitDefEqProofs (disch := omega) only [go_sem, reduceEqDiff, reduceAdd, reduceLeDiff, reduceLT, reduceMul, reduceEq, Int.reduceLT, reduceLE, Int.reduceAdd, reduceSub, reduceToNat, UInt8.reduceToNat, Go.IntWalk.i64_in, puV1, sByte_eq, *]) | (with_reducible refine cnd_intro (fun h => ?_) (fun h => ?_) <;> first | (exact absurd h (by decide)) | (simp at h; done) | simp -implicitDefEqProofs (disch := omega) only [go_sem, reduceEqDiff, reduceAdd, reduceLeDiff, reduceLT, reduceMul, reduceEq, Int.reduceLT, reduceLE, Int.reduceAdd, reduceSub, reduceToNat, UInt8.reduceToNat, Go.IntWalk.i64_in, puV1, sByte_eq, *]))
  all_goals (refine Done.now ⟨?_, rfl⟩; simp_all [isVl] <;> omega)
theorem each_calls (s : Bytes) (most : Int) (f : FuncId) (p : Int → Bool) (H : Heap) (hs : s.length ≤ Room) (hf : ∀ c H, ACalls Tryz.prog f [.int .u8 c] H fun x H' => x = .bool (p c) ∧ H' = H) :
    ACalls Tryz.prog 93 [.str s, .int .i64 most, .func f []] H fun x H' => x = .bool (sEach p s most) ∧ H' = H := by
  have hR : Room = 1099511627776 := rfl
  rw [hR] at hs
  refine ACalls.of_code (X := {}) (fun _ _ h => nomatch h) Tryz.func93 (by kernel_rfl) rfl (by kernel_rfl) (Nat.le_of_ble_eq_true rfl) ?_
  simp -implicitDefEqProofs only [go_sem, reduceEqDiff, reduceAdd, reduceLeDiff, reduceLT, reduceMul, reduceEq, Int.reduceLT, reduceLE, Int.reduceAdd, reduceSub, reduceToNat, UInt8.reduceToNat, Tryz.f93]
  refine aloop_intro (σ := Nat) (fun i => [(0, .str s), (1, .int .i64 most), (2, .func f []), (7, .int .i64 i)]) (fun i G => G = H ∧ i ≤ s.length ∧ allB p (s.take i) = true) (fun i => s.length - i) 0 ?_ ?_ ?_
  · simp -implicitDefEqProofs only [go_sem, reduceEqDiff, reduceAdd, reduceLeDiff, reduceLT, reduceMul, reduceEq, Int.reduceLT, reduceLE, Int.reduceAdd, reduceSub, reduceToNat, UInt8.reduceToNat]
  · simp [allB]
  · intro i r G hv hI
    have h0 := hv.1
    have h1 := hv.2.1
    have h2 := hv.2.2.1
    have h7 := hv.2.2.2.1
    have hG := hI.1
    have hp := hI.2.2
    have hi := hI.2.1
    subst hG
    simp -implicitDefEqProofs only [go_sem, reduceEqDiff, reduceAdd, reduceLeDiff, reduceLT, reduceMul, reduceEq, Int.reduceLT, reduceLE, Int.reduceAdd, reduceSub, reduceToNat, UInt8.reduceToNat, h0, h1, h2, h7]
    refine cnd_intro (fun h => ?_) (fun h => ?_)
    · simp only [decide_eq_true_eq] at h
      obtain ⟨c, hc⟩ : ∃ c, s[i]? = some c := ⟨s[i]'(by omega), List.getElem?_eq_getElem _⟩
      simp -implicitDefEqProofs only [go_sem, reduceEqDiff, reduceAdd, reduceLeDiff, reduceLT, reduceMul, reduceEq, Int.reduceLT, reduceLE, Int.reduceAdd, reduceSub, reduceToNat, UInt8.reduceToNat, h0, h1, h2, h7, hc]
      refine ACalls.pure_next _ (hf c.toNat _) ?_
      simp -implicitDefEqProofs only [go_sem, reduceEqDiff, reduceAdd, reduceLeDiff, reduceLT, reduceMul, reduceEq, Int.reduceLT, reduceLE, Int.reduceAdd, reduceSub, reduceToNat, UInt8.reduceToNat, h0, h1, h2, h7, hc]
      refine cnd_intro (fun hpc => ?_) (fun hpc => ?_) <;> simp only [Bool.not_eq_true', Bool.not_eq_false'] at hpc
      · simp -implicitDefEqProofs only [go_sem, reduceEqDiff, reduceAdd, reduceLeDiff, reduceLT, reduceMul, reduceEq, Int.reduceLT, reduceLE, Int.reduceAdd, reduceSub, reduceToNat, UInt8.reduceToNat, h0, h1, h2, h7, hc]
        exact Done.now ⟨by rw [sEach_false hc hpc], rfl⟩
      · simp -implicitDefEqProofs (disch := omega) only [go_sem, reduceEqDiff, reduceAdd, reduceLeDiff, reduceLT, reduceMul, reduceEq, Int.reduceLT, reduceLE, Int.reduceAdd, reduceSub, reduceToNat, UInt8.reduceToNat, Go.IntWalk.i64_in, h0, h1, h2, h7, hc]
        exact Again.mk (i + 1) (by simp -implicitDefEqProofs only [go_sem, reduceEqDiff, reduceAdd, reduceLeDiff, reduceLT, reduceMul, reduceEq, Int.reduceLT, reduceLE, Int.reduceAdd, reduceSub, reduceToNat, UInt8.reduceToNat, h0, h1, h2, h7]; exact rfl) ⟨rfl, by omega, allB_succ hp hc hpc⟩ (by omega)
    · simp only [decide_eq_false_iff_not] at h
      have e : i = s.length := by omega
      subst e
      rw [List.take_length] at hp
      simp -implicitDefEqProofs only [go_sem, reduceEqDiff, reduceAdd, reduceLeDiff, reduceLT, reduceMul, reduceEq, Int.reduceLT, reduceLE, Int.reduceAdd, reduceSub, reduceToNat, UInt8.reduceToNat, h0, h1, h2, h7]
      refine gd_intro (fun hn => ?_) (fun hn => ?_) <;> simp -implicitDefEqProofs only [go_sem, reduceEqDiff, reduceAdd, reduceLeDiff, reduceLT, reduceMul, reduceEq, Int.reduceLT, reduceLE, Int.reduceAdd, reduceSub, reduceToNat, UInt8.reduceToNat, h0, h1, h2, h7, hn] <;> refine Done.now ⟨?_, rfl⟩ <;> simp only [sEach, hp, hn, ne_eq] <;> simp
def sEachP : List AV → Option AV
  | [.str s, .int .i64 most, .func f []] => if s.length ≤ Room then
      (if f = 94 then some (.bool (sEach isNm s most)) else if f = 136 then some (.bool (sEach isPt s most)) else if f = 134 then some (.bool (sEach isVl s most)) else none) else none
  | _ => none
theorem sEachP_eq (s : Bytes) (most : Int) (f : FuncId) : sEachP [.str s, .int .i64 most, .func f []] = if s.length ≤ Room then
      (if f = 94 then some (.bool (sEach isNm s most)) else if f = 136 then some (.bool (sEach isPt s most)) else if f = 134 then some (.bool (sEach isVl s most)) else none) else none := rfl
def puV2 : Pures := putP 93 sEachP puV1
theorem puV2_dyn : isDyn puV2 = false := by simp only [puV2, go_sem, Nat.reduceEqDiff]
attribute [go_sem] puV2_dyn
theorem puV2_ok : PuOK Tryz.prog puV2 := by
  refine PuOK.put puV1_ok ?_
  intro xs v h H
  unfold sEachP at h
  split at h
  · rename_i s most f
    split at h
    · rename_i hs
      split at h
      · rename_i hf; subst hf; cases h; exact each_calls s most _ isNm H hs isName1_calls
      · split at h
        · rename_i hf; subst hf; cases h; exact each_calls s most _ isPt H hs isPart1_calls
        · split at h
          · rename_i hf; subst hf; cases h; exact each_calls s most _ isVl H hs isValue1_calls
          · cases h
    · cases h
  · cases h
theorem isName_calls (s : Bytes) (H : Heap) (hs : s.length ≤ Room) : ACalls Tryz.prog 41 [.str s] H fun x H' => x = .bool (nameB s) ∧ H' = H := by
  refine ACalls.of_code (X := { pure := puV2 }) puV2_ok Tryz.func41 (by kernel_rfl) rfl (by kernel_rfl) (Nat.le_of_ble_eq_true rfl) ?_
  simp -implicitDefEqProofs only [go_sem, reduceEqDiff, reduceAdd, reduceLeDiff, reduceLT, reduceMul, reduceEq, Int.reduceLT, reduceLE, Int.reduceAdd, reduceSub, reduceToNat, UInt8.reduceToNat, Tryz.f41, puV2, puV1, sByte_eq, sEachP_eq, hs]
  refine gd_intro (fun hn => ?_) (fun hn => ?_)
  · obtain ⟨c, l, rfl⟩ : ∃ c l, s = c :: l := by
      cases s with
      | nil => simp [sEach] at hn
      | cons c l => exact ⟨c, l, rfl⟩
    simp -implicitDefEqProofs only [go_sem, reduceEqDiff, reduceAdd, reduceLeDiff, reduceLT, reduceMul, reduceEq, Int.reduceLT, reduceLE, Int.reduceAdd, reduceSub, reduceToNat, UInt8.reduceToNat, puV2, puV1, sByte_eq, hn, Int.toNat_zero, Int.le_refl]
    exact Done.now ⟨by simp [nameB, hn], rfl⟩
  · simp -implicitDefEqProofs only [go_sem, reduceEqDiff, reduceAdd, reduceLeDiff, reduceLT, reduceMul, reduceEq, Int.reduceLT, reduceLE, Int.reduceAdd, reduceSub, reduceToNat, UInt8.reduceToNat, puV2, puV1, sByte_eq, hn]
    exact Done.now ⟨by simp [nameB, hn], rfl⟩
theorem isPart_calls (s : Bytes) (H : Heap) (hs : s.length ≤ Room) : ACalls Tryz.prog 106 [.str s] H fun x H' => x = .bool (partB s) ∧ H' = H := by
  refine ACalls.of_code (X := { pure := puV2 }) puV2_ok Tryz.func106 (by kernel_rfl) rfl (by kernel_rfl) (Nat.le_of_ble_eq_true rfl) ?_
  simp -implicitDefEqProofs only [go_sem, reduceEqDiff, reduceAdd, reduceLeDiff, reduceLT, reduceMul, reduceEq, Int.reduceLT, reduceLE, Int.reduceAdd, reduceSub, reduceToNat, UInt8.reduceToNat, Tryz.f106, puV2, puV1, sByte_eq, sEachP_eq, hs]
  repeat' (first | (with_reducible refine gd_intro (fun h => ?_) (fun h => ?_) <;> first | (exact absurd h (by decide)) | (simp at h; done) | simp -implicitDefEqProofs (disch := omega) only [go_sem, reduceEqDiff, reduceAdd, reduceLeDiff, reduceLT, reduceMul, reduceEq, Int.reduceLT, reduceLE, Int.reduceAdd, reduceSub, reduceToNat, UInt8.reduceToNat, Go.IntWalk.i64_in, puV2, puV1, sEachP_eq, *]) | (with_reducible refine cnd_intro (fun h => ?_) (fun h => ?_) <;> first | (exact absurd h (by decide)) | (simp at h; done) | simp -implicitDefEqProofs (disch := omega) only [go_sem, reduceEqDiff, reduceAdd, reduceLeDiff, reduceLT, reduceMul, reduceEq, Int.reduceLT, reduceLE, Int.reduceAdd, reduceSub, reduceToNat, UInt8.reduceToNat, Go.IntWalk.i64_in, puV2, puV1, sEachP_eq, *]))
  all_goals (refine Done.now ⟨?_, rfl⟩; simp_all [partB])
theorem isValue_calls (s : Bytes) (H : Heap) (hs : s.length ≤ Room) : ACalls Tryz.prog 104 [.str s] H fun x H' => x = .bool (valueB s) ∧ H' = H := by
  refine ACalls.of_code (X := { pure := puV2 }) puV2_ok Tryz.func104 (by kernel_rfl) rfl (by kernel_rfl) (Nat.le_of_ble_eq_true rfl) ?_
  simp -implicitDefEqProofs only [go_sem, reduceEqDiff, reduceAdd, reduceLeDiff, reduceLT, reduceMul, reduceEq, Int.reduceLT, reduceLE, Int.reduceAdd, reduceSub, reduceToNat, UInt8.reduceToNat, Tryz.f104, puV2, puV1, sByte_eq, sEachP_eq, hs]
  repeat' (first | (with_reducible refine gd_intro (fun h => ?_) (fun h => ?_) <;> first | (exact absurd h (by decide)) | (simp at h; done) | simp -implicitDefEqProofs (disch := omega) only [go_sem, reduceEqDiff, reduceAdd, reduceLeDiff, reduceLT, reduceMul, reduceEq, Int.reduceLT, reduceLE, Int.reduceAdd, reduceSub, reduceToNat, UInt8.reduceToNat, Go.IntWalk.i64_in, puV2, puV1, sEachP_eq, *]) | (with_reducible refine cnd_intro (fun h => ?_) (fun h => ?_) <;> first | (exact absurd h (by decide)) | (simp at h; done) | simp -implicitDefEqProofs (disch := omega) only [go_sem, reduceEqDiff, reduceAdd, reduceLeDiff, reduceLT, reduceMul, reduceEq, Int.reduceLT, reduceLE, Int.reduceAdd, reduceSub, reduceToNat, UInt8.reduceToNat, Go.IntWalk.i64_in, puV2, puV1, sEachP_eq, *]))
  all_goals (refine Done.now ⟨?_, rfl⟩; simp_all [valueB])
def puV3 : Pures := putP 106 (sStr partB) puV2
theorem puV3_dyn : isDyn puV3 = false := by simp only [puV3, go_sem, Nat.reduceEqDiff]
attribute [go_sem] puV3_dyn
theorem puV3_ok : PuOK Tryz.prog puV3 := .put (puV2_ok) (sStr_ok isPart_calls)
theorem room_part {s p : Bytes} {c : UInt8} (hs : s.length ≤ Room) {i : Nat} (h : (splitB c s)[i]? = some p) : p.length ≤ Room := Nat.le_trans (splitB_mem s p (List.mem_of_getElem? h)) hs
theorem sSplit_room (s : Bytes) (c : UInt8) (h : s.length ≤ Room) : sSplit [.str s, .str [c]] = some (.sl ((splitB c s).map encBs) .unk) := by rw [sSplit_eq, if_pos h]
theorem isPath_calls (s : Bytes) (H : Heap) (hs : s.length ≤ Room) : ACalls Tryz.prog 73 [.str s] H fun x H' => x = .bool (pathB s) ∧ H' = H := by
  refine ACalls.of_code (X := { pure := puV3 }) puV3_ok Tryz.func73 (by kernel_rfl) rfl (by kernel_rfl) (Nat.le_of_ble_eq_true rfl) ?_
  simp -implicitDefEqProofs only [go_sem, reduceEqDiff, reduceAdd, reduceLeDiff, reduceLT, reduceMul, reduceEq, Int.reduceLT, reduceLE, Int.reduceAdd, reduceSub, reduceToNat, UInt8.reduceToNat, Tryz.f73, puV3, puV2, puV1, puK, sSplit_room s _ hs]
  have hlen : (splitB 47 s).length ≤ 1099511627777 := by rw [splitB_len]; have := List.count_le_length (a := (47 : UInt8)) (l := s); have : Room = 1099511627776 := rfl; omega
  refine aloop_intro (σ := Nat) (fun i => [(0, .str s), (6, .sl ((splitB 47 s).map encBs) .unk), (7, .int .i64 (splitB 47 s).length), (8, .int .i64 i)]) (fun i G => G = H ∧ i ≤ (splitB 47 s).length ∧ ((splitB 47 s).take i).all partB = true) (fun i => (splitB 47 s).length - i) 0 ?_ ?_ ?_
  · simp -implicitDefEqProofs only [go_sem, reduceEqDiff, reduceAdd, reduceLeDiff, reduceLT, reduceMul, reduceEq, Int.reduceLT, reduceLE, Int.reduceAdd, reduceSub, reduceToNat, UInt8.reduceToNat]
  · simp
  · rintro i r G ⟨h0, h6, h7, h8, -⟩ ⟨rfl, hi, hp⟩
    simp -implicitDefEqProofs only [go_sem, reduceEqDiff, reduceAdd, reduceLeDiff, reduceLT, reduceMul, reduceEq, Int.reduceLT, reduceLE, Int.reduceAdd, reduceSub, reduceToNat, UInt8.reduceToNat, h0, h6, h7, h8]
    refine cnd_intro (fun h => ?_) (fun h => ?_)
    · simp only [decide_eq_true_eq] at h
      obtain ⟨c, hc⟩ : ∃ c, (splitB 47 s)[i]? = some c := ⟨(splitB 47 s)[i]'(by omega), List.getElem?_eq_getElem _⟩
      have hr := room_part hs hc
      simp -implicitDefEqProofs only [go_sem, reduceEqDiff, reduceAdd, reduceLeDiff, reduceLT, reduceMul, reduceEq, Int.reduceLT, reduceLE, Int.reduceAdd, reduceSub, reduceToNat, UInt8.reduceToNat, h0, h6, h7, h8, hc, encBs, puV3, sStr_eq, hr]
      refine cnd_intro (fun hpc => ?_) (fun hpc => ?_) <;> simp only [Bool.not_eq_true', Bool.not_eq_false'] at hpc
      · simp -implicitDefEqProofs only [go_sem, reduceEqDiff, reduceAdd, reduceLeDiff, reduceLT, reduceMul, reduceEq, Int.reduceLT, reduceLE, Int.reduceAdd, reduceSub, reduceToNat, UInt8.reduceToNat, h0, h6, h7, h8, hc]
        refine Done.now ⟨?_, rfl⟩
        have : (splitB 47 s).all partB = false := by rw [List.all_eq_false]; exact ⟨c, List.mem_of_getElem? hc, by simp [hpc]⟩
        simp [pathB, this]
      · simp -implicitDefEqProofs (disch := omega) only [go_sem, reduceEqDiff, reduceAdd, reduceLeDiff, reduceLT, reduceMul, reduceEq, Int.reduceLT, reduceLE, Int.reduceAdd, reduceSub, reduceToNat, UInt8.reduceToNat, Go.IntWalk.i64_in, h0, h6, h7, h8, hc]
        refine Again.mk (i + 1) (by simp -implicitDefEqProofs only [go_sem, reduceEqDiff, reduceAdd, reduceLeDiff, reduceLT, reduceMul, reduceEq, Int.reduceLT, reduceLE, Int.reduceAdd, reduceSub, reduceToNat, UInt8.reduceToNat, h0, h6, h7, h8]; exact rfl) ⟨rfl, by omega, ?_⟩ (by omega)
        rw [List.take_add_one, hc]
        simp [List.all_append, hp, hpc]
    · simp only [decide_eq_false_iff_not] at h
      have e : i = (splitB 47 s).length := by omega
      subst e
      rw [List.take_length] at hp
      simp -implicitDefEqProofs only [go_sem, reduceEqDiff, reduceAdd, reduceLeDiff, reduceLT, reduceMul, reduceEq, Int.reduceLT, reduceLE, Int.reduceAdd, reduceSub, reduceToNat, UInt8.reduceToNat, h0, h6, h7, h8]
      exact Done.now ⟨by simp [pathB, hp], rfl⟩
end Go.Proofs

/- Walks: the reference's names, paths, values; what has the form of a sum. -/
namespace Go.Proofs
open Go Go.Abs
open Nat (reduceEqDiff reduceAdd reduceLeDiff reduceLT reduceMul)
open Int (reduceEq reduceLE reduceSub reduceToNat)
set_option linter.unusedSimpArgs false
set_option linter.unusedVariables false
theorem name_iff (s : Bytes) (h : s ≠ []) : nameB s = (allB isNm s && isSm ((s.headD 0).toNat : Int) && decide ((s.length : Int) ≤ 40)) := by
  simp only [nameB, sEach, h, ne_eq, not_false_eq_true, decide_true, Bool.and_true]
  cases allB isNm s <;> cases isSm ((s.headD 0).toNat : Int) <;> simp
theorem rIsName_calls (s : Bytes) (H : Heap) (hs : s.length ≤ Room) : ACalls Tryz.prog 42 [.str s] H fun x H' => x = .bool (nameB s) ∧ H' = H := by
  have hR : Room = 1099511627776 := rfl
  rw [hR] at hs
  refine ACalls.of_code (X := { pure := puV3 }) puV3_ok Tryz.func42 (by kernel_rfl) rfl (by kernel_rfl) (Nat.le_of_ble_eq_true rfl) ?_
  simp -implicitDefEqProofs only [go_sem, reduceEqDiff, reduceAdd, reduceLeDiff, reduceLT, reduceMul, reduceEq, Int.reduceLT, reduceLE, Int.reduceAdd, reduceSub, reduceToNat, UInt8.reduceToNat, Tryz.f42]
  refine aloop_intro (σ := Nat) (fun i => [(0, .str s), (7, .int .i64 s.length), (8, .int .i64 i)]) (fun i G => G = H ∧ i ≤ s.length ∧ allB isNm (s.take i) = true ∧ (0 < i → isSm ((s.headD 0).toNat : Int) = true)) (fun i => s.length - i) 0 ?_ ?_ ?_
  · simp -implicitDefEqProofs only [go_sem, reduceEqDiff, reduceAdd, reduceLeDiff, reduceLT, reduceMul, reduceEq, Int.reduceLT, reduceLE, Int.reduceAdd, reduceSub, reduceToNat, UInt8.reduceToNat]
  · simp [allB]
  · intro i r G hv hI
    have h0 := hv.1
    have h7 := hv.2.1
    have h8 := hv.2.2.1
    have hG := hI.1.symm
    have hi := hI.2.1
    have hp := hI.2.2.1
    have hh := hI.2.2.2
    clear hv hI
    subst hG
    simp -implicitDefEqProofs only [go_sem, reduceEqDiff, reduceAdd, reduceLeDiff, reduceLT, reduceMul, reduceEq, Int.reduceLT, reduceLE, Int.reduceAdd, reduceSub, reduceToNat, UInt8.reduceToNat, h0, h7, h8]
    refine cnd_intro (fun h => ?_) (fun h => ?_)
    · simp only [decide_eq_true_eq] at h
      obtain ⟨c, hc⟩ : ∃ c, s[i]? = some c := ⟨s[i]'(by omega), List.getElem?_eq_getElem _⟩
      have hn := not_nil_of hc
      have hsm : i = 0 → s.headD 0 = c := fun e => by subst e; exact head_of hc
      have bad0 : i = 0 → isSm (c.toNat : Int) = false → nameB s = false := fun e1 e2 => by rw [name_iff s hn, hsm e1, e2]; simp
      have bad1 : isNm (c.toNat : Int) = false → nameB s = false := fun e => by rw [nameB, sEach_false hc e]; rfl
      have good : (i = 0 → isSm (c.toNat : Int) = true) → isNm (c.toNat : Int) = true → allB isNm (s.take (i + 1)) = true ∧ (0 < i + 1 → isSm ((s.headD 0).toNat : Int) = true) := fun e1 e2 =>
        ⟨allB_succ hp hc e2, fun _ => by
          rcases Nat.eq_zero_or_pos i with e | e
          · rw [hsm e]; exact e1 e
          · exact hh e⟩
      clear hp hsm hh
      generalize hcn : (c.toNat : Int) = k at *
      simp -implicitDefEqProofs only [go_sem, reduceEqDiff, reduceAdd, reduceLeDiff, reduceLT, reduceMul, reduceEq, Int.reduceLT, reduceLE, Int.reduceAdd, reduceSub, reduceToNat, UInt8.reduceToNat, h0, h7, h8, hc, hcn]
      clear hc
      repeat' (first | (with_reducible refine gd_intro (fun h => ?_) (fun h => ?_) <;> first | (exact absurd h (by decide)) | (simp at h; done) | simp -implicitDefEqProofs (disch := omega) only [go_sem, reduceEqDiff, reduceAdd, reduceLeDiff, reduceLT, reduceMul, reduceEq, Int.reduceLT, reduceLE, Int.reduceAdd, reduceSub, reduceToNat, UInt8.reduceToNat, Go.IntWalk.i64_in, *]) | (with_reducible refine cnd_intro (fun h => ?_) (fun h => ?_) <;> first | (exact absurd h (by decide)) | (simp at h; done) | simp -implicitDefEqProofs (disch := omega) only [go_sem, reduceEqDiff, reduceAdd, reduceLeDiff, reduceLT, reduceMul, reduceEq, Int.reduceLT, reduceLE, Int.reduceAdd, reduceSub, reduceToNat, UInt8.reduceToNat, Go.IntWalk.i64_in, *]))
      all_goals first
        | (refine Done.now ⟨?_, rfl⟩
           simp only [decide_eq_true_eq, decide_eq_false_iff_not, Bool.not_eq_true', Bool.not_eq_false', Decidable.not_not, Int.not_lt, Int.not_le, ne_eq] at *
           first
            | (rw [bad0 (by omega) (by simp [isSm]; omega)]; done)
            | (rw [bad1 (by simp [isNm, isSm, isDg]; omega)]; done))
        | (simp only [decide_eq_true_eq, decide_eq_false_iff_not, Bool.not_eq_true', Bool.not_eq_false', Decidable.not_not, Int.not_lt, Int.not_le, ne_eq] at *
           exact Again.mk (i + 1) (by simp -implicitDefEqProofs only [go_sem, reduceEqDiff, reduceAdd, reduceLeDiff, reduceLT, reduceMul, reduceEq, Int.reduceLT, reduceLE, Int.reduceAdd, reduceSub, reduceToNat, UInt8.reduceToNat, h0, h7, h8]; exact rfl) ⟨rfl, by omega, good (by simp [isSm]; omega) (by simp [isNm, isSm, isDg]; omega)⟩ (by omega))
    · simp only [decide_eq_false_iff_not] at h
      have e : i = s.length := by omega
      subst e
      rw [List.take_length] at hp
      simp -implicitDefEqProofs only [go_sem, reduceEqDiff, reduceAdd, reduceLeDiff, reduceLT, reduceMul, reduceEq, Int.reduceLT, reduceLE, Int.reduceAdd, reduceSub, reduceToNat, UInt8.reduceToNat, h0, h7, h8]
      repeat' (first | (with_reducible refine gd_intro (fun h => ?_) (fun h => ?_) <;> first | (exact absurd h (by decide)) | (simp at h; done) | simp -implicitDefEqProofs (disch := omega) only [go_sem, reduceEqDiff, reduceAdd, reduceLeDiff, reduceLT, reduceMul, reduceEq, Int.reduceLT, reduceLE, Int.reduceAdd, reduceSub, reduceToNat, UInt8.reduceToNat, Go.IntWalk.i64_in, *]) | (with_reducible refine cnd_intro (fun h => ?_) (fun h => ?_) <;> first | (exact absurd h (by decide)) | (simp at h; done) | simp -implicitDefEqProofs (disch := omega) only [go_sem, reduceEqDiff, reduceAdd, reduceLeDiff, reduceLT, reduceMul, reduceEq, Int.reduceLT, reduceLE, Int.reduceAdd, reduceSub, reduceToNat, UInt8.reduceToNat, Go.IntWalk.i64_in, *]))
      all_goals refine Done.now ⟨?_, rfl⟩
      all_goals simp only [decide_eq_true_eq, decide_eq_false_iff_not, Bool.not_eq_true', Bool.not_eq_false', Decidable.not_not, Int.not_lt, Int.not_le, ne_eq] at *
      · cases s with
        | nil => simp at hR h
        | cons b l => rw [name_iff _ (by simp), hp, hh (by simp)]; simp
      · have : s = [] := by simpa using h
        subst this; rfl
theorem rIsPart_calls (s : Bytes) (H : Heap) (hs : s.length ≤ Room) : ACalls Tryz.prog 133 [.str s] H fun x H' => x = .bool (partB s) ∧ H' = H := by
  have hR : Room = 1099511627776 := rfl
  rw [hR] at hs
  clear hR
  refine ACalls.of_code (X := { pure := puV3 }) puV3_ok Tryz.func133 (by kernel_rfl) rfl (by kernel_rfl) (Nat.le_of_ble_eq_true rfl) ?_
  simp -implicitDefEqProofs only [go_sem, reduceEqDiff, reduceAdd, reduceLeDiff, reduceLT, reduceMul, reduceEq, Int.reduceLT, reduceLE, Int.reduceAdd, reduceSub, reduceToNat, UInt8.reduceToNat, Tryz.f133]
  refine aloop_intro (σ := Nat) (fun i => [(0, .str s), (6, .int .i64 s.length), (7, .int .i64 i)]) (fun i G => G = H ∧ i ≤ s.length ∧ allB isPt (s.take i) = true) (fun i => s.length - i) 0 ?_ ?_ ?_
  · simp -implicitDefEqProofs only [go_sem, reduceEqDiff, reduceAdd, reduceLeDiff, reduceLT, reduceMul, reduceEq, Int.reduceLT, reduceLE, Int.reduceAdd, reduceSub, reduceToNat, UInt8.reduceToNat]
  · simp [allB]
  · intro i r G hv hI
    have h0 := hv.1
    have h7 := hv.2.1
    have h8 := hv.2.2.1
    have hG := hI.1.symm
    have hi := hI.2.1
    have hp := hI.2.2
    clear hv hI
    subst hG
    simp -implicitDefEqProofs only [go_sem, reduceEqDiff, reduceAdd, reduceLeDiff, reduceLT, reduceMul, reduceEq, Int.reduceLT, reduceLE, Int.reduceAdd, reduceSub, reduceToNat, UInt8.reduceToNat, h0, h7, h8]
    refine cnd_intro (fun h => ?_) (fun h => ?_)
    · simp only [decide_eq_true_eq] at h
      obtain ⟨c, hc⟩ : ∃ c, s[i]? = some c := ⟨s[i]'(by omega), List.getElem?_eq_getElem _⟩
      have bad1 : isPt (c.toNat : Int) = false → partB s = false := fun e => by simp [partB, sEach, allB_false hc e, not_nil_of hc]
      have good : isPt (c.toNat : Int) = true → allB isPt (s.take (i + 1)) = true := fun e2 => allB_succ hp hc e2
      clear hp
      generalize hcn : (c.toNat : Int) = k at *
      simp -implicitDefEqProofs only [go_sem, reduceEqDiff, reduceAdd, reduceLeDiff, reduceLT, reduceMul, reduceEq, Int.reduceLT, reduceLE, Int.reduceAdd, reduceSub, reduceToNat, UInt8.reduceToNat, h0, h7, h8, hc, hcn]
      repeat' (first | (with_reducible refine gd_intro (fun h => ?_) (fun h => ?_) <;> first | (exact absurd h (by decide)) | (simp at h; done) | simp -implicitDefEqProofs (disch := omega) only [go_sem, reduceEqDiff, reduceAdd, reduceLeDiff, reduceLT, reduceMul, reduceEq, Int.reduceLT, reduceLE, Int.reduceAdd, reduceSub, reduceToNat, UInt8.reduceToNat, Go.IntWalk.i64_in, *]) | (with_reducible refine cnd_intro (fun h => ?_) (fun h => ?_) <;> first | (exact absurd h (by decide)) | (simp at h; done) | simp -implicitDefEqProofs (disch := omega) only [go_sem, reduceEqDiff, reduceAdd, reduceLeDiff, reduceLT, reduceMul, reduceEq, Int.reduceLT, reduceLE, Int.reduceAdd, reduceSub, reduceToNat, UInt8.reduceToNat, Go.IntWalk.i64_in, *]))
      all_goals first
        | (refine Done.now ⟨?_, rfl⟩
           simp only [decide_eq_true_eq, decide_eq_false_iff_not, Bool.not_eq_true', Bool.not_eq_false', Decidable.not_not, Int.not_lt, Int.not_le, ne_eq] at *
           rw [bad1 (by simp [isPt, isSm, isDg]; omega)]; done)
        | (simp only [decide_eq_true_eq, decide_eq_false_iff_not, Bool.not_eq_true', Bool.not_eq_false', Decidable.not_not, Int.not_lt, Int.not_le, ne_eq] at *
           exact Again.mk (i + 1) (by simp -implicitDefEqProofs only [go_sem, reduceEqDiff, reduceAdd, reduceLeDiff, reduceLT, reduceMul, reduceEq, Int.reduceLT, reduceLE, Int.reduceAdd, reduceSub, reduceToNat, UInt8.reduceToNat, h0, h7, h8]; exact rfl) ⟨rfl, by omega, good (by simp [isPt, isSm, isDg]; omega)⟩ (by omega))
    · simp only [decide_eq_false_iff_not] at h
      have e : i = s.length := by omega
      subst e
      rw [List.take_length] at hp
      simp -implicitDefEqProofs only [go_sem, reduceEqDiff, reduceAdd, reduceLeDiff, reduceLT, reduceMul, reduceEq, Int.reduceLT, reduceLE, Int.reduceAdd, reduceSub, reduceToNat, UInt8.reduceToNat, h0, h7, h8]
      repeat' (first | (with_reducible refine gd_intro (fun h => ?_) (fun h => ?_) <;> first | (exact absurd h (by decide)) | (simp at h; done) | simp -implicitDefEqProofs (disch := omega) only [go_sem, reduceEqDiff, reduceAdd, reduceLeDiff, reduceLT, reduceMul, reduceEq, Int.reduceLT, reduceLE, Int.reduceAdd, reduceSub, reduceToNat, UInt8.reduceToNat, Go.IntWalk.i64_in, *]) | (with_reducible refine cnd_intro (fun h => ?_) (fun h => ?_) <;> first | (exact absurd h (by decide)) | (simp at h; done) | simp -implicitDefEqProofs (disch := omega) only [go_sem, reduceEqDiff, reduceAdd, reduceLeDiff, reduceLT, reduceMul, reduceEq, Int.reduceLT, reduceLE, Int.reduceAdd, reduceSub, reduceToNat, UInt8.reduceToNat, Go.IntWalk.i64_in, *]))
      all_goals refine Done.now ⟨?_, rfl⟩
      all_goals try simp only [decide_eq_true_eq, decide_eq_false_iff_not, Bool.not_eq_true', Bool.not_eq_false', Decidable.not_not, Int.not_lt, Int.not_le, ne_eq] at *
      all_goals (by_cases hn : s = [] <;> simp_all [partB, sEach] <;> omega)

theorem rIsValue_calls (s : Bytes) (H : Heap) (hs : s.length ≤ Room) : ACalls Tryz.prog 43 [.str s] H fun x H' => x = .bool (valueB s) ∧ H' = H := by
  have hR : Room = 1099511627776 := rfl
  rw [hR] at hs
  clear hR
  refine ACalls.of_code (X := { pure := puV3 }) puV3_ok Tryz.func43 (by kernel_rfl) rfl (by kernel_rfl) (Nat.le_of_ble_eq_true rfl) ?_
  simp -implicitDefEqProofs only [go_sem, reduceEqDiff, reduceAdd, reduceLeDiff, reduceLT, reduceMul, reduceEq, Int.reduceLT, reduceLE, Int.reduceAdd, reduceSub, reduceToNat, UInt8.reduceToNat, Tryz.f43]
  refine aloop_intro (σ := Nat) (fun i => [(0, .str s), (5, .int .i64 s.length), (6, .int .i64 i)]) (fun i G => G = H ∧ i ≤ s.length ∧ allB isVl (s.take i) = true) (fun i => s.length - i) 0 ?_ ?_ ?_
  · simp -implicitDefEqProofs only [go_sem, reduceEqDiff, reduceAdd, reduceLeDiff, reduceLT, reduceMul, reduceEq, Int.reduceLT, reduceLE, Int.reduceAdd, reduceSub, reduceToNat, UInt8.reduceToNat]
  · simp [allB]
  · intro i r G hv hI
    have h0 := hv.1
    have h7 := hv.2.1
    have h8 := hv.2.2.1
    have hG := hI.1.symm
    have hi := hI.2.1
    have hp := hI.2.2
    clear hv hI
    subst hG
    simp -implicitDefEqProofs only [go_sem, reduceEqDiff, reduceAdd, reduceLeDiff, reduceLT, reduceMul, reduceEq, Int.reduceLT, reduceLE, Int.reduceAdd, reduceSub, reduceToNat, UInt8.reduceToNat, h0, h7, h8]
    refine cnd_intro (fun h => ?_) (fun h => ?_)
    · simp only [decide_eq_true_eq] at h
      obtain ⟨c, hc⟩ : ∃ c, s[i]? = some c := ⟨s[i]'(by omega), List.getElem?_eq_getElem _⟩
      have bad1 : isVl (c.toNat : Int) = false → valueB s = false := fun e => by simp [valueB, sEach, allB_false hc e, not_nil_of hc]
      have good : isVl (c.toNat : Int) = true → allB isVl (s.take (i + 1)) = true := fun e2 => allB_succ hp hc e2
      clear hp
      generalize hcn : (c.toNat : Int) = k at *
      simp -implicitDefEqProofs only [go_sem, reduceEqDiff, reduceAdd, reduceLeDiff, reduceLT, reduceMul, reduceEq, Int.reduceLT, reduceLE, Int.reduceAdd, reduceSub, reduceToNat, UInt8.reduceToNat, h0, h7, h8, hc, hcn]
      repeat' (first | (with_reducible refine gd_intro (fun h => ?_) (fun h => ?_) <;> first | (exact absurd h (by decide)) | (simp at h; done) | simp -implicitDefEqProofs (disch := omega) only [go_sem, reduceEqDiff, reduceAdd, reduceLeDiff, reduceLT, reduceMul, reduceEq, Int.reduceLT, reduceLE, Int.reduceAdd, reduceSub, reduceToNat, UInt8.reduceToNat, Go.IntWalk.i64_in, *]) | (with_reducible refine cnd_intro (fun h => ?_) (fun h => ?_) <;> first | (exact absurd h (by decide)) | (simp at h; done) | simp -implicitDefEqProofs (disch := omega) only [go_sem, reduceEqDiff, reduceAdd, reduceLeDiff, reduceLT, reduceMul, reduceEq, Int.reduceLT, reduceLE, Int.reduceAdd, reduceSub, reduceToNat, UInt8.reduceToNat, Go.IntWalk.i64_in, *]))
      all_goals first
        | (refine Done.now ⟨?_, rfl⟩
           simp only [decide_eq_true_eq, decide_eq_false_iff_not, Bool.not_eq_true', Bool.not_eq_false', Decidable.not_not, Int.not_lt, Int.not_le, ne_eq] at *
           rw [bad1 (by simp [isVl]; omega)]; done)
        | (simp only [decide_eq_true_eq, decide_eq_false_iff_not, Bool.not_eq_true', Bool.not_eq_false', Decidable.not_not, Int.not_lt, Int.not_le, ne_eq] at *
           exact Again.mk (i + 1) (by simp -implicitDefEqProofs only [go_sem, reduceEqDiff, reduceAdd, reduceLeDiff, reduceLT, reduceMul, reduceEq, Int.reduceLT, reduceLE, Int.reduceAdd, reduceSub, reduceToNat, UInt8.reduceToNat, h0, h7, h8]; exact rfl) ⟨rfl, by omega, good (by simp [isVl]; omega)⟩ (by omega))
    · simp only [decide_eq_false_iff_not] at h
      have e : i = s.length := by omega
      subst e
      rw [List.take_length] at hp
      simp -implicitDefEqProofs only [go_sem, reduceEqDiff, reduceAdd, reduceLeDiff, reduceLT, reduceMul, reduceEq, Int.reduceLT, reduceLE, Int.reduceAdd, reduceSub, reduceToNat, UInt8.reduceToNat, h0, h7, h8]
      repeat' (first | (with_reducible refine gd_intro (fun h => ?_) (fun h => ?_) <;> first | (exact absurd h (by decide)) | (simp at h; done) | simp -implicitDefEqProofs (disch := omega) only [go_sem, reduceEqDiff, reduceAdd, reduceLeDiff, reduceLT, reduceMul, reduceEq, Int.reduceLT, reduceLE, Int.reduceAdd, reduceSub, reduceToNat, UInt8.reduceToNat, Go.IntWalk.i64_in, *]) | (with_reducible refine cnd_intro (fun h => ?_) (fun h => ?_) <;> first | (exact absurd h (by decide)) | (simp at h; done) | simp -implicitDefEqProofs (disch := omega) only [go_sem, reduceEqDiff, reduceAdd, reduceLeDiff, reduceLT, reduceMul, reduceEq, Int.reduceLT, reduceLE, Int.reduceAdd, reduceSub, reduceToNat, UInt8.reduceToNat, Go.IntWalk.i64_in, *]))
      all_goals refine Done.now ⟨?_, rfl⟩
      all_goals try simp only [decide_eq_true_eq, decide_eq_false_iff_not, Bool.not_eq_true', Bool.not_eq_false', Decidable.not_not, Int.not_lt, Int.not_le, ne_eq] at *
      all_goals (by_cases hn : s = [] <;> simp_all [valueB, sEach] <;> omega)

def puR1 : Pures := putP 133 (sStr partB) (putP 43 (sStr valueB) (putP 42 (sStr nameB) puV3))
theorem puR1_dyn : isDyn puR1 = false := by simp only [puR1, go_sem, Nat.reduceEqDiff]
attribute [go_sem] puR1_dyn
theorem puR1_ok : PuOK Tryz.prog puR1 := .put (.put (.put (puV3_ok) (sStr_ok rIsName_calls)) (sStr_ok rIsValue_calls)) (sStr_ok rIsPart_calls)
theorem rIsPath_calls (s : Bytes) (H : Heap) (hs : s.length ≤ Room) : ACalls Tryz.prog 103 [.str s] H fun x H' => x = .bool (pathB s) ∧ H' = H := by
  refine ACalls.of_code (X := { pure := puR1 }) puR1_ok Tryz.func103 (by kernel_rfl) rfl (by kernel_rfl) (Nat.le_of_ble_eq_true rfl) ?_
  simp -implicitDefEqProofs only [go_sem, reduceEqDiff, reduceAdd, reduceLeDiff, reduceLT, reduceMul, reduceEq, Int.reduceLT, reduceLE, Int.reduceAdd, reduceSub, reduceToNat, UInt8.reduceToNat, Tryz.f103, puR1, puV3, puV2, puV1, puK, sSplit_room s _ hs]
  have hlen : (splitB 47 s).length ≤ 1099511627777 := by rw [splitB_len]; have := List.count_le_length (a := (47 : UInt8)) (l := s); have : Room = 1099511627776 := rfl; omega
  refine aloop_intro (σ := Nat) (fun i => [(0, .str s), (6, .sl ((splitB 47 s).map encBs) .unk), (7, .int .i64 (splitB 47 s).length), (8, .int .i64 i)]) (fun i G => G = H ∧ i ≤ (splitB 47 s).length ∧ ((splitB 47 s).take i).all partB = true) (fun i => (splitB 47 s).length - i) 0 ?_ ?_ ?_
  · simp -implicitDefEqProofs only [go_sem, reduceEqDiff, reduceAdd, reduceLeDiff, reduceLT, reduceMul, reduceEq, Int.reduceLT, reduceLE, Int.reduceAdd, reduceSub, reduceToNat, UInt8.reduceToNat]
  · simp
  · intro i r G hv hI
    have h0 := hv.1
    have h6 := hv.2.1
    have h7 := hv.2.2.1
    have h8 := hv.2.2.2.1
    have hG := hI.1.symm
    have hi := hI.2.1
    have hp := hI.2.2
    clear hv hI
    subst hG
    simp -implicitDefEqProofs only [go_sem, reduceEqDiff, reduceAdd, reduceLeDiff, reduceLT, reduceMul, reduceEq, Int.reduceLT, reduceLE, Int.reduceAdd, reduceSub, reduceToNat, UInt8.reduceToNat, h0, h6, h7, h8]
    refine cnd_intro (fun h => ?_) (fun h => ?_)
    · simp only [decide_eq_true_eq] at h
      obtain ⟨c, hc⟩ : ∃ c, (splitB 47 s)[i]? = some c := ⟨(splitB 47 s)[i]'(by omega), List.getElem?_eq_getElem _⟩
      have hr := room_part hs hc
      simp -implicitDefEqProofs only [go_sem, reduceEqDiff, reduceAdd, reduceLeDiff, reduceLT, reduceMul, reduceEq, Int.reduceLT, reduceLE, Int.reduceAdd, reduceSub, reduceToNat, UInt8.reduceToNat, h0, h6, h7, h8, hc, encBs, puR1, sStr_eq, hr]
      refine cnd_intro (fun hpc => ?_) (fun hpc => ?_) <;> simp only [Bool.not_eq_true', Bool.not_eq_false'] at hpc
      · simp -implicitDefEqProofs only [go_sem, reduceEqDiff, reduceAdd, reduceLeDiff, reduceLT, reduceMul, reduceEq, Int.reduceLT, reduceLE, Int.reduceAdd, reduceSub, reduceToNat, UInt8.reduceToNat, h0, h6, h7, h8, hc]
        refine Done.now ⟨?_, rfl⟩
        have : (splitB 47 s).all partB = false := by rw [List.all_eq_false]; exact ⟨c, List.mem_of_getElem? hc, by simp [hpc]⟩
        simp [pathB, this]
      · simp -implicitDefEqProofs (disch := omega) only [go_sem, reduceEqDiff, reduceAdd, reduceLeDiff, reduceLT, reduceMul, reduceEq, Int.reduceLT, reduceLE, Int.reduceAdd, reduceSub, reduceToNat, UInt8.reduceToNat, Go.IntWalk.i64_in, h0, h6, h7, h8, hc]
        refine Again.mk (i + 1) (by simp -implicitDefEqProofs only [go_sem, reduceEqDiff, reduceAdd, reduceLeDiff, reduceLT, reduceMul, reduceEq, Int.reduceLT, reduceLE, Int.reduceAdd, reduceSub, reduceToNat, UInt8.reduceToNat, h0, h6, h7, h8]; exact rfl) ⟨rfl, by omega, ?_⟩ (by omega)
        rw [List.take_add_one, hc]
        simp [List.all_append, hp, hpc]
    · simp only [decide_eq_false_iff_not] at h
      have e : i = (splitB 47 s).length := by omega
      subst e
      rw [List.take_length] at hp
      simp -implicitDefEqProofs only [go_sem, reduceEqDiff, reduceAdd, reduceLeDiff, reduceLT, reduceMul, reduceEq, Int.reduceLT, reduceLE, Int.reduceAdd, reduceSub, reduceToNat, UInt8.reduceToNat, h0, h6, h7, h8]
      exact Done.now ⟨by simp [pathB, hp], rfl⟩
def puN : Pures := putP 103 (sStr pathB) (putP 73 (sStr pathB) (putP 41 (sStr nameB) (putP 104 (sStr valueB) puR1)))
theorem puN_dyn : isDyn puN = false := by simp only [puN, go_sem, Nat.reduceEqDiff]
attribute [go_sem] puN_dyn
theorem puN_ok : PuOK Tryz.prog puN := .put (.put (.put (.put (puR1_ok) (sStr_ok isValue_calls)) (sStr_ok isName_calls)) (sStr_ok isPath_calls)) (sStr_ok rIsPath_calls)
end Go.Proofs

/- The sum of a text: plain Lean, no program. -/
namespace Go.Proofs
open Go Go.Abs
open Nat (reduceEqDiff reduceAdd reduceLeDiff reduceLT reduceMul)
open Int (reduceEq reduceLE reduceSub reduceToNat)
set_option linter.unusedSimpArgs false
set_option linter.unusedVariables false
/-- The digit of a number below 16. -/
def dig (n : Nat) : UInt8 := ([48, 49, 50, 51, 52, 53, 54, 55, 56, 57, 97, 98, 99, 100, 101, 102] : List UInt8).getD n 0
/-- So many digits of a number. -/
def hexPad : Nat → Nat → Bytes
  | 0, _ => []
  | k + 1, n => hexPad k (n / 16) ++ [dig (n % 16)]
theorem hexPad_len : ∀ k n, (hexPad k n).length = k
  | 0, _ => rfl
  | k + 1, n => by simp [hexPad, hexPad_len k]
theorem hexPad_get : ∀ (k n i : Nat), i < k → (hexPad k n)[i]? = some (dig (n / 16 ^ (k - 1 - i) % 16))
  | 0, _, _, h => by omega
  | k + 1, n, i, h => by
    rw [hexPad]
    by_cases hi : i < k
    · rw [List.getElem?_append_left (by rw [hexPad_len]; exact hi), hexPad_get k _ i hi]
      have e : k + 1 - 1 - i = (k - 1 - i) + 1 := by omega
      rw [e, Nat.pow_succ, Nat.mul_comm, Nat.div_div_eq_div_mul]
    · have e : i = k := by omega
      subst e
      rw [List.getElem?_append_right (by rw [hexPad_len]; omega), hexPad_len]
      simp
theorem pow16 : ∀ i, i < 16 → 16 ^ (16 - 1 - i) = 2 ^ (60 - 4 * i) := by decide
theorem hexPad_get2 (n i : Nat) (h : i < 16) : (hexPad 16 n)[i]? = some (dig (n / 2 ^ (60 - 4 * i) % 16)) := by
  rw [← pow16 i h]; exact hexPad_get 16 n i h
/-- One step of the sum, as the machine takes it. -/
def fnvStep (h : Int) (c : UInt8) : Int := IntKind.u64.wrap (xorI .u64 h (c.toNat : Int) * 1099511628211)
def fnv (s : Bytes) : Int := s.foldl fnvStep 14695981039346656037
theorem fnv_succ {s : Bytes} {i : Nat} {c : UInt8} (hc : s[i]? = some c) : fnv (s.take (i + 1)) = fnvStep (fnv (s.take i)) c := by
  unfold fnv
  rw [List.take_add_one, hc]
  simp
theorem u64_range (n : Int) : 0 ≤ IntKind.u64.wrap n ∧ IntKind.u64.wrap n < 18446744073709551616 := by
  have h1 : IntKind.u64.wrap n = n % 18446744073709551616 := by
    unfold IntKind.wrap
    simp [IntKind.signed, IntKind.bits]
  rw [h1]; omega
theorem fnvStep_range (h : Int) (c : UInt8) : 0 ≤ fnvStep h c ∧ fnvStep h c < 18446744073709551616 := u64_range _
theorem foldl_range (s : Bytes) : ∀ h : Int, 0 ≤ h ∧ h < 18446744073709551616 → 0 ≤ s.foldl fnvStep h ∧ s.foldl fnvStep h < 18446744073709551616 := by
  induction s with
  | nil => intro h hh; exact hh
  | cons c s ih => intro h _; exact ih _ (fnvStep_range _ _)
theorem fnv_range (s : Bytes) : 0 ≤ fnv s ∧ fnv s < 18446744073709551616 := foldl_range s _ (by omega)
def fnvN (s : Bytes) : Nat := (fnv s).toNat
theorem fnvN_eq (s : Bytes) : fnv s = (fnvN s : Int) := by have := fnv_range s; unfold fnvN; omega
theorem fnvN_lt (s : Bytes) : fnvN s < 18446744073709551616 := by have := fnv_range s; unfold fnvN; omega
def sumOf (s : Bytes) : Bytes := hexPad 16 (fnvN s)
theorem u64_byte (c : UInt8) : IntKind.u64.wrap (c.toNat : Int) = (c.toNat : Int) := Go.IntWalk.u64_in _ (by have := c.toNat_lt; omega)
theorem and15 (n : Nat) (h : n < 18446744073709551616) : andI .u64 (n : Int) 15 = ((n % 16 : Nat) : Int) := by
  have e : (BitVec.ofInt IntKind.u64.bits (n : Int) &&& BitVec.ofInt IntKind.u64.bits 15).toNat = n % 16 := by
    show (BitVec.ofInt 64 (n : Int) &&& BitVec.ofInt 64 ((15 : Nat) : Int)).toNat = n % 16
    rw [BitVec.ofInt_natCast, BitVec.ofInt_natCast, BitVec.toNat_and]
    simp only [BitVec.toNat_ofNat]
    rw [Nat.mod_eq_of_lt (show n < 2 ^ 64 by simpa using h), Nat.mod_eq_of_lt (show 15 < 2 ^ 64 by decide)]
    exact Nat.and_two_pow_sub_one_eq_mod n 4
  unfold andI
  rw [e]
  exact Go.IntWalk.u64_in _ (by omega)
theorem shrN (n b : Nat) (z : Int) (hz : z = b) (h : b ≤ 64) : shrI .u64 (n : Int) z = ((n / 2 ^ b : Nat) : Int) := by
  subst hz
  unfold shrI
  have e : min (b : Int).toNat IntKind.u64.bits = b := Nat.min_eq_left h
  rw [e, show ((2 : Int) ^ b) = ((2 ^ b : Nat) : Int) from by simp, Int.fdiv_eq_ediv_of_nonneg _ (Int.natCast_nonneg _)]
  rfl
theorem dig_get (m : Nat) (h : m < 16) : ([48, 49, 50, 51, 52, 53, 54, 55, 56, 57, 97, 98, 99, 100, 101, 102] : List UInt8)[m]? = some (dig m) := by
  unfold dig
  rw [List.getD]
  cases hh : ([48, 49, 50, 51, 52, 53, 54, 55, 56, 57, 97, 98, 99, 100, 101, 102] : List UInt8)[m]? with
  | none => rw [List.getElem?_eq_none_iff] at hh; simp at hh; omega
  | some v => rfl
end Go.Proofs

/- Walks: sums, of the program and of the reference. -/
namespace Go.Proofs
open Go Go.Abs
open Nat (reduceEqDiff reduceAdd reduceLeDiff reduceLT reduceMul)
open Int (reduceEq reduceLE reduceSub reduceToNat)
set_option linter.unusedSimpArgs false
set_option linter.unusedVariables false
def encB (b : UInt8) : AV := .int .u8 b.toNat
set_option maxHeartbeats 1600000 in
theorem sumOf_calls (s : Bytes) (H : Heap) (hs : s.length ≤ Room) : ACalls Tryz.prog 77 [.str s] H fun x H' => x = .str (sumOf s) ∧ H' = H := by
  have hR : Room = 1099511627776 := rfl
  rw [hR] at hs
  clear hR
  refine ACalls.of_code (X := { pure := puN }) puN_ok Tryz.func77 (by kernel_rfl) rfl (by kernel_rfl) (Nat.le_of_ble_eq_true rfl) ?_
  simp -implicitDefEqProofs only [go_sem, reduceEqDiff, reduceAdd, reduceLeDiff, reduceLT, reduceMul, reduceEq, Int.reduceLT, reduceLE, Int.reduceAdd, reduceSub, reduceToNat, UInt8.reduceToNat, Tryz.f77]
  refine aloop_intro (σ := Nat) (fun i => [(0, .str s), (3, .int .u64 (fnv (s.take i))), (4, .int .i64 i)]) (fun i G => G = H ∧ i ≤ s.length) (fun i => s.length - i) 0 ?_ ?_ ?_
  · simp -implicitDefEqProofs only [go_sem, reduceEqDiff, reduceAdd, reduceLeDiff, reduceLT, reduceMul, reduceEq, Int.reduceLT, reduceLE, Int.reduceAdd, reduceSub, reduceToNat, UInt8.reduceToNat]
    simp [fnv]
  · simp
  · intro i r G hv hI
    have h0 := hv.1
    have h3 := hv.2.1
    have h4 := hv.2.2.1
    have hG := hI.1.symm
    have hi := hI.2
    clear hv hI
    subst hG
    simp -implicitDefEqProofs only [go_sem, reduceEqDiff, reduceAdd, reduceLeDiff, reduceLT, reduceMul, reduceEq, Int.reduceLT, reduceLE, Int.reduceAdd, reduceSub, reduceToNat, UInt8.reduceToNat, h0, h3, h4]
    refine cnd_intro (fun h => ?_) (fun h => ?_)
    · simp only [decide_eq_true_eq] at h
      obtain ⟨c, hc⟩ : ∃ c, s[i]? = some c := ⟨s[i]'(by omega), List.getElem?_eq_getElem _⟩
      simp -implicitDefEqProofs (disch := omega) only [go_sem, reduceEqDiff, reduceAdd, reduceLeDiff, reduceLT, reduceMul, reduceEq, Int.reduceLT, reduceLE, Int.reduceAdd, reduceSub, reduceToNat, UInt8.reduceToNat, Go.IntWalk.i64_in, h0, h3, h4, hc, u64_byte]
      refine Again.mk (i + 1) (by simp -implicitDefEqProofs only [go_sem, reduceEqDiff, reduceAdd, reduceLeDiff, reduceLT, reduceMul, reduceEq, Int.reduceLT, reduceLE, Int.reduceAdd, reduceSub, reduceToNat, UInt8.reduceToNat, h0, h3, h4]; rw [fnv_succ hc]; exact ⟨rfl, rfl⟩) ⟨rfl, by omega⟩ (by omega)
    · simp only [decide_eq_false_iff_not] at h
      have e : i = s.length := by omega
      subst e
      rw [List.take_length, fnvN_eq] at h3
      have hn := fnvN_lt s
      unfold sumOf
      generalize fnvN s = n at *
      simp -implicitDefEqProofs only [go_sem, reduceEqDiff, reduceAdd, reduceLeDiff, reduceLT, reduceMul, reduceEq, Int.reduceLT, reduceLE, Int.reduceAdd, reduceSub, reduceToNat, UInt8.reduceToNat, h0, h3, h4]
      with_reducible refine makeSlice_ms (e := tiU8) ?_ ?_ ?_ ?_ ?_ ?_
      · simp -implicitDefEqProofs only [go_sem, reduceEqDiff, reduceAdd, reduceLeDiff, reduceLT, reduceMul, reduceEq, Int.reduceLT, reduceLE, Int.reduceAdd, reduceSub, reduceToNat, UInt8.reduceToNat]
      · decide
      · omega
      · decide
      · decide
      intro id hid
      simp -implicitDefEqProofs only [go_sem, reduceEqDiff, reduceAdd, reduceLeDiff, reduceLT, reduceMul, reduceEq, Int.reduceLT, reduceLE, Int.reduceAdd, reduceSub, reduceToNat, UInt8.reduceToNat, h0, h3, h4]
      refine aloop_intro (σ := Nat) (fun i => [(0, .str s), (3, .int .u64 n), (5, .ms id 0 16 1), (22, .int .i64 16), (23, .int .i64 i)]) (fun i G => G = H.put id (.cells (fillL (.int .u8 0) (((hexPad 16 n).take i).map encB) 16)) ∧ i ≤ 16) (fun i => 16 - i) 0 ?_ ?_ ?_
      · simp -implicitDefEqProofs only [go_sem, reduceEqDiff, reduceAdd, reduceLeDiff, reduceLT, reduceMul, reduceEq, Int.reduceLT, reduceLE, Int.reduceAdd, reduceSub, reduceToNat, UInt8.reduceToNat, h0, h3]
      · refine ⟨?_, by omega⟩
        congr 1
      · intro i r G hv hI
        have h0 := hv.1
        have h3 := hv.2.1
        have h5 := hv.2.2.1
        have h22 := hv.2.2.2.1
        have h23 := hv.2.2.2.2.1
        have hG := hI.1.symm
        have hi := hI.2
        clear hv hI
        subst hG
        have hlen : (((hexPad 16 n).take i).map encB).length = i := by simp [hexPad_len]; omega
        simp -implicitDefEqProofs only [go_sem, reduceEqDiff, reduceAdd, reduceLeDiff, reduceLT, reduceMul, reduceEq, Int.reduceLT, reduceLE, Int.reduceAdd, reduceSub, reduceToNat, UInt8.reduceToNat, h0, h3, h5, h22, h23]
        refine cnd_intro (fun h => ?_) (fun h => ?_)
        · simp only [decide_eq_true_eq] at h
          have e2 := shrN n (60 - 4 * i) ((60 : Int) - 4 * i) (by omega) (by omega)
          have hlt : n / 2 ^ (60 - 4 * i) < 18446744073709551616 := Nat.lt_of_le_of_lt (Nat.div_le_self _ _) hn
          have e3 := and15 _ hlt
          have e4 := dig_get (n / 2 ^ (60 - 4 * i) % 16) (Nat.mod_lt _ (by omega))
          simp -implicitDefEqProofs (disch := omega) only [go_sem, reduceEqDiff, reduceAdd, reduceLeDiff, reduceLT, reduceMul, reduceEq, Int.reduceLT, reduceLE, Int.reduceAdd, reduceSub, reduceToNat, UInt8.reduceToNat, Go.IntWalk.i64_in, h0, h3, h5, h22, h23, e2, e3, e4]
          refine ⟨by omega, by omega, by rw [fillL_len (by omega)]; omega, ?_⟩
          have hg := hexPad_get2 n i (by omega)
          clear e2 e3 e4 hlt
          generalize dig (n / 2 ^ (60 - 4 * i) % 16) = d at hg
          have e5 : (fillL (AV.int .u8 0) (((hexPad 16 n).take i).map encB) 16).set (i * 1) (.int .u8 (d.toNat : Int)) = fillL (.int .u8 0) (((hexPad 16 n).take (i + 1)).map encB) 16 := by
            have := fillL_set (z := AV.int .u8 0) (done := ((hexPad 16 n).take i).map encB) (n := 16) (by omega) (encB d)
            rw [hlen] at this
            rw [Nat.mul_one]
            have e6 : ((hexPad 16 n).take i).map encB ++ [encB d] = ((hexPad 16 n).take (i + 1)).map encB := by
              rw [List.take_add_one, hg, List.map_append]
              rfl
            rw [e6] at this
            exact this
          rw [e5]
          exact Again.mk (i + 1) (by simp -implicitDefEqProofs only [go_sem, reduceEqDiff, reduceAdd, reduceLeDiff, reduceLT, reduceMul, reduceEq, Int.reduceLT, reduceLE, Int.reduceAdd, reduceSub, reduceToNat, UInt8.reduceToNat, h0, h3, h5, h22, h23]; exact rfl) ⟨rfl, by omega⟩ (by omega)
        · simp only [decide_eq_false_iff_not] at h
          have e : i = 16 := by omega
          subst e
          simp -implicitDefEqProofs only [go_sem, reduceEqDiff, reduceAdd, reduceLeDiff, reduceLT, reduceMul, reduceEq, Int.reduceLT, reduceLE, Int.reduceAdd, reduceSub, reduceToNat, UInt8.reduceToNat, h0, h3, h5, h22, h23]
          have ef : fillL (AV.int .u8 0) (((hexPad 16 n).take 16).map encB) 16 = (hexPad 16 n).map encB := by
            rw [List.take_of_length_le (by rw [hexPad_len]; omega)]
            have := fillL_full (z := AV.int .u8 0) (done := (hexPad 16 n).map encB)
            rwa [List.length_map, hexPad_len] at this
          rw [ef]
          with_reducible refine conv_ms (l := hexPad 16 n) ?_ ?_ (put_same _ _ _) ?_ ?_ ?_
          · simp -implicitDefEqProofs only [go_sem, reduceEqDiff, reduceAdd, reduceLeDiff, reduceLT, reduceMul, reduceEq, Int.reduceLT, reduceLE, Int.reduceAdd, reduceSub, reduceToNat, UInt8.reduceToNat]
          · simp -implicitDefEqProofs only [go_sem, reduceEqDiff, reduceAdd, reduceLeDiff, reduceLT, reduceMul, reduceEq, Int.reduceLT, reduceLE, Int.reduceAdd, reduceSub, reduceToNat, UInt8.reduceToNat]
          · simp [hexPad_len]
          · rw [List.drop_zero, List.take_of_length_le (by simp [hexPad_len])]; rfl
          simp -implicitDefEqProofs only [go_sem, reduceEqDiff, reduceAdd, reduceLeDiff, reduceLT, reduceMul, reduceEq, Int.reduceLT, reduceLE, Int.reduceAdd, reduceSub, reduceToNat, UInt8.reduceToNat]
          exact Done.drop (fun i o ho => by rw [put_ne]; exact ho; intro e; subst e; rw [hid] at ho; cases ho) ⟨rfl, rfl⟩
/-! ### The reference's: the digits without zeros, and zeros before them -/
def puS1 : Pures := puN
theorem puS1_dyn : isDyn puS1 = isDyn puN := rfl
attribute [go_sem] puS1_dyn
end Go.Proofs
