/-
  Walks and plain laws, part 2.
-/
import Derived.Test.YtncemkhlbhmobaaGreatDoorAbs4
import Derived.Test.YtncemkhlbhmobaaGreatDoorTy
import Derived.IntWalk
import Derived.Test.YtncemkhlbhmobaaGreatDoorM1
import Derived.Lib.MakeNoZero
import Derived.Lib.Builder
/- Walks of Go's functions on strings: Index, Count, Split (of one byte), Compare. -/
namespace Go.Proofs
open Go Go.Abs
open Nat (reduceEqDiff reduceAdd reduceLeDiff reduceLT reduceMul)
open Int (reduceEq reduceLE reduceSub reduceToNat)
set_option linter.unusedSimpArgs false
set_option linter.unusedVariables false
def sIdxB : List AV → Option AV := fn2 .str (.int .u8) fun s c => some (.int .i64 (Lib.indexByte s c.toNat.toUInt8))
def sCntB : List AV → Option AV := fn2 .str (.int .u8) fun s c => some (.int .i64 (Lib.countByte s c.toNat.toUInt8))
def sCmpS : List AV → Option AV := fn2 .str .str fun s t => some (.int .i64 (Lib.compareBytes s t))
def one1 : Bytes → Option UInt8
  | [b] => some b
  | _ => none
theorem one1_eq (b : UInt8) : one1 [b] = some b := rfl
theorem one1_some {s : Bytes} {b : UInt8} (h : one1 s = some b) : s = [b] := by
  unfold one1 at h
  split at h
  · cases h; rfl
  · cases h
def sCnt : List AV → Option AV := fn2 .str .str fun s p => (one1 p).bind fun c => some (.int .i64 (s.count c))
def sSplit : List AV → Option AV := fn2 .str .str fun s p => (one1 p).bind fun c => if s.length ≤ Room then some (.sl ((splitB c s).map encBs) .unk) else none
attribute [go_sem] one1_eq
def puK1 : Pures := putP 108 sCmpS (putP 137 sCntB (putP 139 sIdxB pu0))
theorem puK1_dyn : isDyn puK1 = false := by simp only [puK1, go_sem, Nat.reduceEqDiff]
attribute [go_sem] puK1_dyn
theorem sIdxB_ok {P : Program} {f : FuncId} (h : ∀ s c H, ACalls P f [.str s, .int .u8 c] H fun x H' => x = .int .i64 (Lib.indexByte s c.toNat.toUInt8) ∧ H' = H) : ∀ xs v, sIdxB xs = some v → ∀ H, ACalls P f xs H fun x H' => x = v ∧ H' = H := by
  intro xs v hv H
  obtain ⟨x, y, p, q, rfl, h1, h2, h3⟩ := fn2_some hv
  cases h3; cases Rd.str_some h1; cases Rd.int_some h2
  exact h _ _ H
theorem sCntB_ok {P : Program} {f : FuncId} (h : ∀ s c H, ACalls P f [.str s, .int .u8 c] H fun x H' => x = .int .i64 (Lib.countByte s c.toNat.toUInt8) ∧ H' = H) : ∀ xs v, sCntB xs = some v → ∀ H, ACalls P f xs H fun x H' => x = v ∧ H' = H := by
  intro xs v hv H
  obtain ⟨x, y, p, q, rfl, h1, h2, h3⟩ := fn2_some hv
  cases h3; cases Rd.str_some h1; cases Rd.int_some h2
  exact h _ _ H
theorem sCmpS_ok {P : Program} {f : FuncId} (h : ∀ s t H, ACalls P f [.str s, .str t] H fun x H' => x = .int .i64 (Lib.compareBytes s t) ∧ H' = H) : ∀ xs v, sCmpS xs = some v → ∀ H, ACalls P f xs H fun x H' => x = v ∧ H' = H := by
  intro xs v hv H
  obtain ⟨x, y, p, q, rfl, h1, h2, h3⟩ := fn2_some hv
  cases h3; cases Rd.str_some h1; cases Rd.str_some h2
  exact h _ _ H
theorem idxBX_calls (s : Bytes) (c : Int) (H : Heap) : ACalls Tryz.prog 139 [.str s, .int .u8 c] H fun x H' => x = .int .i64 (Lib.indexByte s c.toNat.toUInt8) ∧ H' = H :=
  indexByteString_calls Tryz.func139 (by kernel_rfl) rfl (by kernel_rfl) (by kernel_rfl) _ _ H
theorem cntBX_calls (s : Bytes) (c : Int) (H : Heap) : ACalls Tryz.prog 137 [.str s, .int .u8 c] H fun x H' => x = .int .i64 (Lib.countByte s c.toNat.toUInt8) ∧ H' = H :=
  countString_calls Tryz.func137 (by kernel_rfl) rfl (by kernel_rfl) (by kernel_rfl) _ _ H
theorem cmpX_calls (s t : Bytes) (H : Heap) : ACalls Tryz.prog 108 [.str s, .str t] H fun x H' => x = .int .i64 (Lib.compareBytes s t) ∧ H' = H :=
  cmpString_calls Tryz.func108 (by kernel_rfl) rfl (by kernel_rfl) (by kernel_rfl) _ _ H
theorem puK1_ok : PuOK Tryz.prog puK1 := .put (.put (.put (.zero) (sIdxB_ok idxBX_calls)) (sCntB_ok cntBX_calls)) (sCmpS_ok cmpX_calls)
theorem sIdxB_eq (s : Bytes) (c : Int) : sIdxB [.str s, .int .u8 c] = some (.int .i64 (Lib.indexByte s c.toNat.toUInt8)) := rfl
theorem sCntB_eq (s : Bytes) (c : Int) : sCntB [.str s, .int .u8 c] = some (.int .i64 (Lib.countByte s c.toNat.toUInt8)) := rfl
theorem sCmpS_eq (s t : Bytes) : sCmpS [.str s, .str t] = some (.int .i64 (Lib.compareBytes s t)) := rfl
theorem sCnt_eq (s : Bytes) (c : UInt8) : sCnt [.str s, .str [c]] = some (.int .i64 (s.count c)) := rfl
theorem sSplit_eq (s : Bytes) (c : UInt8) : sSplit [.str s, .str [c]] = if s.length ≤ Room then some (.sl ((splitB c s).map encBs) .unk) else none := rfl
theorem u8_nat (c : UInt8) : c.toNat.toUInt8 = c := by simp
theorem indexByte_calls (s : Bytes) (c : Int) (H : Heap) : ACalls Tryz.prog 125 [.str s, .int .u8 c] H fun x H' => x = .int .i64 (Lib.indexByte s c.toNat.toUInt8) ∧ H' = H := by
  refine ACalls.of_code (X := { pure := puK1 }) puK1_ok Tryz.func125 (by kernel_rfl) rfl (by kernel_rfl) (Nat.le_of_ble_eq_true rfl) ?_
  simp -implicitDefEqProofs only [go_sem, reduceEqDiff, reduceAdd, reduceLeDiff, reduceLT, reduceMul, reduceEq, Int.reduceLT, reduceLE, Int.reduceAdd, reduceSub, reduceToNat, UInt8.reduceToNat, Tryz.f125, puK1, sIdxB_eq]
  exact Done.now ⟨rfl, rfl⟩
theorem compareString_calls (s t : Bytes) (H : Heap) : ACalls Tryz.prog 79 [.str s, .str t] H fun x H' => x = .int .i64 (Lib.compareBytes s t) ∧ H' = H := by
  refine ACalls.of_code (X := { pure := puK1 }) puK1_ok Tryz.func79 (by kernel_rfl) rfl (by kernel_rfl) (Nat.le_of_ble_eq_true rfl) ?_
  simp -implicitDefEqProofs only [go_sem, reduceEqDiff, reduceAdd, reduceLeDiff, reduceLT, reduceMul, reduceEq, Int.reduceLT, reduceLE, Int.reduceAdd, reduceSub, reduceToNat, UInt8.reduceToNat, Tryz.f79, puK1, sCmpS_eq]
  exact Done.now ⟨rfl, rfl⟩
def puK2 : Pures := putP 79 sCmpS (putP 125 sIdxB puK1)
theorem puK2_dyn : isDyn puK2 = false := by simp only [puK2, go_sem, Nat.reduceEqDiff]
attribute [go_sem] puK2_dyn
theorem puK2_ok : PuOK Tryz.prog puK2 := .put (.put (puK1_ok) (sIdxB_ok indexByte_calls)) (sCmpS_ok compareString_calls)
theorem strCompare_calls (s t : Bytes) (H : Heap) : ACalls Tryz.prog 37 [.str s, .str t] H fun x H' => x = .int .i64 (Lib.compareBytes s t) ∧ H' = H := by
  refine ACalls.of_code (X := { pure := puK2 }) puK2_ok Tryz.func37 (by kernel_rfl) rfl (by kernel_rfl) (Nat.le_of_ble_eq_true rfl) ?_
  simp -implicitDefEqProofs only [go_sem, reduceEqDiff, reduceAdd, reduceLeDiff, reduceLT, reduceMul, reduceEq, Int.reduceLT, reduceLE, Int.reduceAdd, reduceSub, reduceToNat, UInt8.reduceToNat, Tryz.f37, puK2, sCmpS_eq]
  exact Done.now ⟨rfl, rfl⟩
theorem indexL_calls (s : Bytes) (c : UInt8) (H : Heap) : ACalls Tryz.prog 99 [.str s, .str [c]] H fun x H' => x = .int .i64 (Lib.indexByte s c) ∧ H' = H := by
  refine ACalls.of_code (X := { pure := puK2 }) puK2_ok Tryz.func99 (by kernel_rfl) rfl (by kernel_rfl) (Nat.le_of_ble_eq_true rfl) ?_
  simp -implicitDefEqProofs only [go_sem, reduceEqDiff, reduceAdd, reduceLeDiff, reduceLT, reduceMul, reduceEq, Int.reduceLT, reduceLE, Int.reduceAdd, reduceSub, reduceToNat, UInt8.reduceToNat, Tryz.f99, puK2, sIdxB_eq, puK1]
  repeat' (first | (with_reducible refine gd_intro (fun h => ?_) (fun h => ?_) <;> first | (exact absurd h (by decide)) | (simp at h; done) | simp -implicitDefEqProofs (disch := omega) only [go_sem, reduceEqDiff, reduceAdd, reduceLeDiff, reduceLT, reduceMul, reduceEq, Int.reduceLT, reduceLE, Int.reduceAdd, reduceSub, reduceToNat, UInt8.reduceToNat, Go.IntWalk.i64_in, puK2, sIdxB_eq, puK1, *]) | (with_reducible refine cnd_intro (fun h => ?_) (fun h => ?_) <;> first | (exact absurd h (by decide)) | (simp at h; done) | simp -implicitDefEqProofs (disch := omega) only [go_sem, reduceEqDiff, reduceAdd, reduceLeDiff, reduceLT, reduceMul, reduceEq, Int.reduceLT, reduceLE, Int.reduceAdd, reduceSub, reduceToNat, UInt8.reduceToNat, Go.IntWalk.i64_in, puK2, sIdxB_eq, puK1, *]))
  · simp only [decide_eq_true_eq] at h
    subst h
    exact Done.now ⟨by simp [Lib.indexByte], rfl⟩
  · exact Done.now ⟨by rw [u8_nat], rfl⟩
def sIdxL : List AV → Option AV := fn2 .str .str fun s p => (one1 p).bind fun c => some (.int .i64 (Lib.indexByte s c))
theorem sIdxL_eq (s : Bytes) (c : UInt8) : sIdxL [.str s, .str [c]] = some (.int .i64 (Lib.indexByte s c)) := rfl
theorem one_of {α : Type} {p : Bytes} {F : UInt8 → Option α} {v : α} (h : (one1 p).bind F = some v) : ∃ c, p = [c] ∧ F c = some v := by
  rw [Option.bind_eq_some_iff] at h
  obtain ⟨c, h1, h2⟩ := h
  exact ⟨c, one1_some h1, h2⟩
def puK3 : Pures := putP 99 sIdxL puK2
theorem puK3_dyn : isDyn puK3 = false := by simp only [puK3, go_sem, Nat.reduceEqDiff]
attribute [go_sem] puK3_dyn
theorem sIdxL_ok {P : Program} {f : FuncId} (h : ∀ s c H, ACalls P f [.str s, .str [c]] H fun x H' => x = .int .i64 (Lib.indexByte s c) ∧ H' = H) : ∀ xs v, sIdxL xs = some v → ∀ H, ACalls P f xs H fun x H' => x = v ∧ H' = H := by
  intro xs v hv H
  obtain ⟨x, y, p, q, rfl, h1, h2, h3⟩ := fn2_some hv
  obtain ⟨c, rfl, h3⟩ := one_of h3
  cases h3; cases Rd.str_some h1; cases Rd.str_some h2
  exact h _ _ H
theorem puK3_ok : PuOK Tryz.prog puK3 := .put (puK2_ok) (sIdxL_ok indexL_calls)
theorem index_calls (s : Bytes) (c : UInt8) (H : Heap) : ACalls Tryz.prog 58 [.str s, .str [c]] H fun x H' => x = .int .i64 (Lib.indexByte s c) ∧ H' = H := by
  refine ACalls.of_code (X := { pure := puK3 }) puK3_ok Tryz.func58 (by kernel_rfl) rfl (by kernel_rfl) (Nat.le_of_ble_eq_true rfl) ?_
  simp -implicitDefEqProofs only [go_sem, reduceEqDiff, reduceAdd, reduceLeDiff, reduceLT, reduceMul, reduceEq, Int.reduceLT, reduceLE, Int.reduceAdd, reduceSub, reduceToNat, UInt8.reduceToNat, Tryz.f58, puK3, sIdxL_eq]
  exact Done.now ⟨rfl, rfl⟩
theorem count_calls (s : Bytes) (c : UInt8) (H : Heap) : ACalls Tryz.prog 121 [.str s, .str [c]] H fun x H' => x = .int .i64 (s.count c) ∧ H' = H := by
  refine ACalls.of_code (X := { pure := puK3 }) puK3_ok Tryz.func121 (by kernel_rfl) rfl (by kernel_rfl) (Nat.le_of_ble_eq_true rfl) ?_
  simp -implicitDefEqProofs only [go_sem, reduceEqDiff, reduceAdd, reduceLeDiff, reduceLT, reduceMul, reduceEq, Int.reduceLT, reduceLE, Int.reduceAdd, reduceSub, reduceToNat, UInt8.reduceToNat, Tryz.f121, puK3, puK2, puK1, sCntB_eq]
  repeat' (first | (with_reducible refine gd_intro (fun h => ?_) (fun h => ?_) <;> first | (exact absurd h (by decide)) | (simp at h; done) | simp -implicitDefEqProofs (disch := omega) only [go_sem, reduceEqDiff, reduceAdd, reduceLeDiff, reduceLT, reduceMul, reduceEq, Int.reduceLT, reduceLE, Int.reduceAdd, reduceSub, reduceToNat, UInt8.reduceToNat, Go.IntWalk.i64_in, puK3, puK2, puK1, sCntB_eq, *]) | (with_reducible refine cnd_intro (fun h => ?_) (fun h => ?_) <;> first | (exact absurd h (by decide)) | (simp at h; done) | simp -implicitDefEqProofs (disch := omega) only [go_sem, reduceEqDiff, reduceAdd, reduceLeDiff, reduceLT, reduceMul, reduceEq, Int.reduceLT, reduceLE, Int.reduceAdd, reduceSub, reduceToNat, UInt8.reduceToNat, Go.IntWalk.i64_in, puK3, puK2, puK1, sCntB_eq, *]))
  exact Done.now ⟨by rw [u8_nat]; rfl, rfl⟩
def puK4 : Pures := putP 121 sCnt (putP 58 sIdxL puK3)
theorem puK4_dyn : isDyn puK4 = false := by simp only [puK4, go_sem, Nat.reduceEqDiff]
attribute [go_sem] puK4_dyn
theorem sCnt_ok {P : Program} {f : FuncId} (h : ∀ s c H, ACalls P f [.str s, .str [c]] H fun x H' => x = .int .i64 (s.count c) ∧ H' = H) : ∀ xs v, sCnt xs = some v → ∀ H, ACalls P f xs H fun x H' => x = v ∧ H' = H := by
  intro xs v hv H
  obtain ⟨x, y, p, q, rfl, h1, h2, h3⟩ := fn2_some hv
  obtain ⟨c, rfl, h3⟩ := one_of h3
  cases h3; cases Rd.str_some h1; cases Rd.str_some h2
  exact h _ _ H
theorem puK4_ok : PuOK Tryz.prog puK4 := .put (.put (puK3_ok) (sIdxL_ok index_calls)) (sCnt_ok count_calls)
/-- What the cells of the slice hold while it is filled. -/
def fillC (done : List Bytes) (n : Nat) : List AV := done.map AV.str ++ List.replicate (n - done.length) (.str [])
theorem fillC_len {done : List Bytes} {n : Nat} (h : done.length ≤ n) : (fillC done n).length = n := by
  simp [fillC]; omega
theorem fillC_set {done : List Bytes} {n : Nat} (h : done.length < n) (p : Bytes) : (fillC done n).set done.length (.str p) = fillC (done ++ [p]) n := by
  unfold fillC
  rw [List.set_append, if_neg (by simp)]
  obtain ⟨k, hk⟩ : ∃ k, n - done.length = k + 1 := ⟨n - done.length - 1, by omega⟩
  have : n - (done ++ [p]).length = k := by simp; omega
  rw [hk, this, List.replicate_succ]
  simp
theorem split_calls (s : Bytes) (c : UInt8) (H : Heap) (hs : s.length ≤ Room) :
    ACalls Tryz.prog 86 [.str s, .str [c], .int .i64 0, .int .i64 (-1)] H fun x H' => x = .sl ((splitB c s).map encBs) .unk ∧ H' = H := by
  have hcnt : s.count c ≤ s.length := List.count_le_length
  have hR : Room = 1099511627776 := rfl
  rw [hR] at hs
  clear hR
  refine ACalls.of_code (X := { pure := puK4 }) puK4_ok Tryz.func86 (by kernel_rfl) rfl (by kernel_rfl) (Nat.le_of_ble_eq_true rfl) ?_
  simp -implicitDefEqProofs only [go_sem, reduceEqDiff, reduceAdd, reduceLeDiff, reduceLT, reduceMul, reduceEq, Int.reduceLT, reduceLE, Int.reduceAdd, reduceSub, reduceToNat, UInt8.reduceToNat, Tryz.f86, puK4, sCnt_eq, sIdxL_eq]
  repeat' (first | (with_reducible refine gd_intro (fun h => ?_) (fun h => ?_) <;> first | (exact absurd h (by decide)) | (simp at h; done) | simp -implicitDefEqProofs (disch := omega) only [go_sem, reduceEqDiff, reduceAdd, reduceLeDiff, reduceLT, reduceMul, reduceEq, Int.reduceLT, reduceLE, Int.reduceAdd, reduceSub, reduceToNat, UInt8.reduceToNat, Go.IntWalk.i64_in, puK4, sCnt_eq, sIdxL_eq, *]) | (with_reducible refine cnd_intro (fun h => ?_) (fun h => ?_) <;> first | (exact absurd h (by decide)) | (simp at h; done) | simp -implicitDefEqProofs (disch := omega) only [go_sem, reduceEqDiff, reduceAdd, reduceLeDiff, reduceLT, reduceMul, reduceEq, Int.reduceLT, reduceLE, Int.reduceAdd, reduceSub, reduceToNat, UInt8.reduceToNat, Go.IntWalk.i64_in, puK4, sCnt_eq, sIdxL_eq, *]))
  have hm : min ((s.count c : Int) + 1) ((s.length : Int) + 1) = ((s.count c + 1 : Nat) : Int) := by omega
  rw [hm]
  with_reducible refine makeSlice_ms (e := tiStr) ?_ ?_ ?_ ?_ ?_ ?_
  · simp -implicitDefEqProofs only [go_sem, reduceEqDiff, reduceAdd, reduceLeDiff, reduceLT, reduceMul, reduceEq, Int.reduceLT, reduceLE, Int.reduceAdd, reduceSub, reduceToNat, UInt8.reduceToNat]
  · decide
  · omega
  · simp only []; omega
  · omega
  intro id hid
  have hw : (((s.count c + 1 : Nat) : Int) - 1) = (s.count c : Int) := by omega
  simp -implicitDefEqProofs (disch := omega) only [go_sem, reduceEqDiff, reduceAdd, reduceLeDiff, reduceLT, reduceMul, reduceEq, Int.reduceLT, reduceLE, Int.reduceAdd, reduceSub, reduceToNat, UInt8.reduceToNat, Go.IntWalk.i64_in, puK4, sCnt_eq, sIdxL_eq, *]
  have hflat : ([AV.str []] :: List.replicate (s.count c) [AV.str []]).flatten = fillC [] (s.count c + 1) := by
    simp [fillC, List.flatten_replicate_singleton, List.replicate_succ]
  rw [hflat]
  refine aloop_intro (σ := List Bytes × Bytes) (fun p => [(0, .str p.2), (1, .str [c]), (2, .int .i64 0), (3, .int .i64 (s.count c)), (9, .ms id 0 (s.count c + 1) 1), (10, .int .i64 p.1.length)])
    (fun p G => G = H.put id (.cells (fillC p.1 (s.count c + 1))) ∧ splitB c s = p.1 ++ splitB c p.2 ∧ p.2.count c + p.1.length = s.count c ∧ p.2.length ≤ s.length) (fun p => p.2.length) ([], s) ?_ ?_ ?_
  · simp -implicitDefEqProofs (disch := omega) only [go_sem, reduceEqDiff, reduceAdd, reduceLeDiff, reduceLT, reduceMul, reduceEq, Int.reduceLT, reduceLE, Int.reduceAdd, reduceSub, reduceToNat, UInt8.reduceToNat, Go.IntWalk.i64_in, *]
  · simp
  · rintro ⟨done, rest⟩ r G ⟨h0, h1, h2, h3, h9, h10, -⟩ ⟨rfl, hspl, hct, hl⟩
    simp only at h0 h1 h2 h3 h9 h10 hspl hct hl
    have hcr : rest.count c ≤ rest.length := List.count_le_length
    simp -implicitDefEqProofs only [go_sem, reduceEqDiff, reduceAdd, reduceLeDiff, reduceLT, reduceMul, reduceEq, Int.reduceLT, reduceLE, Int.reduceAdd, reduceSub, reduceToNat, UInt8.reduceToNat, h0, h1, h2, h3, h9, h10, puK4, sIdxL_eq]
    refine cnd_intro (fun hlt => ?_) (fun hlt => ?_)
    · simp only [decide_eq_true_eq] at hlt
      obtain ⟨m, hm2⟩ : ∃ m : Nat, Lib.indexByte rest c = (m : Int) := by
        have h1 := Lib.indexByte_ge rest c
        have h2 : ¬ Lib.indexByte rest c = -1 := fun e => by have := indexByte_none.1 e; omega
        exact ⟨(Lib.indexByte rest c).toNat, by omega⟩
      obtain ⟨i1, i2, i3⟩ := indexByte_some hm2
      have hb : decide ((m : Int) < 0) = false := by simp
      simp -implicitDefEqProofs (disch := omega) only [go_sem, reduceEqDiff, reduceAdd, reduceLeDiff, reduceLT, reduceMul, reduceEq, Int.reduceLT, reduceLE, Int.reduceAdd, reduceSub, reduceToNat, UInt8.reduceToNat, Go.IntWalk.i64_in, h0, h1, h2, h3, h9, h10, puK4, sIdxL_eq, hm2, hb]
      refine ⟨by omega, by omega, by rw [fillC_len (by omega)]; omega, by omega, ?_⟩
      have e1 : ((m : Int) + 1).toNat = m + 1 := by omega
      have e2 : ((m : Int) + 0).toNat = m := by omega
      rw [e1, e2, List.take_length, Nat.mul_one, fillC_set (by omega)]
      refine Again.mk (done ++ [rest.take m], rest.drop (m + 1)) (by simp -implicitDefEqProofs only [go_sem, reduceEqDiff, reduceAdd, reduceLeDiff, reduceLT, reduceMul, reduceEq, Int.reduceLT, reduceLE, Int.reduceAdd, reduceSub, reduceToNat, UInt8.reduceToNat, h0, h1, h2, h3, h9, h10]; simp) ⟨rfl, by rw [hspl, i2]; simp, by simp; omega, by simp; omega⟩ (by simp; omega)
    · simp only [decide_eq_false_iff_not] at hlt
      simp -implicitDefEqProofs (disch := omega) only [go_sem, reduceEqDiff, reduceAdd, reduceLeDiff, reduceLT, reduceMul, reduceEq, Int.reduceLT, reduceLE, Int.reduceAdd, reduceSub, reduceToNat, UInt8.reduceToNat, Go.IntWalk.i64_in, h0, h1, h2, h3, h9, h10, puK4, sIdxL_eq]
      have hz : rest.count c = 0 := by omega
      have hd : done.length = s.count c := by omega
      refine ⟨by omega, by rw [fillC_len (by omega)]; omega, by omega, ?_⟩
      rw [Nat.mul_one, fillC_set (by omega)]
      have e1 : ((done.length : Int) + 1 - 0).toNat = s.count c + 1 := by omega
      rw [e1]
      have e2 : fillC (done ++ [rest]) (s.count c + 1) = (splitB c s).map AV.str := by
        rw [hspl, splitB_none hz]
        simp [fillC, hd]
      rw [e2]
      have e3 : ((splitB c s).map AV.str).length = s.count c + 1 := by rw [List.length_map, splitB_len]
      refine Done.via (Ghost.freeze1 (put_same _ _ _) (by rw [e3]; omega)) (Done.now ⟨?_, del_put _ hid⟩)
      rw [List.drop_zero, List.take_of_length_le (by rw [e3]; omega), List.map_map]
      rfl
def sGen : List AV → Option AV
  | [.str s, .str [c], .int .i64 n, .int .i64 k] => if n = 0 ∧ k = -1 ∧ s.length ≤ Room then some (.sl ((splitB c s).map encBs) .unk) else none
  | _ => none
theorem sGen_eq (s : Bytes) (c : UInt8) : sGen [.str s, .str [c], .int .i64 0, .int .i64 (-1)] = if s.length ≤ Room then some (.sl ((splitB c s).map encBs) .unk) else none := by simp [sGen]
def puK5 : Pures := putP 86 sGen (putP 37 sCmpS puK4)
theorem puK5_dyn : isDyn puK5 = false := by simp only [puK5, go_sem, Nat.reduceEqDiff]
attribute [go_sem] puK5_dyn
theorem sGen_ok : ∀ xs v, sGen xs = some v → ∀ H, ACalls Tryz.prog 86 xs H fun x H' => x = v ∧ H' = H := by
  intro xs v h H
  unfold sGen at h
  split at h
  · split at h
    · rename_i hc
      obtain ⟨rfl, rfl, hr⟩ := hc
      cases h
      exact split_calls _ _ H hr
    · cases h
  · cases h
theorem puK5_ok : PuOK Tryz.prog puK5 := .put (.put (puK4_ok) (sCmpS_ok strCompare_calls)) sGen_ok
theorem splitT_calls (s : Bytes) (c : UInt8) (H : Heap) (hs : s.length ≤ Room) :
    ACalls Tryz.prog 47 [.str s, .str [c]] H fun x H' => x = .sl ((splitB c s).map encBs) .unk ∧ H' = H := by
  refine ACalls.of_code (X := { pure := puK5 }) puK5_ok Tryz.func47 (by kernel_rfl) rfl (by kernel_rfl) (Nat.le_of_ble_eq_true rfl) ?_
  simp -implicitDefEqProofs only [go_sem, reduceEqDiff, reduceAdd, reduceLeDiff, reduceLT, reduceMul, reduceEq, Int.reduceLT, reduceLE, Int.reduceAdd, reduceSub, reduceToNat, UInt8.reduceToNat, Tryz.f47, puK5, sGen_eq, hs]
  exact Done.now ⟨rfl, rfl⟩
theorem sSplit_ok {P : Program} {f : FuncId} (h : ∀ s c H, s.length ≤ Room → ACalls P f [.str s, .str [c]] H fun x H' => x = .sl ((splitB c s).map encBs) .unk ∧ H' = H) : ∀ xs v, sSplit xs = some v → ∀ H, ACalls P f xs H fun x H' => x = v ∧ H' = H := by
  intro xs v hv H
  obtain ⟨x, y, p, q, rfl, h1, h2, h3⟩ := fn2_some hv
  obtain ⟨c, rfl, h3⟩ := one_of h3
  split at h3
  · rename_i hr
    cases h3
    cases Rd.str_some h1
    cases Rd.str_some h2
    exact h _ _ H hr
  · cases h3
def puK : Pures := putP 47 sSplit puK5
theorem puK_dyn : isDyn puK = false := by simp only [puK, go_sem, Nat.reduceEqDiff]
attribute [go_sem] puK_dyn
theorem puK_ok : PuOK Tryz.prog puK := .put (puK5_ok) (sSplit_ok splitT_calls)
end Go.Proofs

/- Walks: names, paths, values, of the program and of the reference. -/
namespace Go.Proofs
open Go Go.Abs
open Nat (reduceEqDiff reduceAdd reduceLeDiff reduceLT reduceMul)
open Int (reduceEq reduceLE reduceSub reduceToNat)
set_option linter.unusedSimpArgs false
set_option linter.unusedVariables false
theorem isSmall_calls (c : Int) (H : Heap) : ACalls Tryz.prog 70 [.int .u8 c] H fun x H' => x = .bool (isSm c) ∧ H' = H := by
  refine ACalls.of_code (X := { pure := puK }) puK_ok Tryz.func70 (by kernel_rfl) rfl (by kernel_rfl) (Nat.le_of_ble_eq_true rfl) ?_
  simp -implicitDefEqProofs only [go_sem, reduceEqDiff, reduceAdd, reduceLeDiff, reduceLT, reduceMul, reduceEq, Int.reduceLT, reduceLE, Int.reduceAdd, reduceSub, reduceToNat, UInt8.reduceToNat, Tryz.f70]
  repeat' (first | (with_reducible refine gd_intro (fun h => ?_) (fun h => ?_) <;> first | (exact absurd h (by decide)) | (simp at h; done) | simp -implicitDefEqProofs (disch := omega) only [go_sem, reduceEqDiff, reduceAdd, reduceLeDiff, reduceLT, reduceMul, reduceEq, Int.reduceLT, reduceLE, Int.reduceAdd, reduceSub, reduceToNat, UInt8.reduceToNat, Go.IntWalk.i64_in, *]) | (with_reducible refine cnd_intro (fun h => ?_) (fun h => ?_) <;> first | (exact absurd h (by decide)) | (simp at h; done) | simp -implicitDefEqProofs (disch := omega) only [go_sem, reduceEqDiff, reduceAdd, reduceLeDiff, reduceLT, reduceMul, reduceEq, Int.reduceLT, reduceLE, Int.reduceAdd, reduceSub, reduceToNat, UInt8.reduceToNat, Go.IntWalk.i64_in, *]))
  all_goals (refine Done.now ⟨?_, rfl⟩; simp only [decide_eq_true_eq, decide_eq_false_iff_not] at h; simp [isSm, h])
theorem isDigit_calls (c : Int) (H : Heap) : ACalls Tryz.prog 71 [.int .u8 c] H fun x H' => x = .bool (isDg c) ∧ H' = H := by
  refine ACalls.of_code (X := { pure := puK }) puK_ok Tryz.func71 (by kernel_rfl) rfl (by kernel_rfl) (Nat.le_of_ble_eq_true rfl) ?_
  simp -implicitDefEqProofs only [go_sem, reduceEqDiff, reduceAdd, reduceLeDiff, reduceLT, reduceMul, reduceEq, Int.reduceLT, reduceLE, Int.reduceAdd, reduceSub, reduceToNat, UInt8.reduceToNat, Tryz.f71]
  repeat' (first | (with_reducible refine gd_intro (fun h => ?_) (fun h => ?_) <;> first | (exact absurd h (by decide)) | (simp at h; done) | simp -implicitDefEqProofs (disch := omega) only [go_sem, reduceEqDiff, reduceAdd, reduceLeDiff, reduceLT, reduceMul, reduceEq, Int.reduceLT, reduceLE, Int.reduceAdd, reduceSub, reduceToNat, UInt8.reduceToNat, Go.IntWalk.i64_in, *]) | (with_reducible refine cnd_intro (fun h => ?_) (fun h => ?_) <;> first | (exact absurd h (by decide)) | (simp at h; done) | simp -implicitDefEqProofs (disch := omega) only [go_sem, reduceEqDiff, reduceAdd, reduceLeDiff, reduceLT, reduceMul, reduceEq, Int.reduceLT, reduceLE, Int.reduceAdd, reduceSub, reduceToNat, UInt8.reduceToNat, Go.IntWalk.i64_in, *]))
  all_goals (refine Done.now ⟨?_, rfl⟩; simp only [decide_eq_true_eq, decide_eq_false_iff_not] at h; simp [isDg, h])
def puV1 : Pures := putP 70 (sByte isSm) (putP 71 (sByte isDg) puK)
theorem puV1_dyn : isDyn puV1 = false := by simp only [puV1, go_sem, Nat.reduceEqDiff]
attribute [go_sem] puV1_dyn
theorem puV1_ok : PuOK Tryz.prog puV1 := .put (.put (puK_ok) (sByte_ok isDigit_calls)) (sByte_ok isSmall_calls)
theorem isName1_calls (c : Int) (H : Heap) : ACalls Tryz.prog 69 [.int .u8 c] H fun x H' => x = .bool (isNm c) ∧ H' = H := by
  refine ACalls.of_code (X := { pure := puV1 }) puV1_ok Tryz.func69 (by kernel_rfl) rfl (by kernel_rfl) (Nat.le_of_ble_eq_true rfl) ?_
  simp -implicitDefEqProofs only [go_sem, reduceEqDiff, reduceAdd, reduceLeDiff, reduceLT, reduceMul, reduceEq, Int.reduceLT, reduceLE, Int.reduceAdd, reduceSub, reduceToNat, UInt8.reduceToNat, Tryz.f69, puV1, sByte_eq]
  repeat' (first | (with_reducible refine gd_intro (fun h => ?_) (fun h => ?_) <;> first | (exact absurd h (by decide)) | (simp at h; done) | simp -implicitDefEqProofs (disch := omega) only [go_sem, reduceEqDiff, reduceAdd, reduceLeDiff, reduceLT, reduceMul, reduceEq, Int.reduceLT, reduceLE, Int.reduceAdd, reduceSub, reduceToNat, UInt8.reduceToNat, Go.IntWalk.i64_in, puV1, sByte_eq, *]) | (with_reducible refine cnd_intro (fun h => ?_) (fun h => ?_) <;> first | (exact absurd h (by decide)) | (simp at h; done) | simp -implicitDefEqProofs (disch := omega) only [go_sem, reduceEqDiff, reduceAdd, reduceLeDiff, reduceLT, reduceMul, reduceEq, Int.reduceLT, reduceLE, Int.reduceAdd, reduceSub, reduceToNat, UInt8.reduceToNat, Go.IntWalk.i64_in, puV1, sByte_eq, *]))
  all_goals (refine Done.now ⟨?_, rfl⟩; simp_all [isNm])
theorem isPart1_calls (c : Int) (H : Heap) : ACalls Tryz.prog 119 [.int .u8 c] H fun x H' => x = .bool (isPt c) ∧ H' = H := by
  refine ACalls.of_code (X := { pure := puV1 }) puV1_ok Tryz.func119 (by kernel_rfl) rfl (by kernel_rfl) (Nat.le_of_ble_eq_true rfl) ?_
  simp -implicitDefEqProofs only [go_sem, reduceEqDiff, reduceAdd, reduceLeDiff, reduceLT, reduceMul, reduceEq, Int.reduceLT, reduceLE, Int.reduceAdd, reduceSub, reduceToNat, UInt8.reduceToNat, Tryz.f119, puV1, sByte_eq]
  repeat' (first | (with_reducible refine gd_intro (fun h => ?_) (fun h => ?_) <;> first | (exact absurd h (by decide)) | (simp at h; done) | simp -implicitDefEqProofs (disch := omega) only [go_sem, reduceEqDiff, reduceAdd, reduceLeDiff, reduceLT, reduceMul, reduceEq, Int.reduceLT, reduceLE, Int.reduceAdd, reduceSub, reduceToNat, UInt8.reduceToNat, Go.IntWalk.i64_in, puV1, sByte_eq, *]) | (with_reducible refine cnd_intro (fun h => ?_) (fun h => ?_) <;> first | (exact absurd h (by decide)) | (simp at h; done) | simp -implicitDefEqProofs (disch := omega) only [go_sem, reduceEqDiff, reduceAdd, reduceLeDiff, reduceLT, reduceMul, reduceEq, Int.reduceLT, reduceLE, Int.reduceAdd, reduceSub, reduceToNat, UInt8.reduceToNat, Go.IntWalk.i64_in, puV1, sByte_eq, *]))
  all_goals (refine Done.now ⟨?_, rfl⟩; simp_all [isPt] <;> omega)
theorem isValue1_calls (c : Int) (H : Heap) : ACalls Tryz.prog 138 [.int .u8 c] H fun x H' => x = .bool (isVl c) ∧ H' = H := by
  refine ACalls.of_code (X := { pure := puV1 }) puV1_ok Tryz.func138 (by kernel_rfl) rfl (by kernel_rfl) (Nat.le_of_ble_eq_true rfl) ?_
  simp -implicitDefEqProofs only [go_sem, reduceEqDiff, reduceAdd, reduceLeDiff, reduceLT, reduceMul, reduceEq, Int.reduceLT, reduceLE, Int.reduceAdd, reduceSub, reduceToNat, UInt8.reduceToNat, Tryz.f138, puV1, sByte_eq]
  repeat' (first | (with_reducible refine gd_intro (fun h => ?_) (fun h => ?_) <;> first | (exact absurd h (by decide)) | (simp at h; done) | simp -implicitDefEqProofs (disch := omega) only [go_sem, reduceEqDiff, reduceAdd, reduceLeDiff, reduceLT, reduceMul, reduceEq, Int.reduceLT, reduceLE, Int.reduceAdd, reduceSub, reduceToNat, UInt8.reduceToNat, Go.IntWalk.i64_in, puV1, sByte_eq, *]) | (with_reducible refine cnd_intro (fun h => ?_) (fun h => ?_) <;> first | (exact absurd h (by decide)) | (simp at h; done) | simp -implicitDefEqProofs (disch := omega) only [go_sem, reduceEqDiff, reduceAdd, reduceLeDiff, reduceLT, reduceMul, reduceEq, Int.reduceLT, reduceLE, Int.reduceAdd, reduceSub, reduceToNat, UInt8.reduceToNat, Go.IntWalk.i64_in, puV1, sByte_eq, *]))
  all_goals (refine Done.now ⟨?_, rfl⟩; simp_all [isVl] <;> omega)
theorem each_calls (s : Bytes) (most : Int) (f : FuncId) (p : Int → Bool) (H : Heap) (hs : s.length ≤ Room) (hf : ∀ c H, ACalls Tryz.prog f [.int .u8 c] H fun x H' => x = .bool (p c) ∧ H' = H) :
    ACalls Tryz.prog 68 [.str s, .int .i64 most, .func f []] H fun x H' => x = .bool (sEach p s most) ∧ H' = H := by
  have hR : Room = 1099511627776 := rfl
  rw [hR] at hs
  refine ACalls.of_code (X := {}) (fun _ _ h => nomatch h) Tryz.func68 (by kernel_rfl) rfl (by kernel_rfl) (Nat.le_of_ble_eq_true rfl) ?_
  simp -implicitDefEqProofs only [go_sem, reduceEqDiff, reduceAdd, reduceLeDiff, reduceLT, reduceMul, reduceEq, Int.reduceLT, reduceLE, Int.reduceAdd, reduceSub, reduceToNat, UInt8.reduceToNat, Tryz.f68]
  refine aloop_intro (σ := Nat) (fun i => [(0, .str s), (1, .int .i64 most), (2, .func f []), (7, .int .i64 i)]) (fun i G => G = H ∧ i ≤ s.length ∧ allB p (s.take i) = true) (fun i => s.length - i) 0 ?_ ?_ ?_
  · simp -implicitDefEqProofs only [go_sem, reduceEqDiff, reduceAdd, reduceLeDiff, reduceLT, reduceMul, reduceEq, Int.reduceLT, reduceLE, Int.reduceAdd, reduceSub, reduceToNat, UInt8.reduceToNat]
  · simp [allB]
  · intro i r G hv hI
    have h0 := hv.1
    have h1 := hv.2.1
    have h2 := hv.2.2.1
    have h7 := hv.2.2.2.1
    have hG := hI.1
    have hp := hI.2.2
    have hi := hI.2.1
    subst hG
    simp -implicitDefEqProofs only [go_sem, reduceEqDiff, reduceAdd, reduceLeDiff, reduceLT, reduceMul, reduceEq, Int.reduceLT, reduceLE, Int.reduceAdd, reduceSub, reduceToNat, UInt8.reduceToNat, h0, h1, h2, h7]
    refine cnd_intro (fun h => ?_) (fun h => ?_)
    · simp only [decide_eq_true_eq] at h
      obtain ⟨c, hc⟩ : ∃ c, s[i]? = some c := ⟨s[i]'(by omega), List.getElem?_eq_getElem _⟩
      simp -implicitDefEqProofs only [go_sem, reduceEqDiff, reduceAdd, reduceLeDiff, reduceLT, reduceMul, reduceEq, Int.reduceLT, reduceLE, Int.reduceAdd, reduceSub, reduceToNat, UInt8.reduceToNat, h0, h1, h2, h7, hc]
      refine ACalls.pure_next _ (hf c.toNat _) ?_
      simp -implicitDefEqProofs only [go_sem, reduceEqDiff, reduceAdd, reduceLeDiff, reduceLT, reduceMul, reduceEq, Int.reduceLT, reduceLE, Int.reduceAdd, reduceSub, reduceToNat, UInt8.reduceToNat, h0, h1, h2, h7, hc]
      refine cnd_intro (fun hpc => ?_) (fun hpc => ?_) <;> simp only [Bool.not_eq_true', Bool.not_eq_false'] at hpc
      · simp -implicitDefEqProofs only [go_sem, reduceEqDiff, reduceAdd, reduceLeDiff, reduceLT, reduceMul, reduceEq, Int.reduceLT, reduceLE, Int.reduceAdd, reduceSub, reduceToNat, UInt8.reduceToNat, h0, h1, h2, h7, hc]
        exact Done.now ⟨by rw [sEach_false hc hpc], rfl⟩
      · simp -implicitDefEqProofs (disch := omega) only [go_sem, reduceEqDiff, reduceAdd, reduceLeDiff, reduceLT, reduceMul, reduceEq, Int.reduceLT, reduceLE, Int.reduceAdd, reduceSub, reduceToNat, UInt8.reduceToNat, Go.IntWalk.i64_in, h0, h1, h2, h7, hc]
        exact Again.mk (i + 1) (by simp -implicitDefEqProofs only [go_sem, reduceEqDiff, reduceAdd, reduceLeDiff, reduceLT, reduceMul, reduceEq, Int.reduceLT, reduceLE, Int.reduceAdd, reduceSub, reduceToNat, UInt8.reduceToNat, h0, h1, h2, h7]; exact rfl) ⟨rfl, by omega, allB_succ hp hc hpc⟩ (by omega)
    · simp only [decide_eq_false_iff_not] at h
      have e : i = s.length := by omega
      subst e
      rw [List.take_length] at hp
      simp -implicitDefEqProofs only [go_sem, reduceEqDiff, reduceAdd, reduceLeDiff, reduceLT, reduceMul, reduceEq, Int.reduceLT, reduceLE, Int.reduceAdd, reduceSub, reduceToNat, UInt8.reduceToNat, h0, h1, h2, h7]
      refine gd_intro (fun hn => ?_) (fun hn => ?_) <;> simp -implicitDefEqProofs only [go_sem, reduceEqDiff, reduceAdd, reduceLeDiff, reduceLT, reduceMul, reduceEq, Int.reduceLT, reduceLE, Int.reduceAdd, reduceSub, reduceToNat, UInt8.reduceToNat, h0, h1, h2, h7, hn] <;> refine Done.now ⟨?_, rfl⟩ <;> simp only [sEach, hp, hn, ne_eq] <;> simp
def sEachP : List AV → Option AV
  | [.str s, .int .i64 most, .func f []] => if s.length ≤ Room then
      (if f = 69 then some (.bool (sEach isNm s most)) else if f = 119 then some (.bool (sEach isPt s most)) else if f = 138 then some (.bool (sEach isVl s most)) else none) else none
  | _ => none
theorem sEachP_eq (s : Bytes) (most : Int) (f : FuncId) : sEachP [.str s, .int .i64 most, .func f []] = if s.length ≤ Room then
      (if f = 69 then some (.bool (sEach isNm s most)) else if f = 119 then some (.bool (sEach isPt s most)) else if f = 138 then some (.bool (sEach isVl s most)) else none) else none := rfl
def puV2 : Pures := putP 68 sEachP puV1
theorem puV2_dyn : isDyn puV2 = false := by simp only [puV2, go_sem, Nat.reduceEqDiff]
attribute [go_sem] puV2_dyn
theorem puV2_ok : PuOK Tryz.prog puV2 := by
  refine PuOK.put puV1_ok ?_
  intro xs v h H
  unfold sEachP at h
  split at h
  · rename_i s most f
    split at h
    · rename_i hs
      split at h
      · rename_i hf; subst hf; cases h; exact each_calls s most _ isNm H hs isName1_calls
      · split at h
        · rename_i hf; subst hf; cases h; exact each_calls s most _ isPt H hs isPart1_calls
        · split at h
          · rename_i hf; subst hf; cases h; exact each_calls s most _ isVl H hs isValue1_calls
          · cases h
    · cases h
  · cases h
theorem isName_calls (s : Bytes) (H : Heap) (hs : s.length ≤ Room) : ACalls Tryz.prog 32 [.str s] H fun x H' => x = .bool (nameB s) ∧ H' = H := by
  refine ACalls.of_code (X := { pure := puV2 }) puV2_ok Tryz.func32 (by kernel_rfl) rfl (by kernel_rfl) (Nat.le_of_ble_eq_true rfl) ?_
  simp -implicitDefEqProofs only [go_sem, reduceEqDiff, reduceAdd, reduceLeDiff, reduceLT, reduceMul, reduceEq, Int.reduceLT, reduceLE, Int.reduceAdd, reduceSub, reduceToNat, UInt8.reduceToNat, Tryz.f32, puV2, puV1, sByte_eq, sEachP_eq, hs]
  refine gd_intro (fun hn => ?_) (fun hn => ?_)
  · obtain ⟨c, l, rfl⟩ : ∃ c l, s = c :: l := by
      cases s with
      | nil => simp [sEach] at hn
      | cons c l => exact ⟨c, l, rfl⟩
    simp -implicitDefEqProofs only [go_sem, reduceEqDiff, reduceAdd, reduceLeDiff, reduceLT, reduceMul, reduceEq, Int.reduceLT, reduceLE, Int.reduceAdd, reduceSub, reduceToNat, UInt8.reduceToNat, puV2, puV1, sByte_eq, hn, Int.toNat_zero, Int.le_refl]
    exact Done.now ⟨by simp [nameB, hn], rfl⟩
  · simp -implicitDefEqProofs only [go_sem, reduceEqDiff, reduceAdd, reduceLeDiff, reduceLT, reduceMul, reduceEq, Int.reduceLT, reduceLE, Int.reduceAdd, reduceSub, reduceToNat, UInt8.reduceToNat, puV2, puV1, sByte_eq, hn]
    exact Done.now ⟨by simp [nameB, hn], rfl⟩
theorem isPart_calls (s : Bytes) (H : Heap) (hs : s.length ≤ Room) : ACalls Tryz.prog 85 [.str s] H fun x H' => x = .bool (partB s) ∧ H' = H := by
  refine ACalls.of_code (X := { pure := puV2 }) puV2_ok Tryz.func85 (by kernel_rfl) rfl (by kernel_rfl) (Nat.le_of_ble_eq_true rfl) ?_
  simp -implicitDefEqProofs only [go_sem, reduceEqDiff, reduceAdd, reduceLeDiff, reduceLT, reduceMul, reduceEq, Int.reduceLT, reduceLE, Int.reduceAdd, reduceSub, reduceToNat, UInt8.reduceToNat, Tryz.f85, puV2, puV1, sByte_eq, sEachP_eq, hs]
  repeat' (first | (with_reducible refine gd_intro (fun h => ?_) (fun h => ?_) <;> first | (exact absurd h (by decide)) | (simp at h; done) | simp -implicitDefEqProofs (disch := omega) only [go_sem, reduceEqDiff, reduceAdd, reduceLeDiff, reduceLT, reduceMul, reduceEq, Int.reduceLT, reduceLE, Int.reduceAdd, reduceSub, reduceToNat, UInt8.reduceToNat, Go.IntWalk.i64_in, puV2, puV1, sEachP_eq, *]) | (with_reducible refine cnd_intro (fun h => ?_) (fun h => ?_) <;> first | (exact absurd h (by decide)) | (simp at h; done) | simp -implicitDefEqProofs (disch := omega) only [go_sem, reduceEqDiff, reduceAdd, reduceLeDiff, reduceLT, reduceMul, reduceEq, Int.reduceLT, reduceLE, Int.reduceAdd, reduceSub, reduceToNat, UInt8.reduceToNat, Go.IntWalk.i64_in, puV2, puV1, sEachP_eq, *]))
  all_goals (refine Done.now ⟨?_, rfl⟩; simp_all [partB])
theorem isValue_calls (s : Bytes) (H : Heap) (hs : s.length ≤ Room) : ACalls Tryz.prog 124 [.str s] H fun x H' => x = .bool (valueB s) ∧ H' = H := by
  refine ACalls.of_code (X := { pure := puV2 }) puV2_ok Tryz.func124 (by kernel_rfl) rfl (by kernel_rfl) (Nat.le_of_ble_eq_true rfl) ?_
  simp -implicitDefEqProofs only [go_sem, reduceEqDiff, reduceAdd, reduceLeDiff, reduceLT, reduceMul, reduceEq, Int.reduceLT, reduceLE, Int.reduceAdd, reduceSub, reduceToNat, UInt8.reduceToNat, Tryz.f124, puV2, puV1, sByte_eq, sEachP_eq, hs]
  repeat' (first | (with_reducible refine gd_intro (fun h => ?_) (fun h => ?_) <;> first | (exact absurd h (by decide)) | (simp at h; done) | simp -implicitDefEqProofs (disch := omega) only [go_sem, reduceEqDiff, reduceAdd, reduceLeDiff, reduceLT, reduceMul, reduceEq, Int.reduceLT, reduceLE, Int.reduceAdd, reduceSub, reduceToNat, UInt8.reduceToNat, Go.IntWalk.i64_in, puV2, puV1, sEachP_eq, *]) | (with_reducible refine cnd_intro (fun h => ?_) (fun h => ?_) <;> first | (exact absurd h (by decide)) | (simp at h; done) | simp -implicitDefEqProofs (disch := omega) only [go_sem, reduceEqDiff, reduceAdd, reduceLeDiff, reduceLT, reduceMul, reduceEq, Int.reduceLT, reduceLE, Int.reduceAdd, reduceSub, reduceToNat, UInt8.reduceToNat, Go.IntWalk.i64_in, puV2, puV1, sEachP_eq, *]))
  all_goals (refine Done.now ⟨?_, rfl⟩; simp_all [valueB])
def puV3 : Pures := putP 85 (sStr partB) puV2
theorem puV3_dyn : isDyn puV3 = false := by simp only [puV3, go_sem, Nat.reduceEqDiff]
attribute [go_sem] puV3_dyn
theorem puV3_ok : PuOK Tryz.prog puV3 := .put (puV2_ok) (sStr_ok isPart_calls)
theorem room_part {s p : Bytes} {c : UInt8} (hs : s.length ≤ Room) {i : Nat} (h : (splitB c s)[i]? = some p) : p.length ≤ Room := Nat.le_trans (splitB_mem s p (List.mem_of_getElem? h)) hs
theorem sSplit_room (s : Bytes) (c : UInt8) (h : s.length ≤ Room) : sSplit [.str s, .str [c]] = some (.sl ((splitB c s).map encBs) .unk) := by rw [sSplit_eq, if_pos h]
theorem isPath_calls (s : Bytes) (H : Heap) (hs : s.length ≤ Room) : ACalls Tryz.prog 45 [.str s] H fun x H' => x = .bool (pathB s) ∧ H' = H := by
  refine ACalls.of_code (X := { pure := puV3 }) puV3_ok Tryz.func45 (by kernel_rfl) rfl (by kernel_rfl) (Nat.le_of_ble_eq_true rfl) ?_
  simp -implicitDefEqProofs only [go_sem, reduceEqDiff, reduceAdd, reduceLeDiff, reduceLT, reduceMul, reduceEq, Int.reduceLT, reduceLE, Int.reduceAdd, reduceSub, reduceToNat, UInt8.reduceToNat, Tryz.f45, puV3, puV2, puV1, puK, sSplit_room s _ hs]
  have hlen : (splitB 47 s).length ≤ 1099511627777 := by rw [splitB_len]; have := List.count_le_length (a := (47 : UInt8)) (l := s); have : Room = 1099511627776 := rfl; omega
  refine aloop_intro (σ := Nat) (fun i => [(0, .str s), (6, .sl ((splitB 47 s).map encBs) .unk), (7, .int .i64 (splitB 47 s).length), (8, .int .i64 i)]) (fun i G => G = H ∧ i ≤ (splitB 47 s).length ∧ ((splitB 47 s).take i).all partB = true) (fun i => (splitB 47 s).length - i) 0 ?_ ?_ ?_
  · simp -implicitDefEqProofs only [go_sem, reduceEqDiff, reduceAdd, reduceLeDiff, reduceLT, reduceMul, reduceEq, Int.reduceLT, reduceLE, Int.reduceAdd, reduceSub, reduceToNat, UInt8.reduceToNat]
  · simp
  · rintro i r G ⟨h0, h6, h7, h8, -⟩ ⟨rfl, hi, hp⟩
    simp -implicitDefEqProofs only [go_sem, reduceEqDiff, reduceAdd, reduceLeDiff, reduceLT, reduceMul, reduceEq, Int.reduceLT, reduceLE, Int.reduceAdd, reduceSub, reduceToNat, UInt8.reduceToNat, h0, h6, h7, h8]
    refine cnd_intro (fun h => ?_) (fun h => ?_)
    · simp only [decide_eq_true_eq] at h
      obtain ⟨c, hc⟩ : ∃ c, (splitB 47 s)[i]? = some c := ⟨(splitB 47 s)[i]'(by omega), List.getElem?_eq_getElem _⟩
      have hr := room_part hs hc
      simp -implicitDefEqProofs only [go_sem, reduceEqDiff, reduceAdd, reduceLeDiff, reduceLT, reduceMul, reduceEq, Int.reduceLT, reduceLE, Int.reduceAdd, reduceSub, reduceToNat, UInt8.reduceToNat, h0, h6, h7, h8, hc, encBs, puV3, sStr_eq, hr]
      refine cnd_intro (fun hpc => ?_) (fun hpc => ?_) <;> simp only [Bool.not_eq_true', Bool.not_eq_false'] at hpc
      · simp -implicitDefEqProofs only [go_sem, reduceEqDiff, reduceAdd, reduceLeDiff, reduceLT, reduceMul, reduceEq, Int.reduceLT, reduceLE, Int.reduceAdd, reduceSub, reduceToNat, UInt8.reduceToNat, h0, h6, h7, h8, hc]
        refine Done.now ⟨?_, rfl⟩
        have : (splitB 47 s).all partB = false := by rw [List.all_eq_false]; exact ⟨c, List.mem_of_getElem? hc, by simp [hpc]⟩
        simp [pathB, this]
      · simp -implicitDefEqProofs (disch := omega) only [go_sem, reduceEqDiff, reduceAdd, reduceLeDiff, reduceLT, reduceMul, reduceEq, Int.reduceLT, reduceLE, Int.reduceAdd, reduceSub, reduceToNat, UInt8.reduceToNat, Go.IntWalk.i64_in, h0, h6, h7, h8, hc]
        refine Again.mk (i + 1) (by simp -implicitDefEqProofs only [go_sem, reduceEqDiff, reduceAdd, reduceLeDiff, reduceLT, reduceMul, reduceEq, Int.reduceLT, reduceLE, Int.reduceAdd, reduceSub, reduceToNat, UInt8.reduceToNat, h0, h6, h7, h8]; exact rfl) ⟨rfl, by omega, ?_⟩ (by omega)
        rw [List.take_add_one, hc]
        simp [List.all_append, hp, hpc]
    · simp only [decide_eq_false_iff_not] at h
      have e : i = (splitB 47 s).length := by omega
      subst e
      rw [List.take_length] at hp
      simp -implicitDefEqProofs only [go_sem, reduceEqDiff, reduceAdd, reduceLeDiff, reduceLT, reduceMul, reduceEq, Int.reduceLT, reduceLE, Int.reduceAdd, reduceSub, reduceToNat, UInt8.reduceToNat, h0, h6, h7, h8]
      exact Done.now ⟨by simp [pathB, hp], rfl⟩
end Go.Proofs

/- Walks: the reference's names, paths, values; what has the form of a sum. -/
namespace Go.Proofs
open Go Go.Abs
open Nat (reduceEqDiff reduceAdd reduceLeDiff reduceLT reduceMul)
open Int (reduceEq reduceLE reduceSub reduceToNat)
set_option linter.unusedSimpArgs false
set_option linter.unusedVariables false
theorem name_iff (s : Bytes) (h : s ≠ []) : nameB s = (allB isNm s && isSm ((s.headD 0).toNat : Int) && decide ((s.length : Int) ≤ 40)) := by
  simp only [nameB, sEach, h, ne_eq, not_false_eq_true, decide_true, Bool.and_true]
  cases allB isNm s <;> cases isSm ((s.headD 0).toNat : Int) <;> simp
theorem rIsName_calls (s : Bytes) (H : Heap) (hs : s.length ≤ Room) : ACalls Tryz.prog 16 [.str s] H fun x H' => x = .bool (nameB s) ∧ H' = H := by
  have hR : Room = 1099511627776 := rfl
  rw [hR] at hs
  refine ACalls.of_code (X := { pure := puV3 }) puV3_ok Tryz.func16 (by kernel_rfl) rfl (by kernel_rfl) (Nat.le_of_ble_eq_true rfl) ?_
  simp -implicitDefEqProofs only [go_sem, reduceEqDiff, reduceAdd, reduceLeDiff, reduceLT, reduceMul, reduceEq, Int.reduceLT, reduceLE, Int.reduceAdd, reduceSub, reduceToNat, UInt8.reduceToNat, Tryz.f16]
  refine aloop_intro (σ := Nat) (fun i => [(0, .str s), (7, .int .i64 s.length), (8, .int .i64 i)]) (fun i G => G = H ∧ i ≤ s.length ∧ allB isNm (s.take i) = true ∧ (0 < i → isSm ((s.headD 0).toNat : Int) = true)) (fun i => s.length - i) 0 ?_ ?_ ?_
  · simp -implicitDefEqProofs only [go_sem, reduceEqDiff, reduceAdd, reduceLeDiff, reduceLT, reduceMul, reduceEq, Int.reduceLT, reduceLE, Int.reduceAdd, reduceSub, reduceToNat, UInt8.reduceToNat]
  · simp [allB]
  · intro i r G hv hI
    have h0 := hv.1
    have h7 := hv.2.1
    have h8 := hv.2.2.1
    have hG := hI.1.symm
    have hi := hI.2.1
    have hp := hI.2.2.1
    have hh := hI.2.2.2
    clear hv hI
    subst hG
    simp -implicitDefEqProofs only [go_sem, reduceEqDiff, reduceAdd, reduceLeDiff, reduceLT, reduceMul, reduceEq, Int.reduceLT, reduceLE, Int.reduceAdd, reduceSub, reduceToNat, UInt8.reduceToNat, h0, h7, h8]
    refine cnd_intro (fun h => ?_) (fun h => ?_)
    · simp only [decide_eq_true_eq] at h
      obtain ⟨c, hc⟩ : ∃ c, s[i]? = some c := ⟨s[i]'(by omega), List.getElem?_eq_getElem _⟩
      have hn := not_nil_of hc
      have hsm : i = 0 → s.headD 0 = c := fun e => by subst e; exact head_of hc
      have bad0 : i = 0 → isSm (c.toNat : Int) = false → nameB s = false := fun e1 e2 => by rw [name_iff s hn, hsm e1, e2]; simp
      have bad1 : isNm (c.toNat : Int) = false → nameB s = false := fun e => by rw [nameB, sEach_false hc e]; rfl
      have good : (i = 0 → isSm (c.toNat : Int) = true) → isNm (c.toNat : Int) = true → allB isNm (s.take (i + 1)) = true ∧ (0 < i + 1 → isSm ((s.headD 0).toNat : Int) = true) := fun e1 e2 =>
        ⟨allB_succ hp hc e2, fun _ => by
          rcases Nat.eq_zero_or_pos i with e | e
          · rw [hsm e]; exact e1 e
          · exact hh e⟩
      clear hp hsm hh
      generalize hcn : (c.toNat : Int) = k at *
      simp -implicitDefEqProofs only [go_sem, reduceEqDiff, reduceAdd, reduceLeDiff, reduceLT, reduceMul, reduceEq, Int.reduceLT, reduceLE, Int.reduceAdd, reduceSub, reduceToNat, UInt8.reduceToNat, h0, h7, h8, hc, hcn]
      clear hc
      repeat' (first | (with_reducible refine gd_intro (fun h => ?_) (fun h => ?_) <;> first | (exact absurd h (by decide)) | (simp at h; done) | simp -implicitDefEqProofs (disch := omega) only [go_sem, reduceEqDiff, reduceAdd, reduceLeDiff, reduceLT, reduceMul, reduceEq, Int.reduceLT, reduceLE, Int.reduceAdd, reduceSub, reduceToNat, UInt8.reduceToNat, Go.IntWalk.i64_in, *]) | (with_reducible refine cnd_intro (fun h => ?_) (fun h => ?_) <;> first | (exact absurd h (by decide)) | (simp at h; done) | simp -implicitDefEqProofs (disch := omega) only [go_sem, reduceEqDiff, reduceAdd, reduceLeDiff, reduceLT, reduceMul, reduceEq, Int.reduceLT, reduceLE, Int.reduceAdd, reduceSub, reduceToNat, UInt8.reduceToNat, Go.IntWalk.i64_in, *]))
      all_goals first
        | (refine Done.now ⟨?_, rfl⟩
           simp only [decide_eq_true_eq, decide_eq_false_iff_not, Bool.not_eq_true', Bool.not_eq_false', Decidable.not_not, Int.not_lt, Int.not_le, ne_eq] at *
           first
            | (rw [bad0 (by omega) (by simp [isSm]; omega)]; done)
            | (rw [bad1 (by simp [isNm, isSm, isDg]; omega)]; done))
        | (simp only [decide_eq_true_eq, decide_eq_false_iff_not, Bool.not_eq_true', Bool.not_eq_false', Decidable.not_not, Int.not_lt, Int.not_le, ne_eq] at *
           exact Again.mk (i + 1) (by simp -implicitDefEqProofs only [go_sem, reduceEqDiff, reduceAdd, reduceLeDiff, reduceLT, reduceMul, reduceEq, Int.reduceLT, reduceLE, Int.reduceAdd, reduceSub, reduceToNat, UInt8.reduceToNat, h0, h7, h8]; exact rfl) ⟨rfl, by omega, good (by simp [isSm]; omega) (by simp [isNm, isSm, isDg]; omega)⟩ (by omega))
    · simp only [decide_eq_false_iff_not] at h
      have e : i = s.length := by omega
      subst e
      rw [List.take_length] at hp
      simp -implicitDefEqProofs only [go_sem, reduceEqDiff, reduceAdd, reduceLeDiff, reduceLT, reduceMul, reduceEq, Int.reduceLT, reduceLE, Int.reduceAdd, reduceSub, reduceToNat, UInt8.reduceToNat, h0, h7, h8]
      repeat' (first | (with_reducible refine gd_intro (fun h => ?_) (fun h => ?_) <;> first | (exact absurd h (by decide)) | (simp at h; done) | simp -implicitDefEqProofs (disch := omega) only [go_sem, reduceEqDiff, reduceAdd, reduceLeDiff, reduceLT, reduceMul, reduceEq, Int.reduceLT, reduceLE, Int.reduceAdd, reduceSub, reduceToNat, UInt8.reduceToNat, Go.IntWalk.i64_in, *]) | (with_reducible refine cnd_intro (fun h => ?_) (fun h => ?_) <;> first | (exact absurd h (by decide)) | (simp at h; done) | simp -implicitDefEqProofs (disch := omega) only [go_sem, reduceEqDiff, reduceAdd, reduceLeDiff, reduceLT, reduceMul, reduceEq, Int.reduceLT, reduceLE, Int.reduceAdd, reduceSub, reduceToNat, UInt8.reduceToNat, Go.IntWalk.i64_in, *]))
      all_goals refine Done.now ⟨?_, rfl⟩
      all_goals simp only [decide_eq_true_eq, decide_eq_false_iff_not, Bool.not_eq_true', Bool.not_eq_false', Decidable.not_not, Int.not_lt, Int.not_le, ne_eq] at *
      · cases s with
        | nil => simp at hR h
        | cons b l => rw [name_iff _ (by simp), hp, hh (by simp)]; simp
      · have : s = [] := by simpa using h
        subst this; rfl
theorem rIsPart_calls (s : Bytes) (H : Heap) (hs : s.length ≤ Room) : ACalls Tryz.prog 48 [.str s] H fun x H' => x = .bool (partB s) ∧ H' = H := by
  have hR : Room = 1099511627776 := rfl
  rw [hR] at hs
  clear hR
  refine ACalls.of_code (X := { pure := puV3 }) puV3_ok Tryz.func48 (by kernel_rfl) rfl (by kernel_rfl) (Nat.le_of_ble_eq_true rfl) ?_
  simp -implicitDefEqProofs only [go_sem, reduceEqDiff, reduceAdd, reduceLeDiff, reduceLT, reduceMul, reduceEq, Int.reduceLT, reduceLE, Int.reduceAdd, reduceSub, reduceToNat, UInt8.reduceToNat, Tryz.f48]
  refine aloop_intro (σ := Nat) (fun i => [(0, .str s), (6, .int .i64 s.length), (7, .int .i64 i)]) (fun i G => G = H ∧ i ≤ s.length ∧ allB isPt (s.take i) = true) (fun i => s.length - i) 0 ?_ ?_ ?_
  · simp -implicitDefEqProofs only [go_sem, reduceEqDiff, reduceAdd, reduceLeDiff, reduceLT, reduceMul, reduceEq, Int.reduceLT, reduceLE, Int.reduceAdd, reduceSub, reduceToNat, UInt8.reduceToNat]
  · simp [allB]
  · intro i r G hv hI
    have h0 := hv.1
    have h7 := hv.2.1
    have h8 := hv.2.2.1
    have hG := hI.1.symm
    have hi := hI.2.1
    have hp := hI.2.2
    clear hv hI
    subst hG
    simp -implicitDefEqProofs only [go_sem, reduceEqDiff, reduceAdd, reduceLeDiff, reduceLT, reduceMul, reduceEq, Int.reduceLT, reduceLE, Int.reduceAdd, reduceSub, reduceToNat, UInt8.reduceToNat, h0, h7, h8]
    refine cnd_intro (fun h => ?_) (fun h => ?_)
    · simp only [decide_eq_true_eq] at h
      obtain ⟨c, hc⟩ : ∃ c, s[i]? = some c := ⟨s[i]'(by omega), List.getElem?_eq_getElem _⟩
      have bad1 : isPt (c.toNat : Int) = false → partB s = false := fun e => by simp [partB, sEach, allB_false hc e, not_nil_of hc]
      have good : isPt (c.toNat : Int) = true → allB isPt (s.take (i + 1)) = true := fun e2 => allB_succ hp hc e2
      clear hp
      generalize hcn : (c.toNat : Int) = k at *
      simp -implicitDefEqProofs only [go_sem, reduceEqDiff, reduceAdd, reduceLeDiff, reduceLT, reduceMul, reduceEq, Int.reduceLT, reduceLE, Int.reduceAdd, reduceSub, reduceToNat, UInt8.reduceToNat, h0, h7, h8, hc, hcn]
      repeat' (first | (with_reducible refine gd_intro (fun h => ?_) (fun h => ?_) <;> first | (exact absurd h (by decide)) | (simp at h; done) | simp -implicitDefEqProofs (disch := omega) only [go_sem, reduceEqDiff, reduceAdd, reduceLeDiff, reduceLT, reduceMul, reduceEq, Int.reduceLT, reduceLE, Int.reduceAdd, reduceSub, reduceToNat, UInt8.reduceToNat, Go.IntWalk.i64_in, *]) | (with_reducible refine cnd_intro (fun h => ?_) (fun h => ?_) <;> first | (exact absurd h (by decide)) | (simp at h; done) | simp -implicitDefEqProofs (disch := omega) only [go_sem, reduceEqDiff, reduceAdd, reduceLeDiff, reduceLT, reduceMul, reduceEq, Int.reduceLT, reduceLE, Int.reduceAdd, reduceSub, reduceToNat, UInt8.reduceToNat, Go.IntWalk.i64_in, *]))
      all_goals first
        | (refine Done.now ⟨?_, rfl⟩
           simp only [decide_eq_true_eq, decide_eq_false_iff_not, Bool.not_eq_true', Bool.not_eq_false', Decidable.not_not, Int.not_lt, Int.not_le, ne_eq] at *
           rw [bad1 (by simp [isPt, isSm, isDg]; omega)]; done)
        | (simp only [decide_eq_true_eq, decide_eq_false_iff_not, Bool.not_eq_true', Bool.not_eq_false', Decidable.not_not, Int.not_lt, Int.not_le, ne_eq] at *
           exact Again.mk (i + 1) (by simp -implicitDefEqProofs only [go_sem, reduceEqDiff, reduceAdd, reduceLeDiff, reduceLT, reduceMul, reduceEq, Int.reduceLT, reduceLE, Int.reduceAdd, reduceSub, reduceToNat, UInt8.reduceToNat, h0, h7, h8]; exact rfl) ⟨rfl, by omega, good (by simp [isPt, isSm, isDg]; omega)⟩ (by omega))
    · simp only [decide_eq_false_iff_not] at h
      have e : i = s.length := by omega
      subst e
      rw [List.take_length] at hp
      simp -implicitDefEqProofs only [go_sem, reduceEqDiff, reduceAdd, reduceLeDiff, reduceLT, reduceMul, reduceEq, Int.reduceLT, reduceLE, Int.reduceAdd, reduceSub, reduceToNat, UInt8.reduceToNat, h0, h7, h8]
      repeat' (first | (with_reducible refine gd_intro (fun h => ?_) (fun h => ?_) <;> first | (exact absurd h (by decide)) | (simp at h; done) | simp -implicitDefEqProofs (disch := omega) only [go_sem, reduceEqDiff, reduceAdd, reduceLeDiff, reduceLT, reduceMul, reduceEq, Int.reduceLT, reduceLE, Int.reduceAdd, reduceSub, reduceToNat, UInt8.reduceToNat, Go.IntWalk.i64_in, *]) | (with_reducible refine cnd_intro (fun h => ?_) (fun h => ?_) <;> first | (exact absurd h (by decide)) | (simp at h; done) | simp -implicitDefEqProofs (disch := omega) only [go_sem, reduceEqDiff, reduceAdd, reduceLeDiff, reduceLT, reduceMul, reduceEq, Int.reduceLT, reduceLE, Int.reduceAdd, reduceSub, reduceToNat, UInt8.reduceToNat, Go.IntWalk.i64_in, *]))
      all_goals refine Done.now ⟨?_, rfl⟩
      all_goals try simp only [decide_eq_true_eq, decide_eq_false_iff_not, Bool.not_eq_true', Bool.not_eq_false', Decidable.not_not, Int.not_lt, Int.not_le, ne_eq] at *
      all_goals (by_cases hn : s = [] <;> simp_all [partB, sEach] <;> omega)

theorem rIsValue_calls (s : Bytes) (H : Heap) (hs : s.length ≤ Room) : ACalls Tryz.prog 34 [.str s] H fun x H' => x = .bool (valueB s) ∧ H' = H := by
  have hR : Room = 1099511627776 := rfl
  rw [hR] at hs
  clear hR
  refine ACalls.of_code (X := { pure := puV3 }) puV3_ok Tryz.func34 (by kernel_rfl) rfl (by kernel_rfl) (Nat.le_of_ble_eq_true rfl) ?_
  simp -implicitDefEqProofs only [go_sem, reduceEqDiff, reduceAdd, reduceLeDiff, reduceLT, reduceMul, reduceEq, Int.reduceLT, reduceLE, Int.reduceAdd, reduceSub, reduceToNat, UInt8.reduceToNat, Tryz.f34]
  refine aloop_intro (σ := Nat) (fun i => [(0, .str s), (5, .int .i64 s.length), (6, .int .i64 i)]) (fun i G => G = H ∧ i ≤ s.length ∧ allB isVl (s.take i) = true) (fun i => s.length - i) 0 ?_ ?_ ?_
  · simp -implicitDefEqProofs only [go_sem, reduceEqDiff, reduceAdd, reduceLeDiff, reduceLT, reduceMul, reduceEq, Int.reduceLT, reduceLE, Int.reduceAdd, reduceSub, reduceToNat, UInt8.reduceToNat]
  · simp [allB]
  · intro i r G hv hI
    have h0 := hv.1
    have h7 := hv.2.1
    have h8 := hv.2.2.1
    have hG := hI.1.symm
    have hi := hI.2.1
    have hp := hI.2.2
    clear hv hI
    subst hG
    simp -implicitDefEqProofs only [go_sem, reduceEqDiff, reduceAdd, reduceLeDiff, reduceLT, reduceMul, reduceEq, Int.reduceLT, reduceLE, Int.reduceAdd, reduceSub, reduceToNat, UInt8.reduceToNat, h0, h7, h8]
    refine cnd_intro (fun h => ?_) (fun h => ?_)
    · simp only [decide_eq_true_eq] at h
      obtain ⟨c, hc⟩ : ∃ c, s[i]? = some c := ⟨s[i]'(by omega), List.getElem?_eq_getElem _⟩
      have bad1 : isVl (c.toNat : Int) = false → valueB s = false := fun e => by simp [valueB, sEach, allB_false hc e, not_nil_of hc]
      have good : isVl (c.toNat : Int) = true → allB isVl (s.take (i + 1)) = true := fun e2 => allB_succ hp hc e2
      clear hp
      generalize hcn : (c.toNat : Int) = k at *
      simp -implicitDefEqProofs only [go_sem, reduceEqDiff, reduceAdd, reduceLeDiff, reduceLT, reduceMul, reduceEq, Int.reduceLT, reduceLE, Int.reduceAdd, reduceSub, reduceToNat, UInt8.reduceToNat, h0, h7, h8, hc, hcn]
      repeat' (first | (with_reducible refine gd_intro (fun h => ?_) (fun h => ?_) <;> first | (exact absurd h (by decide)) | (simp at h; done) | simp -implicitDefEqProofs (disch := omega) only [go_sem, reduceEqDiff, reduceAdd, reduceLeDiff, reduceLT, reduceMul, reduceEq, Int.reduceLT, reduceLE, Int.reduceAdd, reduceSub, reduceToNat, UInt8.reduceToNat, Go.IntWalk.i64_in, *]) | (with_reducible refine cnd_intro (fun h => ?_) (fun h => ?_) <;> first | (exact absurd h (by decide)) | (simp at h; done) | simp -implicitDefEqProofs (disch := omega) only [go_sem, reduceEqDiff, reduceAdd, reduceLeDiff, reduceLT, reduceMul, reduceEq, Int.reduceLT, reduceLE, Int.reduceAdd, reduceSub, reduceToNat, UInt8.reduceToNat, Go.IntWalk.i64_in, *]))
      all_goals first
        | (refine Done.now ⟨?_, rfl⟩
           simp only [decide_eq_true_eq, decide_eq_false_iff_not, Bool.not_eq_true', Bool.not_eq_false', Decidable.not_not, Int.not_lt, Int.not_le, ne_eq] at *
           rw [bad1 (by simp [isVl]; omega)]; done)
        | (simp only [decide_eq_true_eq, decide_eq_false_iff_not, Bool.not_eq_true', Bool.not_eq_false', Decidable.not_not, Int.not_lt, Int.not_le, ne_eq] at *
           exact Again.mk (i + 1) (by simp -implicitDefEqProofs only [go_sem, reduceEqDiff, reduceAdd, reduceLeDiff, reduceLT, reduceMul, reduceEq, Int.reduceLT, reduceLE, Int.reduceAdd, reduceSub, reduceToNat, UInt8.reduceToNat, h0, h7, h8]; exact rfl) ⟨rfl, by omega, good (by simp [isVl]; omega)⟩ (by omega))
    · simp only [decide_eq_false_iff_not] at h
      have e : i = s.length := by omega
      subst e
      rw [List.take_length] at hp
      simp -implicitDefEqProofs only [go_sem, reduceEqDiff, reduceAdd, reduceLeDiff, reduceLT, reduceMul, reduceEq, Int.reduceLT, reduceLE, Int.reduceAdd, reduceSub, reduceToNat, UInt8.reduceToNat, h0, h7, h8]
      repeat' (first | (with_reducible refine gd_intro (fun h => ?_) (fun h => ?_) <;> first | (exact absurd h (by decide)) | (simp at h; done) | simp -implicitDefEqProofs (disch := omega) only [go_sem, reduceEqDiff, reduceAdd, reduceLeDiff, reduceLT, reduceMul, reduceEq, Int.reduceLT, reduceLE, Int.reduceAdd, reduceSub, reduceToNat, UInt8.reduceToNat, Go.IntWalk.i64_in, *]) | (with_reducible refine cnd_intro (fun h => ?_) (fun h => ?_) <;> first | (exact absurd h (by decide)) | (simp at h; done) | simp -implicitDefEqProofs (disch := omega) only [go_sem, reduceEqDiff, reduceAdd, reduceLeDiff, reduceLT, reduceMul, reduceEq, Int.reduceLT, reduceLE, Int.reduceAdd, reduceSub, reduceToNat, UInt8.reduceToNat, Go.IntWalk.i64_in, *]))
      all_goals refine Done.now ⟨?_, rfl⟩
      all_goals try simp only [decide_eq_true_eq, decide_eq_false_iff_not, Bool.not_eq_true', Bool.not_eq_false', Decidable.not_not, Int.not_lt, Int.not_le, ne_eq] at *
      all_goals (by_cases hn : s = [] <;> simp_all [valueB, sEach] <;> omega)

def puR1 : Pures := putP 48 (sStr partB) (putP 34 (sStr valueB) (putP 16 (sStr nameB) puV3))
theorem puR1_dyn : isDyn puR1 = false := by simp only [puR1, go_sem, Nat.reduceEqDiff]
attribute [go_sem] puR1_dyn
theorem puR1_ok : PuOK Tryz.prog puR1 := .put (.put (.put (puV3_ok) (sStr_ok rIsName_calls)) (sStr_ok rIsValue_calls)) (sStr_ok rIsPart_calls)
theorem rIsPath_calls (s : Bytes) (H : Heap) (hs : s.length ≤ Room) : ACalls Tryz.prog 18 [.str s] H fun x H' => x = .bool (pathB s) ∧ H' = H := by
  refine ACalls.of_code (X := { pure := puR1 }) puR1_ok Tryz.func18 (by kernel_rfl) rfl (by kernel_rfl) (Nat.le_of_ble_eq_true rfl) ?_
  simp -implicitDefEqProofs only [go_sem, reduceEqDiff, reduceAdd, reduceLeDiff, reduceLT, reduceMul, reduceEq, Int.reduceLT, reduceLE, Int.reduceAdd, reduceSub, reduceToNat, UInt8.reduceToNat, Tryz.f18, puR1, puV3, puV2, puV1, puK, sSplit_room s _ hs]
  have hlen : (splitB 47 s).length ≤ 1099511627777 := by rw [splitB_len]; have := List.count_le_length (a := (47 : UInt8)) (l := s); have : Room = 1099511627776 := rfl; omega
  refine aloop_intro (σ := Nat) (fun i => [(0, .str s), (6, .sl ((splitB 47 s).map encBs) .unk), (7, .int .i64 (splitB 47 s).length), (8, .int .i64 i)]) (fun i G => G = H ∧ i ≤ (splitB 47 s).length ∧ ((splitB 47 s).take i).all partB = true) (fun i => (splitB 47 s).length - i) 0 ?_ ?_ ?_
  · simp -implicitDefEqProofs only [go_sem, reduceEqDiff, reduceAdd, reduceLeDiff, reduceLT, reduceMul, reduceEq, Int.reduceLT, reduceLE, Int.reduceAdd, reduceSub, reduceToNat, UInt8.reduceToNat]
  · simp
  · intro i r G hv hI
    have h0 := hv.1
    have h6 := hv.2.1
    have h7 := hv.2.2.1
    have h8 := hv.2.2.2.1
    have hG := hI.1.symm
    have hi := hI.2.1
    have hp := hI.2.2
    clear hv hI
    subst hG
    simp -implicitDefEqProofs only [go_sem, reduceEqDiff, reduceAdd, reduceLeDiff, reduceLT, reduceMul, reduceEq, Int.reduceLT, reduceLE, Int.reduceAdd, reduceSub, reduceToNat, UInt8.reduceToNat, h0, h6, h7, h8]
    refine cnd_intro (fun h => ?_) (fun h => ?_)
    · simp only [decide_eq_true_eq] at h
      obtain ⟨c, hc⟩ : ∃ c, (splitB 47 s)[i]? = some c := ⟨(splitB 47 s)[i]'(by omega), List.getElem?_eq_getElem _⟩
      have hr := room_part hs hc
      simp -implicitDefEqProofs only [go_sem, reduceEqDiff, reduceAdd, reduceLeDiff, reduceLT, reduceMul, reduceEq, Int.reduceLT, reduceLE, Int.reduceAdd, reduceSub, reduceToNat, UInt8.reduceToNat, h0, h6, h7, h8, hc, encBs, puR1, sStr_eq, hr]
      refine cnd_intro (fun hpc => ?_) (fun hpc => ?_) <;> simp only [Bool.not_eq_true', Bool.not_eq_false'] at hpc
      · simp -implicitDefEqProofs only [go_sem, reduceEqDiff, reduceAdd, reduceLeDiff, reduceLT, reduceMul, reduceEq, Int.reduceLT, reduceLE, Int.reduceAdd, reduceSub, reduceToNat, UInt8.reduceToNat, h0, h6, h7, h8, hc]
        refine Done.now ⟨?_, rfl⟩
        have : (splitB 47 s).all partB = false := by rw [List.all_eq_false]; exact ⟨c, List.mem_of_getElem? hc, by simp [hpc]⟩
        simp [pathB, this]
      · simp -implicitDefEqProofs (disch := omega) only [go_sem, reduceEqDiff, reduceAdd, reduceLeDiff, reduceLT, reduceMul, reduceEq, Int.reduceLT, reduceLE, Int.reduceAdd, reduceSub, reduceToNat, UInt8.reduceToNat, Go.IntWalk.i64_in, h0, h6, h7, h8, hc]
        refine Again.mk (i + 1) (by simp -implicitDefEqProofs only [go_sem, reduceEqDiff, reduceAdd, reduceLeDiff, reduceLT, reduceMul, reduceEq, Int.reduceLT, reduceLE, Int.reduceAdd, reduceSub, reduceToNat, UInt8.reduceToNat, h0, h6, h7, h8]; exact rfl) ⟨rfl, by omega, ?_⟩ (by omega)
        rw [List.take_add_one, hc]
        simp [List.all_append, hp, hpc]
    · simp only [decide_eq_false_iff_not] at h
      have e : i = (splitB 47 s).length := by omega
      subst e
      rw [List.take_length] at hp
      simp -implicitDefEqProofs only [go_sem, reduceEqDiff, reduceAdd, reduceLeDiff, reduceLT, reduceMul, reduceEq, Int.reduceLT, reduceLE, Int.reduceAdd, reduceSub, reduceToNat, UInt8.reduceToNat, h0, h6, h7, h8]
      exact Done.now ⟨by simp [pathB, hp], rfl⟩
def puN : Pures := putP 18 (sStr pathB) (putP 45 (sStr pathB) (putP 32 (sStr nameB) (putP 124 (sStr valueB) puR1)))
theorem puN_dyn : isDyn puN = false := by simp only [puN, go_sem, Nat.reduceEqDiff]
attribute [go_sem] puN_dyn
theorem puN_ok : PuOK Tryz.prog puN := .put (.put (.put (.put (puR1_ok) (sStr_ok isValue_calls)) (sStr_ok isName_calls)) (sStr_ok isPath_calls)) (sStr_ok rIsPath_calls)
end Go.Proofs

/- Walks: sums, of the program and of the reference. -/
namespace Go.Proofs
open Go Go.Abs
open Nat (reduceEqDiff reduceAdd reduceLeDiff reduceLT reduceMul)
open Int (reduceEq reduceLE reduceSub reduceToNat)
set_option linter.unusedSimpArgs false
set_option linter.unusedVariables false
/-! ### The reference's: the digits without zeros, and zeros before them -/
def puS1 : Pures := puN
theorem puS1_dyn : isDyn puS1 = isDyn puN := rfl
attribute [go_sem] puS1_dyn
theorem puS1_ok : PuOK Tryz.prog puS1 := puN_ok
end Go.Proofs

/- Walks: the reference's SumOf. -/
namespace Go.Proofs
open Go Go.Abs
open Nat (reduceEqDiff reduceAdd reduceLeDiff reduceLT reduceMul)
open Int (reduceEq reduceLE reduceSub reduceToNat)
set_option linter.unusedSimpArgs false
set_option linter.unusedVariables false
def preB (p s : Bytes) : Bool := decide (s.take p.length = p)
theorem preB_long {p s : Bytes} (h : s.length < p.length) : preB p s = false := by
  unfold preB
  rw [decide_eq_false_iff_not]
  intro e
  have := congrArg List.length e
  rw [List.length_take] at this
  omega
def sPre : List AV → Option AV := fn2 .str .str fun s p => some (.bool (preB p s))
theorem sPre_eq (s p : Bytes) : sPre [.str s, .str p] = some (.bool (preB p s)) := rfl
theorem sPre_ok {P : Program} {f : FuncId} (h : ∀ s p H, ACalls P f [.str s, .str p] H fun x H' => x = .bool (preB p s) ∧ H' = H) : ∀ xs v, sPre xs = some v → ∀ H, ACalls P f xs H fun x H' => x = v ∧ H' = H := by
  intro xs v hv H
  obtain ⟨x, y, p, q, rfl, h1, h2, h3⟩ := fn2_some hv
  cases h3
  cases Rd.str_some h1
  cases Rd.str_some h2
  exact h _ _ _
theorem hasPrefixL_calls (s p : Bytes) (H : Heap) : ACalls Tryz.prog 53 [.str s, .str p] H fun x H' => x = .bool (preB p s) ∧ H' = H := by
  refine ACalls.of_code (X := { pure := puS1 }) puS1_ok Tryz.func53 (by kernel_rfl) rfl (by kernel_rfl) (Nat.le_of_ble_eq_true rfl) ?_
  simp -implicitDefEqProofs only [go_sem, reduceEqDiff, reduceAdd, reduceLeDiff, reduceLT, reduceMul, reduceEq, Int.reduceLT, reduceLE, Int.reduceAdd, reduceSub, reduceToNat, UInt8.reduceToNat, Tryz.f53]
  refine gd_intro (fun h => ?_) (fun h => ?_)
  · have h' := h
    simp only [decide_eq_true_eq] at h'
    simp -implicitDefEqProofs only [go_sem, reduceEqDiff, reduceAdd, reduceLeDiff, reduceLT, reduceMul, reduceEq, Int.reduceLT, reduceLE, Int.reduceAdd, reduceSub, reduceToNat, UInt8.reduceToNat, h, Int.toNat_natCast]
    exact ⟨h', Done.now ⟨rfl, rfl⟩⟩
  · have h' := h
    simp only [decide_eq_false_iff_not] at h'
    simp -implicitDefEqProofs only [go_sem, reduceEqDiff, reduceAdd, reduceLeDiff, reduceLT, reduceMul, reduceEq, Int.reduceLT, reduceLE, Int.reduceAdd, reduceSub, reduceToNat, UInt8.reduceToNat, h]
    exact Done.now ⟨by rw [preB_long (by omega)], rfl⟩
def puS2 : Pures := putP 53 sPre puS1
theorem puS2_dyn : isDyn puS2 = false := by simp only [puS2, go_sem, Nat.reduceEqDiff]
attribute [go_sem] puS2_dyn
theorem puS2_ok : PuOK Tryz.prog puS2 := .put (puS1_ok) (sPre_ok hasPrefixL_calls)
theorem hasPrefix_calls (s p : Bytes) (H : Heap) : ACalls Tryz.prog 22 [.str s, .str p] H fun x H' => x = .bool (preB p s) ∧ H' = H := by
  refine ACalls.of_code (X := { pure := puS2 }) puS2_ok Tryz.func22 (by kernel_rfl) rfl (by kernel_rfl) (Nat.le_of_ble_eq_true rfl) ?_
  simp -implicitDefEqProofs only [go_sem, reduceEqDiff, reduceAdd, reduceLeDiff, reduceLT, reduceMul, reduceEq, Int.reduceLT, reduceLE, Int.reduceAdd, reduceSub, reduceToNat, UInt8.reduceToNat, Tryz.f22, puS2, sPre_eq]
  exact Done.now ⟨rfl, rfl⟩
def puS3 : Pures := putP 22 sPre puS2
theorem puS3_dyn : isDyn puS3 = false := by simp only [puS3, go_sem, Nat.reduceEqDiff]
attribute [go_sem] puS3_dyn
theorem puS3_ok : PuOK Tryz.prog puS3 := .put (puS2_ok) (sPre_ok hasPrefix_calls)
def puS4 : Pures := puS3
theorem puS4_dyn : isDyn puS4 = isDyn puS3 := rfl
attribute [go_sem] puS4_dyn
def puS5 : Pures := puS4
theorem puS5_dyn : isDyn puS5 = isDyn puS4 := rfl
attribute [go_sem] puS5_dyn
def puS6 : Pures := puS5
theorem puS6_dyn : isDyn puS6 = isDyn puS5 := rfl
attribute [go_sem] puS6_dyn
def puS7 : Pures := puS6
theorem puS7_dyn : isDyn puS7 = isDyn puS6 := rfl
attribute [go_sem] puS7_dyn
def puM : Pures := puN
theorem puM_dyn : isDyn puM = isDyn puN := rfl
attribute [go_sem] puM_dyn
theorem puM_ok : PuOK Tryz.prog puM := puN_ok
end Go.Proofs

/- Walks: strings.Builder. -/
namespace Go.Proofs
open Go Go.Abs
open Nat (reduceEqDiff reduceAdd reduceLeDiff reduceLT reduceMul)
open Int (reduceEq reduceLE reduceSub reduceToNat)
set_option linter.unusedSimpArgs false
set_option linter.unusedVariables false

/-- Bytes as cells of a slice. -/
def bcell (b : UInt8) : List AV := [.int .u8 b.toNat]
theorem bcell_len (l : Bytes) : Unif 1 (l.map bcell) := by
  intro c hc
  simp only [List.mem_map] at hc
  obtain ⟨b, _, rfl⟩ := hc
  rfl
abbrev bldP (b : Nat) : AV := .tptr 90 2 b
theorem noEscape_calls (T sz id : Nat) (H : Heap) : ACalls Tryz.prog 126 [.tptr T sz id] H fun y H' => y = .tptr T sz id ∧ H' = H :=
  ACalls.of_extern (e := Extern.AbiNoEscape.same) Tryz.func126 (by kernel_rfl) rfl (by kernel_rfl) (by kernel_rfl) fun C H w vs hv => by
    obtain ⟨v, rfl, h1⟩ := reprL_one hv
    exact ⟨v, Lib.run_noEscape (P := Tryz.prog) w v, h1⟩
theorem heap_put_id {H : Heap} {b : Nat} {o : AObj} (h : H b = some o) : H.put b o = H := by
  funext i
  unfold Heap.put
  split
  · rename_i e; subst e; exact h.symm
  · rfl
theorem _root_.Go.Abs.ACalls.next1 {P : Program} {f : FuncId} {args : List AV} {H H1 : Heap} {K : K1} {x : AV} (h : ACalls P f args H fun y H' => y = x ∧ H' = H1) (hK : K x H1) : ACalls P f args H K := by
  refine h.mono ?_
  rintro x H' ⟨rfl, rfl⟩
  exact hK
def addrOK (b : Nat) (p : AV) : Prop := p = .nilp ∨ p = bldP b
theorem copyCheck_calls {G : Heap} {b : Nat} {p buf : AV} (hp : addrOK b p) (h3 : G b = some (.cells [p, buf])) :
    ACalls Tryz.prog 98 [bldP b] G fun x G' => x = .tup [] ∧ G' = G.put b (.cells [bldP b, buf]) := by
  rcases hp with rfl | rfl
  · refine ACalls.of_code (X := { pure := pu0 }) pu0_ok Tryz.func98 (by kernel_rfl) rfl (by kernel_rfl) (Nat.le_of_ble_eq_true rfl) ?_
    simp -implicitDefEqProofs only [go_sem, reduceEqDiff, reduceAdd, reduceLeDiff, reduceLT, reduceMul, reduceEq, Int.reduceLT, reduceLE, Int.reduceAdd, reduceSub, reduceToNat, UInt8.reduceToNat, Tryz.f98, h3]
    refine (noEscape_calls _ _ _ _).pure_next _ ?_
    simp -implicitDefEqProofs only [go_sem, reduceEqDiff, reduceAdd, reduceLeDiff, reduceLT, reduceMul, reduceEq, Int.reduceLT, reduceLE, Int.reduceAdd, reduceSub, reduceToNat, UInt8.reduceToNat, h3]
    exact Done.now ⟨rfl, rfl⟩
  · refine ACalls.of_code (X := { pure := pu0 }) pu0_ok Tryz.func98 (by kernel_rfl) rfl (by kernel_rfl) (Nat.le_of_ble_eq_true rfl) ?_
    simp -implicitDefEqProofs only [go_sem, reduceEqDiff, reduceAdd, reduceLeDiff, reduceLT, reduceMul, reduceEq, Int.reduceLT, reduceLE, Int.reduceAdd, reduceSub, reduceToNat, UInt8.reduceToNat, Tryz.f98, h3]
    exact Done.now ⟨rfl, (heap_put_id h3).symm⟩
/-- The builder 'b' holds these bytes; 'H': what there is beside it. -/
def BufOK (g : Bool) (H G : Heap) (b : Nat) (buf : AV) (l : Bytes) : Prop := buf = .snil ∧ l = [] ∨ ∃ t, buf = .sl (l.map bcell) (.tok t 1 (some 5)) ∧ H t = none ∧ G t = some (.tail l.length) ∧ ¬ t = b ∧ (g = false → l ≠ [])
/-- .. 'g': it may have got room, and hold nothing. -/
def BldG (g : Bool) (H G : Heap) (b : Nat) (l : Bytes) : Prop := H.Sub G ∧ H b = none ∧ ∃ p buf, G b = some (.cells [p, buf]) ∧ addrOK b p ∧ BufOK g H G b buf l
abbrev BldOK (H G : Heap) (b : Nat) (l : Bytes) : Prop := BldG false H G b l
/-- What a builder's writing leaves of other objects. -/
def tokOf (G : Heap) (b : Nat) : Option Nat := match G b with
  | some (.cells [_, .sl _ (.tok t _ _)]) => some t
  | _ => none
def BKept (b : Nat) (G G' : Heap) : Prop := ∀ i o, G i = some o → ¬ i = b → tokOf G b ≠ some i → G' i = some o
theorem BldG.sub {g : Bool} {H G : Heap} {b : Nat} {l : Bytes} (h : BldG g H G b l) : H.Sub G := h.1
theorem BldG.tok {g : Bool} {H G : Heap} {b : Nat} {l : Bytes} (h : BldG g H G b l) {t : Nat} (ht : tokOf G b = some t) : H t = none := by
  obtain ⟨_, _, p, buf, h3, h4, h5⟩ := h
  unfold tokOf at ht
  rw [h3] at ht
  rcases h5 with ⟨rfl, -⟩ | ⟨t', rfl, h6, -⟩
  · cases ht
  · cases ht; exact h6
/-- Objects that stand beside stay. -/
theorem BldG.kept {g : Bool} {H G G' : Heap} {b : Nat} {l : Bytes} (h : BldG g H G b l) (hk : BKept b G G') {i : Nat} {o : AObj} (hi : H i = some o) : G' i = some o :=
  hk i o (h.1 i o hi) (fun e => by subst e; rw [h.2.1] at hi; cases hi) (fun e => by rw [h.tok e] at hi; cases hi)
theorem BldG.put {g : Bool} {H G : Heap} {b : Nat} {l : Bytes} (h : BldG g H G b l) {i : Nat} (hi : G i = none) (o : AObj) : BldG g H (G.put i o) b l := by
  obtain ⟨h1, h2, p, buf, h3, h4, h5⟩ := h
  have hH : H i = none := by
    cases hh : H i with
    | none => rfl
    | some x => have := h1 i x hh; rw [hi] at this; cases this
  have hb : ¬ b = i := fun e => by subst e; rw [h3] at hi; cases hi
  refine ⟨h1.put' hH o, h2, p, buf, by rw [put_ne _ _ _ _ hb]; exact h3, h4, ?_⟩
  rcases h5 with h5 | ⟨t, t1, t2, t3, t4, t9⟩
  · exact .inl h5
  · have ht : ¬ t = i := fun e => by subst e; rw [t3] at hi; cases hi
    exact .inr ⟨t, t1, t2, by rw [put_ne _ _ _ _ ht]; exact t3, t4, t9⟩
/-- A new builder. -/
theorem BldG.new {H G : Heap} (h : H.Sub G) {b : Nat} (hb : G b = none) : BldOK H (G.put b (.cells [.nilp, .snil])) b [] := by
  have hH : H b = none := by
    cases hh : H b with
    | none => rfl
    | some x => have := h b x hh; rw [hb] at this; cases this
  exact ⟨h.put' hH _, hH, _, _, put_same _ _ _, .inl rfl, .inl ⟨rfl, rfl⟩⟩
theorem app_snil {et : Option TypeId} {e : TI} {new : List (List AV)} {H : Heap} {K : K1} (h1 : new.length * e.bytes ≤ 140737488355328) (h2 : new.length ≤ 4611686018427387904) (h0 : new = [] → K .snil H)
    (h : new ≠ [] → ∀ id', H id' = none → K (.sl new (.tok id' e.size et)) (H.put id' (.tail (new.length * e.size)))) : appK et false e .snil new H K :=
  ⟨h0, fun hn => ⟨h1, h2, fun id' hid => h hn id' hid⟩⟩
theorem app_tok' {et : Option TypeId} {e : TI} {es new : List (List AV)} {id : Nat} {H : Heap} {K : K1} (hu : Unif e.size es) (ht : H id = some (.tail (es.length * e.size))) (h1 : (es.length + new.length) * e.bytes ≤ 140737488355328) (h2 : es.length + new.length ≤ 4611686018427387904)
    (h : ∀ id', H id' = none → K (.sl (es ++ new) (.tok id' e.size et)) ((H.del id).put id' (.tail ((es ++ new).length * e.size)))) : appK et false e (.sl es (.tok id e.size et)) new H K :=
  app_tok hu ht h1 h2 fun id' hid => by rw [if_pos rfl]; exact h id' hid

theorem writeString_calls {g : Bool} {H G : Heap} {b : Nat} {l s : Bytes} (h : BldG g H G b l) (hl : l.length + s.length ≤ 140737488355328) :
    ACalls Tryz.prog 56 [bldP b, .str s] G fun x G' => x = .tup [.int .i64 s.length, .nilIface] ∧ BldG g H G' b (l ++ s) ∧ BKept b G G' := by
  obtain ⟨h1, h2, p, buf, h3, h4, h5⟩ := h
  have hc := copyCheck_calls h4 h3
  have hm : (s.map fun b : UInt8 => [AV.int .u8 b.toNat]) = s.map bcell := rfl
  rcases h5 with ⟨rfl, rfl⟩ | ⟨t, rfl, t2, t3, t4, t9⟩
  · refine ACalls.of_code (X := { pure := pu0 }) pu0_ok Tryz.func56 (by kernel_rfl) rfl (by kernel_rfl) (Nat.le_of_ble_eq_true rfl) ?_
    simp -implicitDefEqProofs only [go_sem, reduceEqDiff, reduceAdd, reduceLeDiff, reduceLT, reduceMul, reduceEq, Int.reduceLT, reduceLE, Int.reduceAdd, reduceSub, reduceToNat, UInt8.reduceToNat, Tryz.f56]
    refine hc.next1 ?_
    simp -implicitDefEqProofs only [go_sem, reduceEqDiff, reduceAdd, reduceLeDiff, reduceLT, reduceMul, reduceEq, Int.reduceLT, reduceLE, Int.reduceAdd, reduceSub, reduceToNat, UInt8.reduceToNat, hm]
    refine app_snil (by simp at hl ⊢; omega) (by simp at hl ⊢; omega) (fun hn => ?_) (fun hn t' ht' => ?_)
    · have hs : s = [] := by simpa using hn
      subst hs
      simp -implicitDefEqProofs only [go_sem, reduceEqDiff, reduceAdd, reduceLeDiff, reduceLT, reduceMul, reduceEq, Int.reduceLT, reduceLE, Int.reduceAdd, reduceSub, reduceToNat, UInt8.reduceToNat]
      refine Done.now ⟨rfl, ⟨h1.put' h2 _, h2, _, _, put_same _ _ _, .inr rfl, .inl ⟨rfl, rfl⟩⟩, fun i o hi hb _ => by rw [put_ne _ _ _ _ hb]; exact hi⟩
    · have n1 := (heap_none ht').1
      have n2 := (heap_none ht').2.1
      have n3 := (heap_none ht').2.2
      have n4 : H t' = none := by
        cases hh : H t' with
        | none => rfl
        | some x => have := h1 t' x hh; rw [n3] at this; cases this
      simp -implicitDefEqProofs only [go_sem, reduceEqDiff, reduceAdd, reduceLeDiff, reduceLT, reduceMul, reduceEq, Int.reduceLT, reduceLE, Int.reduceAdd, reduceSub, reduceToNat, UInt8.reduceToNat, put_ne, n2]
      refine Done.now ⟨rfl, ⟨((h1.put' h2 _).put' n4 _).put' h2 _, h2, _, _, put_same _ _ _, .inr rfl, .inr ⟨t', rfl, n4, ?_, n1, fun _ => by simpa using hn⟩⟩, fun i o hi hb _ => ?_⟩
      · rw [put_ne _ _ _ _ n1, put_same]; simp
      · have n5 : ¬ i = t' := fun e => by subst e; rw [n3] at hi; cases hi
        rw [put_ne _ _ _ _ hb, put_ne _ _ _ _ n5, put_ne _ _ _ _ hb]; exact hi
  · have htk : tokOf G b = some t := by simp [tokOf, h3]
    have t5 : (G.put b (.cells [bldP b, .sl (l.map bcell) (.tok t 1 (some 5))])) t = some (.tail ((l.map bcell).length * 1)) := by
      rw [put_ne _ _ _ _ t4]; simpa using t3
    refine ACalls.of_code (X := { pure := pu0 }) pu0_ok Tryz.func56 (by kernel_rfl) rfl (by kernel_rfl) (Nat.le_of_ble_eq_true rfl) ?_
    simp -implicitDefEqProofs only [go_sem, reduceEqDiff, reduceAdd, reduceLeDiff, reduceLT, reduceMul, reduceEq, Int.reduceLT, reduceLE, Int.reduceAdd, reduceSub, reduceToNat, UInt8.reduceToNat, Tryz.f56]
    refine hc.next1 ?_
    simp -implicitDefEqProofs only [go_sem, reduceEqDiff, reduceAdd, reduceLeDiff, reduceLT, reduceMul, reduceEq, Int.reduceLT, reduceLE, Int.reduceAdd, reduceSub, reduceToNat, UInt8.reduceToNat, hm]
    refine app_tok' (e := tiU8) (bcell_len l) t5 (by simp at hl ⊢; omega) (by simp at hl ⊢; omega) (fun t' ht' => ?_)
    have n1 := (heap_none ht').1
    have n2 := (heap_none ht').2.1
    have n3 := (heap_none ht').2.2
    have n4 : H t' = none := by
      cases hh : H t' with
      | none => rfl
      | some x => have := h1 t' x hh; rw [n3] at this; cases this
    have n6 : ¬ b = t := fun e => t4 e.symm
    have n7 : H.Sub ((G.put b (.cells [bldP b, .sl (l.map bcell) (.tok t 1 (some 5))])).del t) := fun i o hi => by
      rw [del_ne (fun e => by subst e; rw [t2] at hi; cases hi)]
      exact h1.put' h2 _ i o hi
    simp -implicitDefEqProofs only [go_sem, reduceEqDiff, reduceAdd, reduceLeDiff, reduceLT, reduceMul, reduceEq, Int.reduceLT, reduceLE, Int.reduceAdd, reduceSub, reduceToNat, UInt8.reduceToNat, put_ne, n2, del_ne, n6]
    refine Done.now ⟨rfl, ⟨(n7.put' n4 _).put' h2 _, h2, _, _, put_same _ _ _, .inr rfl, .inr ⟨t', by rw [List.map_append], n4, ?_, n1, fun e => by simp [t9 e]⟩⟩, fun i o hi hb hk => ?_⟩
    · rw [put_ne _ _ _ _ n1, put_same]; simp
    · have n5 : ¬ i = t' := fun e => by subst e; rw [n3] at hi; cases hi
      have n8 : ¬ i = t := fun e => hk (by rw [htk, e])
      rw [put_ne _ _ _ _ hb, put_ne _ _ _ _ n5, del_ne n8, put_ne _ _ _ _ hb]; exact hi
theorem bldString_calls {g : Bool} {H G : Heap} {b : Nat} {l : Bytes} (h : BldG g H G b l) (hl : l.length ≤ 140737488355328) (hg : g = true → l ≠ []) : ACalls Tryz.prog 57 [bldP b] G fun x G' => x = .str l ∧ G' = G := by
  obtain ⟨h1, h2, p, buf, h3, h4, h5⟩ := h
  rcases h5 with ⟨rfl, rfl⟩ | ⟨t, rfl, t2, t3, t4, t9⟩
  · refine ACalls.of_code (X := { pure := pu0 }) pu0_ok Tryz.func57 (by kernel_rfl) rfl (by kernel_rfl) (Nat.le_of_ble_eq_true rfl) ?_
    simp -implicitDefEqProofs only [go_sem, reduceEqDiff, reduceAdd, reduceLeDiff, reduceLT, reduceMul, reduceEq, Int.reduceLT, reduceLE, Int.reduceAdd, reduceSub, reduceToNat, UInt8.reduceToNat, Tryz.f57, h3]
    exact Done.now ⟨rfl, rfl⟩
  · have hm : l.map bcell = l.map fun b : UInt8 => [AV.int .u8 b.toNat] := rfl
    have hl0 : ¬ l = [] := by cases g with
      | true => exact hg rfl
      | false => exact t9 rfl
    refine ACalls.of_code (X := { pure := pu0 }) pu0_ok Tryz.func57 (by kernel_rfl) rfl (by kernel_rfl) (Nat.le_of_ble_eq_true rfl) ?_
    simp -implicitDefEqProofs only [go_sem, reduceEqDiff, reduceAdd, reduceLeDiff, reduceLT, reduceMul, reduceEq, Int.reduceLT, reduceLE, Int.reduceAdd, reduceSub, reduceToNat, UInt8.reduceToNat, Tryz.f57, h3, hm, hl0]
    exact ⟨by omega, Done.now ⟨rfl, rfl⟩⟩
/-! ### In passing -/
theorem writeString_k {g : Bool} {H G : Heap} {b : Nat} {l s : Bytes} (h : BldG g H G b l) (hl : l.length + s.length ≤ 140737488355328) {K : K1} (hK : ∀ G', BldG g H G' b (l ++ s) → BKept b G G' → K (.tup [.int .i64 s.length, .nilIface]) G') :
    ACalls Tryz.prog 56 [bldP b, .str s] G K := by
  refine (writeString_calls h hl).mono ?_
  rintro x G' ⟨rfl, h1, h2⟩
  exact hK G' h1 h2
theorem bldString_k {g : Bool} {H G : Heap} {b : Nat} {l : Bytes} (h : BldG g H G b l) (hl : l.length ≤ 140737488355328) (hg : g = true → l ≠ []) {K : K1} (hK : K (.str l) G) : ACalls Tryz.prog 57 [bldP b] G K := (bldString_calls h hl hg).pure_next _ hK
end Go.Proofs

/- Small things: objects by name; pure functions by what they answer. -/
namespace Go.Proofs
open Go Go.Abs
set_option linter.unusedSimpArgs false
set_option linter.unusedVariables false
theorem getD_get' {α : Type} {l : List α} {i : Nat} (h : i < l.length) : ∃ c, l[i]? = some c := ⟨l[i], List.getElem?_eq_getElem h⟩
theorem sub_none {H G : Heap} (h : H.Sub G) {i : Nat} (hi : G i = none) : H i = none := by
  cases hh : H i with
  | none => rfl
  | some x => have := h i x hh; rw [hi] at this; cases this
theorem put_self {H : Heap} {i : Nat} {a : AObj} (h : H i = some a) : H.put i a = H := by
  funext k
  unfold Heap.put
  split
  · rename_i e; rw [e, h]
  · rfl
theorem obj_new {H0 H G : Heap} {id : Nat} {o : AObj} (e : H.put id o = G) (hid : H id = none) (hS : H0.Sub H) : H0 id = none ∧ H0.Sub G ∧ G id = some o ∧ H.Sub G := by
  subst e
  exact ⟨sub_none hS hid, hS.put' (sub_none hS hid) o, put_same _ _ _, (Heap.Sub.rfl' H).put' hid o⟩
theorem obj_ne {G : Heap} {i j : Nat} {o : AObj} (hi : G i = some o) (hj : G j = none) : ¬ i = j := fun e => by rw [e, hj] at hi; cases hi
theorem obj_sub {H0 H G : Heap} {id : Nat} {o : AObj} (e : H.put id o = G) (hid : H0 id = none) (hS : H0.Sub H) : H0.Sub G := by
  subst e
  exact hS.put' hid o
theorem obj_at {H G : Heap} {id : Nat} {o : AObj} (e : H.put id o = G) : G id = some o := by
  subst e
  exact put_same _ _ _
theorem obj_keep {H G : Heap} {id i : Nat} {o x : AObj} (e : H.put id o = G) (hne : ¬ i = id) (h : H i = some x) : G i = some x := by
  subst e
  rw [put_ne _ _ _ _ hne]; exact h
/-- A function that answers one thing and leaves the heap alone, told by how its arguments are written. -/
def Pur (P : Program) (f : FuncId) (s : List AV → Option AV) : Prop := ∀ xs v, s xs = some v → ∀ H, ACalls P f xs H fun x H' => x = v ∧ H' = H
noncomputable def spF {α : Type} (enc : α → List AV) (pre : α → Prop) (F : α → AV) : List AV → Option AV :=
  open Classical in fun xs => if h : ∃ a, enc a = xs ∧ pre a then some (F h.choose) else none
theorem spF_eq {α : Type} {enc : α → List AV} {pre : α → Prop} {F : α → AV} (inj : ∀ a b, enc a = enc b → F a = F b) (a : α) (h : pre a) : spF enc pre F (enc a) = some (F a) := by
  have hx : ∃ b, enc b = enc a ∧ pre b := ⟨a, rfl, h⟩
  unfold spF
  rw [dif_pos hx, inj _ _ hx.choose_spec.1]
theorem spF_ok {P : Program} {f : FuncId} {α : Type} {enc : α → List AV} {pre : α → Prop} {F : α → AV} (h : ∀ a H, pre a → ACalls P f (enc a) H fun x H' => x = F a ∧ H' = H) : Pur P f (spF enc pre F) := by
  intro xs v hv H
  unfold spF at hv
  split at hv
  · rename_i hx
    obtain ⟨h1, h2⟩ := hx.choose_spec
    cases hv
    have := h hx.choose H h2
    rw [h1] at this
    exact this
  · cases hv
theorem take_eq_succ {α : Type} {a b : List α} {i : Nat} {x y : α} (ha : a[i]? = some x) (hb : b[i]? = some y) : a.take (i + 1) = b.take (i + 1) ↔ a.take i = b.take i ∧ x = y := by
  rw [List.take_add_one, List.take_add_one, ha, hb]
  constructor
  · intro h
    have hl : (a.take i).length = (b.take i).length := by
      have h1 : i < a.length := (List.getElem?_eq_some_iff.1 ha).1
      have h2 : i < b.length := (List.getElem?_eq_some_iff.1 hb).1
      simp; omega
    have := List.append_inj h hl
    exact ⟨this.1, by simpa using this.2⟩
  · rintro ⟨h1, rfl⟩; rw [h1]
theorem get_some {α : Type} {l : List α} {i : Nat} (h : i < l.length) : ∃ x, l[i]? = some x := ⟨l[i], List.getElem?_eq_getElem h⟩
end Go.Proofs
