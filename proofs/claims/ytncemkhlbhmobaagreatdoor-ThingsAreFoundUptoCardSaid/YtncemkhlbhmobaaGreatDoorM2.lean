/-
  Walks and plain laws, part 2.
-/
import Derived.Test.YtncemkhlbhmobaaGreatDoorAbs4
import Derived.Test.YtncemkhlbhmobaaGreatDoorTy
import Derived.IntWalk
import Derived.Test.YtncemkhlbhmobaaGreatDoorM1
/- Walks of Go's functions on strings: Index, Count, Split (of one byte), Compare. -/
namespace Go.Proofs
open Go Go.Abs
open Nat (reduceEqDiff reduceAdd reduceLeDiff reduceLT reduceMul)
open Int (reduceEq reduceLE reduceSub reduceToNat)
set_option linter.unusedSimpArgs false
set_option linter.unusedVariables false
def sIdxB : List AV → Option AV := fn2 .str (.int .u8) fun s c => some (.int .i64 (Lib.indexByte s c.toNat.toUInt8))
def sCntB : List AV → Option AV := fn2 .str (.int .u8) fun s c => some (.int .i64 (Lib.countByte s c.toNat.toUInt8))
def sCmpS : List AV → Option AV := fn2 .str .str fun s t => some (.int .i64 (Lib.compareBytes s t))
def one1 : Bytes → Option UInt8
  | [b] => some b
  | _ => none
theorem one1_eq (b : UInt8) : one1 [b] = some b := rfl
theorem one1_some {s : Bytes} {b : UInt8} (h : one1 s = some b) : s = [b] := by
  unfold one1 at h
  split at h
  · cases h; rfl
  · cases h
def sCnt : List AV → Option AV := fn2 .str .str fun s p => (one1 p).bind fun c => some (.int .i64 (s.count c))
def sSplit : List AV → Option AV := fn2 .str .str fun s p => (one1 p).bind fun c => if s.length ≤ Room then some (.sl ((splitB c s).map encBs) .unk) else none
attribute [go_sem] one1_eq
def puK1 : Pures := putP 108 sCmpS (putP 137 sCntB (putP 139 sIdxB pu0))
theorem puK1_dyn : isDyn puK1 = false := by simp only [puK1, go_sem, Nat.reduceEqDiff]
attribute [go_sem] puK1_dyn
theorem sIdxB_ok {P : Program} {f : FuncId} (h : ∀ s c H, ACalls P f [.str s, .int .u8 c] H fun x H' => x = .int .i64 (Lib.indexByte s c.toNat.toUInt8) ∧ H' = H) : ∀ xs v, sIdxB xs = some v → ∀ H, ACalls P f xs H fun x H' => x = v ∧ H' = H := by
  intro xs v hv H
  obtain ⟨x, y, p, q, rfl, h1, h2, h3⟩ := fn2_some hv
  cases h3; cases Rd.str_some h1; cases Rd.int_some h2
  exact h _ _ H
theorem sCntB_ok {P : Program} {f : FuncId} (h : ∀ s c H, ACalls P f [.str s, .int .u8 c] H fun x H' => x = .int .i64 (Lib.countByte s c.toNat.toUInt8) ∧ H' = H) : ∀ xs v, sCntB xs = some v → ∀ H, ACalls P f xs H fun x H' => x = v ∧ H' = H := by
  intro xs v hv H
  obtain ⟨x, y, p, q, rfl, h1, h2, h3⟩ := fn2_some hv
  cases h3; cases Rd.str_some h1; cases Rd.int_some h2
  exact h _ _ H
theorem sCmpS_ok {P : Program} {f : FuncId} (h : ∀ s t H, ACalls P f [.str s, .str t] H fun x H' => x = .int .i64 (Lib.compareBytes s t) ∧ H' = H) : ∀ xs v, sCmpS xs = some v → ∀ H, ACalls P f xs H fun x H' => x = v ∧ H' = H := by
  intro xs v hv H
  obtain ⟨x, y, p, q, rfl, h1, h2, h3⟩ := fn2_some hv
  cases h3; cases Rd.str_some h1; cases Rd.str_some h2
  exact h _ _ H
theorem idxBX_calls (s : Bytes) (c : Int) (H : Heap) : ACalls Tryz.prog 139 [.str s, .int .u8 c] H fun x H' => x = .int .i64 (Lib.indexByte s c.toNat.toUInt8) ∧ H' = H :=
  indexByteString_calls Tryz.func139 (by kernel_rfl) rfl (by kernel_rfl) (by kernel_rfl) _ _ H
theorem cntBX_calls (s : Bytes) (c : Int) (H : Heap) : ACalls Tryz.prog 137 [.str s, .int .u8 c] H fun x H' => x = .int .i64 (Lib.countByte s c.toNat.toUInt8) ∧ H' = H :=
  countString_calls Tryz.func137 (by kernel_rfl) rfl (by kernel_rfl) (by kernel_rfl) _ _ H
theorem cmpX_calls (s t : Bytes) (H : Heap) : ACalls Tryz.prog 108 [.str s, .str t] H fun x H' => x = .int .i64 (Lib.compareBytes s t) ∧ H' = H :=
  cmpString_calls Tryz.func108 (by kernel_rfl) rfl (by kernel_rfl) (by kernel_rfl) _ _ H
theorem puK1_ok : PuOK Tryz.prog puK1 := .put (.put (.put (.zero) (sIdxB_ok idxBX_calls)) (sCntB_ok cntBX_calls)) (sCmpS_ok cmpX_calls)
theorem sIdxB_eq (s : Bytes) (c : Int) : sIdxB [.str s, .int .u8 c] = some (.int .i64 (Lib.indexByte s c.toNat.toUInt8)) := rfl
theorem sCntB_eq (s : Bytes) (c : Int) : sCntB [.str s, .int .u8 c] = some (.int .i64 (Lib.countByte s c.toNat.toUInt8)) := rfl
theorem sCmpS_eq (s t : Bytes) : sCmpS [.str s, .str t] = some (.int .i64 (Lib.compareBytes s t)) := rfl
theorem sCnt_eq (s : Bytes) (c : UInt8) : sCnt [.str s, .str [c]] = some (.int .i64 (s.count c)) := rfl
theorem sSplit_eq (s : Bytes) (c : UInt8) : sSplit [.str s, .str [c]] = if s.length ≤ Room then some (.sl ((splitB c s).map encBs) .unk) else none := rfl
theorem u8_nat (c : UInt8) : c.toNat.toUInt8 = c := by simp
theorem indexByte_calls (s : Bytes) (c : Int) (H : Heap) : ACalls Tryz.prog 125 [.str s, .int .u8 c] H fun x H' => x = .int .i64 (Lib.indexByte s c.toNat.toUInt8) ∧ H' = H := by
  refine ACalls.of_code (X := { pure := puK1 }) puK1_ok Tryz.func125 (by kernel_rfl) rfl (by kernel_rfl) (Nat.le_of_ble_eq_true rfl) ?_
  simp -implicitDefEqProofs only [go_sem, reduceEqDiff, reduceAdd, reduceLeDiff, reduceLT, reduceMul, reduceEq, Int.reduceLT, reduceLE, Int.reduceAdd, reduceSub, reduceToNat, UInt8.reduceToNat, Tryz.f125, puK1, sIdxB_eq]
  exact Done.now ⟨rfl, rfl⟩
theorem compareString_calls (s t : Bytes) (H : Heap) : ACalls Tryz.prog 79 [.str s, .str t] H fun x H' => x = .int .i64 (Lib.compareBytes s t) ∧ H' = H := by
  refine ACalls.of_code (X := { pure := puK1 }) puK1_ok Tryz.func79 (by kernel_rfl) rfl (by kernel_rfl) (Nat.le_of_ble_eq_true rfl) ?_
  simp -implicitDefEqProofs only [go_sem, reduceEqDiff, reduceAdd, reduceLeDiff, reduceLT, reduceMul, reduceEq, Int.reduceLT, reduceLE, Int.reduceAdd, reduceSub, reduceToNat, UInt8.reduceToNat, Tryz.f79, puK1, sCmpS_eq]
  exact Done.now ⟨rfl, rfl⟩
def puK2 : Pures := putP 79 sCmpS (putP 125 sIdxB puK1)
theorem puK2_dyn : isDyn puK2 = false := by simp only [puK2, go_sem, Nat.reduceEqDiff]
attribute [go_sem] puK2_dyn
theorem puK2_ok : PuOK Tryz.prog puK2 := .put (.put (puK1_ok) (sIdxB_ok indexByte_calls)) (sCmpS_ok compareString_calls)
theorem strCompare_calls (s t : Bytes) (H : Heap) : ACalls Tryz.prog 37 [.str s, .str t] H fun x H' => x = .int .i64 (Lib.compareBytes s t) ∧ H' = H := by
  refine ACalls.of_code (X := { pure := puK2 }) puK2_ok Tryz.func37 (by kernel_rfl) rfl (by kernel_rfl) (Nat.le_of_ble_eq_true rfl) ?_
  simp -implicitDefEqProofs only [go_sem, reduceEqDiff, reduceAdd, reduceLeDiff, reduceLT, reduceMul, reduceEq, Int.reduceLT, reduceLE, Int.reduceAdd, reduceSub, reduceToNat, UInt8.reduceToNat, Tryz.f37, puK2, sCmpS_eq]
  exact Done.now ⟨rfl, rfl⟩
theorem indexL_calls (s : Bytes) (c : UInt8) (H : Heap) : ACalls Tryz.prog 99 [.str s, .str [c]] H fun x H' => x = .int .i64 (Lib.indexByte s c) ∧ H' = H := by
  refine ACalls.of_code (X := { pure := puK2 }) puK2_ok Tryz.func99 (by kernel_rfl) rfl (by kernel_rfl) (Nat.le_of_ble_eq_true rfl) ?_
  simp -implicitDefEqProofs only [go_sem, reduceEqDiff, reduceAdd, reduceLeDiff, reduceLT, reduceMul, reduceEq, Int.reduceLT, reduceLE, Int.reduceAdd, reduceSub, reduceToNat, UInt8.reduceToNat, Tryz.f99, puK2, sIdxB_eq, puK1]
  repeat' (first | (with_reducible refine gd_intro (fun h => ?_) (fun h => ?_) <;> first | (exact absurd h (by decide)) | (simp at h; done) | simp -implicitDefEqProofs (disch := omega) only [go_sem, reduceEqDiff, reduceAdd, reduceLeDiff, reduceLT, reduceMul, reduceEq, Int.reduceLT, reduceLE, Int.reduceAdd, reduceSub, reduceToNat, UInt8.reduceToNat, Go.IntWalk.i64_in, puK2, sIdxB_eq, puK1, *]) | (with_reducible refine cnd_intro (fun h => ?_) (fun h => ?_) <;> first | (exact absurd h (by decide)) | (simp at h; done) | simp -implicitDefEqProofs (disch := omega) only [go_sem, reduceEqDiff, reduceAdd, reduceLeDiff, reduceLT, reduceMul, reduceEq, Int.reduceLT, reduceLE, Int.reduceAdd, reduceSub, reduceToNat, UInt8.reduceToNat, Go.IntWalk.i64_in, puK2, sIdxB_eq, puK1, *]))
  · simp only [decide_eq_true_eq] at h
    subst h
    exact Done.now ⟨by simp [Lib.indexByte], rfl⟩
  · exact Done.now ⟨by rw [u8_nat], rfl⟩
def sIdxL : List AV → Option AV := fn2 .str .str fun s p => (one1 p).bind fun c => some (.int .i64 (Lib.indexByte s c))
theorem sIdxL_eq (s : Bytes) (c : UInt8) : sIdxL [.str s, .str [c]] = some (.int .i64 (Lib.indexByte s c)) := rfl
theorem one_of {α : Type} {p : Bytes} {F : UInt8 → Option α} {v : α} (h : (one1 p).bind F = some v) : ∃ c, p = [c] ∧ F c = some v := by
  rw [Option.bind_eq_some_iff] at h
  obtain ⟨c, h1, h2⟩ := h
  exact ⟨c, one1_some h1, h2⟩
def puK3 : Pures := putP 99 sIdxL puK2
theorem puK3_dyn : isDyn puK3 = false := by simp only [puK3, go_sem, Nat.reduceEqDiff]
attribute [go_sem] puK3_dyn
theorem sIdxL_ok {P : Program} {f : FuncId} (h : ∀ s c H, ACalls P f [.str s, .str [c]] H fun x H' => x = .int .i64 (Lib.indexByte s c) ∧ H' = H) : ∀ xs v, sIdxL xs = some v → ∀ H, ACalls P f xs H fun x H' => x = v ∧ H' = H := by
  intro xs v hv H
  obtain ⟨x, y, p, q, rfl, h1, h2, h3⟩ := fn2_some hv
  obtain ⟨c, rfl, h3⟩ := one_of h3
  cases h3; cases Rd.str_some h1; cases Rd.str_some h2
  exact h _ _ H
theorem puK3_ok : PuOK Tryz.prog puK3 := .put (puK2_ok) (sIdxL_ok indexL_calls)
theorem index_calls (s : Bytes) (c : UInt8) (H : Heap) : ACalls Tryz.prog 58 [.str s, .str [c]] H fun x H' => x = .int .i64 (Lib.indexByte s c) ∧ H' = H := by
  refine ACalls.of_code (X := { pure := puK3 }) puK3_ok Tryz.func58 (by kernel_rfl) rfl (by kernel_rfl) (Nat.le_of_ble_eq_true rfl) ?_
  simp -implicitDefEqProofs only [go_sem, reduceEqDiff, reduceAdd, reduceLeDiff, reduceLT, reduceMul, reduceEq, Int.reduceLT, reduceLE, Int.reduceAdd, reduceSub, reduceToNat, UInt8.reduceToNat, Tryz.f58, puK3, sIdxL_eq]
  exact Done.now ⟨rfl, rfl⟩
theorem count_calls (s : Bytes) (c : UInt8) (H : Heap) : ACalls Tryz.prog 121 [.str s, .str [c]] H fun x H' => x = .int .i64 (s.count c) ∧ H' = H := by
  refine ACalls.of_code (X := { pure := puK3 }) puK3_ok Tryz.func121 (by kernel_rfl) rfl (by kernel_rfl) (Nat.le_of_ble_eq_true rfl) ?_
  simp -implicitDefEqProofs only [go_sem, reduceEqDiff, reduceAdd, reduceLeDiff, reduceLT, reduceMul, reduceEq, Int.reduceLT, reduceLE, Int.reduceAdd, reduceSub, reduceToNat, UInt8.reduceToNat, Tryz.f121, puK3, puK2, puK1, sCntB_eq]
  repeat' (first | (with_reducible refine gd_intro (fun h => ?_) (fun h => ?_) <;> first | (exact absurd h (by decide)) | (simp at h; done) | simp -implicitDefEqProofs (disch := omega) only [go_sem, reduceEqDiff, reduceAdd, reduceLeDiff, reduceLT, reduceMul, reduceEq, Int.reduceLT, reduceLE, Int.reduceAdd, reduceSub, reduceToNat, UInt8.reduceToNat, Go.IntWalk.i64_in, puK3, puK2, puK1, sCntB_eq, *]) | (with_reducible refine cnd_intro (fun h => ?_) (fun h => ?_) <;> first | (exact absurd h (by decide)) | (simp at h; done) | simp -implicitDefEqProofs (disch := omega) only [go_sem, reduceEqDiff, reduceAdd, reduceLeDiff, reduceLT, reduceMul, reduceEq, Int.reduceLT, reduceLE, Int.reduceAdd, reduceSub, reduceToNat, UInt8.reduceToNat, Go.IntWalk.i64_in, puK3, puK2, puK1, sCntB_eq, *]))
  exact Done.now ⟨by rw [u8_nat]; rfl, rfl⟩
def puK4 : Pures := putP 121 sCnt (putP 58 sIdxL puK3)
theorem puK4_dyn : isDyn puK4 = false := by simp only [puK4, go_sem, Nat.reduceEqDiff]
attribute [go_sem] puK4_dyn
theorem sCnt_ok {P : Program} {f : FuncId} (h : ∀ s c H, ACalls P f [.str s, .str [c]] H fun x H' => x = .int .i64 (s.count c) ∧ H' = H) : ∀ xs v, sCnt xs = some v → ∀ H, ACalls P f xs H fun x H' => x = v ∧ H' = H := by
  intro xs v hv H
  obtain ⟨x, y, p, q, rfl, h1, h2, h3⟩ := fn2_some hv
  obtain ⟨c, rfl, h3⟩ := one_of h3
  cases h3; cases Rd.str_some h1; cases Rd.str_some h2
  exact h _ _ H
theorem puK4_ok : PuOK Tryz.prog puK4 := .put (.put (puK3_ok) (sIdxL_ok index_calls)) (sCnt_ok count_calls)
/-- What the cells of the slice hold while it is filled. -/
def fillC (done : List Bytes) (n : Nat) : List AV := done.map AV.str ++ List.replicate (n - done.length) (.str [])
theorem fillC_len {done : List Bytes} {n : Nat} (h : done.length ≤ n) : (fillC done n).length = n := by
  simp [fillC]; omega
theorem fillC_set {done : List Bytes} {n : Nat} (h : done.length < n) (p : Bytes) : (fillC done n).set done.length (.str p) = fillC (done ++ [p]) n := by
  unfold fillC
  rw [List.set_append, if_neg (by simp)]
  obtain ⟨k, hk⟩ : ∃ k, n - done.length = k + 1 := ⟨n - done.length - 1, by omega⟩
  have : n - (done ++ [p]).length = k := by simp; omega
  rw [hk, this, List.replicate_succ]
  simp
theorem split_calls (s : Bytes) (c : UInt8) (H : Heap) (hs : s.length ≤ Room) :
    ACalls Tryz.prog 86 [.str s, .str [c], .int .i64 0, .int .i64 (-1)] H fun x H' => x = .sl ((splitB c s).map encBs) .unk ∧ H' = H := by
  have hcnt : s.count c ≤ s.length := List.count_le_length
  have hR : Room = 1099511627776 := rfl
  rw [hR] at hs
  clear hR
  refine ACalls.of_code (X := { pure := puK4 }) puK4_ok Tryz.func86 (by kernel_rfl) rfl (by kernel_rfl) (Nat.le_of_ble_eq_true rfl) ?_
  simp -implicitDefEqProofs only [go_sem, reduceEqDiff, reduceAdd, reduceLeDiff, reduceLT, reduceMul, reduceEq, Int.reduceLT, reduceLE, Int.reduceAdd, reduceSub, reduceToNat, UInt8.reduceToNat, Tryz.f86, puK4, sCnt_eq, sIdxL_eq]
  repeat' (first | (with_reducible refine gd_intro (fun h => ?_) (fun h => ?_) <;> first | (exact absurd h (by decide)) | (simp at h; done) | simp -implicitDefEqProofs (disch := omega) only [go_sem, reduceEqDiff, reduceAdd, reduceLeDiff, reduceLT, reduceMul, reduceEq, Int.reduceLT, reduceLE, Int.reduceAdd, reduceSub, reduceToNat, UInt8.reduceToNat, Go.IntWalk.i64_in, puK4, sCnt_eq, sIdxL_eq, *]) | (with_reducible refine cnd_intro (fun h => ?_) (fun h => ?_) <;> first | (exact absurd h (by decide)) | (simp at h; done) | simp -implicitDefEqProofs (disch := omega) only [go_sem, reduceEqDiff, reduceAdd, reduceLeDiff, reduceLT, reduceMul, reduceEq, Int.reduceLT, reduceLE, Int.reduceAdd, reduceSub, reduceToNat, UInt8.reduceToNat, Go.IntWalk.i64_in, puK4, sCnt_eq, sIdxL_eq, *]))
  have hm : min ((s.count c : Int) + 1) ((s.length : Int) + 1) = ((s.count c + 1 : Nat) : Int) := by omega
  rw [hm]
  with_reducible refine makeSlice_ms (e := tiStr) ?_ ?_ ?_ ?_ ?_ ?_
  · simp -implicitDefEqProofs only [go_sem, reduceEqDiff, reduceAdd, reduceLeDiff, reduceLT, reduceMul, reduceEq, Int.reduceLT, reduceLE, Int.reduceAdd, reduceSub, reduceToNat, UInt8.reduceToNat]
  · decide
  · omega
  · simp only []; omega
  · omega
  intro id hid
  have hw : (((s.count c + 1 : Nat) : Int) - 1) = (s.count c : Int) := by omega
  simp -implicitDefEqProofs (disch := omega) only [go_sem, reduceEqDiff, reduceAdd, reduceLeDiff, reduceLT, reduceMul, reduceEq, Int.reduceLT, reduceLE, Int.reduceAdd, reduceSub, reduceToNat, UInt8.reduceToNat, Go.IntWalk.i64_in, puK4, sCnt_eq, sIdxL_eq, *]
  have hflat : ([AV.str []] :: List.replicate (s.count c) [AV.str []]).flatten = fillC [] (s.count c + 1) := by
    simp [fillC, List.flatten_replicate_singleton, List.replicate_succ]
  rw [hflat]
  refine aloop_intro (σ := List Bytes × Bytes) (fun p => [(0, .str p.2), (1, .str [c]), (2, .int .i64 0), (3, .int .i64 (s.count c)), (9, .ms id 0 (s.count c + 1) 1), (10, .int .i64 p.1.length)])
    (fun p G => G = H.put id (.cells (fillC p.1 (s.count c + 1))) ∧ splitB c s = p.1 ++ splitB c p.2 ∧ p.2.count c + p.1.length = s.count c ∧ p.2.length ≤ s.length) (fun p => p.2.length) ([], s) ?_ ?_ ?_
  · simp -implicitDefEqProofs (disch := omega) only [go_sem, reduceEqDiff, reduceAdd, reduceLeDiff, reduceLT, reduceMul, reduceEq, Int.reduceLT, reduceLE, Int.reduceAdd, reduceSub, reduceToNat, UInt8.reduceToNat, Go.IntWalk.i64_in, *]
  · simp
  · rintro ⟨done, rest⟩ r G ⟨h0, h1, h2, h3, h9, h10, -⟩ ⟨rfl, hspl, hct, hl⟩
    simp only at h0 h1 h2 h3 h9 h10 hspl hct hl
    have hcr : rest.count c ≤ rest.length := List.count_le_length
    simp -implicitDefEqProofs only [go_sem, reduceEqDiff, reduceAdd, reduceLeDiff, reduceLT, reduceMul, reduceEq, Int.reduceLT, reduceLE, Int.reduceAdd, reduceSub, reduceToNat, UInt8.reduceToNat, h0, h1, h2, h3, h9, h10, puK4, sIdxL_eq]
    refine cnd_intro (fun hlt => ?_) (fun hlt => ?_)
    · simp only [decide_eq_true_eq] at hlt
      obtain ⟨m, hm2⟩ : ∃ m : Nat, Lib.indexByte rest c = (m : Int) := by
        have h1 := Lib.indexByte_ge rest c
        have h2 : ¬ Lib.indexByte rest c = -1 := fun e => by have := indexByte_none.1 e; omega
        exact ⟨(Lib.indexByte rest c).toNat, by omega⟩
      obtain ⟨i1, i2, i3⟩ := indexByte_some hm2
      have hb : decide ((m : Int) < 0) = false := by simp
      simp -implicitDefEqProofs (disch := omega) only [go_sem, reduceEqDiff, reduceAdd, reduceLeDiff, reduceLT, reduceMul, reduceEq, Int.reduceLT, reduceLE, Int.reduceAdd, reduceSub, reduceToNat, UInt8.reduceToNat, Go.IntWalk.i64_in, h0, h1, h2, h3, h9, h10, puK4, sIdxL_eq, hm2, hb]
      refine ⟨by omega, by omega, by rw [fillC_len (by omega)]; omega, by omega, ?_⟩
      have e1 : ((m : Int) + 1).toNat = m + 1 := by omega
      have e2 : ((m : Int) + 0).toNat = m := by omega
      rw [e1, e2, List.take_length, Nat.mul_one, fillC_set (by omega)]
      refine Again.mk (done ++ [rest.take m], rest.drop (m + 1)) (by simp -implicitDefEqProofs only [go_sem, reduceEqDiff, reduceAdd, reduceLeDiff, reduceLT, reduceMul, reduceEq, Int.reduceLT, reduceLE, Int.reduceAdd, reduceSub, reduceToNat, UInt8.reduceToNat, h0, h1, h2, h3, h9, h10]; simp) ⟨rfl, by rw [hspl, i2]; simp, by simp; omega, by simp; omega⟩ (by simp; omega)
    · simp only [decide_eq_false_iff_not] at hlt
      simp -implicitDefEqProofs (disch := omega) only [go_sem, reduceEqDiff, reduceAdd, reduceLeDiff, reduceLT, reduceMul, reduceEq, Int.reduceLT, reduceLE, Int.reduceAdd, reduceSub, reduceToNat, UInt8.reduceToNat, Go.IntWalk.i64_in, h0, h1, h2, h3, h9, h10, puK4, sIdxL_eq]
      have hz : rest.count c = 0 := by omega
      have hd : done.length = s.count c := by omega
      refine ⟨by omega, by rw [fillC_len (by omega)]; omega, by omega, ?_⟩
      rw [Nat.mul_one, fillC_set (by omega)]
      have e1 : ((done.length : Int) + 1 - 0).toNat = s.count c + 1 := by omega
      rw [e1]
      have e2 : fillC (done ++ [rest]) (s.count c + 1) = (splitB c s).map AV.str := by
        rw [hspl, splitB_none hz]
        simp [fillC, hd]
      rw [e2]
      have e3 : ((splitB c s).map AV.str).length = s.count c + 1 := by rw [List.length_map, splitB_len]
      refine Done.via (Ghost.freeze1 (put_same _ _ _) (by rw [e3]; omega)) (Done.now ⟨?_, del_put _ hid⟩)
      rw [List.drop_zero, List.take_of_length_le (by rw [e3]; omega), List.map_map]
      rfl
def sGen : List AV → Option AV
  | [.str s, .str [c], .int .i64 n, .int .i64 k] => if n = 0 ∧ k = -1 ∧ s.length ≤ Room then some (.sl ((splitB c s).map encBs) .unk) else none
  | _ => none
theorem sGen_eq (s : Bytes) (c : UInt8) : sGen [.str s, .str [c], .int .i64 0, .int .i64 (-1)] = if s.length ≤ Room then some (.sl ((splitB c s).map encBs) .unk) else none := by simp [sGen]
def puK5 : Pures := putP 86 sGen (putP 37 sCmpS puK4)
theorem puK5_dyn : isDyn puK5 = false := by simp only [puK5, go_sem, Nat.reduceEqDiff]
attribute [go_sem] puK5_dyn
theorem sGen_ok : ∀ xs v, sGen xs = some v → ∀ H, ACalls Tryz.prog 86 xs H fun x H' => x = v ∧ H' = H := by
  intro xs v h H
  unfold sGen at h
  split at h
  · split at h
    · rename_i hc
      obtain ⟨rfl, rfl, hr⟩ := hc
      cases h
      exact split_calls _ _ H hr
    · cases h
  · cases h
theorem puK5_ok : PuOK Tryz.prog puK5 := .put (.put (puK4_ok) (sCmpS_ok strCompare_calls)) sGen_ok
theorem splitT_calls (s : Bytes) (c : UInt8) (H : Heap) (hs : s.length ≤ Room) :
    ACalls Tryz.prog 47 [.str s, .str [c]] H fun x H' => x = .sl ((splitB c s).map encBs) .unk ∧ H' = H := by
  refine ACalls.of_code (X := { pure := puK5 }) puK5_ok Tryz.func47 (by kernel_rfl) rfl (by kernel_rfl) (Nat.le_of_ble_eq_true rfl) ?_
  simp -implicitDefEqProofs only [go_sem, reduceEqDiff, reduceAdd, reduceLeDiff, reduceLT, reduceMul, reduceEq, Int.reduceLT, reduceLE, Int.reduceAdd, reduceSub, reduceToNat, UInt8.reduceToNat, Tryz.f47, puK5, sGen_eq, hs]
  exact Done.now ⟨rfl, rfl⟩
theorem sSplit_ok {P : Program} {f : FuncId} (h : ∀ s c H, s.length ≤ Room → ACalls P f [.str s, .str [c]] H fun x H' => x = .sl ((splitB c s).map encBs) .unk ∧ H' = H) : ∀ xs v, sSplit xs = some v → ∀ H, ACalls P f xs H fun x H' => x = v ∧ H' = H := by
  intro xs v hv H
  obtain ⟨x, y, p, q, rfl, h1, h2, h3⟩ := fn2_some hv
  obtain ⟨c, rfl, h3⟩ := one_of h3
  split at h3
  · rename_i hr
    cases h3
    cases Rd.str_some h1
    cases Rd.str_some h2
    exact h _ _ H hr
  · cases h3
def puK : Pures := putP 47 sSplit puK5
theorem puK_dyn : isDyn puK = false := by simp only [puK, go_sem, Nat.reduceEqDiff]
attribute [go_sem] puK_dyn
theorem puK_ok : PuOK Tryz.prog puK := .put (puK5_ok) (sSplit_ok splitT_calls)
end Go.Proofs

/- Sorting by insertion, and leaving out what is there twice: plain Lean, no program. -/
namespace Go.Proofs
open Go Go.Abs
set_option linter.unusedSimpArgs false
set_option linter.unusedVariables false
theorem cmp_lt : ∀ (a b : Bytes), Lib.compareBytes a b < 0 ↔ strLt a b = true
  | [], [] => by simp [Lib.compareBytes, lt_irr]
  | [], b :: s => by
    rw [lt_lex, decide_eq_true_eq]
    simp only [Lib.compareBytes]
    exact ⟨fun _ => List.Lex.nil, fun _ => by decide⟩
  | a :: r, [] => by
    rw [lt_lex, decide_eq_true_eq]
    simp only [Lib.compareBytes]
    exact ⟨fun h => absurd h (by decide), fun h => by cases h⟩
  | a :: r, b :: s => by
    have ih := cmp_lt r s
    rw [lt_lex, decide_eq_true_eq] at ih ⊢
    simp only [Lib.compareBytes]
    by_cases h1 : a < b
    · rw [if_pos h1]
      exact ⟨fun _ => List.Lex.rel h1, fun _ => by decide⟩
    rw [if_neg h1]
    by_cases h2 : b < a
    · rw [if_pos h2]
      refine ⟨fun h => absurd h (by decide), fun h => ?_⟩
      cases h with
      | rel h => exact absurd h h1
      | cons h => exact absurd h2 h1
    · rw [if_neg h2]
      have e : a = b := UInt8.le_antisymm (UInt8.not_lt.1 h2) (UInt8.not_lt.1 h1)
      subst e
      rw [ih]
      exact ⟨fun h => List.Lex.cons h, fun h => by
        cases h with
        | rel h => exact absurd h h1
        | cons h => exact h⟩
section
variable {α : Type} (key : α → Bytes)
/-- No greater. -/
def LeK (a b : α) : Prop := strLt (key b) (key a) = false
variable {key}
theorem LeK.refl (a : α) : LeK key a a := lt_irr _
theorem LeK.of_lt {a b : α} (h : strLt (key a) (key b) = true) : LeK key a b := by
  unfold LeK
  cases hh : strLt (key b) (key a) with
  | false => rfl
  | true => have := lt_tr h hh; rw [lt_irr] at this; cases this
theorem LeK.lt_or {a b : α} (h : LeK key a b) : strLt (key a) (key b) = true ∨ key a = key b := by
  rcases lt_tri (key a) (key b) with t | t | t
  · exact .inl t
  · exact .inr t
  · unfold LeK at h; rw [h] at t; cases t
theorem LeK.of_eq {a b : α} (h : key a = key b) : LeK key a b := by unfold LeK; rw [h]; exact lt_irr _
theorem LeK.trans {a b c : α} (h1 : LeK key a b) (h2 : LeK key b c) : LeK key a c := by
  rcases h1.lt_or with t | t
  · rcases h2.lt_or with u | u
    · exact LeK.of_lt (lt_tr t u)
    · exact LeK.of_lt (u ▸ t)
  · rcases h2.lt_or with u | u
    · exact LeK.of_lt (t ▸ u)
    · exact LeK.of_eq (t.trans u)
theorem LeK.lt_of_lt {a b c : α} (h1 : LeK key a b) (h2 : strLt (key b) (key c) = true) : strLt (key a) (key c) = true := by
  rcases h1.lt_or with t | t
  · exact lt_tr t h2
  · exact t ▸ h2
/-- In order up to a place. -/
def SortTo (key : α → Bytes) (l : List α) (n : Nat) : Prop := ∀ a b x y, a < b → b < n → l[a]? = some x → l[b]? = some y → LeK key x y
/-- In order up to a place, but for the thing at j, which is no greater than those behind it. -/
def SortBut (key : α → Bytes) (l : List α) (n j : Nat) : Prop := ∀ a b x y, a < b → b < n → ¬ b = j → l[a]? = some x → l[b]? = some y → LeK key x y
theorem SortTo.but {l : List α} {n : Nat} (h : SortTo key l n) : SortBut key l (n + 1) n := fun a b x y h1 h2 h3 h4 h5 => h a b x y h1 (by omega) h4 h5
theorem SortBut.stop0 {l : List α} {n : Nat} (h : SortBut key l n 0) : SortTo key l n := fun a b x y h1 h2 h4 h5 => h a b x y h1 h2 (by omega) h4 h5
theorem SortBut.stop {l : List α} {n j : Nat} {u v : α} (h : SortBut key l n j) (hj : 0 < j) (hu : l[j - 1]? = some u) (hv : l[j]? = some v) (hle : LeK key u v) : SortTo key l n := fun a b x y h1 h2 h4 h5 => by
  by_cases e : b = j
  · subst e
    rw [hv] at h5; cases h5
    by_cases e2 : a = b - 1
    · subst e2; rw [hu] at h4; cases h4; exact hle
    · exact (h a (b - 1) x u (by omega) (by omega) (by omega) h4 hu).trans hle
  · exact h a b x y h1 h2 e h4 h5
def swapL (l : List α) (i j : Nat) (u v : α) : List α := (l.set i v).set j u
theorem swapL_get {l : List α} {j : Nat} {u v : α} (hj : 0 < j) (hlt : j < l.length) (a : Nat) : (swapL l j (j - 1) v u)[a]? = if a = j then some u else if a = j - 1 then some v else l[a]? := by
  unfold swapL
  rw [List.getElem?_set, List.getElem?_set]
  by_cases e : j - 1 = a
  · subst e
    rw [if_pos rfl, if_pos (by rw [List.length_set]; omega), if_neg (by omega), if_pos rfl]
  · rw [if_neg e]
    by_cases e2 : j = a
    · subst e2
      rw [if_pos rfl, if_pos rfl, if_pos hlt]
    · rw [if_neg e2, if_neg (fun h => e2 h.symm), if_neg (fun h => e h.symm)]
theorem swap_perm {l : List α} {j : Nat} {u v : α} (hj : 0 < j) (hu : l[j - 1]? = some u) (hv : l[j]? = some v) : (swapL l j (j - 1) v u).Perm l := by
  have h1 : j < l.length := (List.getElem?_eq_some_iff.1 hv).1
  obtain ⟨k, rfl⟩ : ∃ k, j = k + 1 := ⟨j - 1, by omega⟩
  simp only [Nat.add_sub_cancel] at hu ⊢
  have e1 : l = l.take k ++ u :: v :: l.drop (k + 2) := by
    conv => lhs; rw [← List.take_append_drop k l, drop_at hu, drop_at hv]
  have e2 : swapL l (k + 1) k v u = l.take k ++ v :: u :: l.drop (k + 2) := by
    unfold swapL
    refine List.ext_getElem? fun a => ?_
    have hk : (l.take k).length = k := by rw [List.length_take]; omega
    by_cases ha : a < k
    · rw [List.getElem?_set_ne (by omega), List.getElem?_set_ne (by omega), List.getElem?_append_left (by omega), List.getElem?_take, if_pos ha]
    · rw [List.getElem?_append_right (by omega), hk]
      by_cases e : a = k
      · subst e
        rw [List.getElem?_set_self (by rw [List.length_set]; omega)]; simp
      by_cases e2 : a = k + 1
      · subst e2
        rw [List.getElem?_set_ne (by omega), List.getElem?_set_self h1]
        simp
      · rw [List.getElem?_set_ne (by omega), List.getElem?_set_ne (by omega)]
        obtain ⟨t, rfl⟩ : ∃ t, a = k + 2 + t := ⟨a - (k + 2), by omega⟩
        rw [show k + 2 + t - k = t + 2 by omega, List.getElem?_cons_succ, List.getElem?_cons_succ, List.getElem?_drop]
  rw [e2]
  conv => rhs; rw [e1]
  exact List.Perm.append_left _ (List.Perm.swap u v _)
theorem SortBut.swap {l : List α} {n j : Nat} {u v : α} (h : SortBut key l n j) (hj : 0 < j) (hn : j < n) (hu : l[j - 1]? = some u) (hv : l[j]? = some v) (hlt : strLt (key v) (key u) = true) : SortBut key (swapL l j (j - 1) v u) n (j - 1) := fun a b x y h1 h2 h3 h4 h5 => by
  have hlen : j < l.length := (List.getElem?_eq_some_iff.1 hv).1
  rw [swapL_get hj hlen] at h4 h5
  by_cases eb : b = j
  · rw [if_pos eb] at h5
    cases h5
    rw [if_neg (by omega)] at h4
    by_cases ea : a = j - 1
    · rw [if_pos ea] at h4
      cases h4
      exact LeK.of_lt hlt
    · rw [if_neg ea] at h4
      exact h a (j - 1) x u (by omega) (by omega) (by omega) h4 hu
  · rw [if_neg eb, if_neg h3] at h5
    by_cases ea : a = j
    · rw [if_pos ea] at h4
      cases h4
      exact h (j - 1) b u y (by omega) h2 eb hu h5
    rw [if_neg ea] at h4
    by_cases ea2 : a = j - 1
    · rw [if_pos ea2] at h4
      cases h4
      exact h j b v y (by omega) h2 eb hv h5
    · rw [if_neg ea2] at h4
      exact h a b x y h1 h2 eb h4 h5
/-- A list that rises, by places. -/
theorem asc_snoc {l : List α} {x : α} (h : Asc key l) (hx : ∀ y ∈ l, strLt (key y) (key x) = true) : Asc key (l ++ [x]) := by
  unfold Asc
  rw [List.pairwise_append]
  exact ⟨h, by simp, fun a ha b hb => by rw [List.mem_singleton.1 hb]; exact hx a ha⟩
end
/-! ### Cells of a list of rows -/
section
variable {α : Type} {enc : α → List AV} {k : Nat}
theorem flatU_len (hu : ∀ a, (enc a).length = k) (l : List α) : (l.map enc).flatten.length = l.length * k := by
  rw [flatten_len (k := k) (fun c hc => by obtain ⟨a, -, rfl⟩ := List.mem_map.1 hc; exact hu a), List.length_map]
theorem flatU_get (hu : ∀ a, (enc a).length = k) : ∀ {l : List α} {j : Nat} {p : α}, l[j]? = some p → ((l.map enc).flatten.drop (j * k)).take k = enc p
  | [], j, p, h => by simp at h
  | x :: l, 0, p, h => by
    simp at h; subst h
    simp only [List.map_cons, List.flatten_cons, Nat.zero_mul, List.drop_zero]
    rw [List.take_append_of_le_length (by rw [hu]; exact Nat.le_refl _), List.take_of_length_le (by rw [hu]; exact Nat.le_refl _)]
  | x :: l, j + 1, p, h => by
    rw [List.map_cons, List.flatten_cons, Nat.succ_mul, Nat.add_comm, List.drop_append, hu, List.drop_of_length_le (by rw [hu]; omega), List.nil_append, Nat.add_sub_cancel_left]
    exact flatU_get hu (by simpa using h)
theorem flatU_set (hu : ∀ a, (enc a).length = k) : ∀ {l : List α} {j : Nat} (q : α), j < l.length → (l.map enc).flatten.take (j * k) ++ enc q ++ (l.map enc).flatten.drop (j * k + k) = ((l.set j q).map enc).flatten
  | [], j, q, h => by simp at h
  | x :: l, 0, q, h => by
    simp only [List.map_cons, List.flatten_cons, Nat.zero_mul, List.take_zero, List.nil_append, Nat.zero_add, List.set_cons_zero]
    rw [List.drop_append, hu, List.drop_of_length_le (by rw [hu]; omega), List.nil_append, Nat.sub_self, List.drop_zero]
  | x :: l, j + 1, q, h => by
    rw [List.map_cons, List.flatten_cons, List.set_cons_succ, List.map_cons, List.flatten_cons, ← flatU_set hu (l := l) (j := j) q (by simpa using h)]
    rw [List.take_append, hu, List.drop_append, hu, List.take_of_length_le (by rw [hu, Nat.succ_mul]; omega), List.drop_of_length_le (by rw [hu, Nat.succ_mul]; omega), List.nil_append]
    rw [show (j + 1) * k - k = j * k by rw [Nat.succ_mul]; omega, show (j + 1) * k + k - k = j * k + k by rw [Nat.succ_mul]; omega]
    simp only [List.append_assoc]
theorem flatU_write (hu : ∀ a, (enc a).length = k) {l : List α} {j : Nat} (q : α) (h : j < l.length) : writeC (l.map enc).flatten (j * k) (enc q) = ((l.set j q).map enc).flatten := by
  rw [← flatU_set hu q h]
  unfold writeC
  have hl := flatU_len hu l
  have hk := hu q
  have h2 : j * k + k ≤ l.length * k := by
    have := Nat.mul_le_mul_right k (show j + 1 ≤ l.length by omega)
    rw [Nat.succ_mul] at this; exact this
  split
  · rename_i v hv
    have hk2 := hk
    rw [hv] at hk2
    have hk1 : k = 1 := by simpa using hk2.symm
    subst hk1
    rw [List.set_eq_take_append_cons_drop, if_pos (by omega), hv]
    simp
  · rw [hk]
end
end Go.Proofs

/- Walks: names, paths, values, of the program and of the reference. -/
namespace Go.Proofs
open Go Go.Abs
open Nat (reduceEqDiff reduceAdd reduceLeDiff reduceLT reduceMul)
open Int (reduceEq reduceLE reduceSub reduceToNat)
set_option linter.unusedSimpArgs false
set_option linter.unusedVariables false
theorem isSmall_calls (c : Int) (H : Heap) : ACalls Tryz.prog 70 [.int .u8 c] H fun x H' => x = .bool (isSm c) ∧ H' = H := by
  refine ACalls.of_code (X := { pure := puK }) puK_ok Tryz.func70 (by kernel_rfl) rfl (by kernel_rfl) (Nat.le_of_ble_eq_true rfl) ?_
  simp -implicitDefEqProofs only [go_sem, reduceEqDiff, reduceAdd, reduceLeDiff, reduceLT, reduceMul, reduceEq, Int.reduceLT, reduceLE, Int.reduceAdd, reduceSub, reduceToNat, UInt8.reduceToNat, Tryz.f70]
  repeat' (first | (with_reducible refine gd_intro (fun h => ?_) (fun h => ?_) <;> first | (exact absurd h (by decide)) | (simp at h; done) | simp -implicitDefEqProofs (disch := omega) only [go_sem, reduceEqDiff, reduceAdd, reduceLeDiff, reduceLT, reduceMul, reduceEq, Int.reduceLT, reduceLE, Int.reduceAdd, reduceSub, reduceToNat, UInt8.reduceToNat, Go.IntWalk.i64_in, *]) | (with_reducible refine cnd_intro (fun h => ?_) (fun h => ?_) <;> first | (exact absurd h (by decide)) | (simp at h; done) | simp -implicitDefEqProofs (disch := omega) only [go_sem, reduceEqDiff, reduceAdd, reduceLeDiff, reduceLT, reduceMul, reduceEq, Int.reduceLT, reduceLE, Int.reduceAdd, reduceSub, reduceToNat, UInt8.reduceToNat, Go.IntWalk.i64_in, *]))
  all_goals (refine Done.now ⟨?_, rfl⟩; simp only [decide_eq_true_eq, decide_eq_false_iff_not] at h; simp [isSm, h])
theorem isDigit_calls (c : Int) (H : Heap) : ACalls Tryz.prog 71 [.int .u8 c] H fun x H' => x = .bool (isDg c) ∧ H' = H := by
  refine ACalls.of_code (X := { pure := puK }) puK_ok Tryz.func71 (by kernel_rfl) rfl (by kernel_rfl) (Nat.le_of_ble_eq_true rfl) ?_
  simp -implicitDefEqProofs only [go_sem, reduceEqDiff, reduceAdd, reduceLeDiff, reduceLT, reduceMul, reduceEq, Int.reduceLT, reduceLE, Int.reduceAdd, reduceSub, reduceToNat, UInt8.reduceToNat, Tryz.f71]
  repeat' (first | (with_reducible refine gd_intro (fun h => ?_) (fun h => ?_) <;> first | (exact absurd h (by decide)) | (simp at h; done) | simp -implicitDefEqProofs (disch := omega) only [go_sem, reduceEqDiff, reduceAdd, reduceLeDiff, reduceLT, reduceMul, reduceEq, Int.reduceLT, reduceLE, Int.reduceAdd, reduceSub, reduceToNat, UInt8.reduceToNat, Go.IntWalk.i64_in, *]) | (with_reducible refine cnd_intro (fun h => ?_) (fun h => ?_) <;> first | (exact absurd h (by decide)) | (simp at h; done) | simp -implicitDefEqProofs (disch := omega) only [go_sem, reduceEqDiff, reduceAdd, reduceLeDiff, reduceLT, reduceMul, reduceEq, Int.reduceLT, reduceLE, Int.reduceAdd, reduceSub, reduceToNat, UInt8.reduceToNat, Go.IntWalk.i64_in, *]))
  all_goals (refine Done.now ⟨?_, rfl⟩; simp only [decide_eq_true_eq, decide_eq_false_iff_not] at h; simp [isDg, h])
def puV1 : Pures := putP 70 (sByte isSm) (putP 71 (sByte isDg) puK)
theorem puV1_dyn : isDyn puV1 = false := by simp only [puV1, go_sem, Nat.reduceEqDiff]
attribute [go_sem] puV1_dyn
theorem puV1_ok : PuOK Tryz.prog puV1 := .put (.put (puK_ok) (sByte_ok isDigit_calls)) (sByte_ok isSmall_calls)
theorem isName1_calls (c : Int) (H : Heap) : ACalls Tryz.prog 69 [.int .u8 c] H fun x H' => x = .bool (isNm c) ∧ H' = H := by
  refine ACalls.of_code (X := { pure := puV1 }) puV1_ok Tryz.func69 (by kernel_rfl) rfl (by kernel_rfl) (Nat.le_of_ble_eq_true rfl) ?_
  simp -implicitDefEqProofs only [go_sem, reduceEqDiff, reduceAdd, reduceLeDiff, reduceLT, reduceMul, reduceEq, Int.reduceLT, reduceLE, Int.reduceAdd, reduceSub, reduceToNat, UInt8.reduceToNat, Tryz.f69, puV1, sByte_eq]
  repeat' (first | (with_reducible refine gd_intro (fun h => ?_) (fun h => ?_) <;> first | (exact absurd h (by decide)) | (simp at h; done) | simp -implicitDefEqProofs (disch := omega) only [go_sem, reduceEqDiff, reduceAdd, reduceLeDiff, reduceLT, reduceMul, reduceEq, Int.reduceLT, reduceLE, Int.reduceAdd, reduceSub, reduceToNat, UInt8.reduceToNat, Go.IntWalk.i64_in, puV1, sByte_eq, *]) | (with_reducible refine cnd_intro (fun h => ?_) (fun h => ?_) <;> first | (exact absurd h (by decide)) | (simp at h; done) | simp -implicitDefEqProofs (disch := omega) only [go_sem, reduceEqDiff, reduceAdd, reduceLeDiff, reduceLT, reduceMul, reduceEq, Int.reduceLT, reduceLE, Int.reduceAdd, reduceSub, reduceToNat, UInt8.reduceToNat, Go.IntWalk.i64_in, puV1, sByte_eq, *]))
  all_goals (refine Done.now ⟨?_, rfl⟩; simp_all [isNm])
theorem isPart1_calls (c : Int) (H : Heap) : ACalls Tryz.prog 119 [.int .u8 c] H fun x H' => x = .bool (isPt c) ∧ H' = H := by
  refine ACalls.of_code (X := { pure := puV1 }) puV1_ok Tryz.func119 (by kernel_rfl) rfl (by kernel_rfl) (Nat.le_of_ble_eq_true rfl) ?_
  simp -implicitDefEqProofs only [go_sem, reduceEqDiff, reduceAdd, reduceLeDiff, reduceLT, reduceMul, reduceEq, Int.reduceLT, reduceLE, Int.reduceAdd, reduceSub, reduceToNat, UInt8.reduceToNat, Tryz.f119, puV1, sByte_eq]
  repeat' (first | (with_reducible refine gd_intro (fun h => ?_) (fun h => ?_) <;> first | (exact absurd h (by decide)) | (simp at h; done) | simp -implicitDefEqProofs (disch := omega) only [go_sem, reduceEqDiff, reduceAdd, reduceLeDiff, reduceLT, reduceMul, reduceEq, Int.reduceLT, reduceLE, Int.reduceAdd, reduceSub, reduceToNat, UInt8.reduceToNat, Go.IntWalk.i64_in, puV1, sByte_eq, *]) | (with_reducible refine cnd_intro (fun h => ?_) (fun h => ?_) <;> first | (exact absurd h (by decide)) | (simp at h; done) | simp -implicitDefEqProofs (disch := omega) only [go_sem, reduceEqDiff, reduceAdd, reduceLeDiff, reduceLT, reduceMul, reduceEq, Int.reduceLT, reduceLE, Int.reduceAdd, reduceSub, reduceToNat, UInt8.reduceToNat, Go.IntWalk.i64_in, puV1, sByte_eq, *]))
  all_goals (refine Done.now ⟨?_, rfl⟩; simp_all [isPt] <;> omega)
theorem isValue1_calls (c : Int) (H : Heap) : ACalls Tryz.prog 138 [.int .u8 c] H fun x H' => x = .bool (isVl c) ∧ H' = H := by
  refine ACalls.of_code (X := { pure := puV1 }) puV1_ok Tryz.func138 (by kernel_rfl) rfl (by kernel_rfl) (Nat.le_of_ble_eq_true rfl) ?_
  simp -implicitDefEqProofs only [go_sem, reduceEqDiff, reduceAdd, reduceLeDiff, reduceLT, reduceMul, reduceEq, Int.reduceLT, reduceLE, Int.reduceAdd, reduceSub, reduceToNat, UInt8.reduceToNat, Tryz.f138, puV1, sByte_eq]
  repeat' (first | (with_reducible refine gd_intro (fun h => ?_) (fun h => ?_) <;> first | (exact absurd h (by decide)) | (simp at h; done) | simp -implicitDefEqProofs (disch := omega) only [go_sem, reduceEqDiff, reduceAdd, reduceLeDiff, reduceLT, reduceMul, reduceEq, Int.reduceLT, reduceLE, Int.reduceAdd, reduceSub, reduceToNat, UInt8.reduceToNat, Go.IntWalk.i64_in, puV1, sByte_eq, *]) | (with_reducible refine cnd_intro (fun h => ?_) (fun h => ?_) <;> first | (exact absurd h (by decide)) | (simp at h; done) | simp -implicitDefEqProofs (disch := omega) only [go_sem, reduceEqDiff, reduceAdd, reduceLeDiff, reduceLT, reduceMul, reduceEq, Int.reduceLT, reduceLE, Int.reduceAdd, reduceSub, reduceToNat, UInt8.reduceToNat, Go.IntWalk.i64_in, puV1, sByte_eq, *]))
  all_goals (refine Done.now ⟨?_, rfl⟩; simp_all [isVl] <;> omega)
theorem each_calls (s : Bytes) (most : Int) (f : FuncId) (p : Int → Bool) (H : Heap) (hs : s.length ≤ Room) (hf : ∀ c H, ACalls Tryz.prog f [.int .u8 c] H fun x H' => x = .bool (p c) ∧ H' = H) :
    ACalls Tryz.prog 68 [.str s, .int .i64 most, .func f []] H fun x H' => x = .bool (sEach p s most) ∧ H' = H := by
  have hR : Room = 1099511627776 := rfl
  rw [hR] at hs
  refine ACalls.of_code (X := {}) (fun _ _ h => nomatch h) Tryz.func68 (by kernel_rfl) rfl (by kernel_rfl) (Nat.le_of_ble_eq_true rfl) ?_
  simp -implicitDefEqProofs only [go_sem, reduceEqDiff, reduceAdd, reduceLeDiff, reduceLT, reduceMul, reduceEq, Int.reduceLT, reduceLE, Int.reduceAdd, reduceSub, reduceToNat, UInt8.reduceToNat, Tryz.f68]
  refine aloop_intro (σ := Nat) (fun i => [(0, .str s), (1, .int .i64 most), (2, .func f []), (7, .int .i64 i)]) (fun i G => G = H ∧ i ≤ s.length ∧ allB p (s.take i) = true) (fun i => s.length - i) 0 ?_ ?_ ?_
  · simp -implicitDefEqProofs only [go_sem, reduceEqDiff, reduceAdd, reduceLeDiff, reduceLT, reduceMul, reduceEq, Int.reduceLT, reduceLE, Int.reduceAdd, reduceSub, reduceToNat, UInt8.reduceToNat]
  · simp [allB]
  · intro i r G hv hI
    have h0 := hv.1
    have h1 := hv.2.1
    have h2 := hv.2.2.1
    have h7 := hv.2.2.2.1
    have hG := hI.1
    have hp := hI.2.2
    have hi := hI.2.1
    subst hG
    simp -implicitDefEqProofs only [go_sem, reduceEqDiff, reduceAdd, reduceLeDiff, reduceLT, reduceMul, reduceEq, Int.reduceLT, reduceLE, Int.reduceAdd, reduceSub, reduceToNat, UInt8.reduceToNat, h0, h1, h2, h7]
    refine cnd_intro (fun h => ?_) (fun h => ?_)
    · simp only [decide_eq_true_eq] at h
      obtain ⟨c, hc⟩ : ∃ c, s[i]? = some c := ⟨s[i]'(by omega), List.getElem?_eq_getElem _⟩
      simp -implicitDefEqProofs only [go_sem, reduceEqDiff, reduceAdd, reduceLeDiff, reduceLT, reduceMul, reduceEq, Int.reduceLT, reduceLE, Int.reduceAdd, reduceSub, reduceToNat, UInt8.reduceToNat, h0, h1, h2, h7, hc]
      refine ACalls.pure_next _ (hf c.toNat _) ?_
      simp -implicitDefEqProofs only [go_sem, reduceEqDiff, reduceAdd, reduceLeDiff, reduceLT, reduceMul, reduceEq, Int.reduceLT, reduceLE, Int.reduceAdd, reduceSub, reduceToNat, UInt8.reduceToNat, h0, h1, h2, h7, hc]
      refine cnd_intro (fun hpc => ?_) (fun hpc => ?_) <;> simp only [Bool.not_eq_true', Bool.not_eq_false'] at hpc
      · simp -implicitDefEqProofs only [go_sem, reduceEqDiff, reduceAdd, reduceLeDiff, reduceLT, reduceMul, reduceEq, Int.reduceLT, reduceLE, Int.reduceAdd, reduceSub, reduceToNat, UInt8.reduceToNat, h0, h1, h2, h7, hc]
        exact Done.now ⟨by rw [sEach_false hc hpc], rfl⟩
      · simp -implicitDefEqProofs (disch := omega) only [go_sem, reduceEqDiff, reduceAdd, reduceLeDiff, reduceLT, reduceMul, reduceEq, Int.reduceLT, reduceLE, Int.reduceAdd, reduceSub, reduceToNat, UInt8.reduceToNat, Go.IntWalk.i64_in, h0, h1, h2, h7, hc]
        exact Again.mk (i + 1) (by simp -implicitDefEqProofs only [go_sem, reduceEqDiff, reduceAdd, reduceLeDiff, reduceLT, reduceMul, reduceEq, Int.reduceLT, reduceLE, Int.reduceAdd, reduceSub, reduceToNat, UInt8.reduceToNat, h0, h1, h2, h7]; exact rfl) ⟨rfl, by omega, allB_succ hp hc hpc⟩ (by omega)
    · simp only [decide_eq_false_iff_not] at h
      have e : i = s.length := by omega
      subst e
      rw [List.take_length] at hp
      simp -implicitDefEqProofs only [go_sem, reduceEqDiff, reduceAdd, reduceLeDiff, reduceLT, reduceMul, reduceEq, Int.reduceLT, reduceLE, Int.reduceAdd, reduceSub, reduceToNat, UInt8.reduceToNat, h0, h1, h2, h7]
      refine gd_intro (fun hn => ?_) (fun hn => ?_) <;> simp -implicitDefEqProofs only [go_sem, reduceEqDiff, reduceAdd, reduceLeDiff, reduceLT, reduceMul, reduceEq, Int.reduceLT, reduceLE, Int.reduceAdd, reduceSub, reduceToNat, UInt8.reduceToNat, h0, h1, h2, h7, hn] <;> refine Done.now ⟨?_, rfl⟩ <;> simp only [sEach, hp, hn, ne_eq] <;> simp
def sEachP : List AV → Option AV
  | [.str s, .int .i64 most, .func f []] => if s.length ≤ Room then
      (if f = 69 then some (.bool (sEach isNm s most)) else if f = 119 then some (.bool (sEach isPt s most)) else if f = 138 then some (.bool (sEach isVl s most)) else none) else none
  | _ => none
theorem sEachP_eq (s : Bytes) (most : Int) (f : FuncId) : sEachP [.str s, .int .i64 most, .func f []] = if s.length ≤ Room then
      (if f = 69 then some (.bool (sEach isNm s most)) else if f = 119 then some (.bool (sEach isPt s most)) else if f = 138 then some (.bool (sEach isVl s most)) else none) else none := rfl
def puV2 : Pures := putP 68 sEachP puV1
theorem puV2_dyn : isDyn puV2 = false := by simp only [puV2, go_sem, Nat.reduceEqDiff]
attribute [go_sem] puV2_dyn
theorem puV2_ok : PuOK Tryz.prog puV2 := by
  refine PuOK.put puV1_ok ?_
  intro xs v h H
  unfold sEachP at h
  split at h
  · rename_i s most f
    split at h
    · rename_i hs
      split at h
      · rename_i hf; subst hf; cases h; exact each_calls s most _ isNm H hs isName1_calls
      · split at h
        · rename_i hf; subst hf; cases h; exact each_calls s most _ isPt H hs isPart1_calls
        · split at h
          · rename_i hf; subst hf; cases h; exact each_calls s most _ isVl H hs isValue1_calls
          · cases h
    · cases h
  · cases h
theorem isName_calls (s : Bytes) (H : Heap) (hs : s.length ≤ Room) : ACalls Tryz.prog 32 [.str s] H fun x H' => x = .bool (nameB s) ∧ H' = H := by
  refine ACalls.of_code (X := { pure := puV2 }) puV2_ok Tryz.func32 (by kernel_rfl) rfl (by kernel_rfl) (Nat.le_of_ble_eq_true rfl) ?_
  simp -implicitDefEqProofs only [go_sem, reduceEqDiff, reduceAdd, reduceLeDiff, reduceLT, reduceMul, reduceEq, Int.reduceLT, reduceLE, Int.reduceAdd, reduceSub, reduceToNat, UInt8.reduceToNat, Tryz.f32, puV2, puV1, sByte_eq, sEachP_eq, hs]
  refine gd_intro (fun hn => ?_) (fun hn => ?_)
  · obtain ⟨c, l, rfl⟩ : ∃ c l, s = c :: l := by
      cases s with
      | nil => simp [sEach] at hn
      | cons c l => exact ⟨c, l, rfl⟩
    simp -implicitDefEqProofs only [go_sem, reduceEqDiff, reduceAdd, reduceLeDiff, reduceLT, reduceMul, reduceEq, Int.reduceLT, reduceLE, Int.reduceAdd, reduceSub, reduceToNat, UInt8.reduceToNat, puV2, puV1, sByte_eq, hn, Int.toNat_zero, Int.le_refl]
    exact Done.now ⟨by simp [nameB, hn], rfl⟩
  · simp -implicitDefEqProofs only [go_sem, reduceEqDiff, reduceAdd, reduceLeDiff, reduceLT, reduceMul, reduceEq, Int.reduceLT, reduceLE, Int.reduceAdd, reduceSub, reduceToNat, UInt8.reduceToNat, puV2, puV1, sByte_eq, hn]
    exact Done.now ⟨by simp [nameB, hn], rfl⟩
theorem isPart_calls (s : Bytes) (H : Heap) (hs : s.length ≤ Room) : ACalls Tryz.prog 85 [.str s] H fun x H' => x = .bool (partB s) ∧ H' = H := by
  refine ACalls.of_code (X := { pure := puV2 }) puV2_ok Tryz.func85 (by kernel_rfl) rfl (by kernel_rfl) (Nat.le_of_ble_eq_true rfl) ?_
  simp -implicitDefEqProofs only [go_sem, reduceEqDiff, reduceAdd, reduceLeDiff, reduceLT, reduceMul, reduceEq, Int.reduceLT, reduceLE, Int.reduceAdd, reduceSub, reduceToNat, UInt8.reduceToNat, Tryz.f85, puV2, puV1, sByte_eq, sEachP_eq, hs]
  repeat' (first | (with_reducible refine gd_intro (fun h => ?_) (fun h => ?_) <;> first | (exact absurd h (by decide)) | (simp at h; done) | simp -implicitDefEqProofs (disch := omega) only [go_sem, reduceEqDiff, reduceAdd, reduceLeDiff, reduceLT, reduceMul, reduceEq, Int.reduceLT, reduceLE, Int.reduceAdd, reduceSub, reduceToNat, UInt8.reduceToNat, Go.IntWalk.i64_in, puV2, puV1, sEachP_eq, *]) | (with_reducible refine cnd_intro (fun h => ?_) (fun h => ?_) <;> first | (exact absurd h (by decide)) | (simp at h; done) | simp -implicitDefEqProofs (disch := omega) only [go_sem, reduceEqDiff, reduceAdd, reduceLeDiff, reduceLT, reduceMul, reduceEq, Int.reduceLT, reduceLE, Int.reduceAdd, reduceSub, reduceToNat, UInt8.reduceToNat, Go.IntWalk.i64_in, puV2, puV1, sEachP_eq, *]))
  all_goals (refine Done.now ⟨?_, rfl⟩; simp_all [partB])
theorem isValue_calls (s : Bytes) (H : Heap) (hs : s.length ≤ Room) : ACalls Tryz.prog 124 [.str s] H fun x H' => x = .bool (valueB s) ∧ H' = H := by
  refine ACalls.of_code (X := { pure := puV2 }) puV2_ok Tryz.func124 (by kernel_rfl) rfl (by kernel_rfl) (Nat.le_of_ble_eq_true rfl) ?_
  simp -implicitDefEqProofs only [go_sem, reduceEqDiff, reduceAdd, reduceLeDiff, reduceLT, reduceMul, reduceEq, Int.reduceLT, reduceLE, Int.reduceAdd, reduceSub, reduceToNat, UInt8.reduceToNat, Tryz.f124, puV2, puV1, sByte_eq, sEachP_eq, hs]
  repeat' (first | (with_reducible refine gd_intro (fun h => ?_) (fun h => ?_) <;> first | (exact absurd h (by decide)) | (simp at h; done) | simp -implicitDefEqProofs (disch := omega) only [go_sem, reduceEqDiff, reduceAdd, reduceLeDiff, reduceLT, reduceMul, reduceEq, Int.reduceLT, reduceLE, Int.reduceAdd, reduceSub, reduceToNat, UInt8.reduceToNat, Go.IntWalk.i64_in, puV2, puV1, sEachP_eq, *]) | (with_reducible refine cnd_intro (fun h => ?_) (fun h => ?_) <;> first | (exact absurd h (by decide)) | (simp at h; done) | simp -implicitDefEqProofs (disch := omega) only [go_sem, reduceEqDiff, reduceAdd, reduceLeDiff, reduceLT, reduceMul, reduceEq, Int.reduceLT, reduceLE, Int.reduceAdd, reduceSub, reduceToNat, UInt8.reduceToNat, Go.IntWalk.i64_in, puV2, puV1, sEachP_eq, *]))
  all_goals (refine Done.now ⟨?_, rfl⟩; simp_all [valueB])
def puV3 : Pures := putP 85 (sStr partB) puV2
theorem puV3_dyn : isDyn puV3 = false := by simp only [puV3, go_sem, Nat.reduceEqDiff]
attribute [go_sem] puV3_dyn
theorem puV3_ok : PuOK Tryz.prog puV3 := .put (puV2_ok) (sStr_ok isPart_calls)
theorem room_part {s p : Bytes} {c : UInt8} (hs : s.length ≤ Room) {i : Nat} (h : (splitB c s)[i]? = some p) : p.length ≤ Room := Nat.le_trans (splitB_mem s p (List.mem_of_getElem? h)) hs
theorem sSplit_room (s : Bytes) (c : UInt8) (h : s.length ≤ Room) : sSplit [.str s, .str [c]] = some (.sl ((splitB c s).map encBs) .unk) := by rw [sSplit_eq, if_pos h]
theorem isPath_calls (s : Bytes) (H : Heap) (hs : s.length ≤ Room) : ACalls Tryz.prog 45 [.str s] H fun x H' => x = .bool (pathB s) ∧ H' = H := by
  refine ACalls.of_code (X := { pure := puV3 }) puV3_ok Tryz.func45 (by kernel_rfl) rfl (by kernel_rfl) (Nat.le_of_ble_eq_true rfl) ?_
  simp -implicitDefEqProofs only [go_sem, reduceEqDiff, reduceAdd, reduceLeDiff, reduceLT, reduceMul, reduceEq, Int.reduceLT, reduceLE, Int.reduceAdd, reduceSub, reduceToNat, UInt8.reduceToNat, Tryz.f45, puV3, puV2, puV1, puK, sSplit_room s _ hs]
  have hlen : (splitB 47 s).length ≤ 1099511627777 := by rw [splitB_len]; have := List.count_le_length (a := (47 : UInt8)) (l := s); have : Room = 1099511627776 := rfl; omega
  refine aloop_intro (σ := Nat) (fun i => [(0, .str s), (6, .sl ((splitB 47 s).map encBs) .unk), (7, .int .i64 (splitB 47 s).length), (8, .int .i64 i)]) (fun i G => G = H ∧ i ≤ (splitB 47 s).length ∧ ((splitB 47 s).take i).all partB = true) (fun i => (splitB 47 s).length - i) 0 ?_ ?_ ?_
  · simp -implicitDefEqProofs only [go_sem, reduceEqDiff, reduceAdd, reduceLeDiff, reduceLT, reduceMul, reduceEq, Int.reduceLT, reduceLE, Int.reduceAdd, reduceSub, reduceToNat, UInt8.reduceToNat]
  · simp
  · rintro i r G ⟨h0, h6, h7, h8, -⟩ ⟨rfl, hi, hp⟩
    simp -implicitDefEqProofs only [go_sem, reduceEqDiff, reduceAdd, reduceLeDiff, reduceLT, reduceMul, reduceEq, Int.reduceLT, reduceLE, Int.reduceAdd, reduceSub, reduceToNat, UInt8.reduceToNat, h0, h6, h7, h8]
    refine cnd_intro (fun h => ?_) (fun h => ?_)
    · simp only [decide_eq_true_eq] at h
      obtain ⟨c, hc⟩ : ∃ c, (splitB 47 s)[i]? = some c := ⟨(splitB 47 s)[i]'(by omega), List.getElem?_eq_getElem _⟩
      have hr := room_part hs hc
      simp -implicitDefEqProofs only [go_sem, reduceEqDiff, reduceAdd, reduceLeDiff, reduceLT, reduceMul, reduceEq, Int.reduceLT, reduceLE, Int.reduceAdd, reduceSub, reduceToNat, UInt8.reduceToNat, h0, h6, h7, h8, hc, encBs, puV3, sStr_eq, hr]
      refine cnd_intro (fun hpc => ?_) (fun hpc => ?_) <;> simp only [Bool.not_eq_true', Bool.not_eq_false'] at hpc
      · simp -implicitDefEqProofs only [go_sem, reduceEqDiff, reduceAdd, reduceLeDiff, reduceLT, reduceMul, reduceEq, Int.reduceLT, reduceLE, Int.reduceAdd, reduceSub, reduceToNat, UInt8.reduceToNat, h0, h6, h7, h8, hc]
        refine Done.now ⟨?_, rfl⟩
        have : (splitB 47 s).all partB = false := by rw [List.all_eq_false]; exact ⟨c, List.mem_of_getElem? hc, by simp [hpc]⟩
        simp [pathB, this]
      · simp -implicitDefEqProofs (disch := omega) only [go_sem, reduceEqDiff, reduceAdd, reduceLeDiff, reduceLT, reduceMul, reduceEq, Int.reduceLT, reduceLE, Int.reduceAdd, reduceSub, reduceToNat, UInt8.reduceToNat, Go.IntWalk.i64_in, h0, h6, h7, h8, hc]
        refine Again.mk (i + 1) (by simp -implicitDefEqProofs only [go_sem, reduceEqDiff, reduceAdd, reduceLeDiff, reduceLT, reduceMul, reduceEq, Int.reduceLT, reduceLE, Int.reduceAdd, reduceSub, reduceToNat, UInt8.reduceToNat, h0, h6, h7, h8]; exact rfl) ⟨rfl, by omega, ?_⟩ (by omega)
        rw [List.take_add_one, hc]
        simp [List.all_append, hp, hpc]
    · simp only [decide_eq_false_iff_not] at h
      have e : i = (splitB 47 s).length := by omega
      subst e
      rw [List.take_length] at hp
      simp -implicitDefEqProofs only [go_sem, reduceEqDiff, reduceAdd, reduceLeDiff, reduceLT, reduceMul, reduceEq, Int.reduceLT, reduceLE, Int.reduceAdd, reduceSub, reduceToNat, UInt8.reduceToNat, h0, h6, h7, h8]
      exact Done.now ⟨by simp [pathB, hp], rfl⟩
end Go.Proofs

/- Walks: the reference's names, paths, values; what has the form of a sum. -/
namespace Go.Proofs
open Go Go.Abs
open Nat (reduceEqDiff reduceAdd reduceLeDiff reduceLT reduceMul)
open Int (reduceEq reduceLE reduceSub reduceToNat)
set_option linter.unusedSimpArgs false
set_option linter.unusedVariables false
theorem name_iff (s : Bytes) (h : s ≠ []) : nameB s = (allB isNm s && isSm ((s.headD 0).toNat : Int) && decide ((s.length : Int) ≤ 40)) := by
  simp only [nameB, sEach, h, ne_eq, not_false_eq_true, decide_true, Bool.and_true]
  cases allB isNm s <;> cases isSm ((s.headD 0).toNat : Int) <;> simp
theorem rIsName_calls (s : Bytes) (H : Heap) (hs : s.length ≤ Room) : ACalls Tryz.prog 16 [.str s] H fun x H' => x = .bool (nameB s) ∧ H' = H := by
  have hR : Room = 1099511627776 := rfl
  rw [hR] at hs
  refine ACalls.of_code (X := { pure := puV3 }) puV3_ok Tryz.func16 (by kernel_rfl) rfl (by kernel_rfl) (Nat.le_of_ble_eq_true rfl) ?_
  simp -implicitDefEqProofs only [go_sem, reduceEqDiff, reduceAdd, reduceLeDiff, reduceLT, reduceMul, reduceEq, Int.reduceLT, reduceLE, Int.reduceAdd, reduceSub, reduceToNat, UInt8.reduceToNat, Tryz.f16]
  refine aloop_intro (σ := Nat) (fun i => [(0, .str s), (7, .int .i64 s.length), (8, .int .i64 i)]) (fun i G => G = H ∧ i ≤ s.length ∧ allB isNm (s.take i) = true ∧ (0 < i → isSm ((s.headD 0).toNat : Int) = true)) (fun i => s.length - i) 0 ?_ ?_ ?_
  · simp -implicitDefEqProofs only [go_sem, reduceEqDiff, reduceAdd, reduceLeDiff, reduceLT, reduceMul, reduceEq, Int.reduceLT, reduceLE, Int.reduceAdd, reduceSub, reduceToNat, UInt8.reduceToNat]
  · simp [allB]
  · intro i r G hv hI
    have h0 := hv.1
    have h7 := hv.2.1
    have h8 := hv.2.2.1
    have hG := hI.1.symm
    have hi := hI.2.1
    have hp := hI.2.2.1
    have hh := hI.2.2.2
    clear hv hI
    subst hG
    simp -implicitDefEqProofs only [go_sem, reduceEqDiff, reduceAdd, reduceLeDiff, reduceLT, reduceMul, reduceEq, Int.reduceLT, reduceLE, Int.reduceAdd, reduceSub, reduceToNat, UInt8.reduceToNat, h0, h7, h8]
    refine cnd_intro (fun h => ?_) (fun h => ?_)
    · simp only [decide_eq_true_eq] at h
      obtain ⟨c, hc⟩ : ∃ c, s[i]? = some c := ⟨s[i]'(by omega), List.getElem?_eq_getElem _⟩
      have hn := not_nil_of hc
      have hsm : i = 0 → s.headD 0 = c := fun e => by subst e; exact head_of hc
      have bad0 : i = 0 → isSm (c.toNat : Int) = false → nameB s = false := fun e1 e2 => by rw [name_iff s hn, hsm e1, e2]; simp
      have bad1 : isNm (c.toNat : Int) = false → nameB s = false := fun e => by rw [nameB, sEach_false hc e]; rfl
      have good : (i = 0 → isSm (c.toNat : Int) = true) → isNm (c.toNat : Int) = true → allB isNm (s.take (i + 1)) = true ∧ (0 < i + 1 → isSm ((s.headD 0).toNat : Int) = true) := fun e1 e2 =>
        ⟨allB_succ hp hc e2, fun _ => by
          rcases Nat.eq_zero_or_pos i with e | e
          · rw [hsm e]; exact e1 e
          · exact hh e⟩
      clear hp hsm hh
      generalize hcn : (c.toNat : Int) = k at *
      simp -implicitDefEqProofs only [go_sem, reduceEqDiff, reduceAdd, reduceLeDiff, reduceLT, reduceMul, reduceEq, Int.reduceLT, reduceLE, Int.reduceAdd, reduceSub, reduceToNat, UInt8.reduceToNat, h0, h7, h8, hc, hcn]
      clear hc
      repeat' (first | (with_reducible refine gd_intro (fun h => ?_) (fun h => ?_) <;> first | (exact absurd h (by decide)) | (simp at h; done) | simp -implicitDefEqProofs (disch := omega) only [go_sem, reduceEqDiff, reduceAdd, reduceLeDiff, reduceLT, reduceMul, reduceEq, Int.reduceLT, reduceLE, Int.reduceAdd, reduceSub, reduceToNat, UInt8.reduceToNat, Go.IntWalk.i64_in, *]) | (with_reducible refine cnd_intro (fun h => ?_) (fun h => ?_) <;> first | (exact absurd h (by decide)) | (simp at h; done) | simp -implicitDefEqProofs (disch := omega) only [go_sem, reduceEqDiff, reduceAdd, reduceLeDiff, reduceLT, reduceMul, reduceEq, Int.reduceLT, reduceLE, Int.reduceAdd, reduceSub, reduceToNat, UInt8.reduceToNat, Go.IntWalk.i64_in, *]))
      all_goals first
        | (refine Done.now ⟨?_, rfl⟩
           simp only [decide_eq_true_eq, decide_eq_false_iff_not, Bool.not_eq_true', Bool.not_eq_false', Decidable.not_not, Int.not_lt, Int.not_le, ne_eq] at *
           first
            | (rw [bad0 (by omega) (by simp [isSm]; omega)]; done)
            | (rw [bad1 (by simp [isNm, isSm, isDg]; omega)]; done))
        | (simp only [decide_eq_true_eq, decide_eq_false_iff_not, Bool.not_eq_true', Bool.not_eq_false', Decidable.not_not, Int.not_lt, Int.not_le, ne_eq] at *
           exact Again.mk (i + 1) (by simp -implicitDefEqProofs only [go_sem, reduceEqDiff, reduceAdd, reduceLeDiff, reduceLT, reduceMul, reduceEq, Int.reduceLT, reduceLE, Int.reduceAdd, reduceSub, reduceToNat, UInt8.reduceToNat, h0, h7, h8]; exact rfl) ⟨rfl, by omega, good (by simp [isSm]; omega) (by simp [isNm, isSm, isDg]; omega)⟩ (by omega))
    · simp only [decide_eq_false_iff_not] at h
      have e : i = s.length := by omega
      subst e
      rw [List.take_length] at hp
      simp -implicitDefEqProofs only [go_sem, reduceEqDiff, reduceAdd, reduceLeDiff, reduceLT, reduceMul, reduceEq, Int.reduceLT, reduceLE, Int.reduceAdd, reduceSub, reduceToNat, UInt8.reduceToNat, h0, h7, h8]
      repeat' (first | (with_reducible refine gd_intro (fun h => ?_) (fun h => ?_) <;> first | (exact absurd h (by decide)) | (simp at h; done) | simp -implicitDefEqProofs (disch := omega) only [go_sem, reduceEqDiff, reduceAdd, reduceLeDiff, reduceLT, reduceMul, reduceEq, Int.reduceLT, reduceLE, Int.reduceAdd, reduceSub, reduceToNat, UInt8.reduceToNat, Go.IntWalk.i64_in, *]) | (with_reducible refine cnd_intro (fun h => ?_) (fun h => ?_) <;> first | (exact absurd h (by decide)) | (simp at h; done) | simp -implicitDefEqProofs (disch := omega) only [go_sem, reduceEqDiff, reduceAdd, reduceLeDiff, reduceLT, reduceMul, reduceEq, Int.reduceLT, reduceLE, Int.reduceAdd, reduceSub, reduceToNat, UInt8.reduceToNat, Go.IntWalk.i64_in, *]))
      all_goals refine Done.now ⟨?_, rfl⟩
      all_goals simp only [decide_eq_true_eq, decide_eq_false_iff_not, Bool.not_eq_true', Bool.not_eq_false', Decidable.not_not, Int.not_lt, Int.not_le, ne_eq] at *
      · cases s with
        | nil => simp at hR h
        | cons b l => rw [name_iff _ (by simp), hp, hh (by simp)]; simp
      · have : s = [] := by simpa using h
        subst this; rfl
theorem rIsPart_calls (s : Bytes) (H : Heap) (hs : s.length ≤ Room) : ACalls Tryz.prog 48 [.str s] H fun x H' => x = .bool (partB s) ∧ H' = H := by
  have hR : Room = 1099511627776 := rfl
  rw [hR] at hs
  clear hR
  refine ACalls.of_code (X := { pure := puV3 }) puV3_ok Tryz.func48 (by kernel_rfl) rfl (by kernel_rfl) (Nat.le_of_ble_eq_true rfl) ?_
  simp -implicitDefEqProofs only [go_sem, reduceEqDiff, reduceAdd, reduceLeDiff, reduceLT, reduceMul, reduceEq, Int.reduceLT, reduceLE, Int.reduceAdd, reduceSub, reduceToNat, UInt8.reduceToNat, Tryz.f48]
  refine aloop_intro (σ := Nat) (fun i => [(0, .str s), (6, .int .i64 s.length), (7, .int .i64 i)]) (fun i G => G = H ∧ i ≤ s.length ∧ allB isPt (s.take i) = true) (fun i => s.length - i) 0 ?_ ?_ ?_
  · simp -implicitDefEqProofs only [go_sem, reduceEqDiff, reduceAdd, reduceLeDiff, reduceLT, reduceMul, reduceEq, Int.reduceLT, reduceLE, Int.reduceAdd, reduceSub, reduceToNat, UInt8.reduceToNat]
  · simp [allB]
  · intro i r G hv hI
    have h0 := hv.1
    have h7 := hv.2.1
    have h8 := hv.2.2.1
    have hG := hI.1.symm
    have hi := hI.2.1
    have hp := hI.2.2
    clear hv hI
    subst hG
    simp -implicitDefEqProofs only [go_sem, reduceEqDiff, reduceAdd, reduceLeDiff, reduceLT, reduceMul, reduceEq, Int.reduceLT, reduceLE, Int.reduceAdd, reduceSub, reduceToNat, UInt8.reduceToNat, h0, h7, h8]
    refine cnd_intro (fun h => ?_) (fun h => ?_)
    · simp only [decide_eq_true_eq] at h
      obtain ⟨c, hc⟩ : ∃ c, s[i]? = some c := ⟨s[i]'(by omega), List.getElem?_eq_getElem _⟩
      have bad1 : isPt (c.toNat : Int) = false → partB s = false := fun e => by simp [partB, sEach, allB_false hc e, not_nil_of hc]
      have good : isPt (c.toNat : Int) = true → allB isPt (s.take (i + 1)) = true := fun e2 => allB_succ hp hc e2
      clear hp
      generalize hcn : (c.toNat : Int) = k at *
      simp -implicitDefEqProofs only [go_sem, reduceEqDiff, reduceAdd, reduceLeDiff, reduceLT, reduceMul, reduceEq, Int.reduceLT, reduceLE, Int.reduceAdd, reduceSub, reduceToNat, UInt8.reduceToNat, h0, h7, h8, hc, hcn]
      repeat' (first | (with_reducible refine gd_intro (fun h => ?_) (fun h => ?_) <;> first | (exact absurd h (by decide)) | (simp at h; done) | simp -implicitDefEqProofs (disch := omega) only [go_sem, reduceEqDiff, reduceAdd, reduceLeDiff, reduceLT, reduceMul, reduceEq, Int.reduceLT, reduceLE, Int.reduceAdd, reduceSub, reduceToNat, UInt8.reduceToNat, Go.IntWalk.i64_in, *]) | (with_reducible refine cnd_intro (fun h => ?_) (fun h => ?_) <;> first | (exact absurd h (by decide)) | (simp at h; done) | simp -implicitDefEqProofs (disch := omega) only [go_sem, reduceEqDiff, reduceAdd, reduceLeDiff, reduceLT, reduceMul, reduceEq, Int.reduceLT, reduceLE, Int.reduceAdd, reduceSub, reduceToNat, UInt8.reduceToNat, Go.IntWalk.i64_in, *]))
      all_goals first
        | (refine Done.now ⟨?_, rfl⟩
           simp only [decide_eq_true_eq, decide_eq_false_iff_not, Bool.not_eq_true', Bool.not_eq_false', Decidable.not_not, Int.not_lt, Int.not_le, ne_eq] at *
           rw [bad1 (by simp [isPt, isSm, isDg]; omega)]; done)
        | (simp only [decide_eq_true_eq, decide_eq_false_iff_not, Bool.not_eq_true', Bool.not_eq_false', Decidable.not_not, Int.not_lt, Int.not_le, ne_eq] at *
           exact Again.mk (i + 1) (by simp -implicitDefEqProofs only [go_sem, reduceEqDiff, reduceAdd, reduceLeDiff, reduceLT, reduceMul, reduceEq, Int.reduceLT, reduceLE, Int.reduceAdd, reduceSub, reduceToNat, UInt8.reduceToNat, h0, h7, h8]; exact rfl) ⟨rfl, by omega, good (by simp [isPt, isSm, isDg]; omega)⟩ (by omega))
    · simp only [decide_eq_false_iff_not] at h
      have e : i = s.length := by omega
      subst e
      rw [List.take_length] at hp
      simp -implicitDefEqProofs only [go_sem, reduceEqDiff, reduceAdd, reduceLeDiff, reduceLT, reduceMul, reduceEq, Int.reduceLT, reduceLE, Int.reduceAdd, reduceSub, reduceToNat, UInt8.reduceToNat, h0, h7, h8]
      repeat' (first | (with_reducible refine gd_intro (fun h => ?_) (fun h => ?_) <;> first | (exact absurd h (by decide)) | (simp at h; done) | simp -implicitDefEqProofs (disch := omega) only [go_sem, reduceEqDiff, reduceAdd, reduceLeDiff, reduceLT, reduceMul, reduceEq, Int.reduceLT, reduceLE, Int.reduceAdd, reduceSub, reduceToNat, UInt8.reduceToNat, Go.IntWalk.i64_in, *]) | (with_reducible refine cnd_intro (fun h => ?_) (fun h => ?_) <;> first | (exact absurd h (by decide)) | (simp at h; done) | simp -implicitDefEqProofs (disch := omega) only [go_sem, reduceEqDiff, reduceAdd, reduceLeDiff, reduceLT, reduceMul, reduceEq, Int.reduceLT, reduceLE, Int.reduceAdd, reduceSub, reduceToNat, UInt8.reduceToNat, Go.IntWalk.i64_in, *]))
      all_goals refine Done.now ⟨?_, rfl⟩
      all_goals try simp only [decide_eq_true_eq, decide_eq_false_iff_not, Bool.not_eq_true', Bool.not_eq_false', Decidable.not_not, Int.not_lt, Int.not_le, ne_eq] at *
      all_goals (by_cases hn : s = [] <;> simp_all [partB, sEach] <;> omega)

theorem rIsValue_calls (s : Bytes) (H : Heap) (hs : s.length ≤ Room) : ACalls Tryz.prog 34 [.str s] H fun x H' => x = .bool (valueB s) ∧ H' = H := by
  have hR : Room = 1099511627776 := rfl
  rw [hR] at hs
  clear hR
  refine ACalls.of_code (X := { pure := puV3 }) puV3_ok Tryz.func34 (by kernel_rfl) rfl (by kernel_rfl) (Nat.le_of_ble_eq_true rfl) ?_
  simp -implicitDefEqProofs only [go_sem, reduceEqDiff, reduceAdd, reduceLeDiff, reduceLT, reduceMul, reduceEq, Int.reduceLT, reduceLE, Int.reduceAdd, reduceSub, reduceToNat, UInt8.reduceToNat, Tryz.f34]
  refine aloop_intro (σ := Nat) (fun i => [(0, .str s), (5, .int .i64 s.length), (6, .int .i64 i)]) (fun i G => G = H ∧ i ≤ s.length ∧ allB isVl (s.take i) = true) (fun i => s.length - i) 0 ?_ ?_ ?_
  · simp -implicitDefEqProofs only [go_sem, reduceEqDiff, reduceAdd, reduceLeDiff, reduceLT, reduceMul, reduceEq, Int.reduceLT, reduceLE, Int.reduceAdd, reduceSub, reduceToNat, UInt8.reduceToNat]
  · simp [allB]
  · intro i r G hv hI
    have h0 := hv.1
    have h7 := hv.2.1
    have h8 := hv.2.2.1
    have hG := hI.1.symm
    have hi := hI.2.1
    have hp := hI.2.2
    clear hv hI
    subst hG
    simp -implicitDefEqProofs only [go_sem, reduceEqDiff, reduceAdd, reduceLeDiff, reduceLT, reduceMul, reduceEq, Int.reduceLT, reduceLE, Int.reduceAdd, reduceSub, reduceToNat, UInt8.reduceToNat, h0, h7, h8]
    refine cnd_intro (fun h => ?_) (fun h => ?_)
    · simp only [decide_eq_true_eq] at h
      obtain ⟨c, hc⟩ : ∃ c, s[i]? = some c := ⟨s[i]'(by omega), List.getElem?_eq_getElem _⟩
      have bad1 : isVl (c.toNat : Int) = false → valueB s = false := fun e => by simp [valueB, sEach, allB_false hc e, not_nil_of hc]
      have good : isVl (c.toNat : Int) = true → allB isVl (s.take (i + 1)) = true := fun e2 => allB_succ hp hc e2
      clear hp
      generalize hcn : (c.toNat : Int) = k at *
      simp -implicitDefEqProofs only [go_sem, reduceEqDiff, reduceAdd, reduceLeDiff, reduceLT, reduceMul, reduceEq, Int.reduceLT, reduceLE, Int.reduceAdd, reduceSub, reduceToNat, UInt8.reduceToNat, h0, h7, h8, hc, hcn]
      repeat' (first | (with_reducible refine gd_intro (fun h => ?_) (fun h => ?_) <;> first | (exact absurd h (by decide)) | (simp at h; done) | simp -implicitDefEqProofs (disch := omega) only [go_sem, reduceEqDiff, reduceAdd, reduceLeDiff, reduceLT, reduceMul, reduceEq, Int.reduceLT, reduceLE, Int.reduceAdd, reduceSub, reduceToNat, UInt8.reduceToNat, Go.IntWalk.i64_in, *]) | (with_reducible refine cnd_intro (fun h => ?_) (fun h => ?_) <;> first | (exact absurd h (by decide)) | (simp at h; done) | simp -implicitDefEqProofs (disch := omega) only [go_sem, reduceEqDiff, reduceAdd, reduceLeDiff, reduceLT, reduceMul, reduceEq, Int.reduceLT, reduceLE, Int.reduceAdd, reduceSub, reduceToNat, UInt8.reduceToNat, Go.IntWalk.i64_in, *]))
      all_goals first
        | (refine Done.now ⟨?_, rfl⟩
           simp only [decide_eq_true_eq, decide_eq_false_iff_not, Bool.not_eq_true', Bool.not_eq_false', Decidable.not_not, Int.not_lt, Int.not_le, ne_eq] at *
           rw [bad1 (by simp [isVl]; omega)]; done)
        | (simp only [decide_eq_true_eq, decide_eq_false_iff_not, Bool.not_eq_true', Bool.not_eq_false', Decidable.not_not, Int.not_lt, Int.not_le, ne_eq] at *
           exact Again.mk (i + 1) (by simp -implicitDefEqProofs only [go_sem, reduceEqDiff, reduceAdd, reduceLeDiff, reduceLT, reduceMul, reduceEq, Int.reduceLT, reduceLE, Int.reduceAdd, reduceSub, reduceToNat, UInt8.reduceToNat, h0, h7, h8]; exact rfl) ⟨rfl, by omega, good (by simp [isVl]; omega)⟩ (by omega))
    · simp only [decide_eq_false_iff_not] at h
      have e : i = s.length := by omega
      subst e
      rw [List.take_length] at hp
      simp -implicitDefEqProofs only [go_sem, reduceEqDiff, reduceAdd, reduceLeDiff, reduceLT, reduceMul, reduceEq, Int.reduceLT, reduceLE, Int.reduceAdd, reduceSub, reduceToNat, UInt8.reduceToNat, h0, h7, h8]
      repeat' (first | (with_reducible refine gd_intro (fun h => ?_) (fun h => ?_) <;> first | (exact absurd h (by decide)) | (simp at h; done) | simp -implicitDefEqProofs (disch := omega) only [go_sem, reduceEqDiff, reduceAdd, reduceLeDiff, reduceLT, reduceMul, reduceEq, Int.reduceLT, reduceLE, Int.reduceAdd, reduceSub, reduceToNat, UInt8.reduceToNat, Go.IntWalk.i64_in, *]) | (with_reducible refine cnd_intro (fun h => ?_) (fun h => ?_) <;> first | (exact absurd h (by decide)) | (simp at h; done) | simp -implicitDefEqProofs (disch := omega) only [go_sem, reduceEqDiff, reduceAdd, reduceLeDiff, reduceLT, reduceMul, reduceEq, Int.reduceLT, reduceLE, Int.reduceAdd, reduceSub, reduceToNat, UInt8.reduceToNat, Go.IntWalk.i64_in, *]))
      all_goals refine Done.now ⟨?_, rfl⟩
      all_goals try simp only [decide_eq_true_eq, decide_eq_false_iff_not, Bool.not_eq_true', Bool.not_eq_false', Decidable.not_not, Int.not_lt, Int.not_le, ne_eq] at *
      all_goals (by_cases hn : s = [] <;> simp_all [valueB, sEach] <;> omega)

def puR1 : Pures := putP 48 (sStr partB) (putP 34 (sStr valueB) (putP 16 (sStr nameB) puV3))
theorem puR1_dyn : isDyn puR1 = false := by simp only [puR1, go_sem, Nat.reduceEqDiff]
attribute [go_sem] puR1_dyn
theorem puR1_ok : PuOK Tryz.prog puR1 := .put (.put (.put (puV3_ok) (sStr_ok rIsName_calls)) (sStr_ok rIsValue_calls)) (sStr_ok rIsPart_calls)
theorem rIsPath_calls (s : Bytes) (H : Heap) (hs : s.length ≤ Room) : ACalls Tryz.prog 18 [.str s] H fun x H' => x = .bool (pathB s) ∧ H' = H := by
  refine ACalls.of_code (X := { pure := puR1 }) puR1_ok Tryz.func18 (by kernel_rfl) rfl (by kernel_rfl) (Nat.le_of_ble_eq_true rfl) ?_
  simp -implicitDefEqProofs only [go_sem, reduceEqDiff, reduceAdd, reduceLeDiff, reduceLT, reduceMul, reduceEq, Int.reduceLT, reduceLE, Int.reduceAdd, reduceSub, reduceToNat, UInt8.reduceToNat, Tryz.f18, puR1, puV3, puV2, puV1, puK, sSplit_room s _ hs]
  have hlen : (splitB 47 s).length ≤ 1099511627777 := by rw [splitB_len]; have := List.count_le_length (a := (47 : UInt8)) (l := s); have : Room = 1099511627776 := rfl; omega
  refine aloop_intro (σ := Nat) (fun i => [(0, .str s), (6, .sl ((splitB 47 s).map encBs) .unk), (7, .int .i64 (splitB 47 s).length), (8, .int .i64 i)]) (fun i G => G = H ∧ i ≤ (splitB 47 s).length ∧ ((splitB 47 s).take i).all partB = true) (fun i => (splitB 47 s).length - i) 0 ?_ ?_ ?_
  · simp -implicitDefEqProofs only [go_sem, reduceEqDiff, reduceAdd, reduceLeDiff, reduceLT, reduceMul, reduceEq, Int.reduceLT, reduceLE, Int.reduceAdd, reduceSub, reduceToNat, UInt8.reduceToNat]
  · simp
  · intro i r G hv hI
    have h0 := hv.1
    have h6 := hv.2.1
    have h7 := hv.2.2.1
    have h8 := hv.2.2.2.1
    have hG := hI.1.symm
    have hi := hI.2.1
    have hp := hI.2.2
    clear hv hI
    subst hG
    simp -implicitDefEqProofs only [go_sem, reduceEqDiff, reduceAdd, reduceLeDiff, reduceLT, reduceMul, reduceEq, Int.reduceLT, reduceLE, Int.reduceAdd, reduceSub, reduceToNat, UInt8.reduceToNat, h0, h6, h7, h8]
    refine cnd_intro (fun h => ?_) (fun h => ?_)
    · simp only [decide_eq_true_eq] at h
      obtain ⟨c, hc⟩ : ∃ c, (splitB 47 s)[i]? = some c := ⟨(splitB 47 s)[i]'(by omega), List.getElem?_eq_getElem _⟩
      have hr := room_part hs hc
      simp -implicitDefEqProofs only [go_sem, reduceEqDiff, reduceAdd, reduceLeDiff, reduceLT, reduceMul, reduceEq, Int.reduceLT, reduceLE, Int.reduceAdd, reduceSub, reduceToNat, UInt8.reduceToNat, h0, h6, h7, h8, hc, encBs, puR1, sStr_eq, hr]
      refine cnd_intro (fun hpc => ?_) (fun hpc => ?_) <;> simp only [Bool.not_eq_true', Bool.not_eq_false'] at hpc
      · simp -implicitDefEqProofs only [go_sem, reduceEqDiff, reduceAdd, reduceLeDiff, reduceLT, reduceMul, reduceEq, Int.reduceLT, reduceLE, Int.reduceAdd, reduceSub, reduceToNat, UInt8.reduceToNat, h0, h6, h7, h8, hc]
        refine Done.now ⟨?_, rfl⟩
        have : (splitB 47 s).all partB = false := by rw [List.all_eq_false]; exact ⟨c, List.mem_of_getElem? hc, by simp [hpc]⟩
        simp [pathB, this]
      · simp -implicitDefEqProofs (disch := omega) only [go_sem, reduceEqDiff, reduceAdd, reduceLeDiff, reduceLT, reduceMul, reduceEq, Int.reduceLT, reduceLE, Int.reduceAdd, reduceSub, reduceToNat, UInt8.reduceToNat, Go.IntWalk.i64_in, h0, h6, h7, h8, hc]
        refine Again.mk (i + 1) (by simp -implicitDefEqProofs only [go_sem, reduceEqDiff, reduceAdd, reduceLeDiff, reduceLT, reduceMul, reduceEq, Int.reduceLT, reduceLE, Int.reduceAdd, reduceSub, reduceToNat, UInt8.reduceToNat, h0, h6, h7, h8]; exact rfl) ⟨rfl, by omega, ?_⟩ (by omega)
        rw [List.take_add_one, hc]
        simp [List.all_append, hp, hpc]
    · simp only [decide_eq_false_iff_not] at h
      have e : i = (splitB 47 s).length := by omega
      subst e
      rw [List.take_length] at hp
      simp -implicitDefEqProofs only [go_sem, reduceEqDiff, reduceAdd, reduceLeDiff, reduceLT, reduceMul, reduceEq, Int.reduceLT, reduceLE, Int.reduceAdd, reduceSub, reduceToNat, UInt8.reduceToNat, h0, h6, h7, h8]
      exact Done.now ⟨by simp [pathB, hp], rfl⟩
def puN : Pures := putP 18 (sStr pathB) (putP 45 (sStr pathB) (putP 32 (sStr nameB) (putP 124 (sStr valueB) puR1)))
theorem puN_dyn : isDyn puN = false := by simp only [puN, go_sem, Nat.reduceEqDiff]
attribute [go_sem] puN_dyn
theorem puN_ok : PuOK Tryz.prog puN := .put (.put (.put (.put (puR1_ok) (sStr_ok isValue_calls)) (sStr_ok isName_calls)) (sStr_ok isPath_calls)) (sStr_ok rIsPath_calls)
end Go.Proofs

/- Walks: sums, of the program and of the reference. -/
namespace Go.Proofs
open Go Go.Abs
open Nat (reduceEqDiff reduceAdd reduceLeDiff reduceLT reduceMul)
open Int (reduceEq reduceLE reduceSub reduceToNat)
set_option linter.unusedSimpArgs false
set_option linter.unusedVariables false
/-! ### The reference's: the digits without zeros, and zeros before them -/
def puS1 : Pures := puN
theorem puS1_dyn : isDyn puS1 = isDyn puN := rfl
attribute [go_sem] puS1_dyn
theorem puS1_ok : PuOK Tryz.prog puS1 := puN_ok
end Go.Proofs

/- Walks: the reference's SumOf. -/
namespace Go.Proofs
open Go Go.Abs
open Nat (reduceEqDiff reduceAdd reduceLeDiff reduceLT reduceMul)
open Int (reduceEq reduceLE reduceSub reduceToNat)
set_option linter.unusedSimpArgs false
set_option linter.unusedVariables false
def preB (p s : Bytes) : Bool := decide (s.take p.length = p)
theorem preB_long {p s : Bytes} (h : s.length < p.length) : preB p s = false := by
  unfold preB
  rw [decide_eq_false_iff_not]
  intro e
  have := congrArg List.length e
  rw [List.length_take] at this
  omega
def sPre : List AV → Option AV := fn2 .str .str fun s p => some (.bool (preB p s))
theorem sPre_eq (s p : Bytes) : sPre [.str s, .str p] = some (.bool (preB p s)) := rfl
theorem sPre_ok {P : Program} {f : FuncId} (h : ∀ s p H, ACalls P f [.str s, .str p] H fun x H' => x = .bool (preB p s) ∧ H' = H) : ∀ xs v, sPre xs = some v → ∀ H, ACalls P f xs H fun x H' => x = v ∧ H' = H := by
  intro xs v hv H
  obtain ⟨x, y, p, q, rfl, h1, h2, h3⟩ := fn2_some hv
  cases h3
  cases Rd.str_some h1
  cases Rd.str_some h2
  exact h _ _ _
theorem hasPrefixL_calls (s p : Bytes) (H : Heap) : ACalls Tryz.prog 53 [.str s, .str p] H fun x H' => x = .bool (preB p s) ∧ H' = H := by
  refine ACalls.of_code (X := { pure := puS1 }) puS1_ok Tryz.func53 (by kernel_rfl) rfl (by kernel_rfl) (Nat.le_of_ble_eq_true rfl) ?_
  simp -implicitDefEqProofs only [go_sem, reduceEqDiff, reduceAdd, reduceLeDiff, reduceLT, reduceMul, reduceEq, Int.reduceLT, reduceLE, Int.reduceAdd, reduceSub, reduceToNat, UInt8.reduceToNat, Tryz.f53]
  refine gd_intro (fun h => ?_) (fun h => ?_)
  · have h' := h
    simp only [decide_eq_true_eq] at h'
    simp -implicitDefEqProofs only [go_sem, reduceEqDiff, reduceAdd, reduceLeDiff, reduceLT, reduceMul, reduceEq, Int.reduceLT, reduceLE, Int.reduceAdd, reduceSub, reduceToNat, UInt8.reduceToNat, h, Int.toNat_natCast]
    exact ⟨h', Done.now ⟨rfl, rfl⟩⟩
  · have h' := h
    simp only [decide_eq_false_iff_not] at h'
    simp -implicitDefEqProofs only [go_sem, reduceEqDiff, reduceAdd, reduceLeDiff, reduceLT, reduceMul, reduceEq, Int.reduceLT, reduceLE, Int.reduceAdd, reduceSub, reduceToNat, UInt8.reduceToNat, h]
    exact Done.now ⟨by rw [preB_long (by omega)], rfl⟩
def puS2 : Pures := putP 53 sPre puS1
theorem puS2_dyn : isDyn puS2 = false := by simp only [puS2, go_sem, Nat.reduceEqDiff]
attribute [go_sem] puS2_dyn
theorem puS2_ok : PuOK Tryz.prog puS2 := .put (puS1_ok) (sPre_ok hasPrefixL_calls)
theorem hasPrefix_calls (s p : Bytes) (H : Heap) : ACalls Tryz.prog 22 [.str s, .str p] H fun x H' => x = .bool (preB p s) ∧ H' = H := by
  refine ACalls.of_code (X := { pure := puS2 }) puS2_ok Tryz.func22 (by kernel_rfl) rfl (by kernel_rfl) (Nat.le_of_ble_eq_true rfl) ?_
  simp -implicitDefEqProofs only [go_sem, reduceEqDiff, reduceAdd, reduceLeDiff, reduceLT, reduceMul, reduceEq, Int.reduceLT, reduceLE, Int.reduceAdd, reduceSub, reduceToNat, UInt8.reduceToNat, Tryz.f22, puS2, sPre_eq]
  exact Done.now ⟨rfl, rfl⟩
def puS3 : Pures := putP 22 sPre puS2
theorem puS3_dyn : isDyn puS3 = false := by simp only [puS3, go_sem, Nat.reduceEqDiff]
attribute [go_sem] puS3_dyn
theorem puS3_ok : PuOK Tryz.prog puS3 := .put (puS2_ok) (sPre_ok hasPrefix_calls)
def puS4 : Pures := puS3
theorem puS4_dyn : isDyn puS4 = isDyn puS3 := rfl
attribute [go_sem] puS4_dyn
def puS5 : Pures := puS4
theorem puS5_dyn : isDyn puS5 = isDyn puS4 := rfl
attribute [go_sem] puS5_dyn
def puS6 : Pures := puS5
theorem puS6_dyn : isDyn puS6 = isDyn puS5 := rfl
attribute [go_sem] puS6_dyn
def puS7 : Pures := puS6
theorem puS7_dyn : isDyn puS7 = isDyn puS6 := rfl
attribute [go_sem] puS7_dyn
def puM : Pures := puN
theorem puM_dyn : isDyn puM = isDyn puN := rfl
attribute [go_sem] puM_dyn
theorem puM_ok : PuOK Tryz.prog puM := puN_ok
end Go.Proofs
