/-
  Walks and plain laws, part 8.
-/
import Derived.Test.YtloodfinfbmmkaaDoorM7
import Derived.Test.YtloodfinfbmmkaaDoorM4
import Derived.Test.YtloodfinfbmmkaaDoorM3
import Derived.Test.YtloodfinfbmmkaaDoorM6
/- Walks: changes are written, on both sides. -/
namespace Go.Proofs
open Go Go.Abs
set_option linter.unusedSimpArgs false
set_option linter.unusedVariables false
set_option maxRecDepth 20000
noncomputable def puCE : Pures := putP 37 sChgE (putP 72 sChgE puCP1)
theorem puCE_dyn : isDyn puCE = false := by simp only [puCE, go_sem, Nat.reduceEqDiff]
attribute [go_sem] puCE_dyn
theorem puCE_ok : PuOK Tryd.prog puCE := .put (.put (puCP1_ok) (sChgE_ok checkChange_calls)) (sChgE_ok rChangeError_calls)
theorem sChgE_eq (c : ChgV) (h : chgR c) : sChgE [.agg (encChg c)] = some (.int .i64 (chgErr c)) := by
  have e : decChg (encChg c) = some c := rfl
  have e2 : (Rd.agg decChg).rd (.agg (encChg c)) = some c := e
  unfold sChgE fn1
  simp only [e2, Option.bind_some, if_pos h]
theorem encChg_len (c : ChgV) : (encChg c).length = 10 := rfl
set_option maxHeartbeats 1600000 in
theorem changesFault_calls (l : List ChgV) (t : Tail) (H : Heap) (hl : l.length ≤ 1099511627776) (hr : ∀ c ∈ l, chgR c) : ACalls Tryd.prog 30 [.sl (l.map encChg) t] H fun x H' => x = .int .i64 (chgsErr l) ∧ H' = H := by
  refine ACalls.of_code (X := { pure := puCE }) puCE_ok Tryd.func30 (by kernel_rfl) rfl (by kernel_rfl) (Nat.le_of_ble_eq_true rfl) ?_
  simp -implicitDefEqProofs only [go_sem, tys, regs0, Nat.reduceEqDiff, Nat.reduceAdd, Nat.reduceLeDiff, Nat.reduceLT, Nat.reduceMul, Int.natCast_one, Int.natCast_zero, Int.reduceEq, Int.reduceLT, Int.reduceLE, Int.reduceAdd, Int.reduceSub, Int.reduceToNat, UInt8.reduceToNat, Tryd.f30]
  refine aloop_intro (σ := Nat) (fun i => [(6, .sl (l.map encChg) t), (7, .int .i64 l.length), (8, .int .i64 i)])
    (fun i G => H.Sub G ∧ i ≤ l.length ∧ chgsErr l = chgsErr (l.drop i)) (fun i => l.length - i) 0 ?_ ?_ ?_
  · simp -implicitDefEqProofs only [go_sem, tys, regs0, Nat.reduceEqDiff, Nat.reduceAdd, Nat.reduceLeDiff, Nat.reduceLT, Nat.reduceMul, Int.natCast_one, Int.natCast_zero, Int.reduceEq, Int.reduceLT, Int.reduceLE, Int.reduceAdd, Int.reduceSub, Int.reduceToNat, UInt8.reduceToNat]
  · exact ⟨Heap.Sub.rfl' H, Nat.zero_le _, rfl⟩
  rintro i r G hv ⟨hS, hi, hE⟩
  have h6 := hv.1
  have h7 := hv.2.1
  have h8 := hv.2.2.1
  clear hv
  by_cases g : i < l.length
  rotate_left
  · have y0 : decide ((i : Int) < l.length) = false := decide_eq_false (by omega)
    obtain rfl : i = l.length := by omega
    rw [List.drop_length, chgsErr] at hE
    simp -implicitDefEqProofs only [go_sem, tys, regs0, Nat.reduceEqDiff, Nat.reduceAdd, Nat.reduceLeDiff, Nat.reduceLT, Nat.reduceMul, Int.natCast_one, Int.natCast_zero, Int.reduceEq, Int.reduceLT, Int.reduceLE, Int.reduceAdd, Int.reduceSub, Int.reduceToNat, UInt8.reduceToNat, h6, h7, h8, y0]
    exact Done.drop hS ⟨by rw [hE], rfl⟩
  have y0 : decide ((i : Int) < l.length) = true := decide_eq_true (by omega)
  obtain ⟨x, hx⟩ : ∃ x, l[i]? = some x := getD_get' g
  have hs := sChgE_eq x (hr x (List.mem_of_getElem? hx))
  have ws : IntKind.i64.wrap ((i : Int) + 1) = ((i + 1 : Nat) : Int) := by rw [Go.IntWalk.i64_in _ (by omega)]; omega
  rw [drop_at hx, chgsErr] at hE
  have hU : ∀ (a : ChgV), a ∈ l → (encChg a).length = 10 := fun _ _ => rfl
  generalize chgErr x = e at *
  obtain ⟨k, ⟨a, b, c⟩, ⟨x, y⟩, ⟨p, q, u, v⟩⟩ := x
  simp only [encChg] at hs
  simp -implicitDefEqProofs only [go_sem, tys, regs0, Nat.reduceEqDiff, Nat.reduceAdd, Nat.reduceLeDiff, Nat.reduceLT, Nat.reduceMul, Int.natCast_one, Int.natCast_zero, Int.reduceEq, Int.reduceLT, Int.reduceLE, Int.reduceAdd, Int.reduceSub, Int.reduceToNat, UInt8.reduceToNat, h6, h7, h8, y0, hx]
  refine ⟨hU, Nat.le_refl _, ?_⟩
  simp only [encChg, List.take_succ_cons, List.take_zero, List.take_nil]
  with_reducible refine nwC_intro fun i4 hi4 => ?_
  simp -implicitDefEqProofs only [go_sem, tys, regs0, Nat.reduceEqDiff, Nat.reduceAdd, Nat.reduceLeDiff, Nat.reduceLT, Nat.reduceMul, Int.natCast_one, Int.natCast_zero, Int.reduceEq, Int.reduceLT, Int.reduceLE, Int.reduceAdd, Int.reduceSub, Int.reduceToNat, UInt8.reduceToNat]
  generalize E4 : Heap.put G i4 _ = G4
  have hO_4 := obj_new E4 hi4 hS
  have n4 := hO_4.1
  have hS := hO_4.2.1
  have g4 := hO_4.2.2.1
  clear hO_4
  by_cases c1 : e = 0
  · have y1 : decide (¬ e = 0) = false := decide_eq_false (by simpa using c1)
    rw [if_neg (by simpa using c1)] at hE
    simp -implicitDefEqProofs only [go_sem, tys, regs0, Nat.reduceEqDiff, Nat.reduceAdd, Nat.reduceLeDiff, Nat.reduceLT, Nat.reduceMul, Int.natCast_one, Int.natCast_zero, Int.reduceEq, Int.reduceLT, Int.reduceLE, Int.reduceAdd, Int.reduceSub, Int.reduceToNat, UInt8.reduceToNat, h6, h7, h8, g4, puCE, hs, y1, ws]
    exact Again.mk (i + 1) (by simp -implicitDefEqProofs only [go_sem, tys, regs0, Nat.reduceEqDiff, Nat.reduceAdd, Nat.reduceLeDiff, Nat.reduceLT, Nat.reduceMul, Int.natCast_one, Int.natCast_zero, Int.reduceEq, Int.reduceLT, Int.reduceLE, Int.reduceAdd, Int.reduceSub, Int.reduceToNat, UInt8.reduceToNat, h6, h7, h8]) ⟨hS, by omega, hE⟩ (by omega)
  · have y1 : decide (¬ e = 0) = true := decide_eq_true c1
    rw [if_pos c1] at hE
    simp -implicitDefEqProofs only [go_sem, tys, regs0, Nat.reduceEqDiff, Nat.reduceAdd, Nat.reduceLeDiff, Nat.reduceLT, Nat.reduceMul, Int.natCast_one, Int.natCast_zero, Int.reduceEq, Int.reduceLT, Int.reduceLE, Int.reduceAdd, Int.reduceSub, Int.reduceToNat, UInt8.reduceToNat, h6, h7, h8, g4, puCE, hs, y1]
    exact Done.drop hS ⟨by rw [hE], rfl⟩

set_option maxHeartbeats 1600000 in
theorem rChangesError_calls (l : List ChgV) (t : Tail) (H : Heap) (hl : l.length ≤ 1099511627776) (hr : ∀ c ∈ l, chgR c) : ACalls Tryd.prog 10 [.sl (l.map encChg) t] H fun x H' => x = .int .i64 (chgsErr l) ∧ H' = H := by
  refine ACalls.of_code (X := { pure := puCE }) puCE_ok Tryd.func10 (by kernel_rfl) rfl (by kernel_rfl) (Nat.le_of_ble_eq_true rfl) ?_
  simp -implicitDefEqProofs only [go_sem, tys, regs0, Nat.reduceEqDiff, Nat.reduceAdd, Nat.reduceLeDiff, Nat.reduceLT, Nat.reduceMul, Int.natCast_one, Int.natCast_zero, Int.reduceEq, Int.reduceLT, Int.reduceLE, Int.reduceAdd, Int.reduceSub, Int.reduceToNat, UInt8.reduceToNat, Tryd.f10]
  refine aloop_intro (σ := Nat) (fun i => [(6, .sl (l.map encChg) t), (7, .int .i64 l.length), (8, .int .i64 i)])
    (fun i G => H.Sub G ∧ i ≤ l.length ∧ chgsErr l = chgsErr (l.drop i)) (fun i => l.length - i) 0 ?_ ?_ ?_
  · simp -implicitDefEqProofs only [go_sem, tys, regs0, Nat.reduceEqDiff, Nat.reduceAdd, Nat.reduceLeDiff, Nat.reduceLT, Nat.reduceMul, Int.natCast_one, Int.natCast_zero, Int.reduceEq, Int.reduceLT, Int.reduceLE, Int.reduceAdd, Int.reduceSub, Int.reduceToNat, UInt8.reduceToNat]
  · exact ⟨Heap.Sub.rfl' H, Nat.zero_le _, rfl⟩
  rintro i r G hv ⟨hS, hi, hE⟩
  have h6 := hv.1
  have h7 := hv.2.1
  have h8 := hv.2.2.1
  clear hv
  by_cases g : i < l.length
  rotate_left
  · have y0 : decide ((i : Int) < l.length) = false := decide_eq_false (by omega)
    obtain rfl : i = l.length := by omega
    rw [List.drop_length, chgsErr] at hE
    simp -implicitDefEqProofs only [go_sem, tys, regs0, Nat.reduceEqDiff, Nat.reduceAdd, Nat.reduceLeDiff, Nat.reduceLT, Nat.reduceMul, Int.natCast_one, Int.natCast_zero, Int.reduceEq, Int.reduceLT, Int.reduceLE, Int.reduceAdd, Int.reduceSub, Int.reduceToNat, UInt8.reduceToNat, h6, h7, h8, y0]
    exact Done.drop hS ⟨by rw [hE], rfl⟩
  have y0 : decide ((i : Int) < l.length) = true := decide_eq_true (by omega)
  obtain ⟨x, hx⟩ : ∃ x, l[i]? = some x := getD_get' g
  have hs := sChgE_eq x (hr x (List.mem_of_getElem? hx))
  have ws : IntKind.i64.wrap ((i : Int) + 1) = ((i + 1 : Nat) : Int) := by rw [Go.IntWalk.i64_in _ (by omega)]; omega
  rw [drop_at hx, chgsErr] at hE
  have hU : ∀ (a : ChgV), a ∈ l → (encChg a).length = 10 := fun _ _ => rfl
  generalize chgErr x = e at *
  obtain ⟨k, ⟨a, b, c⟩, ⟨x, y⟩, ⟨p, q, u, v⟩⟩ := x
  simp only [encChg] at hs
  simp -implicitDefEqProofs only [go_sem, tys, regs0, Nat.reduceEqDiff, Nat.reduceAdd, Nat.reduceLeDiff, Nat.reduceLT, Nat.reduceMul, Int.natCast_one, Int.natCast_zero, Int.reduceEq, Int.reduceLT, Int.reduceLE, Int.reduceAdd, Int.reduceSub, Int.reduceToNat, UInt8.reduceToNat, h6, h7, h8, y0, hx]
  refine ⟨hU, Nat.le_refl _, ?_⟩
  simp only [encChg, List.take_succ_cons, List.take_zero, List.take_nil]
  with_reducible refine nwC_intro fun i4 hi4 => ?_
  simp -implicitDefEqProofs only [go_sem, tys, regs0, Nat.reduceEqDiff, Nat.reduceAdd, Nat.reduceLeDiff, Nat.reduceLT, Nat.reduceMul, Int.natCast_one, Int.natCast_zero, Int.reduceEq, Int.reduceLT, Int.reduceLE, Int.reduceAdd, Int.reduceSub, Int.reduceToNat, UInt8.reduceToNat]
  generalize E4 : Heap.put G i4 _ = G4
  have hO_4 := obj_new E4 hi4 hS
  have n4 := hO_4.1
  have hS := hO_4.2.1
  have g4 := hO_4.2.2.1
  clear hO_4
  by_cases c1 : e = 0
  · have y1 : decide (¬ e = 0) = false := decide_eq_false (by simpa using c1)
    rw [if_neg (by simpa using c1)] at hE
    simp -implicitDefEqProofs only [go_sem, tys, regs0, Nat.reduceEqDiff, Nat.reduceAdd, Nat.reduceLeDiff, Nat.reduceLT, Nat.reduceMul, Int.natCast_one, Int.natCast_zero, Int.reduceEq, Int.reduceLT, Int.reduceLE, Int.reduceAdd, Int.reduceSub, Int.reduceToNat, UInt8.reduceToNat, h6, h7, h8, g4, puCE, hs, y1, ws]
    exact Again.mk (i + 1) (by simp -implicitDefEqProofs only [go_sem, tys, regs0, Nat.reduceEqDiff, Nat.reduceAdd, Nat.reduceLeDiff, Nat.reduceLT, Nat.reduceMul, Int.natCast_one, Int.natCast_zero, Int.reduceEq, Int.reduceLT, Int.reduceLE, Int.reduceAdd, Int.reduceSub, Int.reduceToNat, UInt8.reduceToNat, h6, h7, h8]) ⟨hS, by omega, hE⟩ (by omega)
  · have y1 : decide (¬ e = 0) = true := decide_eq_true c1
    rw [if_pos c1] at hE
    simp -implicitDefEqProofs only [go_sem, tys, regs0, Nat.reduceEqDiff, Nat.reduceAdd, Nat.reduceLeDiff, Nat.reduceLT, Nat.reduceMul, Int.natCast_one, Int.natCast_zero, Int.reduceEq, Int.reduceLT, Int.reduceLE, Int.reduceAdd, Int.reduceSub, Int.reduceToNat, UInt8.reduceToNat, h6, h7, h8, g4, puCE, hs, y1]
    exact Done.drop hS ⟨by rw [hE], rfl⟩

end Go.Proofs

/- Walks: changes are written, on both sides. -/
namespace Go.Proofs
open Go Go.Abs
set_option linter.unusedSimpArgs false
set_option linter.unusedVariables false
set_option maxRecDepth 20000
noncomputable def sFlL := spF (fun f : FileV => [.str wPut, .str wPutrun, .agg (encFile f)]) fileR (fun f => .str ((if f.runs = true then wPutrun else wPut) ++ [32] ++ f.path ++ [32] ++ quoteB f.data ++ [10]))
noncomputable def sStL := spF (fun f : SetV => [.str wSet, .agg (encSet f)]) setR (fun s => .str (wSet ++ [32] ++ s.key ++ [32] ++ quoteB s.value ++ [10]))
noncomputable def sSvL := spF (fun f : SvcV => [.agg (encSvc f)]) svcR (fun s => .str (wService ++ [32] ++ svcLine s ++ [10]))
noncomputable def sSvW := spF (fun f : SvcV => [.agg (encSvc f)]) svcR (fun s => .str (svcLine s))
noncomputable def sSized := spF (fun s : Bytes => [.str s]) (fun _ => True) (fun s => if 4194304 < s.length then .tup [.str [], .int .i64 4] else .tup [.str s, .int .i64 0])
noncomputable def sChgs := spF (fun p : List ChgV × Tail => [.sl (p.1.map encChg) p.2]) (fun p => p.1.length ≤ 1099511627776 ∧ ∀ c ∈ p.1, chgR c) (fun p => .int .i64 (chgsErr p.1))
theorem encChg_inj {a b : ChgV} (h : encChg a = encChg b) : a = b := by
  obtain ⟨k, ⟨x1, x2, x3⟩, ⟨x4, x5⟩, ⟨x6, x7, x8, x9⟩⟩ := a
  obtain ⟨k', ⟨y1, y2, y3⟩, ⟨y4, y5⟩, ⟨y6, y7, y8, y9⟩⟩ := b
  simp only [encChg] at h
  cases h; rfl
theorem encChgs_inj : ∀ {a b : List ChgV}, a.map encChg = b.map encChg → a = b
  | [], [], _ => rfl
  | x :: a, y :: b, h => by
    simp only [List.map_cons, List.cons.injEq] at h
    rw [encChg_inj h.1, encChgs_inj h.2]
theorem sFlL_eq (p d : Bytes) (r : Bool) (h : fileR ⟨p, d, r⟩) : sFlL [.str wPut, .str wPutrun, .agg [.str p, .str d, .bool r]] = some (.str ((if r = true then wPutrun else wPut) ++ [32] ++ p ++ [32] ++ quoteB d ++ [10])) :=
  spF_eq (enc := fun f : FileV => [.str wPut, .str wPutrun, .agg (encFile f)]) (fun a b e => by
    obtain ⟨x1, x2, x3⟩ := a
    obtain ⟨y1, y2, y3⟩ := b
    cases e; rfl) ⟨p, d, r⟩ h
theorem sStL_eq (k v : Bytes) (h : setR ⟨k, v⟩) : sStL [.str wSet, .agg [.str k, .str v]] = some (.str (wSet ++ [32] ++ k ++ [32] ++ quoteB v ++ [10])) :=
  spF_eq (enc := fun f : SetV => [.str wSet, .agg (encSet f)]) (fun a b e => by
    obtain ⟨x1, x2⟩ := a
    obtain ⟨y1, y2⟩ := b
    cases e; rfl) ⟨k, v⟩ h
theorem sSvL_eq (n p : Bytes) (u v : Bool) (h : svcR ⟨n, p, u, v⟩) : sSvL [.agg [.str n, .str p, .bool u, .bool v]] = some (.str (wService ++ [32] ++ svcLine ⟨n, p, u, v⟩ ++ [10])) :=
  spF_eq (enc := fun f : SvcV => [.agg (encSvc f)]) (fun a b e => by
    obtain ⟨x1, x2, x3, x4⟩ := a
    obtain ⟨y1, y2, y3, y4⟩ := b
    cases e; rfl) ⟨n, p, u, v⟩ h
theorem sSvW_eq (n p : Bytes) (u v : Bool) (h : svcR ⟨n, p, u, v⟩) : sSvW [.agg [.str n, .str p, .bool u, .bool v]] = some (.str (svcLine ⟨n, p, u, v⟩)) :=
  spF_eq (enc := fun f : SvcV => [.agg (encSvc f)]) (fun a b e => by
    obtain ⟨x1, x2, x3, x4⟩ := a
    obtain ⟨y1, y2, y3, y4⟩ := b
    cases e; rfl) ⟨n, p, u, v⟩ h
theorem sSized_eq (s : Bytes) : sSized [.str s] = some (if 4194304 < s.length then .tup [.str [], .int .i64 4] else .tup [.str s, .int .i64 0]) :=
  spF_eq (enc := fun s : Bytes => [.str s]) (fun a b e => by cases e; rfl) s trivial
theorem sChgs_eq (l : List ChgV) (t : Tail) (h1 : l.length ≤ 1099511627776) (h2 : ∀ c ∈ l, chgR c) : sChgs [.sl (l.map encChg) t] = some (.int .i64 (chgsErr l)) :=
  spF_eq (enc := fun p : List ChgV × Tail => [.sl (p.1.map encChg) p.2]) (fun a b e => by
    obtain ⟨a, t1⟩ := a
    obtain ⟨b, t2⟩ := b
    simp only [List.cons.injEq, AV.sl.injEq, and_true] at e
    rw [encChgs_inj e.1]) (l, t) ⟨h1, h2⟩
noncomputable def puCP4 : Pures := putP 10 sChgs (putP 30 sChgs (putP 35 sSized (putP 39 sSvW (putP 34 sSvL (putP 33 sStL (putP 32 sFlL puCE))))))
theorem puCP4_dyn : isDyn puCP4 = false := by simp only [puCP4, go_sem, Nat.reduceEqDiff]
attribute [go_sem] puCP4_dyn
theorem puCP4_ok : PuOK Tryd.prog puCP4 := .put (.put (.put (.put (.put (.put (.put (puCE_ok) (spF_ok fun f H h => fileLine_calls wPut wPutrun f H (by decide) (by decide) h)) (spF_ok fun f H h => settingLine_calls wSet f H (by decide) h)) (spF_ok fun f H h => serviceLine_calls f H h)) (spF_ok fun f H h => serviceWords_calls f H h)) (spF_ok fun s H _ => sized_calls s H)) (spF_ok fun p H h => changesFault_calls p.1 p.2 H h.1 h.2)) (spF_ok fun p H h => rChangesError_calls p.1 p.2 H h.1 h.2)
theorem chgsText_take {l : List ChgV} {i : Nat} {c : ChgV} (h : l[i]? = some c) : chgsText (l.take (i + 1)) = chgsText (l.take i) ++ (chgLine c ++ [10]) := by
  unfold chgsText
  rw [List.take_add_one, h]
  simp
theorem chgsText_le (l : List ChgV) (i : Nat) : (chgsText (l.take i)).length ≤ (chgsText l).length := by
  have e : chgsText l = chgsText (l.take i) ++ chgsText (l.drop i) := by
    unfold chgsText
    rw [← List.flatten_append, ← List.map_append, List.take_append_drop]
  rw [e, List.length_append]
  omega
theorem encChg_unif (l : List ChgV) : Unif 10 (l.map encChg) := by
  intro c hc
  simp only [List.mem_map] at hc
  obtain ⟨b, _, rfl⟩ := hc
  rfl
def Bld5 (H : Heap) (b : Nat) (s : Bytes) (t : Nat) (r : Regs) (G : Heap) : Prop := BldOK H G b s ∧ agrees r [(t, bldP b)]
def printCA (l : List ChgV) : AV := if chgsErr l ≠ 0 then .tup [.str [], .int .i64 (chgsErr l)] else if 4194304 < (chgsText l).length then .tup [.str [], .int .i64 4] else .tup [.str (chgsText l), .int .i64 0]
set_option maxHeartbeats 6400000 in
theorem printChanges_calls (l : List ChgV) (t : Tail) (H : Heap) (hl : l.length ≤ 1099511627776) (hr : ∀ c ∈ l, chgR c) (hT : chgsErr l = 0 → (chgsText l).length ≤ 140737488355328) :
    ACalls Tryd.prog 9 [.sl (l.map encChg) t] H fun x H' => x = printCA l ∧ H' = H := by
  have hc := sChgs_eq l t hl hr
  unfold printCA
  by_cases hE : ¬ chgsErr l = 0
  · have y1 : decide (¬ chgsErr l = 0) = true := decide_eq_true hE
    rw [if_pos hE]
    refine ACalls.of_code (X := { pure := puCP4 }) puCP4_ok Tryd.func9 (by kernel_rfl) rfl (by kernel_rfl) (Nat.le_of_ble_eq_true rfl) ?_
    simp -implicitDefEqProofs (disch := (first | omega | (simp only [List.length_append, List.length_cons, List.length_nil]; omega))) only [go_sem, binS_addD, tys, regs0, Nat.reduceEqDiff, Nat.reduceAdd, Nat.reduceLeDiff, Nat.reduceLT, Nat.reduceMul, Int.natCast_one, Int.natCast_zero, Int.reduceEq, Int.reduceLT, Int.reduceLE, Int.reduceAdd, Int.reduceSub, Int.reduceToNat, UInt8.reduceToNat, Go.IntWalk.i64_in, Tryd.f9, puCP4, hc, y1]
    exact Done.now ⟨rfl, rfl⟩
  have hE : chgsErr l = 0 := Decidable.not_not.1 hE
  have hT := hT hE
  have hok := chgsErr_mem hE
  rw [if_neg (by simpa using hE)]
  rw [hE] at hc
  refine ACalls.of_code (X := { pure := puCP4, ms := fun t => decide (t = 5) }) puCP4_ok Tryd.func9 (by kernel_rfl) rfl (by kernel_rfl) (Nat.le_of_ble_eq_true rfl) ?_
  simp -implicitDefEqProofs (disch := (first | omega | (simp only [List.length_append, List.length_cons, List.length_nil]; omega))) only [go_sem, binS_addD, tys, regs0, Nat.reduceEqDiff, Nat.reduceAdd, Nat.reduceLeDiff, Nat.reduceLT, Nat.reduceMul, Int.natCast_one, Int.natCast_zero, Int.reduceEq, Int.reduceLT, Int.reduceLE, Int.reduceAdd, Int.reduceSub, Int.reduceToNat, UInt8.reduceToNat, Go.IntWalk.i64_in, Tryd.f9, puCP4, hc]
  with_reducible refine nwT_intro fun b hb => ?_
  simp -implicitDefEqProofs only [go_sem, tys, regs0, Nat.reduceEqDiff, Nat.reduceAdd, Nat.reduceLeDiff, Nat.reduceLT, Nat.reduceMul, Int.natCast_one, Int.natCast_zero, Int.reduceEq, Int.reduceLT, Int.reduceLE, Int.reduceAdd, Int.reduceSub, Int.reduceToNat, UInt8.reduceToNat]
  have hB := BldG.new (Heap.Sub.rfl' H) hb
  generalize H.put b (.cells [.nilp, .snil]) = G0 at *
  with_reducible refine aloop_cut 0 (Bld5 H b (chgsText l) 5) ?_ ?_
  rotate_left
  · refine aloop_intro (σ := Nat) (fun i => [(5, bldP b), (13, .sl (l.map encChg) t), (14, .int .i64 l.length), (15, .int .i64 i)])
      (fun i G => i ≤ l.length ∧ BldOK H G b (chgsText (l.take i))) (fun i => l.length - i) 0 ?_ ?_ ?_
    · simp -implicitDefEqProofs only [go_sem, tys, regs0, Nat.reduceEqDiff, Nat.reduceAdd, Nat.reduceLeDiff, Nat.reduceLT, Nat.reduceMul, Int.natCast_one, Int.natCast_zero, Int.reduceEq, Int.reduceLT, Int.reduceLE, Int.reduceAdd, Int.reduceSub, Int.reduceToNat, UInt8.reduceToNat, bldP]
    · exact ⟨Nat.zero_le _, hB⟩
    clear hB
    rintro i r G hv ⟨hi, hB⟩
    have h5 := hv.1
    have h13 := hv.2.1
    have h14 := hv.2.2.1
    have h15 := hv.2.2.2.1
    clear hv
    by_cases g : i < l.length
    rotate_left
    · have y0 : decide ((i : Int) < l.length) = false := decide_eq_false (by omega)
      obtain rfl : i = l.length := by omega
      rw [List.take_length] at hB
      simp -implicitDefEqProofs only [go_sem, tys, regs0, Nat.reduceEqDiff, Nat.reduceAdd, Nat.reduceLeDiff, Nat.reduceLT, Nat.reduceMul, Int.natCast_one, Int.natCast_zero, Int.reduceEq, Int.reduceLT, Int.reduceLE, Int.reduceAdd, Int.reduceSub, Int.reduceToNat, UInt8.reduceToNat, h5, h13, h14, h15, y0]
      exact ⟨hB, by simp -implicitDefEqProofs only [go_sem, tys, regs0, Nat.reduceEqDiff, Nat.reduceAdd, Nat.reduceLeDiff, Nat.reduceLT, Nat.reduceMul, Int.natCast_one, Int.natCast_zero, Int.reduceEq, Int.reduceLT, Int.reduceLE, Int.reduceAdd, Int.reduceSub, Int.reduceToNat, UInt8.reduceToNat, h5]⟩
    have y0 : decide ((i : Int) < l.length) = true := decide_eq_true (by omega)
    obtain ⟨x, hx⟩ : ∃ x, l[i]? = some x := getD_get' g
    have hkp := (chg_kept (hok x (List.mem_of_getElem? hx))).1
    have hxr := hr x (List.mem_of_getElem? hx)
    have ws : IntKind.i64.wrap ((i : Int) + 1) = ((i + 1 : Nat) : Int) := by rw [Go.IntWalk.i64_in _ (by omega)]; omega
    have hU : ∀ (a : ChgV), a ∈ l → (encChg a).length = 10 := fun _ _ => rfl
    have hn := chgsText_take hx
    have hle := chgsText_le l (i + 1)
    obtain ⟨k, ⟨p, d, ru⟩, ⟨ky, vl⟩, ⟨nm, sp, au, on⟩⟩ := x
    obtain ⟨⟨hr1, hr2⟩, ⟨hr3, hr4⟩, hr5, hr6⟩ := hxr
    simp only at hkp hr1 hr2 hr3 hr4 hr5 hr6
    have e1 := sFlL_eq p d ru ⟨hr1, hr2⟩
    have e2 := sStL_eq ky vl ⟨hr3, hr4⟩
    have e3 := sSvL_eq nm sp au on ⟨hr5, hr6⟩
    simp only [wPut, wPutrun, wSet] at e1 e2
    simp -implicitDefEqProofs only [go_sem, tys, regs0, Nat.reduceEqDiff, Nat.reduceAdd, Nat.reduceLeDiff, Nat.reduceLT, Nat.reduceMul, Int.natCast_one, Int.natCast_zero, Int.reduceEq, Int.reduceLT, Int.reduceLE, Int.reduceAdd, Int.reduceSub, Int.reduceToNat, UInt8.reduceToNat, h5, h13, h14, h15, y0, hx]
    refine ⟨hU, Nat.le_refl _, ?_⟩
    simp only [encChg, List.take_succ_cons, List.take_zero, List.take_nil]
    with_reducible refine nwC_intro fun i7 hi7 => ?_
    have hB := BldG.put hB hi7 (.cells [.int .i64 k, .str p, .str d, .bool ru, .str ky, .str vl, .str nm, .str sp, .bool au, .bool on])
    simp -implicitDefEqProofs only [go_sem, tys, regs0, Nat.reduceEqDiff, Nat.reduceAdd, Nat.reduceLeDiff, Nat.reduceLT, Nat.reduceMul, Int.natCast_one, Int.natCast_zero, Int.reduceEq, Int.reduceLT, Int.reduceLE, Int.reduceAdd, Int.reduceSub, Int.reduceToNat, UInt8.reduceToNat]
    have g7 := put_same G i7 (.cells [.int .i64 k, .str p, .str d, .bool ru, .str ky, .str vl, .str nm, .str sp, .bool au, .bool on])
    generalize G.put i7 (.cells [.int .i64 k, .str p, .str d, .bool ru, .str ky, .str vl, .str nm, .str sp, .bool au, .bool on]) = G7 at *
    have fin : ∀ s, s = chgLine ⟨k, ⟨p, d, ru⟩, ⟨ky, vl⟩, ⟨nm, sp, au, on⟩⟩ ++ [10] → ∀ K : K1, (∀ G', BldOK H G' b (chgsText (l.take (i + 1))) → K (.tup [.int .i64 s.length, .nilIface]) G') → ACalls Tryd.prog 31 [bldP b, .str s] G7 K := by
      intro s hs K hK
      rw [hn, ← hs, List.length_append] at hle
      refine writeString_k hB (by omega) fun G' hB' _ => hK G' ?_
      rw [hn, ← hs]; exact hB'
    clear hB hn hle
    obtain ⟨k1, k6⟩ := hkp
    obtain rfl | rfl | rfl | rfl | rfl | rfl : k = 1 ∨ k = 2 ∨ k = 3 ∨ k = 4 ∨ k = 5 ∨ k = 6 := by omega
    all_goals
      simp -implicitDefEqProofs (disch := (first | omega | (simp only [List.length_append, List.length_cons, List.length_nil]; omega))) only [go_sem, binS_addD, tys, regs0, Nat.reduceEqDiff, Nat.reduceAdd, Nat.reduceLeDiff, Nat.reduceLT, Nat.reduceMul, Int.natCast_one, Int.natCast_zero, Int.reduceEq, Int.reduceLT, Int.reduceLE, Int.reduceAdd, Int.reduceSub, Int.reduceToNat, UInt8.reduceToNat, Go.IntWalk.i64_in, h5, h13, h14, h15, g7, puCP4, e1, e2, e3]
      refine fin _ (by simp [chgLine, wPut, wPutrun, wRemove, wSet, wUnset, wService, wDrop]) _ fun G' hB => ?_
      simp -implicitDefEqProofs only [go_sem, tys, regs0, Nat.reduceEqDiff, Nat.reduceAdd, Nat.reduceLeDiff, Nat.reduceLT, Nat.reduceMul, Int.natCast_one, Int.natCast_zero, Int.reduceEq, Int.reduceLT, Int.reduceLE, Int.reduceAdd, Int.reduceSub, Int.reduceToNat, UInt8.reduceToNat, h5, h13, h14, h15, ws]
      exact Again.mk (i + 1) (by simp -implicitDefEqProofs only [go_sem, tys, regs0, Nat.reduceEqDiff, Nat.reduceAdd, Nat.reduceLeDiff, Nat.reduceLT, Nat.reduceMul, Int.natCast_one, Int.natCast_zero, Int.reduceEq, Int.reduceLT, Int.reduceLE, Int.reduceAdd, Int.reduceSub, Int.reduceToNat, UInt8.reduceToNat, h5, h13, h14, h15]) ⟨by omega, hB⟩ (by omega)
  rintro r G ⟨hB, hv⟩
  have h5 := hv.1
  clear hv
  have es := sSized_eq (chgsText l)
  simp -implicitDefEqProofs only [go_sem, tys, regs0, Nat.reduceEqDiff, Nat.reduceAdd, Nat.reduceLeDiff, Nat.reduceLT, Nat.reduceMul, Int.natCast_one, Int.natCast_zero, Int.reduceEq, Int.reduceLT, Int.reduceLE, Int.reduceAdd, Int.reduceSub, Int.reduceToNat, UInt8.reduceToNat, h5]
  refine bldString_k hB hT (fun h => by cases h) ?_
  by_cases hL : 4194304 < (chgsText l).length
  · rw [if_pos hL] at es
    rw [if_pos hL]
    simp -implicitDefEqProofs only [go_sem, tys, regs0, Nat.reduceEqDiff, Nat.reduceAdd, Nat.reduceLeDiff, Nat.reduceLT, Nat.reduceMul, Int.natCast_one, Int.natCast_zero, Int.reduceEq, Int.reduceLT, Int.reduceLE, Int.reduceAdd, Int.reduceSub, Int.reduceToNat, UInt8.reduceToNat, puCP4, es]
    exact Done.drop hB.sub ⟨rfl, rfl⟩
  · rw [if_neg hL] at es
    rw [if_neg hL]
    simp -implicitDefEqProofs only [go_sem, tys, regs0, Nat.reduceEqDiff, Nat.reduceAdd, Nat.reduceLeDiff, Nat.reduceLT, Nat.reduceMul, Int.natCast_one, Int.natCast_zero, Int.reduceEq, Int.reduceLT, Int.reduceLE, Int.reduceAdd, Int.reduceSub, Int.reduceToNat, UInt8.reduceToNat, puCP4, es]
    exact Done.drop hB.sub ⟨rfl, rfl⟩
end Go.Proofs

/- Walks: changes are written, on the reference's side; slices.Equal on changes. -/
namespace Go.Proofs
open Go Go.Abs
set_option linter.unusedSimpArgs false
set_option linter.unusedVariables false
set_option maxRecDepth 20000
set_option maxHeartbeats 6400000 in
theorem rPrintChanges_calls (l : List ChgV) (t : Tail) (H : Heap) (hl : l.length ≤ 1099511627776) (hr : ∀ c ∈ l, chgR c) (hE : chgsErr l = 0) (hT : (chgsText l).length ≤ 140737488355328) :
    ACalls Tryd.prog 11 [.sl (l.map encChg) t] H fun x H' => x = .str (chgsText l) ∧ H' = H := by
  have hok := chgsErr_mem hE
  refine ACalls.of_code (X := { pure := puCP4, ms := fun t => decide (t = 3) }) puCP4_ok Tryd.func11 (by kernel_rfl) rfl (by kernel_rfl) (Nat.le_of_ble_eq_true rfl) ?_
  simp -implicitDefEqProofs (disch := (first | omega | (simp only [List.length_append, List.length_cons, List.length_nil]; omega))) only [go_sem, binS_addD, tys, regs0, Nat.reduceEqDiff, Nat.reduceAdd, Nat.reduceLeDiff, Nat.reduceLT, Nat.reduceMul, Int.natCast_one, Int.natCast_zero, Int.reduceEq, Int.reduceLT, Int.reduceLE, Int.reduceAdd, Int.reduceSub, Int.reduceToNat, UInt8.reduceToNat, Go.IntWalk.i64_in, Tryd.f11]
  with_reducible refine nwT_intro fun b hb => ?_
  simp -implicitDefEqProofs only [go_sem, tys, regs0, Nat.reduceEqDiff, Nat.reduceAdd, Nat.reduceLeDiff, Nat.reduceLT, Nat.reduceMul, Int.natCast_one, Int.natCast_zero, Int.reduceEq, Int.reduceLT, Int.reduceLE, Int.reduceAdd, Int.reduceSub, Int.reduceToNat, UInt8.reduceToNat]
  have hB := BldG.new (Heap.Sub.rfl' H) hb
  generalize H.put b (.cells [.nilp, .snil]) = G0 at *
  with_reducible refine aloop_cut 0 (Bld5 H b (chgsText l) 3) ?_ ?_
  rotate_left
  · refine aloop_intro (σ := Nat) (fun i => [(3, bldP b), (7, .sl (l.map encChg) t), (8, .int .i64 l.length), (9, .int .i64 i)])
      (fun i G => i ≤ l.length ∧ BldOK H G b (chgsText (l.take i))) (fun i => l.length - i) 0 ?_ ?_ ?_
    · simp -implicitDefEqProofs only [go_sem, tys, regs0, Nat.reduceEqDiff, Nat.reduceAdd, Nat.reduceLeDiff, Nat.reduceLT, Nat.reduceMul, Int.natCast_one, Int.natCast_zero, Int.reduceEq, Int.reduceLT, Int.reduceLE, Int.reduceAdd, Int.reduceSub, Int.reduceToNat, UInt8.reduceToNat, bldP]
    · exact ⟨Nat.zero_le _, hB⟩
    clear hB
    rintro i r G hv ⟨hi, hB⟩
    have h3 := hv.1
    have h7 := hv.2.1
    have h8 := hv.2.2.1
    have h9 := hv.2.2.2.1
    clear hv
    by_cases g : i < l.length
    rotate_left
    · have y0 : decide ((i : Int) < l.length) = false := decide_eq_false (by omega)
      obtain rfl : i = l.length := by omega
      rw [List.take_length] at hB
      simp -implicitDefEqProofs only [go_sem, tys, regs0, Nat.reduceEqDiff, Nat.reduceAdd, Nat.reduceLeDiff, Nat.reduceLT, Nat.reduceMul, Int.natCast_one, Int.natCast_zero, Int.reduceEq, Int.reduceLT, Int.reduceLE, Int.reduceAdd, Int.reduceSub, Int.reduceToNat, UInt8.reduceToNat, h3, h7, h8, h9, y0]
      exact ⟨hB, by simp -implicitDefEqProofs only [go_sem, tys, regs0, Nat.reduceEqDiff, Nat.reduceAdd, Nat.reduceLeDiff, Nat.reduceLT, Nat.reduceMul, Int.natCast_one, Int.natCast_zero, Int.reduceEq, Int.reduceLT, Int.reduceLE, Int.reduceAdd, Int.reduceSub, Int.reduceToNat, UInt8.reduceToNat, h3]⟩
    have y0 : decide ((i : Int) < l.length) = true := decide_eq_true (by omega)
    obtain ⟨x, hx⟩ : ∃ x, l[i]? = some x := getD_get' g
    have hkp := (chg_kept (hok x (List.mem_of_getElem? hx))).1
    have hxr := hr x (List.mem_of_getElem? hx)
    have ws : IntKind.i64.wrap ((i : Int) + 1) = ((i + 1 : Nat) : Int) := by rw [Go.IntWalk.i64_in _ (by omega)]; omega
    have hU : ∀ (a : ChgV), a ∈ l → (encChg a).length = 10 := fun _ _ => rfl
    have hn := chgsText_take hx
    have hle := chgsText_le l (i + 1)
    obtain ⟨k, ⟨p, d, ru⟩, ⟨ky, vl⟩, ⟨nm, sp, au, on⟩⟩ := x
    obtain ⟨⟨hr1, hr2⟩, ⟨hr3, hr4⟩, hr5, hr6⟩ := hxr
    simp only at hkp hr1 hr2 hr3 hr4 hr5 hr6
    have e1 := sQuo_eq d hr2
    have e2 := sQuo_eq vl hr4
    have e3 := sSvW_eq nm sp au on ⟨hr5, hr6⟩
    have q1 := quoteB_len d
    have q2 := quoteB_len vl
    have q3 : (svcLine ⟨nm, sp, au, on⟩).length ≤ nm.length + sp.length + 5 := by simp only [svcLine, List.length_append, List.length_cons, List.length_nil, bitV_len]; omega
    obtain ⟨sv, hsv⟩ : ∃ sv, svcLine ⟨nm, sp, au, on⟩ = sv := ⟨_, rfl⟩
    rw [hsv] at e3 q3
    simp -implicitDefEqProofs only [go_sem, tys, regs0, Nat.reduceEqDiff, Nat.reduceAdd, Nat.reduceLeDiff, Nat.reduceLT, Nat.reduceMul, Int.natCast_one, Int.natCast_zero, Int.reduceEq, Int.reduceLT, Int.reduceLE, Int.reduceAdd, Int.reduceSub, Int.reduceToNat, UInt8.reduceToNat, h3, h7, h8, h9, y0, hx]
    refine ⟨hU, Nat.le_refl _, ?_⟩
    simp only [encChg, List.take_succ_cons, List.take_zero, List.take_nil]
    with_reducible refine nwC_intro fun i5 hi5 => ?_
    have hB := BldG.put hB hi5 (.cells [.int .i64 k, .str p, .str d, .bool ru, .str ky, .str vl, .str nm, .str sp, .bool au, .bool on])
    simp -implicitDefEqProofs only [go_sem, tys, regs0, Nat.reduceEqDiff, Nat.reduceAdd, Nat.reduceLeDiff, Nat.reduceLT, Nat.reduceMul, Int.natCast_one, Int.natCast_zero, Int.reduceEq, Int.reduceLT, Int.reduceLE, Int.reduceAdd, Int.reduceSub, Int.reduceToNat, UInt8.reduceToNat]
    have g5 := put_same G i5 (.cells [.int .i64 k, .str p, .str d, .bool ru, .str ky, .str vl, .str nm, .str sp, .bool au, .bool on])
    generalize G.put i5 (.cells [.int .i64 k, .str p, .str d, .bool ru, .str ky, .str vl, .str nm, .str sp, .bool au, .bool on]) = G5 at *
    have fin : ∀ s, s = chgLine ⟨k, ⟨p, d, ru⟩, ⟨ky, vl⟩, ⟨nm, sp, au, on⟩⟩ → ∀ K : K1, (∀ G', BldOK H G' b (chgsText (l.take i) ++ s) → K (.tup [.int .i64 s.length, .nilIface]) G') → ACalls Tryd.prog 31 [bldP b, .str s] G5 K := by
      intro s hs K hK
      rw [hn, ← hs, List.length_append, List.length_append] at hle
      exact writeString_k hB (by omega) fun G' hB' _ => hK G' hB'
    have fin2 : ∀ s G', s = chgLine ⟨k, ⟨p, d, ru⟩, ⟨ky, vl⟩, ⟨nm, sp, au, on⟩⟩ → BldOK H G' b (chgsText (l.take i) ++ s) → ∀ K : K1, (∀ G', BldOK H G' b (chgsText (l.take (i + 1))) → K .nilIface G') → ACalls Tryd.prog 40 [bldP b, .int .u8 10] G' K := by
      intro s G' hs hB' K hK
      rw [hn, ← hs, List.length_append, List.length_append] at hle
      refine writeByte_k (c := 10) hB' (by simp only [List.length_append, List.length_cons, List.length_nil] at hle ⊢; omega) fun G2 hB2 _ => hK G2 ?_
      rw [hn, ← hs, ← List.append_assoc]; exact hB2
    clear hB hn hle
    obtain ⟨k1, k6⟩ := hkp
    obtain rfl | rfl | rfl | rfl | rfl | rfl : k = 1 ∨ k = 2 ∨ k = 3 ∨ k = 4 ∨ k = 5 ∨ k = 6 := by omega
    · cases ru
      all_goals
        simp -implicitDefEqProofs (disch := (first | omega | (simp only [List.length_append, List.length_cons, List.length_nil]; omega))) only [go_sem, binS_addD, tys, regs0, Nat.reduceEqDiff, Nat.reduceAdd, Nat.reduceLeDiff, Nat.reduceLT, Nat.reduceMul, Int.natCast_one, Int.natCast_zero, Int.reduceEq, Int.reduceLT, Int.reduceLE, Int.reduceAdd, Int.reduceSub, Int.reduceToNat, UInt8.reduceToNat, Go.IntWalk.i64_in, h3, h7, h8, h9, g5, puCP4, puCE, puCP1, e1]
        refine fin _ ?_ _ fun G' hB => ?_
        · simp [chgLine, wPut, wPutrun]
        simp -implicitDefEqProofs only [go_sem, tys, regs0, Nat.reduceEqDiff, Nat.reduceAdd, Nat.reduceLeDiff, Nat.reduceLT, Nat.reduceMul, Int.natCast_one, Int.natCast_zero, Int.reduceEq, Int.reduceLT, Int.reduceLE, Int.reduceAdd, Int.reduceSub, Int.reduceToNat, UInt8.reduceToNat, h3, h7, h8, h9]
        refine fin2 _ _ ?_ hB _ fun G2 hB2 => ?_
        · simp [chgLine, wPut, wPutrun]
        simp -implicitDefEqProofs only [go_sem, tys, regs0, Nat.reduceEqDiff, Nat.reduceAdd, Nat.reduceLeDiff, Nat.reduceLT, Nat.reduceMul, Int.natCast_one, Int.natCast_zero, Int.reduceEq, Int.reduceLT, Int.reduceLE, Int.reduceAdd, Int.reduceSub, Int.reduceToNat, UInt8.reduceToNat, h3, h7, h8, h9, ws]
        exact Again.mk (i + 1) (by simp -implicitDefEqProofs only [go_sem, tys, regs0, Nat.reduceEqDiff, Nat.reduceAdd, Nat.reduceLeDiff, Nat.reduceLT, Nat.reduceMul, Int.natCast_one, Int.natCast_zero, Int.reduceEq, Int.reduceLT, Int.reduceLE, Int.reduceAdd, Int.reduceSub, Int.reduceToNat, UInt8.reduceToNat, h3, h7, h8, h9]) ⟨by omega, hB2⟩ (by omega)
    all_goals
      simp -implicitDefEqProofs (disch := (first | omega | (simp only [List.length_append, List.length_cons, List.length_nil]; omega))) only [go_sem, binS_addD, tys, regs0, Nat.reduceEqDiff, Nat.reduceAdd, Nat.reduceLeDiff, Nat.reduceLT, Nat.reduceMul, Int.natCast_one, Int.natCast_zero, Int.reduceEq, Int.reduceLT, Int.reduceLE, Int.reduceAdd, Int.reduceSub, Int.reduceToNat, UInt8.reduceToNat, Go.IntWalk.i64_in, h3, h7, h8, h9, g5, puCP4, puCE, puCP1, e2, e3]
      refine fin _ ?_ _ fun G' hB => ?_
      · simp [chgLine, wRemove, wSet, wUnset, wService, wDrop, hsv]
      simp -implicitDefEqProofs only [go_sem, tys, regs0, Nat.reduceEqDiff, Nat.reduceAdd, Nat.reduceLeDiff, Nat.reduceLT, Nat.reduceMul, Int.natCast_one, Int.natCast_zero, Int.reduceEq, Int.reduceLT, Int.reduceLE, Int.reduceAdd, Int.reduceSub, Int.reduceToNat, UInt8.reduceToNat, h3, h7, h8, h9]
      refine fin2 _ _ ?_ hB _ fun G2 hB2 => ?_
      · simp [chgLine, wRemove, wSet, wUnset, wService, wDrop, hsv]
      simp -implicitDefEqProofs only [go_sem, tys, regs0, Nat.reduceEqDiff, Nat.reduceAdd, Nat.reduceLeDiff, Nat.reduceLT, Nat.reduceMul, Int.natCast_one, Int.natCast_zero, Int.reduceEq, Int.reduceLT, Int.reduceLE, Int.reduceAdd, Int.reduceSub, Int.reduceToNat, UInt8.reduceToNat, h3, h7, h8, h9, ws]
      exact Again.mk (i + 1) (by simp -implicitDefEqProofs only [go_sem, tys, regs0, Nat.reduceEqDiff, Nat.reduceAdd, Nat.reduceLeDiff, Nat.reduceLT, Nat.reduceMul, Int.natCast_one, Int.natCast_zero, Int.reduceEq, Int.reduceLT, Int.reduceLE, Int.reduceAdd, Int.reduceSub, Int.reduceToNat, UInt8.reduceToNat, h3, h7, h8, h9]) ⟨by omega, hB2⟩ (by omega)
  rintro r G ⟨hB, hv⟩
  have h3 := hv.1
  clear hv
  simp -implicitDefEqProofs only [go_sem, tys, regs0, Nat.reduceEqDiff, Nat.reduceAdd, Nat.reduceLeDiff, Nat.reduceLT, Nat.reduceMul, Int.natCast_one, Int.natCast_zero, Int.reduceEq, Int.reduceLT, Int.reduceLE, Int.reduceAdd, Int.reduceSub, Int.reduceToNat, UInt8.reduceToNat, h3]
  refine bldString_k hB hT (fun h => by cases h) ?_
  simp -implicitDefEqProofs only [go_sem, tys, regs0, Nat.reduceEqDiff, Nat.reduceAdd, Nat.reduceLeDiff, Nat.reduceLT, Nat.reduceMul, Int.natCast_one, Int.natCast_zero, Int.reduceEq, Int.reduceLT, Int.reduceLE, Int.reduceAdd, Int.reduceSub, Int.reduceToNat, UInt8.reduceToNat]
  exact Done.drop hB.sub ⟨rfl, rfl⟩
end Go.Proofs

/- Walks: changes are read, on the program's side; slices.Equal on changes. -/
namespace Go.Proofs
open Go Go.Abs
set_option linter.unusedSimpArgs false
set_option linter.unusedVariables false
set_option maxRecDepth 20000
theorem eqChg_calls_ne (cx cy : Bool) (a b : ChgV) : bin Tryd.prog .neq 48 cx cy (.agg (encChg a)) (.agg (encChg b)) = some (.bool (decide ¬ a = b)) := by
  rw [neq_chg]; simp
theorem eqChg_calls (a b : List ChgV) (t t' : Tail) (H : Heap) (ha : a.length ≤ 1099511627776) : ACalls Tryd.prog 13 [.sl (a.map encChg) t, .sl (b.map encChg) t'] H fun x H' => x = .bool (decide (a = b)) ∧ H' = H := by
  by_cases hl : ¬ a.length = b.length
  · have d1 : decide (¬ (a.length : Int) = b.length) = true := by simp; omega
    refine ACalls.of_code (X := { pure := pu0 }) pu0_ok Tryd.func13 (by kernel_rfl) rfl (by kernel_rfl) (Nat.le_of_ble_eq_true rfl) ?_
    simp -implicitDefEqProofs only [go_sem, tys, regs0, Nat.reduceEqDiff, Nat.reduceAdd, Nat.reduceLeDiff, Nat.reduceLT, Nat.reduceMul, Int.natCast_one, Int.natCast_zero, Int.reduceEq, Int.reduceLT, Int.reduceLE, Int.reduceAdd, Int.reduceSub, Int.reduceToNat, UInt8.reduceToNat, Tryd.f13, d1]
    refine Done.now ⟨?_, rfl⟩
    have : ¬ a = b := fun e => hl (by rw [e])
    simp [this]
  · have hl : a.length = b.length := Decidable.not_not.1 hl
    have d1 : decide (¬ (a.length : Int) = b.length) = false := by simp; omega
    refine ACalls.of_code (X := { pure := pu0 }) pu0_ok Tryd.func13 (by kernel_rfl) rfl (by kernel_rfl) (Nat.le_of_ble_eq_true rfl) ?_
    simp -implicitDefEqProofs only [go_sem, tys, regs0, Nat.reduceEqDiff, Nat.reduceAdd, Nat.reduceLeDiff, Nat.reduceLT, Nat.reduceMul, Int.natCast_one, Int.natCast_zero, Int.reduceEq, Int.reduceLT, Int.reduceLE, Int.reduceAdd, Int.reduceSub, Int.reduceToNat, UInt8.reduceToNat, Tryd.f13, d1]
    refine aloop_intro (σ := Nat) (fun i => [(0, .sl (a.map encChg) t), (1, .sl (b.map encChg) t'), (12, .int .i64 a.length), (13, .int .i64 i)])
      (fun i G => G = H ∧ i ≤ a.length ∧ a.take i = b.take i) (fun i => a.length - i) 0 ?_ ?_ ?_
    · simp -implicitDefEqProofs only [go_sem, tys, regs0, Nat.reduceEqDiff, Nat.reduceAdd, Nat.reduceLeDiff, Nat.reduceLT, Nat.reduceMul, Int.natCast_one, Int.natCast_zero, Int.reduceEq, Int.reduceLT, Int.reduceLE, Int.reduceAdd, Int.reduceSub, Int.reduceToNat, UInt8.reduceToNat]
    · simp
    · intro i r G hv hI
      have h0 := hv.1
      have h1 := hv.2.1
      have h12 := hv.2.2.1
      have h13 := hv.2.2.2.1
      have hG := hI.1.symm
      have hi := hI.2.1
      have hp := hI.2.2
      clear hv hI
      subst hG
      simp -implicitDefEqProofs only [go_sem, tys, regs0, Nat.reduceEqDiff, Nat.reduceAdd, Nat.reduceLeDiff, Nat.reduceLT, Nat.reduceMul, Int.natCast_one, Int.natCast_zero, Int.reduceEq, Int.reduceLT, Int.reduceLE, Int.reduceAdd, Int.reduceSub, Int.reduceToNat, UInt8.reduceToNat, h0, h1, h12, h13]
      refine cnd_intro (fun h => ?_) (fun h => ?_)
      · simp only [decide_eq_true_eq] at h
        obtain ⟨x, hx⟩ := get_some (l := a) (i := i) (by omega)
        obtain ⟨y, hy⟩ := get_some (l := b) (i := i) (by omega)
        have ht := take_eq_succ hx hy
        have hn := fun cx cy => eqChg_calls_ne cx cy x y
        obtain ⟨xkind, ⟨xpath, xdata, xruns⟩, ⟨xkey, xvalue⟩, ⟨xname, xspath, xauto, xon⟩⟩ := x
        obtain ⟨ykind, ⟨ypath, ydata, yruns⟩, ⟨ykey, yvalue⟩, ⟨yname, yspath, yauto, yon⟩⟩ := y
        simp only [encChg] at hn
        simp -implicitDefEqProofs only [go_sem, tys, regs0, Nat.reduceEqDiff, Nat.reduceAdd, Nat.reduceLeDiff, Nat.reduceLT, Nat.reduceMul, Int.natCast_one, Int.natCast_zero, Int.reduceEq, Int.reduceLT, Int.reduceLE, Int.reduceAdd, Int.reduceSub, Int.reduceToNat, UInt8.reduceToNat, h0, h1, h12, h13, hx, hy, encChg, hn]
        refine cnd_intro (fun g => ?_) (fun g => ?_)
        · simp -implicitDefEqProofs only [go_sem, tys, regs0, Nat.reduceEqDiff, Nat.reduceAdd, Nat.reduceLeDiff, Nat.reduceLT, Nat.reduceMul, Int.natCast_one, Int.natCast_zero, Int.reduceEq, Int.reduceLT, Int.reduceLE, Int.reduceAdd, Int.reduceSub, Int.reduceToNat, UInt8.reduceToNat]
          refine Done.now ⟨?_, rfl⟩
          have : ¬ a = b := fun e => by subst e; rw [hx] at hy; cases hy; simp at g
          simp [this]
        · simp -implicitDefEqProofs (disch := omega) only [go_sem, tys, regs0, Nat.reduceEqDiff, Nat.reduceAdd, Nat.reduceLeDiff, Nat.reduceLT, Nat.reduceMul, Int.natCast_one, Int.natCast_zero, Int.reduceEq, Int.reduceLT, Int.reduceLE, Int.reduceAdd, Int.reduceSub, Int.reduceToNat, UInt8.reduceToNat, Go.IntWalk.i64_in, h0, h1, h12, h13]
          simp only [decide_eq_false_iff_not, Decidable.not_not] at g
          exact Again.mk (i + 1) (by simp -implicitDefEqProofs only [go_sem, tys, regs0, Nat.reduceEqDiff, Nat.reduceAdd, Nat.reduceLeDiff, Nat.reduceLT, Nat.reduceMul, Int.natCast_one, Int.natCast_zero, Int.reduceEq, Int.reduceLT, Int.reduceLE, Int.reduceAdd, Int.reduceSub, Int.reduceToNat, UInt8.reduceToNat, h0, h1, h12, h13]; exact rfl) ⟨rfl, by omega, ht.2 ⟨hp, g⟩⟩ (by omega)
      · simp only [decide_eq_false_iff_not] at h
        have e : i = a.length := by omega
        rw [e, List.take_length, hl, List.take_length] at hp
        simp -implicitDefEqProofs only [go_sem, tys, regs0, Nat.reduceEqDiff, Nat.reduceAdd, Nat.reduceLeDiff, Nat.reduceLT, Nat.reduceMul, Int.natCast_one, Int.natCast_zero, Int.reduceEq, Int.reduceLT, Int.reduceLE, Int.reduceAdd, Int.reduceSub, Int.reduceToNat, UInt8.reduceToNat]
        exact Done.now ⟨by simp [hp], rfl⟩

theorem changeKind_calls (w : Bytes) (H : Heap) : ACalls Tryd.prog 42 [.str w] H fun x H' => x = .int .i64 (kindV w) ∧ H' = H := by
  have hv := kindV.eq_1 w
  by_cases c1 : w = wPut
  · have y1 : decide (w = wPut) = true := decide_eq_true c1
    rw [if_pos (.inl c1)] at hv
    refine ACalls.of_code (X := { pure := pu0 }) pu0_ok Tryd.func42 (by kernel_rfl) rfl (by kernel_rfl) (Nat.le_of_ble_eq_true rfl) ?_
    simp -implicitDefEqProofs only [go_sem, tys, regs0, Nat.reduceEqDiff, Nat.reduceAdd, Nat.reduceLeDiff, Nat.reduceLT, Nat.reduceMul, Int.natCast_one, Int.natCast_zero, Int.reduceEq, Int.reduceLT, Int.reduceLE, Int.reduceAdd, Int.reduceSub, Int.reduceToNat, UInt8.reduceToNat, Tryd.f42, y1]
    exact Done.now ⟨by rw [hv], rfl⟩
  have y1 : decide (w = wPut) = false := decide_eq_false c1
  by_cases c2 : w = wPutrun
  · have y2 : decide (w = wPutrun) = true := decide_eq_true c2
    rw [if_pos (.inr c2)] at hv
    refine ACalls.of_code (X := { pure := pu0 }) pu0_ok Tryd.func42 (by kernel_rfl) rfl (by kernel_rfl) (Nat.le_of_ble_eq_true rfl) ?_
    simp -implicitDefEqProofs only [go_sem, tys, regs0, Nat.reduceEqDiff, Nat.reduceAdd, Nat.reduceLeDiff, Nat.reduceLT, Nat.reduceMul, Int.natCast_one, Int.natCast_zero, Int.reduceEq, Int.reduceLT, Int.reduceLE, Int.reduceAdd, Int.reduceSub, Int.reduceToNat, UInt8.reduceToNat, Tryd.f42, y1, y2]
    exact Done.now ⟨by rw [hv], rfl⟩
  have y2 : decide (w = wPutrun) = false := decide_eq_false c2
  rw [if_neg (by simp only [not_or]; exact ⟨c1, c2⟩)] at hv
  by_cases c3 : w = wRemove
  · have y3 : decide (w = wRemove) = true := decide_eq_true c3
    rw [if_pos c3] at hv
    refine ACalls.of_code (X := { pure := pu0 }) pu0_ok Tryd.func42 (by kernel_rfl) rfl (by kernel_rfl) (Nat.le_of_ble_eq_true rfl) ?_
    simp -implicitDefEqProofs only [go_sem, tys, regs0, Nat.reduceEqDiff, Nat.reduceAdd, Nat.reduceLeDiff, Nat.reduceLT, Nat.reduceMul, Int.natCast_one, Int.natCast_zero, Int.reduceEq, Int.reduceLT, Int.reduceLE, Int.reduceAdd, Int.reduceSub, Int.reduceToNat, UInt8.reduceToNat, Tryd.f42, y1, y2, y3]
    exact Done.now ⟨by rw [hv], rfl⟩
  have y3 : decide (w = wRemove) = false := decide_eq_false c3
  rw [if_neg c3] at hv
  by_cases c4 : w = wSet
  · have y4 : decide (w = wSet) = true := decide_eq_true c4
    rw [if_pos c4] at hv
    refine ACalls.of_code (X := { pure := pu0 }) pu0_ok Tryd.func42 (by kernel_rfl) rfl (by kernel_rfl) (Nat.le_of_ble_eq_true rfl) ?_
    simp -implicitDefEqProofs only [go_sem, tys, regs0, Nat.reduceEqDiff, Nat.reduceAdd, Nat.reduceLeDiff, Nat.reduceLT, Nat.reduceMul, Int.natCast_one, Int.natCast_zero, Int.reduceEq, Int.reduceLT, Int.reduceLE, Int.reduceAdd, Int.reduceSub, Int.reduceToNat, UInt8.reduceToNat, Tryd.f42, y1, y2, y3, y4]
    exact Done.now ⟨by rw [hv], rfl⟩
  have y4 : decide (w = wSet) = false := decide_eq_false c4
  rw [if_neg c4] at hv
  by_cases c5 : w = wUnset
  · have y5 : decide (w = wUnset) = true := decide_eq_true c5
    rw [if_pos c5] at hv
    refine ACalls.of_code (X := { pure := pu0 }) pu0_ok Tryd.func42 (by kernel_rfl) rfl (by kernel_rfl) (Nat.le_of_ble_eq_true rfl) ?_
    simp -implicitDefEqProofs only [go_sem, tys, regs0, Nat.reduceEqDiff, Nat.reduceAdd, Nat.reduceLeDiff, Nat.reduceLT, Nat.reduceMul, Int.natCast_one, Int.natCast_zero, Int.reduceEq, Int.reduceLT, Int.reduceLE, Int.reduceAdd, Int.reduceSub, Int.reduceToNat, UInt8.reduceToNat, Tryd.f42, y1, y2, y3, y4, y5]
    exact Done.now ⟨by rw [hv], rfl⟩
  have y5 : decide (w = wUnset) = false := decide_eq_false c5
  rw [if_neg c5] at hv
  by_cases c6 : w = wService
  · have y6 : decide (w = wService) = true := decide_eq_true c6
    rw [if_pos c6] at hv
    refine ACalls.of_code (X := { pure := pu0 }) pu0_ok Tryd.func42 (by kernel_rfl) rfl (by kernel_rfl) (Nat.le_of_ble_eq_true rfl) ?_
    simp -implicitDefEqProofs only [go_sem, tys, regs0, Nat.reduceEqDiff, Nat.reduceAdd, Nat.reduceLeDiff, Nat.reduceLT, Nat.reduceMul, Int.natCast_one, Int.natCast_zero, Int.reduceEq, Int.reduceLT, Int.reduceLE, Int.reduceAdd, Int.reduceSub, Int.reduceToNat, UInt8.reduceToNat, Tryd.f42, y1, y2, y3, y4, y5, y6]
    exact Done.now ⟨by rw [hv], rfl⟩
  have y6 : decide (w = wService) = false := decide_eq_false c6
  rw [if_neg c6] at hv
  by_cases c7 : w = wDrop
  · have y7 : decide (w = wDrop) = true := decide_eq_true c7
    rw [if_pos c7] at hv
    refine ACalls.of_code (X := { pure := pu0 }) pu0_ok Tryd.func42 (by kernel_rfl) rfl (by kernel_rfl) (Nat.le_of_ble_eq_true rfl) ?_
    simp -implicitDefEqProofs only [go_sem, tys, regs0, Nat.reduceEqDiff, Nat.reduceAdd, Nat.reduceLeDiff, Nat.reduceLT, Nat.reduceMul, Int.natCast_one, Int.natCast_zero, Int.reduceEq, Int.reduceLT, Int.reduceLE, Int.reduceAdd, Int.reduceSub, Int.reduceToNat, UInt8.reduceToNat, Tryd.f42, y1, y2, y3, y4, y5, y6, y7]
    exact Done.now ⟨by rw [hv], rfl⟩
  have y7 : decide (w = wDrop) = false := decide_eq_false c7
  rw [if_neg c7] at hv
  refine ACalls.of_code (X := { pure := pu0 }) pu0_ok Tryd.func42 (by kernel_rfl) rfl (by kernel_rfl) (Nat.le_of_ble_eq_true rfl) ?_
  simp -implicitDefEqProofs only [go_sem, tys, regs0, Nat.reduceEqDiff, Nat.reduceAdd, Nat.reduceLeDiff, Nat.reduceLT, Nat.reduceMul, Int.natCast_one, Int.natCast_zero, Int.reduceEq, Int.reduceLT, Int.reduceLE, Int.reduceAdd, Int.reduceSub, Int.reduceToNat, UInt8.reduceToNat, Tryd.f42, y1, y2, y3, y4, y5, y6, y7]
  exact Done.now ⟨by rw [hv], rfl⟩
noncomputable def sKind := spF (fun s : Bytes => [AV.str s]) (fun _ => True) (fun s => .int .i64 (kindV s))
theorem sKind_eq (s : Bytes) : sKind [.str s] = some (.int .i64 (kindV s)) := spF_eq (enc := fun s : Bytes => [AV.str s]) (fun a b e => by cases e; rfl) s trivial
noncomputable def puCP6 : Pures := putP 42 sKind puCP4
theorem puCP6_dyn : isDyn puCP6 = false := by simp only [puCP6, go_sem, Nat.reduceEqDiff]
attribute [go_sem] puCP6_dyn
theorem puCP6_ok : PuOK Tryd.prog puCP6 := .put (puCP4_ok) (spF_ok fun s H _ => changeKind_calls s H)
def chgOf (k : Int) (x : LineV) : ChgV := ⟨k, x.file, x.set, x.svc⟩
def CInv (H : Heap) (iL : Nat) (n : Nat) (l : List ChgV) (G : Heap) : Prop :=
  H.Sub G ∧ l.length ≤ n ∧ (∀ c ∈ l, chgR c) ∧ ∃ t, G iL = some (.cells [.sl (l.map encChg) t]) ∧ AppG H G 10 (l.map encChg) t
theorem CInv_put {H : Heap} {iL : Nat} (n : Nat) (l : List ChgV) (G : Heap) (id : Nat) (o : AObj) (h : CInv H iL n l G) (hid : G id = none) : CInv H iL n l (G.put id o) := by
  obtain ⟨hS, hn, hr, t, gL, hA⟩ := h
  exact ⟨hS.put' (sub_none hS hid) _, hn, hr, t, by rw [put_ne _ _ _ _ (obj_ne gL hid)]; exact gL, hA.put hid o⟩
theorem lineC_bad (s : List ChgV) (l : Bytes) (h : (readLineV l).2 = false) : lineC s l = none := by
  unfold lineC
  rw [h]
  rfl
theorem lineR_chg {n : Nat} {x : LineV} (h : lineR n x) (hn : n ≤ 1099511627776) (k : Int) : chgR (chgOf k x) := by
  obtain ⟨h1, ⟨h2, h3⟩, ⟨h4, h5⟩, h6, h7⟩ := h
  exact ⟨⟨by simp only [chgOf]; omega, by simp only [chgOf]; omega⟩, ⟨by simp only [chgOf]; omega, by simp only [chgOf]; omega⟩, by simp only [chgOf]; omega, by simp only [chgOf]; omega⟩
set_option maxHeartbeats 1600000 in
theorem parseC1_calls (H : Heap) (iL : Nat) (hL : H iL = none) (n k : Nat) (l : List ChgV) (x : LineV) (G : Heap) (hI : CInv H iL n l G) (hx : lineR k x) (hk : k ≤ 1099511627776) (hn : n ≤ 8388608) :
    ACalls Tryd.prog 41 [.agg (encLine x), .ptr iL 0] G (StRes H (CInv H iL) n (if kindV x.word = 0 then none else some (l ++ [chgOf (kindV x.word) x]))) := by
  obtain ⟨hS, hln, hr, t, gL, hA⟩ := hI
  have q := sKind_eq x.word
  have hxr := lineR_chg hx hk (kindV x.word)
  refine ACalls.of_code (X := { pure := puCP6 }) puCP6_ok Tryd.func41 (by kernel_rfl) rfl (by kernel_rfl) (Nat.le_of_ble_eq_true rfl) ?_
  simp -implicitDefEqProofs only [go_sem, tys, regs0, Nat.reduceEqDiff, Nat.reduceAdd, Nat.reduceLeDiff, Nat.reduceLT, Nat.reduceMul, Int.natCast_one, Int.natCast_zero, Int.reduceEq, Int.reduceLT, Int.reduceLE, Int.reduceAdd, Int.reduceSub, Int.reduceToNat, UInt8.reduceToNat, Tryd.f41, encLine]
  with_reducible refine nwC_intro fun i2 hi2 => ?_
  have d1 := obj_ne gL hi2
  have hA := hA.put hi2 (.cells [.str x.word, .str x.file.path, .str x.file.data, .bool x.file.runs, .str x.set.key, .str x.set.value, .str x.svc.name, .str x.svc.path, .bool x.svc.auto, .bool x.svc.on])
  generalize E2 : Heap.put G i2 _ = G3
  have hO_2 := obj_new E2 hi2 hS
  have n2 := hO_2.1
  have hS := hO_2.2.1
  have g2 := hO_2.2.2.1
  have dL_2 := obj_ne gL hi2
  have gL := hO_2.2.2.2 _ _ gL
  clear hO_2
  rw [E2] at hA
  simp -implicitDefEqProofs only [go_sem, tys, regs0, Nat.reduceEqDiff, Nat.reduceAdd, Nat.reduceLeDiff, Nat.reduceLT, Nat.reduceMul, Int.natCast_one, Int.natCast_zero, Int.reduceEq, Int.reduceLT, Int.reduceLE, Int.reduceAdd, Int.reduceSub, Int.reduceToNat, UInt8.reduceToNat, puCP6, q, g2, gL]
  refine AppG.step2 hA (encChg_unif _) (by simp) (by simp; omega) (by simp; omega) (fun tl' G5 hA5 hG => ?_)
  have e : l.map encChg ++ [encChg (chgOf (kindV x.word) x)] = (l ++ [chgOf (kindV x.word) x]).map encChg := by simp
  have e2 := e
  rw [show encChg (chgOf (kindV x.word) x) = [.int .i64 (kindV x.word), .str x.file.path, .str x.file.data, .bool x.file.runs, .str x.set.key, .str x.set.value, .str x.svc.name, .str x.svc.path, .bool x.svc.auto, .bool x.svc.on] from rfl] at e2
  have gL := hG.cells hA gL
  rw [e2] at hA5 ⊢
  simp -implicitDefEqProofs only [go_sem, tys, regs0, Nat.reduceEqDiff, Nat.reduceAdd, Nat.reduceLeDiff, Nat.reduceLT, Nat.reduceMul, Int.natCast_one, Int.natCast_zero, Int.reduceEq, Int.reduceLT, Int.reduceLE, Int.reduceAdd, Int.reduceSub, Int.reduceToNat, UInt8.reduceToNat, gL]
  by_cases c : kindV x.word = 0
  · have y : decide (¬ kindV x.word = 0) = false := decide_eq_false (by simpa using c)
    rw [if_pos c]
    simp -implicitDefEqProofs only [go_sem, tys, regs0, Nat.reduceEqDiff, Nat.reduceAdd, Nat.reduceLeDiff, Nat.reduceLT, Nat.reduceMul, Int.natCast_one, Int.natCast_zero, Int.reduceEq, Int.reduceLT, Int.reduceLE, Int.reduceAdd, Int.reduceSub, Int.reduceToNat, UInt8.reduceToNat, y]
    exact Done.now ⟨rfl, hA5.1.put' hL _⟩
  · have y : decide (¬ kindV x.word = 0) = true := decide_eq_true c
    rw [if_neg c]
    simp -implicitDefEqProofs only [go_sem, tys, regs0, Nat.reduceEqDiff, Nat.reduceAdd, Nat.reduceLeDiff, Nat.reduceLT, Nat.reduceMul, Int.natCast_one, Int.natCast_zero, Int.reduceEq, Int.reduceLT, Int.reduceLE, Int.reduceAdd, Int.reduceSub, Int.reduceToNat, UInt8.reduceToNat, y]
    refine Done.now ⟨rfl, hA5.1.put' hL _, by simp; omega, fun c hc => ?_, _, put_same _ _ _, hA5.set hL gL _⟩
    rcases List.mem_append.1 hc with h | h
    · exact hr c h
    · rw [List.mem_singleton.1 h]; exact hxr
def parseCA (text : Bytes) : AV := .tup [.sl ((parseCV text).1.map encChg) .unk, .int .i64 (parseCV text).2.1, .int .i64 (parseCV text).2.2]
set_option maxHeartbeats 3200000 in
theorem parseC_calls (text : Bytes) (H : Heap) (ht : text.length ≤ 1099511627776) : ACalls Tryd.prog 12 [.str text] H fun x H' => x = parseCA text ∧ H' = H := by
  have hS := Heap.Sub.rfl' H
  have hv := parseCA.eq_1 text
  have hp := parseCV.eq_1 text
  by_cases c0 : 4194304 < text.length
  · have y0 : decide ((4194304 : Int) < text.length) = true := decide_eq_true (by omega)
    rw [if_pos c0] at hp
    rw [hp] at hv
    refine ACalls.of_code (X := { pure := puCP6 }) puCP6_ok Tryd.func12 (by kernel_rfl) rfl (by kernel_rfl) (Nat.le_of_ble_eq_true rfl) ?_
    simp -implicitDefEqProofs only [go_sem, tys, regs0, Nat.reduceEqDiff, Nat.reduceAdd, Nat.reduceLeDiff, Nat.reduceLT, Nat.reduceMul, Int.natCast_one, Int.natCast_zero, Int.reduceEq, Int.reduceLT, Int.reduceLE, Int.reduceAdd, Int.reduceSub, Int.reduceToNat, UInt8.reduceToNat, Tryd.f12, y0]
    exact Done.wk 3 (Done.drop hS ⟨by rw [hv]; rfl, rfl⟩)
  have y0 : decide ((4194304 : Int) < text.length) = false := decide_eq_false (by omega)
  rw [if_neg c0] at hp
  refine ACalls.of_code (X := { pure := puCP6 }) puCP6_ok Tryd.func12 (by kernel_rfl) rfl (by kernel_rfl) (Nat.le_of_ble_eq_true rfl) ?_
  simp -implicitDefEqProofs only [go_sem, tys, regs0, Nat.reduceEqDiff, Nat.reduceAdd, Nat.reduceLeDiff, Nat.reduceLT, Nat.reduceMul, Int.natCast_one, Int.natCast_zero, Int.reduceEq, Int.reduceLT, Int.reduceLE, Int.reduceAdd, Int.reduceSub, Int.reduceToNat, UInt8.reduceToNat, Tryd.f12, y0]
  with_reducible refine nwC_intro fun i5 hi5 => ?_
  generalize E5 : Heap.put H i5 _ = G5
  have hO_5 := obj_new E5 hi5 hS
  have n5 := hO_5.1
  have hS := hO_5.2.1
  have g5 := hO_5.2.2.1
  clear hO_5
  simp -implicitDefEqProofs only [go_sem, tys, regs0, Nat.reduceEqDiff, Nat.reduceAdd, Nat.reduceLeDiff, Nat.reduceLT, Nat.reduceMul, Int.natCast_one, Int.natCast_zero, Int.reduceEq, Int.reduceLT, Int.reduceLE, Int.reduceAdd, Int.reduceSub, Int.reduceToNat, UInt8.reduceToNat, g5]
  have hI : CInv H i5 0 [] G5 := ⟨hS, Nat.le_refl _, by simp, _, g5, AppG.new hS _⟩
  refine (eachLine_calls H lineC 41 [.ptr i5 0] (CInv H i5) text [] G5 (fun n s G id o h1 h2 => CInv_put n s G id o h1 h2) (fun n s G h => h.1) lineC_bad (fun n s l G hn hl hI hok => ?_) (by decide) (by decide) hI (by omega)).mono ?_
  · have := parseC1_calls H i5 hi5 n text.length s (readLineV l).1 G hI (by
      have := readLineV_len l
      obtain ⟨a, ⟨b, c⟩, ⟨d, e⟩, f, g⟩ := this
      exact ⟨by omega, ⟨by omega, by omega⟩, ⟨by omega, by omega⟩, by omega, by omega⟩) (by omega) (by omega)
    unfold lineC
    rw [if_pos hok]
    exact this
  intro x G7 hx
  cases hr : rdL lineC [] 0 (splitB 10 text) with
  | error n =>
    rw [hr] at hx hp
    obtain ⟨rfl, hS7⟩ := hx
    simp only at hp
    rw [hp] at hv
    have y1 : decide ((0 : Int) ≤ (n : Int)) = true := decide_eq_true (by omega)
    simp -implicitDefEqProofs only [go_sem, tys, regs0, Nat.reduceEqDiff, Nat.reduceAdd, Nat.reduceLeDiff, Nat.reduceLT, Nat.reduceMul, Int.natCast_one, Int.natCast_zero, Int.reduceEq, Int.reduceLT, Int.reduceLE, Int.reduceAdd, Int.reduceSub, Int.reduceToNat, UInt8.reduceToNat, y1]
    exact Done.wk 3 (Done.drop hS7 ⟨by rw [hv]; rfl, rfl⟩)
  | ok s =>
    rw [hr] at hx hp
    obtain ⟨rfl, n, hn, hS7, hln, hsr, tl, gL, hA⟩ := hx
    simp only at hp
    have y1 : decide ((0 : Int) ≤ -1) = false := rfl
    have q := sChgs_eq s tl (by omega) hsr
    generalize chgsErr s = ce at *
    by_cases c1 : ce = 0
    · have y2 : decide (¬ ce = 0) = false := decide_eq_false (by simpa using c1)
      rw [if_neg (by simpa using c1)] at hp
      rw [hp] at hv
      simp -implicitDefEqProofs only [go_sem, tys, regs0, Nat.reduceEqDiff, Nat.reduceAdd, Nat.reduceLeDiff, Nat.reduceLT, Nat.reduceMul, Int.natCast_one, Int.natCast_zero, Int.reduceEq, Int.reduceLT, Int.reduceLE, Int.reduceAdd, Int.reduceSub, Int.reduceToNat, UInt8.reduceToNat, y1, y2, gL, puCP6, puCP4, q]
      exact Done.wk 3 (Done.drop hS7 ⟨by rw [hv]; rfl, rfl⟩)
    · have y2 : decide (¬ ce = 0) = true := decide_eq_true c1
      rw [if_pos c1] at hp
      rw [hp] at hv
      simp -implicitDefEqProofs only [go_sem, tys, regs0, Nat.reduceEqDiff, Nat.reduceAdd, Nat.reduceLeDiff, Nat.reduceLT, Nat.reduceMul, Int.natCast_one, Int.natCast_zero, Int.reduceEq, Int.reduceLT, Int.reduceLE, Int.reduceAdd, Int.reduceSub, Int.reduceToNat, UInt8.reduceToNat, y1, y2, gL, puCP6, puCP4, q]
      exact Done.wk 3 (Done.drop hS7 ⟨by rw [hv]; rfl, rfl⟩)
end Go.Proofs

/- Walks: Parse, on the reference's side. -/
namespace Go.Proofs
open Go Go.Abs
set_option linter.unusedSimpArgs false
set_option linter.unusedVariables false
set_option maxRecDepth 20000
theorem decS_eq (s : Bytes) : decS [.str s] = some s := rfl
def sIdxS : List AV → Option AV := fn2 (Rd.list decS) .str fun l w => if l.length ≤ 1099511627776 then some (.int .i64 (idxF l w 0)) else none
theorem sIdxS_ok {P : Program} {f : FuncId} (h : ∀ l w t H, l.length ≤ 1099511627776 → ACalls P f [.sl (l.map encS) t, .str w] H fun x H' => x = .int .i64 (idxF l w 0) ∧ H' = H) : ∀ xs v, sIdxS xs = some v → ∀ H, ACalls P f xs H fun x H' => x = v ∧ H' = H := by
  intro xs v hv H
  obtain ⟨x, y, p, q, rfl, h1, h2, h3⟩ := fn2_some hv
  split at h3
  · rename_i hl
    cases h3
    obtain ⟨t, rfl⟩ := Rd.list_some (enc := encS) (fun _ _ => decS_some) h1
    cases Rd.str_some h2
    exact h p q t H hl
  · cases h3
noncomputable def sQd := spF (fun s : Bytes => [AV.str s]) (fun s => s.length ≤ 1099511627776) (fun s => .tup [.str (quotedV s).1, .str (quotedV s).2.1, .bool (quotedV s).2.2])
theorem sQd_eq (s : Bytes) (h : s.length ≤ 1099511627776) : sQd [.str s] = some (.tup [.str (quotedV s).1, .str (quotedV s).2.1, .bool (quotedV s).2.2]) := spF_eq (fun a b e => by cases e; rfl) s h
noncomputable def puM8 : Pures := putP 24 sSvcO (putP 25 sSplit (putP 23 sQd (putP 22 sIdxS (putP 21 sCut (putP 20 sCutL pu0)))))
theorem puM8_dyn : isDyn puM8 = false := by simp only [puM8, go_sem, Nat.reduceEqDiff]
attribute [go_sem] puM8_dyn
theorem puM8_ok : PuOK Tryd.prog puM8 := .put (.put (.put (.put (.put (.put (pu0_ok) (spF_ok fun s H h => cutLines_calls s H h)) (spF_ok fun p H h => cut_calls p.1 p.2 H h)) (sIdxS_ok sIndex_calls)) (spF_ok fun s H h => quoted_calls s H h)) (sSplit_ok splitT_calls)) (spF_ok fun p H h => serviceOf_calls p .unk H h)
theorem rdStep {σ : Type} (step : σ → Bytes → Option σ) (s : σ) (text : Bytes) {i : Nat} {l : Bytes} (h : (cutLV text).1[i]? = some l) :
    rdL step s i ((splitB 10 text).drop i) = if (i : Int) = (cutLV text).2 then .error i else match step s l with
      | some s' => rdL step s' (i + 1) ((splitB 10 text).drop (i + 1))
      | none => .error i := by
  have hp := splitB_pos 10 text
  unfold cutLV at h ⊢
  generalize splitB 10 text = sp at *
  have hlt := (List.getElem?_eq_some_iff.1 h).1
  by_cases c : sp.getLast? = some []
  · rw [if_pos c] at h hlt ⊢
    simp only at h hlt ⊢
    rw [List.length_dropLast] at hlt
    rw [if_neg (by omega)]
    have hi : sp[i]? = some l := by
      rw [List.dropLast_eq_take, List.getElem?_take, if_pos (by omega)] at h
      exact h
    rw [drop_at hi]
    obtain ⟨l2, h2⟩ : ∃ l2, sp[i + 1]? = some l2 := getD_get' (by omega)
    rw [drop_at h2]
    rfl
  · rw [if_neg c] at h hlt ⊢
    simp only at h hlt ⊢
    rw [drop_at h]
    by_cases e : (i : Int) = (sp.length : Int) - 1
    · rw [if_pos e, List.drop_eq_nil_of_le (by omega)]
      have hl : sp.getLast? = some l := by
        rw [List.getLast?_eq_getElem?, ← h]
        congr 1
        omega
      rw [rdL, if_neg (fun e => c (by rw [hl, e]))]
    · rw [if_neg e]
      obtain ⟨l2, h2⟩ : ∃ l2, sp[i + 1]? = some l2 := getD_get' (by omega)
      rw [drop_at h2]
      rfl
theorem rdEnd {σ : Type} (step : σ → Bytes → Option σ) (s : σ) (text : Bytes) {i : Nat} (h : i = (cutLV text).1.length) (hn : i = (splitB 10 text).length → False) : rdL step s i ((splitB 10 text).drop i) = .ok s := by
  have hp := splitB_pos 10 text
  unfold cutLV at h
  generalize splitB 10 text = sp at *
  by_cases c : sp.getLast? = some []
  · rw [if_pos c] at h
    simp only [List.length_dropLast] at h
    rw [List.getLast?_eq_getElem?] at c
    rw [h, drop_at c, List.drop_eq_nil_of_le (by omega), rdL, if_pos rfl]
  · rw [if_neg c] at h
    exact absurd h hn
theorem svcOf_R {s : Bytes} {n : Nat} (h : s.length ≤ n) (hn : n ≤ 1099511627776) : svcR (svcOf (splitB 32 s)).1 := by
  have hl : ∀ p ∈ splitB 32 s, p.length ≤ s.length := fun p hp => splitB_le hp
  generalize splitB 32 s = l at *
  unfold svcOf
  split
  · rename_i a b c d
    split
    · simp [svcR, SvcV.zero]
    · have h1 := hl a (by simp)
      have h2 := hl b (by simp)
      exact ⟨by simp only; omega, by simp only; omega⟩
  · simp [svcR, SvcV.zero]
theorem macN_mono {n : Nat} {m : MacV} (h : macN n m) : macN (n + 1) m := by
  obtain ⟨⟨a, b, c, d⟩, e⟩ := h
  exact ⟨⟨by omega, by omega, by omega, by omega⟩, e⟩
theorem macN_svc {n : Nat} {m : MacV} {x : SvcV} (h : macN n m) (hx : svcR x) : macN (n + 1) { m with svcs := m.svcs ++ [x] } := by
  obtain ⟨⟨a, b, c, d⟩, e, f, g, i⟩ := h
  refine ⟨⟨by simp only; omega, by simp only; omega, by simp only; omega, by simp; omega⟩, e, f, g, fun y hy => ?_⟩
  rcases List.mem_append.1 hy with h | h
  · exact i y h
  · rw [List.mem_singleton.1 h]; exact hx
def RPI (H : Heap) (iM : Nat) (n : Nat) (m : MacV) (G : Heap) : Prop := H.Sub G ∧ macN n m ∧ ∃ ta tb tc td, G iM = some (.cells (encMac m ta tb tc td)) ∧ Mac4 H G m ta tb tc td
set_option maxHeartbeats 12800000 in
theorem rParseM_calls (text : Bytes) (H : Heap) (ht : text.length ≤ 1099511627776) : ACalls Tryd.prog 7 [.str text] H fun x H' => x = parseMA text ∧ H' = H := by
  have hS := Heap.Sub.rfl' H
  have hv := parseMA.eq_1 text
  have hp := parseMV.eq_1 text
  by_cases c0 : 4194304 < text.length
  · have y0 : decide ((4194304 : Int) < text.length) = true := decide_eq_true (by omega)
    rw [if_pos c0] at hp
    rw [hp] at hv
    refine ACalls.of_code (X := { pure := puM8 }) puM8_ok Tryd.func7 (by kernel_rfl) rfl (by kernel_rfl) (Nat.le_of_ble_eq_true rfl) ?_
    simp -implicitDefEqProofs only [go_sem, tys, regs0, Nat.reduceEqDiff, Nat.reduceAdd, Nat.reduceLeDiff, Nat.reduceLT, Nat.reduceMul, Int.natCast_one, Int.natCast_zero, Int.reduceEq, Int.reduceLT, Int.reduceLE, Int.reduceAdd, Int.reduceSub, Int.reduceToNat, UInt8.reduceToNat, Tryd.f7]
    with_reducible refine nwC_intro fun i2 hi2 => ?_
    generalize E2 : Heap.put H i2 _ = G2
    have hO_2 := obj_new E2 hi2 hS
    have n2 := hO_2.1
    have hS := hO_2.2.1
    have g2 := hO_2.2.2.1
    clear hO_2
    simp -implicitDefEqProofs only [go_sem, tys, regs0, Nat.reduceEqDiff, Nat.reduceAdd, Nat.reduceLeDiff, Nat.reduceLT, Nat.reduceMul, Int.natCast_one, Int.natCast_zero, Int.reduceEq, Int.reduceLT, Int.reduceLE, Int.reduceAdd, Int.reduceSub, Int.reduceToNat, UInt8.reduceToNat, y0, g2]
    exact Done.wk 3 (Done.drop (hS.put' n2 _) ⟨by rw [hv]; rfl, rfl⟩)
  have y0 : decide ((4194304 : Int) < text.length) = false := decide_eq_false (by omega)
  rw [if_neg c0] at hp
  have q1 := sCutL_eq text ht
  have hst := fun s i l h => @rdStep _ lineM s text i l h
  have hen := fun s i h1 h2 => @rdEnd _ lineM s text i h1 h2
  have hll : (cutLV text).1.length ≤ text.length + 1 ∧ ∀ l ∈ (cutLV text).1, l.length ≤ text.length := by
    have h1 : (splitB 10 text).length ≤ text.length + 1 := by rw [splitB_len]; have := @List.count_le_length _ _ 10 text; omega
    unfold cutLV
    split
    · exact ⟨by rw [List.length_dropLast]; omega, fun l hl => splitB_le ((List.dropLast_sublist _).subset hl)⟩
    · exact ⟨h1, fun l hl => splitB_le hl⟩
  have htn : ∀ i, i = (cutLV text).1.length → i = (splitB 10 text).length → (cutLV text).2 = (i : Int) - 1 := by
    intro i h1 h2
    have h3 := splitB_pos 10 text
    unfold cutLV at h1 ⊢
    split at h1
    · rw [List.length_dropLast] at h1; omega
    · rename_i hc; rw [if_neg hc]; simp only; omega
  generalize cutLV text = cl at *
  obtain ⟨ls, torn⟩ := cl
  simp only at q1 hst hen hll htn
  refine ACalls.of_code (X := { pure := puM8 }) puM8_ok Tryd.func7 (by kernel_rfl) rfl (by kernel_rfl) (Nat.le_of_ble_eq_true rfl) ?_
  simp -implicitDefEqProofs only [go_sem, tys, regs0, Nat.reduceEqDiff, Nat.reduceAdd, Nat.reduceLeDiff, Nat.reduceLT, Nat.reduceMul, Int.natCast_one, Int.natCast_zero, Int.reduceEq, Int.reduceLT, Int.reduceLE, Int.reduceAdd, Int.reduceSub, Int.reduceToNat, UInt8.reduceToNat, Tryd.f7]
  with_reducible refine nwC_intro fun i2 hi2 => ?_
  generalize E2 : Heap.put H i2 _ = G2
  have hO_2 := obj_new E2 hi2 hS
  have n2 := hO_2.1
  have hS := hO_2.2.1
  have g2 := hO_2.2.2.1
  clear hO_2
  have g20 := g2
  simp -implicitDefEqProofs only [go_sem, tys, regs0, Nat.reduceEqDiff, Nat.reduceAdd, Nat.reduceLeDiff, Nat.reduceLT, Nat.reduceMul, Int.natCast_one, Int.natCast_zero, Int.reduceEq, Int.reduceLT, Int.reduceLE, Int.reduceAdd, Int.reduceSub, Int.reduceToNat, UInt8.reduceToNat, y0, g2]
  with_reducible refine nwC_intro fun i5 hi5 => ?_
  generalize E5 : Heap.put G2 i5 _ = G5
  have hO_5 := obj_new E5 hi5 hS
  have n5 := hO_5.1
  have hS := hO_5.2.1
  have g5 := hO_5.2.2.1
  have d2_5 := obj_ne g2 hi5
  have g2 := hO_5.2.2.2 _ _ g2
  clear hO_5
  have k5 : G2.Sub G5 := fun i o hi => by rw [← E5, put_ne _ _ _ _ (obj_ne hi hi5)]; exact hi
  simp -implicitDefEqProofs only [go_sem, tys, regs0, Nat.reduceEqDiff, Nat.reduceAdd, Nat.reduceLeDiff, Nat.reduceLT, Nat.reduceMul, Int.natCast_one, Int.natCast_zero, Int.reduceEq, Int.reduceLT, Int.reduceLE, Int.reduceAdd, Int.reduceSub, Int.reduceToNat, UInt8.reduceToNat, puM8, pu0, q1]
  refine aloop_intro (σ := Nat × MacV × Int) (fun t => [(2, .ptr i2 0), (5, .ptr i5 0), (6, .int .i64 t.2.2), (8, .int .i64 torn), (30, .sl (ls.map encS) .unk), (31, .int .i64 ls.length), (32, .int .i64 t.1)])
    (fun t G => t.1 ≤ ls.length ∧ 0 ≤ t.2.2 ∧ RPI G2 i5 t.1 t.2.1 G ∧ rdL lineM (MacV.zero, 0) 0 (splitB 10 text) = rdL lineM t.2 t.1 ((splitB 10 text).drop t.1) ∧ (0 < t.1 → torn ≠ (t.1 : Int) - 1)) (fun t => ls.length - t.1) (0, .zero, 0) ?_ ?_ ?_
  · simp -implicitDefEqProofs only [go_sem, tys, regs0, Nat.reduceEqDiff, Nat.reduceAdd, Nat.reduceLeDiff, Nat.reduceLT, Nat.reduceMul, Int.natCast_one, Int.natCast_zero, Int.reduceEq, Int.reduceLT, Int.reduceLE, Int.reduceAdd, Int.reduceSub, Int.reduceToNat, UInt8.reduceToNat]
  · exact ⟨Nat.zero_le _, Int.le_refl _, ⟨k5, macN_zero 0, _, _, _, _, g5, Mac4.new k5⟩, rfl, fun h => absurd h (by decide)⟩
  clear g2 g5 hS
  rintro ⟨i, m, st⟩ r G hvv ⟨hi, hs0, ⟨hS, hmn, ta, tb, tc, td, gM, h4⟩, hE, htr⟩
  have h2 := hvv.1
  have h5 := hvv.2.1
  have h6 := hvv.2.2.1
  have h8 := hvv.2.2.2.1
  have h30 := hvv.2.2.2.2.1
  have h31 := hvv.2.2.2.2.2.1
  have h32 := hvv.2.2.2.2.2.2.1
  clear hvv
  simp only at h2 h5 h6 h8 h30 h31 h32 hi hs0 hmn gM h4 hE htr
  have g2 := hS _ _ g20
  have d25 : ¬ i2 = i5 := obj_ne g20 hi5
  have hSH : H.Sub G := fun i o hi => hS i o (by rw [← E2, put_ne _ _ _ _ (obj_ne hi hi2)]; exact hi)
  by_cases g : i < ls.length
  rotate_left
  · have x0 : decide ((i : Int) < ls.length) = false := decide_eq_false (by omega)
    obtain rfl : i = ls.length := by omega
    have hz := hen (m, st) ls.length rfl (fun e => by
      have h1 := htn _ rfl e
      have h3 := splitB_pos 10 text
      exact htr (by omega) h1)
    rw [hz] at hE
    rw [hE] at hp
    simp only at hp
    have hck := rCheck_calls m ta tb tc td G (macN_R hmn (by omega))
    unfold encMac at gM hck
    simp -implicitDefEqProofs only [go_sem, tys, regs0, Nat.reduceEqDiff, Nat.reduceAdd, Nat.reduceLeDiff, Nat.reduceLT, Nat.reduceMul, Int.natCast_one, Int.natCast_zero, Int.reduceEq, Int.reduceLT, Int.reduceLE, Int.reduceAdd, Int.reduceSub, Int.reduceToNat, UInt8.reduceToNat, h2, h5, h6, h8, h30, h31, h32, x0, gM]
    refine hck.pure_next _ ?_
    by_cases c1 : macErr m = 0
    · have y2 : decide (¬ macErr m = 0) = false := decide_eq_false (by simpa using c1)
      rw [if_neg (by simpa using c1)] at hp
      rw [hp] at hv
      simp -implicitDefEqProofs only [go_sem, tys, regs0, Nat.reduceEqDiff, Nat.reduceAdd, Nat.reduceLeDiff, Nat.reduceLT, Nat.reduceMul, Int.natCast_one, Int.natCast_zero, Int.reduceEq, Int.reduceLT, Int.reduceLE, Int.reduceAdd, Int.reduceSub, Int.reduceToNat, UInt8.reduceToNat, y2, h2, h5, gM, g2]
      exact Done.wk 3 (Done.drop (hSH.put' n2 _) ⟨by rw [hv]; rfl, rfl⟩)
    · have y2 : decide (¬ macErr m = 0) = true := decide_eq_true c1
      rw [if_pos c1] at hp
      rw [hp] at hv
      simp -implicitDefEqProofs only [go_sem, tys, regs0, Nat.reduceEqDiff, Nat.reduceAdd, Nat.reduceLeDiff, Nat.reduceLT, Nat.reduceMul, Int.natCast_one, Int.natCast_zero, Int.reduceEq, Int.reduceLT, Int.reduceLE, Int.reduceAdd, Int.reduceSub, Int.reduceToNat, UInt8.reduceToNat, y2, h2, h5, gM, g2]
      exact Done.wk 3 (Done.drop (hSH.put' n2 _) ⟨by rw [hv]; rfl, rfl⟩)
  have x0 : decide ((i : Int) < ls.length) = true := decide_eq_true (by omega)
  obtain ⟨l, hl⟩ : ∃ l, ls[i]? = some l := getD_get' g
  have hlb := hll.2 l (List.mem_of_getElem? hl)
  have ws : IntKind.i64.wrap ((i : Int) + 1) = ((i + 1 : Nat) : Int) := by rw [Go.IntWalk.i64_in _ (by omega)]; omega
  rw [hst (m, st) i l hl, lineM_eq _ _ hs0] at hE
  unfold lineRV at hE
  have q2 := sCut_eq l 32 (by omega)
  have l2 := cutT_len 32 l
  generalize cutT 32 l = ct at *
  obtain ⟨word, rest, one⟩ := ct
  simp only at q2 l2 hE
  have q3 := sQd_eq rest (by omega)
  have q4 : sSplit [.str rest, .str [32]] = some (.sl ((splitB 32 rest).map encS) .unk) := by rw [sSplit_eq, if_pos (show rest.length ≤ 1099511627776 by omega)]
  have q5 := sSvcO_eq (splitB 32 rest) (by rw [splitB_len]; have := @List.count_le_length _ _ 32 rest; omega)
  have hir := idx_rank word
  have q6 : sIdxS [.sl [[.str wFact], [.str wFile], [.str wSet], [.str wService], [.str wRun]] .exact, .str word] = some (.int .i64 (idxF [wFact, wFile, wSet, wService, wRun] word 0)) := rfl
  generalize idxF [wFact, wFile, wSet, wService, wRun] word 0 = ix at *
  have hri := rankV_in word
  have hrk := rankV_3 (w := word)
  generalize hrr : rankV word = rk at *
  simp -implicitDefEqProofs only [go_sem, tys, regs0, Nat.reduceEqDiff, Nat.reduceAdd, Nat.reduceLeDiff, Nat.reduceLT, Nat.reduceMul, Int.natCast_one, Int.natCast_zero, Int.reduceEq, Int.reduceLT, Int.reduceLE, Int.reduceAdd, Int.reduceSub, Int.reduceToNat, UInt8.reduceToNat, h2, h5, h6, h8, h30, h31, h32, x0, hl, encS, puM8, pu0, q2, q6]
  with_reducible refine cnd_mid (fun r G' => G' = G ∧ agrees r [(2, .ptr i2 0), (5, .ptr i5 0), (6, .int .i64 st), (8, .int .i64 torn), (9, .int .i64 i), (11, .str word), (12, .str rest), (14, .int .i64 rk), (30, .sl (ls.map encS) .unk), (31, .int .i64 ls.length), (32, .int .i64 i)]) ?_ ?_
  rotate_left
  · by_cases c4 : ix = 4
    · have y4 : decide (ix = 4) = true := decide_eq_true c4
      rw [if_pos c4] at hir
      subst hir
      simp -implicitDefEqProofs only [go_sem, tys, regs0, Nat.reduceEqDiff, Nat.reduceAdd, Nat.reduceLeDiff, Nat.reduceLT, Nat.reduceMul, Int.natCast_one, Int.natCast_zero, Int.reduceEq, Int.reduceLT, Int.reduceLE, Int.reduceAdd, Int.reduceSub, Int.reduceToNat, UInt8.reduceToNat, y4, h2, h5, h6, h8, h30, h31, h32]
    · have y4 : decide (ix = 4) = false := decide_eq_false c4
      rw [if_neg c4] at hir
      subst hir
      simp -implicitDefEqProofs only [go_sem, tys, regs0, Nat.reduceEqDiff, Nat.reduceAdd, Nat.reduceLeDiff, Nat.reduceLT, Nat.reduceMul, Int.natCast_one, Int.natCast_zero, Int.reduceEq, Int.reduceLT, Int.reduceLE, Int.reduceAdd, Int.reduceSub, Int.reduceToNat, UInt8.reduceToNat, y4, h2, h5, h6, h8, h30, h31, h32]
  clear h2 h5 h6 h8 h30 h31 h32 q6 hir
  rintro r G' ⟨rfl, hvv⟩
  have h2 := hvv.1
  have h5 := hvv.2.1
  have h6 := hvv.2.2.1
  have h8 := hvv.2.2.2.1
  have h9 := hvv.2.2.2.2.1
  have h11 := hvv.2.2.2.2.2.1
  have h12 := hvv.2.2.2.2.2.2.1
  have h14 := hvv.2.2.2.2.2.2.2.1
  have h30 := hvv.2.2.2.2.2.2.2.2.1
  have h31 := hvv.2.2.2.2.2.2.2.2.2.1
  have h32 := hvv.2.2.2.2.2.2.2.2.2.2.1
  clear hvv
  have hkb : (quotedV rest).1.length ≤ rest.length ∧ (quotedV rest).2.1.length ≤ rest.length := by
    have h1 := cutT_len 32 rest
    have h2 := unqD_len (cutT 32 rest).2.1
    unfold quotedV
    exact ⟨h1.1, by simp only; omega⟩
  generalize quotedV rest = qd at *
  obtain ⟨k, v, is⟩ := qd
  simp only at q3 hE hkb
  simp +contextual -implicitDefEqProofs only [go_sem, gd_M, tys, regs0, Nat.reduceEqDiff, Nat.reduceAdd, Nat.reduceLeDiff, Nat.reduceLT, Nat.reduceMul, Int.natCast_one, Int.natCast_zero, Int.reduceEq, Int.reduceLT, Int.reduceLE, Int.reduceAdd, Int.reduceSub, Int.reduceToNat, UInt8.reduceToNat, h2, h5, h6, h8, h9, h11, h12, h14, h30, h31, h32, puM8, pu0, q3]
  generalize hok : (decide (st ≤ rk) && decide (¬ (i : Int) = torn)) = okb at *
  generalize hEE : (if rk < st then none else if rk = 3 then (if (svcOf (splitB 32 rest)).2 = true then some ({ m with svcs := m.svcs ++ [(svcOf (splitB 32 rest)).1] }, 3) else none) else if is = true then some (addM m rk ⟨[], ⟨k, v, decide (word = wRun)⟩, ⟨k, v⟩, .zero⟩, rk) else (none : Option (MacV × Int))) = E at *
  have hnr : okb = true → ¬ rk < st := fun e => by
    rw [e, Bool.and_eq_true, decide_eq_true_eq] at hok
    omega
  have hlr : ∀ x : LineV, x = ⟨[], ⟨k, v, decide (word = wRun)⟩, ⟨k, v⟩, .zero⟩ → lineR text.length x := fun x e => by
    subst e
    exact ⟨by simp, ⟨by simp only; omega, by simp only; omega⟩, ⟨by simp only; omega, by simp only; omega⟩, by simp [SvcV.zero]⟩
  have hadd := fun r => macN_add hmn (hlr _ rfl) (by omega) r
  have hmn1 := macN_mono hmn
  have hsvr := svcOf_R (s := rest) (n := text.length) (by omega) (by omega)
  have hmsv := macN_svc hmn hsvr
  obtain ⟨⟨b1, b2, b3, b4⟩, _⟩ := hmn
  with_reducible refine cnd_mid (fun r G' => ∃ m' is2, RPI G2 i5 (i + 1) m' G' ∧ (okb = true → E = if is2 = true then some (m', rk) else none) ∧ agrees r [(2, .ptr i2 0), (5, .ptr i5 0), (6, .int .i64 rk), (8, .int .i64 torn), (9, .int .i64 i), (15, .bool okb), (18, .bool is2), (30, .sl (ls.map encS) .unk), (31, .int .i64 ls.length), (32, .int .i64 i)]) ?_ ?_
  rotate_left
  · simp only [encMac] at gM
    by_cases c1 : rk = 0
    · have y1 : decide (rk = 0) = true := decide_eq_true c1
      have ha : ∀ y : LineV, addM m 0 y = { m with facts := m.facts ++ [y.set] } := fun y => by unfold addM; rw [if_pos rfl]
      have hadd := hadd 0
      rw [ha] at hadd
      subst c1
      rw [ha] at hEE
      simp only at hadd hEE
      simp -implicitDefEqProofs only [go_sem, tys, regs0, Nat.reduceEqDiff, Nat.reduceAdd, Nat.reduceLeDiff, Nat.reduceLT, Nat.reduceMul, Int.natCast_one, Int.natCast_zero, Int.reduceEq, Int.reduceLT, Int.reduceLE, Int.reduceAdd, Int.reduceSub, Int.reduceToNat, UInt8.reduceToNat, y1, gM, h2, h5, h6, h8, h9, h11, h12, h30, h31, h32]
      refine AppG.step2 h4.a (encSet_unif _) (by simp) (by simp; omega) (by simp; omega) (fun tl' G5 hA hG => ?_)
      have e : m.facts.map encSet ++ [[.str k, .str v]] = (m.facts ++ [(⟨k, v⟩ : SetV)]).map encSet := by simp [encSet]
      have hA : AppG G2 G5 2 ((m.facts ++ [(⟨k, v⟩ : SetV)]).map encSet) tl' := by rw [← e]; exact hA
      have gM := hG.cells h4.a gM
      have ob := hG.other hA.1 h4.b h4.ab.symm
      have oc := hG.other hA.1 h4.c h4.ac.symm
      have od := hG.other hA.1 h4.d h4.ad.symm
      rw [e]
      simp -implicitDefEqProofs only [go_sem, tys, regs0, Nat.reduceEqDiff, Nat.reduceAdd, Nat.reduceLeDiff, Nat.reduceLT, Nat.reduceMul, Int.natCast_one, Int.natCast_zero, Int.reduceEq, Int.reduceLT, Int.reduceLE, Int.reduceAdd, Int.reduceSub, Int.reduceToNat, UInt8.reduceToNat, gM, h2, h5, h6, h8, h9, h11, h12, h30, h31, h32]
      have h5 : Mac4 G2 G5 { m with facts := m.facts ++ [(⟨k, v⟩ : SetV)] } tl' tb tc td := ⟨hA, ob.1, oc.1, od.1, ob.2.symm, oc.2.symm, od.2.symm, h4.bc, h4.bd, h4.cd⟩
      exact ⟨{ m with facts := m.facts ++ [(⟨k, v⟩ : SetV)] }, is, ⟨hA.1.put' hi5 _, hadd, _, _, _, _, put_same _ _ _, h5.set hi5 gM _⟩, fun e => by rw [← hEE, if_neg (hnr e), if_neg (by decide)], rfl⟩
    have y1 : decide (rk = 0) = false := decide_eq_false c1
    by_cases c2 : rk = 1
    · have y2 : decide (rk = 1) = true := decide_eq_true c2
      have ha : ∀ y : LineV, addM m 1 y = { m with files := m.files ++ [y.file] } := fun y => by unfold addM; rw [if_neg (by decide), if_pos rfl]
      have hadd := hadd 1
      rw [ha] at hadd
      subst c2
      rw [ha] at hEE
      simp only at hadd hEE
      simp -implicitDefEqProofs only [go_sem, tys, regs0, Nat.reduceEqDiff, Nat.reduceAdd, Nat.reduceLeDiff, Nat.reduceLT, Nat.reduceMul, Int.natCast_one, Int.natCast_zero, Int.reduceEq, Int.reduceLT, Int.reduceLE, Int.reduceAdd, Int.reduceSub, Int.reduceToNat, UInt8.reduceToNat, y1, y2, gM, h2, h5, h6, h8, h9, h11, h12, h30, h31, h32]
      refine AppG.step2 h4.b (encFile_unif _) (by simp) (by simp; omega) (by simp; omega) (fun tl' G5 hA hG => ?_)
      have e : m.files.map encFile ++ [[.str k, .str v, .bool (decide (word = wRun))]] = (m.files ++ [(⟨k, v, decide (word = wRun)⟩ : FileV)]).map encFile := by simp [encFile]
      have hA : AppG G2 G5 3 ((m.files ++ [(⟨k, v, decide (word = wRun)⟩ : FileV)]).map encFile) tl' := by rw [← e]; exact hA
      have gM := hG.cells h4.b gM
      have oa := hG.other hA.1 h4.a h4.ab
      have oc := hG.other hA.1 h4.c h4.bc.symm
      have od := hG.other hA.1 h4.d h4.bd.symm
      rw [e]
      simp -implicitDefEqProofs only [go_sem, tys, regs0, Nat.reduceEqDiff, Nat.reduceAdd, Nat.reduceLeDiff, Nat.reduceLT, Nat.reduceMul, Int.natCast_one, Int.natCast_zero, Int.reduceEq, Int.reduceLT, Int.reduceLE, Int.reduceAdd, Int.reduceSub, Int.reduceToNat, UInt8.reduceToNat, gM, h2, h5, h6, h8, h9, h11, h12, h30, h31, h32]
      have h5 : Mac4 G2 G5 { m with files := m.files ++ [(⟨k, v, decide (word = wRun)⟩ : FileV)] } ta tl' tc td := ⟨oa.1, hA, oc.1, od.1, oa.2, h4.ac, h4.ad, oc.2.symm, od.2.symm, h4.cd⟩
      exact ⟨{ m with files := m.files ++ [(⟨k, v, decide (word = wRun)⟩ : FileV)] }, is, ⟨hA.1.put' hi5 _, hadd, _, _, _, _, put_same _ _ _, h5.set hi5 gM _⟩, fun e => by rw [← hEE, if_neg (hnr e), if_neg (by decide)], rfl⟩
    have y2 : decide (rk = 1) = false := decide_eq_false c2
    by_cases c3 : rk = 2
    · have y3 : decide (rk = 2) = true := decide_eq_true c3
      have ha : ∀ y : LineV, addM m 2 y = { m with sets := m.sets ++ [y.set] } := fun y => by unfold addM; rw [if_neg (by decide), if_neg (by decide), if_pos rfl]
      have hadd := hadd 2
      rw [ha] at hadd
      subst c3
      rw [ha] at hEE
      simp only at hadd hEE
      simp -implicitDefEqProofs only [go_sem, tys, regs0, Nat.reduceEqDiff, Nat.reduceAdd, Nat.reduceLeDiff, Nat.reduceLT, Nat.reduceMul, Int.natCast_one, Int.natCast_zero, Int.reduceEq, Int.reduceLT, Int.reduceLE, Int.reduceAdd, Int.reduceSub, Int.reduceToNat, UInt8.reduceToNat, y1, y2, y3, gM, h2, h5, h6, h8, h9, h11, h12, h30, h31, h32]
      refine AppG.step2 h4.c (encSet_unif _) (by simp) (by simp; omega) (by simp; omega) (fun tl' G5 hA hG => ?_)
      have e : m.sets.map encSet ++ [[.str k, .str v]] = (m.sets ++ [(⟨k, v⟩ : SetV)]).map encSet := by simp [encSet]
      have hA : AppG G2 G5 2 ((m.sets ++ [(⟨k, v⟩ : SetV)]).map encSet) tl' := by rw [← e]; exact hA
      have gM := hG.cells h4.c gM
      have oa := hG.other hA.1 h4.a h4.ac
      have ob := hG.other hA.1 h4.b h4.bc
      have od := hG.other hA.1 h4.d h4.cd.symm
      rw [e]
      simp -implicitDefEqProofs only [go_sem, tys, regs0, Nat.reduceEqDiff, Nat.reduceAdd, Nat.reduceLeDiff, Nat.reduceLT, Nat.reduceMul, Int.natCast_one, Int.natCast_zero, Int.reduceEq, Int.reduceLT, Int.reduceLE, Int.reduceAdd, Int.reduceSub, Int.reduceToNat, UInt8.reduceToNat, gM, h2, h5, h6, h8, h9, h11, h12, h30, h31, h32]
      have h5 : Mac4 G2 G5 { m with sets := m.sets ++ [(⟨k, v⟩ : SetV)] } ta tb tl' td := ⟨oa.1, ob.1, hA, od.1, h4.ab, oa.2, h4.ad, ob.2, h4.bd, od.2.symm⟩
      exact ⟨{ m with sets := m.sets ++ [(⟨k, v⟩ : SetV)] }, is, ⟨hA.1.put' hi5 _, hadd, _, _, _, _, put_same _ _ _, h5.set hi5 gM _⟩, fun e => by rw [← hEE, if_neg (hnr e), if_neg (by decide)], rfl⟩
    have y3 : decide (rk = 2) = false := decide_eq_false c3
    by_cases c4 : rk = 3
    · have y4 : decide (rk = 3) = true := decide_eq_true c4
      subst c4
      rw [if_pos rfl] at hEE
      generalize svcOf (splitB 32 rest) = so at *
      obtain ⟨sv, is3⟩ := so
      simp only at hEE hmsv q5
      unfold encSvc at q5
      have hS0 := hS
      simp -implicitDefEqProofs only [go_sem, tys, regs0, Nat.reduceEqDiff, Nat.reduceAdd, Nat.reduceLeDiff, Nat.reduceLT, Nat.reduceMul, Int.natCast_one, Int.natCast_zero, Int.reduceEq, Int.reduceLT, Int.reduceLE, Int.reduceAdd, Int.reduceSub, Int.reduceToNat, UInt8.reduceToNat, y1, y2, y3, y4, gM, h2, h5, h6, h8, h9, h11, h12, h30, h31, h32]
      with_reducible refine nwC_intro fun i19 hi19 => ?_
      simp -implicitDefEqProofs only [go_sem, tys, regs0, Nat.reduceEqDiff, Nat.reduceAdd, Nat.reduceLeDiff, Nat.reduceLT, Nat.reduceMul, Int.natCast_one, Int.natCast_zero, Int.reduceEq, Int.reduceLT, Int.reduceLE, Int.reduceAdd, Int.reduceSub, Int.reduceToNat, UInt8.reduceToNat, y1, y2, y3, y4, gM, h2, h5, h6, h8, h9, h11, h12, h30, h31, h32, puM8, pu0, q4, q5]
      have d5 : ¬ i5 = i19 := obj_ne gM hi19
      have h4 := h4.put hi19 (.cells [.str sv.name, .str sv.path, .bool sv.auto, .bool sv.on])
      have gM : (G'.put i19 (.cells [.str sv.name, .str sv.path, .bool sv.auto, .bool sv.on])) i5 = some (.cells [.sl (m.facts.map encSet) ta, .sl (m.files.map encFile) tb, .sl (m.sets.map encSet) tc, .sl (m.svcs.map encSvc) td]) := by rw [put_ne _ _ _ _ d5]; exact gM
      have g19 := put_same G' i19 (.cells [.str sv.name, .str sv.path, .bool sv.auto, .bool sv.on])
      generalize G'.put i19 (.cells [.str sv.name, .str sv.path, .bool sv.auto, .bool sv.on]) = G9 at *
      simp -implicitDefEqProofs only [go_sem, tys, regs0, Nat.reduceEqDiff, Nat.reduceAdd, Nat.reduceLeDiff, Nat.reduceLT, Nat.reduceMul, Int.natCast_one, Int.natCast_zero, Int.reduceEq, Int.reduceLT, Int.reduceLE, Int.reduceAdd, Int.reduceSub, Int.reduceToNat, UInt8.reduceToNat, y1, y2, y3, y4, gM, g19, h2, h5, h6, h8, h9, h11, h12, h30, h31, h32, puM8, pu0, q4, q5]
      refine AppG.step2 h4.d (encSvc_unif _) (by simp) (by simp; omega) (by simp; omega) (fun tl' G5 hA hG => ?_)
      have e : m.svcs.map encSvc ++ [[.str sv.name, .str sv.path, .bool sv.auto, .bool sv.on]] = (m.svcs ++ [sv]).map encSvc := by simp [encSvc]
      have hA : AppG G2 G5 4 ((m.svcs ++ [sv]).map encSvc) tl' := by rw [← e]; exact hA
      have gM := hG.cells h4.d gM
      have oa := hG.other hA.1 h4.a h4.ad
      have ob := hG.other hA.1 h4.b h4.bd
      have oc := hG.other hA.1 h4.c h4.cd
      rw [e]
      simp -implicitDefEqProofs only [go_sem, tys, regs0, Nat.reduceEqDiff, Nat.reduceAdd, Nat.reduceLeDiff, Nat.reduceLT, Nat.reduceMul, Int.natCast_one, Int.natCast_zero, Int.reduceEq, Int.reduceLT, Int.reduceLE, Int.reduceAdd, Int.reduceSub, Int.reduceToNat, UInt8.reduceToNat, gM, h2, h5, h6, h8, h9, h11, h12, h30, h31, h32]
      have h5 : Mac4 G2 G5 { m with svcs := m.svcs ++ [sv] } ta tb tc tl' := ⟨oa.1, ob.1, oc.1, hA, h4.ab, h4.ac, oa.2, h4.bc, ob.2, oc.2⟩
      exact ⟨{ m with svcs := m.svcs ++ [sv] }, is3, ⟨hA.1.put' hi5 _, hmsv, _, _, _, _, put_same _ _ _, h5.set hi5 gM _⟩, fun e => by rw [← hEE, if_neg (hnr e)], rfl⟩
    have y4 : decide (rk = 3) = false := decide_eq_false c4
    simp -implicitDefEqProofs only [go_sem, tys, regs0, Nat.reduceEqDiff, Nat.reduceAdd, Nat.reduceLeDiff, Nat.reduceLT, Nat.reduceMul, Int.natCast_one, Int.natCast_zero, Int.reduceEq, Int.reduceLT, Int.reduceLE, Int.reduceAdd, Int.reduceSub, Int.reduceToNat, UInt8.reduceToNat, y1, y2, y3, y4, h2, h5, h8, h9, h30, h31, h32]
    exact ⟨m, is, ⟨hS, hmn1, ta, tb, tc, td, gM, h4⟩, fun e => absurd (hnr e) (by omega), rfl⟩
  clear h2 h5 h6 h8 h9 h11 h12 h14 h30 h31 h32 gM h4 g2 hS hSH
  rintro r G ⟨m', is2, ⟨hS, hmn', ta', tb', tc', td', gM, h4⟩, hEm, hvv⟩
  have h2 := hvv.1
  have h5 := hvv.2.1
  have h6 := hvv.2.2.1
  have h8 := hvv.2.2.2.1
  have h9 := hvv.2.2.2.2.1
  have h15 := hvv.2.2.2.2.2.1
  have h18 := hvv.2.2.2.2.2.2.1
  have h30 := hvv.2.2.2.2.2.2.2.1
  have h31 := hvv.2.2.2.2.2.2.2.2.1
  have h32 := hvv.2.2.2.2.2.2.2.2.2.1
  clear hvv
  have g2 := hS _ _ g20
  have hSH : H.Sub G := fun i o hi => hS i o (by rw [← E2, put_ne _ _ _ _ (obj_ne hi hi2)]; exact hi)
  have herr : rdL lineM (MacV.zero, 0) 0 (splitB 10 text) = .error i → parseMA text = .tup [.agg (encMac .zero .unk .unk .unk .unk), .int .i64 i, .int .i64 8] := fun e => by
    rw [e] at hp
    simp only at hp
    rw [hv, hp]
  cases hokb : okb with
  | false =>
    rw [hokb] at h15 hok
    have e : rdL lineM (MacV.zero, 0) 0 (splitB 10 text) = .error i := by
      rw [hE]
      by_cases ct : (i : Int) = torn
      · rw [if_pos ct]
      · rw [if_neg ct, ← hEE, if_pos]
        rw [decide_eq_true ct, Bool.and_true, decide_eq_false_iff_not] at hok
        omega
    simp -implicitDefEqProofs only [go_sem, tys, regs0, Nat.reduceEqDiff, Nat.reduceAdd, Nat.reduceLeDiff, Nat.reduceLT, Nat.reduceMul, Int.natCast_one, Int.natCast_zero, Int.reduceEq, Int.reduceLT, Int.reduceLE, Int.reduceAdd, Int.reduceSub, Int.reduceToNat, UInt8.reduceToNat, h2, h5, h6, h8, h9, h15, h18, h30, h31, h32, g2]
    exact Done.wk 3 (Done.drop (hSH.put' n2 _) ⟨by rw [herr e]; rfl, rfl⟩)
  | true =>
    have hEm := hEm hokb
    rw [hokb] at h15 hok
    have ct : ¬ (i : Int) = torn := by
      rw [Bool.and_eq_true, decide_eq_true_eq, decide_eq_true_eq] at hok
      exact hok.2
    rw [if_neg ct] at hE
    cases is2 with
    | false =>
      rw [if_neg (by simp)] at hEm
      rw [hEm] at hE
      simp -implicitDefEqProofs only [go_sem, tys, regs0, Nat.reduceEqDiff, Nat.reduceAdd, Nat.reduceLeDiff, Nat.reduceLT, Nat.reduceMul, Int.natCast_one, Int.natCast_zero, Int.reduceEq, Int.reduceLT, Int.reduceLE, Int.reduceAdd, Int.reduceSub, Int.reduceToNat, UInt8.reduceToNat, h2, h5, h6, h8, h9, h15, h18, h30, h31, h32, g2]
      exact Done.wk 3 (Done.drop (hSH.put' n2 _) ⟨by rw [herr hE]; rfl, rfl⟩)
    | true =>
      rw [if_pos rfl] at hEm
      rw [hEm] at hE
      simp -implicitDefEqProofs only [go_sem, tys, regs0, Nat.reduceEqDiff, Nat.reduceAdd, Nat.reduceLeDiff, Nat.reduceLT, Nat.reduceMul, Int.natCast_one, Int.natCast_zero, Int.reduceEq, Int.reduceLT, Int.reduceLE, Int.reduceAdd, Int.reduceSub, Int.reduceToNat, UInt8.reduceToNat, h2, h5, h6, h8, h9, h15, h18, h30, h31, h32, ws]
      refine Again.mk (i + 1, m', rk) (by simp -implicitDefEqProofs only [go_sem, tys, regs0, Nat.reduceEqDiff, Nat.reduceAdd, Nat.reduceLeDiff, Nat.reduceLT, Nat.reduceMul, Int.natCast_one, Int.natCast_zero, Int.reduceEq, Int.reduceLT, Int.reduceLE, Int.reduceAdd, Int.reduceSub, Int.reduceToNat, UInt8.reduceToNat, h2, h5, h6, h8, h30, h31]) ⟨by simp only; omega, ?_, ⟨hS, hmn', _, _, _, _, gM, h4⟩, hE, fun _ => by simp only; omega⟩ (by simp only; omega)
      have := hnr hokb
      simp only
      omega
end Go.Proofs
