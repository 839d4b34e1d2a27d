/-
  Walks and plain laws, part 5.
-/
import Derived.Test.YthkfcmnpobobbaaGreatDoorM3
import Derived.Test.YthkfcmnpobobbaaGreatDoorM4
import Derived.Lib.ItoaLen
import Derived.Test.YthkfcmnpobobbaaGreatDoorM2
import Derived.Test.YthkfcmnpobobbaaGreatDoorM1
/- Texts of versions and records, on both sides. -/
namespace Go.Proofs
open Go Go.Abs
set_option linter.unusedSimpArgs false
set_option linter.unusedVariables false
set_option maxRecDepth 20000
def verText (v : VerV) : Bytes := Lib.itoa v.major ++ [46] ++ Lib.itoa v.minor ++ [46] ++ Lib.itoa v.patch ++ if v.early = [] then [] else [45] ++ v.early
def verT (v : VerV) : Bytes := if v = .zero then [45] else verText v
def kindWs : List Bytes := [[], [105, 110, 115, 116, 97, 108, 108], [117, 112, 100, 97, 116, 101], [98, 97, 99, 107], [114, 101, 109, 111, 118, 101], [114, 101, 112, 97, 105, 114], [99, 104, 101, 99, 107]]
def recWords (r : RecV) : List Bytes := [Lib.itoa r.time, kindWs.getD r.kind.toNat [], r.pack, verT r.vfrom, verT r.vto, Lib.itoa r.result, quoteB r.note]
def recText (r : RecV) : Bytes := joinP [32] (recWords r)
theorem quoteB_lenT (s : Bytes) : (quoteB s).length ≤ 4 * s.length + 2 := by
  have := quoteI_len s
  unfold quoteB
  simp only [List.length_cons, List.length_append, List.length_nil]
  omega
def verIn (v : VerV) : Prop := -9223372036854775808 ≤ v.major ∧ v.major ≤ 9223372036854775807 ∧ -9223372036854775808 ≤ v.minor ∧ v.minor ≤ 9223372036854775807 ∧ -9223372036854775808 ≤ v.patch ∧ v.patch ≤ 9223372036854775807
theorem outI_in {n lo hi : Int} (h : outI n lo hi = false) : lo ≤ n ∧ n ≤ hi := by
  unfold outI at h
  simp only [Bool.or_eq_false_iff, decide_eq_false_iff_not] at h
  omega
theorem verErr_in {v : VerV} (h : verErr v = 0) : (0 ≤ v.major ∧ v.major ≤ 999999) ∧ (0 ≤ v.minor ∧ v.minor ≤ 999999) ∧ (0 ≤ v.patch ∧ v.patch ≤ 999999) ∧ v.early.length ≤ 40 := by
  obtain ⟨h1, h2⟩ := verErr_ok h
  unfold verOut at h1
  simp only [Bool.or_eq_false_iff] at h1
  refine ⟨outI_in h1.1.1, outI_in h1.1.2, outI_in h1.2, ?_⟩
  rcases h2 with h2 | h2
  · rw [h2]; simp
  · exact (early_words h2).2
theorem verIn_of {v : VerV} (h : verErr v = 0) : verIn v := by
  obtain ⟨h1, h2, h3, -⟩ := verErr_in h
  unfold verIn
  omega
theorem verText_len {v : VerV} (h : verIn v) : (verText v).length ≤ 66 + v.early.length := by
  obtain ⟨a1, a2, a3, a4, a5, a6⟩ := h
  have l1 := Lib.itoa_length_le v.major a1 a2
  have l2 := Lib.itoa_length_le v.minor a3 a4
  have l3 := Lib.itoa_length_le v.patch a5 a6
  unfold verText
  split <;> simp only [List.length_append, List.length_cons, List.length_nil] <;> omega
noncomputable def sItoa := spF (fun n : Int => [AV.int .i64 n]) (fun n => -9223372036854775808 ≤ n ∧ n ≤ 9223372036854775807) fun n => .str (Lib.itoa n)
theorem sItoa_eq (n : Int) (h : -9223372036854775808 ≤ n ∧ n ≤ 9223372036854775807) : sItoa [.int .i64 n] = some (.str (Lib.itoa n)) := spF_eq (enc := fun n : Int => [AV.int .i64 n]) (fun a b e => by cases e; rfl) n h
noncomputable def sJoinS := spF (fun p : Bytes × Bytes × List Bytes × Tail => [AV.sl ((p.1 :: p.2.1 :: p.2.2.1).map encBs) p.2.2.2, .str [32]]) (fun p => p.2.2.1.length ≤ 1099511627770 ∧ (joinP [32] (p.1 :: p.2.1 :: p.2.2.1)).length ≤ 140737488355328) fun p => .str (joinP [32] (p.1 :: p.2.1 :: p.2.2.1))
theorem encBs_inj {a b : Bytes} (h : encBs a = encBs b) : a = b := by
  unfold encBs at h
  cases h; rfl
theorem sJoinS_eq (a b : Bytes) (l : List Bytes) (t : Tail) (h : l.length ≤ 1099511627770 ∧ (joinP [32] (a :: b :: l)).length ≤ 140737488355328) : sJoinS [.sl ((a :: b :: l).map encBs) t, .str [32]] = some (.str (joinP [32] (a :: b :: l))) := spF_eq (enc := fun p : Bytes × Bytes × List Bytes × Tail => [AV.sl ((p.1 :: p.2.1 :: p.2.2.1).map encBs) p.2.2.2, .str [32]]) (fun p q e => by
  simp only [List.cons.injEq, AV.sl.injEq, and_true] at e
  rw [map_inj (fun a b h => encBs_inj h) e.1]) (a, b, l, t) h
def sNoneV : List AV → Option AV := fun _ => none
theorem dynV_ok {P : Program} : ∀ xs v, sNoneV xs = some v → ∀ H, ACalls P 999999999 xs H fun x H' => x = v ∧ H' = H := fun xs v h => by cases h
theorem kindWords_calls (H : Heap) : ACalls Tryz.prog 75 [] H fun x H' => x = .sl (kindWs.map encBs) .exact ∧ H' = H := by
  refine ACalls.of_code (X := { pure := pu0 }) pu0_ok Tryz.func75 (by kernel_rfl) rfl (by kernel_rfl) (Nat.le_of_ble_eq_true rfl) ?_
  simp -implicitDefEqProofs only [go_sem, Tryz.f75]
  exact Done.now ⟨rfl, rfl⟩
theorem recordWords_calls (H : Heap) : ACalls Tryz.prog 83 [] H fun x H' => x = .sl (kindWs.map encBs) .exact ∧ H' = H := by
  refine ACalls.of_code (X := { pure := pu0 }) pu0_ok Tryz.func83 (by kernel_rfl) rfl (by kernel_rfl) (Nat.le_of_ble_eq_true rfl) ?_
  simp -implicitDefEqProofs only [go_sem, Tryz.f83]
  exact Done.now ⟨rfl, rfl⟩
def sKW : List AV → Option AV
  | [] => some (.sl (kindWs.map encBs) .exact)
  | _ => none
theorem sKW_eq : sKW [] = some (.sl (kindWs.map encBs) .exact) := rfl
theorem sKW_ok {P : Program} {f : FuncId} (h : ∀ H, ACalls P f [] H fun x H' => x = .sl (kindWs.map encBs) .exact ∧ H' = H) : Pur P f sKW := by
  intro xs v hv H
  unfold sKW at hv
  split at hv
  · cases hv; exact h H
  · cases hv
noncomputable def puT1 : Pures := putP 84 sQuo (putP 142 sQuo (putP 83 sKW (putP 75 sKW (putP 81 sJoinS (putP 82 sItoa puY2)))))
theorem puT1_dyn : isDyn puT1 = false := by simp only [puT1, go_sem, Nat.reduceEqDiff]
attribute [go_sem] puT1_dyn
theorem puT1_ok : PuOK Tryz.prog puT1 := .put (.put (.put (.put (.put (.put (puY2_ok) (spF_ok fun n H h => itoa_calls n h.1 h.2 H)) (spF_ok fun p H h => joinS_calls _ _ _ _ H h.1 h.2)) (sKW_ok kindWords_calls)) (sKW_ok recordWords_calls)) (spF_ok fun s H h => quote_calls s H h)) (spF_ok fun s H h => rQuote_calls s H h)
theorem verText_calls (v : VerV) (H : Heap) (hi : verIn v) (hr : verR v) : ACalls Tryz.prog 168 [.agg (encVer v)] H fun x H' => x = .str (verText v) ∧ H' = H := by
  have hS := Heap.Sub.rfl' H
  obtain ⟨a1, a2, a3, a4, a5, a6⟩ := hi
  have l1 := Lib.itoa_length_le v.major a1 a2
  have l2 := Lib.itoa_length_le v.minor a3 a4
  have l3 := Lib.itoa_length_le v.patch a5 a6
  have le : v.early.length ≤ 1099511627776 := hr
  have q1 := sItoa_eq v.major ⟨a1, a2⟩
  have q2 := sItoa_eq v.minor ⟨a3, a4⟩
  have q3 := sItoa_eq v.patch ⟨a5, a6⟩
  refine ACalls.of_code (X := { pure := puT1 }) puT1_ok Tryz.func168 (by kernel_rfl) rfl (by kernel_rfl) (Nat.le_of_ble_eq_true rfl) ?_
  simp -implicitDefEqProofs only [go_sem, Tryz.f168, encVer]
  with_reducible refine nwC_intro fun i1 hi1 => ?_
  generalize E1 : Heap.put H i1 _ = G1
  have hO_1 := obj_new E1 hi1 hS
  have n1 := hO_1.1
  have hS := hO_1.2.1
  have g1 := hO_1.2.2.1
  clear hO_1
  by_cases h : v.early = []
  · have y1 : decide (¬ v.early = []) = false := decide_eq_false (by simpa using h)
    simp -implicitDefEqProofs (disch := (first | omega | (simp only [List.length_append, List.length_cons, List.length_nil]; omega))) only [go_sem, binS_addD, Go.IntWalk.i64_in, g1, puT1, q1, q2, q3, y1]
    exact Done.drop hS ⟨by unfold verText; rw [if_pos h, List.append_nil], rfl⟩
  · have y1 : decide (¬ v.early = []) = true := decide_eq_true h
    simp -implicitDefEqProofs (disch := (first | omega | (simp only [List.length_append, List.length_cons, List.length_nil]; omega))) only [go_sem, binS_addD, Go.IntWalk.i64_in, g1, puT1, q1, q2, q3, y1]
    exact Done.drop hS ⟨by unfold verText; rw [if_neg h]; rfl, rfl⟩
theorem rVersionText_calls (v : VerV) (H : Heap) (hi : verIn v) (hr : verR v) : ACalls Tryz.prog 80 [.agg (encVer v)] H fun x H' => x = .str (verText v) ∧ H' = H := by
  have hS := Heap.Sub.rfl' H
  obtain ⟨a1, a2, a3, a4, a5, a6⟩ := hi
  have l1 := Lib.itoa_length_le v.major a1 a2
  have l2 := Lib.itoa_length_le v.minor a3 a4
  have l3 := Lib.itoa_length_le v.patch a5 a6
  have le : v.early.length ≤ 1099511627776 := hr
  have q1 := sItoa_eq v.major ⟨a1, a2⟩
  have q2 := sItoa_eq v.minor ⟨a3, a4⟩
  have q3 := sItoa_eq v.patch ⟨a5, a6⟩
  refine ACalls.of_code (X := { pure := puT1 }) puT1_ok Tryz.func80 (by kernel_rfl) rfl (by kernel_rfl) (Nat.le_of_ble_eq_true rfl) ?_
  simp -implicitDefEqProofs only [go_sem, Tryz.f80, encVer]
  with_reducible refine nwC_intro fun i1 hi1 => ?_
  generalize E1 : Heap.put H i1 _ = G1
  have hO_1 := obj_new E1 hi1 hS
  have n1 := hO_1.1
  have hS := hO_1.2.1
  have g1 := hO_1.2.2.1
  clear hO_1
  by_cases h : v.early = []
  · have y1 : decide (¬ v.early = []) = false := decide_eq_false (by simpa using h)
    simp -implicitDefEqProofs (disch := (first | omega | (simp only [List.length_append, List.length_cons, List.length_nil]; omega))) only [go_sem, binS_addD, Go.IntWalk.i64_in, g1, puT1, q1, q2, q3, y1]
    exact Done.drop hS ⟨by unfold verText; rw [if_pos h, List.append_nil], rfl⟩
  · have y1 : decide (¬ v.early = []) = true := decide_eq_true h
    simp -implicitDefEqProofs (disch := (first | omega | (simp only [List.length_append, List.length_cons, List.length_nil]; omega))) only [go_sem, binS_addD, Go.IntWalk.i64_in, g1, puT1, q1, q2, q3, y1]
    exact Done.drop hS ⟨by unfold verText; rw [if_neg h]; rfl, rfl⟩
theorem verPrint_calls (v : VerV) (H : Heap) (he : verErr v = 0) (hr : verR v) : ACalls Tryz.prog 108 [.agg (encVer v)] H fun x H' => x = .tup [.str (verText v), .int .i64 0] ∧ H' = H := by
  have hS := Heap.Sub.rfl' H
  have q1 := sVerC_eq v hr
  rw [he] at q1
  have k := fun G => verText_calls v G (verIn_of he) hr
  have z1 : decide (¬ (0 : Int) = 0) = false := rfl
  unfold encVer at q1 k
  refine ACalls.of_code (X := { pure := puT1 }) puT1_ok Tryz.func108 (by kernel_rfl) rfl (by kernel_rfl) (Nat.le_of_ble_eq_true rfl) ?_
  simp -implicitDefEqProofs only [go_sem, Tryz.f108, encVer]
  with_reducible refine nwC_intro fun i1 hi1 => ?_
  generalize E1 : Heap.put H i1 _ = G1
  have hO_1 := obj_new E1 hi1 hS
  have n1 := hO_1.1
  have hS := hO_1.2.1
  have g1 := hO_1.2.2.1
  clear hO_1
  simp -implicitDefEqProofs only [go_sem, g1, puT1, puY2, puY1, q1, z1]
  refine (k G1).pure_next _ ?_
  simp -implicitDefEqProofs only [go_sem]
  exact Done.drop hS ⟨rfl, rfl⟩
theorem versionText_calls (v : VerV) (H : Heap) (he : verErr v = 0) (hr : verR v) : ACalls Tryz.prog 141 [.agg (encVer v)] H fun x H' => x = .str (verT v) ∧ H' = H := by
  have hS := Heap.Sub.rfl' H
  have k := fun G => verPrint_calls v G he hr
  have bv : ∀ cx cy, bin Tryz.prog .eql 30 cx cy (.agg [.int .i64 v.major, .int .i64 v.minor, .int .i64 v.patch, .str v.early]) (.agg [.int .i64 0, .int .i64 0, .int .i64 0, .str []]) = some (.bool (decide (v = .zero))) := fun cx cy => verEq cx cy v .zero
  unfold encVer at k
  refine ACalls.of_code (X := { pure := puT1 }) puT1_ok Tryz.func141 (by kernel_rfl) rfl (by kernel_rfl) (Nat.le_of_ble_eq_true rfl) ?_
  simp -implicitDefEqProofs only [go_sem, Tryz.f141, encVer]
  with_reducible refine nwC_intro fun i1 hi1 => ?_
  generalize E1 : Heap.put H i1 _ = G1
  have hO_1 := obj_new E1 hi1 hS
  have n1 := hO_1.1
  have hS := hO_1.2.1
  have g1 := hO_1.2.2.1
  clear hO_1
  by_cases h : v = .zero
  · rw [decide_eq_true h] at bv
    simp -implicitDefEqProofs only [go_sem, g1, bv]
    exact Done.drop hS ⟨by unfold verT; rw [if_pos h], rfl⟩
  · rw [decide_eq_false h] at bv
    simp -implicitDefEqProofs only [go_sem, g1, bv]
    refine (k G1).pure_next _ ?_
    simp -implicitDefEqProofs only [go_sem]
    exact Done.drop hS ⟨by unfold verT; rw [if_neg h], rfl⟩
theorem rRecordText1_calls (v : VerV) (H : Heap) (he : verErr v = 0) (hr : verR v) : ACalls Tryz.prog 79 [.agg (encVer v)] H fun x H' => x = .str (verT v) ∧ H' = H := by
  have hS := Heap.Sub.rfl' H
  have k := fun G => rVersionText_calls v G (verIn_of he) hr
  have bv : ∀ cx cy, bin Tryz.prog .eql 30 cx cy (.agg [.int .i64 v.major, .int .i64 v.minor, .int .i64 v.patch, .str v.early]) (.agg [.int .i64 0, .int .i64 0, .int .i64 0, .str []]) = some (.bool (decide (v = .zero))) := fun cx cy => verEq cx cy v .zero
  unfold encVer at k
  refine ACalls.of_code (X := { pure := puT1 }) puT1_ok Tryz.func79 (by kernel_rfl) rfl (by kernel_rfl) (Nat.le_of_ble_eq_true rfl) ?_
  simp -implicitDefEqProofs only [go_sem, Tryz.f79, encVer]
  with_reducible refine nwC_intro fun i1 hi1 => ?_
  generalize E1 : Heap.put H i1 _ = G1
  have hO_1 := obj_new E1 hi1 hS
  have n1 := hO_1.1
  have hS := hO_1.2.1
  have g1 := hO_1.2.2.1
  clear hO_1
  by_cases h : v = .zero
  · rw [decide_eq_true h] at bv
    simp -implicitDefEqProofs only [go_sem, g1, bv]
    exact Done.drop hS ⟨by unfold verT; rw [if_pos h], rfl⟩
  · rw [decide_eq_false h] at bv
    simp -implicitDefEqProofs only [go_sem, g1, bv]
    refine (k G1).pure_next _ ?_
    simp -implicitDefEqProofs only [go_sem]
    exact Done.drop hS ⟨by unfold verT; rw [if_neg h], rfl⟩
noncomputable def sVerT := spF (fun v : VerV => [AV.agg (encVer v)]) (fun v => verErr v = 0 ∧ verR v) fun v => .str (verT v)
theorem sVerT_eq (v : VerV) (h : verErr v = 0 ∧ verR v) : sVerT [.agg (encVer v)] = some (.str (verT v)) := spF_eq (enc := fun v : VerV => [AV.agg (encVer v)]) (fun a b e => by
  simp only [List.cons.injEq, AV.agg.injEq, and_true] at e
  rw [encVer_inj e]) v h
noncomputable def puT2 : Pures := putP 999999999 sNoneV (putP 141 sVerT (putP 79 sVerT puT1))
theorem puT2_dyn : isDyn puT2 = true := by simp only [puT2, go_sem, Nat.reduceEqDiff]
attribute [go_sem] puT2_dyn
theorem puT2_ok : PuOK Tryz.prog puT2 := .put (.put (.put (puT1_ok) (spF_ok fun v H h => rRecordText1_calls v H h.1 h.2)) (spF_ok fun v H h => versionText_calls v H h.1 h.2)) dynV_ok
theorem verT_len {v : VerV} (h : verErr v = 0) : (verT v).length ≤ 106 := by
  unfold verT
  split
  · simp
  · have := verText_len (verIn_of h)
    have := (verErr_in h).2.2.2
    omega
structure RecOK (r : RecV) : Prop where
  time : 0 ≤ r.time ∧ r.time ≤ 1099511627776
  kind : 1 ≤ r.kind ∧ r.kind ≤ 6
  pack : nameB r.pack = true
  vf : verErr r.vfrom = 0
  vt : verErr r.vto = 0
  form : recForm r = false
  way : recWay r = false
  result : 0 ≤ r.result ∧ r.result ≤ 18
  note : valueB r.note = true
theorem recErr_ok {r : RecV} (h : recErr r = 0) : RecOK r := by
  unfold recErr at h
  split at h
  · cases h
  split at h
  · cases h
  split at h
  · cases h
  split at h
  · rename_i g; exact absurd h g
  split at h
  · rename_i g; exact absurd h g
  split at h
  · cases h
  split at h
  · cases h
  split at h
  · cases h
  split at h
  · cases h
  rename_i a1 a2 a3 a4 a5 a6 a7 a8 a9
  exact ⟨outI_in (by simpa using a1), outI_in (by simpa using a2), by simpa using a3, by simpa using a4, by simpa using a5, by simpa using a6, by simpa using a7, outI_in (by simpa using a8), by simpa using a9⟩
theorem nameB_lenV {s : Bytes} (h : nameB s = true) : s.length ≤ 40 := by
  unfold nameB sEach at h
  simp only [Bool.and_eq_true, decide_eq_true_eq] at h
  omega
theorem valueB_lenV {s : Bytes} (h : valueB s = true) : s.length ≤ 1000 := by
  unfold valueB sEach at h
  simp only [Bool.or_eq_true, Bool.and_eq_true, decide_eq_true_eq] at h
  rcases h with rfl | h
  · simp
  · omega
theorem recText_len {r : RecV} (h : RecOK r) : (recText r).length ≤ 5000 := by
  have l1 := Lib.itoa_length_le r.time (by have := h.time; omega) (by have := h.time; omega)
  have l2 := Lib.itoa_length_le r.result (by have := h.result; omega) (by have := h.result; omega)
  have l3 := nameB_lenV h.pack
  have l4 := verT_len h.vf
  have l5 := verT_len h.vt
  have l6 := quoteB_lenT r.note
  have l7 := valueB_lenV h.note
  have l8 : (kindWs.getD r.kind.toNat []).length ≤ 7 := by
    obtain ⟨k, hk⟩ : ∃ k : Nat, r.kind.toNat = k := ⟨_, rfl⟩
    rw [hk]
    have : k ≤ 6 := by have := h.kind; omega
    match k, this with
    | 0, _ => decide
    | 1, _ => decide
    | 2, _ => decide
    | 3, _ => decide
    | 4, _ => decide
    | 5, _ => decide
    | 6, _ => decide
  unfold recText recWords
  rw [joinP_len]
  simp only [List.length_cons, List.length_nil, List.flatten_cons, List.flatten_nil, List.length_append]
  omega
theorem kind_word {r : RecV} (h : RecOK r) : ∃ w, kindWs[r.kind.toNat]? = some w ∧ kindWs.getD r.kind.toNat [] = w := by
  have hl : r.kind.toNat < kindWs.length := by have := h.kind; simp [kindWs]; omega
  exact ⟨_, List.getElem?_eq_getElem hl, by simp [List.getD, hl]⟩
theorem recordText_calls (r : RecV) (H : Heap) (he : recErr r = 0) (hr : recR r) : ACalls Tryz.prog 68 [.agg (encRec r)] H fun x H' => x = .str (recText r) ∧ H' = H := by
  have hS := Heap.Sub.rfl' H
  have ho := recErr_ok he
  have hl := recText_len ho
  obtain ⟨w, hw, hwd⟩ := kind_word ho
  have q1 := sItoa_eq r.time (by have := ho.time; omega)
  have q2 := sItoa_eq r.result (by have := ho.result; omega)
  have q3 := sVerT_eq r.vfrom ⟨ho.vf, hr.2.1⟩
  have q4 := sVerT_eq r.vto ⟨ho.vt, hr.2.2.1⟩
  have q5 := sQuo_eq r.note hr.2.2.2
  have q6 := fun t => sJoinS_eq (Lib.itoa r.time) w [r.pack, verT r.vfrom, verT r.vto, Lib.itoa r.result, quoteB r.note] t ⟨by simp, by unfold recText recWords at hl; rw [hwd] at hl; omega⟩
  simp only [List.map_cons, List.map_nil, encBs] at q6
  have hv : recText r = joinP [32] [Lib.itoa r.time, w, r.pack, verT r.vfrom, verT r.vto, Lib.itoa r.result, quoteB r.note] := by unfold recText recWords; rw [hwd]
  have hk0 : (0 : Int) ≤ r.kind := by have := ho.kind; omega
  unfold encVer at q3 q4
  refine ACalls.of_code (X := { pure := puT2 }) puT2_ok Tryz.func68 (by kernel_rfl) rfl (by kernel_rfl) (Nat.le_of_ble_eq_true rfl) ?_
  simp -implicitDefEqProofs only [go_sem, Tryz.f68, encRec]
  with_reducible refine nwC_intro fun i1 hi1 => ?_
  generalize E1 : Heap.put H i1 _ = G1
  have hO_1 := obj_new E1 hi1 hS
  have n1 := hO_1.1
  have hS := hO_1.2.1
  have g1 := hO_1.2.2.1
  clear hO_1
  simp -implicitDefEqProofs only [go_sem, g1, puT2, puT1, sKW_eq, q1, q2, q3, q4, q5, q6, hw, hk0, encBs]
  exact Done.drop hS ⟨by rw [hv], rfl⟩
theorem rRecordText_calls (r : RecV) (H : Heap) (he : recErr r = 0) (hr : recR r) : ACalls Tryz.prog 21 [.agg (encRec r)] H fun x H' => x = .str (recText r) ∧ H' = H := by
  have hS := Heap.Sub.rfl' H
  have ho := recErr_ok he
  have hl := recText_len ho
  obtain ⟨w, hw, hwd⟩ := kind_word ho
  have q1 := sItoa_eq r.time (by have := ho.time; omega)
  have q2 := sItoa_eq r.result (by have := ho.result; omega)
  have q3 := sVerT_eq r.vfrom ⟨ho.vf, hr.2.1⟩
  have q4 := sVerT_eq r.vto ⟨ho.vt, hr.2.2.1⟩
  have q5 := sQuo_eq r.note hr.2.2.2
  have q6 := fun t => sJoinS_eq (Lib.itoa r.time) w [r.pack, verT r.vfrom, verT r.vto, Lib.itoa r.result, quoteB r.note] t ⟨by simp, by unfold recText recWords at hl; rw [hwd] at hl; omega⟩
  simp only [List.map_cons, List.map_nil, encBs] at q6
  have hv : recText r = joinP [32] [Lib.itoa r.time, w, r.pack, verT r.vfrom, verT r.vto, Lib.itoa r.result, quoteB r.note] := by unfold recText recWords; rw [hwd]
  have hk0 : (0 : Int) ≤ r.kind := by have := ho.kind; omega
  unfold encVer at q3 q4
  refine ACalls.of_code (X := { pure := puT2 }) puT2_ok Tryz.func21 (by kernel_rfl) rfl (by kernel_rfl) (Nat.le_of_ble_eq_true rfl) ?_
  simp -implicitDefEqProofs only [go_sem, Tryz.f21, encRec]
  with_reducible refine nwC_intro fun i1 hi1 => ?_
  generalize E1 : Heap.put H i1 _ = G1
  have hO_1 := obj_new E1 hi1 hS
  have n1 := hO_1.1
  have hS := hO_1.2.1
  have g1 := hO_1.2.2.1
  clear hO_1
  simp -implicitDefEqProofs only [go_sem, g1, puT2, puT1, sKW_eq, q1, q2, q3, q4, q5, q6, hw, hk0, encBs]
  exact Done.drop hS ⟨by rw [hv], rfl⟩
end Go.Proofs

/- Things of a machine, changes, items, what is held: plain Lean, no program. -/
namespace Go.Proofs
open Go Go.Abs
set_option linter.unusedSimpArgs false
set_option linter.unusedVariables false
structure FileV where
  path : Bytes
  data : Bytes
  runs : Bool
  deriving DecidableEq
structure SetV where
  key : Bytes
  value : Bytes
  deriving DecidableEq
structure SvcV where
  name : Bytes
  path : Bytes
  auto : Bool
  on : Bool
  deriving DecidableEq
/-- A change; an item. -/
structure ChgV where
  kind : Int
  file : FileV
  set : SetV
  svc : SvcV
  deriving DecidableEq
def FileV.zero : FileV := ⟨[], [], false⟩
def SetV.zero : SetV := ⟨[], []⟩
def SvcV.zero : SvcV := ⟨[], [], false, false⟩
/-- The sizes that may be. -/
def roomy (s : Bytes) : Prop := s.length ≤ 1099511627776
instance (s : Bytes) : Decidable (roomy s) := inferInstanceAs (Decidable (_ ≤ _))
def fileR (f : FileV) : Prop := f.path.length ≤ 1099511627776 ∧ f.data.length ≤ 1099511627776
def setR (f : SetV) : Prop := f.key.length ≤ 1099511627776 ∧ f.value.length ≤ 1099511627776
def svcR (f : SvcV) : Prop := f.name.length ≤ 1099511627776 ∧ f.path.length ≤ 1099511627776
def chgR (c : ChgV) : Prop := fileR c.file ∧ setR c.set ∧ svcR c.svc
instance (f : FileV) : Decidable (fileR f) := inferInstanceAs (Decidable (_ ∧ _))
instance (f : SetV) : Decidable (setR f) := inferInstanceAs (Decidable (_ ∧ _))
instance (f : SvcV) : Decidable (svcR f) := inferInstanceAs (Decidable (_ ∧ _))
instance (f : ChgV) : Decidable (chgR f) := inferInstanceAs (Decidable (_ ∧ _ ∧ _))
end Go.Proofs

/- What is held: plain Lean, no program. -/
namespace Go.Proofs
open Go Go.Abs
set_option linter.unusedSimpArgs false
set_option linter.unusedVariables false
structure HeldV where
  owner : Bytes
  kind : Int
  path : Bytes
  sum : Bytes
  base : Bytes
  deriving DecidableEq
def encHeld (h : HeldV) : List AV := [.str h.owner, .int .i64 h.kind, .str h.path, .str h.sum, .str h.base]
/-- The sizes that may be. -/
def heldR (h : HeldV) : Prop := h.owner.length ≤ 1048576 ∧ h.path.length ≤ 1048576 ∧ h.sum.length ≤ 1048576 ∧ h.base.length ≤ 1048576
instance (h : HeldV) : Decidable (heldR h) := inferInstanceAs (Decidable (_ ∧ _))
def thing (k : Int) : Int := if k = 5 then 1 else if k = 6 then 2 else 0
def named (h : HeldV) : Bool := if h.kind = 6 then nameB h.path else pathB h.path
instance : Inhabited HeldV := ⟨⟨[], 0, [], [], []⟩⟩
def sameP (a b : HeldV) : Bool := decide (thing a.kind = thing b.kind) && decide (a.path = b.path)
def keyH (d : Int) (h : HeldV) : Key := .t [.i (thing h.kind + d), .s h.path]
theorem keyH_eq (d : Int) (a b : HeldV) : keyH d a = keyH d b ↔ sameP a b = true := by
  simp [keyH, sameP]
/-- What a map of the last things at their places holds. -/
def MapOK (d : Int) (es : List (Key × AV)) (seen : List HeldV) : Prop := ∀ h, mget es (keyH d h) = (seen.find? (sameP h)).map fun x => .agg (encHeld x)
theorem mget_mset (es : List (Key × AV)) (k k' : Key) (v : AV) : mget (mset es k v) k' = if k = k' then some v else mget es k' := by
  induction es with
  | nil => simp only [mset, mget, List.find?_cons, List.find?_nil]; by_cases h : k = k' <;> simp [h]
  | cons e es ih =>
    unfold mget at ih ⊢
    simp only [mset]
    by_cases he : e.1 = k
    · rw [if_pos he]
      simp only [List.find?_cons]
      by_cases h : k = k'
      · simp [h]
      · have : ¬ e.1 = k' := by rw [he]; exact h
        simp [h, this]
    · rw [if_neg he]
      simp only [List.find?_cons]
      by_cases h : e.1 = k'
      · have : ¬ k = k' := fun e' => he (h.trans e'.symm)
        simp [h, this]
      · simp only [h, decide_false]
        exact ih
theorem MapOK.nil (d : Int) : MapOK d [] [] := fun h => rfl
theorem sameP_comm (a b : HeldV) : sameP a b = sameP b a := by
  unfold sameP
  rw [Bool.eq_iff_iff]
  simp only [Bool.and_eq_true, decide_eq_true_eq]
  constructor <;> rintro ⟨h1, h2⟩ <;> exact ⟨h1.symm, h2.symm⟩
theorem MapOK.set {d : Int} {es : List (Key × AV)} {seen : List HeldV} (h : MapOK d es seen) (x : HeldV) : MapOK d (mset es (keyH d x) (.agg (encHeld x))) (x :: seen) := fun y => by
  rw [mget_mset, List.find?_cons]
  by_cases hs : sameP y x = true
  · rw [if_pos ((keyH_eq d x y).2 (by rw [sameP_comm]; exact hs)), hs]; rfl
  · rw [if_neg (fun e => hs (by rw [sameP_comm]; exact (keyH_eq d x y).1 e))]
    have : sameP y x = false := by simpa using hs
    rw [this]; exact h y
end Go.Proofs

/- Machines: plain Lean, no program. -/
namespace Go.Proofs
open Go Go.Abs
set_option linter.unusedSimpArgs false
set_option linter.unusedVariables false
structure MacV where
  facts : List SetV
  files : List FileV
  sets : List SetV
  svcs : List SvcV
  deriving DecidableEq
def MacV.zero : MacV := ⟨[], [], [], []⟩
/-- What the map of the paths holds. -/
def SeenOK (es : List (Key × AV)) (seen : List Bytes) : Prop := ∀ d, mget es (.s d) = if seen.contains d then some (.bool true) else none
theorem SeenOK.nil : SeenOK [] [] := fun d => rfl
theorem SeenOK.set {es : List (Key × AV)} {seen : List Bytes} (h : SeenOK es seen) (p : Bytes) : SeenOK (mset es (.s p) (.bool true)) (p :: seen) := fun d => by
  rw [mget_mset, List.contains_cons]
  by_cases e : p = d
  · subst e
    rw [if_pos rfl]
    simp
  · have e1 : ¬ Key.s p = Key.s d := fun h => e (by cases h; rfl)
    have e2 : (d == p) = false := by simpa using fun h => e h.symm
    rw [if_neg e1, e2, Bool.false_or]
    exact h d
theorem SeenOK.get {es : List (Key × AV)} {seen : List Bytes} (h : SeenOK es seen) (d : Bytes) : (mget es (.s d)).getD (.bool false) = .bool (seen.contains d) := by
  rw [h]
  split
  · rename_i e; rw [e]; rfl
  · rename_i e
    have : seen.contains d = false := by simpa using e
    rw [this]; rfl
end Go.Proofs

/- Lines of things: plain Lean, no program. -/
namespace Go.Proofs
open Go Go.Abs
set_option linter.unusedSimpArgs false
set_option linter.unusedVariables false
def cutB (c : UInt8) : Bytes → Option (Bytes × Bytes)
  | [] => none
  | b :: l => if b = c then some ([], l) else (cutB c l).map fun p => (b :: p.1, p.2)
theorem cutB_none {c : UInt8} : ∀ {l : Bytes}, Lib.indexByte l c = -1 → cutB c l = none ∧ splitB c l = [l]
  | [], h => ⟨rfl, rfl⟩
  | b :: l, h => by
    have hge := Lib.indexByte_ge l c
    unfold Lib.indexByte at h
    by_cases hb : (b == c) = true
    · rw [if_pos hb] at h; omega
    · rw [if_neg hb] at h
      have h2 : Lib.indexByte l c = -1 := by
        by_cases h2 : Lib.indexByte l c = -1
        · exact h2
        · have : (Lib.indexByte l c == -1) = false := by simpa using h2
          rw [this] at h
          simp only [Bool.false_eq_true, if_false] at h
          omega
      obtain ⟨i1, i2⟩ := cutB_none h2
      have hb' : ¬ b = c := by simpa using hb
      refine ⟨by rw [cutB, if_neg hb', i1]; rfl, by rw [splitB, if_neg hb', i2]⟩
theorem cutB_some {c : UInt8} : ∀ {l : Bytes} {m : Nat}, Lib.indexByte l c = (m : Int) → cutB c l = some (l.take m, l.drop (m + 1))
  | [], m, h => by simp [Lib.indexByte] at h
  | b :: l, m, h => by
    have hge := Lib.indexByte_ge l c
    unfold Lib.indexByte at h
    by_cases hb : (b == c) = true
    · rw [if_pos hb] at h
      obtain rfl : m = 0 := by omega
      have hb' : b = c := by simpa using hb
      rw [cutB, if_pos hb']; rfl
    · rw [if_neg hb] at h
      have hb' : ¬ b = c := by simpa using hb
      by_cases h2 : Lib.indexByte l c = -1
      · rw [h2] at h; simp at h
      · have e : (Lib.indexByte l c == -1) = false := by simpa using h2
        rw [e] at h
        simp only [Bool.false_eq_true, if_false] at h
        obtain ⟨k, rfl⟩ : ∃ k, m = k + 1 := ⟨m - 1, by omega⟩
        rw [cutB, if_neg hb', cutB_some (m := k) (by omega)]
        rfl
theorem cutB_split {c : UInt8} {l : Bytes} : (∀ p, cutB c l = some p → splitB c l = p.1 :: splitB c p.2) ∧ (cutB c l = none → splitB c l = [l]) := by
  by_cases h : Lib.indexByte l c = -1
  · obtain ⟨h1, h2⟩ := cutB_none h
    exact ⟨fun p hp => (by rw [h1] at hp; cases hp), fun _ => h2⟩
  · have hge := Lib.indexByte_ge l c
    obtain ⟨m, hm⟩ : ∃ m : Nat, Lib.indexByte l c = m := ⟨(Lib.indexByte l c).toNat, by omega⟩
    have h1 := cutB_some hm
    exact ⟨fun p hp => (by rw [h1] at hp; cases hp; exact (indexByte_some hm).2.1), fun hn => (by rw [h1] at hn; cases hn)⟩
theorem cutB_len {c : UInt8} {l : Bytes} {p : Bytes × Bytes} (h : cutB c l = some p) : p.1.length + p.2.length + 1 = l.length ∧ l = p.1 ++ c :: p.2 := by
  induction l generalizing p with
  | nil => cases h
  | cons b l ih =>
    rw [cutB] at h
    split at h
    · rename_i hb; subst hb; cases h; exact ⟨by simp, rfl⟩
    · obtain ⟨q, hq, rfl⟩ := Option.map_eq_some_iff.1 h
      obtain ⟨h1, h2⟩ := ih hq
      refine ⟨by simp only [List.length_cons]; omega, ?_⟩
      simp only [List.cons_append]
      rw [← h2]
def cutT (c : UInt8) (s : Bytes) : Bytes × Bytes × Bool := match cutB c s with
  | some p => (p.1, p.2, true)
  | none => (s, [], false)
theorem cutT_len (c : UInt8) (s : Bytes) : (cutT c s).1.length ≤ s.length ∧ (cutT c s).2.1.length ≤ s.length := by
  unfold cutT
  split
  · rename_i p hp
    have := (cutB_len hp).1
    simp only
    omega
  · simp
/-! ### Lines -/
structure LineV where
  word : Bytes
  file : FileV
  set : SetV
  svc : SvcV
  deriving DecidableEq
def LineV.zero : LineV := ⟨[], .zero, .zero, .zero⟩
end Go.Proofs

/- Walks: strings.Cut. -/
namespace Go.Proofs
open Go Go.Abs
set_option linter.unusedSimpArgs false
set_option linter.unusedVariables false
set_option maxRecDepth 20000
def cutA (c : UInt8) (s : Bytes) : AV := .tup [.str (cutT c s).1, .str (cutT c s).2.1, .bool (cutT c s).2.2]
theorem cutL_calls (s : Bytes) (c : UInt8) (H : Heap) (hs : s.length ≤ 1099511627776) : ACalls Tryz.prog 160 [.str s, .str [c]] H fun x H' => x = cutA c s ∧ H' = H := by
  by_cases h : Lib.indexByte s c = -1
  · have y : decide ((0 : Int) ≤ -1) = false := rfl
    have hv : cutA c s = .tup [.str s, .str [], .bool false] := by unfold cutA cutT; rw [(cutB_none h).1]
    rw [hv]
    refine ACalls.of_code (X := { pure := puK3 }) puK3_ok Tryz.func160 (by kernel_rfl) rfl (by kernel_rfl) (Nat.le_of_ble_eq_true rfl) ?_
    simp -implicitDefEqProofs only [go_sem, Tryz.f160, puK3, puK2, puK1, sIdxL_eq, h, y]
    exact Done.now ⟨rfl, rfl⟩
  · have hge := Lib.indexByte_ge s c
    obtain ⟨m, hm⟩ : ∃ m : Nat, Lib.indexByte s c = m := ⟨(Lib.indexByte s c).toNat, by omega⟩
    have hl := (indexByte_some hm).1
    have y : decide ((0 : Int) ≤ (m : Int)) = true := decide_eq_true (by omega)
    have hv : cutA c s = .tup [.str (s.take m), .str (s.drop (m + 1)), .bool true] := by unfold cutA cutT; rw [cutB_some hm]
    have w : IntKind.i64.wrap ((m : Int) + 1) = ((m + 1 : Nat) : Int) := by rw [Go.IntWalk.i64_in _ (by omega)]; omega
    rw [hv]
    refine ACalls.of_code (X := { pure := puK3 }) puK3_ok Tryz.func160 (by kernel_rfl) rfl (by kernel_rfl) (Nat.le_of_ble_eq_true rfl) ?_
    simp -implicitDefEqProofs only [go_sem, Tryz.f160, puK3, puK2, puK1, sIdxL_eq, hm, y, Int.toNat_natCast, w, List.take_length]
    refine ⟨by omega, by omega, ?_⟩
    exact Done.now ⟨rfl, rfl⟩
noncomputable def sCut := spF (fun p : Bytes × UInt8 => [AV.str p.1, AV.str [p.2]]) (fun p => p.1.length ≤ 1099511627776) (fun p => cutA p.2 p.1)
theorem sCut_eq (s : Bytes) (c : UInt8) (h : s.length ≤ 1099511627776) : sCut [.str s, .str [c]] = some (.tup [.str (cutT c s).1, .str (cutT c s).2.1, .bool (cutT c s).2.2]) := spF_eq (fun a b e => by obtain ⟨a1, a2⟩ := a; obtain ⟨b1, b2⟩ := b; cases e; rfl) (s, c) h
noncomputable def puM1 : Pures := putP 160 sCut pu0
theorem puM1_dyn : isDyn puM1 = false := by simp only [puM1, go_sem, Nat.reduceEqDiff]
attribute [go_sem] puM1_dyn
theorem puM1_ok : PuOK Tryz.prog puM1 := .put (pu0_ok) (spF_ok fun p H h => cutL_calls p.1 p.2 H h)
theorem cut_calls (s : Bytes) (c : UInt8) (H : Heap) (hs : s.length ≤ 1099511627776) : ACalls Tryz.prog 97 [.str s, .str [c]] H fun x H' => x = cutA c s ∧ H' = H := by
  have q := sCut_eq s c hs
  refine ACalls.of_code (X := { pure := puM1 }) puM1_ok Tryz.func97 (by kernel_rfl) rfl (by kernel_rfl) (Nat.le_of_ble_eq_true rfl) ?_
  simp -implicitDefEqProofs only [go_sem, Tryz.f97, puM1, q]
  exact Done.now ⟨rfl, rfl⟩
end Go.Proofs

/- Numbers and versions read, on the program's side. -/
namespace Go.Proofs
open Go Go.Abs
set_option linter.unusedSimpArgs false
set_option linter.unusedVariables false
set_option maxRecDepth 20000
def numOK (most : Nat) (s : Bytes) : Bool := decide (s ≠ []) && decide (s.length ≤ most) && allB isDg s && !(decide (s.head? = some 48) && decide (s ≠ [48]))
def numA (most : Nat) (s : Bytes) : AV := if numOK most s = true then .tup [.int .i64 (decV s : Int), .bool true] else .tup [.int .i64 0, .bool false]
theorem numOK_ok {most : Nat} {s : Bytes} (h : numOK most s = true) : s ≠ [] ∧ s.length ≤ most ∧ allB isDg s = true ∧ (s.head? = some 48 → s = [48]) := by
  unfold numOK at h
  simp only [Bool.and_eq_true, decide_eq_true_eq, Bool.not_eq_true', Bool.and_eq_false_iff, decide_eq_false_iff_not] at h
  refine ⟨h.1.1.1, h.1.1.2, h.1.2, fun e => ?_⟩
  rcases h.2 with h2 | h2
  · exact absurd e h2
  · exact Decidable.not_not.1 h2
theorem atoiA_num {most : Nat} {s : Bytes} (h : numOK most s = true) (hm : most ≤ 18) : atoiA s = .tup [.int .i64 (decV s : Int), .nilIface] := by
  obtain ⟨h1, h2, h3, -⟩ := numOK_ok h
  obtain ⟨n, e, he, hn⟩ := atoiA_tup s
  obtain ⟨rfl, rfl⟩ := hn h3 h1 (by omega)
  exact he
theorem verNumber_calls (s : Bytes) (H : Heap) (hs : s.length ≤ 1099511627776) : ACalls Tryz.prog 187 [.str s] H fun x H' => x = numA 9 s ∧ H' = H := by
  have hs' : s.length ≤ Room := hs
  have hv := numA.eq_1 9 s
  have ha := sAtoi_eq s hs
  have hE : sEach isDg s 9 = (decide (s ≠ []) && decide (s.length ≤ 9) && allB isDg s) := by
    unfold sEach
    have : decide ((s.length : Int) ≤ 9) = decide (s.length ≤ 9) := by rw [decide_eq_decide]; omega
    rw [this]
    cases allB isDg s <;> cases decide (s ≠ []) <;> cases decide (s.length ≤ 9) <;> rfl
  have hN := numOK.eq_1 9 s
  rw [← hE] at hN
  cases e1 : sEach isDg s 9 with
  | false =>
    rw [e1, Bool.false_and] at hN
    rw [if_neg (by simp [hN])] at hv
    refine ACalls.of_code (X := { pure := puT2 }) puT2_ok Tryz.func187 (by kernel_rfl) rfl (by kernel_rfl) (Nat.le_of_ble_eq_true rfl) ?_
    simp -implicitDefEqProofs only [go_sem, Tryz.f187, puT2, puT1, puY2, puY1, puX3, puX2, puX1, puW7, puW6, puW5, puW4, puW3, puW2, puW1, puV1, sEachW_eq, hs', e1, Bool.not_false]
    exact Done.now ⟨by rw [hv], rfl⟩
  | true =>
    rw [e1, Bool.true_and] at hN
    cases s with
    | nil => simp [sEach] at e1
    | cons b l =>
    have hs'' : l.length + 1 ≤ Room := by simpa using hs'
    have fin : numOK 9 (b :: l) = true → decide ((b.toNat : Int) = 48) = false ∨ decide (¬ (b :: l) = [48]) = false → ACalls Tryz.prog 187 [.str (b :: l)] H fun x H' => x = numA 9 (b :: l) ∧ H' = H := fun h hc => by
      rw [if_pos h] at hv
      rw [atoiA_num h (by omega)] at ha
      rcases hc with hc | hc
      · refine ACalls.of_code (X := { pure := puT2 }) puT2_ok Tryz.func187 (by kernel_rfl) rfl (by kernel_rfl) (Nat.le_of_ble_eq_true rfl) ?_
        simp -implicitDefEqProofs only [go_sem, Tryz.f187, puT2, puT1, puY2, puY1, puX3, puX2, puX1, puW7, puW6, puW5, puW4, puW3, puW2, puW1, puV1, sEachW_eq, hs', hs'', e1, Bool.not_true, hc, ha, Int.toNat_zero, Int.le_refl]
        exact Done.now ⟨by rw [hv], rfl⟩
      · cases h48 : decide ((b.toNat : Int) = 48) with
        | false =>
          refine ACalls.of_code (X := { pure := puT2 }) puT2_ok Tryz.func187 (by kernel_rfl) rfl (by kernel_rfl) (Nat.le_of_ble_eq_true rfl) ?_
          simp -implicitDefEqProofs only [go_sem, Tryz.f187, puT2, puT1, puY2, puY1, puX3, puX2, puX1, puW7, puW6, puW5, puW4, puW3, puW2, puW1, puV1, sEachW_eq, hs', hs'', e1, Bool.not_true, h48, ha, Int.toNat_zero, Int.le_refl]
          exact Done.now ⟨by rw [hv], rfl⟩
        | true =>
          refine ACalls.of_code (X := { pure := puT2 }) puT2_ok Tryz.func187 (by kernel_rfl) rfl (by kernel_rfl) (Nat.le_of_ble_eq_true rfl) ?_
          simp -implicitDefEqProofs only [go_sem, Tryz.f187, puT2, puT1, puY2, puY1, puX3, puX2, puX1, puW7, puW6, puW5, puW4, puW3, puW2, puW1, puV1, sEachW_eq, hs', hs'', e1, Bool.not_true, h48, hc, ha, Int.toNat_zero, Int.le_refl]
          exact Done.now ⟨by rw [hv], rfl⟩
    by_cases c7 : b = 48
    · have z4 : decide ((b.toNat : Int) = 48) = true := decide_eq_true (by rw [c7]; rfl)
      rw [decide_eq_true (show (b :: l).head? = some 48 by simp [c7]), Bool.true_and] at hN
      by_cases c8 : (b :: l) = [48]
      · rw [decide_eq_false (show ¬ (b :: l) ≠ [48] from fun h => h c8)] at hN
        exact fin hN (.inr (decide_eq_false fun h => h c8))
      · have z5 : decide (¬ (b :: l) = [48]) = true := decide_eq_true c8
        rw [decide_eq_true (show (b :: l) ≠ [48] from c8)] at hN
        rw [if_neg (by simp [hN])] at hv
        refine ACalls.of_code (X := { pure := puT2 }) puT2_ok Tryz.func187 (by kernel_rfl) rfl (by kernel_rfl) (Nat.le_of_ble_eq_true rfl) ?_
        simp -implicitDefEqProofs only [go_sem, Tryz.f187, puT2, puT1, puY2, puY1, puX3, puX2, puX1, puW7, puW6, puW5, puW4, puW3, puW2, puW1, puV1, sEachW_eq, hs', hs'', e1, Bool.not_true, z4, z5, Int.toNat_zero, Int.le_refl]
        exact Done.now ⟨by rw [hv], rfl⟩
    · rw [decide_eq_false (show ¬ (b :: l).head? = some 48 by simpa using c7), Bool.false_and] at hN
      exact fin hN (.inl (decide_eq_false fun e => c7 (UInt8.toNat_inj.1 (by rw [show (48 : UInt8).toNat = 48 from rfl]; omega))))
set_option maxHeartbeats 1600000 in
theorem logNumber_calls (s : Bytes) (H : Heap) (hs : s.length ≤ 1099511627776) : ACalls Tryz.prog 76 [.str s] H fun x H' => x = numA 18 s ∧ H' = H := by
  have hv := numA.eq_1 18 s
  have ha := sAtoi_eq s hs
  have hN := numOK.eq_1 18 s
  cases s with
  | nil =>
    rw [if_neg (by decide)] at hv
    refine ACalls.of_code (X := { pure := puT2 }) puT2_ok Tryz.func76 (by kernel_rfl) rfl (by kernel_rfl) (Nat.le_of_ble_eq_true rfl) ?_
    simp -implicitDefEqProofs only [go_sem, Tryz.f76]
    exact Done.now ⟨by rw [hv], rfl⟩
  | cons b l =>
  rw [decide_eq_true (show (b :: l) ≠ [] by simp), Bool.true_and] at hN
  have z1 : decide ((b :: l) = []) = false := rfl
  by_cases c1 : 18 < l.length + 1
  · have z2 : decide (18 < ((l.length + 1 : Nat) : Int)) = true := decide_eq_true (by omega)
    rw [decide_eq_false (show ¬ (b :: l).length ≤ 18 by simp; omega), Bool.false_and, Bool.false_and] at hN
    rw [if_neg (by simp [hN])] at hv
    refine ACalls.of_code (X := { pure := puT2 }) puT2_ok Tryz.func76 (by kernel_rfl) rfl (by kernel_rfl) (Nat.le_of_ble_eq_true rfl) ?_
    simp -implicitDefEqProofs only [go_sem, Tryz.f76, z1, z2]
    exact Done.now ⟨by rw [hv], rfl⟩
  have z2 : decide (18 < ((l.length + 1 : Nat) : Int)) = false := decide_eq_false (by omega)
  rw [decide_eq_true (show (b :: l).length ≤ 18 by simp; omega), Bool.true_and] at hN
  by_cases c2 : (b :: l).head? = some 48 ∧ (b :: l) ≠ [48]
  · have z3 : decide ((b.toNat : Int) = 48) = true := decide_eq_true (by have := c2.1; simp at this; rw [this]; rfl)
    have z4 : decide (¬ (b :: l) = [48]) = true := decide_eq_true c2.2
    rw [decide_eq_true c2.1, decide_eq_true c2.2, Bool.and_self, Bool.not_true, Bool.and_false] at hN
    rw [if_neg (by simp [hN])] at hv
    refine ACalls.of_code (X := { pure := puT2 }) puT2_ok Tryz.func76 (by kernel_rfl) rfl (by kernel_rfl) (Nat.le_of_ble_eq_true rfl) ?_
    simp -implicitDefEqProofs only [go_sem, Tryz.f76, z1, z2, z3, z4, Int.toNat_zero, Int.le_refl]
    exact Done.now ⟨by rw [hv], rfl⟩
  have hN2 : numOK 18 (b :: l) = allB isDg (b :: l) := by
    rw [hN]
    have : (decide ((b :: l).head? = some 48) && decide ((b :: l) ≠ [48])) = false := by
      rw [Bool.and_eq_false_iff, decide_eq_false_iff_not, decide_eq_false_iff_not]
      by_cases h : (b :: l).head? = some 48
      · exact .inr fun h2 => c2 ⟨h, h2⟩
      · exact .inl h
    rw [this]
    simp
  have hs2 : (b :: l).length = l.length + 1 := rfl
  clear hN
  have z3 : (decide ((b.toNat : Int) = 48) && decide (¬ (b :: l) = [48])) = false := by
    rw [Bool.and_eq_false_iff]
    by_cases h : b = 48
    · right
      exact decide_eq_false fun h2 => c2 ⟨by simp [h], h2⟩
    · left
      exact decide_eq_false fun e => h (UInt8.toNat_inj.1 (by rw [show (48 : UInt8).toNat = 48 from rfl]; omega))
  refine ACalls.of_code (X := { pure := puT2 }) puT2_ok Tryz.func76 (by kernel_rfl) rfl (by kernel_rfl) (Nat.le_of_ble_eq_true rfl) ?_
  simp +contextual -implicitDefEqProofs only [go_sem, gd_M, Tryz.f76, z1, z2, z3, Int.toNat_zero, Int.le_refl]
  generalize hsD : b :: l = s at *
  have hsl : s.length = l.length + 1 := by rw [← hsD]; rfl
  refine aloop_intro (σ := Nat) (fun i => [(0, .str s), (4, .int .i64 i)]) (fun i G => G = H ∧ i ≤ s.length ∧ allB isDg s = allB isDg (s.drop i)) (fun i => s.length - i) 0 ?_ ?_ ?_
  · simp -implicitDefEqProofs only [go_sem]
  · exact ⟨rfl, Nat.zero_le _, rfl⟩
  rintro i r G hw ⟨rfl, hi, hO⟩
  have h0 := hw.1
  have h4 := hw.2.1
  clear hw
  by_cases g : i < s.length
  rotate_left
  · have y0 : decide ((i : Int) < s.length) = false := decide_eq_false (by omega)
    obtain rfl : i = s.length := by omega
    rw [List.drop_length] at hO
    have hO : allB isDg s = true := hO
    rw [hO] at hN2
    rw [if_pos hN2] at hv
    rw [atoiA_num hN2 (by omega)] at ha
    simp -implicitDefEqProofs only [go_sem, h0, h4, y0, puT2, puT1, puY2, puY1, puX3, ha]
    exact Done.now ⟨by rw [hv], rfl⟩
  have y0 : decide ((i : Int) < s.length) = true := decide_eq_true (by omega)
  obtain ⟨c, hc⟩ : ∃ b, s[i]? = some b := getD_get' g
  have ws : IntKind.i64.wrap ((i : Int) + 1) = ((i + 1 : Nat) : Int) := by rw [Go.IntWalk.i64_in _ (by omega)]; omega
  rw [dropAt hc] at hO
  have hcons : allB isDg (c :: s.drop (i + 1)) = (isDg (c.toNat : Int) && allB isDg (s.drop (i + 1))) := rfl
  rw [hcons] at hO
  have hd : isDg (c.toNat : Int) = !(decide ((c.toNat : Int) < 48) || decide (57 < (c.toNat : Int))) := by
    unfold isDg
    rw [Bool.eq_iff_iff]
    simp only [Bool.not_eq_true', Bool.or_eq_false_iff, Bool.and_eq_true, decide_eq_true_eq, decide_eq_false_iff_not]
    omega
  cases e : (decide ((c.toNat : Int) < 48) || decide (57 < (c.toNat : Int))) with
  | false =>
    rw [hd, e, Bool.not_false, Bool.true_and] at hO
    simp +contextual -implicitDefEqProofs only [go_sem, gd_M, h0, h4, y0, hc, e, ws, Int.toNat_natCast, Int.natCast_nonneg]
    exact Again.mk (i + 1) (by simp -implicitDefEqProofs only [go_sem, h0, h4]) ⟨rfl, by omega, hO⟩ (by omega)
  | true =>
    rw [hd, e, Bool.not_true, Bool.false_and] at hO
    rw [hO] at hN2
    rw [if_neg (by simp [hN2])] at hv
    simp +contextual -implicitDefEqProofs only [go_sem, gd_M, h0, h4, y0, hc, e, Int.toNat_natCast, Int.natCast_nonneg]
    exact Done.now ⟨by rw [hv], rfl⟩
end Go.Proofs

/- Versions read, on the program's side. -/
namespace Go.Proofs
open Go Go.Abs
set_option linter.unusedSimpArgs false
set_option linter.unusedVariables false
set_option maxRecDepth 20000
def verOfP (x y z early : Bytes) : VerV := ⟨decV x, decV y, decV z, early⟩
def parseVer (s : Bytes) : VerV × Int :=
  match splitB 46 (cutT 45 s).1 with
  | [x, y, z] =>
    if (cutT 45 s).2.2 = true ∧ (cutT 45 s).2.1 = [] then (.zero, 8)
    else if (numOK 9 x && numOK 9 y && numOK 9 z) = true then
      (if verErr (verOfP x y z (cutT 45 s).2.1) = 0 then (verOfP x y z (cutT 45 s).2.1, 0) else (.zero, verErr (verOfP x y z (cutT 45 s).2.1)))
    else (.zero, 8)
  | _ => (.zero, 8)
def verA (p : VerV × Int) : AV := .tup [.agg (encVer p.1), .int .i64 p.2]
noncomputable def sNumV := spF (fun s : Bytes => [AV.str s]) (fun s => s.length ≤ 1099511627776) (numA 9)
theorem sNumV_eq (s : Bytes) (h : s.length ≤ 1099511627776) : sNumV [.str s] = some (numA 9 s) := spF_eq (enc := fun s : Bytes => [AV.str s]) (fun a b e => by cases e; rfl) s h
noncomputable def sNumL := spF (fun s : Bytes => [AV.str s]) (fun s => s.length ≤ 1099511627776) (numA 18)
theorem sNumL_eq (s : Bytes) (h : s.length ≤ 1099511627776) : sNumL [.str s] = some (numA 18 s) := spF_eq (enc := fun s : Bytes => [AV.str s]) (fun a b e => by cases e; rfl) s h
noncomputable def puP1 : Pures := putP 97 sCut (putP 76 sNumL (putP 187 sNumV puT1))
theorem puP1_dyn : isDyn puP1 = false := by simp only [puP1, go_sem, Nat.reduceEqDiff]
attribute [go_sem] puP1_dyn
theorem puP1_ok : PuOK Tryz.prog puP1 := .put (.put (.put (puT1_ok) (spF_ok fun s H h => verNumber_calls s H h)) (spF_ok fun s H h => logNumber_calls s H h)) (spF_ok fun p H h => cut_calls p.1 p.2 H h)
def vArr (x y z : Bytes) : Nat → List AV
  | 0 => [.int .i64 0, .int .i64 0, .int .i64 0]
  | 1 => [.int .i64 (decV x : Int), .int .i64 0, .int .i64 0]
  | 2 => [.int .i64 (decV x : Int), .int .i64 (decV y : Int), .int .i64 0]
  | _ => [.int .i64 (decV x : Int), .int .i64 (decV y : Int), .int .i64 (decV z : Int)]
def VpI (x y z : Bytes) (i : Nat) : Prop := i ≤ 3 ∧ (0 < i → numOK 9 x = true) ∧ (1 < i → numOK 9 y = true) ∧ (2 < i → numOK 9 z = true)
def VpQ (H : Heap) (i2 i8 : Nat) (x y z e : Bytes) (r : Regs) (G : Heap) : Prop := H.Sub G ∧ (numOK 9 x = true ∧ numOK 9 y = true ∧ numOK 9 z = true) ∧ G i2 = some (.cells [.int .i64 0, .int .i64 0, .int .i64 0, .str []]) ∧ G i8 = some (.cells [.int .i64 (decV x : Int), .int .i64 (decV y : Int), .int .i64 (decV z : Int)]) ∧ r 2 = .ptr i2 0 ∧ r 5 = .str e ∧ r 8 = .ptr i8 0
set_option maxHeartbeats 6400000 in
theorem verParse_calls (s : Bytes) (H : Heap) (hs : s.length ≤ 1099511627776) : ACalls Tryz.prog 148 [.str s] H fun x H' => x = verA (parseVer s) ∧ H' = H := by
  have hS := Heap.Sub.rfl' H
  have hv := parseVer.eq_1 s
  have q1 := sCut_eq s 45 hs
  have hl := cutT_len 45 s
  generalize hcc : cutT 45 s = cc at *
  obtain ⟨a, e, tl⟩ := cc
  simp only at hv q1 hl
  have q2 := sSplit_room a 46 (by show _ ≤ 1099511627776; omega)
  have hpl : ∀ w ∈ splitB 46 a, w.length ≤ 1099511627776 := fun w hw => by have := splitB_mem a w hw; omega
  have hlen : (splitB 46 a).length ≤ 1099511627777 := by rw [splitB_len]; have := List.count_le_length (a := (46 : UInt8)) (l := a); omega
  generalize hps : splitB 46 a = ps at *
  refine ACalls.of_code (X := { pure := puP1 }) puP1_ok Tryz.func148 (by kernel_rfl) rfl (by kernel_rfl) (Nat.le_of_ble_eq_true rfl) ?_
  simp -implicitDefEqProofs only [go_sem, Tryz.f148]
  with_reducible refine nwC_intro fun i2 hi2 => ?_
  generalize E2 : Heap.put H i2 _ = G1
  have hO_2 := obj_new E2 hi2 hS
  have n2 := hO_2.1
  have hS := hO_2.2.1
  have g2 := hO_2.2.2.1
  clear hO_2
  have fin : ∀ {G : Heap} {p : VerV × Int}, H.Sub G → parseVer s = p → Done Tryz.prog (fun x H' => x = verA (parseVer s) ∧ H' = H) (verA p) G := fun hG h => Done.drop hG ⟨by rw [h], rfl⟩
  unfold verA encVer at fin
  by_cases c1 : ps.length = 3
  rotate_left
  · have y1 : decide (¬ (ps.length : Int) = 3) = true := decide_eq_true (by omega)
    have hv2 : parseVer s = (.zero, 8) := by
      rw [hv]
      split
      · exact absurd rfl c1
      · rfl
    simp -implicitDefEqProofs only [go_sem, puP1, puT1, puY2, puY1, puX3, puX2, puX1, puW7, puW6, puW5, puW4, puW3, puW2, puW1, puV1, puK, q1, q2, y1, g2, put_same]
    exact fin (hS.put' n2 _) hv2
  have y1 : decide (¬ (ps.length : Int) = 3) = false := decide_eq_false (by omega)
  obtain ⟨x, y, z, rfl⟩ : ∃ x y z, ps = [x, y, z] := by
    match ps, c1 with
    | [x, y, z], _ => exact ⟨x, y, z, rfl⟩
  have y1 : decide (¬ (([x, y, z] : List Bytes).length : Int) = 3) = false := rfl
  have y1' : decide (¬ (3 : Int) = 3) = false := rfl
  simp only at hv
  by_cases c2 : tl = true ∧ e = []
  · rw [if_pos c2] at hv
    obtain ⟨rfl, rfl⟩ := c2
    simp -implicitDefEqProofs only [go_sem, puP1, puT1, puY2, puY1, puX3, puX2, puX1, puW7, puW6, puW5, puW4, puW3, puW2, puW1, puV1, puK, q1, q2, y1, y1', g2, put_same, List.map_cons, List.map_nil, List.length_cons, List.length_nil]
    exact fin (hS.put' n2 _) hv
  rw [if_neg c2] at hv
  have y2 : (tl && decide (e = [])) = false := by
    cases tl with
    | false => rfl
    | true => exact decide_eq_false fun h => c2 ⟨rfl, h⟩
  simp +contextual -implicitDefEqProofs only [go_sem, gd_M, puP1, puT1, puY2, puY1, puX3, puX2, puX1, puW7, puW6, puW5, puW4, puW3, puW2, puW1, puV1, puK, q1, q2, y1, y1', y2, g2, put_same, List.map_cons, List.map_nil, List.length_cons, List.length_nil]
  with_reducible refine nwC_intro fun i8 hi8 => ?_
  generalize E8 : Heap.put G1 i8 _ = G2
  have hO_8 := obj_new E8 hi8 hS
  have n8 := hO_8.1
  have hS := hO_8.2.1
  have g8 := hO_8.2.2.1
  have d2_8 := obj_ne g2 hi8
  have g2 := hO_8.2.2.2 _ _ g2
  clear hO_8
  have lx := hpl x (by simp)
  have ly := hpl y (by simp)
  have lz := hpl z (by simp)
  have qx := sNumV_eq x lx
  have qy := sNumV_eq y ly
  have qz := sNumV_eq z lz
  have hbad : (numOK 9 x && numOK 9 y && numOK 9 z) = false → parseVer s = (.zero, 8) := fun h => by rw [hv, if_neg (by simp [h])]
  simp -implicitDefEqProofs only [go_sem, List.length_cons, List.length_nil]
  with_reducible refine aloop_cut 0 (VpQ H i2 i8 x y z e) ?_ ?_
  rotate_left
  · refine aloop_intro (σ := Nat) (fun i => [(2, .ptr i2 0), (5, .str e), (8, .ptr i8 0), (34, .sl [encBs x, encBs y, encBs z] .unk), (35, .int .i64 3), (36, .int .i64 i)])
      (fun i G => (H.Sub G ∧ G i2 = some (.cells [.int .i64 0, .int .i64 0, .int .i64 0, .str []]) ∧ G i8 = some (.cells (vArr x y z i))) ∧ VpI x y z i) (fun i => 3 - i) 0 ?_ ?_ ?_
    · simp -implicitDefEqProofs only [go_sem]
    · exact ⟨⟨hS, g2, g8⟩, by omega, fun h => by omega, fun h => by omega, fun h => by omega⟩
    clear g2 g8 hS
    rintro i r G hw ⟨⟨hS, g2, g8⟩, hi, b0, b1, b2⟩
    have h2 := hw.1
    have h5 := hw.2.1
    have h8 := hw.2.2.1
    have h34 := hw.2.2.2.1
    have h35 := hw.2.2.2.2.1
    have h36 := hw.2.2.2.2.2.1
    clear hw
    have ws : IntKind.i64.wrap ((i : Int) + 1) = ((i + 1 : Nat) : Int) := by rw [Go.IntWalk.i64_in _ (by omega)]; omega
    have d82 : ¬ i8 = i2 := fun h => d2_8 h.symm
    obtain rfl | rfl | rfl | rfl : i = 0 ∨ i = 1 ∨ i = 2 ∨ i = 3 := by omega
    · simp only [vArr] at g8
      cases b : numOK 9 x with
      | false =>
        have hn := numA.eq_1 9 x
        rw [b, if_neg (by simp)] at hn
        rw [hn] at qx
        simp -implicitDefEqProofs only [go_sem, h2, h5, h8, h34, h35, h36, encBs, puP1, qx, g2, put_same, Bool.not_false, Int.toNat_zero, Int.le_refl, List.getElem?_cons_zero]
        exact fin (hS.put' n2 _) (hbad (by rw [b]; rfl))
      | true =>
        have hn := numA.eq_1 9 x
        rw [b, if_pos rfl] at hn
        rw [hn] at qx
        simp -implicitDefEqProofs only [go_sem, h2, h5, h8, h34, h35, h36, encBs, puP1, qx, g2, g8, put_same, Bool.not_true, Int.toNat_zero, Int.le_refl, ws]
        exact Again.mk 1 (by simp -implicitDefEqProofs only [go_sem, h2, h5, h8, h34, h35, encBs]; exact rfl) ⟨⟨hS.put' n8 _, by rw [put_ne _ _ _ _ d2_8]; exact g2, put_same _ _ _⟩, by omega, fun _ => b, fun h => by omega, fun h => by omega⟩ (by omega)
    · have b0 := b0 (by omega)
      simp only [vArr] at g8
      cases b : numOK 9 y with
      | false =>
        have hn := numA.eq_1 9 y
        rw [b, if_neg (by simp)] at hn
        rw [hn] at qy
        simp -implicitDefEqProofs only [go_sem, h2, h5, h8, h34, h35, h36, encBs, puP1, qy, g2, put_same, Bool.not_false, Int.toNat_one, Int.le_refl]
        exact fin (hS.put' n2 _) (hbad (by rw [b0, b]; rfl))
      | true =>
        have hn := numA.eq_1 9 y
        rw [b, if_pos rfl] at hn
        rw [hn] at qy
        simp -implicitDefEqProofs only [go_sem, h2, h5, h8, h34, h35, h36, encBs, puP1, qy, g2, g8, put_same, Bool.not_true, Int.toNat_one, Int.le_refl, ws]
        exact Again.mk 2 (by simp -implicitDefEqProofs only [go_sem, h2, h5, h8, h34, h35, encBs]; exact rfl) ⟨⟨hS.put' n8 _, by rw [put_ne _ _ _ _ d2_8]; exact g2, put_same _ _ _⟩, by omega, fun _ => b0, fun _ => b, fun h => by omega⟩ (by omega)
    · have b0 := b0 (by omega)
      have b1 := b1 (by omega)
      simp only [vArr] at g8
      cases b : numOK 9 z with
      | false =>
        have hn := numA.eq_1 9 z
        rw [b, if_neg (by simp)] at hn
        rw [hn] at qz
        simp -implicitDefEqProofs only [go_sem, h2, h5, h8, h34, h35, h36, encBs, puP1, qz, g2, put_same, Bool.not_false, Int.le_refl]
        exact fin (hS.put' n2 _) (hbad (by rw [b0, b1, b]; rfl))
      | true =>
        have hn := numA.eq_1 9 z
        rw [b, if_pos rfl] at hn
        rw [hn] at qz
        simp -implicitDefEqProofs only [go_sem, h2, h5, h8, h34, h35, h36, encBs, puP1, qz, g2, g8, put_same, Bool.not_true, Int.le_refl, ws]
        exact Again.mk 3 (by simp -implicitDefEqProofs only [go_sem, h2, h5, h8, h34, h35, encBs]; exact rfl) ⟨⟨hS.put' n8 _, by rw [put_ne _ _ _ _ d2_8]; exact g2, put_same _ _ _⟩, by omega, fun _ => b0, fun _ => b1, fun _ => b⟩ (by omega)
    · simp only [vArr] at g8
      simp -implicitDefEqProofs only [go_sem, h2, h5, h8, h34, h35, h36]
      exact ⟨hS, ⟨b0 (by omega), b1 (by omega), b2 (by omega)⟩, g2, g8, by simp -implicitDefEqProofs only [go_sem, h2], by simp -implicitDefEqProofs only [go_sem, h5], by simp -implicitDefEqProofs only [go_sem, h8]⟩
  clear g2 g8 hS
  rintro r G ⟨hS, ⟨b0, b1, b2⟩, g2, g8, h2, h5, h8⟩
  rw [if_pos (by rw [b0, b1, b2]; rfl)] at hv
  have q3 := sVerC_eq (verOfP x y z e) (by unfold verR verOfP; simp only; omega)
  unfold encVer verOfP at q3
  simp -implicitDefEqProofs only [go_sem, h2, h5, h8, g8, Int.toNat_zero, Int.le_refl, Int.toNat_one]
  with_reducible refine nwC_intro fun i13 hi13 => ?_
  simp -implicitDefEqProofs only [go_sem]
  generalize E13 : Heap.put G i13 _ = G3
  have hO_13 := obj_new E13 hi13 hS
  have n13 := hO_13.1
  have hS := hO_13.2.1
  have g13 := hO_13.2.2.1
  have d2_13 := obj_ne g2 hi13
  have g2 := hO_13.2.2.2 _ _ g2
  clear hO_13
  by_cases c3 : verErr (verOfP x y z e) = 0
  · have z1 : decide (¬ verErr (verOfP x y z e) = 0) = false := decide_eq_false (by simpa using c3)
    rw [if_pos c3] at hv
    unfold verOfP at z1
    simp -implicitDefEqProofs only [go_sem, h2, h5, h8, g13, g2, puP1, puT1, puY2, puY1, q3, z1, put_same]
    exact fin (hS.put' n2 _) hv
  · have z1 : decide (¬ verErr (verOfP x y z e) = 0) = true := decide_eq_true c3
    rw [if_neg c3] at hv
    unfold verOfP at z1
    simp -implicitDefEqProofs only [go_sem, h2, h5, h8, g13, g2, puP1, puT1, puY2, puY1, q3, z1, put_same]
    exact fin (hS.put' n2 _) hv
end Go.Proofs

/- Walks: strings.SplitN. -/
namespace Go.Proofs
open Go Go.Abs
set_option linter.unusedSimpArgs false
set_option linter.unusedVariables false
set_option maxRecDepth 20000
def spN (c : UInt8) : Nat → Bytes → List Bytes
  | 0, s => [s]
  | n + 1, s => match cutB c s with
    | none => [s]
    | some p => p.1 :: spN c n p.2
theorem spN_nil (c : UInt8) (n : Nat) : spN c n [] = [[]] := by
  cases n <;> rfl
theorem spN_len (c : UInt8) : ∀ (n : Nat) (s : Bytes), (spN c n s).length ≤ n + 1
  | 0, s => by simp [spN]
  | n + 1, s => by
    unfold spN
    split
    · simp
    · have := spN_len c n
      rename_i p hp
      have := spN_len c n p.2
      simp only [List.length_cons]
      omega
theorem spN_mem (c : UInt8) : ∀ (n : Nat) (s : Bytes), ∀ p ∈ spN c n s, p.length ≤ s.length
  | 0, s, p, h => by simp [spN] at h; simp [h]
  | n + 1, s, p, h => by
    unfold spN at h
    split at h
    · simp at h; simp [h]
    · rename_i q hq
      have hl := (cutB_len hq).1
      rcases List.mem_cons.1 h with rfl | h
      · omega
      · have := spN_mem c n q.2 p h; omega
theorem genSplitN_calls (s : Bytes) (c : UInt8) (k : Nat) (H : Heap) (hs : s.length ≤ Room) (hk : k ≤ 1000) :
    ACalls Tryz.prog 147 [.str s, .str [c], .int .i64 0, .int .i64 ((k : Int) + 1)] H fun x H' => x = .sl ((spN c k s).map encBs) .unk ∧ H' = H := by
  have hR : Room = 1099511627776 := rfl
  rw [hR] at hs
  clear hR
  obtain ⟨m, hmD⟩ : ∃ m, m = min k s.length := ⟨_, rfl⟩
  have y1 : decide ((k : Int) + 1 = 0) = false := decide_eq_false (by omega)
  have y2 : decide ((k : Int) + 1 < 0) = false := decide_eq_false (by omega)
  have hwl : IntKind.i64.wrap ((s.length : Int) + 1) = (s.length : Int) + 1 := Go.IntWalk.i64_in _ (by omega)
  have hm : min ((k : Int) + 1) ((s.length : Int) + 1) = ((m + 1 : Nat) : Int) := by omega
  have yc : decide (([c] : Bytes) = []) = false := rfl
  refine ACalls.of_code (X := { pure := puK4 }) puK4_ok Tryz.func147 (by kernel_rfl) rfl (by kernel_rfl) (Nat.le_of_ble_eq_true rfl) ?_
  simp -implicitDefEqProofs only [go_sem, Tryz.f147, puK4, y1, y2, hwl, hm, yc]
  with_reducible refine makeSlice_ms (e := tiStr) ?_ ?_ ?_ ?_ ?_ ?_
  · simp -implicitDefEqProofs only [go_sem]
  · decide
  · omega
  · simp only []; omega
  · omega
  intro id hid
  have hw : IntKind.i64.wrap (((m + 1 : Nat) : Int) - 1) = (m : Int) := by rw [Go.IntWalk.i64_in _ (by omega)]; omega
  simp -implicitDefEqProofs only [go_sem, hw, puK4, sIdxL_eq]
  have hflat : ([AV.str []] :: List.replicate m [AV.str []]).flatten = fillC [] (m + 1) := by
    simp [fillC, List.flatten_replicate_singleton, List.replicate_succ]
  rw [hflat]
  refine aloop_intro (σ := List Bytes × Bytes) (fun p => [(0, .str p.2), (1, .str [c]), (2, .int .i64 0), (3, .int .i64 m), (9, .ms id 0 (m + 1) 1), (10, .int .i64 p.1.length)])
    (fun p G => G = H.put id (.cells (fillC p.1 (m + 1))) ∧ spN c k s = p.1 ++ spN c (k - p.1.length) p.2 ∧ p.2.length + p.1.length ≤ s.length ∧ p.1.length ≤ m) (fun p => p.2.length) ([], s) ?_ ?_ ?_
  · simp -implicitDefEqProofs only [go_sem, List.length_nil]
  · exact ⟨rfl, by simp, by simp, Nat.zero_le _⟩
  rintro ⟨done, rest⟩ r G ⟨h0, h1, h2, h3, h9, h10, -⟩ ⟨rfl, hspl, hl, hdm⟩
  simp only at h0 h1 h2 h3 h9 h10 hspl hl hdm
  have fin : spN c (k - done.length) rest = [rest] → Done Tryz.prog (fun x H' => x = .sl ((spN c k s).map encBs) .unk ∧ H' = H) (.ms id 0 (done.length + 1) 1) (H.put id (.cells (fillC (done ++ [rest]) (m + 1)))) := fun h => by
    have e2 : (fillC (done ++ [rest]) (m + 1)).take (done.length + 1) = (spN c k s).map AV.str := by
      rw [hspl, h]
      unfold fillC
      rw [List.take_append_of_le_length (by simp), List.take_of_length_le (by simp)]
    have e4 : done.length + 1 = (spN c k s).length := by rw [hspl, h]; simp
    refine Done.via (Ghost.freeze1 (put_same _ _ _) (by rw [fillC_len (by simp; omega)]; omega)) (Done.now ⟨?_, del_put _ hid⟩)
    rw [List.drop_zero, e2, List.map_map]
    rfl
  by_cases hlt : done.length < m
  · have z0 : decide ((done.length : Int) < m) = true := decide_eq_true (by omega)
    have hge := Lib.indexByte_ge rest c
    by_cases hx : Lib.indexByte rest c = -1
    · have z1 : decide (Lib.indexByte rest c < 0) = true := decide_eq_true (by omega)
      have hsp : spN c (k - done.length) rest = [rest] := by
        cases hkk : k - done.length with
        | zero => rfl
        | succ n => unfold spN; rw [(cutB_none hx).1]
      have ws : IntKind.i64.wrap ((done.length : Int) + 1) = ((done.length + 1 : Nat) : Int) := by rw [Go.IntWalk.i64_in _ (by omega)]; omega
      simp -implicitDefEqProofs only [go_sem, h0, h1, h2, h3, h9, h10, z0, puK4, sIdxL_eq, z1, ws, put_same, put_put', Nat.mul_one, Int.toNat_natCast, Int.natCast_nonneg]
      refine ⟨by omega, by rw [fillC_len (by omega)]; omega, by omega, ?_⟩
      rw [fillC_set (by omega)]
      have e1 : (((done.length + 1 : Nat) : Int) - 0).toNat = done.length + 1 := by omega
      rw [e1]
      exact fin hsp
    obtain ⟨q, hq⟩ : ∃ q : Nat, Lib.indexByte rest c = (q : Int) := ⟨(Lib.indexByte rest c).toNat, by omega⟩
    obtain ⟨i1, i2, i3⟩ := indexByte_some hq
    have hcb := cutB_some hq
    have z1 : decide ((q : Int) < 0) = false := decide_eq_false (by omega)
    have w1 : IntKind.i64.wrap ((q : Int) + 0) = (q : Int) := by rw [Go.IntWalk.i64_in _ (by omega)]; omega
    have w2 : IntKind.i64.wrap ((q : Int) + 1) = ((q + 1 : Nat) : Int) := by rw [Go.IntWalk.i64_in _ (by omega)]; omega
    have ws : IntKind.i64.wrap ((done.length : Int) + 1) = ((done.length + 1 : Nat) : Int) := by rw [Go.IntWalk.i64_in _ (by omega)]; omega
    simp -implicitDefEqProofs only [go_sem, h0, h1, h2, h3, h9, h10, z0, puK4, sIdxL_eq, hq, z1, w1, w2, ws, put_same, put_put', Nat.mul_one, Int.toNat_natCast, Int.natCast_nonneg]
    refine ⟨by omega, by omega, by rw [fillC_len (by omega)]; omega, by omega, ?_⟩
    rw [List.take_length, fillC_set (by omega)]
    refine Again.mk (done ++ [rest.take q], rest.drop (q + 1)) (by simp -implicitDefEqProofs only [go_sem, h1, h2, h3, h9]; simp) ⟨rfl, ?_, by simp; omega, by simp; omega⟩ (by simp; omega)
    simp only
    rw [hspl]
    obtain ⟨n, hn⟩ : ∃ n, k - done.length = n + 1 := ⟨k - done.length - 1, by omega⟩
    rw [hn, spN, hcb]
    have : k - (done ++ [rest.take q]).length = n := by simp; omega
    rw [this]
    simp
  · have z0 : decide ((done.length : Int) < m) = false := decide_eq_false (by omega)
    have hsp : spN c (k - done.length) rest = [rest] := by
      rcases Nat.lt_or_ge k s.length with h | h
      · have : k - done.length = 0 := by omega
        rw [this]; rfl
      · have : rest = [] := List.eq_nil_of_length_eq_zero (by omega)
        rw [this, spN_nil]
    have ws : IntKind.i64.wrap ((done.length : Int) + 1) = ((done.length + 1 : Nat) : Int) := by rw [Go.IntWalk.i64_in _ (by omega)]; omega
    simp -implicitDefEqProofs only [go_sem, h0, h1, h2, h3, h9, h10, z0, ws, put_same, put_put', Nat.mul_one, Int.toNat_natCast, Int.natCast_nonneg]
    refine ⟨by omega, by rw [fillC_len (by omega)]; omega, by omega, ?_⟩
    rw [fillC_set (by omega)]
    have e1 : (((done.length + 1 : Nat) : Int) - 0).toNat = done.length + 1 := by omega
    rw [e1]
    exact fin hsp
theorem splitN_calls (s : Bytes) (c : UInt8) (k : Nat) (H : Heap) (hs : s.length ≤ Room) (hk : k ≤ 1000) :
    ACalls Tryz.prog 74 [.str s, .str [c], .int .i64 ((k : Int) + 1)] H fun x H' => x = .sl ((spN c k s).map encBs) .unk ∧ H' = H := by
  refine ACalls.of_code (X := { pure := pu0 }) pu0_ok Tryz.func74 (by kernel_rfl) rfl (by kernel_rfl) (Nat.le_of_ble_eq_true rfl) ?_
  simp -implicitDefEqProofs only [go_sem, Tryz.f74]
  refine (genSplitN_calls s c k H hs hk).pure_next _ ?_
  simp -implicitDefEqProofs only [go_sem]
  exact Done.now ⟨rfl, rfl⟩
end Go.Proofs
