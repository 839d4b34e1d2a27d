/-
  Walks and plain laws, part 4.
-/
import Derived.Test.YtfippeedjajnkaaGreatDoorM1
import Derived.Test.YtfippeedjajnkaaGreatDoorM3
import Derived.Test.YtfippeedjajnkaaGreatDoorM2
/- Plain laws: what is quoted, and what quotes are read as. -/
namespace Go.Proofs
set_option linter.unusedSimpArgs false
set_option linter.unusedVariables false
end Go.Proofs

/- Walks: Quote, on both sides. -/
namespace Go.Proofs
open Go Go.Abs
open Nat (reduceEqDiff reduceAdd reduceLeDiff reduceLT reduceMul)
open Int (reduceEq reduceLE reduceSub reduceToNat)
set_option linter.unusedSimpArgs false
set_option linter.unusedVariables false
set_option maxRecDepth 20000
theorem u8_eq {c : UInt8} {n : Nat} (h : n < 256) : ((c.toNat : Int) = n) ↔ c = UInt8.ofNat n := by
  constructor
  · intro e
    apply UInt8.toNat_inj.1
    simp only [UInt8.toNat_ofNat']
    omega
  · rintro rfl
    simp only [UInt8.toNat_ofNat']
    omega
/-! ### The reference's -/
end Go.Proofs

/- Walks: Check, on the program's side. -/
namespace Go.Proofs
open Go Go.Abs
open Nat (reduceEqDiff reduceAdd reduceLeDiff reduceLT reduceMul)
open Int (reduceEq reduceLE reduceSub reduceToNat)
set_option linter.unusedSimpArgs false
set_option linter.unusedVariables false
set_option maxRecDepth 20000
/-- The map of paths stands behind a cell. -/
def PathsOK (G : Heap) (i5 im : Nat) (seen : List Bytes) : Prop := G i5 = some (.cells [.map im]) ∧ ∃ es, G im = some (.map .str es) ∧ SeenOK es seen
theorem check2_calls (G : Heap) (i5 im : Nat) (seen : List Bytes) (d : Bytes) (h : PathsOK G i5 im seen) : ACalls Tryz.prog 71 [.str d, .ptr i5 0] G fun x H' => x = .bool (!seen.contains d) ∧ H' = G := by
  obtain ⟨h1, es, h2, h3⟩ := h
  have hg := h3.get d
  refine ACalls.of_code (X := { pure := pu0 }) pu0_ok Tryz.func71 (by kernel_rfl) rfl (by kernel_rfl) (Nat.le_of_ble_eq_true rfl) ?_
  simp -implicitDefEqProofs only [go_sem, reduceEqDiff, reduceAdd, reduceLeDiff, reduceLT, reduceMul, reduceEq, Int.reduceLT, reduceLE, Int.reduceAdd, reduceSub, reduceToNat, UInt8.reduceToNat, Tryz.f71, h1, h2, hg]
  exact Done.now ⟨rfl, rfl⟩
set_option maxHeartbeats 1600000 in
theorem above_calls (p : Bytes) (G : Heap) (i5 im : Nat) (seen : List Bytes) (h : PathsOK G i5 im seen) (hp : p.length ≤ 1099511627776) :
    ACalls Tryz.prog 70 [.str p, .func 71 [.ptr i5 0]] G fun x H' => x = .bool (!clash seen p) ∧ H' = G := by
  refine ACalls.of_code (X := { pure := pu0 }) pu0_ok Tryz.func70 (by kernel_rfl) rfl (by kernel_rfl) (Nat.le_of_ble_eq_true rfl) ?_
  simp -implicitDefEqProofs only [go_sem, reduceEqDiff, reduceAdd, reduceLeDiff, reduceLT, reduceMul, reduceEq, Int.reduceLT, reduceLE, Int.reduceAdd, reduceSub, reduceToNat, UInt8.reduceToNat, Tryz.f70]
  refine aloop_intro (σ := Nat) (fun i => [(0, .str p), (1, .func 71 [.ptr i5 0]), (5, .int .i64 i)]) (fun i G' => G' = G ∧ i ≤ p.length ∧ clashTo seen p i = false) (fun i => p.length - i) 0 ?_ ?_ ?_
  · simp -implicitDefEqProofs only [go_sem, reduceEqDiff, reduceAdd, reduceLeDiff, reduceLT, reduceMul, reduceEq, Int.reduceLT, reduceLE, Int.reduceAdd, reduceSub, reduceToNat, UInt8.reduceToNat]
  · exact ⟨rfl, Nat.zero_le _, rfl⟩
  rintro i r G' hv ⟨rfl, hi, hE⟩
  have h0 := hv.1
  have h1 := hv.2.1
  have h5 := hv.2.2.1
  clear hv
  by_cases g : i < p.length
  rotate_left
  · have y0 : decide ((i : Int) < p.length) = false := decide_eq_false (by omega)
    obtain rfl : i = p.length := by omega
    simp -implicitDefEqProofs only [go_sem, reduceEqDiff, reduceAdd, reduceLeDiff, reduceLT, reduceMul, reduceEq, Int.reduceLT, reduceLE, Int.reduceAdd, reduceSub, reduceToNat, UInt8.reduceToNat, h0, h1, h5, y0]
    exact Done.now ⟨by rw [← clashTo_all, hE]; rfl, rfl⟩
  have y0 : decide ((i : Int) < p.length) = true := decide_eq_true (by omega)
  obtain ⟨c, hc⟩ : ∃ c, p[i]? = some c := getD_get' g
  have ws : IntKind.i64.wrap ((i : Int) + 1) = ((i + 1 : Nat) : Int) := by rw [Go.IntWalk.i64_in _ (by omega)]; omega
  have e47 := @u8_eq c 47 (by decide)
  have hs := clashTo_succ seen p i
  rw [hE, hc, Bool.false_or] at hs
  by_cases c1 : c = 47
  rotate_left
  · have y1 : decide ((c.toNat : Int) = 47) = false := decide_eq_false (fun e => c1 (e47.1 e))
    simp -implicitDefEqProofs only [go_sem, reduceEqDiff, reduceAdd, reduceLeDiff, reduceLT, reduceMul, reduceEq, Int.reduceLT, reduceLE, Int.reduceAdd, reduceSub, reduceToNat, UInt8.reduceToNat, h0, h1, h5, y0, hc, y1, ws]
    exact Again.mk (i + 1) (by simp -implicitDefEqProofs only [go_sem, reduceEqDiff, reduceAdd, reduceLeDiff, reduceLT, reduceMul, reduceEq, Int.reduceLT, reduceLE, Int.reduceAdd, reduceSub, reduceToNat, UInt8.reduceToNat, h0, h1, h5]) ⟨rfl, by omega, by rw [hs]; simp [c1]⟩ (by omega)
  have y1 : decide ((c.toNat : Int) = 47) = true := decide_eq_true (e47.2 c1)
  subst c1
  rw [decide_eq_true rfl, Bool.true_and] at hs
  simp -implicitDefEqProofs only [go_sem, reduceEqDiff, reduceAdd, reduceLeDiff, reduceLT, reduceMul, reduceEq, Int.reduceLT, reduceLE, Int.reduceAdd, reduceSub, reduceToNat, UInt8.reduceToNat, h0, h1, h5, y0, hc, y1, Int.toNat_natCast]
  refine ⟨by omega, ?_⟩
  refine (check2_calls _ i5 im seen _ h).pure_next _ ?_
  by_cases c2 : seen.contains (p.take i) = true
  · rw [c2] at hs ⊢
    simp -implicitDefEqProofs only [go_sem, reduceEqDiff, reduceAdd, reduceLeDiff, reduceLT, reduceMul, reduceEq, Int.reduceLT, reduceLE, Int.reduceAdd, reduceSub, reduceToNat, UInt8.reduceToNat, h0, h1, h5]
    exact Done.now ⟨by rw [← clashTo_all, clashTo_mono hs _ (by omega)]; rfl, rfl⟩
  · have c2 : seen.contains (p.take i) = false := by simpa using c2
    rw [c2] at hs ⊢
    simp -implicitDefEqProofs only [go_sem, reduceEqDiff, reduceAdd, reduceLeDiff, reduceLT, reduceMul, reduceEq, Int.reduceLT, reduceLE, Int.reduceAdd, reduceSub, reduceToNat, UInt8.reduceToNat, h0, h1, h5, ws]
    exact Again.mk (i + 1) (by simp -implicitDefEqProofs only [go_sem, reduceEqDiff, reduceAdd, reduceLeDiff, reduceLT, reduceMul, reduceEq, Int.reduceLT, reduceLE, Int.reduceAdd, reduceSub, reduceToNat, UInt8.reduceToNat, h0, h1, h5]) ⟨rfl, by omega, hs⟩ (by omega)
theorem macErr_counts {m : MacV} (h : 100 < m.facts.length ∨ 2000 < m.files.length ∨ 2000 < m.sets.length ∨ 100 < m.svcs.length) : macErr m = 4 := by rw [macErr, if_pos h]
def FilesI (m : MacV) (ta tb tc td : Tail) (H : Heap) (i1 i5 im : Nat) (i : Nat) (G : Heap) : Prop := H.Sub G ∧ i ≤ m.files.length ∧ G i1 = some (.cells (encMac m ta tb tc td)) ∧ ∃ seen, PathsOK G i5 im seen ∧ filesE none [] m.files = filesE (prevK (·.path) m.files i) seen (m.files.drop i)
set_option maxHeartbeats 6400000 in
theorem check_calls (m : MacV) (ta tb tc td : Tail) (H : Heap) (hr : macR m) : ACalls Tryz.prog 15 [.agg (encMac m ta tb tc td)] H fun x H' => x = .int .i64 (macErr m) ∧ H' = H := by
  obtain ⟨⟨l1, l2, l3, l4⟩, r1, r2, r3, r4⟩ := hr
  have hM := macErr.eq_1 m
  have hS := Heap.Sub.rfl' H
  have q1 := fun G => eachFact_calls m.facts ta G l1 r1
  have q3 := fun G => eachSet_calls m.sets tc G l3 r3
  have q4 := fun G => eachSvc_calls m.svcs td G l4 r4
  refine ACalls.of_code (X := { pure := pu0 }) pu0_ok Tryz.func15 (by kernel_rfl) rfl (by kernel_rfl) (Nat.le_of_ble_eq_true rfl) ?_
  simp -implicitDefEqProofs only [go_sem, reduceEqDiff, reduceAdd, reduceLeDiff, reduceLT, reduceMul, reduceEq, Int.reduceLT, reduceLE, Int.reduceAdd, reduceSub, reduceToNat, UInt8.reduceToNat, Tryz.f15, encMac]
  with_reducible refine nwC_intro fun i1 hi1 => ?_
  generalize E1 : Heap.put H i1 _ = G1
  have hO_1 := obj_new E1 hi1 hS
  have n1 := hO_1.1
  have hS := hO_1.2.1
  have g1 := hO_1.2.2.1
  clear hO_1
  by_cases c1 : 100 < m.facts.length
  · have y1 : decide ((100 : Int) < (m.facts.length : Int)) = true := decide_eq_true (by omega)
    simp -implicitDefEqProofs only [go_sem, reduceEqDiff, reduceAdd, reduceLeDiff, reduceLT, reduceMul, reduceEq, Int.reduceLT, reduceLE, Int.reduceAdd, reduceSub, reduceToNat, UInt8.reduceToNat, g1, y1]
    exact Done.drop hS ⟨by rw [macErr_counts (.inl c1)], rfl⟩
  have y1 : decide ((100 : Int) < (m.facts.length : Int)) = false := decide_eq_false (by omega)
  by_cases c2 : 2000 < m.files.length
  · have y2 : decide ((2000 : Int) < (m.files.length : Int)) = true := decide_eq_true (by omega)
    simp -implicitDefEqProofs only [go_sem, reduceEqDiff, reduceAdd, reduceLeDiff, reduceLT, reduceMul, reduceEq, Int.reduceLT, reduceLE, Int.reduceAdd, reduceSub, reduceToNat, UInt8.reduceToNat, g1, y1, y2]
    exact Done.drop hS ⟨by rw [macErr_counts (.inr (.inl c2))], rfl⟩
  have y2 : decide ((2000 : Int) < (m.files.length : Int)) = false := decide_eq_false (by omega)
  by_cases c3 : 2000 < m.sets.length
  · have y3 : decide ((2000 : Int) < (m.sets.length : Int)) = true := decide_eq_true (by omega)
    simp -implicitDefEqProofs only [go_sem, reduceEqDiff, reduceAdd, reduceLeDiff, reduceLT, reduceMul, reduceEq, Int.reduceLT, reduceLE, Int.reduceAdd, reduceSub, reduceToNat, UInt8.reduceToNat, g1, y1, y2, y3]
    exact Done.drop hS ⟨by rw [macErr_counts (.inr (.inr (.inl c3)))], rfl⟩
  have y3 : decide ((2000 : Int) < (m.sets.length : Int)) = false := decide_eq_false (by omega)
  by_cases c4 : 100 < m.svcs.length
  · have y4 : decide ((100 : Int) < (m.svcs.length : Int)) = true := decide_eq_true (by omega)
    simp -implicitDefEqProofs only [go_sem, reduceEqDiff, reduceAdd, reduceLeDiff, reduceLT, reduceMul, reduceEq, Int.reduceLT, reduceLE, Int.reduceAdd, reduceSub, reduceToNat, UInt8.reduceToNat, g1, y1, y2, y3, y4]
    exact Done.drop hS ⟨by rw [macErr_counts (.inr (.inr (.inr c4)))], rfl⟩
  have y4 : decide ((100 : Int) < (m.svcs.length : Int)) = false := decide_eq_false (by omega)
  rw [if_neg (by omega)] at hM
  simp -implicitDefEqProofs only [go_sem, reduceEqDiff, reduceAdd, reduceLeDiff, reduceLT, reduceMul, reduceEq, Int.reduceLT, reduceLE, Int.reduceAdd, reduceSub, reduceToNat, UInt8.reduceToNat, g1, y1, y2, y3, y4]
  refine (q1 _).pure_next _ ?_
  by_cases d1 : eachE factErr (·.key) none m.facts = 0
  rotate_left
  · have z1 : decide (¬ eachE factErr (·.key) none m.facts = 0) = true := decide_eq_true d1
    rw [if_pos d1] at hM
    simp -implicitDefEqProofs only [go_sem, reduceEqDiff, reduceAdd, reduceLeDiff, reduceLT, reduceMul, reduceEq, Int.reduceLT, reduceLE, Int.reduceAdd, reduceSub, reduceToNat, UInt8.reduceToNat, z1]
    exact Done.drop hS ⟨by rw [hM], rfl⟩
  have z1 : decide (¬ eachE factErr (·.key) none m.facts = 0) = false := decide_eq_false (by simpa using d1)
  rw [if_neg (by simpa using d1)] at hM
  simp -implicitDefEqProofs only [go_sem, reduceEqDiff, reduceAdd, reduceLeDiff, reduceLT, reduceMul, reduceEq, Int.reduceLT, reduceLE, Int.reduceAdd, reduceSub, reduceToNat, UInt8.reduceToNat, z1]
  with_reducible refine nwM_intro fun im him => ?_
  generalize Eim : Heap.put G1 im _ = G2
  have hO_im := obj_new Eim him hS
  have nim := hO_im.1
  have hS := hO_im.2.1
  have gim := hO_im.2.2.1
  have d1_im := obj_ne g1 him
  have g1 := hO_im.2.2.2 _ _ g1
  clear hO_im
  simp -implicitDefEqProofs only [go_sem, reduceEqDiff, reduceAdd, reduceLeDiff, reduceLT, reduceMul, reduceEq, Int.reduceLT, reduceLE, Int.reduceAdd, reduceSub, reduceToNat, UInt8.reduceToNat]
  with_reducible refine nwC_intro fun i5 hi5 => ?_
  simp -implicitDefEqProofs only [go_sem, reduceEqDiff, reduceAdd, reduceLeDiff, reduceLT, reduceMul, reduceEq, Int.reduceLT, reduceLE, Int.reduceAdd, reduceSub, reduceToNat, UInt8.reduceToNat]
  generalize E5 : Heap.put G2 i5 _ = G5
  have hO_5 := obj_new E5 hi5 hS
  have n5 := hO_5.1
  have hS := hO_5.2.1
  have g5 := hO_5.2.2.1
  have d1_5 := obj_ne g1 hi5
  have g1 := hO_5.2.2.2 _ _ g1
  have dim_5 := obj_ne gim hi5
  have gim := hO_5.2.2.2 _ _ gim
  clear hO_5
  simp -implicitDefEqProofs only [go_sem, reduceEqDiff, reduceAdd, reduceLeDiff, reduceLT, reduceMul, reduceEq, Int.reduceLT, reduceLE, Int.reduceAdd, reduceSub, reduceToNat, UInt8.reduceToNat, g1]
  have hFI : FilesI m ta tb tc td H i1 i5 im 0 G5 := ⟨hS, Nat.zero_le _, g1, [], ⟨g5, [], gim, SeenOK.nil⟩, rfl⟩
  clear gim g1 g5 hS hi1 him hi5
  refine aloop_intro (σ := Nat) (fun i => [(1, .ptr i1 0), (4, .str ((prevK (·.path) m.files i).getD [])), (5, .ptr i5 0), (40, .sl (m.files.map encFile) tb), (41, .int .i64 m.files.length), (42, .int .i64 i)])
    (FilesI m ta tb tc td H i1 i5 im) (fun i => m.files.length - i) 0 ?_ ?_ ?_
  · simp -implicitDefEqProofs only [go_sem, reduceEqDiff, reduceAdd, reduceLeDiff, reduceLT, reduceMul, reduceEq, Int.reduceLT, reduceLE, Int.reduceAdd, reduceSub, reduceToNat, UInt8.reduceToNat]
    simp [prevK]
  · exact hFI
  clear hFI
  rintro i r G hv ⟨hS, hi, g1, seen, ⟨g5, es, gim, hse⟩, hE⟩
  have h1 := hv.1
  have h4 := hv.2.1
  have h5 := hv.2.2.1
  have h40 := hv.2.2.2.1
  have h41 := hv.2.2.2.2.1
  have h42 := hv.2.2.2.2.2.1
  clear hv
  simp only [encMac] at g1
  by_cases g : i < m.files.length
  rotate_left
  · have x0 : decide ((i : Int) < m.files.length) = false := decide_eq_false (by omega)
    obtain rfl : i = m.files.length := by omega
    rw [List.drop_length, filesE] at hE
    rw [if_neg (by simpa using hE)] at hM
    simp -implicitDefEqProofs only [go_sem, reduceEqDiff, reduceAdd, reduceLeDiff, reduceLT, reduceMul, reduceEq, Int.reduceLT, reduceLE, Int.reduceAdd, reduceSub, reduceToNat, UInt8.reduceToNat, h1, h40, h41, h42, x0, g1]
    refine (q3 _).pure_next _ ?_
    by_cases d3 : eachE setErr (·.key) none m.sets = 0
    rotate_left
    · have z3 : decide (¬ eachE setErr (·.key) none m.sets = 0) = true := decide_eq_true d3
      rw [if_pos d3] at hM
      simp -implicitDefEqProofs only [go_sem, reduceEqDiff, reduceAdd, reduceLeDiff, reduceLT, reduceMul, reduceEq, Int.reduceLT, reduceLE, Int.reduceAdd, reduceSub, reduceToNat, UInt8.reduceToNat, z3]
      exact Done.drop hS ⟨by rw [hM], rfl⟩
    have z3 : decide (¬ eachE setErr (·.key) none m.sets = 0) = false := decide_eq_false (by simpa using d3)
    rw [if_neg (by simpa using d3)] at hM
    simp -implicitDefEqProofs only [go_sem, reduceEqDiff, reduceAdd, reduceLeDiff, reduceLT, reduceMul, reduceEq, Int.reduceLT, reduceLE, Int.reduceAdd, reduceSub, reduceToNat, UInt8.reduceToNat, z3, h1, g1]
    refine (q4 _).pure_next _ ?_
    simp -implicitDefEqProofs only [go_sem, reduceEqDiff, reduceAdd, reduceLeDiff, reduceLT, reduceMul, reduceEq, Int.reduceLT, reduceLE, Int.reduceAdd, reduceSub, reduceToNat, UInt8.reduceToNat]
    exact Done.drop hS ⟨by rw [hM], rfl⟩
  have x0 : decide ((i : Int) < m.files.length) = true := decide_eq_true (by omega)
  obtain ⟨x, hx⟩ : ∃ x, m.files[i]? = some x := getD_get' g
  have hxr := r2 x (List.mem_of_getElem? hx)
  have hff := fun G => fileFault_calls x G hxr
  have ws : IntKind.i64.wrap ((i : Int) + 1) = ((i + 1 : Nat) : Int) := by rw [Go.IntWalk.i64_in _ (by omega)]; omega
  rw [drop_at hx, filesE] at hE
  have hps := prevK_succ (·.path) hx
  have hU : ∀ (a : FileV), a ∈ m.files → (encFile a).length = 3 := fun _ _ => rfl
  have hpl : x.path.length ≤ 1099511627776 := hxr.1
  have hab := fun G => above_calls x.path G i5 im seen
  obtain ⟨xp, xd, xr⟩ := x
  simp only [encFile] at hff
  simp only at hpl hab hps hE
  simp -implicitDefEqProofs only [go_sem, reduceEqDiff, reduceAdd, reduceLeDiff, reduceLT, reduceMul, reduceEq, Int.reduceLT, reduceLE, Int.reduceAdd, reduceSub, reduceToNat, UInt8.reduceToNat, h1, h40, h41, h42, x0, hx]
  refine ⟨hU, Nat.le_refl _, ?_⟩
  simp only [encFile, List.take_succ_cons, List.take_zero, List.take_nil]
  with_reducible refine nwC_intro fun i7 hi7 => ?_
  simp -implicitDefEqProofs only [go_sem, reduceEqDiff, reduceAdd, reduceLeDiff, reduceLT, reduceMul, reduceEq, Int.reduceLT, reduceLE, Int.reduceAdd, reduceSub, reduceToNat, UInt8.reduceToNat]
  generalize E7 : Heap.put G i7 _ = G7
  have hO_7 := obj_new E7 hi7 hS
  have n7 := hO_7.1
  have hS := hO_7.2.1
  have g7 := hO_7.2.2.1
  have d1_7 := obj_ne g1 hi7
  have g1 := hO_7.2.2.2 _ _ g1
  have d5_7 := obj_ne g5 hi7
  have g5 := hO_7.2.2.2 _ _ g5
  have dim_7 := obj_ne gim hi7
  have gim := hO_7.2.2.2 _ _ gim
  clear hO_7
  refine (hff _).pure_next _ ?_
  by_cases e1 : fileErr ⟨xp, xd, xr⟩ = 0
  rotate_left
  · have x1 : decide (¬ fileErr ⟨xp, xd, xr⟩ = 0) = true := decide_eq_true e1
    rw [if_pos e1] at hE
    rw [if_pos (by rw [hE]; exact e1), hE] at hM
    simp -implicitDefEqProofs only [go_sem, reduceEqDiff, reduceAdd, reduceLeDiff, reduceLT, reduceMul, reduceEq, Int.reduceLT, reduceLE, Int.reduceAdd, reduceSub, reduceToNat, UInt8.reduceToNat, x1]
    exact Done.drop hS ⟨by rw [hM], rfl⟩
  have x1 : decide (¬ fileErr ⟨xp, xd, xr⟩ = 0) = false := decide_eq_false (by simpa using e1)
  rw [if_neg (by simpa using e1)] at hE
  have hpo : PathsOK G7 i5 im seen := ⟨g5, es, gim, hse⟩
  by_cases e2 : ordB (prevK (·.path) m.files i) xp = true
  · rw [if_pos e2] at hE
    rw [if_pos (by rw [hE]; decide), hE] at hM
    have c2 : ¬ i = 0 := by rintro rfl; simp [prevK, ordB] at e2
    obtain ⟨q, hq⟩ : ∃ q, m.files[i - 1]? = some q := getD_get' (by omega)
    have hpk : prevK (·.path) m.files i = some q.path := by unfold prevK; rw [if_neg c2, hq]; rfl
    rw [hpk] at e2 h4
    rw [Option.getD_some] at h4
    have x2 : decide ((0 : Int) < (i : Int)) = true := decide_eq_true (by omega)
    have x3 : (strLt xp q.path || decide (xp = q.path)) = true := e2
    simp -implicitDefEqProofs only [go_sem, reduceEqDiff, reduceAdd, reduceLeDiff, reduceLT, reduceMul, reduceEq, Int.reduceLT, reduceLE, Int.reduceAdd, reduceSub, reduceToNat, UInt8.reduceToNat, x1, h1, h4, h5, h40, h41, h42, x2, x3, g7]
    exact Done.drop hS ⟨by rw [hM], rfl⟩
  rw [if_neg e2] at hE
  have w10 : IntKind.i64.wrap 1 = 1 := by decide
  have tail : ∀ (K : K1), (clash seen xp = true → K (.bool false) G7) → (clash seen xp = false → K (.bool true) G7) → ACalls Tryz.prog 70 [.str xp, .func 71 [.ptr i5 0]] G7 K := fun K k1 k2 => by
    refine (hab G7 hpo hpl).mono ?_
    rintro v G' ⟨rfl, rfl⟩
    cases hc : clash seen xp with
    | true => exact k1 hc
    | false => exact k2 hc
  have e3 : ∀ G8, clash seen xp = false → (G8 = G7.put im (.map .str (mset es (.s xp) (.bool true)))) → FilesI m ta tb tc td H i1 i5 im (i + 1) G8 := fun G8 h1 h2 => by
    subst h2
    rw [h1, if_neg (by simp)] at hE
    refine ⟨hS.put' nim _, by omega, by rw [put_ne _ _ _ _ d1_im]; simp only [encMac]; exact g1, xp :: seen, ⟨by rw [put_ne _ _ _ _ (fun e => dim_5 e.symm)]; exact g5, _, put_same _ _ _, hse.set xp⟩, ?_⟩
    rw [hE, hps]
  by_cases c2 : i = 0
  · subst c2
    have x2 : decide ((0 : Int) < 0) = false := rfl
    simp -implicitDefEqProofs only [go_sem, reduceEqDiff, reduceAdd, reduceLeDiff, reduceLT, reduceMul, reduceEq, Int.reduceLT, reduceLE, Int.reduceAdd, reduceSub, reduceToNat, UInt8.reduceToNat, x1, h1, h4, h5, h40, h41, h42, x2, g7]
    refine tail _ (fun hc => ?_) (fun hc => ?_)
    · rw [hc, if_pos rfl] at hE
      rw [if_pos (by rw [hE]; decide), hE] at hM
      simp -implicitDefEqProofs only [go_sem, reduceEqDiff, reduceAdd, reduceLeDiff, reduceLT, reduceMul, reduceEq, Int.reduceLT, reduceLE, Int.reduceAdd, reduceSub, reduceToNat, UInt8.reduceToNat]
      exact Done.drop hS ⟨by rw [hM], rfl⟩
    · simp -implicitDefEqProofs only [go_sem, reduceEqDiff, reduceAdd, reduceLeDiff, reduceLT, reduceMul, reduceEq, Int.reduceLT, reduceLE, Int.reduceAdd, reduceSub, reduceToNat, UInt8.reduceToNat, h1, h5, h40, h41, h42, g7, g5, gim, w10]
      exact Again.mk 1 (by simp -implicitDefEqProofs only [go_sem, reduceEqDiff, reduceAdd, reduceLeDiff, reduceLT, reduceMul, reduceEq, Int.reduceLT, reduceLE, Int.reduceAdd, reduceSub, reduceToNat, UInt8.reduceToNat, h1, h5, h40, h41, hps, Option.getD_some]) (e3 _ hc rfl) (by omega)
  · have x2 : decide ((0 : Int) < (i : Int)) = true := decide_eq_true (by omega)
    obtain ⟨q, hq⟩ : ∃ q, m.files[i - 1]? = some q := getD_get' (by omega)
    have hpk : prevK (·.path) m.files i = some q.path := by unfold prevK; rw [if_neg c2, hq]; rfl
    rw [hpk] at e2 h4
    rw [Option.getD_some] at h4
    have x3 : (strLt xp q.path || decide (xp = q.path)) = false := by simpa [ordB, leB] using e2
    simp -implicitDefEqProofs only [go_sem, reduceEqDiff, reduceAdd, reduceLeDiff, reduceLT, reduceMul, reduceEq, Int.reduceLT, reduceLE, Int.reduceAdd, reduceSub, reduceToNat, UInt8.reduceToNat, x1, h1, h4, h5, h40, h41, h42, x2, x3, g7]
    refine tail _ (fun hc => ?_) (fun hc => ?_)
    · rw [hc, if_pos rfl] at hE
      rw [if_pos (by rw [hE]; decide), hE] at hM
      simp -implicitDefEqProofs only [go_sem, reduceEqDiff, reduceAdd, reduceLeDiff, reduceLT, reduceMul, reduceEq, Int.reduceLT, reduceLE, Int.reduceAdd, reduceSub, reduceToNat, UInt8.reduceToNat]
      exact Done.drop hS ⟨by rw [hM], rfl⟩
    · simp -implicitDefEqProofs only [go_sem, reduceEqDiff, reduceAdd, reduceLeDiff, reduceLT, reduceMul, reduceEq, Int.reduceLT, reduceLE, Int.reduceAdd, reduceSub, reduceToNat, UInt8.reduceToNat, h1, h5, h40, h41, h42, g7, g5, gim, ws]
      exact Again.mk (i + 1) (by simp -implicitDefEqProofs only [go_sem, reduceEqDiff, reduceAdd, reduceLeDiff, reduceLT, reduceMul, reduceEq, Int.reduceLT, reduceLE, Int.reduceAdd, reduceSub, reduceToNat, UInt8.reduceToNat, h1, h5, h40, h41, hps, Option.getD_some]) (e3 _ hc rfl) (by omega)
end Go.Proofs

/- Walks: Check, on the reference's side. -/
namespace Go.Proofs
open Go Go.Abs
open Nat (reduceEqDiff reduceAdd reduceLeDiff reduceLT reduceMul)
open Int (reduceEq reduceLE reduceSub reduceToNat)
set_option linter.unusedSimpArgs false
set_option linter.unusedVariables false
set_option maxRecDepth 20000
def puRC : Pures := putP 42 (sStr nameB) (putP 43 (sStr valueB) (putP 62 sFileE (putP 63 sSetE (putP 64 sSvcE (putP 61 sFirst (putP 60 sWhen pu0))))))
theorem puRC_dyn : isDyn puRC = false := by simp only [puRC, go_sem, Nat.reduceEqDiff]
attribute [go_sem] puRC_dyn
theorem puRC_ok : PuOK Tryz.prog puRC := .put (.put (.put (.put (.put (.put (.put (pu0_ok) (sWhen_ok when_calls)) (sFirst_ok first_calls)) (sSvcE_ok rServiceError_calls)) (sSetE_ok rSettingError_calls)) (sFileE_ok rFileError_calls)) (sStr_ok rIsValue_calls)) (sStr_ok rIsName_calls)
/-- The order, as a number. -/
def bV (p : Option Bytes) (k : Bytes) : Int := if ordB p k = true then 7 else 0
theorem behind_calls (i : Nat) (k z : Bytes) (p : Option Bytes) (i3 : Nat) (G : Heap) (h : G i3 = some (.cells [.str z])) (hp : p = if i = 0 then none else some z) :
    ACalls Tryz.prog 59 [.int .i64 i, .str k, .ptr i3 0] G fun x H' => x = .int .i64 (bV p k) ∧ H' = G.put i3 (.cells [.str k]) := by
  by_cases c : i = 0
  · subst c
    have y : decide ((0 : Int) < ((0 : Nat) : Int)) = false := rfl
    have y2 : decide ((0 : Int) < 0) = false := rfl
    refine ACalls.of_code (X := { pure := puRC }) puRC_ok Tryz.func59 (by kernel_rfl) rfl (by kernel_rfl) (Nat.le_of_ble_eq_true rfl) ?_
    simp -implicitDefEqProofs only [go_sem, reduceEqDiff, reduceAdd, reduceLeDiff, reduceLT, reduceMul, reduceEq, Int.reduceLT, reduceLE, Int.reduceAdd, reduceSub, reduceToNat, UInt8.reduceToNat, Tryz.f59, h, y, y2]
    simp -implicitDefEqProofs only [go_sem, reduceEqDiff, reduceAdd, reduceLeDiff, reduceLT, reduceMul, reduceEq, Int.reduceLT, reduceLE, Int.reduceAdd, reduceSub, reduceToNat, UInt8.reduceToNat, puRC, sWhen_eq]
    exact Done.now ⟨by rw [hp]; rfl, rfl⟩
  · have y : decide ((0 : Int) < (i : Int)) = true := decide_eq_true (by omega)
    rw [if_neg c] at hp
    subst hp
    by_cases c2 : leB k z = true
    · have y2 : (strLt k z || decide (k = z)) = true := c2
      refine ACalls.of_code (X := { pure := puRC }) puRC_ok Tryz.func59 (by kernel_rfl) rfl (by kernel_rfl) (Nat.le_of_ble_eq_true rfl) ?_
      simp -implicitDefEqProofs only [go_sem, reduceEqDiff, reduceAdd, reduceLeDiff, reduceLT, reduceMul, reduceEq, Int.reduceLT, reduceLE, Int.reduceAdd, reduceSub, reduceToNat, UInt8.reduceToNat, Tryz.f59, h, y, y2]
      simp -implicitDefEqProofs only [go_sem, reduceEqDiff, reduceAdd, reduceLeDiff, reduceLT, reduceMul, reduceEq, Int.reduceLT, reduceLE, Int.reduceAdd, reduceSub, reduceToNat, UInt8.reduceToNat, puRC, sWhen_eq]
      exact Done.now ⟨by rw [bV, if_pos (show ordB (some z) k = true from c2)], rfl⟩
    · have y2 : (strLt k z || decide (k = z)) = false := by simpa [leB] using c2
      refine ACalls.of_code (X := { pure := puRC }) puRC_ok Tryz.func59 (by kernel_rfl) rfl (by kernel_rfl) (Nat.le_of_ble_eq_true rfl) ?_
      simp -implicitDefEqProofs only [go_sem, reduceEqDiff, reduceAdd, reduceLeDiff, reduceLT, reduceMul, reduceEq, Int.reduceLT, reduceLE, Int.reduceAdd, reduceSub, reduceToNat, UInt8.reduceToNat, Tryz.f59, h, y, y2]
      simp -implicitDefEqProofs only [go_sem, reduceEqDiff, reduceAdd, reduceLeDiff, reduceLT, reduceMul, reduceEq, Int.reduceLT, reduceLE, Int.reduceAdd, reduceSub, reduceToNat, UInt8.reduceToNat, puRC, sWhen_eq]
      exact Done.now ⟨by rw [bV, if_neg (show ¬ ordB (some z) k = true from c2)], rfl⟩
theorem first2 (e b : Int) : firstOf [e, b] = if e ≠ 0 then e else b := by
  by_cases h : e = 0 <;> by_cases g : b = 0 <;> simp [firstOf, h, g]
theorem first3 (k v : Bytes) (b : Int) : firstOf [if nameB k = false then 5 else 0, if valueB v = false then 2 else 0, b] = if factErr ⟨k, v⟩ ≠ 0 then factErr ⟨k, v⟩ else b := by
  cases h1 : nameB k <;> cases h2 : valueB v <;> by_cases g : b = 0 <;> simp [firstOf, factErr, h1, h2, g]
theorem eachE_step {α : Type} (err : α → Int) (key : α → Bytes) {p : Option Bytes} {x : α} {l : List α} {e : Int} (he : e = if err x ≠ 0 then err x else bV p (key x)) : eachE err key p (x :: l) = if e ≠ 0 then e else eachE err key (some (key x)) l := by
  rw [eachE, he]
  unfold bV
  by_cases h : err x = 0 <;> by_cases g : ordB p (key x) = true <;> simp [h, g]
theorem filesE_step {p : Option Bytes} {seen : List Bytes} {x : FileV} {l : List FileV} {e : Int} (he : e = if fileErr x ≠ 0 then fileErr x else bV p x.path) :
    filesE p seen (x :: l) = if e ≠ 0 then e else if clash seen x.path = true then 11 else filesE (some x.path) (x.path :: seen) l := by
  rw [filesE, he]
  unfold bV
  by_cases h : fileErr x = 0 <;> by_cases g : ordB p x.path = true <;> simp [h, g]
def RcM (m : MacV) (ta tb tc td : Tail) (H : Heap) (i1 i3 : Nat) (G : Heap) (z : Bytes) : Prop := H.Sub G ∧ G i1 = some (.cells (encMac m ta tb tc td)) ∧ G i3 = some (.cells [.str z])
def RcI {α : Type} (err : α → Int) (key : α → Bytes) (l : List α) (m : MacV) (ta tb tc td : Tail) (H : Heap) (i1 i3 : Nat) (i : Nat) (G : Heap) : Prop :=
  i ≤ l.length ∧ eachE err key none l = eachE err key (prevK key l i) (l.drop i) ∧ ∃ z, RcM m ta tb tc td H i1 i3 G z ∧ prevK key l i = if i = 0 then none else some z
def RcQ (p : Prop) (m : MacV) (ta tb tc td : Tail) (H : Heap) (i1 i3 : Nat) (r : Regs) (G : Heap) : Prop := p ∧ (∃ z, RcM m ta tb tc td H i1 i3 G z) ∧ agrees r [(1, .ptr i1 0), (4, .func 59 [.ptr i3 0])]
theorem _root_.Go.Abs.ACalls.pure_next2 {P : Program} {f : FuncId} {args : List AV} {H H1 : Heap} {K : K1} {x : AV} (h : ACalls P f args H fun y H' => y = x ∧ H' = H1) (hK : K x H1) : ACalls P f args H K := by
  refine h.mono ?_
  rintro x H' ⟨rfl, rfl⟩
  exact hK
set_option maxHeartbeats 12800000 in
theorem rCheck_calls (m : MacV) (ta tb tc td : Tail) (H : Heap) (hr : macR m) : ACalls Tryz.prog 14 [.agg (encMac m ta tb tc td)] H fun x H' => x = .int .i64 (macErr m) ∧ H' = H := by
  obtain ⟨⟨l1, l2, l3, l4⟩, r1, r2, r3, r4⟩ := hr
  have hR : Room = 1099511627776 := rfl
  have hM := macErr.eq_1 m
  have hS := Heap.Sub.rfl' H
  refine ACalls.of_code (X := { pure := puRC }) puRC_ok Tryz.func14 (by kernel_rfl) rfl (by kernel_rfl) (Nat.le_of_ble_eq_true rfl) ?_
  simp -implicitDefEqProofs only [go_sem, reduceEqDiff, reduceAdd, reduceLeDiff, reduceLT, reduceMul, reduceEq, Int.reduceLT, reduceLE, Int.reduceAdd, reduceSub, reduceToNat, UInt8.reduceToNat, Tryz.f14, encMac]
  with_reducible refine nwC_intro fun i1 hi1 => ?_
  generalize E1 : Heap.put H i1 _ = G1
  have hO_1 := obj_new E1 hi1 hS
  have n1 := hO_1.1
  have hS := hO_1.2.1
  have g1 := hO_1.2.2.1
  clear hO_1
  by_cases c1 : 100 < m.facts.length
  · have y1 : decide ((100 : Int) < (m.facts.length : Int)) = true := decide_eq_true (by omega)
    simp -implicitDefEqProofs only [go_sem, reduceEqDiff, reduceAdd, reduceLeDiff, reduceLT, reduceMul, reduceEq, Int.reduceLT, reduceLE, Int.reduceAdd, reduceSub, reduceToNat, UInt8.reduceToNat, g1, y1]
    exact Done.drop hS ⟨by rw [macErr_counts (.inl c1)], rfl⟩
  have y1 : decide ((100 : Int) < (m.facts.length : Int)) = false := decide_eq_false (by omega)
  by_cases c2 : 2000 < m.files.length
  · have y2 : decide ((2000 : Int) < (m.files.length : Int)) = true := decide_eq_true (by omega)
    simp -implicitDefEqProofs only [go_sem, reduceEqDiff, reduceAdd, reduceLeDiff, reduceLT, reduceMul, reduceEq, Int.reduceLT, reduceLE, Int.reduceAdd, reduceSub, reduceToNat, UInt8.reduceToNat, g1, y1, y2]
    exact Done.drop hS ⟨by rw [macErr_counts (.inr (.inl c2))], rfl⟩
  have y2 : decide ((2000 : Int) < (m.files.length : Int)) = false := decide_eq_false (by omega)
  by_cases c3 : 2000 < m.sets.length
  · have y3 : decide ((2000 : Int) < (m.sets.length : Int)) = true := decide_eq_true (by omega)
    simp -implicitDefEqProofs only [go_sem, reduceEqDiff, reduceAdd, reduceLeDiff, reduceLT, reduceMul, reduceEq, Int.reduceLT, reduceLE, Int.reduceAdd, reduceSub, reduceToNat, UInt8.reduceToNat, g1, y1, y2, y3]
    exact Done.drop hS ⟨by rw [macErr_counts (.inr (.inr (.inl c3)))], rfl⟩
  have y3 : decide ((2000 : Int) < (m.sets.length : Int)) = false := decide_eq_false (by omega)
  by_cases c4 : 100 < m.svcs.length
  · have y4 : decide ((100 : Int) < (m.svcs.length : Int)) = true := decide_eq_true (by omega)
    simp -implicitDefEqProofs only [go_sem, reduceEqDiff, reduceAdd, reduceLeDiff, reduceLT, reduceMul, reduceEq, Int.reduceLT, reduceLE, Int.reduceAdd, reduceSub, reduceToNat, UInt8.reduceToNat, g1, y1, y2, y3, y4]
    exact Done.drop hS ⟨by rw [macErr_counts (.inr (.inr (.inr c4)))], rfl⟩
  have y4 : decide ((100 : Int) < (m.svcs.length : Int)) = false := decide_eq_false (by omega)
  rw [if_neg (by omega)] at hM
  simp -implicitDefEqProofs only [go_sem, reduceEqDiff, reduceAdd, reduceLeDiff, reduceLT, reduceMul, reduceEq, Int.reduceLT, reduceLE, Int.reduceAdd, reduceSub, reduceToNat, UInt8.reduceToNat, g1, y1, y2, y3, y4]
  with_reducible refine nwC_intro fun i3 hi3 => ?_
  simp -implicitDefEqProofs only [go_sem, reduceEqDiff, reduceAdd, reduceLeDiff, reduceLT, reduceMul, reduceEq, Int.reduceLT, reduceLE, Int.reduceAdd, reduceSub, reduceToNat, UInt8.reduceToNat]
  generalize E3 : Heap.put G1 i3 _ = G3
  have hO_3 := obj_new E3 hi3 hS
  have n3 := hO_3.1
  have hS := hO_3.2.1
  have g3 := hO_3.2.2.1
  have d1_3 := obj_ne g1 hi3
  have g1 := hO_3.2.2.2 _ _ g1
  clear hO_3
  have hZ : RcM m ta tb tc td H i1 i3 G3 [] := ⟨hS, g1, g3⟩
  simp -implicitDefEqProofs only [go_sem, reduceEqDiff, reduceAdd, reduceLeDiff, reduceLT, reduceMul, reduceEq, Int.reduceLT, reduceLE, Int.reduceAdd, reduceSub, reduceToNat, UInt8.reduceToNat, g1]
  clear y1 y2 y3 y4 c1 c2 c3 c4 hi3 hi1 g3 hS
  with_reducible refine aloop_cut 0 (RcQ (eachE factErr (·.key) none m.facts = 0) m ta tb tc td H i1 i3) ?_ ?_
  rotate_left
  · refine aloop_intro (σ := Nat) (fun i => [(1, .ptr i1 0), (4, .func 59 [.ptr i3 0]), (43, .sl (m.facts.map encSet) ta), (44, .int .i64 m.facts.length), (45, .int .i64 i)])
      (RcI factErr (·.key) m.facts m ta tb tc td H i1 i3) (fun i => m.facts.length - i) 0 ?_ ?_ ?_
    · simp -implicitDefEqProofs only [go_sem, reduceEqDiff, reduceAdd, reduceLeDiff, reduceLT, reduceMul, reduceEq, Int.reduceLT, reduceLE, Int.reduceAdd, reduceSub, reduceToNat, UInt8.reduceToNat]
    · exact ⟨Nat.zero_le _, rfl, [], hZ, rfl⟩
    clear hZ
    rintro i r G hv ⟨hi, hE, z, ⟨hS, g1, g3⟩, hp⟩
    have h1 := hv.1
    have h4 := hv.2.1
    have hl := hv.2.2.1
    have hn := hv.2.2.2.1
    have hi2 := hv.2.2.2.2.1
    clear hv
    by_cases g : i < m.facts.length
    rotate_left
    · have x0 : decide ((i : Int) < m.facts.length) = false := decide_eq_false (by omega)
      obtain rfl : i = m.facts.length := by omega
      rw [List.drop_length, eachE] at hE
      simp -implicitDefEqProofs only [go_sem, reduceEqDiff, reduceAdd, reduceLeDiff, reduceLT, reduceMul, reduceEq, Int.reduceLT, reduceLE, Int.reduceAdd, reduceSub, reduceToNat, UInt8.reduceToNat, h1, h4, hl, hn, hi2, x0]
      exact ⟨hE, ⟨z, hS, g1, g3⟩, by simp -implicitDefEqProofs only [go_sem, reduceEqDiff, reduceAdd, reduceLeDiff, reduceLT, reduceMul, reduceEq, Int.reduceLT, reduceLE, Int.reduceAdd, reduceSub, reduceToNat, UInt8.reduceToNat, h1, h4]⟩
    have x0 : decide ((i : Int) < m.facts.length) = true := decide_eq_true (by omega)
    obtain ⟨x, hx⟩ : ∃ x, m.facts[i]? = some x := getD_get' g
    have hxr := r1 x (List.mem_of_getElem? hx)
    have ws : IntKind.i64.wrap ((i : Int) + 1) = ((i + 1 : Nat) : Int) := by rw [Go.IntWalk.i64_in _ (by omega)]; omega
    have hps := prevK_succ (·.key) hx
    have hU : ∀ (a : SetV), a ∈ m.facts → (encSet a).length = 2 := fun _ _ => rfl
    rw [drop_at hx] at hE
    obtain ⟨xkey, xvalue⟩ := x
    have hr1 := hxr.1
    have hr2 := hxr.2
    simp only at hr1 hr2 hps
    rw [eachE_step factErr (·.key) rfl] at hE
    have hb := fun G (h : G i3 = some (.cells [.str z])) => behind_calls i xkey z _ i3 G h hp
    generalize prevK (·.key) m.facts i = pk at *
    simp -implicitDefEqProofs only [go_sem, reduceEqDiff, reduceAdd, reduceLeDiff, reduceLT, reduceMul, reduceEq, Int.reduceLT, reduceLE, Int.reduceAdd, reduceSub, reduceToNat, UInt8.reduceToNat, h1, h4, hl, hn, hi2, x0, hx]
    refine ⟨hU, Nat.le_refl _, ?_⟩
    simp only [encSet, List.take_succ_cons, List.take_zero, List.take_nil]
    with_reducible refine nwC_intro fun i6 hi6 => ?_
    simp -implicitDefEqProofs only [go_sem, reduceEqDiff, reduceAdd, reduceLeDiff, reduceLT, reduceMul, reduceEq, Int.reduceLT, reduceLE, Int.reduceAdd, reduceSub, reduceToNat, UInt8.reduceToNat]
    generalize E6 : Heap.put G i6 _ = G6
    have hO_6 := obj_new E6 hi6 hS
    have n6 := hO_6.1
    have hS := hO_6.2.1
    have g6 := hO_6.2.2.1
    have d1_6 := obj_ne g1 hi6
    have g1 := hO_6.2.2.2 _ _ g1
    have d3_6 := obj_ne g3 hi6
    have g3 := hO_6.2.2.2 _ _ g3
    clear hO_6
    simp -implicitDefEqProofs only [go_sem, reduceEqDiff, reduceAdd, reduceLeDiff, reduceLT, reduceMul, reduceEq, Int.reduceLT, reduceLE, Int.reduceAdd, reduceSub, reduceToNat, UInt8.reduceToNat, h1, h4, hl, hn, hi2, g6, puRC, sStr_eq, sWhen_eq, hR, hr1, hr2, hxr]
    refine (hb _ g3).pure_next2 ?_
    generalize E3 : Heap.put G6 i3 _ = G7
    have hS := obj_sub E3 n3 hS
    have g3 := obj_at E3
    have g1 := obj_keep E3 (by first | exact d1_3 | exact fun e => d3_1 e.symm) g1
    have g6 := obj_keep E3 (by first | exact d6_3 | exact fun e => d3_6 e.symm) g6
    simp -implicitDefEqProofs only [go_sem, reduceEqDiff, reduceAdd, reduceLeDiff, reduceLT, reduceMul, reduceEq, Int.reduceLT, reduceLE, Int.reduceAdd, reduceSub, reduceToNat, UInt8.reduceToNat, h1, h4, hl, hn, hi2, g6, puRC, sFirst, first3]
    generalize (if factErr ⟨xkey, xvalue⟩ ≠ 0 then factErr ⟨xkey, xvalue⟩ else bV pk xkey) = e at *
    by_cases c1 : e = 0
    · have y1 : decide (¬ e = 0) = false := decide_eq_false (by simpa using c1)
      rw [if_neg (by simpa using c1), ← hps] at hE
      simp -implicitDefEqProofs only [go_sem, reduceEqDiff, reduceAdd, reduceLeDiff, reduceLT, reduceMul, reduceEq, Int.reduceLT, reduceLE, Int.reduceAdd, reduceSub, reduceToNat, UInt8.reduceToNat, h1, h4, hl, hn, hi2, y1, ws]
      exact Again.mk (i + 1) (by simp -implicitDefEqProofs only [go_sem, reduceEqDiff, reduceAdd, reduceLeDiff, reduceLT, reduceMul, reduceEq, Int.reduceLT, reduceLE, Int.reduceAdd, reduceSub, reduceToNat, UInt8.reduceToNat, h1, h4, hl, hn]) ⟨by omega, hE, xkey, ⟨hS, g1, g3⟩, by rw [hps, if_neg (by omega)]⟩ (by omega)
    · have y1 : decide (¬ e = 0) = true := decide_eq_true c1
      rw [if_pos c1] at hE
      simp -implicitDefEqProofs only [go_sem, reduceEqDiff, reduceAdd, reduceLeDiff, reduceLT, reduceMul, reduceEq, Int.reduceLT, reduceLE, Int.reduceAdd, reduceSub, reduceToNat, UInt8.reduceToNat, h1, h4, hl, hn, hi2, y1]
      exact Done.drop hS ⟨by rw [hM, if_pos (by rw [hE]; exact c1), hE], rfl⟩
  rintro r G ⟨he1, ⟨z, hZ⟩, hv⟩
  have h1 := hv.1
  have h4 := hv.2.1
  have g1 := hZ.2.1
  clear hv
  simp only [encMac] at g1
  rw [if_neg (by simpa using he1)] at hM
  simp -implicitDefEqProofs only [go_sem, reduceEqDiff, reduceAdd, reduceLeDiff, reduceLT, reduceMul, reduceEq, Int.reduceLT, reduceLE, Int.reduceAdd, reduceSub, reduceToNat, UInt8.reduceToNat, h1, h4, g1]
  with_reducible refine nwM_intro fun im him => ?_
  have hdS := hZ.1
  have hg3 := hZ.2.2
  obtain ⟨hS, _, g3⟩ := hZ
  generalize Eim : Heap.put G im _ = G2
  have hO_im := obj_new Eim him hS
  have nim := hO_im.1
  have hS := hO_im.2.1
  have gim := hO_im.2.2.1
  have d1_im := obj_ne g1 him
  have g1 := hO_im.2.2.2 _ _ g1
  have d3_im := obj_ne g3 him
  have g3 := hO_im.2.2.2 _ _ g3
  clear hO_im
  simp -implicitDefEqProofs only [go_sem, reduceEqDiff, reduceAdd, reduceLeDiff, reduceLT, reduceMul, reduceEq, Int.reduceLT, reduceLE, Int.reduceAdd, reduceSub, reduceToNat, UInt8.reduceToNat, h1, h4, g1]
  with_reducible refine aloop_cut 2 (RcQ (filesE none [] m.files = 0) m ta tb tc td H i1 i3) ?_ ?_
  rotate_left
  · refine aloop_intro (σ := Nat) (fun i => [(1, .ptr i1 0), (4, .func 59 [.ptr i3 0]), (8, .map im), (73, .sl (m.files.map encFile) tb), (74, .int .i64 m.files.length), (75, .int .i64 i)])
      (fun i G => i ≤ m.files.length ∧ (∃ z, RcM m ta tb tc td H i1 i3 G z ∧ prevK (·.path) m.files i = if i = 0 then none else some z) ∧ ∃ es seen, G im = some (.map .str es) ∧ SeenOK es seen ∧ filesE none [] m.files = filesE (prevK (·.path) m.files i) seen (m.files.drop i)) (fun i => m.files.length - i) 0 ?_ ?_ ?_
    · simp -implicitDefEqProofs only [go_sem, reduceEqDiff, reduceAdd, reduceLeDiff, reduceLT, reduceMul, reduceEq, Int.reduceLT, reduceLE, Int.reduceAdd, reduceSub, reduceToNat, UInt8.reduceToNat, h1, h4]
    · exact ⟨Nat.zero_le _, ⟨z, ⟨hS, g1, g3⟩, rfl⟩, [], [], gim, SeenOK.nil, rfl⟩
    clear g1 g3 hg3 hdS gim hS h1 h4
    rintro i r G hv ⟨hi, ⟨z, ⟨hS, g1, g3⟩, hp⟩, es, seen, gim, hse, hE⟩
    have h1 := hv.1
    have h4 := hv.2.1
    have h8 := hv.2.2.1
    have hl := hv.2.2.2.1
    have hn := hv.2.2.2.2.1
    have hi2 := hv.2.2.2.2.2.1
    clear hv
    by_cases g : i < m.files.length
    rotate_left
    · have x0 : decide ((i : Int) < m.files.length) = false := decide_eq_false (by omega)
      obtain rfl : i = m.files.length := by omega
      rw [List.drop_length, filesE] at hE
      simp -implicitDefEqProofs only [go_sem, reduceEqDiff, reduceAdd, reduceLeDiff, reduceLT, reduceMul, reduceEq, Int.reduceLT, reduceLE, Int.reduceAdd, reduceSub, reduceToNat, UInt8.reduceToNat, h1, h4, h8, hl, hn, hi2, x0]
      exact ⟨hE, ⟨z, hS, g1, g3⟩, by simp -implicitDefEqProofs only [go_sem, reduceEqDiff, reduceAdd, reduceLeDiff, reduceLT, reduceMul, reduceEq, Int.reduceLT, reduceLE, Int.reduceAdd, reduceSub, reduceToNat, UInt8.reduceToNat, h1, h4]⟩
    have x0 : decide ((i : Int) < m.files.length) = true := decide_eq_true (by omega)
    obtain ⟨x, hx⟩ : ∃ x, m.files[i]? = some x := getD_get' g
    have hxr := r2 x (List.mem_of_getElem? hx)
    have ws : IntKind.i64.wrap ((i : Int) + 1) = ((i + 1 : Nat) : Int) := by rw [Go.IntWalk.i64_in _ (by omega)]; omega
    have hps := prevK_succ (·.path) hx
    have hU : ∀ (a : FileV), a ∈ m.files → (encFile a).length = 3 := fun _ _ => rfl
    rw [drop_at hx] at hE
    obtain ⟨xpath, xdata, xruns⟩ := x
    have hr1 := hxr.1
    simp only at hr1 hps
    rw [filesE_step rfl] at hE
    simp only at hE
    have hb := fun G (h : G i3 = some (.cells [.str z])) => behind_calls i xpath z _ i3 G h hp
    generalize prevK (·.path) m.files i = pk at *
    simp -implicitDefEqProofs only [go_sem, reduceEqDiff, reduceAdd, reduceLeDiff, reduceLT, reduceMul, reduceEq, Int.reduceLT, reduceLE, Int.reduceAdd, reduceSub, reduceToNat, UInt8.reduceToNat, h1, h4, h8, hl, hn, hi2, x0, hx]
    refine ⟨hU, Nat.le_refl _, ?_⟩
    simp only [encFile, List.take_succ_cons, List.take_zero, List.take_nil]
    with_reducible refine nwC_intro fun i6 hi6 => ?_
    simp -implicitDefEqProofs only [go_sem, reduceEqDiff, reduceAdd, reduceLeDiff, reduceLT, reduceMul, reduceEq, Int.reduceLT, reduceLE, Int.reduceAdd, reduceSub, reduceToNat, UInt8.reduceToNat]
    generalize E6 : Heap.put G i6 _ = G6
    have hO_6 := obj_new E6 hi6 hS
    have n6 := hO_6.1
    have hS := hO_6.2.1
    have g6 := hO_6.2.2.1
    have d1_6 := obj_ne g1 hi6
    have g1 := hO_6.2.2.2 _ _ g1
    have d3_6 := obj_ne g3 hi6
    have g3 := hO_6.2.2.2 _ _ g3
    have dim_6 := obj_ne gim hi6
    have gim := hO_6.2.2.2 _ _ gim
    clear hO_6
    simp -implicitDefEqProofs only [go_sem, reduceEqDiff, reduceAdd, reduceLeDiff, reduceLT, reduceMul, reduceEq, Int.reduceLT, reduceLE, Int.reduceAdd, reduceSub, reduceToNat, UInt8.reduceToNat, h1, h4, h8, hl, hn, hi2, g6, puRC, sFileE, hxr]
    refine (hb _ g3).pure_next2 ?_
    generalize E3 : Heap.put G6 i3 _ = G7
    have hS := obj_sub E3 n3 hS
    have g3 := obj_at E3
    have g1 := obj_keep E3 (by first | exact d1_3 | exact fun e => d3_1 e.symm) g1
    have g6 := obj_keep E3 (by first | exact d6_3 | exact fun e => d3_6 e.symm) g6
    have gim := obj_keep E3 (by first | exact dim_3 | exact fun e => d3_im e.symm) gim
    simp -implicitDefEqProofs only [go_sem, reduceEqDiff, reduceAdd, reduceLeDiff, reduceLT, reduceMul, reduceEq, Int.reduceLT, reduceLE, Int.reduceAdd, reduceSub, reduceToNat, UInt8.reduceToNat, h1, h4, h8, hl, hn, hi2, g6, puRC, sFirst, first2]
    generalize (if fileErr ⟨xpath, xdata, xruns⟩ ≠ 0 then fileErr ⟨xpath, xdata, xruns⟩ else bV pk xpath) = e at *
    have fin : ∀ e2 : Int, e2 ≠ 0 → filesE none [] m.files = e2 → macErr m = e2 := fun e2 h1 h2 => by rw [hM, if_pos (by rw [h2]; exact h1), h2]
    by_cases c1 : e = 0
    rotate_left
    · have y1 : decide (e = 0) = false := decide_eq_false c1
      have y2 : decide (¬ e = 0) = true := decide_eq_true c1
      rw [if_pos c1] at hE
      simp -implicitDefEqProofs only [go_sem, reduceEqDiff, reduceAdd, reduceLeDiff, reduceLT, reduceMul, reduceEq, Int.reduceLT, reduceLE, Int.reduceAdd, reduceSub, reduceToNat, UInt8.reduceToNat, h1, h4, h8, hl, hn, hi2, y1, y2]
      exact Done.drop hS ⟨by rw [fin e c1 hE], rfl⟩
    subst c1
    rw [if_neg (by simp)] at hE
    simp -implicitDefEqProofs only [go_sem, reduceEqDiff, reduceAdd, reduceLeDiff, reduceLT, reduceMul, reduceEq, Int.reduceLT, reduceLE, Int.reduceAdd, reduceSub, reduceToNat, UInt8.reduceToNat, h1, h4, h8, hl, hn, hi2, g6]
    with_reducible refine aloop_cut 4 (fun r G => RcM m ta tb tc td H i1 i3 G xpath ∧ G im = some (.map .str es) ∧ G i6 = some (.cells [.str xpath, .str xdata, .bool xruns]) ∧ agrees r [(1, .ptr i1 0), (4, .func 59 [.ptr i3 0]), (8, .map im), (10, .ptr i6 0), (11, .int .i64 (if clash seen xpath = true then 11 else 0)), (73, .sl (m.files.map encFile) tb), (74, .int .i64 m.files.length), (75, .int .i64 i)]) ?_ ?_
    rotate_left
    · refine aloop_intro (σ := Nat) (fun k => [(1, .ptr i1 0), (4, .func 59 [.ptr i3 0]), (8, .map im), (10, .ptr i6 0), (11, .int .i64 (if clashTo seen xpath k = true then 11 else 0)), (73, .sl (m.files.map encFile) tb), (74, .int .i64 m.files.length), (75, .int .i64 i), (93, .int .i64 xpath.length), (94, .int .i64 k)])
        (fun k G => G = G7 ∧ k ≤ xpath.length) (fun k => xpath.length - k) 0 ?_ ?_ ?_
      · simp -implicitDefEqProofs only [go_sem, reduceEqDiff, reduceAdd, reduceLeDiff, reduceLT, reduceMul, reduceEq, Int.reduceLT, reduceLE, Int.reduceAdd, reduceSub, reduceToNat, UInt8.reduceToNat, h1, h4, h8, hl, hn, hi2]
        exact rfl
      · exact ⟨rfl, Nat.zero_le _⟩
      clear h1 h4 h8 hl hn hi2
      rintro k r G hv ⟨rfl, hk⟩
      have h1 := hv.1
      have h4 := hv.2.1
      have h8 := hv.2.2.1
      have h10 := hv.2.2.2.1
      have h11 := hv.2.2.2.2.1
      have hl := hv.2.2.2.2.2.1
      have hn := hv.2.2.2.2.2.2.1
      have hi2 := hv.2.2.2.2.2.2.2.1
      have h93 := hv.2.2.2.2.2.2.2.2.1
      have h94 := hv.2.2.2.2.2.2.2.2.2.1
      clear hv
      by_cases gk : k < xpath.length
      rotate_left
      · have x2 : decide ((k : Int) < xpath.length) = false := decide_eq_false (by omega)
        obtain rfl : k = xpath.length := by omega
        rw [clashTo_all] at h11
        simp -implicitDefEqProofs only [go_sem, reduceEqDiff, reduceAdd, reduceLeDiff, reduceLT, reduceMul, reduceEq, Int.reduceLT, reduceLE, Int.reduceAdd, reduceSub, reduceToNat, UInt8.reduceToNat, h1, h4, h8, h10, h11, hl, hn, hi2, h93, h94, x2]
        exact ⟨⟨hS, g1, g3⟩, gim, g6⟩
      have x2 : decide ((k : Int) < xpath.length) = true := decide_eq_true (by omega)
      obtain ⟨c, hc⟩ : ∃ c, xpath[k]? = some c := getD_get' gk
      have wk : IntKind.i64.wrap ((k : Int) + 1) = ((k + 1 : Nat) : Int) := by rw [Go.IntWalk.i64_in _ (by omega)]; omega
      have e47 := @u8_eq c 47 (by decide)
      have hsx := clashTo_succ seen xpath k
      rw [hc] at hsx
      by_cases d1 : c = 47
      rotate_left
      · have x3 : decide ((c.toNat : Int) = 47) = false := decide_eq_false (fun e => d1 (e47.1 e))
        have hsy : clashTo seen xpath (k + 1) = clashTo seen xpath k := by rw [hsx]; simp [d1]
        simp -implicitDefEqProofs only [go_sem, reduceEqDiff, reduceAdd, reduceLeDiff, reduceLT, reduceMul, reduceEq, Int.reduceLT, reduceLE, Int.reduceAdd, reduceSub, reduceToNat, UInt8.reduceToNat, h1, h4, h8, h10, h11, hl, hn, hi2, h93, h94, x2, g6, hc, x3, wk]
        exact Again.mk (k + 1) (by simp -implicitDefEqProofs only [go_sem, reduceEqDiff, reduceAdd, reduceLeDiff, reduceLT, reduceMul, reduceEq, Int.reduceLT, reduceLE, Int.reduceAdd, reduceSub, reduceToNat, UInt8.reduceToNat, h1, h4, h8, h10, h11, hl, hn, hi2, h93, hsy]) ⟨rfl, by omega⟩ (by omega)
      have x3 : decide ((c.toNat : Int) = 47) = true := decide_eq_true (e47.2 d1)
      subst d1
      rw [decide_eq_true rfl, Bool.true_and] at hsx
      have hg := hse.get (xpath.take k)
      cases hct : seen.contains (xpath.take k) with
      | true =>
        rw [hct, Bool.or_true] at hsx
        rw [hct] at hg
        simp -implicitDefEqProofs only [go_sem, reduceEqDiff, reduceAdd, reduceLeDiff, reduceLT, reduceMul, reduceEq, Int.reduceLT, reduceLE, Int.reduceAdd, reduceSub, reduceToNat, UInt8.reduceToNat, h1, h4, h8, h10, h11, hl, hn, hi2, h93, h94, x2, g6, hc, x3, wk, gim, hg, Int.toNat_natCast]
        refine ⟨by omega, ?_⟩
        exact Again.mk (k + 1) (by simp -implicitDefEqProofs only [go_sem, reduceEqDiff, reduceAdd, reduceLeDiff, reduceLT, reduceMul, reduceEq, Int.reduceLT, reduceLE, Int.reduceAdd, reduceSub, reduceToNat, UInt8.reduceToNat, h1, h4, h8, h10, hl, hn, hi2, h93, hsx]) ⟨rfl, by omega⟩ (by omega)
      | false =>
        rw [hct, Bool.or_false] at hsx
        rw [hct] at hg
        simp -implicitDefEqProofs only [go_sem, reduceEqDiff, reduceAdd, reduceLeDiff, reduceLT, reduceMul, reduceEq, Int.reduceLT, reduceLE, Int.reduceAdd, reduceSub, reduceToNat, UInt8.reduceToNat, h1, h4, h8, h10, h11, hl, hn, hi2, h93, h94, x2, g6, hc, x3, wk, gim, hg, Int.toNat_natCast]
        refine ⟨by omega, ?_⟩
        exact Again.mk (k + 1) (by simp -implicitDefEqProofs only [go_sem, reduceEqDiff, reduceAdd, reduceLeDiff, reduceLT, reduceMul, reduceEq, Int.reduceLT, reduceLE, Int.reduceAdd, reduceSub, reduceToNat, UInt8.reduceToNat, h1, h4, h8, h10, h11, hl, hn, hi2, h93, hsx]) ⟨rfl, by omega⟩ (by omega)
    clear g1 g3 gim g6 hS h1 h4 h8 hl hn hi2
    rintro r G ⟨⟨hS, g1, g3⟩, gim, g6, hv⟩
    have h1 := hv.1
    have h4 := hv.2.1
    have h8 := hv.2.2.1
    have h10 := hv.2.2.2.1
    have h11 := hv.2.2.2.2.1
    have hl := hv.2.2.2.2.2.1
    have hn := hv.2.2.2.2.2.2.1
    have hi2 := hv.2.2.2.2.2.2.2.1
    clear hv
    cases hct : clash seen xpath with
    | true =>
      rw [hct, if_pos rfl] at h11 hE
      simp -implicitDefEqProofs only [go_sem, reduceEqDiff, reduceAdd, reduceLeDiff, reduceLT, reduceMul, reduceEq, Int.reduceLT, reduceLE, Int.reduceAdd, reduceSub, reduceToNat, UInt8.reduceToNat, h1, h4, h8, h10, h11, hl, hn, hi2]
      exact Done.drop hS ⟨by rw [fin 11 (by decide) hE], rfl⟩
    | false =>
      rw [hct, if_neg (by simp)] at h11 hE
      simp -implicitDefEqProofs only [go_sem, reduceEqDiff, reduceAdd, reduceLeDiff, reduceLT, reduceMul, reduceEq, Int.reduceLT, reduceLE, Int.reduceAdd, reduceSub, reduceToNat, UInt8.reduceToNat, h1, h4, h8, h10, h11, hl, hn, hi2, g6, gim, ws]
      refine Again.mk (i + 1) (by simp -implicitDefEqProofs only [go_sem, reduceEqDiff, reduceAdd, reduceLeDiff, reduceLT, reduceMul, reduceEq, Int.reduceLT, reduceLE, Int.reduceAdd, reduceSub, reduceToNat, UInt8.reduceToNat, h1, h4, h8, hl, hn]) ⟨by omega, ⟨xpath, ⟨hS.put' nim _, by rw [put_ne _ _ _ _ d1_im]; exact g1, by rw [put_ne _ _ _ _ d3_im]; exact g3⟩, by rw [hps, if_neg (by omega)]⟩, _, xpath :: seen, put_same _ _ _, hse.set xpath, ?_⟩ (by omega)
      rw [hE, hps]
  clear g1 g3 hg3 hdS gim hS h1 h4
  rintro r G ⟨he2, ⟨z, hZ⟩, hv⟩
  have h1 := hv.1
  have h4 := hv.2.1
  have g1 := hZ.2.1
  clear hv
  simp only [encMac] at g1
  rw [if_neg (by simpa using he2)] at hM
  simp -implicitDefEqProofs only [go_sem, reduceEqDiff, reduceAdd, reduceLeDiff, reduceLT, reduceMul, reduceEq, Int.reduceLT, reduceLE, Int.reduceAdd, reduceSub, reduceToNat, UInt8.reduceToNat, h1, h4, g1]
  with_reducible refine aloop_cut 6 (RcQ (eachE setErr (·.key) none m.sets = 0) m ta tb tc td H i1 i3) ?_ ?_
  rotate_left
  · refine aloop_intro (σ := Nat) (fun i => [(1, .ptr i1 0), (4, .func 59 [.ptr i3 0]), (119, .sl (m.sets.map encSet) tc), (120, .int .i64 m.sets.length), (121, .int .i64 i)])
      (RcI setErr (·.key) m.sets m ta tb tc td H i1 i3) (fun i => m.sets.length - i) 0 ?_ ?_ ?_
    · simp -implicitDefEqProofs only [go_sem, reduceEqDiff, reduceAdd, reduceLeDiff, reduceLT, reduceMul, reduceEq, Int.reduceLT, reduceLE, Int.reduceAdd, reduceSub, reduceToNat, UInt8.reduceToNat, h1, h4]
    · exact ⟨Nat.zero_le _, rfl, z, hZ, rfl⟩
    clear hZ h1 h4
    rintro i r G hv ⟨hi, hE, z, ⟨hS, g1, g3⟩, hp⟩
    have h1 := hv.1
    have h4 := hv.2.1
    have hl := hv.2.2.1
    have hn := hv.2.2.2.1
    have hi2 := hv.2.2.2.2.1
    clear hv
    by_cases g : i < m.sets.length
    rotate_left
    · have x0 : decide ((i : Int) < m.sets.length) = false := decide_eq_false (by omega)
      obtain rfl : i = m.sets.length := by omega
      rw [List.drop_length, eachE] at hE
      simp -implicitDefEqProofs only [go_sem, reduceEqDiff, reduceAdd, reduceLeDiff, reduceLT, reduceMul, reduceEq, Int.reduceLT, reduceLE, Int.reduceAdd, reduceSub, reduceToNat, UInt8.reduceToNat, h1, h4, hl, hn, hi2, x0]
      exact ⟨hE, ⟨z, hS, g1, g3⟩, by simp -implicitDefEqProofs only [go_sem, reduceEqDiff, reduceAdd, reduceLeDiff, reduceLT, reduceMul, reduceEq, Int.reduceLT, reduceLE, Int.reduceAdd, reduceSub, reduceToNat, UInt8.reduceToNat, h1, h4]⟩
    have x0 : decide ((i : Int) < m.sets.length) = true := decide_eq_true (by omega)
    obtain ⟨x, hx⟩ : ∃ x, m.sets[i]? = some x := getD_get' g
    have hxr := r3 x (List.mem_of_getElem? hx)
    have ws : IntKind.i64.wrap ((i : Int) + 1) = ((i + 1 : Nat) : Int) := by rw [Go.IntWalk.i64_in _ (by omega)]; omega
    have hps := prevK_succ (·.key) hx
    have hU : ∀ (a : SetV), a ∈ m.sets → (encSet a).length = 2 := fun _ _ => rfl
    rw [drop_at hx] at hE
    obtain ⟨xkey, xvalue⟩ := x
    have hr1 := hxr.1
    have hr2 := hxr.2
    simp only at hr1 hr2 hps
    rw [eachE_step setErr (·.key) rfl] at hE
    have hb := fun G (h : G i3 = some (.cells [.str z])) => behind_calls i xkey z _ i3 G h hp
    generalize prevK (·.key) m.sets i = pk at *
    simp -implicitDefEqProofs only [go_sem, reduceEqDiff, reduceAdd, reduceLeDiff, reduceLT, reduceMul, reduceEq, Int.reduceLT, reduceLE, Int.reduceAdd, reduceSub, reduceToNat, UInt8.reduceToNat, h1, h4, hl, hn, hi2, x0, hx]
    refine ⟨hU, Nat.le_refl _, ?_⟩
    simp only [encSet, List.take_succ_cons, List.take_zero, List.take_nil]
    with_reducible refine nwC_intro fun i6 hi6 => ?_
    simp -implicitDefEqProofs only [go_sem, reduceEqDiff, reduceAdd, reduceLeDiff, reduceLT, reduceMul, reduceEq, Int.reduceLT, reduceLE, Int.reduceAdd, reduceSub, reduceToNat, UInt8.reduceToNat]
    generalize E6 : Heap.put G i6 _ = G6
    have hO_6 := obj_new E6 hi6 hS
    have n6 := hO_6.1
    have hS := hO_6.2.1
    have g6 := hO_6.2.2.1
    have d1_6 := obj_ne g1 hi6
    have g1 := hO_6.2.2.2 _ _ g1
    have d3_6 := obj_ne g3 hi6
    have g3 := hO_6.2.2.2 _ _ g3
    clear hO_6
    simp -implicitDefEqProofs only [go_sem, reduceEqDiff, reduceAdd, reduceLeDiff, reduceLT, reduceMul, reduceEq, Int.reduceLT, reduceLE, Int.reduceAdd, reduceSub, reduceToNat, UInt8.reduceToNat, h1, h4, hl, hn, hi2, g6, puRC, sSetE, hR, hr1, hr2, hxr]
    refine (hb _ g3).pure_next2 ?_
    generalize E3 : Heap.put G6 i3 _ = G7
    have hS := obj_sub E3 n3 hS
    have g3 := obj_at E3
    have g1 := obj_keep E3 (by first | exact d1_3 | exact fun e => d3_1 e.symm) g1
    have g6 := obj_keep E3 (by first | exact d6_3 | exact fun e => d3_6 e.symm) g6
    simp -implicitDefEqProofs only [go_sem, reduceEqDiff, reduceAdd, reduceLeDiff, reduceLT, reduceMul, reduceEq, Int.reduceLT, reduceLE, Int.reduceAdd, reduceSub, reduceToNat, UInt8.reduceToNat, h1, h4, hl, hn, hi2, g6, puRC, sFirst, sFirst, first2]
    generalize (if setErr ⟨xkey, xvalue⟩ ≠ 0 then setErr ⟨xkey, xvalue⟩ else bV pk xkey) = e at *
    by_cases c1 : e = 0
    · have y1 : decide (¬ e = 0) = false := decide_eq_false (by simpa using c1)
      rw [if_neg (by simpa using c1), ← hps] at hE
      simp -implicitDefEqProofs only [go_sem, reduceEqDiff, reduceAdd, reduceLeDiff, reduceLT, reduceMul, reduceEq, Int.reduceLT, reduceLE, Int.reduceAdd, reduceSub, reduceToNat, UInt8.reduceToNat, h1, h4, hl, hn, hi2, y1, ws]
      exact Again.mk (i + 1) (by simp -implicitDefEqProofs only [go_sem, reduceEqDiff, reduceAdd, reduceLeDiff, reduceLT, reduceMul, reduceEq, Int.reduceLT, reduceLE, Int.reduceAdd, reduceSub, reduceToNat, UInt8.reduceToNat, h1, h4, hl, hn]) ⟨by omega, hE, xkey, ⟨hS, g1, g3⟩, by rw [hps, if_neg (by omega)]⟩ (by omega)
    · have y1 : decide (¬ e = 0) = true := decide_eq_true c1
      rw [if_pos c1] at hE
      simp -implicitDefEqProofs only [go_sem, reduceEqDiff, reduceAdd, reduceLeDiff, reduceLT, reduceMul, reduceEq, Int.reduceLT, reduceLE, Int.reduceAdd, reduceSub, reduceToNat, UInt8.reduceToNat, h1, h4, hl, hn, hi2, y1]
      exact Done.drop hS ⟨by rw [hM, if_pos (by rw [hE]; exact c1), hE], rfl⟩
  rintro r G ⟨he3, ⟨z, hZ⟩, hv⟩
  have h1 := hv.1
  have h4 := hv.2.1
  have g1 := hZ.2.1
  clear hv
  simp only [encMac] at g1
  rw [if_neg (by simpa using he3)] at hM
  simp -implicitDefEqProofs only [go_sem, reduceEqDiff, reduceAdd, reduceLeDiff, reduceLT, reduceMul, reduceEq, Int.reduceLT, reduceLE, Int.reduceAdd, reduceSub, reduceToNat, UInt8.reduceToNat, h1, h4, g1]
  with_reducible refine aloop_cut 8 (RcQ (eachE svcErr (·.name) none m.svcs = 0) m ta tb tc td H i1 i3) ?_ ?_
  rotate_left
  · refine aloop_intro (σ := Nat) (fun i => [(1, .ptr i1 0), (4, .func 59 [.ptr i3 0]), (140, .sl (m.svcs.map encSvc) td), (141, .int .i64 m.svcs.length), (142, .int .i64 i)])
      (RcI svcErr (·.name) m.svcs m ta tb tc td H i1 i3) (fun i => m.svcs.length - i) 0 ?_ ?_ ?_
    · simp -implicitDefEqProofs only [go_sem, reduceEqDiff, reduceAdd, reduceLeDiff, reduceLT, reduceMul, reduceEq, Int.reduceLT, reduceLE, Int.reduceAdd, reduceSub, reduceToNat, UInt8.reduceToNat, h1, h4]
    · exact ⟨Nat.zero_le _, rfl, z, hZ, rfl⟩
    clear hZ h1 h4
    rintro i r G hv ⟨hi, hE, z, ⟨hS, g1, g3⟩, hp⟩
    have h1 := hv.1
    have h4 := hv.2.1
    have hl := hv.2.2.1
    have hn := hv.2.2.2.1
    have hi2 := hv.2.2.2.2.1
    clear hv
    by_cases g : i < m.svcs.length
    rotate_left
    · have x0 : decide ((i : Int) < m.svcs.length) = false := decide_eq_false (by omega)
      obtain rfl : i = m.svcs.length := by omega
      rw [List.drop_length, eachE] at hE
      simp -implicitDefEqProofs only [go_sem, reduceEqDiff, reduceAdd, reduceLeDiff, reduceLT, reduceMul, reduceEq, Int.reduceLT, reduceLE, Int.reduceAdd, reduceSub, reduceToNat, UInt8.reduceToNat, h1, h4, hl, hn, hi2, x0]
      exact ⟨hE, ⟨z, hS, g1, g3⟩, by simp -implicitDefEqProofs only [go_sem, reduceEqDiff, reduceAdd, reduceLeDiff, reduceLT, reduceMul, reduceEq, Int.reduceLT, reduceLE, Int.reduceAdd, reduceSub, reduceToNat, UInt8.reduceToNat, h1, h4]⟩
    have x0 : decide ((i : Int) < m.svcs.length) = true := decide_eq_true (by omega)
    obtain ⟨x, hx⟩ : ∃ x, m.svcs[i]? = some x := getD_get' g
    have hxr := r4 x (List.mem_of_getElem? hx)
    have ws : IntKind.i64.wrap ((i : Int) + 1) = ((i + 1 : Nat) : Int) := by rw [Go.IntWalk.i64_in _ (by omega)]; omega
    have hps := prevK_succ (·.name) hx
    have hU : ∀ (a : SvcV), a ∈ m.svcs → (encSvc a).length = 4 := fun _ _ => rfl
    rw [drop_at hx] at hE
    obtain ⟨xname, xpath, xauto, xon⟩ := x
    have hr1 := hxr.1
    have hr2 := hxr.2
    simp only at hr1 hr2 hps
    rw [eachE_step svcErr (·.name) rfl] at hE
    have hb := fun G (h : G i3 = some (.cells [.str z])) => behind_calls i xname z _ i3 G h hp
    generalize prevK (·.name) m.svcs i = pk at *
    simp -implicitDefEqProofs only [go_sem, reduceEqDiff, reduceAdd, reduceLeDiff, reduceLT, reduceMul, reduceEq, Int.reduceLT, reduceLE, Int.reduceAdd, reduceSub, reduceToNat, UInt8.reduceToNat, h1, h4, hl, hn, hi2, x0, hx]
    refine ⟨hU, Nat.le_refl _, ?_⟩
    simp only [encSvc, List.take_succ_cons, List.take_zero, List.take_nil]
    with_reducible refine nwC_intro fun i6 hi6 => ?_
    simp -implicitDefEqProofs only [go_sem, reduceEqDiff, reduceAdd, reduceLeDiff, reduceLT, reduceMul, reduceEq, Int.reduceLT, reduceLE, Int.reduceAdd, reduceSub, reduceToNat, UInt8.reduceToNat]
    generalize E6 : Heap.put G i6 _ = G6
    have hO_6 := obj_new E6 hi6 hS
    have n6 := hO_6.1
    have hS := hO_6.2.1
    have g6 := hO_6.2.2.1
    have d1_6 := obj_ne g1 hi6
    have g1 := hO_6.2.2.2 _ _ g1
    have d3_6 := obj_ne g3 hi6
    have g3 := hO_6.2.2.2 _ _ g3
    clear hO_6
    simp -implicitDefEqProofs only [go_sem, reduceEqDiff, reduceAdd, reduceLeDiff, reduceLT, reduceMul, reduceEq, Int.reduceLT, reduceLE, Int.reduceAdd, reduceSub, reduceToNat, UInt8.reduceToNat, h1, h4, hl, hn, hi2, g6, puRC, sSvcE, hR, hr1, hr2, hxr]
    refine (hb _ g3).pure_next2 ?_
    generalize E3 : Heap.put G6 i3 _ = G7
    have hS := obj_sub E3 n3 hS
    have g3 := obj_at E3
    have g1 := obj_keep E3 (by first | exact d1_3 | exact fun e => d3_1 e.symm) g1
    have g6 := obj_keep E3 (by first | exact d6_3 | exact fun e => d3_6 e.symm) g6
    simp -implicitDefEqProofs only [go_sem, reduceEqDiff, reduceAdd, reduceLeDiff, reduceLT, reduceMul, reduceEq, Int.reduceLT, reduceLE, Int.reduceAdd, reduceSub, reduceToNat, UInt8.reduceToNat, h1, h4, hl, hn, hi2, g6, puRC, sFirst, sFirst, first2]
    generalize (if svcErr ⟨xname, xpath, xauto, xon⟩ ≠ 0 then svcErr ⟨xname, xpath, xauto, xon⟩ else bV pk xname) = e at *
    by_cases c1 : e = 0
    · have y1 : decide (¬ e = 0) = false := decide_eq_false (by simpa using c1)
      rw [if_neg (by simpa using c1), ← hps] at hE
      simp -implicitDefEqProofs only [go_sem, reduceEqDiff, reduceAdd, reduceLeDiff, reduceLT, reduceMul, reduceEq, Int.reduceLT, reduceLE, Int.reduceAdd, reduceSub, reduceToNat, UInt8.reduceToNat, h1, h4, hl, hn, hi2, y1, ws]
      exact Again.mk (i + 1) (by simp -implicitDefEqProofs only [go_sem, reduceEqDiff, reduceAdd, reduceLeDiff, reduceLT, reduceMul, reduceEq, Int.reduceLT, reduceLE, Int.reduceAdd, reduceSub, reduceToNat, UInt8.reduceToNat, h1, h4, hl, hn]) ⟨by omega, hE, xname, ⟨hS, g1, g3⟩, by rw [hps, if_neg (by omega)]⟩ (by omega)
    · have y1 : decide (¬ e = 0) = true := decide_eq_true c1
      rw [if_pos c1] at hE
      simp -implicitDefEqProofs only [go_sem, reduceEqDiff, reduceAdd, reduceLeDiff, reduceLT, reduceMul, reduceEq, Int.reduceLT, reduceLE, Int.reduceAdd, reduceSub, reduceToNat, UInt8.reduceToNat, h1, h4, hl, hn, hi2, y1]
      exact Done.drop hS ⟨by rw [hM, hE], rfl⟩
  rintro r G ⟨he4, ⟨z, hZ⟩, hv⟩
  have h1 := hv.1
  have h4 := hv.2.1
  have g1 := hZ.2.1
  clear hv
  simp only [encMac] at g1
  rw [he4] at hM
  simp -implicitDefEqProofs only [go_sem, reduceEqDiff, reduceAdd, reduceLeDiff, reduceLT, reduceMul, reduceEq, Int.reduceLT, reduceLE, Int.reduceAdd, reduceSub, reduceToNat, UInt8.reduceToNat, h1, h4, g1]
  exact Done.drop hZ.1 ⟨by rw [hM], rfl⟩
end Go.Proofs
