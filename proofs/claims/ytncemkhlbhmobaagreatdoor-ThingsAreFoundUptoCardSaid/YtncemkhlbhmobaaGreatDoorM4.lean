/-
  Walks and plain laws, part 4.
-/
import Derived.Test.YtncemkhlbhmobaaGreatDoorM1
import Derived.Test.YtncemkhlbhmobaaGreatDoorM2
import Derived.Test.YtncemkhlbhmobaaGreatDoorM3
/- Plain laws: what is quoted, and what quotes are read as. -/
namespace Go.Proofs
set_option linter.unusedSimpArgs false
set_option linter.unusedVariables false
end Go.Proofs

/- Walks: Quote, on both sides. -/
namespace Go.Proofs
open Go Go.Abs
open Nat (reduceEqDiff reduceAdd reduceLeDiff reduceLT reduceMul)
open Int (reduceEq reduceLE reduceSub reduceToNat)
set_option linter.unusedSimpArgs false
set_option linter.unusedVariables false
set_option maxRecDepth 20000
theorem u8_eq {c : UInt8} {n : Nat} (h : n < 256) : ((c.toNat : Int) = n) ↔ c = UInt8.ofNat n := by
  constructor
  · intro e
    apply UInt8.toNat_inj.1
    simp only [UInt8.toNat_ofNat']
    omega
  · rintro rfl
    simp only [UInt8.toNat_ofNat']
    omega
/-! ### The reference's -/
end Go.Proofs

/- Walks: Check, on the program's side. -/
namespace Go.Proofs
open Go Go.Abs
open Nat (reduceEqDiff reduceAdd reduceLeDiff reduceLT reduceMul)
open Int (reduceEq reduceLE reduceSub reduceToNat)
set_option linter.unusedSimpArgs false
set_option linter.unusedVariables false
set_option maxRecDepth 20000
/-- The map of paths stands behind a cell. -/
def PathsOK (G : Heap) (i5 im : Nat) (seen : List Bytes) : Prop := G i5 = some (.cells [.map im]) ∧ ∃ es, G im = some (.map .str es) ∧ SeenOK es seen
theorem check2_calls (G : Heap) (i5 im : Nat) (seen : List Bytes) (d : Bytes) (h : PathsOK G i5 im seen) : ACalls Tryz.prog 93 [.str d, .ptr i5 0] G fun x H' => x = .bool (!seen.contains d) ∧ H' = G := by
  obtain ⟨h1, es, h2, h3⟩ := h
  have hg := h3.get d
  refine ACalls.of_code (X := { pure := pu0 }) pu0_ok Tryz.func93 (by kernel_rfl) rfl (by kernel_rfl) (Nat.le_of_ble_eq_true rfl) ?_
  simp -implicitDefEqProofs only [go_sem, reduceEqDiff, reduceAdd, reduceLeDiff, reduceLT, reduceMul, reduceEq, Int.reduceLT, reduceLE, Int.reduceAdd, reduceSub, reduceToNat, UInt8.reduceToNat, Tryz.f93, h1, h2, hg]
  exact Done.now ⟨rfl, rfl⟩
set_option maxHeartbeats 1600000 in
theorem above_calls (p : Bytes) (G : Heap) (i5 im : Nat) (seen : List Bytes) (h : PathsOK G i5 im seen) (hp : p.length ≤ 1099511627776) :
    ACalls Tryz.prog 92 [.str p, .func 93 [.ptr i5 0]] G fun x H' => x = .bool (!clash seen p) ∧ H' = G := by
  refine ACalls.of_code (X := { pure := pu0 }) pu0_ok Tryz.func92 (by kernel_rfl) rfl (by kernel_rfl) (Nat.le_of_ble_eq_true rfl) ?_
  simp -implicitDefEqProofs only [go_sem, reduceEqDiff, reduceAdd, reduceLeDiff, reduceLT, reduceMul, reduceEq, Int.reduceLT, reduceLE, Int.reduceAdd, reduceSub, reduceToNat, UInt8.reduceToNat, Tryz.f92]
  refine aloop_intro (σ := Nat) (fun i => [(0, .str p), (1, .func 93 [.ptr i5 0]), (5, .int .i64 i)]) (fun i G' => G' = G ∧ i ≤ p.length ∧ clashTo seen p i = false) (fun i => p.length - i) 0 ?_ ?_ ?_
  · simp -implicitDefEqProofs only [go_sem, reduceEqDiff, reduceAdd, reduceLeDiff, reduceLT, reduceMul, reduceEq, Int.reduceLT, reduceLE, Int.reduceAdd, reduceSub, reduceToNat, UInt8.reduceToNat]
  · exact ⟨rfl, Nat.zero_le _, rfl⟩
  rintro i r G' hv ⟨rfl, hi, hE⟩
  have h0 := hv.1
  have h1 := hv.2.1
  have h5 := hv.2.2.1
  clear hv
  by_cases g : i < p.length
  rotate_left
  · have y0 : decide ((i : Int) < p.length) = false := decide_eq_false (by omega)
    obtain rfl : i = p.length := by omega
    simp -implicitDefEqProofs only [go_sem, reduceEqDiff, reduceAdd, reduceLeDiff, reduceLT, reduceMul, reduceEq, Int.reduceLT, reduceLE, Int.reduceAdd, reduceSub, reduceToNat, UInt8.reduceToNat, h0, h1, h5, y0]
    exact Done.now ⟨by rw [← clashTo_all, hE]; rfl, rfl⟩
  have y0 : decide ((i : Int) < p.length) = true := decide_eq_true (by omega)
  obtain ⟨c, hc⟩ : ∃ c, p[i]? = some c := getD_get' g
  have ws : IntKind.i64.wrap ((i : Int) + 1) = ((i + 1 : Nat) : Int) := by rw [Go.IntWalk.i64_in _ (by omega)]; omega
  have e47 := @u8_eq c 47 (by decide)
  have hs := clashTo_succ seen p i
  rw [hE, hc, Bool.false_or] at hs
  by_cases c1 : c = 47
  rotate_left
  · have y1 : decide ((c.toNat : Int) = 47) = false := decide_eq_false (fun e => c1 (e47.1 e))
    simp -implicitDefEqProofs only [go_sem, reduceEqDiff, reduceAdd, reduceLeDiff, reduceLT, reduceMul, reduceEq, Int.reduceLT, reduceLE, Int.reduceAdd, reduceSub, reduceToNat, UInt8.reduceToNat, h0, h1, h5, y0, hc, y1, ws]
    exact Again.mk (i + 1) (by simp -implicitDefEqProofs only [go_sem, reduceEqDiff, reduceAdd, reduceLeDiff, reduceLT, reduceMul, reduceEq, Int.reduceLT, reduceLE, Int.reduceAdd, reduceSub, reduceToNat, UInt8.reduceToNat, h0, h1, h5]) ⟨rfl, by omega, by rw [hs]; simp [c1]⟩ (by omega)
  have y1 : decide ((c.toNat : Int) = 47) = true := decide_eq_true (e47.2 c1)
  subst c1
  rw [decide_eq_true rfl, Bool.true_and] at hs
  simp -implicitDefEqProofs only [go_sem, reduceEqDiff, reduceAdd, reduceLeDiff, reduceLT, reduceMul, reduceEq, Int.reduceLT, reduceLE, Int.reduceAdd, reduceSub, reduceToNat, UInt8.reduceToNat, h0, h1, h5, y0, hc, y1, Int.toNat_natCast]
  refine ⟨by omega, ?_⟩
  refine (check2_calls _ i5 im seen _ h).pure_next _ ?_
  by_cases c2 : seen.contains (p.take i) = true
  · rw [c2] at hs ⊢
    simp -implicitDefEqProofs only [go_sem, reduceEqDiff, reduceAdd, reduceLeDiff, reduceLT, reduceMul, reduceEq, Int.reduceLT, reduceLE, Int.reduceAdd, reduceSub, reduceToNat, UInt8.reduceToNat, h0, h1, h5]
    exact Done.now ⟨by rw [← clashTo_all, clashTo_mono hs _ (by omega)]; rfl, rfl⟩
  · have c2 : seen.contains (p.take i) = false := by simpa using c2
    rw [c2] at hs ⊢
    simp -implicitDefEqProofs only [go_sem, reduceEqDiff, reduceAdd, reduceLeDiff, reduceLT, reduceMul, reduceEq, Int.reduceLT, reduceLE, Int.reduceAdd, reduceSub, reduceToNat, UInt8.reduceToNat, h0, h1, h5, ws]
    exact Again.mk (i + 1) (by simp -implicitDefEqProofs only [go_sem, reduceEqDiff, reduceAdd, reduceLeDiff, reduceLT, reduceMul, reduceEq, Int.reduceLT, reduceLE, Int.reduceAdd, reduceSub, reduceToNat, UInt8.reduceToNat, h0, h1, h5]) ⟨rfl, by omega, hs⟩ (by omega)
theorem macErr_counts {m : MacV} (h : 100 < m.facts.length ∨ 2000 < m.files.length ∨ 2000 < m.sets.length ∨ 100 < m.svcs.length) : macErr m = 4 := by rw [macErr, if_pos h]
def FilesI (m : MacV) (ta tb tc td : Tail) (H : Heap) (i1 i5 im : Nat) (i : Nat) (G : Heap) : Prop := H.Sub G ∧ i ≤ m.files.length ∧ G i1 = some (.cells (encMac m ta tb tc td)) ∧ ∃ seen, PathsOK G i5 im seen ∧ filesE none [] m.files = filesE (prevK (·.path) m.files i) seen (m.files.drop i)
set_option maxHeartbeats 6400000 in
theorem check_calls (m : MacV) (ta tb tc td : Tail) (H : Heap) (hr : macR m) : ACalls Tryz.prog 51 [.agg (encMac m ta tb tc td)] H fun x H' => x = .int .i64 (macErr m) ∧ H' = H := by
  obtain ⟨⟨l1, l2, l3, l4⟩, r1, r2, r3, r4⟩ := hr
  have hM := macErr.eq_1 m
  have hS := Heap.Sub.rfl' H
  have q1 := fun G => eachFact_calls m.facts ta G l1 r1
  have q3 := fun G => eachSet_calls m.sets tc G l3 r3
  have q4 := fun G => eachSvc_calls m.svcs td G l4 r4
  refine ACalls.of_code (X := { pure := pu0 }) pu0_ok Tryz.func51 (by kernel_rfl) rfl (by kernel_rfl) (Nat.le_of_ble_eq_true rfl) ?_
  simp -implicitDefEqProofs only [go_sem, reduceEqDiff, reduceAdd, reduceLeDiff, reduceLT, reduceMul, reduceEq, Int.reduceLT, reduceLE, Int.reduceAdd, reduceSub, reduceToNat, UInt8.reduceToNat, Tryz.f51, encMac]
  with_reducible refine nwC_intro fun i1 hi1 => ?_
  generalize E1 : Heap.put H i1 _ = G1
  have hO_1 := obj_new E1 hi1 hS
  have n1 := hO_1.1
  have hS := hO_1.2.1
  have g1 := hO_1.2.2.1
  clear hO_1
  by_cases c1 : 100 < m.facts.length
  · have y1 : decide ((100 : Int) < (m.facts.length : Int)) = true := decide_eq_true (by omega)
    simp -implicitDefEqProofs only [go_sem, reduceEqDiff, reduceAdd, reduceLeDiff, reduceLT, reduceMul, reduceEq, Int.reduceLT, reduceLE, Int.reduceAdd, reduceSub, reduceToNat, UInt8.reduceToNat, g1, y1]
    exact Done.drop hS ⟨by rw [macErr_counts (.inl c1)], rfl⟩
  have y1 : decide ((100 : Int) < (m.facts.length : Int)) = false := decide_eq_false (by omega)
  by_cases c2 : 2000 < m.files.length
  · have y2 : decide ((2000 : Int) < (m.files.length : Int)) = true := decide_eq_true (by omega)
    simp -implicitDefEqProofs only [go_sem, reduceEqDiff, reduceAdd, reduceLeDiff, reduceLT, reduceMul, reduceEq, Int.reduceLT, reduceLE, Int.reduceAdd, reduceSub, reduceToNat, UInt8.reduceToNat, g1, y1, y2]
    exact Done.drop hS ⟨by rw [macErr_counts (.inr (.inl c2))], rfl⟩
  have y2 : decide ((2000 : Int) < (m.files.length : Int)) = false := decide_eq_false (by omega)
  by_cases c3 : 2000 < m.sets.length
  · have y3 : decide ((2000 : Int) < (m.sets.length : Int)) = true := decide_eq_true (by omega)
    simp -implicitDefEqProofs only [go_sem, reduceEqDiff, reduceAdd, reduceLeDiff, reduceLT, reduceMul, reduceEq, Int.reduceLT, reduceLE, Int.reduceAdd, reduceSub, reduceToNat, UInt8.reduceToNat, g1, y1, y2, y3]
    exact Done.drop hS ⟨by rw [macErr_counts (.inr (.inr (.inl c3)))], rfl⟩
  have y3 : decide ((2000 : Int) < (m.sets.length : Int)) = false := decide_eq_false (by omega)
  by_cases c4 : 100 < m.svcs.length
  · have y4 : decide ((100 : Int) < (m.svcs.length : Int)) = true := decide_eq_true (by omega)
    simp -implicitDefEqProofs only [go_sem, reduceEqDiff, reduceAdd, reduceLeDiff, reduceLT, reduceMul, reduceEq, Int.reduceLT, reduceLE, Int.reduceAdd, reduceSub, reduceToNat, UInt8.reduceToNat, g1, y1, y2, y3, y4]
    exact Done.drop hS ⟨by rw [macErr_counts (.inr (.inr (.inr c4)))], rfl⟩
  have y4 : decide ((100 : Int) < (m.svcs.length : Int)) = false := decide_eq_false (by omega)
  rw [if_neg (by omega)] at hM
  simp -implicitDefEqProofs only [go_sem, reduceEqDiff, reduceAdd, reduceLeDiff, reduceLT, reduceMul, reduceEq, Int.reduceLT, reduceLE, Int.reduceAdd, reduceSub, reduceToNat, UInt8.reduceToNat, g1, y1, y2, y3, y4]
  refine (q1 _).pure_next _ ?_
  by_cases d1 : eachE factErr (·.key) none m.facts = 0
  rotate_left
  · have z1 : decide (¬ eachE factErr (·.key) none m.facts = 0) = true := decide_eq_true d1
    rw [if_pos d1] at hM
    simp -implicitDefEqProofs only [go_sem, reduceEqDiff, reduceAdd, reduceLeDiff, reduceLT, reduceMul, reduceEq, Int.reduceLT, reduceLE, Int.reduceAdd, reduceSub, reduceToNat, UInt8.reduceToNat, z1]
    exact Done.drop hS ⟨by rw [hM], rfl⟩
  have z1 : decide (¬ eachE factErr (·.key) none m.facts = 0) = false := decide_eq_false (by simpa using d1)
  rw [if_neg (by simpa using d1)] at hM
  simp -implicitDefEqProofs only [go_sem, reduceEqDiff, reduceAdd, reduceLeDiff, reduceLT, reduceMul, reduceEq, Int.reduceLT, reduceLE, Int.reduceAdd, reduceSub, reduceToNat, UInt8.reduceToNat, z1]
  with_reducible refine nwM_intro fun im him => ?_
  generalize Eim : Heap.put G1 im _ = G2
  have hO_im := obj_new Eim him hS
  have nim := hO_im.1
  have hS := hO_im.2.1
  have gim := hO_im.2.2.1
  have d1_im := obj_ne g1 him
  have g1 := hO_im.2.2.2 _ _ g1
  clear hO_im
  simp -implicitDefEqProofs only [go_sem, reduceEqDiff, reduceAdd, reduceLeDiff, reduceLT, reduceMul, reduceEq, Int.reduceLT, reduceLE, Int.reduceAdd, reduceSub, reduceToNat, UInt8.reduceToNat]
  with_reducible refine nwC_intro fun i5 hi5 => ?_
  simp -implicitDefEqProofs only [go_sem, reduceEqDiff, reduceAdd, reduceLeDiff, reduceLT, reduceMul, reduceEq, Int.reduceLT, reduceLE, Int.reduceAdd, reduceSub, reduceToNat, UInt8.reduceToNat]
  generalize E5 : Heap.put G2 i5 _ = G5
  have hO_5 := obj_new E5 hi5 hS
  have n5 := hO_5.1
  have hS := hO_5.2.1
  have g5 := hO_5.2.2.1
  have d1_5 := obj_ne g1 hi5
  have g1 := hO_5.2.2.2 _ _ g1
  have dim_5 := obj_ne gim hi5
  have gim := hO_5.2.2.2 _ _ gim
  clear hO_5
  simp -implicitDefEqProofs only [go_sem, reduceEqDiff, reduceAdd, reduceLeDiff, reduceLT, reduceMul, reduceEq, Int.reduceLT, reduceLE, Int.reduceAdd, reduceSub, reduceToNat, UInt8.reduceToNat, g1]
  have hFI : FilesI m ta tb tc td H i1 i5 im 0 G5 := ⟨hS, Nat.zero_le _, g1, [], ⟨g5, [], gim, SeenOK.nil⟩, rfl⟩
  clear gim g1 g5 hS hi1 him hi5
  refine aloop_intro (σ := Nat) (fun i => [(1, .ptr i1 0), (4, .str ((prevK (·.path) m.files i).getD [])), (5, .ptr i5 0), (40, .sl (m.files.map encFile) tb), (41, .int .i64 m.files.length), (42, .int .i64 i)])
    (FilesI m ta tb tc td H i1 i5 im) (fun i => m.files.length - i) 0 ?_ ?_ ?_
  · simp -implicitDefEqProofs only [go_sem, reduceEqDiff, reduceAdd, reduceLeDiff, reduceLT, reduceMul, reduceEq, Int.reduceLT, reduceLE, Int.reduceAdd, reduceSub, reduceToNat, UInt8.reduceToNat]
    simp [prevK]
  · exact hFI
  clear hFI
  rintro i r G hv ⟨hS, hi, g1, seen, ⟨g5, es, gim, hse⟩, hE⟩
  have h1 := hv.1
  have h4 := hv.2.1
  have h5 := hv.2.2.1
  have h40 := hv.2.2.2.1
  have h41 := hv.2.2.2.2.1
  have h42 := hv.2.2.2.2.2.1
  clear hv
  simp only [encMac] at g1
  by_cases g : i < m.files.length
  rotate_left
  · have x0 : decide ((i : Int) < m.files.length) = false := decide_eq_false (by omega)
    obtain rfl : i = m.files.length := by omega
    rw [List.drop_length, filesE] at hE
    rw [if_neg (by simpa using hE)] at hM
    simp -implicitDefEqProofs only [go_sem, reduceEqDiff, reduceAdd, reduceLeDiff, reduceLT, reduceMul, reduceEq, Int.reduceLT, reduceLE, Int.reduceAdd, reduceSub, reduceToNat, UInt8.reduceToNat, h1, h40, h41, h42, x0, g1]
    refine (q3 _).pure_next _ ?_
    by_cases d3 : eachE setErr (·.key) none m.sets = 0
    rotate_left
    · have z3 : decide (¬ eachE setErr (·.key) none m.sets = 0) = true := decide_eq_true d3
      rw [if_pos d3] at hM
      simp -implicitDefEqProofs only [go_sem, reduceEqDiff, reduceAdd, reduceLeDiff, reduceLT, reduceMul, reduceEq, Int.reduceLT, reduceLE, Int.reduceAdd, reduceSub, reduceToNat, UInt8.reduceToNat, z3]
      exact Done.drop hS ⟨by rw [hM], rfl⟩
    have z3 : decide (¬ eachE setErr (·.key) none m.sets = 0) = false := decide_eq_false (by simpa using d3)
    rw [if_neg (by simpa using d3)] at hM
    simp -implicitDefEqProofs only [go_sem, reduceEqDiff, reduceAdd, reduceLeDiff, reduceLT, reduceMul, reduceEq, Int.reduceLT, reduceLE, Int.reduceAdd, reduceSub, reduceToNat, UInt8.reduceToNat, z3, h1, g1]
    refine (q4 _).pure_next _ ?_
    simp -implicitDefEqProofs only [go_sem, reduceEqDiff, reduceAdd, reduceLeDiff, reduceLT, reduceMul, reduceEq, Int.reduceLT, reduceLE, Int.reduceAdd, reduceSub, reduceToNat, UInt8.reduceToNat]
    exact Done.drop hS ⟨by rw [hM], rfl⟩
  have x0 : decide ((i : Int) < m.files.length) = true := decide_eq_true (by omega)
  obtain ⟨x, hx⟩ : ∃ x, m.files[i]? = some x := getD_get' g
  have hxr := r2 x (List.mem_of_getElem? hx)
  have hff := fun G => fileFault_calls x G hxr
  have ws : IntKind.i64.wrap ((i : Int) + 1) = ((i + 1 : Nat) : Int) := by rw [Go.IntWalk.i64_in _ (by omega)]; omega
  rw [drop_at hx, filesE] at hE
  have hps := prevK_succ (·.path) hx
  have hU : ∀ (a : FileV), a ∈ m.files → (encFile a).length = 3 := fun _ _ => rfl
  have hpl : x.path.length ≤ 1099511627776 := hxr.1
  have hab := fun G => above_calls x.path G i5 im seen
  obtain ⟨xp, xd, xr⟩ := x
  simp only [encFile] at hff
  simp only at hpl hab hps hE
  simp -implicitDefEqProofs only [go_sem, reduceEqDiff, reduceAdd, reduceLeDiff, reduceLT, reduceMul, reduceEq, Int.reduceLT, reduceLE, Int.reduceAdd, reduceSub, reduceToNat, UInt8.reduceToNat, h1, h40, h41, h42, x0, hx]
  refine ⟨hU, Nat.le_refl _, ?_⟩
  simp only [encFile, List.take_succ_cons, List.take_zero, List.take_nil]
  with_reducible refine nwC_intro fun i7 hi7 => ?_
  simp -implicitDefEqProofs only [go_sem, reduceEqDiff, reduceAdd, reduceLeDiff, reduceLT, reduceMul, reduceEq, Int.reduceLT, reduceLE, Int.reduceAdd, reduceSub, reduceToNat, UInt8.reduceToNat]
  generalize E7 : Heap.put G i7 _ = G7
  have hO_7 := obj_new E7 hi7 hS
  have n7 := hO_7.1
  have hS := hO_7.2.1
  have g7 := hO_7.2.2.1
  have d1_7 := obj_ne g1 hi7
  have g1 := hO_7.2.2.2 _ _ g1
  have d5_7 := obj_ne g5 hi7
  have g5 := hO_7.2.2.2 _ _ g5
  have dim_7 := obj_ne gim hi7
  have gim := hO_7.2.2.2 _ _ gim
  clear hO_7
  refine (hff _).pure_next _ ?_
  by_cases e1 : fileErr ⟨xp, xd, xr⟩ = 0
  rotate_left
  · have x1 : decide (¬ fileErr ⟨xp, xd, xr⟩ = 0) = true := decide_eq_true e1
    rw [if_pos e1] at hE
    rw [if_pos (by rw [hE]; exact e1), hE] at hM
    simp -implicitDefEqProofs only [go_sem, reduceEqDiff, reduceAdd, reduceLeDiff, reduceLT, reduceMul, reduceEq, Int.reduceLT, reduceLE, Int.reduceAdd, reduceSub, reduceToNat, UInt8.reduceToNat, x1]
    exact Done.drop hS ⟨by rw [hM], rfl⟩
  have x1 : decide (¬ fileErr ⟨xp, xd, xr⟩ = 0) = false := decide_eq_false (by simpa using e1)
  rw [if_neg (by simpa using e1)] at hE
  have hpo : PathsOK G7 i5 im seen := ⟨g5, es, gim, hse⟩
  by_cases e2 : ordB (prevK (·.path) m.files i) xp = true
  · rw [if_pos e2] at hE
    rw [if_pos (by rw [hE]; decide), hE] at hM
    have c2 : ¬ i = 0 := by rintro rfl; simp [prevK, ordB] at e2
    obtain ⟨q, hq⟩ : ∃ q, m.files[i - 1]? = some q := getD_get' (by omega)
    have hpk : prevK (·.path) m.files i = some q.path := by unfold prevK; rw [if_neg c2, hq]; rfl
    rw [hpk] at e2 h4
    rw [Option.getD_some] at h4
    have x2 : decide ((0 : Int) < (i : Int)) = true := decide_eq_true (by omega)
    have x3 : (strLt xp q.path || decide (xp = q.path)) = true := e2
    simp -implicitDefEqProofs only [go_sem, reduceEqDiff, reduceAdd, reduceLeDiff, reduceLT, reduceMul, reduceEq, Int.reduceLT, reduceLE, Int.reduceAdd, reduceSub, reduceToNat, UInt8.reduceToNat, x1, h1, h4, h5, h40, h41, h42, x2, x3, g7]
    exact Done.drop hS ⟨by rw [hM], rfl⟩
  rw [if_neg e2] at hE
  have w10 : IntKind.i64.wrap 1 = 1 := by decide
  have tail : ∀ (K : K1), (clash seen xp = true → K (.bool false) G7) → (clash seen xp = false → K (.bool true) G7) → ACalls Tryz.prog 92 [.str xp, .func 93 [.ptr i5 0]] G7 K := fun K k1 k2 => by
    refine (hab G7 hpo hpl).mono ?_
    rintro v G' ⟨rfl, rfl⟩
    cases hc : clash seen xp with
    | true => exact k1 hc
    | false => exact k2 hc
  have e3 : ∀ G8, clash seen xp = false → (G8 = G7.put im (.map .str (mset es (.s xp) (.bool true)))) → FilesI m ta tb tc td H i1 i5 im (i + 1) G8 := fun G8 h1 h2 => by
    subst h2
    rw [h1, if_neg (by simp)] at hE
    refine ⟨hS.put' nim _, by omega, by rw [put_ne _ _ _ _ d1_im]; simp only [encMac]; exact g1, xp :: seen, ⟨by rw [put_ne _ _ _ _ (fun e => dim_5 e.symm)]; exact g5, _, put_same _ _ _, hse.set xp⟩, ?_⟩
    rw [hE, hps]
  by_cases c2 : i = 0
  · subst c2
    have x2 : decide ((0 : Int) < 0) = false := rfl
    simp -implicitDefEqProofs only [go_sem, reduceEqDiff, reduceAdd, reduceLeDiff, reduceLT, reduceMul, reduceEq, Int.reduceLT, reduceLE, Int.reduceAdd, reduceSub, reduceToNat, UInt8.reduceToNat, x1, h1, h4, h5, h40, h41, h42, x2, g7]
    refine tail _ (fun hc => ?_) (fun hc => ?_)
    · rw [hc, if_pos rfl] at hE
      rw [if_pos (by rw [hE]; decide), hE] at hM
      simp -implicitDefEqProofs only [go_sem, reduceEqDiff, reduceAdd, reduceLeDiff, reduceLT, reduceMul, reduceEq, Int.reduceLT, reduceLE, Int.reduceAdd, reduceSub, reduceToNat, UInt8.reduceToNat]
      exact Done.drop hS ⟨by rw [hM], rfl⟩
    · simp -implicitDefEqProofs only [go_sem, reduceEqDiff, reduceAdd, reduceLeDiff, reduceLT, reduceMul, reduceEq, Int.reduceLT, reduceLE, Int.reduceAdd, reduceSub, reduceToNat, UInt8.reduceToNat, h1, h5, h40, h41, h42, g7, g5, gim, w10]
      exact Again.mk 1 (by simp -implicitDefEqProofs only [go_sem, reduceEqDiff, reduceAdd, reduceLeDiff, reduceLT, reduceMul, reduceEq, Int.reduceLT, reduceLE, Int.reduceAdd, reduceSub, reduceToNat, UInt8.reduceToNat, h1, h5, h40, h41, hps, Option.getD_some]) (e3 _ hc rfl) (by omega)
  · have x2 : decide ((0 : Int) < (i : Int)) = true := decide_eq_true (by omega)
    obtain ⟨q, hq⟩ : ∃ q, m.files[i - 1]? = some q := getD_get' (by omega)
    have hpk : prevK (·.path) m.files i = some q.path := by unfold prevK; rw [if_neg c2, hq]; rfl
    rw [hpk] at e2 h4
    rw [Option.getD_some] at h4
    have x3 : (strLt xp q.path || decide (xp = q.path)) = false := by simpa [ordB, leB] using e2
    simp -implicitDefEqProofs only [go_sem, reduceEqDiff, reduceAdd, reduceLeDiff, reduceLT, reduceMul, reduceEq, Int.reduceLT, reduceLE, Int.reduceAdd, reduceSub, reduceToNat, UInt8.reduceToNat, x1, h1, h4, h5, h40, h41, h42, x2, x3, g7]
    refine tail _ (fun hc => ?_) (fun hc => ?_)
    · rw [hc, if_pos rfl] at hE
      rw [if_pos (by rw [hE]; decide), hE] at hM
      simp -implicitDefEqProofs only [go_sem, reduceEqDiff, reduceAdd, reduceLeDiff, reduceLT, reduceMul, reduceEq, Int.reduceLT, reduceLE, Int.reduceAdd, reduceSub, reduceToNat, UInt8.reduceToNat]
      exact Done.drop hS ⟨by rw [hM], rfl⟩
    · simp -implicitDefEqProofs only [go_sem, reduceEqDiff, reduceAdd, reduceLeDiff, reduceLT, reduceMul, reduceEq, Int.reduceLT, reduceLE, Int.reduceAdd, reduceSub, reduceToNat, UInt8.reduceToNat, h1, h5, h40, h41, h42, g7, g5, gim, ws]
      exact Again.mk (i + 1) (by simp -implicitDefEqProofs only [go_sem, reduceEqDiff, reduceAdd, reduceLeDiff, reduceLT, reduceMul, reduceEq, Int.reduceLT, reduceLE, Int.reduceAdd, reduceSub, reduceToNat, UInt8.reduceToNat, h1, h5, h40, h41, hps, Option.getD_some]) (e3 _ hc rfl) (by omega)
end Go.Proofs
