/-
  Walks and plain laws, part 4.
-/
import Derived.Test.YtmcnfdbohkobaaaGreatDoorM3
import Derived.Test.YtmcnfdbohkobaaaGreatDoorM1
import Derived.Test.YtmcnfdbohkobaaaGreatDoorAbs4
import Derived.Test.YtmcnfdbohkobaaaGreatDoorTy
import Derived.KernelRfl
import Derived.Shelf.SlIter.Nil
import Derived.Shelf.SortM.Plain
import Derived.Shelf.SortM.SortNone
/- Walks: Check, on the program's side. -/
namespace Go.Proofs
open Go Go.Abs
set_option linter.unusedSimpArgs false
set_option linter.unusedVariables false
set_option maxRecDepth 20000
/-- The map of paths stands behind a cell. -/
def PathsOK (G : Heap) (i5 im : Nat) (seen : List Bytes) : Prop := G i5 = some (.cells [.map im]) ∧ ∃ es, G im = some (.map .str es) ∧ SeenOK es seen
theorem check2_calls (G : Heap) (i5 im : Nat) (seen : List Bytes) (d : Bytes) (h : PathsOK G i5 im seen) : ACalls Tryz.prog 70 [.str d, .ptr i5 0] G fun x H' => x = .bool (!seen.contains d) ∧ H' = G := by
  obtain ⟨h1, es, h2, h3⟩ := h
  have hg := h3.get d
  refine ACalls.of_code (X := { pure := pu0 }) pu0_ok Tryz.func70 (by kernel_rfl) rfl (by kernel_rfl) (Nat.le_of_ble_eq_true rfl) ?_
  simp -implicitDefEqProofs only [go_sem, Tryz.f70, h1, h2, hg]
  exact Done.now ⟨rfl, rfl⟩
set_option maxHeartbeats 1600000 in
theorem above_calls (p : Bytes) (G : Heap) (i5 im : Nat) (seen : List Bytes) (h : PathsOK G i5 im seen) (hp : p.length ≤ 1099511627776) :
    ACalls Tryz.prog 69 [.str p, .func 70 [.ptr i5 0]] G fun x H' => x = .bool (!clash seen p) ∧ H' = G := by
  refine ACalls.of_code (X := { pure := pu0 }) pu0_ok Tryz.func69 (by kernel_rfl) rfl (by kernel_rfl) (Nat.le_of_ble_eq_true rfl) ?_
  simp -implicitDefEqProofs only [go_sem, Tryz.f69]
  refine aloop_intro (σ := Nat) (fun i => [(0, .str p), (1, .func 70 [.ptr i5 0]), (5, .int .i64 i)]) (fun i G' => G' = G ∧ i ≤ p.length ∧ clashTo seen p i = false) (fun i => p.length - i) 0 ?_ ?_ ?_
  · simp -implicitDefEqProofs only [go_sem]
  · exact ⟨rfl, Nat.zero_le _, rfl⟩
  rintro i r G' hv ⟨rfl, hi, hE⟩
  have h0 := hv.1
  have h1 := hv.2.1
  have h5 := hv.2.2.1
  clear hv
  by_cases g : i < p.length
  rotate_left
  · have y0 : decide ((i : Int) < p.length) = false := decide_eq_false (by omega)
    obtain rfl : i = p.length := by omega
    simp -implicitDefEqProofs only [go_sem, h0, h1, h5, y0]
    exact Done.now ⟨by rw [← clashTo_all, hE]; rfl, rfl⟩
  have y0 : decide ((i : Int) < p.length) = true := decide_eq_true (by omega)
  obtain ⟨c, hc⟩ : ∃ c, p[i]? = some c := getD_get' g
  have ws : IntKind.i64.wrap ((i : Int) + 1) = ((i + 1 : Nat) : Int) := by rw [Go.IntWalk.i64_in _ (by omega)]; omega
  have e47 := @u8_eq c 47 (by decide)
  have hs := clashTo_succ seen p i
  rw [hE, hc, Bool.false_or] at hs
  by_cases c1 : c = 47
  rotate_left
  · have y1 : decide ((c.toNat : Int) = 47) = false := decide_eq_false (fun e => c1 (e47.1 e))
    simp -implicitDefEqProofs only [go_sem, h0, h1, h5, y0, hc, y1, ws]
    exact Again.mk (i + 1) (by simp -implicitDefEqProofs only [go_sem, h0, h1, h5]) ⟨rfl, by omega, by rw [hs]; simp [c1]⟩ (by omega)
  have y1 : decide ((c.toNat : Int) = 47) = true := decide_eq_true (e47.2 c1)
  subst c1
  rw [decide_eq_true rfl, Bool.true_and] at hs
  simp -implicitDefEqProofs only [go_sem, h0, h1, h5, y0, hc, y1, Int.toNat_natCast]
  refine ⟨by omega, ?_⟩
  refine (check2_calls _ i5 im seen _ h).pure_next _ ?_
  by_cases c2 : seen.contains (p.take i) = true
  · rw [c2] at hs ⊢
    simp -implicitDefEqProofs only [go_sem, h0, h1, h5]
    exact Done.now ⟨by rw [← clashTo_all, clashTo_mono hs _ (by omega)]; rfl, rfl⟩
  · have c2 : seen.contains (p.take i) = false := by simpa using c2
    rw [c2] at hs ⊢
    simp -implicitDefEqProofs only [go_sem, h0, h1, h5, ws]
    exact Again.mk (i + 1) (by simp -implicitDefEqProofs only [go_sem, h0, h1, h5]) ⟨rfl, by omega, hs⟩ (by omega)
theorem macErr_counts {m : MacV} (h : 100 < m.facts.length ∨ 2000 < m.files.length ∨ 2000 < m.sets.length ∨ 100 < m.svcs.length) : macErr m = 4 := by rw [macErr, if_pos h]
def FilesI (m : MacV) (ta tb tc td : Tail) (H : Heap) (i1 i5 im : Nat) (i : Nat) (G : Heap) : Prop := H.Sub G ∧ i ≤ m.files.length ∧ G i1 = some (.cells (encMac m ta tb tc td)) ∧ ∃ seen, PathsOK G i5 im seen ∧ filesE none [] m.files = filesE (prevK (·.path) m.files i) seen (m.files.drop i)
set_option maxHeartbeats 6400000 in
theorem check_calls (m : MacV) (ta tb tc td : Tail) (H : Heap) (hr : macR m) : ACalls Tryz.prog 37 [.agg (encMac m ta tb tc td)] H fun x H' => x = .int .i64 (macErr m) ∧ H' = H := by
  obtain ⟨⟨l1, l2, l3, l4⟩, r1, r2, r3, r4⟩ := hr
  have hM := macErr.eq_1 m
  have hS := Heap.Sub.rfl' H
  have q1 := fun G => eachFact_calls m.facts ta G l1 r1
  have q3 := fun G => eachSet_calls m.sets tc G l3 r3
  have q4 := fun G => eachSvc_calls m.svcs td G l4 r4
  refine ACalls.of_code (X := { pure := pu0 }) pu0_ok Tryz.func37 (by kernel_rfl) rfl (by kernel_rfl) (Nat.le_of_ble_eq_true rfl) ?_
  simp -implicitDefEqProofs only [go_sem, Tryz.f37, encMac]
  with_reducible refine nwC_intro fun i1 hi1 => ?_
  generalize E1 : Heap.put H i1 _ = G1
  have hO_1 := obj_new E1 hi1 hS
  have n1 := hO_1.1
  have hS := hO_1.2.1
  have g1 := hO_1.2.2.1
  clear hO_1
  by_cases c1 : 100 < m.facts.length
  · have y1 : decide ((100 : Int) < (m.facts.length : Int)) = true := decide_eq_true (by omega)
    simp -implicitDefEqProofs only [go_sem, g1, y1]
    exact Done.drop hS ⟨by rw [macErr_counts (.inl c1)], rfl⟩
  have y1 : decide ((100 : Int) < (m.facts.length : Int)) = false := decide_eq_false (by omega)
  by_cases c2 : 2000 < m.files.length
  · have y2 : decide ((2000 : Int) < (m.files.length : Int)) = true := decide_eq_true (by omega)
    simp -implicitDefEqProofs only [go_sem, g1, y1, y2]
    exact Done.drop hS ⟨by rw [macErr_counts (.inr (.inl c2))], rfl⟩
  have y2 : decide ((2000 : Int) < (m.files.length : Int)) = false := decide_eq_false (by omega)
  by_cases c3 : 2000 < m.sets.length
  · have y3 : decide ((2000 : Int) < (m.sets.length : Int)) = true := decide_eq_true (by omega)
    simp -implicitDefEqProofs only [go_sem, g1, y1, y2, y3]
    exact Done.drop hS ⟨by rw [macErr_counts (.inr (.inr (.inl c3)))], rfl⟩
  have y3 : decide ((2000 : Int) < (m.sets.length : Int)) = false := decide_eq_false (by omega)
  by_cases c4 : 100 < m.svcs.length
  · have y4 : decide ((100 : Int) < (m.svcs.length : Int)) = true := decide_eq_true (by omega)
    simp -implicitDefEqProofs only [go_sem, g1, y1, y2, y3, y4]
    exact Done.drop hS ⟨by rw [macErr_counts (.inr (.inr (.inr c4)))], rfl⟩
  have y4 : decide ((100 : Int) < (m.svcs.length : Int)) = false := decide_eq_false (by omega)
  rw [if_neg (by omega)] at hM
  simp -implicitDefEqProofs only [go_sem, g1, y1, y2, y3, y4]
  refine (q1 _).pure_next _ ?_
  by_cases d1 : eachE factErr (·.key) none m.facts = 0
  rotate_left
  · have z1 : decide (¬ eachE factErr (·.key) none m.facts = 0) = true := decide_eq_true d1
    rw [if_pos d1] at hM
    simp -implicitDefEqProofs only [go_sem, z1]
    exact Done.drop hS ⟨by rw [hM], rfl⟩
  have z1 : decide (¬ eachE factErr (·.key) none m.facts = 0) = false := decide_eq_false (by simpa using d1)
  rw [if_neg (by simpa using d1)] at hM
  simp -implicitDefEqProofs only [go_sem, z1]
  with_reducible refine nwM_intro fun im him => ?_
  generalize Eim : Heap.put G1 im _ = G2
  have hO_im := obj_new Eim him hS
  have nim := hO_im.1
  have hS := hO_im.2.1
  have gim := hO_im.2.2.1
  have d1_im := obj_ne g1 him
  have g1 := hO_im.2.2.2 _ _ g1
  clear hO_im
  simp -implicitDefEqProofs only [go_sem]
  with_reducible refine nwC_intro fun i5 hi5 => ?_
  simp -implicitDefEqProofs only [go_sem]
  generalize E5 : Heap.put G2 i5 _ = G5
  have hO_5 := obj_new E5 hi5 hS
  have n5 := hO_5.1
  have hS := hO_5.2.1
  have g5 := hO_5.2.2.1
  have d1_5 := obj_ne g1 hi5
  have g1 := hO_5.2.2.2 _ _ g1
  have dim_5 := obj_ne gim hi5
  have gim := hO_5.2.2.2 _ _ gim
  clear hO_5
  simp -implicitDefEqProofs only [go_sem, g1]
  have hFI : FilesI m ta tb tc td H i1 i5 im 0 G5 := ⟨hS, Nat.zero_le _, g1, [], ⟨g5, [], gim, SeenOK.nil⟩, rfl⟩
  clear gim g1 g5 hS hi1 him hi5
  refine aloop_intro (σ := Nat) (fun i => [(1, .ptr i1 0), (4, .str ((prevK (·.path) m.files i).getD [])), (5, .ptr i5 0), (40, .sl (m.files.map encFile) tb), (41, .int .i64 m.files.length), (42, .int .i64 i)])
    (FilesI m ta tb tc td H i1 i5 im) (fun i => m.files.length - i) 0 ?_ ?_ ?_
  · simp -implicitDefEqProofs only [go_sem]
    simp [prevK]
  · exact hFI
  clear hFI
  rintro i r G hv ⟨hS, hi, g1, seen, ⟨g5, es, gim, hse⟩, hE⟩
  have h1 := hv.1
  have h4 := hv.2.1
  have h5 := hv.2.2.1
  have h40 := hv.2.2.2.1
  have h41 := hv.2.2.2.2.1
  have h42 := hv.2.2.2.2.2.1
  clear hv
  simp only [encMac] at g1
  by_cases g : i < m.files.length
  rotate_left
  · have x0 : decide ((i : Int) < m.files.length) = false := decide_eq_false (by omega)
    obtain rfl : i = m.files.length := by omega
    rw [List.drop_length, filesE] at hE
    rw [if_neg (by simpa using hE)] at hM
    simp -implicitDefEqProofs only [go_sem, h1, h40, h41, h42, x0, g1]
    refine (q3 _).pure_next _ ?_
    by_cases d3 : eachE setErr (·.key) none m.sets = 0
    rotate_left
    · have z3 : decide (¬ eachE setErr (·.key) none m.sets = 0) = true := decide_eq_true d3
      rw [if_pos d3] at hM
      simp -implicitDefEqProofs only [go_sem, z3]
      exact Done.drop hS ⟨by rw [hM], rfl⟩
    have z3 : decide (¬ eachE setErr (·.key) none m.sets = 0) = false := decide_eq_false (by simpa using d3)
    rw [if_neg (by simpa using d3)] at hM
    simp -implicitDefEqProofs only [go_sem, z3, h1, g1]
    refine (q4 _).pure_next _ ?_
    simp -implicitDefEqProofs only [go_sem]
    exact Done.drop hS ⟨by rw [hM], rfl⟩
  have x0 : decide ((i : Int) < m.files.length) = true := decide_eq_true (by omega)
  obtain ⟨x, hx⟩ : ∃ x, m.files[i]? = some x := getD_get' g
  have hxr := r2 x (List.mem_of_getElem? hx)
  have hff := fun G => fileFault_calls x G hxr
  have ws : IntKind.i64.wrap ((i : Int) + 1) = ((i + 1 : Nat) : Int) := by rw [Go.IntWalk.i64_in _ (by omega)]; omega
  rw [drop_at hx, filesE] at hE
  have hps := prevK_succ (·.path) hx
  have hU : ∀ (a : FileV), a ∈ m.files → (encFile a).length = 3 := fun _ _ => rfl
  have hpl : x.path.length ≤ 1099511627776 := hxr.1
  have hab := fun G => above_calls x.path G i5 im seen
  obtain ⟨xp, xd, xr⟩ := x
  simp only [encFile] at hff
  simp only at hpl hab hps hE
  simp -implicitDefEqProofs only [go_sem, h1, h40, h41, h42, x0, hx]
  refine ⟨hU, Nat.le_refl _, ?_⟩
  simp only [encFile, List.take_succ_cons, List.take_zero, List.take_nil]
  with_reducible refine nwC_intro fun i7 hi7 => ?_
  simp -implicitDefEqProofs only [go_sem]
  generalize E7 : Heap.put G i7 _ = G7
  have hO_7 := obj_new E7 hi7 hS
  have n7 := hO_7.1
  have hS := hO_7.2.1
  have g7 := hO_7.2.2.1
  have d1_7 := obj_ne g1 hi7
  have g1 := hO_7.2.2.2 _ _ g1
  have d5_7 := obj_ne g5 hi7
  have g5 := hO_7.2.2.2 _ _ g5
  have dim_7 := obj_ne gim hi7
  have gim := hO_7.2.2.2 _ _ gim
  clear hO_7
  refine (hff _).pure_next _ ?_
  by_cases e1 : fileErr ⟨xp, xd, xr⟩ = 0
  rotate_left
  · have x1 : decide (¬ fileErr ⟨xp, xd, xr⟩ = 0) = true := decide_eq_true e1
    rw [if_pos e1] at hE
    rw [if_pos (by rw [hE]; exact e1), hE] at hM
    simp -implicitDefEqProofs only [go_sem, x1]
    exact Done.drop hS ⟨by rw [hM], rfl⟩
  have x1 : decide (¬ fileErr ⟨xp, xd, xr⟩ = 0) = false := decide_eq_false (by simpa using e1)
  rw [if_neg (by simpa using e1)] at hE
  have hpo : PathsOK G7 i5 im seen := ⟨g5, es, gim, hse⟩
  by_cases e2 : ordB (prevK (·.path) m.files i) xp = true
  · rw [if_pos e2] at hE
    rw [if_pos (by rw [hE]; decide), hE] at hM
    have c2 : ¬ i = 0 := by rintro rfl; simp [prevK, ordB] at e2
    obtain ⟨q, hq⟩ : ∃ q, m.files[i - 1]? = some q := getD_get' (by omega)
    have hpk : prevK (·.path) m.files i = some q.path := by unfold prevK; rw [if_neg c2, hq]; rfl
    rw [hpk] at e2 h4
    rw [Option.getD_some] at h4
    have x2 : decide ((0 : Int) < (i : Int)) = true := decide_eq_true (by omega)
    have x3 : (strLt xp q.path || decide (xp = q.path)) = true := e2
    simp -implicitDefEqProofs only [go_sem, x1, h1, h4, h5, h40, h41, h42, x2, x3, g7]
    exact Done.drop hS ⟨by rw [hM], rfl⟩
  rw [if_neg e2] at hE
  have w10 : IntKind.i64.wrap 1 = 1 := by decide
  have tail : ∀ (K : K1), (clash seen xp = true → K (.bool false) G7) → (clash seen xp = false → K (.bool true) G7) → ACalls Tryz.prog 69 [.str xp, .func 70 [.ptr i5 0]] G7 K := fun K k1 k2 => by
    refine (hab G7 hpo hpl).mono ?_
    rintro v G' ⟨rfl, rfl⟩
    cases hc : clash seen xp with
    | true => exact k1 hc
    | false => exact k2 hc
  have e3 : ∀ G8, clash seen xp = false → (G8 = G7.put im (.map .str (mset es (.s xp) (.bool true)))) → FilesI m ta tb tc td H i1 i5 im (i + 1) G8 := fun G8 h1 h2 => by
    subst h2
    rw [h1, if_neg (by simp)] at hE
    refine ⟨hS.put' nim _, by omega, by rw [put_ne _ _ _ _ d1_im]; simp only [encMac]; exact g1, xp :: seen, ⟨by rw [put_ne _ _ _ _ (fun e => dim_5 e.symm)]; exact g5, _, put_same _ _ _, hse.set xp⟩, ?_⟩
    rw [hE, hps]
  by_cases c2 : i = 0
  · subst c2
    have x2 : decide ((0 : Int) < 0) = false := rfl
    simp -implicitDefEqProofs only [go_sem, x1, h1, h4, h5, h40, h41, h42, x2, g7]
    refine tail _ (fun hc => ?_) (fun hc => ?_)
    · rw [hc, if_pos rfl] at hE
      rw [if_pos (by rw [hE]; decide), hE] at hM
      simp -implicitDefEqProofs only [go_sem]
      exact Done.drop hS ⟨by rw [hM], rfl⟩
    · simp -implicitDefEqProofs only [go_sem, h1, h5, h40, h41, h42, g7, g5, gim, w10]
      exact Again.mk 1 (by simp -implicitDefEqProofs only [go_sem, h1, h5, h40, h41, hps, Option.getD_some]) (e3 _ hc rfl) (by omega)
  · have x2 : decide ((0 : Int) < (i : Int)) = true := decide_eq_true (by omega)
    obtain ⟨q, hq⟩ : ∃ q, m.files[i - 1]? = some q := getD_get' (by omega)
    have hpk : prevK (·.path) m.files i = some q.path := by unfold prevK; rw [if_neg c2, hq]; rfl
    rw [hpk] at e2 h4
    rw [Option.getD_some] at h4
    have x3 : (strLt xp q.path || decide (xp = q.path)) = false := by simpa [ordB, leB] using e2
    simp -implicitDefEqProofs only [go_sem, x1, h1, h4, h5, h40, h41, h42, x2, x3, g7]
    refine tail _ (fun hc => ?_) (fun hc => ?_)
    · rw [hc, if_pos rfl] at hE
      rw [if_pos (by rw [hE]; decide), hE] at hM
      simp -implicitDefEqProofs only [go_sem]
      exact Done.drop hS ⟨by rw [hM], rfl⟩
    · simp -implicitDefEqProofs only [go_sem, h1, h5, h40, h41, h42, g7, g5, gim, ws]
      exact Again.mk (i + 1) (by simp -implicitDefEqProofs only [go_sem, h1, h5, h40, h41, hps, Option.getD_some]) (e3 _ hc rfl) (by omega)
end Go.Proofs

/- Walks: Check, on the reference's side. -/
namespace Go.Proofs
open Go Go.Abs
set_option linter.unusedSimpArgs false
set_option linter.unusedVariables false
set_option maxRecDepth 20000
def puRC : Pures := putP 22 (sStr nameB) (putP 23 (sStr valueB) (putP 51 sFileE (putP 52 sSetE (putP 53 sSvcE (putP 50 sFirst (putP 49 sWhen pu0))))))
theorem puRC_dyn : isDyn puRC = false := by simp only [puRC, go_sem, Nat.reduceEqDiff]
attribute [go_sem] puRC_dyn
theorem puRC_ok : PuOK Tryz.prog puRC := .put (.put (.put (.put (.put (.put (.put (pu0_ok) (sWhen_ok when_calls)) (sFirst_ok first_calls)) (sSvcE_ok rServiceError_calls)) (sSetE_ok rSettingError_calls)) (sFileE_ok rFileError_calls)) (sStr_ok rIsValue_calls)) (sStr_ok rIsName_calls)
/-- The order, as a number. -/
def bV (p : Option Bytes) (k : Bytes) : Int := if ordB p k = true then 7 else 0
theorem behind_calls (i : Nat) (k z : Bytes) (p : Option Bytes) (i3 : Nat) (G : Heap) (h : G i3 = some (.cells [.str z])) (hp : p = if i = 0 then none else some z) :
    ACalls Tryz.prog 48 [.int .i64 i, .str k, .ptr i3 0] G fun x H' => x = .int .i64 (bV p k) ∧ H' = G.put i3 (.cells [.str k]) := by
  by_cases c : i = 0
  · subst c
    have y : decide ((0 : Int) < ((0 : Nat) : Int)) = false := rfl
    have y2 : decide ((0 : Int) < 0) = false := rfl
    refine ACalls.of_code (X := { pure := puRC }) puRC_ok Tryz.func48 (by kernel_rfl) rfl (by kernel_rfl) (Nat.le_of_ble_eq_true rfl) ?_
    simp -implicitDefEqProofs only [go_sem, Tryz.f48, h, y, y2]
    simp -implicitDefEqProofs only [go_sem, puRC, sWhen_eq]
    exact Done.now ⟨by rw [hp]; rfl, rfl⟩
  · have y : decide ((0 : Int) < (i : Int)) = true := decide_eq_true (by omega)
    rw [if_neg c] at hp
    subst hp
    by_cases c2 : leB k z = true
    · have y2 : (strLt k z || decide (k = z)) = true := c2
      refine ACalls.of_code (X := { pure := puRC }) puRC_ok Tryz.func48 (by kernel_rfl) rfl (by kernel_rfl) (Nat.le_of_ble_eq_true rfl) ?_
      simp -implicitDefEqProofs only [go_sem, Tryz.f48, h, y, y2]
      simp -implicitDefEqProofs only [go_sem, puRC, sWhen_eq]
      exact Done.now ⟨by rw [bV, if_pos (show ordB (some z) k = true from c2)], rfl⟩
    · have y2 : (strLt k z || decide (k = z)) = false := by simpa [leB] using c2
      refine ACalls.of_code (X := { pure := puRC }) puRC_ok Tryz.func48 (by kernel_rfl) rfl (by kernel_rfl) (Nat.le_of_ble_eq_true rfl) ?_
      simp -implicitDefEqProofs only [go_sem, Tryz.f48, h, y, y2]
      simp -implicitDefEqProofs only [go_sem, puRC, sWhen_eq]
      exact Done.now ⟨by rw [bV, if_neg (show ¬ ordB (some z) k = true from c2)], rfl⟩
theorem first2 (e b : Int) : firstOf [e, b] = if e ≠ 0 then e else b := by
  by_cases h : e = 0 <;> by_cases g : b = 0 <;> simp [firstOf, h, g]
theorem first3 (k v : Bytes) (b : Int) : firstOf [if nameB k = false then 5 else 0, if valueB v = false then 2 else 0, b] = if factErr ⟨k, v⟩ ≠ 0 then factErr ⟨k, v⟩ else b := by
  cases h1 : nameB k <;> cases h2 : valueB v <;> by_cases g : b = 0 <;> simp [firstOf, factErr, h1, h2, g]
theorem eachE_step {α : Type} (err : α → Int) (key : α → Bytes) {p : Option Bytes} {x : α} {l : List α} {e : Int} (he : e = if err x ≠ 0 then err x else bV p (key x)) : eachE err key p (x :: l) = if e ≠ 0 then e else eachE err key (some (key x)) l := by
  rw [eachE, he]
  unfold bV
  by_cases h : err x = 0 <;> by_cases g : ordB p (key x) = true <;> simp [h, g]
theorem filesE_step {p : Option Bytes} {seen : List Bytes} {x : FileV} {l : List FileV} {e : Int} (he : e = if fileErr x ≠ 0 then fileErr x else bV p x.path) :
    filesE p seen (x :: l) = if e ≠ 0 then e else if clash seen x.path = true then 11 else filesE (some x.path) (x.path :: seen) l := by
  rw [filesE, he]
  unfold bV
  by_cases h : fileErr x = 0 <;> by_cases g : ordB p x.path = true <;> simp [h, g]
def RcM (m : MacV) (ta tb tc td : Tail) (H : Heap) (i1 i3 : Nat) (G : Heap) (z : Bytes) : Prop := H.Sub G ∧ G i1 = some (.cells (encMac m ta tb tc td)) ∧ G i3 = some (.cells [.str z])
def RcI {α : Type} (err : α → Int) (key : α → Bytes) (l : List α) (m : MacV) (ta tb tc td : Tail) (H : Heap) (i1 i3 : Nat) (i : Nat) (G : Heap) : Prop :=
  i ≤ l.length ∧ eachE err key none l = eachE err key (prevK key l i) (l.drop i) ∧ ∃ z, RcM m ta tb tc td H i1 i3 G z ∧ prevK key l i = if i = 0 then none else some z
def RcQ (p : Prop) (m : MacV) (ta tb tc td : Tail) (H : Heap) (i1 i3 : Nat) (r : Regs) (G : Heap) : Prop := p ∧ (∃ z, RcM m ta tb tc td H i1 i3 G z) ∧ agrees r [(1, .ptr i1 0), (4, .func 48 [.ptr i3 0])]
theorem _root_.Go.Abs.ACalls.pure_next2 {P : Program} {f : FuncId} {args : List AV} {H H1 : Heap} {K : K1} {x : AV} (h : ACalls P f args H fun y H' => y = x ∧ H' = H1) (hK : K x H1) : ACalls P f args H K := by
  refine h.mono ?_
  rintro x H' ⟨rfl, rfl⟩
  exact hK
set_option maxHeartbeats 12800000 in
theorem rCheck_calls (m : MacV) (ta tb tc td : Tail) (H : Heap) (hr : macR m) : ACalls Tryz.prog 21 [.agg (encMac m ta tb tc td)] H fun x H' => x = .int .i64 (macErr m) ∧ H' = H := by
  obtain ⟨⟨l1, l2, l3, l4⟩, r1, r2, r3, r4⟩ := hr
  have hR : Room = 1099511627776 := rfl
  have hM := macErr.eq_1 m
  have hS := Heap.Sub.rfl' H
  refine ACalls.of_code (X := { pure := puRC }) puRC_ok Tryz.func21 (by kernel_rfl) rfl (by kernel_rfl) (Nat.le_of_ble_eq_true rfl) ?_
  simp -implicitDefEqProofs only [go_sem, Tryz.f21, encMac]
  with_reducible refine nwC_intro fun i1 hi1 => ?_
  generalize E1 : Heap.put H i1 _ = G1
  have hO_1 := obj_new E1 hi1 hS
  have n1 := hO_1.1
  have hS := hO_1.2.1
  have g1 := hO_1.2.2.1
  clear hO_1
  by_cases c1 : 100 < m.facts.length
  · have y1 : decide ((100 : Int) < (m.facts.length : Int)) = true := decide_eq_true (by omega)
    simp -implicitDefEqProofs only [go_sem, g1, y1]
    exact Done.drop hS ⟨by rw [macErr_counts (.inl c1)], rfl⟩
  have y1 : decide ((100 : Int) < (m.facts.length : Int)) = false := decide_eq_false (by omega)
  by_cases c2 : 2000 < m.files.length
  · have y2 : decide ((2000 : Int) < (m.files.length : Int)) = true := decide_eq_true (by omega)
    simp -implicitDefEqProofs only [go_sem, g1, y1, y2]
    exact Done.drop hS ⟨by rw [macErr_counts (.inr (.inl c2))], rfl⟩
  have y2 : decide ((2000 : Int) < (m.files.length : Int)) = false := decide_eq_false (by omega)
  by_cases c3 : 2000 < m.sets.length
  · have y3 : decide ((2000 : Int) < (m.sets.length : Int)) = true := decide_eq_true (by omega)
    simp -implicitDefEqProofs only [go_sem, g1, y1, y2, y3]
    exact Done.drop hS ⟨by rw [macErr_counts (.inr (.inr (.inl c3)))], rfl⟩
  have y3 : decide ((2000 : Int) < (m.sets.length : Int)) = false := decide_eq_false (by omega)
  by_cases c4 : 100 < m.svcs.length
  · have y4 : decide ((100 : Int) < (m.svcs.length : Int)) = true := decide_eq_true (by omega)
    simp -implicitDefEqProofs only [go_sem, g1, y1, y2, y3, y4]
    exact Done.drop hS ⟨by rw [macErr_counts (.inr (.inr (.inr c4)))], rfl⟩
  have y4 : decide ((100 : Int) < (m.svcs.length : Int)) = false := decide_eq_false (by omega)
  rw [if_neg (by omega)] at hM
  simp -implicitDefEqProofs only [go_sem, g1, y1, y2, y3, y4]
  with_reducible refine nwC_intro fun i3 hi3 => ?_
  simp -implicitDefEqProofs only [go_sem]
  generalize E3 : Heap.put G1 i3 _ = G3
  have hO_3 := obj_new E3 hi3 hS
  have n3 := hO_3.1
  have hS := hO_3.2.1
  have g3 := hO_3.2.2.1
  have d1_3 := obj_ne g1 hi3
  have g1 := hO_3.2.2.2 _ _ g1
  clear hO_3
  have hZ : RcM m ta tb tc td H i1 i3 G3 [] := ⟨hS, g1, g3⟩
  simp -implicitDefEqProofs only [go_sem, g1]
  clear y1 y2 y3 y4 c1 c2 c3 c4 hi3 hi1 g3 hS
  with_reducible refine aloop_cut 0 (RcQ (eachE factErr (·.key) none m.facts = 0) m ta tb tc td H i1 i3) ?_ ?_
  rotate_left
  · refine aloop_intro (σ := Nat) (fun i => [(1, .ptr i1 0), (4, .func 48 [.ptr i3 0]), (43, .sl (m.facts.map encSet) ta), (44, .int .i64 m.facts.length), (45, .int .i64 i)])
      (RcI factErr (·.key) m.facts m ta tb tc td H i1 i3) (fun i => m.facts.length - i) 0 ?_ ?_ ?_
    · simp -implicitDefEqProofs only [go_sem]
    · exact ⟨Nat.zero_le _, rfl, [], hZ, rfl⟩
    clear hZ
    rintro i r G hv ⟨hi, hE, z, ⟨hS, g1, g3⟩, hp⟩
    have h1 := hv.1
    have h4 := hv.2.1
    have hl := hv.2.2.1
    have hn := hv.2.2.2.1
    have hi2 := hv.2.2.2.2.1
    clear hv
    by_cases g : i < m.facts.length
    rotate_left
    · have x0 : decide ((i : Int) < m.facts.length) = false := decide_eq_false (by omega)
      obtain rfl : i = m.facts.length := by omega
      rw [List.drop_length, eachE] at hE
      simp -implicitDefEqProofs only [go_sem, h1, h4, hl, hn, hi2, x0]
      exact ⟨hE, ⟨z, hS, g1, g3⟩, by simp -implicitDefEqProofs only [go_sem, h1, h4]⟩
    have x0 : decide ((i : Int) < m.facts.length) = true := decide_eq_true (by omega)
    obtain ⟨x, hx⟩ : ∃ x, m.facts[i]? = some x := getD_get' g
    have hxr := r1 x (List.mem_of_getElem? hx)
    have ws : IntKind.i64.wrap ((i : Int) + 1) = ((i + 1 : Nat) : Int) := by rw [Go.IntWalk.i64_in _ (by omega)]; omega
    have hps := prevK_succ (·.key) hx
    have hU : ∀ (a : SetV), a ∈ m.facts → (encSet a).length = 2 := fun _ _ => rfl
    rw [drop_at hx] at hE
    obtain ⟨xkey, xvalue⟩ := x
    have hr1 := hxr.1
    have hr2 := hxr.2
    simp only at hr1 hr2 hps
    rw [eachE_step factErr (·.key) rfl] at hE
    have hb := fun G (h : G i3 = some (.cells [.str z])) => behind_calls i xkey z _ i3 G h hp
    generalize prevK (·.key) m.facts i = pk at *
    simp -implicitDefEqProofs only [go_sem, h1, h4, hl, hn, hi2, x0, hx]
    refine ⟨hU, Nat.le_refl _, ?_⟩
    simp only [encSet, List.take_succ_cons, List.take_zero, List.take_nil]
    with_reducible refine nwC_intro fun i6 hi6 => ?_
    simp -implicitDefEqProofs only [go_sem]
    generalize E6 : Heap.put G i6 _ = G6
    have hO_6 := obj_new E6 hi6 hS
    have n6 := hO_6.1
    have hS := hO_6.2.1
    have g6 := hO_6.2.2.1
    have d1_6 := obj_ne g1 hi6
    have g1 := hO_6.2.2.2 _ _ g1
    have d3_6 := obj_ne g3 hi6
    have g3 := hO_6.2.2.2 _ _ g3
    clear hO_6
    simp -implicitDefEqProofs only [go_sem, h1, h4, hl, hn, hi2, g6, puRC, sStr_eq, sWhen_eq, hR, hr1, hr2, hxr]
    refine (hb _ g3).pure_next2 ?_
    generalize E3 : Heap.put G6 i3 _ = G7
    have hS := obj_sub E3 n3 hS
    have g3 := obj_at E3
    have g1 := obj_keep E3 (by first | exact d1_3 | exact fun e => d3_1 e.symm) g1
    have g6 := obj_keep E3 (by first | exact d6_3 | exact fun e => d3_6 e.symm) g6
    simp -implicitDefEqProofs only [go_sem, h1, h4, hl, hn, hi2, g6, puRC, sFirst, first3]
    generalize (if factErr ⟨xkey, xvalue⟩ ≠ 0 then factErr ⟨xkey, xvalue⟩ else bV pk xkey) = e at *
    by_cases c1 : e = 0
    · have y1 : decide (¬ e = 0) = false := decide_eq_false (by simpa using c1)
      rw [if_neg (by simpa using c1), ← hps] at hE
      simp -implicitDefEqProofs only [go_sem, h1, h4, hl, hn, hi2, y1, ws]
      exact Again.mk (i + 1) (by simp -implicitDefEqProofs only [go_sem, h1, h4, hl, hn]) ⟨by omega, hE, xkey, ⟨hS, g1, g3⟩, by rw [hps, if_neg (by omega)]⟩ (by omega)
    · have y1 : decide (¬ e = 0) = true := decide_eq_true c1
      rw [if_pos c1] at hE
      simp -implicitDefEqProofs only [go_sem, h1, h4, hl, hn, hi2, y1]
      exact Done.drop hS ⟨by rw [hM, if_pos (by rw [hE]; exact c1), hE], rfl⟩
  rintro r G ⟨he1, ⟨z, hZ⟩, hv⟩
  have h1 := hv.1
  have h4 := hv.2.1
  have g1 := hZ.2.1
  clear hv
  simp only [encMac] at g1
  rw [if_neg (by simpa using he1)] at hM
  simp -implicitDefEqProofs only [go_sem, h1, h4, g1]
  with_reducible refine nwM_intro fun im him => ?_
  have hdS := hZ.1
  have hg3 := hZ.2.2
  obtain ⟨hS, _, g3⟩ := hZ
  generalize Eim : Heap.put G im _ = G2
  have hO_im := obj_new Eim him hS
  have nim := hO_im.1
  have hS := hO_im.2.1
  have gim := hO_im.2.2.1
  have d1_im := obj_ne g1 him
  have g1 := hO_im.2.2.2 _ _ g1
  have d3_im := obj_ne g3 him
  have g3 := hO_im.2.2.2 _ _ g3
  clear hO_im
  simp -implicitDefEqProofs only [go_sem, h1, h4, g1]
  with_reducible refine aloop_cut 2 (RcQ (filesE none [] m.files = 0) m ta tb tc td H i1 i3) ?_ ?_
  rotate_left
  · refine aloop_intro (σ := Nat) (fun i => [(1, .ptr i1 0), (4, .func 48 [.ptr i3 0]), (8, .map im), (73, .sl (m.files.map encFile) tb), (74, .int .i64 m.files.length), (75, .int .i64 i)])
      (fun i G => i ≤ m.files.length ∧ (∃ z, RcM m ta tb tc td H i1 i3 G z ∧ prevK (·.path) m.files i = if i = 0 then none else some z) ∧ ∃ es seen, G im = some (.map .str es) ∧ SeenOK es seen ∧ filesE none [] m.files = filesE (prevK (·.path) m.files i) seen (m.files.drop i)) (fun i => m.files.length - i) 0 ?_ ?_ ?_
    · simp -implicitDefEqProofs only [go_sem, h1, h4]
    · exact ⟨Nat.zero_le _, ⟨z, ⟨hS, g1, g3⟩, rfl⟩, [], [], gim, SeenOK.nil, rfl⟩
    clear g1 g3 hg3 hdS gim hS h1 h4
    rintro i r G hv ⟨hi, ⟨z, ⟨hS, g1, g3⟩, hp⟩, es, seen, gim, hse, hE⟩
    have h1 := hv.1
    have h4 := hv.2.1
    have h8 := hv.2.2.1
    have hl := hv.2.2.2.1
    have hn := hv.2.2.2.2.1
    have hi2 := hv.2.2.2.2.2.1
    clear hv
    by_cases g : i < m.files.length
    rotate_left
    · have x0 : decide ((i : Int) < m.files.length) = false := decide_eq_false (by omega)
      obtain rfl : i = m.files.length := by omega
      rw [List.drop_length, filesE] at hE
      simp -implicitDefEqProofs only [go_sem, h1, h4, h8, hl, hn, hi2, x0]
      exact ⟨hE, ⟨z, hS, g1, g3⟩, by simp -implicitDefEqProofs only [go_sem, h1, h4]⟩
    have x0 : decide ((i : Int) < m.files.length) = true := decide_eq_true (by omega)
    obtain ⟨x, hx⟩ : ∃ x, m.files[i]? = some x := getD_get' g
    have hxr := r2 x (List.mem_of_getElem? hx)
    have ws : IntKind.i64.wrap ((i : Int) + 1) = ((i + 1 : Nat) : Int) := by rw [Go.IntWalk.i64_in _ (by omega)]; omega
    have hps := prevK_succ (·.path) hx
    have hU : ∀ (a : FileV), a ∈ m.files → (encFile a).length = 3 := fun _ _ => rfl
    rw [drop_at hx] at hE
    obtain ⟨xpath, xdata, xruns⟩ := x
    have hr1 := hxr.1
    simp only at hr1 hps
    rw [filesE_step rfl] at hE
    simp only at hE
    have hb := fun G (h : G i3 = some (.cells [.str z])) => behind_calls i xpath z _ i3 G h hp
    generalize prevK (·.path) m.files i = pk at *
    simp -implicitDefEqProofs only [go_sem, h1, h4, h8, hl, hn, hi2, x0, hx]
    refine ⟨hU, Nat.le_refl _, ?_⟩
    simp only [encFile, List.take_succ_cons, List.take_zero, List.take_nil]
    with_reducible refine nwC_intro fun i6 hi6 => ?_
    simp -implicitDefEqProofs only [go_sem]
    generalize E6 : Heap.put G i6 _ = G6
    have hO_6 := obj_new E6 hi6 hS
    have n6 := hO_6.1
    have hS := hO_6.2.1
    have g6 := hO_6.2.2.1
    have d1_6 := obj_ne g1 hi6
    have g1 := hO_6.2.2.2 _ _ g1
    have d3_6 := obj_ne g3 hi6
    have g3 := hO_6.2.2.2 _ _ g3
    have dim_6 := obj_ne gim hi6
    have gim := hO_6.2.2.2 _ _ gim
    clear hO_6
    simp -implicitDefEqProofs only [go_sem, h1, h4, h8, hl, hn, hi2, g6, puRC, sFileE, hxr]
    refine (hb _ g3).pure_next2 ?_
    generalize E3 : Heap.put G6 i3 _ = G7
    have hS := obj_sub E3 n3 hS
    have g3 := obj_at E3
    have g1 := obj_keep E3 (by first | exact d1_3 | exact fun e => d3_1 e.symm) g1
    have g6 := obj_keep E3 (by first | exact d6_3 | exact fun e => d3_6 e.symm) g6
    have gim := obj_keep E3 (by first | exact dim_3 | exact fun e => d3_im e.symm) gim
    simp -implicitDefEqProofs only [go_sem, h1, h4, h8, hl, hn, hi2, g6, puRC, sFirst, first2]
    generalize (if fileErr ⟨xpath, xdata, xruns⟩ ≠ 0 then fileErr ⟨xpath, xdata, xruns⟩ else bV pk xpath) = e at *
    have fin : ∀ e2 : Int, e2 ≠ 0 → filesE none [] m.files = e2 → macErr m = e2 := fun e2 h1 h2 => by rw [hM, if_pos (by rw [h2]; exact h1), h2]
    by_cases c1 : e = 0
    rotate_left
    · have y1 : decide (e = 0) = false := decide_eq_false c1
      have y2 : decide (¬ e = 0) = true := decide_eq_true c1
      rw [if_pos c1] at hE
      simp -implicitDefEqProofs only [go_sem, h1, h4, h8, hl, hn, hi2, y1, y2]
      exact Done.drop hS ⟨by rw [fin e c1 hE], rfl⟩
    subst c1
    rw [if_neg (by simp)] at hE
    simp -implicitDefEqProofs only [go_sem, h1, h4, h8, hl, hn, hi2, g6]
    with_reducible refine aloop_cut 4 (fun r G => RcM m ta tb tc td H i1 i3 G xpath ∧ G im = some (.map .str es) ∧ G i6 = some (.cells [.str xpath, .str xdata, .bool xruns]) ∧ agrees r [(1, .ptr i1 0), (4, .func 48 [.ptr i3 0]), (8, .map im), (10, .ptr i6 0), (11, .int .i64 (if clash seen xpath = true then 11 else 0)), (73, .sl (m.files.map encFile) tb), (74, .int .i64 m.files.length), (75, .int .i64 i)]) ?_ ?_
    rotate_left
    · refine aloop_intro (σ := Nat) (fun k => [(1, .ptr i1 0), (4, .func 48 [.ptr i3 0]), (8, .map im), (10, .ptr i6 0), (11, .int .i64 (if clashTo seen xpath k = true then 11 else 0)), (73, .sl (m.files.map encFile) tb), (74, .int .i64 m.files.length), (75, .int .i64 i), (93, .int .i64 xpath.length), (94, .int .i64 k)])
        (fun k G => G = G7 ∧ k ≤ xpath.length) (fun k => xpath.length - k) 0 ?_ ?_ ?_
      · simp -implicitDefEqProofs only [go_sem, h1, h4, h8, hl, hn, hi2]
        exact rfl
      · exact ⟨rfl, Nat.zero_le _⟩
      clear h1 h4 h8 hl hn hi2
      rintro k r G hv ⟨rfl, hk⟩
      have h1 := hv.1
      have h4 := hv.2.1
      have h8 := hv.2.2.1
      have h10 := hv.2.2.2.1
      have h11 := hv.2.2.2.2.1
      have hl := hv.2.2.2.2.2.1
      have hn := hv.2.2.2.2.2.2.1
      have hi2 := hv.2.2.2.2.2.2.2.1
      have h93 := hv.2.2.2.2.2.2.2.2.1
      have h94 := hv.2.2.2.2.2.2.2.2.2.1
      clear hv
      by_cases gk : k < xpath.length
      rotate_left
      · have x2 : decide ((k : Int) < xpath.length) = false := decide_eq_false (by omega)
        obtain rfl : k = xpath.length := by omega
        rw [clashTo_all] at h11
        simp -implicitDefEqProofs only [go_sem, h1, h4, h8, h10, h11, hl, hn, hi2, h93, h94, x2]
        exact ⟨⟨hS, g1, g3⟩, gim, g6⟩
      have x2 : decide ((k : Int) < xpath.length) = true := decide_eq_true (by omega)
      obtain ⟨c, hc⟩ : ∃ c, xpath[k]? = some c := getD_get' gk
      have wk : IntKind.i64.wrap ((k : Int) + 1) = ((k + 1 : Nat) : Int) := by rw [Go.IntWalk.i64_in _ (by omega)]; omega
      have e47 := @u8_eq c 47 (by decide)
      have hsx := clashTo_succ seen xpath k
      rw [hc] at hsx
      by_cases d1 : c = 47
      rotate_left
      · have x3 : decide ((c.toNat : Int) = 47) = false := decide_eq_false (fun e => d1 (e47.1 e))
        have hsy : clashTo seen xpath (k + 1) = clashTo seen xpath k := by rw [hsx]; simp [d1]
        simp -implicitDefEqProofs only [go_sem, h1, h4, h8, h10, h11, hl, hn, hi2, h93, h94, x2, g6, hc, x3, wk]
        exact Again.mk (k + 1) (by simp -implicitDefEqProofs only [go_sem, h1, h4, h8, h10, h11, hl, hn, hi2, h93, hsy]) ⟨rfl, by omega⟩ (by omega)
      have x3 : decide ((c.toNat : Int) = 47) = true := decide_eq_true (e47.2 d1)
      subst d1
      rw [decide_eq_true rfl, Bool.true_and] at hsx
      have hg := hse.get (xpath.take k)
      cases hct : seen.contains (xpath.take k) with
      | true =>
        rw [hct, Bool.or_true] at hsx
        rw [hct] at hg
        simp -implicitDefEqProofs only [go_sem, h1, h4, h8, h10, h11, hl, hn, hi2, h93, h94, x2, g6, hc, x3, wk, gim, hg, Int.toNat_natCast]
        refine ⟨by omega, ?_⟩
        exact Again.mk (k + 1) (by simp -implicitDefEqProofs only [go_sem, h1, h4, h8, h10, hl, hn, hi2, h93, hsx]) ⟨rfl, by omega⟩ (by omega)
      | false =>
        rw [hct, Bool.or_false] at hsx
        rw [hct] at hg
        simp -implicitDefEqProofs only [go_sem, h1, h4, h8, h10, h11, hl, hn, hi2, h93, h94, x2, g6, hc, x3, wk, gim, hg, Int.toNat_natCast]
        refine ⟨by omega, ?_⟩
        exact Again.mk (k + 1) (by simp -implicitDefEqProofs only [go_sem, h1, h4, h8, h10, h11, hl, hn, hi2, h93, hsx]) ⟨rfl, by omega⟩ (by omega)
    clear g1 g3 gim g6 hS h1 h4 h8 hl hn hi2
    rintro r G ⟨⟨hS, g1, g3⟩, gim, g6, hv⟩
    have h1 := hv.1
    have h4 := hv.2.1
    have h8 := hv.2.2.1
    have h10 := hv.2.2.2.1
    have h11 := hv.2.2.2.2.1
    have hl := hv.2.2.2.2.2.1
    have hn := hv.2.2.2.2.2.2.1
    have hi2 := hv.2.2.2.2.2.2.2.1
    clear hv
    cases hct : clash seen xpath with
    | true =>
      rw [hct, if_pos rfl] at h11 hE
      simp -implicitDefEqProofs only [go_sem, h1, h4, h8, h10, h11, hl, hn, hi2]
      exact Done.drop hS ⟨by rw [fin 11 (by decide) hE], rfl⟩
    | false =>
      rw [hct, if_neg (by simp)] at h11 hE
      simp -implicitDefEqProofs only [go_sem, h1, h4, h8, h10, h11, hl, hn, hi2, g6, gim, ws]
      refine Again.mk (i + 1) (by simp -implicitDefEqProofs only [go_sem, h1, h4, h8, hl, hn]) ⟨by omega, ⟨xpath, ⟨hS.put' nim _, by rw [put_ne _ _ _ _ d1_im]; exact g1, by rw [put_ne _ _ _ _ d3_im]; exact g3⟩, by rw [hps, if_neg (by omega)]⟩, _, xpath :: seen, put_same _ _ _, hse.set xpath, ?_⟩ (by omega)
      rw [hE, hps]
  clear g1 g3 hg3 hdS gim hS h1 h4
  rintro r G ⟨he2, ⟨z, hZ⟩, hv⟩
  have h1 := hv.1
  have h4 := hv.2.1
  have g1 := hZ.2.1
  clear hv
  simp only [encMac] at g1
  rw [if_neg (by simpa using he2)] at hM
  simp -implicitDefEqProofs only [go_sem, h1, h4, g1]
  with_reducible refine aloop_cut 6 (RcQ (eachE setErr (·.key) none m.sets = 0) m ta tb tc td H i1 i3) ?_ ?_
  rotate_left
  · refine aloop_intro (σ := Nat) (fun i => [(1, .ptr i1 0), (4, .func 48 [.ptr i3 0]), (119, .sl (m.sets.map encSet) tc), (120, .int .i64 m.sets.length), (121, .int .i64 i)])
      (RcI setErr (·.key) m.sets m ta tb tc td H i1 i3) (fun i => m.sets.length - i) 0 ?_ ?_ ?_
    · simp -implicitDefEqProofs only [go_sem, h1, h4]
    · exact ⟨Nat.zero_le _, rfl, z, hZ, rfl⟩
    clear hZ h1 h4
    rintro i r G hv ⟨hi, hE, z, ⟨hS, g1, g3⟩, hp⟩
    have h1 := hv.1
    have h4 := hv.2.1
    have hl := hv.2.2.1
    have hn := hv.2.2.2.1
    have hi2 := hv.2.2.2.2.1
    clear hv
    by_cases g : i < m.sets.length
    rotate_left
    · have x0 : decide ((i : Int) < m.sets.length) = false := decide_eq_false (by omega)
      obtain rfl : i = m.sets.length := by omega
      rw [List.drop_length, eachE] at hE
      simp -implicitDefEqProofs only [go_sem, h1, h4, hl, hn, hi2, x0]
      exact ⟨hE, ⟨z, hS, g1, g3⟩, by simp -implicitDefEqProofs only [go_sem, h1, h4]⟩
    have x0 : decide ((i : Int) < m.sets.length) = true := decide_eq_true (by omega)
    obtain ⟨x, hx⟩ : ∃ x, m.sets[i]? = some x := getD_get' g
    have hxr := r3 x (List.mem_of_getElem? hx)
    have ws : IntKind.i64.wrap ((i : Int) + 1) = ((i + 1 : Nat) : Int) := by rw [Go.IntWalk.i64_in _ (by omega)]; omega
    have hps := prevK_succ (·.key) hx
    have hU : ∀ (a : SetV), a ∈ m.sets → (encSet a).length = 2 := fun _ _ => rfl
    rw [drop_at hx] at hE
    obtain ⟨xkey, xvalue⟩ := x
    have hr1 := hxr.1
    have hr2 := hxr.2
    simp only at hr1 hr2 hps
    rw [eachE_step setErr (·.key) rfl] at hE
    have hb := fun G (h : G i3 = some (.cells [.str z])) => behind_calls i xkey z _ i3 G h hp
    generalize prevK (·.key) m.sets i = pk at *
    simp -implicitDefEqProofs only [go_sem, h1, h4, hl, hn, hi2, x0, hx]
    refine ⟨hU, Nat.le_refl _, ?_⟩
    simp only [encSet, List.take_succ_cons, List.take_zero, List.take_nil]
    with_reducible refine nwC_intro fun i6 hi6 => ?_
    simp -implicitDefEqProofs only [go_sem]
    generalize E6 : Heap.put G i6 _ = G6
    have hO_6 := obj_new E6 hi6 hS
    have n6 := hO_6.1
    have hS := hO_6.2.1
    have g6 := hO_6.2.2.1
    have d1_6 := obj_ne g1 hi6
    have g1 := hO_6.2.2.2 _ _ g1
    have d3_6 := obj_ne g3 hi6
    have g3 := hO_6.2.2.2 _ _ g3
    clear hO_6
    simp -implicitDefEqProofs only [go_sem, h1, h4, hl, hn, hi2, g6, puRC, sSetE, hR, hr1, hr2, hxr]
    refine (hb _ g3).pure_next2 ?_
    generalize E3 : Heap.put G6 i3 _ = G7
    have hS := obj_sub E3 n3 hS
    have g3 := obj_at E3
    have g1 := obj_keep E3 (by first | exact d1_3 | exact fun e => d3_1 e.symm) g1
    have g6 := obj_keep E3 (by first | exact d6_3 | exact fun e => d3_6 e.symm) g6
    simp -implicitDefEqProofs only [go_sem, h1, h4, hl, hn, hi2, g6, puRC, sFirst, sFirst, first2]
    generalize (if setErr ⟨xkey, xvalue⟩ ≠ 0 then setErr ⟨xkey, xvalue⟩ else bV pk xkey) = e at *
    by_cases c1 : e = 0
    · have y1 : decide (¬ e = 0) = false := decide_eq_false (by simpa using c1)
      rw [if_neg (by simpa using c1), ← hps] at hE
      simp -implicitDefEqProofs only [go_sem, h1, h4, hl, hn, hi2, y1, ws]
      exact Again.mk (i + 1) (by simp -implicitDefEqProofs only [go_sem, h1, h4, hl, hn]) ⟨by omega, hE, xkey, ⟨hS, g1, g3⟩, by rw [hps, if_neg (by omega)]⟩ (by omega)
    · have y1 : decide (¬ e = 0) = true := decide_eq_true c1
      rw [if_pos c1] at hE
      simp -implicitDefEqProofs only [go_sem, h1, h4, hl, hn, hi2, y1]
      exact Done.drop hS ⟨by rw [hM, if_pos (by rw [hE]; exact c1), hE], rfl⟩
  rintro r G ⟨he3, ⟨z, hZ⟩, hv⟩
  have h1 := hv.1
  have h4 := hv.2.1
  have g1 := hZ.2.1
  clear hv
  simp only [encMac] at g1
  rw [if_neg (by simpa using he3)] at hM
  simp -implicitDefEqProofs only [go_sem, h1, h4, g1]
  with_reducible refine aloop_cut 8 (RcQ (eachE svcErr (·.name) none m.svcs = 0) m ta tb tc td H i1 i3) ?_ ?_
  rotate_left
  · refine aloop_intro (σ := Nat) (fun i => [(1, .ptr i1 0), (4, .func 48 [.ptr i3 0]), (140, .sl (m.svcs.map encSvc) td), (141, .int .i64 m.svcs.length), (142, .int .i64 i)])
      (RcI svcErr (·.name) m.svcs m ta tb tc td H i1 i3) (fun i => m.svcs.length - i) 0 ?_ ?_ ?_
    · simp -implicitDefEqProofs only [go_sem, h1, h4]
    · exact ⟨Nat.zero_le _, rfl, z, hZ, rfl⟩
    clear hZ h1 h4
    rintro i r G hv ⟨hi, hE, z, ⟨hS, g1, g3⟩, hp⟩
    have h1 := hv.1
    have h4 := hv.2.1
    have hl := hv.2.2.1
    have hn := hv.2.2.2.1
    have hi2 := hv.2.2.2.2.1
    clear hv
    by_cases g : i < m.svcs.length
    rotate_left
    · have x0 : decide ((i : Int) < m.svcs.length) = false := decide_eq_false (by omega)
      obtain rfl : i = m.svcs.length := by omega
      rw [List.drop_length, eachE] at hE
      simp -implicitDefEqProofs only [go_sem, h1, h4, hl, hn, hi2, x0]
      exact ⟨hE, ⟨z, hS, g1, g3⟩, by simp -implicitDefEqProofs only [go_sem, h1, h4]⟩
    have x0 : decide ((i : Int) < m.svcs.length) = true := decide_eq_true (by omega)
    obtain ⟨x, hx⟩ : ∃ x, m.svcs[i]? = some x := getD_get' g
    have hxr := r4 x (List.mem_of_getElem? hx)
    have ws : IntKind.i64.wrap ((i : Int) + 1) = ((i + 1 : Nat) : Int) := by rw [Go.IntWalk.i64_in _ (by omega)]; omega
    have hps := prevK_succ (·.name) hx
    have hU : ∀ (a : SvcV), a ∈ m.svcs → (encSvc a).length = 4 := fun _ _ => rfl
    rw [drop_at hx] at hE
    obtain ⟨xname, xpath, xauto, xon⟩ := x
    have hr1 := hxr.1
    have hr2 := hxr.2
    simp only at hr1 hr2 hps
    rw [eachE_step svcErr (·.name) rfl] at hE
    have hb := fun G (h : G i3 = some (.cells [.str z])) => behind_calls i xname z _ i3 G h hp
    generalize prevK (·.name) m.svcs i = pk at *
    simp -implicitDefEqProofs only [go_sem, h1, h4, hl, hn, hi2, x0, hx]
    refine ⟨hU, Nat.le_refl _, ?_⟩
    simp only [encSvc, List.take_succ_cons, List.take_zero, List.take_nil]
    with_reducible refine nwC_intro fun i6 hi6 => ?_
    simp -implicitDefEqProofs only [go_sem]
    generalize E6 : Heap.put G i6 _ = G6
    have hO_6 := obj_new E6 hi6 hS
    have n6 := hO_6.1
    have hS := hO_6.2.1
    have g6 := hO_6.2.2.1
    have d1_6 := obj_ne g1 hi6
    have g1 := hO_6.2.2.2 _ _ g1
    have d3_6 := obj_ne g3 hi6
    have g3 := hO_6.2.2.2 _ _ g3
    clear hO_6
    simp -implicitDefEqProofs only [go_sem, h1, h4, hl, hn, hi2, g6, puRC, sSvcE, hR, hr1, hr2, hxr]
    refine (hb _ g3).pure_next2 ?_
    generalize E3 : Heap.put G6 i3 _ = G7
    have hS := obj_sub E3 n3 hS
    have g3 := obj_at E3
    have g1 := obj_keep E3 (by first | exact d1_3 | exact fun e => d3_1 e.symm) g1
    have g6 := obj_keep E3 (by first | exact d6_3 | exact fun e => d3_6 e.symm) g6
    simp -implicitDefEqProofs only [go_sem, h1, h4, hl, hn, hi2, g6, puRC, sFirst, sFirst, first2]
    generalize (if svcErr ⟨xname, xpath, xauto, xon⟩ ≠ 0 then svcErr ⟨xname, xpath, xauto, xon⟩ else bV pk xname) = e at *
    by_cases c1 : e = 0
    · have y1 : decide (¬ e = 0) = false := decide_eq_false (by simpa using c1)
      rw [if_neg (by simpa using c1), ← hps] at hE
      simp -implicitDefEqProofs only [go_sem, h1, h4, hl, hn, hi2, y1, ws]
      exact Again.mk (i + 1) (by simp -implicitDefEqProofs only [go_sem, h1, h4, hl, hn]) ⟨by omega, hE, xname, ⟨hS, g1, g3⟩, by rw [hps, if_neg (by omega)]⟩ (by omega)
    · have y1 : decide (¬ e = 0) = true := decide_eq_true c1
      rw [if_pos c1] at hE
      simp -implicitDefEqProofs only [go_sem, h1, h4, hl, hn, hi2, y1]
      exact Done.drop hS ⟨by rw [hM, hE], rfl⟩
  rintro r G ⟨he4, ⟨z, hZ⟩, hv⟩
  have h1 := hv.1
  have h4 := hv.2.1
  have g1 := hZ.2.1
  clear hv
  simp only [encMac] at g1
  rw [he4] at hM
  simp -implicitDefEqProofs only [go_sem, h1, h4, g1]
  exact Done.drop hZ.1 ⟨by rw [hM], rfl⟩
end Go.Proofs

/- Walks: slices.Equal on the things of a machine; Same. -/
namespace Go.Proofs
open Go Go.Abs
set_option linter.unusedSimpArgs false
set_option linter.unusedVariables false
set_option maxRecDepth 20000
theorem eqSet_calls_ne (cx cy : Bool) (a b : SetV) : bin Tryz.prog .neq 49 cx cy (.agg (encSet a)) (.agg (encSet b)) = some (.bool (decide ¬ a = b)) := by
  have h : eqT Tryz.prog 6 49 (.agg (encSet a)) (.agg (encSet b)) = some (decide (a = b)) := by
    obtain ⟨xkey, xvalue⟩ := a
    obtain ⟨ykey, yvalue⟩ := b
    simp only [encSet, eqT, eqFields, tys, readC, TD.agg, if_true, List.drop_zero, List.drop_succ_cons, List.head?_cons, Bool.false_eq_true, if_false, Option.some.injEq, Bool.and_true]
    rw [Bool.eq_iff_iff]
    simp [SetV.mk.injEq]
  have e : eqA Tryz.prog 49 cx cy (.agg (encSet a)) (.agg (encSet b)) = some (decide (a = b)) := by
    unfold eqA
    simp only [tys, if_true]
    exact h
  show (eqA Tryz.prog 49 cx cy (.agg (encSet a)) (.agg (encSet b))).map (fun b => AV.bool (!b)) = _
  rw [e]
  simp
theorem eqSet_calls (a b : List SetV) (t t' : Tail) (H : Heap) (ha : a.length ≤ 1099511627776) : ACalls Tryz.prog 18 [.sl (a.map encSet) t, .sl (b.map encSet) t'] H fun x H' => x = .bool (decide (a = b)) ∧ H' = H := by
  by_cases hl : ¬ a.length = b.length
  · have d1 : decide (¬ (a.length : Int) = b.length) = true := by simp; omega
    refine ACalls.of_code (X := { pure := pu0 }) pu0_ok Tryz.func18 (by kernel_rfl) rfl (by kernel_rfl) (Nat.le_of_ble_eq_true rfl) ?_
    simp -implicitDefEqProofs only [go_sem, Tryz.f18, d1]
    refine Done.now ⟨?_, rfl⟩
    have : ¬ a = b := fun e => hl (by rw [e])
    simp [this]
  · have hl : a.length = b.length := Decidable.not_not.1 hl
    have d1 : decide (¬ (a.length : Int) = b.length) = false := by simp; omega
    refine ACalls.of_code (X := { pure := pu0 }) pu0_ok Tryz.func18 (by kernel_rfl) rfl (by kernel_rfl) (Nat.le_of_ble_eq_true rfl) ?_
    simp -implicitDefEqProofs only [go_sem, Tryz.f18, d1]
    refine aloop_intro (σ := Nat) (fun i => [(0, .sl (a.map encSet) t), (1, .sl (b.map encSet) t'), (12, .int .i64 a.length), (13, .int .i64 i)])
      (fun i G => G = H ∧ i ≤ a.length ∧ a.take i = b.take i) (fun i => a.length - i) 0 ?_ ?_ ?_
    · simp -implicitDefEqProofs only [go_sem]
    · simp
    · intro i r G hv hI
      have h0 := hv.1
      have h1 := hv.2.1
      have h12 := hv.2.2.1
      have h13 := hv.2.2.2.1
      have hG := hI.1.symm
      have hi := hI.2.1
      have hp := hI.2.2
      clear hv hI
      subst hG
      simp -implicitDefEqProofs only [go_sem, h0, h1, h12, h13]
      refine cnd_intro (fun h => ?_) (fun h => ?_)
      · simp only [decide_eq_true_eq] at h
        obtain ⟨x, hx⟩ := get_some (l := a) (i := i) (by omega)
        obtain ⟨y, hy⟩ := get_some (l := b) (i := i) (by omega)
        have ht := take_eq_succ hx hy
        have hn := fun cx cy => eqSet_calls_ne cx cy x y
        obtain ⟨xkey, xvalue⟩ := x
        obtain ⟨ykey, yvalue⟩ := y
        simp only [encSet] at hn
        simp -implicitDefEqProofs only [go_sem, h0, h1, h12, h13, hx, hy, encSet, hn]
        refine cnd_intro (fun g => ?_) (fun g => ?_)
        · simp -implicitDefEqProofs only [go_sem]
          refine Done.now ⟨?_, rfl⟩
          have : ¬ a = b := fun e => by subst e; rw [hx] at hy; cases hy; simp at g
          simp [this]
        · simp -implicitDefEqProofs (disch := omega) only [go_sem, Go.IntWalk.i64_in, h0, h1, h12, h13]
          simp only [decide_eq_false_iff_not, Decidable.not_not] at g
          exact Again.mk (i + 1) (by simp -implicitDefEqProofs only [go_sem, h0, h1, h12, h13]; exact rfl) ⟨rfl, by omega, ht.2 ⟨hp, g⟩⟩ (by omega)
      · simp only [decide_eq_false_iff_not] at h
        have e : i = a.length := by omega
        rw [e, List.take_length, hl, List.take_length] at hp
        simp -implicitDefEqProofs only [go_sem]
        exact Done.now ⟨by simp [hp], rfl⟩

theorem eqFile_calls_ne (cx cy : Bool) (a b : FileV) : bin Tryz.prog .neq 33 cx cy (.agg (encFile a)) (.agg (encFile b)) = some (.bool (decide ¬ a = b)) := by
  have h : eqT Tryz.prog 6 33 (.agg (encFile a)) (.agg (encFile b)) = some (decide (a = b)) := by
    obtain ⟨xpath, xdata, xruns⟩ := a
    obtain ⟨ypath, ydata, yruns⟩ := b
    simp only [encFile, eqT, eqFields, tys, readC, TD.agg, if_true, List.drop_zero, List.drop_succ_cons, List.head?_cons, Bool.false_eq_true, if_false, Option.some.injEq, Bool.and_true]
    rw [Bool.eq_iff_iff]
    simp [FileV.mk.injEq]
  have e : eqA Tryz.prog 33 cx cy (.agg (encFile a)) (.agg (encFile b)) = some (decide (a = b)) := by
    unfold eqA
    simp only [tys, if_true]
    exact h
  show (eqA Tryz.prog 33 cx cy (.agg (encFile a)) (.agg (encFile b))).map (fun b => AV.bool (!b)) = _
  rw [e]
  simp
theorem eqFile_calls (a b : List FileV) (t t' : Tail) (H : Heap) (ha : a.length ≤ 1099511627776) : ACalls Tryz.prog 19 [.sl (a.map encFile) t, .sl (b.map encFile) t'] H fun x H' => x = .bool (decide (a = b)) ∧ H' = H := by
  by_cases hl : ¬ a.length = b.length
  · have d1 : decide (¬ (a.length : Int) = b.length) = true := by simp; omega
    refine ACalls.of_code (X := { pure := pu0 }) pu0_ok Tryz.func19 (by kernel_rfl) rfl (by kernel_rfl) (Nat.le_of_ble_eq_true rfl) ?_
    simp -implicitDefEqProofs only [go_sem, Tryz.f19, d1]
    refine Done.now ⟨?_, rfl⟩
    have : ¬ a = b := fun e => hl (by rw [e])
    simp [this]
  · have hl : a.length = b.length := Decidable.not_not.1 hl
    have d1 : decide (¬ (a.length : Int) = b.length) = false := by simp; omega
    refine ACalls.of_code (X := { pure := pu0 }) pu0_ok Tryz.func19 (by kernel_rfl) rfl (by kernel_rfl) (Nat.le_of_ble_eq_true rfl) ?_
    simp -implicitDefEqProofs only [go_sem, Tryz.f19, d1]
    refine aloop_intro (σ := Nat) (fun i => [(0, .sl (a.map encFile) t), (1, .sl (b.map encFile) t'), (12, .int .i64 a.length), (13, .int .i64 i)])
      (fun i G => G = H ∧ i ≤ a.length ∧ a.take i = b.take i) (fun i => a.length - i) 0 ?_ ?_ ?_
    · simp -implicitDefEqProofs only [go_sem]
    · simp
    · intro i r G hv hI
      have h0 := hv.1
      have h1 := hv.2.1
      have h12 := hv.2.2.1
      have h13 := hv.2.2.2.1
      have hG := hI.1.symm
      have hi := hI.2.1
      have hp := hI.2.2
      clear hv hI
      subst hG
      simp -implicitDefEqProofs only [go_sem, h0, h1, h12, h13]
      refine cnd_intro (fun h => ?_) (fun h => ?_)
      · simp only [decide_eq_true_eq] at h
        obtain ⟨x, hx⟩ := get_some (l := a) (i := i) (by omega)
        obtain ⟨y, hy⟩ := get_some (l := b) (i := i) (by omega)
        have ht := take_eq_succ hx hy
        have hn := fun cx cy => eqFile_calls_ne cx cy x y
        obtain ⟨xpath, xdata, xruns⟩ := x
        obtain ⟨ypath, ydata, yruns⟩ := y
        simp only [encFile] at hn
        simp -implicitDefEqProofs only [go_sem, h0, h1, h12, h13, hx, hy, encFile, hn]
        refine cnd_intro (fun g => ?_) (fun g => ?_)
        · simp -implicitDefEqProofs only [go_sem]
          refine Done.now ⟨?_, rfl⟩
          have : ¬ a = b := fun e => by subst e; rw [hx] at hy; cases hy; simp at g
          simp [this]
        · simp -implicitDefEqProofs (disch := omega) only [go_sem, Go.IntWalk.i64_in, h0, h1, h12, h13]
          simp only [decide_eq_false_iff_not, Decidable.not_not] at g
          exact Again.mk (i + 1) (by simp -implicitDefEqProofs only [go_sem, h0, h1, h12, h13]; exact rfl) ⟨rfl, by omega, ht.2 ⟨hp, g⟩⟩ (by omega)
      · simp only [decide_eq_false_iff_not] at h
        have e : i = a.length := by omega
        rw [e, List.take_length, hl, List.take_length] at hp
        simp -implicitDefEqProofs only [go_sem]
        exact Done.now ⟨by simp [hp], rfl⟩

theorem eqSvc_calls_ne (cx cy : Bool) (a b : SvcV) : bin Tryz.prog .neq 53 cx cy (.agg (encSvc a)) (.agg (encSvc b)) = some (.bool (decide ¬ a = b)) := by
  have h : eqT Tryz.prog 6 53 (.agg (encSvc a)) (.agg (encSvc b)) = some (decide (a = b)) := by
    obtain ⟨xname, xpath, xauto, xon⟩ := a
    obtain ⟨yname, ypath, yauto, yon⟩ := b
    simp only [encSvc, eqT, eqFields, tys, readC, TD.agg, if_true, List.drop_zero, List.drop_succ_cons, List.head?_cons, Bool.false_eq_true, if_false, Option.some.injEq, Bool.and_true]
    rw [Bool.eq_iff_iff]
    simp [SvcV.mk.injEq]
  have e : eqA Tryz.prog 53 cx cy (.agg (encSvc a)) (.agg (encSvc b)) = some (decide (a = b)) := by
    unfold eqA
    simp only [tys, if_true]
    exact h
  show (eqA Tryz.prog 53 cx cy (.agg (encSvc a)) (.agg (encSvc b))).map (fun b => AV.bool (!b)) = _
  rw [e]
  simp
theorem eqSvc_calls (a b : List SvcV) (t t' : Tail) (H : Heap) (ha : a.length ≤ 1099511627776) : ACalls Tryz.prog 20 [.sl (a.map encSvc) t, .sl (b.map encSvc) t'] H fun x H' => x = .bool (decide (a = b)) ∧ H' = H := by
  by_cases hl : ¬ a.length = b.length
  · have d1 : decide (¬ (a.length : Int) = b.length) = true := by simp; omega
    refine ACalls.of_code (X := { pure := pu0 }) pu0_ok Tryz.func20 (by kernel_rfl) rfl (by kernel_rfl) (Nat.le_of_ble_eq_true rfl) ?_
    simp -implicitDefEqProofs only [go_sem, Tryz.f20, d1]
    refine Done.now ⟨?_, rfl⟩
    have : ¬ a = b := fun e => hl (by rw [e])
    simp [this]
  · have hl : a.length = b.length := Decidable.not_not.1 hl
    have d1 : decide (¬ (a.length : Int) = b.length) = false := by simp; omega
    refine ACalls.of_code (X := { pure := pu0 }) pu0_ok Tryz.func20 (by kernel_rfl) rfl (by kernel_rfl) (Nat.le_of_ble_eq_true rfl) ?_
    simp -implicitDefEqProofs only [go_sem, Tryz.f20, d1]
    refine aloop_intro (σ := Nat) (fun i => [(0, .sl (a.map encSvc) t), (1, .sl (b.map encSvc) t'), (12, .int .i64 a.length), (13, .int .i64 i)])
      (fun i G => G = H ∧ i ≤ a.length ∧ a.take i = b.take i) (fun i => a.length - i) 0 ?_ ?_ ?_
    · simp -implicitDefEqProofs only [go_sem]
    · simp
    · intro i r G hv hI
      have h0 := hv.1
      have h1 := hv.2.1
      have h12 := hv.2.2.1
      have h13 := hv.2.2.2.1
      have hG := hI.1.symm
      have hi := hI.2.1
      have hp := hI.2.2
      clear hv hI
      subst hG
      simp -implicitDefEqProofs only [go_sem, h0, h1, h12, h13]
      refine cnd_intro (fun h => ?_) (fun h => ?_)
      · simp only [decide_eq_true_eq] at h
        obtain ⟨x, hx⟩ := get_some (l := a) (i := i) (by omega)
        obtain ⟨y, hy⟩ := get_some (l := b) (i := i) (by omega)
        have ht := take_eq_succ hx hy
        have hn := fun cx cy => eqSvc_calls_ne cx cy x y
        obtain ⟨xname, xpath, xauto, xon⟩ := x
        obtain ⟨yname, ypath, yauto, yon⟩ := y
        simp only [encSvc] at hn
        simp -implicitDefEqProofs only [go_sem, h0, h1, h12, h13, hx, hy, encSvc, hn]
        refine cnd_intro (fun g => ?_) (fun g => ?_)
        · simp -implicitDefEqProofs only [go_sem]
          refine Done.now ⟨?_, rfl⟩
          have : ¬ a = b := fun e => by subst e; rw [hx] at hy; cases hy; simp at g
          simp [this]
        · simp -implicitDefEqProofs (disch := omega) only [go_sem, Go.IntWalk.i64_in, h0, h1, h12, h13]
          simp only [decide_eq_false_iff_not, Decidable.not_not] at g
          exact Again.mk (i + 1) (by simp -implicitDefEqProofs only [go_sem, h0, h1, h12, h13]; exact rfl) ⟨rfl, by omega, ht.2 ⟨hp, g⟩⟩ (by omega)
      · simp only [decide_eq_false_iff_not] at h
        have e : i = a.length := by omega
        rw [e, List.take_length, hl, List.take_length] at hp
        simp -implicitDefEqProofs only [go_sem]
        exact Done.now ⟨by simp [hp], rfl⟩

def sEqL {α : Type} [DecidableEq α] (dec : List AV → Option α) : List AV → Option AV := fn2 (Rd.list dec) (Rd.list dec) fun a b => if a.length ≤ 1099511627776 then some (.bool (decide (a = b))) else none
theorem sEqL_ok {α : Type} [DecidableEq α] {dec : List AV → Option α} {enc : α → List AV} (hd : ∀ c a, dec c = some a → c = enc a) {P : Program} {f : FuncId}
    (h : ∀ (a b : List α) (t t' : Tail) (H : Heap), a.length ≤ 1099511627776 → ACalls P f [.sl (a.map enc) t, .sl (b.map enc) t'] H fun x H' => x = .bool (decide (a = b)) ∧ H' = H) : ∀ xs v, sEqL dec xs = some v → ∀ H, ACalls P f xs H fun x H' => x = v ∧ H' = H := by
  intro xs v hv H
  obtain ⟨x, y, p, q, rfl, h1, h2, h3⟩ := fn2_some hv
  split at h3
  · rename_i hl
    cases h3
    obtain ⟨t, rfl⟩ := Rd.list_some (enc := enc) hd h1
    obtain ⟨t', rfl⟩ := Rd.list_some (enc := enc) hd h2
    exact h p q t t' H hl
  · cases h3
theorem sEqL_eq {α : Type} [DecidableEq α] {dec : List AV → Option α} {enc : α → List AV} (he : ∀ a, dec (enc a) = some a) (a b : List α) (t t' : Tail) (h : a.length ≤ 1099511627776) : sEqL dec [.sl (a.map enc) t, .sl (b.map enc) t'] = some (.bool (decide (a = b))) := by
  unfold sEqL
  rw [fn2_eq, Rd.list_eq he, Rd.list_eq he]
  simp only [Option.bind_some, if_pos h]
noncomputable def puM9 : Pures := putP 20 (sEqL decSvc) (putP 19 (sEqL decFile) (putP 18 (sEqL decSet) pu0))
theorem puM9_dyn : isDyn puM9 = false := by simp only [puM9, go_sem, Nat.reduceEqDiff]
attribute [go_sem] puM9_dyn
theorem puM9_ok : PuOK Tryz.prog puM9 := .put (.put (.put (pu0_ok) (sEqL_ok (fun _ _ => decSet_some) eqSet_calls)) (sEqL_ok (fun _ _ => decFile_some) eqFile_calls)) (sEqL_ok (fun _ _ => decSvc_some) eqSvc_calls)
set_option maxHeartbeats 1600000 in
theorem rSame_calls (m n : MacV) (a b c d a' b' c' d' : Tail) (H : Heap) (hr : macR m) : ACalls Tryz.prog 8 [.agg (encMac m a b c d), .agg (encMac n a' b' c' d')] H fun x H' => x = .bool (decide (m = n)) ∧ H' = H := by
  obtain ⟨⟨l1, l2, l3, l4⟩, _⟩ := hr
  have hS := Heap.Sub.rfl' H
  have q1 := sEqL_eq decSet_enc m.facts n.facts a a' l1
  have q2 := sEqL_eq decFile_enc m.files n.files b b' l2
  have q3 := sEqL_eq decSet_enc m.sets n.sets c c' l3
  have q4 := sEqL_eq decSvc_enc m.svcs n.svcs d d' l4
  have hd : decide (m = n) = (decide (m.facts = n.facts) && (decide (m.files = n.files) && (decide (m.sets = n.sets) && decide (m.svcs = n.svcs)))) := by
    obtain ⟨x1, x2, x3, x4⟩ := m
    obtain ⟨y1, y2, y3, y4⟩ := n
    rw [Bool.eq_iff_iff]
    simp
  rw [hd]
  clear hd
  generalize decide (m.facts = n.facts) = e1 at *
  generalize decide (m.files = n.files) = e2 at *
  generalize decide (m.sets = n.sets) = e3 at *
  generalize decide (m.svcs = n.svcs) = e4 at *
  refine ACalls.of_code (X := { pure := puM9 }) puM9_ok Tryz.func8 (by kernel_rfl) rfl (by kernel_rfl) (Nat.le_of_ble_eq_true rfl) ?_
  simp -implicitDefEqProofs only [go_sem, Tryz.f8, encMac]
  with_reducible refine nwC_intro fun i2 hi2 => ?_
  generalize E2 : Heap.put H i2 _ = G2
  have hO_2 := obj_new E2 hi2 hS
  have n2 := hO_2.1
  have hS := hO_2.2.1
  have g2 := hO_2.2.2.1
  clear hO_2
  simp -implicitDefEqProofs only [go_sem]
  with_reducible refine nwC_intro fun i3 hi3 => ?_
  generalize E3 : Heap.put G2 i3 _ = G3
  have hO_3 := obj_new E3 hi3 hS
  have n3 := hO_3.1
  have hS := hO_3.2.1
  have g3 := hO_3.2.2.1
  have d2_3 := obj_ne g2 hi3
  have g2 := hO_3.2.2.2 _ _ g2
  clear hO_3
  cases e1 <;> cases e2 <;> cases e3 <;> cases e4
  all_goals
    simp -implicitDefEqProofs only [go_sem, g2, g3, puM9, pu0, q1, q2, q3, q4]
    exact Done.drop hS ⟨rfl, rfl⟩
end Go.Proofs

/- Walks: functions with a wrong machine return its error. -/
namespace Go.Proofs
open Go Go.Abs
set_option linter.unusedSimpArgs false
set_option linter.unusedVariables false
set_option maxRecDepth 20000
end Go.Proofs

/- What one step forgets at the end of a function: when a map's entries were born. -/
namespace Go.Proofs
open Go Go.Abs Go.RowKit
set_option linter.unusedSimpArgs false
set_option linter.unusedVariables false
theorem put_owned {C : Cx} {H : Heap} {id : Nat} {o o' : AObj} (hm : H id = some o) (ho : ∀ j, o'.owns j ↔ o.owns j) (b j : Nat) : Owned C (H.put id o') b j ↔ Owned C H b j := by
  constructor
  · rintro ⟨i, p, h1, h2, h3⟩
    by_cases e : i = id
    · subst e
      rw [put_same] at h1
      cases h1
      exact ⟨i, o, hm, h2, (ho j).1 h3⟩
    · rw [put_ne _ _ _ _ e] at h1
      exact ⟨i, p, h1, h2, h3⟩
  · rintro ⟨i, p, h1, h2, h3⟩
    by_cases e : i = id
    · subst e
      rw [hm] at h1
      cases h1
      exact ⟨i, o', put_same _ _ _, h2, (ho j).2 h3⟩
    · exact ⟨i, p, by rw [put_ne _ _ _ _ e]; exact h1, h2, h3⟩
/-- When the entries were born is forgotten. -/
theorem _root_.Go.Abs.Ghost.unborn {P : Program} {H : Heap} {x : AV} {id : Nat} {kk : KK} {es : List (Key × AV)} {bs : List Nat} {cl : Nat} (hm : H id = some (.bmap kk es bs cl)) : Ghost P x H x (H.put id (.map kk es)) := fun C w v h1 h2 => by
  have hle : Le C H w C (H.put id (.map kk es)) w := ⟨Nat.le_refl _, fun _ _ => rfl, rfl, fun _ _ h => h, fun b off h => ⟨⟨h.1, fun h3 => h.2 ((put_owned (o' := .map kk es) hm (fun j => Iff.rfl) b off).1 h3)⟩, rfl⟩, Below.refl _ _⟩
  refine ⟨C, ⟨fun i o hi => ?_, fun i j oi oj hi hj => ?_, h1.base, h1.tab.le hle⟩, hle, h2.mono hle⟩
  · by_cases e : i = id
    · subst e
      rw [put_same] at hi
      cases hi
      obtain ⟨g1, g2, fs, a1, a2, a3, a4, a5⟩ := h1.live i _ hm
      exact ⟨g1, g2, fs, cl, a1, a2.mono hle, a4, a5⟩
    · rw [put_ne _ _ _ _ e] at hi
      obtain ⟨g1, g2, g3⟩ := h1.live i o hi
      exact ⟨g1, g2, g3.mono hle rfl⟩
  · have ex : ∀ i o, H.put id (.map kk es) i = some o → ∃ o', H i = some o' := fun i o h => by
      by_cases e : i = id
      · subst e; exact ⟨_, hm⟩
      · rw [put_ne _ _ _ _ e] at h; exact ⟨o, h⟩
    obtain ⟨o1, e1⟩ := ex i oi hi
    obtain ⟨o2, e2⟩ := ex j oj hj
    exact h1.inj i j o1 o2 e1 e2
end Go.Proofs

/- The library's contracts laid at this program. -/
namespace Go.Proofs
open Go.Shelf
def Tryz.shSort_ren : Go.Shelf.Ren := ⟨fun | 6 => 111 | 8 => 121 | 9 => 120 | 19 => 134 | 20 => 104 | 21 => 125 | 22 => 126 | 23 => 127 | 24 => 128 | 25 => 129 | 26 => 130 | 27 => 131 | 28 => 132 | 29 => 133 | 36 => 139 | 31 => 140 | 32 => 141 | 37 => 142 | 38 => 143 | 39 => 144 | 41 => 150 | n => n, fun | 27 => 127 | 29 => 9 | 3 => 3 | 32 => 77 | 26 => 127 | 0 => 0 | 44 => 110 | 46 => 43 | 4 => 4 | 36 => 153 | 35 => 152 | 41 => 157 | 5 => 5 | 9 => 9 | 53 => 163 | 57 => 167 | 63 => 169 | 64 => 170 | n => n, fun | n => n⟩
theorem Tryz.shSort : Go.Proofs.SlLaysM.n6 Tryz.prog Tryz.shSort_ren := {
  mixed := by kernel_rfl
  f6 := ⟨Tryz.f111.name, by decide, Tryz.func111.trans (congrArg some (by kernel_rfl))⟩
  f8 := Tryz.func121.trans (congrArg some (by kernel_rfl))
  f9 := ⟨Tryz.f120.name, by decide, Tryz.func120.trans (congrArg some (by kernel_rfl))⟩
  f19 := Tryz.func134.trans (congrArg some (by kernel_rfl))
  f20 := Tryz.func104.trans (congrArg some (by kernel_rfl))
  f21 := ⟨Tryz.f125.name, by decide, Tryz.func125.trans (congrArg some (by kernel_rfl))⟩
  f22 := ⟨Tryz.f126.name, by decide, Tryz.func126.trans (congrArg some (by kernel_rfl))⟩
  f23 := ⟨Tryz.f127.name, by decide, Tryz.func127.trans (congrArg some (by kernel_rfl))⟩
  f24 := ⟨Tryz.f128.name, by decide, Tryz.func128.trans (congrArg some (by kernel_rfl))⟩
  f25 := ⟨Tryz.f129.name, by decide, Tryz.func129.trans (congrArg some (by kernel_rfl))⟩
  f26 := ⟨Tryz.f130.name, by decide, Tryz.func130.trans (congrArg some (by kernel_rfl))⟩
  f27 := ⟨Tryz.f131.name, by decide, Tryz.func131.trans (congrArg some (by kernel_rfl))⟩
  f28 := ⟨Tryz.f132.name, by decide, Tryz.func132.trans (congrArg some (by kernel_rfl))⟩
  f29 := ⟨Tryz.f133.name, by decide, Tryz.func133.trans (congrArg some (by kernel_rfl))⟩
  f31 := Tryz.func140.trans (congrArg some (by kernel_rfl))
  f32 := Tryz.func141.trans (congrArg some (by kernel_rfl))
  f36 := ⟨Tryz.f139.name, by decide, Tryz.func139.trans (congrArg some (by kernel_rfl))⟩
  f37 := ⟨Tryz.f142.name, by decide, Tryz.func142.trans (congrArg some (by kernel_rfl))⟩
  f38 := ⟨Tryz.f143.name, by decide, Tryz.func143.trans (congrArg some (by kernel_rfl))⟩
  f39 := ⟨Tryz.f144.name, by decide, Tryz.func144.trans (congrArg some (by kernel_rfl))⟩
  f41 := ⟨Tryz.f150.name, by decide, Tryz.func150.trans (congrArg some (by kernel_rfl))⟩
  t0 := Tryz.underlying0
  a0 := Tryz.isAgg0
  z0 := Tryz.sizeOf0
  v0 := Tryz.zeroValue0
  t3 := Tryz.underlying3
  a3 := Tryz.isAgg3
  z3 := Tryz.sizeOf3
  v3 := Tryz.zeroValue3
  t4 := Tryz.underlying4
  a4 := Tryz.isAgg4
  z4 := Tryz.sizeOf4
  v4 := Tryz.zeroValue4
  t5 := Tryz.underlying5
  a5 := Tryz.isAgg5
  z5 := Tryz.sizeOf5
  v5 := Tryz.zeroValue5
  t9 := Tryz.underlying9
  a9 := Tryz.isAgg9
  z9 := Tryz.sizeOf9
  v9 := Tryz.zeroValue9
  t26 := Tryz.underlying127
  a26 := Tryz.isAgg127
  z26 := Tryz.sizeOf127
  v26 := Tryz.zeroValue127
  t27 := Tryz.underlying127
  a27 := Tryz.isAgg127
  z27 := Tryz.sizeOf127
  v27 := Tryz.zeroValue127
  t29 := Tryz.underlying9
  a29 := Tryz.isAgg9
  z29 := Tryz.sizeOf9
  v29 := Tryz.zeroValue9
  t32 := Tryz.underlying77
  a32 := Tryz.isAgg77
  z32 := Tryz.sizeOf77
  v32 := Tryz.zeroValue77
  t35 := Tryz.underlying152
  a35 := Tryz.isAgg152
  z35 := Tryz.sizeOf152
  v35 := Tryz.zeroValue152
  t36 := Tryz.underlying153
  a36 := Tryz.isAgg153
  z36 := Tryz.sizeOf153
  v36 := Tryz.zeroValue153
  t41 := Tryz.underlying157
  a41 := Tryz.isAgg157
  z41 := Tryz.sizeOf157
  v41 := Tryz.zeroValue157
  t44 := Tryz.underlying110
  a44 := Tryz.isAgg110
  z44 := Tryz.sizeOf110
  v44 := Tryz.zeroValue110
  t46 := Tryz.underlying43
  a46 := Tryz.isAgg43
  z46 := Tryz.sizeOf43
  v46 := Tryz.zeroValue43
  t53 := Tryz.underlying163
  a53 := Tryz.isAgg163
  z53 := Tryz.sizeOf163
  v53 := Tryz.zeroValue163
  t57 := Tryz.underlying167
  a57 := Tryz.isAgg167
  z57 := Tryz.sizeOf167
  v57 := Tryz.zeroValue167
  t63 := Tryz.underlying169
  a63 := Tryz.isAgg169
  z63 := Tryz.sizeOf169
  v63 := Tryz.zeroValue169
  t64 := Tryz.underlying170
  a64 := Tryz.isAgg170
  z64 := Tryz.sizeOf170
  v64 := Tryz.zeroValue170 }
end Go.Proofs

/- Strings sorted in place, and the keys of maps, by the library's contracts. -/
namespace Go.Proofs
open Go Go.Abs Go.Shelf
set_option linter.unusedVariables false
set_option maxRecDepth 20000
theorem sortS_calls (ss : List Bytes) (id : Nat) (H : Heap) (ho : H id = some (.cells (ss.map .str))) (hne : ss ≠ []) (hlen : ss.length ≤ 1099511627776) :
    ACalls Tryz.prog 111 [.ms id 0 ss.length 1] H fun x H' => x = .tup [] ∧ H' = H.put id (.cells ((ss.mergeSort fun x y => decide (x ≤ y)).map .str)) :=
  sort_bridge (fn := Tryz.f111) Tryz.func111 (by kernel_rfl) (by kernel_rfl) (fun ss => ss.mergeSort fun x y => decide (x ≤ y)) (fun ss => List.length_mergeSort ss)
    (fun blk off cap ss w hH hB hz => AnyM.slices_Sort_string Tryz.shSort blk off cap ss w hH hB hz) ho hne (by omega)
theorem sortS0_calls (H : Heap) : ACalls Tryz.prog 111 [.sl [] .exact] H fun x H' => x = .tup [] ∧ H' = H :=
  sort_bridge0 (fn := Tryz.f111) Tryz.func111 (by kernel_rfl) (by kernel_rfl) (fun p cap W => AnyM.slices_Sort_string_none Tryz.shSort p cap W) H
end Go.Proofs

/- Walks: the keys of a map, on the reference's side. -/
namespace Go.Proofs
open Go Go.Abs
set_option linter.unusedSimpArgs false
set_option linter.unusedVariables false
set_option maxRecDepth 20000
theorem range_intro {P : Program} {t : TypeId} {id : Nat} {kk : KK} {es : List (Key × AV)} {H : Heap} {K : K1} (hd : ∃ a b, descOf P t = .map a b) (hm : H id = some (.map kk es))
    (h : ∀ bs cl it, bs.length = es.length → bs.Nodup → (H.put id (.bmap kk es bs cl)) it = none ∨ H it = none → H it = none → K (.ptr it 0) ((H.put id (.bmap kk es bs cl)).put it (.iter (some id) cl []))) : aRange P t (.map id) H K := by
  obtain ⟨a, b, hd⟩ := hd
  unfold aRange
  rw [hd]
  simp only [mapAt, hm]
  exact fun bs cl hb hn it hit => h bs cl it hb hn (.inr hit) hit
theorem next_intro {it m cl : Nat} {seen : List Nat} {kk : KK} {es : List (Key × AV)} {bs : List Nat} {G : Heap} {K : K1} (h1 : G it = some (.iter (some m) cl seen)) (h2 : G m = some (.bmap kk es bs cl))
    (hs : ∀ (j : Nat) (k : Key) (v : AV) (b : Nat), es[j]? = some (k, v) → bs[j]? = some b → b ∉ seen → K (.tup [.bool true, k.av kk, v]) (G.put it (.iter (some m) cl (seen ++ [b]))))
    (he : (∀ b ∈ bs, b ∈ seen) → K (.tup [.bool false]) G) : aNext (.ptr it 0) G K := by
  unfold aNext
  simp only [h1, h2]
  exact ⟨trivial, hs, fun h => .inl (he h)⟩
/-- At the end it is forgotten when the entries were born. -/
theorem next_intro2 {it m cl : Nat} {seen : List Nat} {kk : KK} {es : List (Key × AV)} {bs : List Nat} {G : Heap} {K : K1} (h1 : G it = some (.iter (some m) cl seen)) (h2 : G m = some (.bmap kk es bs cl))
    (hs : ∀ (j : Nat) (k : Key) (v : AV) (b : Nat), es[j]? = some (k, v) → bs[j]? = some b → b ∉ seen → K (.tup [.bool true, k.av kk, v]) (G.put it (.iter (some m) cl (seen ++ [b]))))
    (he : (∀ b ∈ bs, b ∈ seen) → K (.tup [.bool false]) (G.put m (.map kk es))) : aNext (.ptr it 0) G K := by
  unfold aNext
  simp only [h1, h2]
  exact ⟨trivial, hs, fun h => .inr (he h)⟩
theorem here_intro {it m cl j b : Nat} {seen : List Nat} {kk : KK} {es : List (Key × AV)} {bs : List Nat} {k : Key} {v : AV} {G : Heap} {K : K1} (h1 : G it = some (.iter (some m) cl (seen ++ [b]))) (h2 : G m = some (.bmap kk es bs cl))
    (hb : bs[j]? = some b) (he : es[j]? = some (k, v)) (h : K (.tup [k.av kk, v]) G) : aHere (.ptr it 0) G K := by
  unfold aHere
  simp only [h1, h2]
  exact ⟨trivial, b, j, k, v, by simp, hb, he, h⟩
/-- What a walk over a map has seen. -/
structure SeenK (es : List (Key × AV)) (bs : List Nat) (js : List Nat) (seen : List Nat) (ks : List Bytes) : Prop where
  nodup : js.Nodup
  lt : ∀ j ∈ js, j < es.length
  stamps : seen = js.map fun j => bs.getD j 0
  keys : ks = js.map fun j => keyS (es.getD j default)
theorem SeenK.nil (es : List (Key × AV)) (bs : List Nat) : SeenK es bs [] [] [] := ⟨List.nodup_nil, by simp, rfl, rfl⟩
theorem SeenK.step {es : List (Key × AV)} {bs js seen : List Nat} {ks : List Bytes} (h : SeenK es bs js seen ks) {j b : Nat} {e : Key × AV} (hj : es[j]? = some e) (hb : bs[j]? = some b) (hs : b ∉ seen) : SeenK es bs (js ++ [j]) (seen ++ [b]) (ks ++ [keyS e]) := by
  obtain ⟨h1, h2, h3, h4⟩ := h
  have hjn : j ∉ js := fun hm => hs (by rw [h3]; exact List.mem_map.2 ⟨j, hm, by simp [List.getD, hb]⟩)
  refine ⟨?_, fun i hi => ?_, ?_, ?_⟩
  · rw [List.nodup_append]
    exact ⟨h1, by simp, fun a ha c hc => by rw [List.mem_singleton.1 hc]; exact fun e => hjn (e ▸ ha)⟩
  · rcases List.mem_append.1 hi with h | h
    · exact h2 i h
    · rw [List.mem_singleton.1 h]; exact (List.getElem?_eq_some_iff.1 hj).1
  · rw [List.map_append, ← h3]; simp [List.getD, hb]
  · rw [List.map_append, ← h4]; simp [List.getD, hj]
theorem nodup_lt : ∀ (n : Nat) (l : List Nat), l.Nodup → (∀ j ∈ l, j < n) → l.length ≤ n
  | 0, [], _, _ => Nat.le_refl _
  | 0, x :: l, _, h => absurd (h x (List.mem_cons_self ..)) (by omega)
  | n + 1, l, hn, h => by
    have h1 := nodup_lt n (l.erase n) (hn.erase n) fun j hj => by
      have h2 := h j (List.mem_of_mem_erase hj)
      have h3 : j ≠ n := fun e => by subst e; exact List.Nodup.not_mem_erase hn hj
      omega
    have h2 : l.length ≤ (l.erase n).length + 1 := by rw [List.length_erase]; split <;> omega
    omega
theorem SeenK.len {es : List (Key × AV)} {bs js seen : List Nat} {ks : List Bytes} (h : SeenK es bs js seen ks) : js.length ≤ es.length ∧ ks.length = js.length := by
  refine ⟨?_, by rw [h.keys]; simp⟩
  exact nodup_lt _ _ h.nodup h.lt
theorem SeenK.all {es : List (Key × AV)} {bs js seen : List Nat} {ks : List Bytes} (h : SeenK es bs js seen ks) (hl : bs.length = es.length) (hn : bs.Nodup) (ha : ∀ b ∈ bs, b ∈ seen) : ks.Perm (es.map keyS) := by
  have hp : js.Perm (List.range es.length) := by
    refine (List.perm_ext_iff_of_nodup h.nodup List.nodup_range).2 fun j => ⟨fun hj => List.mem_range.2 (h.lt j hj), fun hj => ?_⟩
    have hj := List.mem_range.1 hj
    have hb : bs[j]? = some (bs[j]'(by omega)) := List.getElem?_eq_getElem _
    have hm := ha _ (List.mem_of_getElem? hb)
    rw [h.stamps] at hm
    obtain ⟨i, hi, e⟩ := List.mem_map.1 hm
    have hil := h.lt i hi
    have e2 : bs.getD i 0 = bs[i]'(by omega) := by simp [List.getD, show i < bs.length by omega]
    rw [e2] at e
    have : i = j := (List.getElem_inj hn).1 e
    rw [← this]; exact hi
  rw [h.keys]
  refine (hp.map _).trans ?_
  have e : (List.range es.length).map (fun j => keyS (es.getD j default)) = es.map keyS := by
    refine List.ext_getElem (by simp) fun i h1 h2 => ?_
    simp at h1
    simp [List.getD, h1]
  rw [e]
end Go.Proofs
