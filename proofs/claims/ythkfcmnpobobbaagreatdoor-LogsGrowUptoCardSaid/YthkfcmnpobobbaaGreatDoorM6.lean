/-
  Walks and plain laws, part 6.
-/
import Derived.Test.YthkfcmnpobobbaaGreatDoorM5
import Derived.Sort.Walk0
import Derived.Test.YthkfcmnpobobbaaGreatDoorAbs4
import Derived.Sort.EncStr
import Derived.Sort.Grow
import Derived.Shelf.SlIter.Nil
import Derived.Shelf.SlIter.Sorted
import Derived.Test.YthkfcmnpobobbaaGreatDoorM1
import Derived.Test.YthkfcmnpobobbaaGreatDoorM3
/- Records read, on the program's side. -/
namespace Go.Proofs
open Go Go.Abs
set_option linter.unusedSimpArgs false
set_option linter.unusedVariables false
set_option maxRecDepth 20000
def verOfV (s : Bytes) : VerV × Bool := if s = [45] then (.zero, true) else ((parseVer s).1, decide ((parseVer s).2 = 0) && decide (¬ (parseVer s).1 = .zero))
def r27 : OT := .seg [0, 1, 2, 3, 5] (.or (.seg [4, 6, 7, 8, 9] .done) (.seg [8, 4, 6, 7, 9] .done))
theorem versionOf_calls (s : Bytes) (H : Heap) (hs : s.length ≤ 1099511627776) : ACalls Tryz.prog 77 [.str s] H fun x H' => x = .tup [.agg (encVer (verOfV s).1), .bool (verOfV s).2] ∧ H' = H := by
  have hS := Heap.Sub.rfl' H
  have hv := verOfV.eq_1 s
  have k := fun G => verParse_calls s G hs
  have bv : ∀ cx cy, bin Tryz.prog .neq 30 cx cy (.agg (encVer (parseVer s).1)) (.agg [.int .i64 0, .int .i64 0, .int .i64 0, .str []]) = some (.bool (decide ¬ (parseVer s).1 = .zero)) := fun cx cy => verNe cx cy (parseVer s).1 .zero
  unfold verA at k
  generalize parseVer s = p at *
  obtain ⟨v, e⟩ := p
  simp only at hv k bv
  unfold encVer at k bv
  refine ACalls.of_code (X := { pure := puP1, tree := fun n => if n = 4 then some r27 else none }) puP1_ok Tryz.func77 (by kernel_rfl) rfl (by kernel_rfl) (Nat.le_of_ble_eq_true rfl) ?_
  simp -implicitDefEqProofs only [go_sem, Tryz.f77]
  with_reducible refine nwC_intro fun i2 hi2 => ?_
  generalize E2 : Heap.put H i2 _ = G1
  have hO_2 := obj_new E2 hi2 hS
  have n2 := hO_2.1
  have hS := hO_2.2.1
  have g2 := hO_2.2.2.1
  clear hO_2
  by_cases h : s = [45]
  · have y1 : decide (s = [45]) = true := decide_eq_true h
    rw [if_pos h] at hv
    simp -implicitDefEqProofs only [go_sem, y1, g2, put_same]
    exact Done.drop (hS.put' n2 _) ⟨by rw [hv]; rfl, rfl⟩
  have y1 : decide (s = [45]) = false := decide_eq_false h
  rw [if_neg h] at hv
  simp -implicitDefEqProofs only [go_sem, y1]
  refine (k G1).pure_next _ ?_
  simp -implicitDefEqProofs only [go_sem]
  with_reducible refine nwC_intro fun i4 hi4 => ?_
  simp -implicitDefEqProofs only [go_sem]
  generalize E4 : Heap.put G1 i4 _ = G2
  have hO_4 := obj_new E4 hi4 hS
  have n4 := hO_4.1
  have hS := hO_4.2.1
  have g4 := hO_4.2.2.1
  have d2_4 := obj_ne g2 hi4
  have g2 := hO_4.2.2.2 _ _ g2
  clear hO_4
  rw [acode_tree (t := r27) rfl (by rfl)]
  have d42 : ¬ i4 = i2 := fun h => d2_4 h.symm
  have g4' := (put_ne G2 i2 i4 (.cells [.int .i64 v.major, .int .i64 v.minor, .int .i64 v.patch, .str v.early]) d42).trans g4
  by_cases c : e = 0
  · have z1 : decide (e = 0) = true := decide_eq_true c
    rw [z1, Bool.true_and] at hv
    simp -implicitDefEqProofs only [go_sem, r27, stripO, g2, g4, z1, bv, put_same, g4']
    exact ⟨Done.drop (hS.put' n2 _) ⟨by rw [hv]; rfl, rfl⟩, Done.drop (hS.put' n2 _) ⟨by rw [hv]; rfl, rfl⟩⟩
  · have z1 : decide (e = 0) = false := decide_eq_false c
    rw [z1, Bool.false_and] at hv
    simp -implicitDefEqProofs only [go_sem, r27, stripO, g2, g4, z1, put_same, g4']
    exact ⟨Done.drop (hS.put' n2 _) ⟨by rw [hv]; rfl, rfl⟩, Done.drop (hS.put' n2 _) ⟨by rw [hv]; rfl, rfl⟩⟩
noncomputable def sVerOf := spF (fun s : Bytes => [AV.str s]) (fun s => s.length ≤ 1099511627776) fun s => .tup [.agg (encVer (verOfV s).1), .bool (verOfV s).2]
theorem sVerOf_eq (s : Bytes) (h : s.length ≤ 1099511627776) : sVerOf [.str s] = some (.tup [.agg (encVer (verOfV s).1), .bool (verOfV s).2]) := spF_eq (enc := fun s : Bytes => [AV.str s]) (fun a b e => by cases e; rfl) s h
noncomputable def sSplitN := spF (fun p : Bytes × UInt8 × Nat => [AV.str p.1, .str [p.2.1], .int .i64 ((p.2.2 : Int) + 1)]) (fun p => p.1.length ≤ Room ∧ p.2.2 ≤ 1000) fun p => .sl ((spN p.2.1 p.2.2 p.1).map encBs) .unk
theorem sSplitN_eq (s : Bytes) (c : UInt8) (k : Nat) (h : s.length ≤ Room ∧ k ≤ 1000) : sSplitN [.str s, .str [c], .int .i64 ((k : Int) + 1)] = some (.sl ((spN c k s).map encBs) .unk) := spF_eq (enc := fun p : Bytes × UInt8 × Nat => [AV.str p.1, .str [p.2.1], .int .i64 ((p.2.2 : Int) + 1)]) (fun p q e => by
  obtain ⟨a1, a2, a3⟩ := p
  obtain ⟨b1, b2, b3⟩ := q
  simp only [List.cons.injEq, AV.str.injEq, AV.int.injEq, and_true, true_and] at e
  obtain ⟨rfl, rfl, e3⟩ := e
  have : a3 = b3 := by omega
  rw [this]) (s, c, k) h
noncomputable def sUnqR := spF (fun s : Bytes => [AV.str s]) (fun s => s.length ≤ 1099511627776) unqT
theorem sUnqR_eq (s : Bytes) (h : s.length ≤ 1099511627776) : sUnqR [.str s] = some (unqT s) := spF_eq (enc := fun s : Bytes => [AV.str s]) (fun a b e => by cases e; rfl) s h
noncomputable def sChkR := spF (fun r : RecV => [AV.agg (encRec r)]) recR fun r => .int .i64 (recErr r)
theorem encRec_inj {a b : RecV} (h : encRec a = encRec b) : a = b := by
  obtain ⟨x1, x2, x3, ⟨x4, x5, x6, x7⟩, ⟨x8, x9, x10, x11⟩, x12, x13⟩ := a
  obtain ⟨y1, y2, y3, ⟨y4, y5, y6, y7⟩, ⟨y8, y9, y10, y11⟩, y12, y13⟩ := b
  simp only [encRec] at h
  cases h; rfl
theorem sChkR_eq (r : RecV) (h : recR r) : sChkR [.agg (encRec r)] = some (.int .i64 (recErr r)) := spF_eq (enc := fun r : RecV => [AV.agg (encRec r)]) (fun a b e => by
  simp only [List.cons.injEq, AV.agg.injEq, and_true] at e
  rw [encRec_inj e]) r h
noncomputable def puP2 : Pures := putP 19 sChkR (putP 78 sUnqR (putP 74 sSplitN (putP 77 sVerOf puP1)))
theorem puP2_dyn : isDyn puP2 = false := by simp only [puP2, go_sem, Nat.reduceEqDiff]
attribute [go_sem] puP2_dyn
theorem puP2_ok : PuOK Tryz.prog puP2 := .put (.put (.put (.put (puP1_ok) (spF_ok fun s H h => versionOf_calls s H h)) (spF_ok fun p H h => splitN_calls p.1 p.2.1 p.2.2 H h.1 h.2)) (spF_ok fun s H h => unquote_calls s H h)) (spF_ok fun r H h => checkRecord_calls r H h)
def kindUp (w : Bytes) : Nat → Int
  | 0 => 0
  | i + 1 => if (decide (0 < i) && decide (kindWs.getD i [] = w)) = true then (i : Int) else kindUp w i
def kindOf (w : Bytes) : Int := kindUp w 7
def numN (most : Nat) (s : Bytes) : Int := if numOK most s = true then (decV s : Int) else 0
theorem numA_eq (most : Nat) (s : Bytes) : numA most s = .tup [.int .i64 (numN most s), .bool (numOK most s)] := by
  unfold numA numN
  cases numOK most s <;> rfl
theorem unqT_tup (s : Bytes) : ∃ u e, unqT s = .tup [.str u, .int .i64 e] ∧ unq s = (if e = 0 then some u else none) ∧ (unq s = none → u = []) := by
  unfold unqT
  cases unq s with
  | none => exact ⟨_, _, rfl, by simp, fun _ => rfl⟩
  | some t => exact ⟨_, _, rfl, by simp, fun h => by cases h⟩
def recBad (a b d e f g : Bytes) : Bool := decide (kindOf b = 0) || !numOK 18 a || !(verOfV d).2 || !(verOfV e).2 || !numOK 18 f || (unq g).isNone
def recOf (a b c d e f g : Bytes) : RecV := ⟨numN 18 a, kindOf b, c, (verOfV d).1, (verOfV e).1, numN 18 f, (unq g).getD []⟩
def parseRec (s : Bytes) : RecV × Int :=
  match spN 32 6 s with
  | [a, b, c, d, e, f, g] =>
    if c = [] then (.zero, 8)
    else if recBad a b d e f g = true then (.zero, 8)
    else if recErr (recOf a b c d e f g) = 0 then (recOf a b c d e f g, 0)
    else (.zero, recErr (recOf a b c d e f g))
  | _ => (.zero, 8)
def recA (p : RecV × Int) : AV := .tup [.agg (encRec p.1), .int .i64 p.2]
theorem parseVer_len (s : Bytes) : (parseVer s).1.early.length ≤ s.length := by
  have h := (cutT_len 45 s).2
  unfold parseVer
  split
  · split
    · exact Nat.zero_le _
    · split
      · split
        · exact h
        · exact Nat.zero_le _
      · exact Nat.zero_le _
  · exact Nat.zero_le _
theorem verOfV_len (s : Bytes) : (verOfV s).1.early.length ≤ s.length := by
  unfold verOfV
  split
  · exact Nat.zero_le _
  · exact parseVer_len s
theorem unq_lenR {s t : Bytes} (h : unq s = some t) : t.length ≤ s.length := by
  unfold unq at h
  split at h
  · cases h
  · have := unqI_len _ _ t (Nat.le_refl _) h
    simp only [List.length_dropLast, List.length_drop] at this
    omega
def r18 : OT := .seg [0, 3, 4, 5] (.or (.seg [1] (.or (.seg [2, 6, 7, 8, 9, 10, 11, 12, 13, 14] .done) (.seg [6, 7] (.or (.seg [2, 8, 9, 10, 11, 12, 13, 14] .done) (.seg [8, 2, 9, 10, 11, 12, 13, 14] .done))))) (.or (.seg [2] (.or (.seg [1, 6, 7, 8, 9, 10, 11, 12, 13, 14] .done) (.seg [6, 1, 7, 8, 9, 10, 11, 12, 13, 14] .done))) (.seg [6, 1, 7] (.or (.seg [2, 8, 9, 10, 11, 12, 13, 14] .done) (.seg [8, 2, 9, 10, 11, 12, 13, 14] .done)))))
def zRec : List AV := [.int .i64 0, .int .i64 0, .str [], .int .i64 0, .int .i64 0, .int .i64 0, .str [], .int .i64 0, .int .i64 0, .int .i64 0, .str [], .int .i64 0, .str []]
def kRec (k : Int) (c : Bytes) : List AV := [.int .i64 0, .int .i64 k, .str c, .int .i64 0, .int .i64 0, .int .i64 0, .str [], .int .i64 0, .int .i64 0, .int .i64 0, .str [], .int .i64 0, .str []]
def PrQ (H : Heap) (i2 i5 : Nat) (b c : Bytes) (p : AV) (r : Regs) (G : Heap) : Prop := H.Sub G ∧ G i2 = some (.cells zRec) ∧ G i5 = some (.cells (kRec (kindOf b) c)) ∧ r 2 = .ptr i2 0 ∧ r 4 = p ∧ r 5 = .ptr i5 0
set_option maxHeartbeats 12800000 in
theorem parseRecord_calls (s : Bytes) (H : Heap) (hs : s.length ≤ 1099511627776) : ACalls Tryz.prog 20 [.str s] H fun x H' => x = recA (parseRec s) ∧ H' = H := by
  have hS := Heap.Sub.rfl' H
  have hv := parseRec.eq_1 s
  have q1 := sSplitN_eq s 32 6 ⟨hs, by decide⟩
  have e7 : (((6 : Nat) : Int) + 1) = 7 := rfl
  rw [e7] at q1
  have hpl : ∀ w ∈ spN 32 6 s, w.length ≤ 1099511627776 := fun w hw => by have := spN_mem 32 6 s w hw; omega
  have hln := spN_len 32 6 s
  generalize spN 32 6 s = ps at *
  refine ACalls.of_code (X := { pure := puP2, tree := fun n => if n = 18 then some r18 else none }) puP2_ok Tryz.func20 (by kernel_rfl) rfl (by kernel_rfl) (Nat.le_of_ble_eq_true rfl) ?_
  simp -implicitDefEqProofs only [go_sem, Tryz.f20]
  with_reducible refine nwC_intro fun i2 hi2 => ?_
  generalize E2 : Heap.put H i2 _ = G1
  have hO_2 := obj_new E2 hi2 hS
  have n2 := hO_2.1
  have hS := hO_2.2.1
  have g2 := hO_2.2.2.1
  clear hO_2
  have fin : ∀ {G : Heap} {p : RecV × Int}, H.Sub G → parseRec s = p → Done Tryz.prog (fun x H' => x = recA (parseRec s) ∧ H' = H) (recA p) G := fun hG h => Done.drop hG ⟨by rw [h], rfl⟩
  unfold recA encRec at fin
  by_cases c1 : ps.length = 7
  rotate_left
  · have y1 : decide (¬ (ps.length : Int) = 7) = true := decide_eq_true (by omega)
    have hv2 : parseRec s = (.zero, 8) := by
      rw [hv]
      split
      · exact absurd rfl c1
      · rfl
    simp -implicitDefEqProofs only [go_sem, puP2, q1, y1, g2, put_same]
    exact fin (hS.put' n2 _) hv2
  obtain ⟨a, b, c, d, e, f, g, rfl⟩ : ∃ a b c d e f g, ps = [a, b, c, d, e, f, g] := by
    match ps, c1 with
    | [a, b, c, d, e, f, g], _ => exact ⟨a, b, c, d, e, f, g, rfl⟩
  have y1 : decide (¬ (7 : Int) = 7) = false := rfl
  have t2 : Int.toNat 2 = 2 := rfl
  simp only at hv
  by_cases c2 : c = []
  · rw [if_pos c2] at hv
    subst c2
    simp -implicitDefEqProofs only [go_sem, puP2, q1, y1, g2, put_same, List.map_cons, List.map_nil, List.length_cons, List.length_nil, encBs, t2, Int.le_refl]
    exact fin (hS.put' n2 _) hv
  rw [if_neg c2] at hv
  have y2 : decide (c = []) = false := decide_eq_false c2
  simp -implicitDefEqProofs only [go_sem, puP2, q1, y1, y2, g2, put_same, List.map_cons, List.map_nil, List.length_cons, List.length_nil, encBs, t2, Int.le_refl]
  with_reducible refine nwC_intro fun i5 hi5 => ?_
  simp -implicitDefEqProofs only [go_sem]
  generalize E5 : Heap.put G1 i5 _ = G2
  have hO_5 := obj_new E5 hi5 hS
  have n5 := hO_5.1
  have hS := hO_5.2.1
  have g5 := hO_5.2.2.1
  have d2_5 := obj_ne g2 hi5
  have g2 := hO_5.2.2.2 _ _ g2
  clear hO_5
  simp -implicitDefEqProofs only [go_sem, puP2, puP1, puT1, sKW_eq, List.length_map]
  have hkl : kindWs.length = 7 := rfl
  with_reducible refine aloop_cut 0 (PrQ H i2 i5 b c (.sl [[.str a], [.str b], [.str c], [.str d], [.str e], [.str f], [.str g]] .unk)) ?_ ?_
  rotate_left
  · refine aloop_intro (σ := Nat) (fun i => [(2, .ptr i2 0), (4, .sl [[.str a], [.str b], [.str c], [.str d], [.str e], [.str f], [.str g]] .unk), (5, .ptr i5 0), (35, .sl (kindWs.map encBs) .exact), (36, .int .i64 (kindWs.length : Int)), (37, .int .i64 i)])
      (fun i G => H.Sub G ∧ i ≤ kindWs.length ∧ G i2 = some (.cells zRec) ∧ G i5 = some (.cells (kRec (kindUp b i) c))) (fun i => kindWs.length - i) 0 ?_ ?_ ?_
    · simp -implicitDefEqProofs only [go_sem]
    · exact ⟨hS, Nat.zero_le _, g2, g5⟩
    clear g2 g5 hS
    rintro i r G hw ⟨hS, hi, g2, g5⟩
    have h2 := hw.1
    have h4 := hw.2.1
    have h5 := hw.2.2.1
    have h35 := hw.2.2.2.1
    have h36 := hw.2.2.2.2.1
    have h37 := hw.2.2.2.2.2.1
    clear hw
    by_cases gi : i < kindWs.length
    rotate_left
    · have y0 : decide ((i : Int) < kindWs.length) = false := decide_eq_false (by omega)
      obtain rfl : i = kindWs.length := by omega
      simp -implicitDefEqProofs only [go_sem, h2, h4, h5, h35, h36, h37, y0]
      exact ⟨hS, g2, g5, by simp -implicitDefEqProofs only [go_sem, h2], by simp -implicitDefEqProofs only [go_sem, h4], by simp -implicitDefEqProofs only [go_sem, h5]⟩
    have y0 : decide ((i : Int) < kindWs.length) = true := decide_eq_true (by omega)
    obtain ⟨w, hw⟩ : ∃ w, kindWs[i]? = some w := getD_get' gi
    have hwd : kindWs.getD i [] = w := by simp [List.getD, hw]
    have ws : IntKind.i64.wrap ((i : Int) + 1) = ((i + 1 : Nat) : Int) := by rw [Go.IntWalk.i64_in _ (by omega)]; omega
    have hu : kindUp b (i + 1) = if (decide (0 < i) && decide (w = b)) = true then (i : Int) else kindUp b i := by rw [kindUp, hwd]
    have z0 : decide ((0 : Int) < (i : Int)) = decide (0 < i) := by rw [decide_eq_decide]; omega
    have t1 : Int.toNat 1 = 1 := rfl
    unfold kRec at g5
    cases hb : decide (0 < i) && decide (w = b) with
    | true =>
      rw [hb, if_pos rfl] at hu
      simp +contextual -implicitDefEqProofs only [go_sem, gd_M, h2, h4, h5, h35, h36, h37, y0, hw, encBs, z0, t1, hb, g5, ws, Int.le_refl]
      exact Again.mk (i + 1) (by simp -implicitDefEqProofs only [go_sem, h2, h4, h5, h35, h36]) ⟨hS.put' n5 _, by omega, by rw [put_ne _ _ _ _ d2_5]; exact g2, by rw [hu]; exact put_same _ _ _⟩ (by omega)
    | false =>
      rw [hb, if_neg (by simp)] at hu
      simp +contextual -implicitDefEqProofs only [go_sem, gd_M, h2, h4, h5, h35, h36, h37, y0, hw, encBs, z0, t1, hb, ws, Int.le_refl]
      exact Again.mk (i + 1) (by simp -implicitDefEqProofs only [go_sem, h2, h4, h5, h35, h36]) ⟨hS, by omega, g2, by rw [hu]; exact g5⟩ (by omega)
  clear g2 g5 hS
  rintro r G ⟨hS, g2, g5, h2, h4, h5⟩
  have qa := (sNumL_eq a (hpl a (by simp))).trans (congrArg some (numA_eq 18 a))
  have qd := sVerOf_eq d (hpl d (by simp))
  have qe := sVerOf_eq e (hpl e (by simp))
  have qf := (sNumL_eq f (hpl f (by simp))).trans (congrArg some (numA_eq 18 f))
  have qg := sUnqR_eq g (hpl g (by simp))
  obtain ⟨u, ue, hun, hu1, hu2⟩ := unqT_tup g
  rw [hun] at qg
  have t3 : Int.toNat 3 = 3 := rfl
  have t4 : Int.toNat 4 = 4 := rfl
  have t5 : Int.toNat 5 = 5 := rfl
  have t6 : Int.toNat 6 = 6 := rfl
  have t0 : Int.toNat 0 = 0 := rfl
  have hbd := recBad.eq_1 a b d e f g
  have hue : (unq g).isNone = decide (¬ ue = 0) := by
    rw [hu1]
    by_cases h : ue = 0
    · rw [if_pos h, decide_eq_false (fun h2 => h2 h)]; rfl
    · rw [if_neg h, decide_eq_true h]; rfl
  rw [hue] at hbd
  have lk := hpl c (by simp)
  unfold kRec zRec at *
  unfold encVer at qd qe
  simp -implicitDefEqProofs only [go_sem, h2, h4, h5, puP2, puP1, qa, t0, Int.le_refl, List.getElem?_cons_zero, qd, t3]
  with_reducible refine nwC_intro fun i10 hi10 => ?_
  simp -implicitDefEqProofs only [go_sem]
  generalize E10 : Heap.put G i10 _ = G3
  have hO_10 := obj_new E10 hi10 hS
  have n10 := hO_10.1
  have hS := hO_10.2.1
  have g10 := hO_10.2.2.1
  have d2_10 := obj_ne g2 hi10
  have g2 := hO_10.2.2.2 _ _ g2
  have d5_10 := obj_ne g5 hi10
  have g5 := hO_10.2.2.2 _ _ g5
  clear hO_10
  simp -implicitDefEqProofs only [go_sem, h2, h4, h5, puP2, puP1, qe, t4, Int.le_refl]
  with_reducible refine nwC_intro fun i12 hi12 => ?_
  simp -implicitDefEqProofs only [go_sem]
  generalize E12 : Heap.put G3 i12 _ = G4
  have hO_12 := obj_new E12 hi12 hS
  have n12 := hO_12.1
  have hS := hO_12.2.1
  have g12 := hO_12.2.2.1
  have d2_12 := obj_ne g2 hi12
  have g2 := hO_12.2.2.2 _ _ g2
  have d5_12 := obj_ne g5 hi12
  have g5 := hO_12.2.2.2 _ _ g5
  have d10_12 := obj_ne g10 hi12
  have g10 := hO_12.2.2.2 _ _ g10
  clear hO_12
  cases hb : recBad a b d e f g with
  | true =>
    rw [hb, if_pos rfl] at hv
    rw [hb] at hbd
    simp +contextual -implicitDefEqProofs only [go_sem, gd_M, h2, h4, h5, g2, g5, g10, g12, puP2, puP1, qf, qg, t5, t6, Int.le_refl, ← hbd, put_same]
    exact fin (hS.put' n2 _) hv
  | false =>
  rw [hb, if_neg (by simp)] at hv
  rw [hb] at hbd
  simp +contextual -implicitDefEqProofs only [go_sem, gd_M, h2, h4, h5, g2, g5, g10, g12, puP2, puP1, qf, qg, t5, t6, Int.le_refl, ← hbd]
  have hu0 : ue = 0 := by
    have h1 : decide (¬ ue = 0) = false := by
      cases h : decide (¬ ue = 0) with
      | false => rfl
      | true => rw [h, Bool.or_true] at hbd; cases hbd
    simpa using h1
  rw [if_pos hu0] at hu1
  have hro : recOf a b c d e f g = ⟨numN 18 a, kindOf b, c, (verOfV d).1, (verOfV e).1, numN 18 f, u⟩ := by unfold recOf; rw [hu1]; rfl
  have hRR : recR (recOf a b c d e f g) := by
    rw [hro]
    refine ⟨lk, Nat.le_trans (verOfV_len d) (hpl d (by simp)), Nat.le_trans (verOfV_len e) (hpl e (by simp)), ?_⟩
    exact Nat.le_trans (unq_lenR hu1) (hpl g (by simp))
  have qc := sChkR_eq _ hRR
  generalize hrE : recErr (recOf a b c d e f g) = re at *
  rw [hro] at qc hv
  unfold encRec at qc
  have pg2 := fun o => (put_ne G4 i5 i2 o d2_5).trans g2
  have pg10 := fun o => (put_ne G4 i5 i10 o (fun h => d5_10 h.symm)).trans g10
  have pg12 := fun o => (put_ne G4 i5 i12 o (fun h => d5_12 h.symm)).trans g12
  rw [acode_tree (t := r18) rfl (by rfl)]
  by_cases hre : re = 0
  · have z1 : decide (¬ re = 0) = false := decide_eq_false (by simpa using hre)
    rw [if_pos hre] at hv
    simp -implicitDefEqProofs only [go_sem, r18, stripO, h2, h4, h5, g2, pg2, pg10, pg12, g5, g10, g12, puP2, qc, z1, put_same, put_put']
    repeat' with_reducible refine And.intro ?_ ?_
    all_goals exact fin ((hS.put' n5 _).put' n2 _) hv
  · have z1 : decide (¬ re = 0) = true := decide_eq_true hre
    rw [if_neg hre] at hv
    simp -implicitDefEqProofs only [go_sem, r18, stripO, h2, h4, h5, g2, pg2, pg10, pg12, g5, g10, g12, puP2, qc, z1, put_same, put_put']
    repeat' with_reducible refine And.intro ?_ ?_
    all_goals exact fin ((hS.put' n5 _).put' n2 _) hv
end Go.Proofs

/- Lists in order of their keys, and maps: plain Lean, no program. -/
namespace Go.Proofs
open Go Go.Abs
set_option linter.unusedSimpArgs false
set_option linter.unusedVariables false
theorem lt_lex (a b : Bytes) : strLt a b = decide (a < b) := Go.Proofs.bytesLess_eq a b
theorem lt_irr (a : Bytes) : strLt a a = false := by rw [lt_lex]; simp [List.lt_irrefl]
theorem lt_tr {a b c : Bytes} (h : strLt a b = true) (k : strLt b c = true) : strLt a c = true := by
  rw [lt_lex, decide_eq_true_eq] at *
  exact List.lt_trans h k
theorem lt_tri (a b : Bytes) : strLt a b = true ∨ a = b ∨ strLt b a = true := by
  simp only [lt_lex, decide_eq_true_eq]
  by_cases h : a < b
  · exact .inl h
  · by_cases h2 : b < a
    · exact .inr (.inr h2)
    · exact .inr (.inl (List.le_antisymm (List.not_lt.1 h2) (List.not_lt.1 h)))
section
variable {α : Type} (key : α → Bytes)
/-- The keys rise. -/
def Asc (l : List α) : Prop := l.Pairwise fun a b => strLt (key a) (key b) = true
def putK (x : α) : List α → List α
  | [] => [x]
  | y :: l => if strLt (key x) (key y) = true then x :: y :: l else if key x = key y then x :: l else y :: putK x l
def delK (k : Bytes) (l : List α) : List α := l.filter fun x => decide (¬ key x = k)
def getK (k : Bytes) (l : List α) : Option α := l.find? fun x => decide (key x = k)
variable {key}
theorem Asc.nodup {l : List α} (h : Asc key l) : (l.map key).Nodup := by
  rw [List.Nodup, List.pairwise_map]
  exact h.imp fun h e => by rw [e, lt_irr] at h; cases h
theorem Asc.del {l : List α} (h : Asc key l) (k : Bytes) : Asc key (delK key k l) := List.Pairwise.filter _ h
theorem putK_mem {x : α} : ∀ {l : List α} {y : α}, y ∈ putK key x l → y = x ∨ y ∈ l
  | [], y, h => by simpa [putK] using h
  | z :: l, y, h => by
    unfold putK at h
    split at h
    · simpa using h
    split at h
    · rcases List.mem_cons.1 h with h | h
      · exact .inl h
      · exact .inr (List.mem_cons_of_mem _ h)
    · rcases List.mem_cons.1 h with h | h
      · exact .inr (by rw [h]; exact List.mem_cons_self ..)
      · rcases putK_mem h with h | h
        · exact .inl h
        · exact .inr (List.mem_cons_of_mem _ h)
theorem Asc.put {x : α} : ∀ {l : List α}, Asc key l → Asc key (putK key x l)
  | [], _ => by simp [putK, Asc]
  | z :: l, h => by
    obtain ⟨h1, h2⟩ := List.pairwise_cons.1 h
    unfold putK
    split
    · rename_i c
      exact List.pairwise_cons.2 ⟨fun y hy => by
        rcases List.mem_cons.1 hy with e | e
        · rw [e]; exact c
        · exact lt_tr c (h1 y e), h⟩
    split
    · rename_i c e
      exact List.pairwise_cons.2 ⟨fun y hy => by rw [e]; exact h1 y hy, h2⟩
    · rename_i c e
      refine List.pairwise_cons.2 ⟨fun y hy => ?_, Asc.put h2⟩
      rcases putK_mem hy with e2 | e2
      · rw [e2]
        rcases lt_tri (key x) (key z) with t | t | t
        · exact absurd t c
        · exact absurd t e
        · exact t
      · exact h1 y e2
theorem putK_perm {x : α} : ∀ {l : List α}, Asc key l → (putK key x l).Perm (x :: delK key (key x) l)
  | [], _ => by simp [putK, delK]
  | z :: l, h => by
    obtain ⟨h1, h2⟩ := List.pairwise_cons.1 h
    unfold putK
    split
    · rename_i c
      have e : delK key (key x) (z :: l) = z :: l := by
        unfold delK
        rw [List.filter_eq_self]
        intro y hy
        have hlt : strLt (key x) (key y) = true := by
          rcases List.mem_cons.1 hy with e | e
          · rw [e]; exact c
          · exact lt_tr c (h1 y e)
        simp only [decide_eq_true_eq]
        intro e
        rw [e, lt_irr] at hlt; cases hlt
      rw [e]
    split
    · rename_i c e
      have e2 : delK key (key x) (z :: l) = l := by
        unfold delK
        rw [List.filter_cons_of_neg (by simp [e]), List.filter_eq_self]
        intro y hy
        have hlt := h1 y hy
        simp only [decide_eq_true_eq]
        intro e3
        rw [← e, ← e3, lt_irr] at hlt; cases hlt
      rw [e2]
    · rename_i c e
      have e2 : delK key (key x) (z :: l) = z :: delK key (key x) l := by
        unfold delK
        rw [List.filter_cons_of_pos (by simp; exact fun h => e h.symm)]
      rw [e2]
      exact ((putK_perm h2).cons z).trans (.swap x z _)
theorem Asc.take {l : List α} (h : Asc key l) (i : Nat) : Asc key (l.take i) := List.Pairwise.sublist (List.take_sublist i l) h
end
end Go.Proofs

/- A contract of the library that sorts a slice of strings in place, at the level of the abstract machine. -/
namespace Go.Abs
open Go.RowKit
set_option linter.unusedSimpArgs false
set_option linter.unusedVariables false
section
variable {P : Program} {C : Cx} {H : Heap} {w : World}
end
end Go.Abs

/- Contracts of the library that give the keys of a map, at the level of the abstract machine. -/
namespace Go.Abs
open Go.RowKit
set_option linter.unusedSimpArgs false
set_option linter.unusedVariables false
section
variable {P : Program} {C : Cx} {H : Heap} {w : World}
def keyS : Key × AV → List UInt8
  | (.s l, _) => l
  | _ => []
open Go.Shelf Go.Proofs in
end
end Go.Abs

/- Maps that hold a list in order: plain Lean, no program. -/
namespace Go.Proofs
open Go Go.Abs
set_option linter.unusedSimpArgs false
set_option linter.unusedVariables false
section
variable {α : Type} {key : α → Bytes} {enc : α → AV}
def entK (key : α → Bytes) (enc : α → AV) (x : α) : Key × AV := (.s (key x), enc x)
/-- The entries of a map that holds these things. -/
def MapOf (key : α → Bytes) (enc : α → AV) (es : List (Key × AV)) (l : List α) : Prop := Asc key l ∧ ∃ xs : List α, es = xs.map (entK key enc) ∧ xs.Perm l
theorem MapOf.nil : MapOf key enc [] [] := ⟨List.Pairwise.nil, [], rfl, .refl _⟩
theorem MapOf.len {es : List (Key × AV)} {l : List α} (h : MapOf key enc es l) : es.length = l.length := by
  obtain ⟨-, xs, rfl, hp⟩ := h
  rw [List.length_map, hp.length_eq]
theorem MapOf.keys {es : List (Key × AV)} {l : List α} (h : MapOf key enc es l) : (es.map keyS).Perm (l.map key) := by
  obtain ⟨-, xs, rfl, hp⟩ := h
  have e : (xs.map (entK key enc)).map keyS = xs.map key := by simp [entK, keyS, Function.comp_def]
  rw [e]
  exact hp.map key
theorem MapOf.nodup {es : List (Key × AV)} {l : List α} (h : MapOf key enc es l) : (es.map keyS).Nodup := h.keys.nodup_iff.2 h.1.nodup
theorem find_perm {xs l : List α} (hp : xs.Perm l) (hn : (xs.map key).Nodup) (k : Bytes) : xs.find? (fun x => decide (key x = k)) = l.find? fun x => decide (key x = k) := by
  induction hp with
  | nil => rfl
  | cons x hp ih =>
    simp only [List.map_cons, List.nodup_cons] at hn
    rw [List.find?_cons, List.find?_cons, ih hn.2]
  | swap x y l =>
    simp only [List.map_cons, List.nodup_cons, List.mem_cons, not_or] at hn
    rw [List.find?_cons, List.find?_cons, List.find?_cons, List.find?_cons]
    by_cases h1 : key x = k
    · have : ¬ key y = k := fun h2 => hn.1.1 (h2.trans h1.symm)
      simp [h1, this]
    · simp [h1]
  | trans h1 h2 ih1 ih2 => rw [ih1 hn, ih2 ((h1.map key).nodup_iff.1 hn)]
theorem MapOf.get {es : List (Key × AV)} {l : List α} (h : MapOf key enc es l) (k : Bytes) : mget es (.s k) = (getK key k l).map enc := by
  obtain ⟨ha, xs, rfl, hp⟩ := h
  have hn : (xs.map key).Nodup := (hp.map key).nodup_iff.2 ha.nodup
  unfold getK
  rw [← find_perm hp hn k]
  unfold mget
  clear hn hp
  induction xs with
  | nil => rfl
  | cons x xs ih =>
    rw [List.map_cons, List.find?_cons, List.find?_cons]
    by_cases hk : key x = k
    · simp [entK, hk]
    · simp only [entK, Key.s.injEq, hk, decide_false]
      exact ih
theorem mset_ent (x : α) : ∀ (xs : List α), (xs.map key).Nodup → ∃ ys : List α, mset (xs.map (entK key enc)) (.s (key x)) (enc x) = ys.map (entK key enc) ∧ ys.Perm (x :: delK key (key x) xs)
  | [], _ => ⟨[x], rfl, by simp [delK]⟩
  | y :: xs, h => by
    simp only [List.map_cons, List.nodup_cons] at h
    rw [List.map_cons, mset]
    by_cases hk : key y = key x
    · refine ⟨x :: xs, by simp [entK, hk], ?_⟩
      have e : delK key (key x) (y :: xs) = xs := by
        unfold delK
        rw [List.filter_cons_of_neg (by simp [hk]), List.filter_eq_self]
        intro z hz
        simp only [decide_eq_true_eq]
        intro e
        exact h.1 (by rw [hk, ← e]; exact List.mem_map_of_mem hz)
      rw [e]
    · obtain ⟨ys, h1, h2⟩ := mset_ent x xs h.2
      refine ⟨y :: ys, ?_, ?_⟩
      · rw [if_neg (by simp [entK, hk]), h1]; rfl
      · have e : delK key (key x) (y :: xs) = y :: delK key (key x) xs := by
          unfold delK
          rw [List.filter_cons_of_pos (by simp [hk])]
        rw [e]
        exact (h2.cons y).trans (.swap x y _)
theorem MapOf.set {es : List (Key × AV)} {l : List α} (h : MapOf key enc es l) (x : α) : MapOf key enc (mset es (.s (key x)) (enc x)) (putK key x l) := by
  obtain ⟨ha, xs, rfl, hp⟩ := h
  obtain ⟨ys, h1, h2⟩ := mset_ent (key := key) (enc := enc) x xs ((hp.map key).nodup_iff.2 ha.nodup)
  exact ⟨ha.put, ys, h1, h2.trans (((hp.filter _).cons x).trans (putK_perm ha).symm)⟩
theorem mdel_ent (k : Bytes) : ∀ (xs : List α), (xs.map key).Nodup → mdel (xs.map (entK key enc)) (.s k) = (delK key k xs).map (entK key enc)
  | [], _ => rfl
  | y :: xs, h => by
    simp only [List.map_cons, List.nodup_cons] at h
    rw [List.map_cons, mdel]
    by_cases hk : key y = k
    · have e : delK key k (y :: xs) = xs := by
        unfold delK
        rw [List.filter_cons_of_neg (by simp [hk]), List.filter_eq_self]
        intro z hz
        simp only [decide_eq_true_eq]
        intro e
        exact h.1 (by rw [hk, ← e]; exact List.mem_map_of_mem hz)
      rw [e, if_pos (by simp [entK, hk])]
    · have e : delK key k (y :: xs) = y :: delK key k xs := by
        unfold delK
        rw [List.filter_cons_of_pos (by simp [hk])]
      rw [e, if_neg (by simp [entK, hk]), mdel_ent k xs h.2]
      rfl
theorem MapOf.del {es : List (Key × AV)} {l : List α} (h : MapOf key enc es l) (k : Bytes) : MapOf key enc (mdel es (.s k)) (delK key k l) := by
  obtain ⟨ha, xs, rfl, hp⟩ := h
  refine ⟨ha.del k, delK key k xs, mdel_ent k xs ((hp.map key).nodup_iff.2 ha.nodup), hp.filter _⟩
end
end Go.Proofs

/- What is installed: tables of the program and of the reference. -/
namespace Go.Proofs
open Go Go.Abs
set_option linter.unusedSimpArgs false
set_option linter.unusedVariables false
set_option maxRecDepth 20000
structure HadV where
  pack : Bytes
  ver : VerV
  since : Int
  deriving DecidableEq
def encHadP (h : HadV) : List AV := [.int .i64 h.ver.major, .int .i64 h.ver.minor, .int .i64 h.ver.patch, .str h.ver.early, .int .i64 h.since]
def encHadR (h : HadV) : List AV := [.str h.pack, .int .i64 h.ver.major, .int .i64 h.ver.minor, .int .i64 h.ver.patch, .str h.ver.early, .int .i64 h.since]
def tabBad (l : List HadV) (r : RecV) : Bool :=
  match getK HadV.pack r.pack l with
  | some h => decide (r.kind = 1) || (usesF r.kind && decide (¬ h.ver = r.vfrom)) || (decide (r.kind = 5) && decide (¬ h.ver = r.vto))
  | none => usesF r.kind || decide (r.kind = 5)
def tabAdd (l : List HadV) (r : RecV) : List HadV :=
  if r.result = 0 then
    if r.kind = 1 ∨ r.kind = 2 ∨ r.kind = 3 then putK HadV.pack ⟨r.pack, r.vto, r.time⟩ l
    else if r.kind = 4 then delK HadV.pack r.pack l else l
  else l
def tabFault (l : List HadV) (last : Int) (r : RecV) : Int := if r.time < last then 7 else if tabBad l r = true then 12 else 0
abbrev TabP (es : List (Key × AV)) (l : List HadV) : Prop := MapOf HadV.pack (fun h => .agg (encHadP h)) es l
abbrev TabR (es : List (Key × AV)) (l : List HadV) : Prop := MapOf HadV.pack (fun h => .agg (encHadR h)) es l
theorem sub_put2 {H G : Heap} (h : H.Sub G) (i : Nat) (o : AObj) : (H.put i o).Sub (G.put i o) := fun j p hj => by
  by_cases e : j = i
  · subst e; rw [put_same] at hj ⊢; exact hj
  · rw [put_ne _ _ _ _ e] at hj ⊢; exact h j p hj
theorem kind_cases (k : Int) : k = 1 ∨ k = 2 ∨ k = 3 ∨ k = 4 ∨ k = 5 ∨ (¬ k = 1 ∧ ¬ k = 2 ∧ ¬ k = 3 ∧ ¬ k = 4 ∧ ¬ k = 5) := by omega
set_option maxHeartbeats 6400000 in
theorem fault_calls (r : RecV) (it im : Nat) (es : List (Key × AV)) (l : List HadV) (last : Int) (G : Heap) (g90 : G it = some (.cells [.map im, .int .i64 last])) (g91 : G im = some (.map .str es)) (hM : TabP es l) :
    ACalls Tryz.prog 92 [.ptr it 0, .agg (encRec r)] G fun x G' => x = .int .i64 (tabFault l last r) ∧ G' = G := by
  have hS := Heap.Sub.rfl' G
  have hg := hM.get r.pack
  have bv := fun (a b : VerV) cx cy => verNe cx cy a b
  unfold encVer at bv
  have hF := tabFault.eq_1 l last r
  unfold tabBad at hF
  generalize tabFault l last r = fe at *
  generalize getK HadV.pack r.pack l = o at *
  obtain ⟨t, k, p, vf, vt, re, no⟩ := r
  simp only [encRec] at *
  refine ACalls.of_code (X := { pure := pu0 }) pu0_ok Tryz.func92 (by kernel_rfl) rfl (by kernel_rfl) (Nat.le_of_ble_eq_true rfl) ?_
  simp -implicitDefEqProofs only [go_sem, Tryz.f92, g90]
  with_reducible refine nwC_intro fun i3 hi3 => ?_
  generalize E3 : Heap.put G i3 _ = G1
  have hO_3 := obj_new E3 hi3 hS
  have n3 := hO_3.1
  have hS := hO_3.2.1
  have g3 := hO_3.2.2.1
  have d90_3 := obj_ne g90 hi3
  have g90 := hO_3.2.2.2 _ _ g90
  have d91_3 := obj_ne g91 hi3
  have g91 := hO_3.2.2.2 _ _ g91
  clear hO_3
  by_cases c0 : t < last
  · have y0 : decide (t < last) = true := decide_eq_true c0
    rw [if_pos c0] at hF
    simp -implicitDefEqProofs only [go_sem, y0, g90, g3]
    exact Done.drop hS ⟨by rw [hF], rfl⟩
  have y0 : decide (t < last) = false := decide_eq_false c0
  rw [if_neg c0] at hF
  cases o with
  | none =>
    simp only [Option.map_none] at hg
    simp -implicitDefEqProofs only [go_sem, y0, g90, g91, g3, hg]
    with_reducible refine nwC_intro fun i5 hi5 => ?_
    simp -implicitDefEqProofs only [go_sem]
    generalize E5 : Heap.put G1 i5 _ = G2
    have hO_5 := obj_new E5 hi5 hS
    have n5 := hO_5.1
    have hS := hO_5.2.1
    have g5 := hO_5.2.2.1
    have d90_5 := obj_ne g90 hi5
    have g90 := hO_5.2.2.2 _ _ g90
    have d91_5 := obj_ne g91 hi5
    have g91 := hO_5.2.2.2 _ _ g91
    have d3_5 := obj_ne g3 hi5
    have g3 := hO_5.2.2.2 _ _ g3
    clear hO_5
    rcases kind_cases k with rfl | rfl | rfl | rfl | rfl | ⟨n1, n2, n3, n4, n5⟩
    rotate_right
    · have z1 := decide_eq_false n1
      have z2 := decide_eq_false n2
      have z3 := decide_eq_false n3
      have z4 := decide_eq_false n4
      have z5 := decide_eq_false n5
      simp +contextual -implicitDefEqProofs only [go_sem, gd_M, g90, g91, g3, g5, z1, z2, z3, z4, z5]
      exact Done.drop hS ⟨by simp [hF, usesF, n2, n3, n4, n5], rfl⟩
    all_goals
      simp +contextual -implicitDefEqProofs only [go_sem, gd_M, g90, g91, g3, g5]
      exact Done.drop hS ⟨by simp [hF, usesF], rfl⟩
  | some h =>
    simp only [Option.map_some, encHadP] at hg
    simp -implicitDefEqProofs only [go_sem, y0, g90, g91, g3, hg]
    with_reducible refine nwC_intro fun i5 hi5 => ?_
    simp -implicitDefEqProofs only [go_sem]
    generalize E5 : Heap.put G1 i5 _ = G2
    have hO_5 := obj_new E5 hi5 hS
    have n5 := hO_5.1
    have hS := hO_5.2.1
    have g5 := hO_5.2.2.1
    have d90_5 := obj_ne g90 hi5
    have g90 := hO_5.2.2.2 _ _ g90
    have d91_5 := obj_ne g91 hi5
    have g91 := hO_5.2.2.2 _ _ g91
    have d3_5 := obj_ne g3 hi5
    have g3 := hO_5.2.2.2 _ _ g3
    clear hO_5
    have b1 := bv h.ver vf
    have b2 := bv h.ver vt
    cases e1 : decide (¬ h.ver = vf) <;> cases e2 : decide (¬ h.ver = vt)
    all_goals
      rw [e1] at b1
      rw [e2] at b2
      rcases kind_cases k with rfl | rfl | rfl | rfl | rfl | ⟨n1, n2, n3, n4, n5⟩
      rotate_right
      · have z1 := decide_eq_false n1
        have z2 := decide_eq_false n2
        have z3 := decide_eq_false n3
        have z4 := decide_eq_false n4
        have z5 := decide_eq_false n5
        simp +contextual -implicitDefEqProofs only [go_sem, gd_M, g90, g91, g3, g5, z1, z2, z3, z4, z5]
        exact Done.drop hS ⟨by simp [hF, usesF, n1, n2, n3, n4, n5], rfl⟩
      all_goals
        simp +contextual -implicitDefEqProofs only [go_sem, gd_M, g90, g91, g3, g5, b1, b2]
        exact Done.drop hS ⟨by rw [hF]; simp only [e1, e2]; rfl, rfl⟩
end Go.Proofs

/- What is installed: a record is added, at the program and at the reference. -/
namespace Go.Proofs
open Go Go.Abs
set_option linter.unusedSimpArgs false
set_option linter.unusedVariables false
set_option maxRecDepth 20000
theorem cells_map_ne {G : Heap} {i j : Nat} {cs : List AV} {es : List (Key × AV)} (h : G i = some (.cells cs)) (k : G j = some (.map .str es)) : ¬ j = i := fun e => by rw [e, h] at k; cases k
set_option maxHeartbeats 6400000 in
theorem tadd_calls (r : RecV) (it im : Nat) (es : List (Key × AV)) (l : List HadV) (last : Int) (G : Heap) (g90 : G it = some (.cells [.map im, .int .i64 last])) (g91 : G im = some (.map .str es)) (hM : TabP es l) :
    ACalls Tryz.prog 94 [.ptr it 0, .agg (encRec r)] G fun x G' => x = .tup [] ∧ ∃ es', TabP es' (tabAdd l r) ∧ G' = (G.put it (.cells [.map im, .int .i64 r.time])).put im (.map .str es') := by
  have hS := Heap.Sub.rfl' G
  have hF := tabAdd.eq_1 l r
  have hset := hM.set ⟨r.pack, r.vto, r.time⟩
  have hdel := hM.del r.pack
  have d91 := cells_map_ne g90 g91
  generalize tabAdd l r = fe at *
  obtain ⟨t, k, p, vf, vt, re, no⟩ := r
  simp only [encRec, encHadP] at *
  refine ACalls.of_code (X := { pure := pu0 }) pu0_ok Tryz.func94 (by kernel_rfl) rfl (by kernel_rfl) (Nat.le_of_ble_eq_true rfl) ?_
  simp -implicitDefEqProofs only [go_sem, Tryz.f94, g90]
  with_reducible refine nwC_intro fun i3 hi3 => ?_
  generalize E3 : Heap.put G i3 _ = G1
  have hO_3 := obj_new E3 hi3 hS
  have n3 := hO_3.1
  have hS := hO_3.2.1
  have g3 := hO_3.2.2.1
  have d90_3 := obj_ne g90 hi3
  have g90 := hO_3.2.2.2 _ _ g90
  have d91_3 := obj_ne g91 hi3
  have g91 := hO_3.2.2.2 _ _ g91
  clear hO_3
  have p90 := fun o => put_same G1 it o
  have p3 := fun o => (put_ne G1 it i3 o (fun h => d90_3 h.symm)).trans g3
  have p91 := fun o => (put_ne G1 it im o d91).trans g91
  have same : ∀ (e : fe = l), Done Tryz.prog (fun x G' => x = .tup [] ∧ ∃ es', TabP es' fe ∧ G' = (G.put it (.cells [.map im, .int .i64 t])).put im (.map .str es')) (.tup []) (G1.put it (.cells [.map im, .int .i64 t])) := fun e => Done.drop (H' := G.put it (.cells [.map im, .int .i64 t])) (sub_put2 hS it _) ⟨rfl, es, by rw [e]; exact hM, (put_self ((put_ne _ it im _ d91).trans (by assumption))).symm⟩
  by_cases c0 : re = 0
  rotate_left
  · have y0 : decide (¬ re = 0) = true := decide_eq_true c0
    rw [if_neg c0] at hF
    simp -implicitDefEqProofs only [go_sem, y0, g90, g3, p90, p3, p91]
    exact same hF
  have y0 : decide (¬ re = 0) = false := decide_eq_false (by simpa using c0)
  rw [if_pos c0] at hF
  rcases kind_cases k with rfl | rfl | rfl | rfl | rfl | ⟨n1, n2, n3, n4, n5⟩
  rotate_right
  · have z1 := decide_eq_false n1
    have z2 := decide_eq_false n2
    have z3 := decide_eq_false n3
    have z4 := decide_eq_false n4
    rw [if_neg (by omega), if_neg n4] at hF
    simp -implicitDefEqProofs only [go_sem, y0, g90, g3, p90, p3, p91, z1, z2, z3, z4]
    exact same hF
  rotate_right
  · rw [if_neg (by omega), if_neg (by omega)] at hF
    simp -implicitDefEqProofs only [go_sem, y0, g90, g3, p90, p3, p91]
    exact same hF
  rotate_right
  · rw [if_neg (by omega), if_pos rfl] at hF
    subst hF
    simp -implicitDefEqProofs only [go_sem, y0, g90, g3, p90, p3, p91]
    exact Done.drop (sub_put2 (sub_put2 hS it _) im _) ⟨rfl, _, hdel, rfl⟩
  all_goals
    rw [if_pos (by omega)] at hF
    subst hF
    simp -implicitDefEqProofs only [go_sem, y0, g90, g3, p90, p3, p91]
    exact Done.drop (sub_put2 (sub_put2 hS it _) im _) ⟨rfl, _, hset, rfl⟩
set_option maxHeartbeats 12800000 in
theorem could_calls (r : RecV) (im : Nat) (es : List (Key × AV)) (l : List HadV) (G : Heap) (g91 : G im = some (.map .str es)) (hM : TabR es l) :
    ACalls Tryz.prog 63 [.map im, .agg (encRec r)] G fun x G' => x = .bool (!tabBad l r) ∧ ∃ es', TabR es' (if tabBad l r = true then l else tabAdd l r) ∧ G' = G.put im (.map .str es') := by
  have hS := Heap.Sub.rfl' G
  have hg := hM.get r.pack
  have bv := fun (a b : VerV) cx cy => verNe cx cy a b
  unfold encVer at bv
  have hF := tabAdd.eq_1 l r
  have hB := tabBad.eq_1 l r
  have hset := hM.set ⟨r.pack, r.vto, r.time⟩
  have hdel := hM.del r.pack
  generalize tabAdd l r = fe at *
  generalize tabBad l r = be at *
  generalize getK HadV.pack r.pack l = o at *
  obtain ⟨t, k, p, vf, vt, re, no⟩ := r
  simp only [encRec, encHadR] at *
  refine ACalls.of_code (X := { pure := pu0 }) pu0_ok Tryz.func63 (by kernel_rfl) rfl (by kernel_rfl) (Nat.le_of_ble_eq_true rfl) ?_
  simp -implicitDefEqProofs only [go_sem, Tryz.f63]
  with_reducible refine nwC_intro fun i3 hi3 => ?_
  generalize E3 : Heap.put G i3 _ = G1
  have hO_3 := obj_new E3 hi3 hS
  have n3 := hO_3.1
  have hS := hO_3.2.1
  have g3 := hO_3.2.2.1
  have d91_3 := obj_ne g91 hi3
  have g91 := hO_3.2.2.2 _ _ g91
  clear hO_3
  have stay : ∀ {G' : Heap} {b : Bool}, G.Sub G' → be = !b → (be = true ∨ fe = l) → Done Tryz.prog (fun x G' => x = .bool (!be) ∧ ∃ es', TabR es' (if be = true then l else fe) ∧ G' = G.put im (.map .str es')) (.bool b) G' := fun hs e1 e2 => Done.drop hs ⟨by rw [e1, Bool.not_not], es, by split <;> first | exact hM | (rcases e2 with e2 | e2; exact absurd e2 (by assumption); rw [e2]; exact hM), (put_self (by assumption)).symm⟩
  cases o with
  | none =>
    simp only [Option.map_none] at hg
    simp -implicitDefEqProofs only [go_sem, g91, g3, hg]
    with_reducible refine nwC_intro fun i5 hi5 => ?_
    simp -implicitDefEqProofs only [go_sem]
    generalize E5 : Heap.put G1 i5 _ = G2
    have hO_5 := obj_new E5 hi5 hS
    have n5 := hO_5.1
    have hS := hO_5.2.1
    have g5 := hO_5.2.2.1
    have d91_5 := obj_ne g91 hi5
    have g91 := hO_5.2.2.2 _ _ g91
    have d3_5 := obj_ne g3 hi5
    have g3 := hO_5.2.2.2 _ _ g3
    clear hO_5
    cases y0 : decide (¬ re = 0)
    all_goals
      have c0 := y0
      simp only [decide_eq_true_eq, decide_eq_false_iff_not, Decidable.not_not] at c0
      rcases kind_cases k with rfl | rfl | rfl | rfl | rfl | ⟨n1, n2, n3, n4, n5⟩
      rotate_right
      · have z1 := decide_eq_false n1
        have z2 := decide_eq_false n2
        have z3 := decide_eq_false n3
        have z4 := decide_eq_false n4
        have z5 := decide_eq_false n5
        simp +contextual -implicitDefEqProofs only [go_sem, gd_M, g91, g3, g5, y0, z1, z2, z3, z4, z5]
        first
          | (refine stay hS ?_ (.inl ?_) <;> (simp [hB, usesF, n1, n2, n3, n4, n5]; done))
          | (refine stay hS ?_ (.inr ?_) <;> (simp [hB, usesF, hF, c0, n1, n2, n3, n4, n5]; done))
          | (refine Done.drop (sub_put2 hS im _) ⟨by simp [hB, usesF, n1, n2, n3, n4, n5], _, ?_, rfl⟩
             first
             | (rw [if_neg (by simp [hB, usesF, n1, n2, n3, n4, n5]), hF, if_pos c0, if_pos (by omega)]; exact hset)
             | (rw [if_neg (by simp [hB, usesF, n1, n2, n3, n4, n5]), hF, if_pos c0, if_neg (by omega), if_pos rfl]; exact hdel))
      all_goals
        simp +contextual -implicitDefEqProofs only [go_sem, gd_M, g91, g3, g5, y0]
        first
          | (refine stay hS ?_ (.inl ?_) <;> (simp [hB, usesF]; done))
          | (refine stay hS ?_ (.inr ?_) <;> (simp [hB, usesF, hF, c0]; done))
          | (refine Done.drop (sub_put2 hS im _) ⟨by simp [hB, usesF], _, ?_, rfl⟩
             first
             | (rw [if_neg (by simp [hB, usesF]), hF, if_pos c0, if_pos (by omega)]; exact hset)
             | (rw [if_neg (by simp [hB, usesF]), hF, if_pos c0, if_neg (by omega), if_pos rfl]; exact hdel))
  | some h =>
    simp only [Option.map_some, encHadR] at hg
    simp -implicitDefEqProofs only [go_sem, g91, g3, hg]
    with_reducible refine nwC_intro fun i5 hi5 => ?_
    simp -implicitDefEqProofs only [go_sem]
    generalize E5 : Heap.put G1 i5 _ = G2
    have hO_5 := obj_new E5 hi5 hS
    have n5 := hO_5.1
    have hS := hO_5.2.1
    have g5 := hO_5.2.2.1
    have d91_5 := obj_ne g91 hi5
    have g91 := hO_5.2.2.2 _ _ g91
    have d3_5 := obj_ne g3 hi5
    have g3 := hO_5.2.2.2 _ _ g3
    clear hO_5
    have b1 := bv h.ver vf
    have b2 := bv h.ver vt
    cases y0 : decide (¬ re = 0) <;> cases y1 : decide (¬ h.ver = vf) <;> cases y2 : decide (¬ h.ver = vt)
    all_goals
      have c0 := y0
      simp only [decide_eq_true_eq, decide_eq_false_iff_not, Decidable.not_not] at c0
      rw [y1] at b1
      rw [y2] at b2
      simp only [y1, y2] at hB
      rcases kind_cases k with rfl | rfl | rfl | rfl | rfl | ⟨n1, n2, n3, n4, n5⟩
      rotate_right
      · have z1 := decide_eq_false n1
        have z2 := decide_eq_false n2
        have z3 := decide_eq_false n3
        have z4 := decide_eq_false n4
        have z5 := decide_eq_false n5
        simp +contextual -implicitDefEqProofs only [go_sem, gd_M, g91, g3, g5, y0, z1, z2, z3, z4, z5]
        first
          | (refine stay hS ?_ (.inl ?_) <;> (simp [hB, usesF, n1, n2, n3, n4, n5]; done))
          | (refine stay hS ?_ (.inr ?_) <;> (simp [hB, usesF, hF, c0, n1, n2, n3, n4, n5]; done))
          | (refine Done.drop (sub_put2 hS im _) ⟨by simp [hB, usesF, n1, n2, n3, n4, n5], _, ?_, rfl⟩
             first
             | (rw [if_neg (by simp [hB, usesF, n1, n2, n3, n4, n5]), hF, if_pos c0, if_pos (by omega)]; exact hset)
             | (rw [if_neg (by simp [hB, usesF, n1, n2, n3, n4, n5]), hF, if_pos c0, if_neg (by omega), if_pos rfl]; exact hdel))
      all_goals
        simp +contextual -implicitDefEqProofs only [go_sem, gd_M, g91, g3, g5, y0, b1, b2]
        first
          | (refine stay hS ?_ (.inl ?_) <;> (simp [hB, usesF]; done))
          | (refine stay hS ?_ (.inr ?_) <;> (simp [hB, usesF, hF, c0]; done))
          | (refine Done.drop (sub_put2 hS im _) ⟨by simp [hB, usesF], _, ?_, rfl⟩
             first
             | (rw [if_neg (by simp [hB, usesF]), hF, if_pos c0, if_pos (by omega)]; exact hset)
             | (rw [if_neg (by simp [hB, usesF]), hF, if_pos c0, if_neg (by omega), if_pos rfl]; exact hdel))
end Go.Proofs

/- Lists that grow beside others. -/
namespace Go.Proofs
open Go Go.Abs
set_option linter.unusedSimpArgs false
set_option linter.unusedVariables false
set_option maxRecDepth 20000
/-- Two lists have not the same room. -/
def tokNe (t u : Tail) : Prop := ∀ i k ty k' ty', t = .tok i k ty → u ≠ .tok i k' ty'
theorem tokNe.symm {t u : Tail} (h : tokNe t u) : tokNe u t := fun i k ty k' ty' h1 h2 => h i k' ty' k ty h2 h1
theorem tokNe_exact (t : Tail) : tokNe .exact t := fun i k ty k' ty' h => by cases h
/-- What one list's growing leaves: all but its room. -/
def Grows (G G' : Heap) (tl tl' : Tail) : Prop := (∀ i o, G i = some o → (∀ k ty, tl ≠ .tok i k ty) → G' i = some o) ∧ (∀ i k ty, tl' = .tok i k ty → G i = none)
theorem AppG.step2 {et : Option TypeId} {H G : Heap} {e : TI} {acc new : List (List AV)} {tl : Tail} {K : K1} (h : AppG H G e.size acc tl) (hu : Unif e.size acc) (hn : new ≠ [])
    (h1 : (acc.length + new.length) * e.bytes ≤ 140737488355328) (h2 : acc.length + new.length ≤ 4611686018427387904)
    (hK : ∀ tl' G', AppG H G' e.size (acc ++ new) tl' → Grows G G' tl tl' → K (.sl (acc ++ new) tl') G') : appK et false e (.sl acc tl) new G K := by
  have hnone : ∀ id', G id' = none → H id' = none := fun id' hid' => sub_none h.1 hid'
  rcases h.2 with rfl | ⟨id, ty, rfl, h3, h4⟩
  · refine app_exact hu h1 h2 (fun e => absurd e hn) (fun _ id' hid' => ?_)
    refine hK _ _ ⟨h.1.put' (hnone _ hid') _, .inr ⟨id', _, rfl, hnone _ hid', put_same _ _ _⟩⟩ ⟨fun i o hi _ => ?_, fun i k ty e => by cases e; exact hid'⟩
    have : ¬ i = id' := fun e => by subst e; rw [hid'] at hi; cases hi
    rw [put_ne _ _ _ _ this]; exact hi
  · refine app_tok hu h4 h1 h2 (fun id' hid' => ?_)
    refine hK _ _ ⟨?_, .inr ⟨id', _, rfl, hnone _ hid', put_same _ _ _⟩⟩ ⟨fun i o hi hno => ?_, fun i k ty e => by cases e; exact hid'⟩
    · refine Heap.Sub.put' (fun i o hi => ?_) (hnone _ hid') _
      have : ¬ i = id := fun e => by subst e; rw [h3] at hi; cases hi
      show (if i = id then none else G i) = some o
      rw [if_neg this]; exact h.1 i o hi
    · have a1 : ¬ i = id' := fun e => by subst e; rw [hid'] at hi; cases hi
      have a2 : ¬ i = id := fun e => by subst e; exact hno _ _ rfl
      rw [put_ne _ _ _ _ a1]
      show (if i = id then none else G i) = some o
      rw [if_neg a2]; exact hi
theorem Grows.cells {H G G' : Heap} {k : Nat} {acc : List (List AV)} {tl tl' : Tail} (h : Grows G G' tl tl') (ha : AppG H G k acc tl) {i : Nat} {cs : List AV} (hi : G i = some (.cells cs)) : G' i = some (.cells cs) := by
  refine h.1 i _ hi (fun k ty e => ?_)
  rcases ha.2 with h2 | ⟨id, ty2, h2, h3, h4⟩
  · rw [e] at h2; cases h2
  · rw [e] at h2; cases h2; rw [hi] at h4; cases h4
theorem Grows.other {H G G' : Heap} {k2 : Nat} {acc2 : List (List AV)} {tl tl' u : Tail} (h : Grows G G' tl tl') (hs : H.Sub G') (ha : AppG H G k2 acc2 u) (hne : tokNe u tl) : AppG H G' k2 acc2 u ∧ tokNe u tl' := by
  rcases ha.2 with rfl | ⟨id, ty2, rfl, h3, h4⟩
  · exact ⟨⟨hs, .inl rfl⟩, tokNe_exact _⟩
  · refine ⟨⟨hs, .inr ⟨id, ty2, rfl, h3, h.1 id _ h4 (fun k ty e => hne id _ _ _ _ rfl e)⟩⟩, fun i k ty k' ty' e1 e2 => ?_⟩
    cases e1
    have := h.2 _ _ _ e2
    rw [h4] at this; cases this
theorem _root_.Go.Abs.AppG.set {H G : Heap} {k : Nat} {acc : List (List AV)} {tl : Tail} (h : AppG H G k acc tl) {id : Nat} (hid : H id = none) {cs : List AV} (ho : G id = some (.cells cs)) (o' : AObj) : AppG H (G.put id o') k acc tl := by
  refine ⟨h.1.put' hid o', ?_⟩
  rcases h.2 with h2 | ⟨i, ty, h2, h3, h4⟩
  · exact .inl h2
  · have : ¬ i = id := fun e => by subst e; rw [h4] at ho; cases ho
    exact .inr ⟨i, ty, h2, h3, by rw [put_ne _ _ _ _ this]; exact h4⟩
end Go.Proofs

/- Logs that grow: New, Add, Records, Text and Sum, on the program's side. -/
namespace Go.Proofs
open Go Go.Abs
set_option linter.unusedSimpArgs false
set_option linter.unusedVariables false
set_option maxRecDepth 20000
def lineOf (s : Bytes) (r : RecV) : Bytes := recText r ++ [32] ++ sumOf (s ++ recText r) ++ [10]
def sumAfter : Bytes → List RecV → Bytes
  | s, [] => s
  | s, r :: rs => sumAfter (sumOf (s ++ recText r)) rs
def linesAfter : Bytes → List RecV → List Bytes
  | _, [] => []
  | s, r :: rs => lineOf s r :: linesAfter (sumOf (s ++ recText r)) rs
theorem sumAfter_snoc (r : RecV) : ∀ (s : Bytes) (rs : List RecV), sumAfter s (rs ++ [r]) = sumOf (sumAfter s rs ++ recText r)
  | s, [] => rfl
  | s, x :: rs => sumAfter_snoc r _ rs
theorem linesAfter_snoc (r : RecV) : ∀ (s : Bytes) (rs : List RecV), linesAfter s (rs ++ [r]) = linesAfter s rs ++ [lineOf (sumAfter s rs) r]
  | s, [] => rfl
  | s, x :: rs => by simp only [List.cons_append, linesAfter, sumAfter, linesAfter_snoc r _ rs]
theorem linesAfter_len : ∀ (s : Bytes) (rs : List RecV), (linesAfter s rs).length = rs.length
  | s, [] => rfl
  | s, x :: rs => by simp only [linesAfter, List.length_cons, linesAfter_len _ rs]
theorem sumAfter_len : ∀ (s : Bytes) (rs : List RecV), s.length ≤ 16 → (sumAfter s rs).length ≤ 16
  | s, [], h => h
  | s, x :: rs, h => sumAfter_len _ rs (by rw [sumOf_len]; exact Nat.le_refl _)
def tabAfter (rs : List RecV) : List HadV := rs.foldl tabAdd []
theorem tabAfter_snoc (r : RecV) (rs : List RecV) : tabAfter (rs ++ [r]) = tabAdd (tabAfter rs) r := by simp [tabAfter]
def lastT (rs : List RecV) : Int := match rs.getLast? with | some r => r.time | none => 0
theorem lastT_snoc (r : RecV) (rs : List RecV) : lastT (rs ++ [r]) = r.time := by simp [lastT]
def addErr (rs : List RecV) (r : RecV) : Int :=
  if recErr r = 0 then
    if r.time < lastT rs then 7
    else if 5000 ≤ rs.length then 15
    else if tabBad (tabAfter rs) r = true then 12 else 0
  else recErr r
theorem AppG.setO {H G : Heap} {k : Nat} {acc : List (List AV)} {tl : Tail} (h : AppG H G k acc tl) {id : Nat} (hid : H id = none) {o : AObj} (ho : G id = some o) (hn : ∀ n, o ≠ .tail n) (o' : AObj) : AppG H (G.put id o') k acc tl := by
  refine ⟨h.1.put' hid o', ?_⟩
  rcases h.2 with h2 | ⟨i, ty, h2, h3, h4⟩
  · exact .inl h2
  · have : ¬ i = id := fun e => by subst e; rw [h4] at ho; cases ho; exact hn _ rfl
    exact .inr ⟨i, ty, h2, h3, by rw [put_ne _ _ _ _ this]; exact h4⟩
theorem Grows.any {H G G' : Heap} {k : Nat} {acc : List (List AV)} {tl tl' : Tail} (h : Grows G G' tl tl') (ha : AppG H G k acc tl) {i : Nat} {o : AObj} (hi : G i = some o) (hn : ∀ n, o ≠ .tail n) : G' i = some o := by
  refine h.1 i _ hi (fun k ty e => ?_)
  rcases ha.2 with h2 | ⟨id, ty2, h2, h3, h4⟩
  · rw [e] at h2; cases h2
  · rw [e] at h2; cases h2; rw [hi] at h4; cases h4; exact hn _ rfl
/-- A log in the heap, beside what else is there. -/
structure LogP (H G : Heap) (il it im : Nat) (rs : List RecV) : Prop where
  nn : H il = none ∧ H it = none ∧ H im = none
  c : ∃ ta tb, G il = some (.cells [.sl (rs.map encRec) ta, .sl ((linesAfter [] rs).map encBs) tb, .str (sumAfter [] rs), .ptr it 0]) ∧ AppG H G 13 (rs.map encRec) ta ∧ AppG H G 1 ((linesAfter [] rs).map encBs) tb ∧ tokNe tb ta
  t : G it = some (.cells [.map im, .int .i64 (lastT rs)])
  m : ∃ es, G im = some (.map .str es) ∧ TabP es (tabAfter rs)
theorem LogP.sub {H G : Heap} {il it im : Nat} {rs : List RecV} (h : LogP H G il it im rs) : H.Sub G := by
  obtain ⟨ta, tb, -, h2, -⟩ := h.c
  exact h2.1
theorem LogP.frame {H G H' G' : Heap} {il it im : Nat} {rs : List RecV} (h : LogP H G il it im rs) (hs : H'.Sub G') (hk : ∀ i o, H i = none → G i = some o → G' i = some o ∧ H' i = none) : LogP H' G' il it im rs := by
  obtain ⟨⟨n1, n2, n3⟩, ⟨ta, tb, c1, c2, c3, c4⟩, t, ⟨es, m1, m2⟩⟩ := h
  have ap : ∀ {k : Nat} {acc : List (List AV)} {tl : Tail}, AppG H G k acc tl → AppG H' G' k acc tl := fun ha => ⟨hs, by
    rcases ha.2 with h2 | ⟨i, ty, h2, h3, h4⟩
    · exact .inl h2
    · exact .inr ⟨i, ty, h2, (hk i _ h3 h4).2, (hk i _ h3 h4).1⟩⟩
  exact ⟨⟨(hk _ _ n1 c1).2, (hk _ _ n2 t).2, (hk _ _ n3 m1).2⟩, ⟨ta, tb, (hk _ _ n1 c1).1, ap c2, ap c3, c4⟩, (hk _ _ n2 t).1, ⟨es, (hk _ _ n3 m1).1, m2⟩⟩
theorem LogP.junk {H G G' : Heap} {il it im : Nat} {rs : List RecV} (h : LogP H G il it im rs) (hs : G.Sub G') : LogP H G' il it im rs := h.frame (fun i o hi => hs i o (h.sub i o hi)) fun i o h1 h2 => ⟨hs i o h2, h1⟩
theorem LogP.new {H G : Heap} {il it im : Nat} {rs : List RecV} (h : LogP H G il it im rs) {j : Nat} (hj : G j = none) (o : AObj) : LogP (H.put j o) (G.put j o) il it im rs := h.frame (sub_put2 h.sub j o) fun i p h1 h2 => by
  have : ¬ i = j := fun e => by subst e; rw [hj] at h2; cases h2
  rw [put_ne _ _ _ _ this, put_ne _ _ _ _ this]; exact ⟨h2, h1⟩
theorem LogP.set {H G : Heap} {il it im : Nat} {rs : List RecV} (h : LogP H G il it im rs) {j : Nat} {p : AObj} (hj : H j = some p) (o : AObj) : LogP (H.put j o) (G.put j o) il it im rs := h.frame (sub_put2 h.sub j o) fun i q h1 h2 => by
  have : ¬ i = j := fun e => by subst e; rw [hj] at h1; cases h1
  rw [put_ne _ _ _ _ this, put_ne _ _ _ _ this]; exact ⟨h2, h1⟩
theorem newTable_calls (H : Heap) : ACalls Tryz.prog 91 [] H fun x G => ∃ it im, H it = none ∧ H im = none ∧ ¬ it = im ∧ x = .ptr it 0 ∧ G = (H.put im (.map .str [])).put it (.cells [.map im, .int .i64 0]) := by
  refine ACalls.of_code (X := { pure := pu0 }) pu0_ok Tryz.func91 (by kernel_rfl) rfl (by kernel_rfl) (Nat.le_of_ble_eq_true rfl) ?_
  simp -implicitDefEqProofs only [go_sem, Tryz.f91]
  with_reducible refine nwM_intro fun im him => ?_
  simp -implicitDefEqProofs only [go_sem]
  with_reducible refine nwC_intro fun it hit => ?_
  simp -implicitDefEqProofs only [go_sem]
  have d : ¬ it = im := fun e => by rw [e, put_same] at hit; cases hit
  exact Done.now ⟨it, im, (put_ne H im it _ d) ▸ hit, him, d, rfl, rfl⟩
theorem new_calls (H : Heap) : ACalls Tryz.prog 23 [] H fun x G => ∃ il it im, x = .ptr il 0 ∧ LogP H G il it im [] := by
  refine ACalls.of_code (X := { pure := pu0 }) pu0_ok Tryz.func23 (by kernel_rfl) rfl (by kernel_rfl) (Nat.le_of_ble_eq_true rfl) ?_
  simp -implicitDefEqProofs only [go_sem, Tryz.f23]
  refine (newTable_calls H).mono ?_
  rintro x G ⟨it, im, h1, h2, h3, rfl, rfl⟩
  simp -implicitDefEqProofs only [go_sem]
  with_reducible refine nwC_intro fun il hil => ?_
  simp -implicitDefEqProofs only [go_sem]
  have e1 : ¬ il = it := fun e => by rw [e, put_same] at hil; cases hil
  rw [put_ne _ _ _ _ e1] at hil
  have e2 : ¬ il = im := fun e => by rw [e, put_same] at hil; cases hil
  rw [put_ne _ _ _ _ e2] at hil
  have hs : H.Sub (((H.put im (.map .str [])).put it (.cells [.map im, .int .i64 0])).put il (.cells [.sl [] .exact, .sl [] .exact, .str [], .ptr it 0])) := (((Heap.Sub.rfl' H).put' h2 _).put' h1 _).put' hil _
  refine Done.now ⟨il, it, im, rfl, ⟨hil, h1, h2⟩, ⟨.exact, .exact, put_same _ _ _, AppG.new hs _, AppG.new hs _, tokNe_exact _⟩, ?_, ?_⟩
  · rw [put_ne _ _ _ _ (fun e => e1 e.symm), put_same]; rfl
  · exact ⟨[], by rw [put_ne _ _ _ _ (fun e => e2 e.symm), put_ne _ _ _ _ (fun e => h3 e.symm), put_same], MapOf.nil⟩
end Go.Proofs

/- Logs that grow: Add, Records, Text and Sum. -/
namespace Go.Proofs
open Go Go.Abs
set_option linter.unusedSimpArgs false
set_option linter.unusedVariables false
set_option maxRecDepth 20000
noncomputable def sRecT := spF (fun r : RecV => [AV.agg (encRec r)]) (fun r => recErr r = 0 ∧ recR r) fun r => .str (recText r)
theorem sRecT_eq (r : RecV) (h : recErr r = 0 ∧ recR r) : sRecT [.agg (encRec r)] = some (.str (recText r)) := spF_eq (enc := fun r : RecV => [AV.agg (encRec r)]) (fun a b e => by
  simp only [List.cons.injEq, AV.agg.injEq, and_true] at e
  rw [encRec_inj e]) r h
noncomputable def sSumL := spF (fun s : Bytes => [AV.str s]) (fun s => s.length ≤ Room) fun s => .str (sumOf s)
theorem sSumL_eq (s : Bytes) (h : s.length ≤ Room) : sSumL [.str s] = some (.str (sumOf s)) := spF_eq (enc := fun s : Bytes => [AV.str s]) (fun a b e => by cases e; rfl) s h
noncomputable def puL1 : Pures := putP 17 sChkR (putP 26 sSumL (putP 93 sSumL (putP 21 sRecT (putP 68 sRecT puP2))))
theorem puL1_dyn : isDyn puL1 = false := by simp only [puL1, go_sem, Nat.reduceEqDiff]
attribute [go_sem] puL1_dyn
theorem puL1_ok : PuOK Tryz.prog puL1 := .put (.put (.put (.put (.put (puP2_ok) (spF_ok fun r H h => recordText_calls r H h.1 h.2)) (spF_ok fun r H h => rRecordText_calls r H h.1 h.2)) (spF_ok fun s H h => sumOf_calls s H h)) (spF_ok fun s H h => rSumOf_calls s H h)) (spF_ok fun r H h => rRecordError_calls r H h)
set_option maxHeartbeats 6400000 in
theorem add_calls (r : RecV) (hr : recR r) (H G : Heap) (il it im : Nat) (rs : List RecV) (hL : LogP H G il it im rs) (hn : rs.length ≤ 5000) :
    ACalls Tryz.prog 25 [.ptr il 0, .agg (encRec r)] G fun x G' => x = .int .i64 (addErr rs r) ∧ LogP H G' il it im (if addErr rs r = 0 then rs ++ [r] else rs) := by
  have hE := addErr.eq_1 rs r
  have qc := sChkR_eq r hr
  have hsl := sumAfter_len [] rs (Nat.zero_le _)
  have hok : recErr r = 0 → RecOK r := recErr_ok
  have cr : encRec r = [.int .i64 r.time, .int .i64 r.kind, .str r.pack, .int .i64 r.vfrom.major, .int .i64 r.vfrom.minor, .int .i64 r.vfrom.patch, .str r.vfrom.early, .int .i64 r.vto.major, .int .i64 r.vto.minor, .int .i64 r.vto.patch, .str r.vto.early, .int .i64 r.result, .str r.note] := rfl
  rw [cr] at qc ⊢
  refine ACalls.of_code (X := { pure := puL1 }) puL1_ok Tryz.func25 (by kernel_rfl) rfl (by kernel_rfl) (Nat.le_of_ble_eq_true rfl) ?_
  simp -implicitDefEqProofs only [go_sem, Tryz.f25]
  with_reducible refine nwC_intro fun i3 hi3 => ?_
  have d3 : ¬ i3 = il := fun e => by
    obtain ⟨ta, tb, h, -⟩ := hL.c
    rw [e, h] at hi3; cases hi3
  have hL := hL.junk ((Heap.Sub.rfl' G).put' hi3 (.cells (encRec r)))
  have g3 := put_same G i3 (.cells (encRec r))
  rw [cr] at hL g3
  generalize G.put i3 _ = G1 at *
  by_cases c1 : recErr r = 0
  rotate_left
  · have y1 : decide (¬ recErr r = 0) = true := decide_eq_true c1
    rw [if_neg c1] at hE
    simp -implicitDefEqProofs only [go_sem, puL1, puP2, qc, y1, g3]
    exact Done.now ⟨by rw [hE], by rw [if_neg (by rw [hE]; exact c1)]; exact hL⟩
  have y1 : decide (¬ recErr r = 0) = false := decide_eq_false (by simpa using c1)
  rw [if_pos c1] at hE
  obtain ⟨ta, tb, gl, hA, hB, hne⟩ := hL.c
  have gt := hL.t
  obtain ⟨es, gm, hM⟩ := hL.m
  simp -implicitDefEqProofs only [go_sem, puL1, puP2, qc, y1, g3, gl, gt]
  rw [← cr]
  refine (fault_calls r it im es _ _ G1 gt gm hM).mono ?_
  rintro x G2 ⟨rfl, rfl⟩
  have hF := tabFault.eq_1 (tabAfter rs) (lastT rs) r
  generalize tabFault (tabAfter rs) (lastT rs) r = fe at *
  by_cases c2 : r.time < lastT rs
  · rw [if_pos c2] at hE hF
    subst hF
    simp -implicitDefEqProofs only [go_sem, puL1, puP2]
    exact Done.now ⟨by rw [hE], by rw [if_neg (by rw [hE]; decide)]; exact hL⟩
  rw [if_neg c2] at hE hF
  have z2 : decide (fe = 7) = false := decide_eq_false (by rw [hF]; split <;> decide)
  by_cases c3 : 5000 ≤ rs.length
  · rw [if_pos c3] at hE
    have y3 : decide ((5000 : Int) ≤ rs.length) = true := decide_eq_true (by omega)
    simp -implicitDefEqProofs only [go_sem, puL1, puP2, z2, gl, List.length_map, y3]
    exact Done.now ⟨by rw [hE], by rw [if_neg (by rw [hE]; decide)]; exact hL⟩
  rw [if_neg c3] at hE
  have y3 : decide ((5000 : Int) ≤ rs.length) = false := decide_eq_false (by omega)
  by_cases c4 : tabBad (tabAfter rs) r = true
  · rw [if_pos c4] at hE hF
    subst hF
    simp -implicitDefEqProofs only [go_sem, puL1, puP2, z2, gl, List.length_map, y3]
    exact Done.now ⟨by rw [hE], by rw [if_neg (by rw [hE]; decide)]; exact hL⟩
  rw [if_neg c4] at hE hF
  subst hF
  have qt := sRecT_eq r ⟨c1, hr⟩
  have hlen := recText_len (hok c1)
  have hR : Room = 1099511627776 := rfl
  have qs := sSumL_eq (sumAfter [] rs ++ recText r) (by rw [List.length_append, hR]; omega)
  rw [cr] at qt
  rw [hE, if_pos rfl]
  simp -implicitDefEqProofs only [go_sem, puL1, puP2, gl, List.length_map, y3, g3, qt, qs]
  refine ⟨by omega, ?_⟩
  obtain ⟨nl, nt, nm⟩ := hL.nn
  have dlt : ¬ il = it := fun e => by rw [e, gt] at gl; cases gl
  have dlm : ¬ il = im := fun e => by rw [e, gm] at gl; cases gl
  have dtm : ¬ it = im := fun e => by rw [e, gm] at gt; cases gt
  have hA := hA.set nl gl (.cells [.sl (rs.map encRec) ta, .sl ((linesAfter [] rs).map encBs) tb, .str (sumOf (sumAfter [] rs ++ recText r)), .ptr it 0])
  have hB := hB.set nl gl (.cells [.sl (rs.map encRec) ta, .sl ((linesAfter [] rs).map encBs) tb, .str (sumOf (sumAfter [] rs ++ recText r)), .ptr it 0])
  have g3 := (put_ne G2 il i3 (.cells [.sl (rs.map encRec) ta, .sl ((linesAfter [] rs).map encBs) tb, .str (sumOf (sumAfter [] rs ++ recText r)), .ptr it 0]) d3).trans g3
  have gt := (put_ne G2 il it (.cells [.sl (rs.map encRec) ta, .sl ((linesAfter [] rs).map encBs) tb, .str (sumOf (sumAfter [] rs ++ recText r)), .ptr it 0]) (fun e => dlt e.symm)).trans gt
  have gm := (put_ne G2 il im (.cells [.sl (rs.map encRec) ta, .sl ((linesAfter [] rs).map encBs) tb, .str (sumOf (sumAfter [] rs ++ recText r)), .ptr it 0]) (fun e => dlm e.symm)).trans gm
  have gl := put_same G2 il (.cells [.sl (rs.map encRec) ta, .sl ((linesAfter [] rs).map encBs) tb, .str (sumOf (sumAfter [] rs ++ recText r)), .ptr it 0])
  generalize G2.put il _ = G3 at *
  simp -implicitDefEqProofs only [go_sem, puL1, puP2, gl, g3]
  refine AppG.step2 hA (fun z hz => by obtain ⟨q, -, rfl⟩ := List.mem_map.1 hz; rfl) (by simp) (by simp; omega) (by simp; omega) (fun t1 G4 hA' hG => ?_)
  have hB := (hG.other hA'.1 hB hne)
  have gl := hG.any hA gl (fun n e => by cases e)
  have gt := hG.any hA gt (fun n e => by cases e)
  have gm := hG.any hA gm (fun n e => by cases e)
  have g3 := hG.any hA g3 (fun n e => by cases e)
  have hnew : rs.map encRec ++ [[AV.int .i64 r.time, .int .i64 r.kind, .str r.pack, .int .i64 r.vfrom.major, .int .i64 r.vfrom.minor, .int .i64 r.vfrom.patch, .str r.vfrom.early, .int .i64 r.vto.major, .int .i64 r.vto.minor, .int .i64 r.vto.patch, .str r.vto.early, .int .i64 r.result, .str r.note]] = (rs ++ [r]).map encRec := by rw [List.map_append, List.map_singleton, cr]
  rw [hnew] at hA' ⊢
  simp -implicitDefEqProofs only [go_sem, puL1, puP2, gl]
  have s16 := sumOf_len (sumAfter [] rs ++ recText r)
  have hne := hB.2
  have hB := hB.1
  have ll := linesAfter_len [] rs
  have hA := hA'.set nl gl (.cells [.sl ((rs ++ [r]).map encRec) t1, .sl ((linesAfter [] rs).map encBs) tb, .str (sumOf (sumAfter [] rs ++ recText r)), .ptr it 0])
  have hB := hB.set nl gl (.cells [.sl ((rs ++ [r]).map encRec) t1, .sl ((linesAfter [] rs).map encBs) tb, .str (sumOf (sumAfter [] rs ++ recText r)), .ptr it 0])
  have g3 := (put_ne G4 il i3 (.cells [.sl ((rs ++ [r]).map encRec) t1, .sl ((linesAfter [] rs).map encBs) tb, .str (sumOf (sumAfter [] rs ++ recText r)), .ptr it 0]) d3).trans g3
  have gt := (put_ne G4 il it (.cells [.sl ((rs ++ [r]).map encRec) t1, .sl ((linesAfter [] rs).map encBs) tb, .str (sumOf (sumAfter [] rs ++ recText r)), .ptr it 0]) (fun e => dlt e.symm)).trans gt
  have gm := (put_ne G4 il im (.cells [.sl ((rs ++ [r]).map encRec) t1, .sl ((linesAfter [] rs).map encBs) tb, .str (sumOf (sumAfter [] rs ++ recText r)), .ptr it 0]) (fun e => dlm e.symm)).trans gm
  have gl := put_same G4 il (.cells [.sl ((rs ++ [r]).map encRec) t1, .sl ((linesAfter [] rs).map encBs) tb, .str (sumOf (sumAfter [] rs ++ recText r)), .ptr it 0])
  generalize G4.put il _ = G5 at *
  refine ⟨by omega, by simp only [List.length_append, List.length_singleton]; omega, by simp only [List.length_append, List.length_singleton]; omega, ?_⟩
  refine AppG.step2 hB (fun z hz => by obtain ⟨q, -, rfl⟩ := List.mem_map.1 hz; rfl) (by simp) (by simp; omega) (by simp; omega) (fun t2 G6 hB' hG => ?_)
  have hA := hG.other hB'.1 hA hne.symm
  have gl := hG.any hB gl (fun n e => by cases e)
  have gt := hG.any hB gt (fun n e => by cases e)
  have gm := hG.any hB gm (fun n e => by cases e)
  have g3 := hG.any hB g3 (fun n e => by cases e)
  have hnew : (linesAfter [] rs).map encBs ++ [[AV.str (recText r ++ [32] ++ sumOf (sumAfter [] rs ++ recText r) ++ [10])]] = (linesAfter [] (rs ++ [r])).map encBs := by rw [linesAfter_snoc, List.map_append, List.map_singleton]; rfl
  rw [hnew] at hB' ⊢
  simp -implicitDefEqProofs only [go_sem, puL1, puP2, gl]
  have hne := hA.2
  have hA := hA.1
  have hA := hA.set nl gl (.cells [.sl ((rs ++ [r]).map encRec) t1, .sl ((linesAfter [] (rs ++ [r])).map encBs) t2, .str (sumOf (sumAfter [] rs ++ recText r)), .ptr it 0])
  have hB := hB'.set nl gl (.cells [.sl ((rs ++ [r]).map encRec) t1, .sl ((linesAfter [] (rs ++ [r])).map encBs) t2, .str (sumOf (sumAfter [] rs ++ recText r)), .ptr it 0])
  have g3 := (put_ne G6 il i3 (.cells [.sl ((rs ++ [r]).map encRec) t1, .sl ((linesAfter [] (rs ++ [r])).map encBs) t2, .str (sumOf (sumAfter [] rs ++ recText r)), .ptr it 0]) d3).trans g3
  have gt := (put_ne G6 il it (.cells [.sl ((rs ++ [r]).map encRec) t1, .sl ((linesAfter [] (rs ++ [r])).map encBs) t2, .str (sumOf (sumAfter [] rs ++ recText r)), .ptr it 0]) (fun e => dlt e.symm)).trans gt
  have gm := (put_ne G6 il im (.cells [.sl ((rs ++ [r]).map encRec) t1, .sl ((linesAfter [] (rs ++ [r])).map encBs) t2, .str (sumOf (sumAfter [] rs ++ recText r)), .ptr it 0]) (fun e => dlm e.symm)).trans gm
  have gl := put_same G6 il (.cells [.sl ((rs ++ [r]).map encRec) t1, .sl ((linesAfter [] (rs ++ [r])).map encBs) t2, .str (sumOf (sumAfter [] rs ++ recText r)), .ptr it 0])
  generalize G6.put il _ = G7 at *
  simp -implicitDefEqProofs only [go_sem, puL1, puP2, gl, g3]
  rw [← cr]
  refine (tadd_calls r it im es _ _ G7 gt gm hM).mono ?_
  rintro x G8 ⟨rfl, es2, hM2, rfl⟩
  simp -implicitDefEqProofs only [go_sem]
  refine Done.now ⟨rfl, ⟨nl, nt, nm⟩, ⟨t1, t2, ?_, AppG.setO (AppG.setO hA nt gt (fun n e => by cases e) _) nm ((put_ne _ it im _ (fun e => dtm e.symm)).trans gm) (fun n e => by cases e) _, AppG.setO (AppG.setO hB nt gt (fun n e => by cases e) _) nm ((put_ne _ it im _ (fun e => dtm e.symm)).trans gm) (fun n e => by cases e) _, hne.symm⟩, ?_, ?_⟩
  · rw [put_ne _ _ _ _ dlm, put_ne _ _ _ _ dlt, gl, sumAfter_snoc]
  · rw [put_ne _ _ _ _ dtm, put_same, lastT_snoc]
  · exact ⟨es2, put_same _ _ _, by rw [tabAfter_snoc]; exact hM2⟩
end Go.Proofs
