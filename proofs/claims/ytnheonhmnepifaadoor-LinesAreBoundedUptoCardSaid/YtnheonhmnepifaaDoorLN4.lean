/- Walks: the pairs of equal lines, on the program's side. -/
import Derived.Test.YtnheonhmnepifaaDoorLN3
namespace Go.Proofs
open Go Go.Abs
set_option linter.unusedSimpArgs false
set_option linter.unusedVariables false
set_option maxRecDepth 20000
def encP (p : Nat × Nat) : List AV := [.int .i64 (p.1 : Int), .int .i64 (p.2 : Int)]
theorem encP_unif (l : List (Nat × Nat)) : Unif 2 (l.map encP) := by
  intro c hc
  simp only [List.mem_map] at hc
  obtain ⟨b, _, rfl⟩ := hc
  rfl
abbrev tiInts : TI := { size := 1, bytes := 24, zero := .sl [] .exact, desc := .slice 3, held := false, guard := false }
/-- Rows of numbers that are written. -/
def rowC (w : Nat) (c : Nat → Nat) : List AV := (List.range w).map fun k => AV.int .i64 (c k : Int)
structure TabG (H G : Heap) (T : Nat) (ids : List Nat) (n w : Nat) (c : Nat → Nat → Nat) : Prop where
  sub : H.Sub G
  nT : H T = none
  le : ids.length ≤ n
  tab : G T = some (.cells (fillL (.sl [] .exact) (ids.map fun d => AV.ms d 0 w 1) n))
  row : ∀ i d, ids[i]? = some d → H d = none ∧ ¬ d = T ∧ G d = some (.cells (rowC w (c i)))
  nd : ids.Nodup
theorem rowC_len (w : Nat) (c : Nat → Nat) : (rowC w c).length = w := by simp [rowC]
theorem rowC_get {w : Nat} {c : Nat → Nat} {k : Nat} (h : k < w) : (rowC w c)[k]? = some (.int .i64 (c k : Int)) := by
  unfold rowC
  rw [List.getElem?_map, List.getElem?_range h]; rfl
theorem rowC_head {w : Nat} {c : Nat → Nat} {k : Nat} (h : k < w) : ((rowC w c).drop k).head? = some (.int .i64 (c k : Int)) := by
  rw [List.head?_drop]; exact rowC_get h
theorem rowC_congr {w : Nat} {c c' : Nat → Nat} (h : ∀ k, k < w → c k = c' k) : rowC w c = rowC w c' := by
  unfold rowC
  apply List.map_congr_left
  intro k hk
  rw [h k (List.mem_range.1 hk)]
theorem rowC_set {w : Nat} {c : Nat → Nat} {k : Nat} (v : Nat) : (rowC w c).set k (.int .i64 (v : Int)) = rowC w (fun j => if j = k then v else c j) := by
  apply List.ext_getElem?
  intro j
  by_cases hj : j < w
  · rw [rowC_get hj, List.getElem?_set]
    by_cases e : k = j
    · subst e; rw [if_pos rfl, if_pos (by rw [rowC_len]; exact hj), if_pos rfl]
    · rw [if_neg e, rowC_get hj, if_neg (fun h => e h.symm)]
  · rw [List.getElem?_eq_none (by rw [List.length_set, rowC_len]; omega), List.getElem?_eq_none (by rw [rowC_len]; omega)]
theorem rowC_zero (w : Nat) : (List.replicate w [AV.int .i64 0]).flatten = rowC w (fun _ => 0) := by
  unfold rowC
  induction w with
  | zero => rfl
  | succ w ih =>
    rw [List.replicate_succ', List.flatten_append, ih, List.range_succ, List.map_append]
    rfl
theorem TabG.new {H G : Heap} {T n w : Nat} {c : Nat → Nat → Nat} (h : H.Sub G) (hT : G T = none) : TabG H (G.put T (.cells (fillL (.sl [] .exact) [] n))) T [] n w c := by
  have hH : H T = none := sub_none h hT
  exact ⟨h.put' hH _, hH, Nat.zero_le _, put_same _ _ _, fun i d hi => by simp at hi, List.nodup_nil⟩
theorem TabG.add {H G : Heap} {T n w : Nat} {ids : List Nat} (h : TabG H G T ids n w (fun _ _ => 0)) (hn : ids.length < n) {d : Nat} (hd : G d = none) :
    TabG H ((G.put d (.cells (rowC w (fun _ => 0)))).put T (.cells (fillL (.sl [] .exact) ((ids ++ [d]).map fun d => AV.ms d 0 w 1) n))) T (ids ++ [d]) n w (fun _ _ => 0) := by
  have hdT : ¬ d = T := fun e => by subst e; rw [h.tab] at hd; cases hd
  have hH : H d = none := sub_none h.sub hd
  refine ⟨(h.sub.put' hH _).put' h.nT _, h.nT, by simp; omega, put_same _ _ _, fun i e hi => ?_, ?_⟩
  · by_cases hlt : i < ids.length
    · rw [List.getElem?_append_left hlt] at hi
      obtain ⟨h1, h2, h3⟩ := h.row i e hi
      refine ⟨h1, h2, ?_⟩
      have hed : ¬ e = d := fun e2 => by subst e2; rw [h3] at hd; cases hd
      rw [put_ne _ _ _ _ h2, put_ne _ _ _ _ hed]; exact h3
    · rw [List.getElem?_append_right (by omega)] at hi
      have : e = d := by
        rw [List.getElem?_singleton] at hi
        split at hi
        · exact (Option.some.inj hi).symm
        · cases hi
      subst this
      exact ⟨hH, hdT, by rw [put_ne _ _ _ _ hdT, put_same]⟩
  · rw [List.nodup_append]
    refine ⟨h.nd, by simp, ?_⟩
    intro a ha b hb
    rw [List.mem_singleton] at hb
    subst hb
    obtain ⟨i, hi⟩ := List.mem_iff_getElem?.1 ha
    intro e
    subst e
    rw [(h.row i a hi).2.2] at hd; cases hd
theorem TabG.set {H G : Heap} {T n w : Nat} {ids : List Nat} {c : Nat → Nat → Nat} (h : TabG H G T ids n w c) {i k v d : Nat} (hd : ids[i]? = some d) :
    TabG H (G.put d (.cells (rowC w (fun j => if j = k then v else c i j)))) T ids n w (fun i' k' => if i' = i ∧ k' = k then v else c i' k') := by
  obtain ⟨h1, h2, h3⟩ := h.row i d hd
  refine ⟨h.sub.put' h1 _, h.nT, h.le, by rw [put_ne _ _ _ _ (fun e => h2 e.symm)]; exact h.tab, fun i' d' hi' => ?_, h.nd⟩
  obtain ⟨g1, g2, g3⟩ := h.row i' d' hi'
  refine ⟨g1, g2, ?_⟩
  by_cases e : i' = i
  · subst e
    obtain rfl := Option.some.inj (hi'.symm.trans hd)
    rw [put_same]
    congr 2
    exact rowC_congr fun k' _ => by simp
  · have : ¬ d' = d := fun e2 => by
      subst e2
      exact e ((List.getElem?_inj (List.getElem?_eq_some_iff.1 hi').1 h.nd).1 (hi'.trans hd.symm))
    rw [put_ne _ _ _ _ this, g3]
    congr 2
    exact rowC_congr fun k' _ => by rw [if_neg]; omega
theorem TabG.congr {H G : Heap} {T n w : Nat} {ids : List Nat} {c c' : Nat → Nat → Nat} (h : TabG H G T ids n w c) (hc : ∀ i k, i < ids.length → k < w → c i k = c' i k) : TabG H G T ids n w c' :=
  ⟨h.sub, h.nT, h.le, h.tab, fun i d hi => by
    obtain ⟨h1, h2, h3⟩ := h.row i d hi
    refine ⟨h1, h2, ?_⟩
    rw [h3]
    congr 2
    exact rowC_congr fun k hk => hc i k (List.getElem?_eq_some_iff.1 hi).1 hk, h.nd⟩
theorem TabG.kept {H G G' : Heap} {T n w : Nat} {ids : List Nat} {c : Nat → Nat → Nat} (h : TabG H G T ids n w c) (hs : H.Sub G') (hk : Kept G G') : TabG H G' T ids n w c :=
  ⟨hs, h.nT, h.le, hk.cells h.tab, fun i d hi => ⟨(h.row i d hi).1, (h.row i d hi).2.1, hk.cells (h.row i d hi).2.2⟩, h.nd⟩
/-- What is read of the table. -/
theorem TabG.at {H G : Heap} {T n w : Nat} {ids : List Nat} {c : Nat → Nat → Nat} (h : TabG H G T ids n w c) (hn : ids.length = n) {i : Nat} (hi : i < n) :
    ∃ d, ids[i]? = some d ∧ ((fillL (.sl [] .exact) (ids.map fun d => AV.ms d 0 w 1) n).drop i).head? = some (.ms d 0 w 1) ∧ G d = some (.cells (rowC w (c i))) := by
  obtain ⟨d, hd⟩ : ∃ d, ids[i]? = some d := ⟨ids[i]'(by omega), List.getElem?_eq_getElem _⟩
  refine ⟨d, hd, ?_, (h.row i d hd).2.2⟩
  have : fillL (AV.sl [] .exact) (ids.map fun d => AV.ms d 0 w 1) n = ids.map fun d => AV.ms d 0 w 1 := by
    have e := fillL_full (z := AV.sl [] .exact) (done := ids.map fun d => AV.ms d 0 w 1)
    rw [List.length_map, hn] at e
    exact e
  rw [this, List.head?_drop, List.getElem?_map, hd]; rfl
/-- The table while it is filled: 'p' rows, and 'q' columns of the row before, are to come. -/
def cT {α : Type} [DecidableEq α] (a b : List α) (p q : Nat) (i k : Nat) : Nat := if p ≤ i ∨ i + 1 = p ∧ q ≤ k then lcs (a.drop i) (b.drop k) else 0
theorem cT_lcs {α : Type} [DecidableEq α] {a b : List α} {p q i k : Nat} (h : p ≤ i ∨ i + 1 = p ∧ q ≤ k) : cT a b p q i k = lcs (a.drop i) (b.drop k) := if_pos h
theorem drop_get {α : Type} {l : List α} {i : Nat} {x : α} (h : l[i]? = some x) : l.drop i = x :: l.drop (i + 1) := by
  obtain ⟨h1, rfl⟩ := List.getElem?_eq_some_iff.1 h
  exact List.drop_eq_getElem_cons h1
theorem cT_one {α : Type} [DecidableEq α] {a b : List α} {i k : Nat} {x y : α} (hx : a[i]? = some x) (hy : b[k]? = some y) : lcs (a.drop i) (b.drop k) = if x = y then max (max (lcs (a.drop (i + 1)) (b.drop k)) (lcs (a.drop i) (b.drop (k + 1)))) (1 + lcs (a.drop (i + 1)) (b.drop (k + 1))) else max (lcs (a.drop (i + 1)) (b.drop k)) (lcs (a.drop i) (b.drop (k + 1))) := by
  rw [drop_get hx, drop_get hy, lcs_cons]
theorem cT_step {α : Type} [DecidableEq α] (a b : List α) (i k i' k' : Nat) : (if i' = i ∧ k' = k then lcs (a.drop i) (b.drop k) else cT a b (i + 1) (k + 1) i' k') = cT a b (i + 1) k i' k' := by
  unfold cT
  by_cases h : i' = i ∧ k' = k
  · obtain ⟨rfl, rfl⟩ := h
    rw [if_pos ⟨rfl, rfl⟩, if_pos (by omega)]
  · rw [if_neg h]
    by_cases h1 : i + 1 ≤ i' ∨ i' + 1 = i + 1 ∧ k + 1 ≤ k'
    · rw [if_pos h1, if_pos (by omega)]
    · rw [if_neg h1, if_neg (by omega)]
set_option maxHeartbeats 6400000 in
theorem common_calls (x y : List Bytes) (t1 t2 : Tail) (H : Heap) (hx : x.length ≤ 1000) (hy : y.length ≤ 1000) :
    ACalls Tryd.prog 58 [.sl (x.map encS) t1, .sl (y.map encS) t2] H fun v H' => v = .sl ((prs 0 0 x y).map encP) .unk ∧ H' = H := by
  have hn1 := numU_len x []
  have hn2 := numU_len y (numU [] x)
  rw [List.length_nil] at hn1
  have hxm : x.map (posU (numU [] x)) = x.map (posU (numU (numU [] x) y)) := by
    apply List.map_congr_left
    intro s hs
    obtain ⟨n, hn⟩ := idx_numU_mem (u := []) hs
    exact (posU_numU hn).symm
  have hinj : ∀ s ∈ x, ∀ t ∈ y, posU (numU (numU [] x) y) t = posU (numU (numU [] x) y) s → t = s := by
    intro s hs t ht e
    obtain ⟨n, hn⟩ := idx_numU_mem (u := []) hs
    have hn := idx_numU (l := y) hn
    obtain ⟨m, hm⟩ := idx_numU_mem (u := numU [] x) ht
    unfold posU at e
    rw [hn, hm] at e
    simp only [Option.getD_some] at e
    subst e
    exact Option.some.inj ((idx_some hm).1.symm.trans (idx_some hn).1)
  have hpm := prs_map (i := 0) (k := 0) hinj
  rw [← hpm]
  refine ACalls.of_code (X := { pure := puN1 }) puN1_ok Tryd.func58 (by kernel_rfl) rfl (by kernel_rfl) (Nat.le_of_ble_eq_true rfl) ?_
  simp -implicitDefEqProofs only [go_sem, tys, regs0, Nat.reduceEqDiff, Nat.reduceAdd, Nat.reduceLeDiff, Nat.reduceLT, Nat.reduceMul, Int.natCast_one, Int.natCast_zero, Int.reduceEq, Int.reduceLT, Int.reduceLE, Int.reduceAdd, Int.reduceSub, Int.reduceToNat, UInt8.reduceToNat, Tryd.f58]
  refine nwM_intro fun idk hidk => ?_
  simp -implicitDefEqProofs only [go_sem, tys, regs0, Nat.reduceEqDiff, Nat.reduceAdd, Nat.reduceLeDiff, Nat.reduceLT, Nat.reduceMul, Int.natCast_one, Int.natCast_zero, Int.reduceEq, Int.reduceLT, Int.reduceLE, Int.reduceAdd, Int.reduceSub, Int.reduceToNat, UInt8.reduceToNat]
  have hK0 := put_same H idk (.map .str (kn []))
  refine (numbered_calls x [] t1 idk _ hK0 hx (by simp)).next1 ?_
  simp -implicitDefEqProofs only [go_sem, tys, regs0, Nat.reduceEqDiff, Nat.reduceAdd, Nat.reduceLeDiff, Nat.reduceLT, Nat.reduceMul, Int.natCast_one, Int.natCast_zero, Int.reduceEq, Int.reduceLT, Int.reduceLE, Int.reduceAdd, Int.reduceSub, Int.reduceToNat, UInt8.reduceToNat]
  have hK1 := put_same H idk (.map .str (kn (numU [] x)))
  refine (numbered_calls y (numU [] x) t2 idk _ hK1 hy (by omega)).next1 ?_
  rw [hxm, put_put]
  have hS0 : H.Sub (H.put idk (.map .str (kn (numU (numU [] x) y)))) := (Heap.Sub.rfl' H).put' hidk _
  generalize H.put idk (.map .str (kn (numU (numU [] x) y))) = G0 at *
  have hal : (x.map (posU (numU (numU [] x) y))).length ≤ 1000 := by rw [List.length_map]; exact hx
  have hbl : (y.map (posU (numU (numU [] x) y))).length ≤ 1000 := by rw [List.length_map]; exact hy
  generalize x.map (posU (numU (numU [] x) y)) = a at *
  generalize y.map (posU (numU (numU [] x) y)) = b at *
  clear hpm hinj hxm hn1 hn2 hK0 hK1
  have wa : IntKind.i64.wrap ((a.length : Int) + 1) = ((a.length + 1 : Nat) : Int) := by rw [Go.IntWalk.i64_in _ (by omega)]; omega
  have wb : IntKind.i64.wrap ((b.length : Int) + 1) = ((b.length + 1 : Nat) : Int) := by rw [Go.IntWalk.i64_in _ (by omega)]; omega
  have wa1 : IntKind.i64.wrap ((a.length : Int) - 1) = (a.length : Int) - 1 := Go.IntWalk.i64_in _ (by omega)
  have wb1 : IntKind.i64.wrap ((b.length : Int) - 1) = (b.length : Int) - 1 := Go.IntWalk.i64_in _ (by omega)
  simp -implicitDefEqProofs only [go_sem, tys, regs0, Nat.reduceEqDiff, Nat.reduceAdd, Nat.reduceLeDiff, Nat.reduceLT, Nat.reduceMul, Int.natCast_one, Int.natCast_zero, Int.reduceEq, Int.reduceLT, Int.reduceLE, Int.reduceAdd, Int.reduceSub, Int.reduceToNat, UInt8.reduceToNat, wa]
  with_reducible refine makeSlice_ms (e := tiInts) ?_ ?_ ?_ ?_ ?_ ?_
  · simp -implicitDefEqProofs only [go_sem, tys, regs0, Nat.reduceEqDiff, Nat.reduceAdd, Nat.reduceLeDiff, Nat.reduceLT, Nat.reduceMul, Int.natCast_one, Int.natCast_zero, Int.reduceEq, Int.reduceLT, Int.reduceLE, Int.reduceAdd, Int.reduceSub, Int.reduceToNat, UInt8.reduceToNat]
  · decide
  · omega
  · simp only []; omega
  · omega
  intro T hT
  have hz : (List.replicate ((a.length + 1 : Nat) : Int).toNat (tiInts.zero.cells)).flatten = fillL (.sl [] .exact) [] (a.length + 1) := by
    rw [Int.toNat_natCast, fillL]
    simp [AV.cells, List.flatten_replicate_singleton]
  rw [hz, Int.toNat_natCast]
  have hT0 := TabG.new (w := b.length + 1) (n := a.length + 1) (c := fun _ _ => 0) hS0 hT
  simp -implicitDefEqProofs only [go_sem, tys, regs0, Nat.reduceEqDiff, Nat.reduceAdd, Nat.reduceLeDiff, Nat.reduceLT, Nat.reduceMul, Int.natCast_one, Int.natCast_zero, Int.reduceEq, Int.reduceLT, Int.reduceLE, Int.reduceAdd, Int.reduceSub, Int.reduceToNat, UInt8.reduceToNat]
  refine aloop_intro (σ := List Nat) (fun ids => [(6, .sl (a.map encN) .unk), (7, .sl (b.map encN) .unk), (8, .ms T 0 (a.length + 1) 1), (28, .int .i64 ((a.length + 1 : Nat) : Int)), (29, .int .i64 ids.length)])
    (fun ids G => TabG H G T ids (a.length + 1) (b.length + 1) (fun _ _ => 0)) (fun ids => a.length + 1 - ids.length) [] ?_ ?_ ?_
  · simp -implicitDefEqProofs only [go_sem, tys, regs0, Nat.reduceEqDiff, Nat.reduceAdd, Nat.reduceLeDiff, Nat.reduceLT, Nat.reduceMul, Int.natCast_one, Int.natCast_zero, Int.reduceEq, Int.reduceLT, Int.reduceLE, Int.reduceAdd, Int.reduceSub, Int.reduceToNat, UInt8.reduceToNat]
  · exact hT0
  · clear hT0 hT hS0
    intro ids r G hv hT
    have h6 := hv.1
    have h7 := hv.2.1
    have h8 := hv.2.2.1
    have h28 := hv.2.2.2.1
    have h29 := hv.2.2.2.2.1
    clear hv
    simp -implicitDefEqProofs only [go_sem, tys, regs0, Nat.reduceEqDiff, Nat.reduceAdd, Nat.reduceLeDiff, Nat.reduceLT, Nat.reduceMul, Int.natCast_one, Int.natCast_zero, Int.reduceEq, Int.reduceLT, Int.reduceLE, Int.reduceAdd, Int.reduceSub, Int.reduceToNat, UInt8.reduceToNat, h6, h7, h8, h28, h29]
    refine cnd_intro (fun g => ?_) (fun g => ?_)
    · simp only [decide_eq_true_eq] at g
      have hlt : ids.length < a.length + 1 := by omega
      have w : IntKind.i64.wrap ((ids.length : Int) + 1) = ((ids.length + 1 : Nat) : Int) := by rw [Go.IntWalk.i64_in _ (by omega)]; omega
      simp -implicitDefEqProofs only [go_sem, tys, regs0, Nat.reduceEqDiff, Nat.reduceAdd, Nat.reduceLeDiff, Nat.reduceLT, Nat.reduceMul, Int.natCast_one, Int.natCast_zero, Int.reduceEq, Int.reduceLT, Int.reduceLE, Int.reduceAdd, Int.reduceSub, Int.reduceToNat, UInt8.reduceToNat, h6, h7, h8, h28, h29, wb]
      with_reducible refine makeSlice_ms (e := tiI64) ?_ ?_ ?_ ?_ ?_ ?_
      · simp -implicitDefEqProofs only [go_sem, tys, regs0, Nat.reduceEqDiff, Nat.reduceAdd, Nat.reduceLeDiff, Nat.reduceLT, Nat.reduceMul, Int.natCast_one, Int.natCast_zero, Int.reduceEq, Int.reduceLT, Int.reduceLE, Int.reduceAdd, Int.reduceSub, Int.reduceToNat, UInt8.reduceToNat]
      · decide
      · omega
      · simp only []; omega
      · omega
      intro d hd
      have hdT : ¬ T = d := fun e => by subst e; rw [hT.tab] at hd; cases hd
      have hz2 : (List.replicate ((b.length + 1 : Nat) : Int).toNat (tiI64.zero.cells)).flatten = rowC (b.length + 1) (fun _ => 0) := by
        rw [Int.toNat_natCast]; exact rowC_zero _
      have hadd := hT.add hlt hd
      have hset := fillL_set (z := AV.sl [] .exact) (done := ids.map fun d => AV.ms d 0 (b.length + 1) 1) (n := a.length + 1) (by simpa using hlt) (.ms d 0 (b.length + 1) 1)
      rw [List.length_map] at hset
      have hfl := fillL_len (z := AV.sl [] .exact) (done := ids.map fun d => AV.ms d 0 (b.length + 1) 1) (n := a.length + 1) (by simp; omega)
      have e2 : ids.map (fun d => AV.ms d 0 (b.length + 1) 1) ++ [AV.ms d 0 (b.length + 1) 1] = (ids ++ [d]).map fun d => AV.ms d 0 (b.length + 1) 1 := by simp
      rw [e2] at hset
      rw [hz2, Int.toNat_natCast]
      have htab := hT.tab
      simp -implicitDefEqProofs (disch := omega) only [go_sem, tys, regs0, Nat.reduceEqDiff, Nat.reduceAdd, Nat.reduceLeDiff, Nat.reduceLT, Nat.reduceMul, Int.natCast_one, Int.natCast_zero, Int.reduceEq, Int.reduceLT, Int.reduceLE, Int.reduceAdd, Int.reduceSub, Int.reduceToNat, UInt8.reduceToNat, Go.IntWalk.i64_in, h6, h7, h8, h28, h29, put_ne, hdT, htab, Int.toNat_natCast, Nat.mul_one, Nat.zero_add, hset, hfl, w]
      refine ⟨by omega, by omega, ?_⟩
      exact Again.mk (ids ++ [d]) (by simp -implicitDefEqProofs only [go_sem, tys, regs0, Nat.reduceEqDiff, Nat.reduceAdd, Nat.reduceLeDiff, Nat.reduceLT, Nat.reduceMul, Int.natCast_one, Int.natCast_zero, Int.reduceEq, Int.reduceLT, Int.reduceLE, Int.reduceAdd, Int.reduceSub, Int.reduceToNat, UInt8.reduceToNat, h6, h7, h8, h28, h29]; simp) hadd (by simp; omega)
    · simp only [decide_eq_false_iff_not] at g
      have hle := hT.le
      have hlen : ids.length = a.length + 1 := by omega
      simp -implicitDefEqProofs only [go_sem, tys, regs0, Nat.reduceEqDiff, Nat.reduceAdd, Nat.reduceLeDiff, Nat.reduceLT, Nat.reduceMul, Int.natCast_one, Int.natCast_zero, Int.reduceEq, Int.reduceLT, Int.reduceLE, Int.reduceAdd, Int.reduceSub, Int.reduceToNat, UInt8.reduceToNat, h6, h7, h8, wa1]
      refine aloop_intro (σ := Nat) (fun p => [(6, .sl (a.map encN) .unk), (7, .sl (b.map encN) .unk), (8, .ms T 0 (a.length + 1) 1), (10, .int .i64 ((p : Int) - 1))])
        (fun p G => TabG H G T ids (a.length + 1) (b.length + 1) (cT a b p (b.length + 1)) ∧ p ≤ a.length) (fun p => p) a.length ?_ ?_ ?_
      · simp -implicitDefEqProofs only [go_sem, tys, regs0, Nat.reduceEqDiff, Nat.reduceAdd, Nat.reduceLeDiff, Nat.reduceLT, Nat.reduceMul, Int.natCast_one, Int.natCast_zero, Int.reduceEq, Int.reduceLT, Int.reduceLE, Int.reduceAdd, Int.reduceSub, Int.reduceToNat, UInt8.reduceToNat, h6, h7, h8]
      · refine ⟨hT.congr fun i k hi hk => ?_, Nat.le_refl _⟩
        unfold cT
        split
        · have e1 : a.drop i = [] ∨ b.drop k = [] := by
            by_cases h : a.length ≤ i
            · exact .inl (List.drop_eq_nil_of_le h)
            · exact .inr (List.drop_eq_nil_of_le (by omega))
          rcases e1 with e1 | e1
          · rw [e1, lcs_nil]
          · rw [e1, lcs_nil']
        · rfl
      · clear hT h6 h7 h8 h28 h29
        rintro p r G hv ⟨hT, hp⟩
        have h6 := hv.1
        have h7 := hv.2.1
        have h8 := hv.2.2.1
        have h10 := hv.2.2.2.1
        clear hv
        simp -implicitDefEqProofs only [go_sem, tys, regs0, Nat.reduceEqDiff, Nat.reduceAdd, Nat.reduceLeDiff, Nat.reduceLT, Nat.reduceMul, Int.natCast_one, Int.natCast_zero, Int.reduceEq, Int.reduceLT, Int.reduceLE, Int.reduceAdd, Int.reduceSub, Int.reduceToNat, UInt8.reduceToNat, h6, h7, h8, h10]
        refine cnd_intro (fun g => ?_) (fun g => ?_)
        · simp only [decide_eq_true_eq] at g
          obtain ⟨i, rfl⟩ : ∃ i, p = i + 1 := ⟨p - 1, by omega⟩
          have e0 : (((i + 1 : Nat) : Int) - 1) = (i : Int) := by omega
          rw [e0] at h10
          obtain ⟨xi, hxi⟩ : ∃ c, a[i]? = some c := getD_get' (by omega)
          have wi : IntKind.i64.wrap ((i : Int) + 1) = ((i + 1 : Nat) : Int) := by rw [Go.IntWalk.i64_in _ (by omega)]; omega
          have wi1 : IntKind.i64.wrap ((i : Int) - 1) = (i : Int) - 1 := Go.IntWalk.i64_in _ (by omega)
          simp -implicitDefEqProofs only [go_sem, tys, regs0, Nat.reduceEqDiff, Nat.reduceAdd, Nat.reduceLeDiff, Nat.reduceLT, Nat.reduceMul, Int.natCast_one, Int.natCast_zero, Int.reduceEq, Int.reduceLT, Int.reduceLE, Int.reduceAdd, Int.reduceSub, Int.reduceToNat, UInt8.reduceToNat, h6, h7, h8, h10, wb1]
          refine aloop_intro (σ := Nat) (fun q => [(6, .sl (a.map encN) .unk), (7, .sl (b.map encN) .unk), (8, .ms T 0 (a.length + 1) 1), (10, .int .i64 (i : Int)), (11, .int .i64 ((q : Int) - 1))])
            (fun q G => TabG H G T ids (a.length + 1) (b.length + 1) (cT a b (i + 1) q) ∧ q ≤ b.length) (fun q => q) b.length ?_ ?_ ?_
          · simp -implicitDefEqProofs only [go_sem, tys, regs0, Nat.reduceEqDiff, Nat.reduceAdd, Nat.reduceLeDiff, Nat.reduceLT, Nat.reduceMul, Int.natCast_one, Int.natCast_zero, Int.reduceEq, Int.reduceLT, Int.reduceLE, Int.reduceAdd, Int.reduceSub, Int.reduceToNat, UInt8.reduceToNat, h6, h7, h8, h10]
          · refine ⟨hT.congr fun i' k hi hk => ?_, Nat.le_refl _⟩
            unfold cT
            by_cases e : i' + 1 = i + 1 ∧ k = b.length
            · rw [if_neg (by omega), if_pos (by omega), e.2, List.drop_length, lcs_nil']
            · by_cases e1 : i + 1 ≤ i' ∨ i' + 1 = i + 1 ∧ b.length ≤ k
              · rw [if_pos e1, if_pos (by omega)]
              · rw [if_neg e1, if_neg (by omega)]
          · clear hT h6 h7 h8 h10
            rintro q r G hv ⟨hT, hq⟩
            have h6 := hv.1
            have h7 := hv.2.1
            have h8 := hv.2.2.1
            have h10 := hv.2.2.2.1
            have h11 := hv.2.2.2.2.1
            clear hv
            simp -implicitDefEqProofs only [go_sem, tys, regs0, Nat.reduceEqDiff, Nat.reduceAdd, Nat.reduceLeDiff, Nat.reduceLT, Nat.reduceMul, Int.natCast_one, Int.natCast_zero, Int.reduceEq, Int.reduceLT, Int.reduceLE, Int.reduceAdd, Int.reduceSub, Int.reduceToNat, UInt8.reduceToNat, h6, h7, h8, h10, h11]
            refine cnd_intro (fun g2 => ?_) (fun g2 => ?_)
            · simp only [decide_eq_true_eq] at g2
              obtain ⟨k, rfl⟩ : ∃ k, q = k + 1 := ⟨q - 1, by omega⟩
              have e1 : (((k + 1 : Nat) : Int) - 1) = (k : Int) := by omega
              rw [e1] at h11
              obtain ⟨yk, hyk⟩ : ∃ c, b[k]? = some c := getD_get' (by omega)
              have wk1 : IntKind.i64.wrap ((k : Int) + 1) = ((k + 1 : Nat) : Int) := by rw [Go.IntWalk.i64_in _ (by omega)]; omega
              have wk2 : IntKind.i64.wrap ((k : Int) - 1) = (k : Int) - 1 := Go.IntWalk.i64_in _ (by omega)
              have c1 : cT a b (i + 1) (k + 1) (i + 1) k = lcs (a.drop (i + 1)) (b.drop k) := cT_lcs (by omega)
              have c2 : cT a b (i + 1) (k + 1) i (k + 1) = lcs (a.drop i) (b.drop (k + 1)) := cT_lcs (by omega)
              have c3 : cT a b (i + 1) (k + 1) (i + 1) (k + 1) = lcs (a.drop (i + 1)) (b.drop (k + 1)) := cT_lcs (by omega)
              have hone := cT_one hxi hyk
              have hst := cT_step a b i k
              have hlc := (lcs_le (a.drop (i + 1)) (b.drop (k + 1))).2
              rw [List.length_drop] at hlc
              have htab := hT.tab
              obtain ⟨d, hd, hdh, hdG⟩ := hT.at hlen (i := i) (by omega)
              obtain ⟨d', hd', hdh', hdG'⟩ := hT.at hlen (i := i + 1) (by omega)
              have hne : ¬ d' = d := fun e => by
                subst e
                have := (List.getElem?_inj (List.getElem?_eq_some_iff.1 hd').1 hT.nd).1 (hd'.trans hd.symm)
                omega
              generalize cT a b (i + 1) (k + 1) = c at *
              have r1 := rowC_head (w := b.length + 1) (c := c (i + 1)) (k := k) (by omega)
              have r2 := rowC_head (w := b.length + 1) (c := c i) (k := k + 1) (by omega)
              have r3 := rowC_head (w := b.length + 1) (c := c (i + 1)) (k := k + 1) (by omega)
              have hT1 := hT.set (k := k) (v := max (c (i + 1) k) (c i (k + 1))) hd
              have m1 : max ((c (i + 1) k : Nat) : Int) ((c i (k + 1) : Nat) : Int) = ((max (c (i + 1) k) (c i (k + 1)) : Nat) : Int) := by omega
              have hdT : ¬ T = d := fun e => (hT.row i d hd).2.1 e.symm
              have l1 : (i : Int) < ((a.length + 1 : Nat) : Int) := by omega
              have l2 : ((i + 1 : Nat) : Int) < ((a.length + 1 : Nat) : Int) := by omega
              have l3 : (k : Int) < ((b.length + 1 : Nat) : Int) := by omega
              have l4 : ((k + 1 : Nat) : Int) < ((b.length + 1 : Nat) : Int) := by omega
              have l5 : k + 1 ≤ b.length + 1 := by omega
              simp -implicitDefEqProofs only [go_sem, tys, regs0, Nat.reduceEqDiff, Nat.reduceAdd, Nat.reduceLeDiff, Nat.reduceLT, Nat.reduceMul, Int.natCast_one, Int.natCast_zero, Int.reduceEq, Int.reduceLT, Int.reduceLE, Int.reduceAdd, Int.reduceSub, Int.reduceToNat, UInt8.reduceToNat, h6, h7, h8, h10, h11, htab, wi, wk1, hdh, hdh', hdG, hdG', r1, r2, m1, rowC_set, Int.toNat_natCast, Nat.mul_one, Nat.zero_add, l1, l2, l3, l4, rowC_len, l5, hxi, hyk, encN]
              generalize G.put d (.cells (rowC (b.length + 1) (fun j => if j = k then max (c (i + 1) k) (c i (k + 1)) else c i j))) = G1 at *
              have htab1 := hT1.tab
              have hdG1 := (hT1.row i d hd).2.2
              have hdG1' := (hT1.row (i + 1) d' hd').2.2
              have r4 := rowC_head (w := b.length + 1) (c := fun k' => if i = i ∧ k' = k then max (c (i + 1) k) (c i (k + 1)) else c i k') (k := k) (by omega)
              have r5 := rowC_head (w := b.length + 1) (c := fun k' => if i + 1 = i ∧ k' = k then max (c (i + 1) k) (c i (k + 1)) else c (i + 1) k') (k := k + 1) (by omega)
              have n1 : ¬ i + 1 = i := by omega
              have n2 : ¬ k + 1 = k := by omega
              simp only [n1, n2, false_and, and_false, true_and, if_true, if_false] at r4 r5 hdG1 hdG1'
              by_cases exy : xi = yk
              · have y1 : decide ((xi : Int) = (yk : Int)) = true := decide_eq_true (by omega)
                rw [if_pos exy] at hone
                have wc : IntKind.i64.wrap (1 + ((c (i + 1) (k + 1) : Nat) : Int)) = ((1 + c (i + 1) (k + 1) : Nat) : Int) := by rw [Go.IntWalk.i64_in _ (by omega)]; omega
                have m2 : max ((max (c (i + 1) k) (c i (k + 1)) : Nat) : Int) ((1 + c (i + 1) (k + 1) : Nat) : Int) = ((max (max (c (i + 1) k) (c i (k + 1))) (1 + c (i + 1) (k + 1)) : Nat) : Int) := by omega
                have hT2 := hT1.set (k := k) (v := max (max (c (i + 1) k) (c i (k + 1))) (1 + c (i + 1) (k + 1))) hd
                simp only [true_and] at hT2
                simp -implicitDefEqProofs only [go_sem, tys, regs0, Nat.reduceEqDiff, Nat.reduceAdd, Nat.reduceLeDiff, Nat.reduceLT, Nat.reduceMul, Int.natCast_one, Int.natCast_zero, Int.reduceEq, Int.reduceLT, Int.reduceLE, Int.reduceAdd, Int.reduceSub, Int.reduceToNat, UInt8.reduceToNat, h6, h7, h8, h10, h11, y1, htab1, wi, wk1, wk2, wc, hdh, hdh', hdG1, hdG1', r4, r5, m2, rowC_set, Int.toNat_natCast, Nat.mul_one, Nat.zero_add, l1, l2, l3, l4, rowC_len, l5, n2]
                refine Again.mk k (by simp -implicitDefEqProofs only [go_sem, tys, regs0, Nat.reduceEqDiff, Nat.reduceAdd, Nat.reduceLeDiff, Nat.reduceLT, Nat.reduceMul, Int.natCast_one, Int.natCast_zero, Int.reduceEq, Int.reduceLT, Int.reduceLE, Int.reduceAdd, Int.reduceSub, Int.reduceToNat, UInt8.reduceToNat, h6, h7, h8, h10, h11]) ⟨hT2.congr fun i' k' hi' hk' => ?_, by omega⟩ (by omega)
                rw [← hst i' k', hone, c1, c2, c3]
                by_cases e2 : i' = i ∧ k' = k
                · rw [if_pos e2, if_pos e2]
                · rw [if_neg e2, if_neg e2, if_neg e2]
              · have y1 : decide ((xi : Int) = (yk : Int)) = false := decide_eq_false (by omega)
                rw [if_neg exy] at hone
                simp -implicitDefEqProofs only [go_sem, tys, regs0, Nat.reduceEqDiff, Nat.reduceAdd, Nat.reduceLeDiff, Nat.reduceLT, Nat.reduceMul, Int.natCast_one, Int.natCast_zero, Int.reduceEq, Int.reduceLT, Int.reduceLE, Int.reduceAdd, Int.reduceSub, Int.reduceToNat, UInt8.reduceToNat, h6, h7, h8, h10, h11, y1, wk2]
                refine Again.mk k (by simp -implicitDefEqProofs only [go_sem, tys, regs0, Nat.reduceEqDiff, Nat.reduceAdd, Nat.reduceLeDiff, Nat.reduceLT, Nat.reduceMul, Int.natCast_one, Int.natCast_zero, Int.reduceEq, Int.reduceLT, Int.reduceLE, Int.reduceAdd, Int.reduceSub, Int.reduceToNat, UInt8.reduceToNat, h6, h7, h8, h10, h11]) ⟨hT1.congr fun i' k' hi' hk' => ?_, by omega⟩ (by omega)
                rw [← hst i' k', hone, c1, c2]
            · simp only [decide_eq_false_iff_not] at g2
              have e : q = 0 := by omega
              subst e
              simp -implicitDefEqProofs only [go_sem, tys, regs0, Nat.reduceEqDiff, Nat.reduceAdd, Nat.reduceLeDiff, Nat.reduceLT, Nat.reduceMul, Int.natCast_one, Int.natCast_zero, Int.reduceEq, Int.reduceLT, Int.reduceLE, Int.reduceAdd, Int.reduceSub, Int.reduceToNat, UInt8.reduceToNat, h6, h7, h8, h10, h11, wi1]
              refine Again.mk i (by simp -implicitDefEqProofs only [go_sem, tys, regs0, Nat.reduceEqDiff, Nat.reduceAdd, Nat.reduceLeDiff, Nat.reduceLT, Nat.reduceMul, Int.natCast_one, Int.natCast_zero, Int.reduceEq, Int.reduceLT, Int.reduceLE, Int.reduceAdd, Int.reduceSub, Int.reduceToNat, UInt8.reduceToNat, h6, h7, h8, h10, h11]) ⟨hT.congr fun i' k' hi' hk' => ?_, by omega⟩ (by omega)
              unfold cT
              by_cases e1 : i + 1 ≤ i' ∨ i' + 1 = i + 1 ∧ 0 ≤ k'
              · rw [if_pos e1, if_pos (by omega)]
              · rw [if_neg e1, if_neg (by omega)]
        · simp only [decide_eq_false_iff_not] at g
          have e : p = 0 := by omega
          subst e
          have hT := hT.congr (c' := fun i k => lcs (a.drop i) (b.drop k)) fun i k hi hk => by rw [cT_lcs (by omega)]
          have hA0 : AppOK H G 2 (([] : List (Nat × Nat)).map encP) .exact := AppOK.nil hT.sub
          simp -implicitDefEqProofs only [go_sem, tys, regs0, Nat.reduceEqDiff, Nat.reduceAdd, Nat.reduceLeDiff, Nat.reduceLT, Nat.reduceMul, Int.natCast_one, Int.natCast_zero, Int.reduceEq, Int.reduceLT, Int.reduceLE, Int.reduceAdd, Int.reduceSub, Int.reduceToNat, UInt8.reduceToNat, h6, h7, h8, h10]
          refine aloop_intro (σ := Nat × Nat × List (Nat × Nat) × Tail) (fun s => [(6, .sl (a.map encN) .unk), (7, .sl (b.map encN) .unk), (8, .ms T 0 (a.length + 1) 1), (12, .sl (s.2.2.1.map encP) s.2.2.2), (13, .int .i64 (s.2.1 : Int)), (14, .int .i64 (s.1 : Int))])
            (fun s G => AppOK H G 2 (s.2.2.1.map encP) s.2.2.2 ∧ TabG H G T ids (a.length + 1) (b.length + 1) (fun i k => lcs (a.drop i) (b.drop k)) ∧ s.1 ≤ a.length ∧ s.2.1 ≤ b.length ∧ s.2.2.1 ++ prs s.1 s.2.1 (a.drop s.1) (b.drop s.2.1) = prs 0 0 a b ∧ s.2.2.1.length ≤ s.1) (fun s => a.length - s.1) (0, 0, [], .exact) ?_ ?_ ?_
          · simp -implicitDefEqProofs only [go_sem, tys, regs0, Nat.reduceEqDiff, Nat.reduceAdd, Nat.reduceLeDiff, Nat.reduceLT, Nat.reduceMul, Int.natCast_one, Int.natCast_zero, Int.reduceEq, Int.reduceLT, Int.reduceLE, Int.reduceAdd, Int.reduceSub, Int.reduceToNat, UInt8.reduceToNat, h6, h7, h8]
          · exact ⟨hA0, hT, Nat.zero_le _, Nat.zero_le _, rfl, Nat.le_refl _⟩
          · clear hT hA0 h6 h7 h8 h10
            rintro ⟨i, k, out, tl⟩ r G hv ⟨hA, hT, hi, hk, hM, ho⟩
            have h6 := hv.1
            have h7 := hv.2.1
            have h8 := hv.2.2.1
            have h12 := hv.2.2.2.1
            have h13 := hv.2.2.2.2.1
            have h14 := hv.2.2.2.2.2.1
            clear hv
            simp only at h6 h7 h8 h12 h13 h14 hA hT hi hk hM ho
            simp -implicitDefEqProofs only [go_sem, tys, regs0, Nat.reduceEqDiff, Nat.reduceAdd, Nat.reduceLeDiff, Nat.reduceLT, Nat.reduceMul, Int.natCast_one, Int.natCast_zero, Int.reduceEq, Int.reduceLT, Int.reduceLE, Int.reduceAdd, Int.reduceSub, Int.reduceToNat, UInt8.reduceToNat, h6, h7, h8, h12, h13, h14]
            refine cnd_intro (fun g3 => ?_) (fun g3 => ?_)
            · simp only [decide_eq_true_eq] at g3
              obtain ⟨xi, hxi⟩ : ∃ c, a[i]? = some c := getD_get' (by omega)
              have hda := drop_get hxi
              have hsl : ((b.map encN).take b.length).drop k = (b.drop k).map encN := by rw [List.take_of_length_le (by simp), List.map_drop]
              have hidx := fun t => sIdxN_eq (b.drop k) xi t (by rw [List.length_drop]; omega)
              have wi : IntKind.i64.wrap ((i : Int) + 1) = ((i + 1 : Nat) : Int) := by rw [Go.IntWalk.i64_in _ (by omega)]; omega
              have l0 : (k : Int) ≤ b.length := by omega
              cases hx : idx xi (b.drop k) with
              | none =>
                rw [hx] at hidx
                rw [hda, prs_none hx] at hM
                have y1 : decide ((-1 : Int) < 0) = true := by decide
                simp -implicitDefEqProofs only [go_sem, tys, regs0, Nat.reduceEqDiff, Nat.reduceAdd, Nat.reduceLeDiff, Nat.reduceLT, Nat.reduceMul, Int.natCast_one, Int.natCast_zero, Int.reduceEq, Int.reduceLT, Int.reduceLE, Int.reduceAdd, Int.reduceSub, Int.reduceToNat, UInt8.reduceToNat, h6, h7, h8, h12, h13, h14, Int.toNat_natCast, hsl, l0, hxi, encN, encN_unif, puN1, hidx, idxI, y1, wi, Int.le_refl]
                exact Again.mk (i + 1, k, out, tl) (by simp -implicitDefEqProofs only [go_sem, tys, regs0, Nat.reduceEqDiff, Nat.reduceAdd, Nat.reduceLeDiff, Nat.reduceLT, Nat.reduceMul, Int.natCast_one, Int.natCast_zero, Int.reduceEq, Int.reduceLT, Int.reduceLE, Int.reduceAdd, Int.reduceSub, Int.reduceToNat, UInt8.reduceToNat, h6, h7, h8, h12, h13, h14]) ⟨hA, hT, by simp only; omega, hk, hM, by simp only; omega⟩ (by simp only; omega)
              | some n =>
                have hn := idx_lt hx
                rw [List.length_drop] at hn
                rw [hx] at hidx
                have htab := hT.tab
                obtain ⟨d, hd, hdh, hdG⟩ := hT.at hlen (i := i) (by omega)
                obtain ⟨d', hd', hdh', hdG'⟩ := hT.at hlen (i := i + 1) (by omega)
                have r1 := rowC_head (w := b.length + 1) (c := fun k => lcs (a.drop (i + 1)) (b.drop k)) (k := k + n + 1) (by omega)
                have r2 := rowC_head (w := b.length + 1) (c := fun k => lcs (a.drop i) (b.drop k)) (k := k) (by omega)
                try simp only at r1 r2
                have hlc := (lcs_le (a.drop (i + 1)) (b.drop (k + n + 1))).2
                rw [List.length_drop] at hlc
                have y1 : decide ((n : Int) < 0) = false := by simp
                have w1 : IntKind.i64.wrap ((k : Int) + n) = ((k + n : Nat) : Int) := by rw [Go.IntWalk.i64_in _ (by omega)]; omega
                have w2 : IntKind.i64.wrap (((k + n : Nat) : Int) + 1) = ((k + n + 1 : Nat) : Int) := by rw [Go.IntWalk.i64_in _ (by omega)]; omega
                have w3 : IntKind.i64.wrap ((n : Int) + 1) = ((n + 1 : Nat) : Int) := by rw [Go.IntWalk.i64_in _ (by omega)]; omega
                have w4 : IntKind.i64.wrap ((k : Int) + ((n + 1 : Nat) : Int)) = ((k + n + 1 : Nat) : Int) := by rw [Go.IntWalk.i64_in _ (by omega)]; omega
                have wc : IntKind.i64.wrap (1 + ((lcs (a.drop (i + 1)) (b.drop (k + n + 1)) : Nat) : Int)) = ((1 + lcs (a.drop (i + 1)) (b.drop (k + n + 1)) : Nat) : Int) := by rw [Go.IntWalk.i64_in _ (by omega)]; omega
                have l1 : (i : Int) < ((a.length + 1 : Nat) : Int) := by omega
                have l2 : ((i + 1 : Nat) : Int) < ((a.length + 1 : Nat) : Int) := by omega
                have l3 : (k : Int) < ((b.length + 1 : Nat) : Int) := by omega
                have l4 : ((k + n + 1 : Nat) : Int) < ((b.length + 1 : Nat) : Int) := by omega
                have hdd : (b.drop k).drop (n + 1) = b.drop (k + n + 1) := by rw [List.drop_drop]; rfl
                by_cases hc : 1 + lcs (a.drop (i + 1)) (b.drop (k + n + 1)) = lcs (a.drop i) (b.drop k)
                · have y2 : decide (¬ ((1 + lcs (a.drop (i + 1)) (b.drop (k + n + 1)) : Nat) : Int) = ((lcs (a.drop i) (b.drop k) : Nat) : Int)) = false := decide_eq_false (by omega)
                  have hM2 := hM
                  rw [hda, prs_take hx (by rw [hdd, ← hda]; exact hc), hdd] at hM2
                  simp -implicitDefEqProofs only [go_sem, tys, regs0, Nat.reduceEqDiff, Nat.reduceAdd, Nat.reduceLeDiff, Nat.reduceLT, Nat.reduceMul, Int.natCast_one, Int.natCast_zero, Int.reduceEq, Int.reduceLT, Int.reduceLE, Int.reduceAdd, Int.reduceSub, Int.reduceToNat, UInt8.reduceToNat, h6, h7, h8, h12, h13, h14, Int.toNat_natCast, hsl, l0, hxi, encN, encN_unif, puN1, hidx, idxI, y1, wi, Int.le_refl, htab, hdh, hdh', hdG, hdG', r1, r2, w1, w2, wc, l1, l2, l3, l4, Nat.mul_one, Nat.zero_add, y2]
                  refine AppOK.step hA (encP_unif out) (by simp) (by simp; omega) (by simp; omega) (fun tl2 G2 hA2 hK2 => ?_)
                  have e2 : out.map encP ++ [[AV.int .i64 (i : Int), .int .i64 ((k + n : Nat) : Int)]] = (out ++ [(i, k + n)]).map encP := by rw [List.map_append]; rfl
                  rw [e2] at hA2 ⊢
                  simp -implicitDefEqProofs only [go_sem, tys, regs0, Nat.reduceEqDiff, Nat.reduceAdd, Nat.reduceLeDiff, Nat.reduceLT, Nat.reduceMul, Int.natCast_one, Int.natCast_zero, Int.reduceEq, Int.reduceLT, Int.reduceLE, Int.reduceAdd, Int.reduceSub, Int.reduceToNat, UInt8.reduceToNat, h6, h7, h8, h12, h13, h14, w3, w4, wi]
                  exact Again.mk (i + 1, k + n + 1, out ++ [(i, k + n)], tl2) (by simp -implicitDefEqProofs only [go_sem, tys, regs0, Nat.reduceEqDiff, Nat.reduceAdd, Nat.reduceLeDiff, Nat.reduceLT, Nat.reduceMul, Int.natCast_one, Int.natCast_zero, Int.reduceEq, Int.reduceLT, Int.reduceLE, Int.reduceAdd, Int.reduceSub, Int.reduceToNat, UInt8.reduceToNat, h6, h7, h8, h12, h13, h14]) ⟨hA2, hT.kept hA2.sub hK2, by simp only; omega, by simp only; omega, by simp only; rw [← hM2]; simp, by simp; omega⟩ (by simp only; omega)
                · have y2 : decide (¬ ((1 + lcs (a.drop (i + 1)) (b.drop (k + n + 1)) : Nat) : Int) = ((lcs (a.drop i) (b.drop k) : Nat) : Int)) = true := decide_eq_true (by omega)
                  have hM2 := hM
                  rw [hda, prs_skip hx (by rw [hdd, ← hda]; exact hc)] at hM2
                  simp -implicitDefEqProofs only [go_sem, tys, regs0, Nat.reduceEqDiff, Nat.reduceAdd, Nat.reduceLeDiff, Nat.reduceLT, Nat.reduceMul, Int.natCast_one, Int.natCast_zero, Int.reduceEq, Int.reduceLT, Int.reduceLE, Int.reduceAdd, Int.reduceSub, Int.reduceToNat, UInt8.reduceToNat, h6, h7, h8, h12, h13, h14, Int.toNat_natCast, hsl, l0, hxi, encN, encN_unif, puN1, hidx, idxI, y1, wi, Int.le_refl, htab, hdh, hdh', hdG, hdG', r1, r2, w1, w2, wc, l1, l2, l3, l4, Nat.mul_one, Nat.zero_add, y2]
                  exact Again.mk (i + 1, k, out, tl) (by simp -implicitDefEqProofs only [go_sem, tys, regs0, Nat.reduceEqDiff, Nat.reduceAdd, Nat.reduceLeDiff, Nat.reduceLT, Nat.reduceMul, Int.natCast_one, Int.natCast_zero, Int.reduceEq, Int.reduceLT, Int.reduceLE, Int.reduceAdd, Int.reduceSub, Int.reduceToNat, UInt8.reduceToNat, h6, h7, h8, h12, h13, h14]) ⟨hA, hT, by simp only; omega, hk, hM2, by simp only; omega⟩ (by simp only; omega)
            · simp only [decide_eq_false_iff_not] at g3
              have e : i = a.length := by omega
              subst e
              rw [List.drop_length, prs, List.append_nil] at hM
              subst hM
              simp -implicitDefEqProofs only [go_sem, tys, regs0, Nat.reduceEqDiff, Nat.reduceAdd, Nat.reduceLeDiff, Nat.reduceLT, Nat.reduceMul, Int.natCast_one, Int.natCast_zero, Int.reduceEq, Int.reduceLT, Int.reduceLE, Int.reduceAdd, Int.reduceSub, Int.reduceToNat, UInt8.reduceToNat, h6, h7, h8, h12]
              refine Done.wk 1 (Done.drop hA.sub ⟨?_, rfl⟩)
              rfl
end Go.Proofs
