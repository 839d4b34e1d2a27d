/- Walks: the lines that are the same, on the program's side; small things of the reference. -/
import Derived.Test.YtnheonhmnepifaaDoorLN4
namespace Go.Proofs
open Go Go.Abs
set_option linter.unusedSimpArgs false
set_option linter.unusedVariables false
set_option maxRecDepth 20000
theorem decS_enc' (s : Bytes) : decS (encS s) = some s := rfl
def sCommon : List AV → Option AV := fn2 (Rd.list decS) (Rd.list decS) fun x y => if x.length ≤ 1000 ∧ y.length ≤ 1000 then some (.sl ((prs 0 0 x y).map encP) .unk) else none
theorem sCommon_eq (x y : List Bytes) (t t' : Tail) (hx : x.length ≤ 1000) (hy : y.length ≤ 1000) : sCommon [.sl (x.map encS) t, .sl (y.map encS) t'] = some (.sl ((prs 0 0 x y).map encP) .unk) := by
  unfold sCommon
  rw [fn2_eq, Rd.list_eq decS_enc', Rd.list_eq decS_enc']
  simp only [Option.bind_some, if_pos (And.intro hx hy)]
theorem sCommon_ok {P : Program} {f : FuncId} (h : ∀ (x y : List Bytes) t t' H, x.length ≤ 1000 → y.length ≤ 1000 → ACalls P f [.sl (x.map encS) t, .sl (y.map encS) t'] H fun v H' => v = .sl ((prs 0 0 x y).map encP) .unk ∧ H' = H) : ∀ xs v, sCommon xs = some v → ∀ H, ACalls P f xs H fun x H' => x = v ∧ H' = H := by
  intro xs v hv H
  obtain ⟨x, y, p, q, rfl, h1, h2, h3⟩ := fn2_some hv
  obtain ⟨t, rfl⟩ := Rd.list_some (fun _ _ => decS_some) h1
  obtain ⟨t', rfl⟩ := Rd.list_some (fun _ _ => decS_some) h2
  obtain ⟨h4, rfl⟩ := some_if h3
  exact h p q t t' H h4.1 h4.2
def faultV (s : Bytes) : Int := if 65536 < s.length ∨ 1000 < (linesV s).length then 4 else 0
theorem linesE_fault (a b : Bytes) : linesE a b = if ¬ faultV a = 0 then faultV a else faultV b := by
  unfold linesE faultV
  by_cases h1 : 65536 < a.length ∨ 1000 < (linesV a).length
  · rw [if_pos (by omega), if_pos h1]; simp
  · rw [if_neg h1]
    by_cases h2 : 65536 < b.length ∨ 1000 < (linesV b).length
    · rw [if_pos (by omega), if_pos h2]; simp
    · rw [if_neg (by omega), if_neg h2]; simp
theorem faultV_ok {s : Bytes} (h : faultV s = 0) : s.length ≤ 65536 ∧ (linesV s).length ≤ 1000 := by
  unfold faultV at h
  split at h
  · cases h
  · omega
/-- The pairs that are told: none where something is wrong. -/
def toldV (a b : Bytes) : List (Nat × Nat) := if linesE a b = 0 then pairsV a b else []
def puL7 : Pures := putP 58 sCommon puL6
theorem puL7_ok : PuOK Tryd.prog puL7 := .put puL6_ok (sCommon_ok common_calls)
theorem linesD_calls (a b : Bytes) (H : Heap) (ha : a.length ≤ 1099511627776) (hb : b.length ≤ 1099511627776) : ACalls Tryd.prog 16 [.str a, .str b] H fun x H' => x = .tup [.sl ((toldV a b).map encP) .unk, .int .i64 (linesE a b)] ∧ H' = H := by
  have q1 := sLines_eq a ha
  have q2 := sLines_eq b hb
  have hE := linesE_fault a b
  refine ACalls.of_code (X := { pure := puL7 }) puL7_ok Tryd.func16 (by kernel_rfl) rfl (by kernel_rfl) (Nat.le_of_ble_eq_true rfl) ?_
  simp -implicitDefEqProofs only [go_sem, tys, regs0, Nat.reduceEqDiff, Nat.reduceAdd, Nat.reduceLeDiff, Nat.reduceLT, Nat.reduceMul, Int.natCast_one, Int.natCast_zero, Int.reduceEq, Int.reduceLT, Int.reduceLE, Int.reduceAdd, Int.reduceSub, Int.reduceToNat, UInt8.reduceToNat, Tryd.f16, puL7, puL6, q1, q2]
  refine (linesFault_calls a H ha).pure_next _ ?_
  have e1 : (if 65536 < a.length ∨ 1000 < (linesV a).length then (4 : Int) else 0) = faultV a := rfl
  have e2 : (if 65536 < b.length ∨ 1000 < (linesV b).length then (4 : Int) else 0) = faultV b := rfl
  rw [e1]
  by_cases c1 : ¬ faultV a = 0
  · have y1 : decide (¬ faultV a = 0) = true := decide_eq_true c1
    rw [if_pos c1] at hE
    have ht : toldV a b = [] := by unfold toldV; rw [if_neg (by rw [hE]; exact c1)]
    simp -implicitDefEqProofs only [go_sem, tys, regs0, Nat.reduceEqDiff, Nat.reduceAdd, Nat.reduceLeDiff, Nat.reduceLT, Nat.reduceMul, Int.natCast_one, Int.natCast_zero, Int.reduceEq, Int.reduceLT, Int.reduceLE, Int.reduceAdd, Int.reduceSub, Int.reduceToNat, UInt8.reduceToNat, y1]
    refine Done.wk 2 (Done.now ⟨?_, rfl⟩)
    rw [ht, hE]; rfl
  · have y1 : decide (¬ faultV a = 0) = false := decide_eq_false c1
    rw [if_neg c1] at hE
    simp -implicitDefEqProofs only [go_sem, tys, regs0, Nat.reduceEqDiff, Nat.reduceAdd, Nat.reduceLeDiff, Nat.reduceLT, Nat.reduceMul, Int.natCast_one, Int.natCast_zero, Int.reduceEq, Int.reduceLT, Int.reduceLE, Int.reduceAdd, Int.reduceSub, Int.reduceToNat, UInt8.reduceToNat, y1]
    refine (linesFault_calls b H hb).pure_next _ ?_
    rw [e2]
    by_cases c2 : ¬ faultV b = 0
    · have y2 : decide (¬ faultV b = 0) = true := decide_eq_true c2
      have ht : toldV a b = [] := by unfold toldV; rw [if_neg (by rw [hE]; exact c2)]
      simp -implicitDefEqProofs only [go_sem, tys, regs0, Nat.reduceEqDiff, Nat.reduceAdd, Nat.reduceLeDiff, Nat.reduceLT, Nat.reduceMul, Int.natCast_one, Int.natCast_zero, Int.reduceEq, Int.reduceLT, Int.reduceLE, Int.reduceAdd, Int.reduceSub, Int.reduceToNat, UInt8.reduceToNat, y2]
      refine Done.wk 2 (Done.now ⟨?_, rfl⟩)
      rw [ht, hE]; rfl
    · have y2 : decide (¬ faultV b = 0) = false := decide_eq_false c2
      have f1 := faultV_ok (Decidable.not_not.1 c1)
      have f2 := faultV_ok (Decidable.not_not.1 c2)
      have q3 := fun t t' => sCommon_eq (linesV a) (linesV b) t t' f1.2 f2.2
      have hE0 : linesE a b = 0 := by rw [hE]; exact Decidable.not_not.1 c2
      have ht : toldV a b = pairsV a b := by unfold toldV; rw [if_pos hE0]
      simp -implicitDefEqProofs only [go_sem, tys, regs0, Nat.reduceEqDiff, Nat.reduceAdd, Nat.reduceLeDiff, Nat.reduceLT, Nat.reduceMul, Int.natCast_one, Int.natCast_zero, Int.reduceEq, Int.reduceLT, Int.reduceLE, Int.reduceAdd, Int.reduceSub, Int.reduceToNat, UInt8.reduceToNat, y2, puL7, puL6, pu0, q3]
      refine Done.wk 2 (Done.now ⟨?_, rfl⟩)
      rw [ht, hE0]; rfl
def sTold : List AV → Option AV := fn2 .str .str fun a b => if a.length ≤ 1099511627776 ∧ b.length ≤ 1099511627776 then some (.tup [.sl ((toldV a b).map encP) .unk, .int .i64 (linesE a b)]) else none
def sLinesE : List AV → Option AV := fn2 .str .str fun a b => if a.length ≤ 1099511627776 ∧ b.length ≤ 1099511627776 then some (.int .i64 (linesE a b)) else none
theorem sTold_eq (a b : Bytes) (ha : a.length ≤ 1099511627776) (hb : b.length ≤ 1099511627776) : sTold [.str a, .str b] = some (.tup [.sl ((toldV a b).map encP) .unk, .int .i64 (linesE a b)]) := by
  unfold sTold
  rw [fn2_eq, Rd.str_eq, Rd.str_eq]
  simp only [Option.bind_some, if_pos (And.intro ha hb)]
theorem sLinesE_eq (a b : Bytes) (ha : a.length ≤ 1099511627776) (hb : b.length ≤ 1099511627776) : sLinesE [.str a, .str b] = some (.int .i64 (linesE a b)) := by
  unfold sLinesE
  rw [fn2_eq, Rd.str_eq, Rd.str_eq]
  simp only [Option.bind_some, if_pos (And.intro ha hb)]
theorem sTold_ok : ∀ xs v, sTold xs = some v → ∀ H, ACalls Tryd.prog 16 xs H fun x H' => x = v ∧ H' = H := by
  intro xs v hv H
  obtain ⟨x, y, p, q, rfl, h1, h2, h3⟩ := fn2_some hv
  cases Rd.str_some h1
  cases Rd.str_some h2
  obtain ⟨h4, rfl⟩ := some_if h3
  exact linesD_calls _ _ H h4.1 h4.2
theorem sLinesE_ok : ∀ xs v, sLinesE xs = some v → ∀ H, ACalls Tryd.prog 13 xs H fun x H' => x = v ∧ H' = H := by
  intro xs v hv H
  obtain ⟨x, y, p, q, rfl, h1, h2, h3⟩ := fn2_some hv
  cases Rd.str_some h1
  cases Rd.str_some h2
  obtain ⟨h4, rfl⟩ := some_if h3
  exact linesError_calls _ _ H h4.1 h4.2
/-! ### Small things of the reference -/
theorem aNil_sl (es : List (List AV)) (t : Tail) (neg : Bool) (H : Heap) (K : K1) : aNil (.sl es t) neg H K = ((es.flatten = [] → K (.bool (!neg)) H) ∧ K (.bool neg) H) := rfl
theorem flat_nil {α : Type} {enc : α → List AV} (he : ∀ a, enc a ≠ []) {l : List α} (h : (l.map enc).flatten = []) : l = [] := by
  cases l with
  | nil => rfl
  | cons a l => rw [List.map_cons, List.flatten_cons, List.append_eq_nil_iff] at h; exact absurd h.1 (he a)
theorem AppOK.clone {et : Option TypeId} {e : TI} {G : Heap} {new : List (List AV)} {K : K1} (hb : new.length * e.bytes ≤ 140737488355328) (hc : new.length ≤ 4611686018427387904) (hK : ∀ tl G', AppOK G G' e.size new tl → K (.sl new tl) G') : appK et false e (.sl [] .exact) new G K := by
  by_cases hn : new = []
  · subst hn
    exact ⟨fun _ => hK _ _ (AppOK.nil (Heap.Sub.rfl' G)), fun h => absurd rfl h⟩
  · have hA := AppOK.nil (k := e.size) (Heap.Sub.rfl' G)
    refine AppOK.step hA (by simp [Unif]) hn (by simpa using hb) (by simpa using hc) (fun tl G' h1 h2 => ?_)
    rw [List.nil_append] at h1 ⊢
    exact hK tl G' h1
theorem cloneN_calls (l : List Nat) (t : Tail) (G : Heap) (hl : l.length ≤ 1000000) {K : K1} (hK : ∀ tl G', AppOK G G' 1 (l.map encN) tl → K (.sl (l.map encN) tl) G') : ACalls Tryd.prog 54 [.sl (l.map encN) t] G K := by
  refine ACalls.mono (R := fun x G' => ∃ tl, x = .sl (l.map encN) tl ∧ AppOK G G' 1 (l.map encN) tl) ?_ (by rintro x G' ⟨tl, rfl, h⟩; exact hK tl G' h)
  refine ACalls.of_code (X := { pure := pu0 }) pu0_ok Tryd.func54 (by kernel_rfl) rfl (by kernel_rfl) (Nat.le_of_ble_eq_true rfl) ?_
  simp -implicitDefEqProofs only [go_sem, tys, regs0, Nat.reduceEqDiff, Nat.reduceAdd, Nat.reduceLeDiff, Nat.reduceLT, Nat.reduceMul, Int.natCast_one, Int.natCast_zero, Int.reduceEq, Int.reduceLT, Int.reduceLE, Int.reduceAdd, Int.reduceSub, Int.reduceToNat, UInt8.reduceToNat, Tryd.f54, aNil_sl]
  refine ⟨fun h => ?_, ?_⟩
  · obtain rfl := flat_nil (fun a => by simp [encN]) h
    exact Done.now ⟨.exact, rfl, AppOK.nil (Heap.Sub.rfl' G)⟩
  · refine ⟨fun a _ => rfl, ?_⟩
    refine AppOK.clone (by simp; omega) (by simp; omega) (fun tl G' h => ?_)
    simp -implicitDefEqProofs only [go_sem, tys, regs0, Nat.reduceEqDiff, Nat.reduceAdd, Nat.reduceLeDiff, Nat.reduceLT, Nat.reduceMul, Int.natCast_one, Int.natCast_zero, Int.reduceEq, Int.reduceLT, Int.reduceLE, Int.reduceAdd, Int.reduceSub, Int.reduceToNat, UInt8.reduceToNat]
    exact Done.now ⟨tl, rfl, h⟩
/-- Where the places of a list are met, one by one, in another one. -/
def gpos {α : Type} [DecidableEq α] (y : List α) : Nat → List α → Option Nat
  | j, [] => some j
  | j, a :: ws => match idx a (y.drop j) with
    | none => none
    | some n => gpos y (j + n + 1) ws
theorem gpos_append {α : Type} [DecidableEq α] {y : List α} {bs : List α} : ∀ {ws : List α} {j : Nat}, gpos y j (ws ++ bs) = (gpos y j ws).bind fun k => gpos y k bs
  | [], j => rfl
  | a :: ws, j => by
    rw [List.cons_append, gpos, gpos]
    cases idx a (y.drop j) with
    | none => rfl
    | some n => exact gpos_append
theorem gpos_one {α : Type} [DecidableEq α] {y : List α} {ws : List α} {a : α} {k : Nat} (h : gpos y 0 ws = some k) : gpos y 0 (ws ++ [a]) = match idx a (y.drop k) with
    | none => none
    | some n => some (k + n + 1) := by
  rw [gpos_append, h]
  simp only [Option.bind_some]
  rw [gpos]
  cases idx a (y.drop k) <;> rfl
theorem gpos_le {α : Type} [DecidableEq α] {y : List α} : ∀ {ws : List α} {j k : Nat}, j ≤ y.length → gpos y j ws = some k → k ≤ y.length
  | [], j, k, hj, h => by cases h; exact hj
  | a :: ws, j, k, hj, h => by
    rw [gpos] at h
    cases hi : idx a (y.drop j) with
    | none => rw [hi] at h; cases h
    | some n =>
      rw [hi] at h
      have := idx_lt hi
      rw [List.length_drop] at this
      exact gpos_le (by omega) h
def elems (x : List Bytes) (pl : List Nat) : List Bytes := pl.map fun i => x.getD i []
theorem elems_succ {x : List Bytes} {pl : List Nat} {t i : Nat} (h : pl[t]? = some i) : elems x (pl.take (t + 1)) = elems x (pl.take t) ++ [x.getD i []] := by
  unfold elems
  rw [List.take_add_one, h, List.map_append]; rfl
/-- Do the places fit, with so many pairs behind them? -/
def fitsV (x y : List Bytes) (pl : List Nat) (last : Nat) (left : Int) : Bool := match gpos y 0 (elems x pl) with
  | none => false
  | some j => decide (left ≤ (lcs (x.drop (last + 1)) (y.drop j) : Int))
set_option maxHeartbeats 3200000 in
theorem fits_calls {H G : Heap} {T : Nat} {ids : List Nat} (x y : List Bytes) (pl : List Nat) (last : Nat) (left : Int) (t1 t2 t3 : Tail) (hT : TabG H G T ids (x.length + 1) (y.length + 1) (fun i k => lcs (x.drop i) (y.drop k))) (hlen : ids.length = x.length + 1)
    (hx : x.length ≤ 1000) (hy : y.length ≤ 1000) (hp : pl.length ≤ 1000) (hm : ∀ i ∈ pl, i < x.length) (hl : pl.getLast? = some last) :
    ACalls Tryd.prog 53 [.sl (x.map encS) t1, .sl (y.map encS) t2, .sl (pl.map encN) t3, .int .i64 left, .ms T 0 (x.length + 1) 1] G fun v G' => v = .bool (fitsV x y pl last left) ∧ G' = G := by
  refine ACalls.of_code (X := { pure := pu0 }) pu0_ok Tryd.func53 (by kernel_rfl) rfl (by kernel_rfl) (Nat.le_of_ble_eq_true rfl) ?_
  simp -implicitDefEqProofs only [go_sem, tys, regs0, Nat.reduceEqDiff, Nat.reduceAdd, Nat.reduceLeDiff, Nat.reduceLT, Nat.reduceMul, Int.natCast_one, Int.natCast_zero, Int.reduceEq, Int.reduceLT, Int.reduceLE, Int.reduceAdd, Int.reduceSub, Int.reduceToNat, UInt8.reduceToNat, Tryd.f53]
  refine aloop_intro (σ := Nat × Nat) (fun s => [(0, .sl (x.map encS) t1), (1, .sl (y.map encS) t2), (2, .sl (pl.map encN) t3), (3, .int .i64 left), (4, .ms T 0 (x.length + 1) 1), (11, .int .i64 (s.2 : Int)), (14, .sl (pl.map encN) t3), (15, .int .i64 pl.length), (16, .int .i64 (s.1 : Int))])
    (fun s G' => G' = G ∧ s.1 ≤ pl.length ∧ gpos y 0 (elems x (pl.take s.1)) = some s.2) (fun s => pl.length - s.1) (0, 0) ?_ ?_ ?_
  · simp -implicitDefEqProofs only [go_sem, tys, regs0, Nat.reduceEqDiff, Nat.reduceAdd, Nat.reduceLeDiff, Nat.reduceLT, Nat.reduceMul, Int.natCast_one, Int.natCast_zero, Int.reduceEq, Int.reduceLT, Int.reduceLE, Int.reduceAdd, Int.reduceSub, Int.reduceToNat, UInt8.reduceToNat]
  · exact ⟨rfl, Nat.zero_le _, rfl⟩
  · rintro ⟨t, j⟩ r G' hv ⟨rfl, ht, hg⟩
    have h0 := hv.1
    have h1 := hv.2.1
    have h2 := hv.2.2.1
    have h3 := hv.2.2.2.1
    have h4 := hv.2.2.2.2.1
    have h11 := hv.2.2.2.2.2.1
    have h14 := hv.2.2.2.2.2.2.1
    have h15 := hv.2.2.2.2.2.2.2.1
    have h16 := hv.2.2.2.2.2.2.2.2.1
    clear hv
    simp only at h0 h1 h2 h3 h4 h11 h14 h15 h16 ht hg
    have hj := gpos_le (Nat.zero_le _) hg
    simp -implicitDefEqProofs only [go_sem, tys, regs0, Nat.reduceEqDiff, Nat.reduceAdd, Nat.reduceLeDiff, Nat.reduceLT, Nat.reduceMul, Int.natCast_one, Int.natCast_zero, Int.reduceEq, Int.reduceLT, Int.reduceLE, Int.reduceAdd, Int.reduceSub, Int.reduceToNat, UInt8.reduceToNat, h0, h1, h2, h3, h4, h11, h14, h15, h16]
    refine cnd_intro (fun g => ?_) (fun g => ?_)
    · simp only [decide_eq_true_eq] at g
      obtain ⟨i, hi⟩ : ∃ i, pl[t]? = some i := getD_get' (by omega)
      have hix := hm i (List.mem_of_getElem? hi)
      obtain ⟨a, ha⟩ : ∃ a, x[i]? = some a := getD_get' hix
      have hel := elems_succ (x := x) hi
      have hgd : x.getD i [] = a := by simp [List.getD, ha]
      rw [hgd] at hel
      have hg2 := gpos_one (a := a) hg
      rw [← hel] at hg2
      have wt : IntKind.i64.wrap ((t : Int) + 1) = ((t + 1 : Nat) : Int) := by rw [Go.IntWalk.i64_in _ (by omega)]; omega
      simp -implicitDefEqProofs only [go_sem, tys, regs0, Nat.reduceEqDiff, Nat.reduceAdd, Nat.reduceLeDiff, Nat.reduceLT, Nat.reduceMul, Int.natCast_one, Int.natCast_zero, Int.reduceEq, Int.reduceLT, Int.reduceLE, Int.reduceAdd, Int.reduceSub, Int.reduceToNat, UInt8.reduceToNat, h0, h1, h2, h3, h4, h11, h14, h15, h16, hi, encN]
      refine aloop_intro (σ := Nat) (fun m => [(0, .sl (x.map encS) t1), (1, .sl (y.map encS) t2), (2, .sl (pl.map encN) t3), (3, .int .i64 left), (4, .ms T 0 (x.length + 1) 1), (11, .int .i64 ((j + m : Nat) : Int)), (13, .int .i64 (i : Int)), (14, .sl (pl.map encN) t3), (15, .int .i64 pl.length), (16, .int .i64 (t : Int))])
        (fun m G2 => G2 = G' ∧ j + m ≤ y.length ∧ ∀ m', m' < m → (y.drop j)[m']? ≠ some a) (fun m => y.length - m) 0 ?_ ?_ ?_
      · simp -implicitDefEqProofs only [go_sem, tys, regs0, Nat.reduceEqDiff, Nat.reduceAdd, Nat.reduceLeDiff, Nat.reduceLT, Nat.reduceMul, Int.natCast_one, Int.natCast_zero, Int.reduceEq, Int.reduceLT, Int.reduceLE, Int.reduceAdd, Int.reduceSub, Int.reduceToNat, UInt8.reduceToNat, h0, h1, h2, h3, h4, h11, h14, h15, h16]
      · exact ⟨rfl, by omega, fun m' hm' => by omega⟩
      · clear h0 h1 h2 h3 h4 h11 h14 h15 h16
        rintro m r G2 hv ⟨rfl, hmy, hno⟩
        have h0 := hv.1
        have h1 := hv.2.1
        have h2 := hv.2.2.1
        have h3 := hv.2.2.2.1
        have h4 := hv.2.2.2.2.1
        have h11 := hv.2.2.2.2.2.1
        have h13 := hv.2.2.2.2.2.2.1
        have h14 := hv.2.2.2.2.2.2.2.1
        have h15 := hv.2.2.2.2.2.2.2.2.1
        have h16 := hv.2.2.2.2.2.2.2.2.2.1
        clear hv
        have wj : IntKind.i64.wrap (((j + m : Nat) : Int) + 1) = ((j + (m + 1) : Nat) : Int) := by rw [Go.IntWalk.i64_in _ (by omega)]; omega
        by_cases c1 : j + m < y.length
        · have k1 : decide (((j + m : Nat) : Int) < y.length) = true := decide_eq_true (by omega)
          obtain ⟨b, hb⟩ : ∃ b, y[j + m]? = some b := getD_get' c1
          by_cases c2 : b = a
          · have k2 : decide (¬ b = a) = false := decide_eq_false (by simpa using c2)
            have hix2 : idx a (y.drop j) = some m := idx_eq (by rw [List.getElem?_drop, hb, c2]) hno
            rw [hix2] at hg2
            simp only at hg2
            have k3 : decide (((j + m : Nat) : Int) = y.length) = false := decide_eq_false (by omega)
            have e3 : j + (m + 1) = j + m + 1 := rfl
            simp -implicitDefEqProofs only [go_sem, tys, regs0, Nat.reduceEqDiff, Nat.reduceAdd, Nat.reduceLeDiff, Nat.reduceLT, Nat.reduceMul, Int.natCast_one, Int.natCast_zero, Int.reduceEq, Int.reduceLT, Int.reduceLE, Int.reduceAdd, Int.reduceSub, Int.reduceToNat, UInt8.reduceToNat, h0, h1, h2, h3, h4, h11, h13, h14, h15, h16, k1, hb, ha, encS, k2, k3, wj, wt]
            exact Again.mk (t + 1, j + m + 1) (by simp -implicitDefEqProofs only [go_sem, tys, regs0, Nat.reduceEqDiff, Nat.reduceAdd, Nat.reduceLeDiff, Nat.reduceLT, Nat.reduceMul, Int.natCast_one, Int.natCast_zero, Int.reduceEq, Int.reduceLT, Int.reduceLE, Int.reduceAdd, Int.reduceSub, Int.reduceToNat, UInt8.reduceToNat, h0, h1, h2, h3, h4, h11, h13, h14, h15, h16]; exact rfl) ⟨rfl, by simp only; omega, hg2⟩ (by simp only; omega)
          · have k2 : decide (¬ b = a) = true := decide_eq_true c2
            simp -implicitDefEqProofs only [go_sem, tys, regs0, Nat.reduceEqDiff, Nat.reduceAdd, Nat.reduceLeDiff, Nat.reduceLT, Nat.reduceMul, Int.natCast_one, Int.natCast_zero, Int.reduceEq, Int.reduceLT, Int.reduceLE, Int.reduceAdd, Int.reduceSub, Int.reduceToNat, UInt8.reduceToNat, h0, h1, h2, h3, h4, h11, h13, h14, h15, h16, k1, hb, ha, encS, k2, wj]
            refine Again.mk (m + 1) (by simp -implicitDefEqProofs only [go_sem, tys, regs0, Nat.reduceEqDiff, Nat.reduceAdd, Nat.reduceLeDiff, Nat.reduceLT, Nat.reduceMul, Int.natCast_one, Int.natCast_zero, Int.reduceEq, Int.reduceLT, Int.reduceLE, Int.reduceAdd, Int.reduceSub, Int.reduceToNat, UInt8.reduceToNat, h0, h1, h2, h3, h4, h11, h13, h14, h15, h16]) ⟨rfl, by omega, fun m' hm' => ?_⟩ (by omega)
            by_cases e : m' = m
            · subst e; rw [List.getElem?_drop, hb]; simpa using c2
            · exact hno m' (by omega)
        · have k1 : decide (((j + m : Nat) : Int) < y.length) = false := decide_eq_false (by omega)
          have k3 : decide (((j + m : Nat) : Int) = y.length) = true := decide_eq_true (by omega)
          have hix2 : idx a (y.drop j) = none := idx_eq_none fun m' hm' => hno m' (by rw [List.length_drop] at hm'; omega)
          rw [hix2] at hg2
          simp only at hg2
          have hfv : fitsV x y pl last left = false := by
            unfold fitsV
            have e : elems x pl = elems x (pl.take (t + 1)) ++ elems x (pl.drop (t + 1)) := by unfold elems; rw [← List.map_append, List.take_append_drop]
            rw [e, gpos_append, hg2]
            rfl
          simp -implicitDefEqProofs only [go_sem, tys, regs0, Nat.reduceEqDiff, Nat.reduceAdd, Nat.reduceLeDiff, Nat.reduceLT, Nat.reduceMul, Int.natCast_one, Int.natCast_zero, Int.reduceEq, Int.reduceLT, Int.reduceLE, Int.reduceAdd, Int.reduceSub, Int.reduceToNat, UInt8.reduceToNat, h0, h1, h2, h3, h4, h11, h13, h14, h15, h16, k1, k3]
          exact Done.now ⟨by rw [hfv], rfl⟩
    · simp only [decide_eq_false_iff_not] at g
      have e : t = pl.length := by omega
      subst e
      rw [List.take_length] at hg
      have hfv : fitsV x y pl last left = decide (left ≤ (lcs (x.drop (last + 1)) (y.drop j) : Int)) := by unfold fitsV; rw [hg]
      have hne : pl ≠ [] := by intro e; rw [e] at hl; cases hl
      have hpos : 0 < pl.length := List.length_pos_iff.2 hne
      obtain ⟨q, hq⟩ : ∃ q, pl.length = q + 1 := ⟨pl.length - 1, by omega⟩
      have hlast : pl[q]? = some last := by
        rw [List.getLast?_eq_getElem?, hq] at hl; exact hl
      have hlx := hm last (List.mem_of_getElem? hlast)
      have w1 : IntKind.i64.wrap ((pl.length : Int) - 1) = (q : Int) := by rw [Go.IntWalk.i64_in _ (by omega)]; omega
      have w2 : IntKind.i64.wrap ((last : Int) + 1) = ((last + 1 : Nat) : Int) := by rw [Go.IntWalk.i64_in _ (by omega)]; omega
      have htab := hT.tab
      obtain ⟨d, hd, hdh, hdG⟩ := hT.at hlen (i := last + 1) (by omega)
      have r1 := rowC_head (w := y.length + 1) (c := fun k => lcs (x.drop (last + 1)) (y.drop k)) (k := j) (by omega)
      have l1 : ((last + 1 : Nat) : Int) < ((x.length + 1 : Nat) : Int) := by omega
      have l2 : (j : Int) < ((y.length + 1 : Nat) : Int) := by omega
      simp -implicitDefEqProofs only [go_sem, tys, regs0, Nat.reduceEqDiff, Nat.reduceAdd, Nat.reduceLeDiff, Nat.reduceLT, Nat.reduceMul, Int.natCast_one, Int.natCast_zero, Int.reduceEq, Int.reduceLT, Int.reduceLE, Int.reduceAdd, Int.reduceSub, Int.reduceToNat, UInt8.reduceToNat, h0, h1, h2, h3, h4, h11, h14, h15, h16, w1, w2, hlast, encN, htab, hdh, hdG, r1, l1, l2, Int.toNat_natCast, Nat.mul_one, Nat.zero_add]
      exact Done.now ⟨by rw [hfv], rfl⟩
end Go.Proofs
