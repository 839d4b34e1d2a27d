/- Walks: equal lines get equal numbers; the first place of a number. -/
import Derived.Test.YtnheonhmnepifaaDoorLN2
namespace Go.Proofs
open Go Go.Abs
set_option linter.unusedSimpArgs false
set_option linter.unusedVariables false
set_option maxRecDepth 20000
/-- The lines that are known, each with its number. -/
def kn (u : List Bytes) : List (Key × AV) := u.zipIdx.map fun p => (Key.s p.1, AV.int .i64 (p.2 : Int))
theorem mget_kn' (s : Bytes) : ∀ (u : List Bytes) (k : Nat), mget ((u.zipIdx k).map fun p => (Key.s p.1, AV.int .i64 (p.2 : Int))) (.s s) = (idx s u).map fun j => AV.int .i64 ((k + j : Nat) : Int)
  | [], k => rfl
  | x :: u, k => by
    rw [List.zipIdx_cons, List.map_cons, idx]
    unfold mget
    rw [List.find?_cons]
    by_cases e : x = s
    · subst e; simp
    · have : decide (Key.s x = Key.s s) = false := by simp [e]
      simp only [this, if_neg e]
      have ih := mget_kn' s u (k + 1)
      unfold mget at ih
      rw [ih, Option.map_map]
      congr 1
      funext j
      simp only [Function.comp_apply]
      congr 2
      omega
theorem mget_kn (s : Bytes) (u : List Bytes) : mget (kn u) (.s s) = (idx s u).map fun j : Nat => AV.int .i64 (j : Int) := by
  have := mget_kn' s u 0
  simp only [Nat.zero_add] at this
  exact this
theorem mset_kn' (s : Bytes) (v : AV) : ∀ (u : List Bytes) (k : Nat), idx s u = none → mset ((u.zipIdx k).map fun p => (Key.s p.1, AV.int .i64 (p.2 : Int))) (.s s) v = ((u.zipIdx k).map fun p => (Key.s p.1, AV.int .i64 (p.2 : Int))) ++ [(.s s, v)]
  | [], k, _ => rfl
  | x :: u, k, h => by
    rw [idx] at h
    by_cases e : x = s
    · rw [if_pos e] at h; cases h
    · rw [if_neg e, Option.map_eq_none_iff] at h
      rw [List.zipIdx_cons, List.map_cons, mset, if_neg (by simp [e]), mset_kn' s v u (k + 1) h]
      rfl
theorem mset_kn {s : Bytes} {u : List Bytes} (h : idx s u = none) : mset (kn u) (.s s) (.int .i64 (u.length : Int)) = kn (u ++ [s]) := by
  unfold kn
  rw [mset_kn' s _ u 0 h, List.zipIdx_append, List.map_append]
  simp
theorem kn_len (u : List Bytes) : (kn u).length = u.length := by simp [kn]
def addU (u : List Bytes) (s : Bytes) : List Bytes := if idx s u = none then u ++ [s] else u
def numU (u l : List Bytes) : List Bytes := l.foldl addU u
def posU (u : List Bytes) (s : Bytes) : Nat := (idx s u).getD 0
theorem idx_append {α : Type} [DecidableEq α] {s : α} {n : Nat} : ∀ {u w : List α}, idx s u = some n → idx s (u ++ w) = some n
  | [], w, h => by cases h
  | x :: u, w, h => idx_eq (by
      have := (idx_some h).1
      have hn := idx_lt h
      rw [List.getElem?_append_left hn]; exact this) (fun j hj => by
      have hn := idx_lt h
      rw [List.getElem?_append_left (by omega)]
      exact (idx_some h).2 j hj)
theorem idx_self {α : Type} [DecidableEq α] {s : α} {u : List α} (h : idx s u = none) : idx s (u ++ [s]) = some u.length :=
  idx_eq (by simp) (fun j hj => by rw [List.getElem?_append_left hj]; exact idx_none h j)
theorem idx_addU {u : List Bytes} {s x : Bytes} {n : Nat} (h : idx x u = some n) : idx x (addU u s) = some n := by
  unfold addU
  split
  · exact idx_append h
  · exact h
theorem idx_addU_self (u : List Bytes) (s : Bytes) : ∃ n, idx s (addU u s) = some n := by
  unfold addU
  cases h : idx s u with
  | none => rw [if_pos rfl]; exact ⟨_, idx_self h⟩
  | some n => rw [if_neg (by simp)]; exact ⟨n, h⟩
theorem idx_numU {x : Bytes} {n : Nat} : ∀ {l u : List Bytes}, idx x u = some n → idx x (numU u l) = some n
  | [], u, h => h
  | s :: l, u, h => idx_numU (l := l) (idx_addU h)
theorem idx_numU_mem {x : Bytes} : ∀ {l u : List Bytes}, x ∈ l → ∃ n, idx x (numU u l) = some n
  | [], u, h => by cases h
  | s :: l, u, h => by
    rcases List.mem_cons.1 h with rfl | h
    · obtain ⟨n, hn⟩ := idx_addU_self u x
      exact ⟨n, idx_numU (l := l) hn⟩
    · exact idx_numU_mem (l := l) h
theorem posU_numU {x : Bytes} {l u : List Bytes} {n : Nat} (h : idx x u = some n) : posU (numU u l) x = posU u x := by
  unfold posU; rw [idx_numU h, h]
theorem numU_len : ∀ (l u : List Bytes), (numU u l).length ≤ u.length + l.length
  | [], u => by simp [numU]
  | s :: l, u => by
    have := numU_len l (addU u s)
    have h2 : (addU u s).length ≤ u.length + 1 := by unfold addU; split <;> simp
    simp only [numU, List.foldl_cons, List.length_cons] at *
    omega
theorem numU_succ {l u : List Bytes} {i : Nat} {s : Bytes} (h : l[i]? = some s) : numU u (l.take (i + 1)) = addU (numU u (l.take i)) s := by
  unfold numU
  rw [List.take_add_one, h, List.foldl_append]
  rfl
theorem pos_succ {l u : List Bytes} {i : Nat} {s : Bytes} (h : l[i]? = some s) : (l.take (i + 1)).map (posU (numU u (l.take (i + 1)))) = (l.take i).map (posU (numU u (l.take i))) ++ [posU (numU u (l.take (i + 1))) s] := by
  have e : (l.take (i + 1)).map (posU (numU u (l.take (i + 1)))) = (l.take i).map (posU (numU u (l.take (i + 1)))) ++ [posU (numU u (l.take (i + 1))) s] := by
    rw [List.take_add_one, h, List.map_append]; rfl
  rw [e]
  congr 1
  apply List.map_congr_left
  intro x hx
  rw [numU_succ h]
  obtain ⟨n, hn⟩ := idx_numU_mem (u := u) hx
  unfold posU
  rw [idx_addU hn, hn]
def encN (n : Nat) : List AV := [.int .i64 (n : Int)]
def decN : List AV → Option Nat
  | [.int .i64 z] => if 0 ≤ z then some z.toNat else none
  | _ => none
theorem decN_enc (n : Nat) : decN (encN n) = some n := by simp [decN, encN]
theorem decN_some {c : List AV} {n : Nat} (h : decN c = some n) : c = encN n := by
  unfold decN at h
  split at h
  · split at h
    · cases h; unfold encN; congr 2; omega
    · cases h
  · cases h
theorem encN_unif (l : List Nat) : Unif 1 (l.map encN) := by
  intro c hc
  simp only [List.mem_map] at hc
  obtain ⟨b, _, rfl⟩ := hc
  rfl
theorem put_del (H : Heap) (id : Nat) (o : AObj) : (H.del id).put id o = H.put id o := by
  funext i
  simp only [Heap.del, Heap.put]
  split <;> rfl
theorem sub_del (H : Heap) (id : Nat) : (H.del id).Sub H := fun i o h => by
  unfold Heap.del at h
  split at h
  · cases h
  · exact h
theorem del_same (H : Heap) (id : Nat) : (H.del id) id = none := by simp [Heap.del]
theorem sub_put_of {F G : Heap} {id : Nat} {o : AObj} (h : F.Sub G) (ho : G id = some o) : (F.put id o).Sub G := fun i x hx => by
  by_cases e : i = id
  · subst e; rw [put_same] at hx; cases hx; exact ho
  · rw [put_ne _ _ _ _ e] at hx; exact h i x hx
set_option maxHeartbeats 1600000 in
theorem numbered_calls (l u : List Bytes) (t : Tail) (id : Nat) (H : Heap) (hid : H id = some (.map .str (kn u))) (hl : l.length ≤ 1000) (hu : u.length ≤ 1000) :
    ACalls Tryd.prog 108 [.sl (l.map encS) t, .map id] H fun x H' => x = .sl ((l.map (posU (numU u l))).map encN) .unk ∧ H' = H.put id (.map .str (kn (numU u l))) := by
  refine ACalls.of_code (X := { pure := pu0 }) pu0_ok Tryd.func108 (by kernel_rfl) rfl (by kernel_rfl) (Nat.le_of_ble_eq_true rfl) ?_
  simp -implicitDefEqProofs only [go_sem, tys, regs0, Nat.reduceEqDiff, Nat.reduceAdd, Nat.reduceLeDiff, Nat.reduceLT, Nat.reduceMul, Int.natCast_one, Int.natCast_zero, Int.reduceEq, Int.reduceLT, Int.reduceLE, Int.reduceAdd, Int.reduceSub, Int.reduceToNat, UInt8.reduceToNat, Tryd.f108]
  have hA0 : AppOK (H.del id) H 1 (([] : List Nat).map encN) .exact := AppOK.nil (sub_del H id)
  refine aloop_intro (σ := Nat × Tail) (fun s => [(1, .map id), (5, .sl (((l.take s.1).map (posU (numU u (l.take s.1)))).map encN) s.2), (10, .sl (l.map encS) t), (11, .int .i64 l.length), (12, .int .i64 s.1)])
    (fun s G => AppOK (H.del id) G 1 (((l.take s.1).map (posU (numU u (l.take s.1)))).map encN) s.2 ∧ G id = some (.map .str (kn (numU u (l.take s.1)))) ∧ s.1 ≤ l.length) (fun s => l.length - s.1) (0, .exact) ?_ ?_ ?_
  · simp -implicitDefEqProofs only [go_sem, tys, regs0, Nat.reduceEqDiff, Nat.reduceAdd, Nat.reduceLeDiff, Nat.reduceLT, Nat.reduceMul, Int.natCast_one, Int.natCast_zero, Int.reduceEq, Int.reduceLT, Int.reduceLE, Int.reduceAdd, Int.reduceSub, Int.reduceToNat, UInt8.reduceToNat]
  · exact ⟨hA0, hid, Nat.zero_le _⟩
  · rintro ⟨i, tl⟩ r G hv ⟨hA, hB, hi⟩
    have h1 := hv.1
    have h5 := hv.2.1
    have h10 := hv.2.2.1
    have h11 := hv.2.2.2.1
    have h12 := hv.2.2.2.2.1
    clear hv
    simp only at h1 h5 h10 h11 h12 hA hB hi
    simp -implicitDefEqProofs only [go_sem, tys, regs0, Nat.reduceEqDiff, Nat.reduceAdd, Nat.reduceLeDiff, Nat.reduceLT, Nat.reduceMul, Int.natCast_one, Int.natCast_zero, Int.reduceEq, Int.reduceLT, Int.reduceLE, Int.reduceAdd, Int.reduceSub, Int.reduceToNat, UInt8.reduceToNat, h1, h5, h10, h11, h12]
    refine cnd_intro (fun g => ?_) (fun g => ?_)
    · simp only [decide_eq_true_eq] at g
      obtain ⟨s, hs⟩ : ∃ s, l[i]? = some s := getD_get' (by omega)
      have hU := numU_succ (u := u) hs
      have hP := pos_succ (u := u) hs
      have w : IntKind.i64.wrap ((i : Int) + 1) = ((i + 1 : Nat) : Int) := by rw [Go.IntWalk.i64_in _ (by omega)]; omega
      have hlen := numU_len (l.take i) u
      rw [List.length_take] at hlen
      have hunif := encN_unif ((l.take i).map (posU (numU u (l.take i))))
      have hol : (((l.take i).map (posU (numU u (l.take i)))).map encN).length ≤ 1000 := by simp; omega
      generalize hU0 : numU u (l.take i) = u0 at *
      rw [hU] at hP
      cases hx : idx s u0 with
      | none =>
        have hadd : addU u0 s = u0 ++ [s] := by unfold addU; rw [if_pos hx]
        have hpos : posU (addU u0 s) s = u0.length := by unfold posU; rw [hadd, idx_self hx]; rfl
        rw [hpos] at hP
        simp -implicitDefEqProofs only [go_sem, tys, regs0, Nat.reduceEqDiff, Nat.reduceAdd, Nat.reduceLeDiff, Nat.reduceLT, Nat.reduceMul, Int.natCast_one, Int.natCast_zero, Int.reduceEq, Int.reduceLT, Int.reduceLE, Int.reduceAdd, Int.reduceSub, Int.reduceToNat, UInt8.reduceToNat, h1, h5, h10, h11, h12, hs, encS, hB, mget_kn, hx, kn_len, mset_kn]
        have hA2 := hA.set (id := id) (o' := .map .str (kn (u0 ++ [s]))) (del_same H id) hB (fun n e => by cases e)
        have hB2 := put_same G id (.map .str (kn (u0 ++ [s])))
        refine AppOK.step hA2 hunif (by simp) (by simp at hol ⊢; omega) (by simp at hol ⊢; omega) (fun tl2 G2 hA3 hK => ?_)
        have e2 : ((l.take i).map (posU u0)).map encN ++ [[AV.int .i64 (u0.length : Int)]] = ((l.take (i + 1)).map (posU (addU u0 s))).map encN := by rw [hP, List.map_append]; rfl
        rw [e2] at hA3 ⊢
        rw [← hU] at hA3 ⊢
        simp -implicitDefEqProofs only [go_sem, tys, regs0, Nat.reduceEqDiff, Nat.reduceAdd, Nat.reduceLeDiff, Nat.reduceLT, Nat.reduceMul, Int.natCast_one, Int.natCast_zero, Int.reduceEq, Int.reduceLT, Int.reduceLE, Int.reduceAdd, Int.reduceSub, Int.reduceToNat, UInt8.reduceToNat, h1, h5, h10, h11, h12, w]
        refine Again.mk (i + 1, tl2) (by simp -implicitDefEqProofs only [go_sem, tys, regs0, Nat.reduceEqDiff, Nat.reduceAdd, Nat.reduceLeDiff, Nat.reduceLT, Nat.reduceMul, Int.natCast_one, Int.natCast_zero, Int.reduceEq, Int.reduceLT, Int.reduceLE, Int.reduceAdd, Int.reduceSub, Int.reduceToNat, UInt8.reduceToNat, h1, h5, h10, h11, h12]) ⟨hA3, ?_, by simp only; omega⟩ (by simp only; omega)
        simp only
        rw [hU, hadd]
        exact hK.map hB2
      | some n =>
        have hadd : addU u0 s = u0 := by unfold addU; rw [if_neg (by rw [hx]; simp)]
        have hpos : posU (addU u0 s) s = n := by unfold posU; rw [hadd, hx]; rfl
        rw [hpos] at hP
        simp -implicitDefEqProofs only [go_sem, tys, regs0, Nat.reduceEqDiff, Nat.reduceAdd, Nat.reduceLeDiff, Nat.reduceLT, Nat.reduceMul, Int.natCast_one, Int.natCast_zero, Int.reduceEq, Int.reduceLT, Int.reduceLE, Int.reduceAdd, Int.reduceSub, Int.reduceToNat, UInt8.reduceToNat, h1, h5, h10, h11, h12, hs, encS, hB, mget_kn, hx]
        refine AppOK.step hA hunif (by simp) (by simp at hol ⊢; omega) (by simp at hol ⊢; omega) (fun tl2 G2 hA3 hK => ?_)
        have e2 : ((l.take i).map (posU u0)).map encN ++ [[AV.int .i64 (n : Int)]] = ((l.take (i + 1)).map (posU (addU u0 s))).map encN := by rw [hP, List.map_append]; rfl
        rw [e2] at hA3 ⊢
        rw [← hU] at hA3 ⊢
        simp -implicitDefEqProofs only [go_sem, tys, regs0, Nat.reduceEqDiff, Nat.reduceAdd, Nat.reduceLeDiff, Nat.reduceLT, Nat.reduceMul, Int.natCast_one, Int.natCast_zero, Int.reduceEq, Int.reduceLT, Int.reduceLE, Int.reduceAdd, Int.reduceSub, Int.reduceToNat, UInt8.reduceToNat, h1, h5, h10, h11, h12, w]
        refine Again.mk (i + 1, tl2) (by simp -implicitDefEqProofs only [go_sem, tys, regs0, Nat.reduceEqDiff, Nat.reduceAdd, Nat.reduceLeDiff, Nat.reduceLT, Nat.reduceMul, Int.natCast_one, Int.natCast_zero, Int.reduceEq, Int.reduceLT, Int.reduceLE, Int.reduceAdd, Int.reduceSub, Int.reduceToNat, UInt8.reduceToNat, h1, h5, h10, h11, h12]) ⟨hA3, ?_, by simp only; omega⟩ (by simp only; omega)
        simp only
        rw [hU, hadd]
        exact hK.map hB
    · simp only [decide_eq_false_iff_not] at g
      have e : i = l.length := by omega
      subst e
      rw [List.take_length] at hA hB h5
      simp -implicitDefEqProofs only [go_sem, tys, regs0, Nat.reduceEqDiff, Nat.reduceAdd, Nat.reduceLeDiff, Nat.reduceLT, Nat.reduceMul, Int.natCast_one, Int.natCast_zero, Int.reduceEq, Int.reduceLT, Int.reduceLE, Int.reduceAdd, Int.reduceSub, Int.reduceToNat, UInt8.reduceToNat, h1, h5, h10, h11, h12]
      refine Done.wk 1 (Done.drop (sub_put_of hA.sub hB) ⟨?_, put_del _ _ _⟩)
      rfl
def idxI (o : Option Nat) : Int := match o with
  | some n => n
  | none => -1
theorem indexN_calls (b : List Nat) (v : Nat) (t : Tail) (H : Heap) (hb : b.length ≤ 1099511627776) : ACalls Tryd.prog 109 [.sl (b.map encN) t, .int .i64 (v : Int)] H fun x H' => x = .int .i64 (idxI (idx v b)) ∧ H' = H := by
  refine ACalls.of_code (X := { pure := pu0 }) pu0_ok Tryd.func109 (by kernel_rfl) rfl (by kernel_rfl) (Nat.le_of_ble_eq_true rfl) ?_
  simp -implicitDefEqProofs only [go_sem, tys, regs0, Nat.reduceEqDiff, Nat.reduceAdd, Nat.reduceLeDiff, Nat.reduceLT, Nat.reduceMul, Int.natCast_one, Int.natCast_zero, Int.reduceEq, Int.reduceLT, Int.reduceLE, Int.reduceAdd, Int.reduceSub, Int.reduceToNat, UInt8.reduceToNat, Tryd.f109]
  refine aloop_intro (σ := Nat) (fun i => [(0, .sl (b.map encN) t), (1, .int .i64 (v : Int)), (7, .int .i64 b.length), (8, .int .i64 i)]) (fun i G => G = H ∧ i ≤ b.length ∧ ∀ j, j < i → b[j]? ≠ some v) (fun i => b.length - i) 0 ?_ ?_ ?_
  · simp -implicitDefEqProofs only [go_sem, tys, regs0, Nat.reduceEqDiff, Nat.reduceAdd, Nat.reduceLeDiff, Nat.reduceLT, Nat.reduceMul, Int.natCast_one, Int.natCast_zero, Int.reduceEq, Int.reduceLT, Int.reduceLE, Int.reduceAdd, Int.reduceSub, Int.reduceToNat, UInt8.reduceToNat]
  · exact ⟨rfl, Nat.zero_le _, fun j hj => by omega⟩
  · intro i r G hv hI
    have h0 := hv.1
    have h1 := hv.2.1
    have h7 := hv.2.2.1
    have h8 := hv.2.2.2.1
    have hG := hI.1.symm
    have hi := hI.2.1
    have hp := hI.2.2
    clear hv hI
    subst hG
    simp -implicitDefEqProofs only [go_sem, tys, regs0, Nat.reduceEqDiff, Nat.reduceAdd, Nat.reduceLeDiff, Nat.reduceLT, Nat.reduceMul, Int.natCast_one, Int.natCast_zero, Int.reduceEq, Int.reduceLT, Int.reduceLE, Int.reduceAdd, Int.reduceSub, Int.reduceToNat, UInt8.reduceToNat, h0, h1, h7, h8]
    refine cnd_intro (fun g => ?_) (fun g => ?_)
    · simp only [decide_eq_true_eq] at g
      obtain ⟨c, hc⟩ : ∃ c, b[i]? = some c := getD_get' (by omega)
      have w : IntKind.i64.wrap ((i : Int) + 1) = ((i + 1 : Nat) : Int) := by rw [Go.IntWalk.i64_in _ (by omega)]; omega
      by_cases e : v = c
      · have y : decide ((v : Int) = (c : Int)) = true := decide_eq_true (by omega)
        simp -implicitDefEqProofs only [go_sem, tys, regs0, Nat.reduceEqDiff, Nat.reduceAdd, Nat.reduceLeDiff, Nat.reduceLT, Nat.reduceMul, Int.natCast_one, Int.natCast_zero, Int.reduceEq, Int.reduceLT, Int.reduceLE, Int.reduceAdd, Int.reduceSub, Int.reduceToNat, UInt8.reduceToNat, h0, h1, h7, h8, hc, encN, y]
        exact Done.now ⟨by rw [idx_eq (n := i) (by rw [hc, e]) hp]; rfl, rfl⟩
      · have y : decide ((v : Int) = (c : Int)) = false := decide_eq_false (by omega)
        simp -implicitDefEqProofs only [go_sem, tys, regs0, Nat.reduceEqDiff, Nat.reduceAdd, Nat.reduceLeDiff, Nat.reduceLT, Nat.reduceMul, Int.natCast_one, Int.natCast_zero, Int.reduceEq, Int.reduceLT, Int.reduceLE, Int.reduceAdd, Int.reduceSub, Int.reduceToNat, UInt8.reduceToNat, h0, h1, h7, h8, hc, encN, y, w]
        refine Again.mk (i + 1) (by simp -implicitDefEqProofs only [go_sem, tys, regs0, Nat.reduceEqDiff, Nat.reduceAdd, Nat.reduceLeDiff, Nat.reduceLT, Nat.reduceMul, Int.natCast_one, Int.natCast_zero, Int.reduceEq, Int.reduceLT, Int.reduceLE, Int.reduceAdd, Int.reduceSub, Int.reduceToNat, UInt8.reduceToNat, h0, h1, h7, h8]) ⟨rfl, by omega, fun j hj => ?_⟩ (by omega)
        by_cases ej : j = i
        · subst ej; rw [hc]; simp; exact fun h => e h.symm
        · exact hp j (by omega)
    · simp only [decide_eq_false_iff_not] at g
      have e : i = b.length := by omega
      subst e
      simp -implicitDefEqProofs only [go_sem, tys, regs0, Nat.reduceEqDiff, Nat.reduceAdd, Nat.reduceLeDiff, Nat.reduceLT, Nat.reduceMul, Int.natCast_one, Int.natCast_zero, Int.reduceEq, Int.reduceLT, Int.reduceLE, Int.reduceAdd, Int.reduceSub, Int.reduceToNat, UInt8.reduceToNat, h0, h1, h7, h8]
      exact Done.now ⟨by rw [idx_eq_none hp]; rfl, rfl⟩
def sIdxN : List AV → Option AV := fn2 (Rd.list decN) (.int .i64) fun b v => if 0 ≤ v ∧ b.length ≤ 1099511627776 then some (.int .i64 (idxI (idx v.toNat b))) else none
theorem sIdxN_eq (b : List Nat) (v : Nat) (t : Tail) (h : b.length ≤ 1099511627776) : sIdxN [.sl (b.map encN) t, .int .i64 (v : Int)] = some (.int .i64 (idxI (idx v b))) := by
  unfold sIdxN
  rw [fn2_eq, Rd.list_eq decN_enc, Rd.int_eq]
  simp only [Option.bind_some]
  rw [if_pos ⟨by omega, h⟩]
  simp
theorem sIdxN_ok : ∀ xs v, sIdxN xs = some v → ∀ H, ACalls Tryd.prog 109 xs H fun x H' => x = v ∧ H' = H := by
  intro xs v hv H
  obtain ⟨x, y, b, z, rfl, h1, h2, h3⟩ := fn2_some hv
  cases Rd.int_some h2
  obtain ⟨t, rfl⟩ := Rd.list_some (fun _ _ => decN_some) h1
  obtain ⟨⟨h4, h5⟩, rfl⟩ := some_if h3
  have := indexN_calls b z.toNat t H h5
  rwa [Int.toNat_of_nonneg h4] at this
def puN1 : Pures := putP 109 sIdxN pu0
theorem puN1_ok : PuOK Tryd.prog puN1 := .put .zero sIdxN_ok
end Go.Proofs
