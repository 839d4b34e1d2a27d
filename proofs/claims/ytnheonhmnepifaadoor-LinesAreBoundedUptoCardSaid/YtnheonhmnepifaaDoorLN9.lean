/- Walks: the parts that are put together: what lies in the heap; the closures. -/
import Derived.Test.YtnheonhmnepifaaDoorLN8
namespace Go.Proofs
open Go Go.Abs
set_option linter.unusedSimpArgs false
set_option linter.unusedVariables false
set_option maxRecDepth 20000
/-- The objects of merging: three texts' lines, three places, clashes, what is written. -/
structure MI where
  xp : Nat
  yp : Nat
  zp : Nat
  ip : Nat
  kp : Nat
  mp : Nat
  cp : Nat
  op : Nat
def MI.l (q : MI) : List Nat := [q.xp, q.yp, q.zp, q.ip, q.kp, q.mp, q.cp, q.op]
theorem MI.ne {q : MI} (h : q.l.Nodup) : ¬ q.xp = q.yp ∧ ¬ q.xp = q.zp ∧ ¬ q.xp = q.ip ∧ ¬ q.xp = q.kp ∧ ¬ q.xp = q.mp ∧ ¬ q.xp = q.cp ∧ ¬ q.xp = q.op ∧ ¬ q.yp = q.xp ∧ ¬ q.yp = q.zp ∧ ¬ q.yp = q.ip ∧ ¬ q.yp = q.kp ∧ ¬ q.yp = q.mp ∧ ¬ q.yp = q.cp ∧ ¬ q.yp = q.op ∧ ¬ q.zp = q.xp ∧ ¬ q.zp = q.yp ∧ ¬ q.zp = q.ip ∧ ¬ q.zp = q.kp ∧ ¬ q.zp = q.mp ∧ ¬ q.zp = q.cp ∧ ¬ q.zp = q.op ∧ ¬ q.ip = q.xp ∧ ¬ q.ip = q.yp ∧ ¬ q.ip = q.zp ∧ ¬ q.ip = q.kp ∧ ¬ q.ip = q.mp ∧ ¬ q.ip = q.cp ∧ ¬ q.ip = q.op ∧ ¬ q.kp = q.xp ∧ ¬ q.kp = q.yp ∧ ¬ q.kp = q.zp ∧ ¬ q.kp = q.ip ∧ ¬ q.kp = q.mp ∧ ¬ q.kp = q.cp ∧ ¬ q.kp = q.op ∧ ¬ q.mp = q.xp ∧ ¬ q.mp = q.yp ∧ ¬ q.mp = q.zp ∧ ¬ q.mp = q.ip ∧ ¬ q.mp = q.kp ∧ ¬ q.mp = q.cp ∧ ¬ q.mp = q.op ∧ ¬ q.cp = q.xp ∧ ¬ q.cp = q.yp ∧ ¬ q.cp = q.zp ∧ ¬ q.cp = q.ip ∧ ¬ q.cp = q.kp ∧ ¬ q.cp = q.mp ∧ ¬ q.cp = q.op ∧ ¬ q.op = q.xp ∧ ¬ q.op = q.yp ∧ ¬ q.op = q.zp ∧ ¬ q.op = q.ip ∧ ¬ q.op = q.kp ∧ ¬ q.op = q.mp ∧ ¬ q.op = q.cp := by
  simp only [MI.l, List.nodup_cons, List.mem_cons, List.not_mem_nil, or_false, not_or, List.nodup_nil, and_true, not_false_eq_true] at h
  obtain ⟨h1, h2, h3, h4, h5, h6, h7⟩ := h
  repeat' (refine And.intro ?_ ?_)
  all_goals (intro e; simp [e] at h1 h2 h3 h4 h5 h6 h7)
structure MC (H G : Heap) (q : MI) (x y z : List Bytes) (s : MS) : Prop where
  sub : H.Sub G
  nd : q.l.Nodup
  fr : ∀ i ∈ q.l, H i = none
  hx : G q.xp = some (.cells [.sl (x.map encS) .unk])
  hy : G q.yp = some (.cells [.sl (y.map encS) .unk])
  hz : G q.zp = some (.cells [.sl (z.map encS) .unk])
  hi : G q.ip = some (.cells [.int .i64 (s.i : Int)])
  hk : G q.kp = some (.cells [.int .i64 (s.k : Int)])
  hm : G q.mp = some (.cells [.int .i64 (s.m : Int)])
  hc : G q.cp = some (.cells [.int .i64 (s.n : Int)])
theorem bkept_cells {g : Bool} {H G G' : Heap} {b : Nat} {l : Bytes} (hB : BldG g H G b l) (hk : BKept b G G') {i : Nat} {cs : List AV} (hi : G i = some (.cells cs)) (hne : ¬ i = b) : G' i = some (.cells cs) := by
  refine hk i _ hi hne (fun e => ?_)
  obtain ⟨_, _, p, buf, h3, h4, h5⟩ := hB
  unfold tokOf at e
  rw [h3] at e
  rcases h5 with ⟨rfl, -⟩ | ⟨t', rfl, -, h7, -⟩
  · cases e
  · cases e; rw [hi] at h7; cases h7
theorem BldG.set {g : Bool} {H G : Heap} {b : Nat} {l : Bytes} (h : BldG g H G b l) {i : Nat} {cs : List AV} (hH : H i = none) (hi : G i = some (.cells cs)) (hne : ¬ b = i) (cs' : List AV) : BldG g H (G.put i (.cells cs')) b l := by
  obtain ⟨h1, h2, p, buf, h3, h4, h5⟩ := h
  refine ⟨h1.put' hH _, h2, p, buf, by rw [put_ne _ _ _ _ hne]; exact h3, h4, ?_⟩
  rcases h5 with h5 | ⟨t, t1, t2, t3, t4, t9⟩
  · exact .inl h5
  · have ht : ¬ t = i := fun e => by subst e; rw [t3] at hi; cases hi
    exact .inr ⟨t, t1, t2, by rw [put_ne _ _ _ _ ht]; exact t3, t4, t9⟩
theorem MC.kept {H G G' : Heap} {q : MI} {x y z : List Bytes} {s : MS} {l : Bytes} (h : MC H G q x y z s) (hB : BldOK H G q.op l) (hk : BKept q.op G G') (hs : H.Sub G') : MC H G' q x y z s := by
  have n := MI.ne h.nd
  exact ⟨hs, h.nd, h.fr, bkept_cells hB hk h.hx (by simp only [n, not_false_eq_true]), bkept_cells hB hk h.hy (by simp only [n, not_false_eq_true]), bkept_cells hB hk h.hz (by simp only [n, not_false_eq_true]), bkept_cells hB hk h.hi (by simp only [n, not_false_eq_true]), bkept_cells hB hk h.hk (by simp only [n, not_false_eq_true]), bkept_cells hB hk h.hm (by simp only [n, not_false_eq_true]), bkept_cells hB hk h.hc (by simp only [n, not_false_eq_true])⟩
/-- An object beside is made, or written. -/
theorem MC.put {H G : Heap} {q : MI} {x y z : List Bytes} {s : MS} (h : MC H G q x y z s) {i : Nat} (hH : H i = none) (hi : ∀ j ∈ q.l, ¬ j = i ∨ j = q.op) (hop : q.op = i ∨ True) (hne : ¬ q.xp = i ∧ ¬ q.yp = i ∧ ¬ q.zp = i ∧ ¬ q.ip = i ∧ ¬ q.kp = i ∧ ¬ q.mp = i ∧ ¬ q.cp = i) (o : AObj) : MC H (G.put i o) q x y z s := by
  obtain ⟨n1, n2, n3, n4, n5, n6, n7⟩ := hne
  exact ⟨h.sub.put' hH _, h.nd, h.fr, by rw [put_ne _ _ _ _ n1]; exact h.hx, by rw [put_ne _ _ _ _ n2]; exact h.hy, by rw [put_ne _ _ _ _ n3]; exact h.hz, by rw [put_ne _ _ _ _ n4]; exact h.hi, by rw [put_ne _ _ _ _ n5]; exact h.hk, by rw [put_ne _ _ _ _ n6]; exact h.hm, by rw [put_ne _ _ _ _ n7]; exact h.hc⟩
theorem MC.new {H G : Heap} {q : MI} {x y z : List Bytes} {s : MS} (h : MC H G q x y z s) {i : Nat} (hi : G i = none) (o : AObj) : MC H (G.put i o) q x y z s := by
  have hne : ∀ {j : Nat} {o : AObj}, G j = some o → ¬ j = i := fun hj e => by subst e; rw [hi] at hj; cases hj
  exact ⟨h.sub.put' (sub_none h.sub hi) _, h.nd, h.fr, by rw [put_ne _ _ _ _ (hne h.hx)]; exact h.hx, by rw [put_ne _ _ _ _ (hne h.hy)]; exact h.hy, by rw [put_ne _ _ _ _ (hne h.hz)]; exact h.hz, by rw [put_ne _ _ _ _ (hne h.hi)]; exact h.hi, by rw [put_ne _ _ _ _ (hne h.hk)]; exact h.hk, by rw [put_ne _ _ _ _ (hne h.hm)]; exact h.hm, by rw [put_ne _ _ _ _ (hne h.hc)]; exact h.hc⟩
theorem MC.count {H G : Heap} {q : MI} {x y z : List Bytes} {s : MS} (h : MC H G q x y z s) (n : Nat) (out : Bytes) : MC H (G.put q.cp (.cells [.int .i64 (n : Int)])) q x y z ⟨s.i, s.k, s.m, out, n⟩ := by
  have n := MI.ne h.nd
  have hf : H q.cp = none := h.fr _ (by simp [MI.l])
  exact ⟨h.sub.put' hf _, h.nd, h.fr, by simp only [put_ne, n, not_false_eq_true]; exact h.hx, by simp only [put_ne, n, not_false_eq_true]; exact h.hy, by simp only [put_ne, n, not_false_eq_true]; exact h.hz, by simp only [put_ne, n, not_false_eq_true]; exact h.hi, by simp only [put_ne, n, not_false_eq_true]; exact h.hk, by simp only [put_ne, n, not_false_eq_true]; exact h.hm, put_same _ _ _⟩
theorem MC.out {H G : Heap} {q : MI} {x y z : List Bytes} {s : MS} (h : MC H G q x y z s) (out : Bytes) : MC H G q x y z ⟨s.i, s.k, s.m, out, s.n⟩ := ⟨h.sub, h.nd, h.fr, h.hx, h.hy, h.hz, h.hi, h.hk, h.hm, h.hc⟩
theorem MC.op {H G : Heap} {q : MI} {x y z : List Bytes} {s : MS} (h : MC H G q x y z s) (o : AObj) : MC H (G.put q.op o) q x y z s := by
  have n := MI.ne h.nd
  have hf : H q.op = none := h.fr _ (by simp [MI.l])
  exact ⟨h.sub.put' hf _, h.nd, h.fr, by simp only [put_ne, n, not_false_eq_true]; exact h.hx, by simp only [put_ne, n, not_false_eq_true]; exact h.hy, by simp only [put_ne, n, not_false_eq_true]; exact h.hz, by simp only [put_ne, n, not_false_eq_true]; exact h.hi, by simp only [put_ne, n, not_false_eq_true]; exact h.hk, by simp only [put_ne, n, not_false_eq_true]; exact h.hm, by simp only [put_ne, n, not_false_eq_true]; exact h.hc⟩
/-- The three places are set. -/
theorem MC.move {H G : Heap} {q : MI} {x y z : List Bytes} {s : MS} (h : MC H G q x y z s) (i k m : Nat) (out : Bytes) : MC H (((G.put q.ip (.cells [.int .i64 (i : Int)])).put q.kp (.cells [.int .i64 (k : Int)])).put q.mp (.cells [.int .i64 (m : Int)])) q x y z ⟨i, k, m, out, s.n⟩ := by
  have n := MI.ne h.nd
  have f1 : H q.ip = none := h.fr _ (by simp [MI.l])
  have f2 : H q.kp = none := h.fr _ (by simp [MI.l])
  have f3 : H q.mp = none := h.fr _ (by simp [MI.l])
  exact ⟨((h.sub.put' f1 _).put' f2 _).put' f3 _, h.nd, h.fr, by simp only [put_ne, n, not_false_eq_true]; exact h.hx, by simp only [put_ne, n, not_false_eq_true]; exact h.hy, by simp only [put_ne, n, not_false_eq_true]; exact h.hz, by simp only [put_ne, n, not_false_eq_true, put_same], by simp only [put_ne, n, not_false_eq_true, put_same], put_same _ _ _, by simp only [put_ne, n, not_false_eq_true]; exact h.hc⟩
/-- What is small enough. -/
structure MB (x y z : List Bytes) (s : MS) (i j k : Nat) : Prop where
  a1 : s.i ≤ i
  a2 : i ≤ x.length
  a3 : s.k ≤ j
  a4 : j ≤ y.length
  a5 : s.m ≤ k
  a6 : k ≤ z.length
  l1 : x.length ≤ 1000
  l2 : y.length ≤ 1000
  l3 : z.length ≤ 1000
  f1 : x.flatten.length ≤ 65536
  f2 : y.flatten.length ≤ 65536
  f3 : z.flatten.length ≤ 65536
  o1 : s.out.length ≤ 1000000000
  o2 : s.n ≤ 100000
theorem part_cells {l : List Bytes} {lo hi : Nat} (h : hi ≤ l.length) : ((l.map encS).take hi).drop lo = ((l.take hi).drop lo).map encS := by rw [← List.map_take, ← List.map_drop]
set_option maxHeartbeats 1600000 in
theorem put_k {H G : Heap} {q : MI} {x y z : List Bytes} {s : MS} {i j k : Nat} (h : MC H G q x y z s) (hB : BldOK H G q.op s.out) (hb : MB x y z s i j k) {K : K1} (hK : ∀ G', MC H G' q x y z (partV x y z s i j k) → BldOK H G' q.op (partV x y z s i j k).out → K (.tup []) G') :
    ACalls Tryd.prog 67 [.int .i64 (i : Int), .int .i64 (j : Int), .int .i64 (k : Int), .ptr q.xp 0, .ptr q.ip 0, .ptr q.yp 0, .ptr q.kp 0, .ptr q.zp 0, .ptr q.mp 0, bldP q.op, .ptr q.cp 0] G K := by
  refine ACalls.mono (R := fun v G' => v = .tup [] ∧ MC H G' q x y z (partV x y z s i j k) ∧ BldOK H G' q.op (partV x y z s i j k).out) ?_ (by rintro v G' ⟨rfl, h1, h2⟩; exact hK G' h1 h2)
  obtain ⟨a1, a2, a3, a4, a5, a6, l1, l2, l3, f1, f2, f3, o1, o2⟩ := hb
  have p1 := partT_le x s.i i
  have p2 := partT_le y s.k j
  have p3 := partT_le z s.m k
  have g1 : ((x.take i).drop s.i).length ≤ 1000 := by simp; omega
  have g2 : ((y.take j).drop s.k).length ≤ 1000 := by simp; omega
  have g3 : ((z.take k).drop s.m).length ≤ 1000 := by simp; omega
  have e1 := part_cells (lo := s.i) a2
  have e2 := part_cells (lo := s.k) a4
  have e3 := part_cells (lo := s.m) a6
  unfold partT at p1 p2 p3
  have j1 := fun t => sJoin_eq ((x.take i).drop s.i) t (by omega) (by omega)
  have j2 := fun t => sJoin_eq ((y.take j).drop s.k) t (by omega) (by omega)
  have j3 := fun t => sJoin_eq ((z.take k).drop s.m) t (by omega) (by omega)
  have q1 := sSettle_eq ((x.take i).drop s.i).flatten ((y.take j).drop s.k).flatten ((z.take k).drop s.m).flatten (by omega) (by omega) (by omega)
  have hsl := settleV_len ((x.take i).drop s.i).flatten ((y.take j).drop s.k).flatten ((z.take k).drop s.m).flatten
  have hpv : partV x y z s i j k = ⟨s.i, s.k, s.m, s.out ++ (settleV ((x.take i).drop s.i).flatten ((y.take j).drop s.k).flatten ((z.take k).drop s.m).flatten).1, s.n + if (settleV ((x.take i).drop s.i).flatten ((y.take j).drop s.k).flatten ((z.take k).drop s.m).flatten).2 then 1 else 0⟩ := rfl
  rw [hpv]
  generalize settleV ((x.take i).drop s.i).flatten ((y.take j).drop s.k).flatten ((z.take k).drop s.m).flatten = st at *
  obtain ⟨w, cl⟩ := st
  simp only at hsl q1 ⊢
  have b1 : (s.i : Int) ≤ (i : Int) := by omega
  have b2 : (i : Int) ≤ (x.length : Int) := by omega
  have b3 : (s.k : Int) ≤ (j : Int) := by omega
  have b4 : (j : Int) ≤ (y.length : Int) := by omega
  have b5 : (s.m : Int) ≤ (k : Int) := by omega
  have b6 : (k : Int) ≤ (z.length : Int) := by omega
  have hx := h.hx
  have hy := h.hy
  have hz := h.hz
  have hi := h.hi
  have hk := h.hk
  have hm := h.hm
  refine ACalls.of_code (X := { pure := puZ }) puZ_ok Tryd.func67 (by kernel_rfl) rfl (by kernel_rfl) (Nat.le_of_ble_eq_true rfl) ?_
  simp -implicitDefEqProofs only [go_sem, tys, regs0, Nat.reduceEqDiff, Nat.reduceAdd, Nat.reduceLeDiff, Nat.reduceLT, Nat.reduceMul, Int.natCast_one, Int.natCast_zero, Int.reduceEq, Int.reduceLT, Int.reduceLE, Int.reduceAdd, Int.reduceSub, Int.reduceToNat, UInt8.reduceToNat, Tryd.f67, puZ, puH3, hx, hy, hz, hi, hk, hm, b1, b2, b3, b4, b5, b6, e1, e2, e3, Int.toNat_natCast, encS_unif, j1, j2, j3, q1]
  refine writeString_k hB (by omega) (fun G1 hB1 hk1 => ?_)
  have hc1 := (h.kept hB hk1 hB1.sub).hc
  have hM1 := (h.kept hB hk1 hB1.sub)
  cases cl with
  | false =>
    simp -implicitDefEqProofs only [go_sem, tys, regs0, Nat.reduceEqDiff, Nat.reduceAdd, Nat.reduceLeDiff, Nat.reduceLT, Nat.reduceMul, Int.natCast_one, Int.natCast_zero, Int.reduceEq, Int.reduceLT, Int.reduceLE, Int.reduceAdd, Int.reduceSub, Int.reduceToNat, UInt8.reduceToNat]
    exact Done.now ⟨rfl, by simpa using hM1.out _, hB1⟩
  | true =>
    have w1 : IntKind.i64.wrap ((s.n : Int) + 1) = ((s.n + 1 : Nat) : Int) := by rw [Go.IntWalk.i64_in _ (by omega)]; omega
    simp -implicitDefEqProofs only [go_sem, tys, regs0, Nat.reduceEqDiff, Nat.reduceAdd, Nat.reduceLeDiff, Nat.reduceLT, Nat.reduceMul, Int.natCast_one, Int.natCast_zero, Int.reduceEq, Int.reduceLT, Int.reduceLE, Int.reduceAdd, Int.reduceSub, Int.reduceToNat, UInt8.reduceToNat, hc1, w1]
    refine Done.now ⟨rfl, by simpa using hM1.count (s.n + 1) _, ?_⟩
    exact hB1.set (h.fr _ (by simp [MI.l])) hc1 (by simp only [MI.ne h.nd, not_false_eq_true]) _
def ot60 : OT := .seg [1, 2, 6, 7] (.or (.seg [0, 3, 4, 5, 8, 9, 10, 11, 12] .done) (.seg [3, 4, 5] (.or (.seg [0, 8, 9, 10, 11, 12] .done) (.seg [8, 0, 9, 10, 11, 12] .done))))
def FrameQ (q : MI) (G G' : Heap) : Prop := ∀ j, (∀ w ∈ q.l, ¬ j = w) → G' j = G j
theorem FrameQ.op (q : MI) (G : Heap) (o : AObj) : FrameQ q G (G.put q.op o) := fun j hj => put_ne _ _ _ _ (hj _ (by simp [MI.l]))
theorem FrameQ.cop (q : MI) (G : Heap) (o o' : AObj) : FrameQ q G ((G.put q.cp o').put q.op o) := fun j hj => by
  rw [put_ne _ _ _ _ (hj _ (by simp [MI.l])), put_ne _ _ _ _ (hj _ (by simp [MI.l]))]
set_option maxHeartbeats 3200000 in
theorem part_k {H G : Heap} {q : MI} {x y z : List Bytes} {s : MS} {i j k : Nat} (h : MC H G q x y z s) (hO : G q.op = some (.cells [.str s.out])) (hb : MB x y z s i j k) {K : K1} (hK : ∀ G', MC H G' q x y z (partV x y z s i j k) → G' q.op = some (.cells [.str (partV x y z s i j k).out]) → FrameQ q G G' → K (.tup []) G') :
    ACalls Tryd.prog 60 [.int .i64 (i : Int), .int .i64 (j : Int), .int .i64 (k : Int), .ptr q.xp 0, .ptr q.ip 0, .ptr q.yp 0, .ptr q.kp 0, .ptr q.zp 0, .ptr q.mp 0, .ptr q.op 0, .ptr q.cp 0] G K := by
  refine ACalls.mono (R := fun v G' => v = .tup [] ∧ MC H G' q x y z (partV x y z s i j k) ∧ G' q.op = some (.cells [.str (partV x y z s i j k).out]) ∧ FrameQ q G G') ?_ (by rintro v G' ⟨rfl, h1, h2, h3⟩; exact hK G' h1 h2 h3)
  obtain ⟨a1, a2, a3, a4, a5, a6, l1, l2, l3, f1, f2, f3, o1, o2⟩ := hb
  have p1 := partT_le x s.i i
  have p2 := partT_le y s.k j
  have p3 := partT_le z s.m k
  have g1 : ((x.take i).drop s.i).length ≤ 1000 := by simp; omega
  have g2 : ((y.take j).drop s.k).length ≤ 1000 := by simp; omega
  have g3 : ((z.take k).drop s.m).length ≤ 1000 := by simp; omega
  have e1 := part_cells (lo := s.i) a2
  have e2 := part_cells (lo := s.k) a4
  have e3 := part_cells (lo := s.m) a6
  unfold partT at p1 p2 p3
  have j1 := fun t => sJoin_eq ((x.take i).drop s.i) t (by omega) (by omega)
  have j2 := fun t => sJoin_eq ((y.take j).drop s.k) t (by omega) (by omega)
  have j3 := fun t => sJoin_eq ((z.take k).drop s.m) t (by omega) (by omega)
  have hpv : partV x y z s i j k = ⟨s.i, s.k, s.m, s.out ++ (settleV ((x.take i).drop s.i).flatten ((y.take j).drop s.k).flatten ((z.take k).drop s.m).flatten).1, s.n + if (settleV ((x.take i).drop s.i).flatten ((y.take j).drop s.k).flatten ((z.take k).drop s.m).flatten).2 then 1 else 0⟩ := rfl
  rw [hpv]
  generalize ((x.take i).drop s.i).flatten = u1 at *
  generalize ((y.take j).drop s.k).flatten = u2 at *
  generalize ((z.take k).drop s.m).flatten = u3 at *
  have hv := settleV.eq_1 u1 u2 u3
  have b1 : (s.i : Int) ≤ (i : Int) := by omega
  have b2 : (i : Int) ≤ (x.length : Int) := by omega
  have b3 : (s.k : Int) ≤ (j : Int) := by omega
  have b4 : (j : Int) ≤ (y.length : Int) := by omega
  have b5 : (s.m : Int) ≤ (k : Int) := by omega
  have b6 : (k : Int) ≤ (z.length : Int) := by omega
  have hx := h.hx
  have hy := h.hy
  have hz := h.hz
  have hi := h.hi
  have hk := h.hk
  have hm := h.hm
  have hc := h.hc
  have n := MI.ne h.nd
  refine ACalls.of_code (X := { pure := puZ, tree := fun n => if n = 3 then some ot60 else none }) puZ_ok Tryd.func60 (by kernel_rfl) rfl (by kernel_rfl) (Nat.le_of_ble_eq_true rfl) ?_
  by_cases c1 : u2 = u1
  · have y1 : decide (u2 = u1) = true := decide_eq_true c1
    rw [if_pos c1] at hv
    simp -implicitDefEqProofs (disch := (first | omega | (simp only [List.length_append, List.length_cons, List.length_nil]; omega))) only [go_sem, binS_addD, tys, regs0, Nat.reduceEqDiff, Nat.reduceAdd, Nat.reduceLeDiff, Nat.reduceLT, Nat.reduceMul, Int.natCast_one, Int.natCast_zero, Int.reduceEq, Int.reduceLT, Int.reduceLE, Int.reduceAdd, Int.reduceSub, Int.reduceToNat, UInt8.reduceToNat, Go.IntWalk.i64_in, Tryd.f60]
    rw [acode_draw]
    simp -implicitDefEqProofs (disch := (first | omega | (simp only [List.length_append, List.length_cons, List.length_nil]; omega))) only [go_sem, binS_addD, tys, regs0, Nat.reduceEqDiff, Nat.reduceAdd, Nat.reduceLeDiff, Nat.reduceLT, Nat.reduceMul, Int.natCast_one, Int.natCast_zero, Int.reduceEq, Int.reduceLT, Int.reduceLE, Int.reduceAdd, Int.reduceSub, Int.reduceToNat, UInt8.reduceToNat, Go.IntWalk.i64_in, puZ, puH3, hx, hy, hz, hi, hk, hm, b1, b2, b3, b4, b5, b6, e1, e2, e3, Int.toNat_natCast, encS_unif, j1, j2, j3, y1, hO]
    exact Done.now ⟨rfl, by rw [hv]; exact (h.op _).out _, by rw [put_same, hv], FrameQ.op _ _ _⟩
  have y1 : decide (u2 = u1) = false := decide_eq_false c1
  rw [if_neg c1] at hv
  by_cases c2 : u3 = u1
  · have y2 : decide (u3 = u1) = true := decide_eq_true c2
    rw [if_pos (.inl c2)] at hv
    simp -implicitDefEqProofs (disch := (first | omega | (simp only [List.length_append, List.length_cons, List.length_nil]; omega))) only [go_sem, binS_addD, tys, regs0, Nat.reduceEqDiff, Nat.reduceAdd, Nat.reduceLeDiff, Nat.reduceLT, Nat.reduceMul, Int.natCast_one, Int.natCast_zero, Int.reduceEq, Int.reduceLT, Int.reduceLE, Int.reduceAdd, Int.reduceSub, Int.reduceToNat, UInt8.reduceToNat, Go.IntWalk.i64_in, Tryd.f60]
    rw [acode_draw]
    simp -implicitDefEqProofs (disch := (first | omega | (simp only [List.length_append, List.length_cons, List.length_nil]; omega))) only [go_sem, binS_addD, tys, regs0, Nat.reduceEqDiff, Nat.reduceAdd, Nat.reduceLeDiff, Nat.reduceLT, Nat.reduceMul, Int.natCast_one, Int.natCast_zero, Int.reduceEq, Int.reduceLT, Int.reduceLE, Int.reduceAdd, Int.reduceSub, Int.reduceToNat, UInt8.reduceToNat, Go.IntWalk.i64_in, puZ, puH3, hx, hy, hz, hi, hk, hm, b1, b2, b3, b4, b5, b6, e1, e2, e3, Int.toNat_natCast, encS_unif, j1, j2, j3, y1, y2, hO]
    exact Done.now ⟨rfl, by rw [hv]; exact (h.op _).out _, by rw [put_same, hv], FrameQ.op _ _ _⟩
  have y2 : decide (u3 = u1) = false := decide_eq_false c2
  by_cases c3 : u3 = u2
  · have y3 : decide (u3 = u2) = true := decide_eq_true c3
    rw [if_pos (.inr c3.symm)] at hv
    simp -implicitDefEqProofs (disch := (first | omega | (simp only [List.length_append, List.length_cons, List.length_nil]; omega))) only [go_sem, binS_addD, tys, regs0, Nat.reduceEqDiff, Nat.reduceAdd, Nat.reduceLeDiff, Nat.reduceLT, Nat.reduceMul, Int.natCast_one, Int.natCast_zero, Int.reduceEq, Int.reduceLT, Int.reduceLE, Int.reduceAdd, Int.reduceSub, Int.reduceToNat, UInt8.reduceToNat, Go.IntWalk.i64_in, Tryd.f60]
    rw [acode_draw]
    simp -implicitDefEqProofs (disch := (first | omega | (simp only [List.length_append, List.length_cons, List.length_nil]; omega))) only [go_sem, binS_addD, tys, regs0, Nat.reduceEqDiff, Nat.reduceAdd, Nat.reduceLeDiff, Nat.reduceLT, Nat.reduceMul, Int.natCast_one, Int.natCast_zero, Int.reduceEq, Int.reduceLT, Int.reduceLE, Int.reduceAdd, Int.reduceSub, Int.reduceToNat, UInt8.reduceToNat, Go.IntWalk.i64_in, puZ, puH3, hx, hy, hz, hi, hk, hm, b1, b2, b3, b4, b5, b6, e1, e2, e3, Int.toNat_natCast, encS_unif, j1, j2, j3, y1, y2, y3, hO]
    exact Done.now ⟨rfl, by rw [hv]; exact (h.op _).out _, by rw [put_same, hv], FrameQ.op _ _ _⟩
  have y3 : decide (u3 = u2) = false := decide_eq_false c3
  rw [if_neg (by rintro (e | e); exact c2 e; exact c3 e.symm)] at hv
  have q1 := sEnded_eq u2 (by omega)
  have q2 := sEnded_eq u3 (by omega)
  have l4 := endedV_len u2
  have l5 := endedV_len u3
  have w1 : IntKind.i64.wrap ((s.n : Int) + 1) = ((s.n + 1 : Nat) : Int) := by rw [Go.IntWalk.i64_in _ (by omega)]; omega
  simp -implicitDefEqProofs (disch := (first | omega | (simp only [List.length_append, List.length_cons, List.length_nil]; omega))) only [go_sem, binS_addD, tys, regs0, Nat.reduceEqDiff, Nat.reduceAdd, Nat.reduceLeDiff, Nat.reduceLT, Nat.reduceMul, Int.natCast_one, Int.natCast_zero, Int.reduceEq, Int.reduceLT, Int.reduceLE, Int.reduceAdd, Int.reduceSub, Int.reduceToNat, UInt8.reduceToNat, Go.IntWalk.i64_in, Tryd.f60]
  rw [acode_draw]
  simp -implicitDefEqProofs (disch := (first | omega | (simp only [List.length_append, List.length_cons, List.length_nil]; omega))) only [go_sem, binS_addD, tys, regs0, Nat.reduceEqDiff, Nat.reduceAdd, Nat.reduceLeDiff, Nat.reduceLT, Nat.reduceMul, Int.natCast_one, Int.natCast_zero, Int.reduceEq, Int.reduceLT, Int.reduceLE, Int.reduceAdd, Int.reduceSub, Int.reduceToNat, UInt8.reduceToNat, Go.IntWalk.i64_in, puZ, puH3, hx, hy, hz, hi, hk, hm, hc, b1, b2, b3, b4, b5, b6, e1, e2, e3, Int.toNat_natCast, encS_unif, j1, j2, j3, y1, y2, y3, hO, w1, put_ne, n]
  rw [acode_tree (t := ot60) rfl (by rfl)]
  simp -implicitDefEqProofs (disch := (first | omega | (simp only [List.length_append, List.length_cons, List.length_nil]; omega))) only [go_sem, binS_addD, tys, regs0, Nat.reduceEqDiff, Nat.reduceAdd, Nat.reduceLeDiff, Nat.reduceLT, Nat.reduceMul, Int.natCast_one, Int.natCast_zero, Int.reduceEq, Int.reduceLT, Int.reduceLE, Int.reduceAdd, Int.reduceSub, Int.reduceToNat, UInt8.reduceToNat, Go.IntWalk.i64_in, ot60, stripO, hO, puZ, puH3, q1, q2, put_ne, n]
  refine ⟨?_, ?_, ?_⟩
  all_goals exact Done.now ⟨rfl, by rw [hv]; exact (h.count (s.n + 1) _).op _, by rw [put_same, hv]; rfl, FrameQ.cop _ _ _ _⟩
theorem eq0_calls {G : Heap} {p : Nat} (a : Nat × Nat) (n : Nat) (c : AV) (hp : G p = some (.cells [.int .i64 (n : Int), c])) : ACalls Tryd.prog 65 [.agg (encP a), .ptr p 0] G fun v G' => v = .bool (decide ((a.1 : Int) = (n : Int))) ∧ G' = G := by
  refine ACalls.of_code (X := { pure := pu0 }) pu0_ok Tryd.func65 (by kernel_rfl) rfl (by kernel_rfl) (Nat.le_of_ble_eq_true rfl) ?_
  simp -implicitDefEqProofs only [go_sem, tys, regs0, Nat.reduceEqDiff, Nat.reduceAdd, Nat.reduceLeDiff, Nat.reduceLT, Nat.reduceMul, Int.natCast_one, Int.natCast_zero, Int.reduceEq, Int.reduceLT, Int.reduceLE, Int.reduceAdd, Int.reduceSub, Int.reduceToNat, UInt8.reduceToNat, Tryd.f65, encP]
  with_reducible refine nwC_intro fun id hid => ?_
  have n1 : ¬ p = id := fun e => by rw [← e, hp] at hid; cases hid
  simp -implicitDefEqProofs only [go_sem, tys, regs0, Nat.reduceEqDiff, Nat.reduceAdd, Nat.reduceLeDiff, Nat.reduceLT, Nat.reduceMul, Int.natCast_one, Int.natCast_zero, Int.reduceEq, Int.reduceLT, Int.reduceLE, Int.reduceAdd, Int.reduceSub, Int.reduceToNat, UInt8.reduceToNat, put_ne, n1, hp, Int.toNat_zero, Nat.zero_mul]
  exact Done.drop1 hid ⟨rfl, rfl⟩
theorem idxF_calls {G : Heap} {p : Nat} (l : List (Nat × Nat)) (n : Nat) (c : AV) (t : Tail) (hp : G p = some (.cells [.int .i64 (n : Int), c])) (hl : l.length ≤ 1000) : ACalls Tryd.prog 64 [.sl (l.map encP) t, .func 65 [.ptr p 0]] G fun v G' => v = .int .i64 (idxI (idx n (l.map (·.1)))) ∧ G' = G := by
  refine ACalls.of_code (X := { pure := pu0 }) pu0_ok Tryd.func64 (by kernel_rfl) rfl (by kernel_rfl) (Nat.le_of_ble_eq_true rfl) ?_
  simp -implicitDefEqProofs only [go_sem, tys, regs0, Nat.reduceEqDiff, Nat.reduceAdd, Nat.reduceLeDiff, Nat.reduceLT, Nat.reduceMul, Int.natCast_one, Int.natCast_zero, Int.reduceEq, Int.reduceLT, Int.reduceLE, Int.reduceAdd, Int.reduceSub, Int.reduceToNat, UInt8.reduceToNat, Tryd.f64]
  refine aloop_intro (σ := Nat) (fun i => [(0, .sl (l.map encP) t), (1, .func 65 [.ptr p 0]), (7, .int .i64 l.length), (8, .int .i64 (i : Int))]) (fun i G' => G' = G ∧ i ≤ l.length ∧ ∀ j, j < i → (l.map (·.1))[j]? ≠ some n) (fun i => l.length - i) 0 ?_ ?_ ?_
  · simp -implicitDefEqProofs only [go_sem, tys, regs0, Nat.reduceEqDiff, Nat.reduceAdd, Nat.reduceLeDiff, Nat.reduceLT, Nat.reduceMul, Int.natCast_one, Int.natCast_zero, Int.reduceEq, Int.reduceLT, Int.reduceLE, Int.reduceAdd, Int.reduceSub, Int.reduceToNat, UInt8.reduceToNat]
  · exact ⟨rfl, Nat.zero_le _, fun j hj => by omega⟩
  · intro i r G hv hI
    have h0 := hv.1
    have h1 := hv.2.1
    have h7 := hv.2.2.1
    have h8 := hv.2.2.2.1
    have hG := hI.1.symm
    have hi := hI.2.1
    have hn := hI.2.2
    clear hv hI
    subst hG
    simp -implicitDefEqProofs only [go_sem, tys, regs0, Nat.reduceEqDiff, Nat.reduceAdd, Nat.reduceLeDiff, Nat.reduceLT, Nat.reduceMul, Int.natCast_one, Int.natCast_zero, Int.reduceEq, Int.reduceLT, Int.reduceLE, Int.reduceAdd, Int.reduceSub, Int.reduceToNat, UInt8.reduceToNat, h0, h1, h7, h8]
    refine cnd_intro (fun g => ?_) (fun g => ?_)
    · simp only [decide_eq_true_eq] at g
      obtain ⟨a, ha⟩ : ∃ a, l[i]? = some a := getD_get' (by omega)
      have hm : (l.map (·.1))[i]? = some a.1 := by rw [List.getElem?_map, ha]; rfl
      have w : IntKind.i64.wrap ((i : Int) + 1) = ((i + 1 : Nat) : Int) := by rw [Go.IntWalk.i64_in _ (by omega)]; omega
      have hcal := fun (G' : Heap) (hp : G' p = some (.cells [.int .i64 (n : Int), c])) => eq0_calls a n c hp
      simp only [encP] at hcal
      simp -implicitDefEqProofs only [go_sem, tys, regs0, Nat.reduceEqDiff, Nat.reduceAdd, Nat.reduceLeDiff, Nat.reduceLT, Nat.reduceMul, Int.natCast_one, Int.natCast_zero, Int.reduceEq, Int.reduceLT, Int.reduceLE, Int.reduceAdd, Int.reduceSub, Int.reduceToNat, UInt8.reduceToNat, h0, h1, h7, h8, ha, encP]
      refine (hcal _ hp).pure_next _ ?_
      by_cases e : a.1 = n
      · have y : decide ((a.1 : Int) = (n : Int)) = true := decide_eq_true (by omega)
        simp -implicitDefEqProofs only [go_sem, tys, regs0, Nat.reduceEqDiff, Nat.reduceAdd, Nat.reduceLeDiff, Nat.reduceLT, Nat.reduceMul, Int.natCast_one, Int.natCast_zero, Int.reduceEq, Int.reduceLT, Int.reduceLE, Int.reduceAdd, Int.reduceSub, Int.reduceToNat, UInt8.reduceToNat, h0, h1, h7, h8, y]
        exact Done.now ⟨by rw [idx_eq (n := i) (by rw [hm, e]) hn]; rfl, rfl⟩
      · have y : decide ((a.1 : Int) = (n : Int)) = false := decide_eq_false (by omega)
        simp -implicitDefEqProofs only [go_sem, tys, regs0, Nat.reduceEqDiff, Nat.reduceAdd, Nat.reduceLeDiff, Nat.reduceLT, Nat.reduceMul, Int.natCast_one, Int.natCast_zero, Int.reduceEq, Int.reduceLT, Int.reduceLE, Int.reduceAdd, Int.reduceSub, Int.reduceToNat, UInt8.reduceToNat, h0, h1, h7, h8, y, w]
        refine Again.mk (i + 1) (by simp -implicitDefEqProofs only [go_sem, tys, regs0, Nat.reduceEqDiff, Nat.reduceAdd, Nat.reduceLeDiff, Nat.reduceLT, Nat.reduceMul, Int.natCast_one, Int.natCast_zero, Int.reduceEq, Int.reduceLT, Int.reduceLE, Int.reduceAdd, Int.reduceSub, Int.reduceToNat, UInt8.reduceToNat, h0, h1, h7, h8]) ⟨rfl, by omega, fun j hj => ?_⟩ (by omega)
        by_cases ej : j = i
        · subst ej; rw [ha]; simpa using e
        · simpa using hn j (by omega)
    · simp only [decide_eq_false_iff_not] at g
      have e : i = l.length := by omega
      subst e
      simp -implicitDefEqProofs only [go_sem, tys, regs0, Nat.reduceEqDiff, Nat.reduceAdd, Nat.reduceLeDiff, Nat.reduceLT, Nat.reduceMul, Int.natCast_one, Int.natCast_zero, Int.reduceEq, Int.reduceLT, Int.reduceLE, Int.reduceAdd, Int.reduceSub, Int.reduceToNat, UInt8.reduceToNat, h0, h1, h7, h8]
      exact Done.now ⟨by rw [idx_eq_none (by rw [List.length_map]; exact hn)]; rfl, rfl⟩
theorem lk_idx {n : Nat} : ∀ {l : List (Nat × Nat)}, lk n l = (idx n (l.map (·.1))).bind fun t => (l[t]?).map (·.2)
  | [] => rfl
  | p :: l => by
    rw [lk, List.map_cons, idx]
    by_cases e : p.1 = n
    · rw [if_pos e, if_pos e]; rfl
    · rw [if_neg e, if_neg e, lk_idx]
      cases idx n (l.map (·.1)) <;> rfl
end Go.Proofs
