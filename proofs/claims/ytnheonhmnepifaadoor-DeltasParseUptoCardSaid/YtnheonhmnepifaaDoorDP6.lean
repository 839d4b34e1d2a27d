/- Walks: the reference reads a delta. -/
import Derived.Test.YtnheonhmnepifaaDoorDP5
namespace Go.Proofs
open Go Go.Abs
set_option linter.unusedSimpArgs false
set_option linter.unusedVariables false
set_option maxRecDepth 20000
def puQ2 : Pures := putP 24 sCheck puQ
theorem puQ2_ok : PuOK Tryd.prog puQ2 := PuOK.put puQ_ok (sCheck_ok rDelta_calls)
def zD : AObj := .cells [.int .i64 0, .int .i64 0, .str [], .str [], .sl [] .exact]
def nD (a b : Int) (u v : Bytes) (out : List PieceV) (tl : Tail) : AObj := .cells [.int .i64 a, .int .i64 b, .str u, .str v, .sl (out.map encPc) tl]
/-- What the reading keeps: the answer's cell, the rest, whether it is bad, the reading function. -/
structure RW (H : Heap) (i2 i4 i5 i6 : Nat) (G : Heap) (rest : Bytes) (b : Bool) : Prop where
  sub : H.Sub G
  z : G i2 = some zD
  r : G i4 = some (.cells [.str rest])
  b : G i5 = some (.cells [.bool b])
  f : G i6 = some (.cells [takeF i4 i5])
structure Ids (H : Heap) (i2 i4 i5 i6 : Nat) : Prop where
  h4 : H i4 = none
  h5 : H i5 = none
  n24 : ¬ i2 = i4
  n25 : ¬ i2 = i5
  n45 : ¬ i4 = i5
  n64 : ¬ i6 = i4
  n65 : ¬ i6 = i5
theorem RW.rb {H G : Heap} {i2 i4 i5 i6 : Nat} {rest : Bytes} {b : Bool} (h : RW H i2 i4 i5 i6 G rest b) (n : Ids H i2 i4 i5 i6) (rest' : Bytes) (b' : Bool) : RW H i2 i4 i5 i6 (RB G i4 i5 rest' b') rest' b' :=
  ⟨(h.sub.put' n.h4 _).put' n.h5 _, by rw [RB_o _ n.n24 n.n25]; exact h.z, RB_r _ n.n45 _ _, RB_b _ _ _ _ _, by rw [RB_o _ n.n64 n.n65]; exact h.f⟩
theorem RW.new {H G : Heap} {i2 i4 i5 i6 i : Nat} {rest : Bytes} {b : Bool} (h : RW H i2 i4 i5 i6 G rest b) (hi : G i = none) (o : AObj) : RW H i2 i4 i5 i6 (G.put i o) rest b := by
  have k : ∀ j x, G j = some x → (G.put i o) j = some x := fun j x hj => by
    rw [put_ne _ _ _ _ (fun e => by rw [e, hi] at hj; cases hj)]; exact hj
  exact ⟨h.sub.put' (sub_none h.sub hi) _, k _ _ h.z, k _ _ h.r, k _ _ h.b, k _ _ h.f⟩
/-- Another object is written. -/
theorem RW.set {H G : Heap} {i2 i4 i5 i6 i : Nat} {rest : Bytes} {b : Bool} (h : RW H i2 i4 i5 i6 G rest b) (hi : H i = none) (n2 : ¬ i2 = i) (n4 : ¬ i4 = i) (n5 : ¬ i5 = i) (n6 : ¬ i6 = i) (o : AObj) : RW H i2 i4 i5 i6 (G.put i o) rest b :=
  ⟨h.sub.put' hi _, by rw [put_ne _ _ _ _ n2]; exact h.z, by rw [put_ne _ _ _ _ n4]; exact h.r, by rw [put_ne _ _ _ _ n5]; exact h.b, by rw [put_ne _ _ _ _ n6]; exact h.f⟩
theorem appRb {H G : Heap} {i2 i4 i5 i6 : Nat} {rest : Bytes} {b : Bool} (hw : RW H i2 i4 i5 i6 G rest b) (n : Ids H i2 i4 i5 i6) {k : Nat} {acc : List (List AV)} {tl : Tail} (h : AppOK H G k acc tl) (rest' : Bytes) (b' : Bool) : AppOK H (RB G i4 i5 rest' b') k acc tl :=
  (h.set n.h4 hw.r (fun _ e => by cases e)).set n.h5 (by rw [put_ne _ _ _ _ (fun e => n.n45 e.symm)]; exact hw.b) (fun _ e => by cases e)
theorem rtake_u {G : Heap} {ir ib : Nat} (hne : ¬ ir = ib) {r : Bytes} {b : Bool} {n : Nat} (h1 : G ir = some (.cells [.str r])) (h2 : G ib = some (.cells [.bool b])) (hr : r.length ≤ 1099511627776) {K : K1}
    (hK : ∀ (k r' : Bytes) (b' : Bool), (k = r.take n ∧ r' = r.drop n ∧ n ≤ r.length ∧ b' = b) ∨ (k = [] ∧ r' = [] ∧ b' = true ∧ r.length < n) → K (.str k) (RB G ir ib r' b')) :
    ACalls Tryd.prog 86 [.int .i64 n, .ptr ir 0, .ptr ib 0] G K :=
  rtake_k hne h1 h2 hr (fun m hm hle => by
    obtain rfl : n = m := by omega
    exact hK _ _ _ (.inl ⟨rfl, rfl, hle, rfl⟩)) (fun hf => hK _ _ _ (.inr ⟨rfl, rfl, rfl, by omega⟩))
theorem RW.bad {H G : Heap} {i2 i4 i5 i6 : Nat} {rest : Bytes} {b : Bool} (h : RW H i2 i4 i5 i6 G rest b) (n : Ids H i2 i4 i5 i6) : RW H i2 i4 i5 i6 (G.put i5 (.cells [.bool true])) rest true :=
  ⟨h.sub.put' n.h5 _, by rw [put_ne _ _ _ _ n.n25]; exact h.z, by rw [put_ne _ _ _ _ n.n45]; exact h.r, put_same _ _ _, by rw [put_ne _ _ _ _ n.n65]; exact h.f⟩
theorem RW.kept {H G G' : Heap} {i2 i4 i5 i6 : Nat} {rest : Bytes} {b : Bool} (h : RW H i2 i4 i5 i6 G rest b) (hk : Kept G G') (hs : H.Sub G') : RW H i2 i4 i5 i6 G' rest b :=
  ⟨hs, hk.cells h.z, hk.cells h.r, hk.cells h.b, hk.cells h.f⟩
def ot17 : OT := .seg [0, 2, 4] (.or (.seg [1, 3, 5, 6, 7, 8, 9, 10] .done) (.seg [3] (.or (.seg [1, 5, 6, 7, 8, 9, 10] .done) (.seg [5, 1, 6, 7, 8, 9, 10] .done))))
def ot19 : OT := .seg [1] (.or (.seg [0] (.or (.seg [2] (.or (.seg [3, 4, 5, 6] .done) (.seg [5, 3, 4, 6] .done))) (.seg [5, 2, 3, 4, 6] .done))) (.or (.seg [2] (.or (.seg [0] (.or (.seg [3, 4, 5, 6] .done) (.seg [5, 3, 4, 6] .done))) (.seg [5, 0, 3, 4, 6] .done))) (.seg [5] (.or (.seg [0, 2, 3, 4, 6] .done) (.seg [2, 0, 3, 4, 6] .done)))))
def pdOT (n : Nat) : Option OT := if n = 17 then some ot17 else if n = 19 then some ot19 else none
def rdRegs (s : Bytes) (i2 i4 i5 i6 i9 : Nat) (e : Bool) : List (Nat × AV) := [(0, .str s), (2, .ptr i2 0), (4, .ptr i4 0), (5, .ptr i5 0), (6, .ptr i6 0), (7, .func 87 [.ptr i6 0, .ptr i5 0]), (8, .func 88 [.ptr i6 0]), (9, .ptr i9 0), (10, .bool e)]
def RQ (s : Bytes) (H : Heap) (i2 i4 i5 i6 i9 v1 v2 : Nat) (x3 x4 : Bytes) (r : Regs) (G : Heap) : Prop := ∃ (out : List PieceV) (tl : Tail) (rest : Bytes) (b e : Bool),
  agrees r [(0, .str s), (2, .ptr i2 0), (4, .ptr i4 0), (5, .ptr i5 0), (8, .func 88 [.ptr i6 0]), (9, .ptr i9 0), (10, .bool e)] ∧ RW H i2 i4 i5 i6 G rest b ∧ G i9 = some (nD v1 v2 x3 x4 out tl) ∧ rest.length ≤ s.length ∧ psR out ∧ St (bodyR s) (b || e) (some (⟨v1, v2, x3, x4, out⟩, rest))
def RI (s : Bytes) (H : Heap) (i2 i4 i5 i6 i9 v1 v2 n : Nat) (x3 x4 : Bytes) (t : Nat × List PieceV × Tail × Bytes × Bool × Bool) (G : Heap) : Prop :=
  AppOK H G 3 (t.2.1.map encPc) t.2.2.1 ∧ RW H i2 i4 i5 i6 G t.2.2.2.1 t.2.2.2.2.1 ∧ G i9 = some (nD v1 v2 x3 x4 t.2.1 t.2.2.1) ∧ t.2.2.2.1.length ≤ s.length ∧ t.2.1.length + t.1 ≤ n ∧ (∀ p ∈ t.2.1, pcR p) ∧ St (bodyR s) (t.2.2.2.2.1 || t.2.2.2.2.2) (R6 v1 v2 x3 x4 t.2.1 t.1 t.2.2.2.1)
theorem new_at' {G : Heap} {i : Nat} {x : AObj} (_ : G i = some x) (o : AObj) : (G.put i o) i = some o := put_same _ _ _
theorem pcs_snoc {out : List PieceV} {x : PieceV} (h : ∀ p ∈ out, pcR p) (hx : pcR x) : ∀ p ∈ out ++ [x], pcR p := by
  intro p hp
  rcases List.mem_append.1 hp with k | k
  · exact h p k
  · rw [List.mem_singleton] at k; rw [k]; exact hx
theorem new_at {G : Heap} {i : Nat} (_ : G i = none) (o : AObj) : (G.put i o) i = some o := put_same _ _ _
theorem new_keep {G : Heap} {i j : Nat} {x : AObj} (hi : G i = none) (hj : G j = some x) (o : AObj) : (G.put i o) j = some x := by
  rw [put_ne _ _ _ _ (fun e => by rw [e, hi] at hj; cases hj)]; exact hj
theorem piece_data {r' q1 q2 tk : Bytes} {w1 : Nat} {c1 c2 : Bool} (g3 : c1 = false → false = false ∧ num r' = some (w1, q1)) (g4 : c1 = true → false = true ∨ num r' = none)
    (hk : (tk = q1.take w1 ∧ q2 = q1.drop w1 ∧ w1 ≤ q1.length ∧ c2 = c1) ∨ (tk = [] ∧ q2 = [] ∧ c2 = true ∧ q1.length < w1)) :
    (c2 = false → tk ≠ [] → pieceR (1 :: r') = some (⟨0, 0, tk⟩, q2)) ∧ (c2 = true ∨ tk = [] → pieceR (1 :: r') = none) := by
  have hpc := piece1 (l := 1 :: r') rfl
  rw [hpc]
  cases c1 with
  | true =>
    rcases g4 rfl with h | h
    · cases h
    · rw [h]
      refine ⟨fun h1 _ => ?_, fun _ => rfl⟩
      rcases hk with ⟨-, -, -, h2⟩ | ⟨-, -, h2, -⟩ <;> rw [h2] at h1 <;> cases h1
  | false =>
    rw [(g3 rfl).2]
    simp only [Option.bind_some]
    rcases hk with ⟨h1, h2, h3, h4⟩ | ⟨h1, h2, h3, h4⟩
    · subst h1; subst h2
      have hl : (q1.take w1).length = w1 := by rw [List.length_take]; omega
      refine ⟨fun _ h => ?_, fun h => ?_⟩
      · rw [if_neg]
        rintro (h5 | h5)
        · rw [h5] at hl; exact h (List.eq_nil_of_length_eq_zero (by rw [h5]; rfl))
        · omega
      · rw [if_pos]
        rcases h with h | h
        · rw [h4] at h; cases h
        · rw [h] at hl; exact .inl hl.symm
    · refine ⟨fun h => (by rw [h3] at h; cases h), fun _ => ?_⟩
      rw [if_pos (.inr h4)]
def M19 (s : Bytes) (H : Heap) (i2 i4 i5 i6 i9 v1 v2 : Nat) (x3 x4 : Bytes) (out : List PieceV) (tl : Tail) (m : Nat) (e : Bool) (rest : Bytes) (r : Regs) (G : Heap) : Prop := ∃ (i12 : Nat) (tk rest' : Bytes) (b' : Bool),
  agrees r [(0, .str s), (2, .ptr i2 0), (4, .ptr i4 0), (5, .ptr i5 0), (6, .ptr i6 0), (7, .func 87 [.ptr i6 0, .ptr i5 0]), (8, .func 88 [.ptr i6 0]), (9, .ptr i9 0), (10, .bool e), (11, .int .i64 ((m + 1 : Nat) : Int)), (12, .ptr i12 0)] ∧
  RW H i2 i4 i5 i6 G rest' b' ∧ AppOK H G 3 (out.map encPc) tl ∧ G i9 = some (nD v1 v2 x3 x4 out tl) ∧ G i12 = some (.cells [.int .i64 0, .int .i64 0, .str tk]) ∧ rest'.length ≤ s.length ∧ tk.length ≤ s.length ∧
  (b' = false → tk ≠ [] → pieceR rest = some (⟨0, 0, tk⟩, rest')) ∧ (b' = true ∨ tk = [] → pieceR rest = none)
set_option maxHeartbeats 6400000 in
theorem parseR_calls (s : Bytes) (H : Heap) (hs : s.length ≤ 1099511627776) : ACalls Tryd.prog 30 [.str s] H fun x H' => x = parseT s ∧ H' = H := by
  refine ACalls.of_code (X := { pure := puQ2, tree := pdOT }) puQ2_ok Tryd.func30 (by kernel_rfl) rfl (by kernel_rfl) (Nat.le_of_ble_eq_true rfl) ?_
  simp -implicitDefEqProofs only [go_sem, tys, regs0, Nat.reduceEqDiff, Nat.reduceAdd, Nat.reduceLeDiff, Nat.reduceLT, Nat.reduceMul, Int.natCast_one, Int.natCast_zero, Int.reduceEq, Int.reduceLT, Int.reduceLE, Int.reduceAdd, Int.reduceSub, Int.reduceToNat, UInt8.reduceToNat, Tryd.f30]
  with_reducible refine nwC_intro fun i2 hi2 => ?_
  by_cases hl : 2097152 < s.length
  · have k1 : decide ((2097152 : Int) < s.length) = true := decide_eq_true (by omega)
    simp -implicitDefEqProofs only [go_sem, tys, regs0, Nat.reduceEqDiff, Nat.reduceAdd, Nat.reduceLeDiff, Nat.reduceLT, Nat.reduceMul, Int.natCast_one, Int.natCast_zero, Int.reduceEq, Int.reduceLT, Int.reduceLE, Int.reduceAdd, Int.reduceSub, Int.reduceToNat, UInt8.reduceToNat, k1]
    refine Done.wk 3 (Done.drop1 hi2 ⟨?_, rfl⟩)
    unfold parseT parseV
    rw [if_pos hl]
    rfl
  have k1 : decide ((2097152 : Int) < s.length) = false := decide_eq_false (by omega)
  have hfail : bodyR s = none → parseT s = .tup [.agg (encDl DeltaV.zero .unk), .int .i64 8] := fun h => by
    unfold parseT parseV
    rw [if_neg hl, h]
  simp -implicitDefEqProofs only [go_sem, tys, regs0, Nat.reduceEqDiff, Nat.reduceAdd, Nat.reduceLeDiff, Nat.reduceLT, Nat.reduceMul, Int.natCast_one, Int.natCast_zero, Int.reduceEq, Int.reduceLT, Int.reduceLE, Int.reduceAdd, Int.reduceSub, Int.reduceToNat, UInt8.reduceToNat, k1]
  with_reducible refine nwC_intro fun i4 hi4 => ?_
  have n24 := (heap_none hi4).2.1
  have n42 := (heap_none hi4).1
  have hi4H := (heap_none hi4).2.2
  simp -implicitDefEqProofs only [go_sem, tys, regs0, Nat.reduceEqDiff, Nat.reduceAdd, Nat.reduceLeDiff, Nat.reduceLT, Nat.reduceMul, Int.natCast_one, Int.natCast_zero, Int.reduceEq, Int.reduceLT, Int.reduceLE, Int.reduceAdd, Int.reduceSub, Int.reduceToNat, UInt8.reduceToNat]
  with_reducible refine nwC_intro fun i5 hi5 => ?_
  have n45 := (heap_none hi5).2.1
  have n54 := (heap_none hi5).1
  have n25 := (heap_none (heap_none hi5).2.2).2.1
  have n52 := (heap_none (heap_none hi5).2.2).1
  have hi5H := (heap_none (heap_none hi5).2.2).2.2
  simp -implicitDefEqProofs only [go_sem, tys, regs0, Nat.reduceEqDiff, Nat.reduceAdd, Nat.reduceLeDiff, Nat.reduceLT, Nat.reduceMul, Int.natCast_one, Int.natCast_zero, Int.reduceEq, Int.reduceLT, Int.reduceLE, Int.reduceAdd, Int.reduceSub, Int.reduceToNat, UInt8.reduceToNat, put_ne, n24, n42, n45, n54, n25, n52]
  have q1 : (((((H.put i2 (.cells [.int .i64 0, .int .i64 0, .str [], .str [], .sl [] .exact])).put i4 (.cells [.str []])).put i5 (.cells [.bool false])).put i4 (.cells [.str s])).put i5 (.cells [.bool false])) i2 = some zD := by rw [put_ne _ _ _ _ n25, put_ne _ _ _ _ n24, put_ne _ _ _ _ n25, put_ne _ _ _ _ n24]; exact put_same _ _ _
  have q2 : (((((H.put i2 (.cells [.int .i64 0, .int .i64 0, .str [], .str [], .sl [] .exact])).put i4 (.cells [.str []])).put i5 (.cells [.bool false])).put i4 (.cells [.str s])).put i5 (.cells [.bool false])) i4 = some (.cells [.str s]) := by rw [put_ne _ _ _ _ n45]; exact put_same _ _ _
  have q3 : (((((H.put i2 (.cells [.int .i64 0, .int .i64 0, .str [], .str [], .sl [] .exact])).put i4 (.cells [.str []])).put i5 (.cells [.bool false])).put i4 (.cells [.str s])).put i5 (.cells [.bool false])) i5 = some (.cells [.bool false]) := put_same _ _ _
  have q4 : H.Sub (((((H.put i2 (.cells [.int .i64 0, .int .i64 0, .str [], .str [], .sl [] .exact])).put i4 (.cells [.str []])).put i5 (.cells [.bool false])).put i4 (.cells [.str s])).put i5 (.cells [.bool false])) := (((((Heap.Sub.rfl' H).put' hi2 _).put' hi4H _).put' hi5H _).put' hi4H _).put' hi5H _
  generalize ((((H.put i2 (.cells [.int .i64 0, .int .i64 0, .str [], .str [], .sl [] .exact])).put i4 (.cells [.str []])).put i5 (.cells [.bool false])).put i4 (.cells [.str s])).put i5 (.cells [.bool false]) = G at *
  with_reducible refine nwC_intro fun i6 hi6 => ?_
  have n26 : ¬ i2 = i6 := fun e => by rw [← e, q1] at hi6; cases hi6
  have n46 : ¬ i4 = i6 := fun e => by rw [← e, q2] at hi6; cases hi6
  have n56 : ¬ i5 = i6 := fun e => by rw [← e, q3] at hi6; cases hi6
  have n62 : ¬ i6 = i2 := fun e => n26 e.symm
  have n64 : ¬ i6 = i4 := fun e => n46 e.symm
  have n65 : ¬ i6 = i5 := fun e => n56 e.symm
  have hi6H := sub_none q4 hi6
  have ids : Ids H i2 i4 i5 i6 := ⟨hi4H, hi5H, n24, n25, n45, n64, n65⟩
  simp -implicitDefEqProofs only [go_sem, tys, regs0, Nat.reduceEqDiff, Nat.reduceAdd, Nat.reduceLeDiff, Nat.reduceLT, Nat.reduceMul, Int.natCast_one, Int.natCast_zero, Int.reduceEq, Int.reduceLT, Int.reduceLE, Int.reduceAdd, Int.reduceSub, Int.reduceToNat, UInt8.reduceToNat]
  have hW : RW H i2 i4 i5 i6 (G.put i6 (.cells [takeF i4 i5])) s false := ⟨q4.put' hi6H _, by rw [put_ne _ _ _ _ n26]; exact q1, by rw [put_ne _ _ _ _ n46]; exact q2, by rw [put_ne _ _ _ _ n56]; exact q3, put_same _ _ _⟩
  unfold takeF at hW
  generalize G.put i6 (.cells [.func 86 [.ptr i4 0, .ptr i5 0]]) = G1 at *
  clear q1 q2 q3 q4 hi6 hi5 hi4
  have hf := hW.f
  unfold takeF at hf
  simp -implicitDefEqProofs only [go_sem, tys, regs0, Nat.reduceEqDiff, Nat.reduceAdd, Nat.reduceLeDiff, Nat.reduceLT, Nat.reduceMul, Int.natCast_one, Int.natCast_zero, Int.reduceEq, Int.reduceLT, Int.reduceLE, Int.reduceAdd, Int.reduceSub, Int.reduceToNat, UInt8.reduceToNat, hf, puQ2, puQ, puP5, puM, puN, pu0]
  refine rtake_u n45 hW.r hW.b hs (n := 4) (fun k r0 b0 hk => ?_)
  have hB := RB_b G1 i4 i5 r0 b0
  have hr0 : r0.length ≤ s.length := by
    rcases hk with ⟨-, h, -⟩ | ⟨-, h, -⟩
    · rw [h, List.length_drop]; omega
    · rw [h]; exact Nat.zero_le _
  have hSt : St (bodyR s) (decide (¬ k = [79, 70, 68, 49])) (R1 r0) := by
    rcases hk with ⟨h1, h2, h3, h4⟩ | ⟨h1, h2, h3, h4⟩
    · refine ⟨fun e => ?_, fun e => ?_⟩
      · have e := of_decide_eq_false e
        rw [h2]
        exact bodyR_R1 (by rw [← h1]; exact Decidable.not_not.1 e)
      · have e := of_decide_eq_true e
        unfold bodyR
        rw [if_neg (by rw [← h1]; exact e)]
    · refine ⟨fun e => ?_, fun _ => ?_⟩
      · rw [h1] at e; exact absurd e (by decide)
      · unfold bodyR
        rw [if_neg]
        intro e
        have := congrArg List.length e
        rw [List.length_take] at this
        simp at this
        omega
  clear hk
  simp -implicitDefEqProofs only [go_sem, tys, regs0, Nat.reduceEqDiff, Nat.reduceAdd, Nat.reduceLeDiff, Nat.reduceLT, Nat.reduceMul, Int.natCast_one, Int.natCast_zero, Int.reduceEq, Int.reduceLT, Int.reduceLE, Int.reduceAdd, Int.reduceSub, Int.reduceToNat, UInt8.reduceToNat, hB]
  have hfold : (RB G1 i4 i5 r0 b0).put i5 (.cells [.bool (decide (¬ k = [79, 70, 68, 49]))]) = RB G1 i4 i5 r0 (decide (¬ k = [79, 70, 68, 49])) := put_put' _ _ _ _
  rw [hfold]
  clear hfold hB
  have hW1 := hW.rb ids r0 (decide (¬ k = [79, 70, 68, 49]))
  generalize decide (¬ k = [79, 70, 68, 49]) = b1 at *
  generalize RB G1 i4 i5 r0 b1 = G2 at *
  clear hW hf
  refine rnum_k n45 n64 n65 hW1.r hW1.b hW1.f (by omega) (fun v1 r1 b2 hv1 a1 a3 a4 => ?_)
  have hSt1 := hSt.step a3 a4
  have hW2 := hW1.rb ids r1 b2
  generalize RB G2 i4 i5 r1 b2 = G3 at *
  clear hW1 hSt a3 a4
  simp -implicitDefEqProofs only [go_sem, tys, regs0, Nat.reduceEqDiff, Nat.reduceAdd, Nat.reduceLeDiff, Nat.reduceLT, Nat.reduceMul, Int.natCast_one, Int.natCast_zero, Int.reduceEq, Int.reduceLT, Int.reduceLE, Int.reduceAdd, Int.reduceSub, Int.reduceToNat, UInt8.reduceToNat, puQ2, puQ, puP5, puM, puN, pu0]
  refine rnum_k n45 n64 n65 hW2.r hW2.b hW2.f (by omega) (fun v2 r2 b3 hv2 a2 a3 a4 => ?_)
  have hSt2 := hSt1.step a3 a4
  have hW3 := hW2.rb ids r2 b3
  generalize RB G3 i4 i5 r2 b3 = G4 at *
  clear hW2 hSt1 a3 a4
  simp -implicitDefEqProofs only [go_sem, tys, regs0, Nat.reduceEqDiff, Nat.reduceAdd, Nat.reduceLeDiff, Nat.reduceLT, Nat.reduceMul, Int.natCast_one, Int.natCast_zero, Int.reduceEq, Int.reduceLT, Int.reduceLE, Int.reduceAdd, Int.reduceSub, Int.reduceToNat, UInt8.reduceToNat, puQ2, puQ, puP5, puM, puN, pu0]
  with_reducible refine nwC_intro fun i9 hi9 => ?_
  have n29 : ¬ i2 = i9 := fun e => by rw [← e, hW3.z] at hi9; cases hi9
  have n49 : ¬ i4 = i9 := fun e => by rw [← e, hW3.r] at hi9; cases hi9
  have n59 : ¬ i5 = i9 := fun e => by rw [← e, hW3.b] at hi9; cases hi9
  have n69 : ¬ i6 = i9 := fun e => by rw [← e, hW3.f] at hi9; cases hi9
  have n94 : ¬ i9 = i4 := fun e => n49 e.symm
  have n95 : ¬ i9 = i5 := fun e => n59 e.symm
  have hi9H := sub_none hW3.sub hi9
  simp -implicitDefEqProofs only [go_sem, tys, regs0, Nat.reduceEqDiff, Nat.reduceAdd, Nat.reduceLeDiff, Nat.reduceLT, Nat.reduceMul, Int.natCast_one, Int.natCast_zero, Int.reduceEq, Int.reduceLT, Int.reduceLE, Int.reduceAdd, Int.reduceSub, Int.reduceToNat, UInt8.reduceToNat]
  have hW4 := hW3.set hi9H n29 n49 n59 n69 (nD v1 v2 [] [] [] .exact)
  have hD4 := put_same G4 i9 (nD v1 v2 [] [] [] .exact)
  have hfold : G4.put i9 (.cells [.int .i64 v1, .int .i64 v2, .str [], .str [], .sl [] .exact]) = G4.put i9 (nD v1 v2 [] [] [] .exact) := rfl
  rw [hfold]
  generalize G4.put i9 (nD v1 v2 [] [] [] .exact) = G5 at *
  clear hW3 hfold hi9
  refine rhex_k n45 hW4.r hW4.b hW4.f (by omega) (fun x3 r3 b4 hx3 a5 a3 a4 => ?_)
  have hSt3 := hSt2.step a3 a4
  have hW5 := hW4.rb ids r3 b4
  have hD5 := (RB_o G5 n94 n95 r3 b4).trans hD4
  generalize RB G5 i4 i5 r3 b4 = G6 at *
  clear hW4 hD4 hSt2 a3 a4
  simp -implicitDefEqProofs only [go_sem, tys, regs0, Nat.reduceEqDiff, Nat.reduceAdd, Nat.reduceLeDiff, Nat.reduceLT, Nat.reduceMul, Int.natCast_one, Int.natCast_zero, Int.reduceEq, Int.reduceLT, Int.reduceLE, Int.reduceAdd, Int.reduceSub, Int.reduceToNat, UInt8.reduceToNat, puQ2, puQ, puP5, puM, puN, pu0]
  refine rhex_k n45 hW5.r hW5.b hW5.f (by omega) (fun x4 r4 b5 hx4 a6 a3 a4 => ?_)
  have hSt4 := hSt3.step a3 a4
  have hW6 := hW5.rb ids r4 b5
  have hD6 := (RB_o G6 n94 n95 r4 b5).trans hD5
  generalize RB G6 i4 i5 r4 b5 = G7 at *
  clear hW5 hD5 hSt3 a3 a4
  unfold nD at hD6
  simp -implicitDefEqProofs only [go_sem, tys, regs0, Nat.reduceEqDiff, Nat.reduceAdd, Nat.reduceLeDiff, Nat.reduceLT, Nat.reduceMul, Int.natCast_one, Int.natCast_zero, Int.reduceEq, Int.reduceLT, Int.reduceLE, Int.reduceAdd, Int.reduceSub, Int.reduceToNat, UInt8.reduceToNat, puQ2, puQ, puP5, puM, puN, pu0, hD6]
  have hW7 := hW6.set hi9H n29 n49 n59 n69 (nD v1 v2 x3 x4 [] .exact)
  have hD7 := put_same G7 i9 (nD v1 v2 x3 x4 [] .exact)
  have hfold : G7.put i9 (.cells [.int .i64 v1, .int .i64 v2, .str x3, .str x4, .sl [] .exact]) = G7.put i9 (nD v1 v2 x3 x4 [] .exact) := rfl
  rw [hfold]
  generalize G7.put i9 (nD v1 v2 x3 x4 [] .exact) = G8 at *
  clear hW6 hD6 hfold
  refine rnum_k n45 n64 n65 hW7.r hW7.b hW7.f (by omega) (fun n r5 b6 hn a7 a3 a4 => ?_)
  have hSt5 := hSt4.step a3 a4
  have hW8 := hW7.rb ids r5 b6
  have hD8 := (RB_o G8 n94 n95 r5 b6).trans hD7
  generalize RB G8 i4 i5 r5 b6 = G9 at *
  clear hW7 hD7 hSt4 a3 a4
  simp -implicitDefEqProofs only [go_sem, tys, regs0, Nat.reduceEqDiff, Nat.reduceAdd, Nat.reduceLeDiff, Nat.reduceLT, Nat.reduceMul, Int.natCast_one, Int.natCast_zero, Int.reduceEq, Int.reduceLT, Int.reduceLE, Int.reduceAdd, Int.reduceSub, Int.reduceToNat, UInt8.reduceToNat, puQ2, puQ, puP5, puM, puN, pu0]
  have hA8 : AppOK H G9 3 (([] : List PieceV).map encPc) .exact := AppOK.nil hW8.sub
  with_reducible refine aloop_cut 0 (RQ s H i2 i4 i5 i6 i9 v1 v2 x3 x4) ?_ ?_
  · clear hA8 hW8 hD8 hSt5
    rintro r G ⟨out, tl, rest, b, e, hv, hW, hD, hrl, hop, hSt⟩
    have h0 := hv.1
    have h2 := hv.2.1
    have h4 := hv.2.2.1
    have h5 := hv.2.2.2.1
    have h8 := hv.2.2.2.2.1
    have h9 := hv.2.2.2.2.2.1
    have h10 := hv.2.2.2.2.2.2.1
    clear hv
    have hr := hW.r
    have hw1 : IntKind.i64.wrap ((s.length : Int) - rest.length) = ((s.length - rest.length : Nat) : Int) := by rw [Go.IntWalk.i64_in _ (by omega)]; omega
    simp -implicitDefEqProofs only [go_sem, tys, regs0, Nat.reduceEqDiff, Nat.reduceAdd, Nat.reduceLeDiff, Nat.reduceLT, Nat.reduceMul, Int.natCast_one, Int.natCast_zero, Int.reduceEq, Int.reduceLT, Int.reduceLE, Int.reduceAdd, Int.reduceSub, Int.reduceToNat, UInt8.reduceToNat, h0, h2, h4, h5, h8, h9, h10, hr, hw1]
    refine ⟨by omega, ?_⟩
    refine rhex_k n45 hW.r hW.b hW.f (by omega) (fun x6 r6 b6 hx6 hl6 a3 a4 => ?_)
    have hW1 := hW.rb ids r6 b6
    have hD1 := (RB_o G n94 n95 r6 b6).trans hD
    generalize RB G i4 i5 r6 b6 = G1 at *
    clear hr hW hD
    have hb1 := hW1.b
    have hr1 := hW1.r
    have hz1 := hW1.z
    unfold zD at hz1
    unfold nD at hD1
    cases b6 with
    | true =>
      have hbad : parseT s = .tup [.agg (encDl DeltaV.zero .unk), .int .i64 8] := by
        cases hbe : b || e with
        | true => exact hfail (hSt.2 hbe)
        | false =>
          have e1 := hSt.1 hbe
          rcases a4 rfl with h | h
          · rw [h] at hbe; cases hbe
          · unfold parseT parseV
            rw [if_neg hl, e1]
            simp only [h]
      simp -implicitDefEqProofs only [go_sem, tys, regs0, Nat.reduceEqDiff, Nat.reduceAdd, Nat.reduceLeDiff, Nat.reduceLT, Nat.reduceMul, Int.natCast_one, Int.natCast_zero, Int.reduceEq, Int.reduceLT, Int.reduceLE, Int.reduceAdd, Int.reduceSub, Int.reduceToNat, UInt8.reduceToNat, h0, h2, h4, h5, h8, h9, h10, hb1, hr1, hz1]
      refine Done.wk 3 (Done.drop (hW1.sub.put' hi2 _) ⟨?_, rfl⟩)
      rw [hbad]; rfl
    | false =>
      obtain ⟨rfl, hsum⟩ := a3 rfl
      cases e with
      | true =>
        have hbad := hfail (hSt.2 rfl)
        simp -implicitDefEqProofs only [go_sem, tys, regs0, Nat.reduceEqDiff, Nat.reduceAdd, Nat.reduceLeDiff, Nat.reduceLT, Nat.reduceMul, Int.natCast_one, Int.natCast_zero, Int.reduceEq, Int.reduceLT, Int.reduceLE, Int.reduceAdd, Int.reduceSub, Int.reduceToNat, UInt8.reduceToNat, h0, h2, h4, h5, h8, h9, h10, hb1, hr1, hz1]
        refine Done.wk 3 (Done.drop (hW1.sub.put' hi2 _) ⟨?_, rfl⟩)
        rw [hbad]; rfl
      | false =>
        have e1 := hSt.1 rfl
        by_cases hrr : ¬ r6 = []
        · have hbad : parseT s = .tup [.agg (encDl DeltaV.zero .unk), .int .i64 8] := by
            unfold parseT parseV
            rw [if_neg hl, e1]
            obtain ⟨c, k, hck⟩ := List.exists_cons_of_ne_nil hrr
            rw [hck] at hsum
            simp only [hsum]
          have k3 : decide (¬ r6 = ([] : Bytes)) = true := decide_eq_true hrr
          simp -implicitDefEqProofs only [go_sem, tys, regs0, Nat.reduceEqDiff, Nat.reduceAdd, Nat.reduceLeDiff, Nat.reduceLT, Nat.reduceMul, Int.natCast_one, Int.natCast_zero, Int.reduceEq, Int.reduceLT, Int.reduceLE, Int.reduceAdd, Int.reduceSub, Int.reduceToNat, UInt8.reduceToNat, h0, h2, h4, h5, h8, h9, h10, hb1, hr1, hz1, k3]
          refine Done.wk 3 (Done.drop (hW1.sub.put' hi2 _) ⟨?_, rfl⟩)
          rw [hbad]; rfl
        · have k3 : decide (¬ r6 = ([] : Bytes)) = false := decide_eq_false hrr
          have hr6 : r6 = [] := Decidable.not_not.1 hrr
          rw [hr6] at hsum
          have hpt : parseV s = if ¬ x6 = sumOf (s.take (s.length - rest.length)) then (DeltaV.zero, 14) else if ¬ deltaE ⟨v1, v2, x3, x4, out⟩ = 0 then (DeltaV.zero, deltaE ⟨v1, v2, x3, x4, out⟩) else (⟨v1, v2, x3, x4, out⟩, 0) := by
            unfold parseV
            rw [if_neg hl, e1]
            simp only [hsum]
          have hR : Room = 1099511627776 := rfl
          have htl : (s.take (s.length - rest.length)).length ≤ 1099511627776 := by rw [List.length_take]; omega
          have hc := sCheck_eq ⟨v1, v2, x3, x4, out⟩ tl ⟨⟨by simp only; omega, by simp only; omega⟩, ⟨by simp only; omega, by simp only; omega⟩, by simp only; omega, by simp only; omega, hop⟩
          unfold encDl at hc
          simp only at hc
          by_cases c5 : ¬ x6 = sumOf (s.take (s.length - rest.length))
          · have k5 : decide (¬ x6 = sumOf (s.take (s.length - rest.length))) = true := decide_eq_true c5
            rw [if_pos c5] at hpt
            simp -implicitDefEqProofs only [go_sem, tys, regs0, Nat.reduceEqDiff, Nat.reduceAdd, Nat.reduceLeDiff, Nat.reduceLT, Nat.reduceMul, Int.natCast_one, Int.natCast_zero, Int.reduceEq, Int.reduceLT, Int.reduceLE, Int.reduceAdd, Int.reduceSub, Int.reduceToNat, UInt8.reduceToNat, h0, h2, h4, h5, h8, h9, h10, hb1, hr1, hz1, k3, puQ2, puQ, puP5, puM, puN, pu0, sSum_eq, hR, htl, k5]
            refine Done.wk 3 (Done.drop (hW1.sub.put' hi2 _) ⟨?_, rfl⟩)
            unfold parseT
            rw [hpt]; rfl
          · have k5 : decide (¬ x6 = sumOf (s.take (s.length - rest.length))) = false := decide_eq_false c5
            rw [if_neg c5] at hpt
            by_cases c6 : ¬ deltaE ⟨v1, v2, x3, x4, out⟩ = 0
            · have k6 : decide (¬ deltaE ⟨v1, v2, x3, x4, out⟩ = 0) = true := decide_eq_true c6
              rw [if_pos c6] at hpt
              simp -implicitDefEqProofs only [go_sem, tys, regs0, Nat.reduceEqDiff, Nat.reduceAdd, Nat.reduceLeDiff, Nat.reduceLT, Nat.reduceMul, Int.natCast_one, Int.natCast_zero, Int.reduceEq, Int.reduceLT, Int.reduceLE, Int.reduceAdd, Int.reduceSub, Int.reduceToNat, UInt8.reduceToNat, h0, h2, h4, h5, h8, h9, h10, hb1, hr1, hz1, hD1, k3, puQ2, puQ, puP5, puM, puN, pu0, sSum_eq, hR, htl, k5, hc, k6]
              refine Done.wk 3 (Done.drop (hW1.sub.put' hi2 _) ⟨?_, rfl⟩)
              unfold parseT
              rw [hpt]; rfl
            · have k6 : deltaE ⟨v1, v2, x3, x4, out⟩ = 0 := Decidable.not_not.1 c6
              rw [if_neg c6] at hpt
              rw [k6] at hc
              simp -implicitDefEqProofs only [go_sem, tys, regs0, Nat.reduceEqDiff, Nat.reduceAdd, Nat.reduceLeDiff, Nat.reduceLT, Nat.reduceMul, Int.natCast_one, Int.natCast_zero, Int.reduceEq, Int.reduceLT, Int.reduceLE, Int.reduceAdd, Int.reduceSub, Int.reduceToNat, UInt8.reduceToNat, h0, h2, h4, h5, h8, h9, h10, hb1, hr1, hz1, hD1, k3, puQ2, puQ, puP5, puM, puN, pu0, sSum_eq, hR, htl, k5, hc]
              refine Done.wk 3 (Done.drop (hW1.sub.put' hi2 _) ⟨?_, rfl⟩)
              unfold parseT
              rw [hpt]; rfl
  refine aloop_intro (σ := Nat × List PieceV × Tail × Bytes × Bool × Bool) (fun t => [(0, .str s), (2, .ptr i2 0), (4, .ptr i4 0), (5, .ptr i5 0), (6, .ptr i6 0), (7, .func 87 [.ptr i6 0, .ptr i5 0]), (8, .func 88 [.ptr i6 0]), (9, .ptr i9 0), (10, .bool t.2.2.2.2.2), (11, .int .i64 t.1)])
    (RI s H i2 i4 i5 i6 i9 v1 v2 n x3 x4) (fun t => t.1) (n, [], .exact, r5, b6, false) ?_ ?_ ?_
  · simp -implicitDefEqProofs only [go_sem, tys, regs0, Nat.reduceEqDiff, Nat.reduceAdd, Nat.reduceLeDiff, Nat.reduceLT, Nat.reduceMul, Int.natCast_one, Int.natCast_zero, Int.reduceEq, Int.reduceLT, Int.reduceLE, Int.reduceAdd, Int.reduceSub, Int.reduceToNat, UInt8.reduceToNat]
  · exact ⟨hA8, hW8, hD8, by simp only; omega, by simp, by simp, by simpa using hSt5⟩
  · clear hA8 hW8 hD8 hSt5
    rintro ⟨m, out, tl, rest, b, e⟩ r G hv ⟨hA, hW, hD, hrl, hol, hop, hSt⟩
    have h0 := hv.1
    have h2 := hv.2.1
    have h4 := hv.2.2.1
    have h5 := hv.2.2.2.1
    have h6 := hv.2.2.2.2.1
    have h7 := hv.2.2.2.2.2.1
    have h8 := hv.2.2.2.2.2.2.1
    have h9 := hv.2.2.2.2.2.2.2.1
    have h10 := hv.2.2.2.2.2.2.2.2.1
    have h11 := hv.2.2.2.2.2.2.2.2.2.1
    clear hv
    simp only at h0 h2 h4 h5 h6 h7 h8 h9 h10 h11 hA hW hD hrl hol hop hSt
    have hb := hW.b
    have hf := hW.f
    unfold takeF at hf
    cases m with
    | zero =>
      have k0 : decide ((0 : Int) < ((0 : Nat) : Int)) = false := by decide
      rw [R6_zero] at hSt
      simp -implicitDefEqProofs only [go_sem, tys, regs0, Nat.reduceEqDiff, Nat.reduceAdd, Nat.reduceLeDiff, Nat.reduceLT, Nat.reduceMul, Int.natCast_one, Int.natCast_zero, Int.reduceEq, Int.reduceLT, Int.reduceLE, Int.reduceAdd, Int.reduceSub, Int.reduceToNat, UInt8.reduceToNat, h0, h2, h4, h5, h6, h7, h8, h9, h10, h11, hb, k0]
      exact ⟨out, tl, rest, b, e, by simp -implicitDefEqProofs only [go_sem, tys, regs0, Nat.reduceEqDiff, Nat.reduceAdd, Nat.reduceLeDiff, Nat.reduceLT, Nat.reduceMul, Int.natCast_one, Int.natCast_zero, Int.reduceEq, Int.reduceLT, Int.reduceLE, Int.reduceAdd, Int.reduceSub, Int.reduceToNat, UInt8.reduceToNat, h0, h2, h4, h5, h6, h7, h8, h9, h10, h11], hW, hD, hrl, ⟨by omega, hop⟩, hSt⟩
    | succ m =>
      have hwm : IntKind.i64.wrap (((m + 1 : Nat) : Int) - 1) = m := by rw [Go.IntWalk.i64_in _ (by omega)]; omega
      have k0 : decide ((0 : Int) < ((m + 1 : Nat) : Int)) = true := decide_eq_true (by omega)
      cases b with
      | true =>
        simp -implicitDefEqProofs only [go_sem, tys, regs0, Nat.reduceEqDiff, Nat.reduceAdd, Nat.reduceLeDiff, Nat.reduceLT, Nat.reduceMul, Int.natCast_one, Int.natCast_zero, Int.reduceEq, Int.reduceLT, Int.reduceLE, Int.reduceAdd, Int.reduceSub, Int.reduceToNat, UInt8.reduceToNat, h0, h2, h4, h5, h6, h7, h8, h9, h10, h11, hb, k0]
        exact ⟨out, tl, rest, true, e, by simp -implicitDefEqProofs only [go_sem, tys, regs0, Nat.reduceEqDiff, Nat.reduceAdd, Nat.reduceLeDiff, Nat.reduceLT, Nat.reduceMul, Int.natCast_one, Int.natCast_zero, Int.reduceEq, Int.reduceLT, Int.reduceLE, Int.reduceAdd, Int.reduceSub, Int.reduceToNat, UInt8.reduceToNat, h0, h2, h4, h5, h6, h7, h8, h9, h10, h11], hW, hD, hrl, ⟨by omega, hop⟩, ⟨fun e => absurd e (by simp), fun _ => hSt.2 (by simp)⟩⟩
      | false =>
        rw [R6_succ, Bool.false_or] at hSt
        simp -implicitDefEqProofs only [go_sem, tys, regs0, Nat.reduceEqDiff, Nat.reduceAdd, Nat.reduceLeDiff, Nat.reduceLT, Nat.reduceMul, Int.natCast_one, Int.natCast_zero, Int.reduceEq, Int.reduceLT, Int.reduceLE, Int.reduceAdd, Int.reduceSub, Int.reduceToNat, UInt8.reduceToNat, h0, h2, h4, h5, h6, h7, h8, h9, h10, h11, hb, hf, k0, puQ2, puQ, puP5, puM, puN, pu0]
        refine rtake_u n45 hW.r hW.b (by omega) (n := 1) (fun k r' b' hk => ?_)
        have hW1 := hW.rb ids r' b'
        have hD1 := (RB_o G n94 n95 r' b').trans hD
        have hA1 := appRb hW ids hA r' b'
        generalize RB G i4 i5 r' b' = G1 at *
        clear hW hD hA hb hf
        have hf := hW1.f
        unfold takeF at hf
        have hb := hW1.b
        rcases hk with ⟨hk1, hk2, hk3, rfl⟩ | ⟨rfl, rfl, rfl, hk4⟩
        · obtain ⟨c, q, rfl⟩ : ∃ c q, rest = c :: q := by
            cases rest with
            | nil => simp at hk3
            | cons c q => exact ⟨c, q, rfl⟩
          obtain rfl : k = [c] := hk1
          obtain rfl : r' = q := hk2
          simp only [List.length_cons] at hrl hk3
          by_cases c0 : c = 0
          · have z0 : decide ([c] = ([0] : Bytes)) = true := decide_eq_true (by rw [c0])
            have hpc := piece0 (l := c :: r') (by rw [c0])
            simp -implicitDefEqProofs only [go_sem, tys, regs0, Nat.reduceEqDiff, Nat.reduceAdd, Nat.reduceLeDiff, Nat.reduceLT, Nat.reduceMul, Int.natCast_one, Int.natCast_zero, Int.reduceEq, Int.reduceLT, Int.reduceLE, Int.reduceAdd, Int.reduceSub, Int.reduceToNat, UInt8.reduceToNat, h0, h2, h4, h5, h6, h7, h8, h9, h10, h11, z0]
            rw [acode_tree (t := ot17) rfl (by rfl)]
            unfold nD at hD1
            simp -implicitDefEqProofs only [go_sem, tys, regs0, Nat.reduceEqDiff, Nat.reduceAdd, Nat.reduceLeDiff, Nat.reduceLT, Nat.reduceMul, Int.natCast_one, Int.natCast_zero, Int.reduceEq, Int.reduceLT, Int.reduceLE, Int.reduceAdd, Int.reduceSub, Int.reduceToNat, UInt8.reduceToNat, h0, h2, h4, h5, h6, h7, h8, h9, h10, h11, hD1, ot17, stripO, puQ2, puQ, puP5, puM, puN, pu0]
            repeat' first
              | (with_reducible refine And.intro ?_ ?_)
              | (refine rnum_k n45 n64 n65 hW1.r hW1.b hW1.f (by omega) (fun w1 q1 c1 hw1 g1 g3 g4 => ?_)
                 have hW2 := hW1.rb ids q1 c1
                 have hD2 := (RB_o G1 n94 n95 q1 c1).trans hD1
                 have hA2 := appRb hW1 ids hA1 q1 c1
                 generalize RB G1 i4 i5 q1 c1 = G2 at *
                 simp -implicitDefEqProofs only [go_sem, tys, regs0, Nat.reduceEqDiff, Nat.reduceAdd, Nat.reduceLeDiff, Nat.reduceLT, Nat.reduceMul, Int.natCast_one, Int.natCast_zero, Int.reduceEq, Int.reduceLT, Int.reduceLE, Int.reduceAdd, Int.reduceSub, Int.reduceToNat, UInt8.reduceToNat, h0, h2, h4, h5, h6, h7, h8, h9, h10, h11, hD2, stripO, puQ2, puQ, puP5, puM, puN, pu0])
              | (refine rnum_k n45 n64 n65 hW2.r hW2.b hW2.f (by omega) (fun w2 q2 c2 hw2 g2 u3 u4 => ?_)
                 have hW3 := hW2.rb ids q2 c2
                 have hD3 := (RB_o G2 n94 n95 q2 c2).trans hD2
                 have hA3 := appRb hW2 ids hA2 q2 c2
                 generalize RB G2 i4 i5 q2 c2 = G3 at *
                 simp -implicitDefEqProofs only [go_sem, tys, regs0, Nat.reduceEqDiff, Nat.reduceAdd, Nat.reduceLeDiff, Nat.reduceLT, Nat.reduceMul, Int.natCast_one, Int.natCast_zero, Int.reduceEq, Int.reduceLT, Int.reduceLE, Int.reduceAdd, Int.reduceSub, Int.reduceToNat, UInt8.reduceToNat, h0, h2, h4, h5, h6, h7, h8, h9, h10, h11, hD3, stripO, puQ2, puQ, puP5, puM, puN, pu0])
            all_goals
              have hSt2 := hSt.step (b' := c2 || e) (v := (⟨w1, w2, []⟩ : PieceV)) (r := q2) (fun h => by
                have h1 : c2 = false := by cases c2 <;> simp_all
                have h2 : e = false := by cases e <;> simp_all
                refine ⟨h2, ?_⟩
                rw [hpc, (g3 (u3 h1).1).2]; simp only [Option.bind_some]; rw [(u3 h1).2]; rfl) (fun h => by
                cases e with
                | true => exact .inl rfl
                | false =>
                  refine .inr ?_
                  rw [Bool.or_false] at h
                  rw [hpc]
                  cases c1 with
                  | true =>
                    rcases g4 rfl with h | h
                    · cases h
                    · rw [h]; rfl
                  | false =>
                    rw [(g3 rfl).2]; simp only [Option.bind_some]
                    rcases u4 h with h | h
                    · cases h
                    · rw [h]; rfl)
              refine AppOK.step hA3 (encPc_unif out) (by simp) (by simp; omega) (by simp; omega) (fun tl2 G4 hA4 hK4 => ?_)
              have hW4 := hW3.kept hK4 hA4.sub
              have hD4 := hK4.cells hD3
              simp -implicitDefEqProofs only [go_sem, tys, regs0, Nat.reduceEqDiff, Nat.reduceAdd, Nat.reduceLeDiff, Nat.reduceLT, Nat.reduceMul, Int.natCast_one, Int.natCast_zero, Int.reduceEq, Int.reduceLT, Int.reduceLE, Int.reduceAdd, Int.reduceSub, Int.reduceToNat, UInt8.reduceToNat, h0, h2, h4, h5, h6, h7, h8, h9, h10, h11, hD4, stripO, hwm]
              exact Again.mk (m, out ++ [(⟨w1, w2, []⟩ : PieceV)], tl2, q2, c2, e) (by simp -implicitDefEqProofs only [go_sem, tys, regs0, Nat.reduceEqDiff, Nat.reduceAdd, Nat.reduceLeDiff, Nat.reduceLT, Nat.reduceMul, Int.natCast_one, Int.natCast_zero, Int.reduceEq, Int.reduceLT, Int.reduceLE, Int.reduceAdd, Int.reduceSub, Int.reduceToNat, UInt8.reduceToNat, h0, h2, h4, h5, h6, h7, h8, h9, h10, h11]) ⟨by simpa [encPc] using hA4.set hi9H hD4 (fun _ h => by cases h), hW4.set hi9H n29 n49 n59 n69 _, by rw [put_same]; simp [nD, encPc], by simp only; omega, by simp only [List.length_append, List.length_singleton] at hol ⊢; omega, by
                intro p hp
                rcases List.mem_append.1 hp with h | h
                · exact hop p h
                · rw [List.mem_singleton] at h; rw [h]; exact ⟨⟨by simp only; omega, by simp only; omega⟩, ⟨by simp only; omega, by simp only; omega⟩, by simp⟩, hSt2⟩ (by simp only; omega)
          · have z0 : decide ([c] = ([0] : Bytes)) = false := decide_eq_false (by simpa using c0)
            by_cases c1 : c = 1
            · have z1 : decide ([c] = ([1] : Bytes)) = true := decide_eq_true (by rw [c1])
              subst c1
              simp -implicitDefEqProofs only [go_sem, tys, regs0, Nat.reduceEqDiff, Nat.reduceAdd, Nat.reduceLeDiff, Nat.reduceLT, Nat.reduceMul, Int.natCast_one, Int.natCast_zero, Int.reduceEq, Int.reduceLT, Int.reduceLE, Int.reduceAdd, Int.reduceSub, Int.reduceToNat, UInt8.reduceToNat, h0, h2, h4, h5, h6, h7, h8, h9, h10, h11, z0, z1]
              with_reducible refine acode_mid (M19 s H i2 i4 i5 i6 i9 v1 v2 x3 x4 out tl m e (1 :: r')) ?_ ?_
              rotate_left
              · rw [acode_tree (t := ot19) rfl (by rfl)]
                have hWc := hW1
                have hDc := hD1
                have hAc := hA1
                have hfc := hf
                unfold nD at hDc
                simp -implicitDefEqProofs only [go_sem, tys, regs0, Nat.reduceEqDiff, Nat.reduceAdd, Nat.reduceLeDiff, Nat.reduceLT, Nat.reduceMul, Int.natCast_one, Int.natCast_zero, Int.reduceEq, Int.reduceLT, Int.reduceLE, Int.reduceAdd, Int.reduceSub, Int.reduceToNat, UInt8.reduceToNat, h0, h2, h4, h5, h6, h7, h8, h9, h10, h11, ot19, stripO, hfc]
                repeat' first
                | (with_reducible refine And.intro ?_ ?_)
                | (with_reducible refine nwC_intro fun i12 hi12 => ?_
                   have m4 : ¬ i12 = i4 := fun h => by rw [h, hWc.r] at hi12; cases hi12
                   have m5 : ¬ i12 = i5 := fun h => by rw [h, hWc.b] at hi12; cases hi12
                   have u2 : ¬ i2 = i12 := fun h => by rw [← h, hWc.z] at hi12; cases hi12
                   have u4 : ¬ i4 = i12 := fun h => m4 h.symm
                   have u5 : ¬ i5 = i12 := fun h => m5 h.symm
                   have u6 : ¬ i6 = i12 := fun h => by rw [← h, hWc.f] at hi12; cases hi12
                   have u9 : ¬ i9 = i12 := fun h => by rw [← h, hDc] at hi12; cases hi12
                   have hi12H := sub_none hWc.sub hi12
                   have hZ12 := new_at hi12 (.cells [.int .i64 0, .int .i64 0, .str []])
                   have hDc := new_keep hi12 hDc (.cells [.int .i64 0, .int .i64 0, .str []])
                   have hAc := hAc.put hi12 (.cells [.int .i64 0, .int .i64 0, .str []])
                   have hWc := hWc.new hi12 (.cells [.int .i64 0, .int .i64 0, .str []])
                   have hfc := hWc.f
                   unfold takeF at hfc
                   simp -implicitDefEqProofs only [go_sem, tys, regs0, Nat.reduceEqDiff, Nat.reduceAdd, Nat.reduceLeDiff, Nat.reduceLT, Nat.reduceMul, Int.natCast_one, Int.natCast_zero, Int.reduceEq, Int.reduceLT, Int.reduceLE, Int.reduceAdd, Int.reduceSub, Int.reduceToNat, UInt8.reduceToNat, h0, h2, h4, h5, h6, h7, h8, h9, h10, h11, hfc, hDc, hZ12, stripO, puQ2, puQ, puP5, puM, puN, pu0])
                | (refine rnum_k n45 n64 n65 hWc.r hWc.b hWc.f (by omega) (fun w1 q1 c1 hw1 g1 g3 g4 => ?_)
                   try have hZ12 := (RB_o _ m4 m5 q1 c1).trans hZ12
                   have hDc := (RB_o _ n94 n95 q1 c1).trans hDc
                   have hAc := appRb hWc ids hAc q1 c1
                   have hWc := hWc.rb ids q1 c1
                   have hfc := hWc.f
                   unfold takeF at hfc
                   first
                     | simp -implicitDefEqProofs only [go_sem, tys, regs0, Nat.reduceEqDiff, Nat.reduceAdd, Nat.reduceLeDiff, Nat.reduceLT, Nat.reduceMul, Int.natCast_one, Int.natCast_zero, Int.reduceEq, Int.reduceLT, Int.reduceLE, Int.reduceAdd, Int.reduceSub, Int.reduceToNat, UInt8.reduceToNat, h0, h2, h4, h5, h6, h7, h8, h9, h10, h11, hfc, hDc, hZ12, stripO, puQ2, puQ, puP5, puM, puN, pu0]
                     | simp -implicitDefEqProofs only [go_sem, tys, regs0, Nat.reduceEqDiff, Nat.reduceAdd, Nat.reduceLeDiff, Nat.reduceLT, Nat.reduceMul, Int.natCast_one, Int.natCast_zero, Int.reduceEq, Int.reduceLT, Int.reduceLE, Int.reduceAdd, Int.reduceSub, Int.reduceToNat, UInt8.reduceToNat, h0, h2, h4, h5, h6, h7, h8, h9, h10, h11, hfc, hDc, stripO, puQ2, puQ, puP5, puM, puN, pu0])
                | (refine rtake_u n45 hWc.r hWc.b (by omega) (fun tk q2 c2 hk => ?_)
                   try have hZ12 := (RB_o _ m4 m5 q2 c2).trans hZ12
                   have hDc := (RB_o _ n94 n95 q2 c2).trans hDc
                   have hAc := appRb hWc ids hAc q2 c2
                   have hWc := hWc.rb ids q2 c2
                   have hfc := hWc.f
                   unfold takeF at hfc
                   first
                     | simp -implicitDefEqProofs only [go_sem, tys, regs0, Nat.reduceEqDiff, Nat.reduceAdd, Nat.reduceLeDiff, Nat.reduceLT, Nat.reduceMul, Int.natCast_one, Int.natCast_zero, Int.reduceEq, Int.reduceLT, Int.reduceLE, Int.reduceAdd, Int.reduceSub, Int.reduceToNat, UInt8.reduceToNat, h0, h2, h4, h5, h6, h7, h8, h9, h10, h11, hfc, hDc, hZ12, stripO, puQ2, puQ, puP5, puM, puN, pu0]
                     | simp -implicitDefEqProofs only [go_sem, tys, regs0, Nat.reduceEqDiff, Nat.reduceAdd, Nat.reduceLeDiff, Nat.reduceLT, Nat.reduceMul, Int.natCast_one, Int.natCast_zero, Int.reduceEq, Int.reduceLT, Int.reduceLE, Int.reduceAdd, Int.reduceSub, Int.reduceToNat, UInt8.reduceToNat, h0, h2, h4, h5, h6, h7, h8, h9, h10, h11, hfc, hDc, stripO, puQ2, puQ, puP5, puM, puN, pu0])
                all_goals
                  have hlen : q2.length ≤ s.length ∧ tk.length ≤ s.length := by
                    rcases hk with ⟨e1, e2, -, -⟩ | ⟨e1, e2, -, -⟩
                    · rw [e1, e2, List.length_drop, List.length_take]; omega
                    · rw [e1, e2]; exact ⟨Nat.zero_le _, Nat.zero_le _⟩
                  have rel := piece_data g3 g4 hk
                  have hWf := hWc.set hi12H u2 u4 u5 u6 (.cells [.int .i64 0, .int .i64 0, .str tk])
                  have hAf := hAc.set hi12H hZ12 (o' := .cells [.int .i64 0, .int .i64 0, .str tk]) (fun _ h => by cases h)
                  have hDf := (put_ne _ _ _ (.cells [.int .i64 0, .int .i64 0, .str tk]) u9).trans hDc
                  have hZf := new_at' hZ12 (.cells [.int .i64 0, .int .i64 0, .str tk])
                  try rw [put_put'] at hWf hAf hDf hZf
                  exact ⟨i12, tk, q2, c2, by simp -implicitDefEqProofs only [go_sem, tys, regs0, Nat.reduceEqDiff, Nat.reduceAdd, Nat.reduceLeDiff, Nat.reduceLT, Nat.reduceMul, Int.natCast_one, Int.natCast_zero, Int.reduceEq, Int.reduceLT, Int.reduceLE, Int.reduceAdd, Int.reduceSub, Int.reduceToNat, UInt8.reduceToNat, h0, h2, h4, h5, h6, h7, h8, h9, h10, h11], hWf, hAf, hDf, hZf, hlen.1, hlen.2, rel.1, rel.2⟩
              · clear hW1 hD1 hA1 hf hb h0 h2 h4 h5 h6 h7 h8 h9 h10 h11
                rintro r G ⟨i12, tk, q2, c2, hv, hW, hA, hD, hZ, hl1, hl2, rel1, rel2⟩
                have h0 := hv.1
                have h2 := hv.2.1
                have h4 := hv.2.2.1
                have h5 := hv.2.2.2.1
                have h6 := hv.2.2.2.2.1
                have h7 := hv.2.2.2.2.2.1
                have h8 := hv.2.2.2.2.2.2.1
                have h9 := hv.2.2.2.2.2.2.2.1
                have h10 := hv.2.2.2.2.2.2.2.2.1
                have h11 := hv.2.2.2.2.2.2.2.2.2.1
                have h12 := hv.2.2.2.2.2.2.2.2.2.2.1
                clear hv
                have hSt2 := hSt.step (b' := c2 || (e || decide (tk = []))) (v := (⟨0, 0, tk⟩ : PieceV)) (r := q2) (fun h => by
                  have w1 : c2 = false := by cases c2 <;> simp_all
                  have w2 : e = false := by cases e <;> simp_all
                  have w3 : ¬ tk = [] := by intro e3; simp [e3] at h
                  exact ⟨w2, rel1 w1 w3⟩) (fun h => by
                  cases e with
                  | true => exact .inl rfl
                  | false =>
                    refine .inr (rel2 ?_)
                    cases c2 with
                    | true => exact .inl rfl
                    | false => exact .inr (by simpa using h))
                unfold nD at hD
                cases e with
                | true =>
                  simp -implicitDefEqProofs only [go_sem, tys, regs0, Nat.reduceEqDiff, Nat.reduceAdd, Nat.reduceLeDiff, Nat.reduceLT, Nat.reduceMul, Int.natCast_one, Int.natCast_zero, Int.reduceEq, Int.reduceLT, Int.reduceLE, Int.reduceAdd, Int.reduceSub, Int.reduceToNat, UInt8.reduceToNat, h0, h2, h4, h5, h6, h7, h8, h9, h10, h11, h12, hZ, hD, hwm]
                  refine AppOK.step hA (encPc_unif out) (by simp) (by simp; omega) (by simp; omega) (fun tl2 G4 hA4 hK4 => ?_)
                  have hW4 := hW.kept hK4 hA4.sub
                  have hD4 := hK4.cells hD
                  simp -implicitDefEqProofs only [go_sem, tys, regs0, Nat.reduceEqDiff, Nat.reduceAdd, Nat.reduceLeDiff, Nat.reduceLT, Nat.reduceMul, Int.natCast_one, Int.natCast_zero, Int.reduceEq, Int.reduceLT, Int.reduceLE, Int.reduceAdd, Int.reduceSub, Int.reduceToNat, UInt8.reduceToNat, h0, h2, h4, h5, h6, h7, h8, h9, h10, h11, hD4, hwm]
                  exact Again.mk (m, out ++ [(⟨0, 0, tk⟩ : PieceV)], tl2, q2, c2, true) (by simp -implicitDefEqProofs only [go_sem, tys, regs0, Nat.reduceEqDiff, Nat.reduceAdd, Nat.reduceLeDiff, Nat.reduceLT, Nat.reduceMul, Int.natCast_one, Int.natCast_zero, Int.reduceEq, Int.reduceLT, Int.reduceLE, Int.reduceAdd, Int.reduceSub, Int.reduceToNat, UInt8.reduceToNat, h0, h2, h4, h5, h6, h7, h8, h9, h10, h11]) ⟨by simpa [encPc] using hA4.set hi9H hD4 (fun _ h => by cases h), hW4.set hi9H n29 n49 n59 n69 _, by rw [put_same]; simp [nD, encPc], by simp only; omega, by simp only [List.length_append, List.length_singleton] at hol ⊢; omega, pcs_snoc hop ⟨by simp [inI], by simp [inI], by simp only; omega⟩, hSt2⟩ (by simp only; omega)
                | false =>
                  by_cases ht : tk = []
                  · have k9 : decide (tk = []) = true := decide_eq_true ht
                    rw [k9] at hSt2
                    simp -implicitDefEqProofs only [go_sem, tys, regs0, Nat.reduceEqDiff, Nat.reduceAdd, Nat.reduceLeDiff, Nat.reduceLT, Nat.reduceMul, Int.natCast_one, Int.natCast_zero, Int.reduceEq, Int.reduceLT, Int.reduceLE, Int.reduceAdd, Int.reduceSub, Int.reduceToNat, UInt8.reduceToNat, h0, h2, h4, h5, h6, h7, h8, h9, h10, h11, h12, hZ, hD, hwm, k9]
                    refine AppOK.step hA (encPc_unif out) (by simp) (by simp; omega) (by simp; omega) (fun tl2 G4 hA4 hK4 => ?_)
                    have hW4 := hW.kept hK4 hA4.sub
                    have hD4 := hK4.cells hD
                    simp -implicitDefEqProofs only [go_sem, tys, regs0, Nat.reduceEqDiff, Nat.reduceAdd, Nat.reduceLeDiff, Nat.reduceLT, Nat.reduceMul, Int.natCast_one, Int.natCast_zero, Int.reduceEq, Int.reduceLT, Int.reduceLE, Int.reduceAdd, Int.reduceSub, Int.reduceToNat, UInt8.reduceToNat, h0, h2, h4, h5, h6, h7, h8, h9, h10, h11, hD4, hwm]
                    exact Again.mk (m, out ++ [(⟨0, 0, tk⟩ : PieceV)], tl2, q2, c2, true) (by simp -implicitDefEqProofs only [go_sem, tys, regs0, Nat.reduceEqDiff, Nat.reduceAdd, Nat.reduceLeDiff, Nat.reduceLT, Nat.reduceMul, Int.natCast_one, Int.natCast_zero, Int.reduceEq, Int.reduceLT, Int.reduceLE, Int.reduceAdd, Int.reduceSub, Int.reduceToNat, UInt8.reduceToNat, h0, h2, h4, h5, h6, h7, h8, h9, h10, h11]) ⟨by simpa [encPc] using hA4.set hi9H hD4 (fun _ h => by cases h), hW4.set hi9H n29 n49 n59 n69 _, by rw [put_same]; simp [nD, encPc], by simp only; omega, by simp only [List.length_append, List.length_singleton] at hol ⊢; omega, pcs_snoc hop ⟨by simp [inI], by simp [inI], by simp only; omega⟩, hSt2⟩ (by simp only; omega)
                  · have k9 : decide (tk = []) = false := decide_eq_false ht
                    rw [k9] at hSt2
                    simp -implicitDefEqProofs only [go_sem, tys, regs0, Nat.reduceEqDiff, Nat.reduceAdd, Nat.reduceLeDiff, Nat.reduceLT, Nat.reduceMul, Int.natCast_one, Int.natCast_zero, Int.reduceEq, Int.reduceLT, Int.reduceLE, Int.reduceAdd, Int.reduceSub, Int.reduceToNat, UInt8.reduceToNat, h0, h2, h4, h5, h6, h7, h8, h9, h10, h11, h12, hZ, hD, hwm, k9]
                    refine AppOK.step hA (encPc_unif out) (by simp) (by simp; omega) (by simp; omega) (fun tl2 G4 hA4 hK4 => ?_)
                    have hW4 := hW.kept hK4 hA4.sub
                    have hD4 := hK4.cells hD
                    simp -implicitDefEqProofs only [go_sem, tys, regs0, Nat.reduceEqDiff, Nat.reduceAdd, Nat.reduceLeDiff, Nat.reduceLT, Nat.reduceMul, Int.natCast_one, Int.natCast_zero, Int.reduceEq, Int.reduceLT, Int.reduceLE, Int.reduceAdd, Int.reduceSub, Int.reduceToNat, UInt8.reduceToNat, h0, h2, h4, h5, h6, h7, h8, h9, h10, h11, hD4, hwm]
                    exact Again.mk (m, out ++ [(⟨0, 0, tk⟩ : PieceV)], tl2, q2, c2, false) (by simp -implicitDefEqProofs only [go_sem, tys, regs0, Nat.reduceEqDiff, Nat.reduceAdd, Nat.reduceLeDiff, Nat.reduceLT, Nat.reduceMul, Int.natCast_one, Int.natCast_zero, Int.reduceEq, Int.reduceLT, Int.reduceLE, Int.reduceAdd, Int.reduceSub, Int.reduceToNat, UInt8.reduceToNat, h0, h2, h4, h5, h6, h7, h8, h9, h10, h11]) ⟨by simpa [encPc] using hA4.set hi9H hD4 (fun _ h => by cases h), hW4.set hi9H n29 n49 n59 n69 _, by rw [put_same]; simp [nD, encPc], by simp only; omega, by simp only [List.length_append, List.length_singleton] at hol ⊢; omega, pcs_snoc hop ⟨by simp [inI], by simp [inI], by simp only; omega⟩, hSt2⟩ (by simp only; omega)
            · have z1 : decide ([c] = ([1] : Bytes)) = false := decide_eq_false (by simpa using c1)
              have hpc : pieceR (c :: r') = none := by rw [pieceR, if_neg c0, if_neg c1]
              rw [hpc] at hSt
              have hB : bodyR s = none := by cases e with | true => exact hSt.2 rfl | false => exact hSt.1 rfl
              simp -implicitDefEqProofs only [go_sem, tys, regs0, Nat.reduceEqDiff, Nat.reduceAdd, Nat.reduceLeDiff, Nat.reduceLT, Nat.reduceMul, Int.natCast_one, Int.natCast_zero, Int.reduceEq, Int.reduceLT, Int.reduceLE, Int.reduceAdd, Int.reduceSub, Int.reduceToNat, UInt8.reduceToNat, h0, h2, h4, h5, h6, h7, h8, h9, h10, h11, z0, z1, hb, hwm]
              exact Again.mk (m, out, tl, r', true, e) (by simp -implicitDefEqProofs only [go_sem, tys, regs0, Nat.reduceEqDiff, Nat.reduceAdd, Nat.reduceLeDiff, Nat.reduceLT, Nat.reduceMul, Int.natCast_one, Int.natCast_zero, Int.reduceEq, Int.reduceLT, Int.reduceLE, Int.reduceAdd, Int.reduceSub, Int.reduceToNat, UInt8.reduceToNat, h0, h2, h4, h5, h6, h7, h8, h9, h10, h11]) ⟨hA1.set hi5H hW1.b (fun _ h => by cases h), hW1.bad ids, by rw [put_ne _ _ _ _ n95]; exact hD1, by simp only; omega, by simp only at hol ⊢; omega, hop, ⟨fun h => absurd h (by simp), fun _ => hB⟩⟩ (by simp only; omega)
        · obtain rfl : rest = [] := List.eq_nil_of_length_eq_zero (by omega)
          have z0 : decide (([] : Bytes) = ([0] : Bytes)) = false := by decide
          have z1 : decide (([] : Bytes) = ([1] : Bytes)) = false := by decide
          have hB : bodyR s = none := by cases e with | true => exact hSt.2 rfl | false => exact hSt.1 rfl
          simp -implicitDefEqProofs only [go_sem, tys, regs0, Nat.reduceEqDiff, Nat.reduceAdd, Nat.reduceLeDiff, Nat.reduceLT, Nat.reduceMul, Int.natCast_one, Int.natCast_zero, Int.reduceEq, Int.reduceLT, Int.reduceLE, Int.reduceAdd, Int.reduceSub, Int.reduceToNat, UInt8.reduceToNat, h0, h2, h4, h5, h6, h7, h8, h9, h10, h11, z0, z1, hb, hwm]
          rw [put_self hW1.b]
          exact Again.mk (m, out, tl, [], true, e) (by simp -implicitDefEqProofs only [go_sem, tys, regs0, Nat.reduceEqDiff, Nat.reduceAdd, Nat.reduceLeDiff, Nat.reduceLT, Nat.reduceMul, Int.natCast_one, Int.natCast_zero, Int.reduceEq, Int.reduceLT, Int.reduceLE, Int.reduceAdd, Int.reduceSub, Int.reduceToNat, UInt8.reduceToNat, h0, h2, h4, h5, h6, h7, h8, h9, h10, h11]) ⟨hA1, hW1, hD1, by simp, by simp only at hol ⊢; omega, hop, ⟨fun h => absurd h (by simp), fun _ => hB⟩⟩ (by simp only; omega)
end Go.Proofs
