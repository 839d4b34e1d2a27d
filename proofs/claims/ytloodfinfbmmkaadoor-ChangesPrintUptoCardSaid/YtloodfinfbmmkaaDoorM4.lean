/-
  Walks and plain laws, part 4.
-/
import Derived.Test.YtloodfinfbmmkaaDoorM3
import Derived.Test.YtloodfinfbmmkaaDoorM2
import Derived.Test.YtloodfinfbmmkaaDoorM1
/- Walks: Unquote, on the reference's side. -/
namespace Go.Proofs
open Go Go.Abs
set_option linter.unusedSimpArgs false
set_option linter.unusedVariables false
set_option maxRecDepth 20000
noncomputable def sUnq := spF (fun s : Bytes => [AV.str s]) (fun s => s.length ≤ 1099511627776) unqT
theorem sUnq_eq (s : Bytes) (h : s.length ≤ 1099511627776) : sUnq [.str s] = some (unqT s) := spF_eq (fun a b e => by cases e; rfl) s h
noncomputable def sQuo := spF (fun s : Bytes => [AV.str s]) (fun s => s.length ≤ 1099511627776) (fun s => .str (quoteB s))
theorem sQuo_eq (s : Bytes) (h : s.length ≤ 1099511627776) : sQuo [.str s] = some (.str (quoteB s)) := spF_eq (fun a b e => by cases e; rfl) s h
noncomputable def puQ4 : Pures := putP 38 sQuo (putP 84 sIdxL pu0)
theorem puQ4_dyn : isDyn puQ4 = false := by simp only [puQ4, go_sem, Nat.reduceEqDiff]
attribute [go_sem] puQ4_dyn
theorem puQ4_ok : PuOK Tryd.prog puQ4 := .put (.put (pu0_ok) (sIdxL_ok index_calls)) (spF_ok fun s H h => rQuote_calls s H h)
theorem dqI_nil : dqI [] = some [] := by rw [dqI]
theorem dqI_cons (c : UInt8) (r : Bytes) : dqI (c :: r) = if c ≠ 92 then (dqI r).map (c :: ·) else
      match r with
      | [] => none
      | a :: r2 =>
        if a = 34 ∨ a = 92 then (dqI r2).map (a :: ·) else if a = 110 then (dqI r2).map (10 :: ·) else if a = 120 then
          match r2 with
          | h :: l :: r3 => (dqI r3).map (UInt8.ofNat (IntKind.u8.wrap (hexI h * 16 + hexI l)).toNat :: ·)
          | _ => none
        else none := by
  rw [dqI.eq_def]
  rfl
theorem u8_any (n : Int) : IntKind.u8.wrap n = ((UInt8.ofNat (IntKind.u8.wrap n).toNat).toNat : Int) := by
  have h : 0 ≤ IntKind.u8.wrap n ∧ IntKind.u8.wrap n < 256 := by
    unfold IntKind.wrap
    simp [IntKind.signed, IntKind.bits]
    omega
  simp only [UInt8.toNat_ofNat']
  omega
theorem hexI_lt (c : UInt8) : hexI c < 16 := by
  have h1 := hexI_ge c
  by_cases h : hexI c < 0
  · omega
  · obtain ⟨k, h2, h3, _⟩ := hexI_some (c := c) (by omega)
    omega
/-- What is left to read, and what was read. -/
def dRest (m rest out : Bytes) : Prop := dqI m = (dqI rest).map (out ++ ·)
theorem dRest.step {m rest rest2 out : Bytes} {x : UInt8} (h : dRest m rest out) (e : dqI rest = (dqI rest2).map (x :: ·)) : dRest m rest2 (out ++ [x]) := by
  unfold dRest at h ⊢
  rw [h, e, Option.map_map]
  congr 1
  funext l
  simp
def AppL (H G : Heap) (acc : Bytes) (tl : Tail) : Prop := AppG H G 1 (acc.map bcell) tl ∨ (tl = .lit ∧ H.Sub G)
theorem AppL.sub {H G : Heap} {acc : Bytes} {tl : Tail} (h : AppL H G acc tl) : H.Sub G := by
  rcases h with h | h
  · exact h.1
  · exact h.2
theorem AppL.step {H G : Heap} {acc : Bytes} {tl : Tail} {x : UInt8} {n : Int} (h : AppL H G acc tl) (hx : n = x.toNat) (hl : acc.length ≤ 1099511627776) {k : K1} (hk : ∀ tl2 G3, AppL H G3 (acc ++ [x]) tl2 → k (.sl ((acc ++ [x]).map bcell) tl2) G3) :
    appK (some 5) false tiU8 (.sl (acc.map bcell) tl) [[.int .u8 n]] G k := by
  subst hx
  have e : acc.map bcell ++ [[AV.int .u8 x.toNat]] = (acc ++ [x]).map bcell := by simp [bcell]
  rcases h with h | ⟨rfl, hs⟩
  · refine AppG.step (e := tiU8) h (bcell_len acc) (by simp; omega) (by simp; omega) (fun tl2 G3 hA3 hK3 => ?_)
    rw [e] at hA3 ⊢
    exact hk tl2 G3 (.inl hA3)
  · refine ⟨fun e => by simp at e, fun _ => ⟨bcell_len acc, by simp; omega, by simp; omega, fun id hid => ?_⟩⟩
    rw [e]
    refine hk _ _ (.inl ⟨hs.put' (sub_none hs hid) _, .inr ⟨id, _, rfl, sub_none hs hid, ?_⟩⟩)
    rw [put_same]
    simp
set_option maxHeartbeats 6400000 in
theorem rUnquote_calls (s : Bytes) (H : Heap) (hs : s.length ≤ 1099511627776) : ACalls Tryd.prog 62 [.str s] H fun x H' => x = unqT s ∧ H' = H := by
  have hv : unqT s = match unq s with
    | some t => .tup [.str t, .int .i64 0]
    | none => .tup [.str [], .int .i64 8] := rfl
  rw [unq_ref] at hv
  by_cases g0 : s.length < 2
  · have y0 : decide ((s.length : Int) < 2) = true := decide_eq_true (by omega)
    refine ACalls.of_code (X := { pure := puQ4 }) puQ4_ok Tryd.func62 (by kernel_rfl) rfl (by kernel_rfl) (Nat.le_of_ble_eq_true rfl) ?_
    simp -implicitDefEqProofs only [go_sem, tys, regs0, Nat.reduceEqDiff, Nat.reduceAdd, Nat.reduceLeDiff, Nat.reduceLT, Nat.reduceMul, Int.natCast_one, Int.natCast_zero, Int.reduceEq, Int.reduceLT, Int.reduceLE, Int.reduceAdd, Int.reduceSub, Int.reduceToNat, UInt8.reduceToNat, Tryd.f62, y0]
    exact Done.now ⟨by rw [hv, if_pos (.inl g0)], rfl⟩
  have y0 : decide ((s.length : Int) < 2) = false := decide_eq_false (by omega)
  obtain ⟨a, ha⟩ : ∃ a, s[0]? = some a := getD_get' (by omega)
  obtain ⟨z, hz⟩ : ∃ z, s[s.length - 1]? = some z := getD_get' (by omega)
  have a34 := @u8_eq a 34 (by decide)
  have z34 := @u8_eq z 34 (by decide)
  have w0 : IntKind.i64.wrap ((s.length : Int) - 1) = ((s.length - 1 : Nat) : Int) := by rw [Go.IntWalk.i64_in _ (by omega)]; omega
  have hh : s.head? = some a := by rw [List.head?_eq_getElem?]; exact ha
  have hl : s.getLast? = some z := by rw [List.getLast?_eq_getElem?]; exact hz
  by_cases g1 : a = 34
  rotate_left
  · have y1 : decide (¬ (a.toNat : Int) = 34) = true := decide_eq_true (fun e => g1 (a34.1 e))
    refine ACalls.of_code (X := { pure := puQ4 }) puQ4_ok Tryd.func62 (by kernel_rfl) rfl (by kernel_rfl) (Nat.le_of_ble_eq_true rfl) ?_
    simp -implicitDefEqProofs only [go_sem, tys, regs0, Nat.reduceEqDiff, Nat.reduceAdd, Nat.reduceLeDiff, Nat.reduceLT, Nat.reduceMul, Int.natCast_one, Int.natCast_zero, Int.reduceEq, Int.reduceLT, Int.reduceLE, Int.reduceAdd, Int.reduceSub, Int.reduceToNat, UInt8.reduceToNat, Tryd.f62, y0, Int.toNat_zero, ha, y1, Int.le_refl]
    exact Done.now ⟨by rw [hv, if_pos (.inr (.inl (by rw [hh]; simpa using g1)))], rfl⟩
  have y1 : decide (¬ (a.toNat : Int) = 34) = false := decide_eq_false (by simpa using a34.2 g1)
  by_cases g2 : z = 34
  rotate_left
  · have y2 : decide (¬ (z.toNat : Int) = 34) = true := decide_eq_true (fun e => g2 (z34.1 e))
    refine ACalls.of_code (X := { pure := puQ4 }) puQ4_ok Tryd.func62 (by kernel_rfl) rfl (by kernel_rfl) (Nat.le_of_ble_eq_true rfl) ?_
    simp -implicitDefEqProofs only [go_sem, tys, regs0, Nat.reduceEqDiff, Nat.reduceAdd, Nat.reduceLeDiff, Nat.reduceLT, Nat.reduceMul, Int.natCast_one, Int.natCast_zero, Int.reduceEq, Int.reduceLT, Int.reduceLE, Int.reduceAdd, Int.reduceSub, Int.reduceToNat, UInt8.reduceToNat, Tryd.f62, y0, Int.toNat_zero, ha, y1, Int.le_refl, w0, Int.toNat_natCast, hz, y2]
    exact Done.now ⟨by rw [hv, if_pos (.inr (.inr (by rw [hl]; simpa using g2)))], rfl⟩
  have y2 : decide (¬ (z.toNat : Int) = 34) = false := decide_eq_false (by simpa using z34.2 g2)
  rw [if_neg (by rw [hh, hl, g1, g2]; simp; omega), inner_eq] at hv
  have hml : ((s.take (s.length - 1)).drop 1).length ≤ s.length := by rw [List.length_drop, List.length_take]; omega
  refine ACalls.of_code (X := { pure := puQ4 }) puQ4_ok Tryd.func62 (by kernel_rfl) rfl (by kernel_rfl) (Nat.le_of_ble_eq_true rfl) ?_
  simp -implicitDefEqProofs only [go_sem, tys, regs0, Nat.reduceEqDiff, Nat.reduceAdd, Nat.reduceLeDiff, Nat.reduceLT, Nat.reduceMul, Int.natCast_one, Int.natCast_zero, Int.reduceEq, Int.reduceLT, Int.reduceLE, Int.reduceAdd, Int.reduceSub, Int.reduceToNat, UInt8.reduceToNat, Tryd.f62, y0, Int.toNat_zero, ha, y1, Int.le_refl, w0, Int.toNat_natCast, hz, y2, Int.toNat_one]
  refine ⟨by omega, ?_⟩
  generalize (s.take (s.length - 1)).drop 1 = m at *
  clear hh hl ha hz w0 y0 y1 y2 g0 g1 g2 a34 z34
  refine aloop_intro (σ := Bytes × Bytes × Tail) (fun t => [(0, .str s), (4, .sl (t.2.1.map bcell) t.2.2), (5, .str t.1)])
    (fun t G' => AppL H G' t.2.1 t.2.2 ∧ t.2.1.length + t.1.length ≤ m.length ∧ dRest m t.1 t.2.1) (fun t => t.1.length) (m, [], .lit) ?_ ?_ ?_
  · simp -implicitDefEqProofs only [go_sem, tys, regs0, Nat.reduceEqDiff, Nat.reduceAdd, Nat.reduceLeDiff, Nat.reduceLT, Nat.reduceMul, Int.natCast_one, Int.natCast_zero, Int.reduceEq, Int.reduceLT, Int.reduceLE, Int.reduceAdd, Int.reduceSub, Int.reduceToNat, UInt8.reduceToNat]
  · exact ⟨.inr ⟨rfl, Heap.Sub.rfl' H⟩, by simp, by simp [dRest]⟩
  rintro ⟨rest, out, tl⟩ r G2 hvv ⟨hA, ho, hI⟩
  have h0 := hvv.1
  have h4 := hvv.2.1
  have h5 := hvv.2.2.1
  clear hvv
  simp only at h0 h4 h5 hA ho hI
  cases rest with
  | nil =>
    unfold dRest at hI
    rw [dqI_nil, Option.map_some, List.append_nil] at hI
    rw [hI] at hv
    simp only at hv
    have q1 := sQuo_eq out (by simp at ho; omega)
    simp -implicitDefEqProofs only [go_sem, tys, regs0, Nat.reduceEqDiff, Nat.reduceAdd, Nat.reduceLeDiff, Nat.reduceLT, Nat.reduceMul, Int.natCast_one, Int.natCast_zero, Int.reduceEq, Int.reduceLT, Int.reduceLE, Int.reduceAdd, Int.reduceSub, Int.reduceToNat, UInt8.reduceToNat, h0, h4, h5]
    refine conv_sl (by simp -implicitDefEqProofs only [go_sem, tys, regs0, Nat.reduceEqDiff, Nat.reduceAdd, Nat.reduceLeDiff, Nat.reduceLT, Nat.reduceMul, Int.natCast_one, Int.natCast_zero, Int.reduceEq, Int.reduceLT, Int.reduceLE, Int.reduceAdd, Int.reduceSub, Int.reduceToNat, UInt8.reduceToNat]) (by simp -implicitDefEqProofs only [go_sem, tys, regs0, Nat.reduceEqDiff, Nat.reduceAdd, Nat.reduceLeDiff, Nat.reduceLT, Nat.reduceMul, Int.natCast_one, Int.natCast_zero, Int.reduceEq, Int.reduceLT, Int.reduceLE, Int.reduceAdd, Int.reduceSub, Int.reduceToNat, UInt8.reduceToNat]) ?_
    simp -implicitDefEqProofs only [go_sem, tys, regs0, Nat.reduceEqDiff, Nat.reduceAdd, Nat.reduceLeDiff, Nat.reduceLT, Nat.reduceMul, Int.natCast_one, Int.natCast_zero, Int.reduceEq, Int.reduceLT, Int.reduceLE, Int.reduceAdd, Int.reduceSub, Int.reduceToNat, UInt8.reduceToNat, h0, h4, h5, puQ4, pu0, q1]
    by_cases c1 : quoteB out = s
    · have y1 : decide (¬ quoteB out = s) = false := decide_eq_false (by simpa using c1)
      rw [if_pos c1] at hv
      simp -implicitDefEqProofs only [go_sem, tys, regs0, Nat.reduceEqDiff, Nat.reduceAdd, Nat.reduceLeDiff, Nat.reduceLT, Nat.reduceMul, Int.natCast_one, Int.natCast_zero, Int.reduceEq, Int.reduceLT, Int.reduceLE, Int.reduceAdd, Int.reduceSub, Int.reduceToNat, UInt8.reduceToNat, h4, y1]
      refine conv_sl (by simp -implicitDefEqProofs only [go_sem, tys, regs0, Nat.reduceEqDiff, Nat.reduceAdd, Nat.reduceLeDiff, Nat.reduceLT, Nat.reduceMul, Int.natCast_one, Int.natCast_zero, Int.reduceEq, Int.reduceLT, Int.reduceLE, Int.reduceAdd, Int.reduceSub, Int.reduceToNat, UInt8.reduceToNat]) (by simp -implicitDefEqProofs only [go_sem, tys, regs0, Nat.reduceEqDiff, Nat.reduceAdd, Nat.reduceLeDiff, Nat.reduceLT, Nat.reduceMul, Int.natCast_one, Int.natCast_zero, Int.reduceEq, Int.reduceLT, Int.reduceLE, Int.reduceAdd, Int.reduceSub, Int.reduceToNat, UInt8.reduceToNat]) ?_
      simp -implicitDefEqProofs only [go_sem, tys, regs0, Nat.reduceEqDiff, Nat.reduceAdd, Nat.reduceLeDiff, Nat.reduceLT, Nat.reduceMul, Int.natCast_one, Int.natCast_zero, Int.reduceEq, Int.reduceLT, Int.reduceLE, Int.reduceAdd, Int.reduceSub, Int.reduceToNat, UInt8.reduceToNat]
      exact Done.drop hA.sub ⟨by rw [hv], rfl⟩
    · have y1 : decide (¬ quoteB out = s) = true := decide_eq_true c1
      rw [if_neg c1] at hv
      simp -implicitDefEqProofs only [go_sem, tys, regs0, Nat.reduceEqDiff, Nat.reduceAdd, Nat.reduceLeDiff, Nat.reduceLT, Nat.reduceMul, Int.natCast_one, Int.natCast_zero, Int.reduceEq, Int.reduceLT, Int.reduceLE, Int.reduceAdd, Int.reduceSub, Int.reduceToNat, UInt8.reduceToNat, y1]
      exact Done.drop hA.sub ⟨by rw [hv], rfl⟩
  | cons c r1 =>
    have y0 : decide (¬ c :: r1 = []) = true := by simp
    have e92 := @u8_eq c 92 (by decide)
    have hI2 := hI
    rw [List.length_cons] at ho
    by_cases c1 : c = 92
    rotate_left
    · have y1 : decide (¬ (c.toNat : Int) = 92) = true := decide_eq_true (fun e => c1 (e92.1 e))
      have hn := hI.step (x := c) (rest2 := r1) (by rw [dqI_cons, if_pos c1])
      simp -implicitDefEqProofs only [go_sem, tys, regs0, Nat.reduceEqDiff, Nat.reduceAdd, Nat.reduceLeDiff, Nat.reduceLT, Nat.reduceMul, Int.natCast_one, Int.natCast_zero, Int.reduceEq, Int.reduceLT, Int.reduceLE, Int.reduceAdd, Int.reduceSub, Int.reduceToNat, UInt8.reduceToNat, h0, h4, h5, y0, y1, Int.toNat_zero, Int.le_refl]
      refine hA.step rfl (by omega) (fun tl2 G3 hA3 => ?_)
      simp -implicitDefEqProofs only [go_sem, tys, regs0, Nat.reduceEqDiff, Nat.reduceAdd, Nat.reduceLeDiff, Nat.reduceLT, Nat.reduceMul, Int.natCast_one, Int.natCast_zero, Int.reduceEq, Int.reduceLT, Int.reduceLE, Int.reduceAdd, Int.reduceSub, Int.reduceToNat, UInt8.reduceToNat, h0, h5, Int.toNat_one, List.take_length]
      refine ⟨by omega, ?_⟩
      exact Again.mk (r1, out ++ [c], tl2) (by simp -implicitDefEqProofs only [go_sem, tys, regs0, Nat.reduceEqDiff, Nat.reduceAdd, Nat.reduceLeDiff, Nat.reduceLT, Nat.reduceMul, Int.natCast_one, Int.natCast_zero, Int.reduceEq, Int.reduceLT, Int.reduceLE, Int.reduceAdd, Int.reduceSub, Int.reduceToNat, UInt8.reduceToNat, h0]) ⟨hA3, by simp only [List.length_append, List.length_cons, List.length_nil]; omega, hn⟩ (by simp)
    have y1 : decide (¬ (c.toNat : Int) = 92) = false := decide_eq_false (by simpa using e92.2 c1)
    have bad : dqI (c :: r1) = none → unqT s = .tup [.str [], .int .i64 8] := fun e => by
      unfold dRest at hI
      rw [e] at hI
      rw [hv, hI]
      rfl
    cases r1 with
    | nil =>
      have z2 : decide ((2 : Int) ≤ ((([] : Bytes).length + 1 : Nat) : Int)) = false := rfl
      have z4 : decide ((4 : Int) ≤ ((([] : Bytes).length + 1 : Nat) : Int)) = false := rfl
      simp -implicitDefEqProofs only [go_sem, tys, regs0, Nat.reduceEqDiff, Nat.reduceAdd, Nat.reduceLeDiff, Nat.reduceLT, Nat.reduceMul, Int.natCast_one, Int.natCast_zero, Int.reduceEq, Int.reduceLT, Int.reduceLE, Int.reduceAdd, Int.reduceSub, Int.reduceToNat, UInt8.reduceToNat, h0, h4, h5, y0, y1, Int.toNat_zero, Int.le_refl, z2, z4]
      refine Done.drop hA.sub ⟨?_, rfl⟩
      rw [bad]
      rw [dqI_cons, if_neg (by simp [c1])]
    | cons b r2 =>
      have hq : dqI (c :: b :: r2) = if b = 34 ∨ b = 92 then (dqI r2).map (b :: ·) else if b = 110 then (dqI r2).map (10 :: ·) else if b = 120 then
          match r2 with
          | h :: l :: r3 => (dqI r3).map (UInt8.ofNat (IntKind.u8.wrap (hexI h * 16 + hexI l)).toNat :: ·)
          | _ => none
        else none := by
        rw [dqI_cons, if_neg (by simp [c1])]
        cases r2 with
        | nil => rfl
        | cons h t => cases t <;> rfl
      rw [List.length_cons] at ho
      have b34 := @u8_eq b 34 (by decide)
      have b92 := @u8_eq b 92 (by decide)
      have b110 := @u8_eq b 110 (by decide)
      have b120 := @u8_eq b 120 (by decide)
      have z2 : decide ((2 : Int) ≤ ((r2.length + 1 + 1 : Nat) : Int)) = true := decide_eq_true (by omega)
      by_cases d1 : b = 34
      · have x1 : decide ((b.toNat : Int) = 34) = true := decide_eq_true (b34.2 d1)
        have hn := hI.step (x := b) (rest2 := r2) (by rw [hq, if_pos (.inl d1)])
        simp -implicitDefEqProofs only [go_sem, tys, regs0, Nat.reduceEqDiff, Nat.reduceAdd, Nat.reduceLeDiff, Nat.reduceLT, Nat.reduceMul, Int.natCast_one, Int.natCast_zero, Int.reduceEq, Int.reduceLT, Int.reduceLE, Int.reduceAdd, Int.reduceSub, Int.reduceToNat, UInt8.reduceToNat, h0, h4, h5, y0, y1, Int.toNat_zero, Int.le_refl, z2, Int.toNat_one, x1]
        refine hA.step rfl (by omega) (fun tl2 G3 hA3 => ?_)
        simp -implicitDefEqProofs only [go_sem, tys, regs0, Nat.reduceEqDiff, Nat.reduceAdd, Nat.reduceLeDiff, Nat.reduceLT, Nat.reduceMul, Int.natCast_one, Int.natCast_zero, Int.reduceEq, Int.reduceLT, Int.reduceLE, Int.reduceAdd, Int.reduceSub, Int.reduceToNat, UInt8.reduceToNat, h0, h5, Int.reduceToNat, List.take_length]
        refine ⟨by omega, ?_⟩
        exact Again.mk (r2, out ++ [b], tl2) (by simp -implicitDefEqProofs only [go_sem, tys, regs0, Nat.reduceEqDiff, Nat.reduceAdd, Nat.reduceLeDiff, Nat.reduceLT, Nat.reduceMul, Int.natCast_one, Int.natCast_zero, Int.reduceEq, Int.reduceLT, Int.reduceLE, Int.reduceAdd, Int.reduceSub, Int.reduceToNat, UInt8.reduceToNat, h0]) ⟨hA3, by simp only [List.length_append, List.length_cons, List.length_nil]; omega, hn⟩ (by simp; omega)
      have x1 : decide ((b.toNat : Int) = 34) = false := decide_eq_false (fun e => d1 (b34.1 e))
      by_cases d2 : b = 92
      · have x2 : decide ((b.toNat : Int) = 92) = true := decide_eq_true (b92.2 d2)
        have hn := hI.step (x := b) (rest2 := r2) (by rw [hq, if_pos (.inr d2)])
        simp -implicitDefEqProofs only [go_sem, tys, regs0, Nat.reduceEqDiff, Nat.reduceAdd, Nat.reduceLeDiff, Nat.reduceLT, Nat.reduceMul, Int.natCast_one, Int.natCast_zero, Int.reduceEq, Int.reduceLT, Int.reduceLE, Int.reduceAdd, Int.reduceSub, Int.reduceToNat, UInt8.reduceToNat, h0, h4, h5, y0, y1, Int.toNat_zero, Int.le_refl, z2, Int.toNat_one, x1, x2]
        refine hA.step rfl (by omega) (fun tl2 G3 hA3 => ?_)
        simp -implicitDefEqProofs only [go_sem, tys, regs0, Nat.reduceEqDiff, Nat.reduceAdd, Nat.reduceLeDiff, Nat.reduceLT, Nat.reduceMul, Int.natCast_one, Int.natCast_zero, Int.reduceEq, Int.reduceLT, Int.reduceLE, Int.reduceAdd, Int.reduceSub, Int.reduceToNat, UInt8.reduceToNat, h0, h5, Int.reduceToNat, List.take_length]
        refine ⟨by omega, ?_⟩
        exact Again.mk (r2, out ++ [b], tl2) (by simp -implicitDefEqProofs only [go_sem, tys, regs0, Nat.reduceEqDiff, Nat.reduceAdd, Nat.reduceLeDiff, Nat.reduceLT, Nat.reduceMul, Int.natCast_one, Int.natCast_zero, Int.reduceEq, Int.reduceLT, Int.reduceLE, Int.reduceAdd, Int.reduceSub, Int.reduceToNat, UInt8.reduceToNat, h0]) ⟨hA3, by simp only [List.length_append, List.length_cons, List.length_nil]; omega, hn⟩ (by simp; omega)
      have x2 : decide ((b.toNat : Int) = 92) = false := decide_eq_false (fun e => d2 (b92.1 e))
      by_cases d3 : b = 110
      · have x3 : decide ((b.toNat : Int) = 110) = true := decide_eq_true (b110.2 d3)
        have hn := hI.step (x := 10) (rest2 := r2) (by rw [hq, if_neg (by simp [d1, d2]), if_pos d3])
        simp -implicitDefEqProofs only [go_sem, tys, regs0, Nat.reduceEqDiff, Nat.reduceAdd, Nat.reduceLeDiff, Nat.reduceLT, Nat.reduceMul, Int.natCast_one, Int.natCast_zero, Int.reduceEq, Int.reduceLT, Int.reduceLE, Int.reduceAdd, Int.reduceSub, Int.reduceToNat, UInt8.reduceToNat, h0, h4, h5, y0, y1, Int.toNat_zero, Int.le_refl, z2, Int.toNat_one, x1, x2, x3]
        refine hA.step (x := 10) rfl (by omega) (fun tl2 G3 hA3 => ?_)
        simp -implicitDefEqProofs only [go_sem, tys, regs0, Nat.reduceEqDiff, Nat.reduceAdd, Nat.reduceLeDiff, Nat.reduceLT, Nat.reduceMul, Int.natCast_one, Int.natCast_zero, Int.reduceEq, Int.reduceLT, Int.reduceLE, Int.reduceAdd, Int.reduceSub, Int.reduceToNat, UInt8.reduceToNat, h0, h5, Int.reduceToNat, List.take_length]
        refine ⟨by omega, ?_⟩
        exact Again.mk (r2, out ++ [10], tl2) (by simp -implicitDefEqProofs only [go_sem, tys, regs0, Nat.reduceEqDiff, Nat.reduceAdd, Nat.reduceLeDiff, Nat.reduceLT, Nat.reduceMul, Int.natCast_one, Int.natCast_zero, Int.reduceEq, Int.reduceLT, Int.reduceLE, Int.reduceAdd, Int.reduceSub, Int.reduceToNat, UInt8.reduceToNat, h0]) ⟨hA3, by simp only [List.length_append, List.length_cons, List.length_nil]; omega, hn⟩ (by simp; omega)
      have x3 : decide ((b.toNat : Int) = 110) = false := decide_eq_false (fun e => d3 (b110.1 e))
      rw [if_neg (by simp [d1, d2]), if_neg d3] at hq
      by_cases d4 : b = 120
      rotate_left
      · have x4 : decide ((b.toNat : Int) = 120) = false := decide_eq_false (fun e => d4 (b120.1 e))
        rw [if_neg d4] at hq
        by_cases d5 : 4 ≤ r2.length + 1 + 1
        · have z4 : decide ((4 : Int) ≤ ((r2.length + 1 + 1 : Nat) : Int)) = true := decide_eq_true (by omega)
          simp -implicitDefEqProofs only [go_sem, tys, regs0, Nat.reduceEqDiff, Nat.reduceAdd, Nat.reduceLeDiff, Nat.reduceLT, Nat.reduceMul, Int.natCast_one, Int.natCast_zero, Int.reduceEq, Int.reduceLT, Int.reduceLE, Int.reduceAdd, Int.reduceSub, Int.reduceToNat, UInt8.reduceToNat, h0, h4, h5, y0, y1, Int.toNat_zero, Int.le_refl, z2, z4, Int.toNat_one, x1, x2, x3, x4]
          exact Done.drop hA.sub ⟨by rw [bad hq], rfl⟩
        · have z4 : decide ((4 : Int) ≤ ((r2.length + 1 + 1 : Nat) : Int)) = false := decide_eq_false (by omega)
          simp -implicitDefEqProofs only [go_sem, tys, regs0, Nat.reduceEqDiff, Nat.reduceAdd, Nat.reduceLeDiff, Nat.reduceLT, Nat.reduceMul, Int.natCast_one, Int.natCast_zero, Int.reduceEq, Int.reduceLT, Int.reduceLE, Int.reduceAdd, Int.reduceSub, Int.reduceToNat, UInt8.reduceToNat, h0, h4, h5, y0, y1, Int.toNat_zero, Int.le_refl, z2, z4, Int.toNat_one, x1, x2, x3, x4]
          exact Done.drop hA.sub ⟨by rw [bad hq], rfl⟩
      have x4 : decide ((b.toNat : Int) = 120) = true := decide_eq_true (b120.2 d4)
      rw [if_pos d4] at hq
      match r2 with
      | [] =>
        have z4 : decide ((4 : Int) ≤ ((([] : Bytes).length + 1 + 1 : Nat) : Int)) = false := rfl
        simp -implicitDefEqProofs only [go_sem, tys, regs0, Nat.reduceEqDiff, Nat.reduceAdd, Nat.reduceLeDiff, Nat.reduceLT, Nat.reduceMul, Int.natCast_one, Int.natCast_zero, Int.reduceEq, Int.reduceLT, Int.reduceLE, Int.reduceAdd, Int.reduceSub, Int.reduceToNat, UInt8.reduceToNat, h0, h4, h5, y0, y1, Int.toNat_zero, Int.le_refl, z2, z4, Int.toNat_one, x1, x2, x3, x4]
        exact Done.drop hA.sub ⟨by rw [bad hq], rfl⟩
      | [h] =>
        have z4 : decide ((4 : Int) ≤ ((([h] : Bytes).length + 1 + 1 : Nat) : Int)) = false := rfl
        simp -implicitDefEqProofs only [go_sem, tys, regs0, Nat.reduceEqDiff, Nat.reduceAdd, Nat.reduceLeDiff, Nat.reduceLT, Nat.reduceMul, Int.natCast_one, Int.natCast_zero, Int.reduceEq, Int.reduceLT, Int.reduceLE, Int.reduceAdd, Int.reduceSub, Int.reduceToNat, UInt8.reduceToNat, h0, h4, h5, y0, y1, Int.toNat_zero, Int.le_refl, z2, z4, Int.toNat_one, x1, x2, x3, x4]
        exact Done.drop hA.sub ⟨by rw [bad hq], rfl⟩
      | h :: l :: r3 =>
        have z4 : decide ((4 : Int) ≤ ((r3.length + 1 + 1 + 1 + 1 : Nat) : Int)) = true := decide_eq_true (by omega)
        have z2 : decide ((2 : Int) ≤ ((r3.length + 1 + 1 + 1 + 1 : Nat) : Int)) = true := decide_eq_true (by omega)
        have hh : Lib.indexByte [48, 49, 50, 51, 52, 53, 54, 55, 56, 57, 97, 98, 99, 100, 101, 102] h = hexI h := rfl
        have hl : Lib.indexByte [48, 49, 50, 51, 52, 53, 54, 55, 56, 57, 97, 98, 99, 100, 101, 102] l = hexI l := rfl
        have k1 := hexI_ge h
        have k2 := hexI_ge l
        have k3 := hexI_lt h
        have k4 := hexI_lt l
        have w1 : IntKind.i64.wrap (hexI h * 16) = hexI h * 16 := Go.IntWalk.i64_in _ (by omega)
        have w2 : IntKind.i64.wrap (hexI h * 16 + hexI l) = hexI h * 16 + hexI l := Go.IntWalk.i64_in _ (by omega)
        have hn := hI.step (x := UInt8.ofNat (IntKind.u8.wrap (hexI h * 16 + hexI l)).toNat) (rest2 := r3) hq
        have hx := u8_any (hexI h * 16 + hexI l)
        generalize UInt8.ofNat (IntKind.u8.wrap (hexI h * 16 + hexI l)).toNat = x at *
        rw [List.length_cons, List.length_cons] at ho
        simp -implicitDefEqProofs only [go_sem, tys, regs0, Nat.reduceEqDiff, Nat.reduceAdd, Nat.reduceLeDiff, Nat.reduceLT, Nat.reduceMul, Int.natCast_one, Int.natCast_zero, Int.reduceEq, Int.reduceLT, Int.reduceLE, Int.reduceAdd, Int.reduceSub, Int.reduceToNat, UInt8.reduceToNat, h0, h4, h5, y0, y1, Int.toNat_zero, Int.le_refl, z2, z4, Int.toNat_one, Int.reduceToNat, x1, x2, x3, x4, puQ4, sIdxL_eq, hh, hl, w1, w2]
        refine ⟨by omega, by omega, ?_⟩
        refine hA.step hx (by omega) (fun tl2 G3 hA3 => ?_)
        simp -implicitDefEqProofs only [go_sem, tys, regs0, Nat.reduceEqDiff, Nat.reduceAdd, Nat.reduceLeDiff, Nat.reduceLT, Nat.reduceMul, Int.natCast_one, Int.natCast_zero, Int.reduceEq, Int.reduceLT, Int.reduceLE, Int.reduceAdd, Int.reduceSub, Int.reduceToNat, UInt8.reduceToNat, h0, h5, Int.reduceToNat, List.take_length]
        refine ⟨by omega, ?_⟩
        exact Again.mk (r3, out ++ [x], tl2) (by simp -implicitDefEqProofs only [go_sem, tys, regs0, Nat.reduceEqDiff, Nat.reduceAdd, Nat.reduceLeDiff, Nat.reduceLT, Nat.reduceMul, Int.natCast_one, Int.natCast_zero, Int.reduceEq, Int.reduceLT, Int.reduceLE, Int.reduceAdd, Int.reduceSub, Int.reduceToNat, UInt8.reduceToNat, h0]) ⟨hA3, by simp only [List.length_append, List.length_cons, List.length_nil]; omega, hn⟩ (by simp; omega)
end Go.Proofs

/- Walks: changes and items. -/
namespace Go.Proofs
open Go Go.Abs
set_option linter.unusedSimpArgs false
set_option linter.unusedVariables false
theorem fileFault_calls (f : FileV) (H : Heap) (hr : fileR f) : ACalls Tryd.prog 53 [.agg (encFile f)] H fun x H' => x = .int .i64 (fileErr f) ∧ H' = H := by
  obtain ⟨h1, h2⟩ := hr
  have hR : Room = 1099511627776 := rfl
  refine ACalls.of_code (X := { pure := puM }) puM_ok Tryd.func53 (by kernel_rfl) rfl (by kernel_rfl) (Nat.le_of_ble_eq_true rfl) ?_
  simp -implicitDefEqProofs only [go_sem, tys, regs0, Nat.reduceEqDiff, Nat.reduceAdd, Nat.reduceLeDiff, Nat.reduceLT, Nat.reduceMul, Int.natCast_one, Int.natCast_zero, Int.reduceEq, Int.reduceLT, Int.reduceLE, Int.reduceAdd, Int.reduceSub, Int.reduceToNat, UInt8.reduceToNat, Tryd.f53, encFile]
  with_reducible refine nwC_intro fun id hid => ?_
  simp -implicitDefEqProofs only [go_sem, tys, regs0, Nat.reduceEqDiff, Nat.reduceAdd, Nat.reduceLeDiff, Nat.reduceLT, Nat.reduceMul, Int.natCast_one, Int.natCast_zero, Int.reduceEq, Int.reduceLT, Int.reduceLE, Int.reduceAdd, Int.reduceSub, Int.reduceToNat, UInt8.reduceToNat, puM, puN, sStr_eq, hR, h1]
  repeat' (first | (with_reducible refine gd_intro (fun h => ?_) (fun h => ?_) <;> first | (exact absurd h (by decide)) | (simp at h; done) | simp -implicitDefEqProofs (disch := omega) only [go_sem, tys, regs0, Nat.reduceEqDiff, Nat.reduceAdd, Nat.reduceLeDiff, Nat.reduceLT, Nat.reduceMul, Int.natCast_one, Int.natCast_zero, Int.reduceEq, Int.reduceLT, Int.reduceLE, Int.reduceAdd, Int.reduceSub, Int.reduceToNat, UInt8.reduceToNat, Go.IntWalk.i64_in, *]) | (with_reducible refine cnd_intro (fun h => ?_) (fun h => ?_) <;> first | (exact absurd h (by decide)) | (simp at h; done) | simp -implicitDefEqProofs (disch := omega) only [go_sem, tys, regs0, Nat.reduceEqDiff, Nat.reduceAdd, Nat.reduceLeDiff, Nat.reduceLT, Nat.reduceMul, Int.natCast_one, Int.natCast_zero, Int.reduceEq, Int.reduceLT, Int.reduceLE, Int.reduceAdd, Int.reduceSub, Int.reduceToNat, UInt8.reduceToNat, Go.IntWalk.i64_in, *]))
  all_goals refine Done.drop1 hid ⟨?_, rfl⟩
  all_goals (simp_all [fileErr] <;> omega)
theorem settingFault_calls (f : SetV) (H : Heap) (hr : setR f) : ACalls Tryd.prog 51 [.agg (encSet f), .func 57 []] H fun x H' => x = .int .i64 (setErr f) ∧ H' = H := by
  obtain ⟨h1, h2⟩ := hr
  have hR : Room = 1099511627776 := rfl
  refine ACalls.of_code (X := { pure := puM }) puM_ok Tryd.func51 (by kernel_rfl) rfl (by kernel_rfl) (Nat.le_of_ble_eq_true rfl) ?_
  simp -implicitDefEqProofs only [go_sem, tys, regs0, Nat.reduceEqDiff, Nat.reduceAdd, Nat.reduceLeDiff, Nat.reduceLT, Nat.reduceMul, Int.natCast_one, Int.natCast_zero, Int.reduceEq, Int.reduceLT, Int.reduceLE, Int.reduceAdd, Int.reduceSub, Int.reduceToNat, UInt8.reduceToNat, Tryd.f51, encSet]
  with_reducible refine nwC_intro fun id hid => ?_
  simp -implicitDefEqProofs only [go_sem, tys, regs0, Nat.reduceEqDiff, Nat.reduceAdd, Nat.reduceLeDiff, Nat.reduceLT, Nat.reduceMul, Int.natCast_one, Int.natCast_zero, Int.reduceEq, Int.reduceLT, Int.reduceLE, Int.reduceAdd, Int.reduceSub, Int.reduceToNat, UInt8.reduceToNat, puM, puN, sStr_eq, hR, h1, h2]
  repeat' (first | (with_reducible refine gd_intro (fun h => ?_) (fun h => ?_) <;> first | (exact absurd h (by decide)) | (simp at h; done) | simp -implicitDefEqProofs (disch := omega) only [go_sem, tys, regs0, Nat.reduceEqDiff, Nat.reduceAdd, Nat.reduceLeDiff, Nat.reduceLT, Nat.reduceMul, Int.natCast_one, Int.natCast_zero, Int.reduceEq, Int.reduceLT, Int.reduceLE, Int.reduceAdd, Int.reduceSub, Int.reduceToNat, UInt8.reduceToNat, Go.IntWalk.i64_in, puM, puN, sStr_eq, hR, *]) | (with_reducible refine cnd_intro (fun h => ?_) (fun h => ?_) <;> first | (exact absurd h (by decide)) | (simp at h; done) | simp -implicitDefEqProofs (disch := omega) only [go_sem, tys, regs0, Nat.reduceEqDiff, Nat.reduceAdd, Nat.reduceLeDiff, Nat.reduceLT, Nat.reduceMul, Int.natCast_one, Int.natCast_zero, Int.reduceEq, Int.reduceLT, Int.reduceLE, Int.reduceAdd, Int.reduceSub, Int.reduceToNat, UInt8.reduceToNat, Go.IntWalk.i64_in, puM, puN, sStr_eq, hR, *]))
  all_goals refine Done.drop1 hid ⟨?_, rfl⟩
  all_goals simp_all [setErr]
theorem serviceFault_calls (f : SvcV) (H : Heap) (hr : svcR f) : ACalls Tryd.prog 59 [.agg (encSvc f)] H fun x H' => x = .int .i64 (svcErr f) ∧ H' = H := by
  obtain ⟨h1, h2⟩ := hr
  have hR : Room = 1099511627776 := rfl
  refine ACalls.of_code (X := { pure := puM }) puM_ok Tryd.func59 (by kernel_rfl) rfl (by kernel_rfl) (Nat.le_of_ble_eq_true rfl) ?_
  simp -implicitDefEqProofs only [go_sem, tys, regs0, Nat.reduceEqDiff, Nat.reduceAdd, Nat.reduceLeDiff, Nat.reduceLT, Nat.reduceMul, Int.natCast_one, Int.natCast_zero, Int.reduceEq, Int.reduceLT, Int.reduceLE, Int.reduceAdd, Int.reduceSub, Int.reduceToNat, UInt8.reduceToNat, Tryd.f59, encSvc]
  with_reducible refine nwC_intro fun id hid => ?_
  simp -implicitDefEqProofs only [go_sem, tys, regs0, Nat.reduceEqDiff, Nat.reduceAdd, Nat.reduceLeDiff, Nat.reduceLT, Nat.reduceMul, Int.natCast_one, Int.natCast_zero, Int.reduceEq, Int.reduceLT, Int.reduceLE, Int.reduceAdd, Int.reduceSub, Int.reduceToNat, UInt8.reduceToNat, puM, puN, sStr_eq, hR, h1, h2]
  repeat' (first | (with_reducible refine gd_intro (fun h => ?_) (fun h => ?_) <;> first | (exact absurd h (by decide)) | (simp at h; done) | simp -implicitDefEqProofs (disch := omega) only [go_sem, tys, regs0, Nat.reduceEqDiff, Nat.reduceAdd, Nat.reduceLeDiff, Nat.reduceLT, Nat.reduceMul, Int.natCast_one, Int.natCast_zero, Int.reduceEq, Int.reduceLT, Int.reduceLE, Int.reduceAdd, Int.reduceSub, Int.reduceToNat, UInt8.reduceToNat, Go.IntWalk.i64_in, puM, puN, sStr_eq, hR, *]) | (with_reducible refine cnd_intro (fun h => ?_) (fun h => ?_) <;> first | (exact absurd h (by decide)) | (simp at h; done) | simp -implicitDefEqProofs (disch := omega) only [go_sem, tys, regs0, Nat.reduceEqDiff, Nat.reduceAdd, Nat.reduceLeDiff, Nat.reduceLT, Nat.reduceMul, Int.natCast_one, Int.natCast_zero, Int.reduceEq, Int.reduceLT, Int.reduceLE, Int.reduceAdd, Int.reduceSub, Int.reduceToNat, UInt8.reduceToNat, Go.IntWalk.i64_in, puM, puN, sStr_eq, hR, *]))
  all_goals refine Done.drop1 hid ⟨?_, rfl⟩
  all_goals simp_all [svcErr]
/-! ### Equality of structs -/
def andL : List Bool → Bool
  | [] => true
  | b :: l => b && andL l
theorem eq_file (n : Nat) (a b a' b' : Bytes) (c c' : Bool) : eqT Tryd.prog (n + 2) 42 (.agg [.str a, .str b, .bool c]) (.agg [.str a', .str b', .bool c']) = some (decide (a = a') && (decide (b = b') && (c == c' && true))) := by
  simp only [eqT, eqFields, tys, readC, TD.agg, List.drop_zero, List.drop_succ_cons, List.head?_cons, if_false, if_true, Bool.false_eq_true]
theorem eq_set (n : Nat) (a b a' b' : Bytes) : eqT Tryd.prog (n + 2) 44 (.agg [.str a, .str b]) (.agg [.str a', .str b']) = some (decide (a = a') && (decide (b = b') && true)) := by
  simp only [eqT, eqFields, tys, readC, TD.agg, List.drop_zero, List.drop_succ_cons, List.head?_cons, if_false, if_true, Bool.false_eq_true]
theorem eq_svc (n : Nat) (a b a' b' : Bytes) (c d c' d' : Bool) : eqT Tryd.prog (n + 2) 46 (.agg [.str a, .str b, .bool c, .bool d]) (.agg [.str a', .str b', .bool c', .bool d']) = some (decide (a = a') && (decide (b = b') && (c == c' && (d == d' && true)))) := by
  simp only [eqT, eqFields, tys, readC, TD.agg, List.drop_zero, List.drop_succ_cons, List.head?_cons, if_false, if_true, Bool.false_eq_true]
theorem eq_int (n : Nat) (a b : Int) : eqT Tryd.prog (n + 1) 3 (.int .i64 a) (.int .i64 b) = some (decide (a = b)) := by
  simp only [eqT, tys, if_true]
theorem eq_str (n : Nat) (a b : Bytes) : eqT Tryd.prog (n + 1) 9 (.str a) (.str b) = some (decide (a = b)) := by
  simp only [eqT, tys]
theorem eq_chg (n : Nat) (c d : ChgV) : eqT Tryd.prog (n + 3) 48 (.agg (encChg c)) (.agg (encChg d)) = some (decide (c = d)) := by
  have e : (decide (c = d)) = (decide (c.kind = d.kind) && (decide (c.file = d.file) && (decide (c.set = d.set) && (decide (c.svc = d.svc) && true)))) := by
    obtain ⟨k, ⟨a, b, r⟩, ⟨x, y⟩, ⟨p, q, u, v⟩⟩ := c
    obtain ⟨k', ⟨a', b', r'⟩, ⟨x', y'⟩, ⟨p', q', u', v'⟩⟩ := d
    rw [Bool.eq_iff_iff]
    simp
  rw [e]
  obtain ⟨k, ⟨a, b, r⟩, ⟨x, y⟩, ⟨p, q, u, v⟩⟩ := c
  obtain ⟨k', ⟨a', b', r'⟩, ⟨x', y'⟩, ⟨p', q', u', v'⟩⟩ := d
  rw [eqT]
  simp only [tys, eqFields, encChg, readC, TD.agg, List.drop_zero, List.drop_succ_cons, List.head?_cons, if_false, if_true, Bool.false_eq_true, List.length_cons, List.length_nil, Nat.reduceAdd, Nat.reduceLeDiff, List.take_succ_cons, List.take_zero, List.take_nil, eq_int, eq_file, eq_set, eq_svc, FileV.mk.injEq, SetV.mk.injEq, SvcV.mk.injEq]
  congr 1
  rw [Bool.eq_iff_iff]
  simp [and_assoc]
theorem neq_chg (cx cy : Bool) (c d : ChgV) : bin Tryd.prog .neq 48 cx cy (.agg (encChg c)) (.agg (encChg d)) = some (.bool (!decide (c = d))) := by
  have h := eq_chg 3 c d
  have e : eqA Tryd.prog 48 cx cy (.agg (encChg c)) (.agg (encChg d)) = some (decide (c = d)) := by
    unfold eqA
    simp only [tys, if_true]
    exact h
  show (eqA Tryd.prog 48 cx cy (.agg (encChg c)) (.agg (encChg d))).map (fun b => AV.bool (!b)) = _
  rw [e]; rfl
end Go.Proofs

/- Walks: changes and items, of the program and of the reference. -/
namespace Go.Proofs
open Go Go.Abs
set_option linter.unusedSimpArgs false
set_option linter.unusedVariables false
def encI (n : Int) : List AV := [.int .i64 n]
def decI : List AV → Option Int
  | [.int .i64 n] => some n
  | _ => none
theorem decI_some {c : List AV} {n : Int} (h : decI c = some n) : c = encI n := by
  unfold decI at h; split at h
  · cases h; rfl
  · cases h
theorem firstOf_at {l : List Int} {i : Nat} {e : Int} (h : firstOf (l.take i) = 0) (he : l[i]? = some e) (hne : e ≠ 0) : firstOf l = e := by
  induction l generalizing i with
  | nil => simp at he
  | cons d l ih =>
    cases i with
    | zero => simp at he; subst he; simp [firstOf, hne]
    | succ i =>
      simp only [List.take_succ_cons, firstOf] at h
      split at h
      · rename_i hd; simp only [firstOf, hd, if_true]; exact ih h (by simpa using he)
      · exact absurd h ‹_›
theorem firstOf_succ {l : List Int} {i : Nat} {e : Int} (h : firstOf (l.take i) = 0) (he : l[i]? = some e) (h0 : e = 0) : firstOf (l.take (i + 1)) = 0 := by
  induction l generalizing i with
  | nil => simp at he
  | cons d l ih =>
    cases i with
    | zero => simp at he; subst he; simp [firstOf, h0]
    | succ i =>
      simp only [List.take_succ_cons, firstOf] at h ⊢
      split at h
      · rename_i hd; simp only [hd, if_true]; exact ih h (by simpa using he)
      · exact absurd h ‹_›
theorem first_calls (l : List Int) (t : Tail) (H : Heap) (hl : l.length ≤ 1099511627776) : ACalls Tryd.prog 66 [.sl (l.map encI) t] H fun x H' => x = .int .i64 (firstOf l) ∧ H' = H := by
  refine ACalls.of_code (X := { pure := puM }) puM_ok Tryd.func66 (by kernel_rfl) rfl (by kernel_rfl) (Nat.le_of_ble_eq_true rfl) ?_
  simp -implicitDefEqProofs only [go_sem, tys, regs0, Nat.reduceEqDiff, Nat.reduceAdd, Nat.reduceLeDiff, Nat.reduceLT, Nat.reduceMul, Int.natCast_one, Int.natCast_zero, Int.reduceEq, Int.reduceLT, Int.reduceLE, Int.reduceAdd, Int.reduceSub, Int.reduceToNat, UInt8.reduceToNat, Tryd.f66]
  refine aloop_intro (σ := Nat) (fun i => [(5, .sl (l.map encI) t), (6, .int .i64 l.length), (7, .int .i64 i)]) (fun i G => G = H ∧ i ≤ l.length ∧ firstOf (l.take i) = 0) (fun i => l.length - i) 0 ?_ ?_ ?_
  · simp -implicitDefEqProofs only [go_sem, tys, regs0, Nat.reduceEqDiff, Nat.reduceAdd, Nat.reduceLeDiff, Nat.reduceLT, Nat.reduceMul, Int.natCast_one, Int.natCast_zero, Int.reduceEq, Int.reduceLT, Int.reduceLE, Int.reduceAdd, Int.reduceSub, Int.reduceToNat, UInt8.reduceToNat]
  · simp [firstOf]
  · intro i r G hv hI
    have h5 := hv.1
    have h6 := hv.2.1
    have h7 := hv.2.2.1
    have hG := hI.1.symm
    have hi := hI.2.1
    have hz := hI.2.2
    clear hv hI
    subst hG
    simp -implicitDefEqProofs only [go_sem, tys, regs0, Nat.reduceEqDiff, Nat.reduceAdd, Nat.reduceLeDiff, Nat.reduceLT, Nat.reduceMul, Int.natCast_one, Int.natCast_zero, Int.reduceEq, Int.reduceLT, Int.reduceLE, Int.reduceAdd, Int.reduceSub, Int.reduceToNat, UInt8.reduceToNat, h5, h6, h7]
    refine cnd_intro (fun h => ?_) (fun h => ?_)
    · simp only [decide_eq_true_eq] at h
      obtain ⟨c, hc⟩ : ∃ c, l[i]? = some c := ⟨l[i]'(by omega), List.getElem?_eq_getElem _⟩
      simp -implicitDefEqProofs only [go_sem, tys, regs0, Nat.reduceEqDiff, Nat.reduceAdd, Nat.reduceLeDiff, Nat.reduceLT, Nat.reduceMul, Int.natCast_one, Int.natCast_zero, Int.reduceEq, Int.reduceLT, Int.reduceLE, Int.reduceAdd, Int.reduceSub, Int.reduceToNat, UInt8.reduceToNat, h5, h6, h7, hc, encI]
      refine cnd_intro (fun g => ?_) (fun g => ?_)
      · simp -implicitDefEqProofs only [go_sem, tys, regs0, Nat.reduceEqDiff, Nat.reduceAdd, Nat.reduceLeDiff, Nat.reduceLT, Nat.reduceMul, Int.natCast_one, Int.natCast_zero, Int.reduceEq, Int.reduceLT, Int.reduceLE, Int.reduceAdd, Int.reduceSub, Int.reduceToNat, UInt8.reduceToNat, h5, h6, h7, hc]
        simp only [decide_eq_true_eq] at g
        exact Done.now ⟨by rw [firstOf_at hz hc g], rfl⟩
      · simp -implicitDefEqProofs (disch := omega) only [go_sem, tys, regs0, Nat.reduceEqDiff, Nat.reduceAdd, Nat.reduceLeDiff, Nat.reduceLT, Nat.reduceMul, Int.natCast_one, Int.natCast_zero, Int.reduceEq, Int.reduceLT, Int.reduceLE, Int.reduceAdd, Int.reduceSub, Int.reduceToNat, UInt8.reduceToNat, Go.IntWalk.i64_in, h5, h6, h7, hc]
        simp only [decide_eq_false_iff_not, Decidable.not_not] at g
        exact Again.mk (i + 1) (by simp -implicitDefEqProofs only [go_sem, tys, regs0, Nat.reduceEqDiff, Nat.reduceAdd, Nat.reduceLeDiff, Nat.reduceLT, Nat.reduceMul, Int.natCast_one, Int.natCast_zero, Int.reduceEq, Int.reduceLT, Int.reduceLE, Int.reduceAdd, Int.reduceSub, Int.reduceToNat, UInt8.reduceToNat, h5, h6, h7]; exact rfl) ⟨rfl, by omega, firstOf_succ hz hc g⟩ (by omega)
    · simp only [decide_eq_false_iff_not] at h
      have e : i = l.length := by omega
      subst e
      rw [List.take_length] at hz
      simp -implicitDefEqProofs only [go_sem, tys, regs0, Nat.reduceEqDiff, Nat.reduceAdd, Nat.reduceLeDiff, Nat.reduceLT, Nat.reduceMul, Int.natCast_one, Int.natCast_zero, Int.reduceEq, Int.reduceLT, Int.reduceLE, Int.reduceAdd, Int.reduceSub, Int.reduceToNat, UInt8.reduceToNat, h5, h6, h7]
      exact Done.now ⟨by rw [hz], rfl⟩
theorem when_calls (b : Bool) (e : Int) (H : Heap) : ACalls Tryd.prog 65 [.bool b, .int .i64 e] H fun x H' => x = .int .i64 (if b then e else 0) ∧ H' = H := by
  refine ACalls.of_code (X := { pure := puM }) puM_ok Tryd.func65 (by kernel_rfl) rfl (by kernel_rfl) (Nat.le_of_ble_eq_true rfl) ?_
  simp -implicitDefEqProofs only [go_sem, tys, regs0, Nat.reduceEqDiff, Nat.reduceAdd, Nat.reduceLeDiff, Nat.reduceLT, Nat.reduceMul, Int.natCast_one, Int.natCast_zero, Int.reduceEq, Int.reduceLT, Int.reduceLE, Int.reduceAdd, Int.reduceSub, Int.reduceToNat, UInt8.reduceToNat, Tryd.f65]
  repeat' (first | (with_reducible refine gd_intro (fun h => ?_) (fun h => ?_) <;> first | (exact absurd h (by decide)) | (simp at h; done) | simp -implicitDefEqProofs (disch := omega) only [go_sem, tys, regs0, Nat.reduceEqDiff, Nat.reduceAdd, Nat.reduceLeDiff, Nat.reduceLT, Nat.reduceMul, Int.natCast_one, Int.natCast_zero, Int.reduceEq, Int.reduceLT, Int.reduceLE, Int.reduceAdd, Int.reduceSub, Int.reduceToNat, UInt8.reduceToNat, Go.IntWalk.i64_in, *]) | (with_reducible refine cnd_intro (fun h => ?_) (fun h => ?_) <;> first | (exact absurd h (by decide)) | (simp at h; done) | simp -implicitDefEqProofs (disch := omega) only [go_sem, tys, regs0, Nat.reduceEqDiff, Nat.reduceAdd, Nat.reduceLeDiff, Nat.reduceLT, Nat.reduceMul, Int.natCast_one, Int.natCast_zero, Int.reduceEq, Int.reduceLT, Int.reduceLE, Int.reduceAdd, Int.reduceSub, Int.reduceToNat, UInt8.reduceToNat, Go.IntWalk.i64_in, *]))
  all_goals (refine Done.now ⟨?_, rfl⟩; simp [*])
def sWhen : List AV → Option AV := fn2 .bool (.int .i64) fun b e => some (.int .i64 (if b then e else 0))
def sFirst : List AV → Option AV := fn1 (Rd.list decI) fun l => if l.length ≤ 1099511627776 then some (.int .i64 (firstOf l)) else none
theorem sWhen_eq (b : Bool) (e : Int) : sWhen [.bool b, .int .i64 e] = some (.int .i64 (if b then e else 0)) := rfl
theorem decL_nil {α : Type} (d : List AV → Option α) : decL d [] = some [] := rfl
theorem decL_cons {α : Type} (d : List AV → Option α) (c : List AV) (es : List (List AV)) : decL d (c :: es) = (d c).bind fun a => (decL d es).map (a :: ·) := by
  rw [decL]
  cases d c <;> cases decL d es <;> rfl
theorem rdL_eq {α : Type} (d : List AV → Option α) (es : List (List AV)) (t : Tail) : (Rd.list d).rd (.sl es t) = decL d es := rfl
theorem decI_eq (n : Int) : decI [.int .i64 n] = some n := rfl
attribute [go_sem] decL_nil decL_cons rdL_eq decI_eq
theorem when_true (e : Int) : (if True then e else 0) = e := rfl
def sFileE : List AV → Option AV := fn1 (Rd.agg decFile) fun f => if fileR f then some (.int .i64 (fileErr f)) else none
def sSetE : List AV → Option AV := fn1 (Rd.agg decSet) fun f => if setR f then some (.int .i64 (setErr f)) else none
def sSvcE : List AV → Option AV := fn1 (Rd.agg decSvc) fun f => if svcR f then some (.int .i64 (svcErr f)) else none
def sSetF : List AV → Option AV
  | [x, .func f []] => ((Rd.agg decSet).rd x).bind fun s => if setR s then (if f = 57 then some (.int .i64 (setErr s)) else none) else none
  | _ => none
theorem sFileE_ok {P : Program} {f : FuncId} (h : ∀ a H, fileR a → ACalls P f [.agg (encFile a)] H fun x H' => x = .int .i64 (fileErr a) ∧ H' = H) : ∀ xs v, sFileE xs = some v → ∀ H, ACalls P f xs H fun x H' => x = v ∧ H' = H := by
  intro xs v hv H
  obtain ⟨x, s, rfl, h1, h2⟩ := fn1_some hv
  split at h2
  · cases h2; cases Rd.agg_some (fun _ _ => decFile_some) h1; exact h s H ‹_›
  · cases h2
theorem sSetE_ok {P : Program} {f : FuncId} (h : ∀ a H, setR a → ACalls P f [.agg (encSet a)] H fun x H' => x = .int .i64 (setErr a) ∧ H' = H) : ∀ xs v, sSetE xs = some v → ∀ H, ACalls P f xs H fun x H' => x = v ∧ H' = H := by
  intro xs v hv H
  obtain ⟨x, s, rfl, h1, h2⟩ := fn1_some hv
  split at h2
  · cases h2; cases Rd.agg_some (fun _ _ => decSet_some) h1; exact h s H ‹_›
  · cases h2
theorem sSvcE_ok {P : Program} {f : FuncId} (h : ∀ a H, svcR a → ACalls P f [.agg (encSvc a)] H fun x H' => x = .int .i64 (svcErr a) ∧ H' = H) : ∀ xs v, sSvcE xs = some v → ∀ H, ACalls P f xs H fun x H' => x = v ∧ H' = H := by
  intro xs v hv H
  obtain ⟨x, s, rfl, h1, h2⟩ := fn1_some hv
  split at h2
  · cases h2; cases Rd.agg_some (fun _ _ => decSvc_some) h1; exact h s H ‹_›
  · cases h2
def puC1 : Pures := putP 53 sFileE (putP 51 sSetF (putP 59 sSvcE (putP 66 sFirst (putP 65 sWhen puM))))
theorem puC1_dyn : isDyn puC1 = false := by simp only [puC1, go_sem, Nat.reduceEqDiff]
attribute [go_sem] puC1_dyn
theorem sWhen_ok {P : Program} {f : FuncId} (h : ∀ b e H, ACalls P f [.bool b, .int .i64 e] H fun x H' => x = .int .i64 (if b then e else 0) ∧ H' = H) : ∀ xs v, sWhen xs = some v → ∀ H, ACalls P f xs H fun x H' => x = v ∧ H' = H := by
  intro xs v hv H
  obtain ⟨x, y, p, q, rfl, h1, h2, h3⟩ := fn2_some hv
  cases h3
  cases Rd.bool_some h1
  cases Rd.int_some h2
  exact h _ _ H
theorem sFirst_ok {P : Program} {f : FuncId} (h : ∀ l t H, l.length ≤ 1099511627776 → ACalls P f [.sl (l.map encI) t] H fun x H' => x = .int .i64 (firstOf l) ∧ H' = H) : ∀ xs v, sFirst xs = some v → ∀ H, ACalls P f xs H fun x H' => x = v ∧ H' = H := by
  intro xs v hv H
  obtain ⟨x, l, rfl, h1, h2⟩ := fn1_some hv
  split at h2
  · rename_i hl
    cases h2
    obtain ⟨t, rfl⟩ := Rd.list_some (fun _ _ => decI_some) h1
    exact h l t H hl
  · cases h2
theorem sSetF_ok : ∀ xs v, sSetF xs = some v → ∀ H, ACalls Tryd.prog 51 xs H fun x H' => x = v ∧ H' = H := by
  intro xs v hv H
  unfold sSetF at hv
  split at hv
  · rename_i x f
    rw [Option.bind_eq_some_iff] at hv
    obtain ⟨s, h1, h2⟩ := hv
    split at h2
    · rename_i hr
      split at h2
      · rename_i hf
        subst hf
        cases h2
        cases Rd.agg_some (fun _ _ => decSet_some) h1
        exact settingFault_calls s H hr
      · cases h2
    · cases h2
  · cases hv
theorem puC1_ok : PuOK Tryd.prog puC1 := .put (.put (.put (.put (.put (puM_ok) (sWhen_ok when_calls)) (sFirst_ok first_calls)) (sSvcE_ok serviceFault_calls)) sSetF_ok) (sFileE_ok fileFault_calls)
theorem rFileError_calls (f : FileV) (H : Heap) (hr : fileR f) : ACalls Tryd.prog 69 [.agg (encFile f)] H fun x H' => x = .int .i64 (fileErr f) ∧ H' = H := by
  obtain ⟨h1, h2⟩ := hr
  have hR : Room = 1099511627776 := rfl
  refine ACalls.of_code (X := { pure := puC1 }) puC1_ok Tryd.func69 (by kernel_rfl) rfl (by kernel_rfl) (Nat.le_of_ble_eq_true rfl) ?_
  simp -implicitDefEqProofs only [go_sem, tys, regs0, Nat.reduceEqDiff, Nat.reduceAdd, Nat.reduceLeDiff, Nat.reduceLT, Nat.reduceMul, Int.natCast_one, Int.natCast_zero, Int.reduceEq, Int.reduceLT, Int.reduceLE, Int.reduceAdd, Int.reduceSub, Int.reduceToNat, UInt8.reduceToNat, Tryd.f69, puC1, puM, puN, puR1, encFile, sStr_eq, sWhen_eq, sFirst, hR, h1]
  with_reducible refine nwC_intro fun id hid => ?_
  simp -implicitDefEqProofs (disch := omega) only [go_sem, tys, regs0, Nat.reduceEqDiff, Nat.reduceAdd, Nat.reduceLeDiff, Nat.reduceLT, Nat.reduceMul, Int.natCast_one, Int.natCast_zero, Int.reduceEq, Int.reduceLT, Int.reduceLE, Int.reduceAdd, Int.reduceSub, Int.reduceToNat, UInt8.reduceToNat, Go.IntWalk.i64_in, puC1, puM, puN, puR1, sStr_eq, sWhen_eq, sFirst, hR, *]
  refine Done.drop1 hid ⟨?_, rfl⟩
  simp only [firstOf, fileErr]
  repeat' split
  all_goals simp_all
theorem rSettingError_calls (f : SetV) (H : Heap) (hr : setR f) : ACalls Tryd.prog 70 [.agg (encSet f)] H fun x H' => x = .int .i64 (setErr f) ∧ H' = H := by
  obtain ⟨h1, h2⟩ := hr
  have hR : Room = 1099511627776 := rfl
  refine ACalls.of_code (X := { pure := puC1 }) puC1_ok Tryd.func70 (by kernel_rfl) rfl (by kernel_rfl) (Nat.le_of_ble_eq_true rfl) ?_
  simp -implicitDefEqProofs only [go_sem, tys, regs0, Nat.reduceEqDiff, Nat.reduceAdd, Nat.reduceLeDiff, Nat.reduceLT, Nat.reduceMul, Int.natCast_one, Int.natCast_zero, Int.reduceEq, Int.reduceLT, Int.reduceLE, Int.reduceAdd, Int.reduceSub, Int.reduceToNat, UInt8.reduceToNat, Tryd.f70, puC1, puM, puN, puR1, encSet, sStr_eq, sWhen_eq, sFirst, hR, h1]
  with_reducible refine nwC_intro fun id hid => ?_
  simp -implicitDefEqProofs (disch := omega) only [go_sem, tys, regs0, Nat.reduceEqDiff, Nat.reduceAdd, Nat.reduceLeDiff, Nat.reduceLT, Nat.reduceMul, Int.natCast_one, Int.natCast_zero, Int.reduceEq, Int.reduceLT, Int.reduceLE, Int.reduceAdd, Int.reduceSub, Int.reduceToNat, UInt8.reduceToNat, Go.IntWalk.i64_in, puC1, puM, puN, puR1, sStr_eq, sWhen_eq, sFirst, hR, *]
  refine Done.drop1 hid ⟨?_, rfl⟩
  simp only [firstOf, setErr]
  repeat' split
  all_goals simp_all
theorem rServiceError_calls (f : SvcV) (H : Heap) (hr : svcR f) : ACalls Tryd.prog 71 [.agg (encSvc f)] H fun x H' => x = .int .i64 (svcErr f) ∧ H' = H := by
  obtain ⟨h1, h2⟩ := hr
  have hR : Room = 1099511627776 := rfl
  refine ACalls.of_code (X := { pure := puC1 }) puC1_ok Tryd.func71 (by kernel_rfl) rfl (by kernel_rfl) (Nat.le_of_ble_eq_true rfl) ?_
  simp -implicitDefEqProofs only [go_sem, tys, regs0, Nat.reduceEqDiff, Nat.reduceAdd, Nat.reduceLeDiff, Nat.reduceLT, Nat.reduceMul, Int.natCast_one, Int.natCast_zero, Int.reduceEq, Int.reduceLT, Int.reduceLE, Int.reduceAdd, Int.reduceSub, Int.reduceToNat, UInt8.reduceToNat, Tryd.f71, puC1, puM, puN, puR1, encSvc, sStr_eq, sWhen_eq, sFirst, hR, h1]
  with_reducible refine nwC_intro fun id hid => ?_
  simp -implicitDefEqProofs (disch := omega) only [go_sem, tys, regs0, Nat.reduceEqDiff, Nat.reduceAdd, Nat.reduceLeDiff, Nat.reduceLT, Nat.reduceMul, Int.natCast_one, Int.natCast_zero, Int.reduceEq, Int.reduceLT, Int.reduceLE, Int.reduceAdd, Int.reduceSub, Int.reduceToNat, UInt8.reduceToNat, Go.IntWalk.i64_in, puC1, puM, puN, puR1, sStr_eq, sWhen_eq, sFirst, hR, *]
  repeat' (first | (with_reducible refine gd_intro (fun h => ?_) (fun h => ?_) <;> first | (exact absurd h (by decide)) | (simp at h; done) | simp -implicitDefEqProofs (disch := omega) only [go_sem, tys, regs0, Nat.reduceEqDiff, Nat.reduceAdd, Nat.reduceLeDiff, Nat.reduceLT, Nat.reduceMul, Int.natCast_one, Int.natCast_zero, Int.reduceEq, Int.reduceLT, Int.reduceLE, Int.reduceAdd, Int.reduceSub, Int.reduceToNat, UInt8.reduceToNat, Go.IntWalk.i64_in, puC1, puM, puN, puR1, sStr_eq, sWhen_eq, sFirst, hR, *]) | (with_reducible refine cnd_intro (fun h => ?_) (fun h => ?_) <;> first | (exact absurd h (by decide)) | (simp at h; done) | simp -implicitDefEqProofs (disch := omega) only [go_sem, tys, regs0, Nat.reduceEqDiff, Nat.reduceAdd, Nat.reduceLeDiff, Nat.reduceLT, Nat.reduceMul, Int.natCast_one, Int.natCast_zero, Int.reduceEq, Int.reduceLT, Int.reduceLE, Int.reduceAdd, Int.reduceSub, Int.reduceToNat, UInt8.reduceToNat, Go.IntWalk.i64_in, puC1, puM, puN, puR1, sStr_eq, sWhen_eq, sFirst, hR, *]))
  all_goals refine Done.drop1 hid ⟨?_, rfl⟩
  all_goals (simp only [svcErr]; simp_all)
def puC2 : Pures := putP 69 sFileE (putP 70 sSetE (putP 71 sSvcE puC1))
theorem puC2_dyn : isDyn puC2 = false := by simp only [puC2, go_sem, Nat.reduceEqDiff]
attribute [go_sem] puC2_dyn
theorem puC2_ok : PuOK Tryd.prog puC2 := .put (.put (.put (puC1_ok) (sSvcE_ok rServiceError_calls)) (sSetE_ok rSettingError_calls)) (sFileE_ok rFileError_calls)
theorem neq_lit (cx cy : Bool) (k : Int) (a b : Bytes) (r : Bool) (x y p q : Bytes) (u v : Bool) (k' : Int) (a' b' : Bytes) (r' : Bool) (x' y' p' q' : Bytes) (u' v' : Bool) :
    bin Tryd.prog .neq 48 cx cy (.agg [.int .i64 k, .str a, .str b, .bool r, .str x, .str y, .str p, .str q, .bool u, .bool v]) (.agg [.int .i64 k', .str a', .str b', .bool r', .str x', .str y', .str p', .str q', .bool u', .bool v']) =
      some (.bool (!decide ((⟨k, ⟨a, b, r⟩, ⟨x, y⟩, ⟨p, q, u, v⟩⟩ : ChgV) = ⟨k', ⟨a', b', r'⟩, ⟨x', y'⟩, ⟨p', q', u', v'⟩⟩))) :=
  neq_chg cx cy ⟨k, ⟨a, b, r⟩, ⟨x, y⟩, ⟨p, q, u, v⟩⟩ ⟨k', ⟨a', b', r'⟩, ⟨x', y'⟩, ⟨p', q', u', v'⟩⟩
theorem decFile_eq (a b : Bytes) (c : Bool) : decFile [.str a, .str b, .bool c] = some ⟨a, b, c⟩ := rfl
theorem decSet_eq (a b : Bytes) : decSet [.str a, .str b] = some ⟨a, b⟩ := rfl
theorem decSvc_eq (a b : Bytes) (c d : Bool) : decSvc [.str a, .str b, .bool c, .bool d] = some ⟨a, b, c, d⟩ := rfl
theorem decChg_eq (k : Int) (a b : Bytes) (r : Bool) (x y p q : Bytes) (u v : Bool) : decChg [.int .i64 k, .str a, .str b, .bool r, .str x, .str y, .str p, .str q, .bool u, .bool v] = some ⟨k, ⟨a, b, r⟩, ⟨x, y⟩, ⟨p, q, u, v⟩⟩ := rfl
attribute [go_sem] decFile_eq decSet_eq decSvc_eq decChg_eq
theorem valueB_nil : valueB [] = true := rfl
set_option maxHeartbeats 3200000 in
theorem checkChange_calls (c : ChgV) (H : Heap) (hr : chgR c) : ACalls Tryd.prog 72 [.agg (encChg c)] H fun x H' => x = .int .i64 (chgErr c) ∧ H' = H := by
  obtain ⟨k, ⟨a, b, r⟩, ⟨x, y⟩, ⟨p, q, u, v⟩⟩ := c
  obtain ⟨h1, h2, h3⟩ := hr
  have hR : Room = 1099511627776 := rfl
  have g1 : fileR ⟨a, [], false⟩ := ⟨h1.1, by simp⟩
  have g2 : setR ⟨x, []⟩ := ⟨h2.1, by simp⟩
  have g3 : p.length ≤ 1099511627776 := h3.1
  simp only at h1 h2 h3
  refine ACalls.of_code (X := { pure := puC1 }) puC1_ok Tryd.func72 (by kernel_rfl) rfl (by kernel_rfl) (Nat.le_of_ble_eq_true rfl) ?_
  simp -implicitDefEqProofs only [go_sem, tys, regs0, Nat.reduceEqDiff, Nat.reduceAdd, Nat.reduceLeDiff, Nat.reduceLT, Nat.reduceMul, Int.natCast_one, Int.natCast_zero, Int.reduceEq, Int.reduceLT, Int.reduceLE, Int.reduceAdd, Int.reduceSub, Int.reduceToNat, UInt8.reduceToNat, Tryd.f72, encChg]
  with_reducible refine nwC_intro fun id hid => ?_
  simp -implicitDefEqProofs only [go_sem, tys, regs0, Nat.reduceEqDiff, Nat.reduceAdd, Nat.reduceLeDiff, Nat.reduceLT, Nat.reduceMul, Int.natCast_one, Int.natCast_zero, Int.reduceEq, Int.reduceLT, Int.reduceLE, Int.reduceAdd, Int.reduceSub, Int.reduceToNat, UInt8.reduceToNat]
  with_reducible refine nwC_intro fun id2 hid2 => ?_
  have n1 := (heap_none hid2).1
  have n2 := (heap_none hid2).2.1
  have hid3 := (heap_none hid2).2.2
  simp -implicitDefEqProofs only [go_sem, tys, regs0, Nat.reduceEqDiff, Nat.reduceAdd, Nat.reduceLeDiff, Nat.reduceLT, Nat.reduceMul, Int.natCast_one, Int.natCast_zero, Int.reduceEq, Int.reduceLT, Int.reduceLE, Int.reduceAdd, Int.reduceSub, Int.reduceToNat, UInt8.reduceToNat, puC1, sFileE, sSetF, sSvcE, put_ne, n1, n2]
  clear hid2
  repeat' (first | (with_reducible refine gd_intro (fun h => ?_) (fun h => ?_) <;> first | (exact absurd h (by decide)) | (simp at h; done) | simp -implicitDefEqProofs (disch := omega) only [go_sem, tys, regs0, Nat.reduceEqDiff, Nat.reduceAdd, Nat.reduceLeDiff, Nat.reduceLT, Nat.reduceMul, Int.natCast_one, Int.natCast_zero, Int.reduceEq, Int.reduceLT, Int.reduceLE, Int.reduceAdd, Int.reduceSub, Int.reduceToNat, UInt8.reduceToNat, Go.IntWalk.i64_in, puC1, puM, puN, sFileE, sSetF, sSvcE, sStr_eq, put_ne, n1, n2, neq_lit, hR, *]) | (with_reducible refine cnd_intro (fun h => ?_) (fun h => ?_) <;> first | (exact absurd h (by decide)) | (simp at h; done) | simp -implicitDefEqProofs (disch := omega) only [go_sem, tys, regs0, Nat.reduceEqDiff, Nat.reduceAdd, Nat.reduceLeDiff, Nat.reduceLT, Nat.reduceMul, Int.natCast_one, Int.natCast_zero, Int.reduceEq, Int.reduceLT, Int.reduceLE, Int.reduceAdd, Int.reduceSub, Int.reduceToNat, UInt8.reduceToNat, Go.IntWalk.i64_in, puC1, puM, puN, sFileE, sSetF, sSvcE, sStr_eq, put_ne, n1, n2, neq_lit, hR, *]))
  all_goals refine Done.drop2 hid hid3 ⟨?_, rfl⟩
  all_goals clear hid hid3 n1 n2
  all_goals congr 1
  all_goals simp only [decide_eq_true_eq, decide_eq_false_iff_not, Bool.not_eq_true', Bool.not_eq_false'] at *
  all_goals first
    | (subst k; simp_all [chgErr, partErr, kept, FileV.zero, SetV.zero, SvcV.zero, pathErr, nameErr, fileErr, setErr, valueB_nil]; done)
    | (rw [chgErr, if_pos (by simp only []; omega)]; done)
def sChgE : List AV → Option AV := fn1 (Rd.agg decChg) fun f => if chgR f then some (.int .i64 (chgErr f)) else none
theorem sChgE_ok {P : Program} {f : FuncId} (h : ∀ a H, chgR a → ACalls P f [.agg (encChg a)] H fun x H' => x = .int .i64 (chgErr a) ∧ H' = H) : ∀ xs v, sChgE xs = some v → ∀ H, ACalls P f xs H fun x H' => x = v ∧ H' = H := by
  intro xs v hv H
  obtain ⟨x, s, rfl, h1, h2⟩ := fn1_some hv
  split at h2
  · cases h2; cases Rd.agg_some (fun _ _ => decChg_some) h1; exact h s H ‹_›
  · cases h2
set_option maxHeartbeats 3200000 in
theorem rChangeError_calls (c : ChgV) (H : Heap) (hr : chgR c) : ACalls Tryd.prog 37 [.agg (encChg c)] H fun x H' => x = .int .i64 (chgErr c) ∧ H' = H := by
  obtain ⟨k, ⟨a, b, r⟩, ⟨x, y⟩, ⟨p, q, u, v⟩⟩ := c
  obtain ⟨h1, h2, h3⟩ := hr
  have hR : Room = 1099511627776 := rfl
  have g1 : a.length ≤ 1099511627776 := h1.1
  have g2 : x.length ≤ 1099511627776 := h2.1
  have g3 : p.length ≤ 1099511627776 := h3.1
  simp only at h1 h2 h3
  refine ACalls.of_code (X := { pure := puC2 }) puC2_ok Tryd.func37 (by kernel_rfl) rfl (by kernel_rfl) (Nat.le_of_ble_eq_true rfl) ?_
  simp -implicitDefEqProofs only [go_sem, tys, regs0, Nat.reduceEqDiff, Nat.reduceAdd, Nat.reduceLeDiff, Nat.reduceLT, Nat.reduceMul, Int.natCast_one, Int.natCast_zero, Int.reduceEq, Int.reduceLT, Int.reduceLE, Int.reduceAdd, Int.reduceSub, Int.reduceToNat, UInt8.reduceToNat, Tryd.f37, encChg]
  with_reducible refine nwC_intro fun id hid => ?_
  simp -implicitDefEqProofs only [go_sem, tys, regs0, Nat.reduceEqDiff, Nat.reduceAdd, Nat.reduceLeDiff, Nat.reduceLT, Nat.reduceMul, Int.natCast_one, Int.natCast_zero, Int.reduceEq, Int.reduceLT, Int.reduceLE, Int.reduceAdd, Int.reduceSub, Int.reduceToNat, UInt8.reduceToNat]
  with_reducible refine nwC_intro fun id2 hid2 => ?_
  have n1 := (heap_none hid2).1
  have n2 := (heap_none hid2).2.1
  have hid3 := (heap_none hid2).2.2
  clear hid2
  simp -implicitDefEqProofs only [go_sem, tys, regs0, Nat.reduceEqDiff, Nat.reduceAdd, Nat.reduceLeDiff, Nat.reduceLT, Nat.reduceMul, Int.natCast_one, Int.natCast_zero, Int.reduceEq, Int.reduceLT, Int.reduceLE, Int.reduceAdd, Int.reduceSub, Int.reduceToNat, UInt8.reduceToNat, puC2, puC1, sFileE, sSetE, sSvcE, put_ne, n1, n2]
  repeat' (first | (with_reducible refine gd_intro (fun h => ?_) (fun h => ?_) <;> first | (exact absurd h (by decide)) | (simp at h; done) | simp -implicitDefEqProofs (disch := omega) only [go_sem, tys, regs0, Nat.reduceEqDiff, Nat.reduceAdd, Nat.reduceLeDiff, Nat.reduceLT, Nat.reduceMul, Int.natCast_one, Int.natCast_zero, Int.reduceEq, Int.reduceLT, Int.reduceLE, Int.reduceAdd, Int.reduceSub, Int.reduceToNat, UInt8.reduceToNat, Go.IntWalk.i64_in, puC2, puC1, puM, puN, puR1, sFileE, sSetE, sSvcE, sStr_eq, sWhen_eq, sFirst, put_ne, n1, n2, neq_lit, hR, *]) | (with_reducible refine cnd_intro (fun h => ?_) (fun h => ?_) <;> first | (exact absurd h (by decide)) | (simp at h; done) | simp -implicitDefEqProofs (disch := omega) only [go_sem, tys, regs0, Nat.reduceEqDiff, Nat.reduceAdd, Nat.reduceLeDiff, Nat.reduceLT, Nat.reduceMul, Int.natCast_one, Int.natCast_zero, Int.reduceEq, Int.reduceLT, Int.reduceLE, Int.reduceAdd, Int.reduceSub, Int.reduceToNat, UInt8.reduceToNat, Go.IntWalk.i64_in, puC2, puC1, puM, puN, puR1, sFileE, sSetE, sSvcE, sStr_eq, sWhen_eq, sFirst, put_ne, n1, n2, neq_lit, hR, *]))
  all_goals refine Done.drop2 hid hid3 ⟨?_, rfl⟩
  all_goals clear hid hid3 n1 n2
  all_goals congr 1
  all_goals simp only [decide_eq_true_eq, decide_eq_false_iff_not, Bool.not_eq_true', Bool.not_eq_false'] at *
  all_goals first
    | (rw [chgErr, if_pos (by simp only []; omega)]; done)
    | (subst k
       simp only [firstOf, chgErr, partErr, kept, FileV.zero, SetV.zero, SvcV.zero, pathErr, nameErr]
       repeat' split
       all_goals simp_all)
end Go.Proofs
