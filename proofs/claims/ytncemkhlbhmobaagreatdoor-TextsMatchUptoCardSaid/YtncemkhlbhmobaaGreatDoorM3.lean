/-
  Walks and plain laws, part 3.
-/
import Derived.Test.YtncemkhlbhmobaaGreatDoorM2
import Derived.Test.YtncemkhlbhmobaaGreatDoorM1
/- Walks: Quote, on both sides. -/
namespace Go.Proofs
open Go Go.Abs
open Nat (reduceEqDiff reduceAdd reduceLeDiff reduceLT reduceMul)
open Int (reduceEq reduceLE reduceSub reduceToNat)
set_option linter.unusedSimpArgs false
set_option linter.unusedVariables false
set_option maxRecDepth 20000
theorem shr4u : ∀ m : Nat, m < 256 → shrI .u8 (m : Int) 4 = ((m / 16 : Nat) : Int) := by decide
theorem and15u : ∀ m : Nat, m < 256 → andI .u8 (m : Int) 15 = ((m % 16 : Nat) : Int) := by decide
theorem AppG.tok0 {H : Heap} {id k : Nat} {ty : Option TypeId} (h : H id = none) : AppG H (H.put id (.tail 0)) k [] (.tok id k ty) :=
  ⟨(Heap.Sub.rfl' H).put' h _, .inr ⟨id, ty, rfl, h, by rw [put_same]; simp⟩⟩
def accQ (s : Bytes) : Bytes := 34 :: quoteI s
theorem accQ_nil : [[AV.int .u8 34]] = (accQ []).map bcell := rfl
theorem accQ_take {s : Bytes} {i : Nat} {c : UInt8} (h : s[i]? = some c) : accQ (s.take (i + 1)) = accQ (s.take i) ++ qc c := by
  rw [List.take_add_one, h]
  unfold accQ
  rw [List.cons_append]
  exact congrArg _ (quoteI_snoc _ _)
theorem accQ_len (s : Bytes) (i : Nat) : (accQ (s.take i)).length ≤ 4 * s.length + 1 := by
  have := quoteI_len (s.take i)
  rw [List.length_take] at this
  unfold accQ
  rw [List.length_cons]
  omega
theorem accQ_end (s : Bytes) : (accQ s).map bcell ++ [[AV.int .u8 34]] = (quoteB s).map bcell := by simp [accQ, quoteB, bcell]
theorem u8_eq {c : UInt8} {n : Nat} (h : n < 256) : ((c.toNat : Int) = n) ↔ c = UInt8.ofNat n := by
  constructor
  · intro e
    apply UInt8.toNat_inj.1
    simp only [UInt8.toNat_ofNat']
    omega
  · rintro rfl
    simp only [UInt8.toNat_ofNat']
    omega
set_option maxHeartbeats 3200000 in
theorem quote_calls (s : Bytes) (H : Heap) (hs : s.length ≤ 1099511627776) : ACalls Tryz.prog 24 [.str s] H fun x H' => x = .str (quoteB s) ∧ H' = H := by
  have w0 : IntKind.i64.wrap ((s.length : Int) + 2) = ((s.length + 2 : Nat) : Int) := by rw [Go.IntWalk.i64_in _ (by omega)]; omega
  refine ACalls.of_code (X := { pure := pu0 }) pu0_ok Tryz.func24 (by kernel_rfl) rfl (by kernel_rfl) (Nat.le_of_ble_eq_true rfl) ?_
  simp -implicitDefEqProofs only [go_sem, reduceEqDiff, reduceAdd, reduceLeDiff, reduceLT, reduceMul, reduceEq, Int.reduceLT, reduceLE, Int.reduceAdd, reduceSub, reduceToNat, UInt8.reduceToNat, Tryz.f24, w0]
  refine makeSlice_tok (e := tiU8) (by simp -implicitDefEqProofs only [go_sem, reduceEqDiff, reduceAdd, reduceLeDiff, reduceLT, reduceMul, reduceEq, Int.reduceLT, reduceLE, Int.reduceAdd, reduceSub, reduceToNat, UInt8.reduceToNat]) ⟨rfl, rfl, by decide⟩ (by omega) (by simp only; omega) (by omega) (fun id hid => ?_)
  have hA := AppG.tok0 (k := 1) (ty := some 5) hid
  generalize H.put id (.tail 0) = G at *
  simp -implicitDefEqProofs only [go_sem, reduceEqDiff, reduceAdd, reduceLeDiff, reduceLT, reduceMul, reduceEq, Int.reduceLT, reduceLE, Int.reduceAdd, reduceSub, reduceToNat, UInt8.reduceToNat]
  refine AppG.step (e := tiU8) hA (by simp [Unif]) (by simp) (by simp) (fun tl G1 hA1 hK1 => ?_)
  clear hA hid
  rw [List.nil_append, accQ_nil] at hA1
  rw [List.nil_append, accQ_nil]
  simp -implicitDefEqProofs only [go_sem, reduceEqDiff, reduceAdd, reduceLeDiff, reduceLT, reduceMul, reduceEq, Int.reduceLT, reduceLE, Int.reduceAdd, reduceSub, reduceToNat, UInt8.reduceToNat]
  refine aloop_intro (σ := Nat × Tail) (fun t => [(0, .str s), (3, .sl ((accQ (s.take t.1)).map bcell) t.2), (4, .int .i64 t.1)])
    (fun t G' => AppG H G' 1 ((accQ (s.take t.1)).map bcell) t.2 ∧ t.1 ≤ s.length) (fun t => s.length - t.1) (0, tl) ?_ ?_ ?_
  · simp -implicitDefEqProofs only [go_sem, reduceEqDiff, reduceAdd, reduceLeDiff, reduceLT, reduceMul, reduceEq, Int.reduceLT, reduceLE, Int.reduceAdd, reduceSub, reduceToNat, UInt8.reduceToNat]
  · exact ⟨hA1, Nat.zero_le _⟩
  clear hA1 hK1
  rintro ⟨i, tl1⟩ r G2 hv ⟨hA, hi⟩
  have h0 := hv.1
  have h3 := hv.2.1
  have h4 := hv.2.2.1
  clear hv
  simp only at h0 h3 h4 hA hi
  have hql := accQ_len s i
  have hU := bcell_len (accQ (s.take i))
  by_cases g : i < s.length
  · have y0 : decide ((i : Int) < s.length) = true := decide_eq_true (by omega)
    obtain ⟨c, hc⟩ : ∃ c, s[i]? = some c := getD_get' g
    have hq := accQ_take hc
    have hcl := c.toNat_lt
    have ws : IntKind.i64.wrap ((i : Int) + 1) = ((i + 1 : Nat) : Int) := by rw [Go.IntWalk.i64_in _ (by omega)]; omega
    have e92 := @u8_eq c 92 (by decide)
    have e34 := @u8_eq c 34 (by decide)
    have e10 := @u8_eq c 10 (by decide)
    have a1 := shr4u c.toNat hcl
    have a2 := and15u c.toNat hcl
    have d1 := dig_get (c.toNat / 16) (by omega)
    have d2 := dig_get (c.toNat % 16) (by omega)
    have again : ∀ (l : Bytes) (es : List (List AV)), qc c = l → es = l.map bcell → (accQ (s.take i)).map bcell ++ es = (accQ (s.take (i + 1))).map bcell := fun l es h1 h2 => by rw [hq, h1, h2, List.map_append]
    have hel : (accQ (s.take i)).length ≤ 8796093022208 := by omega
    have fin : ∀ (es : List (List AV)) (k : K1), (accQ (s.take i)).map bcell ++ es = (accQ (s.take (i + 1))).map bcell → es.length ≤ 4 →
        (∀ tl2 G3, AppG H G3 1 ((accQ (s.take (i + 1))).map bcell) tl2 → k (.sl ((accQ (s.take (i + 1))).map bcell) tl2) G3) → appK (some 5) false tiU8 (.sl ((accQ (s.take i)).map bcell) tl1) es G2 k := fun es k h1 h2 h3 => by
      refine AppG.step (e := tiU8) hA hU (by simp; omega) (by simp; omega) (fun tl2 G3 hA3 hK3 => ?_)
      rw [h1] at hA3 ⊢
      exact h3 tl2 G3 hA3
    by_cases c1 : c = 92 ∨ c = 34
    · have hqc : qc c = [92, c] := by unfold qc; rw [if_pos c1]
      have ag := again _ [[.int .u8 92], [.int .u8 c.toNat]] hqc rfl
      by_cases c2 : c = 92
      · have y1 : decide ((c.toNat : Int) = 92) = true := decide_eq_true (e92.2 c2)
        simp -implicitDefEqProofs only [go_sem, reduceEqDiff, reduceAdd, reduceLeDiff, reduceLT, reduceMul, reduceEq, Int.reduceLT, reduceLE, Int.reduceAdd, reduceSub, reduceToNat, UInt8.reduceToNat, h0, h3, h4, y0, hc, y1]
        refine fin _ _ ag (by simp) (fun tl2 G3 hA3 => ?_)
        simp -implicitDefEqProofs only [go_sem, reduceEqDiff, reduceAdd, reduceLeDiff, reduceLT, reduceMul, reduceEq, Int.reduceLT, reduceLE, Int.reduceAdd, reduceSub, reduceToNat, UInt8.reduceToNat, h0, h4, ws]
        exact Again.mk (i + 1, tl2) (by simp -implicitDefEqProofs only [go_sem, reduceEqDiff, reduceAdd, reduceLeDiff, reduceLT, reduceMul, reduceEq, Int.reduceLT, reduceLE, Int.reduceAdd, reduceSub, reduceToNat, UInt8.reduceToNat, h0, h4]) ⟨hA3, by simp only; omega⟩ (by simp only; omega)
      · have y1 : decide ((c.toNat : Int) = 92) = false := decide_eq_false (fun e => c2 (e92.1 e))
        have y2 : decide ((c.toNat : Int) = 34) = true := decide_eq_true (e34.2 (c1.resolve_left c2))
        simp -implicitDefEqProofs only [go_sem, reduceEqDiff, reduceAdd, reduceLeDiff, reduceLT, reduceMul, reduceEq, Int.reduceLT, reduceLE, Int.reduceAdd, reduceSub, reduceToNat, UInt8.reduceToNat, h0, h3, h4, y0, hc, y1, y2]
        refine fin _ _ ag (by simp) (fun tl2 G3 hA3 => ?_)
        simp -implicitDefEqProofs only [go_sem, reduceEqDiff, reduceAdd, reduceLeDiff, reduceLT, reduceMul, reduceEq, Int.reduceLT, reduceLE, Int.reduceAdd, reduceSub, reduceToNat, UInt8.reduceToNat, h0, h4, ws]
        exact Again.mk (i + 1, tl2) (by simp -implicitDefEqProofs only [go_sem, reduceEqDiff, reduceAdd, reduceLeDiff, reduceLT, reduceMul, reduceEq, Int.reduceLT, reduceLE, Int.reduceAdd, reduceSub, reduceToNat, UInt8.reduceToNat, h0, h4]) ⟨hA3, by simp only; omega⟩ (by simp only; omega)
    simp only [not_or] at c1
    have y1 : decide ((c.toNat : Int) = 92) = false := decide_eq_false (fun e => c1.1 (e92.1 e))
    have y2 : decide ((c.toNat : Int) = 34) = false := decide_eq_false (fun e => c1.2 (e34.1 e))
    by_cases c2 : c = 10
    · have hqc : qc c = [92, 110] := by unfold qc; rw [if_neg (by simp only [not_or]; exact c1), if_pos c2]
      have ag := again _ [[.int .u8 92], [.int .u8 110]] hqc rfl
      have y3 : decide ((c.toNat : Int) = 10) = true := decide_eq_true (e10.2 c2)
      simp -implicitDefEqProofs only [go_sem, reduceEqDiff, reduceAdd, reduceLeDiff, reduceLT, reduceMul, reduceEq, Int.reduceLT, reduceLE, Int.reduceAdd, reduceSub, reduceToNat, UInt8.reduceToNat, h0, h3, h4, y0, hc, y1, y2, y3]
      refine fin _ _ ag (by simp) (fun tl2 G3 hA3 => ?_)
      simp -implicitDefEqProofs only [go_sem, reduceEqDiff, reduceAdd, reduceLeDiff, reduceLT, reduceMul, reduceEq, Int.reduceLT, reduceLE, Int.reduceAdd, reduceSub, reduceToNat, UInt8.reduceToNat, h0, h4, ws]
      exact Again.mk (i + 1, tl2) (by simp -implicitDefEqProofs only [go_sem, reduceEqDiff, reduceAdd, reduceLeDiff, reduceLT, reduceMul, reduceEq, Int.reduceLT, reduceLE, Int.reduceAdd, reduceSub, reduceToNat, UInt8.reduceToNat, h0, h4]) ⟨hA3, by simp only; omega⟩ (by simp only; omega)
    have y3 : decide ((c.toNat : Int) = 10) = false := decide_eq_false (fun e => c2 (e10.1 e))
    by_cases c3 : c.toNat < 32 ∨ 126 < c.toNat
    · have hqc : qc c = [92, 120, dig (c.toNat / 16), dig (c.toNat % 16)] := by unfold qc; rw [if_neg (by simp only [not_or]; exact c1), if_neg c2, if_pos c3]
      have ag := again _ [[.int .u8 92], [.int .u8 120], [.int .u8 (dig (c.toNat / 16)).toNat], [.int .u8 (dig (c.toNat % 16)).toNat]] hqc rfl
      by_cases c4 : c.toNat < 32
      · have y4 : decide ((c.toNat : Int) < 32) = true := decide_eq_true (by omega)
        simp -implicitDefEqProofs only [go_sem, reduceEqDiff, reduceAdd, reduceLeDiff, reduceLT, reduceMul, reduceEq, Int.reduceLT, reduceLE, Int.reduceAdd, reduceSub, reduceToNat, UInt8.reduceToNat, h0, h3, h4, y0, hc, y1, y2, y3, y4, a1, a2, Int.toNat_natCast, d1, d2]
        refine fin _ _ ag (by simp) (fun tl2 G3 hA3 => ?_)
        simp -implicitDefEqProofs only [go_sem, reduceEqDiff, reduceAdd, reduceLeDiff, reduceLT, reduceMul, reduceEq, Int.reduceLT, reduceLE, Int.reduceAdd, reduceSub, reduceToNat, UInt8.reduceToNat, h0, h4, ws]
        exact Again.mk (i + 1, tl2) (by simp -implicitDefEqProofs only [go_sem, reduceEqDiff, reduceAdd, reduceLeDiff, reduceLT, reduceMul, reduceEq, Int.reduceLT, reduceLE, Int.reduceAdd, reduceSub, reduceToNat, UInt8.reduceToNat, h0, h4]) ⟨hA3, by simp only; omega⟩ (by simp only; omega)
      · have y4 : decide ((c.toNat : Int) < 32) = false := decide_eq_false (by omega)
        have y5 : decide (126 < (c.toNat : Int)) = true := decide_eq_true (by omega)
        simp -implicitDefEqProofs only [go_sem, reduceEqDiff, reduceAdd, reduceLeDiff, reduceLT, reduceMul, reduceEq, Int.reduceLT, reduceLE, Int.reduceAdd, reduceSub, reduceToNat, UInt8.reduceToNat, h0, h3, h4, y0, hc, y1, y2, y3, y4, y5, a1, a2, Int.toNat_natCast, d1, d2]
        refine fin _ _ ag (by simp) (fun tl2 G3 hA3 => ?_)
        simp -implicitDefEqProofs only [go_sem, reduceEqDiff, reduceAdd, reduceLeDiff, reduceLT, reduceMul, reduceEq, Int.reduceLT, reduceLE, Int.reduceAdd, reduceSub, reduceToNat, UInt8.reduceToNat, h0, h4, ws]
        exact Again.mk (i + 1, tl2) (by simp -implicitDefEqProofs only [go_sem, reduceEqDiff, reduceAdd, reduceLeDiff, reduceLT, reduceMul, reduceEq, Int.reduceLT, reduceLE, Int.reduceAdd, reduceSub, reduceToNat, UInt8.reduceToNat, h0, h4]) ⟨hA3, by simp only; omega⟩ (by simp only; omega)
    simp only [not_or] at c3
    have hqc : qc c = [c] := by unfold qc; rw [if_neg (by simp only [not_or]; exact c1), if_neg c2, if_neg (by omega)]
    have ag := again _ [[.int .u8 c.toNat]] hqc rfl
    have y4 : decide ((c.toNat : Int) < 32) = false := decide_eq_false (by omega)
    have y5 : decide (126 < (c.toNat : Int)) = false := decide_eq_false (by omega)
    simp -implicitDefEqProofs only [go_sem, reduceEqDiff, reduceAdd, reduceLeDiff, reduceLT, reduceMul, reduceEq, Int.reduceLT, reduceLE, Int.reduceAdd, reduceSub, reduceToNat, UInt8.reduceToNat, h0, h3, h4, y0, hc, y1, y2, y3, y4, y5]
    refine fin _ _ ag (by simp) (fun tl2 G3 hA3 => ?_)
    simp -implicitDefEqProofs only [go_sem, reduceEqDiff, reduceAdd, reduceLeDiff, reduceLT, reduceMul, reduceEq, Int.reduceLT, reduceLE, Int.reduceAdd, reduceSub, reduceToNat, UInt8.reduceToNat, h0, h4, ws]
    exact Again.mk (i + 1, tl2) (by simp -implicitDefEqProofs only [go_sem, reduceEqDiff, reduceAdd, reduceLeDiff, reduceLT, reduceMul, reduceEq, Int.reduceLT, reduceLE, Int.reduceAdd, reduceSub, reduceToNat, UInt8.reduceToNat, h0, h4]) ⟨hA3, by simp only; omega⟩ (by simp only; omega)
  · have y0 : decide ((i : Int) < s.length) = false := decide_eq_false (by omega)
    obtain rfl : i = s.length := by omega
    rw [List.take_length] at h3 hA hql hU
    simp -implicitDefEqProofs only [go_sem, reduceEqDiff, reduceAdd, reduceLeDiff, reduceLT, reduceMul, reduceEq, Int.reduceLT, reduceLE, Int.reduceAdd, reduceSub, reduceToNat, UInt8.reduceToNat, h0, h3, h4, y0]
    refine AppG.step (e := tiU8) hA hU (by simp; omega) (by simp; omega) (fun tl2 G3 hA3 hK3 => ?_)
    rw [accQ_end]
    simp -implicitDefEqProofs only [go_sem, reduceEqDiff, reduceAdd, reduceLeDiff, reduceLT, reduceMul, reduceEq, Int.reduceLT, reduceLE, Int.reduceAdd, reduceSub, reduceToNat, UInt8.reduceToNat]
    refine conv_sl (by simp -implicitDefEqProofs only [go_sem, reduceEqDiff, reduceAdd, reduceLeDiff, reduceLT, reduceMul, reduceEq, Int.reduceLT, reduceLE, Int.reduceAdd, reduceSub, reduceToNat, UInt8.reduceToNat]) (by simp -implicitDefEqProofs only [go_sem, reduceEqDiff, reduceAdd, reduceLeDiff, reduceLT, reduceMul, reduceEq, Int.reduceLT, reduceLE, Int.reduceAdd, reduceSub, reduceToNat, UInt8.reduceToNat]) ?_
    simp -implicitDefEqProofs only [go_sem, reduceEqDiff, reduceAdd, reduceLeDiff, reduceLT, reduceMul, reduceEq, Int.reduceLT, reduceLE, Int.reduceAdd, reduceSub, reduceToNat, UInt8.reduceToNat]
    exact Done.drop hA3.1 ⟨rfl, rfl⟩
/-! ### The reference's -/
theorem writeByte_calls {g : Bool} {H G : Heap} {b : Nat} {l : Bytes} {c : UInt8} (h : BldG g H G b l) (hl : l.length + 1 ≤ 140737488355328) :
    ACalls Tryz.prog 55 [bldP b, .int .u8 c.toNat] G fun x G' => x = .nilIface ∧ BldG g H G' b (l ++ [c]) ∧ BKept b G G' := by
  obtain ⟨h1, h2, p, buf, h3, h4, h5⟩ := h
  have hc := copyCheck_calls h4 h3
  have hne : ([[AV.int .u8 c.toNat]] : List (List AV)) ≠ [] := by simp
  rcases h5 with ⟨rfl, rfl⟩ | ⟨t, rfl, t2, t3, t4, t9⟩
  · refine ACalls.of_code (X := { pure := pu0 }) pu0_ok Tryz.func55 (by kernel_rfl) rfl (by kernel_rfl) (Nat.le_of_ble_eq_true rfl) ?_
    simp -implicitDefEqProofs only [go_sem, reduceEqDiff, reduceAdd, reduceLeDiff, reduceLT, reduceMul, reduceEq, Int.reduceLT, reduceLE, Int.reduceAdd, reduceSub, reduceToNat, UInt8.reduceToNat, Tryz.f55]
    refine hc.next1 ?_
    simp -implicitDefEqProofs only [go_sem, reduceEqDiff, reduceAdd, reduceLeDiff, reduceLT, reduceMul, reduceEq, Int.reduceLT, reduceLE, Int.reduceAdd, reduceSub, reduceToNat, UInt8.reduceToNat]
    refine app_snil (by simp) (by simp) (fun hn => absurd hn hne) (fun hn t' ht' => ?_)
    have n1 := (heap_none ht').1
    have n2 := (heap_none ht').2.1
    have n3 := (heap_none ht').2.2
    have n4 : H t' = none := by
      cases hh : H t' with
      | none => rfl
      | some x => have := h1 t' x hh; rw [n3] at this; cases this
    simp -implicitDefEqProofs only [go_sem, reduceEqDiff, reduceAdd, reduceLeDiff, reduceLT, reduceMul, reduceEq, Int.reduceLT, reduceLE, Int.reduceAdd, reduceSub, reduceToNat, UInt8.reduceToNat, put_ne, n2]
    refine Done.now ⟨rfl, ⟨((h1.put' h2 _).put' n4 _).put' h2 _, h2, _, _, put_same _ _ _, .inr rfl, .inr ⟨t', rfl, n4, ?_, n1, fun _ => by simp⟩⟩, fun i o hi hb _ => ?_⟩
    · rw [put_ne _ _ _ _ n1, put_same]; simp
    · have n5 : ¬ i = t' := fun e => by subst e; rw [n3] at hi; cases hi
      rw [put_ne _ _ _ _ hb, put_ne _ _ _ _ n5, put_ne _ _ _ _ hb]; exact hi
  · have htk : tokOf G b = some t := by simp [tokOf, h3]
    have t5 : (G.put b (.cells [bldP b, .sl (l.map bcell) (.tok t 1 (some 5))])) t = some (.tail ((l.map bcell).length * 1)) := by
      rw [put_ne _ _ _ _ t4]; simpa using t3
    refine ACalls.of_code (X := { pure := pu0 }) pu0_ok Tryz.func55 (by kernel_rfl) rfl (by kernel_rfl) (Nat.le_of_ble_eq_true rfl) ?_
    simp -implicitDefEqProofs only [go_sem, reduceEqDiff, reduceAdd, reduceLeDiff, reduceLT, reduceMul, reduceEq, Int.reduceLT, reduceLE, Int.reduceAdd, reduceSub, reduceToNat, UInt8.reduceToNat, Tryz.f55]
    refine hc.next1 ?_
    simp -implicitDefEqProofs only [go_sem, reduceEqDiff, reduceAdd, reduceLeDiff, reduceLT, reduceMul, reduceEq, Int.reduceLT, reduceLE, Int.reduceAdd, reduceSub, reduceToNat, UInt8.reduceToNat]
    refine app_tok' (e := tiU8) (bcell_len l) t5 (by simp at hl ⊢; omega) (by simp at hl ⊢; omega) (fun t' ht' => ?_)
    have n1 := (heap_none ht').1
    have n2 := (heap_none ht').2.1
    have n3 := (heap_none ht').2.2
    have n4 : H t' = none := by
      cases hh : H t' with
      | none => rfl
      | some x => have := h1 t' x hh; rw [n3] at this; cases this
    have n6 : ¬ b = t := fun e => t4 e.symm
    have n7 : H.Sub ((G.put b (.cells [bldP b, .sl (l.map bcell) (.tok t 1 (some 5))])).del t) := fun i o hi => by
      rw [del_ne (fun e => by subst e; rw [t2] at hi; cases hi)]
      exact h1.put' h2 _ i o hi
    simp -implicitDefEqProofs only [go_sem, reduceEqDiff, reduceAdd, reduceLeDiff, reduceLT, reduceMul, reduceEq, Int.reduceLT, reduceLE, Int.reduceAdd, reduceSub, reduceToNat, UInt8.reduceToNat, put_ne, n2, del_ne, n6]
    refine Done.now ⟨rfl, ⟨(n7.put' n4 _).put' h2 _, h2, _, _, put_same _ _ _, .inr rfl, .inr ⟨t', by rw [List.map_append]; rfl, n4, ?_, n1, fun e => by simp⟩⟩, fun i o hi hb hk => ?_⟩
    · rw [put_ne _ _ _ _ n1, put_same]; simp
    · have n5 : ¬ i = t' := fun e => by subst e; rw [n3] at hi; cases hi
      have n8 : ¬ i = t := fun e => hk (by rw [htk, e])
      rw [put_ne _ _ _ _ hb, put_ne _ _ _ _ n5, del_ne n8, put_ne _ _ _ _ hb]; exact hi
theorem writeByte_k {g : Bool} {H G : Heap} {b : Nat} {l : Bytes} {c : UInt8} (h : BldG g H G b l) (hl : l.length + 1 ≤ 140737488355328) {K : K1} (hK : ∀ G', BldG g H G' b (l ++ [c]) → BKept b G G' → K .nilIface G') :
    ACalls Tryz.prog 55 [bldP b, .int .u8 c.toNat] G K := by
  refine (writeByte_calls h hl).mono ?_
  rintro x G' ⟨rfl, h1, h2⟩
  exact hK G' h1 h2
end Go.Proofs

/- Walks: Quote, on the reference's side; escape; Unquote. -/
namespace Go.Proofs
open Go Go.Abs
open Nat (reduceEqDiff reduceAdd reduceLeDiff reduceLT reduceMul)
open Int (reduceEq reduceLE reduceSub reduceToNat)
set_option linter.unusedSimpArgs false
set_option linter.unusedVariables false
set_option maxRecDepth 20000
theorem hexCut : ∀ m : Nat, m < 16 → ((48 :: ([49, 50, 51, 52, 53, 54, 55, 56, 57, 97, 98, 99, 100, 101, 102] : Bytes).take m).drop m) = [dig m] := by decide
theorem take_drop1 {s : Bytes} {i : Nat} {c : UInt8} (h : s[i]? = some c) : (s.take (i + 1)).drop i = [c] := by
  rw [List.take_add_one, h, List.drop_append_of_le_length (by rw [List.length_take]; have := (List.getElem?_eq_some_iff.1 h).1; omega), List.drop_of_length_le (by rw [List.length_take]; omega)]
  rfl
set_option maxHeartbeats 3200000 in
theorem rQuote_calls (s : Bytes) (H : Heap) (hs : s.length ≤ 1099511627776) : ACalls Tryz.prog 26 [.str s] H fun x H' => x = .str (quoteB s) ∧ H' = H := by
  refine ACalls.of_code (X := { pure := pu0, ms := fun t => decide (t = 3) }) pu0_ok Tryz.func26 (by kernel_rfl) rfl (by kernel_rfl) (Nat.le_of_ble_eq_true rfl) ?_
  simp -implicitDefEqProofs only [go_sem, reduceEqDiff, reduceAdd, reduceLeDiff, reduceLT, reduceMul, reduceEq, Int.reduceLT, reduceLE, Int.reduceAdd, reduceSub, reduceToNat, UInt8.reduceToNat, Tryz.f26]
  with_reducible refine nwT_intro fun b hb => ?_
  have hnew := BldG.new (Heap.Sub.rfl' H) hb
  simp -implicitDefEqProofs only [go_sem, reduceEqDiff, reduceAdd, reduceLeDiff, reduceLT, reduceMul, reduceEq, Int.reduceLT, reduceLE, Int.reduceAdd, reduceSub, reduceToNat, UInt8.reduceToNat]
  refine writeByte_k (c := 34) hnew (by simp) (fun G hG hK => ?_)
  clear hnew hK
  rw [show ([] : Bytes) ++ [34] = accQ [] from rfl] at hG
  simp -implicitDefEqProofs only [go_sem, reduceEqDiff, reduceAdd, reduceLeDiff, reduceLT, reduceMul, reduceEq, Int.reduceLT, reduceLE, Int.reduceAdd, reduceSub, reduceToNat, UInt8.reduceToNat]
  refine aloop_intro (σ := Nat) (fun i => [(0, .str s), (3, bldP b), (8, .int .i64 s.length), (9, .int .i64 i)]) (fun i G' => BldOK H G' b (accQ (s.take i)) ∧ i ≤ s.length) (fun i => s.length - i) 0 ?_ ?_ ?_
  · simp -implicitDefEqProofs only [go_sem, reduceEqDiff, reduceAdd, reduceLeDiff, reduceLT, reduceMul, reduceEq, Int.reduceLT, reduceLE, Int.reduceAdd, reduceSub, reduceToNat, UInt8.reduceToNat]
  · exact ⟨hG, Nat.zero_le _⟩
  clear hG
  rintro i r G2 hv ⟨hB, hi⟩
  have h0 := hv.1
  have h3 := hv.2.1
  have h8 := hv.2.2.1
  have h9 := hv.2.2.2.1
  clear hv
  have hql := accQ_len s i
  by_cases g : i < s.length
  · have y0 : decide ((i : Int) < s.length) = true := decide_eq_true (by omega)
    obtain ⟨c, hc⟩ : ∃ c, s[i]? = some c := getD_get' g
    have hq := accQ_take hc
    have hcl := c.toNat_lt
    have ws : IntKind.i64.wrap ((i : Int) + 1) = ((i + 1 : Nat) : Int) := by rw [Go.IntWalk.i64_in _ (by omega)]; omega
    have e92 := @u8_eq c 92 (by decide)
    have e34 := @u8_eq c 34 (by decide)
    have e10 := @u8_eq c 10 (by decide)
    have a1 := shr4u c.toNat hcl
    have a2 := and15u c.toNat hcl
    have b1 : IntKind.u8.wrap (((c.toNat / 16 : Nat) : Int) + 1) = ((c.toNat / 16 + 1 : Nat) : Int) := by rw [Go.IntWalk.u8_in _ (by omega)]; omega
    have b2 : IntKind.u8.wrap (((c.toNat % 16 : Nat) : Int) + 1) = ((c.toNat % 16 + 1 : Nat) : Int) := by rw [Go.IntWalk.u8_in _ (by omega)]; omega
    have d1 := hexCut (c.toNat / 16) (by omega)
    have d2 := hexCut (c.toNat % 16) (by omega)
    have t1 := take_drop1 hc
    have fin : ∀ {k : K1} (l : Bytes), qc c = l → (∀ G3, BldOK H G3 b (accQ (s.take (i + 1))) → k (.tup [.int .i64 l.length, .nilIface]) G3) → ACalls Tryz.prog 56 [bldP b, .str l] G2 k := fun {k} l h1 h2 => by
      have hl : l.length ≤ 4 := by
        rw [← h1]
        unfold qc
        repeat' split
        all_goals simp
      refine writeString_k hB (by omega) (fun G3 hG3 _ => ?_)
      rw [← h1, ← hq] at hG3
      exact h2 G3 hG3
    by_cases c1 : c = 92 ∨ c = 34
    · have hqc : qc c = [92, c] := by unfold qc; rw [if_pos c1]
      by_cases c2 : c = 34
      · have y1 : decide ((c.toNat : Int) = 34) = true := decide_eq_true (e34.2 c2)
        simp -implicitDefEqProofs only [go_sem, reduceEqDiff, reduceAdd, reduceLeDiff, reduceLT, reduceMul, reduceEq, Int.reduceLT, reduceLE, Int.reduceAdd, reduceSub, reduceToNat, UInt8.reduceToNat, h0, h3, h8, h9, y0, hc, y1, ws, Int.toNat_natCast, t1]
        refine ⟨by omega, ?_⟩
        refine fin _ hqc (fun G3 hB3 => ?_)
        simp -implicitDefEqProofs only [go_sem, reduceEqDiff, reduceAdd, reduceLeDiff, reduceLT, reduceMul, reduceEq, Int.reduceLT, reduceLE, Int.reduceAdd, reduceSub, reduceToNat, UInt8.reduceToNat, h0, h3, h8, h9, ws]
        exact Again.mk (i + 1) (by simp -implicitDefEqProofs only [go_sem, reduceEqDiff, reduceAdd, reduceLeDiff, reduceLT, reduceMul, reduceEq, Int.reduceLT, reduceLE, Int.reduceAdd, reduceSub, reduceToNat, UInt8.reduceToNat, h0, h3, h8, h9]) ⟨hB3, by omega⟩ (by omega)
      · have y1 : decide ((c.toNat : Int) = 34) = false := decide_eq_false (fun e => c2 (e34.1 e))
        have y2 : decide ((c.toNat : Int) = 92) = true := decide_eq_true (e92.2 (c1.resolve_right c2))
        simp -implicitDefEqProofs only [go_sem, reduceEqDiff, reduceAdd, reduceLeDiff, reduceLT, reduceMul, reduceEq, Int.reduceLT, reduceLE, Int.reduceAdd, reduceSub, reduceToNat, UInt8.reduceToNat, h0, h3, h8, h9, y0, hc, y1, y2, ws, Int.toNat_natCast, t1]
        refine ⟨by omega, ?_⟩
        refine fin _ hqc (fun G3 hB3 => ?_)
        simp -implicitDefEqProofs only [go_sem, reduceEqDiff, reduceAdd, reduceLeDiff, reduceLT, reduceMul, reduceEq, Int.reduceLT, reduceLE, Int.reduceAdd, reduceSub, reduceToNat, UInt8.reduceToNat, h0, h3, h8, h9, ws]
        exact Again.mk (i + 1) (by simp -implicitDefEqProofs only [go_sem, reduceEqDiff, reduceAdd, reduceLeDiff, reduceLT, reduceMul, reduceEq, Int.reduceLT, reduceLE, Int.reduceAdd, reduceSub, reduceToNat, UInt8.reduceToNat, h0, h3, h8, h9]) ⟨hB3, by omega⟩ (by omega)
    simp only [not_or] at c1
    have y1 : decide ((c.toNat : Int) = 92) = false := decide_eq_false (fun e => c1.1 (e92.1 e))
    have y2 : decide ((c.toNat : Int) = 34) = false := decide_eq_false (fun e => c1.2 (e34.1 e))
    by_cases c2 : c = 10
    · have hqc : qc c = [92, 110] := by unfold qc; rw [if_neg (by simp only [not_or]; exact c1), if_pos c2]
      have y3 : decide ((c.toNat : Int) = 10) = true := decide_eq_true (e10.2 c2)
      simp -implicitDefEqProofs only [go_sem, reduceEqDiff, reduceAdd, reduceLeDiff, reduceLT, reduceMul, reduceEq, Int.reduceLT, reduceLE, Int.reduceAdd, reduceSub, reduceToNat, UInt8.reduceToNat, h0, h3, h8, h9, y0, hc, y1, y2, y3]
      refine fin _ hqc (fun G3 hB3 => ?_)
      simp -implicitDefEqProofs only [go_sem, reduceEqDiff, reduceAdd, reduceLeDiff, reduceLT, reduceMul, reduceEq, Int.reduceLT, reduceLE, Int.reduceAdd, reduceSub, reduceToNat, UInt8.reduceToNat, h0, h3, h8, h9, ws]
      exact Again.mk (i + 1) (by simp -implicitDefEqProofs only [go_sem, reduceEqDiff, reduceAdd, reduceLeDiff, reduceLT, reduceMul, reduceEq, Int.reduceLT, reduceLE, Int.reduceAdd, reduceSub, reduceToNat, UInt8.reduceToNat, h0, h3, h8, h9]) ⟨hB3, by omega⟩ (by omega)
    have y3 : decide ((c.toNat : Int) = 10) = false := decide_eq_false (fun e => c2 (e10.1 e))
    by_cases c3 : c.toNat < 32 ∨ 126 < c.toNat
    · have hqc : qc c = [92, 120, dig (c.toNat / 16), dig (c.toNat % 16)] := by unfold qc; rw [if_neg (by simp only [not_or]; exact c1), if_neg c2, if_pos c3]
      by_cases c4 : c.toNat < 32
      · have y4 : decide ((c.toNat : Int) < 32) = true := decide_eq_true (by omega)
        simp -implicitDefEqProofs only [go_sem, reduceEqDiff, reduceAdd, reduceLeDiff, reduceLT, reduceMul, reduceEq, Int.reduceLT, reduceLE, Int.reduceAdd, reduceSub, reduceToNat, UInt8.reduceToNat, h0, h3, h8, h9, y0, hc, y1, y2, y3, y4, a1, a2, b1, b2, Int.toNat_natCast, List.take_length, d1, d2]
        refine ⟨by omega, ⟨by omega, by omega⟩, ?_⟩
        refine fin _ hqc (fun G3 hB3 => ?_)
        simp -implicitDefEqProofs only [go_sem, reduceEqDiff, reduceAdd, reduceLeDiff, reduceLT, reduceMul, reduceEq, Int.reduceLT, reduceLE, Int.reduceAdd, reduceSub, reduceToNat, UInt8.reduceToNat, h0, h3, h8, h9, ws]
        exact Again.mk (i + 1) (by simp -implicitDefEqProofs only [go_sem, reduceEqDiff, reduceAdd, reduceLeDiff, reduceLT, reduceMul, reduceEq, Int.reduceLT, reduceLE, Int.reduceAdd, reduceSub, reduceToNat, UInt8.reduceToNat, h0, h3, h8, h9]) ⟨hB3, by omega⟩ (by omega)
      · have y4 : decide ((c.toNat : Int) < 32) = false := decide_eq_false (by omega)
        have y5 : decide (126 < (c.toNat : Int)) = true := decide_eq_true (by omega)
        simp -implicitDefEqProofs only [go_sem, reduceEqDiff, reduceAdd, reduceLeDiff, reduceLT, reduceMul, reduceEq, Int.reduceLT, reduceLE, Int.reduceAdd, reduceSub, reduceToNat, UInt8.reduceToNat, h0, h3, h8, h9, y0, hc, y1, y2, y3, y4, y5, a1, a2, b1, b2, Int.toNat_natCast, d1, d2]
        refine ⟨by omega, ⟨by omega, by omega⟩, ?_⟩
        refine fin _ hqc (fun G3 hB3 => ?_)
        simp -implicitDefEqProofs only [go_sem, reduceEqDiff, reduceAdd, reduceLeDiff, reduceLT, reduceMul, reduceEq, Int.reduceLT, reduceLE, Int.reduceAdd, reduceSub, reduceToNat, UInt8.reduceToNat, h0, h3, h8, h9, ws]
        exact Again.mk (i + 1) (by simp -implicitDefEqProofs only [go_sem, reduceEqDiff, reduceAdd, reduceLeDiff, reduceLT, reduceMul, reduceEq, Int.reduceLT, reduceLE, Int.reduceAdd, reduceSub, reduceToNat, UInt8.reduceToNat, h0, h3, h8, h9]) ⟨hB3, by omega⟩ (by omega)
    simp only [not_or] at c3
    have hqc : qc c = [c] := by unfold qc; rw [if_neg (by simp only [not_or]; exact c1), if_neg c2, if_neg (by omega)]
    have y4 : decide ((c.toNat : Int) < 32) = false := decide_eq_false (by omega)
    have y5 : decide (126 < (c.toNat : Int)) = false := decide_eq_false (by omega)
    simp -implicitDefEqProofs only [go_sem, reduceEqDiff, reduceAdd, reduceLeDiff, reduceLT, reduceMul, reduceEq, Int.reduceLT, reduceLE, Int.reduceAdd, reduceSub, reduceToNat, UInt8.reduceToNat, h0, h3, h8, h9, y0, hc, y1, y2, y3, y4, y5]
    refine writeByte_k hB (by omega) (fun G3 hB3 _ => ?_)
    rw [← hqc, ← hq] at hB3
    simp -implicitDefEqProofs only [go_sem, reduceEqDiff, reduceAdd, reduceLeDiff, reduceLT, reduceMul, reduceEq, Int.reduceLT, reduceLE, Int.reduceAdd, reduceSub, reduceToNat, UInt8.reduceToNat, h0, h3, h8, h9, ws]
    exact Again.mk (i + 1) (by simp -implicitDefEqProofs only [go_sem, reduceEqDiff, reduceAdd, reduceLeDiff, reduceLT, reduceMul, reduceEq, Int.reduceLT, reduceLE, Int.reduceAdd, reduceSub, reduceToNat, UInt8.reduceToNat, h0, h3, h8, h9]) ⟨hB3, by omega⟩ (by omega)
  · have y0 : decide ((i : Int) < s.length) = false := decide_eq_false (by omega)
    obtain rfl : i = s.length := by omega
    rw [List.take_length] at hB hql
    simp -implicitDefEqProofs only [go_sem, reduceEqDiff, reduceAdd, reduceLeDiff, reduceLT, reduceMul, reduceEq, Int.reduceLT, reduceLE, Int.reduceAdd, reduceSub, reduceToNat, UInt8.reduceToNat, h0, h3, h8, h9, y0]
    refine bldString_k hB (by omega) (fun e => by cases e) ?_
    simp -implicitDefEqProofs only [go_sem, reduceEqDiff, reduceAdd, reduceLeDiff, reduceLT, reduceMul, reduceEq, Int.reduceLT, reduceLE, Int.reduceAdd, reduceSub, reduceToNat, UInt8.reduceToNat]
    refine ⟨by simp; omega, ?_⟩
    exact Done.drop hB.1 ⟨rfl, rfl⟩
end Go.Proofs

/- Walks: escape and Unquote. -/
namespace Go.Proofs
open Go Go.Abs
open Nat (reduceEqDiff reduceAdd reduceLeDiff reduceLT reduceMul)
open Int (reduceEq reduceLE reduceSub reduceToNat)
set_option linter.unusedSimpArgs false
set_option linter.unusedVariables false
set_option maxRecDepth 20000
theorem strIdxB_calls (s : Bytes) (c : Int) (H : Heap) : ACalls Tryz.prog 97 [.str s, .int .u8 c] H fun x H' => x = .int .i64 (Lib.indexByte s c.toNat.toUInt8) ∧ H' = H := by
  refine ACalls.of_code (X := { pure := puK2 }) puK2_ok Tryz.func97 (by kernel_rfl) rfl (by kernel_rfl) (Nat.le_of_ble_eq_true rfl) ?_
  simp -implicitDefEqProofs only [go_sem, reduceEqDiff, reduceAdd, reduceLeDiff, reduceLT, reduceMul, reduceEq, Int.reduceLT, reduceLE, Int.reduceAdd, reduceSub, reduceToNat, UInt8.reduceToNat, Tryz.f97, puK2, puK1, sIdxB_eq]
  exact Done.now ⟨rfl, rfl⟩
def escT (s : Bytes) : AV := match escB s with
  | some (x, n) => .tup [.int .u8 x.toNat, .int .i64 n]
  | none => .tup [.int .u8 0, .int .i64 0]
noncomputable def puQ1 : Pures := putP 97 sIdxB pu0
theorem puQ1_dyn : isDyn puQ1 = false := by simp only [puQ1, go_sem, Nat.reduceEqDiff]
attribute [go_sem] puQ1_dyn
theorem puQ1_ok : PuOK Tryz.prog puQ1 := .put (pu0_ok) (sIdxB_ok strIdxB_calls)
theorem escB_cons (a : UInt8) (r : Bytes) : escB (a :: r) = if a = 92 ∨ a = 34 then some (a, 1) else if a = 110 then some (10, 1) else if a = 120 then
      match r with
      | h :: l :: _ =>
        if hexI h < 0 ∨ hexI l < 0 then none else
          if (32 ≤ 16 * hexI h + hexI l ∧ 16 * hexI h + hexI l ≤ 126) ∨ 16 * hexI h + hexI l = 10 then none else some (UInt8.ofNat (16 * hexI h + hexI l).toNat, 3)
      | _ => none
    else none := rfl
set_option maxHeartbeats 1600000 in
theorem escape_calls (s : Bytes) (H : Heap) (hs : s.length ≤ 1099511627776) : ACalls Tryz.prog 54 [.str s] H fun x H' => x = escT s ∧ H' = H := by
  cases s with
  | nil =>
    refine ACalls.of_code (X := { pure := puQ1 }) puQ1_ok Tryz.func54 (by kernel_rfl) rfl (by kernel_rfl) (Nat.le_of_ble_eq_true rfl) ?_
    simp -implicitDefEqProofs only [go_sem, reduceEqDiff, reduceAdd, reduceLeDiff, reduceLT, reduceMul, reduceEq, Int.reduceLT, reduceLE, Int.reduceAdd, reduceSub, reduceToNat, UInt8.reduceToNat, Tryz.f54]
    exact Done.now ⟨rfl, rfl⟩
  | cons a r =>
    have hal := a.toNat_lt
    have e92 := @u8_eq a 92 (by decide)
    have e34 := @u8_eq a 34 (by decide)
    have e110 := @u8_eq a 110 (by decide)
    have e120 := @u8_eq a 120 (by decide)
    have hv : escT (a :: r) = match escB (a :: r) with
      | some (x, n) => .tup [.int .u8 x.toNat, .int .i64 n]
      | none => .tup [.int .u8 0, .int .i64 0] := rfl
    have y0 : decide (a :: r = []) = false := by simp
    by_cases c1 : a = 92
    · have y1 : decide ((a.toNat : Int) = 92) = true := decide_eq_true (e92.2 c1)
      refine ACalls.of_code (X := { pure := puQ1 }) puQ1_ok Tryz.func54 (by kernel_rfl) rfl (by kernel_rfl) (Nat.le_of_ble_eq_true rfl) ?_
      simp -implicitDefEqProofs only [go_sem, reduceEqDiff, reduceAdd, reduceLeDiff, reduceLT, reduceMul, reduceEq, Int.reduceLT, reduceLE, Int.reduceAdd, reduceSub, reduceToNat, UInt8.reduceToNat, Tryz.f54, y0, y1, Int.toNat_zero, Int.le_refl]
      exact Done.now ⟨by rw [hv, escB_cons, if_pos (.inl c1)]; rfl, rfl⟩
    have y1 : decide ((a.toNat : Int) = 92) = false := decide_eq_false (fun e => c1 (e92.1 e))
    by_cases c2 : a = 34
    · have y2 : decide ((a.toNat : Int) = 34) = true := decide_eq_true (e34.2 c2)
      refine ACalls.of_code (X := { pure := puQ1 }) puQ1_ok Tryz.func54 (by kernel_rfl) rfl (by kernel_rfl) (Nat.le_of_ble_eq_true rfl) ?_
      simp -implicitDefEqProofs only [go_sem, reduceEqDiff, reduceAdd, reduceLeDiff, reduceLT, reduceMul, reduceEq, Int.reduceLT, reduceLE, Int.reduceAdd, reduceSub, reduceToNat, UInt8.reduceToNat, Tryz.f54, y0, y1, y2, Int.toNat_zero, Int.le_refl]
      exact Done.now ⟨by rw [hv, escB_cons, if_pos (.inr c2)]; rfl, rfl⟩
    have y2 : decide ((a.toNat : Int) = 34) = false := decide_eq_false (fun e => c2 (e34.1 e))
    by_cases c3 : a = 110
    · have y3 : decide ((a.toNat : Int) = 110) = true := decide_eq_true (e110.2 c3)
      refine ACalls.of_code (X := { pure := puQ1 }) puQ1_ok Tryz.func54 (by kernel_rfl) rfl (by kernel_rfl) (Nat.le_of_ble_eq_true rfl) ?_
      simp -implicitDefEqProofs only [go_sem, reduceEqDiff, reduceAdd, reduceLeDiff, reduceLT, reduceMul, reduceEq, Int.reduceLT, reduceLE, Int.reduceAdd, reduceSub, reduceToNat, UInt8.reduceToNat, Tryz.f54, y0, y1, y2, y3, Int.toNat_zero, Int.le_refl]
      exact Done.now ⟨by rw [hv, escB_cons, if_neg (by simp [c1, c2]), if_pos c3]; rfl, rfl⟩
    have y3 : decide ((a.toNat : Int) = 110) = false := decide_eq_false (fun e => c3 (e110.1 e))
    by_cases c4 : a = 120
    · have y4 : decide (¬ (a.toNat : Int) = 120) = false := decide_eq_false (by simpa using e120.2 c4)
      match r with
      | [] =>
        have y5 : decide ((([a] : Bytes).length : Int) < 3) = true := decide_eq_true (by simp)
        refine ACalls.of_code (X := { pure := puQ1 }) puQ1_ok Tryz.func54 (by kernel_rfl) rfl (by kernel_rfl) (Nat.le_of_ble_eq_true rfl) ?_
        simp -implicitDefEqProofs only [go_sem, reduceEqDiff, reduceAdd, reduceLeDiff, reduceLT, reduceMul, reduceEq, Int.reduceLT, reduceLE, Int.reduceAdd, reduceSub, reduceToNat, UInt8.reduceToNat, Tryz.f54, y0, y1, y2, y3, y4, y5, Int.toNat_zero, Int.le_refl]
        exact Done.now ⟨by rw [hv, escB_cons, if_neg (by simp [c1, c2]), if_neg c3, if_pos c4], rfl⟩
      | [h] =>
        have y5 : decide ((([a, h] : Bytes).length : Int) < 3) = true := decide_eq_true (by simp)
        refine ACalls.of_code (X := { pure := puQ1 }) puQ1_ok Tryz.func54 (by kernel_rfl) rfl (by kernel_rfl) (Nat.le_of_ble_eq_true rfl) ?_
        simp -implicitDefEqProofs only [go_sem, reduceEqDiff, reduceAdd, reduceLeDiff, reduceLT, reduceMul, reduceEq, Int.reduceLT, reduceLE, Int.reduceAdd, reduceSub, reduceToNat, UInt8.reduceToNat, Tryz.f54, y0, y1, y2, y3, y4, y5, Int.toNat_zero, Int.le_refl]
        exact Done.now ⟨by rw [hv, escB_cons, if_neg (by simp [c1, c2]), if_neg c3, if_pos c4], rfl⟩
      | h :: l :: rest =>
        have y5 : decide (((rest.length + 1 + 1 + 1 : Nat) : Int) < 3) = false := decide_eq_false (by omega)
        have hv2 : escB (a :: h :: l :: rest) = if hexI h < 0 ∨ hexI l < 0 then none else
          if (32 ≤ 16 * hexI h + hexI l ∧ 16 * hexI h + hexI l ≤ 126) ∨ 16 * hexI h + hexI l = 10 then none else some (UInt8.ofNat (16 * hexI h + hexI l).toNat, 3) := by rw [escB_cons, if_neg (by simp [c1, c2]), if_neg c3, if_pos c4]
        rw [hv2] at hv
        rw [hv]
        clear hv hv2
        have hh : Lib.indexByte [48, 49, 50, 51, 52, 53, 54, 55, 56, 57, 97, 98, 99, 100, 101, 102] h = hexI h := rfl
        have hl : Lib.indexByte [48, 49, 50, 51, 52, 53, 54, 55, 56, 57, 97, 98, 99, 100, 101, 102] l = hexI l := rfl
        have ge1 := hexI_ge h
        have ge2 := hexI_ge l
        refine ACalls.of_code (X := { pure := puQ1 }) puQ1_ok Tryz.func54 (by kernel_rfl) rfl (by kernel_rfl) (Nat.le_of_ble_eq_true rfl) ?_
        simp -implicitDefEqProofs only [go_sem, reduceEqDiff, reduceAdd, reduceLeDiff, reduceLT, reduceMul, reduceEq, Int.reduceLT, reduceLE, Int.reduceAdd, reduceSub, reduceToNat, UInt8.reduceToNat, Tryz.f54, y0, y1, y2, y3, y4, y5, Int.toNat_zero, Int.le_refl, puQ1, sIdxB_eq, u8_nat, hh, hl]
        by_cases g1 : hexI h < 0
        · have z1 : decide (hexI h < 0) = true := decide_eq_true g1
          simp -implicitDefEqProofs only [go_sem, reduceEqDiff, reduceAdd, reduceLeDiff, reduceLT, reduceMul, reduceEq, Int.reduceLT, reduceLE, Int.reduceAdd, reduceSub, reduceToNat, UInt8.reduceToNat, z1]
          exact Done.now ⟨by rw [if_pos (.inl g1)], rfl⟩
        have z1 : decide (hexI h < 0) = false := decide_eq_false g1
        by_cases g2 : hexI l < 0
        · have z2 : decide (hexI l < 0) = true := decide_eq_true g2
          simp -implicitDefEqProofs only [go_sem, reduceEqDiff, reduceAdd, reduceLeDiff, reduceLT, reduceMul, reduceEq, Int.reduceLT, reduceLE, Int.reduceAdd, reduceSub, reduceToNat, UInt8.reduceToNat, z1, z2]
          exact Done.now ⟨by rw [if_pos (.inr g2)], rfl⟩
        have z2 : decide (hexI l < 0) = false := decide_eq_false g2
        rw [if_neg (by omega)]
        obtain ⟨k1, b1, b2, _⟩ := hexI_some (c := h) (by omega)
        obtain ⟨k2, b3, b4, _⟩ := hexI_some (c := l) (by omega)
        have w1 : IntKind.i64.wrap (16 * hexI h) = 16 * hexI h := Go.IntWalk.i64_in _ (by omega)
        have w2 : IntKind.i64.wrap (16 * hexI h + hexI l) = 16 * hexI h + hexI l := Go.IntWalk.i64_in _ (by omega)
        have w3 : IntKind.u8.wrap (16 * hexI h + hexI l) = 16 * hexI h + hexI l := Go.IntWalk.u8_in _ (by omega)
        have hn : 16 * hexI h + hexI l = ((16 * k1 + k2 : Nat) : Int) := by omega
        rw [hn] at w2 w3 ⊢
        have w4 : (UInt8.ofNat (16 * k1 + k2)).toNat = 16 * k1 + k2 := by
          simp only [UInt8.toNat_ofNat']
          omega
        simp -implicitDefEqProofs only [go_sem, reduceEqDiff, reduceAdd, reduceLeDiff, reduceLT, reduceMul, reduceEq, Int.reduceLT, reduceLE, Int.reduceAdd, reduceSub, reduceToNat, UInt8.reduceToNat, z1, z2, w1, hn, w2, w3]
        by_cases g3 : 32 ≤ 16 * k1 + k2
        · have z3 : decide ((32 : Int) ≤ ((16 * k1 + k2 : Nat) : Int)) = true := decide_eq_true (by omega)
          by_cases g4 : 16 * k1 + k2 ≤ 126
          · have z4 : decide (((16 * k1 + k2 : Nat) : Int) ≤ 126) = true := decide_eq_true (by omega)
            simp -implicitDefEqProofs only [go_sem, reduceEqDiff, reduceAdd, reduceLeDiff, reduceLT, reduceMul, reduceEq, Int.reduceLT, reduceLE, Int.reduceAdd, reduceSub, reduceToNat, UInt8.reduceToNat, z3, z4]
            exact Done.now ⟨by rw [if_pos (by omega)], rfl⟩
          · have z4 : decide (((16 * k1 + k2 : Nat) : Int) ≤ 126) = false := decide_eq_false (by omega)
            have z5 : decide (((16 * k1 + k2 : Nat) : Int) = 10) = false := decide_eq_false (by omega)
            simp -implicitDefEqProofs only [go_sem, reduceEqDiff, reduceAdd, reduceLeDiff, reduceLT, reduceMul, reduceEq, Int.reduceLT, reduceLE, Int.reduceAdd, reduceSub, reduceToNat, UInt8.reduceToNat, z3, z4, z5]
            exact Done.now ⟨by rw [if_neg (by omega)]; simp only [Int.toNat_natCast]; rw [w4]; rfl, rfl⟩
        · have z3 : decide ((32 : Int) ≤ ((16 * k1 + k2 : Nat) : Int)) = false := decide_eq_false (by omega)
          by_cases g5 : 16 * k1 + k2 = 10
          · have z5 : decide (((16 * k1 + k2 : Nat) : Int) = 10) = true := decide_eq_true (by omega)
            simp -implicitDefEqProofs only [go_sem, reduceEqDiff, reduceAdd, reduceLeDiff, reduceLT, reduceMul, reduceEq, Int.reduceLT, reduceLE, Int.reduceAdd, reduceSub, reduceToNat, UInt8.reduceToNat, z3, z5]
            exact Done.now ⟨by rw [if_pos (by omega)], rfl⟩
          · have z5 : decide (((16 * k1 + k2 : Nat) : Int) = 10) = false := decide_eq_false (by omega)
            simp -implicitDefEqProofs only [go_sem, reduceEqDiff, reduceAdd, reduceLeDiff, reduceLT, reduceMul, reduceEq, Int.reduceLT, reduceLE, Int.reduceAdd, reduceSub, reduceToNat, UInt8.reduceToNat, z3, z5]
            exact Done.now ⟨by rw [if_neg (by omega)]; simp only [Int.toNat_natCast]; rw [w4]; rfl, rfl⟩
    · have y4 : decide (¬ (a.toNat : Int) = 120) = true := decide_eq_true (fun e => c4 (e120.1 e))
      refine ACalls.of_code (X := { pure := puQ1 }) puQ1_ok Tryz.func54 (by kernel_rfl) rfl (by kernel_rfl) (Nat.le_of_ble_eq_true rfl) ?_
      simp -implicitDefEqProofs only [go_sem, reduceEqDiff, reduceAdd, reduceLeDiff, reduceLT, reduceMul, reduceEq, Int.reduceLT, reduceLE, Int.reduceAdd, reduceSub, reduceToNat, UInt8.reduceToNat, Tryz.f54, y0, y1, y2, y3, y4, Int.toNat_zero, Int.le_refl]
      exact Done.now ⟨by rw [hv, escB_cons, if_neg (by simp [c1, c2]), if_neg c3, if_neg c4], rfl⟩
noncomputable def sEsc := spF (fun s : Bytes => [AV.str s]) (fun s => s.length ≤ 1099511627776) escT
theorem sEsc_eq (s : Bytes) (h : s.length ≤ 1099511627776) : sEsc [.str s] = some (escT s) := spF_eq (fun a b e => by cases e; rfl) s h
noncomputable def puQ2 : Pures := putP 54 sEsc puQ1
theorem puQ2_dyn : isDyn puQ2 = false := by simp only [puQ2, go_sem, Nat.reduceEqDiff]
attribute [go_sem] puQ2_dyn
theorem puQ2_ok : PuOK Tryz.prog puQ2 := .put (puQ1_ok) (spF_ok fun s H h => escape_calls s H h)
def unqT (s : Bytes) : AV := match unq s with
  | some t => .tup [.str t, .int .i64 0]
  | none => .tup [.str [], .int .i64 8]
theorem inner_eq (s : Bytes) : (s.drop 1).dropLast = (s.take (s.length - 1)).drop 1 := by
  rw [List.dropLast_eq_take, List.length_drop, List.drop_take]
theorem unqI_nil : unqI [] = some [] := by rw [unqI]
theorem unqI_cons (c : UInt8) (r : Bytes) : unqI (c :: r) = if c.toNat < 32 ∨ 126 < c.toNat ∨ c = 34 then none else
      if c = 92 then
        match escB r with
        | some (x, n) => (unqI (r.drop n)).map (x :: ·)
        | none => none
      else (unqI r).map (c :: ·) := by
  rw [unqI.eq_def]
  rfl
set_option maxHeartbeats 3200000 in
theorem unquote_calls (s : Bytes) (H : Heap) (hs : s.length ≤ 1099511627776) : ACalls Tryz.prog 25 [.str s] H fun x H' => x = unqT s ∧ H' = H := by
  have hv : unqT s = match unq s with
    | some t => .tup [.str t, .int .i64 0]
    | none => .tup [.str [], .int .i64 8] := rfl
  by_cases g0 : s.length < 2
  · have y0 : decide ((s.length : Int) < 2) = true := decide_eq_true (by omega)
    refine ACalls.of_code (X := { pure := puQ2 }) puQ2_ok Tryz.func25 (by kernel_rfl) rfl (by kernel_rfl) (Nat.le_of_ble_eq_true rfl) ?_
    simp -implicitDefEqProofs only [go_sem, reduceEqDiff, reduceAdd, reduceLeDiff, reduceLT, reduceMul, reduceEq, Int.reduceLT, reduceLE, Int.reduceAdd, reduceSub, reduceToNat, UInt8.reduceToNat, Tryz.f25, y0]
    exact Done.now ⟨by rw [hv, unq, if_pos (.inl g0)], rfl⟩
  have y0 : decide ((s.length : Int) < 2) = false := decide_eq_false (by omega)
  obtain ⟨a, ha⟩ : ∃ a, s[0]? = some a := getD_get' (by omega)
  obtain ⟨z, hz⟩ : ∃ z, s[s.length - 1]? = some z := getD_get' (by omega)
  have a34 := @u8_eq a 34 (by decide)
  have z34 := @u8_eq z 34 (by decide)
  have w0 : IntKind.i64.wrap ((s.length : Int) - 1) = ((s.length - 1 : Nat) : Int) := by rw [Go.IntWalk.i64_in _ (by omega)]; omega
  have hh : s.head? = some a := by rw [List.head?_eq_getElem?]; exact ha
  have hl : s.getLast? = some z := by rw [List.getLast?_eq_getElem?]; exact hz
  by_cases g1 : a = 34
  rotate_left
  · have y1 : decide (¬ (a.toNat : Int) = 34) = true := decide_eq_true (fun e => g1 (a34.1 e))
    refine ACalls.of_code (X := { pure := puQ2 }) puQ2_ok Tryz.func25 (by kernel_rfl) rfl (by kernel_rfl) (Nat.le_of_ble_eq_true rfl) ?_
    simp -implicitDefEqProofs only [go_sem, reduceEqDiff, reduceAdd, reduceLeDiff, reduceLT, reduceMul, reduceEq, Int.reduceLT, reduceLE, Int.reduceAdd, reduceSub, reduceToNat, UInt8.reduceToNat, Tryz.f25, y0, Int.toNat_zero, ha, y1, Int.le_refl]
    exact Done.now ⟨by rw [hv, unq, if_pos (.inr (.inl (by rw [hh]; simpa using g1)))], rfl⟩
  have y1 : decide (¬ (a.toNat : Int) = 34) = false := decide_eq_false (by simpa using a34.2 g1)
  by_cases g2 : z = 34
  rotate_left
  · have y2 : decide (¬ (z.toNat : Int) = 34) = true := decide_eq_true (fun e => g2 (z34.1 e))
    refine ACalls.of_code (X := { pure := puQ2 }) puQ2_ok Tryz.func25 (by kernel_rfl) rfl (by kernel_rfl) (Nat.le_of_ble_eq_true rfl) ?_
    simp -implicitDefEqProofs only [go_sem, reduceEqDiff, reduceAdd, reduceLeDiff, reduceLT, reduceMul, reduceEq, Int.reduceLT, reduceLE, Int.reduceAdd, reduceSub, reduceToNat, UInt8.reduceToNat, Tryz.f25, y0, Int.toNat_zero, ha, y1, Int.le_refl, w0, Int.toNat_natCast, hz, y2]
    exact Done.now ⟨by rw [hv, unq, if_pos (.inr (.inr (by rw [hl]; simpa using g2)))], rfl⟩
  have y2 : decide (¬ (z.toNat : Int) = 34) = false := decide_eq_false (by simpa using z34.2 g2)
  have hu : unq s = unqI ((s.take (s.length - 1)).drop 1) := by
    rw [unq, if_neg (by rw [hh, hl, g1, g2]; simp; omega), inner_eq]
  rw [hu] at hv
  rw [hv]
  have hml : ((s.take (s.length - 1)).drop 1).length ≤ s.length := by rw [List.length_drop, List.length_take]; omega
  refine ACalls.of_code (X := { pure := puQ2 }) puQ2_ok Tryz.func25 (by kernel_rfl) rfl (by kernel_rfl) (Nat.le_of_ble_eq_true rfl) ?_
  simp -implicitDefEqProofs only [go_sem, reduceEqDiff, reduceAdd, reduceLeDiff, reduceLT, reduceMul, reduceEq, Int.reduceLT, reduceLE, Int.reduceAdd, reduceSub, reduceToNat, UInt8.reduceToNat, Tryz.f25, y0, Int.toNat_zero, ha, y1, Int.le_refl, w0, Int.toNat_natCast, hz, y2, Int.toNat_one]
  refine ⟨by omega, ?_⟩
  generalize (s.take (s.length - 1)).drop 1 = m at *
  refine makeSlice_tok (e := tiU8) (by simp -implicitDefEqProofs only [go_sem, reduceEqDiff, reduceAdd, reduceLeDiff, reduceLT, reduceMul, reduceEq, Int.reduceLT, reduceLE, Int.reduceAdd, reduceSub, reduceToNat, UInt8.reduceToNat]) ⟨rfl, rfl, by decide⟩ (by omega) (by simp only; omega) (by omega) (fun id hid => ?_)
  have hA := AppG.tok0 (k := 1) (ty := some 5) hid
  generalize H.put id (.tail 0) = G at *
  generalize hel : elemT Tryz.prog 84 = et at *
  rw [show et = some 5 by rw [← hel]; simp -implicitDefEqProofs only [go_sem, reduceEqDiff, reduceAdd, reduceLeDiff, reduceLT, reduceMul, reduceEq, Int.reduceLT, reduceLE, Int.reduceAdd, reduceSub, reduceToNat, UInt8.reduceToNat, elemT_eq]]
  clear hel hid hh hl ha hz w0 y0 y1 y2 hv hu g0 g1 g2 a34 z34
  simp -implicitDefEqProofs only [go_sem, reduceEqDiff, reduceAdd, reduceLeDiff, reduceLT, reduceMul, reduceEq, Int.reduceLT, reduceLE, Int.reduceAdd, reduceSub, reduceToNat, UInt8.reduceToNat]
  refine aloop_intro (σ := Nat × Bytes × Tail) (fun t => [(0, .str m), (4, .sl (t.2.1.map bcell) t.2.2), (5, .int .i64 t.1)])
    (fun t G' => AppG H G' 1 (t.2.1.map bcell) t.2.2 ∧ t.1 ≤ m.length ∧ t.2.1.length ≤ t.1 ∧ unqI m = (unqI (m.drop t.1)).map (t.2.1 ++ ·)) (fun t => m.length - t.1) (0, [], .tok id 1 (some 5)) ?_ ?_ ?_
  · simp -implicitDefEqProofs only [go_sem, reduceEqDiff, reduceAdd, reduceLeDiff, reduceLT, reduceMul, reduceEq, Int.reduceLT, reduceLE, Int.reduceAdd, reduceSub, reduceToNat, UInt8.reduceToNat]
  · exact ⟨hA, Nat.zero_le _, Nat.le_refl _, by simp⟩
  clear hA
  rintro ⟨i, out, tl⟩ r G2 hv ⟨hA, hi, ho, hI⟩
  have h0 := hv.1
  have h4 := hv.2.1
  have h5 := hv.2.2.1
  clear hv
  simp only at h0 h4 h5 hA hi ho hI
  have hU := bcell_len out
  by_cases g : i < m.length
  · have y0 : decide ((i : Int) < m.length) = true := decide_eq_true (by omega)
    obtain ⟨c, hc⟩ : ∃ c, m[i]? = some c := getD_get' g
    have hd : m.drop i = c :: m.drop (i + 1) := by
      rw [List.drop_eq_getElem_cons g]
      congr 1
      rw [List.getElem?_eq_getElem g] at hc
      exact Option.some.inj hc
    rw [hd, unqI_cons] at hI
    have hcl := c.toNat_lt
    have e34 := @u8_eq c 34 (by decide)
    have e92 := @u8_eq c 92 (by decide)
    have ws : IntKind.i64.wrap ((i : Int) + 1) = ((i + 1 : Nat) : Int) := by rw [Go.IntWalk.i64_in _ (by omega)]; omega
    by_cases c1 : c.toNat < 32
    · have y1 : decide ((c.toNat : Int) < 32) = true := decide_eq_true (by omega)
      rw [if_pos (.inl c1)] at hI
      simp -implicitDefEqProofs only [go_sem, reduceEqDiff, reduceAdd, reduceLeDiff, reduceLT, reduceMul, reduceEq, Int.reduceLT, reduceLE, Int.reduceAdd, reduceSub, reduceToNat, UInt8.reduceToNat, h0, h4, h5, y0, hc, y1]
      exact Done.drop hA.1 ⟨by rw [hI]; rfl, rfl⟩
    have y1 : decide ((c.toNat : Int) < 32) = false := decide_eq_false (by omega)
    by_cases c2 : 126 < c.toNat
    · have y2 : decide (126 < (c.toNat : Int)) = true := decide_eq_true (by omega)
      rw [if_pos (.inr (.inl c2))] at hI
      simp -implicitDefEqProofs only [go_sem, reduceEqDiff, reduceAdd, reduceLeDiff, reduceLT, reduceMul, reduceEq, Int.reduceLT, reduceLE, Int.reduceAdd, reduceSub, reduceToNat, UInt8.reduceToNat, h0, h4, h5, y0, hc, y1, y2]
      exact Done.drop hA.1 ⟨by rw [hI]; rfl, rfl⟩
    have y2 : decide (126 < (c.toNat : Int)) = false := decide_eq_false (by omega)
    by_cases c3 : c = 34
    · have y3 : decide ((c.toNat : Int) = 34) = true := decide_eq_true (e34.2 c3)
      rw [if_pos (.inr (.inr c3))] at hI
      simp -implicitDefEqProofs only [go_sem, reduceEqDiff, reduceAdd, reduceLeDiff, reduceLT, reduceMul, reduceEq, Int.reduceLT, reduceLE, Int.reduceAdd, reduceSub, reduceToNat, UInt8.reduceToNat, h0, h4, h5, y0, hc, y1, y2, y3]
      exact Done.drop hA.1 ⟨by rw [hI]; rfl, rfl⟩
    have y3 : decide ((c.toNat : Int) = 34) = false := decide_eq_false (fun e => c3 (e34.1 e))
    rw [if_neg (by simp only [not_or]; exact ⟨c1, c2, c3⟩)] at hI
    have fin : ∀ (x : UInt8) (k : K1), (∀ tl2 G3, AppG H G3 1 ((out ++ [x]).map bcell) tl2 → k (.sl ((out ++ [x]).map bcell) tl2) G3) → appK (some 5) false tiU8 (.sl (out.map bcell) tl) [[.int .u8 x.toNat]] G2 k := fun x k h1 => by
      refine AppG.step (e := tiU8) hA hU (by simp; omega) (by simp; omega) (fun tl2 G3 hA3 hK3 => ?_)
      have e : out.map bcell ++ [[AV.int .u8 x.toNat]] = (out ++ [x]).map bcell := by simp [bcell]
      rw [e] at hA3 ⊢
      exact h1 tl2 G3 hA3
    by_cases c4 : c = 92
    rotate_left
    · have y4 : decide ((c.toNat : Int) = 92) = false := decide_eq_false (fun e => c4 (e92.1 e))
      rw [if_neg c4] at hI
      simp -implicitDefEqProofs only [go_sem, reduceEqDiff, reduceAdd, reduceLeDiff, reduceLT, reduceMul, reduceEq, Int.reduceLT, reduceLE, Int.reduceAdd, reduceSub, reduceToNat, UInt8.reduceToNat, h0, h4, h5, y0, hc, y1, y2, y3, y4]
      refine fin _ _ (fun tl2 G3 hA3 => ?_)
      simp -implicitDefEqProofs only [go_sem, reduceEqDiff, reduceAdd, reduceLeDiff, reduceLT, reduceMul, reduceEq, Int.reduceLT, reduceLE, Int.reduceAdd, reduceSub, reduceToNat, UInt8.reduceToNat, h0, h5, ws]
      refine Again.mk (i + 1, out ++ [c], tl2) (by simp -implicitDefEqProofs only [go_sem, reduceEqDiff, reduceAdd, reduceLeDiff, reduceLT, reduceMul, reduceEq, Int.reduceLT, reduceLE, Int.reduceAdd, reduceSub, reduceToNat, UInt8.reduceToNat, h0, h5]) ⟨hA3, by simp only; omega, by simp only [List.length_append, List.length_cons, List.length_nil]; omega, ?_⟩ (by simp only; omega)
      rw [hI, Option.map_map]
      congr 1
      funext l
      simp
    have y4 : decide ((c.toNat : Int) = 92) = true := decide_eq_true (e92.2 c4)
    rw [if_pos c4] at hI
    have hel : (m.drop (i + 1)).length ≤ 1099511627776 := by rw [List.length_drop]; omega
    have q1 := sEsc_eq (m.drop (i + 1)) hel
    have hbk := fun x n => @escB_back (m.drop (i + 1)) x n
    unfold escT at q1
    generalize escB (m.drop (i + 1)) = eo at *
    cases eo with
    | none =>
      simp only at q1 hI
      simp -implicitDefEqProofs only [go_sem, reduceEqDiff, reduceAdd, reduceLeDiff, reduceLT, reduceMul, reduceEq, Int.reduceLT, reduceLE, Int.reduceAdd, reduceSub, reduceToNat, UInt8.reduceToNat, h0, h4, h5, y0, hc, y1, y2, y3, y4, ws, Int.toNat_natCast, List.take_length, puQ2, q1]
      refine ⟨by omega, ?_⟩
      exact Done.drop hA.1 ⟨by rw [hI]; rfl, rfl⟩
    | some p =>
      obtain ⟨x, n⟩ := p
      simp only at q1 hI
      obtain ⟨hb1, hb2⟩ := hbk x n rfl
      rw [List.length_drop] at hb2
      have hn0 : ¬ n = 0 := by
        intro e
        rw [e, List.take_zero] at hb1
        unfold qc at hb1
        repeat' split at hb1
        all_goals simp_all
      have y5 : decide ((n : Int) = 0) = false := decide_eq_false (by omega)
      have w2 : IntKind.i64.wrap ((i : Int) + n) = ((i + n : Nat) : Int) := by rw [Go.IntWalk.i64_in _ (by omega)]; omega
      have w3 : IntKind.i64.wrap (((i + n : Nat) : Int) + 1) = ((i + n + 1 : Nat) : Int) := by rw [Go.IntWalk.i64_in _ (by omega)]; omega
      simp -implicitDefEqProofs only [go_sem, reduceEqDiff, reduceAdd, reduceLeDiff, reduceLT, reduceMul, reduceEq, Int.reduceLT, reduceLE, Int.reduceAdd, reduceSub, reduceToNat, UInt8.reduceToNat, h0, h4, h5, y0, hc, y1, y2, y3, y4, ws, Int.toNat_natCast, List.take_length, puQ2, q1, y5, w2]
      refine ⟨by omega, ?_⟩
      refine fin _ _ (fun tl2 G3 hA3 => ?_)
      simp -implicitDefEqProofs only [go_sem, reduceEqDiff, reduceAdd, reduceLeDiff, reduceLT, reduceMul, reduceEq, Int.reduceLT, reduceLE, Int.reduceAdd, reduceSub, reduceToNat, UInt8.reduceToNat, h0, h5, w3]
      refine Again.mk (i + n + 1, out ++ [x], tl2) (by simp -implicitDefEqProofs only [go_sem, reduceEqDiff, reduceAdd, reduceLeDiff, reduceLT, reduceMul, reduceEq, Int.reduceLT, reduceLE, Int.reduceAdd, reduceSub, reduceToNat, UInt8.reduceToNat, h0, h5]) ⟨hA3, by simp only; omega, by simp only [List.length_append, List.length_cons, List.length_nil]; omega, ?_⟩ (by simp only; omega)
      rw [hI, List.drop_drop, Option.map_map, show i + 1 + n = i + n + 1 by omega]
      congr 1
      funext l
      simp
  · have y0 : decide ((i : Int) < m.length) = false := decide_eq_false (by omega)
    obtain rfl : i = m.length := by omega
    rw [List.drop_length, unqI_nil] at hI
    simp -implicitDefEqProofs only [go_sem, reduceEqDiff, reduceAdd, reduceLeDiff, reduceLT, reduceMul, reduceEq, Int.reduceLT, reduceLE, Int.reduceAdd, reduceSub, reduceToNat, UInt8.reduceToNat, h0, h4, h5, y0]
    refine conv_sl (by simp -implicitDefEqProofs only [go_sem, reduceEqDiff, reduceAdd, reduceLeDiff, reduceLT, reduceMul, reduceEq, Int.reduceLT, reduceLE, Int.reduceAdd, reduceSub, reduceToNat, UInt8.reduceToNat]) (by simp -implicitDefEqProofs only [go_sem, reduceEqDiff, reduceAdd, reduceLeDiff, reduceLT, reduceMul, reduceEq, Int.reduceLT, reduceLE, Int.reduceAdd, reduceSub, reduceToNat, UInt8.reduceToNat]) ?_
    simp -implicitDefEqProofs only [go_sem, reduceEqDiff, reduceAdd, reduceLeDiff, reduceLT, reduceMul, reduceEq, Int.reduceLT, reduceLE, Int.reduceAdd, reduceSub, reduceToNat, UInt8.reduceToNat]
    exact Done.drop hA.1 ⟨by rw [hI]; simp, rfl⟩
end Go.Proofs

/- Walks: Unquote, on the reference's side. -/
namespace Go.Proofs
open Go Go.Abs
open Nat (reduceEqDiff reduceAdd reduceLeDiff reduceLT reduceMul)
open Int (reduceEq reduceLE reduceSub reduceToNat)
set_option linter.unusedSimpArgs false
set_option linter.unusedVariables false
set_option maxRecDepth 20000
noncomputable def sUnq := spF (fun s : Bytes => [AV.str s]) (fun s => s.length ≤ 1099511627776) unqT
theorem sUnq_eq (s : Bytes) (h : s.length ≤ 1099511627776) : sUnq [.str s] = some (unqT s) := spF_eq (fun a b e => by cases e; rfl) s h
noncomputable def sQuo := spF (fun s : Bytes => [AV.str s]) (fun s => s.length ≤ 1099511627776) (fun s => .str (quoteB s))
theorem sQuo_eq (s : Bytes) (h : s.length ≤ 1099511627776) : sQuo [.str s] = some (.str (quoteB s)) := spF_eq (fun a b e => by cases e; rfl) s h
noncomputable def puQ4 : Pures := putP 26 sQuo (putP 58 sIdxL pu0)
theorem puQ4_dyn : isDyn puQ4 = false := by simp only [puQ4, go_sem, Nat.reduceEqDiff]
attribute [go_sem] puQ4_dyn
theorem puQ4_ok : PuOK Tryz.prog puQ4 := .put (.put (pu0_ok) (sIdxL_ok index_calls)) (spF_ok fun s H h => rQuote_calls s H h)
theorem dqI_nil : dqI [] = some [] := by rw [dqI]
theorem dqI_cons (c : UInt8) (r : Bytes) : dqI (c :: r) = if c ≠ 92 then (dqI r).map (c :: ·) else
      match r with
      | [] => none
      | a :: r2 =>
        if a = 34 ∨ a = 92 then (dqI r2).map (a :: ·) else if a = 110 then (dqI r2).map (10 :: ·) else if a = 120 then
          match r2 with
          | h :: l :: r3 => (dqI r3).map (UInt8.ofNat (IntKind.u8.wrap (hexI h * 16 + hexI l)).toNat :: ·)
          | _ => none
        else none := by
  rw [dqI.eq_def]
  rfl
theorem u8_any (n : Int) : IntKind.u8.wrap n = ((UInt8.ofNat (IntKind.u8.wrap n).toNat).toNat : Int) := by
  have h : 0 ≤ IntKind.u8.wrap n ∧ IntKind.u8.wrap n < 256 := by
    unfold IntKind.wrap
    simp [IntKind.signed, IntKind.bits]
    omega
  simp only [UInt8.toNat_ofNat']
  omega
theorem hexI_lt (c : UInt8) : hexI c < 16 := by
  have h1 := hexI_ge c
  by_cases h : hexI c < 0
  · omega
  · obtain ⟨k, h2, h3, _⟩ := hexI_some (c := c) (by omega)
    omega
/-- What is left to read, and what was read. -/
def dRest (m rest out : Bytes) : Prop := dqI m = (dqI rest).map (out ++ ·)
theorem dRest.step {m rest rest2 out : Bytes} {x : UInt8} (h : dRest m rest out) (e : dqI rest = (dqI rest2).map (x :: ·)) : dRest m rest2 (out ++ [x]) := by
  unfold dRest at h ⊢
  rw [h, e, Option.map_map]
  congr 1
  funext l
  simp
def AppL (H G : Heap) (acc : Bytes) (tl : Tail) : Prop := AppG H G 1 (acc.map bcell) tl ∨ (tl = .lit ∧ H.Sub G)
theorem AppL.sub {H G : Heap} {acc : Bytes} {tl : Tail} (h : AppL H G acc tl) : H.Sub G := by
  rcases h with h | h
  · exact h.1
  · exact h.2
theorem AppL.step {H G : Heap} {acc : Bytes} {tl : Tail} {x : UInt8} {n : Int} (h : AppL H G acc tl) (hx : n = x.toNat) (hl : acc.length ≤ 1099511627776) {k : K1} (hk : ∀ tl2 G3, AppL H G3 (acc ++ [x]) tl2 → k (.sl ((acc ++ [x]).map bcell) tl2) G3) :
    appK (some 5) false tiU8 (.sl (acc.map bcell) tl) [[.int .u8 n]] G k := by
  subst hx
  have e : acc.map bcell ++ [[AV.int .u8 x.toNat]] = (acc ++ [x]).map bcell := by simp [bcell]
  rcases h with h | ⟨rfl, hs⟩
  · refine AppG.step (e := tiU8) h (bcell_len acc) (by simp; omega) (by simp; omega) (fun tl2 G3 hA3 hK3 => ?_)
    rw [e] at hA3 ⊢
    exact hk tl2 G3 (.inl hA3)
  · refine ⟨fun e => by simp at e, fun _ => ⟨bcell_len acc, by simp; omega, by simp; omega, fun id hid => ?_⟩⟩
    rw [e]
    refine hk _ _ (.inl ⟨hs.put' (sub_none hs hid) _, .inr ⟨id, _, rfl, sub_none hs hid, ?_⟩⟩)
    rw [put_same]
    simp
set_option maxHeartbeats 6400000 in
theorem rUnquote_calls (s : Bytes) (H : Heap) (hs : s.length ≤ 1099511627776) : ACalls Tryz.prog 27 [.str s] H fun x H' => x = unqT s ∧ H' = H := by
  have hv : unqT s = match unq s with
    | some t => .tup [.str t, .int .i64 0]
    | none => .tup [.str [], .int .i64 8] := rfl
  rw [unq_ref] at hv
  by_cases g0 : s.length < 2
  · have y0 : decide ((s.length : Int) < 2) = true := decide_eq_true (by omega)
    refine ACalls.of_code (X := { pure := puQ4 }) puQ4_ok Tryz.func27 (by kernel_rfl) rfl (by kernel_rfl) (Nat.le_of_ble_eq_true rfl) ?_
    simp -implicitDefEqProofs only [go_sem, reduceEqDiff, reduceAdd, reduceLeDiff, reduceLT, reduceMul, reduceEq, Int.reduceLT, reduceLE, Int.reduceAdd, reduceSub, reduceToNat, UInt8.reduceToNat, Tryz.f27, y0]
    exact Done.now ⟨by rw [hv, if_pos (.inl g0)], rfl⟩
  have y0 : decide ((s.length : Int) < 2) = false := decide_eq_false (by omega)
  obtain ⟨a, ha⟩ : ∃ a, s[0]? = some a := getD_get' (by omega)
  obtain ⟨z, hz⟩ : ∃ z, s[s.length - 1]? = some z := getD_get' (by omega)
  have a34 := @u8_eq a 34 (by decide)
  have z34 := @u8_eq z 34 (by decide)
  have w0 : IntKind.i64.wrap ((s.length : Int) - 1) = ((s.length - 1 : Nat) : Int) := by rw [Go.IntWalk.i64_in _ (by omega)]; omega
  have hh : s.head? = some a := by rw [List.head?_eq_getElem?]; exact ha
  have hl : s.getLast? = some z := by rw [List.getLast?_eq_getElem?]; exact hz
  by_cases g1 : a = 34
  rotate_left
  · have y1 : decide (¬ (a.toNat : Int) = 34) = true := decide_eq_true (fun e => g1 (a34.1 e))
    refine ACalls.of_code (X := { pure := puQ4 }) puQ4_ok Tryz.func27 (by kernel_rfl) rfl (by kernel_rfl) (Nat.le_of_ble_eq_true rfl) ?_
    simp -implicitDefEqProofs only [go_sem, reduceEqDiff, reduceAdd, reduceLeDiff, reduceLT, reduceMul, reduceEq, Int.reduceLT, reduceLE, Int.reduceAdd, reduceSub, reduceToNat, UInt8.reduceToNat, Tryz.f27, y0, Int.toNat_zero, ha, y1, Int.le_refl]
    exact Done.now ⟨by rw [hv, if_pos (.inr (.inl (by rw [hh]; simpa using g1)))], rfl⟩
  have y1 : decide (¬ (a.toNat : Int) = 34) = false := decide_eq_false (by simpa using a34.2 g1)
  by_cases g2 : z = 34
  rotate_left
  · have y2 : decide (¬ (z.toNat : Int) = 34) = true := decide_eq_true (fun e => g2 (z34.1 e))
    refine ACalls.of_code (X := { pure := puQ4 }) puQ4_ok Tryz.func27 (by kernel_rfl) rfl (by kernel_rfl) (Nat.le_of_ble_eq_true rfl) ?_
    simp -implicitDefEqProofs only [go_sem, reduceEqDiff, reduceAdd, reduceLeDiff, reduceLT, reduceMul, reduceEq, Int.reduceLT, reduceLE, Int.reduceAdd, reduceSub, reduceToNat, UInt8.reduceToNat, Tryz.f27, y0, Int.toNat_zero, ha, y1, Int.le_refl, w0, Int.toNat_natCast, hz, y2]
    exact Done.now ⟨by rw [hv, if_pos (.inr (.inr (by rw [hl]; simpa using g2)))], rfl⟩
  have y2 : decide (¬ (z.toNat : Int) = 34) = false := decide_eq_false (by simpa using z34.2 g2)
  rw [if_neg (by rw [hh, hl, g1, g2]; simp; omega), inner_eq] at hv
  have hml : ((s.take (s.length - 1)).drop 1).length ≤ s.length := by rw [List.length_drop, List.length_take]; omega
  refine ACalls.of_code (X := { pure := puQ4 }) puQ4_ok Tryz.func27 (by kernel_rfl) rfl (by kernel_rfl) (Nat.le_of_ble_eq_true rfl) ?_
  simp -implicitDefEqProofs only [go_sem, reduceEqDiff, reduceAdd, reduceLeDiff, reduceLT, reduceMul, reduceEq, Int.reduceLT, reduceLE, Int.reduceAdd, reduceSub, reduceToNat, UInt8.reduceToNat, Tryz.f27, y0, Int.toNat_zero, ha, y1, Int.le_refl, w0, Int.toNat_natCast, hz, y2, Int.toNat_one]
  refine ⟨by omega, ?_⟩
  generalize (s.take (s.length - 1)).drop 1 = m at *
  clear hh hl ha hz w0 y0 y1 y2 g0 g1 g2 a34 z34
  refine aloop_intro (σ := Bytes × Bytes × Tail) (fun t => [(0, .str s), (4, .sl (t.2.1.map bcell) t.2.2), (5, .str t.1)])
    (fun t G' => AppL H G' t.2.1 t.2.2 ∧ t.2.1.length + t.1.length ≤ m.length ∧ dRest m t.1 t.2.1) (fun t => t.1.length) (m, [], .lit) ?_ ?_ ?_
  · simp -implicitDefEqProofs only [go_sem, reduceEqDiff, reduceAdd, reduceLeDiff, reduceLT, reduceMul, reduceEq, Int.reduceLT, reduceLE, Int.reduceAdd, reduceSub, reduceToNat, UInt8.reduceToNat]
  · exact ⟨.inr ⟨rfl, Heap.Sub.rfl' H⟩, by simp, by simp [dRest]⟩
  rintro ⟨rest, out, tl⟩ r G2 hvv ⟨hA, ho, hI⟩
  have h0 := hvv.1
  have h4 := hvv.2.1
  have h5 := hvv.2.2.1
  clear hvv
  simp only at h0 h4 h5 hA ho hI
  cases rest with
  | nil =>
    unfold dRest at hI
    rw [dqI_nil, Option.map_some, List.append_nil] at hI
    rw [hI] at hv
    simp only at hv
    have q1 := sQuo_eq out (by simp at ho; omega)
    simp -implicitDefEqProofs only [go_sem, reduceEqDiff, reduceAdd, reduceLeDiff, reduceLT, reduceMul, reduceEq, Int.reduceLT, reduceLE, Int.reduceAdd, reduceSub, reduceToNat, UInt8.reduceToNat, h0, h4, h5]
    refine conv_sl (by simp -implicitDefEqProofs only [go_sem, reduceEqDiff, reduceAdd, reduceLeDiff, reduceLT, reduceMul, reduceEq, Int.reduceLT, reduceLE, Int.reduceAdd, reduceSub, reduceToNat, UInt8.reduceToNat]) (by simp -implicitDefEqProofs only [go_sem, reduceEqDiff, reduceAdd, reduceLeDiff, reduceLT, reduceMul, reduceEq, Int.reduceLT, reduceLE, Int.reduceAdd, reduceSub, reduceToNat, UInt8.reduceToNat]) ?_
    simp -implicitDefEqProofs only [go_sem, reduceEqDiff, reduceAdd, reduceLeDiff, reduceLT, reduceMul, reduceEq, Int.reduceLT, reduceLE, Int.reduceAdd, reduceSub, reduceToNat, UInt8.reduceToNat, h0, h4, h5, puQ4, pu0, q1]
    by_cases c1 : quoteB out = s
    · have y1 : decide (¬ quoteB out = s) = false := decide_eq_false (by simpa using c1)
      rw [if_pos c1] at hv
      simp -implicitDefEqProofs only [go_sem, reduceEqDiff, reduceAdd, reduceLeDiff, reduceLT, reduceMul, reduceEq, Int.reduceLT, reduceLE, Int.reduceAdd, reduceSub, reduceToNat, UInt8.reduceToNat, h4, y1]
      refine conv_sl (by simp -implicitDefEqProofs only [go_sem, reduceEqDiff, reduceAdd, reduceLeDiff, reduceLT, reduceMul, reduceEq, Int.reduceLT, reduceLE, Int.reduceAdd, reduceSub, reduceToNat, UInt8.reduceToNat]) (by simp -implicitDefEqProofs only [go_sem, reduceEqDiff, reduceAdd, reduceLeDiff, reduceLT, reduceMul, reduceEq, Int.reduceLT, reduceLE, Int.reduceAdd, reduceSub, reduceToNat, UInt8.reduceToNat]) ?_
      simp -implicitDefEqProofs only [go_sem, reduceEqDiff, reduceAdd, reduceLeDiff, reduceLT, reduceMul, reduceEq, Int.reduceLT, reduceLE, Int.reduceAdd, reduceSub, reduceToNat, UInt8.reduceToNat]
      exact Done.drop hA.sub ⟨by rw [hv], rfl⟩
    · have y1 : decide (¬ quoteB out = s) = true := decide_eq_true c1
      rw [if_neg c1] at hv
      simp -implicitDefEqProofs only [go_sem, reduceEqDiff, reduceAdd, reduceLeDiff, reduceLT, reduceMul, reduceEq, Int.reduceLT, reduceLE, Int.reduceAdd, reduceSub, reduceToNat, UInt8.reduceToNat, y1]
      exact Done.drop hA.sub ⟨by rw [hv], rfl⟩
  | cons c r1 =>
    have y0 : decide (¬ c :: r1 = []) = true := by simp
    have e92 := @u8_eq c 92 (by decide)
    have hI2 := hI
    rw [List.length_cons] at ho
    by_cases c1 : c = 92
    rotate_left
    · have y1 : decide (¬ (c.toNat : Int) = 92) = true := decide_eq_true (fun e => c1 (e92.1 e))
      have hn := hI.step (x := c) (rest2 := r1) (by rw [dqI_cons, if_pos c1])
      simp -implicitDefEqProofs only [go_sem, reduceEqDiff, reduceAdd, reduceLeDiff, reduceLT, reduceMul, reduceEq, Int.reduceLT, reduceLE, Int.reduceAdd, reduceSub, reduceToNat, UInt8.reduceToNat, h0, h4, h5, y0, y1, Int.toNat_zero, Int.le_refl]
      refine hA.step rfl (by omega) (fun tl2 G3 hA3 => ?_)
      simp -implicitDefEqProofs only [go_sem, reduceEqDiff, reduceAdd, reduceLeDiff, reduceLT, reduceMul, reduceEq, Int.reduceLT, reduceLE, Int.reduceAdd, reduceSub, reduceToNat, UInt8.reduceToNat, h0, h5, Int.toNat_one, List.take_length]
      refine ⟨by omega, ?_⟩
      exact Again.mk (r1, out ++ [c], tl2) (by simp -implicitDefEqProofs only [go_sem, reduceEqDiff, reduceAdd, reduceLeDiff, reduceLT, reduceMul, reduceEq, Int.reduceLT, reduceLE, Int.reduceAdd, reduceSub, reduceToNat, UInt8.reduceToNat, h0]) ⟨hA3, by simp only [List.length_append, List.length_cons, List.length_nil]; omega, hn⟩ (by simp)
    have y1 : decide (¬ (c.toNat : Int) = 92) = false := decide_eq_false (by simpa using e92.2 c1)
    have bad : dqI (c :: r1) = none → unqT s = .tup [.str [], .int .i64 8] := fun e => by
      unfold dRest at hI
      rw [e] at hI
      rw [hv, hI]
      rfl
    cases r1 with
    | nil =>
      have z2 : decide ((2 : Int) ≤ ((([] : Bytes).length + 1 : Nat) : Int)) = false := rfl
      have z4 : decide ((4 : Int) ≤ ((([] : Bytes).length + 1 : Nat) : Int)) = false := rfl
      simp -implicitDefEqProofs only [go_sem, reduceEqDiff, reduceAdd, reduceLeDiff, reduceLT, reduceMul, reduceEq, Int.reduceLT, reduceLE, Int.reduceAdd, reduceSub, reduceToNat, UInt8.reduceToNat, h0, h4, h5, y0, y1, Int.toNat_zero, Int.le_refl, z2, z4]
      refine Done.drop hA.sub ⟨?_, rfl⟩
      rw [bad]
      rw [dqI_cons, if_neg (by simp [c1])]
    | cons b r2 =>
      have hq : dqI (c :: b :: r2) = if b = 34 ∨ b = 92 then (dqI r2).map (b :: ·) else if b = 110 then (dqI r2).map (10 :: ·) else if b = 120 then
          match r2 with
          | h :: l :: r3 => (dqI r3).map (UInt8.ofNat (IntKind.u8.wrap (hexI h * 16 + hexI l)).toNat :: ·)
          | _ => none
        else none := by
        rw [dqI_cons, if_neg (by simp [c1])]
        cases r2 with
        | nil => rfl
        | cons h t => cases t <;> rfl
      rw [List.length_cons] at ho
      have b34 := @u8_eq b 34 (by decide)
      have b92 := @u8_eq b 92 (by decide)
      have b110 := @u8_eq b 110 (by decide)
      have b120 := @u8_eq b 120 (by decide)
      have z2 : decide ((2 : Int) ≤ ((r2.length + 1 + 1 : Nat) : Int)) = true := decide_eq_true (by omega)
      by_cases d1 : b = 34
      · have x1 : decide ((b.toNat : Int) = 34) = true := decide_eq_true (b34.2 d1)
        have hn := hI.step (x := b) (rest2 := r2) (by rw [hq, if_pos (.inl d1)])
        simp -implicitDefEqProofs only [go_sem, reduceEqDiff, reduceAdd, reduceLeDiff, reduceLT, reduceMul, reduceEq, Int.reduceLT, reduceLE, Int.reduceAdd, reduceSub, reduceToNat, UInt8.reduceToNat, h0, h4, h5, y0, y1, Int.toNat_zero, Int.le_refl, z2, Int.toNat_one, x1]
        refine hA.step rfl (by omega) (fun tl2 G3 hA3 => ?_)
        simp -implicitDefEqProofs only [go_sem, reduceEqDiff, reduceAdd, reduceLeDiff, reduceLT, reduceMul, reduceEq, Int.reduceLT, reduceLE, Int.reduceAdd, reduceSub, reduceToNat, UInt8.reduceToNat, h0, h5, Int.reduceToNat, List.take_length]
        refine ⟨by omega, ?_⟩
        exact Again.mk (r2, out ++ [b], tl2) (by simp -implicitDefEqProofs only [go_sem, reduceEqDiff, reduceAdd, reduceLeDiff, reduceLT, reduceMul, reduceEq, Int.reduceLT, reduceLE, Int.reduceAdd, reduceSub, reduceToNat, UInt8.reduceToNat, h0]) ⟨hA3, by simp only [List.length_append, List.length_cons, List.length_nil]; omega, hn⟩ (by simp; omega)
      have x1 : decide ((b.toNat : Int) = 34) = false := decide_eq_false (fun e => d1 (b34.1 e))
      by_cases d2 : b = 92
      · have x2 : decide ((b.toNat : Int) = 92) = true := decide_eq_true (b92.2 d2)
        have hn := hI.step (x := b) (rest2 := r2) (by rw [hq, if_pos (.inr d2)])
        simp -implicitDefEqProofs only [go_sem, reduceEqDiff, reduceAdd, reduceLeDiff, reduceLT, reduceMul, reduceEq, Int.reduceLT, reduceLE, Int.reduceAdd, reduceSub, reduceToNat, UInt8.reduceToNat, h0, h4, h5, y0, y1, Int.toNat_zero, Int.le_refl, z2, Int.toNat_one, x1, x2]
        refine hA.step rfl (by omega) (fun tl2 G3 hA3 => ?_)
        simp -implicitDefEqProofs only [go_sem, reduceEqDiff, reduceAdd, reduceLeDiff, reduceLT, reduceMul, reduceEq, Int.reduceLT, reduceLE, Int.reduceAdd, reduceSub, reduceToNat, UInt8.reduceToNat, h0, h5, Int.reduceToNat, List.take_length]
        refine ⟨by omega, ?_⟩
        exact Again.mk (r2, out ++ [b], tl2) (by simp -implicitDefEqProofs only [go_sem, reduceEqDiff, reduceAdd, reduceLeDiff, reduceLT, reduceMul, reduceEq, Int.reduceLT, reduceLE, Int.reduceAdd, reduceSub, reduceToNat, UInt8.reduceToNat, h0]) ⟨hA3, by simp only [List.length_append, List.length_cons, List.length_nil]; omega, hn⟩ (by simp; omega)
      have x2 : decide ((b.toNat : Int) = 92) = false := decide_eq_false (fun e => d2 (b92.1 e))
      by_cases d3 : b = 110
      · have x3 : decide ((b.toNat : Int) = 110) = true := decide_eq_true (b110.2 d3)
        have hn := hI.step (x := 10) (rest2 := r2) (by rw [hq, if_neg (by simp [d1, d2]), if_pos d3])
        simp -implicitDefEqProofs only [go_sem, reduceEqDiff, reduceAdd, reduceLeDiff, reduceLT, reduceMul, reduceEq, Int.reduceLT, reduceLE, Int.reduceAdd, reduceSub, reduceToNat, UInt8.reduceToNat, h0, h4, h5, y0, y1, Int.toNat_zero, Int.le_refl, z2, Int.toNat_one, x1, x2, x3]
        refine hA.step (x := 10) rfl (by omega) (fun tl2 G3 hA3 => ?_)
        simp -implicitDefEqProofs only [go_sem, reduceEqDiff, reduceAdd, reduceLeDiff, reduceLT, reduceMul, reduceEq, Int.reduceLT, reduceLE, Int.reduceAdd, reduceSub, reduceToNat, UInt8.reduceToNat, h0, h5, Int.reduceToNat, List.take_length]
        refine ⟨by omega, ?_⟩
        exact Again.mk (r2, out ++ [10], tl2) (by simp -implicitDefEqProofs only [go_sem, reduceEqDiff, reduceAdd, reduceLeDiff, reduceLT, reduceMul, reduceEq, Int.reduceLT, reduceLE, Int.reduceAdd, reduceSub, reduceToNat, UInt8.reduceToNat, h0]) ⟨hA3, by simp only [List.length_append, List.length_cons, List.length_nil]; omega, hn⟩ (by simp; omega)
      have x3 : decide ((b.toNat : Int) = 110) = false := decide_eq_false (fun e => d3 (b110.1 e))
      rw [if_neg (by simp [d1, d2]), if_neg d3] at hq
      by_cases d4 : b = 120
      rotate_left
      · have x4 : decide ((b.toNat : Int) = 120) = false := decide_eq_false (fun e => d4 (b120.1 e))
        rw [if_neg d4] at hq
        by_cases d5 : 4 ≤ r2.length + 1 + 1
        · have z4 : decide ((4 : Int) ≤ ((r2.length + 1 + 1 : Nat) : Int)) = true := decide_eq_true (by omega)
          simp -implicitDefEqProofs only [go_sem, reduceEqDiff, reduceAdd, reduceLeDiff, reduceLT, reduceMul, reduceEq, Int.reduceLT, reduceLE, Int.reduceAdd, reduceSub, reduceToNat, UInt8.reduceToNat, h0, h4, h5, y0, y1, Int.toNat_zero, Int.le_refl, z2, z4, Int.toNat_one, x1, x2, x3, x4]
          exact Done.drop hA.sub ⟨by rw [bad hq], rfl⟩
        · have z4 : decide ((4 : Int) ≤ ((r2.length + 1 + 1 : Nat) : Int)) = false := decide_eq_false (by omega)
          simp -implicitDefEqProofs only [go_sem, reduceEqDiff, reduceAdd, reduceLeDiff, reduceLT, reduceMul, reduceEq, Int.reduceLT, reduceLE, Int.reduceAdd, reduceSub, reduceToNat, UInt8.reduceToNat, h0, h4, h5, y0, y1, Int.toNat_zero, Int.le_refl, z2, z4, Int.toNat_one, x1, x2, x3, x4]
          exact Done.drop hA.sub ⟨by rw [bad hq], rfl⟩
      have x4 : decide ((b.toNat : Int) = 120) = true := decide_eq_true (b120.2 d4)
      rw [if_pos d4] at hq
      match r2 with
      | [] =>
        have z4 : decide ((4 : Int) ≤ ((([] : Bytes).length + 1 + 1 : Nat) : Int)) = false := rfl
        simp -implicitDefEqProofs only [go_sem, reduceEqDiff, reduceAdd, reduceLeDiff, reduceLT, reduceMul, reduceEq, Int.reduceLT, reduceLE, Int.reduceAdd, reduceSub, reduceToNat, UInt8.reduceToNat, h0, h4, h5, y0, y1, Int.toNat_zero, Int.le_refl, z2, z4, Int.toNat_one, x1, x2, x3, x4]
        exact Done.drop hA.sub ⟨by rw [bad hq], rfl⟩
      | [h] =>
        have z4 : decide ((4 : Int) ≤ ((([h] : Bytes).length + 1 + 1 : Nat) : Int)) = false := rfl
        simp -implicitDefEqProofs only [go_sem, reduceEqDiff, reduceAdd, reduceLeDiff, reduceLT, reduceMul, reduceEq, Int.reduceLT, reduceLE, Int.reduceAdd, reduceSub, reduceToNat, UInt8.reduceToNat, h0, h4, h5, y0, y1, Int.toNat_zero, Int.le_refl, z2, z4, Int.toNat_one, x1, x2, x3, x4]
        exact Done.drop hA.sub ⟨by rw [bad hq], rfl⟩
      | h :: l :: r3 =>
        have z4 : decide ((4 : Int) ≤ ((r3.length + 1 + 1 + 1 + 1 : Nat) : Int)) = true := decide_eq_true (by omega)
        have z2 : decide ((2 : Int) ≤ ((r3.length + 1 + 1 + 1 + 1 : Nat) : Int)) = true := decide_eq_true (by omega)
        have hh : Lib.indexByte [48, 49, 50, 51, 52, 53, 54, 55, 56, 57, 97, 98, 99, 100, 101, 102] h = hexI h := rfl
        have hl : Lib.indexByte [48, 49, 50, 51, 52, 53, 54, 55, 56, 57, 97, 98, 99, 100, 101, 102] l = hexI l := rfl
        have k1 := hexI_ge h
        have k2 := hexI_ge l
        have k3 := hexI_lt h
        have k4 := hexI_lt l
        have w1 : IntKind.i64.wrap (hexI h * 16) = hexI h * 16 := Go.IntWalk.i64_in _ (by omega)
        have w2 : IntKind.i64.wrap (hexI h * 16 + hexI l) = hexI h * 16 + hexI l := Go.IntWalk.i64_in _ (by omega)
        have hn := hI.step (x := UInt8.ofNat (IntKind.u8.wrap (hexI h * 16 + hexI l)).toNat) (rest2 := r3) hq
        have hx := u8_any (hexI h * 16 + hexI l)
        generalize UInt8.ofNat (IntKind.u8.wrap (hexI h * 16 + hexI l)).toNat = x at *
        rw [List.length_cons, List.length_cons] at ho
        simp -implicitDefEqProofs only [go_sem, reduceEqDiff, reduceAdd, reduceLeDiff, reduceLT, reduceMul, reduceEq, Int.reduceLT, reduceLE, Int.reduceAdd, reduceSub, reduceToNat, UInt8.reduceToNat, h0, h4, h5, y0, y1, Int.toNat_zero, Int.le_refl, z2, z4, Int.toNat_one, Int.reduceToNat, x1, x2, x3, x4, puQ4, sIdxL_eq, hh, hl, w1, w2]
        refine ⟨by omega, by omega, ?_⟩
        refine hA.step hx (by omega) (fun tl2 G3 hA3 => ?_)
        simp -implicitDefEqProofs only [go_sem, reduceEqDiff, reduceAdd, reduceLeDiff, reduceLT, reduceMul, reduceEq, Int.reduceLT, reduceLE, Int.reduceAdd, reduceSub, reduceToNat, UInt8.reduceToNat, h0, h5, Int.reduceToNat, List.take_length]
        refine ⟨by omega, ?_⟩
        exact Again.mk (r3, out ++ [x], tl2) (by simp -implicitDefEqProofs only [go_sem, reduceEqDiff, reduceAdd, reduceLeDiff, reduceLT, reduceMul, reduceEq, Int.reduceLT, reduceLE, Int.reduceAdd, reduceSub, reduceToNat, UInt8.reduceToNat, h0]) ⟨hA3, by simp only [List.length_append, List.length_cons, List.length_nil]; omega, hn⟩ (by simp; omega)
end Go.Proofs

/- Walks: changes and items. -/
namespace Go.Proofs
open Go Go.Abs
open Nat (reduceEqDiff reduceAdd reduceLeDiff reduceLT reduceMul)
open Int (reduceEq reduceLE reduceSub reduceToNat)
set_option linter.unusedSimpArgs false
set_option linter.unusedVariables false
theorem fileFault_calls (f : FileV) (H : Heap) (hr : fileR f) : ACalls Tryz.prog 91 [.agg (encFile f)] H fun x H' => x = .int .i64 (fileErr f) ∧ H' = H := by
  obtain ⟨h1, h2⟩ := hr
  have hR : Room = 1099511627776 := rfl
  refine ACalls.of_code (X := { pure := puM }) puM_ok Tryz.func91 (by kernel_rfl) rfl (by kernel_rfl) (Nat.le_of_ble_eq_true rfl) ?_
  simp -implicitDefEqProofs only [go_sem, reduceEqDiff, reduceAdd, reduceLeDiff, reduceLT, reduceMul, reduceEq, Int.reduceLT, reduceLE, Int.reduceAdd, reduceSub, reduceToNat, UInt8.reduceToNat, Tryz.f91, encFile]
  with_reducible refine nwC_intro fun id hid => ?_
  simp -implicitDefEqProofs only [go_sem, reduceEqDiff, reduceAdd, reduceLeDiff, reduceLT, reduceMul, reduceEq, Int.reduceLT, reduceLE, Int.reduceAdd, reduceSub, reduceToNat, UInt8.reduceToNat, puM, puN, sStr_eq, hR, h1]
  repeat' (first | (with_reducible refine gd_intro (fun h => ?_) (fun h => ?_) <;> first | (exact absurd h (by decide)) | (simp at h; done) | simp -implicitDefEqProofs (disch := omega) only [go_sem, reduceEqDiff, reduceAdd, reduceLeDiff, reduceLT, reduceMul, reduceEq, Int.reduceLT, reduceLE, Int.reduceAdd, reduceSub, reduceToNat, UInt8.reduceToNat, Go.IntWalk.i64_in, *]) | (with_reducible refine cnd_intro (fun h => ?_) (fun h => ?_) <;> first | (exact absurd h (by decide)) | (simp at h; done) | simp -implicitDefEqProofs (disch := omega) only [go_sem, reduceEqDiff, reduceAdd, reduceLeDiff, reduceLT, reduceMul, reduceEq, Int.reduceLT, reduceLE, Int.reduceAdd, reduceSub, reduceToNat, UInt8.reduceToNat, Go.IntWalk.i64_in, *]))
  all_goals refine Done.drop1 hid ⟨?_, rfl⟩
  all_goals (simp_all [fileErr] <;> omega)
theorem settingFault_calls (f : SetV) (H : Heap) (hr : setR f) : ACalls Tryz.prog 90 [.agg (encSet f), .func 45 []] H fun x H' => x = .int .i64 (setErr f) ∧ H' = H := by
  obtain ⟨h1, h2⟩ := hr
  have hR : Room = 1099511627776 := rfl
  refine ACalls.of_code (X := { pure := puM }) puM_ok Tryz.func90 (by kernel_rfl) rfl (by kernel_rfl) (Nat.le_of_ble_eq_true rfl) ?_
  simp -implicitDefEqProofs only [go_sem, reduceEqDiff, reduceAdd, reduceLeDiff, reduceLT, reduceMul, reduceEq, Int.reduceLT, reduceLE, Int.reduceAdd, reduceSub, reduceToNat, UInt8.reduceToNat, Tryz.f90, encSet]
  with_reducible refine nwC_intro fun id hid => ?_
  simp -implicitDefEqProofs only [go_sem, reduceEqDiff, reduceAdd, reduceLeDiff, reduceLT, reduceMul, reduceEq, Int.reduceLT, reduceLE, Int.reduceAdd, reduceSub, reduceToNat, UInt8.reduceToNat, puM, puN, sStr_eq, hR, h1, h2]
  repeat' (first | (with_reducible refine gd_intro (fun h => ?_) (fun h => ?_) <;> first | (exact absurd h (by decide)) | (simp at h; done) | simp -implicitDefEqProofs (disch := omega) only [go_sem, reduceEqDiff, reduceAdd, reduceLeDiff, reduceLT, reduceMul, reduceEq, Int.reduceLT, reduceLE, Int.reduceAdd, reduceSub, reduceToNat, UInt8.reduceToNat, Go.IntWalk.i64_in, puM, puN, sStr_eq, hR, *]) | (with_reducible refine cnd_intro (fun h => ?_) (fun h => ?_) <;> first | (exact absurd h (by decide)) | (simp at h; done) | simp -implicitDefEqProofs (disch := omega) only [go_sem, reduceEqDiff, reduceAdd, reduceLeDiff, reduceLT, reduceMul, reduceEq, Int.reduceLT, reduceLE, Int.reduceAdd, reduceSub, reduceToNat, UInt8.reduceToNat, Go.IntWalk.i64_in, puM, puN, sStr_eq, hR, *]))
  all_goals refine Done.drop1 hid ⟨?_, rfl⟩
  all_goals simp_all [setErr]
theorem serviceFault_calls (f : SvcV) (H : Heap) (hr : svcR f) : ACalls Tryz.prog 96 [.agg (encSvc f)] H fun x H' => x = .int .i64 (svcErr f) ∧ H' = H := by
  obtain ⟨h1, h2⟩ := hr
  have hR : Room = 1099511627776 := rfl
  refine ACalls.of_code (X := { pure := puM }) puM_ok Tryz.func96 (by kernel_rfl) rfl (by kernel_rfl) (Nat.le_of_ble_eq_true rfl) ?_
  simp -implicitDefEqProofs only [go_sem, reduceEqDiff, reduceAdd, reduceLeDiff, reduceLT, reduceMul, reduceEq, Int.reduceLT, reduceLE, Int.reduceAdd, reduceSub, reduceToNat, UInt8.reduceToNat, Tryz.f96, encSvc]
  with_reducible refine nwC_intro fun id hid => ?_
  simp -implicitDefEqProofs only [go_sem, reduceEqDiff, reduceAdd, reduceLeDiff, reduceLT, reduceMul, reduceEq, Int.reduceLT, reduceLE, Int.reduceAdd, reduceSub, reduceToNat, UInt8.reduceToNat, puM, puN, sStr_eq, hR, h1, h2]
  repeat' (first | (with_reducible refine gd_intro (fun h => ?_) (fun h => ?_) <;> first | (exact absurd h (by decide)) | (simp at h; done) | simp -implicitDefEqProofs (disch := omega) only [go_sem, reduceEqDiff, reduceAdd, reduceLeDiff, reduceLT, reduceMul, reduceEq, Int.reduceLT, reduceLE, Int.reduceAdd, reduceSub, reduceToNat, UInt8.reduceToNat, Go.IntWalk.i64_in, puM, puN, sStr_eq, hR, *]) | (with_reducible refine cnd_intro (fun h => ?_) (fun h => ?_) <;> first | (exact absurd h (by decide)) | (simp at h; done) | simp -implicitDefEqProofs (disch := omega) only [go_sem, reduceEqDiff, reduceAdd, reduceLeDiff, reduceLT, reduceMul, reduceEq, Int.reduceLT, reduceLE, Int.reduceAdd, reduceSub, reduceToNat, UInt8.reduceToNat, Go.IntWalk.i64_in, puM, puN, sStr_eq, hR, *]))
  all_goals refine Done.drop1 hid ⟨?_, rfl⟩
  all_goals simp_all [svcErr]
/-! ### Equality of structs -/
theorem eq_file (n : Nat) (a b a' b' : Bytes) (c c' : Bool) : eqT Tryz.prog (n + 2) 37 (.agg [.str a, .str b, .bool c]) (.agg [.str a', .str b', .bool c']) = some (decide (a = a') && (decide (b = b') && (c == c' && true))) := by
  simp only [eqT, eqFields, tys, readC, TD.agg, List.drop_zero, List.drop_succ_cons, List.head?_cons, if_false, if_true, Bool.false_eq_true]
theorem eq_set (n : Nat) (a b a' b' : Bytes) : eqT Tryz.prog (n + 2) 33 (.agg [.str a, .str b]) (.agg [.str a', .str b']) = some (decide (a = a') && (decide (b = b') && true)) := by
  simp only [eqT, eqFields, tys, readC, TD.agg, List.drop_zero, List.drop_succ_cons, List.head?_cons, if_false, if_true, Bool.false_eq_true]
theorem eq_svc (n : Nat) (a b a' b' : Bytes) (c d c' d' : Bool) : eqT Tryz.prog (n + 2) 41 (.agg [.str a, .str b, .bool c, .bool d]) (.agg [.str a', .str b', .bool c', .bool d']) = some (decide (a = a') && (decide (b = b') && (c == c' && (d == d' && true)))) := by
  simp only [eqT, eqFields, tys, readC, TD.agg, List.drop_zero, List.drop_succ_cons, List.head?_cons, if_false, if_true, Bool.false_eq_true]
theorem eq_int (n : Nat) (a b : Int) : eqT Tryz.prog (n + 1) 3 (.int .i64 a) (.int .i64 b) = some (decide (a = b)) := by
  simp only [eqT, tys, if_true]
theorem eq_chg (n : Nat) (c d : ChgV) : eqT Tryz.prog (n + 3) 71 (.agg (encChg c)) (.agg (encChg d)) = some (decide (c = d)) := by
  have e : (decide (c = d)) = (decide (c.kind = d.kind) && (decide (c.file = d.file) && (decide (c.set = d.set) && (decide (c.svc = d.svc) && true)))) := by
    obtain ⟨k, ⟨a, b, r⟩, ⟨x, y⟩, ⟨p, q, u, v⟩⟩ := c
    obtain ⟨k', ⟨a', b', r'⟩, ⟨x', y'⟩, ⟨p', q', u', v'⟩⟩ := d
    rw [Bool.eq_iff_iff]
    simp
  rw [e]
  obtain ⟨k, ⟨a, b, r⟩, ⟨x, y⟩, ⟨p, q, u, v⟩⟩ := c
  obtain ⟨k', ⟨a', b', r'⟩, ⟨x', y'⟩, ⟨p', q', u', v'⟩⟩ := d
  rw [eqT]
  simp only [tys, eqFields, encChg, readC, TD.agg, List.drop_zero, List.drop_succ_cons, List.head?_cons, if_false, if_true, Bool.false_eq_true, List.length_cons, List.length_nil, Nat.reduceAdd, Nat.reduceLeDiff, List.take_succ_cons, List.take_zero, List.take_nil, eq_int, eq_file, eq_set, eq_svc, FileV.mk.injEq, SetV.mk.injEq, SvcV.mk.injEq]
  congr 1
  rw [Bool.eq_iff_iff]
  simp [and_assoc]
theorem neq_chg (cx cy : Bool) (c d : ChgV) : bin Tryz.prog .neq 71 cx cy (.agg (encChg c)) (.agg (encChg d)) = some (.bool (!decide (c = d))) := by
  have h := eq_chg 3 c d
  have e : eqA Tryz.prog 71 cx cy (.agg (encChg c)) (.agg (encChg d)) = some (decide (c = d)) := by
    unfold eqA
    simp only [tys, if_true]
    exact h
  show (eqA Tryz.prog 71 cx cy (.agg (encChg c)) (.agg (encChg d))).map (fun b => AV.bool (!b)) = _
  rw [e]; rfl
end Go.Proofs
