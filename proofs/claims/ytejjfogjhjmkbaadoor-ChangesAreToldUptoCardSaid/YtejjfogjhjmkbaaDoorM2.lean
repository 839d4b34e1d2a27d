/-
  Walks and plain laws, part 2.
-/
import Derived.Test.YtejjfogjhjmkbaaDoorAbs4
import Derived.Test.YtejjfogjhjmkbaaDoorTy
import Derived.IntWalk
import Derived.Test.YtejjfogjhjmkbaaDoorM1
import Derived.Lib.MakeNoZero
import Derived.Lib.Builder
/- Walks: strings.Builder. -/
namespace Go.Proofs
open Go Go.Abs
set_option linter.unusedSimpArgs false
set_option linter.unusedVariables false

/-- Bytes as cells of a slice. -/
def bcell (b : UInt8) : List AV := [.int .u8 b.toNat]
theorem bcell_len (l : Bytes) : Unif 1 (l.map bcell) := by
  intro c hc
  simp only [List.mem_map] at hc
  obtain ⟨b, _, rfl⟩ := hc
  rfl
abbrev bldP (b : Nat) : AV := .tptr 50 2 b
theorem noEscape_calls (T sz id : Nat) (H : Heap) : ACalls Tryd.prog 49 [.tptr T sz id] H fun y H' => y = .tptr T sz id ∧ H' = H :=
  ACalls.of_extern (e := Extern.AbiNoEscape.same) Tryd.func49 (by kernel_rfl) rfl (by kernel_rfl) (by kernel_rfl) fun C H w vs hv => by
    obtain ⟨v, rfl, h1⟩ := reprL_one hv
    exact ⟨v, Lib.run_noEscape (P := Tryd.prog) w v, h1⟩
theorem heap_put_id {H : Heap} {b : Nat} {o : AObj} (h : H b = some o) : H.put b o = H := by
  funext i
  unfold Heap.put
  split
  · rename_i e; subst e; exact h.symm
  · rfl
theorem _root_.Go.Abs.ACalls.next1 {P : Program} {f : FuncId} {args : List AV} {H H1 : Heap} {K : K1} {x : AV} (h : ACalls P f args H fun y H' => y = x ∧ H' = H1) (hK : K x H1) : ACalls P f args H K := by
  refine h.mono ?_
  rintro x H' ⟨rfl, rfl⟩
  exact hK
def addrOK (b : Nat) (p : AV) : Prop := p = .nilp ∨ p = bldP b
theorem copyCheck_calls {G : Heap} {b : Nat} {p buf : AV} (hp : addrOK b p) (h3 : G b = some (.cells [p, buf])) :
    ACalls Tryd.prog 41 [bldP b] G fun x G' => x = .tup [] ∧ G' = G.put b (.cells [bldP b, buf]) := by
  rcases hp with rfl | rfl
  · refine ACalls.of_code (X := { pure := pu0 }) pu0_ok Tryd.func41 (by kernel_rfl) rfl (by kernel_rfl) (Nat.le_of_ble_eq_true rfl) ?_
    simp -implicitDefEqProofs only [go_sem, tys, regs0, Nat.reduceEqDiff, Nat.reduceAdd, Nat.reduceLeDiff, Nat.reduceLT, Nat.reduceMul, Int.natCast_one, Int.natCast_zero, Int.reduceEq, Int.reduceLT, Int.reduceLE, Int.reduceAdd, Int.reduceSub, Int.reduceToNat, UInt8.reduceToNat, Tryd.f41, h3]
    refine (noEscape_calls _ _ _ _).pure_next _ ?_
    simp -implicitDefEqProofs only [go_sem, tys, regs0, Nat.reduceEqDiff, Nat.reduceAdd, Nat.reduceLeDiff, Nat.reduceLT, Nat.reduceMul, Int.natCast_one, Int.natCast_zero, Int.reduceEq, Int.reduceLT, Int.reduceLE, Int.reduceAdd, Int.reduceSub, Int.reduceToNat, UInt8.reduceToNat, h3]
    exact Done.now ⟨rfl, rfl⟩
  · refine ACalls.of_code (X := { pure := pu0 }) pu0_ok Tryd.func41 (by kernel_rfl) rfl (by kernel_rfl) (Nat.le_of_ble_eq_true rfl) ?_
    simp -implicitDefEqProofs only [go_sem, tys, regs0, Nat.reduceEqDiff, Nat.reduceAdd, Nat.reduceLeDiff, Nat.reduceLT, Nat.reduceMul, Int.natCast_one, Int.natCast_zero, Int.reduceEq, Int.reduceLT, Int.reduceLE, Int.reduceAdd, Int.reduceSub, Int.reduceToNat, UInt8.reduceToNat, Tryd.f41, h3]
    exact Done.now ⟨rfl, (heap_put_id h3).symm⟩
/-- The builder 'b' holds these bytes; 'H': what there is beside it. -/
def BufOK (g : Bool) (H G : Heap) (b : Nat) (buf : AV) (l : Bytes) : Prop := buf = .snil ∧ l = [] ∨ ∃ t, buf = .sl (l.map bcell) (.tok t 1 (some 5)) ∧ H t = none ∧ G t = some (.tail l.length) ∧ ¬ t = b ∧ (g = false → l ≠ [])
/-- .. 'g': it may have got room, and hold nothing. -/
def BldG (g : Bool) (H G : Heap) (b : Nat) (l : Bytes) : Prop := H.Sub G ∧ H b = none ∧ ∃ p buf, G b = some (.cells [p, buf]) ∧ addrOK b p ∧ BufOK g H G b buf l
abbrev BldOK (H G : Heap) (b : Nat) (l : Bytes) : Prop := BldG false H G b l
/-- What a builder's writing leaves of other objects. -/
def tokOf (G : Heap) (b : Nat) : Option Nat := match G b with
  | some (.cells [_, .sl _ (.tok t _ _)]) => some t
  | _ => none
def BKept (b : Nat) (G G' : Heap) : Prop := ∀ i o, G i = some o → ¬ i = b → tokOf G b ≠ some i → G' i = some o
theorem BldG.sub {g : Bool} {H G : Heap} {b : Nat} {l : Bytes} (h : BldG g H G b l) : H.Sub G := h.1
theorem BldG.tok {g : Bool} {H G : Heap} {b : Nat} {l : Bytes} (h : BldG g H G b l) {t : Nat} (ht : tokOf G b = some t) : H t = none := by
  obtain ⟨_, _, p, buf, h3, h4, h5⟩ := h
  unfold tokOf at ht
  rw [h3] at ht
  rcases h5 with ⟨rfl, -⟩ | ⟨t', rfl, h6, -⟩
  · cases ht
  · cases ht; exact h6
/-- Objects that stand beside stay. -/
theorem BldG.kept {g : Bool} {H G G' : Heap} {b : Nat} {l : Bytes} (h : BldG g H G b l) (hk : BKept b G G') {i : Nat} {o : AObj} (hi : H i = some o) : G' i = some o :=
  hk i o (h.1 i o hi) (fun e => by subst e; rw [h.2.1] at hi; cases hi) (fun e => by rw [h.tok e] at hi; cases hi)
theorem BldG.put {g : Bool} {H G : Heap} {b : Nat} {l : Bytes} (h : BldG g H G b l) {i : Nat} (hi : G i = none) (o : AObj) : BldG g H (G.put i o) b l := by
  obtain ⟨h1, h2, p, buf, h3, h4, h5⟩ := h
  have hH : H i = none := by
    cases hh : H i with
    | none => rfl
    | some x => have := h1 i x hh; rw [hi] at this; cases this
  have hb : ¬ b = i := fun e => by subst e; rw [h3] at hi; cases hi
  refine ⟨h1.put' hH o, h2, p, buf, by rw [put_ne _ _ _ _ hb]; exact h3, h4, ?_⟩
  rcases h5 with h5 | ⟨t, t1, t2, t3, t4, t9⟩
  · exact .inl h5
  · have ht : ¬ t = i := fun e => by subst e; rw [t3] at hi; cases hi
    exact .inr ⟨t, t1, t2, by rw [put_ne _ _ _ _ ht]; exact t3, t4, t9⟩
/-- A new builder. -/
theorem BldG.new {H G : Heap} (h : H.Sub G) {b : Nat} (hb : G b = none) : BldOK H (G.put b (.cells [.nilp, .snil])) b [] := by
  have hH : H b = none := by
    cases hh : H b with
    | none => rfl
    | some x => have := h b x hh; rw [hb] at this; cases this
  exact ⟨h.put' hH _, hH, _, _, put_same _ _ _, .inl rfl, .inl ⟨rfl, rfl⟩⟩
theorem app_snil {et : Option TypeId} {e : TI} {new : List (List AV)} {H : Heap} {K : K1} (h1 : new.length * e.bytes ≤ 140737488355328) (h2 : new.length ≤ 4611686018427387904) (h0 : new = [] → K .snil H)
    (h : new ≠ [] → ∀ id', H id' = none → K (.sl new (.tok id' e.size et)) (H.put id' (.tail (new.length * e.size)))) : appK et false e .snil new H K :=
  ⟨h0, fun hn => ⟨h1, h2, fun id' hid => h hn id' hid⟩⟩
theorem app_tok' {et : Option TypeId} {e : TI} {es new : List (List AV)} {id : Nat} {H : Heap} {K : K1} (hu : Unif e.size es) (ht : H id = some (.tail (es.length * e.size))) (h1 : (es.length + new.length) * e.bytes ≤ 140737488355328) (h2 : es.length + new.length ≤ 4611686018427387904)
    (h : ∀ id', H id' = none → K (.sl (es ++ new) (.tok id' e.size et)) ((H.del id).put id' (.tail ((es ++ new).length * e.size)))) : appK et false e (.sl es (.tok id e.size et)) new H K :=
  app_tok hu ht h1 h2 fun id' hid => by rw [if_pos rfl]; exact h id' hid

theorem writeString_calls {g : Bool} {H G : Heap} {b : Nat} {l s : Bytes} (h : BldG g H G b l) (hl : l.length + s.length ≤ 140737488355328) :
    ACalls Tryd.prog 21 [bldP b, .str s] G fun x G' => x = .tup [.int .i64 s.length, .nilIface] ∧ BldG g H G' b (l ++ s) ∧ BKept b G G' := by
  obtain ⟨h1, h2, p, buf, h3, h4, h5⟩ := h
  have hc := copyCheck_calls h4 h3
  have hm : (s.map fun b : UInt8 => [AV.int .u8 b.toNat]) = s.map bcell := rfl
  rcases h5 with ⟨rfl, rfl⟩ | ⟨t, rfl, t2, t3, t4, t9⟩
  · refine ACalls.of_code (X := { pure := pu0 }) pu0_ok Tryd.func21 (by kernel_rfl) rfl (by kernel_rfl) (Nat.le_of_ble_eq_true rfl) ?_
    simp -implicitDefEqProofs only [go_sem, tys, regs0, Nat.reduceEqDiff, Nat.reduceAdd, Nat.reduceLeDiff, Nat.reduceLT, Nat.reduceMul, Int.natCast_one, Int.natCast_zero, Int.reduceEq, Int.reduceLT, Int.reduceLE, Int.reduceAdd, Int.reduceSub, Int.reduceToNat, UInt8.reduceToNat, Tryd.f21]
    refine hc.next1 ?_
    simp -implicitDefEqProofs only [go_sem, tys, regs0, Nat.reduceEqDiff, Nat.reduceAdd, Nat.reduceLeDiff, Nat.reduceLT, Nat.reduceMul, Int.natCast_one, Int.natCast_zero, Int.reduceEq, Int.reduceLT, Int.reduceLE, Int.reduceAdd, Int.reduceSub, Int.reduceToNat, UInt8.reduceToNat, hm]
    refine app_snil (by simp at hl ⊢; omega) (by simp at hl ⊢; omega) (fun hn => ?_) (fun hn t' ht' => ?_)
    · have hs : s = [] := by simpa using hn
      subst hs
      simp -implicitDefEqProofs only [go_sem, tys, regs0, Nat.reduceEqDiff, Nat.reduceAdd, Nat.reduceLeDiff, Nat.reduceLT, Nat.reduceMul, Int.natCast_one, Int.natCast_zero, Int.reduceEq, Int.reduceLT, Int.reduceLE, Int.reduceAdd, Int.reduceSub, Int.reduceToNat, UInt8.reduceToNat]
      refine Done.now ⟨rfl, ⟨h1.put' h2 _, h2, _, _, put_same _ _ _, .inr rfl, .inl ⟨rfl, rfl⟩⟩, fun i o hi hb _ => by rw [put_ne _ _ _ _ hb]; exact hi⟩
    · have n1 := (heap_none ht').1
      have n2 := (heap_none ht').2.1
      have n3 := (heap_none ht').2.2
      have n4 : H t' = none := by
        cases hh : H t' with
        | none => rfl
        | some x => have := h1 t' x hh; rw [n3] at this; cases this
      simp -implicitDefEqProofs only [go_sem, tys, regs0, Nat.reduceEqDiff, Nat.reduceAdd, Nat.reduceLeDiff, Nat.reduceLT, Nat.reduceMul, Int.natCast_one, Int.natCast_zero, Int.reduceEq, Int.reduceLT, Int.reduceLE, Int.reduceAdd, Int.reduceSub, Int.reduceToNat, UInt8.reduceToNat, put_ne, n2]
      refine Done.now ⟨rfl, ⟨((h1.put' h2 _).put' n4 _).put' h2 _, h2, _, _, put_same _ _ _, .inr rfl, .inr ⟨t', rfl, n4, ?_, n1, fun _ => by simpa using hn⟩⟩, fun i o hi hb _ => ?_⟩
      · rw [put_ne _ _ _ _ n1, put_same]; simp
      · have n5 : ¬ i = t' := fun e => by subst e; rw [n3] at hi; cases hi
        rw [put_ne _ _ _ _ hb, put_ne _ _ _ _ n5, put_ne _ _ _ _ hb]; exact hi
  · have htk : tokOf G b = some t := by simp [tokOf, h3]
    have t5 : (G.put b (.cells [bldP b, .sl (l.map bcell) (.tok t 1 (some 5))])) t = some (.tail ((l.map bcell).length * 1)) := by
      rw [put_ne _ _ _ _ t4]; simpa using t3
    refine ACalls.of_code (X := { pure := pu0 }) pu0_ok Tryd.func21 (by kernel_rfl) rfl (by kernel_rfl) (Nat.le_of_ble_eq_true rfl) ?_
    simp -implicitDefEqProofs only [go_sem, tys, regs0, Nat.reduceEqDiff, Nat.reduceAdd, Nat.reduceLeDiff, Nat.reduceLT, Nat.reduceMul, Int.natCast_one, Int.natCast_zero, Int.reduceEq, Int.reduceLT, Int.reduceLE, Int.reduceAdd, Int.reduceSub, Int.reduceToNat, UInt8.reduceToNat, Tryd.f21]
    refine hc.next1 ?_
    simp -implicitDefEqProofs only [go_sem, tys, regs0, Nat.reduceEqDiff, Nat.reduceAdd, Nat.reduceLeDiff, Nat.reduceLT, Nat.reduceMul, Int.natCast_one, Int.natCast_zero, Int.reduceEq, Int.reduceLT, Int.reduceLE, Int.reduceAdd, Int.reduceSub, Int.reduceToNat, UInt8.reduceToNat, hm]
    refine app_tok' (e := tiU8) (bcell_len l) t5 (by simp at hl ⊢; omega) (by simp at hl ⊢; omega) (fun t' ht' => ?_)
    have n1 := (heap_none ht').1
    have n2 := (heap_none ht').2.1
    have n3 := (heap_none ht').2.2
    have n4 : H t' = none := by
      cases hh : H t' with
      | none => rfl
      | some x => have := h1 t' x hh; rw [n3] at this; cases this
    have n6 : ¬ b = t := fun e => t4 e.symm
    have n7 : H.Sub ((G.put b (.cells [bldP b, .sl (l.map bcell) (.tok t 1 (some 5))])).del t) := fun i o hi => by
      rw [del_ne (fun e => by subst e; rw [t2] at hi; cases hi)]
      exact h1.put' h2 _ i o hi
    simp -implicitDefEqProofs only [go_sem, tys, regs0, Nat.reduceEqDiff, Nat.reduceAdd, Nat.reduceLeDiff, Nat.reduceLT, Nat.reduceMul, Int.natCast_one, Int.natCast_zero, Int.reduceEq, Int.reduceLT, Int.reduceLE, Int.reduceAdd, Int.reduceSub, Int.reduceToNat, UInt8.reduceToNat, put_ne, n2, del_ne, n6]
    refine Done.now ⟨rfl, ⟨(n7.put' n4 _).put' h2 _, h2, _, _, put_same _ _ _, .inr rfl, .inr ⟨t', by rw [List.map_append], n4, ?_, n1, fun e => by simp [t9 e]⟩⟩, fun i o hi hb hk => ?_⟩
    · rw [put_ne _ _ _ _ n1, put_same]; simp
    · have n5 : ¬ i = t' := fun e => by subst e; rw [n3] at hi; cases hi
      have n8 : ¬ i = t := fun e => hk (by rw [htk, e])
      rw [put_ne _ _ _ _ hb, put_ne _ _ _ _ n5, del_ne n8, put_ne _ _ _ _ hb]; exact hi
theorem bldLen_calls {g : Bool} {H G : Heap} {b : Nat} {l : Bytes} (h : BldG g H G b l) : ACalls Tryd.prog 48 [bldP b] G fun x G' => x = .int .i64 l.length ∧ G' = G := by
  obtain ⟨h1, h2, p, buf, h3, h4, h5⟩ := h
  rcases h5 with ⟨rfl, rfl⟩ | ⟨t, rfl, t2, t3, t4, t9⟩
  · refine ACalls.of_code (X := { pure := pu0 }) pu0_ok Tryd.func48 (by kernel_rfl) rfl (by kernel_rfl) (Nat.le_of_ble_eq_true rfl) ?_
    simp -implicitDefEqProofs only [go_sem, tys, regs0, Nat.reduceEqDiff, Nat.reduceAdd, Nat.reduceLeDiff, Nat.reduceLT, Nat.reduceMul, Int.natCast_one, Int.natCast_zero, Int.reduceEq, Int.reduceLT, Int.reduceLE, Int.reduceAdd, Int.reduceSub, Int.reduceToNat, UInt8.reduceToNat, Tryd.f48, h3]
    exact Done.now ⟨rfl, rfl⟩
  · refine ACalls.of_code (X := { pure := pu0 }) pu0_ok Tryd.func48 (by kernel_rfl) rfl (by kernel_rfl) (Nat.le_of_ble_eq_true rfl) ?_
    simp -implicitDefEqProofs only [go_sem, tys, regs0, Nat.reduceEqDiff, Nat.reduceAdd, Nat.reduceLeDiff, Nat.reduceLT, Nat.reduceMul, Int.natCast_one, Int.natCast_zero, Int.reduceEq, Int.reduceLT, Int.reduceLE, Int.reduceAdd, Int.reduceSub, Int.reduceToNat, UInt8.reduceToNat, Tryd.f48, h3]
    exact Done.now ⟨rfl, rfl⟩
theorem bldString_calls {g : Bool} {H G : Heap} {b : Nat} {l : Bytes} (h : BldG g H G b l) (hl : l.length ≤ 140737488355328) (hg : g = true → l ≠ []) : ACalls Tryd.prog 22 [bldP b] G fun x G' => x = .str l ∧ G' = G := by
  obtain ⟨h1, h2, p, buf, h3, h4, h5⟩ := h
  rcases h5 with ⟨rfl, rfl⟩ | ⟨t, rfl, t2, t3, t4, t9⟩
  · refine ACalls.of_code (X := { pure := pu0 }) pu0_ok Tryd.func22 (by kernel_rfl) rfl (by kernel_rfl) (Nat.le_of_ble_eq_true rfl) ?_
    simp -implicitDefEqProofs only [go_sem, tys, regs0, Nat.reduceEqDiff, Nat.reduceAdd, Nat.reduceLeDiff, Nat.reduceLT, Nat.reduceMul, Int.natCast_one, Int.natCast_zero, Int.reduceEq, Int.reduceLT, Int.reduceLE, Int.reduceAdd, Int.reduceSub, Int.reduceToNat, UInt8.reduceToNat, Tryd.f22, h3]
    exact Done.now ⟨rfl, rfl⟩
  · have hm : l.map bcell = l.map fun b : UInt8 => [AV.int .u8 b.toNat] := rfl
    have hl0 : ¬ l = [] := by cases g with
      | true => exact hg rfl
      | false => exact t9 rfl
    refine ACalls.of_code (X := { pure := pu0 }) pu0_ok Tryd.func22 (by kernel_rfl) rfl (by kernel_rfl) (Nat.le_of_ble_eq_true rfl) ?_
    simp -implicitDefEqProofs only [go_sem, tys, regs0, Nat.reduceEqDiff, Nat.reduceAdd, Nat.reduceLeDiff, Nat.reduceLT, Nat.reduceMul, Int.natCast_one, Int.natCast_zero, Int.reduceEq, Int.reduceLT, Int.reduceLE, Int.reduceAdd, Int.reduceSub, Int.reduceToNat, UInt8.reduceToNat, Tryd.f22, h3, hm, hl0]
    exact ⟨by omega, Done.now ⟨rfl, rfl⟩⟩
theorem makeNoZero_calls {G : Heap} (n : Nat) (hn : n ≤ 140737488355328) : ACalls Tryd.prog 71 [.int .i64 n] G fun x G' => ∃ t, G t = none ∧ x = .rs t n 1 (some 5) ∧ G' = G.put t (.tail 0) :=
  Go.Abs.makeNoZero_calls (ps := #[3]) (t := 29) Tryd.func71 (by kernel_rfl) rfl (by kernel_rfl) (by kernel_rfl) (by kernel_rfl) n hn
/-- The orders of the region in which room is got. -/
def growOrd (n : Nat) : Option (List (List Nat)) := if n = 0 then some [[0, 1, 2, 3, 4, 5, 6, 7, 9, 10, 11, 8, 12, 13, 14, 15], [0, 1, 2, 3, 4, 5, 6, 7, 9, 10, 11, 12, 13, 8, 14, 15]] else none
theorem makeNoZero_k {G : Heap} (n : Nat) (hn : n ≤ 140737488355328) {K : K1} (hK : ∀ t, G t = none → K (.rs t n 1 (some 5)) (G.put t (.tail 0))) : ACalls Tryd.prog 71 [.int .i64 n] G K := by
  refine (makeNoZero_calls n hn).mono ?_
  rintro x G' ⟨t, h1, rfl, rfl⟩
  exact hK t h1
theorem bldgrow_calls {G : Heap} {b n : Nat} {p : AV} (h3 : G b = some (.cells [p, .snil])) (hn : n ≤ 140737488355328) :
    ACalls Tryd.prog 59 [bldP b, .int .i64 n] G fun x G' => x = .tup [] ∧ ∃ t, G t = none ∧ G' = (G.put t (.tail 0)).put b (.cells [p, .sl [] (.tok t 1 (some 5))]) := by
  have hw : IntKind.i64.wrap (n : Int) = n := Go.IntWalk.i64_in _ (by omega)
  have hw0 : IntKind.i64.wrap (2 * 0) = 0 := by decide
  have hw1 : IntKind.i64.wrap 0 = 0 := by decide
  refine ACalls.of_code (X := { pure := pu0, orders := growOrd }) pu0_ok Tryd.func59 (by kernel_rfl) rfl (by kernel_rfl) (Nat.le_of_ble_eq_true rfl) ?_
  simp -implicitDefEqProofs only [go_sem, tys, regs0, Nat.reduceEqDiff, Nat.reduceAdd, Nat.reduceLeDiff, Nat.reduceLT, Nat.reduceMul, Int.natCast_one, Int.natCast_zero, Int.reduceEq, Int.reduceLT, Int.reduceLE, Int.reduceAdd, Int.reduceSub, Int.reduceToNat, UInt8.reduceToNat, Tryd.f59]
  rw [acode_draw]
  intro ord hord
  simp only [List.mem_cons, List.not_mem_nil, or_false] at hord
  rcases hord with rfl | rfl
  all_goals rw [aops_order _ _ _ _ _ _ _ (by rfl)]
  all_goals simp -implicitDefEqProofs only [go_sem, tys, regs0, Nat.reduceEqDiff, Nat.reduceAdd, Nat.reduceLeDiff, Nat.reduceLT, Nat.reduceMul, Int.natCast_one, Int.natCast_zero, Int.reduceEq, Int.reduceLT, Int.reduceLE, Int.reduceAdd, Int.reduceSub, Int.reduceToNat, UInt8.reduceToNat, stripO, h3, hw, hw0, hw1, Int.mul_zero, Int.zero_add]
  all_goals refine makeNoZero_k n hn (fun t ht => ?_)
  all_goals have n1 : ¬ b = t := fun e => by subst e; rw [h3] at ht; cases ht
  all_goals simp -implicitDefEqProofs only [go_sem, tys, regs0, Nat.reduceEqDiff, Nat.reduceAdd, Nat.reduceLeDiff, Nat.reduceLT, Nat.reduceMul, Int.natCast_one, Int.natCast_zero, Int.reduceEq, Int.reduceLT, Int.reduceLE, Int.reduceAdd, Int.reduceSub, Int.reduceToNat, UInt8.reduceToNat, h3, put_ne, n1, Int.toNat_zero]
  all_goals exact Done.now ⟨rfl, t, ht, rfl⟩
/-- A fresh builder gets room. -/
theorem bldGrow_calls {H G : Heap} {b n : Nat} (hs : H.Sub G) (hb : H b = none) (h3 : G b = some (.cells [.nilp, .snil])) (hn : n ≤ 140737488355328) :
    ACalls Tryd.prog 47 [bldP b, .int .i64 n] G fun x G' => x = .tup [] ∧ BldG (!decide (n = 0)) H G' b [] ∧ BKept b G G' := by
  have hc := copyCheck_calls (b := b) (p := .nilp) (buf := .snil) (.inl rfl) h3
  have hw1 : IntKind.i64.wrap 0 = 0 := by decide
  have hd : decide ((n : Int) < 0) = false := by simp
  have hbk : BKept b G (G.put b (.cells [bldP b, .snil])) := fun i o hi hb _ => by rw [put_ne _ _ _ _ hb]; exact hi
  by_cases h0 : n = 0
  · subst h0
    refine ACalls.of_code (X := { pure := pu0 }) pu0_ok Tryd.func47 (by kernel_rfl) rfl (by kernel_rfl) (Nat.le_of_ble_eq_true rfl) ?_
    simp -implicitDefEqProofs only [go_sem, tys, regs0, Nat.reduceEqDiff, Nat.reduceAdd, Nat.reduceLeDiff, Nat.reduceLT, Nat.reduceMul, Int.natCast_one, Int.natCast_zero, Int.reduceEq, Int.reduceLT, Int.reduceLE, Int.reduceAdd, Int.reduceSub, Int.reduceToNat, UInt8.reduceToNat, Tryd.f47]
    refine hc.next1 ?_
    simp -implicitDefEqProofs only [go_sem, tys, regs0, Nat.reduceEqDiff, Nat.reduceAdd, Nat.reduceLeDiff, Nat.reduceLT, Nat.reduceMul, Int.natCast_one, Int.natCast_zero, Int.reduceEq, Int.reduceLT, Int.reduceLE, Int.reduceAdd, Int.reduceSub, Int.reduceToNat, UInt8.reduceToNat, hw1]
    exact Done.now ⟨rfl, ⟨hs.put' hb _, hb, _, _, put_same _ _ _, .inr rfl, .inl ⟨rfl, rfl⟩⟩, hbk⟩
  · have hd2 : decide ((0 : Int) < n) = true := by simp; omega
    refine ACalls.of_code (X := { pure := pu0 }) pu0_ok Tryd.func47 (by kernel_rfl) rfl (by kernel_rfl) (Nat.le_of_ble_eq_true rfl) ?_
    simp -implicitDefEqProofs only [go_sem, tys, regs0, Nat.reduceEqDiff, Nat.reduceAdd, Nat.reduceLeDiff, Nat.reduceLT, Nat.reduceMul, Int.natCast_one, Int.natCast_zero, Int.reduceEq, Int.reduceLT, Int.reduceLE, Int.reduceAdd, Int.reduceSub, Int.reduceToNat, UInt8.reduceToNat, Tryd.f47]
    refine hc.next1 ?_
    simp -implicitDefEqProofs only [go_sem, tys, regs0, Nat.reduceEqDiff, Nat.reduceAdd, Nat.reduceLeDiff, Nat.reduceLT, Nat.reduceMul, Int.natCast_one, Int.natCast_zero, Int.reduceEq, Int.reduceLT, Int.reduceLE, Int.reduceAdd, Int.reduceSub, Int.reduceToNat, UInt8.reduceToNat, hw1, hd, hd2]
    refine (bldgrow_calls (put_same _ _ _) hn).mono ?_
    rintro x G' ⟨rfl, t, ht, rfl⟩
    have n1 := (heap_none ht).1
    have n3 := (heap_none ht).2.2
    have n4 : H t = none := by
      cases hh : H t with
      | none => rfl
      | some x => have := hs t x hh; rw [n3] at this; cases this
    simp -implicitDefEqProofs only [go_sem, tys, regs0, Nat.reduceEqDiff, Nat.reduceAdd, Nat.reduceLeDiff, Nat.reduceLT, Nat.reduceMul, Int.natCast_one, Int.natCast_zero, Int.reduceEq, Int.reduceLT, Int.reduceLE, Int.reduceAdd, Int.reduceSub, Int.reduceToNat, UInt8.reduceToNat]
    refine Done.now ⟨rfl, ⟨((hs.put' hb _).put' n4 _).put' hb _, hb, _, _, put_same _ _ _, .inr rfl, .inr ⟨t, rfl, n4, by rw [put_ne _ _ _ _ n1, put_same]; rfl, n1, fun e => by simp [h0] at e⟩⟩, fun i o hi hb _ => ?_⟩
    have n5 : ¬ i = t := fun e => by subst e; rw [n3] at hi; cases hi
    rw [put_ne _ _ _ _ hb, put_ne _ _ _ _ n5, put_ne _ _ _ _ hb]; exact hi
/-! ### In passing -/
theorem writeString_k {g : Bool} {H G : Heap} {b : Nat} {l s : Bytes} (h : BldG g H G b l) (hl : l.length + s.length ≤ 140737488355328) {K : K1} (hK : ∀ G', BldG g H G' b (l ++ s) → BKept b G G' → K (.tup [.int .i64 s.length, .nilIface]) G') :
    ACalls Tryd.prog 21 [bldP b, .str s] G K := by
  refine (writeString_calls h hl).mono ?_
  rintro x G' ⟨rfl, h1, h2⟩
  exact hK G' h1 h2
theorem bldGrow_k {H G : Heap} {b n : Nat} (hs : H.Sub G) (hb : H b = none) (h3 : G b = some (.cells [.nilp, .snil])) (hn : n ≤ 140737488355328) {K : K1} (hK : ∀ G', BldG (!decide (n = 0)) H G' b [] → BKept b G G' → K (.tup []) G') :
    ACalls Tryd.prog 47 [bldP b, .int .i64 n] G K := by
  refine (bldGrow_calls hs hb h3 hn).mono ?_
  rintro x G' ⟨rfl, h1, h2⟩
  exact hK G' h1 h2
theorem bldString_k {g : Bool} {H G : Heap} {b : Nat} {l : Bytes} (h : BldG g H G b l) (hl : l.length ≤ 140737488355328) (hg : g = true → l ≠ []) {K : K1} (hK : K (.str l) G) : ACalls Tryd.prog 22 [bldP b] G K := (bldString_calls h hl hg).pure_next _ hK
theorem bldLen_k {g : Bool} {H G : Heap} {b : Nat} {l : Bytes} (h : BldG g H G b l) {K : K1} (hK : K (.int .i64 l.length) G) : ACalls Tryd.prog 48 [bldP b] G K := (bldLen_calls h).pure_next _ hK
end Go.Proofs

/- Walks: strings.Join with nothing between. -/
namespace Go.Proofs
open Go Go.Abs
set_option linter.unusedSimpArgs false
set_option linter.unusedVariables false
theorem flat_take {l : List Bytes} {i : Nat} {c : Bytes} (h : l[i]? = some c) : (l.take (i + 1)).flatten = (l.take i).flatten ++ c := by
  rw [List.take_add_one, h]; simp
theorem flat_take_le (l : List Bytes) (i : Nat) : (l.take i).flatten.length ≤ l.flatten.length := by
  conv => rhs; rw [← List.take_append_drop i l, List.flatten_append, List.length_append]
  omega
end Go.Proofs

/- Small things that many walks want. -/
namespace Go.Proofs
open Go Go.Abs
set_option linter.unusedSimpArgs false
set_option linter.unusedVariables false
set_option maxRecDepth 20000
theorem getD_get' {α : Type} {l : List α} {i : Nat} (h : i < l.length) : ∃ c, l[i]? = some c := ⟨l[i], List.getElem?_eq_getElem h⟩
theorem sub_none {H G : Heap} (h : H.Sub G) {i : Nat} (hi : G i = none) : H i = none := by
  cases hh : H i with
  | none => rfl
  | some x => have := h i x hh; rw [hi] at this; cases this
theorem some_if {c : Prop} [Decidable c] {a v : AV} (h : (if c then some a else none) = some v) : c ∧ a = v := by
  split at h
  · cases h; exact ⟨‹_›, rfl⟩
  · cases h
theorem encS_unif (l : List Bytes) : Unif 1 (l.map encS) := by
  intro c hc
  simp only [List.mem_map] at hc
  obtain ⟨b, _, rfl⟩ := hc
  rfl
def sJoin : List AV → Option AV := fn2 (Rd.list decS) .str fun l s => if s = [] ∧ l.length ≤ 1099511627776 ∧ l.flatten.length ≤ 140737488355328 then some (.str l.flatten) else none
theorem sJoin_eq (l : List Bytes) (t : Tail) (h : l.length ≤ 1099511627776) (h2 : l.flatten.length ≤ 140737488355328) : sJoin [.sl (l.map encS) t, .str []] = some (.str l.flatten) := by
  show ((Rd.list decS).rd (.sl (l.map encS) t)).bind _ = _
  rw [Rd.list_eq (enc := encS) decS_enc l t]
  simp only [Option.bind_some, Rd.str_eq]
  rw [if_pos ⟨trivial, h, h2⟩]
theorem landedD_calls (H : Heap) : ACalls Tryd.prog 4 [] H fun x H' => x = .bool true ∧ H' = H := by
  have hR : Room = 1099511627776 := rfl
  have hn : nameB [97] = true := by decide
  refine ACalls.of_code (X := { pure := puN }) puN_ok Tryd.func4 (by kernel_rfl) rfl (by kernel_rfl) (Nat.le_of_ble_eq_true rfl) ?_
  simp -implicitDefEqProofs only [go_sem, tys, regs0, Nat.reduceEqDiff, Nat.reduceAdd, Nat.reduceLeDiff, Nat.reduceLT, Nat.reduceMul, Int.natCast_one, Int.natCast_zero, Int.reduceEq, Int.reduceLT, Int.reduceLE, Int.reduceAdd, Int.reduceSub, Int.reduceToNat, UInt8.reduceToNat, Tryd.f4, puN, sStr_eq, hR, hn]
  exact Done.now ⟨rfl, rfl⟩
def sLandD : List AV → Option AV
  | [] => some (.bool true)
  | _ => none
theorem sLandD_ok : ∀ xs v, sLandD xs = some v → ∀ H, ACalls Tryd.prog 4 xs H fun x H' => x = v ∧ H' = H := by
  intro xs v hv H
  unfold sLandD at hv
  split at hv
  · cases hv; exact landedD_calls H
  · cases hv
end Go.Proofs

/- Walks: pieces are checked, on both sides. -/
namespace Go.Proofs
open Go Go.Abs
set_option linter.unusedSimpArgs false
set_option linter.unusedVariables false
theorem outside_calls (n a b : Int) (H : Heap) : ACalls Tryd.prog 38 [.int .i64 n, .int .i64 a, .int .i64 b] H fun x H' => x = .bool (decide (n < a) || decide (b < n)) ∧ H' = H := by
  refine ACalls.of_code (X := { pure := pu0 }) pu0_ok Tryd.func38 (by kernel_rfl) rfl (by kernel_rfl) (Nat.le_of_ble_eq_true rfl) ?_
  simp -implicitDefEqProofs only [go_sem, tys, regs0, Nat.reduceEqDiff, Nat.reduceAdd, Nat.reduceLeDiff, Nat.reduceLT, Nat.reduceMul, Int.natCast_one, Int.natCast_zero, Int.reduceEq, Int.reduceLT, Int.reduceLE, Int.reduceAdd, Int.reduceSub, Int.reduceToNat, UInt8.reduceToNat, Tryd.f38]
  simp +contextual -implicitDefEqProofs only [go_sem, gd_M, tys, regs0, Nat.reduceEqDiff, Nat.reduceAdd, Nat.reduceLeDiff, Nat.reduceLT, Nat.reduceMul, Int.natCast_one, Int.natCast_zero, Int.reduceEq, Int.reduceLT, Int.reduceLE, Int.reduceAdd, Int.reduceSub, Int.reduceToNat, UInt8.reduceToNat]
  exact Done.now ⟨rfl, rfl⟩
theorem pair_tup {s1 s2 a b : Int} (h : (s1, s2) = (a, b)) : AV.tup [.int .i64 a, .int .i64 b] = .tup [.int .i64 s1, .int .i64 s2] := by cases h; rfl
def sOut : List AV → Option AV := fn3 (.int .i64) (.int .i64) (.int .i64) fun n a b => some (.bool (decide (n < a) || decide (b < n)))
theorem sOut_eq (n a b : Int) : sOut [.int .i64 n, .int .i64 a, .int .i64 b] = some (.bool (decide (n < a) || decide (b < n))) := rfl
def puD1 : Pures := putP 38 sOut puM
theorem puD1_ok : PuOK Tryd.prog puD1 := by
  refine PuOK.put puM_ok ?_
  intro xs v hv H
  obtain ⟨x, y, z, p, q, r, rfl, h1, h2, h3, h4⟩ := fn3_some hv
  cases Rd.int_some h1; cases Rd.int_some h2; cases Rd.int_some h3; cases h4
  exact outside_calls _ _ _ H
set_option maxHeartbeats 1600000 in
theorem checkSteps_calls (l : List PieceV) (t : Tail) (old : Int) (H : Heap) (hl : l.length ≤ 1099511627776) (hr : ∀ p ∈ l, pcR p) (ho : inI old) :
    ACalls Tryd.prog 40 [.sl (l.map encPc) t, .int .i64 old] H fun x H' => x = .tup [.int .i64 (stepsV l old).1, .int .i64 (stepsV l old).2] ∧ H' = H := by
  have hS := stepsV.eq_1 l old
  generalize stepsV l old = sv at hS
  obtain ⟨s1, s2⟩ := sv
  refine ACalls.of_code (X := { pure := puD1 }) puD1_ok Tryd.func40 (by kernel_rfl) rfl (by kernel_rfl) (Nat.le_of_ble_eq_true rfl) ?_
  simp -implicitDefEqProofs only [go_sem, tys, regs0, Nat.reduceEqDiff, Nat.reduceAdd, Nat.reduceLeDiff, Nat.reduceLT, Nat.reduceMul, Int.natCast_one, Int.natCast_zero, Int.reduceEq, Int.reduceLT, Int.reduceLE, Int.reduceAdd, Int.reduceSub, Int.reduceToNat, UInt8.reduceToNat, Tryd.f40, puD1, sOut_eq]
  refine cnd_intro (fun h => ?_) (fun h => ?_)
  · have h' : old < 0 ∨ 65536 < old := by simpa using h
    rw [if_pos h'] at hS
    cases hS
    simp -implicitDefEqProofs only [go_sem, tys, regs0, Nat.reduceEqDiff, Nat.reduceAdd, Nat.reduceLeDiff, Nat.reduceLT, Nat.reduceMul, Int.natCast_one, Int.natCast_zero, Int.reduceEq, Int.reduceLT, Int.reduceLE, Int.reduceAdd, Int.reduceSub, Int.reduceToNat, UInt8.reduceToNat]
    exact Done.now ⟨rfl, rfl⟩
  have h' : ¬ (old < 0 ∨ 65536 < old) := by simpa using h
  rw [if_neg h'] at hS
  simp -implicitDefEqProofs only [go_sem, tys, regs0, Nat.reduceEqDiff, Nat.reduceAdd, Nat.reduceLeDiff, Nat.reduceLT, Nat.reduceMul, Int.natCast_one, Int.natCast_zero, Int.reduceEq, Int.reduceLT, Int.reduceLE, Int.reduceAdd, Int.reduceSub, Int.reduceToNat, UInt8.reduceToNat]
  refine cnd_intro (fun h2 => ?_) (fun h2 => ?_)
  · rw [if_pos (by simpa using h2)] at hS
    cases hS
    simp -implicitDefEqProofs only [go_sem, tys, regs0, Nat.reduceEqDiff, Nat.reduceAdd, Nat.reduceLeDiff, Nat.reduceLT, Nat.reduceMul, Int.natCast_one, Int.natCast_zero, Int.reduceEq, Int.reduceLT, Int.reduceLE, Int.reduceAdd, Int.reduceSub, Int.reduceToNat, UInt8.reduceToNat]
    exact Done.now ⟨rfl, rfl⟩
  have h2' : ¬ (5000 : Int) < l.length := by simpa using h2
  rw [if_neg h2'] at hS
  simp -implicitDefEqProofs only [go_sem, tys, regs0, Nat.reduceEqDiff, Nat.reduceAdd, Nat.reduceLeDiff, Nat.reduceLT, Nat.reduceMul, Int.natCast_one, Int.natCast_zero, Int.reduceEq, Int.reduceLT, Int.reduceLE, Int.reduceAdd, Int.reduceSub, Int.reduceToNat, UInt8.reduceToNat]
  refine aloop_intro (σ := Nat) (fun i => [(0, .sl (l.map encPc) t), (1, .int .i64 old), (6, .int .i64 (pcSum (l.take i))), (14, .sl (l.map encPc) t), (15, .int .i64 l.length), (16, .int .i64 i)])
    (fun i G => H.Sub G ∧ i ≤ l.length ∧ fst0 ((l.take i).map (pcE old)) = 0 ∧ 0 ≤ pcSum (l.take i) ∧ pcSum (l.take i) ≤ 4194304 * i) (fun i => l.length - i) 0 ?_ ?_ ?_
  · simp -implicitDefEqProofs only [go_sem, tys, regs0, Nat.reduceEqDiff, Nat.reduceAdd, Nat.reduceLeDiff, Nat.reduceLT, Nat.reduceMul, Int.natCast_one, Int.natCast_zero, Int.reduceEq, Int.reduceLT, Int.reduceLE, Int.reduceAdd, Int.reduceSub, Int.reduceToNat, UInt8.reduceToNat]
    simp [pcSum]
  · exact ⟨Heap.Sub.rfl' H, by omega, by simp [fst0], by simp [pcSum], by simp [pcSum]⟩
  · intro i r G hv hI
    have h0 := hv.1
    have h1 := hv.2.1
    have h6 := hv.2.2.1
    have h14 := hv.2.2.2.1
    have h15 := hv.2.2.2.2.1
    have h16 := hv.2.2.2.2.2.1
    have hB := hI.1
    have hi := hI.2.1
    have hz := hI.2.2.1
    have hs0 := hI.2.2.2.1
    have hs1 := hI.2.2.2.2
    clear hv hI
    simp -implicitDefEqProofs only [go_sem, tys, regs0, Nat.reduceEqDiff, Nat.reduceAdd, Nat.reduceLeDiff, Nat.reduceLT, Nat.reduceMul, Int.natCast_one, Int.natCast_zero, Int.reduceEq, Int.reduceLT, Int.reduceLE, Int.reduceAdd, Int.reduceSub, Int.reduceToNat, UInt8.reduceToNat, h0, h1, h6, h14, h15, h16]
    refine cnd_intro (fun h => ?_) (fun h => ?_)
    · simp only [decide_eq_true_eq] at h
      obtain ⟨p, hp⟩ : ∃ p, l[i]? = some p := getD_get' (by omega)
      have hrp := hr p (List.mem_of_getElem? hp)
      have he : (l.map (pcE old))[i]? = some (pcE old p) := by rw [List.getElem?_map, hp]; rfl
      rw [List.map_take] at hz
      have f1 := fst0_at hz he
      have f2 := fst0_succ hz he
      rw [← List.map_take] at f2
      have f3 := pcSum_succ hp
      have f4 := pcSize_ok hrp (by omega : old ≤ 65536)
      simp -implicitDefEqProofs only [go_sem, tys, regs0, Nat.reduceEqDiff, Nat.reduceAdd, Nat.reduceLeDiff, Nat.reduceLT, Nat.reduceMul, Int.natCast_one, Int.natCast_zero, Int.reduceEq, Int.reduceLT, Int.reduceLE, Int.reduceAdd, Int.reduceSub, Int.reduceToNat, UInt8.reduceToNat, h0, h1, h6, h14, h15, h16, hp, encPc]
      with_reducible refine nwC_intro fun id hid => ?_
      have hid2 := sub_none hB hid
      have hi5 : i ≤ 5000 := by omega
      have hpe := pcE.eq_1 old p
      have hps := pcSize.eq_1 p
      have r1 := hrp.1
      have r2 := hrp.2.1
      have r3 := hrp.2.2
      unfold inI at r1 r2
      generalize pcE old p = pe at *
      generalize pcSize p = ps at *
      simp +contextual -implicitDefEqProofs only [go_sem, gd_M, tys, regs0, Nat.reduceEqDiff, Nat.reduceAdd, Nat.reduceLeDiff, Nat.reduceLT, Nat.reduceMul, Int.natCast_one, Int.natCast_zero, Int.reduceEq, Int.reduceLT, Int.reduceLE, Int.reduceAdd, Int.reduceSub, Int.reduceToNat, UInt8.reduceToNat, h0, h1, h6, h14, h15, h16]
      refine cnd_intro (fun g => ?_) (fun g => ?_)
      · simp only [decide_eq_true_eq] at g
        rw [if_pos g] at hpe hps
        simp +contextual -implicitDefEqProofs only [go_sem, gd_M, tys, regs0, Nat.reduceEqDiff, Nat.reduceAdd, Nat.reduceLeDiff, Nat.reduceLT, Nat.reduceMul, Int.natCast_one, Int.natCast_zero, Int.reduceEq, Int.reduceLT, Int.reduceLE, Int.reduceAdd, Int.reduceSub, Int.reduceToNat, UInt8.reduceToNat, h0, h1, h6, h14, h15, h16]
        refine cnd_intro (fun g2 => ?_) (fun g2 => ?_)
        · rw [if_pos (by simpa using g2)] at hpe
          rw [f1 (by omega), if_pos (by omega), hpe] at hS
          simp +contextual -implicitDefEqProofs only [go_sem, gd_M, tys, regs0, Nat.reduceEqDiff, Nat.reduceAdd, Nat.reduceLeDiff, Nat.reduceLT, Nat.reduceMul, Int.natCast_one, Int.natCast_zero, Int.reduceEq, Int.reduceLT, Int.reduceLE, Int.reduceAdd, Int.reduceSub, Int.reduceToNat, UInt8.reduceToNat, h0, h1, h6, h14, h15, h16]
          exact Done.drop (hB.put' hid2 _) ⟨pair_tup hS, rfl⟩
        · rw [if_neg (by simpa using g2)] at hpe
          have f5 := f4 hpe
          simp +contextual -implicitDefEqProofs (disch := omega) only [go_sem, gd_M, tys, regs0, Nat.reduceEqDiff, Nat.reduceAdd, Nat.reduceLeDiff, Nat.reduceLT, Nat.reduceMul, Int.natCast_one, Int.natCast_zero, Int.reduceEq, Int.reduceLT, Int.reduceLE, Int.reduceAdd, Int.reduceSub, Int.reduceToNat, UInt8.reduceToNat, Go.IntWalk.i64_in, h0, h1, h6, h14, h15, h16]
          exact Again.mk (i + 1) (by simp -implicitDefEqProofs only [go_sem, tys, regs0, Nat.reduceEqDiff, Nat.reduceAdd, Nat.reduceLeDiff, Nat.reduceLT, Nat.reduceMul, Int.natCast_one, Int.natCast_zero, Int.reduceEq, Int.reduceLT, Int.reduceLE, Int.reduceAdd, Int.reduceSub, Int.reduceToNat, UInt8.reduceToNat, h0, h1, h6, h14, h15, h16, f3, hps]; simp) ⟨hB.put' hid2 _, by omega, f2 hpe, by omega, by omega⟩ (by omega)
      · simp only [decide_eq_false_iff_not] at g
        rw [if_neg g] at hpe hps
        have hw : 1 ≤ p.long → p.long ≤ old → IntKind.i64.wrap (old - p.long) = old - p.long := fun e1 e2 => Go.IntWalk.i64_in _ (by omega)
        simp +contextual -implicitDefEqProofs only [go_sem, gd_M, tys, regs0, Nat.reduceEqDiff, Nat.reduceAdd, Nat.reduceLeDiff, Nat.reduceLT, Nat.reduceMul, Int.natCast_one, Int.natCast_zero, Int.reduceEq, Int.reduceLT, Int.reduceLE, Int.reduceAdd, Int.reduceSub, Int.reduceToNat, UInt8.reduceToNat, h0, h1, h6, h14, h15, h16]
        refine cnd_intro (fun g2 => ?_) (fun g2 => ?_)
        · have g3 : p.at_ < 0 ∨ p.long < 1 ∨ old < p.long ∨ old - p.long < p.at_ := by
            simp only [Bool.or_eq_true, decide_eq_true_eq] at g2
            by_cases e1 : 1 ≤ p.long
            · by_cases e2 : p.long ≤ old
              · rw [hw e1 e2] at g2; omega
              · omega
            · omega
          rw [if_pos g3] at hpe
          rw [f1 (by omega), if_pos (by omega), hpe] at hS
          simp +contextual -implicitDefEqProofs only [go_sem, gd_M, tys, regs0, Nat.reduceEqDiff, Nat.reduceAdd, Nat.reduceLeDiff, Nat.reduceLT, Nat.reduceMul, Int.natCast_one, Int.natCast_zero, Int.reduceEq, Int.reduceLT, Int.reduceLE, Int.reduceAdd, Int.reduceSub, Int.reduceToNat, UInt8.reduceToNat, h0, h1, h6, h14, h15, h16]
          exact Done.drop (hB.put' hid2 _) ⟨pair_tup hS, rfl⟩
        · have g3 : ¬ (p.at_ < 0 ∨ p.long < 1 ∨ old < p.long ∨ old - p.long < p.at_) := by
            simp only [Bool.or_eq_false_iff, decide_eq_false_iff_not] at g2
            have := hw (by omega) (by omega)
            rw [this] at g2
            omega
          rw [if_neg g3] at hpe
          have f5 := f4 hpe
          simp +contextual -implicitDefEqProofs (disch := omega) only [go_sem, gd_M, tys, regs0, Nat.reduceEqDiff, Nat.reduceAdd, Nat.reduceLeDiff, Nat.reduceLT, Nat.reduceMul, Int.natCast_one, Int.natCast_zero, Int.reduceEq, Int.reduceLT, Int.reduceLE, Int.reduceAdd, Int.reduceSub, Int.reduceToNat, UInt8.reduceToNat, Go.IntWalk.i64_in, h0, h1, h6, h14, h15, h16]
          exact Again.mk (i + 1) (by simp -implicitDefEqProofs only [go_sem, tys, regs0, Nat.reduceEqDiff, Nat.reduceAdd, Nat.reduceLeDiff, Nat.reduceLT, Nat.reduceMul, Int.natCast_one, Int.natCast_zero, Int.reduceEq, Int.reduceLT, Int.reduceLE, Int.reduceAdd, Int.reduceSub, Int.reduceToNat, UInt8.reduceToNat, h0, h1, h6, h14, h15, h16, f3, hps]; simp) ⟨hB.put' hid2 _, by omega, f2 hpe, by omega, by omega⟩ (by omega)
    · simp only [decide_eq_false_iff_not] at h
      have e : i = l.length := by omega
      subst e
      rw [List.take_length] at h6 hs0 hs1 hz
      rw [if_neg (by simp [hz])] at hS
      simp -implicitDefEqProofs only [go_sem, tys, regs0, Nat.reduceEqDiff, Nat.reduceAdd, Nat.reduceLeDiff, Nat.reduceLT, Nat.reduceMul, Int.natCast_one, Int.natCast_zero, Int.reduceEq, Int.reduceLT, Int.reduceLE, Int.reduceAdd, Int.reduceSub, Int.reduceToNat, UInt8.reduceToNat, h0, h1, h6, h14, h15, h16]
      refine cnd_intro (fun g => ?_) (fun g => ?_)
      · rw [if_pos (by simpa using g)] at hS
        simp -implicitDefEqProofs only [go_sem, tys, regs0, Nat.reduceEqDiff, Nat.reduceAdd, Nat.reduceLeDiff, Nat.reduceLT, Nat.reduceMul, Int.natCast_one, Int.natCast_zero, Int.reduceEq, Int.reduceLT, Int.reduceLE, Int.reduceAdd, Int.reduceSub, Int.reduceToNat, UInt8.reduceToNat, h0, h1, h6]
        exact Done.drop hB ⟨pair_tup hS, rfl⟩
      · rw [if_neg (by simpa using g)] at hS
        simp -implicitDefEqProofs only [go_sem, tys, regs0, Nat.reduceEqDiff, Nat.reduceAdd, Nat.reduceLeDiff, Nat.reduceLT, Nat.reduceMul, Int.natCast_one, Int.natCast_zero, Int.reduceEq, Int.reduceLT, Int.reduceLE, Int.reduceAdd, Int.reduceSub, Int.reduceToNat, UInt8.reduceToNat, h0, h1, h6]
        exact Done.drop hB ⟨pair_tup hS, rfl⟩
end Go.Proofs

/- Walks: deltas are compared. -/
namespace Go.Proofs
open Go Go.Abs
set_option linter.unusedSimpArgs false
set_option linter.unusedVariables false
theorem eqPc_calls_ne (cx cy : Bool) (a b : PieceV) : bin Tryd.prog .neq 35 cx cy (.agg (encPc a)) (.agg (encPc b)) = some (.bool (decide ¬ a = b)) := by
  have h : eqT Tryd.prog 6 35 (.agg (encPc a)) (.agg (encPc b)) = some (decide (a = b)) := by
    obtain ⟨xa, xl, xd⟩ := a
    obtain ⟨ya, yl, yd⟩ := b
    simp only [encPc, eqT, eqFields, tys, readC, TD.agg, if_true, List.drop_zero, List.drop_succ_cons, List.head?_cons, Bool.false_eq_true, if_false, Option.some.injEq, Bool.and_true]
    rw [Bool.eq_iff_iff]
    simp [PieceV.mk.injEq]
  have e : eqA Tryd.prog 35 cx cy (.agg (encPc a)) (.agg (encPc b)) = some (decide (a = b)) := by
    unfold eqA
    simp only [tys, if_true]
    exact h
  show (eqA Tryd.prog 35 cx cy (.agg (encPc a)) (.agg (encPc b))).map (fun b => AV.bool (!b)) = _
  rw [e]
  simp
theorem eqPc_calls (a b : List PieceV) (t t' : Tail) (H : Heap) (ha : a.length ≤ 1099511627776) : ACalls Tryd.prog 29 [.sl (a.map encPc) t, .sl (b.map encPc) t'] H fun x H' => x = .bool (decide (a = b)) ∧ H' = H := by
  by_cases hl : ¬ a.length = b.length
  · have d1 : decide (¬ (a.length : Int) = b.length) = true := by simp; omega
    refine ACalls.of_code (X := { pure := pu0 }) pu0_ok Tryd.func29 (by kernel_rfl) rfl (by kernel_rfl) (Nat.le_of_ble_eq_true rfl) ?_
    simp -implicitDefEqProofs only [go_sem, tys, regs0, Nat.reduceEqDiff, Nat.reduceAdd, Nat.reduceLeDiff, Nat.reduceLT, Nat.reduceMul, Int.natCast_one, Int.natCast_zero, Int.reduceEq, Int.reduceLT, Int.reduceLE, Int.reduceAdd, Int.reduceSub, Int.reduceToNat, UInt8.reduceToNat, Tryd.f29, d1]
    refine Done.now ⟨?_, rfl⟩
    have : ¬ a = b := fun e => hl (by rw [e])
    simp [this]
  · have hl : a.length = b.length := Decidable.not_not.1 hl
    have d1 : decide (¬ (a.length : Int) = b.length) = false := by simp; omega
    refine ACalls.of_code (X := { pure := pu0 }) pu0_ok Tryd.func29 (by kernel_rfl) rfl (by kernel_rfl) (Nat.le_of_ble_eq_true rfl) ?_
    simp -implicitDefEqProofs only [go_sem, tys, regs0, Nat.reduceEqDiff, Nat.reduceAdd, Nat.reduceLeDiff, Nat.reduceLT, Nat.reduceMul, Int.natCast_one, Int.natCast_zero, Int.reduceEq, Int.reduceLT, Int.reduceLE, Int.reduceAdd, Int.reduceSub, Int.reduceToNat, UInt8.reduceToNat, Tryd.f29, d1]
    refine aloop_intro (σ := Nat) (fun i => [(0, .sl (a.map encPc) t), (1, .sl (b.map encPc) t'), (12, .int .i64 a.length), (13, .int .i64 i)])
      (fun i G => G = H ∧ i ≤ a.length ∧ a.take i = b.take i) (fun i => a.length - i) 0 ?_ ?_ ?_
    · simp -implicitDefEqProofs only [go_sem, tys, regs0, Nat.reduceEqDiff, Nat.reduceAdd, Nat.reduceLeDiff, Nat.reduceLT, Nat.reduceMul, Int.natCast_one, Int.natCast_zero, Int.reduceEq, Int.reduceLT, Int.reduceLE, Int.reduceAdd, Int.reduceSub, Int.reduceToNat, UInt8.reduceToNat]
    · simp
    · intro i r G hv hI
      have h0 := hv.1
      have h1 := hv.2.1
      have h12 := hv.2.2.1
      have h13 := hv.2.2.2.1
      have hG := hI.1.symm
      have hi := hI.2.1
      have hp := hI.2.2
      clear hv hI
      subst hG
      simp -implicitDefEqProofs only [go_sem, tys, regs0, Nat.reduceEqDiff, Nat.reduceAdd, Nat.reduceLeDiff, Nat.reduceLT, Nat.reduceMul, Int.natCast_one, Int.natCast_zero, Int.reduceEq, Int.reduceLT, Int.reduceLE, Int.reduceAdd, Int.reduceSub, Int.reduceToNat, UInt8.reduceToNat, h0, h1, h12, h13]
      refine cnd_intro (fun h => ?_) (fun h => ?_)
      · simp only [decide_eq_true_eq] at h
        obtain ⟨x, hx⟩ := get_some (l := a) (i := i) (by omega)
        obtain ⟨y, hy⟩ := get_some (l := b) (i := i) (by omega)
        have ht := take_eq_succ hx hy
        have hn := fun cx cy => eqPc_calls_ne cx cy x y
        obtain ⟨xa, xl, xd⟩ := x
        obtain ⟨ya, yl, yd⟩ := y
        simp only [encPc] at hn
        simp -implicitDefEqProofs only [go_sem, tys, regs0, Nat.reduceEqDiff, Nat.reduceAdd, Nat.reduceLeDiff, Nat.reduceLT, Nat.reduceMul, Int.natCast_one, Int.natCast_zero, Int.reduceEq, Int.reduceLT, Int.reduceLE, Int.reduceAdd, Int.reduceSub, Int.reduceToNat, UInt8.reduceToNat, h0, h1, h12, h13, hx, hy, encPc, hn]
        refine cnd_intro (fun g => ?_) (fun g => ?_)
        · simp -implicitDefEqProofs only [go_sem, tys, regs0, Nat.reduceEqDiff, Nat.reduceAdd, Nat.reduceLeDiff, Nat.reduceLT, Nat.reduceMul, Int.natCast_one, Int.natCast_zero, Int.reduceEq, Int.reduceLT, Int.reduceLE, Int.reduceAdd, Int.reduceSub, Int.reduceToNat, UInt8.reduceToNat]
          refine Done.now ⟨?_, rfl⟩
          have : ¬ a = b := fun e => by subst e; rw [hx] at hy; cases hy; simp at g
          simp [this]
        · simp -implicitDefEqProofs (disch := omega) only [go_sem, tys, regs0, Nat.reduceEqDiff, Nat.reduceAdd, Nat.reduceLeDiff, Nat.reduceLT, Nat.reduceMul, Int.natCast_one, Int.natCast_zero, Int.reduceEq, Int.reduceLT, Int.reduceLE, Int.reduceAdd, Int.reduceSub, Int.reduceToNat, UInt8.reduceToNat, Go.IntWalk.i64_in, h0, h1, h12, h13]
          simp only [decide_eq_false_iff_not, Decidable.not_not] at g
          exact Again.mk (i + 1) (by simp -implicitDefEqProofs only [go_sem, tys, regs0, Nat.reduceEqDiff, Nat.reduceAdd, Nat.reduceLeDiff, Nat.reduceLT, Nat.reduceMul, Int.natCast_one, Int.natCast_zero, Int.reduceEq, Int.reduceLT, Int.reduceLE, Int.reduceAdd, Int.reduceSub, Int.reduceToNat, UInt8.reduceToNat, h0, h1, h12, h13]; exact rfl) ⟨rfl, by omega, ht.2 ⟨hp, g⟩⟩ (by omega)
      · simp only [decide_eq_false_iff_not] at h
        have e : i = a.length := by omega
        rw [e, List.take_length, hl, List.take_length] at hp
        simp -implicitDefEqProofs only [go_sem, tys, regs0, Nat.reduceEqDiff, Nat.reduceAdd, Nat.reduceLeDiff, Nat.reduceLT, Nat.reduceMul, Int.natCast_one, Int.natCast_zero, Int.reduceEq, Int.reduceLT, Int.reduceLE, Int.reduceAdd, Int.reduceSub, Int.reduceToNat, UInt8.reduceToNat]
        exact Done.now ⟨by simp [hp], rfl⟩

end Go.Proofs

/- Walks: deltas are checked. -/
namespace Go.Proofs
open Go Go.Abs
set_option linter.unusedSimpArgs false
set_option linter.unusedVariables false
def sSteps : List AV → Option AV := fn2 (Rd.list decPc) (.int .i64) fun l old => if psR l ∧ inI old then some (.tup [.int .i64 (stepsV l old).1, .int .i64 (stepsV l old).2]) else none
theorem sSteps_eq (l : List PieceV) (t : Tail) (old : Int) (h : psR l) (h2 : inI old) : sSteps [.sl (l.map encPc) t, .int .i64 old] = some (.tup [.int .i64 (stepsV l old).1, .int .i64 (stepsV l old).2]) := by
  show ((Rd.list decPc).rd (.sl (l.map encPc) t)).bind _ = _
  rw [Rd.list_eq (enc := encPc) decPc_enc l t]
  simp only [Option.bind_some, Rd.int_eq, if_pos (And.intro h h2)]
theorem sSteps_ok {P : Program} {f : FuncId} (h : ∀ l t old H, psR l → inI old → ACalls P f [.sl (l.map encPc) t, .int .i64 old] H fun x H' => x = .tup [.int .i64 (stepsV l old).1, .int .i64 (stepsV l old).2] ∧ H' = H) : ∀ xs v, sSteps xs = some v → ∀ H, ACalls P f xs H fun x H' => x = v ∧ H' = H := by
  intro xs v hv H
  obtain ⟨x, y, p, q, rfl, h1, h2, h3⟩ := fn2_some hv
  split at h3
  · rename_i hh
    cases h3
    obtain ⟨t, rfl⟩ := Rd.list_some (enc := encPc) (fun _ _ => decPc_some) h1
    cases Rd.int_some h2
    exact h p t q H hh.1 hh.2
  · cases h3
def sEqPc : List AV → Option AV := fn2 (Rd.list decPc) (Rd.list decPc) fun a b => if a.length ≤ 1099511627776 then some (.bool (decide (a = b))) else none
theorem sEqPc_eq (a b : List PieceV) (t t' : Tail) (h : a.length ≤ 1099511627776) : sEqPc [.sl (a.map encPc) t, .sl (b.map encPc) t'] = some (.bool (decide (a = b))) := by
  show ((Rd.list decPc).rd (.sl (a.map encPc) t)).bind _ = _
  rw [Rd.list_eq (enc := encPc) decPc_enc a t]
  show ((Rd.list decPc).rd (.sl (b.map encPc) t')).bind _ = _
  rw [Rd.list_eq (enc := encPc) decPc_enc b t']
  simp only [Option.bind_some, if_pos h]
theorem sEqPc_ok : ∀ xs v, sEqPc xs = some v → ∀ H, ACalls Tryd.prog 29 xs H fun x H' => x = v ∧ H' = H := by
  intro xs v hv H
  obtain ⟨x, y, p, q, rfl, h1, h2, h3⟩ := fn2_some hv
  split at h3
  · cases h3
    obtain ⟨t, rfl⟩ := Rd.list_some (enc := encPc) (fun _ _ => decPc_some) h1
    obtain ⟨t', rfl⟩ := Rd.list_some (enc := encPc) (fun _ _ => decPc_some) h2
    exact eqPc_calls _ _ _ _ H ‹_›
  · cases h3
def puD2 : Pures := putP 29 sEqPc (putP 40 sSteps puD1)
theorem puD2_ok : PuOK Tryd.prog puD2 := .put (.put (puD1_ok) (sSteps_ok fun l t old H h1 h2 => checkSteps_calls l t old H h1.1 h1.2 h2)) sEqPc_ok
set_option maxHeartbeats 1600000 in
theorem dCheck_calls (d : DeltaV) (t : Tail) (H : Heap) (hr : dlR d) : ACalls Tryd.prog 20 [.agg (encDl d t)] H fun x H' => x = .int .i64 (deltaE d) ∧ H' = H := by
  have hE := deltaE.eq_1 d
  obtain ⟨h1, h2, h3, h4, h5⟩ := hr
  have hs := fun t => sSteps_eq d.ps t d.old h5 h1
  generalize deltaE d = de at *
  generalize stepsV d.ps d.old = sv at *
  obtain ⟨s1, s2⟩ := sv
  obtain ⟨o, n, a, b, l⟩ := d
  simp only at hE h1 h2 h3 h4 h5 hs
  refine ACalls.of_code (X := { pure := puD2 }) puD2_ok Tryd.func20 (by kernel_rfl) rfl (by kernel_rfl) (Nat.le_of_ble_eq_true rfl) ?_
  simp -implicitDefEqProofs only [go_sem, tys, regs0, Nat.reduceEqDiff, Nat.reduceAdd, Nat.reduceLeDiff, Nat.reduceLT, Nat.reduceMul, Int.natCast_one, Int.natCast_zero, Int.reduceEq, Int.reduceLT, Int.reduceLE, Int.reduceAdd, Int.reduceSub, Int.reduceToNat, UInt8.reduceToNat, Tryd.f20, encDl]
  with_reducible refine nwC_intro fun id hid => ?_
  simp +contextual -implicitDefEqProofs only [go_sem, gd_M, tys, regs0, Nat.reduceEqDiff, Nat.reduceAdd, Nat.reduceLeDiff, Nat.reduceLT, Nat.reduceMul, Int.natCast_one, Int.natCast_zero, Int.reduceEq, Int.reduceLT, Int.reduceLE, Int.reduceAdd, Int.reduceSub, Int.reduceToNat, UInt8.reduceToNat, puD2, puD1, puM, puN, sOut_eq, sStr_eq, h3, h4, hs]
  refine cnd_intro (fun g => ?_) (fun g => ?_)
  · rw [if_pos (by simp only [Bool.or_eq_true, decide_eq_true_eq] at g; omega)] at hE
    simp +contextual -implicitDefEqProofs only [go_sem, gd_M, tys, regs0, Nat.reduceEqDiff, Nat.reduceAdd, Nat.reduceLeDiff, Nat.reduceLT, Nat.reduceMul, Int.natCast_one, Int.natCast_zero, Int.reduceEq, Int.reduceLT, Int.reduceLE, Int.reduceAdd, Int.reduceSub, Int.reduceToNat, UInt8.reduceToNat]
    exact Done.drop1 hid ⟨by rw [hE], rfl⟩
  rw [if_neg (by simp only [Bool.or_eq_false_iff, decide_eq_false_iff_not] at g; omega)] at hE
  simp +contextual -implicitDefEqProofs only [go_sem, gd_M, tys, regs0, Nat.reduceEqDiff, Nat.reduceAdd, Nat.reduceLeDiff, Nat.reduceLT, Nat.reduceMul, Int.natCast_one, Int.natCast_zero, Int.reduceEq, Int.reduceLT, Int.reduceLE, Int.reduceAdd, Int.reduceSub, Int.reduceToNat, UInt8.reduceToNat, puD2, puD1, puM, puN, sOut_eq, sStr_eq, h3, h4, hs]
  refine cnd_intro (fun g2 => ?_) (fun g2 => ?_)
  · rw [if_pos (by simpa using g2)] at hE
    simp +contextual -implicitDefEqProofs only [go_sem, gd_M, tys, regs0, Nat.reduceEqDiff, Nat.reduceAdd, Nat.reduceLeDiff, Nat.reduceLT, Nat.reduceMul, Int.natCast_one, Int.natCast_zero, Int.reduceEq, Int.reduceLT, Int.reduceLE, Int.reduceAdd, Int.reduceSub, Int.reduceToNat, UInt8.reduceToNat]
    exact Done.drop1 hid ⟨by rw [hE], rfl⟩
  rw [if_neg (by simpa using g2)] at hE
  simp +contextual -implicitDefEqProofs only [go_sem, gd_M, tys, regs0, Nat.reduceEqDiff, Nat.reduceAdd, Nat.reduceLeDiff, Nat.reduceLT, Nat.reduceMul, Int.natCast_one, Int.natCast_zero, Int.reduceEq, Int.reduceLT, Int.reduceLE, Int.reduceAdd, Int.reduceSub, Int.reduceToNat, UInt8.reduceToNat, puD2, puD1, puM, puN, sOut_eq, sStr_eq, h3, h4, hs]
  refine cnd_intro (fun g3 => ?_) (fun g3 => ?_)
  · simp only [Bool.and_eq_true, decide_eq_true_eq] at g3
    rw [if_neg (by omega), if_pos g3.2] at hE
    simp +contextual -implicitDefEqProofs only [go_sem, gd_M, tys, regs0, Nat.reduceEqDiff, Nat.reduceAdd, Nat.reduceLeDiff, Nat.reduceLT, Nat.reduceMul, Int.natCast_one, Int.natCast_zero, Int.reduceEq, Int.reduceLT, Int.reduceLE, Int.reduceAdd, Int.reduceSub, Int.reduceToNat, UInt8.reduceToNat]
    exact Done.drop1 hid ⟨by rw [hE], rfl⟩
  · have hE' : de = s2 := by
      by_cases e : s2 = 0
      · have : s1 = n := by simpa [e] using g3
        rw [if_neg (by omega), if_neg (by omega)] at hE; omega
      · rw [if_pos e] at hE; exact hE
    simp +contextual -implicitDefEqProofs only [go_sem, gd_M, tys, regs0, Nat.reduceEqDiff, Nat.reduceAdd, Nat.reduceLeDiff, Nat.reduceLT, Nat.reduceMul, Int.natCast_one, Int.natCast_zero, Int.reduceEq, Int.reduceLT, Int.reduceLE, Int.reduceAdd, Int.reduceSub, Int.reduceToNat, UInt8.reduceToNat]
    exact Done.drop1 hid ⟨by rw [hE'], rfl⟩
set_option maxHeartbeats 1600000 in
theorem sameDelta_calls (a b : DeltaV) (t t' : Tail) (H : Heap) (hr : a.ps.length ≤ 1099511627776) : ACalls Tryd.prog 14 [.agg (encDl a t), .agg (encDl b t')] H fun x H' => x = .bool (decide (a = b)) ∧ H' = H := by
  have hs := fun t t' => sEqPc_eq a.ps b.ps t t' hr
  obtain ⟨o, n, os, ns, l⟩ := a
  obtain ⟨o', n', os', ns', l'⟩ := b
  simp only at hs
  refine ACalls.of_code (X := { pure := puD2 }) puD2_ok Tryd.func14 (by kernel_rfl) rfl (by kernel_rfl) (Nat.le_of_ble_eq_true rfl) ?_
  simp -implicitDefEqProofs only [go_sem, tys, regs0, Nat.reduceEqDiff, Nat.reduceAdd, Nat.reduceLeDiff, Nat.reduceLT, Nat.reduceMul, Int.natCast_one, Int.natCast_zero, Int.reduceEq, Int.reduceLT, Int.reduceLE, Int.reduceAdd, Int.reduceSub, Int.reduceToNat, UInt8.reduceToNat, Tryd.f14, encDl]
  with_reducible refine nwC_intro fun id hid => ?_
  simp +contextual -implicitDefEqProofs only [go_sem, gd_M, tys, regs0, Nat.reduceEqDiff, Nat.reduceAdd, Nat.reduceLeDiff, Nat.reduceLT, Nat.reduceMul, Int.natCast_one, Int.natCast_zero, Int.reduceEq, Int.reduceLT, Int.reduceLE, Int.reduceAdd, Int.reduceSub, Int.reduceToNat, UInt8.reduceToNat]
  with_reducible refine nwC_intro fun id2 hid2 => ?_
  have n1 := (heap_none hid2).1
  have n2 := (heap_none hid2).2.1
  have n3 := (heap_none hid2).2.2
  simp +contextual -implicitDefEqProofs only [go_sem, gd_M, tys, regs0, Nat.reduceEqDiff, Nat.reduceAdd, Nat.reduceLeDiff, Nat.reduceLT, Nat.reduceMul, Int.natCast_one, Int.natCast_zero, Int.reduceEq, Int.reduceLT, Int.reduceLE, Int.reduceAdd, Int.reduceSub, Int.reduceToNat, UInt8.reduceToNat, puD2, hs, put_ne, n1, n2]
  refine Done.drop2 hid n3 ⟨?_, rfl⟩
  congr 1
  rw [Bool.eq_iff_iff]
  simp [DeltaV.mk.injEq, and_assoc]
end Go.Proofs

/- Walks: what pieces make, both sides. -/
namespace Go.Proofs
open Go Go.Abs
set_option linter.unusedSimpArgs false
set_option linter.unusedVariables false
theorem take_len_le {l : List PieceV} {old : Int} {a : Bytes} (ha : (a.length : Int) = old) (hr : ∀ p ∈ l, pcR p) (h : ∀ p ∈ l, pcE old p = 0) (ho : old ≤ 65536) (i : Nat) : (madeV a (l.take i)).length ≤ 4194304 * i := by
  induction i with
  | zero => simp [madeV]
  | succ i ih =>
    cases hp : l[i]? with
    | none =>
      rw [List.take_add_one, hp]; simp; omega
    | some p =>
      have hm := List.mem_of_getElem? hp
      rw [madeV_succ hp, List.length_append]
      have h1 := pcMade_len (a := a) (p := p) (by rw [ha]; exact h p hm)
      have h2 := pcSize_ok (hr p hm) ho (h p hm)
      omega
end Go.Proofs

/- Pieces of which neighbours are joined: plain Lean, no program. -/
namespace Go.Proofs
open Go Go.Abs
set_option linter.unusedSimpArgs false
set_option linter.unusedVariables false
def pcMerge (p n : PieceV) : Option PieceV :=
  if p.data = [] ∧ n.data = [] ∧ n.at_ = p.at_ + p.long then some ⟨p.at_, p.long + n.long, []⟩ else if p.data ≠ [] ∧ n.data ≠ [] then some ⟨p.at_, p.long, p.data ++ n.data⟩ else none
def joinR (p : PieceV) : List PieceV → List PieceV
  | [] => [p]
  | n :: r => match pcMerge p n with
    | some q => joinR q r
    | none => p :: joinR n r
def joinedV : List PieceV → List PieceV
  | [] => []
  | p :: r => joinR p r
def jstep (out : List PieceV) (p : PieceV) : List PieceV := match out.getLast? with
  | some q => (match pcMerge q p with
    | some q' => out.dropLast ++ [q']
    | none => out ++ [p])
  | none => [p]
theorem jstep_some {out : List PieceV} {q p q' : PieceV} (h : out.getLast? = some q) (hm : pcMerge q p = some q') : jstep out p = out.dropLast ++ [q'] := by
  unfold jstep; rw [h]; dsimp only; rw [hm]
theorem jstep_none {out : List PieceV} {q p : PieceV} (h : out.getLast? = some q) (hm : pcMerge q p = none) : jstep out p = out ++ [p] := by
  unfold jstep; rw [h]; dsimp only; rw [hm]
theorem fold_join : ∀ (r done : List PieceV) (q : PieceV), r.foldl jstep (done ++ [q]) = done ++ joinR q r
  | [], done, q => rfl
  | n :: r, done, q => by
    rw [List.foldl_cons]
    have hl : (done ++ [q]).getLast? = some q := by simp
    unfold joinR
    cases hm : pcMerge q n with
    | some q' =>
      rw [jstep_some hl hm]
      simp only [List.dropLast_concat]
      exact fold_join r done q'
    | none =>
      rw [jstep_none hl hm, fold_join r (done ++ [q]) n]
      simp
theorem joined_fold (l : List PieceV) : l.foldl jstep [] = joinedV l := by
  cases l with
  | nil => rfl
  | cons p r => exact fold_join r [] p
theorem fold_take {l : List PieceV} {i : Nat} {p : PieceV} (h : l[i]? = some p) : (l.take (i + 1)).foldl jstep [] = jstep ((l.take i).foldl jstep []) p := by
  rw [List.take_add_one, h, List.foldl_append]
  rfl
/-- What a piece may be. -/
def bnd (m : Nat) (q : PieceV) : Prop := (q.data = [] → -1099511627776 ≤ q.at_ ∧ q.at_ ≤ 1099511627776 ∧ 0 ≤ q.long ∧ q.long ≤ 1048576 * m) ∧ q.data.length ≤ 4194304 * m
def jR (l : List PieceV) : Prop := l.length ≤ 2097152 ∧ ∀ p ∈ l, bnd 1 p
theorem bnd.mono {m k : Nat} {q : PieceV} (h : bnd m q) (hk : m ≤ k) : bnd k q := ⟨fun e => by have := h.1 e; omega, by have := h.2; omega⟩
theorem bnd.merge {m : Nat} {p n q : PieceV} (hp : bnd m p) (hn : bnd 1 n) (h : pcMerge p n = some q) : bnd (m + 1) q := by
  unfold pcMerge at h
  split at h
  · rename_i hc
    cases h
    have h1 := hp.1 hc.1
    have h2 := hn.1 hc.2.1
    exact ⟨fun _ => by simp only; omega, by simp⟩
  · split at h
    · rename_i hc
      cases h
      refine ⟨fun e => ?_, ?_⟩
      · simp only [List.append_eq_nil_iff] at e
        exact absurd e.1 hc.1
      · simp only [List.length_append]
        have h1 := hp.2
        have h2 := hn.2
        omega
    · cases h
theorem jstep_bnd {out : List PieceV} {m : Nat} {p : PieceV} (h : ∀ q ∈ out, bnd m q) (hp : bnd 1 p) : ∀ q ∈ jstep out p, bnd (m + 1) q := by
  intro q hq
  unfold jstep at hq
  split at hq
  · rename_i q0 h0
    have hq0 : bnd m q0 := h q0 (List.mem_of_getLast? h0)
    split at hq
    · rename_i q' hm
      rcases List.mem_append.1 hq with h1 | h1
      · exact (h q ((List.dropLast_sublist out).subset h1)).mono (by omega)
      · simp only [List.mem_singleton] at h1
        subst h1
        exact hq0.merge hp hm
    · rcases List.mem_append.1 hq with h1 | h1
      · exact (h q h1).mono (by omega)
      · simp only [List.mem_singleton] at h1
        subst h1
        exact hp.mono (by omega)
  · simp only [List.mem_singleton] at hq
    subst hq
    exact hp.mono (by omega)
theorem jstep_len {out : List PieceV} {p : PieceV} : (jstep out p).length ≤ out.length + 1 := by
  unfold jstep
  split
  · rename_i q h
    have : 0 < out.length := by
      cases out with
      | nil => simp at h
      | cons => simp
    split <;> simp <;> omega
  · simp
theorem joinR_none {p n : PieceV} {r : List PieceV} (h : pcMerge p n = none) : joinR p (n :: r) = p :: joinR n r := by rw [joinR, h]
theorem joinR_some {p n q : PieceV} {r : List PieceV} (h : pcMerge p n = some q) : joinR p (n :: r) = joinR q r := by rw [joinR, h]
theorem drop_cons {α : Type} {l : List α} {i : Nat} {c : α} (h : l[i]? = some c) : l.drop i = c :: l.drop (i + 1) := by
  obtain ⟨h1, h2⟩ := List.getElem?_eq_some_iff.1 h
  rw [List.drop_eq_getElem_cons h1, h2]
/-- Right pieces are such. -/
theorem jR_of {l : List PieceV} {old : Int} (hr : psR l) (h : (stepsV l old).2 = 0) : jR l := by
  obtain ⟨h1, h2, h3, h4, h5, h6⟩ := stepsV_ok h
  refine ⟨by omega, fun p hp => ?_⟩
  have hpe := h4 p hp
  obtain ⟨r1, r2, r3⟩ := hr.2 p hp
  unfold pcE at hpe
  refine ⟨fun e => ?_, by omega⟩
  rw [if_neg (by simpa using e)] at hpe
  split at hpe <;> omega
def freshV (l : List PieceV) : Int := (l.map fun p => (p.data.length : Int)).sum
theorem freshV_succ {l : List PieceV} {i : Nat} {p : PieceV} (h : l[i]? = some p) : freshV (l.take (i + 1)) = freshV (l.take i) + p.data.length := by
  unfold freshV
  rw [List.take_add_one, h]
  simp
def patchV (a : Bytes) (d : DeltaV) : Bytes × Int :=
  if ¬ (a.length : Int) = d.old ∨ ¬ sumOf a = d.osum then ([], 14) else if ¬ sumOf (madeV a d.ps) = d.nsum then ([], 14) else (madeV a d.ps, 0)
def applyV (a : Bytes) (d : DeltaV) : Bytes × Int := if deltaE d ≠ 0 then ([], deltaE d) else patchV a d
def tidyV (d : DeltaV) : DeltaV := { d with ps := joinedV d.ps }
theorem fold_bnd {l : List PieceV} (h : ∀ p ∈ l, bnd 1 p) : ∀ i, (∀ q ∈ (l.take i).foldl jstep [], bnd i q) ∧ ((l.take i).foldl jstep []).length ≤ i
  | 0 => ⟨fun q hq => by simp at hq, by simp⟩
  | i + 1 => by
    obtain ⟨h1, h2⟩ := fold_bnd h i
    cases hp : l[i]? with
    | none =>
      rw [List.take_add_one, hp]
      simp only [Option.toList_none, List.append_nil]
      exact ⟨fun q hq => (h1 q hq).mono (by omega), by omega⟩
    | some p =>
      rw [fold_take hp]
      exact ⟨jstep_bnd h1 (h p (List.mem_of_getElem? hp)), Nat.le_trans jstep_len (by omega)⟩
end Go.Proofs

/- Walks: pieces are joined, both sides. -/
namespace Go.Proofs
open Go Go.Abs
set_option linter.unusedSimpArgs false
set_option linter.unusedVariables false
/-- A list that is made by append, and written. -/
def MsL (H G : Heap) (v : AV) (out : List PieceV) : Prop := (out = [] ∧ v = .sl [] .exact) ∨ ∃ id, out ≠ [] ∧ v = .ms id 0 out.length 3 ∧ H id = none ∧ G id = some (.cells (out.map encPc).flatten)
def puD3 : Pures := puD2
theorem puD3_ok : PuOK Tryd.prog puD3 := puD2_ok
theorem encPc_unif (l : List PieceV) : Unif 3 (l.map encPc) := by
  intro c hc
  simp only [List.mem_map] at hc
  obtain ⟨b, _, rfl⟩ := hc
  rfl
theorem flat_enc (l : List PieceV) : (l.map encPc).flatten.length = l.length * 3 := by rw [flatten_len (encPc_unif l), List.length_map]
theorem last_split {α : Type} {out : List α} {q : α} (h : out.getLast? = some q) : out = out.dropLast ++ [q] := by
  have hne : out ≠ [] := by rintro rfl; cases h
  have h2 := List.getLast?_eq_some_getLast hne
  rw [h] at h2
  cases h2
  exact (List.dropLast_concat_getLast hne).symm
theorem flat_enc_drop {l : List PieceV} {q : PieceV} (k : Nat) : (((l ++ [q]).map encPc).flatten).drop (l.length * 3 + k) = (encPc q).drop k := by
  rw [List.map_append, List.flatten_append, List.drop_append, flat_enc]
  have : (l.map encPc).flatten.drop (l.length * 3 + k) = [] := List.drop_of_length_le (by rw [flat_enc]; omega)
  rw [this]
  simp
theorem flat_set (l : List PieceV) (q : PieceV) (k : Nat) (v : AV) (hk : k < 3) : (((l ++ [q]).map encPc).flatten).set (l.length * 3 + k) v = (l.map encPc).flatten ++ (encPc q).set k v := by
  rw [List.map_append, List.flatten_append, List.set_append, if_neg (by rw [flat_enc]; omega), flat_enc]
  congr 1
  rw [show l.length * 3 + k - l.length * 3 = k from by omega]
  simp
theorem flat_add (l : List PieceV) (q : PieceV) : (((l ++ [q]).map encPc).flatten) = (l.map encPc).flatten ++ encPc q := by simp
end Go.Proofs

/- Numbers in groups of bits, sums as bytes: plain Lean, no program. -/
namespace Go.Proofs
open Go Go.Abs
set_option linter.unusedSimpArgs false
set_option linter.unusedVariables false
def groupsB (n : Nat) : Bytes := if h : n < 128 then [UInt8.ofNat n] else UInt8.ofNat (n % 128 + 128) :: groupsB (n / 128)
termination_by n
decreasing_by omega
theorem groupsB_small {n : Nat} (h : n < 128) : groupsB n = [UInt8.ofNat n] := by rw [groupsB, dif_pos h]
theorem groupsB_big {n : Nat} (h : ¬ n < 128) : groupsB n = UInt8.ofNat (n % 128 + 128) :: groupsB (n / 128) := by rw [groupsB, dif_neg h]
theorem groupsB_len : ∀ (k n : Nat), n < 128 ^ (k + 1) → (groupsB n).length ≤ k + 1 := by
  intro k
  induction k with
  | zero => intro n h; rw [groupsB_small (by simpa using h)]; simp
  | succ k ih =>
    intro n h
    by_cases hn : n < 128
    · rw [groupsB_small hn]; simp
    · rw [groupsB_big hn, List.length_cons]
      have hd : n / 128 < 128 ^ (k + 1) := by
        rw [Nat.div_lt_iff_lt_mul (by omega)]
        have : 128 ^ (k + 1 + 1) = 128 ^ (k + 1) * 128 := Nat.pow_succ ..
        omega
      have := ih _ hd
      omega
/-- What the digit means. -/
def dgV (c : UInt8) : Nat := if c.toNat ≤ 57 then c.toNat - 48 else c.toNat - 87
def hexN (s : Bytes) : Nat := s.foldl (fun v c => v * 16 + dgV c) 0
theorem hexN_succ {s : Bytes} {i : Nat} {c : UInt8} (h : s[i]? = some c) : hexN (s.take (i + 1)) = hexN (s.take i) * 16 + dgV c := by
  unfold hexN
  rw [List.take_add_one, h, List.foldl_append]
  rfl
theorem dgV_lt {c : UInt8} (h : isHx (c.toNat : Int) = true) : dgV c < 16 := by
  simp only [isHx, Bool.or_eq_true, Bool.and_eq_true, decide_eq_true_eq] at h
  unfold dgV
  split <;> omega
theorem sumB_at {s : Bytes} (h : sumB s = true) {i : Nat} {c : UInt8} (hc : s[i]? = some c) : isHx (c.toNat : Int) = true := by
  simp only [sumB, Bool.and_eq_true, allB, List.all_eq_true] at h
  exact h.1 c (List.mem_of_getElem? hc)
theorem sumB_len {s : Bytes} (h : sumB s = true) : s.length = 16 := by
  simp only [sumB, Bool.and_eq_true, decide_eq_true_eq] at h
  omega
theorem hexN_lt {s : Bytes} (h : sumB s = true) : ∀ i, hexN (s.take i) < 16 ^ i := by
  intro i
  induction i with
  | zero => simp [hexN]
  | succ i ih =>
    cases hc : s[i]? with
    | none =>
      rw [List.take_add_one, hc]
      simp only [Option.toList_none, List.append_nil]
      have : 16 ^ (i + 1) = 16 ^ i * 16 := Nat.pow_succ ..
      omega
    | some c =>
      rw [hexN_succ hc]
      have := dgV_lt (sumB_at h hc)
      have : 16 ^ (i + 1) = 16 ^ i * 16 := Nat.pow_succ ..
      omega
theorem hexN_all {s : Bytes} (h : sumB s = true) : hexN s < 18446744073709551616 := by
  have := hexN_lt h 16
  rw [List.take_of_length_le (by rw [sumB_len h]; omega)] at this
  simpa using this
/-- The bytes of a number, the highest first. -/
def rawB (n : Nat) : Bytes := (List.range 8).map fun i => UInt8.ofNat (n / 2 ^ (56 - 8 * i))
theorem rawB_len (n : Nat) : (rawB n).length = 8 := by simp [rawB]
theorem rawB_get {n i : Nat} (h : i < 8) : (rawB n)[i]? = some (UInt8.ofNat (n / 2 ^ (56 - 8 * i))) := by
  unfold rawB
  rw [List.getElem?_map, List.getElem?_range h]
  rfl
theorem sumOf_form (s : Bytes) : sumB (sumOf s) = true := by
  have hd : ∀ m, m < 16 → isHx ((dig m).toNat : Int) = true := by decide
  have : ∀ k n, allB isHx (hexPad k n) = true := by
    intro k
    induction k with
    | zero => intro n; rfl
    | succ k ih =>
      intro n
      unfold allB at *
      rw [hexPad, List.all_append, ih]
      simp [hd (n % 16) (Nat.mod_lt _ (by omega))]
  unfold sumB
  rw [sumOf_len]
  unfold sumOf
  rw [this]
  rfl
def pieceB (p : PieceV) : Bytes := if p.data ≠ [] then 1 :: (groupsB p.data.length ++ p.data) else 0 :: (groupsB p.at_.toNat ++ groupsB p.long.toNat)
def headB (d : DeltaV) : Bytes := [79, 70, 68, 49] ++ groupsB d.old.toNat ++ groupsB d.new.toNat ++ rawB (hexN d.osum) ++ rawB (hexN d.nsum) ++ groupsB d.ps.length
def bodyB (d : DeltaV) : Bytes := headB d ++ (d.ps.map pieceB).flatten
def printB (d : DeltaV) : Bytes := bodyB d ++ rawB (hexN (sumOf (bodyB d)))
/-! ### The machine's operations -/
theorem u8_of {n : Nat} (h : n < 256) : ((UInt8.ofNat n).toNat : Int) = n := by
  rw [UInt8.toNat_ofNat_of_lt' (by simpa using h)]
theorem u8_of_mod (n : Nat) : (UInt8.ofNat n).toNat = n % 256 := by simp
theorem wrap8 (n : Nat) : IntKind.u8.wrap (n : Int) = ((UInt8.ofNat n).toNat : Int) := by
  rw [u8_of_mod]
  unfold IntKind.wrap
  simp [IntKind.signed, IntKind.bits]
theorem and127 (n : Nat) (h : n < 9223372036854775808) : andI .i64 (n : Int) 127 = ((n % 128 : Nat) : Int) := by
  have e : (BitVec.ofInt IntKind.i64.bits (n : Int) &&& BitVec.ofInt IntKind.i64.bits 127).toNat = n % 128 := by
    show (BitVec.ofInt 64 (n : Int) &&& BitVec.ofInt 64 ((127 : Nat) : Int)).toNat = n % 128
    rw [BitVec.ofInt_natCast, BitVec.ofInt_natCast, BitVec.toNat_and]
    simp only [BitVec.toNat_ofNat]
    rw [Nat.mod_eq_of_lt (show n < 2 ^ 64 by simp; omega), Nat.mod_eq_of_lt (show 127 < 2 ^ 64 by decide)]
    exact Nat.and_two_pow_sub_one_eq_mod n 7
  unfold andI
  rw [e]
  exact Go.IntWalk.i64_in _ (by omega)
theorem or128 : ∀ m : Nat, m < 128 → orI .i64 (m : Int) 128 = ((m + 128 : Nat) : Int) := by decide
theorem or128b : ∀ m : Nat, m < 128 → orI .u8 (m : Int) 128 = ((m + 128 : Nat) : Int) := by decide
theorem shrI64 (n b : Nat) (z : Int) (hz : z = b) (h : b ≤ 64) : shrI .i64 (n : Int) z = ((n / 2 ^ b : Nat) : Int) := by
  subst hz
  unfold shrI
  have e : min (b : Int).toNat IntKind.i64.bits = b := Nat.min_eq_left h
  rw [e, show ((2 : Int) ^ b) = ((2 ^ b : Nat) : Int) from by simp, Int.fdiv_eq_ediv_of_nonneg _ (Int.natCast_nonneg _)]
  rfl
theorem or32 {c : UInt8} (h : isHx (c.toNat : Int) = true) (h2 : ¬ c.toNat ≤ 57) : orI .u8 (c.toNat : Int) 32 = c.toNat := by
  have key : ∀ n : Nat, n < 103 → 97 ≤ n → orI .u8 (n : Int) 32 = n := by decide
  simp only [isHx, Bool.or_eq_true, Bool.and_eq_true, decide_eq_true_eq] at h
  exact key _ (by omega) (by omega)
end Go.Proofs

/- Walks: sums are read; numbers and sums as bytes, on the reference's side. -/
namespace Go.Proofs
open Go Go.Abs
set_option linter.unusedSimpArgs false
set_option linter.unusedVariables false
set_option maxRecDepth 20000
theorem lower_calls (c : Int) (H : Heap) : ACalls Tryd.prog 60 [.int .u8 c] H fun x H' => x = .int .u8 (orI .u8 c 32) ∧ H' = H := by
  refine ACalls.of_code (X := { pure := pu0 }) pu0_ok Tryd.func60 (by kernel_rfl) rfl (by kernel_rfl) (Nat.le_of_ble_eq_true rfl) ?_
  simp -implicitDefEqProofs only [go_sem, tys, regs0, Nat.reduceEqDiff, Nat.reduceAdd, Nat.reduceLeDiff, Nat.reduceLT, Nat.reduceMul, Int.natCast_one, Int.natCast_zero, Int.reduceEq, Int.reduceLT, Int.reduceLE, Int.reduceAdd, Int.reduceSub, Int.reduceToNat, UInt8.reduceToNat, Tryd.f60]
  exact Done.now ⟨rfl, rfl⟩
def sLower : List AV → Option AV := fn1 (.int .u8) fun c => some (.int .u8 (orI .u8 c 32))
theorem sLower_eq (c : Int) : sLower [.int .u8 c] = some (.int .u8 (orI .u8 c 32)) := rfl
def puP1 : Pures := putP 60 sLower pu0
theorem puP1_ok : PuOK Tryd.prog puP1 := by
  refine PuOK.put pu0_ok ?_
  intro xs v hv H
  obtain ⟨x, p, rfl, h1, h2⟩ := fn1_some hv
  cases Rd.int_some h1; cases h2
  exact lower_calls _ H
set_option maxHeartbeats 1600000 in
theorem parseUintI_calls (s : Bytes) (H : Heap) (hs : sumB s = true) : ACalls Tryd.prog 50 [.str s, .int .i64 16, .int .i64 64] H fun x H' => x = .tup [.int .u64 (hexN s), .nilIface] ∧ H' = H := by
  have hlen := sumB_len hs
  have hne : ¬ s = [] := by rintro rfl; simp at hlen
  have c1 : IntKind.u64.wrap (shlI .u64 1 64 - 1) = 18446744073709551615 := by decide
  have c2 : IntKind.u8.wrap 16 = 16 := by decide
  have c3 : IntKind.u64.wrap 16 = 16 := by decide
  have c4 : IntKind.u64.wrap 64 = 64 := by decide
  refine ACalls.of_code (X := { pure := puP1 }) puP1_ok Tryd.func50 (by kernel_rfl) rfl (by kernel_rfl) (Nat.le_of_ble_eq_true rfl) ?_
  simp -implicitDefEqProofs only [go_sem, tys, regs0, Nat.reduceEqDiff, Nat.reduceAdd, Nat.reduceLeDiff, Nat.reduceLT, Nat.reduceMul, Int.natCast_one, Int.natCast_zero, Int.reduceEq, Int.reduceLT, Int.reduceLE, Int.reduceAdd, Int.reduceSub, Int.reduceToNat, UInt8.reduceToNat, Tryd.f50, hne, c1, c2, c3, c4]
  refine conv_bytes (by simp -implicitDefEqProofs only [go_sem, tys, regs0, Nat.reduceEqDiff, Nat.reduceAdd, Nat.reduceLeDiff, Nat.reduceLT, Nat.reduceMul, Int.natCast_one, Int.natCast_zero, Int.reduceEq, Int.reduceLT, Int.reduceLE, Int.reduceAdd, Int.reduceSub, Int.reduceToNat, UInt8.reduceToNat]) (by simp -implicitDefEqProofs only [go_sem, tys, regs0, Nat.reduceEqDiff, Nat.reduceAdd, Nat.reduceLeDiff, Nat.reduceLT, Nat.reduceMul, Int.natCast_one, Int.natCast_zero, Int.reduceEq, Int.reduceLT, Int.reduceLE, Int.reduceAdd, Int.reduceSub, Int.reduceToNat, UInt8.reduceToNat]) (fun id hid => ?_)
  simp -implicitDefEqProofs only [go_sem, tys, regs0, Nat.reduceEqDiff, Nat.reduceAdd, Nat.reduceLeDiff, Nat.reduceLT, Nat.reduceMul, Int.natCast_one, Int.natCast_zero, Int.reduceEq, Int.reduceLT, Int.reduceLE, Int.reduceAdd, Int.reduceSub, Int.reduceToNat, UInt8.reduceToNat, hlen]
  have hcl : (s.map fun b : UInt8 => AV.int .u8 b.toNat).length = 16 := by rw [List.length_map, hlen]
  refine aloop_intro (σ := Nat) (fun i => [(1, .int .i64 16), (8, .bool false), (10, .int .u64 1152921504606846976), (11, .int .u64 18446744073709551615), (12, .bool false), (13, .int .u64 (hexN (s.take i))), (99, .ms id 0 16 1), (100, .int .i64 16), (101, .int .i64 i)])
    (fun i G => G = H.put id (.cells (s.map fun b => .int .u8 b.toNat)) ∧ i ≤ 16) (fun i => 16 - i) 0 ?_ ?_ ?_
  · simp -implicitDefEqProofs only [go_sem, tys, regs0, Nat.reduceEqDiff, Nat.reduceAdd, Nat.reduceLeDiff, Nat.reduceLT, Nat.reduceMul, Int.natCast_one, Int.natCast_zero, Int.reduceEq, Int.reduceLT, Int.reduceLE, Int.reduceAdd, Int.reduceSub, Int.reduceToNat, UInt8.reduceToNat]
    simp [hexN]
  · exact ⟨rfl, by omega⟩
  · intro i r G hv hI
    have h1 := hv.1
    have h8 := hv.2.1
    have h10 := hv.2.2.1
    have h11 := hv.2.2.2.1
    have h12 := hv.2.2.2.2.1
    have h13 := hv.2.2.2.2.2.1
    have h99 := hv.2.2.2.2.2.2.1
    have h100 := hv.2.2.2.2.2.2.2.1
    have h101 := hv.2.2.2.2.2.2.2.2.1
    have hG := hI.1.symm
    have hi := hI.2
    clear hv hI
    subst hG
    simp -implicitDefEqProofs only [go_sem, tys, regs0, Nat.reduceEqDiff, Nat.reduceAdd, Nat.reduceLeDiff, Nat.reduceLT, Nat.reduceMul, Int.natCast_one, Int.natCast_zero, Int.reduceEq, Int.reduceLT, Int.reduceLE, Int.reduceAdd, Int.reduceSub, Int.reduceToNat, UInt8.reduceToNat, h1, h8, h10, h11, h12, h13, h99, h100, h101]
    refine cnd_intro (fun g => ?_) (fun g => ?_)
    · simp only [decide_eq_true_eq] at g
      obtain ⟨c, hc⟩ : ∃ c, s[i]? = some c := ⟨s[i]'(by omega), List.getElem?_eq_getElem _⟩
      have hx := sumB_at hs hc
      have hd := dgV_lt hx
      have hcells : ((s.map fun b : UInt8 => AV.int .u8 b.toNat).drop i).head? = some (.int .u8 c.toNat) := by
        rw [List.head?_drop, List.getElem?_map, hc]; rfl
      have hn := hexN_lt hs i
      have hp15 : 16 ^ i ≤ 16 ^ 15 := Nat.pow_le_pow_right (by omega) (by omega)
      have hsu := hexN_succ hc
      have hcl2 := c.toNat_lt
      have hn15 : hexN (s.take i) < 1152921504606846976 := Nat.lt_of_lt_of_le hn (by simpa using hp15)
      have hx2 := hx
      simp only [isHx, Bool.or_eq_true, Bool.and_eq_true, decide_eq_true_eq] at hx2
      generalize hexN (s.take i) = n at *
      generalize hdv : dgV c = d at *
      have w1 : IntKind.u64.wrap ((n : Int) * 16) = n * 16 := Go.IntWalk.u64_in _ (by omega)
      have w2 : IntKind.u64.wrap (d : Int) = d := Go.IntWalk.u64_in _ (by omega)
      have w3 : IntKind.u64.wrap ((n : Int) * 16 + d) = n * 16 + d := Go.IntWalk.u64_in _ (by omega)
      have t1 : decide ((16 : Int) ≤ d) = false := decide_eq_false (by omega)
      have t2 : decide ((1152921504606846976 : Int) ≤ n) = false := decide_eq_false (by omega)
      have t3 : decide ((n : Int) * 16 + d < n * 16) = false := decide_eq_false (by omega)
      have t4 : decide ((18446744073709551615 : Int) < (n : Int) * 16 + d) = false := decide_eq_false (by omega)
      have t0 : decide ((c.toNat : Int) = 95) = false := decide_eq_false (by omega)
      have w9 : IntKind.i64.wrap ((i : Int) + 1) = i + 1 := Go.IntWalk.i64_in _ (by omega)
      have t5 : decide ((48 : Int) ≤ (c.toNat : Int)) = true := decide_eq_true (by omega)
      unfold dgV at hdv
      by_cases h57 : c.toNat ≤ 57
      · rw [if_pos h57] at hdv
        have t6 : decide ((c.toNat : Int) ≤ 57) = true := decide_eq_true (by omega)
        have w4 : IntKind.u8.wrap ((c.toNat : Int) - 48) = d := by
          rw [show ((c.toNat : Int) - 48) = (d : Int) from by omega]
          exact (wrap8 d).trans (u8_of (by omega))
        simp -implicitDefEqProofs only [go_sem, tys, regs0, Nat.reduceEqDiff, Nat.reduceAdd, Nat.reduceLeDiff, Nat.reduceLT, Nat.reduceMul, Int.natCast_one, Int.natCast_zero, Int.reduceEq, Int.reduceLT, Int.reduceLE, Int.reduceAdd, Int.reduceSub, Int.reduceToNat, UInt8.reduceToNat, h1, h8, h10, h11, h12, h13, h99, h100, h101, Int.natCast_nonneg, Int.toNat_natCast, Nat.zero_add, Nat.mul_one, g, hcells, t0, t5, t6, w4, w2, t1, t2, w1, w3, t3, t4, c2, c3, w9]
        exact Again.mk (i + 1) (by simp -implicitDefEqProofs only [go_sem, tys, regs0, Nat.reduceEqDiff, Nat.reduceAdd, Nat.reduceLeDiff, Nat.reduceLT, Nat.reduceMul, Int.natCast_one, Int.natCast_zero, Int.reduceEq, Int.reduceLT, Int.reduceLE, Int.reduceAdd, Int.reduceSub, Int.reduceToNat, UInt8.reduceToNat, h1, h8, h10, h11, h12, h13, h99, h100, h101, hsu]; simp) ⟨rfl, by omega⟩ (by omega)
      · rw [if_neg h57] at hdv
        have t6 : decide ((c.toNat : Int) ≤ 57) = false := decide_eq_false (by omega)
        have t7 : decide ((97 : Int) ≤ (c.toNat : Int)) = true := decide_eq_true (by omega)
        have t8 : decide ((c.toNat : Int) ≤ 122) = true := decide_eq_true (by omega)
        have w0 := or32 hx h57
        have w4 : IntKind.u8.wrap (IntKind.u8.wrap ((c.toNat : Int) - 97) + 10) = d := by
          have e : IntKind.u8.wrap ((c.toNat : Int) - 97) = ((c.toNat - 97 : Nat) : Int) := by
            rw [show ((c.toNat : Int) - 97) = ((c.toNat - 97 : Nat) : Int) from by omega]
            exact (wrap8 _).trans (u8_of (by omega))
          rw [e, show (((c.toNat - 97 : Nat) : Int) + 10) = (d : Int) from by omega]
          exact (wrap8 d).trans (u8_of (by omega))
        simp -implicitDefEqProofs only [go_sem, tys, regs0, Nat.reduceEqDiff, Nat.reduceAdd, Nat.reduceLeDiff, Nat.reduceLT, Nat.reduceMul, Int.natCast_one, Int.natCast_zero, Int.reduceEq, Int.reduceLT, Int.reduceLE, Int.reduceAdd, Int.reduceSub, Int.reduceToNat, UInt8.reduceToNat, h1, h8, h10, h11, h12, h13, h99, h100, h101, Int.natCast_nonneg, Int.toNat_natCast, Nat.zero_add, Nat.mul_one, g, hcells, t0, t5, t6, t7, t8, w0, w4, w2, t1, t2, w1, w3, t3, t4, c2, c3, w9, puP1, sLower_eq]
        exact Again.mk (i + 1) (by simp -implicitDefEqProofs only [go_sem, tys, regs0, Nat.reduceEqDiff, Nat.reduceAdd, Nat.reduceLeDiff, Nat.reduceLT, Nat.reduceMul, Int.natCast_one, Int.natCast_zero, Int.reduceEq, Int.reduceLT, Int.reduceLE, Int.reduceAdd, Int.reduceSub, Int.reduceToNat, UInt8.reduceToNat, h1, h8, h10, h11, h12, h13, h99, h100, h101, hsu]; simp) ⟨rfl, by omega⟩ (by omega)
    · have e : i = 16 := by
        simp only [decide_eq_false_iff_not] at g
        omega
      subst e
      rw [List.take_of_length_le (by omega)] at h13
      simp -implicitDefEqProofs only [go_sem, tys, regs0, Nat.reduceEqDiff, Nat.reduceAdd, Nat.reduceLeDiff, Nat.reduceLT, Nat.reduceMul, Int.natCast_one, Int.natCast_zero, Int.reduceEq, Int.reduceLT, Int.reduceLE, Int.reduceAdd, Int.reduceSub, Int.reduceToNat, UInt8.reduceToNat, h1, h8, h10, h11, h12, h13, h99, h100, h101]
      exact Done.drop1 hid ⟨rfl, rfl⟩
def sPU : List AV → Option AV := fn3 .str (.int .i64) (.int .i64) fun s a b => if sumB s = true ∧ a = 16 ∧ b = 64 then some (.tup [.int .u64 (hexN s), .nilIface]) else none
theorem sPU_eq (s : Bytes) (h : sumB s = true) : sPU [.str s, .int .i64 16, .int .i64 64] = some (.tup [.int .u64 (hexN s), .nilIface]) := by
  simp only [sPU, fn3_eq, Rd.str_eq, Rd.int_eq, Option.bind_some]
  rw [if_pos ⟨h, trivial, trivial⟩]
theorem sPU_ok {P : Program} {f : FuncId} (h : ∀ s H, sumB s = true → ACalls P f [.str s, .int .i64 16, .int .i64 64] H fun x H' => x = .tup [.int .u64 (hexN s), .nilIface] ∧ H' = H) : ∀ xs v, sPU xs = some v → ∀ H, ACalls P f xs H fun x H' => x = v ∧ H' = H := by
  intro xs v hv H
  obtain ⟨x, y, z, p, q, r, rfl, h1, h2, h3, h4⟩ := fn3_some hv
  split at h4
  · rename_i hh
    obtain ⟨hs, rfl, rfl⟩ := hh
    cases h4
    cases Rd.str_some h1; cases Rd.int_some h2; cases Rd.int_some h3
    exact h p H hs
  · cases h4
def puP2 : Pures := putP 50 sPU pu0
theorem puP2_ok : PuOK Tryd.prog puP2 := .put (pu0_ok) (sPU_ok parseUintI_calls)
theorem parseUint_calls (s : Bytes) (H : Heap) (hs : sumB s = true) : ACalls Tryd.prog 42 [.str s, .int .i64 16, .int .i64 64] H fun x H' => x = .tup [.int .u64 (hexN s), .nilIface] ∧ H' = H := by
  have h := sPU_eq s hs
  refine ACalls.of_code (X := { pure := puP2 }) puP2_ok Tryd.func42 (by kernel_rfl) rfl (by kernel_rfl) (Nat.le_of_ble_eq_true rfl) ?_
  simp -implicitDefEqProofs only [go_sem, tys, regs0, Nat.reduceEqDiff, Nat.reduceAdd, Nat.reduceLeDiff, Nat.reduceLT, Nat.reduceMul, Int.natCast_one, Int.natCast_zero, Int.reduceEq, Int.reduceLT, Int.reduceLE, Int.reduceAdd, Int.reduceSub, Int.reduceToNat, UInt8.reduceToNat, Tryd.f42, puP2, h]
  exact Done.now ⟨rfl, rfl⟩
def puP3 : Pures := putP 42 sPU pu0
theorem puP3_ok : PuOK Tryd.prog puP3 := .put (pu0_ok) (sPU_ok parseUint_calls)
theorem str_len_le {a b : Bytes} {k : Nat} (h : a.length + b.length ≤ k) (hk : k ≤ 9223372036854775807) : (((a.length + b.length : Nat)) : Int) ≤ 9223372036854775807 := by omega
end Go.Proofs

/- Walks: a delta is written, on the reference's side. -/
namespace Go.Proofs
open Go Go.Abs
set_option linter.unusedSimpArgs false
set_option linter.unusedVariables false
set_option maxRecDepth 20000
def sGroups : List AV → Option AV := fn1 (.int .i64) fun n => if 0 ≤ n ∧ n < 4398046511104 then some (.str (groupsB n.toNat)) else none
theorem sGroups_eq (n : Int) (h : 0 ≤ n ∧ n < 4398046511104) : sGroups [.int .i64 n] = some (.str (groupsB n.toNat)) := by
  simp only [sGroups, fn1_eq, Rd.int_eq, Option.bind_some]
  rw [if_pos h]
def sRaw : List AV → Option AV := fn1 .str fun s => if sumB s = true then some (.str (rawB (hexN s))) else none
theorem sRaw_eq (s : Bytes) (h : sumB s = true) : sRaw [.str s] = some (.str (rawB (hexN s))) := by
  simp only [sRaw, fn1_eq, Rd.str_eq, Option.bind_some]
  rw [if_pos h]
def puP4 : Pures := puM
theorem puP4_ok : PuOK Tryd.prog puP4 := puM_ok
theorem groups6 {n : Nat} (h : n < 4398046511104) : (groupsB n).length ≤ 6 := groupsB_len 5 n (by simpa using h)
theorem pieces_succ {l : List PieceV} {i : Nat} {p : PieceV} (h : l[i]? = some p) : ((l.take (i + 1)).map pieceB).flatten = ((l.take i).map pieceB).flatten ++ pieceB p := by
  rw [List.take_add_one, h]; simp
theorem pieceB_len {p : PieceV} (hr : pcR p) (h : p.data = [] → 0 ≤ p.at_ ∧ p.at_ ≤ 65536 ∧ 0 ≤ p.long ∧ p.long ≤ 65536) : (pieceB p).length ≤ 4194320 := by
  unfold pieceB
  split
  · rename_i hd
    have := groups6 (n := p.data.length) (by have := hr.2.2; omega)
    have := hr.2.2
    simp only [List.length_cons, List.length_append]
    omega
  · rename_i hd
    have := h (by simpa using hd)
    have h1 := groups6 (n := p.at_.toNat) (by omega)
    have h2 := groups6 (n := p.long.toNat) (by omega)
    simp only [List.length_cons, List.length_append]
    omega
theorem pieces_len {l : List PieceV} (hr : ∀ p ∈ l, pcR p) (h : ∀ p ∈ l, p.data = [] → 0 ≤ p.at_ ∧ p.at_ ≤ 65536 ∧ 0 ≤ p.long ∧ p.long ≤ 65536) : ∀ i, ((l.take i).map pieceB).flatten.length ≤ 4194320 * i
  | 0 => by simp
  | i + 1 => by
    have ih := pieces_len hr h i
    cases hp : l[i]? with
    | none => rw [List.take_add_one, hp]; simp only [Option.toList_none, List.append_nil]; omega
    | some p =>
      have hm := List.mem_of_getElem? hp
      rw [pieces_succ hp, List.length_append]
      have := pieceB_len (hr p hm) (h p hm)
      omega
theorem pc_small {old : Int} {p : PieceV} (ho : old ≤ 65536) (h : pcE old p = 0) : p.data = [] → 0 ≤ p.at_ ∧ p.at_ ≤ 65536 ∧ 0 ≤ p.long ∧ p.long ≤ 65536 := by
  intro e
  unfold pcE at h
  rw [if_neg (by simpa using e)] at h
  split at h <;> omega
theorem headB_len {d : DeltaV} (h1 : d.old ≤ 65536) (h2 : d.new ≤ 65536) (h3 : d.ps.length ≤ 5000) : (headB d).length ≤ 40 := by
  have a := groups6 (n := d.old.toNat) (by omega)
  have b := groups6 (n := d.new.toNat) (by omega)
  have c := groups6 (n := d.ps.length) (by omega)
  simp only [headB, List.length_append, rawB_len, List.length_cons, List.length_nil]
  omega
end Go.Proofs
