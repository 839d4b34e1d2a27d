/- Walks: strings.Builder. -/
import Derived.Test.YtnheonhmnepifaaDoorAbs4
import Derived.Test.YtnheonhmnepifaaDoorTy
import Derived.IntWalk
import Derived.Test.YtnheonhmnepifaaDoorC0
import Derived.Lib.MakeNoZero
import Derived.Lib.Builder
namespace Go.Proofs
open Go Go.Abs
set_option linter.unusedSimpArgs false
set_option linter.unusedVariables false

/-- Bytes as cells of a slice. -/
def bcell (b : UInt8) : List AV := [.int .u8 b.toNat]
theorem bcell_len (l : Bytes) : Unif 1 (l.map bcell) := by
  intro c hc
  simp only [List.mem_map] at hc
  obtain ⟨b, _, rfl⟩ := hc
  rfl
abbrev bldP (b : Nat) : AV := .tptr 93 2 b
theorem noEscape_calls (T sz id : Nat) (H : Heap) : ACalls Tryd.prog 127 [.tptr T sz id] H fun y H' => y = .tptr T sz id ∧ H' = H :=
  ACalls.of_extern (e := Extern.AbiNoEscape.same) Tryd.func127 (by kernel_rfl) rfl (by kernel_rfl) (by kernel_rfl) fun C H w vs hv => by
    obtain ⟨v, rfl, h1⟩ := reprL_one hv
    exact ⟨v, Lib.run_noEscape (P := Tryd.prog) w v, h1⟩
theorem heap_put_id {H : Heap} {b : Nat} {o : AObj} (h : H b = some o) : H.put b o = H := by
  funext i
  unfold Heap.put
  split
  · rename_i e; subst e; exact h.symm
  · rfl
theorem _root_.Go.Abs.ACalls.next1 {P : Program} {f : FuncId} {args : List AV} {H H1 : Heap} {K : K1} {x : AV} (h : ACalls P f args H fun y H' => y = x ∧ H' = H1) (hK : K x H1) : ACalls P f args H K := by
  refine h.mono ?_
  rintro x H' ⟨rfl, rfl⟩
  exact hK
def addrOK (b : Nat) (p : AV) : Prop := p = .nilp ∨ p = bldP b
theorem copyCheck_calls {G : Heap} {b : Nat} {p buf : AV} (hp : addrOK b p) (h3 : G b = some (.cells [p, buf])) :
    ACalls Tryd.prog 112 [bldP b] G fun x G' => x = .tup [] ∧ G' = G.put b (.cells [bldP b, buf]) := by
  rcases hp with rfl | rfl
  · refine ACalls.of_code (X := { pure := pu0 }) pu0_ok Tryd.func112 (by kernel_rfl) rfl (by kernel_rfl) (Nat.le_of_ble_eq_true rfl) ?_
    simp -implicitDefEqProofs only [go_sem, tys, regs0, Nat.reduceEqDiff, Nat.reduceAdd, Nat.reduceLeDiff, Nat.reduceLT, Nat.reduceMul, Int.natCast_one, Int.natCast_zero, Int.reduceEq, Int.reduceLT, Int.reduceLE, Int.reduceAdd, Int.reduceSub, Int.reduceToNat, UInt8.reduceToNat, Tryd.f112, h3]
    refine (noEscape_calls _ _ _ _).pure_next _ ?_
    simp -implicitDefEqProofs only [go_sem, tys, regs0, Nat.reduceEqDiff, Nat.reduceAdd, Nat.reduceLeDiff, Nat.reduceLT, Nat.reduceMul, Int.natCast_one, Int.natCast_zero, Int.reduceEq, Int.reduceLT, Int.reduceLE, Int.reduceAdd, Int.reduceSub, Int.reduceToNat, UInt8.reduceToNat, h3]
    exact Done.now ⟨rfl, rfl⟩
  · refine ACalls.of_code (X := { pure := pu0 }) pu0_ok Tryd.func112 (by kernel_rfl) rfl (by kernel_rfl) (Nat.le_of_ble_eq_true rfl) ?_
    simp -implicitDefEqProofs only [go_sem, tys, regs0, Nat.reduceEqDiff, Nat.reduceAdd, Nat.reduceLeDiff, Nat.reduceLT, Nat.reduceMul, Int.natCast_one, Int.natCast_zero, Int.reduceEq, Int.reduceLT, Int.reduceLE, Int.reduceAdd, Int.reduceSub, Int.reduceToNat, UInt8.reduceToNat, Tryd.f112, h3]
    exact Done.now ⟨rfl, (heap_put_id h3).symm⟩
/-- The builder 'b' holds these bytes; 'H': what there is beside it. -/
def BufOK (g : Bool) (H G : Heap) (b : Nat) (buf : AV) (l : Bytes) : Prop := buf = .snil ∧ l = [] ∨ ∃ t, buf = .sl (l.map bcell) (.tok t 1 (some 5)) ∧ H t = none ∧ G t = some (.tail l.length) ∧ ¬ t = b ∧ (g = false → l ≠ [])
/-- .. 'g': it may have got room, and hold nothing. -/
def BldG (g : Bool) (H G : Heap) (b : Nat) (l : Bytes) : Prop := H.Sub G ∧ H b = none ∧ ∃ p buf, G b = some (.cells [p, buf]) ∧ addrOK b p ∧ BufOK g H G b buf l
abbrev BldOK (H G : Heap) (b : Nat) (l : Bytes) : Prop := BldG false H G b l
/-- What a builder's writing leaves of other objects. -/
def tokOf (G : Heap) (b : Nat) : Option Nat := match G b with
  | some (.cells [_, .sl _ (.tok t _ _)]) => some t
  | _ => none
def BKept (b : Nat) (G G' : Heap) : Prop := ∀ i o, G i = some o → ¬ i = b → tokOf G b ≠ some i → G' i = some o
theorem BldG.sub {g : Bool} {H G : Heap} {b : Nat} {l : Bytes} (h : BldG g H G b l) : H.Sub G := h.1
theorem BldG.tok {g : Bool} {H G : Heap} {b : Nat} {l : Bytes} (h : BldG g H G b l) {t : Nat} (ht : tokOf G b = some t) : H t = none := by
  obtain ⟨_, _, p, buf, h3, h4, h5⟩ := h
  unfold tokOf at ht
  rw [h3] at ht
  rcases h5 with ⟨rfl, -⟩ | ⟨t', rfl, h6, -⟩
  · cases ht
  · cases ht; exact h6
/-- Objects that stand beside stay. -/
theorem BldG.kept {g : Bool} {H G G' : Heap} {b : Nat} {l : Bytes} (h : BldG g H G b l) (hk : BKept b G G') {i : Nat} {o : AObj} (hi : H i = some o) : G' i = some o :=
  hk i o (h.1 i o hi) (fun e => by subst e; rw [h.2.1] at hi; cases hi) (fun e => by rw [h.tok e] at hi; cases hi)
theorem BldG.put {g : Bool} {H G : Heap} {b : Nat} {l : Bytes} (h : BldG g H G b l) {i : Nat} (hi : G i = none) (o : AObj) : BldG g H (G.put i o) b l := by
  obtain ⟨h1, h2, p, buf, h3, h4, h5⟩ := h
  have hH : H i = none := by
    cases hh : H i with
    | none => rfl
    | some x => have := h1 i x hh; rw [hi] at this; cases this
  have hb : ¬ b = i := fun e => by subst e; rw [h3] at hi; cases hi
  refine ⟨h1.put' hH o, h2, p, buf, by rw [put_ne _ _ _ _ hb]; exact h3, h4, ?_⟩
  rcases h5 with h5 | ⟨t, t1, t2, t3, t4, t9⟩
  · exact .inl h5
  · have ht : ¬ t = i := fun e => by subst e; rw [t3] at hi; cases hi
    exact .inr ⟨t, t1, t2, by rw [put_ne _ _ _ _ ht]; exact t3, t4, t9⟩
/-- A new builder. -/
theorem BldG.new {H G : Heap} (h : H.Sub G) {b : Nat} (hb : G b = none) : BldOK H (G.put b (.cells [.nilp, .snil])) b [] := by
  have hH : H b = none := by
    cases hh : H b with
    | none => rfl
    | some x => have := h b x hh; rw [hb] at this; cases this
  exact ⟨h.put' hH _, hH, _, _, put_same _ _ _, .inl rfl, .inl ⟨rfl, rfl⟩⟩
theorem app_snil {et : Option TypeId} {e : TI} {new : List (List AV)} {H : Heap} {K : K1} (h1 : new.length * e.bytes ≤ 140737488355328) (h2 : new.length ≤ 4611686018427387904) (h0 : new = [] → K .snil H)
    (h : new ≠ [] → ∀ id', H id' = none → K (.sl new (.tok id' e.size et)) (H.put id' (.tail (new.length * e.size)))) : appK et false e .snil new H K :=
  ⟨h0, fun hn => ⟨h1, h2, fun id' hid => h hn id' hid⟩⟩
theorem app_tok' {et : Option TypeId} {e : TI} {es new : List (List AV)} {id : Nat} {H : Heap} {K : K1} (hu : Unif e.size es) (ht : H id = some (.tail (es.length * e.size))) (h1 : (es.length + new.length) * e.bytes ≤ 140737488355328) (h2 : es.length + new.length ≤ 4611686018427387904)
    (h : ∀ id', H id' = none → K (.sl (es ++ new) (.tok id' e.size et)) ((H.del id).put id' (.tail ((es ++ new).length * e.size)))) : appK et false e (.sl es (.tok id e.size et)) new H K :=
  app_tok hu ht h1 h2 fun id' hid => by rw [if_pos rfl]; exact h id' hid

theorem writeString_calls {g : Bool} {H G : Heap} {b : Nat} {l s : Bytes} (h : BldG g H G b l) (hl : l.length + s.length ≤ 140737488355328) :
    ACalls Tryd.prog 69 [bldP b, .str s] G fun x G' => x = .tup [.int .i64 s.length, .nilIface] ∧ BldG g H G' b (l ++ s) ∧ BKept b G G' := by
  obtain ⟨h1, h2, p, buf, h3, h4, h5⟩ := h
  have hc := copyCheck_calls h4 h3
  have hm : (s.map fun b : UInt8 => [AV.int .u8 b.toNat]) = s.map bcell := rfl
  rcases h5 with ⟨rfl, rfl⟩ | ⟨t, rfl, t2, t3, t4, t9⟩
  · refine ACalls.of_code (X := { pure := pu0 }) pu0_ok Tryd.func69 (by kernel_rfl) rfl (by kernel_rfl) (Nat.le_of_ble_eq_true rfl) ?_
    simp -implicitDefEqProofs only [go_sem, tys, regs0, Nat.reduceEqDiff, Nat.reduceAdd, Nat.reduceLeDiff, Nat.reduceLT, Nat.reduceMul, Int.natCast_one, Int.natCast_zero, Int.reduceEq, Int.reduceLT, Int.reduceLE, Int.reduceAdd, Int.reduceSub, Int.reduceToNat, UInt8.reduceToNat, Tryd.f69]
    refine hc.next1 ?_
    simp -implicitDefEqProofs only [go_sem, tys, regs0, Nat.reduceEqDiff, Nat.reduceAdd, Nat.reduceLeDiff, Nat.reduceLT, Nat.reduceMul, Int.natCast_one, Int.natCast_zero, Int.reduceEq, Int.reduceLT, Int.reduceLE, Int.reduceAdd, Int.reduceSub, Int.reduceToNat, UInt8.reduceToNat, hm]
    refine app_snil (by simp at hl ⊢; omega) (by simp at hl ⊢; omega) (fun hn => ?_) (fun hn t' ht' => ?_)
    · have hs : s = [] := by simpa using hn
      subst hs
      simp -implicitDefEqProofs only [go_sem, tys, regs0, Nat.reduceEqDiff, Nat.reduceAdd, Nat.reduceLeDiff, Nat.reduceLT, Nat.reduceMul, Int.natCast_one, Int.natCast_zero, Int.reduceEq, Int.reduceLT, Int.reduceLE, Int.reduceAdd, Int.reduceSub, Int.reduceToNat, UInt8.reduceToNat]
      refine Done.now ⟨rfl, ⟨h1.put' h2 _, h2, _, _, put_same _ _ _, .inr rfl, .inl ⟨rfl, rfl⟩⟩, fun i o hi hb _ => by rw [put_ne _ _ _ _ hb]; exact hi⟩
    · have n1 := (heap_none ht').1
      have n2 := (heap_none ht').2.1
      have n3 := (heap_none ht').2.2
      have n4 : H t' = none := by
        cases hh : H t' with
        | none => rfl
        | some x => have := h1 t' x hh; rw [n3] at this; cases this
      simp -implicitDefEqProofs only [go_sem, tys, regs0, Nat.reduceEqDiff, Nat.reduceAdd, Nat.reduceLeDiff, Nat.reduceLT, Nat.reduceMul, Int.natCast_one, Int.natCast_zero, Int.reduceEq, Int.reduceLT, Int.reduceLE, Int.reduceAdd, Int.reduceSub, Int.reduceToNat, UInt8.reduceToNat, put_ne, n2]
      refine Done.now ⟨rfl, ⟨((h1.put' h2 _).put' n4 _).put' h2 _, h2, _, _, put_same _ _ _, .inr rfl, .inr ⟨t', rfl, n4, ?_, n1, fun _ => by simpa using hn⟩⟩, fun i o hi hb _ => ?_⟩
      · rw [put_ne _ _ _ _ n1, put_same]; simp
      · have n5 : ¬ i = t' := fun e => by subst e; rw [n3] at hi; cases hi
        rw [put_ne _ _ _ _ hb, put_ne _ _ _ _ n5, put_ne _ _ _ _ hb]; exact hi
  · have htk : tokOf G b = some t := by simp [tokOf, h3]
    have t5 : (G.put b (.cells [bldP b, .sl (l.map bcell) (.tok t 1 (some 5))])) t = some (.tail ((l.map bcell).length * 1)) := by
      rw [put_ne _ _ _ _ t4]; simpa using t3
    refine ACalls.of_code (X := { pure := pu0 }) pu0_ok Tryd.func69 (by kernel_rfl) rfl (by kernel_rfl) (Nat.le_of_ble_eq_true rfl) ?_
    simp -implicitDefEqProofs only [go_sem, tys, regs0, Nat.reduceEqDiff, Nat.reduceAdd, Nat.reduceLeDiff, Nat.reduceLT, Nat.reduceMul, Int.natCast_one, Int.natCast_zero, Int.reduceEq, Int.reduceLT, Int.reduceLE, Int.reduceAdd, Int.reduceSub, Int.reduceToNat, UInt8.reduceToNat, Tryd.f69]
    refine hc.next1 ?_
    simp -implicitDefEqProofs only [go_sem, tys, regs0, Nat.reduceEqDiff, Nat.reduceAdd, Nat.reduceLeDiff, Nat.reduceLT, Nat.reduceMul, Int.natCast_one, Int.natCast_zero, Int.reduceEq, Int.reduceLT, Int.reduceLE, Int.reduceAdd, Int.reduceSub, Int.reduceToNat, UInt8.reduceToNat, hm]
    refine app_tok' (e := tiU8) (bcell_len l) t5 (by simp at hl ⊢; omega) (by simp at hl ⊢; omega) (fun t' ht' => ?_)
    have n1 := (heap_none ht').1
    have n2 := (heap_none ht').2.1
    have n3 := (heap_none ht').2.2
    have n4 : H t' = none := by
      cases hh : H t' with
      | none => rfl
      | some x => have := h1 t' x hh; rw [n3] at this; cases this
    have n6 : ¬ b = t := fun e => t4 e.symm
    have n7 : H.Sub ((G.put b (.cells [bldP b, .sl (l.map bcell) (.tok t 1 (some 5))])).del t) := fun i o hi => by
      rw [del_ne (fun e => by subst e; rw [t2] at hi; cases hi)]
      exact h1.put' h2 _ i o hi
    simp -implicitDefEqProofs only [go_sem, tys, regs0, Nat.reduceEqDiff, Nat.reduceAdd, Nat.reduceLeDiff, Nat.reduceLT, Nat.reduceMul, Int.natCast_one, Int.natCast_zero, Int.reduceEq, Int.reduceLT, Int.reduceLE, Int.reduceAdd, Int.reduceSub, Int.reduceToNat, UInt8.reduceToNat, put_ne, n2, del_ne, n6]
    refine Done.now ⟨rfl, ⟨(n7.put' n4 _).put' h2 _, h2, _, _, put_same _ _ _, .inr rfl, .inr ⟨t', by rw [List.map_append], n4, ?_, n1, fun e => by simp [t9 e]⟩⟩, fun i o hi hb hk => ?_⟩
    · rw [put_ne _ _ _ _ n1, put_same]; simp
    · have n5 : ¬ i = t' := fun e => by subst e; rw [n3] at hi; cases hi
      have n8 : ¬ i = t := fun e => hk (by rw [htk, e])
      rw [put_ne _ _ _ _ hb, put_ne _ _ _ _ n5, del_ne n8, put_ne _ _ _ _ hb]; exact hi
theorem bldLen_calls {g : Bool} {H G : Heap} {b : Nat} {l : Bytes} (h : BldG g H G b l) : ACalls Tryd.prog 70 [bldP b] G fun x G' => x = .int .i64 l.length ∧ G' = G := by
  obtain ⟨h1, h2, p, buf, h3, h4, h5⟩ := h
  rcases h5 with ⟨rfl, rfl⟩ | ⟨t, rfl, t2, t3, t4, t9⟩
  · refine ACalls.of_code (X := { pure := pu0 }) pu0_ok Tryd.func70 (by kernel_rfl) rfl (by kernel_rfl) (Nat.le_of_ble_eq_true rfl) ?_
    simp -implicitDefEqProofs only [go_sem, tys, regs0, Nat.reduceEqDiff, Nat.reduceAdd, Nat.reduceLeDiff, Nat.reduceLT, Nat.reduceMul, Int.natCast_one, Int.natCast_zero, Int.reduceEq, Int.reduceLT, Int.reduceLE, Int.reduceAdd, Int.reduceSub, Int.reduceToNat, UInt8.reduceToNat, Tryd.f70, h3]
    exact Done.now ⟨rfl, rfl⟩
  · refine ACalls.of_code (X := { pure := pu0 }) pu0_ok Tryd.func70 (by kernel_rfl) rfl (by kernel_rfl) (Nat.le_of_ble_eq_true rfl) ?_
    simp -implicitDefEqProofs only [go_sem, tys, regs0, Nat.reduceEqDiff, Nat.reduceAdd, Nat.reduceLeDiff, Nat.reduceLT, Nat.reduceMul, Int.natCast_one, Int.natCast_zero, Int.reduceEq, Int.reduceLT, Int.reduceLE, Int.reduceAdd, Int.reduceSub, Int.reduceToNat, UInt8.reduceToNat, Tryd.f70, h3]
    exact Done.now ⟨rfl, rfl⟩
theorem bldString_calls {g : Bool} {H G : Heap} {b : Nat} {l : Bytes} (h : BldG g H G b l) (hl : l.length ≤ 140737488355328) (hg : g = true → l ≠ []) : ACalls Tryd.prog 71 [bldP b] G fun x G' => x = .str l ∧ G' = G := by
  obtain ⟨h1, h2, p, buf, h3, h4, h5⟩ := h
  rcases h5 with ⟨rfl, rfl⟩ | ⟨t, rfl, t2, t3, t4, t9⟩
  · refine ACalls.of_code (X := { pure := pu0 }) pu0_ok Tryd.func71 (by kernel_rfl) rfl (by kernel_rfl) (Nat.le_of_ble_eq_true rfl) ?_
    simp -implicitDefEqProofs only [go_sem, tys, regs0, Nat.reduceEqDiff, Nat.reduceAdd, Nat.reduceLeDiff, Nat.reduceLT, Nat.reduceMul, Int.natCast_one, Int.natCast_zero, Int.reduceEq, Int.reduceLT, Int.reduceLE, Int.reduceAdd, Int.reduceSub, Int.reduceToNat, UInt8.reduceToNat, Tryd.f71, h3]
    exact Done.now ⟨rfl, rfl⟩
  · have hm : l.map bcell = l.map fun b : UInt8 => [AV.int .u8 b.toNat] := rfl
    have hl0 : ¬ l = [] := by cases g with
      | true => exact hg rfl
      | false => exact t9 rfl
    refine ACalls.of_code (X := { pure := pu0 }) pu0_ok Tryd.func71 (by kernel_rfl) rfl (by kernel_rfl) (Nat.le_of_ble_eq_true rfl) ?_
    simp -implicitDefEqProofs only [go_sem, tys, regs0, Nat.reduceEqDiff, Nat.reduceAdd, Nat.reduceLeDiff, Nat.reduceLT, Nat.reduceMul, Int.natCast_one, Int.natCast_zero, Int.reduceEq, Int.reduceLT, Int.reduceLE, Int.reduceAdd, Int.reduceSub, Int.reduceToNat, UInt8.reduceToNat, Tryd.f71, h3, hm, hl0]
    exact ⟨by omega, Done.now ⟨rfl, rfl⟩⟩
theorem makeNoZero_calls {G : Heap} (n : Nat) (hn : n ≤ 140737488355328) : ACalls Tryd.prog 128 [.int .i64 n] G fun x G' => ∃ t, G t = none ∧ x = .rs t n 1 (some 5) ∧ G' = G.put t (.tail 0) :=
  Go.Abs.makeNoZero_calls (ps := #[3]) (t := 49) Tryd.func128 (by kernel_rfl) rfl (by kernel_rfl) (by kernel_rfl) (by kernel_rfl) n hn
/-- The orders of the region in which room is got. -/
def growOrd (n : Nat) : Option (List (List Nat)) := if n = 0 then some [[0, 1, 2, 3, 4, 5, 6, 7, 9, 10, 11, 8, 12, 13, 14, 15], [0, 1, 2, 3, 4, 5, 6, 7, 9, 10, 11, 12, 13, 8, 14, 15]] else none
theorem makeNoZero_k {G : Heap} (n : Nat) (hn : n ≤ 140737488355328) {K : K1} (hK : ∀ t, G t = none → K (.rs t n 1 (some 5)) (G.put t (.tail 0))) : ACalls Tryd.prog 128 [.int .i64 n] G K := by
  refine (makeNoZero_calls n hn).mono ?_
  rintro x G' ⟨t, h1, rfl, rfl⟩
  exact hK t h1
theorem bldgrow_calls {G : Heap} {b n : Nat} {p : AV} (h3 : G b = some (.cells [p, .snil])) (hn : n ≤ 140737488355328) :
    ACalls Tryd.prog 116 [bldP b, .int .i64 n] G fun x G' => x = .tup [] ∧ ∃ t, G t = none ∧ G' = (G.put t (.tail 0)).put b (.cells [p, .sl [] (.tok t 1 (some 5))]) := by
  have hw : IntKind.i64.wrap (n : Int) = n := Go.IntWalk.i64_in _ (by omega)
  have hw0 : IntKind.i64.wrap (2 * 0) = 0 := by decide
  have hw1 : IntKind.i64.wrap 0 = 0 := by decide
  refine ACalls.of_code (X := { pure := pu0, orders := growOrd }) pu0_ok Tryd.func116 (by kernel_rfl) rfl (by kernel_rfl) (Nat.le_of_ble_eq_true rfl) ?_
  simp -implicitDefEqProofs only [go_sem, tys, regs0, Nat.reduceEqDiff, Nat.reduceAdd, Nat.reduceLeDiff, Nat.reduceLT, Nat.reduceMul, Int.natCast_one, Int.natCast_zero, Int.reduceEq, Int.reduceLT, Int.reduceLE, Int.reduceAdd, Int.reduceSub, Int.reduceToNat, UInt8.reduceToNat, Tryd.f116]
  rw [acode_draw]
  intro ord hord
  simp only [List.mem_cons, List.not_mem_nil, or_false] at hord
  rcases hord with rfl | rfl
  all_goals rw [aops_order _ _ _ _ _ _ _ (by rfl)]
  all_goals simp -implicitDefEqProofs only [go_sem, tys, regs0, Nat.reduceEqDiff, Nat.reduceAdd, Nat.reduceLeDiff, Nat.reduceLT, Nat.reduceMul, Int.natCast_one, Int.natCast_zero, Int.reduceEq, Int.reduceLT, Int.reduceLE, Int.reduceAdd, Int.reduceSub, Int.reduceToNat, UInt8.reduceToNat, stripO, h3, hw, hw0, hw1, Int.mul_zero, Int.zero_add]
  all_goals refine makeNoZero_k n hn (fun t ht => ?_)
  all_goals have n1 : ¬ b = t := fun e => by subst e; rw [h3] at ht; cases ht
  all_goals simp -implicitDefEqProofs only [go_sem, tys, regs0, Nat.reduceEqDiff, Nat.reduceAdd, Nat.reduceLeDiff, Nat.reduceLT, Nat.reduceMul, Int.natCast_one, Int.natCast_zero, Int.reduceEq, Int.reduceLT, Int.reduceLE, Int.reduceAdd, Int.reduceSub, Int.reduceToNat, UInt8.reduceToNat, h3, put_ne, n1, Int.toNat_zero]
  all_goals exact Done.now ⟨rfl, t, ht, rfl⟩
/-- A fresh builder gets room. -/
theorem bldGrow_calls {H G : Heap} {b n : Nat} (hs : H.Sub G) (hb : H b = none) (h3 : G b = some (.cells [.nilp, .snil])) (hn : n ≤ 140737488355328) :
    ACalls Tryd.prog 74 [bldP b, .int .i64 n] G fun x G' => x = .tup [] ∧ BldG (!decide (n = 0)) H G' b [] ∧ BKept b G G' := by
  have hc := copyCheck_calls (b := b) (p := .nilp) (buf := .snil) (.inl rfl) h3
  have hw1 : IntKind.i64.wrap 0 = 0 := by decide
  have hd : decide ((n : Int) < 0) = false := by simp
  have hbk : BKept b G (G.put b (.cells [bldP b, .snil])) := fun i o hi hb _ => by rw [put_ne _ _ _ _ hb]; exact hi
  by_cases h0 : n = 0
  · subst h0
    refine ACalls.of_code (X := { pure := pu0 }) pu0_ok Tryd.func74 (by kernel_rfl) rfl (by kernel_rfl) (Nat.le_of_ble_eq_true rfl) ?_
    simp -implicitDefEqProofs only [go_sem, tys, regs0, Nat.reduceEqDiff, Nat.reduceAdd, Nat.reduceLeDiff, Nat.reduceLT, Nat.reduceMul, Int.natCast_one, Int.natCast_zero, Int.reduceEq, Int.reduceLT, Int.reduceLE, Int.reduceAdd, Int.reduceSub, Int.reduceToNat, UInt8.reduceToNat, Tryd.f74]
    refine hc.next1 ?_
    simp -implicitDefEqProofs only [go_sem, tys, regs0, Nat.reduceEqDiff, Nat.reduceAdd, Nat.reduceLeDiff, Nat.reduceLT, Nat.reduceMul, Int.natCast_one, Int.natCast_zero, Int.reduceEq, Int.reduceLT, Int.reduceLE, Int.reduceAdd, Int.reduceSub, Int.reduceToNat, UInt8.reduceToNat, hw1]
    exact Done.now ⟨rfl, ⟨hs.put' hb _, hb, _, _, put_same _ _ _, .inr rfl, .inl ⟨rfl, rfl⟩⟩, hbk⟩
  · have hd2 : decide ((0 : Int) < n) = true := by simp; omega
    refine ACalls.of_code (X := { pure := pu0 }) pu0_ok Tryd.func74 (by kernel_rfl) rfl (by kernel_rfl) (Nat.le_of_ble_eq_true rfl) ?_
    simp -implicitDefEqProofs only [go_sem, tys, regs0, Nat.reduceEqDiff, Nat.reduceAdd, Nat.reduceLeDiff, Nat.reduceLT, Nat.reduceMul, Int.natCast_one, Int.natCast_zero, Int.reduceEq, Int.reduceLT, Int.reduceLE, Int.reduceAdd, Int.reduceSub, Int.reduceToNat, UInt8.reduceToNat, Tryd.f74]
    refine hc.next1 ?_
    simp -implicitDefEqProofs only [go_sem, tys, regs0, Nat.reduceEqDiff, Nat.reduceAdd, Nat.reduceLeDiff, Nat.reduceLT, Nat.reduceMul, Int.natCast_one, Int.natCast_zero, Int.reduceEq, Int.reduceLT, Int.reduceLE, Int.reduceAdd, Int.reduceSub, Int.reduceToNat, UInt8.reduceToNat, hw1, hd, hd2]
    refine (bldgrow_calls (put_same _ _ _) hn).mono ?_
    rintro x G' ⟨rfl, t, ht, rfl⟩
    have n1 := (heap_none ht).1
    have n3 := (heap_none ht).2.2
    have n4 : H t = none := by
      cases hh : H t with
      | none => rfl
      | some x => have := hs t x hh; rw [n3] at this; cases this
    simp -implicitDefEqProofs only [go_sem, tys, regs0, Nat.reduceEqDiff, Nat.reduceAdd, Nat.reduceLeDiff, Nat.reduceLT, Nat.reduceMul, Int.natCast_one, Int.natCast_zero, Int.reduceEq, Int.reduceLT, Int.reduceLE, Int.reduceAdd, Int.reduceSub, Int.reduceToNat, UInt8.reduceToNat]
    refine Done.now ⟨rfl, ⟨((hs.put' hb _).put' n4 _).put' hb _, hb, _, _, put_same _ _ _, .inr rfl, .inr ⟨t, rfl, n4, by rw [put_ne _ _ _ _ n1, put_same]; rfl, n1, fun e => by simp [h0] at e⟩⟩, fun i o hi hb _ => ?_⟩
    have n5 : ¬ i = t := fun e => by subst e; rw [n3] at hi; cases hi
    rw [put_ne _ _ _ _ hb, put_ne _ _ _ _ n5, put_ne _ _ _ _ hb]; exact hi
/-! ### In passing -/
theorem writeString_k {g : Bool} {H G : Heap} {b : Nat} {l s : Bytes} (h : BldG g H G b l) (hl : l.length + s.length ≤ 140737488355328) {K : K1} (hK : ∀ G', BldG g H G' b (l ++ s) → BKept b G G' → K (.tup [.int .i64 s.length, .nilIface]) G') :
    ACalls Tryd.prog 69 [bldP b, .str s] G K := by
  refine (writeString_calls h hl).mono ?_
  rintro x G' ⟨rfl, h1, h2⟩
  exact hK G' h1 h2
theorem bldGrow_k {H G : Heap} {b n : Nat} (hs : H.Sub G) (hb : H b = none) (h3 : G b = some (.cells [.nilp, .snil])) (hn : n ≤ 140737488355328) {K : K1} (hK : ∀ G', BldG (!decide (n = 0)) H G' b [] → BKept b G G' → K (.tup []) G') :
    ACalls Tryd.prog 74 [bldP b, .int .i64 n] G K := by
  refine (bldGrow_calls hs hb h3 hn).mono ?_
  rintro x G' ⟨rfl, h1, h2⟩
  exact hK G' h1 h2
theorem bldString_k {g : Bool} {H G : Heap} {b : Nat} {l : Bytes} (h : BldG g H G b l) (hl : l.length ≤ 140737488355328) (hg : g = true → l ≠ []) {K : K1} (hK : K (.str l) G) : ACalls Tryd.prog 71 [bldP b] G K := (bldString_calls h hl hg).pure_next _ hK
theorem bldLen_k {g : Bool} {H G : Heap} {b : Nat} {l : Bytes} (h : BldG g H G b l) {K : K1} (hK : K (.int .i64 l.length) G) : ACalls Tryd.prog 70 [bldP b] G K := (bldLen_calls h).pure_next _ hK
end Go.Proofs
