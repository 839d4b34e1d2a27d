/- Walks: a sign is added to the automaton: what holds while a state is cut in two, in whatever order. -/
import Derived.Test.YtnheonhmnepifaaDoorAU2
namespace Go.Proofs
open Go Go.Abs
set_option linter.unusedSimpArgs false
set_option linter.unusedVariables false
set_option maxRecDepth 20000
theorem ready_mem {ops : Array Oper} {listed : Array Bool} {i : Nat} (h : i ∈ Region.ready .any ops listed) : i < ops.size ∧ listed.getD i true = false ∧ ∀ o, ops[i]? = some o → ∀ e ∈ o.after, Region.binds .any e = true → listed.getD e.on false = true := by
  unfold Region.ready at h
  rw [List.mem_filter, List.mem_range, Bool.and_eq_true] at h
  obtain ⟨h1, h2, h3⟩ := h
  refine ⟨h1, by simpa using h2, fun o ho e he hb => ?_⟩
  rw [ho] at h3
  simp only [Option.map_some, Option.getD_some] at h3
  have := (Array.all_eq_true'.1 h3) e he
  rw [hb] at this
  simpa using this
/-- Nothing is ready: all was done. -/
theorem ready_nil {ops : Array Oper} {listed : Array Bool} (hb : ((List.range ops.size).all fun i => (ops[i]?).all fun o => o.after.all fun e => decide (e.on < i)) = true) (hsz : listed.size = ops.size) (h : Region.ready .any ops listed = []) : ∀ i, i < ops.size → listed.getD i true = true := by
  intro i
  induction i using Nat.strongRecOn with
  | _ i ih =>
    intro hi
    cases hl : listed.getD i true with
    | true => rfl
    | false =>
      have hm : i ∈ Region.ready .any ops listed := by
        unfold Region.ready
        rw [List.mem_filter, List.mem_range, Bool.and_eq_true]
        refine ⟨hi, by rw [hl]; rfl, ?_⟩
        have ho : ops[i]? = some ops[i] := Array.getElem?_eq_getElem hi
        rw [ho]
        simp only [Option.map_some, Option.getD_some]
        rw [Array.all_eq_true']
        intro e he
        have h1 := List.all_eq_true.1 hb i (List.mem_range.2 hi)
        rw [ho] at h1
        have h2 := (Array.all_eq_true'.1 (show ops[i].after.all _ = true from h1)) e he
        rw [decide_eq_true_eq] at h2
        have h3 := ih e.on h2 (by omega)
        have h4 : listed.getD e.on false = true := by
          have hlt : e.on < listed.size := by
            omega
          rw [Array.getD_eq_getD_getElem?, Array.getElem?_eq_getElem hlt] at h3 ⊢
          exact h3
        rw [h4]; simp
      rw [h] at hm
      cases hm
theorem getD_setB {listed : Array Bool} {i k : Nat} (h : i < listed.size) : (listed.setIfInBounds i true).getD k false = if k = i then true else listed.getD k false := by
  rw [Array.getD_eq_getD_getElem?, Array.getD_eq_getD_getElem?, Array.getElem?_setIfInBounds]
  by_cases e : i = k
  · subst e; simp [h]
  · rw [if_neg e, if_neg (fun x => e x.symm)]
theorem getD_unl {listed : Array Bool} {i : Nat} (h : listed.getD i true = false) : listed.getD i false = false := by
  rw [Array.getD_eq_getD_getElem?] at h ⊢
  cases hh : listed[i]? with
  | none => rw [hh] at h; cases h
  | some b => rw [hh] at h; exact h
/-- What the operations that only tell something tell. -/
def tv13 (pA V vp pS lp lp1 vf vl ve : AV) (W : Nat) : Nat → Option (Nat × AV)
  | 0 => some (114, pA)
  | 1 => some (115, pA)
  | 2 => some (116, pA)
  | 3 => some (117, pA)
  | 4 => some (118, V)
  | 5 => some (119, pA)
  | 6 => some (120, pA)
  | 7 => some (121, pA)
  | 8 => some (122, V)
  | 9 => some (123, vp)
  | 10 => some (124, pS)
  | 11 => some (125, pS)
  | 12 => some (126, lp)
  | 13 => some (127, lp1)
  | 14 => some (128, .ptr W 1)
  | 15 => some (129, vf)
  | 16 => some (130, .ptr W 2)
  | 17 => some (131, vl)
  | 18 => some (132, .sl [] .exact)
  | 19 => some (133, .ptr W 3)
  | 20 => some (134, ve)
  | 25 => some (139, pA)
  | 26 => some (140, pA)
  | _ => none
theorem tv13_reg {pA V vp pS lp lp1 vf vl ve : AV} {W k t : Nat} {v : AV} (h : tv13 pA V vp pS lp lp1 vf vl ve W k = some (t, v)) : t = 114 + k ∧ k ≤ 26 ∧ ¬ k = 21 ∧ ¬ k = 22 ∧ ¬ k = 23 ∧ ¬ k = 24 := by
  unfold tv13 at h
  split at h <;> simp only [Option.some.injEq, Prod.mk.injEq, reduceCtorEq] at h
  all_goals (obtain ⟨rfl, -⟩ := h; refine ⟨rfl, ?_⟩; omega)
structure I13 (tv : Nat → Option (Nat × AV)) (fx : List (Nat × AV)) (G0 : Heap) (Ap : AV → Heap → Prop) (c3 : AV → List AV) (sid N A : Nat) (FS : List AV) (last : AV) (listed : Array Bool) (r : Regs) (H : Heap) : Prop where
  size : listed.size = 28
  fix : agrees r fx
  val : ∀ k t v, tv k = some (t, v) → listed.getD k false = true → r t = v
  cl : (listed.getD 22 false = true → listed.getD 21 false = true) ∧ (listed.getD 23 false = true → listed.getD 22 false = true) ∧ (listed.getD 24 false = true → listed.getD 23 false = true) ∧ (listed.getD 27 false = true → listed.getD 24 false = true)
  all : listed.getD 22 false = true → listed.getD 8 false = true ∧ listed.getD 12 false = true ∧ listed.getD 15 false = true ∧ listed.getD 17 false = true
  all2 : listed.getD 24 false = true → listed.getD 4 false = true
  h20 : listed.getD 21 false = true → listed.getD 20 false = true
  h0 : listed.getD 21 false = false → H = G0
  h1 : listed.getD 21 false = true → ∃ v' G1, Ap v' G1 ∧ r 135 = v' ∧ (listed.getD 22 false = true → r 136 = .agg (c3 v')) ∧ (listed.getD 23 false = true → r 137 = .sl [c3 v'] .exact) ∧ (listed.getD 24 false = false → H = G1) ∧
    (listed.getD 24 false = true → ∃ s', G1 s' = none ∧ r 138 = .ms s' 0 (N + 1) 4 ∧ (listed.getD 27 false = false → H = (G1.del sid).put s' (.cells (FS ++ c3 v'))) ∧ (listed.getD 27 false = true → H = ((G1.del sid).put s' (.cells (FS ++ c3 v'))).put A (.cells [.ms s' 0 (N + 1) 4, last])))
theorem agrees_upd {r : Regs} {t : Nat} {v : AV} : ∀ {fx : List (Nat × AV)}, (∀ p ∈ fx, ¬ p.1 = t) → agrees r fx → agrees (upd r t v) fx
  | [], _, _ => trivial
  | p :: fx, hn, h => ⟨by rw [upd_ne _ _ _ _ (hn p (List.mem_cons_self ..))]; exact h.1, agrees_upd (fun q hq => hn q (List.mem_cons_of_mem _ hq)) h.2⟩
/-- An operation that only tells something was done. -/
theorem I13.step {pA V vp pS lp lp1 vf vl ve : AV} {W : Nat} {fx : List (Nat × AV)} {G0 : Heap} {Ap : AV → Heap → Prop} {c3 : AV → List AV} {sid N A : Nat} {FS : List AV} {last : AV} {listed : Array Bool} {r : Regs} {H : Heap}
    (h : I13 (tv13 pA V vp pS lp lp1 vf vl ve W) fx G0 Ap c3 sid N A FS last listed r H) (hfx : ∀ p ∈ fx, p.1 < 114) {k t : Nat} {v : AV} (hk : tv13 pA V vp pS lp lp1 vf vl ve W k = some (t, v)) : I13 (tv13 pA V vp pS lp lp1 vf vl ve W) fx G0 Ap c3 sid N A FS last (listed.setIfInBounds k true) (upd r t v) H := by
  obtain ⟨e1, e2, e3, e4, e5, e6⟩ := tv13_reg hk
  have hg : ∀ j, (listed.setIfInBounds k true).getD j false = if j = k then true else listed.getD j false := fun j => getD_setB (by rw [h.size]; omega)
  have g21 : (listed.setIfInBounds k true).getD 21 false = listed.getD 21 false := by rw [hg, if_neg (fun e => e3 e.symm)]
  have g22 : (listed.setIfInBounds k true).getD 22 false = listed.getD 22 false := by rw [hg, if_neg (fun e => e4 e.symm)]
  have g23 : (listed.setIfInBounds k true).getD 23 false = listed.getD 23 false := by rw [hg, if_neg (fun e => e5 e.symm)]
  have g24 : (listed.setIfInBounds k true).getD 24 false = listed.getD 24 false := by rw [hg, if_neg (fun e => e6 e.symm)]
  have g27 : (listed.setIfInBounds k true).getD 27 false = listed.getD 27 false := by rw [hg, if_neg (fun e => by omega)]
  have up : ∀ j, listed.getD j false = true → (listed.setIfInBounds k true).getD j false = true := fun j hj => by rw [hg]; split; rfl; exact hj
  have n1 : ¬ 135 = t := by omega
  have n2 : ¬ 136 = t := by omega
  have n3 : ¬ 137 = t := by omega
  have n4 : ¬ 138 = t := by omega
  refine ⟨by rw [Array.size_setIfInBounds]; exact h.size, agrees_upd (fun p hp e => by have := hfx p hp; omega) h.fix, fun j u w hj hl => ?_, ?_, fun h22 => ?_, fun h24 => ?_, fun h21 => ?_, fun h21 => ?_, fun h21 => ?_⟩
  · have hr := tv13_reg hj
    by_cases ej : j = k
    · subst ej
      rw [hk] at hj
      cases hj
      rw [upd_same]
    · rw [upd_ne _ _ _ _ (by omega)]
      rw [hg, if_neg ej] at hl
      exact h.val j u w hj hl
  · rw [g21, g22, g23, g24, g27]; exact h.cl
  · rw [g22] at h22
    obtain ⟨a, b, c, d⟩ := h.all h22
    exact ⟨up _ a, up _ b, up _ c, up _ d⟩
  · rw [g24] at h24
    exact up _ (h.all2 h24)
  · rw [g21] at h21
    exact up _ (h.h20 h21)
  · rw [g21] at h21
    exact h.h0 h21
  · rw [g21] at h21
    rw [g22, g23, g24, g27, upd_ne _ _ _ _ n1, upd_ne _ _ _ _ n2, upd_ne _ _ _ _ n3, upd_ne _ _ _ _ n4]
    exact h.h1 h21
/-- While loads are to come, what was there is there. -/
theorem I13.heap {tv : Nat → Option (Nat × AV)} {fx : List (Nat × AV)} {G0 : Heap} {Ap : AV → Heap → Prop} {c3 : AV → List AV} {sid N A : Nat} {FS : List AV} {last : AV} {listed : Array Bool} {r : Regs} {H : Heap}
    (h : I13 tv fx G0 Ap c3 sid N A FS last listed r H) (hAp : ∀ v' G1, Ap v' G1 → G0.Sub G1) {k : Nat} (hk : k = 4 ∨ k = 8 ∨ k = 12 ∨ k = 15 ∨ k = 17 ∨ k = 20) (hu : listed.getD k false = false) : G0.Sub H := by
  cases h21 : listed.getD 21 false with
  | false => rw [h.h0 h21]; exact Heap.Sub.rfl' _
  | true =>
    obtain ⟨v', G1, h2, _, _, _, h5, _⟩ := h.h1 h21
    have h24 : listed.getD 24 false = false := by
      cases h24 : listed.getD 24 false with
      | false => rfl
      | true =>
        have h22 := h.cl.2.1 (h.cl.2.2.1 h24)
        obtain ⟨a, b, c, d⟩ := h.all h22
        have e := h.all2 h24
        have f := h.h20 h21
        rcases hk with rfl | rfl | rfl | rfl | rfl | rfl <;> simp_all
    rw [h5 h24]
    exact hAp v' G1 h2
theorem aopI_of {P : Program} {X : Steer} {ops : Array Oper} {i : Nat} {K : Regs → Heap → Prop} {r : Regs} {H : Heap} {d : Option Tmp} {op : Op} {ty : TypeId} {pos : String} {after : Array Edge} (h : ops[i]? = some ⟨d, op, ty, pos, after, none⟩) (hh : aop P X.pure (msOf X d) r H op fun v H' => K (put r d v) H') : aopI P X ops i K r H := by
  unfold aopI
  rw [h]
  exact hh
theorem I13.base {pA V vp pS lp lp1 vf vl ve : AV} {W : Nat} {fx : List (Nat × AV)} {G0 : Heap} {Ap : AV → Heap → Prop} {c3 : AV → List AV} {sid N A : Nat} {FS : List AV} {last : AV} {listed : Array Bool} {r : Regs} {H : Heap}
    (h : I13 (tv13 pA V vp pS lp lp1 vf vl ve W) fx G0 Ap c3 sid N A FS last listed r H) (hfx : ∀ p ∈ fx, p.1 < 114) {k t : Nat} {v : AV} (hk : k = 21 ∧ t = 135 ∨ k = 22 ∧ t = 136 ∨ k = 23 ∧ t = 137 ∨ k = 24 ∧ t = 138) :
    (listed.setIfInBounds k true).size = 28 ∧ agrees (upd r t v) fx ∧ (∀ j u w, tv13 pA V vp pS lp lp1 vf vl ve W j = some (u, w) → (listed.setIfInBounds k true).getD j false = true → upd r t v u = w) ∧ (∀ j, (listed.setIfInBounds k true).getD j false = if j = k then true else listed.getD j false) := by
  have hg : ∀ j, (listed.setIfInBounds k true).getD j false = if j = k then true else listed.getD j false := fun j => getD_setB (by rw [h.size]; omega)
  refine ⟨by rw [Array.size_setIfInBounds]; exact h.size, agrees_upd (fun p hp e => by have := hfx p hp; omega) h.fix, fun j u w hj hl => ?_, hg⟩
  have hr := tv13_reg hj
  rw [hg, if_neg (by omega)] at hl
  rw [upd_ne _ _ _ _ (by omega)]
  exact h.val j u w hj hl
theorem AH.grow {H G G' : Heap} {A sid : Nat} {S : List Ste} {last : Int} {ev : Nat → AV} (h : AH H G A sid S last ev) (hs : G.Sub G') : AH H G' A sid S last ev :=
  ⟨fun i o hi => hs i o (h.sub i o hi), h.nA, h.nS, h.AS, hs _ _ h.hA, hs _ _ h.hS, fun s hs' => (h.ed s hs').mono fun e n he => by rw [((h.ed s hs').there he).1]; exact hs _ _ ((h.ed s hs').there he).1, h.fr, h.nd⟩
end Go.Proofs
