/-
  An abstract machine over pure values, and that it tells what the program does (part 4 of 4).
-/
import Derived.Test.YtnheonhmnepifaaAbs3
import Derived.Carry
import Derived.Deep.Slices
import Derived.ChangeSame

/-
  Code; loops; calls of functions.
-/
namespace Go.Abs
open Go.RowKit
set_option linter.unusedSimpArgs false
set_option linter.unusedVariables false

section
variable {P : Program} {C C' : Cx} {H H' : Heap} {w w' : World}

def ExitOK : Exit → AExit → Prop
  | .normal, .normal => True
  | .exit i, .exit j => i = j
  | .ret, .ret => True
  | _, _ => False

/-- What is asked behind code. -/
def CPost (C : Cx) (H : Heap) (w : World) (N : Nat) (K : KC) (e : Exit) (a' : Act) (w' : World) : Prop :=
  ∃ ae r' C' H', ExitOK e ae ∧ Rel C' H' w' ∧ Le C H w C' H' w' ∧ StOK C' H' w' N r' a' ∧ K ae r' H'
theorem CPost.trans (hle : Le C H w C' H' w') {N : Nat} {K : KC} {e : Exit} {a' : Act} {w2 : World} (h : CPost C' H' w' N K e a' w2) : CPost C H w N K e a' w2 := by
  obtain ⟨ae, r', C2, H2, h0, h1, h2, h3, h4⟩ := h
  exact ⟨ae, r', C2, H2, h0, h1, hle.trans h2, h3, h4⟩
theorem CPost.mono {N : Nat} {K K' : KC} (hK : ∀ e r H, K e r H → K' e r H) {e : Exit} {a' : Act} {w2 : World} (h : CPost C H w N K e a' w2) : CPost C H w N K' e a' w2 := by
  obtain ⟨ae, r', C2, H2, h0, h1, h2, h3, h4⟩ := h
  exact ⟨ae, r', C2, H2, h0, h1, h2, h3, hK _ _ _ h4⟩

/-- What is asked of code once: slots in range, orders that stand for all. -/
def codeOK (P : Program) (X : Steer) (N : Nat) : Code → Bool
  | .region id ops draw => opsOK N ops.toList && (!draw || (P.follows .mixedOrders && okOrd P X.pure ops ops.size (Array.replicate ops.size false) ((X.orders id).getD [List.range ops.size])))
  | .seq a b => codeOK P X N a && codeOK P X N b
  | .cond _ a b => codeOK P X N a && codeOK P X N b
  | .block _ c => codeOK P X N c
  | .loop c => codeOK P X N c
  | _ => true

/-- A loop with a state beside the machine's. -/
theorem wp_loop_ix {ι : Type} {c : Code} {Q : Exit → Act → World → Prop} (I : ι → Act → World → Prop) (μ : ι → Nat)
    (round : ∀ i a w, I i a w → c.wp P (Exit.then (fun a' w' => ∃ j, I j a' w' ∧ μ j < μ i) Q) a w) : ∀ i a w, I i a w → (Code.loop c).wp P Q a w := by
  intro i a w h₀ b k cs
  have key : ∀ n i a w, μ i = n → I i a w → ∃ e a' w', Q e a' w' ∧ Arrives P (lone (b.at a (.code c :: .inLoop c :: k)) cs w) b k cs e a' w' := by
    intro n
    induction n using Nat.strongRecOn with
    | _ n ih =>
      intro i a w hn hI
      obtain ⟨e, a₁, w₁, hq, harr⟩ := round i a w hI b (.inLoop c :: k) cs
      cases e with
      | normal =>
        obtain ⟨j, hI₁, hlt⟩ := hq
        obtain ⟨e₂, a₂, w₂, hq₂, harr₂⟩ := ih (μ j) (hn ▸ hlt) j a₁ w₁ rfl hI₁
        exact ⟨e₂, a₂, w₂, hq₂, .of_steps (Steps.trans harr (.one step_inLoop)) harr₂⟩
      | exit id => exact ⟨_, a₁, w₁, hq, .pass (x := .inLoop c) rfl (fun _ _ => .inl (by simp)) harr⟩
      | goto l => exact ⟨_, a₁, w₁, hq, .pass (x := .inLoop c) rfl (fun _ _ => .inl (by simp)) harr⟩
      | ret => exact ⟨_, a₁, w₁, hq, .pass (x := .inLoop c) rfl (fun _ _ => .inl (by simp)) harr⟩
      | panic ch => exact ⟨_, a₁, w₁, hq, .pass (x := .inLoop c) rfl (fun _ _ => .inl (by simp)) harr⟩
      | outgrown => exact ⟨_, a₁, w₁, hq, .pass (x := .inLoop c) rfl (fun _ _ => .inl (by simp)) harr⟩
  obtain ⟨e, a', w', hq, harr⟩ := key _ i a w rfl h₀
  exact ⟨e, a', w', hq, .of_steps (.one step_loop) harr⟩

theorem noSel {ops : Array Oper} : True := trivial

theorem acode_sound {X : Steer} (hpu : PuOK P X.pure) {N : Nat} : ∀ (c : Code), codeOK P X N c = true → ∀ (K : KC) (r : Regs) (C : Cx) (H : Heap) (w : World) (a : Act), acode P X c K r H → Rel C H w → StOK C H w N r a → c.wp P (CPost C H w N K) a w := by
  intro c
  induction c with
  | skip => intro _ K r C H w a h hrel hst; exact wp_skip ⟨.normal, r, C, H, trivial, hrel, Le.refl _ _ _, hst, h⟩
  | region id ops draw =>
    intro hok K r C H w a h hrel hst
    simp only [codeOK, Bool.and_eq_true] at hok
    obtain ⟨hN, hd⟩ := hok
    have hQ : ∀ a' w', NPost C H w N (K .normal) a' w' → CPost C H w N K .normal a' w' := fun a' w' ⟨r', C', H', h1, h2, h3, h4⟩ => ⟨.normal, r', C', H', trivial, h1, h2, h3, h4⟩
    cases draw with
    | false =>
      have h : aops P X ops.toList (List.range ops.size) r H (K .normal) := by
        simpa only [acode] using h
      exact wp_region (aops_sound hpu hN _ r C H w a _ h hrel hst hQ)
    | true =>
      simp only [Bool.not_true, Bool.false_or, Bool.and_eq_true] at hd
      obtain ⟨hm, hd⟩ := hd
      have h : ∀ o ∈ (X.orders id).getD [List.range ops.size], aops P X ops.toList o r H (K .normal) := by
        simp only [acode] at h
        split at h
        · rename_i os _ ho
          rw [ho]; exact h
        · rename_i hno
          cases ho : X.orders id with
          | none =>
            intro o hmem
            simp only [Option.getD_none, List.mem_singleton] at hmem
            subst hmem; exact h
          | some os => exact absurd ho (hno os rfl)
      obtain ⟨d1, d2⟩ := Le.drew hrel
      refine wp_region_any hm (aAny_sound hpu hN _ _ r C H w.drew a _ (okOrd_sound _ _ _ r H hd h) d2 (hst.mono d1) fun a' w' hp => hQ a' w' (hp.trans d1))
  | seq x y ihx ihy =>
    intro hok K r C H w a h hrel hst
    simp only [codeOK, Bool.and_eq_true] at hok
    refine wp_seq (wp_mono (ihx hok.1 _ r C H w a h hrel hst) fun e a' w' hp => ?_)
    obtain ⟨ae, r', C', H', h0, h1, h2, h3, h4⟩ := hp
    cases e <;> cases ae <;> simp only [ExitOK] at h0
    · exact wp_mono (ihy hok.2 K r' C' H' w' a' h4 h1 h3) fun e a2 w2 hp => hp.trans h2
    · subst h0; exact ⟨.exit _, r', C', H', rfl, h1, h2, h3, h4⟩
    · exact ⟨.ret, r', C', H', trivial, h1, h2, h3, h4⟩
  | cond c x y ihx ihy =>
    intro hok K r C H w a h hrel hst
    simp only [codeOK, Bool.and_eq_true] at hok
    have h : condA (ev r c) (acode P X x K r H) (acode P X y K r H) := h
    have hc := ev_sound hst.regs c
    unfold condA at h
    split at h
    · rename_i t ht
      rw [ht] at hc
      exact wp_cond_split (repr_bool hc) (fun e => ihx hok.1 K r C H w a (h.1 e) hrel hst) (fun e => ihy hok.2 K r C H w a (h.2 e) hrel hst)
    · exact h.elim
  | block id c ih =>
    intro hok K r C H w a h hrel hst
    refine wp_block (wp_mono (ih hok _ r C H w a h hrel hst) fun e a' w' hp => ?_)
    obtain ⟨ae, r', C', H', h0, h1, h2, h3, h4⟩ := hp
    cases e <;> cases ae <;> simp only [ExitOK] at h0
    · exact ⟨.normal, r', C', H', trivial, h1, h2, h3, h4⟩
    · subst h0
      simp only [Exit.inBlock]
      simp only [KC.blk] at h4
      split
      · rename_i he; simp only [he, if_true] at h4; exact ⟨.normal, r', C', H', trivial, h1, h2, h3, h4⟩
      · rename_i he; simp only [he, if_false] at h4; exact ⟨.exit _, r', C', H', rfl, h1, h2, h3, h4⟩
    · exact ⟨.ret, r', C', H', trivial, h1, h2, h3, h4⟩
  | loop c ih =>
    intro hok K r C H w a h hrel hst
    obtain ⟨σ, view, I, μ, s0, g1, g2, g3⟩ : loopG (acode P X c) K r H := h
    refine wp_loop_ix (ι := σ) (fun s a' w' => ∃ r' C' H', Rel C' H' w' ∧ Le C H w C' H' w' ∧ StOK C' H' w' N r' a' ∧ agrees r' (view s) ∧ I s H') μ (fun s a' w' hI => ?_) s0 a w ⟨r, C, H, hrel, Le.refl _ _ _, hst, g1, g2⟩
    obtain ⟨r', C', H', h1, h2, h3, h4, h5⟩ := hI
    refine wp_mono (ih hok _ r' C' H' w' a' (g3 s r' H' h4 h5) h1 h3) fun e a2 w2 hp => ?_
    obtain ⟨ae, r2, C2, H2, k0, k1, k2, k3, k4⟩ := hp
    cases e <;> cases ae <;> simp only [ExitOK] at k0
    · obtain ⟨s', s1, s2, s3⟩ := k4
      exact ⟨s', ⟨r2, C2, H2, k1, h2.trans k2, k3, s1, s2⟩, s3⟩
    · subst k0; exact ⟨.exit _, r2, C2, H2, rfl, k1, h2.trans k2, k3, k4⟩
    · exact ⟨.ret, r2, C2, H2, trivial, k1, h2.trans k2, k3, k4⟩
  | rangeFunc => intro _ K r C H w a h; exact h.elim
  | exit id => intro _ K r C H w a h hrel hst; exact wp_exit ⟨.exit id, r, C, H, rfl, hrel, Le.refl _ _ _, hst, h⟩
  | scope => intro _ K r C H w a h; exact h.elim
  | label l => intro _ K r C H w a h hrel hst; exact wp_label ⟨.normal, r, C, H, trivial, hrel, Le.refl _ _ _, hst, h⟩
  | goto => intro _ K r C H w a h; exact h.elim
  | ret => intro _ K r C H w a h hrel hst; exact wp_ret ⟨.ret, r, C, H, trivial, hrel, Le.refl _ _ _, hst, h⟩
  | refuse => intro _ K r C H w a h; exact h.elim
end
end Go.Abs

/-
  A call of a function with a body; what is known otherwise at the end (a slice that is written no more; what is forgotten).
-/
namespace Go.Abs
open Go.RowKit
set_option linter.unusedSimpArgs false
set_option linter.unusedVariables false

section
variable {P : Program} {C C' : Cx} {H H' : Heap} {w w' : World}

/-- The same state of the machine, seen in another way. -/
def Ghost (x : AV) (H : Heap) (x' : AV) (H' : Heap) : Prop :=
  ∀ C w v, Rel C H w → Repr C H w x v → ∃ C', Rel C' H' w ∧ Le C H w C' H' w ∧ Repr C' H' w x' v
def Done (R : K1) (x : AV) (H : Heap) : Prop := ∃ x' H', Ghost x H x' H' ∧ R x' H'
theorem Ghost.refl (x : AV) (H : Heap) : Ghost x H x H := fun C w v h1 h2 => ⟨C, h1, Le.refl _ _ _, h2⟩
theorem Ghost.forget {x : AV} {H H' : Heap} (h : H'.Sub H) : Ghost x H x H' := fun C w v h1 h2 => by
  obtain ⟨f1, f2⟩ := Le.forget h1 h
  exact ⟨C, f2, f1, h2.mono f1⟩
theorem Ghost.trans {x x' x'' : AV} {H H' H'' : Heap} (h : Ghost x H x' H') (k : Ghost x' H' x'' H'') : Ghost x H x'' H'' := fun C w v h1 h2 => by
  obtain ⟨C', a1, a2, a3⟩ := h C w v h1 h2
  obtain ⟨C'', b1, b2, b3⟩ := k C' w v a1 a3
  exact ⟨C'', b1, a2.trans b2, b3⟩
theorem Done.now {R : K1} {x : AV} {H : Heap} (h : R x H) : Done R x H := ⟨x, H, Ghost.refl _ _, h⟩
theorem Done.drop {R : K1} {x : AV} {H H' : Heap} (hs : H'.Sub H) (h : R x H') : Done R x H := ⟨x, H', Ghost.forget hs, h⟩

/-- The results of a function. -/
def aRes (P : Program) : List ResultVar → Regs → Heap → (List AV → Prop) → Prop
  | [], _, _, K => K []
  | .tmp t :: l, r, H, K => aRes P l r H fun vs => K (r t :: vs)
  | .cell a t :: l, r, H, K => aLoad P t (r a) H fun v _ => aRes P l r H fun vs => K (v :: vs)
def oneOr : List AV → AV
  | [v] => v
  | vs => .tup vs

theorem load_val (hrel : Rel C H w) {t : TypeId} {x : AV} {u : Value} (hx : Repr C H w x u) {K : K1} (h : aLoad P t x H K) : ∃ z v ad, u = .pointer (some ad) ∧ (loadVar t ad).run P w = .ok v w ∧ Repr C H w z v ∧ K z H := by
  unfold aLoad at h
  split at h
  · rename_i i hi
    split at h
    · rename_i id off
      unfold cellsAt at h
      split at h
      · rename_i cs hcs
        obtain ⟨z, hz, hK⟩ := so_some h
        cases hx with
        | ptr _ _ hid =>
        obtain ⟨-, -, arr, ty, fr, a1, a2, a3, a4⟩ := hrel.live id _ hcs
        obtain ⟨v, v1, v2⟩ := readC_sound (P := P) (C := C) (H := H) (w := w) (b := C.β id) (off := off) (us := fun j => arr.getD (off + j) default) hi (fun j hj => by
          simp only [List.length_drop] at hj
          refine ⟨cell_of_cells a1 (by omega), (a3 _ (by omega)).1, ?_⟩
          rw [getD_drop]; exact (a3 _ (by omega)).2) hz
        exact ⟨z, v, _, rfl, v1, v2, hK⟩
      · exact h.elim
    · rename_i cs
      obtain ⟨z, hz, hK⟩ := so_some h
      cases hx with
      | rptr _ b off us hc hr =>
      obtain ⟨v, v1, v2⟩ := readC_sound (P := P) (C := C) (H := H) (w := w) hi (fun j hj => ⟨(hc j hj).1, (hc j hj).2.1, hr j hj⟩) hz
      exact ⟨z, v, _, rfl, v1, v2, hK⟩
    · exact h.elim
  · exact h.elim

theorem aRes_sound (hrel : Rel C H w) {r : Regs} {tmps : Array Value} (hr : RegsOK C H w r tmps) : ∀ (l : List ResultVar) (K : List AV → Prop), aRes P l r H K →
    ∃ xs vs, (l.mapM (m := Sem) fun | .tmp t => pure (tmps.getD t undef) | .cell a t => do loadVar t (← asAddr (tmps.getD a undef))).run P w = .ok vs w ∧ ReprL C H w xs vs ∧ K xs := by
  intro l
  induction l with
  | nil => intro K h; exact ⟨[], [], rfl, ⟨rfl, by simp⟩, h⟩
  | cons x l ih =>
    intro K h
    have cons : ∀ {x : AV} {v : Value} {xs : List AV} {vs : List Value}, Repr C H w x v → ReprL C H w xs vs → ReprL C H w (x :: xs) (v :: vs) := fun {x v xs vs} h1 h2 => ⟨by simp [h2.1], fun j hj => by
      cases j with
      | zero => exact h1
      | succ j => simpa using h2.2 j (by simpa using hj)⟩
    cases x with
    | tmp t =>
      obtain ⟨xs, vs, h1, h2, h3⟩ := ih _ h
      exact ⟨r t :: xs, tmps.getD t undef :: vs, by simp only [List.mapM_cons, Sem.run_bind, Sem.run_pure, Result.andThen_ok, h1], cons (hr t) h2, h3⟩
    | cell a t =>
      obtain ⟨z, v, ad, g1, g2, g3, g4⟩ := load_val hrel (hr a) h
      obtain ⟨xs, vs, h1, h2, h3⟩ := ih _ g4
      refine ⟨z :: xs, v :: vs, ?_, cons g3 h2, h3⟩
      have e : (asAddr (tmps.getD a undef)).run P w = .ok ad w := by rw [g1]; rfl
      simp only [List.mapM_cons, Sem.run_bind, Sem.run_pure, Result.andThen_ok, h1, e, g2]

theorem results_sound (hrel : Rel C H w) {fn : Func} {r : Regs} {tmps : Array Value} (hr : RegsOK C H w r tmps) {K : List AV → Prop} (h : aRes P fn.results.toList r H K) :
    ∃ xs v, (results fn tmps).run P w = .ok v w ∧ Repr C H w (oneOr xs) v ∧ K xs := by
  obtain ⟨xs, vs, h1, h2, h3⟩ := aRes_sound hrel hr _ _ h
  have hm : (fn.results.mapM (m := Sem) fun | .tmp t => pure (tmps.getD t undef) | .cell a t => do loadVar t (← asAddr (tmps.getD a undef))).run P w = .ok vs.toArray w := by
    rw [Array.mapM_eq_mapM_toList, Sem.run_map, h1]; rfl
  have hrun : (results fn tmps).run P w = .ok (if h : vs.toArray.size = 1 then vs.toArray[0] else .tuple vs.toArray) w := by
    unfold results
    rw [Sem.run_bind]
    exact congrArg (fun r : Result (Array Value) => r.andThen fun vs w' => (pure (if h : vs.size = 1 then vs[0] else .tuple vs) : Sem Value).run P w') hm
  refine ⟨xs, _, hrun, ?_, h3⟩
  obtain ⟨l1, l2⟩ := h2
  cases xs with
  | nil =>
    have : vs = [] := List.eq_nil_of_length_eq_zero l1.symm
    subst this
    exact .tup [] #[] rfl (by simp)
  | cons x xs =>
    cases vs with
    | nil => simp at l1
    | cons v vs =>
      cases xs with
      | nil =>
        cases vs with
        | nil => simpa [oneOr] using l2 0 (by simp)
        | cons => simp at l1
      | cons y ys =>
        cases vs with
        | nil => simp at l1
        | cons u us =>
          have hs : ¬ (v :: u :: us).toArray.size = 1 := by simp
          rw [dif_neg hs]
          refine .tup _ _ (by simpa using l1) (fun j hj => ?_)
          have := l2 j hj
          simpa [List.getD, Array.getD_eq_getD_getElem?] using this

def regs0 (args : List AV) : Regs := fun t => args.getD t (.tup [])

/-- What is asked where a function returns. -/
def RetK (P : Program) (rs : List ResultVar) (R : K1) : KC := fun e r H =>
  match e with
  | .exit _ => False
  | _ => aRes P rs r H fun xs => Done R (oneOr xs) H

theorem callFunc_enter {f : FuncId} {fn : Func} (hf : P.funcs[f]? = some fn) (hn : (fn.name == "runtime.NumGoroutine") = false) (hb : fn.body.isNone = false) (args : Array Value) : (callFunc f args).run P w = .ok (.enter f args) w := by
  have hn' : ¬ fn.name = "runtime.NumGoroutine" := by simpa using hn
  have hb' : ¬ fn.body = none := by intro h; rw [h] at hb; cases hb
  simp [callFunc, hf, hn', hb']

/-- A function by its code. -/
theorem ACalls.of_code {f : FuncId} {fn : Func} {c : Code} {X : Steer} (hpu : PuOK P X.pure) {args : List AV} {R : K1} (hf : P.funcs[f]? = some fn) (hn : (fn.name == "runtime.NumGoroutine") = false) (hb : fn.body = some c) (hok : codeOK P X fn.ntmps c = true) (hl : args.length ≤ fn.ntmps)
    (h : acode P X c (RetK P fn.results.toList R) (regs0 args) H) : ACalls P f args H R := by
  intro C w vs hrel hv
  rw [callFunc_enter hf hn (by rw [hb]; rfl)]
  refine ⟨rfl, calls_of_wp hf hb ?_⟩
  have hst : StOK C H w fn.ntmps (regs0 args) { tmps := vs.toArray ++ Array.replicate (fn.ntmps - vs.toArray.size) undef, defers := [] } := by
    refine ⟨fun t => ?_, by simp [← hv.1]; omega, rfl⟩
    by_cases hlt : t < args.length
    · have e1 : regs0 args t = args.getD t .junk := by simp [regs0, List.getD, hlt]
      have e2 : (vs.toArray ++ Array.replicate (fn.ntmps - vs.toArray.size) undef).getD t undef = vs.getD t default := by
        have : t < vs.length := by rw [← hv.1]; exact hlt
        simp [Array.getD_eq_getD_getElem?, List.getD, Array.getElem?_append_left (show t < vs.toArray.size by simpa using this), this]
      rw [e1, e2]; exact hv.2 t hlt
    · have e1 : regs0 args t = .tup [] := by simp [regs0, List.getD, Nat.le_of_not_lt hlt]
      have e2 : (vs.toArray ++ Array.replicate (fn.ntmps - vs.toArray.size) undef).getD t undef = undef := by
        have hge : vs.toArray.size ≤ t := by rw [List.size_toArray, ← hv.1]; omega
        rw [Array.getD_eq_getD_getElem?, Array.getElem?_append_right hge, Array.getElem?_replicate]
        split <;> rfl
      rw [e1, e2]; exact .tup [] #[] rfl (by simp)
  refine wp_mono (acode_sound hpu c hok _ _ C H w _ h hrel hst) fun e a' w' hp => ?_
  obtain ⟨ae, r', C', H', h0, h1, h2, h3, h4⟩ := hp
  have fin : aRes P fn.results.toList r' H' (fun xs => Done R (oneOr xs) H') → a'.defers = [] ∧ ∃ v, (results fn a'.tmps).run P w' = .ok v w' ∧ Post C H w R (.returned v) w' := fun hres => by
    obtain ⟨xs, v, g1, g2, x', H2, g3, g4⟩ := results_sound (fn := fn) h1 h3.regs hres
    obtain ⟨C2, k1, k2, k3⟩ := g3 C' w' v h1 g2
    exact ⟨h3.defers, v, g1, C2, H2, x', v, rfl, k1, h2.trans k2, k3, g4⟩
  cases e <;> cases ae <;> simp only [ExitOK] at h0
  · exact fin h4
  · exact h4.elim
  · exact fin h4
end
end Go.Abs

/-
  The abstract machine's steps as equations, for simp.
-/
namespace Go.Abs
open Go.RowKit
set_option linter.unusedSimpArgs false
set_option linter.unusedVariables false

section
variable (P : Program) (X : Steer)

/-- An operation without what is of no account here; its guard names a slot. -/
structure SOp where
  dst : Option Nat
  op : Op
  guard : Option (Option Nat × Bool)
def gslot (all : List Oper) (g : Option (Nat × Bool)) : Option (Option Nat × Bool) :=
  match g with
  | none => none
  | some (j, b) => some ((all[j]?).bind (·.dst), b)
def strip (all : List Oper) : List Oper → List SOp
  | [] => []
  | o :: l => ⟨o.dst, o.op, gslot all o.guard⟩ :: strip all l
def guardS (v : AV) (want : Bool) (Ky Kn : Prop) : Prop :=
  match v with
  | .bool b => if b = want then Ky else Kn
  | .tup [] => Kn
  | _ => False
def wantedS (r : Regs) (g : Option (Option Nat × Bool)) (Ky Kn : Prop) : Prop :=
  match g with
  | none => Ky
  | some (some d, want) => guardS (r d) want Ky Kn
  | some (none, _) => False
def sops : List SOp → (Regs → Heap → Prop) → Regs → Heap → Prop
  | [], K, r, H => K r H
  | o :: l, K, r, H => wantedS r o.guard (aop P X.pure (msOf X o.dst) r H o.op fun v H' => sops l K (put r o.dst v) H') (sops l K (put r o.dst (.tup [])) H)
/-- What follows an operation. -/
def opK (l : List SOp) (K : Regs → Heap → Prop) (r : Regs) (d : Option Nat) : K1 := fun v H => sops P X l K (put r d v) H
theorem opK_eq (l : List SOp) (K : Regs → Heap → Prop) (r : Regs) (d : Option Nat) (v : AV) (H : Heap) : opK P X l K r d v H = sops P X l K (put r d v) H := rfl
theorem sops_nil (K : Regs → Heap → Prop) (r : Regs) (H : Heap) : sops P X [] K r H = K r H := rfl
theorem sops_cons (d : Option Nat) (op : Op) (g : Option (Option Nat × Bool)) (l : List SOp) (K : Regs → Heap → Prop) (r : Regs) (H : Heap) :
    sops P X (⟨d, op, g⟩ :: l) K r H = wantedS r g (aop P X.pure (msOf X d) r H op (opK P X l K r d)) (sops P X l K (put r d (.tup [])) H) := rfl

theorem aops_sops (all : List Oper) : ∀ (l : List Oper) (n : Nat) (r : Regs) (H : Heap) (K : Regs → Heap → Prop), all.drop n = l → aops P X all (List.range' n l.length) r H K = sops P X (strip all l) K r H := by
  intro l
  induction l with
  | nil => intro n r H K _; rfl
  | cons o l ih =>
    intro n r H K hn
    have hg : all[n]? = some o := by
      have := congrArg List.head? hn
      simpa [List.head?_drop] using this
    have hd : all.drop (n + 1) = l := by
      have := congrArg List.tail hn
      simpa [List.tail_drop] using this
    rw [List.length_cons, List.range'_succ]
    unfold aops
    rw [hg]
    simp only [strip, sops]
    have e : ∀ r H, aops P X all (List.range' (n + 1) l.length) r H K = sops P X (strip all l) K r H := fun r H => ih (n + 1) r H K hd
    simp only [e]
    unfold wantedA wantedS gslot
    cases o.guard with
    | none => rfl
    | some gw =>
      obtain ⟨j, b⟩ := gw
      simp only
      cases (all[j]?).bind (·.dst) with
      | none => rfl
      | some d => unfold guardS; rfl
theorem aops_range (ops : Array Oper) (r : Regs) (H : Heap) (K : Regs → Heap → Prop) : aops P X ops.toList (List.range ops.size) r H K = sops P X (strip ops.toList ops.toList) K r H := by
  have := aops_sops P X ops.toList ops.toList 0 r H K rfl
  rwa [Array.length_toList, ← List.range_eq_range'] at this

def seqK (b : Code) (K : KC) : KC := KC.then (acode P X b K) K
theorem seqK_normal (b : Code) (K : KC) (r : Regs) (H : Heap) : seqK P X b K .normal r H = acode P X b K r H := rfl
theorem seqK_exit (b : Code) (K : KC) (i : Nat) (r : Regs) (H : Heap) : seqK P X b K (.exit i) r H = K (.exit i) r H := rfl
theorem seqK_ret (b : Code) (K : KC) (r : Regs) (H : Heap) : seqK P X b K .ret r H = K .ret r H := rfl
def blkK (id : Nat) (K : KC) : KC := KC.blk id K
theorem blkK_normal (id : Nat) (K : KC) (r : Regs) (H : Heap) : blkK id K .normal r H = K .normal r H := rfl
theorem blkK_exit (id : Nat) (K : KC) (i : Nat) (r : Regs) (H : Heap) : blkK id K (.exit i) r H = if i = id then K .normal r H else K (.exit i) r H := rfl
theorem blkK_ret (id : Nat) (K : KC) (r : Regs) (H : Heap) : blkK id K .ret r H = K .ret r H := rfl
def nrm (K : KC) : Regs → Heap → Prop := K .normal
theorem nrm_eq (K : KC) (r : Regs) (H : Heap) : nrm K r H = K .normal r H := rfl
def aloop (c : Code) (K : KC) (r : Regs) (H : Heap) : Prop := loopG (acode P X c) K r H

theorem acode_skip (K : KC) (r : Regs) (H : Heap) : acode P X .skip K r H = K .normal r H := rfl
theorem acode_region (id : Nat) (ops : Array Oper) (K : KC) (r : Regs) (H : Heap) : acode P X (.region id ops false) K r H = sops P X (strip ops.toList ops.toList) (nrm K) r H := by
  rw [← aops_range]
  rfl
theorem acode_draw (id : Nat) (ops : Array Oper) (K : KC) (r : Regs) (H : Heap) : acode P X (.region id ops true) K r H = match X.orders id with
    | some os => ∀ o ∈ os, aops P X ops.toList o r H (nrm K)
    | none => sops P X (strip ops.toList ops.toList) (nrm K) r H := by
  rw [← aops_range]
  simp only [acode]
  cases X.orders id <;> rfl
theorem acode_seq (a b : Code) (K : KC) (r : Regs) (H : Heap) : acode P X (.seq a b) K r H = acode P X a (seqK P X b K) r H := rfl
theorem acode_cond (c : Operand) (x y : Code) (K : KC) (r : Regs) (H : Heap) : acode P X (.cond c x y) K r H = condA (ev r c) (acode P X x K r H) (acode P X y K r H) := rfl
theorem acode_block (id : Nat) (c : Code) (K : KC) (r : Regs) (H : Heap) : acode P X (.block id c) K r H = acode P X c (blkK id K) r H := rfl
theorem acode_loop (c : Code) (K : KC) (r : Regs) (H : Heap) : acode P X (.loop c) K r H = aloop P X c K r H := rfl
theorem acode_exit (id : Nat) (K : KC) (r : Regs) (H : Heap) : acode P X (.exit id) K r H = K (.exit id) r H := rfl
theorem acode_label (id : Nat) (K : KC) (r : Regs) (H : Heap) : acode P X (.label id) K r H = K .normal r H := rfl
theorem acode_ret (K : KC) (r : Regs) (H : Heap) : acode P X .ret K r H = K .ret r H := rfl
theorem condA_bool (t : Bool) (x y : Prop) : condA (.bool t) x y = ((t = true → x) ∧ (t = false → y)) := rfl
theorem RetK_normal (rs : List ResultVar) (R : K1) (r : Regs) (H : Heap) : RetK P rs R .normal r H = aRes P rs r H fun xs => Done R (oneOr xs) H := rfl
theorem RetK_ret (rs : List ResultVar) (R : K1) (r : Regs) (H : Heap) : RetK P rs R .ret r H = aRes P rs r H fun xs => Done R (oneOr xs) H := rfl

theorem upd_same (r : Regs) (t : Nat) (v : AV) : upd r t v t = v := by simp [upd]
theorem upd_ne (r : Regs) (t : Nat) (v : AV) (i : Nat) (h : ¬ i = t) : upd r t v i = r i := by simp [upd, h]
end

/-- At the loop's head again, with a smaller measure. -/
def Again {σ : Type} (view : σ → List (Nat × AV)) (I : σ → Heap → Prop) (μ : σ → Nat) (s : σ) (r : Regs) (H : Heap) : Prop := ∃ s', agrees r (view s') ∧ I s' H ∧ μ s' < μ s
theorem Again.mk {σ : Type} {view : σ → List (Nat × AV)} {I : σ → Heap → Prop} {μ : σ → Nat} {s : σ} {r : Regs} {H : Heap} (s' : σ) (h1 : agrees r (view s')) (h2 : I s' H) (h3 : μ s' < μ s) : Again view I μ s r H := ⟨s', h1, h2, h3⟩
/-- A loop: the slots that matter at its head, as a function of a state; what holds of the state and the heap; a measure. -/
theorem aloop_intro {P : Program} {X : Steer} {c : Code} {K : KC} {r : Regs} {H : Heap} {σ : Type} (view : σ → List (Nat × AV)) (I : σ → Heap → Prop) (μ : σ → Nat) (s0 : σ) (h0 : agrees r (view s0)) (h1 : I s0 H)
    (round : ∀ s r H, agrees r (view s) → I s H → acode P X c (KC.then (Again view I μ s) K) r H) : aloop P X c K r H := ⟨σ, view, I, μ, s0, h0, h1, round⟩

theorem agrees_nil (r : Regs) : agrees r [] = True := rfl
theorem agrees_cons (r : Regs) (t : Nat) (v : AV) (l : List (Nat × AV)) : agrees r ((t, v) :: l) = (r t = v ∧ agrees r l) := rfl
theorem then_normal (n : Regs → Heap → Prop) (K : KC) (r : Regs) (H : Heap) : KC.then n K .normal r H = n r H := rfl
theorem then_exit (n : Regs → Heap → Prop) (K : KC) (i : Nat) (r : Regs) (H : Heap) : KC.then n K (.exit i) r H = K (.exit i) r H := rfl
theorem then_ret (n : Regs → Heap → Prop) (K : KC) (r : Regs) (H : Heap) : KC.then n K .ret r H = K .ret r H := rfl
theorem ACalls.then {P : Program} {f : FuncId} {args : List AV} {H : Heap} {R R' : K1} (h : ACalls P f args H R) (hR : ∀ x H', R x H' → R' x H') : ACalls P f args H R' := h.mono hR
end Go.Abs

/-
  The set of equations for the walk over the abstract machine.
-/
namespace Go.Abs
set_option linter.unusedVariables false
theorem newId_intro {H : Heap} {K : Nat → Prop} (h : ∀ id, H id = none → K id) : newId H K := h
/-- A function that changes nothing that is seen and answers one thing. -/
theorem ACalls.pure_next {P : Program} {f : FuncId} {args : List AV} {H : Heap} {K : K1} (v : AV) (h : ACalls P f args H fun x H' => x = v ∧ H' = H) (hK : K v H) : ACalls P f args H K := by
  refine h.mono ?_
  rintro x H' ⟨rfl, rfl⟩
  exact hK

def putP (f : FuncId) (s : List AV → Option AV) (pu : Pures) : Pures := fun g => if g = f then some s else pu g
def pu0 : Pures := fun _ => none
theorem putP_same (f : FuncId) (s : List AV → Option AV) (pu : Pures) : putP f s pu f = some s := by simp [putP]
theorem putP_ne (f : FuncId) (s : List AV → Option AV) (pu : Pures) (g : FuncId) (h : ¬ g = f) : putP f s pu g = pu g := by simp [putP, h]
theorem pu0_at (g : FuncId) : pu0 g = none := rfl
theorem PuOK.zero {P : Program} : PuOK P pu0 := fun g s h => by cases h
theorem PuOK.put {P : Program} {pu : Pures} (h : PuOK P pu) {f : FuncId} {s : List AV → Option AV} (hf : ∀ xs v, s xs = some v → ∀ H, ACalls P f xs H fun x H' => x = v ∧ H' = H) : PuOK P (putP f s pu) := by
  intro g t ht xs v hv H
  by_cases e : g = f
  · subst e
    rw [putP_same] at ht
    cases ht
    exact hf xs v hv H
  · rw [putP_ne f s pu g e] at ht
    exact h g t ht xs v hv H
/-- An operation whose guard has the value 'v'. -/
def gd (P : Program) (X : Steer) (d : Option Nat) (op : Op) (l : List SOp) (K : Regs → Heap → Prop) (w : Bool) (v : AV) (r : Regs) (H : Heap) : Prop :=
  guardS v w (aop P X.pure (msOf X d) r H op (opK P X l K r d)) (sops P X l K (put r d (.tup [])) H)
/-- Two ways. -/
def cnd (P : Program) (X : Steer) (x y : Code) (K : KC) (v : AV) (r : Regs) (H : Heap) : Prop := condA v (acode P X x K r H) (acode P X y K r H)
/-- A new object of cells. -/
def nwC (cs : List AV) (H : Heap) (K : K1) : Prop := newId H fun id => K (.ptr id 0) (H.put id (.cells cs))
def nwM (kk : Option IntKind) (H : Heap) (K : K1) : Prop := newId H fun id => K (.map id) (H.put id (.map kk []))
theorem nwC_intro {cs : List AV} {H : Heap} {K : K1} (h : ∀ id, H id = none → K (.ptr id 0) (H.put id (.cells cs))) : nwC cs H K := h
theorem nwM_intro {kk : Option IntKind} {H : Heap} {K : K1} (h : ∀ id, H id = none → K (.map id) (H.put id (.map kk []))) : nwM kk H K := h
section
variable (P : Program) (X : Steer) (d : Option Nat) (op : Op) (l : List SOp) (K : Regs → Heap → Prop) (KK : KC) (r : Regs) (H : Heap) (x y : Code)
theorem gd_tt : gd P X d op l K true (.bool true) r H = aop P X.pure (msOf X d) r H op (opK P X l K r d) := rfl
theorem gd_ff : gd P X d op l K false (.bool false) r H = aop P X.pure (msOf X d) r H op (opK P X l K r d) := rfl
theorem gd_tf : gd P X d op l K true (.bool false) r H = sops P X l K (put r d (.tup [])) H := rfl
theorem gd_ft : gd P X d op l K false (.bool true) r H = sops P X l K (put r d (.tup [])) H := rfl
theorem gd_no (w : Bool) : gd P X d op l K w (.tup []) r H = sops P X l K (put r d (.tup [])) H := rfl
theorem sops_n : sops P X (⟨d, op, none⟩ :: l) K r H = aop P X.pure (msOf X d) r H op (opK P X l K r d) := rfl
theorem sops_g (g : Nat) (w : Bool) : sops P X (⟨d, op, some (some g, w)⟩ :: l) K r H = gd P X d op l K w (r g) r H := rfl
theorem cnd_t : cnd P X x y KK (.bool true) r H = acode P X x KK r H := by simp [cnd, condA]
theorem cnd_f : cnd P X x y KK (.bool false) r H = acode P X y KK r H := by simp [cnd, condA]
theorem acode_cnd (c : Operand) : acode P X (.cond c x y) KK r H = cnd P X x y KK (ev r c) r H := rfl
end
theorem gd_intro {P : Program} {X : Steer} {d : Option Nat} {op : Op} {l : List SOp} {K : Regs → Heap → Prop} {w b : Bool} {r : Regs} {H : Heap}
    (ht : b = true → gd P X d op l K w (.bool true) r H) (hf : b = false → gd P X d op l K w (.bool false) r H) : gd P X d op l K w (.bool b) r H := by
  cases b
  · exact hf rfl
  · exact ht rfl
theorem cnd_intro {P : Program} {X : Steer} {x y : Code} {K : KC} {b : Bool} {r : Regs} {H : Heap}
    (ht : b = true → acode P X x K r H) (hf : b = false → acode P X y K r H) : cnd P X x y K (.bool b) r H := by
  cases b
  · rw [cnd_f]; exact hf rfl
  · rw [cnd_t]; exact ht rfl

section
variable (P : Program) (X : Steer) (pu : Pures) (r : Regs) (H : Heap) (K : K1)

/-- What follows a pure value. -/
def so1 (m : Option AV) (K : K1) (H : Heap) : Prop := so m fun v => K v H
theorem so1_some (v : AV) : so1 (some v) K H = K v H := rfl
theorem so1_none : so1 none K H = False := rfl
theorem so1_if (c : Prop) [Decidable c] (a : Option AV) : so1 (if c then a else none) K H = (c ∧ so1 a K H) := by
  by_cases h : c <;> simp [h, so1, so]
theorem so1_map {α : Type} (m : Option α) (f : α → AV) (a : α) (h : m = some a) : so1 (m.map f) K H = K (f a) H := by subst h; rfl
def loadAt' (o : Option AObj) (off n : Nat) (agg : Bool) (K : K1) (H : Heap) : Prop := cellsAt o fun cs => so1 (readC agg n (cs.drop off)) K H
theorem loadAt_cells (cs : List AV) (off n : Nat) (agg : Bool) : loadAt' (some (.cells cs)) off n agg K H = so1 (readC agg n (cs.drop off)) K H := rfl
def storeAt' (o : Option AObj) (id off n : Nat) (x : AV) (K : K1) (H : Heap) : Prop := cellsAt o fun cs => x.isVal = true ∧ x.cells.length = n ∧ off + n ≤ cs.length ∧ K .junk (H.put id (.cells (writeC cs off x.cells)))
theorem storeAt_cells (cs : List AV) (id off n : Nat) (x : AV) : storeAt' (some (.cells cs)) id off n x K H = (x.isVal = true ∧ x.cells.length = n ∧ off + n ≤ cs.length ∧ K .junk (H.put id (.cells (writeC cs off x.cells)))) := rfl
theorem so_some' (v : AV) (K : AV → Prop) : so (some v) K = K v := rfl
theorem so_none' (K : AV → Prop) : so none K = False := rfl
theorem so_if (c : Prop) [Decidable c] (a : Option AV) (K : AV → Prop) : so (if c then a else none) K = (c ∧ so a K) := by
  by_cases h : c <;> simp [h, so]
theorem so_map {α : Type} (m : Option α) (f : α → AV) (K : AV → Prop) : so (m.map f) K = ∃ x, m = some x ∧ K (f x) := by
  cases m <;> simp [so]
theorem gslot_none (all : List Oper) : gslot all none = none := rfl
theorem gslot_some (all : List Oper) (j : Nat) (b : Bool) : gslot all (some (j, b)) = some ((all[j]?).bind (·.dst), b) := rfl
theorem strip_nil (all : List Oper) : strip all [] = [] := rfl
theorem strip_cons (all l : List Oper) (d : Option Tmp) (op : Op) (t : TypeId) (pos : String) (after : Array Edge) (g : Option (Nat × Bool)) :
    strip all (⟨d, op, t, pos, after, g⟩ :: l) = ⟨d, op, gslot all g⟩ :: strip all l := rfl
theorem put_some (t : Nat) (v : AV) : put r (some t) v = upd r t v := rfl
theorem put_none (v : AV) : put r none v = r := rfl

theorem aop_move (ms : Bool) (x : Operand) : aop P pu ms r H (.move x) K = K (ev r x) H := rfl
theorem aop_assign (ms : Bool) (x : Operand) : aop P pu ms r H (.assign x) K = K (ev r x) H := rfl
theorem aop_pick (ms : Bool) (c a b : Operand) : aop P pu ms r H (.pick c a b) K = so1 (pickA (ev r c) (ev r a) (ev r b)) K H := rfl
theorem aop_bin (ms : Bool) (o : BinOp) (t t' : TypeId) (x y : Operand) : aop P pu ms r H (.binOp o t x y t') K = so1 (bin P o t (isC x) (isC y) (ev r x) (ev r y)) K H := rfl
theorem aop_un (ms : Bool) (o : UnOp) (t : TypeId) (x : Operand) : aop P pu ms r H (.unOp o t x) K = so1 (un o (ev r x)) K H := rfl
theorem aop_field (ms : Bool) (t : TypeId) (x : Operand) (f : Nat) : aop P pu ms r H (.field t x f) K = so1 (fieldA P t (ev r x) f) K H := rfl
theorem aop_fieldAddr (ms : Bool) (t : TypeId) (x : Operand) (f : Nat) : aop P pu ms r H (.fieldAddr t x f) K = so1 (fieldAddrA P t (ev r x) f) K H := rfl
theorem aop_index (ms : Bool) (t : TypeId) (x i : Operand) : aop P pu ms r H (.index t x i) K = so1 (indexA P t (ev r x) (ev r i)) K H := rfl
theorem aop_indexAddr (ms : Bool) (t : TypeId) (x i : Operand) : aop P pu ms r H (.indexAddr t x i) K = so1 (indexAddrA P t (ev r x) (ev r i)) K H := rfl
theorem aop_slice (ms : Bool) (t : TypeId) (x : Operand) (lo hi mx : Option Operand) : aop P pu ms r H (.slice t x lo hi mx) K = so1 (sliceA P r t (ev r x) lo hi mx) K H := rfl
theorem aop_extract (ms : Bool) (x : Operand) (i : Nat) : aop P pu ms r H (.extract x i) K = so1 (extractA (ev r x) i) K H := rfl
theorem aop_nilCheck (ms : Bool) (x : Operand) : aop P pu ms r H (.nilCheck x) K = so1 (nilChk (ev r x)) K H := rfl
theorem aop_makeFunc (ms : Bool) (fn : Fn) (f c : Array Operand) : aop P pu ms r H (.makeFunc fn f c) K = so1 (funcA fn (f.toList.map (ev r)) (c.toList.map (ev r))) K H := rfl
theorem aop_iface (ms : Bool) (t : TypeId) (x : Operand) : aop P pu ms r H (.makeInterface t x) K = so1 (ifaceA P t (ev r x)) K H := rfl
theorem aop_build (ms : Bool) (t : TypeId) (ps : Array (Nat × Operand)) : aop P pu ms r H (.build t ps) K = so1 (buildA P t (ps.toList.map fun p => (p.1, ev r p.2))) K H := rfl
theorem aop_alloc (ms : Bool) (t : TypeId) : aop P pu ms r H (.alloc t) K = aAlloc P t H K := rfl
theorem aop_box (ms : Bool) (t : TypeId) (x : Operand) : aop P pu ms r H (.box t x) K = aBox (ev r x) H K := rfl
theorem aop_load (ms : Bool) (t : TypeId) (x : Operand) : aop P pu ms r H (.load t x) K = aLoad P t (ev r x) H K := rfl
theorem aop_store (ms : Bool) (t : TypeId) (a x : Operand) : aop P pu ms r H (.store t a x) K = aStore P t (ev r a) (ev r x) H K := rfl
theorem aop_buildSlice (ms : Bool) (t : TypeId) (n : Nat) (ps : Array (Nat × Operand)) : aop P pu ms r H (.buildSlice t n ps) K = aBuildSlice P t n (ps.toList.map fun p => (p.1, ev r p.2)) H K := rfl
theorem aop_makeMap (ms : Bool) (t : TypeId) : aop P pu ms r H (.makeMap t none) K = aMakeMap P t H K := rfl
theorem aop_makeSlice (ms : Bool) (t : TypeId) (l c : Operand) : aop P pu ms r H (.makeSlice t l c) K = aMakeSlice P t (ev r l) (ev r c) H K := rfl
theorem aop_lookup (ms : Bool) (t : TypeId) (m k : Operand) (ok : Bool) : aop P pu ms r H (.lookup t m k ok) K = aLookup P t (ev r m) (ev r k) ok H K := rfl
theorem aop_update (ms : Bool) (t : TypeId) (m k x : Operand) : aop P pu ms r H (.mapUpdate t m k x) K = aUpdate P t (ev r m) (ev r k) (ev r x) H K := rfl
theorem aop_insert (ms : Bool) (t : TypeId) (m k x : Operand) : aop P pu ms r H (.insert t m k x) K = aUpdate P t (ev r m) (ev r k) (ev r x) H K := rfl
theorem aop_convert (ms : Bool) (s d : TypeId) (x : Operand) : aop P pu ms r H (.convert s d x) K = aConv P s d (ev r x) H K := rfl
theorem aop_call (ms : Bool) (f : Operand) (xs : Array Operand) (ts : Array TypeId) : aop P pu ms r H (.call ⟨.value f, xs, ts⟩) K = aCallV P pu (ev r f) (xs.toList.map (ev r)) H K := rfl
theorem aop_builtin (ms : Bool) (b : Builtin) (xs : Array Operand) (ts : Array TypeId) : aop P pu ms r H (.call ⟨.builtin b, xs, ts⟩) K = aBuiltin P ms b ts.toList (xs.toList.map (ev r)) H K := rfl

theorem ev_tmp (t : Nat) : ev r (.tmp t) = r t := rfl
theorem ev_const (v : Value) : ev r (.const v) = ofValue v := rfl
theorem ev_func (f : FuncId) : ev r (.func f) = .func f [] := rfl
theorem ofV_bool (b : Bool) : ofValue (.bool b) = .bool b := rfl
theorem ofV_int (k : IntKind) (n : Int) : ofValue (.int k n) = .int k n := rfl
theorem ofV_str (s : ByteArray) : ofValue (.string s) = .str s.data.toList := rfl
theorem ofV_nilp : ofValue (.pointer none) = .nilp := rfl
theorem ofV_nils : ofValue (.slice none 0 0) = .sl [] .exact := rfl
theorem ofV_nilm : ofValue (.map none) = .nilmap := rfl
theorem ofV_nilf : ofValue .nilFunc = .nilfunc := rfl
theorem ofV_nili : ofValue .nilIface = .nilIface := rfl
theorem ofV_agg (cs : Array Value) : ofValue (.agg cs) = if cs.toList.all oneV then .agg (cs.toList.map ofCell) else .junk := rfl
theorem ofC_bool (b : Bool) : ofCell (.bool b) = .bool b := rfl
theorem ofC_int (k : IntKind) (n : Int) : ofCell (.int k n) = .int k n := rfl
theorem ofC_str (s : ByteArray) : ofCell (.string s) = .str s.data.toList := rfl
theorem ofC_nils : ofCell (.slice none 0 0) = .sl [] .exact := rfl
theorem isC_tmp (t : Nat) : isC (.tmp t) = false := rfl
theorem isC_const (v : Value) : isC (.const v) = true := rfl
theorem isC_func (f : FuncId) : isC (.func f) = false := rfl

theorem pickA_bool (t : Bool) (a b : AV) : pickA (.bool t) a b = some (if t then a else b) := rfl
section
variable (t : TypeId) (cx cy : Bool) (k : IntKind) (a b : Int) (x y : List UInt8)
theorem bin_add : bin P .add t cx cy (.int k a) (.int k b) = some (.int k (k.wrap (a + b))) := by simp [bin, binI]
theorem bin_sub : bin P .sub t cx cy (.int k a) (.int k b) = some (.int k (k.wrap (a - b))) := by simp [bin, binI]
theorem bin_mul : bin P .mul t cx cy (.int k a) (.int k b) = some (.int k (k.wrap (a * b))) := by simp [bin, binI]
theorem bin_quo : bin P .quo t cx cy (.int k a) (.int k b) = if ¬ b = 0 then some (.int k (k.wrap (a.tdiv b))) else none := by
  by_cases h : b = 0 <;> simp [bin, binI, h]
theorem bin_rem : bin P .rem t cx cy (.int k a) (.int k b) = if ¬ b = 0 then some (.int k (a.tmod b)) else none := by
  by_cases h : b = 0 <;> simp [bin, binI, h]
theorem bin_and : bin P .and t cx cy (.int k a) (.int k b) = some (.int k (k.wrap (BitVec.ofInt k.bits a &&& BitVec.ofInt k.bits b).toNat)) := by simp [bin, binI]
theorem bin_or : bin P .or t cx cy (.int k a) (.int k b) = some (.int k (k.wrap (BitVec.ofInt k.bits a ||| BitVec.ofInt k.bits b).toNat)) := by simp [bin, binI]
theorem bin_xor : bin P .xor t cx cy (.int k a) (.int k b) = some (.int k (k.wrap (BitVec.ofInt k.bits a ^^^ BitVec.ofInt k.bits b).toNat)) := by simp [bin, binI]
theorem bin_eql : bin P .eql t cx cy (.int k a) (.int k b) = some (.bool (decide (a = b))) := by simp [bin, binI]
theorem bin_neq : bin P .neq t cx cy (.int k a) (.int k b) = some (.bool (decide (¬ a = b))) := by simp [bin, binI]
theorem bin_lss : bin P .lss t cx cy (.int k a) (.int k b) = some (.bool (decide (a < b))) := by simp [bin, binI]
theorem bin_leq : bin P .leq t cx cy (.int k a) (.int k b) = some (.bool (decide (a ≤ b))) := by simp [bin, binI]
theorem bin_gtr : bin P .gtr t cx cy (.int k a) (.int k b) = some (.bool (decide (b < a))) := by simp [bin, binI]
theorem bin_geq : bin P .geq t cx cy (.int k a) (.int k b) = some (.bool (decide (b ≤ a))) := by simp [bin, binI]
theorem bin_shl (k' : IntKind) : bin P .shl t cx cy (.int k a) (.int k' b) = if ¬ b < 0 then some (.int k (k.wrap (a * 2 ^ (min b.toNat k.bits)))) else none := by
  by_cases h : b < 0 <;> simp [bin, shiftI, h]
theorem bin_shr (k' : IntKind) : bin P .shr t cx cy (.int k a) (.int k' b) = if ¬ b < 0 then some (.int k (a.fdiv (2 ^ (min b.toNat k.bits)))) else none := by
  by_cases h : b < 0 <;> simp [bin, shiftI, h]
theorem binS_add : bin P .add t cx cy (.str x) (.str y) = if ((x.length + y.length : Nat) : Int) ≤ 9223372036854775807 then some (.str (x ++ y)) else none := rfl
theorem binS_eql : bin P .eql t cx cy (.str x) (.str y) = some (.bool (decide (x = y))) := rfl
theorem binS_neq : bin P .neq t cx cy (.str x) (.str y) = some (.bool (decide (¬ x = y))) := rfl
theorem binS_lss : bin P .lss t cx cy (.str x) (.str y) = some (.bool (strLt x y)) := rfl
theorem binS_leq : bin P .leq t cx cy (.str x) (.str y) = some (.bool (strLt x y || decide (x = y))) := rfl
theorem binS_gtr : bin P .gtr t cx cy (.str x) (.str y) = some (.bool (!(strLt x y || decide (x = y)))) := rfl
theorem binS_geq : bin P .geq t cx cy (.str x) (.str y) = some (.bool (!strLt x y)) := rfl
theorem un_not (c : Bool) : un .not (.bool c) = some (.bool (!c)) := rfl
theorem un_neg : un .neg (.int k a) = some (.int k (k.wrap (0 - a))) := rfl
end
theorem indexA_str (t : TypeId) (s : List UInt8) (k : IntKind) (n : Int) : indexA P t (.str s) (.int k n) = if 0 ≤ n ∧ descOf P t = .string then (s[n.toNat]?).map fun b => .int .u8 b.toNat else none := rfl
theorem indexAddr_sl (t : TypeId) (es : List (List AV)) (tl : Tail) (k : IntKind) (n : Int) : indexAddrA P t (.sl es tl) (.int k n) = match sliceE P t with
    | some e => if 0 ≤ n ∧ Unif e.size es ∧ 0 < e.size then (es[n.toNat]?).map .rptr else none
    | none => none := rfl
theorem indexAddr_ms (t : TypeId) (id off len j : Nat) (k : IntKind) (n : Int) : indexAddrA P t (.ms id off len j) (.int k n) = match sliceE P t with
    | some e => if 0 ≤ n ∧ n < len ∧ j = e.size then some (.ptr id (off + n.toNat * j)) else none
    | none => none := rfl
theorem sliceE_eq (t : TypeId) : sliceE P t = match descOf P t with | .slice e => ti P e | _ => none := rfl
theorem descOf_eq' (t : TypeId) : descOf P t = match ti P t with | some i => i.desc | none => .other := rfl
theorem nilChk_ptr (id off : Nat) : nilChk (.ptr id off) = some (.ptr id off) := rfl
theorem nilChk_rptr (cs : List AV) : nilChk (.rptr cs) = some (.rptr cs) := rfl
theorem extractA_tup (vs : List AV) (i : Nat) : extractA (.tup vs) i = vs[i]? := rfl
theorem funcA_eq (f : FuncId) (c : List AV) : funcA (.func f) [] c = some (.func f c) := rfl
theorem aAlloc_eq (t : TypeId) : aAlloc P t H K = match ti P t with | some i => i.zero.isVal = true ∧ nwC i.zero.cells H K | none => False := rfl
theorem aBox_eq (x : AV) : aBox x H K = (x.isVal = true ∧ nwC x.cells H K) := rfl
theorem cellsAt_some (cs : List AV) (K : List AV → Prop) : cellsAt (some (.cells cs)) K = K cs := rfl
theorem mapAt_some (kk : Option IntKind) (es : List (Key × AV)) (K : Option IntKind → List (Key × AV) → Prop) : mapAt (some (.map kk es)) K = K kk es := rfl
theorem aLoad_ptr (t : TypeId) (id off : Nat) : aLoad P t (.ptr id off) H K = match ti P t with | some i => loadAt' (H id) off i.size i.desc.agg K H | none => False := rfl
theorem aLoad_rptr (t : TypeId) (cs : List AV) : aLoad P t (.rptr cs) H K = match ti P t with | some i => so1 (readC i.desc.agg i.size cs) K H | none => False := rfl
theorem aStore_ptr (t : TypeId) (id off : Nat) (x : AV) : aStore P t (.ptr id off) x H K = match ti P t with | some i => storeAt' (H id) id off i.size x K H | none => False := rfl
theorem aCallV_func (f : FuncId) (cap xs : List AV) : aCallV P pu (.func f cap) xs H K = callG P f (pu f) (xs ++ cap) H K := rfl
theorem callG_none (f : FuncId) (xs : List AV) : callG P f none xs H K = ACalls P f xs H K := rfl
theorem callG_some (f : FuncId) (s : List AV → Option AV) (xs : List AV) : callG P f (some s) xs H K = so1 (s xs) K H := rfl
theorem bi_len (ms : Bool) (ts : List TypeId) (x : AV) : aBuiltin P ms .len ts [x] H K = aLen P ts x H K := rfl
theorem bi_append (ms : Bool) (t t' : TypeId) (s x : AV) : aBuiltin P ms .append [t, t'] [s, x] H K = (appT P t' = true ∧ aAppend P ms t s x H K) := rfl
theorem aLen_eq (ts : List TypeId) (x : AV) : aLen P ts x H K = if isMap P ts = true then (match x with | .map id => mapAt (H id) fun _ es => K (.int .i64 es.length) H | .nilmap => K (.int .i64 0) H | _ => False) else so1 (lenT P ts x) K H := rfl
theorem readC_one (n : Nat) (l : List AV) : readC false n l = l.head? := rfl
theorem readC_agg (n : Nat) (l : List AV) : readC true n l = if n ≤ l.length then some (.agg (l.take n)) else none := rfl
theorem writeC_one (cs : List AV) (off : Nat) (v : AV) : writeC cs off [v] = cs.set off v := rfl
theorem aRes_nil (K : List AV → Prop) : aRes P [] r H K = K [] := rfl
theorem aRes_tmp (t : Nat) (l : List ResultVar) (K : List AV → Prop) : aRes P (.tmp t :: l) r H K = aRes P l r H fun vs => K (r t :: vs) := rfl
theorem aRes_cell (a : Nat) (t : TypeId) (l : List ResultVar) (K : List AV → Prop) : aRes P (.cell a t :: l) r H K = aLoad P t (r a) H fun v _ => aRes P l r H fun vs => K (v :: vs) := rfl
theorem oneOr_one (v : AV) : oneOr [v] = v := rfl
theorem oneOr_two (u v : AV) (l : List AV) : oneOr (u :: v :: l) = .tup (u :: v :: l) := rfl
theorem regs_cons (a : AV) (l : List AV) (t : Nat) : regs0 l t = l.getD t (.tup []) := rfl
theorem put_same (id : Nat) (o : AObj) : (H.put id o) id = some o := by simp [Heap.put]
theorem put_ne (id i : Nat) (o : AObj) (h : ¬ i = id) : (H.put id o) i = H i := by simp [Heap.put, h]
end
attribute [go_sem] acode_skip acode_region acode_seq acode_block acode_loop acode_exit acode_label acode_ret RetK_normal RetK_ret upd_same upd_ne
  seqK_normal seqK_exit seqK_ret blkK_normal blkK_exit blkK_ret nrm_eq sops_nil opK_eq agrees_nil agrees_cons then_normal then_exit then_ret
attribute [go_sem] so1_some so1_none so1_if loadAt_cells storeAt_cells gd_tt gd_ff gd_tf gd_ft gd_no sops_n sops_g cnd_t cnd_f acode_cnd gslot_none gslot_some strip_nil strip_cons put_some put_none
  aop_move aop_assign aop_pick aop_bin aop_un aop_field aop_fieldAddr aop_index aop_indexAddr aop_slice aop_extract aop_nilCheck aop_makeFunc aop_iface aop_build aop_alloc aop_box aop_load aop_store aop_buildSlice aop_makeMap aop_makeSlice aop_lookup
  aop_update aop_insert aop_convert aop_call aop_builtin ev_tmp ev_const ev_func ofV_bool ofV_int ofV_str ofV_nilp ofV_nils ofV_nilm ofV_nilf ofV_nili ofV_agg ofC_bool ofC_int ofC_str ofC_nils isC_tmp isC_const isC_func pickA_bool
  bin_add bin_sub bin_mul bin_quo bin_rem bin_and bin_or bin_xor bin_eql bin_neq bin_lss bin_leq bin_gtr bin_geq bin_shl bin_shr binS_add binS_eql binS_neq binS_lss binS_leq binS_gtr binS_geq un_not un_neg
  indexA_str indexAddr_sl indexAddr_ms sliceE_eq descOf_eq' nilChk_ptr nilChk_rptr extractA_tup funcA_eq aAlloc_eq aBox_eq cellsAt_some mapAt_some aLoad_ptr aLoad_rptr aStore_ptr aCallV_func callG_none callG_some bi_len bi_append readC_one readC_agg writeC_one
  aRes_nil aRes_tmp aRes_cell oneOr_one oneOr_two put_same
attribute [go_sem] putP_same putP_ne pu0_at
attribute [go_sem] aLen_eq lenT isMap TD.agg AV.isVal AV.cells msOf
attribute [go_sem] Bool.and_eq_true Bool.or_eq_true decide_eq_true_eq decide_eq_false_iff_not and_true true_and and_false false_and or_true true_or or_false false_or not_true_eq_false not_false_eq_true if_true if_false reduceIte
  forall_const false_implies true_implies implies_true List.map_cons List.map_nil List.append_nil List.nil_append List.cons_append List.getElem?_cons_zero List.getElem?_cons_succ List.drop_zero List.drop_succ_cons List.take_zero List.take_succ_cons
  List.length_cons List.length_nil List.head?_cons Option.bind_some Option.map_some Option.map_none Option.getD_some Option.getD_none Bool.not_true Bool.not_false Bool.not_eq_true' Bool.not_eq_false' decide_true decide_false eq_self ne_eq
  Bool.true_eq_false Bool.false_eq_true List.all_cons List.all_nil Bool.true_and Bool.and_true Bool.false_and Bool.and_false List.getD_cons_zero List.getD_cons_succ List.getD_nil List.set_cons_zero List.set_cons_succ
section
variable (P : Program) (H : Heap)
theorem fieldAddrA_ptr (s : TypeId) (id o f : Nat) : fieldAddrA P s (.ptr id o) f = match fieldOf P s f with | some (off, i) => if ¬ i.size = 0 then some (.ptr id (o + off)) else none | none => none := by
  unfold fieldAddrA
  split <;> simp_all
theorem fieldAddrA_rptr (s : TypeId) (cs : List AV) (f : Nat) : fieldAddrA P s (.rptr cs) f = match fieldOf P s f with | some (off, i) => if ¬ i.size = 0 then some (.rptr (cs.drop off)) else none | none => none := by
  unfold fieldAddrA
  split <;> simp_all
theorem fieldA_agg (s : TypeId) (cs : List AV) (f : Nat) : fieldA P s (.agg cs) f = match fieldOf P s f with | some (off, i) => readC i.desc.agg i.size (cs.drop off) | none => none := by
  unfold fieldA
  cases fieldOf P s f <;> rfl
theorem Heap.Sub.put {G G' : Heap} (h : G.Sub G') {id : Nat} (hid : G' id = none) (o : AObj) : G.Sub (G'.put id o) := fun i x hx => by
  have := h i x hx
  by_cases e : i = id
  · subst e; rw [hid] at this; cases this
  · rw [Heap.put, if_neg e]; exact this
def bsK (o : Option (List (List AV))) (K : K1) (H : Heap) : Prop := match o with | some es => K (.sl es .exact) H | none => False
theorem bsK_some (es : List (List AV)) (K : K1) : bsK (some es) K H = K (.sl es .exact) H := rfl
theorem aBuildSlice_eq (t : TypeId) (n : Nat) (ps : List (Nat × AV)) (K : K1) : aBuildSlice P t n ps H K = match sliceE P t with
    | some e => e.zero.isVal = true ∧ e.zero.cells.length = e.size ∧ e.size ≠ 0 ∧ n * e.size ≤ 16777216 ∧ bsK (fillE e.size (List.replicate n e.zero.cells) ps) K H
    | none => False := rfl
theorem fillE_nil (k : Nat) (es : List (List AV)) : fillE k es [] = some es := rfl
theorem fillE_cons (k i : Nat) (v : AV) (es : List (List AV)) (r : List (Nat × AV)) : fillE k es ((i, v) :: r) = if v.isVal = true ∧ v.cells.length = k ∧ i < es.length then fillE k (es.set i v.cells) r else none := rfl
attribute [go_sem] bsK_some aBuildSlice_eq fillE_nil fillE_cons List.replicate_succ List.replicate_zero
theorem put_put (id : Nat) (a b : AObj) : (H.put id a).put id b = H.put id b := by
  funext i; simp only [Heap.put]; split <;> rfl
theorem writeC_two (cs : List AV) (off : Nat) (a b : AV) (l : List AV) : writeC cs off (a :: b :: l) = cs.take off ++ (a :: b :: l) ++ cs.drop (off + (a :: b :: l).length) := rfl
end
attribute [go_sem] fieldAddrA_ptr fieldAddrA_rptr fieldA_agg put_put writeC_two fieldOf List.getElem?_nil List.take_zero List.drop_nil List.take_nil Nat.add_zero Nat.le_refl
theorem acode_drawn (P : Program) (ms : Nat → Bool) (pu : Pures) (id : Nat) (ops : Array Oper) (K : KC) (r : Regs) (H : Heap) :
    acode P ⟨fun _ => none, ms, pu⟩ (.region id ops true) K r H = sops P ⟨fun _ => none, ms, pu⟩ (strip ops.toList ops.toList) (nrm K) r H := by rw [acode_draw]
attribute [go_sem] acode_drawn
theorem unif_map {α : Type} (k : Nat) (l : List α) (f : α → List AV) : Unif k (l.map f) = ∀ a ∈ l, (f a).length = k := by
  simp [Unif]
attribute [go_sem] unif_map List.length_map List.getElem?_map Int.toNat_natCast Nat.zero_add Nat.reduceAdd Nat.zero_lt_one Int.natCast_nonneg
end Go.Abs

/-
  From what an argument reads as to an abstract value of its type.
-/
namespace Go.Abs
open Go.RowKit
set_option linter.unusedSimpArgs false
set_option linter.unusedVariables false

mutual
inductive Ty where
  | bool
  | int (k : IntKind)
  | str
  | sl (e : Ty)
  | st (f : Fs)
inductive Fs where
  | nil
  | cons (t : Ty) (f : Fs)
end

-- Is it this type's form? Fields lie one behind the other.
mutual
def tyOf (P : Program) : Ty → TypeId → Bool
  | .bool, t => match P.underlying t with | some .bool => true | _ => false
  | .int k, t => match P.underlying t with | some (.int k') => decide (k' = k) | _ => false
  | .str, t => match P.underlying t with | some .string => true | _ => false
  | .sl e, t => match P.underlying t with | some (.slice e') => tyOf P e e' && decide (0 < P.cellsOf e') | _ => false
  | .st f, t => match P.underlying t with | some (.struct fs) => tysOf P f fs.toList 0 (P.cellsOf t) | _ => false
def tysOf (P : Program) : Fs → List Field → Nat → Nat → Bool
  | .nil, [], o, n => decide (o = n)
  | .cons t f, x :: xs, o, n => decide (x.offset = o) && tyOf P t x.type && tysOf P f xs (o + P.cellsOf x.type) n
  | _, _, _, _ => false
end

-- Cells of such a type; no text and no slice in it is longer than n.
mutual
def WT (n : Nat) : Ty → List AV → Prop
  | .bool, as => ∃ b, as = [.bool b]
  | .int k, as => ∃ i, as = [.int k i] ∧ (Lit.int k i).wf = true
  | .str, as => ∃ l, as = [.str l] ∧ l.length ≤ n
  | .sl e, as => ∃ es tl, as = [.sl es tl] ∧ es.length ≤ n ∧ ∀ c ∈ es, WT n e c
  | .st f, as => WTs n f as
def WTs (n : Nat) : Fs → List AV → Prop
  | .nil, as => as = []
  | .cons t f, as => ∃ x y, as = x ++ y ∧ WT n t x ∧ WTs n f y
end
-- What is read has nothing longer than n.
mutual
def sm {H : Type} (n : Nat) : Ty → DataW H → Prop
  | .bool, _ => True
  | .int _, _ => True
  | .str, .lit (.string l) => l.length ≤ n
  | .str, _ => True
  | .sl e, .slice es _ => es.length ≤ n ∧ ∀ d ∈ es, sm n e d
  | .sl _, _ => True
  | .st f, .agg ds => sms n f ds
  | .st _, _ => True
def sms {H : Type} (n : Nat) : Fs → List (DataW H) → Prop
  | .cons t f, d :: ds => sm n t d ∧ sms n f ds
  | _, _ => True
end

def H0 : Heap := fun _ => none
def C0 (w : World) : Cx := ⟨fun _ => 0, 0, w.heap.size⟩
theorem rel0 (w : World) : Rel (C0 w) H0 w := ⟨fun _ _ h => (nomatch h), fun _ _ _ _ h => (nomatch h), Nat.le_refl _⟩

section
variable {H : Type} {enc : TypeId × Value → H} {P : Program} {w : World} {base : Nat} {spare : Nat → Bool} {held : Bool}

/-- The cells and the abstract values, one by one. -/
def Cs (w : World) (as : List AV) (cs : List Value) : Prop := as.length = cs.length ∧ ∀ j, j < cs.length → oneV (cs.getD j default) = true ∧ Repr (C0 w) H0 w (as.getD j .junk) (cs.getD j default)
theorem Cs.one {x : AV} {v : Value} (h1 : oneV v = true) (h : Repr (C0 w) H0 w x v) : Cs w [x] [v] := ⟨rfl, fun j hj => by
  have : j = 0 := by simp at hj; exact hj
  subst this
  exact ⟨h1, h⟩⟩
theorem Cs.append {as bs : List AV} {cs ds : List Value} (h : Cs w as cs) (k : Cs w bs ds) : Cs w (as ++ bs) (cs ++ ds) := by
  refine ⟨by simp [h.1, k.1], fun j hj => ?_⟩
  by_cases hlt : j < cs.length
  · have h1 : j < as.length := by rw [h.1]; exact hlt
    have := h.2 j hlt
    simpa [List.getD, List.getElem?_append_left hlt, List.getElem?_append_left h1] using this
  · have h1 : as.length ≤ j := by rw [h.1]; omega
    have := k.2 (j - cs.length) (by simp at hj; omega)
    simpa [List.getD, List.getElem?_append_right (Nat.le_of_not_lt hlt), List.getElem?_append_right h1, h.1] using this

theorem cells_get {a : Addr} {n : Nat} {cs : List Value} (h : w.cells? base a n = some cs) : cs.length = n ∧ ∀ j, j < n → w.cell? (a.add j) = some (cs.getD j default) := by
  obtain ⟨_, h1, h2⟩ := World.cells?_some h
  refine ⟨h1, fun j hj => ?_⟩
  rw [h2 j hj]
  simp [List.getD, show j < cs.length by omega]
theorem cell_spot {a : Addr} {v : Value} (h : w.cell? a = some v) : a.spot = none ∧ a.block < w.heap.size := by
  unfold World.cell? at h
  split at h
  · rename_i c t f hc
    split at h
    · cases h
    · rename_i hs
      exact ⟨by simpa using hs, (Array.getElem?_eq_some_iff.1 hc).1⟩
  · cases h
theorem ro0 {b off : Nat} (h : b < w.heap.size) : RO (C0 w) H0 w b off := ⟨h, fun ⟨id, o, h, _⟩ => (nomatch h)⟩

mutual
theorem trod_repr (n : Nat) : ∀ (T : Ty) (t : TypeId) (fuel : Nat) (cs : List Value) (x : DataW H × List MemPlace), tyOf P T t = true → DataW.trod enc P w base spare held fuel t cs = some x → sm n T x.1 → ∃ as, Cs w as cs ∧ WT n T as
  | .bool, t, fuel, cs, x, ht, h, hs => by
    unfold tyOf at ht
    split at ht
    · rename_i hu
      obtain ⟨b, rfl, rfl⟩ := DataW.trod_bool hu h
      exact ⟨[.bool b], .one rfl (.bool b), b, rfl⟩
    · cases ht
  | .int k, t, fuel, cs, x, ht, h, hs => by
    unfold tyOf at ht
    split at ht
    · rename_i k' hu
      obtain rfl := of_decide_eq_true ht
      obtain ⟨i, rfl, rfl, hw⟩ := DataW.trod_int hu h
      exact ⟨[.int _ i], .one rfl (.int _ i), i, rfl, hw⟩
    · cases ht
  | .str, t, fuel, cs, x, ht, h, hs => by
    unfold tyOf at ht
    split at ht
    · rename_i hu
      obtain ⟨s, rfl, rfl, hw⟩ := DataW.trod_string hu h
      exact ⟨[.str s.data.toList], .one rfl (.str _ s rfl), _, rfl, by simpa [sm] using hs⟩
    · cases ht
  | .sl e, t, fuel, cs, x, ht, h, hs => by
    unfold tyOf at ht
    split at ht
    · rename_i e' hu
      rw [Bool.and_eq_true, decide_eq_true_eq] at ht
      obtain ⟨he, hk⟩ := ht
      rcases Go.Deep.open_slice hu h with ⟨rfl, rfl⟩ | ⟨a, len, cap, m, f2, D, Pl, rfl, hb, hl, hm, hmm, rfl, hel⟩
      · refine ⟨[.sl [] .exact], .one rfl ?_, [], .exact, rfl, Nat.zero_le _, by simp⟩
        exact .sl [] .exact none 0 0 0 (fun _ => default) (by simp) (by simp) (by simp) (Nat.le_refl _) rfl
      · simp only [sm, List.length_map, List.length_range, List.mem_map, List.mem_range] at hs
        have hlm : len ≤ m := by rw [hmm]; split <;> omega
        have key : ∀ i, i < len → ∃ as, ∃ cs' : List Value, w.cells? base (a.add (i * P.cellsOf e')) (P.cellsOf e') = some cs' ∧ Cs w as cs' ∧ WT n e as := fun i hi => by
          obtain ⟨cs', h1, h2⟩ := hel i (by omega)
          obtain ⟨as, h3, h4⟩ := trod_repr n e e' f2 cs' (D i, Pl i) he h2 (hs.2 _ ⟨i, hi, rfl⟩)
          exact ⟨as, cs', h1, h3, h4⟩
        let k := P.cellsOf e'
        let E : Nat → List AV := fun i => if hi : i < len then (key i hi).choose else []
        let V : Nat → List Value := fun i => if hi : i < len then (key i hi).choose_spec.choose else []
        have hE : ∀ i, i < len → w.cells? base (a.add (i * k)) k = some (V i) ∧ Cs w (E i) (V i) ∧ WT n e (E i) := fun i hi => by
          have := (key i hi).choose_spec.choose_spec
          simp only [E, V, hi, dif_pos]
          exact this
        have hVl : ∀ i, i < len → (V i).length = k := fun i hi => (cells_get (hE i hi).1).1
        have hEl : ∀ i, i < len → (E i).length = k := fun i hi => by rw [(hE i hi).2.1.1, hVl i hi]
        have hU : Unif k ((List.range len).map E) := fun c hc => by
          simp only [List.mem_map, List.mem_range] at hc
          obtain ⟨i, hi, rfl⟩ := hc
          exact hEl i hi
        have hfl : ((List.range len).map E).flatten.length = len * k := by rw [flatten_len hU]; simp
        have hcell : ∀ i, i < len → ∀ j, j < k → w.cell? ((a.add (i * k)).add j) = some ((V i).getD j default) := fun i hi j hj => (cells_get (hE i hi).1).2 j hj
        have hspot : 0 < len → a.spot = none ∧ a.block < w.heap.size := fun h0 => by
          have := hcell 0 h0 0 hk
          simp only [Nat.zero_mul, Addr.add, if_true] at this
          exact cell_spot this
        have haddr : a.spot = none → ∀ i j, (a.add (i * k)).add j = ⟨a.block, a.off + (i * k + j), none⟩ := fun hsp i j => by
          obtain ⟨b, o, s⟩ := a
          simp only at hsp
          subst hsp
          unfold Addr.add
          by_cases e1 : i * k = 0 <;> by_cases e2 : j = 0 <;> simp [e1, e2, Nat.add_assoc]
        refine ⟨[.sl ((List.range len).map E) .unk], .one rfl ?_, _, .unk, rfl, by simpa using hs.1, fun c hc => ?_⟩
        · have e0 : len = ((List.range len).map E).length := by simp
          rw [show Value.slice (some a) len cap = Value.slice (some a) ((List.range len).map E).length cap from by rw [← e0]]
          have hdiv : ∀ j, j < len * k → j / k < len ∧ j % k < k ∧ j / k * k + j % k = j := fun j hj =>
            ⟨(Nat.div_lt_iff_lt_mul hk).2 hj, Nat.mod_lt _ hk, by rw [Nat.mul_comm]; exact Nat.div_add_mod j k⟩
          refine .sl _ .unk (some a) cap a.block a.off (fun j => (V (j / k)).getD (j % k) default) (fun h0 => ?_) (fun j hj => ?_) (fun j hj => ?_) (by simpa using hl) trivial
          · rw [hfl] at h0
            have := (hspot (Nat.pos_of_mul_pos_right h0)).1
            obtain ⟨b, o, s⟩ := a
            simp only at this
            subst this
            rfl
          · rw [hfl] at hj
            obtain ⟨d1, d2, d3⟩ := hdiv j hj
            have hs0 := hspot (Nat.lt_of_le_of_lt (Nat.zero_le _) d1)
            have h1 := hcell _ d1 _ d2
            rw [haddr hs0.1, d3] at h1
            exact ⟨h1, ((hE _ d1).2.1.2 _ (by rw [hVl _ d1]; exact d2)).1, ro0 hs0.2⟩
          · rw [hfl] at hj
            obtain ⟨d1, d2, d3⟩ := hdiv j hj
            have := flatten_get hU (j / k) (E (j / k)) (by simp [d1]) (j % k) d2
            rw [d3] at this
            rw [this]
            exact ((hE _ d1).2.1.2 _ (by rw [hVl _ d1]; exact d2)).2
        · simp only [List.mem_map, List.mem_range] at hc
          obtain ⟨i, hi, rfl⟩ := hc
          exact (hE i hi).2.2
    · cases ht
  | .st f, t, fuel, cs, x, ht, h, hs => by
    unfold tyOf at ht
    split at ht
    · rename_i fs hu
      obtain ⟨xs, f2, rfl, rfl, hl, hx, hf⟩ := DataW.trod_struct hu h
      obtain ⟨as, h1, h2⟩ := trods_repr n f fs.toList 0 (P.cellsOf t) cs xs f2 ht hl (fun i f hf' => hf i f (by simpa using hf')) (by simpa using hx) (by simpa [sm] using hs)
      exact ⟨as, by simpa using h1, h2⟩
    · cases ht
theorem trods_repr (n : Nat) : ∀ (F : Fs) (fl : List Field) (o N : Nat) (cs : List Value) (xs : List (DataW H × List MemPlace)) (fuel : Nat), tysOf P F fl o N = true → cs.length = N →
    (∀ (i : Nat) (f : Field), fl[i]? = some f → DataW.trod enc P w base spare held fuel f.type ((cs.drop f.offset).take (P.cellsOf f.type)) = xs[i]?) → xs.length = fl.length → sms n F (xs.map (·.1)) → ∃ as, Cs w as (cs.drop o) ∧ WTs n F as
  | .nil, [], o, N, cs, xs, fuel, ht, hl, hf, hx, hs => by
    unfold tysOf at ht
    obtain rfl := of_decide_eq_true ht
    exact ⟨[], by rw [List.drop_eq_nil_of_le (by omega)]; exact ⟨rfl, fun j hj => by simp at hj⟩, rfl⟩
  | .cons T F, f :: fl, o, N, cs, [], fuel, ht, hl, hf, hx, hs => by simp at hx
  | .cons T F, f :: fl, o, N, cs, x :: xs, fuel, ht, hl, hf, hx, hs => by
    unfold tysOf at ht
    rw [Bool.and_eq_true, Bool.and_eq_true, decide_eq_true_eq] at ht
    obtain ⟨⟨rfl, h1⟩, h2⟩ := ht
    simp only [List.map_cons, sms] at hs
    obtain ⟨as, g1, g2⟩ := trod_repr n T f.type fuel _ x h1 (hf 0 f rfl) hs.1
    obtain ⟨bs, g3, g4⟩ := trods_repr n F fl (f.offset + P.cellsOf f.type) N cs xs fuel h2 hl (fun i g hg => hf (i + 1) g (by simpa using hg)) (by simpa using hx) hs.2
    refine ⟨as ++ bs, ?_, as, bs, rfl, g2, g4⟩
    have := g1.append g3
    rwa [← List.drop_drop, List.take_append_drop] at this
  | .nil, _ :: _, o, N, cs, xs, fuel, ht, hl, hf, hx, hs => by simp [tysOf] at ht
  | .cons _ _, [], o, N, cs, xs, fuel, ht, hl, hf, hx, hs => by simp [tysOf] at ht
end

-- Whatever is read: no text and no slice of it is longer than the machine allows.
mutual
theorem trod_sm : ∀ (T : Ty) (t : TypeId) (fuel : Nat) (cs : List Value) (x : DataW H × List MemPlace), tyOf P T t = true → DataW.trod enc P w base spare held fuel t cs = some x → sm maxLen T x.1
  | .bool, t, fuel, cs, x, ht, h => by simp [sm]
  | .int k, t, fuel, cs, x, ht, h => by simp [sm]
  | .str, t, fuel, cs, x, ht, h => by
    unfold tyOf at ht
    split at ht
    · rename_i hu
      obtain ⟨s, rfl, rfl, hw⟩ := DataW.trod_string hu h
      exact hw
    · cases ht
  | .sl e, t, fuel, cs, x, ht, h => by
    unfold tyOf at ht
    split at ht
    · rename_i e' hu
      rw [Bool.and_eq_true, decide_eq_true_eq] at ht
      obtain ⟨he, hk⟩ := ht
      rcases Go.Deep.open_slice hu h with ⟨rfl, rfl⟩ | ⟨a, len, cap, m, f2, D, Pl, rfl, hb, hl, hm, hmm, rfl, hel⟩
      · simp [sm]
      · have hlm : len ≤ m := by rw [hmm]; split <;> omega
        refine ⟨by simp only [List.length_map, List.length_range]; omega, fun d hd => ?_⟩
        simp only [List.mem_map, List.mem_range] at hd
        obtain ⟨i, hi, rfl⟩ := hd
        obtain ⟨cs', h1, h2⟩ := hel i (by omega)
        exact trod_sm e e' f2 cs' (D i, Pl i) he h2
    · cases ht
  | .st f, t, fuel, cs, x, ht, h => by
    unfold tyOf at ht
    split at ht
    · rename_i fs hu
      obtain ⟨xs, f2, rfl, rfl, hl, hx, hf⟩ := DataW.trod_struct hu h
      exact trods_sm f fs.toList 0 (P.cellsOf t) cs xs f2 ht (fun i f hf' => hf i f (by simpa using hf'))
    · cases ht
theorem trods_sm : ∀ (F : Fs) (fl : List Field) (o N : Nat) (cs : List Value) (xs : List (DataW H × List MemPlace)) (fuel : Nat), tysOf P F fl o N = true →
    (∀ (i : Nat) (f : Field), fl[i]? = some f → DataW.trod enc P w base spare held fuel f.type ((cs.drop f.offset).take (P.cellsOf f.type)) = xs[i]?) → sms maxLen F (xs.map (·.1))
  | .nil, fl, o, N, cs, xs, fuel, ht, hf => by simp [sms]
  | .cons T F, fl, o, N, cs, [], fuel, ht, hf => by simp [sms]
  | .cons T F, f :: fl, o, N, cs, x :: xs, fuel, ht, hf => by
    unfold tysOf at ht
    rw [Bool.and_eq_true, Bool.and_eq_true, decide_eq_true_eq] at ht
    obtain ⟨⟨rfl, h1⟩, h2⟩ := ht
    exact ⟨trod_sm T f.type fuel _ x h1 (hf 0 f rfl), trods_sm F fl (f.offset + P.cellsOf f.type) N cs xs fuel h2 (fun i g hg => hf (i + 1) g (by simpa using hg))⟩
  | .cons _ _, [], o, N, cs, x :: xs, fuel, ht, hf => by simp [tysOf] at ht
end
end
/-- A list of things that are all of a form is the form of a list. -/
theorem list_map_of {α β : Type} (f : α → β) : ∀ (es : List β), (∀ c ∈ es, ∃ a, c = f a) → ∃ l : List α, es = l.map f
  | [], _ => ⟨[], rfl⟩
  | e :: es, h => by
    obtain ⟨a, rfl⟩ := h e (List.mem_cons_self ..)
    obtain ⟨l, rfl⟩ := list_map_of f es fun c hc => h c (List.mem_cons_of_mem _ hc)
    exact ⟨a :: l, rfl⟩
end Go.Abs

/-
  From a contract of the abstract machine to what a law's row asks.
-/
namespace Go.Abs
open Go.RowKit
set_option linter.unusedSimpArgs false
set_option linter.unusedVariables false

section
variable {H : Type} {enc : TypeId × Value → H} {P : Program} {w : World}

def argOf : Ty → List AV → AV
  | .st _, as => .agg as
  | _, [x] => x
  | _, _ => .junk
/-- Arguments of these types. -/
def WA (n : Nat) : List Ty → List AV → Prop
  | [], xs => xs = []
  | T :: Ts, xs => ∃ as ys, xs = argOf T as :: ys ∧ WT n T as ∧ WA n Ts ys

theorem WT_one {n : Nat} {T : Ty} {as : List AV} (h : WT n T as) : (∃ f, T = .st f) ∨ ∃ x, as = [x] := by
  cases T with
  | bool => obtain ⟨b, rfl⟩ := h; exact .inr ⟨_, rfl⟩
  | int k => obtain ⟨b, rfl, _⟩ := h; exact .inr ⟨_, rfl⟩
  | str => obtain ⟨b, rfl, _⟩ := h; exact .inr ⟨_, rfl⟩
  | sl e => obtain ⟨b, t, rfl, _⟩ := h; exact .inr ⟨_, rfl⟩
  | st f => exact .inl ⟨f, rfl⟩

theorem no_agg {t : TypeId} {v : Value} {T : Ty} (hn : ∀ f, T ≠ .st f) (ht : tyOf P T t = true) {r : Reach} {base : Nat} (hv : Value.okWide P w r base t v) : ∀ cs, v ≠ .agg cs := by
  intro cs hc
  subst hc
  cases T with
  | st f => exact hn f rfl
  | bool =>
    simp only [tyOf] at ht; split at ht
    · rename_i hu; simp [Value.okWide, hu, Cell.okWide, Cell.ok] at hv
    · cases ht
  | int k =>
    simp only [tyOf] at ht; split at ht
    · rename_i hu; simp [Value.okWide, hu, Cell.okWide, Cell.ok] at hv
    · cases ht
  | str =>
    simp only [tyOf] at ht; split at ht
    · rename_i hu; simp [Value.okWide, hu, Cell.okWide, Cell.ok] at hv
    · cases ht
  | sl e =>
    simp only [tyOf] at ht; split at ht
    · rename_i hu; simp [Value.okWide, hu, Cell.okWide, Cell.ok] at hv
    · cases ht

theorem arg_repr {n : Nat} {T : Ty} {t : TypeId} {v : Value} (ht : tyOf P T t = true) {r : Reach} {base : Nat} (hv : Value.okWide P w r base t v) {as : List AV} (hc : Cs w as v.cells.toList) (hw : WT n T as) :
    Repr (C0 w) H0 w (argOf T as) v := by
  rcases WT_one hw with ⟨f, rfl⟩ | ⟨x, rfl⟩
  · simp only [tyOf] at ht
    split at ht
    · rename_i fs hu
      simp only [Value.okWide, hu] at hv
      obtain ⟨cs, rfl, _⟩ := hv
      refine .agg as cs (by simpa [Value.cells] using hc.1) (fun j hj => ?_) (fun j hj => ?_)
      · have := (hc.2 j (by rw [← hc.1]; exact hj)).1
        simpa [Value.cells, List.getD, Array.getD_eq_getD_getElem?] using this
      · have := (hc.2 j (by rw [← hc.1]; exact hj)).2
        simpa [Value.cells, List.getD, Array.getD_eq_getD_getElem?] using this
    · cases ht
  · by_cases hst : ∃ f, T = .st f
    · obtain ⟨f, rfl⟩ := hst
      simp only [tyOf] at ht
      split at ht
      · rename_i fs hu
        simp only [Value.okWide, hu] at hv
        obtain ⟨cs, rfl, _⟩ := hv
        refine .agg [x] cs (by simpa [Value.cells] using hc.1) (fun j hj => ?_) (fun j hj => ?_)
        · have := (hc.2 j (by rw [← hc.1]; exact hj)).1
          simpa [Value.cells, List.getD, Array.getD_eq_getD_getElem?] using this
        · have := (hc.2 j (by rw [← hc.1]; exact hj)).2
          simpa [Value.cells, List.getD, Array.getD_eq_getD_getElem?] using this
      · cases ht
    · have hna := no_agg (fun f e => hst ⟨f, e⟩) ht hv
      have e : v.cells.toList = [v] := by
        cases v <;> first | rfl | exact absurd rfl (hna _)
      rw [e] at hc
      have e2 : argOf T [x] = x := by
        cases T <;> first | rfl | exact absurd ⟨_, rfl⟩ hst
      rw [e2]
      exact (hc.2 0 (by simp)).2

theorem args_repr {n : Nat} {r : Reach} {base : Nat} : ∀ (Ts : List Ty) (ts : List TypeId) (vs : List Value) (ds : List (DataW H)) (ps : List MemPlace), ts.length = Ts.length → (∀ (j : Nat) (T : Ty) (t : TypeId), Ts[j]? = some T → ts[j]? = some t → tyOf P T t = true) →
    DataW.TrodAll enc P w 0 (fun _ => true) true ts vs ds ps → (∀ (j : Nat) t v, ts[j]? = some t → vs[j]? = some v → Value.okWide P w r base t v) → (∀ (j : Nat) (T : Ty) (d : DataW H), Ts[j]? = some T → ds[j]? = some d → sm n T d) →
    ∃ xs, ReprL (C0 w) H0 w xs vs ∧ WA n Ts xs
  | [], [], [], [], ps, _, _, h, hv, hs => ⟨[], ⟨rfl, fun j hj => by simp at hj⟩, rfl⟩
  | T :: Ts, t :: ts, v :: vs, d :: ds, ps, hl, ht, h, hv, hs => by
    obtain ⟨p, q, ⟨fuel, h1⟩, h2, rfl⟩ := h
    have ht0 := ht 0 T t rfl rfl
    obtain ⟨as, g1, g2⟩ := trod_repr n T t fuel _ (d, p) ht0 h1 (hs 0 T d rfl rfl)
    obtain ⟨xs, g3, g4⟩ := args_repr (base := base) (r := r) Ts ts vs ds q (by simpa using hl) (fun j T t h1 h2 => ht (j + 1) T t (by simpa using h1) (by simpa using h2)) h2 (fun j t v h1 h2 => hv (j + 1) t v (by simpa using h1) (by simpa using h2))
      (fun j T d h1 h2 => hs (j + 1) T d (by simpa using h1) (by simpa using h2))
    refine ⟨argOf T as :: xs, ⟨by simp [g3.1], fun j hj => ?_⟩, as, xs, rfl, g2, g4⟩
    cases j with
    | zero => exact arg_repr ht0 (hv 0 t v rfl rfl) g1 g2
    | succ j =>
      have := g3.2 j (by simpa using hj)
      simpa [List.getD] using this
  | [], [], _ :: _, _, ps, _, _, h, hv, hs => by simp [DataW.TrodAll] at h
  | [], [], [], _ :: _, ps, _, _, h, hv, hs => by simp [DataW.TrodAll] at h
  | _ :: _, _ :: _, [], _, ps, _, _, h, hv, hs => by simp [DataW.TrodAll] at h
  | _ :: _, _ :: _, _ :: _, [], ps, _, _, h, hv, hs => by simp [DataW.TrodAll] at h
  | [], _ :: _, _, _, ps, hl, _, h, hv, hs => by simp at hl
  | _ :: _, [], _, _, ps, hl, _, h, hv, hs => by simp at hl

theorem trodAll_stays {W W' : World} (hl : laidOutB P = true) (hb : Below W.heap.size W W') : ∀ (ts : List TypeId) (vs : List Value) (ds : List (DataW H)) (ps : List MemPlace), (∀ t ∈ ts, P.readableRec t = true ∧ t < P.types.size) →
    DataW.TrodAll enc P W 0 (fun _ => true) true ts vs ds ps → (∀ x ∈ ps, x.block < W.heap.size) → DataW.TrodAll enc P W' 0 (fun b => decide (b < W.heap.size)) true ts vs ds ps
  | [], [], [], ps, hr, h, hlt => h
  | t :: ts, v :: vs, d :: ds, ps, hr, h, hlt => by
    obtain ⟨p, q, h1, h2, rfl⟩ := h
    exact ⟨p, q, Below.trod hl (hr t (List.mem_cons_self ..)).1 (hr t (List.mem_cons_self ..)).2 h1 hb (fun x hx => hlt x (List.mem_append_left _ hx)),
      trodAll_stays hl hb ts vs ds q (fun t ht => hr t (List.mem_cons_of_mem _ ht)) h2 (fun x hx => hlt x (List.mem_append_right _ hx)), rfl⟩
  | [], [], _ :: _, ps, _, h, hv => by simp [DataW.TrodAll] at h
  | [], _ :: _, _, ps, _, h, hv => by simp [DataW.TrodAll] at h
  | _ :: _, [], _, ps, _, h, hv => by simp [DataW.TrodAll] at h
  | _ :: _, _ :: _, [], ps, _, h, hv => by simp [DataW.TrodAll] at h

theorem zip_ty {Ts : List Ty} {ts : List TypeId} (h : (List.zip Ts ts).all (fun p => tyOf P p.1 p.2) = true) : ∀ (j : Nat) (T : Ty) (t : TypeId), Ts[j]? = some T → ts[j]? = some t → tyOf P T t = true := fun j T t h1 h2 =>
  List.all_eq_true.1 h (T, t) (List.mem_of_getElem? (i := j) (by rw [List.getElem?_zip_eq_some]; exact ⟨h1, h2⟩))
theorem args_sm : ∀ (Ts : List Ty) (ts : List TypeId) (vs : List Value) (ds : List (DataW H)) (ps : List MemPlace), ts.length = Ts.length → (∀ (j : Nat) (T : Ty) (t : TypeId), Ts[j]? = some T → ts[j]? = some t → tyOf P T t = true) →
    DataW.TrodAll enc P w 0 (fun _ => true) true ts vs ds ps → ∀ (j : Nat) (T : Ty) (d : DataW H), Ts[j]? = some T → ds[j]? = some d → sm maxLen T d
  | [], [], vs, ds, ps, hl, ht, h, j, T, d, h1, h2 => by simp at h1
  | T :: Ts, t :: ts, v :: vs, d :: ds, ps, hl, ht, h, 0, T', d', h1, h2 => by
    obtain ⟨p, q, ⟨fuel, g1⟩, g2, rfl⟩ := h
    simp only [List.getElem?_cons_zero, Option.some.injEq] at h1 h2
    subst h1; subst h2
    exact trod_sm T t fuel _ _ (ht 0 T t rfl rfl) g1
  | T :: Ts, t :: ts, v :: vs, d :: ds, ps, hl, ht, h, j + 1, T', d', h1, h2 => by
    obtain ⟨p, q, _, g2, rfl⟩ := h
    exact args_sm Ts ts vs ds q (by simpa using hl) (fun j T t h1 h2 => ht (j + 1) T t (by simpa using h1) (by simpa using h2)) g2 j T' d' (by simpa using h1) (by simpa using h2)
  | _ :: _, _ :: _, [], _, ps, _, _, h, _, _, _, _, _ => by simp [DataW.TrodAll] at h
  | _ :: _, _ :: _, _ :: _, [], ps, _, _, h, _, _, _, _, h2 => by simp at h2
  | [], _ :: _, _, _, ps, hl, _, h, _, _, _, _, _ => by simp at hl
  | _ :: _, [], _, _, ps, hl, _, h, _, _, _, _, _ => by simp at hl

/-- A law that is true of all arguments of its types: what its row's step asks. -/
theorem law_contract {f : FuncId} {fn : Func} {s : ChangeSpec} {tb : TypeId} (Ts : List Ty) (n : Nat) (hvars : s.vars = [])
    (hfn : ∀ ds : List (DataW H), ds.length = fn.params.toList.length → s.fn H ds = { results := [.lit (.bool true)], args := ds })
    (hres : fn.resultTypes = #[tb]) (htb : P.underlying tb = some .bool) (hf : P.funcs[f]? = some fn) (hname : (fn.name == "runtime.NumGoroutine") = false) (hbody : fn.body.isNone = false)
    (hlaid : laidOutB P = true) (hpar : (fn.params.toList.all fun t => P.readableRec t && decide (t < P.types.size)) = true)
    (hTs : fn.params.toList.length = Ts.length ∧ (List.zip Ts fn.params.toList).all (fun p => tyOf P p.1 p.2) = true)
    (hcall : ∀ xs, WA n Ts xs → ACalls P f xs H0 fun x _ => x = .bool true)
    {W : World} {base : Nat} {args : Array Value} {ds gs : List (DataW H)} {before : List MemPlace}
    (hval : ∀ (j : Nat) t v, fn.params[j]? = some t → args[j]? = some v → Value.okWide P W .any base t v)
    (hW : DataW.Whole enc P fn.params.toList s.vars false W args.toList ds gs before)
    (hsm : ∀ (j : Nat) T d, Ts[j]? = some T → ds[j]? = some d → sm n T d) :
    Calls P f args W fun e W' => ∃ v, e = .returned v ∧ s.post enc P fn false true false false W args v W' := by
  have hW0 := hW
  obtain ⟨p, q, hA, hV, rfl, hfz, hnd⟩ := hW
  have hty : ∀ (j : Nat) (T : Ty) (t : TypeId), Ts[j]? = some T → fn.params.toList[j]? = some t → tyOf P T t = true := fun j T t h1 h2 => by
    have := List.all_eq_true.1 hTs.2 (T, t) (List.mem_of_getElem? (i := j) (by rw [List.getElem?_zip_eq_some]; exact ⟨h1, h2⟩))
    exact this
  obtain ⟨xs, hx1, hx2⟩ := args_repr (base := base) (r := .any) Ts fn.params.toList args.toList ds p hTs.1 hty hA (fun j t v h1 h2 => hval j t v (by simpa using h1) (by simpa using h2)) hsm
  have hc := hcall xs hx2 (C0 W) W args.toList (rel0 W) hx1
  rw [callFunc_enter hf hname hbody] at hc
  obtain ⟨_, hc⟩ := hc
  rw [show args.toList.toArray = args from by simp] at hc
  refine hc.mono fun e W' hp => ?_
  obtain ⟨C', H', x, v, rfl, hrel, hle, hrep, rfl⟩ := hp
  cases hrep
  have hbel : Below W.heap.size W W' := hle.below
  have hlt := hW0.lt
  obtain ⟨rfl, rfl⟩ : gs = [] ∧ q = [] := by
    rw [hvars] at hV
    cases gs with
    | nil => exact ⟨rfl, hV⟩
    | cons => simp [DataW.TrodVars] at hV
  have hlen : ∀ (ts : List TypeId) (vs : List Value) (ds : List (DataW H)) (ps : List MemPlace), DataW.TrodAll enc P W 0 (fun _ => true) true ts vs ds ps → ds.length = ts.length := by
    intro ts
    induction ts with
    | nil => intro vs ds ps h; cases vs <;> cases ds <;> simp_all [DataW.TrodAll]
    | cons t ts ih =>
      intro vs ds ps h
      cases vs with
      | nil => simp [DataW.TrodAll] at h
      | cons v vs => cases ds with
        | nil => simp [DataW.TrodAll] at h
        | cons d ds =>
          obtain ⟨p, q, _, h2, _⟩ := h
          simp [ih vs ds q h2]
  have hfe := hfn ds (hlen _ _ _ _ hA)
  refine ⟨.bool true, rfl, ds, [], p ++ [], [], p, [], hW0, ?_, ?_, ?_, hbel.frame _, fun h => by cases h⟩
  · rw [List.append_nil, hfe, hres]
    exact ⟨[], [], ⟨1, by simp [DataW.trod, htb, Value.cells]⟩, rfl, rfl⟩
  · rw [List.append_nil, hfe]
    exact trodAll_stays hlaid hbel _ _ _ _ (fun t ht => by
      have := List.all_eq_true.1 hpar t ht
      rw [Bool.and_eq_true, decide_eq_true_eq] at this
      exact this) hA (fun x hx => hlt x (by simpa using hx))
  · rw [hvars, List.append_nil, hfe]
    rfl
end
end Go.Abs
