/-
  An abstract machine over pure values, and that it tells what the program does (part 4 of 4).
-/
import Derived.Test.YthkfcmnpobobbaaGreatDoorAbs3
import Derived.Lib.Bytealg
import Derived.Lib.MakeNoZero
import Derived.Carry
import Derived.Deep.Slices
import Derived.ChangeSame

/-
  Code; loops; calls of functions.
-/
namespace Go.Abs
open Go.RowKit
set_option linter.unusedSimpArgs false
set_option linter.unusedVariables false

section
variable {P : Program} {C C' : Cx} {H H' : Heap} {w w' : World}

def ExitOK : Exit → AExit → Prop
  | .normal, .normal => True
  | .exit i, .exit j => i = j
  | .ret, .ret => True
  | _, _ => False

/-- What is asked behind code. -/
def CPost (P : Program) (C : Cx) (H : Heap) (w : World) (N : Nat) (K : KC) (e : Exit) (a' : Act) (w' : World) : Prop :=
  ∃ ae r' C' H', ExitOK e ae ∧ Rel P C' H' w' ∧ Le C H w C' H' w' ∧ StOK C' H' w' N r' a' ∧ K ae r' H'
theorem CPost.trans (hle : Le C H w C' H' w') {N : Nat} {K : KC} {e : Exit} {a' : Act} {w2 : World} (h : CPost P C' H' w' N K e a' w2) : CPost P C H w N K e a' w2 := by
  obtain ⟨ae, r', C2, H2, h0, h1, h2, h3, h4⟩ := h
  exact ⟨ae, r', C2, H2, h0, h1, hle.trans h2, h3, h4⟩
theorem CPost.mono {N : Nat} {K K' : KC} (hK : ∀ e r H, K e r H → K' e r H) {e : Exit} {a' : Act} {w2 : World} (h : CPost P C H w N K e a' w2) : CPost P C H w N K' e a' w2 := by
  obtain ⟨ae, r', C2, H2, h0, h1, h2, h3, h4⟩ := h
  exact ⟨ae, r', C2, H2, h0, h1, h2, h3, hK _ _ _ h4⟩

/-- What is asked of code once: slots in range, orders that stand for all. -/
def codeOK (P : Program) (X : Steer) (N : Nat) : Code → Bool
  | .region id ops draw => opsOK N ops.toList && (!draw || (P.follows .mixedOrders && (match X.tree id with | some .any => true | some t => okOT P X.pure ops ops.size (Array.replicate ops.size false) t | none => okOrd P X.pure ops ops.size (Array.replicate ops.size false) ((X.orders id).getD [List.range ops.size]))))
  | .seq a b => codeOK P X N a && codeOK P X N b
  | .cond _ a b => codeOK P X N a && codeOK P X N b
  | .block _ c => codeOK P X N c
  | .loop c => codeOK P X N c
  | _ => true

/-- A loop with a state beside the machine's. -/
theorem wp_loop_ix {ι : Type} {c : Code} {Q : Exit → Act → World → Prop} (I : ι → Act → World → Prop) (μ : ι → Nat)
    (round : ∀ i a w, I i a w → c.wp P (Exit.then (fun a' w' => ∃ j, I j a' w' ∧ μ j < μ i) Q) a w) : ∀ i a w, I i a w → (Code.loop c).wp P Q a w := by
  intro i a w h₀ b k cs
  have key : ∀ n i a w, μ i = n → I i a w → ∃ e a' w', Q e a' w' ∧ Arrives P (lone (b.at a (.code c :: .inLoop c :: k)) cs w) b k cs e a' w' := by
    intro n
    induction n using Nat.strongRecOn with
    | _ n ih =>
      intro i a w hn hI
      obtain ⟨e, a₁, w₁, hq, harr⟩ := round i a w hI b (.inLoop c :: k) cs
      cases e with
      | normal =>
        obtain ⟨j, hI₁, hlt⟩ := hq
        obtain ⟨e₂, a₂, w₂, hq₂, harr₂⟩ := ih (μ j) (hn ▸ hlt) j a₁ w₁ rfl hI₁
        exact ⟨e₂, a₂, w₂, hq₂, .of_steps (Steps.trans harr (.one step_inLoop)) harr₂⟩
      | exit id => exact ⟨_, a₁, w₁, hq, .pass (x := .inLoop c) rfl (fun _ _ => .inl (by simp)) harr⟩
      | goto l => exact ⟨_, a₁, w₁, hq, .pass (x := .inLoop c) rfl (fun _ _ => .inl (by simp)) harr⟩
      | ret => exact ⟨_, a₁, w₁, hq, .pass (x := .inLoop c) rfl (fun _ _ => .inl (by simp)) harr⟩
      | panic ch => exact ⟨_, a₁, w₁, hq, .pass (x := .inLoop c) rfl (fun _ _ => .inl (by simp)) harr⟩
      | outgrown => exact ⟨_, a₁, w₁, hq, .pass (x := .inLoop c) rfl (fun _ _ => .inl (by simp)) harr⟩
  obtain ⟨e, a', w', hq, harr⟩ := key _ i a w rfl h₀
  exact ⟨e, a', w', hq, .of_steps (.one step_loop) harr⟩

theorem acode_sound {X : Steer} (hpu : PuOK P X.pure) {N : Nat} : ∀ (c : Code), codeOK P X N c = true → ∀ (K : KC) (r : Regs) (C : Cx) (H : Heap) (w : World) (a : Act), acode P X c K r H → Rel P C H w → StOK C H w N r a → c.wp P (CPost P C H w N K) a w := by
  intro c
  induction c with
  | skip => intro _ K r C H w a h hrel hst; exact wp_skip ⟨.normal, r, C, H, trivial, hrel, Le.refl _ _ _, hst, h⟩
  | region id ops draw =>
    intro hok K r C H w a h hrel hst
    simp only [codeOK, Bool.and_eq_true] at hok
    obtain ⟨hN, hd⟩ := hok
    have hQ : ∀ a' w', NPost P C H w N (K .normal) a' w' → CPost P C H w N K .normal a' w' := fun a' w' ⟨r', C', H', h1, h2, h3, h4⟩ => ⟨.normal, r', C', H', trivial, h1, h2, h3, h4⟩
    cases draw with
    | false =>
      have h : aops P X ops.toList (List.range ops.size) r H (K .normal) := by
        simpa only [acode] using h
      exact wp_region (aops_sound hpu hN _ r C H w a _ h hrel hst hQ)
    | true =>
      simp only [Bool.not_true, Bool.false_or, Bool.and_eq_true] at hd
      obtain ⟨hm, hd⟩ := hd
      obtain ⟨d1, d2⟩ := Le.drew hrel
      have hany : aAny P X ops ops.size (Array.replicate ops.size false) r H (K .normal) := by
        simp only [acode] at h
        split at hd
        · rename_i ht
          have h : aOT P X ops.toList .any (K .normal) r H := by
            revert h
            rw [ht]
            exact fun h => h
          have h : aAny P X ops.toList.toArray ops.toList.length (Array.replicate ops.toList.length false) r H (K .normal) := h
          rwa [Array.toArray_toList, Array.length_toList] at h
        · rename_i t _ ht
          simp only [ht] at h
          exact okOT_sound _ _ _ _ _ hd h
        · rename_i ht
          simp only [ht] at h
          refine okOrd_sound _ _ _ r H hd ?_
          split at h
          · rename_i os _ ho
            cases ho
          · rename_i os _ _ ho
            rw [ho]; exact h
          · rename_i hno1 hno
            cases ho : X.orders id with
            | none =>
              intro o hmem
              simp only [Option.getD_none, List.mem_singleton] at hmem
              subst hmem; exact h
            | some os => exact absurd ho (hno os rfl rfl)
      refine wp_region_any hm (aAny_sound hpu hN _ _ r C H w.drew a _ hany d2 (hst.mono d1) fun a' w' hp => hQ a' w' (hp.trans d1))
  | seq x y ihx ihy =>
    intro hok K r C H w a h hrel hst
    simp only [codeOK, Bool.and_eq_true] at hok
    refine wp_seq (wp_mono (ihx hok.1 _ r C H w a h hrel hst) fun e a' w' hp => ?_)
    obtain ⟨ae, r', C', H', h0, h1, h2, h3, h4⟩ := hp
    cases e <;> cases ae <;> simp only [ExitOK] at h0
    · exact wp_mono (ihy hok.2 K r' C' H' w' a' h4 h1 h3) fun e a2 w2 hp => hp.trans h2
    · subst h0; exact ⟨.exit _, r', C', H', rfl, h1, h2, h3, h4⟩
    · exact ⟨.ret, r', C', H', trivial, h1, h2, h3, h4⟩
  | cond c x y ihx ihy =>
    intro hok K r C H w a h hrel hst
    simp only [codeOK, Bool.and_eq_true] at hok
    have h : condA (ev r c) (acode P X x K r H) (acode P X y K r H) := h
    have hc := ev_sound hst.regs c
    unfold condA at h
    split at h
    · rename_i t ht
      rw [ht] at hc
      exact wp_cond_split (repr_bool hc) (fun e => ihx hok.1 K r C H w a (h.1 e) hrel hst) (fun e => ihy hok.2 K r C H w a (h.2 e) hrel hst)
    · exact h.elim
  | block id c ih =>
    intro hok K r C H w a h hrel hst
    refine wp_block (wp_mono (ih hok _ r C H w a h hrel hst) fun e a' w' hp => ?_)
    obtain ⟨ae, r', C', H', h0, h1, h2, h3, h4⟩ := hp
    cases e <;> cases ae <;> simp only [ExitOK] at h0
    · exact ⟨.normal, r', C', H', trivial, h1, h2, h3, h4⟩
    · subst h0
      simp only [Exit.inBlock]
      simp only [KC.blk] at h4
      split
      · rename_i he; simp only [he, if_true] at h4; exact ⟨.normal, r', C', H', trivial, h1, h2, h3, h4⟩
      · rename_i he; simp only [he, if_false] at h4; exact ⟨.exit _, r', C', H', rfl, h1, h2, h3, h4⟩
    · exact ⟨.ret, r', C', H', trivial, h1, h2, h3, h4⟩
  | loop c ih =>
    intro hok K r C H w a h hrel hst
    obtain ⟨σ, view, I, μ, s0, g1, g2, g3⟩ : loopG (acode P X c) K r H := h
    refine wp_loop_ix (ι := σ) (fun s a' w' => ∃ r' C' H', Rel P C' H' w' ∧ Le C H w C' H' w' ∧ StOK C' H' w' N r' a' ∧ agrees r' (view s) ∧ I s H') μ (fun s a' w' hI => ?_) s0 a w ⟨r, C, H, hrel, Le.refl _ _ _, hst, g1, g2⟩
    obtain ⟨r', C', H', h1, h2, h3, h4, h5⟩ := hI
    refine wp_mono (ih hok _ r' C' H' w' a' (g3 s r' H' h4 h5) h1 h3) fun e a2 w2 hp => ?_
    obtain ⟨ae, r2, C2, H2, k0, k1, k2, k3, k4⟩ := hp
    cases e <;> cases ae <;> simp only [ExitOK] at k0
    · obtain ⟨s', s1, s2, s3⟩ := k4
      exact ⟨s', ⟨r2, C2, H2, k1, h2.trans k2, k3, s1, s2⟩, s3⟩
    · subst k0; exact ⟨.exit _, r2, C2, H2, rfl, k1, h2.trans k2, k3, k4⟩
    · exact ⟨.ret, r2, C2, H2, trivial, k1, h2.trans k2, k3, k4⟩
  | rangeFunc => intro _ K r C H w a h; exact h.elim
  | exit id => intro _ K r C H w a h hrel hst; exact wp_exit ⟨.exit id, r, C, H, rfl, hrel, Le.refl _ _ _, hst, h⟩
  | scope => intro _ K r C H w a h; exact h.elim
  | label l => intro _ K r C H w a h hrel hst; exact wp_label ⟨.normal, r, C, H, trivial, hrel, Le.refl _ _ _, hst, h⟩
  | goto => intro _ K r C H w a h; exact h.elim
  | ret => intro _ K r C H w a h hrel hst; exact wp_ret ⟨.ret, r, C, H, trivial, hrel, Le.refl _ _ _, hst, h⟩
  | refuse => intro _ K r C H w a h; exact h.elim
end
end Go.Abs

/-
  A call of a function with a body; what is known otherwise at the end (a slice that is written no more; what is forgotten).
-/
namespace Go.Abs
open Go.RowKit
set_option linter.unusedSimpArgs false
set_option linter.unusedVariables false

section
variable {P : Program} {C C' : Cx} {H H' : Heap} {w w' : World}

/-- The same state of the machine, seen in another way. -/
def Ghost (P : Program) (x : AV) (H : Heap) (x' : AV) (H' : Heap) : Prop :=
  ∀ C w v, Rel P C H w → Repr C H w x v → ∃ C', Rel P C' H' w ∧ Le C H w C' H' w ∧ Repr C' H' w x' v
def Done (P : Program) (R : K1) (x : AV) (H : Heap) : Prop := ∃ x' H', Ghost P x H x' H' ∧ R x' H'
theorem Ghost.refl (x : AV) (H : Heap) : Ghost P x H x H := fun C w v h1 h2 => ⟨C, h1, Le.refl _ _ _, h2⟩
theorem Ghost.forget {x : AV} {H H' : Heap} (h : H'.Sub H) : Ghost P x H x H' := fun C w v h1 h2 => by
  obtain ⟨f1, f2⟩ := Le.forget h1 h
  exact ⟨C, f2, f1, h2.mono f1⟩
theorem Ghost.trans {x x' x'' : AV} {H H' H'' : Heap} (h : Ghost P x H x' H') (k : Ghost P x' H' x'' H'') : Ghost P x H x'' H'' := fun C w v h1 h2 => by
  obtain ⟨C', a1, a2, a3⟩ := h C w v h1 h2
  obtain ⟨C'', b1, b2, b3⟩ := k C' w v a1 a3
  exact ⟨C'', b1, a2.trans b2, b3⟩
theorem Done.now {R : K1} {x : AV} {H : Heap} (h : R x H) : Done P R x H := ⟨x, H, Ghost.refl _ _, h⟩
theorem Done.drop {R : K1} {x : AV} {H H' : Heap} (hs : H'.Sub H) (h : R x H') : Done P R x H := ⟨x, H', Ghost.forget hs, h⟩

/-- The results of a function. -/
def aRes (P : Program) : List ResultVar → Regs → Heap → (List AV → Prop) → Prop
  | [], _, _, K => K []
  | .tmp t :: l, r, H, K => aRes P l r H fun vs => K (r t :: vs)
  | .cell a t :: l, r, H, K => aLoad P t (r a) H fun v _ => aRes P l r H fun vs => K (v :: vs)
def oneOr : List AV → AV
  | [v] => v
  | vs => .tup vs

theorem load_val (hrel : Rel P C H w) {t : TypeId} {x : AV} {u : Value} (hx : Repr C H w x u) {K : K1} (h : aLoad P t x H K) : ∃ z v ad, u = .pointer (some ad) ∧ (loadVar t ad).run P w = .ok v w ∧ Repr C H w z v ∧ K z H := by
  unfold aLoad at h
  split at h
  · rename_i i hi
    split at h
    · rename_i id off
      unfold cellsAt at h
      split at h
      · rename_i cs hcs
        obtain ⟨z, hz, hK⟩ := so_some h
        cases hx with
        | ptr _ _ hid =>
        obtain ⟨-, -, arr, ty, fr, a1, a2, a3, a4⟩ := hrel.live id _ hcs
        obtain ⟨v, v1, v2⟩ := readC_sound (P := P) (C := C) (H := H) (w := w) (b := C.β id) (off := off) (us := fun j => arr.getD (off + j) default) hi (fun j hj => by
          simp only [List.length_drop] at hj
          refine ⟨cell_of_cells a1 (by omega), (a3 _ (by omega)).1, ?_⟩
          rw [getD_drop]; exact (a3 _ (by omega)).2) hz
        exact ⟨z, v, _, rfl, v1, v2, hK⟩
      · exact h.elim
    · rename_i cs
      obtain ⟨z, hz, hK⟩ := so_some h
      cases hx with
      | rptr _ b off us hc hr =>
      obtain ⟨v, v1, v2⟩ := readC_sound (P := P) (C := C) (H := H) (w := w) hi (fun j hj => ⟨(hc j hj).1, (hc j hj).2.1, hr j hj⟩) hz
      exact ⟨z, v, _, rfl, v1, v2, hK⟩
    · rename_i g off
      split at h
      · rename_i k zs hg
        obtain ⟨z, hz, hK⟩ := so_some h
        cases hx
        obtain ⟨v, v1, v2⟩ := readC_sound (P := P) (C := C) (H := H) (w := w) (b := g) (off := off) (us := fun j => .int k (zs.getD (off + j) 0)) hi (tab_cells hrel hg) hz
        exact ⟨z, v, _, rfl, v1, v2, hK⟩
      · exact h.elim
    · exact h.elim
  · exact h.elim

theorem aRes_sound (hrel : Rel P C H w) {r : Regs} {tmps : Array Value} (hr : RegsOK C H w r tmps) : ∀ (l : List ResultVar) (K : List AV → Prop), aRes P l r H K →
    ∃ xs vs, (l.mapM (m := Sem) fun | .tmp t => pure (tmps.getD t undef) | .cell a t => do loadVar t (← asAddr (tmps.getD a undef))).run P w = .ok vs w ∧ ReprL C H w xs vs ∧ K xs := by
  intro l
  induction l with
  | nil => intro K h; exact ⟨[], [], rfl, ⟨rfl, by simp⟩, h⟩
  | cons x l ih =>
    intro K h
    have cons : ∀ {x : AV} {v : Value} {xs : List AV} {vs : List Value}, Repr C H w x v → ReprL C H w xs vs → ReprL C H w (x :: xs) (v :: vs) := fun {x v xs vs} h1 h2 => ⟨by simp [h2.1], fun j hj => by
      cases j with
      | zero => exact h1
      | succ j => simpa using h2.2 j (by simpa using hj)⟩
    cases x with
    | tmp t =>
      obtain ⟨xs, vs, h1, h2, h3⟩ := ih _ h
      exact ⟨r t :: xs, tmps.getD t undef :: vs, by simp only [List.mapM_cons, Sem.run_bind, Sem.run_pure, Result.andThen_ok, h1], cons (hr t) h2, h3⟩
    | cell a t =>
      obtain ⟨z, v, ad, g1, g2, g3, g4⟩ := load_val hrel (hr a) h
      obtain ⟨xs, vs, h1, h2, h3⟩ := ih _ g4
      refine ⟨z :: xs, v :: vs, ?_, cons g3 h2, h3⟩
      have e : (asAddr (tmps.getD a undef)).run P w = .ok ad w := by rw [g1]; rfl
      simp only [List.mapM_cons, Sem.run_bind, Sem.run_pure, Result.andThen_ok, h1, e, g2]

theorem results_sound (hrel : Rel P C H w) {fn : Func} {r : Regs} {tmps : Array Value} (hr : RegsOK C H w r tmps) {K : List AV → Prop} (h : aRes P fn.results.toList r H K) :
    ∃ xs v, (results fn tmps).run P w = .ok v w ∧ Repr C H w (oneOr xs) v ∧ K xs := by
  obtain ⟨xs, vs, h1, h2, h3⟩ := aRes_sound hrel hr _ _ h
  have hm : (fn.results.mapM (m := Sem) fun | .tmp t => pure (tmps.getD t undef) | .cell a t => do loadVar t (← asAddr (tmps.getD a undef))).run P w = .ok vs.toArray w := by
    rw [Array.mapM_eq_mapM_toList, Sem.run_map, h1]; rfl
  have hrun : (results fn tmps).run P w = .ok (if h : vs.toArray.size = 1 then vs.toArray[0] else .tuple vs.toArray) w := by
    unfold results
    rw [Sem.run_bind]
    exact congrArg (fun r : Result (Array Value) => r.andThen fun vs w' => (pure (if h : vs.size = 1 then vs[0] else .tuple vs) : Sem Value).run P w') hm
  refine ⟨xs, _, hrun, ?_, h3⟩
  obtain ⟨l1, l2⟩ := h2
  cases xs with
  | nil =>
    have : vs = [] := List.eq_nil_of_length_eq_zero l1.symm
    subst this
    exact .tup [] #[] rfl (by simp)
  | cons x xs =>
    cases vs with
    | nil => simp at l1
    | cons v vs =>
      cases xs with
      | nil =>
        cases vs with
        | nil => simpa [oneOr] using l2 0 (by simp)
        | cons => simp at l1
      | cons y ys =>
        cases vs with
        | nil => simp at l1
        | cons u us =>
          have hs : ¬ (v :: u :: us).toArray.size = 1 := by simp
          rw [dif_neg hs]
          refine .tup _ _ (by simpa using l1) (fun j hj => ?_)
          have := l2 j hj
          simpa [List.getD, Array.getD_eq_getD_getElem?] using this

def regs0 (args : List AV) : Regs := fun t => args.getD t (.tup [])

/-- What is asked where a function returns. -/
def RetK (P : Program) (rs : List ResultVar) (R : K1) : KC := fun e r H =>
  match e with
  | .exit _ => False
  | _ => aRes P rs r H fun xs => Done P R (oneOr xs) H

theorem callFunc_enter {f : FuncId} {fn : Func} (hf : P.funcs[f]? = some fn) (hn : (fn.name == "runtime.NumGoroutine") = false) (hb : fn.body.isNone = false) (args : Array Value) : (callFunc f args).run P w = .ok (.enter f args) w := by
  have hn' : ¬ fn.name = "runtime.NumGoroutine" := by simpa using hn
  have hb' : ¬ fn.body = none := by intro h; rw [h] at hb; cases hb
  simp [callFunc, hf, hn', hb']

/-- A function by its code. -/
theorem ACalls.of_code {f : FuncId} {fn : Func} {c : Code} {X : Steer} (hpu : PuOK P X.pure) {args : List AV} {R : K1} (hf : P.funcs[f]? = some fn) (hn : (fn.name == "runtime.NumGoroutine") = false) (hb : fn.body = some c) (hok : codeOK P X fn.ntmps c = true) (hl : args.length ≤ fn.ntmps)
    (h : acode P X c (RetK P fn.results.toList R) (regs0 args) H) : ACalls P f args H R := by
  refine ⟨fun C w vs hrel hv => ?_⟩
  rw [callFunc_enter hf hn (by rw [hb]; rfl)]
  refine ⟨rfl, calls_of_wp hf hb ?_⟩
  have hst : StOK C H w fn.ntmps (regs0 args) { tmps := vs.toArray ++ Array.replicate (fn.ntmps - vs.toArray.size) undef, defers := [] } := by
    refine ⟨fun t => ?_, by simp [← hv.1]; omega, rfl⟩
    by_cases hlt : t < args.length
    · have e1 : regs0 args t = args.getD t .junk := by simp [regs0, List.getD, hlt]
      have e2 : (vs.toArray ++ Array.replicate (fn.ntmps - vs.toArray.size) undef).getD t undef = vs.getD t default := by
        have : t < vs.length := by rw [← hv.1]; exact hlt
        simp [Array.getD_eq_getD_getElem?, List.getD, Array.getElem?_append_left (show t < vs.toArray.size by simpa using this), this]
      rw [e1, e2]; exact hv.2 t hlt
    · have e1 : regs0 args t = .tup [] := by simp [regs0, List.getD, Nat.le_of_not_lt hlt]
      have e2 : (vs.toArray ++ Array.replicate (fn.ntmps - vs.toArray.size) undef).getD t undef = undef := by
        have hge : vs.toArray.size ≤ t := by rw [List.size_toArray, ← hv.1]; omega
        rw [Array.getD_eq_getD_getElem?, Array.getElem?_append_right hge, Array.getElem?_replicate]
        split <;> rfl
      rw [e1, e2]; exact .tup [] #[] rfl (by simp)
  refine wp_mono (acode_sound hpu c hok _ _ C H w _ h hrel hst) fun e a' w' hp => ?_
  obtain ⟨ae, r', C', H', h0, h1, h2, h3, h4⟩ := hp
  have fin : aRes P fn.results.toList r' H' (fun xs => Done P R (oneOr xs) H') → a'.defers = [] ∧ ∃ v, (results fn a'.tmps).run P w' = .ok v w' ∧ Post P C H w R (.returned v) w' := fun hres => by
    obtain ⟨xs, v, g1, g2, x', H2, g3, g4⟩ := results_sound (fn := fn) h1 h3.regs hres
    obtain ⟨C2, k1, k2, k3⟩ := g3 C' w' v h1 g2
    exact ⟨h3.defers, v, g1, C2, H2, x', v, rfl, k1, h2.trans k2, k3, g4⟩
  cases e <;> cases ae <;> simp only [ExitOK] at h0
  · exact fin h4
  · exact h4.elim
  · exact fin h4
end
end Go.Abs

/-
  The abstract machine's steps as equations, for simp.
-/
namespace Go.Abs
open Go.RowKit
set_option linter.unusedSimpArgs false
set_option linter.unusedVariables false

section
variable (P : Program) (X : Steer)

/-- An operation without what is of no account here; its guard names a slot. -/
structure SOp where
  dst : Option Nat
  op : Op
  guard : Option (Option Nat × Bool)
def gslot (all : List Oper) (g : Option (Nat × Bool)) : Option (Option Nat × Bool) :=
  match g with
  | none => none
  | some (j, b) => some ((all[j]?).bind (·.dst), b)
def strip (all : List Oper) : List Oper → List SOp
  | [] => []
  | o :: l => ⟨o.dst, o.op, gslot all o.guard⟩ :: strip all l
def guardS (v : AV) (want : Bool) (Ky Kn : Prop) : Prop :=
  match v with
  | .bool b => if b = want then Ky else Kn
  | .tup [] => Kn
  | _ => False
def wantedS (r : Regs) (g : Option (Option Nat × Bool)) (Ky Kn : Prop) : Prop :=
  match g with
  | none => Ky
  | some (some d, want) => guardS (r d) want Ky Kn
  | some (none, _) => False
def sops : List SOp → (Regs → Heap → Prop) → Regs → Heap → Prop
  | [], K, r, H => K r H
  | o :: l, K, r, H => wantedS r o.guard (aop P X.pure (msOf X o.dst) r H o.op fun v H' => sops l K (put r o.dst v) H') (sops l K (put r o.dst (.tup [])) H)
/-- What follows an operation. -/
def opK (l : List SOp) (K : Regs → Heap → Prop) (r : Regs) (d : Option Nat) : K1 := fun v H => sops P X l K (put r d v) H
theorem opK_eq (l : List SOp) (K : Regs → Heap → Prop) (r : Regs) (d : Option Nat) (v : AV) (H : Heap) : opK P X l K r d v H = sops P X l K (put r d v) H := rfl
theorem sops_nil (K : Regs → Heap → Prop) (r : Regs) (H : Heap) : sops P X [] K r H = K r H := rfl
theorem aops_sops (all : List Oper) : ∀ (l : List Oper) (n : Nat) (r : Regs) (H : Heap) (K : Regs → Heap → Prop), all.drop n = l → aops P X all (List.range' n l.length) r H K = sops P X (strip all l) K r H := by
  intro l
  induction l with
  | nil => intro n r H K _; rfl
  | cons o l ih =>
    intro n r H K hn
    have hg : all[n]? = some o := by
      have := congrArg List.head? hn
      simpa [List.head?_drop] using this
    have hd : all.drop (n + 1) = l := by
      have := congrArg List.tail hn
      simpa [List.tail_drop] using this
    rw [List.length_cons, List.range'_succ]
    unfold aops
    rw [hg]
    simp only [strip, sops]
    have e : ∀ r H, aops P X all (List.range' (n + 1) l.length) r H K = sops P X (strip all l) K r H := fun r H => ih (n + 1) r H K hd
    simp only [e]
    unfold wantedA wantedS gslot
    cases o.guard with
    | none => rfl
    | some gw =>
      obtain ⟨j, b⟩ := gw
      simp only
      cases (all[j]?).bind (·.dst) with
      | none => rfl
      | some d => unfold guardS; rfl
theorem aops_range (ops : Array Oper) (r : Regs) (H : Heap) (K : Regs → Heap → Prop) : aops P X ops.toList (List.range ops.size) r H K = sops P X (strip ops.toList ops.toList) K r H := by
  have := aops_sops P X ops.toList ops.toList 0 r H K rfl
  rwa [Array.length_toList, ← List.range_eq_range'] at this

def seqK (b : Code) (K : KC) : KC := KC.then (acode P X b K) K
theorem seqK_normal (b : Code) (K : KC) (r : Regs) (H : Heap) : seqK P X b K .normal r H = acode P X b K r H := rfl
theorem seqK_exit (b : Code) (K : KC) (i : Nat) (r : Regs) (H : Heap) : seqK P X b K (.exit i) r H = K (.exit i) r H := rfl
theorem seqK_ret (b : Code) (K : KC) (r : Regs) (H : Heap) : seqK P X b K .ret r H = K .ret r H := rfl
def blkK (id : Nat) (K : KC) : KC := KC.blk id K
theorem blkK_normal (id : Nat) (K : KC) (r : Regs) (H : Heap) : blkK id K .normal r H = K .normal r H := rfl
theorem blkK_exit (id : Nat) (K : KC) (i : Nat) (r : Regs) (H : Heap) : blkK id K (.exit i) r H = if i = id then K .normal r H else K (.exit i) r H := rfl
theorem blkK_ret (id : Nat) (K : KC) (r : Regs) (H : Heap) : blkK id K .ret r H = K .ret r H := rfl
def nrm (K : KC) : Regs → Heap → Prop := K .normal
theorem nrm_eq (K : KC) (r : Regs) (H : Heap) : nrm K r H = K .normal r H := rfl
def aloop (c : Code) (K : KC) (r : Regs) (H : Heap) : Prop := loopG (acode P X c) K r H

theorem acode_skip (K : KC) (r : Regs) (H : Heap) : acode P X .skip K r H = K .normal r H := rfl
theorem acode_region (id : Nat) (ops : Array Oper) (K : KC) (r : Regs) (H : Heap) : acode P X (.region id ops false) K r H = sops P X (strip ops.toList ops.toList) (nrm K) r H := by
  rw [← aops_range]
  rfl
theorem acode_draw (id : Nat) (ops : Array Oper) (K : KC) (r : Regs) (H : Heap) : acode P X (.region id ops true) K r H = match X.tree id, X.orders id with
    | some t, _ => aOT P X ops.toList t (nrm K) r H
    | none, some os => ∀ o ∈ os, aops P X ops.toList o r H (nrm K)
    | none, none => sops P X (strip ops.toList ops.toList) (nrm K) r H := by
  rw [← aops_range]
  simp only [acode]
  cases X.tree id <;> cases X.orders id <;> rfl
/-- The operations of a region in an order that is told. -/
def stripO (all : List Oper) : List Nat → List SOp
  | [] => []
  | i :: l => match all[i]? with
    | some o => ⟨o.dst, o.op, gslot all o.guard⟩ :: stripO all l
    | none => []
theorem aops_order (all : List Oper) : ∀ (l : List Nat) (r : Regs) (H : Heap) (K : Regs → Heap → Prop), (l.all fun i => decide (i < all.length)) = true → aops P X all l r H K = sops P X (stripO all l) K r H := by
  intro l
  induction l with
  | nil => intro r H K _; rfl
  | cons i l ih =>
    intro r H K hl
    rw [List.all_cons, Bool.and_eq_true, decide_eq_true_eq] at hl
    have hi : all[i]? = some (all[i]'hl.1) := List.getElem?_eq_getElem hl.1
    unfold aops
    simp only [stripO, hi, sops]
    have e : ∀ r H, aops P X all l r H K = sops P X (stripO all l) K r H := fun r H => ih r H K hl.2
    simp only [e]
    unfold wantedA wantedS gslot
    cases (all[i]'hl.1).guard with
    | none => rfl
    | some gw =>
      obtain ⟨j, b⟩ := gw
      simp only
      cases (all[j]?).bind (·.dst) with
      | none => rfl
      | some d => unfold guardS; rfl
theorem acode_seq (a b : Code) (K : KC) (r : Regs) (H : Heap) : acode P X (.seq a b) K r H = acode P X a (seqK P X b K) r H := rfl
theorem acode_block (id : Nat) (c : Code) (K : KC) (r : Regs) (H : Heap) : acode P X (.block id c) K r H = acode P X c (blkK id K) r H := rfl
theorem acode_loop (c : Code) (K : KC) (r : Regs) (H : Heap) : acode P X (.loop c) K r H = aloop P X c K r H := rfl
theorem acode_exit (id : Nat) (K : KC) (r : Regs) (H : Heap) : acode P X (.exit id) K r H = K (.exit id) r H := rfl
theorem acode_label (id : Nat) (K : KC) (r : Regs) (H : Heap) : acode P X (.label id) K r H = K .normal r H := rfl
theorem acode_ret (K : KC) (r : Regs) (H : Heap) : acode P X .ret K r H = K .ret r H := rfl
theorem RetK_normal (rs : List ResultVar) (R : K1) (r : Regs) (H : Heap) : RetK P rs R .normal r H = aRes P rs r H fun xs => Done P R (oneOr xs) H := rfl
theorem RetK_ret (rs : List ResultVar) (R : K1) (r : Regs) (H : Heap) : RetK P rs R .ret r H = aRes P rs r H fun xs => Done P R (oneOr xs) H := rfl

theorem upd_same (r : Regs) (t : Nat) (v : AV) : upd r t v t = v := by simp [upd]
theorem upd_ne (r : Regs) (t : Nat) (v : AV) (i : Nat) (h : ¬ i = t) : upd r t v i = r i := by simp [upd, h]
end

/-- At the loop's head again, with a smaller measure. -/
def Again {σ : Type} (view : σ → List (Nat × AV)) (I : σ → Heap → Prop) (μ : σ → Nat) (s : σ) (r : Regs) (H : Heap) : Prop := ∃ s', agrees r (view s') ∧ I s' H ∧ μ s' < μ s
theorem Again.mk {σ : Type} {view : σ → List (Nat × AV)} {I : σ → Heap → Prop} {μ : σ → Nat} {s : σ} {r : Regs} {H : Heap} (s' : σ) (h1 : agrees r (view s')) (h2 : I s' H) (h3 : μ s' < μ s) : Again view I μ s r H := ⟨s', h1, h2, h3⟩
/-- A loop: the slots that matter at its head, as a function of a state; what holds of the state and the heap; a measure. -/
theorem aloop_intro {P : Program} {X : Steer} {c : Code} {K : KC} {r : Regs} {H : Heap} {σ : Type} (view : σ → List (Nat × AV)) (I : σ → Heap → Prop) (μ : σ → Nat) (s0 : σ) (h0 : agrees r (view s0)) (h1 : I s0 H)
    (round : ∀ s r H, agrees r (view s) → I s H → acode P X c (KC.then (Again view I μ s) K) r H) : aloop P X c K r H := ⟨σ, view, I, μ, s0, h0, h1, round⟩

theorem agrees_nil (r : Regs) : agrees r [] = True := rfl
theorem agrees_cons (r : Regs) (t : Nat) (v : AV) (l : List (Nat × AV)) : agrees r ((t, v) :: l) = (r t = v ∧ agrees r l) := rfl
theorem then_normal (n : Regs → Heap → Prop) (K : KC) (r : Regs) (H : Heap) : KC.then n K .normal r H = n r H := rfl
theorem then_exit (n : Regs → Heap → Prop) (K : KC) (i : Nat) (r : Regs) (H : Heap) : KC.then n K (.exit i) r H = K (.exit i) r H := rfl
theorem then_ret (n : Regs → Heap → Prop) (K : KC) (r : Regs) (H : Heap) : KC.then n K .ret r H = K .ret r H := rfl
theorem ACalls.then {P : Program} {f : FuncId} {args : List AV} {H : Heap} {R R' : K1} (h : ACalls P f args H R) (hR : ∀ x H', R x H' → R' x H') : ACalls P f args H R' := h.mono hR
/-! ### What follows, by a weaker thing -/
section
variable {P : Program} {X : Steer}
theorem aops_mono {all : List Oper} {K K' : Regs → Heap → Prop} (h : ∀ r H, K r H → K' r H) : ∀ (l : List Nat) (r : Regs) (H : Heap), aops P X all l r H K → aops P X all l r H K'
  | [], r, H, hh => h r H hh
  | i :: l, r, H, hh => by
    unfold aops at hh ⊢
    split at hh
    · rename_i o ho
      exact wantedA_mono (fun hy => aop_mono (fun v H' hv => aops_mono h l _ _ hv) hy) (fun hn => aops_mono h l _ _ hn) hh
    · exact hh.elim
theorem aAny_mono {ops : Array Oper} {K K' : Regs → Heap → Prop} (h : ∀ r H, K r H → K' r H) : ∀ (f : Nat) (listed : Array Bool) (r : Regs) (H : Heap), aAny P X ops f listed r H K → aAny P X ops f listed r H K'
  | 0, listed, r, H, hh => ⟨hh.1, h r H hh.2⟩
  | f + 1, listed, r, H, hh => ⟨fun h0 => h r H (hh.1 h0), fun i hi => aopI_mono (fun r' H' hk => aAny_mono h f _ r' H' hk) (hh.2 i hi)⟩
theorem aOT_mono {all : List Oper} {K K' : Regs → Heap → Prop} (h : ∀ r H, K r H → K' r H) : ∀ (t : OT) (r : Regs) (H : Heap), aOT P X all t K r H → aOT P X all t K' r H
  | .done, r, H, hh => h r H hh
  | .any, r, H, hh => aAny_mono h _ _ r H hh
  | .seg l t, r, H, hh => aops_mono (fun r H hk => aOT_mono h t r H hk) l r H hh
  | .or a b, r, H, hh => ⟨aOT_mono h a r H hh.1, aOT_mono h b r H hh.2⟩
theorem acode_mono : ∀ (c : Code) {K K' : KC}, (∀ e r H, K e r H → K' e r H) → ∀ (r : Regs) (H : Heap), acode P X c K r H → acode P X c K' r H := by
  intro c
  induction c with
  | skip => intro K K' h r H hh; exact h _ _ _ hh
  | region id ops draw =>
    intro K K' h r H hh
    simp only [acode] at hh ⊢
    split at hh
    · exact aOT_mono (fun r H hk => h _ _ _ hk) _ _ _ hh
    · exact fun o ho => aops_mono (fun r H hk => h _ _ _ hk) _ _ _ (hh o ho)
    · exact aops_mono (fun r H hk => h _ _ _ hk) _ _ _ hh
  | seq a b iha ihb =>
    intro K K' h r H hh
    refine iha (fun e r H hk => ?_) r H hh
    cases e
    · exact ihb h _ _ hk
    · exact h _ _ _ hk
    · exact h _ _ _ hk
  | cond c x y ihx ihy =>
    intro K K' h r H hh
    have hh : condA (ev r c) (acode P X x K r H) (acode P X y K r H) := hh
    show condA (ev r c) (acode P X x K' r H) (acode P X y K' r H)
    unfold condA at hh ⊢
    split at hh
    · exact ⟨fun e => ihx h _ _ (hh.1 e), fun e => ihy h _ _ (hh.2 e)⟩
    · exact hh.elim
  | block id c ih =>
    intro K K' h r H hh
    refine ih (fun e r H hk => ?_) r H hh
    cases e with
    | normal => exact h _ _ _ hk
    | exit i =>
      have hk : if i = id then K .normal r H else K (.exit i) r H := hk
      show if i = id then K' .normal r H else K' (.exit i) r H
      by_cases he : i = id
      · rw [if_pos he] at hk ⊢; exact h _ _ _ hk
      · rw [if_neg he] at hk ⊢; exact h _ _ _ hk
    | ret => exact h _ _ _ hk
  | loop c ih =>
    intro K K' h r H hh
    obtain ⟨σ, view, I, μ, s0, h0, h1, h2⟩ : loopG (acode P X c) K r H := hh
    refine (⟨σ, view, I, μ, s0, h0, h1, fun s r H ha hI => ih (fun e r H hk => ?_) r H (h2 s r H ha hI)⟩ : loopG (acode P X c) K' r H)
    cases e
    · exact hk
    · exact h _ _ _ hk
    · exact h _ _ _ hk
  | rangeFunc => intro K K' h r H hh; exact hh.elim
  | exit id => intro K K' h r H hh; exact h _ _ _ hh
  | scope => intro K K' h r H hh; exact hh.elim
  | label l => intro K K' h r H hh; exact h _ _ _ hh
  | goto => intro K K' h r H hh; exact hh.elim
  | ret => intro K K' h r H hh; exact h _ _ _ hh
  | refuse => intro K K' h r H hh; exact hh.elim
/-- What follows a loop that is left by 'id' is asked once. -/
def cutK (id : Nat) (Q : Regs → Heap → Prop) (K : KC) : KC
  | .exit i, r, H => if i = id then Q r H else K (.exit i) r H
  | e, r, H => K e r H
theorem cutK_exit (id : Nat) (Q : Regs → Heap → Prop) (K : KC) (i : Nat) (r : Regs) (H : Heap) : cutK id Q K (.exit i) r H = if i = id then Q r H else K (.exit i) r H := rfl
theorem cutK_ret (id : Nat) (Q : Regs → Heap → Prop) (K : KC) (r : Regs) (H : Heap) : cutK id Q K .ret r H = K .ret r H := rfl
theorem cutK_normal (id : Nat) (Q : Regs → Heap → Prop) (K : KC) (r : Regs) (H : Heap) : cutK id Q K .normal r H = K .normal r H := rfl
theorem aloop_cut {c : Code} {K : KC} {r : Regs} {H : Heap} (id : Nat) (Q : Regs → Heap → Prop) (hQ : ∀ r H, Q r H → K (.exit id) r H) (h : aloop P X c (cutK id Q K) r H) : aloop P X c K r H := by
  refine acode_mono (.loop c) (K := cutK id Q K) (fun e r H hk => ?_) r H h
  cases e with
  | normal => exact hk
  | exit i =>
    simp only [cutK] at hk
    split at hk
    · rename_i he; subst he; exact hQ _ _ hk
    · exact hk
  | ret => exact hk
/-! ### What follows one piece of code, asked once -/
def midK (Q : Regs → Heap → Prop) (K : KC) : KC
  | .normal, r, H => Q r H
  | e, r, H => K e r H
theorem midK_normal (Q : Regs → Heap → Prop) (K : KC) (r : Regs) (H : Heap) : midK Q K .normal r H = Q r H := rfl
theorem midK_exit (Q : Regs → Heap → Prop) (K : KC) (i : Nat) (r : Regs) (H : Heap) : midK Q K (.exit i) r H = K (.exit i) r H := rfl
theorem midK_ret (Q : Regs → Heap → Prop) (K : KC) (r : Regs) (H : Heap) : midK Q K .ret r H = K .ret r H := rfl
theorem acode_mid {c : Code} {K : KC} {r : Regs} {H : Heap} (Q : Regs → Heap → Prop) (hQ : ∀ r H, Q r H → K .normal r H) (h : acode P X c (midK Q K) r H) : acode P X c K r H := by
  refine acode_mono c (K := midK Q K) (fun e r H hk => ?_) r H h
  cases e with
  | normal => exact hQ _ _ hk
  | exit i => exact hk
  | ret => exact hk
/-! ### A tree of orders -/
def tOT (P : Program) (X : Steer) (all : List Oper) : OT → (Regs → Heap → Prop) → Regs → Heap → Prop
  | .done, K, r, H => K r H
  | .any, K, r, H => aAny P X all.toArray all.length (Array.replicate all.length false) r H K
  | .seg l t, K, r, H => sops P X (stripO all l) (fun r' H' => tOT P X all t K r' H') r H
  | .or a b, K, r, H => tOT P X all a K r H ∧ tOT P X all b K r H
def OT.ok (n : Nat) : OT → Bool
  | .done => true
  | .any => true
  | .seg l t => l.all (fun i => decide (i < n)) && t.ok n
  | .or a b => a.ok n && b.ok n
theorem aOT_eq (all : List Oper) : ∀ (t : OT) (K : Regs → Heap → Prop) (r : Regs) (H : Heap), t.ok all.length = true → aOT P X all t K r H = tOT P X all t K r H := by
  intro t
  induction t with
  | done => intro K r H _; rfl
  | any => intro K r H _; rfl
  | seg l t ih =>
    intro K r H h
    simp only [OT.ok, Bool.and_eq_true] at h
    show aops P X all l r H (fun r' H' => aOT P X all t K r' H') = _
    rw [aops_order P X all l r H _ h.1]
    have e : (fun r' H' => aOT P X all t K r' H') = fun r' H' => tOT P X all t K r' H' := by
      funext r' H'
      exact ih K r' H' h.2
    rw [e]
    rfl
  | or a b iha ihb =>
    intro K r H h
    simp only [OT.ok, Bool.and_eq_true] at h
    show (aOT P X all a K r H ∧ aOT P X all b K r H) = (tOT P X all a K r H ∧ tOT P X all b K r H)
    rw [iha K r H h.1, ihb K r H h.2]
theorem acode_tree {id : Nat} {t : OT} (ht : X.tree id = some t) {ops : Array Oper} (h : t.ok ops.toList.length = true) (K : KC) (r : Regs) (H : Heap) : acode P X (.region id ops true) K r H = tOT P X ops.toList t (nrm K) r H := by
  rw [acode_draw, ht, ← aOT_eq _ _ _ _ _ h]
theorem tOT_done (all : List Oper) (K : Regs → Heap → Prop) (r : Regs) (H : Heap) : tOT P X all .done K r H = K r H := rfl
theorem tOT_seg (all : List Oper) (l : List Nat) (t : OT) (K : Regs → Heap → Prop) (r : Regs) (H : Heap) : tOT P X all (.seg l t) K r H = sops P X (stripO all l) (fun r' H' => tOT P X all t K r' H') r H := rfl
theorem tOT_or (all : List Oper) (a b : OT) (K : Regs → Heap → Prop) (r : Regs) (H : Heap) : tOT P X all (.or a b) K r H = (tOT P X all a K r H ∧ tOT P X all b K r H) := rfl
end
end Go.Abs

/-
  The set of equations for the walk over the abstract machine.
-/
namespace Go.Abs
set_option linter.unusedVariables false
/-- A function that changes nothing that is seen and answers one thing. -/
theorem ACalls.pure_next {P : Program} {f : FuncId} {args : List AV} {H : Heap} {K : K1} (v : AV) (h : ACalls P f args H fun x H' => x = v ∧ H' = H) (hK : K v H) : ACalls P f args H K := by
  refine h.mono ?_
  rintro x H' ⟨rfl, rfl⟩
  exact hK

def putP (f : FuncId) (s : List AV → Option AV) (pu : Pures) : Pures := fun g => if g = f then some s else pu g
def pu0 : Pures := fun _ => none
theorem putP_same (f : FuncId) (s : List AV → Option AV) (pu : Pures) : putP f s pu f = some s := by simp [putP]
theorem putP_ne (f : FuncId) (s : List AV → Option AV) (pu : Pures) (g : FuncId) (h : ¬ g = f) : putP f s pu g = pu g := by simp [putP, h]
theorem putP_if (f : FuncId) (s : List AV → Option AV) (pu : Pures) (g : FuncId) : putP f s pu g = if g = f then some s else pu g := rfl
theorem pu0_at (g : FuncId) : pu0 g = none := rfl
theorem PuOK.zero {P : Program} : PuOK P pu0 := fun g s h => by cases h
theorem PuOK.put {P : Program} {pu : Pures} (h : PuOK P pu) {f : FuncId} {s : List AV → Option AV} (hf : ∀ xs v, s xs = some v → ∀ H, ACalls P f xs H fun x H' => x = v ∧ H' = H) : PuOK P (putP f s pu) := by
  intro g t ht xs v hv H
  by_cases e : g = f
  · subst e
    rw [putP_same] at ht
    cases ht
    exact hf xs v hv H
  · rw [putP_ne f s pu g e] at ht
    exact h g t ht xs v hv H
/-- The operations on bits, by name. -/
def andI (k : IntKind) (a b : Int) : Int := k.wrap (BitVec.ofInt k.bits a &&& BitVec.ofInt k.bits b).toNat
def orI (k : IntKind) (a b : Int) : Int := k.wrap (BitVec.ofInt k.bits a ||| BitVec.ofInt k.bits b).toNat
def xorI (k : IntKind) (a b : Int) : Int := k.wrap (BitVec.ofInt k.bits a ^^^ BitVec.ofInt k.bits b).toNat
def shlI (k : IntKind) (a b : Int) : Int := k.wrap (a * 2 ^ (min b.toNat k.bits))
def shrI (k : IntKind) (a b : Int) : Int := a.fdiv (2 ^ (min b.toNat k.bits))
/-- An operation whose guard has the value 'v'. -/
def gd (P : Program) (X : Steer) (d : Option Nat) (op : Op) (l : List SOp) (K : Regs → Heap → Prop) (w : Bool) (v : AV) (r : Regs) (H : Heap) : Prop :=
  guardS v w (aop P X.pure (msOf X d) r H op (opK P X l K r d)) (sops P X l K (put r d (.tup [])) H)
/-- Two ways. -/
def cnd (P : Program) (X : Steer) (x y : Code) (K : KC) (v : AV) (r : Regs) (H : Heap) : Prop := condA v (acode P X x K r H) (acode P X y K r H)
/-- A new object of cells. -/
def nwC (cs : List AV) (H : Heap) (K : K1) : Prop := newId H fun id => K (.ptr id 0) (H.put id (.cells cs))
def nwM (kk : KK) (H : Heap) (K : K1) : Prop := newId H fun id => K (.map id) (H.put id (.map kk []))
def nwT (t : TypeId) (n : Nat) (cs : List AV) (H : Heap) (K : K1) : Prop := newId H fun id => K (.tptr t n id) (H.put id (.cells cs))
theorem nwT_intro {t : TypeId} {n : Nat} {cs : List AV} {H : Heap} {K : K1} (h : ∀ id, H id = none → K (.tptr t n id) (H.put id (.cells cs))) : nwT t n cs H K := h
theorem nwC_intro {cs : List AV} {H : Heap} {K : K1} (h : ∀ id, H id = none → K (.ptr id 0) (H.put id (.cells cs))) : nwC cs H K := h
theorem nwM_intro {kk : KK} {H : Heap} {K : K1} (h : ∀ id, H id = none → K (.map id) (H.put id (.map kk []))) : nwM kk H K := h
section
variable (P : Program) (X : Steer) (d : Option Nat) (op : Op) (l : List SOp) (K : Regs → Heap → Prop) (KK : KC) (r : Regs) (H : Heap) (x y : Code)
theorem gd_tt : gd P X d op l K true (.bool true) r H = aop P X.pure (msOf X d) r H op (opK P X l K r d) := rfl
theorem gd_ff : gd P X d op l K false (.bool false) r H = aop P X.pure (msOf X d) r H op (opK P X l K r d) := rfl
theorem gd_tf : gd P X d op l K true (.bool false) r H = sops P X l K (put r d (.tup [])) H := rfl
theorem gd_ft : gd P X d op l K false (.bool true) r H = sops P X l K (put r d (.tup [])) H := rfl
theorem gd_no (w : Bool) : gd P X d op l K w (.tup []) r H = sops P X l K (put r d (.tup [])) H := rfl
theorem sops_n : sops P X (⟨d, op, none⟩ :: l) K r H = aop P X.pure (msOf X d) r H op (opK P X l K r d) := rfl
theorem sops_g (g : Nat) (w : Bool) : sops P X (⟨d, op, some (some g, w)⟩ :: l) K r H = gd P X d op l K w (r g) r H := rfl
theorem cnd_t : cnd P X x y KK (.bool true) r H = acode P X x KK r H := by simp [cnd, condA]
theorem cnd_f : cnd P X x y KK (.bool false) r H = acode P X y KK r H := by simp [cnd, condA]
theorem acode_cnd (c : Operand) : acode P X (.cond c x y) KK r H = cnd P X x y KK (ev r c) r H := rfl
end
theorem gd_intro {P : Program} {X : Steer} {d : Option Nat} {op : Op} {l : List SOp} {K : Regs → Heap → Prop} {w b : Bool} {r : Regs} {H : Heap}
    (ht : b = true → gd P X d op l K w (.bool true) r H) (hf : b = false → gd P X d op l K w (.bool false) r H) : gd P X d op l K w (.bool b) r H := by
  cases b
  · exact hf rfl
  · exact ht rfl
theorem cnd_intro {P : Program} {X : Steer} {x y : Code} {K : KC} {b : Bool} {r : Regs} {H : Heap}
    (ht : b = true → acode P X x K r H) (hf : b = false → acode P X y K r H) : cnd P X x y K (.bool b) r H := by
  cases b
  · rw [cnd_f]; exact hf rfl
  · rw [cnd_t]; exact ht rfl
/-- What follows both branches, asked once. -/
theorem cnd_mid {P : Program} {X : Steer} {x y : Code} {K : KC} {v : AV} {r : Regs} {H : Heap} (Q : Regs → Heap → Prop) (hQ : ∀ r H, Q r H → K .normal r H) (h : cnd P X x y (midK Q K) v r H) : cnd P X x y K v r H := by
  unfold cnd at h ⊢
  unfold condA at h ⊢
  split at h
  · exact ⟨fun e => acode_mid Q hQ (h.1 e), fun e => acode_mid Q hQ (h.2 e)⟩
  · exact h.elim

section
variable (P : Program) (X : Steer) (pu : Pures) (r : Regs) (H : Heap) (K : K1)

/-- What follows a pure value. -/
def so1 (m : Option AV) (K : K1) (H : Heap) : Prop := so m fun v => K v H
theorem so1_some (v : AV) : so1 (some v) K H = K v H := rfl
theorem so1_none : so1 none K H = False := rfl
theorem so1_if (c : Prop) [Decidable c] (a : Option AV) : so1 (if c then a else none) K H = (c ∧ so1 a K H) := by
  by_cases h : c <;> simp [h, so1, so]
def loadAt' (o : Option AObj) (off n : Nat) (agg : Bool) (K : K1) (H : Heap) : Prop := cellsAt o fun cs => so1 (readC agg n (cs.drop off)) K H
theorem loadAt_cells (cs : List AV) (off n : Nat) (agg : Bool) : loadAt' (some (.cells cs)) off n agg K H = so1 (readC agg n (cs.drop off)) K H := rfl
def storeAt' (o : Option AObj) (id off n : Nat) (x : AV) (K : K1) (H : Heap) : Prop := cellsAt o fun cs => x.isVal = true ∧ x.cells.length = n ∧ off + n ≤ cs.length ∧ K .junk (H.put id (.cells (writeC cs off x.cells)))
theorem storeAt_cells (cs : List AV) (id off n : Nat) (x : AV) : storeAt' (some (.cells cs)) id off n x K H = (x.isVal = true ∧ x.cells.length = n ∧ off + n ≤ cs.length ∧ K .junk (H.put id (.cells (writeC cs off x.cells)))) := rfl
theorem gslot_none (all : List Oper) : gslot all none = none := rfl
theorem gslot_some (all : List Oper) (j : Nat) (b : Bool) : gslot all (some (j, b)) = some ((all[j]?).bind (·.dst), b) := rfl
theorem strip_nil (all : List Oper) : strip all [] = [] := rfl
theorem strip_cons (all l : List Oper) (d : Option Tmp) (op : Op) (t : TypeId) (pos : String) (after : Array Edge) (g : Option (Nat × Bool)) :
    strip all (⟨d, op, t, pos, after, g⟩ :: l) = ⟨d, op, gslot all g⟩ :: strip all l := rfl
theorem put_some (t : Nat) (v : AV) : put r (some t) v = upd r t v := rfl
theorem put_none (v : AV) : put r none v = r := rfl

theorem aop_move (ms : Bool) (x : Operand) : aop P pu ms r H (.move x) K = K (ev r x) H := rfl
theorem aop_assign (ms : Bool) (x : Operand) : aop P pu ms r H (.assign x) K = K (ev r x) H := rfl
theorem aop_pick (ms : Bool) (c a b : Operand) : aop P pu ms r H (.pick c a b) K = so1 (pickA (ev r c) (ev r a) (ev r b)) K H := rfl
theorem aop_bin_of (ms : Bool) (o : BinOp) (t t' : TypeId) (x y : Operand) (h : nilArg (.binOp o t x y t') = none) : aop P pu ms r H (.binOp o t x y t') K = so1 (bin P o t (isC x) (isC y) (ev r x) (ev r y)) K H := by
  simp only [aop, h]
  rfl
theorem aop_bin_tmp (ms : Bool) (o : BinOp) (t t' : TypeId) (x : Operand) (i : Nat) : aop P pu ms r H (.binOp o t x (.tmp i) t') K = so1 (bin P o t (isC x) false (ev r x) (r i)) K H := aop_bin_of P pu r H K ms o t t' x _ (by cases o <;> rfl)
theorem aop_bin_int (ms : Bool) (o : BinOp) (t t' : TypeId) (x : Operand) (k : IntKind) (n : Int) : aop P pu ms r H (.binOp o t x (.const (.int k n)) t') K = so1 (bin P o t (isC x) true (ev r x) (.int k n)) K H := aop_bin_of P pu r H K ms o t t' x _ (by cases o <;> rfl)
theorem aop_bin_str (ms : Bool) (o : BinOp) (t t' : TypeId) (x : Operand) (s : ByteArray) : aop P pu ms r H (.binOp o t x (.const (.string s)) t') K = so1 (bin P o t (isC x) true (ev r x) (.str s.data.toList)) K H := aop_bin_of P pu r H K ms o t t' x _ (by cases o <;> rfl)
theorem aop_bin_bool (ms : Bool) (o : BinOp) (t t' : TypeId) (x : Operand) (b : Bool) : aop P pu ms r H (.binOp o t x (.const (.bool b)) t') K = so1 (bin P o t (isC x) true (ev r x) (.bool b)) K H := aop_bin_of P pu r H K ms o t t' x _ (by cases o <;> rfl)
theorem aop_bin_nilp (ms : Bool) (o : BinOp) (t t' : TypeId) (x : Operand) : aop P pu ms r H (.binOp o t x (.const (.pointer none)) t') K = so1 (bin P o t (isC x) true (ev r x) .nilp) K H := aop_bin_of P pu r H K ms o t t' x _ (by cases o <;> rfl)
theorem aop_bin_nili (ms : Bool) (o : BinOp) (t t' : TypeId) (x : Operand) : aop P pu ms r H (.binOp o t x (.const .nilIface) t') K = so1 (bin P o t (isC x) true (ev r x) .nilIface) K H := aop_bin_of P pu r H K ms o t t' x _ (by cases o <;> rfl)
theorem aop_eq_nil (ms : Bool) (t t' : TypeId) (x : Operand) : aop P pu ms r H (.binOp .eql t x (.const (.slice none 0 0)) t') K = (isSlice P t = true ∧ aNil (ev r x) false H K) := rfl
theorem aop_ne_nil (ms : Bool) (t t' : TypeId) (x : Operand) : aop P pu ms r H (.binOp .neq t x (.const (.slice none 0 0)) t') K = (isSlice P t = true ∧ aNil (ev r x) true H K) := rfl
theorem isSlice_eq (t : TypeId) : isSlice P t = match descOf P t with | .slice _ => true | _ => false := rfl
theorem aop_un (ms : Bool) (o : UnOp) (t : TypeId) (x : Operand) : aop P pu ms r H (.unOp o t x) K = so1 (un o (ev r x)) K H := rfl
theorem aop_field (ms : Bool) (t : TypeId) (x : Operand) (f : Nat) : aop P pu ms r H (.field t x f) K = so1 (fieldA P t (ev r x) f) K H := rfl
theorem aop_fieldAddr (ms : Bool) (t : TypeId) (x : Operand) (f : Nat) : aop P pu ms r H (.fieldAddr t x f) K = so1 (fieldAddrA P t (ev r x) f) K H := rfl
theorem aop_index (ms : Bool) (t : TypeId) (x i : Operand) : aop P pu ms r H (.index t x i) K = so1 (indexA P t (ev r x) (ev r i)) K H := rfl
theorem aop_indexAddr (ms : Bool) (t : TypeId) (x i : Operand) : aop P pu ms r H (.indexAddr t x i) K = so1 (indexAddrA P t (ev r x) (ev r i)) K H := rfl
theorem aop_slice (ms : Bool) (t : TypeId) (x : Operand) (lo hi mx : Option Operand) : aop P pu ms r H (.slice t x lo hi mx) K = aSlice P r t (ev r x) lo hi mx H K := rfl
theorem aop_range (ms : Bool) (t : TypeId) (x : Operand) : aop P pu ms r H (.range t x) K = aRange P t (ev r x) H K := rfl
theorem aop_here (ms : Bool) (x : Operand) : aop P pu ms r H (.entry x) K = aHere (ev r x) H K := rfl
theorem aop_next (ms : Bool) (x : Operand) : aop P pu ms r H (.next x false) K = aNext (ev r x) H K := rfl
theorem aop_entry (ms : Bool) (t : TypeId) (m k : Operand) : aop P pu ms r H (.mapEntry t m k) K = aEntry P t (ev r m) (ev r k) H K := rfl
theorem aop_entryStore (ms : Bool) (t : TypeId) (m s x : Operand) : aop P pu ms r H (.entryStore t m s x) K = aEntryStore (ev r m) (ev r s) (ev r x) H K := rfl
theorem aSlice_sl (t : TypeId) (es : List (List AV)) (tl : Tail) (lo hi mx : Option Operand) : aSlice P r t (.sl es tl) lo hi mx H K = so1 (sliceA P r t (.sl es tl) lo hi mx) K H := rfl
theorem aSlice_str (t : TypeId) (s : List UInt8) (lo hi mx : Option Operand) : aSlice P r t (.str s) lo hi mx H K = so1 (sliceA P r t (.str s) lo hi mx) K H := rfl
theorem aSlice_ms (t : TypeId) (id off len k : Nat) (lo hi mx : Option Operand) : aSlice P r t (.ms id off len k) lo hi mx H K = so1 (sliceA P r t (.ms id off len k) lo hi mx) K H := rfl
def intV : AV → Option Int
  | .int _ n => some n
  | _ => none
theorem intV_int (k : IntKind) (n : Int) : intV (.int k n) = some n := rfl
theorem intOf_none (d : Int) : intOf d r none = some d := rfl
theorem intOf_some (d : Int) (x : Operand) : intOf d r (some x) = intV (ev r x) := by
  unfold intOf intV
  cases h : ev r x <;> simp [h]
theorem sliceA_str (t : TypeId) (s : List UInt8) (lo hi : Option Operand) : sliceA P r t (.str s) lo hi none = match intOf 0 r lo, intOf s.length r hi with
    | some l, some h => if descOf P t = .string ∧ 0 ≤ l ∧ l ≤ h ∧ h ≤ s.length then some (.str ((s.take h.toNat).drop l.toNat)) else none
    | _, _ => none := by
  unfold sliceA
  cases intOf 0 r lo <;> dsimp only <;> cases intOf s.length r hi <;> rfl
theorem sliceA_sl (t : TypeId) (es : List (List AV)) (tl : Tail) (lo hi : Option Operand) : sliceA P r t (.sl es tl) lo hi none = match intOf 0 r lo, sliceE P t, intOf es.length r hi with
    | some l, some i, some h => if 0 ≤ l ∧ l ≤ h ∧ h ≤ es.length ∧ Unif i.size es then some (.sl ((es.take h.toNat).drop l.toNat) (cutTail lo hi tl)) else none
    | _, _, _ => none := by
  unfold sliceA
  cases intOf 0 r lo <;> dsimp only <;> cases sliceE P t <;> cases intOf es.length r hi <;> rfl
theorem sliceA_ms (t : TypeId) (id off len k : Nat) (lo hi : Option Operand) : sliceA P r t (.ms id off len k) lo hi none = match intOf 0 r lo, sliceE P t, intOf len r hi with
    | some l, some i, some h => if 0 ≤ l ∧ l ≤ h ∧ h ≤ len ∧ k = i.size then some (.ms id (off + l.toNat * k) (h - l).toNat k) else none
    | _, _, _ => none := by
  unfold sliceA
  cases intOf 0 r lo <;> dsimp only <;> cases sliceE P t <;> cases intOf len r hi <;> rfl
def cutP (o : Option AObj) (off n size : Nat) (K : Prop) : Prop := cellsAt o fun cs => off + n * size ≤ cs.length ∧ K
theorem cutP_cells (cs : List AV) (off n size : Nat) (Q : Prop) : cutP (some (.cells cs)) off n size Q = (off + n * size ≤ cs.length ∧ Q) := rfl
theorem aSlice_ptr (t : TypeId) (id off : Nat) (lo hi : Option Operand) : aSlice P r t (.ptr id off) lo hi none H K = match arrOf P t with
    | some (n, e) => (match intOf 0 r lo, intOf n r hi with
      | some l, some h => 0 ≤ l ∧ l ≤ h ∧ h ≤ n ∧ cutP (H id) off n e.size (K (.ms id (off + l.toNat * e.size) (h - l).toNat e.size) H)
      | _, _ => False)
    | none => False := by
  unfold aSlice
  cases arrOf P t with
  | none => rfl
  | some p =>
    obtain ⟨n, e⟩ := p
    cases intOf 0 r lo <;> dsimp only <;> cases intOf n r hi <;> rfl
theorem aop_extract (ms : Bool) (x : Operand) (i : Nat) : aop P pu ms r H (.extract x i) K = so1 (extractA (ev r x) i) K H := rfl
theorem aop_nilCheck (ms : Bool) (x : Operand) : aop P pu ms r H (.nilCheck x) K = so1 (nilChk (ev r x)) K H := rfl
theorem aop_makeFunc (ms : Bool) (fn : Fn) (f c : Array Operand) : aop P pu ms r H (.makeFunc fn f c) K = so1 (funcA fn (f.toList.map (ev r)) (c.toList.map (ev r))) K H := rfl
theorem aop_iface (ms : Bool) (t : TypeId) (x : Operand) : aop P pu ms r H (.makeInterface t x) K = so1 (ifaceA P t (ev r x)) K H := rfl
theorem aop_build (ms : Bool) (t : TypeId) (ps : Array (Nat × Operand)) : aop P pu ms r H (.build t ps) K = so1 (buildA P t (ps.toList.map fun p => (p.1, ev r p.2))) K H := rfl
theorem aop_alloc (ms : Bool) (t : TypeId) : aop P pu ms r H (.alloc t) K = aAlloc P ms t H K := rfl
theorem aop_box (ms : Bool) (t : TypeId) (x : Operand) : aop P pu ms r H (.box t x) K = aBox (ev r x) H K := rfl
theorem aop_load (ms : Bool) (t : TypeId) (x : Operand) : aop P pu ms r H (.load t x) K = aLoad P t (ev r x) H K := rfl
theorem aop_store (ms : Bool) (t : TypeId) (a x : Operand) : aop P pu ms r H (.store t a x) K = aStore P t (ev r a) (ev r x) H K := rfl
theorem aop_buildSlice (ms : Bool) (t : TypeId) (n : Nat) (ps : Array (Nat × Operand)) : aop P pu ms r H (.buildSlice t n ps) K = aBuildSlice P t n (ps.toList.map fun p => (p.1, ev r p.2)) H K := rfl
theorem aop_makeMap (ms : Bool) (t : TypeId) : aop P pu ms r H (.makeMap t none) K = aMakeMap P t H K := rfl
theorem aop_makeSlice (ms : Bool) (t : TypeId) (l c : Operand) : aop P pu ms r H (.makeSlice t l c) K = aMakeSlice P t (ev r l) (ev r c) H K := rfl
theorem aop_lookup (ms : Bool) (t : TypeId) (m k : Operand) (ok : Bool) : aop P pu ms r H (.lookup t m k ok) K = aLookup P t (ev r m) (ev r k) ok H K := rfl
theorem aop_update (ms : Bool) (t : TypeId) (m k x : Operand) : aop P pu ms r H (.mapUpdate t m k x) K = aUpdate P t (ev r m) (ev r k) (ev r x) H K := rfl
theorem aop_insert (ms : Bool) (t : TypeId) (m k x : Operand) : aop P pu ms r H (.insert t m k x) K = aUpdate P t (ev r m) (ev r k) (ev r x) H K := rfl
theorem aop_convert (ms : Bool) (s d : TypeId) (x : Operand) : aop P pu ms r H (.convert s d x) K = aConv P s d (ev r x) H K := rfl
theorem aop_callF (ms : Bool) (g : FuncId) (xs : Array Operand) (ts : Array TypeId) : aop P pu ms r H (.call ⟨.value (.func g), xs, ts⟩) K = aCallV P pu (.func g []) (xs.toList.map (ev r)) H K := rfl
theorem aop_callT (ms : Bool) (t : Nat) (xs : Array Operand) (ts : Array TypeId) : aop P pu ms r H (.call ⟨.value (.tmp t), xs, ts⟩) K = aCallD P pu (isDyn pu) (r t) (xs.toList.map (ev r)) H K := rfl
theorem aCallD_f (f : AV) (xs : List AV) : aCallD P pu false f xs H K = aCallV P pu f xs H K := rfl
theorem aCallD_t (f : AV) (xs : List AV) : aCallD P pu true f xs H K = so1 (callP pu f xs) K H := rfl
theorem callP_func (g : FuncId) (cap xs : List AV) : callP pu (.func g cap) xs = (pu g).bind fun s => s (xs ++ cap) := rfl
theorem isDyn_if (f : FuncId) (s : List AV → Option AV) : isDyn (putP f s pu) = if 999999999 = f then true else isDyn pu := by
  unfold isDyn putP
  by_cases h : 999999999 = f <;> simp [h]
theorem isDyn_pu0 : isDyn pu0 = false := rfl
theorem isDyn_fun : isDyn (fun _ => none) = false := rfl
theorem aop_builtin (ms : Bool) (b : Builtin) (xs : Array Operand) (ts : Array TypeId) : aop P pu ms r H (.call ⟨.builtin b, xs, ts⟩) K = aBuiltin P ms b ts.toList (xs.toList.map (ev r)) H K := rfl

theorem ev_tmp (t : Nat) : ev r (.tmp t) = r t := rfl
theorem ev_const (v : Value) : ev r (.const v) = ofValue v := rfl
theorem ev_func (f : FuncId) : ev r (.func f) = .func f [] := rfl
theorem ofV_bool (b : Bool) : ofValue (.bool b) = .bool b := rfl
theorem ofV_int (k : IntKind) (n : Int) : ofValue (.int k n) = .int k n := rfl
theorem ofV_str (s : ByteArray) : ofValue (.string s) = .str s.data.toList := rfl
theorem ofV_nilp : ofValue (.pointer none) = .nilp := rfl
theorem ofV_nils : ofValue (.slice none 0 0) = .sl [] .exact := rfl
theorem ofV_nilm : ofValue (.map none) = .nilmap := rfl
theorem ofV_nilf : ofValue .nilFunc = .nilfunc := rfl
theorem ofV_nili : ofValue .nilIface = .nilIface := rfl
theorem ofV_agg (cs : Array Value) : ofValue (.agg cs) = if cs.toList.all oneV then .agg (cs.toList.map ofCell) else .junk := rfl
theorem ofC_bool (b : Bool) : ofCell (.bool b) = .bool b := rfl
theorem ofC_int (k : IntKind) (n : Int) : ofCell (.int k n) = .int k n := rfl
theorem ofC_str (s : ByteArray) : ofCell (.string s) = .str s.data.toList := rfl
theorem ofC_nils : ofCell (.slice none 0 0) = .sl [] .exact := rfl
theorem isC_tmp (t : Nat) : isC (.tmp t) = false := rfl
theorem isC_const (v : Value) : isC (.const v) = true := rfl
theorem isC_func (f : FuncId) : isC (.func f) = false := rfl

theorem pickA_bool (t : Bool) (a b : AV) : pickA (.bool t) a b = some (if t then a else b) := rfl
section
variable (t : TypeId) (cx cy : Bool) (k : IntKind) (a b : Int) (x y : List UInt8)
theorem bin_add : bin P .add t cx cy (.int k a) (.int k b) = some (.int k (k.wrap (a + b))) := by simp [bin, binI]
theorem bin_sub : bin P .sub t cx cy (.int k a) (.int k b) = some (.int k (k.wrap (a - b))) := by simp [bin, binI]
theorem bin_mul : bin P .mul t cx cy (.int k a) (.int k b) = some (.int k (k.wrap (a * b))) := by simp [bin, binI]
theorem bin_quo : bin P .quo t cx cy (.int k a) (.int k b) = if ¬ b = 0 then some (.int k (k.wrap (a.tdiv b))) else none := by
  by_cases h : b = 0 <;> simp [bin, binI, h]
theorem bin_rem : bin P .rem t cx cy (.int k a) (.int k b) = if ¬ b = 0 then some (.int k (a.tmod b)) else none := by
  by_cases h : b = 0 <;> simp [bin, binI, h]
theorem bin_and : bin P .and t cx cy (.int k a) (.int k b) = some (.int k (andI k a b)) := by simp [bin, binI, andI]
theorem bin_or : bin P .or t cx cy (.int k a) (.int k b) = some (.int k (orI k a b)) := by simp [bin, binI, orI]
theorem bin_xor : bin P .xor t cx cy (.int k a) (.int k b) = some (.int k (xorI k a b)) := by simp [bin, binI, xorI]
theorem bin_eql : bin P .eql t cx cy (.int k a) (.int k b) = some (.bool (decide (a = b))) := by simp [bin, binI]
theorem bin_neq : bin P .neq t cx cy (.int k a) (.int k b) = some (.bool (decide (¬ a = b))) := by simp [bin, binI]
theorem bin_lss : bin P .lss t cx cy (.int k a) (.int k b) = some (.bool (decide (a < b))) := by simp [bin, binI]
theorem bin_leq : bin P .leq t cx cy (.int k a) (.int k b) = some (.bool (decide (a ≤ b))) := by simp [bin, binI]
theorem bin_gtr : bin P .gtr t cx cy (.int k a) (.int k b) = some (.bool (decide (b < a))) := by simp [bin, binI]
theorem bin_geq : bin P .geq t cx cy (.int k a) (.int k b) = some (.bool (decide (b ≤ a))) := by simp [bin, binI]
theorem bin_shl (k' : IntKind) : bin P .shl t cx cy (.int k a) (.int k' b) = if ¬ b < 0 then some (.int k (shlI k a b)) else none := by
  by_cases h : b < 0 <;> simp [bin, shiftI, h, shlI]
theorem bin_shr (k' : IntKind) : bin P .shr t cx cy (.int k a) (.int k' b) = if ¬ b < 0 then some (.int k (shrI k a b)) else none := by
  by_cases h : b < 0 <;> simp [bin, shiftI, h, shrI]
theorem binS_add : bin P .add t cx cy (.str x) (.str y) = if ((x.length + y.length : Nat) : Int) ≤ 9223372036854775807 then some (.str (x ++ y)) else none := rfl
theorem binS_addD (h : x.length + y.length ≤ 9223372036854775807) : bin P .add t cx cy (.str x) (.str y) = some (.str (x ++ y)) := by
  show (if ((x.length + y.length : Nat) : Int) ≤ 9223372036854775807 then some (AV.str (x ++ y)) else none) = _
  rw [if_pos (by omega)]
theorem binS_eql : bin P .eql t cx cy (.str x) (.str y) = some (.bool (decide (x = y))) := rfl
theorem binS_neq : bin P .neq t cx cy (.str x) (.str y) = some (.bool (decide (¬ x = y))) := rfl
theorem binS_lss : bin P .lss t cx cy (.str x) (.str y) = some (.bool (strLt x y)) := rfl
theorem binS_leq : bin P .leq t cx cy (.str x) (.str y) = some (.bool (strLt x y || decide (x = y))) := rfl
theorem binS_gtr : bin P .gtr t cx cy (.str x) (.str y) = some (.bool (!(strLt x y || decide (x = y)))) := rfl
theorem binS_geq : bin P .geq t cx cy (.str x) (.str y) = some (.bool (!strLt x y)) := rfl
theorem un_not (c : Bool) : un .not (.bool c) = some (.bool (!c)) := rfl
theorem un_neg : un .neg (.int k a) = some (.int k (k.wrap (0 - a))) := rfl
end
theorem indexA_str (t : TypeId) (s : List UInt8) (k : IntKind) (n : Int) : indexA P t (.str s) (.int k n) = if 0 ≤ n ∧ descOf P t = .string then (s[n.toNat]?).map fun b => .int .u8 b.toNat else none := rfl
theorem indexAddr_sl (t : TypeId) (es : List (List AV)) (tl : Tail) (k : IntKind) (n : Int) : indexAddrA P t (.sl es tl) (.int k n) = match sliceE P t with
    | some e => if 0 ≤ n ∧ Unif e.size es ∧ 0 < e.size then (es[n.toNat]?).map .rptr else none
    | none => none := rfl
theorem indexAddr_ms (t : TypeId) (id off len j : Nat) (k : IntKind) (n : Int) : indexAddrA P t (.ms id off len j) (.int k n) = match sliceE P t with
    | some e => if 0 ≤ n ∧ n < len ∧ j = e.size then some (.ptr id (off + n.toNat * j)) else none
    | none => none := rfl
theorem sliceE_eq (t : TypeId) : sliceE P t = match descOf P t with | .slice e => ti P e | _ => none := rfl
theorem descOf_eq' (t : TypeId) : descOf P t = match ti P t with | some i => i.desc | none => .other := rfl
theorem nilChk_ptr (id off : Nat) : nilChk (.ptr id off) = some (.ptr id off) := rfl
theorem nilChk_rptr (cs : List AV) : nilChk (.rptr cs) = some (.rptr cs) := rfl
theorem nilChk_tptr (T sz id : Nat) : nilChk (.tptr T sz id) = some (.tptr T sz id) := rfl
theorem extractA_tup (vs : List AV) (i : Nat) : extractA (.tup vs) i = vs[i]? := rfl
theorem funcA_eq (f : FuncId) (c : List AV) : funcA (.func f) [] c = some (.func f c) := rfl
theorem aAlloc_eq (t : TypeId) : aAlloc P false t H K = match ti P t with | some i => i.zero.isVal = true ∧ nwC i.zero.cells H K | none => False := by
  unfold aAlloc
  cases ti P t <;> simp [nwC]
theorem aAllocT_eq (t : TypeId) : aAlloc P true t H K = match ti P t with | some i => i.zero.isVal = true ∧ i.zero.cells.length = i.size ∧ nwT t i.size (i.zero.cells.map nilS) H K | none => False := by
  unfold aAlloc
  cases ti P t <;> simp [nwT]
theorem nilS_nil : nilS (.sl [] .exact) = .snil := rfl
theorem nilS_nilp : nilS .nilp = .nilp := rfl
theorem aBox_eq (x : AV) : aBox x H K = (x.isVal = true ∧ nwC x.cells H K) := rfl
theorem cellsAt_some (cs : List AV) (K : List AV → Prop) : cellsAt (some (.cells cs)) K = K cs := rfl
theorem mapAt_some (kk : KK) (es : List (Key × AV)) (K : KK → List (Key × AV) → Prop) : mapAt (some (.map kk es)) K = K kk es := rfl
theorem aLoad_ptr (t : TypeId) (id off : Nat) : aLoad P t (.ptr id off) H K = match ti P t with | some i => loadAt' (H id) off i.size i.desc.agg K H | none => False := rfl
theorem aLoad_rptr (t : TypeId) (cs : List AV) : aLoad P t (.rptr cs) H K = match ti P t with | some i => so1 (readC i.desc.agg i.size cs) K H | none => False := rfl
theorem aLoad_gptr (t : TypeId) (g off : Nat) : aLoad P t (.gptr g off) H K = match ti P t with | some i => (match tabOf P g with | some p => so1 (readC i.desc.agg i.size ((p.2.map (AV.int p.1)).drop off)) K H | none => False) | none => False := by
  unfold aLoad
  cases ti P t with
  | none => rfl
  | some i => dsimp only; cases tabOf P g <;> rfl
theorem ev_global (r : Regs) (g : Nat) : ev r (.global g) = .gptr g 0 := rfl
theorem indexAddr_gptr (t : TypeId) (g off : Nat) (k : IntKind) (n : Int) : indexAddrA P t (.gptr g off) (.int k n) = match arrayE P t with
    | some p => if 0 ≤ n ∧ n < p.1 then some (.gptr g (off + n.toNat * p.2.size)) else none
    | none => none := by
  unfold indexAddrA
  dsimp only
  cases arrayE P t <;> rfl
theorem indexAddr_ptr (t : TypeId) (id off : Nat) (k : IntKind) (n : Int) : indexAddrA P t (.ptr id off) (.int k n) = match arrayE P t with
    | some p => if 0 ≤ n ∧ n < p.1 then some (.ptr id (off + n.toNat * p.2.size)) else none
    | none => none := by
  unfold indexAddrA
  dsimp only
  cases arrayE P t <;> rfl
theorem indexAddr_rptr (t : TypeId) (cs : List AV) (k : IntKind) (n : Int) : indexAddrA P t (.rptr cs) (.int k n) = match arrayE P t with
    | some p => if 0 ≤ n ∧ n < p.1 then some (.rptr (cs.drop (n.toNat * p.2.size))) else none
    | none => none := by
  unfold indexAddrA
  dsimp only
  cases arrayE P t <;> rfl
theorem aStore_ptr (t : TypeId) (id off : Nat) (x : AV) : aStore P t (.ptr id off) x H K = match ti P t with | some i => storeAt' (H id) id off i.size x K H | none => False := rfl
theorem aCallV_func (f : FuncId) (cap xs : List AV) : aCallV P pu (.func f cap) xs H K = callG P f (pu f) (xs ++ cap) H K := rfl
theorem callG_none (f : FuncId) (xs : List AV) : callG P f none xs H K = ACalls P f xs H K := rfl
theorem callG_some (f : FuncId) (s : List AV → Option AV) (xs : List AV) : callG P f (some s) xs H K = so1 (s xs) K H := rfl
theorem bi_len (ms : Bool) (ts : List TypeId) (x : AV) : aBuiltin P ms .len ts [x] H K = aLen P ts x H K := rfl
theorem bi_append (ms : Bool) (t t' : TypeId) (s x : AV) : aBuiltin P ms .append [t, t'] [s, x] H K = (appT P t' = true ∧ aAppend P ms t s x H K) := rfl
theorem aLen_eq (ts : List TypeId) (x : AV) : aLen P ts x H K = if isMap P ts = true then (match x with | .map id => mapAt (H id) fun _ es => K (.int .i64 es.length) H | .nilmap => K (.int .i64 0) H | _ => False) else so1 (lenT P ts x) K H := rfl
theorem readC_one (n : Nat) (l : List AV) : readC false n l = l.head? := rfl
theorem readC_agg (n : Nat) (l : List AV) : readC true n l = if n ≤ l.length then some (.agg (l.take n)) else none := rfl
theorem writeC_one (cs : List AV) (off : Nat) (v : AV) : writeC cs off [v] = cs.set off v := rfl
theorem aRes_nil (K : List AV → Prop) : aRes P [] r H K = K [] := rfl
theorem aRes_tmp (t : Nat) (l : List ResultVar) (K : List AV → Prop) : aRes P (.tmp t :: l) r H K = aRes P l r H fun vs => K (r t :: vs) := rfl
theorem aRes_cell (a : Nat) (t : TypeId) (l : List ResultVar) (K : List AV → Prop) : aRes P (.cell a t :: l) r H K = aLoad P t (r a) H fun v _ => aRes P l r H fun vs => K (v :: vs) := rfl
theorem oneOr_one (v : AV) : oneOr [v] = v := rfl
theorem oneOr_two (u v : AV) (l : List AV) : oneOr (u :: v :: l) = .tup (u :: v :: l) := rfl
theorem put_same (id : Nat) (o : AObj) : (H.put id o) id = some o := by simp [Heap.put]
theorem put_ne (id i : Nat) (o : AObj) (h : ¬ i = id) : (H.put id o) i = H i := by simp [Heap.put, h]
end
attribute [go_sem] cutK_exit cutK_ret cutK_normal acode_skip acode_region acode_seq acode_block acode_loop acode_exit acode_label acode_ret RetK_normal RetK_ret upd_same upd_ne
  seqK_normal seqK_exit seqK_ret blkK_normal blkK_exit blkK_ret nrm_eq sops_nil opK_eq agrees_nil agrees_cons then_normal then_exit then_ret
attribute [go_sem] so1_some so1_none so1_if loadAt_cells storeAt_cells gd_tt gd_ff gd_tf gd_ft gd_no sops_n sops_g cnd_t cnd_f acode_cnd gslot_none gslot_some strip_nil strip_cons put_some put_none
  aop_move aop_assign aop_pick aop_bin_tmp aop_bin_int aop_bin_str aop_bin_bool aop_bin_nilp aop_bin_nili aop_eq_nil aop_ne_nil isSlice_eq aop_un aop_field aop_fieldAddr aop_index aop_indexAddr aop_slice aop_range aop_here aop_next aop_entry aop_entryStore aSlice_sl aSlice_str aSlice_ms aSlice_ptr intV_int intOf_none intOf_some sliceA_str sliceA_sl sliceA_ms cutP_cells aop_extract aop_nilCheck aop_makeFunc aop_iface aop_build aop_alloc aop_box aop_load aop_store aop_buildSlice aop_makeMap aop_makeSlice aop_lookup
  aop_update aop_insert aop_convert aop_callF aop_callT aCallD_f aCallD_t callP_func isDyn_if isDyn_pu0 isDyn_fun aop_builtin ev_tmp ev_const ev_func ofV_bool ofV_int ofV_str ofV_nilp ofV_nils ofV_nilm ofV_nilf ofV_nili ofV_agg ofC_bool ofC_int ofC_str ofC_nils isC_tmp isC_const isC_func pickA_bool
  bin_add bin_sub bin_mul bin_quo bin_rem bin_and bin_or bin_xor bin_eql bin_neq bin_lss bin_leq bin_gtr bin_geq bin_shl bin_shr binS_add binS_eql binS_neq binS_lss binS_leq binS_gtr binS_geq un_not un_neg
  indexA_str indexAddr_sl indexAddr_ms sliceE_eq descOf_eq' nilChk_ptr nilChk_rptr nilChk_tptr extractA_tup funcA_eq aAlloc_eq aAllocT_eq nilS_nil nilS_nilp aBox_eq cellsAt_some mapAt_some aLoad_ptr aLoad_rptr aLoad_gptr ev_global indexAddr_gptr indexAddr_ptr indexAddr_rptr aStore_ptr aCallV_func callG_none callG_some bi_len bi_append readC_one readC_agg writeC_one
  aRes_nil aRes_tmp aRes_cell oneOr_one oneOr_two put_same
attribute [go_sem] putP_same putP_if pu0_at
attribute [go_sem] aLen_eq lenT isMap TD.agg AV.isVal AV.cells msOf
attribute [go_sem] Bool.and_eq_true Bool.or_eq_true decide_eq_true_eq decide_eq_false_iff_not and_true true_and and_false false_and or_true true_or or_false false_or not_true_eq_false not_false_eq_true if_true if_false reduceIte
  forall_const false_implies true_implies implies_true List.map_cons List.map_nil List.append_nil List.nil_append List.cons_append List.getElem?_cons_zero List.getElem?_cons_succ List.drop_zero List.drop_succ_cons List.take_zero List.take_succ_cons
  List.length_cons List.length_nil List.head?_cons Option.bind_some Option.map_some Option.map_none Option.getD_some Option.getD_none Bool.not_true Bool.not_false Bool.not_eq_true' Bool.not_eq_false' decide_true decide_false eq_self ne_eq
  Bool.true_eq_false Bool.false_eq_true List.all_cons List.all_nil Bool.true_and Bool.and_true Bool.false_and Bool.and_false List.getD_cons_zero List.getD_cons_succ List.getD_nil List.set_cons_zero List.set_cons_succ
section
variable (P : Program) (H : Heap)
theorem fieldAddrA_ptr (s : TypeId) (id o f : Nat) : fieldAddrA P s (.ptr id o) f = match fieldOf P s f with | some (off, i) => if ¬ i.size = 0 then some (.ptr id (o + off)) else none | none => none := by
  unfold fieldAddrA
  split <;> simp_all
theorem fieldAddrA_rptr (s : TypeId) (cs : List AV) (f : Nat) : fieldAddrA P s (.rptr cs) f = match fieldOf P s f with | some (off, i) => if ¬ i.size = 0 then some (.rptr (cs.drop off)) else none | none => none := by
  unfold fieldAddrA
  split <;> simp_all
theorem fieldAddrA_tptr (s : TypeId) (T sz id : Nat) (f : Nat) : fieldAddrA P s (.tptr T sz id) f = match fieldOf P s f with | some (off, i) => if ¬ i.size = 0 then some (.ptr id off) else none | none => none := by
  unfold fieldAddrA
  split <;> simp_all
theorem fieldA_agg (s : TypeId) (cs : List AV) (f : Nat) : fieldA P s (.agg cs) f = match fieldOf P s f with | some (off, i) => readC i.desc.agg i.size (cs.drop off) | none => none := by
  unfold fieldA
  cases fieldOf P s f <;> rfl
theorem Heap.Sub.put {G G' : Heap} (h : G.Sub G') {id : Nat} (hid : G' id = none) (o : AObj) : G.Sub (G'.put id o) := fun i x hx => by
  have := h i x hx
  by_cases e : i = id
  · subst e; rw [hid] at this; cases this
  · rw [Heap.put, if_neg e]; exact this
/-- What append does, once the new elements are known. -/
def appK (et : Option TypeId) (ms : Bool) (e : TI) (s : AV) (new : List (List AV)) (H : Heap) (K : K1) : Prop :=
  match s with
  | .sl es (.tok id k ty) => k = e.size ∧ Unif k es ∧ H id = some (.tail (es.length * k)) ∧ (es.length + new.length) * e.bytes ≤ 140737488355328 ∧ es.length + new.length ≤ 4611686018427387904 ∧
      newId H fun id' => K (.sl (es ++ new) (.tok id' k (if ty = et then ty else none))) ((H.del id).put id' (.tail ((es.length + new.length) * k)))
  | .sl es .exact =>
      (new = [] → K (.sl es .exact) H) ∧
      (new ≠ [] → Unif e.size es ∧ (es.length + new.length) * e.bytes ≤ 140737488355328 ∧ es.length + new.length ≤ 4611686018427387904 ∧
        newId H fun id' => if ms = true then K (.ms id' 0 (es.length + new.length) e.size) (H.put id' (.cells (es ++ new).flatten))
          else K (.sl (es ++ new) (.tok id' e.size et)) (H.put id' (.tail ((es.length + new.length) * e.size))))
  | .sl es .lit =>
      (new = [] → K (.sl es .lit) H) ∧
      (new ≠ [] → Unif e.size es ∧ (es.length + new.length) * e.bytes ≤ 140737488355328 ∧ es.length + new.length ≤ 4611686018427387904 ∧
        newId H fun id' => K (.sl (es ++ new) (.tok id' e.size et)) (H.put id' (.tail ((es.length + new.length) * e.size))))
  | .snil =>
      (new = [] → K .snil H) ∧
      (new ≠ [] → new.length * e.bytes ≤ 140737488355328 ∧ new.length ≤ 4611686018427387904 ∧
        newId H fun id' => K (.sl new (.tok id' e.size et)) (H.put id' (.tail (new.length * e.size))))
  | .ms id off len k => k = e.size ∧ off = 0 ∧ (len + new.length) * e.bytes ≤ 140737488355328 ∧ len + new.length ≤ 4611686018427387904 ∧
      cellsAt (H id) fun cs => cs.length = len * k ∧ newId H fun id' => K (.ms id' 0 (len + new.length) k) ((H.del id).put id' (.cells (cs ++ new.flatten)))
  | _ => False
theorem elemT_eq (t : TypeId) : elemT P t = match descOf P t with | .slice u => some u | _ => none := rfl
theorem aAppend_eq (ms : Bool) (t : TypeId) (s x : AV) (K : K1) : aAppend P ms t s x H K = match sliceE P t with
    | some e => e.size ≠ 0 ∧ e.zero.isVal = true ∧ e.zero.cells.length = e.size ∧ srcOf e.size x H fun new => appK (elemT P t) ms e s new H K
    | none => False := rfl
theorem srcOf_sl (k : Nat) (es : List (List AV)) (t : Tail) (K : List (List AV) → Prop) : srcOf k (.sl es t) H K = (Unif k es ∧ K es) := rfl
theorem srcOf_str (k : Nat) (s : List UInt8) (K : List (List AV) → Prop) : srcOf k (.str s) H K = (k = 1 ∧ K (s.map fun b => [.int .u8 b.toNat])) := rfl
theorem appT_eq (t : TypeId) : appT P t = match descOf P t with | .slice _ | .string => true | _ => false := rfl
/-- Appending to a list that was made by appending: its room is handed on. -/
theorem app_tok {et ty : Option TypeId} {ms : Bool} {e : TI} {es new : List (List AV)} {id : Nat} {H : Heap} {K : K1} (hu : Unif e.size es) (ht : H id = some (.tail (es.length * e.size))) (h1 : (es.length + new.length) * e.bytes ≤ 140737488355328) (h2 : es.length + new.length ≤ 4611686018427387904)
    (h : ∀ id', H id' = none → K (.sl (es ++ new) (.tok id' e.size (if ty = et then ty else none))) ((H.del id).put id' (.tail ((es ++ new).length * e.size)))) : appK et ms e (.sl es (.tok id e.size ty)) new H K :=
  ⟨rfl, hu, ht, h1, h2, fun id' hid => by rw [← List.length_append]; exact h id' hid⟩
/-- Appending to a list with no room of its own. -/
theorem app_exact {et : Option TypeId} {e : TI} {es new : List (List AV)} {H : Heap} {K : K1} (hu : Unif e.size es) (h1 : (es.length + new.length) * e.bytes ≤ 140737488355328) (h2 : es.length + new.length ≤ 4611686018427387904) (h0 : new = [] → K (.sl es .exact) H)
    (h : new ≠ [] → ∀ id', H id' = none → K (.sl (es ++ new) (.tok id' e.size et)) (H.put id' (.tail ((es ++ new).length * e.size)))) : appK et false e (.sl es .exact) new H K :=
  ⟨h0, fun hn => ⟨hu, h1, h2, fun id' hid => by have := h hn id' hid; rw [List.length_append] at this; exact this⟩⟩
theorem del_ne {H : Heap} {t i : Nat} (h : ¬ i = t) : H.del t i = H i := if_neg h
attribute [go_sem] aAppend_eq elemT_eq srcOf_sl srcOf_str appT_eq
def bsK (d : TD) (o : Option (List (List AV))) (K : K1) (H : Heap) : Prop := match o with | some es => K (.sl es (litT d)) H | none => False
theorem bsK_some (d : TD) (es : List (List AV)) (K : K1) : bsK d (some es) K H = K (.sl es (litT d)) H := rfl
theorem aBuildSlice_eq (t : TypeId) (n : Nat) (ps : List (Nat × AV)) (K : K1) : aBuildSlice P t n ps H K = match sliceE P t with
    | some e => e.zero.isVal = true ∧ e.zero.cells.length = e.size ∧ e.size ≠ 0 ∧ n * e.size ≤ 16777216 ∧ bsK e.desc (fillE e.size (List.replicate n e.zero.cells) ps) K H
    | none => False := rfl
theorem fillE_nil (k : Nat) (es : List (List AV)) : fillE k es [] = some es := rfl
theorem fillE_cons (k i : Nat) (v : AV) (es : List (List AV)) (r : List (Nat × AV)) : fillE k es ((i, v) :: r) = if v.isVal = true ∧ v.cells.length = k ∧ i < es.length then fillE k (es.set i v.cells) r else none := rfl
attribute [go_sem] litT bsK_some aBuildSlice_eq fillE_nil fillE_cons List.replicate_succ List.replicate_zero
theorem put_put (id : Nat) (a b : AObj) : (H.put id a).put id b = H.put id b := by
  funext i; simp only [Heap.put]; split <;> rfl
theorem writeC_two (cs : List AV) (off : Nat) (a b : AV) (l : List AV) : writeC cs off (a :: b :: l) = cs.take off ++ (a :: b :: l) ++ cs.drop (off + (a :: b :: l).length) := rfl
end
attribute [go_sem] fieldAddrA_ptr fieldAddrA_rptr fieldAddrA_tptr fieldA_agg put_put writeC_two fieldOf List.getElem?_nil List.take_zero List.drop_nil List.take_nil Nat.add_zero Nat.le_refl
section
variable (P : Program) (H : Heap) (K : K1)
theorem aMakeMap_eq (t : TypeId) : aMakeMap P t H K = match mapE P t with | some p => nwM p.1 H K | none => False := by
  unfold aMakeMap nwM
  cases mapE P t <;> rfl
def lookK (o : Option AObj) (kt : KK) (z k : AV) (ok : Bool) (K : K1) (H : Heap) : Prop := mapAt o fun kk es => kk = kt ∧ keyK kk k fun key =>
  if ok then K (.tup [(mget es key).getD z, .bool (mget es key).isSome]) H else K ((mget es key).getD z) H
theorem lookK_map (kk : KK) (es : List (Key × AV)) (kt : KK) (z k : AV) (ok : Bool) : lookK (some (.map kk es)) kt z k ok K H = (kk = kt ∧ keyK kk k fun key =>
  if ok then K (.tup [(mget es key).getD z, .bool (mget es key).isSome]) H else K ((mget es key).getD z) H) := rfl
theorem aLookup_map (t : TypeId) (id : Nat) (k : AV) (ok : Bool) : aLookup P t (.map id) k ok H K = match mapE P t with | some p => p.2.zero.isVal = true ∧ lookK (H id) p.1 p.2.zero k ok K H | none => False := by
  unfold aLookup lookK
  cases mapE P t <;> rfl
theorem aLookup_nil (t : TypeId) (k : AV) (ok : Bool) : aLookup P t .nilmap k ok H K = match mapE P t with | some p => p.2.zero.isVal = true ∧ keyK p.1 k fun _ => if ok then K (.tup [p.2.zero, .bool false]) H else K p.2.zero H | none => False := by
  unfold aLookup
  cases mapE P t <;> rfl
def updK (o : Option AObj) (id : Nat) (kt : KK) (k x : AV) (K : K1) (H : Heap) : Prop := mapAt o fun kk es => kk = kt ∧ keyK kk k fun key => K .junk (H.put id (.map kk (mset es key x)))
theorem updK_map (kk : KK) (es : List (Key × AV)) (id : Nat) (kt : KK) (k x : AV) : updK (some (.map kk es)) id kt k x K H = (kk = kt ∧ keyK kk k fun key => K .junk (H.put id (.map kk (mset es key x)))) := rfl
theorem aUpdate_map (t : TypeId) (id : Nat) (k x : AV) : aUpdate P t (.map id) k x H K = match mapE P t with | some p => updK (H id) id p.1 k x K H | none => False := by
  unfold aUpdate updK
  cases mapE P t <;> rfl
theorem keyK_str (l : List UInt8) (Q : Key → Prop) : keyK .str (.str l) Q = Q (.s l) := rfl
theorem keyK_int (k : IntKind) (n : Int) (Q : Key → Prop) : keyK (.int k) (.int k n) Q = Q (.i n) := by simp [keyK, keyOf]
theorem keyK_st (ks : List KK0) (cs : List AV) (Q : Key → Prop) : keyK (.st ks) (.agg cs) Q = match keysOf0 ks cs with | some l => Q (.t l) | none => False := by
  unfold keyK keyOf
  dsimp only
  cases keysOf0 ks cs <;> rfl
theorem keysOf0_nil : keysOf0 [] [] = some [] := rfl
theorem keysOf0_s (ks : List KK0) (l : List UInt8) (cs : List AV) : keysOf0 (.str :: ks) (.str l :: cs) = (keysOf0 ks cs).map (.s l :: ·) := by
  simp only [keysOf0, keyOf0]
  cases keysOf0 ks cs <;> rfl
theorem keysOf0_i (ks : List KK0) (k : IntKind) (n : Int) (cs : List AV) : keysOf0 (.int k :: ks) (.int k n :: cs) = (keysOf0 ks cs).map (.i n :: ·) := by
  simp only [keysOf0, keyOf0, if_true]
  cases keysOf0 ks cs <;> rfl
end
theorem cast_lit (n : Nat) : (Nat.cast (no_index (OfNat.ofNat n)) : Int) = OfNat.ofNat n := rfl
theorem arrOf_eq (P : Program) (t : TypeId) : arrOf P t = match descOf P t with | .pointer a => arrayE P a | _ => arrayE P t := rfl
theorem arrayE_eq (P : Program) (t : TypeId) : arrayE P t = match descOf P t with | .array n e => (ti P e).map fun i => (n, i) | _ => none := rfl
theorem unif_nil (k : Nat) : Unif k [] = True := by simp [Unif]
theorem unif_cons (k : Nat) (e : List AV) (es : List (List AV)) : Unif k (e :: es) = (e.length = k ∧ Unif k es) := by simp [Unif]
attribute [go_sem] unif_nil unif_cons
attribute [go_sem] buildA zeroOf placesL fillA
attribute [go_sem] cast_lit arrOf_eq arrayE_eq aMakeMap_eq lookK_map aLookup_map aLookup_nil updK_map aUpdate_map keyK_str keyK_int keyK_st keysOf0_nil keysOf0_s keysOf0_i
section
variable (P : Program) (H : Heap) (K : K1)
theorem bi_min (ms : Bool) (ts : List TypeId) (xs : List AV) : aBuiltin P ms .min ts xs H K = so1 (minA xs) K H := by
  cases xs with
  | nil => rfl
  | cons x l => cases l with
    | nil => rfl
    | cons y l => cases l <;> rfl
theorem bi_max (ms : Bool) (ts : List TypeId) (xs : List AV) : aBuiltin P ms .max ts xs H K = so1 (maxA xs) K H := by
  cases xs with
  | nil => rfl
  | cons x l => cases l with
    | nil => rfl
    | cons y l => cases l <;> rfl
theorem minA_two (k k' : IntKind) (a b : Int) : minA [.int k a, .int k' b] = some (.int k (min a b)) := by
  simp only [minA, minG]
  congr 2
  omega
theorem maxA_two (k k' : IntKind) (a b : Int) : maxA [.int k a, .int k' b] = some (.int k (max a b)) := by
  simp only [maxA, maxG]
  congr 2
  omega
theorem minA_three (k k' k'' : IntKind) (a b c : Int) : minA [.int k a, .int k' b, .int k'' c] = some (.int k (min (min a b) c)) := by
  simp only [minA, minG]
  congr 2
  repeat' split
  all_goals omega
theorem bi_delete (ms : Bool) (t t' : TypeId) (m k : AV) : aBuiltin P ms .delete [t, t'] [m, k] H K = aDelete P t m k H K := rfl
theorem bi_clear (ms : Bool) (t : TypeId) (x : AV) : aBuiltin P ms .clear [t] [x] H K = aClear P t x H K := rfl
theorem aClear_ms (t : TypeId) (id off len k : Nat) : aClear P t (.ms id off len k) H K = match sliceE P t with | some e => (k = e.size ∧ e.zero.isVal = true ∧ e.zero.cells.length = e.size ∧ e.size ≠ 0 ∧ cellsAt (H id) fun cs => off + len * k ≤ cs.length ∧ K (.tup []) (H.put id (.cells (writeC cs off (List.replicate len e.zero.cells).flatten)))) | none => False := by
  unfold aClear
  cases sliceE P t <;> rfl
theorem bi_copy (ms : Bool) (t t' : TypeId) (d x : AV) : aBuiltin P ms .copy [t, t'] [d, x] H K = aCopy P t d x H K := rfl
def delK (o : Option AObj) (id : Nat) (kt : KK) (k : AV) (K : K1) (H : Heap) : Prop := mapAt o fun kk es => kk = kt ∧ keyK kk k fun key => K (.tup []) (H.put id (.map kk (mdel es key)))
theorem delK_map (kk : KK) (es : List (Key × AV)) (id : Nat) (kt : KK) (k : AV) : delK (some (.map kk es)) id kt k K H = (kk = kt ∧ keyK kk k fun key => K (.tup []) (H.put id (.map kk (mdel es key)))) := rfl
theorem aDelete_map (t : TypeId) (id : Nat) (k : AV) : aDelete P t (.map id) k H K = match mapE P t with | some p => delK (H id) id p.1 k K H | none => False := by
  unfold aDelete delK
  cases mapE P t <;> rfl
end
attribute [go_sem] bi_min bi_max minA_two maxA_two minA_three bi_delete bi_clear aClear_ms bi_copy delK_map aDelete_map
/-- A new slice that is filled with zeros, and written. -/
theorem makeSlice_ms {P : Program} {t : TypeId} {k k' : IntKind} {l : Int} {H : Heap} {K : K1} {e : TI} (he : sliceE P t = some e) (hz : e.zero.isVal = true ∧ e.zero.cells.length = e.size ∧ e.size ≠ 0) (h0 : 0 ≤ l) (hb : l * e.bytes ≤ 140737488355328) (hc : l ≤ 4611686018427387904)
    (h : ∀ id, H id = none → K (.ms id 0 l.toNat e.size) (H.put id (.cells (List.replicate l.toNat e.zero.cells).flatten))) : aMakeSlice P t (.int k l) (.int k' l) H K := by
  unfold aMakeSlice
  rw [he]
  exact ⟨hz.1, hz.2.1, hz.2.2, h0, hb, hc, .inl ⟨rfl, h⟩⟩
/-- A new slice of length 0 with room, to which is appended. -/
theorem makeSlice_tok {P : Program} {t : TypeId} {k k' : IntKind} {c : Int} {H : Heap} {K : K1} {e : TI} (he : sliceE P t = some e) (hz : e.zero.isVal = true ∧ e.zero.cells.length = e.size ∧ e.size ≠ 0) (h0 : 0 ≤ c) (hb : c * e.bytes ≤ 140737488355328) (hc : c ≤ 4611686018427387904)
    (h : ∀ id, H id = none → K (.sl [] (.tok id e.size (elemT P t))) (H.put id (.tail 0))) : aMakeSlice P t (.int k 0) (.int k' c) H K := by
  unfold aMakeSlice
  rw [he]
  exact ⟨hz.1, hz.2.1, hz.2.2, by omega, hb, hc, .inr ⟨rfl, h0, h⟩⟩
def aConvX (P : Program) (src dst : TypeId) (x : AV) (H : Heap) (K : K1) : Prop := aConv P src dst x H K
theorem desc_of_sliceE {P : Program} {t : TypeId} {e : TI} (h : sliceE P t = some e) : ∃ u, descOf P t = .slice u := by
  unfold sliceE at h
  split at h
  · rename_i u hu; exact ⟨u, hu⟩
  · cases h
theorem isBytes_slice {P : Program} {t : TypeId} (h : isBytes P t = true) : ∃ u, descOf P t = .slice u := by
  unfold isBytes at h
  split at h
  · rename_i e he; exact desc_of_sliceE he
  · cases h
theorem aConv_int (P : Program) (src dst : TypeId) (k : IntKind) (n : Int) (H : Heap) (K : K1) : aConv P src dst (.int k n) H K = match descOf P dst, descOf P src with
    | .int k', .int _ => K (.int k' (k'.wrap n)) H
    | _, _ => aConvX P src dst (.int k n) H K := by
  split
  · rename_i k' k'' hd hs
    unfold aConv
    rw [if_neg, if_neg, if_neg (by simp [isU, hd, hs]), if_neg]
    · simp [convA, hd, hs, so]
    · rintro ⟨rfl, h⟩; obtain ⟨u, hu⟩ := isBytes_slice h; rw [hs] at hu; cases hu
    · rintro ⟨-, h⟩; rw [hd] at h; cases h
    · rintro ⟨h, -⟩; obtain ⟨u, hu⟩ := isBytes_slice h; rw [hd] at hu; cases hu
  · rfl
theorem aConv_str (P : Program) (src dst : TypeId) (s : List UInt8) (H : Heap) (K : K1) : aConv P src dst (.str s) H K = match descOf P dst, descOf P src with
    | .string, .string => K (.str s) H
    | _, _ => aConvX P src dst (.str s) H K := by
  split
  · rename_i hd hs
    unfold aConv
    rw [if_neg, if_neg, if_neg (by simp [isU, hd, hs]), if_neg]
    · simp [convA, hd, hs, so]
    · rintro ⟨rfl, h⟩; obtain ⟨u, hu⟩ := isBytes_slice h; rw [hs] at hu; cases hu
    · rintro ⟨h, -⟩; obtain ⟨u, hu⟩ := isBytes_slice h; rw [hs] at hu; cases hu
    · rintro ⟨h, -⟩; obtain ⟨u, hu⟩ := isBytes_slice h; rw [hd] at hu; cases hu
  · rfl
theorem isBytes_eq (P : Program) (t : TypeId) : isBytes P t = match sliceE P t with | some e => decide (e.desc = .int .u8) | none => false := rfl
/-- A literal of bytes is converted to what it is. -/
theorem aConv_lit (P : Program) (t : TypeId) (es : List (List AV)) (H : Heap) (K : K1) : aConv P t t (.sl es .lit) H K = if isBytes P t = true then K (.sl es .exact) H else aConvX P t t (.sl es .lit) H K := by
  split
  · rename_i hb
    obtain ⟨u, hu⟩ := isBytes_slice hb
    unfold aConv
    rw [if_neg (by rintro ⟨_, h⟩; rw [hu] at h; cases h), if_neg (by rintro ⟨_, h⟩; rw [hu] at h; cases h), if_neg (by simp [isU, hu]), if_pos ⟨rfl, hb⟩]
  · rfl
theorem aConv_tptr (P : Program) (src dst : TypeId) (T sz id : Nat) (H : Heap) (K : K1) : aConv P src dst (.tptr T sz id) H K = match descOf P src, descOf P dst with
    | .pointer U, .uptr => (match ti P T with | some i => U = T ∧ ¬ i.size = 0 ∧ i.size = sz ∧ K (.tptr T sz id) H | none => False)
    | .uptr, .pointer U => (match ti P T with | some i => U = T ∧ ¬ i.size = 0 ∧ i.size = sz ∧ K (.tptr T sz id) H | none => False)
    | _, _ => aConvX P src dst (.tptr T sz id) H K := by
  split
  · rename_i U hs hd
    unfold aConv
    rw [if_neg (by rw [hs]; simp), if_neg (by rw [hd]; simp), if_pos (by simp [isU, hd])]
    unfold aConvU
    dsimp only
    cases ti P T with
    | none => rfl
    | some i => simp [hs, hd]
  · rename_i U hs hd
    unfold aConv
    rw [if_neg (by rw [hs]; simp), if_neg (by rw [hd]; simp), if_pos (by simp [isU, hs])]
    unfold aConvU
    dsimp only
    cases ti P T with
    | none => rfl
    | some i => simp [hs, hd]
  · rfl
theorem bi_sliceData (P : Program) (ms : Bool) (ts : List TypeId) (x : AV) (H : Heap) (K : K1) : aBuiltin P ms .unsafeSliceData ts [x] H K = so1 (sliceDataA x) K H := rfl
theorem bi_uString (P : Program) (ms : Bool) (t t' : TypeId) (p n : AV) (H : Heap) (K : K1) : aBuiltin P ms .unsafeString [t, t'] [p, n] H K = aUString P t p n H K := rfl
theorem bi_cap (P : Program) (ms : Bool) (t : TypeId) (H : Heap) (K : K1) : aBuiltin P ms .cap [t] [.snil] H K = so1 (match descOf P t with | .slice _ => some (.int .i64 0) | _ => none) K H := rfl
theorem u8s_map (l : List UInt8) : u8s (l.map fun b => [AV.int .u8 b.toNat]) = some l := by
  induction l with
  | nil => rfl
  | cons b l ih => simp [u8s, ih]
theorem sliceData_snil : sliceDataA .snil = some (.bp 0 []) := rfl
theorem sliceData_tok (id : Nat) (ty : TypeId) (l : List UInt8) : sliceDataA (.sl (l.map fun b => [AV.int .u8 b.toNat]) (.tok id 1 (some ty))) = if ¬ l = [] then some (.bp ty l) else none := by
  unfold sliceDataA
  cases l with
  | nil => rfl
  | cons b l =>
    have := u8s_map (b :: l)
    simp only [List.map_cons] at this ⊢
    simp [this]
theorem copy_snil (P : Program) (t : TypeId) (tl : Tail) (H : Heap) (K : K1) : aCopy P t (.sl [] tl) .snil H K = match sliceE P t with | some _ => K (.int .i64 0) H | none => False := by
  unfold aCopy aCopy0
  cases sliceE P t <;> rfl
theorem sliceA_rs (P : Program) (r : Regs) (t : TypeId) (id n k : Nat) (ty : Option TypeId) (hi : Option Operand) : sliceA P r t (.rs id n k ty) none hi none = match sliceE P t, intOf n r hi with
    | some i, some h => if h = 0 ∧ k = i.size then some (.sl [] (.tok id k ty)) else none
    | _, _ => none := by
  unfold sliceA
  have e : intOf 0 r none = some 0 := rfl
  rw [e]
  cases sliceE P t <;> cases hh : intOf n r hi <;> simp [hh]
theorem aSlice_rs (P : Program) (r : Regs) (t : TypeId) (id n k : Nat) (ty : Option TypeId) (lo hi mx : Option Operand) (H : Heap) (K : K1) : aSlice P r t (.rs id n k ty) lo hi mx H K = so1 (sliceA P r t (.rs id n k ty) lo hi mx) K H := rfl
attribute [go_sem] Option.isSome_some Option.isSome_none sliceData_snil sliceData_tok copy_snil sliceA_rs aSlice_rs
theorem uString_eq (P : Program) (pt ty : TypeId) (l : List UInt8) (n : Int) (H : Heap) (K : K1) : aUString P pt (.bp ty l) (.int .i64 n) H K = (n = l.length ∧ l.length ≤ 9223372036854775807 ∧ (l ≠ [] → descOf P pt = .pointer ty ∧ (ti P ty).map (·.size) = some 1) ∧ K (.str l) H) := rfl
/-- The same pointer. -/
theorem bin_tptr_eq (P : Program) (t : TypeId) (cx cy : Bool) (T sz T' sz' a : Nat) : bin P .eql t cx cy (.tptr T sz a) (.tptr T' sz' a) = match descOf P t with | .pointer e => if (ti P e).isSome = true then some (.bool true) else none | _ => none := by
  unfold bin eqA descOf
  cases ti P t with
  | none => rfl
  | some i =>
    dsimp only
    cases i.desc <;> simp
theorem bin_tptr_ne (P : Program) (t : TypeId) (cx cy : Bool) (T sz T' sz' a : Nat) : bin P .neq t cx cy (.tptr T sz a) (.tptr T' sz' a) = match descOf P t with | .pointer e => if (ti P e).isSome = true then some (.bool false) else none | _ => none := by
  unfold bin eqA descOf
  cases ti P t with
  | none => rfl
  | some i =>
    dsimp only
    cases i.desc <;> simp
theorem bin_nil_eq (P : Program) (t : TypeId) (cx cy : Bool) (T sz a : Nat) : bin P .eql t cx cy (.tptr T sz a) .nilp = match descOf P t with | .pointer _ => some (.bool false) | _ => none := by
  unfold bin eqA descOf
  cases ti P t with
  | none => rfl
  | some i => dsimp only; cases i.desc <;> rfl
theorem bin_nil_nil (P : Program) (t : TypeId) (cx cy : Bool) : bin P .eql t cx cy .nilp .nilp = match descOf P t with | .pointer _ => some (.bool true) | _ => none := by
  unfold bin eqA descOf
  cases ti P t with
  | none => rfl
  | some i => dsimp only; cases i.desc <;> rfl
theorem bin_if_nn (P : Program) (t : TypeId) (cx cy : Bool) : bin P .neq t cx cy .nilIface .nilIface = match descOf P t with | .iface => if (cx || cy) = true then some (.bool false) else none | _ => none := by
  unfold bin eqA descOf
  cases ti P t with
  | none => rfl
  | some i =>
    dsimp only
    cases i.desc <;> first | rfl | (dsimp only; cases cx <;> cases cy <;> rfl)
theorem bin_if_en (P : Program) (t : TypeId) (cx cy : Bool) : bin P .eql t cx cy .nilIface .nilIface = match descOf P t with | .iface => if (cx || cy) = true then some (.bool true) else none | _ => none := by
  unfold bin eqA descOf
  cases ti P t with
  | none => rfl
  | some i =>
    dsimp only
    cases i.desc <;> first | rfl | (dsimp only; cases cx <;> cases cy <;> rfl)
theorem bin_if_ni (P : Program) (t : TypeId) (cx cy : Bool) (u : TypeId) (v : AV) : bin P .neq t cx cy (.iface u v) .nilIface = match descOf P t with | .iface => some (.bool true) | _ => none := by
  unfold bin eqA descOf
  cases ti P t with
  | none => rfl
  | some i => dsimp only; cases i.desc <;> rfl
theorem bin_if_ei (P : Program) (t : TypeId) (cx cy : Bool) (u : TypeId) (v : AV) : bin P .eql t cx cy (.iface u v) .nilIface = match descOf P t with | .iface => some (.bool false) | _ => none := by
  unfold bin eqA descOf
  cases ti P t with
  | none => rfl
  | some i => dsimp only; cases i.desc <;> rfl
attribute [go_sem] bin_if_nn bin_if_en bin_if_ni bin_if_ei Bool.or_true Bool.true_or Bool.or_false Bool.false_or
attribute [go_sem] bin_tptr_eq bin_tptr_ne bin_nil_eq bin_nil_nil bi_sliceData bi_uString bi_cap uString_eq
attribute [go_sem] aConv_lit aConv_int aConv_str aConv_tptr isBytes_eq
theorem acode_drawn (P : Program) (ms : Nat → Bool) (pu : Pures) (id : Nat) (ops : Array Oper) (K : KC) (r : Regs) (H : Heap) :
    acode P { ms := ms, pure := pu } (.region id ops true) K r H = sops P { ms := ms, pure := pu } (strip ops.toList ops.toList) (nrm K) r H := by rw [acode_draw]
attribute [go_sem] acode_drawn midK_normal midK_exit midK_ret tOT_done tOT_seg tOT_or
theorem unif_map {α : Type} (k : Nat) (l : List α) (f : α → List AV) : Unif k (l.map f) = ∀ a ∈ l, (f a).length = k := by
  simp [Unif]
attribute [go_sem] unif_map List.length_map List.getElem?_map Int.toNat_natCast Nat.zero_add Nat.reduceAdd Nat.zero_lt_one Int.natCast_nonneg
attribute [go_sem] Nat.reduceEqDiff Nat.reduceLeDiff Nat.reduceLT Nat.reduceMul Int.reduceEq Int.reduceLE Int.reduceSub Int.reduceToNat Int.reduceLT Int.reduceAdd UInt8.reduceToNat
end Go.Abs

/-
  Guarded operations that compute: no case split, a value that is there where the guard holds.
-/
namespace Go.Abs
set_option linter.unusedVariables false
/-- A value that is there where a guard holds. -/
def gv (b w : Bool) (v : AV) : AV := if b = w then v else .tup []
def when1 (b w : Bool) (m : Option AV) : Option AV := if b = w then m else some (.tup [])
theorem when1_some (b w : Bool) (v : AV) : when1 b w (some v) = some (gv b w v) := by
  unfold when1 gv; split <;> rfl
theorem when1_congr {b b' w w' : Bool} {m m' : Option AV} (hb : b = b') (hw : w = w') (h : b' = w' → m = m') : when1 b w m = when1 b' w' m' := by
  subst hb hw
  unfold when1
  split
  · exact h ‹_›
  · rfl
theorem gv_tt (v : AV) : gv true true v = v := rfl
theorem gv_ff (v : AV) : gv false false v = v := rfl
theorem gv_tf (v : AV) : gv true false v = .tup [] := rfl
theorem gv_ft (v : AV) : gv false true v = .tup [] := rfl
theorem when1_tt (v : Option AV) : when1 true true v = v := rfl
theorem when1_ff (v : Option AV) : when1 false false v = v := rfl
theorem when1_tf (v : Option AV) : when1 true false v = some (.tup []) := rfl
theorem when1_ft (v : Option AV) : when1 false true v = some (.tup []) := rfl
/-- The value of an operation whose guard has the value 'y'. -/
def gval (w : Bool) (y : AV) (m : Option AV) : Option AV := match y with
  | .bool b => if b = w then m else some (.tup [])
  | .tup [] => some (.tup [])
  | _ => none
theorem gval_tt (m : Option AV) : gval true (.bool true) m = m := rfl
theorem gval_ff (m : Option AV) : gval false (.bool false) m = m := rfl
theorem gval_tf (m : Option AV) : gval true (.bool false) m = some (.tup []) := rfl
theorem gval_ft (m : Option AV) : gval false (.bool true) m = some (.tup []) := rfl
theorem gval_no (w : Bool) (m : Option AV) : gval w (.tup []) m = some (.tup []) := rfl
theorem gval_b (w b : Bool) (m : Option AV) : gval w (.bool b) m = when1 b w m := rfl
theorem gval_gv (w b w' : Bool) (y : AV) (m : Option AV) : gval w (gv b w' y) m = when1 b w' (gval w y m) := by
  unfold gv when1
  split <;> rfl

section
variable (P : Program) (X : Steer) (pu : Pures) (r : Regs) (H : Heap) (K : K1)
def loadC (o : Option AObj) (off n : Nat) (agg : Bool) : Option AV := match o with | some (.cells cs) => readC agg n (cs.drop off) | _ => none
def loadV (t : TypeId) (a : AV) : Option AV :=
  match ti P t with
  | some i =>
    match a with
    | .ptr id off => loadC (H id) off i.size i.desc.agg
    | .rptr cs => readC i.desc.agg i.size cs
    | .gptr g off => (match tabOf P g with | some (k, zs) => readC i.desc.agg i.size ((zs.map (AV.int k)).drop off) | none => none)
    | _ => none
  | none => none
def pcall (s : Option (List AV → Option AV)) (xs : List AV) : Option AV := match s with | some s => s xs | none => none
def callV (f : AV) (xs : List AV) : Option AV := match f with | .func g cap => pcall (pu g) (xs ++ cap) | _ => none
def lookC (o : Option AObj) (kt : KK) (z k : AV) (ok : Bool) : Option AV := match o with
  | some (.map kk es) => if kk = kt then (keyOf kk k).map fun key => if ok then .tup [(mget es key).getD z, .bool (mget es key).isSome] else (mget es key).getD z else none
  | _ => none
def lookV (t : TypeId) (m k : AV) (ok : Bool) : Option AV :=
  match mapE P t with
  | some (kt, e) => if e.zero.isVal = true then
    (match m with
    | .map id => lookC (H id) kt e.zero k ok
    | .nilmap => (keyOf kt k).map fun _ => if ok then .tup [e.zero, .bool false] else e.zero
    | _ => none) else none
  | none => none
/-- The value of an operation that neither makes nor writes an object. -/
def aval : Op → Option AV
  | .move x => some (ev r x)
  | .assign x => some (ev r x)
  | .pick c a b => pickA (ev r c) (ev r a) (ev r b)
  | .binOp op t x y u => match nilArg (.binOp op t x y u) with | some _ => none | none => bin P op t (isC x) (isC y) (ev r x) (ev r y)
  | .unOp op _ x => un op (ev r x)
  | .field t x f => fieldA P t (ev r x) f
  | .fieldAddr t x f => fieldAddrA P t (ev r x) f
  | .index t x i => indexA P t (ev r x) (ev r i)
  | .indexAddr t x i => indexAddrA P t (ev r x) (ev r i)
  | .extract x i => extractA (ev r x) i
  | .build t parts => buildA P t (parts.toList.map fun p => (p.1, ev r p.2))
  | .load t a => loadV P H t (ev r a)
  | .lookup t m k ok => lookV P H t (ev r m) (ev r k) ok
  | .slice t x lo hi mx => match ev r x with
    | .str s => sliceA P r t (.str s) lo hi mx
    | .sl es tl => sliceA P r t (.sl es tl) lo hi mx
    | _ => none
  | .call { callee := .value f, args := xs, .. } => callV pu (ev r f) (xs.toList.map (ev r))
  | .call { callee := .builtin .len, args := xs, argTypes := ts } => if isMap P ts.toList = true then none else (match xs.toList.map (ev r) with | [x] => lenT P ts.toList x | _ => none)
  | _ => none
theorem so_eq {m : Option AV} {v : AV} {K : AV → Prop} (h : m = some v) : so m K = K v := by subst h; rfl
theorem aval_ok (ms : Bool) (o : Op) (v : AV) (h : aval P pu r H o = some v) : aop P pu ms r H o K = K v H := by
  unfold aval at h
  split at h
  · cases h; rfl
  · cases h; rfl
  · exact so_eq h
  · rename_i op t x y u
    split at h
    · cases h
    · rename_i hn
      have : aop P pu ms r H (.binOp op t x y u) K = so (pop P r (.binOp op t x y u)) fun v => K v H := by
        unfold aop; dsimp only; rw [hn]
      rw [this]; exact so_eq h
  · exact so_eq h
  · exact so_eq h
  · exact so_eq h
  · exact so_eq h
  · exact so_eq h
  · exact so_eq h
  · exact so_eq h
  · rename_i t a
    show aLoad P t (ev r a) H K = _
    unfold loadV at h; unfold aLoad
    split at h
    · rename_i i hi
      rw [hi]
      dsimp only
      split at h
      · rename_i id off he
        rw [he]; dsimp only
        unfold loadC at h
        split at h
        · rename_i cs hc
          rw [hc]; exact so_eq h
        · cases h
      · rename_i cs he
        rw [he]; exact so_eq h
      · rename_i g off he
        rw [he]; dsimp only
        split at h
        · rename_i k zs ht
          rw [ht]; exact so_eq h
        · cases h
      · cases h
    · cases h
  · rename_i t m k ok
    show aLookup P t (ev r m) (ev r k) ok H K = _
    unfold lookV at h; unfold aLookup
    split at h
    · rename_i kt e hm
      rw [hm]; dsimp only
      split at h
      · rename_i hz
        split at h
        · rename_i id he
          rw [he]; dsimp only
          unfold lookC at h
          split at h
          · rename_i kk es hh
            rw [hh]
            split at h
            · rename_i hk
              show (_ ∧ (kk = kt ∧ keyK kk (ev r k) _)) = _
              unfold keyK
              cases hko : keyOf kk (ev r k) with
              | none => rw [hko] at h; cases h
              | some key =>
                rw [hko] at h
                simp only [Option.map_some, Option.some.injEq] at h
                subst h
                cases ok <;> simp [hz, hk]
            · cases h
          · cases h
        · rename_i he
          rw [he]; dsimp only
          unfold keyK
          cases hko : keyOf kt (ev r k) with
          | none => rw [hko] at h; cases h
          | some key =>
            rw [hko] at h
            simp only [Option.map_some, Option.some.injEq] at h
            subst h
            cases ok <;> simp [hz]
        · cases h
      · cases h
    · cases h
  · rename_i t x lo hi mx
    show aSlice P r t (ev r x) lo hi mx H K = _
    split at h
    · rename_i s he
      rw [he]; exact so_eq h
    · rename_i es tl he
      rw [he]; exact so_eq h
    · cases h
  · rename_i f xs ts
    show aCallD P pu (isTmpO f && isDyn pu) (ev r f) (xs.toList.map (ev r)) H K = _
    generalize (isTmpO f && isDyn pu) = d
    unfold callV at h
    split at h
    · rename_i g cap he
      rw [he]
      unfold pcall at h
      split at h
      · rename_i s hs
        cases d with
        | true => exact so_eq (show (pu g).bind _ = _ by rw [hs]; exact h)
        | false =>
          show aCallV P pu (.func g cap) _ H K = _
          unfold aCallV callG
          dsimp only
          rw [hs]; exact so_eq h
      · cases h
    · cases h
  · rename_i xs ts
    split at h
    · cases h
    · rename_i hm
      split at h
      · rename_i x hx
        show aBuiltin P ms .len ts.toList (xs.toList.map (ev r)) H K = _
        rw [hx]
        show aLen P ts.toList x H K = _
        unfold aLen
        rw [if_neg hm]; exact so_eq h
      · cases h
  · cases h
/-- The operation as it was. -/
def gd0 (d : Option Nat) (op : Op) (l : List SOp) (K : Regs → Heap → Prop) (w : Bool) (y : AV) : Prop := gd P X d op l K w y r H
def gdq (m : Option AV) (d : Option Nat) (op : Op) (l : List SOp) (K : Regs → Heap → Prop) (w : Bool) (y : AV) : Prop :=
  match m with
  | some v => opK P X l K r d v H
  | none => gd0 P X r H d op l K w y
/-- A guarded operation that is to be merged. -/
def gdM (d : Option Nat) (op : Op) (l : List SOp) (K : Regs → Heap → Prop) (w : Bool) (y : AV) : Prop := gd P X d op l K w y r H
theorem gd_M (d : Option Nat) (op : Op) (l : List SOp) (K : Regs → Heap → Prop) (w : Bool) (y : AV) : gd P X d op l K w y r H = gdM P X r H d op l K w y := rfl
section
variable (d : Option Nat) (op : Op) (l : List SOp) (K : Regs → Heap → Prop)
theorem gdM_tt : gdM P X r H d op l K true (.bool true) = aop P X.pure (msOf X d) r H op (opK P X l K r d) := rfl
theorem gdM_ff : gdM P X r H d op l K false (.bool false) = aop P X.pure (msOf X d) r H op (opK P X l K r d) := rfl
theorem gdM_tf : gdM P X r H d op l K true (.bool false) = sops P X l K (put r d (.tup [])) H := rfl
theorem gdM_ft : gdM P X r H d op l K false (.bool true) = sops P X l K (put r d (.tup [])) H := rfl
theorem gdM_no (w : Bool) : gdM P X r H d op l K w (.tup []) = sops P X l K (put r d (.tup [])) H := rfl
end
theorem gd_sym (d : Option Nat) (op : Op) (l : List SOp) (K : Regs → Heap → Prop) (w : Bool) (y : AV) : gdM P X r H d op l K w y = gdq P X r H (gval w y (aval P X.pure r H op)) d op l K w y := by
  unfold gdq gdM
  split
  · rename_i v hv
    unfold gval at hv
    split at hv
    · rename_i b
      unfold gd guardS
      dsimp only
      split at hv
      · rename_i hb
        rw [if_pos hb]
        exact aval_ok P X.pure r H _ _ _ _ hv
      · rename_i hb
        rw [if_neg hb]
        cases hv; rfl
    · cases hv; rfl
    · cases hv
  · rfl
theorem gdq_some (v : AV) (d : Option Nat) (op : Op) (l : List SOp) (K : Regs → Heap → Prop) (w : Bool) (y : AV) : gdq P X r H (some v) d op l K w y = opK P X l K r d v H := rfl
theorem gdq_none (d : Option Nat) (op : Op) (l : List SOp) (K : Regs → Heap → Prop) (w : Bool) (y : AV) : gdq P X r H none d op l K w y = gd0 P X r H d op l K w y := rfl
theorem aval_move (x : Operand) : aval P pu r H (.move x) = some (ev r x) := rfl
theorem aval_assign (x : Operand) : aval P pu r H (.assign x) = some (ev r x) := rfl
theorem aval_pick (c a b : Operand) : aval P pu r H (.pick c a b) = pickA (ev r c) (ev r a) (ev r b) := rfl
theorem aval_bin_of (o : BinOp) (t t' : TypeId) (x y : Operand) (h : nilArg (.binOp o t x y t') = none) : aval P pu r H (.binOp o t x y t') = bin P o t (isC x) (isC y) (ev r x) (ev r y) := by
  simp only [aval, h]
theorem aval_bin_tmp (o : BinOp) (t t' : TypeId) (x : Operand) (i : Nat) : aval P pu r H (.binOp o t x (.tmp i) t') = bin P o t (isC x) false (ev r x) (r i) := aval_bin_of P pu r H o t t' x _ (by cases o <;> rfl)
theorem aval_bin_int (o : BinOp) (t t' : TypeId) (x : Operand) (k : IntKind) (n : Int) : aval P pu r H (.binOp o t x (.const (.int k n)) t') = bin P o t (isC x) true (ev r x) (.int k n) := aval_bin_of P pu r H o t t' x _ (by cases o <;> rfl)
theorem aval_bin_str (o : BinOp) (t t' : TypeId) (x : Operand) (s : ByteArray) : aval P pu r H (.binOp o t x (.const (.string s)) t') = bin P o t (isC x) true (ev r x) (.str s.data.toList) := aval_bin_of P pu r H o t t' x _ (by cases o <;> rfl)
theorem aval_bin_bool (o : BinOp) (t t' : TypeId) (x : Operand) (b : Bool) : aval P pu r H (.binOp o t x (.const (.bool b)) t') = bin P o t (isC x) true (ev r x) (.bool b) := aval_bin_of P pu r H o t t' x _ (by cases o <;> rfl)
theorem aval_un (o : UnOp) (t : TypeId) (x : Operand) : aval P pu r H (.unOp o t x) = un o (ev r x) := rfl
theorem aval_field (t : TypeId) (x : Operand) (f : Nat) : aval P pu r H (.field t x f) = fieldA P t (ev r x) f := rfl
theorem aval_fieldAddr (t : TypeId) (x : Operand) (f : Nat) : aval P pu r H (.fieldAddr t x f) = fieldAddrA P t (ev r x) f := rfl
theorem aval_index (t : TypeId) (x i : Operand) : aval P pu r H (.index t x i) = indexA P t (ev r x) (ev r i) := rfl
theorem aval_indexAddr (t : TypeId) (x i : Operand) : aval P pu r H (.indexAddr t x i) = indexAddrA P t (ev r x) (ev r i) := rfl
theorem aval_extract (x : Operand) (i : Nat) : aval P pu r H (.extract x i) = extractA (ev r x) i := rfl
theorem aval_build (t : TypeId) (ps : Array (Nat × Operand)) : aval P pu r H (.build t ps) = buildA P t (ps.toList.map fun p => (p.1, ev r p.2)) := rfl
theorem aval_load (t : TypeId) (x : Operand) : aval P pu r H (.load t x) = loadV P H t (ev r x) := rfl
theorem aval_lookup (t : TypeId) (m k : Operand) (ok : Bool) : aval P pu r H (.lookup t m k ok) = lookV P H t (ev r m) (ev r k) ok := rfl
def sliceV (t : TypeId) (x : AV) (lo hi mx : Option Operand) : Option AV := match x with
    | .str s => sliceA P r t (.str s) lo hi mx
    | .sl es tl => sliceA P r t (.sl es tl) lo hi mx
    | _ => none
theorem aval_slice (t : TypeId) (x : Operand) (lo hi mx : Option Operand) : aval P pu r H (.slice t x lo hi mx) = sliceV P r t (ev r x) lo hi mx := rfl
theorem sliceV_str (t : TypeId) (s : List UInt8) (lo hi mx : Option Operand) : sliceV P r t (.str s) lo hi mx = sliceA P r t (.str s) lo hi mx := rfl
theorem sliceV_sl (t : TypeId) (es : List (List AV)) (tl : Tail) (lo hi mx : Option Operand) : sliceV P r t (.sl es tl) lo hi mx = sliceA P r t (.sl es tl) lo hi mx := rfl
theorem aval_call (f : Operand) (xs : Array Operand) (ts : Array TypeId) : aval P pu r H (.call ⟨.value f, xs, ts⟩) = callV pu (ev r f) (xs.toList.map (ev r)) := rfl
def len1 (ts : List TypeId) (xs : List AV) : Option AV := match xs with | [x] => lenT P ts x | _ => none
theorem len1_one (ts : List TypeId) (x : AV) : len1 P ts [x] = lenT P ts x := rfl
theorem aval_len (xs : Array Operand) (ts : Array TypeId) : aval P pu r H (.call ⟨.builtin .len, xs, ts⟩) = if isMap P ts.toList = true then none else len1 P ts.toList (xs.toList.map (ev r)) := rfl
theorem aval_alloc (t : TypeId) : aval P pu r H (.alloc t) = none := rfl
theorem aval_box (t : TypeId) (x : Operand) : aval P pu r H (.box t x) = none := rfl
theorem aval_store (t : TypeId) (a x : Operand) : aval P pu r H (.store t a x) = none := rfl
theorem loadV_ptr (t : TypeId) (id off : Nat) : loadV P H t (.ptr id off) = match ti P t with | some i => loadC (H id) off i.size i.desc.agg | none => none := rfl
theorem loadV_rptr (t : TypeId) (cs : List AV) : loadV P H t (.rptr cs) = match ti P t with | some i => readC i.desc.agg i.size cs | none => none := rfl
theorem loadC_cells (cs : List AV) (off n : Nat) (agg : Bool) : loadC (some (.cells cs)) off n agg = readC agg n (cs.drop off) := rfl
theorem callV_func (g : FuncId) (cap xs : List AV) : callV pu (.func g cap) xs = pcall (pu g) (xs ++ cap) := rfl
theorem pcall_some (s : List AV → Option AV) (xs : List AV) : pcall (some s) xs = s xs := rfl
theorem pcall_none (xs : List AV) : pcall none xs = none := rfl
theorem lookV_map (t : TypeId) (id : Nat) (k : AV) (ok : Bool) : lookV P H t (.map id) k ok = match mapE P t with | some p => if p.2.zero.isVal = true then lookC (H id) p.1 p.2.zero k ok else none | none => none := by
  unfold lookV; cases mapE P t <;> rfl
theorem lookV_nil (t : TypeId) (k : AV) (ok : Bool) : lookV P H t .nilmap k ok = match mapE P t with | some p => if p.2.zero.isVal = true then (keyOf p.1 k).map fun _ => if ok then .tup [p.2.zero, .bool false] else p.2.zero else none | none => none := by
  unfold lookV; cases mapE P t <;> rfl
theorem lookC_map (kk : KK) (es : List (Key × AV)) (kt : KK) (z k : AV) (ok : Bool) : lookC (some (.map kk es)) kt z k ok = if kk = kt then (keyOf kk k).map fun key => if ok then .tup [(mget es key).getD z, .bool (mget es key).isSome] else (mget es key).getD z else none := rfl
theorem keyOf_str (l : List UInt8) : keyOf .str (.str l) = some (.s l) := rfl
theorem keyOf_int (k : IntKind) (n : Int) : keyOf (.int k) (.int k n) = some (.i n) := by simp [keyOf]
theorem keyOf_st (ks : List KK0) (cs : List AV) : keyOf (.st ks) (.agg cs) = (keysOf0 ks cs).map .t := by
  cases h : keysOf0 ks cs <;> simp [keyOf, h]
theorem pick_and (c y : Bool) : pickA (.bool c) (gv c true (.bool y)) (.bool false) = some (.bool (c && y)) := by
  cases c <;> rfl
theorem pick_or (c y : Bool) : pickA (.bool c) (.bool true) (gv c false (.bool y)) = some (.bool (c || y)) := by
  cases c <;> rfl
end
attribute [go_sem] when1_some gv_tt gv_ff gv_tf gv_ft when1_tt when1_ff when1_tf when1_ft gval_tt gval_ff gval_tf gval_ft gval_no gval_gv gdM_tt gdM_ff gdM_tf gdM_ft gdM_no gdq_some gdq_none aval_move aval_assign aval_pick aval_bin_tmp aval_bin_int aval_bin_str aval_bin_bool aval_un aval_field aval_fieldAddr aval_index aval_indexAddr aval_extract aval_build aval_load aval_lookup
  aval_slice sliceV_str sliceV_sl aval_call len1_one aval_len aval_alloc aval_box aval_store loadV_ptr loadV_rptr loadC_cells callV_func pcall_some pcall_none lookV_map lookV_nil lookC_map keyOf_str keyOf_int keyOf_st
attribute [congr] when1_congr
attribute [go_sem low] gval_b gd_sym
attribute [go_sem high] pick_and pick_or
end Go.Abs

/-
  Functions without a body; pure functions by how their arguments are read.
-/
namespace Go.Abs
open Go.RowKit
set_option linter.unusedVariables false
section
variable {P : Program}

/-- A function without a body: what the model's entry gives. -/
theorem ACalls.of_extern {f : FuncId} {fn : Func} {e : Array Value → Sem Value} (hf : P.funcs[f]? = some fn) (hname : (fn.name == "runtime.NumGoroutine") = false)
    (hb : fn.body.isNone = true) (hn : Extern.findNext fn = none) (he : Extern.find fn = some e) {args : List AV} {H : Heap} {x : AV}
    (h : ∀ C H w vs, ReprL C H w args vs → ∃ v, (e vs.toArray).run P w = .ok v w ∧ Repr C H w x v) : ACalls P f args H fun y H' => y = x ∧ H' = H := by
  refine ⟨fun C w vs hrel hv => ?_⟩
  obtain ⟨v, h1, h2⟩ := h C H w vs hv
  rw [run_callFunc_extern hf hname hb hn he, h1]
  exact ⟨C, H, x, v, rfl, hrel, Le.refl _ _ _, h2, rfl, rfl⟩
theorem reprL_one {C : Cx} {H : Heap} {w : World} {x : AV} {vs : List Value} (h : ReprL C H w [x] vs) : ∃ v, vs = [v] ∧ Repr C H w x v := by
  obtain ⟨h1, h2⟩ := h
  cases vs with
  | nil => simp at h1
  | cons v vs =>
    cases vs with
    | nil => exact ⟨v, rfl, h2 0 (by simp)⟩
    | cons => simp at h1
theorem reprL_two {C : Cx} {H : Heap} {w : World} {x y : AV} {vs : List Value} (h : ReprL C H w [x, y] vs) : ∃ v u, vs = [v, u] ∧ Repr C H w x v ∧ Repr C H w y u := by
  obtain ⟨h1, h2⟩ := h
  cases vs with
  | nil => simp at h1
  | cons v vs =>
    cases vs with
    | nil => simp at h1
    | cons u vs =>
      cases vs with
      | nil => exact ⟨v, u, rfl, h2 0 (by simp), h2 1 (by simp)⟩
      | cons => simp at h1
theorem repr_str {C : Cx} {H : Heap} {w : World} {s : List UInt8} {v : Value} (h : Repr C H w (.str s) v) : ∃ b : ByteArray, v = .string b ∧ b.data.toList = s := by
  cases h; rename_i b hb; exact ⟨b, rfl, hb⟩
theorem repr_int {C : Cx} {H : Heap} {w : World} {k : IntKind} {n : Int} {v : Value} (h : Repr C H w (.int k n) v) : v = .int k n := by
  cases h; rfl
theorem makeNoZero_calls {f : FuncId} {fn : Func} {ps : Array TypeId} {t e : TypeId} (hf : P.funcs[f]? = some fn) (hname : (fn.name == "runtime.NumGoroutine") = false)
    (hb : fn.body.isNone = true) (hn : Extern.findNext fn = none) (he : Extern.find fn = some (Extern.BytealgMakeNoZero.makeNoZero ps #[t])) (ht : P.underlying t = some (.slice e)) (n : Nat) (hle : n ≤ 140737488355328) {G : Heap} :
    ACalls P f [.int .i64 n] G fun x G' => ∃ t, G t = none ∧ x = .rs t n 1 (some e) ∧ G' = G.put t (.tail 0) := by
  refine ⟨fun C w vs hrel hv => ?_⟩
  obtain ⟨v, rfl, h1⟩ := reprL_one hv
  cases repr_int h1
  obtain ⟨cs, hrun, hcs, -⟩ := Lib.run_makeNoZero (P := P) w ps t e ht n (by omega)
  rw [run_callFunc_extern hf hname hb hn he]
  rw [show [Value.int .i64 (n : Int)].toArray = #[Value.int .i64 n] from rfl, hrun]
  obtain ⟨d1, d2⟩ := Le.drew hrel
  obtain ⟨e1, e2⟩ := Le.drew d2
  obtain ⟨g1, g2⟩ := Le.alloc_own e2 (.cells cs e) (.tail 0) (fun C' H' w' _ hb => ⟨_, _, _, hb, Nat.zero_le _, .inl rfl⟩)
  refine ⟨_, _, .rs C.n n 1 (some e), _, rfl, g2, (d1.trans e1).trans g1, ?_, C.n, hrel.fresh (Nat.le_refl _), rfl, rfl⟩
  have hb : (C.new (w.drew.drew).heap.size).β C.n = w.heap.size := C.new_self _
  have := Repr.rs (C := C.new (w.drew.drew).heap.size) (H := G.put C.n (.tail 0)) (w := w.drew.drew.alloc (.cells cs e)) C.n n 1 cs.size (some e) (by simp [Cx.new]) hcs ⟨e, cs.size, ?_, by omega, fun v hv => by cases hv; rfl, ?_⟩
  · rw [hb] at this; exact this
  · rw [hb]
    have := heap_alloc_new w.drew.drew (.cells cs e)
    unfold World.shape?
    rw [show w.heap.size = w.drew.drew.heap.size from rfl, this]
  · rw [hb]; exact hrel.base
theorem indexByteString_calls {f : FuncId} {fn : Func} (hf : P.funcs[f]? = some fn) (hname : (fn.name == "runtime.NumGoroutine") = false)
    (hb : fn.body.isNone = true) (hn : Extern.findNext fn = none) (he : Extern.find fn = some Extern.BytealgIndexByte.indexByte) (s : List UInt8) (c : Int) (H : Heap) :
    ACalls P f [.str s, .int .u8 c] H fun y H' => y = .int .i64 (Lib.indexByte s c.toNat.toUInt8) ∧ H' = H :=
  ACalls.of_extern hf hname hb hn he fun C H w vs hv => by
    obtain ⟨v, u, rfl, h1, h2⟩ := reprL_two hv
    obtain ⟨b, rfl, rfl⟩ := repr_str h1
    cases repr_int h2
    exact ⟨_, Lib.run_indexByteString _ _ _, .int _ _⟩
theorem countString_calls {f : FuncId} {fn : Func} (hf : P.funcs[f]? = some fn) (hname : (fn.name == "runtime.NumGoroutine") = false)
    (hb : fn.body.isNone = true) (hn : Extern.findNext fn = none) (he : Extern.find fn = some Extern.BytealgCount.count) (s : List UInt8) (c : Int) (H : Heap) :
    ACalls P f [.str s, .int .u8 c] H fun y H' => y = .int .i64 (Lib.countByte s c.toNat.toUInt8) ∧ H' = H :=
  ACalls.of_extern hf hname hb hn he fun C H w vs hv => by
    obtain ⟨v, u, rfl, h1, h2⟩ := reprL_two hv
    obtain ⟨b, rfl, rfl⟩ := repr_str h1
    cases repr_int h2
    exact ⟨_, Lib.run_countString _ _ _, .int _ _⟩
theorem cmpString_calls {f : FuncId} {fn : Func} (hf : P.funcs[f]? = some fn) (hname : (fn.name == "runtime.NumGoroutine") = false)
    (hb : fn.body.isNone = true) (hn : Extern.findNext fn = none) (he : Extern.find fn = some Extern.BytealgCompare.compare) (s t : List UInt8) (H : Heap) :
    ACalls P f [.str s, .str t] H fun y H' => y = .int .i64 (Lib.compareBytes s t) ∧ H' = H :=
  ACalls.of_extern hf hname hb hn he fun C H w vs hv => by
    obtain ⟨v, u, rfl, h1, h2⟩ := reprL_two hv
    obtain ⟨b, rfl, rfl⟩ := repr_str h1
    obtain ⟨b', rfl, rfl⟩ := repr_str h2
    exact ⟨_, Lib.run_compareString _ _ _, .int _ _⟩

theorem chunks_one' (l : List AV) (n : Nat) (h : n ≤ l.length) : ((List.range n).map fun i => (l.drop (i * 1)).take 1) = (l.take n).map fun c => [c] := by
  apply List.ext_getElem?
  intro i
  rw [List.getElem?_map, List.getElem?_map, List.getElem?_take]
  by_cases hi : i < n
  · rw [List.getElem?_range hi, if_pos hi]
    simp only [Option.map_some, Nat.mul_one]
    rw [List.drop_eq_getElem_cons (by omega), List.getElem?_eq_getElem (by omega)]
    rfl
  · rw [if_neg hi, List.getElem?_eq_none (by simp; omega)]
    rfl
/-! ### Some types -/
abbrev tiStr : TI := { size := 1, bytes := 16, zero := .str [], desc := .string, held := false, guard := false }
abbrev tiU8 : TI := { size := 1, bytes := 1, zero := .int .u8 0, desc := .int .u8, held := false, guard := false }
/-! ### How an argument is read -/
/-- A reading of a value: what it says, and that it is that value. -/
structure Rd (α : Type) where
  rd : AV → Option α
def Rd.str : Rd (List UInt8) := ⟨fun | .str s => some s | _ => none⟩
def Rd.int (k : IntKind) : Rd Int := ⟨fun | .int k' n => if k' = k then some n else none | _ => none⟩
def Rd.bool : Rd Bool := ⟨fun | .bool b => some b | _ => none⟩
theorem Rd.str_eq (s : List UInt8) : Rd.str.rd (.str s) = some s := rfl
theorem Rd.int_eq (k : IntKind) (n : Int) : (Rd.int k).rd (.int k n) = some n := by simp [Rd.int]
theorem Rd.bool_eq (b : Bool) : Rd.bool.rd (.bool b) = some b := rfl
theorem Rd.str_some {x : AV} {s : List UInt8} (h : Rd.str.rd x = some s) : x = .str s := by
  cases x <;> simp [Rd.str] at h; subst h; rfl
theorem Rd.int_some {k : IntKind} {x : AV} {n : Int} (h : (Rd.int k).rd x = some n) : x = .int k n := by
  cases x <;> simp [Rd.int] at h; obtain ⟨rfl, rfl⟩ := h; rfl
theorem Rd.bool_some {x : AV} {b : Bool} (h : Rd.bool.rd x = some b) : x = .bool b := by
  cases x <;> simp [Rd.bool] at h; subst h; rfl
/-- A struct of cells, read by a function. -/
def Rd.agg {α : Type} (dec : List AV → Option α) : Rd α := ⟨fun | .agg cs => dec cs | _ => none⟩
theorem Rd.agg_eq {α : Type} (dec : List AV → Option α) (cs : List AV) : (Rd.agg dec).rd (.agg cs) = dec cs := rfl
/-- Lists of things, read back from their cells. -/
def decL {α : Type} (dec : List AV → Option α) : List (List AV) → Option (List α)
  | [] => some []
  | c :: es => match dec c, decL dec es with
    | some a, some l => some (a :: l)
    | _, _ => none
theorem decL_map {α : Type} {dec : List AV → Option α} {enc : α → List AV} (h : ∀ a, dec (enc a) = some a) : ∀ l : List α, decL dec (l.map enc) = some l
  | [] => rfl
  | a :: l => by simp only [List.map_cons, decL, h, decL_map h l]
theorem decL_some {α : Type} {dec : List AV → Option α} {enc : α → List AV} (h : ∀ c a, dec c = some a → c = enc a) : ∀ (es : List (List AV)) (l : List α), decL dec es = some l → es = l.map enc
  | [], l, hl => by cases hl; rfl
  | c :: es, l, hl => by
    unfold decL at hl
    split at hl
    · rename_i a k h1 h2
      cases hl
      rw [h c a h1, decL_some h es k h2]
      rfl
    · cases hl
def Rd.list {α : Type} (dec : List AV → Option α) : Rd (List α) := ⟨fun | .sl es _ => decL dec es | _ => none⟩
theorem Rd.list_eq {α : Type} {dec : List AV → Option α} {enc : α → List AV} (h : ∀ a, dec (enc a) = some a) (l : List α) (t : Tail) : (Rd.list dec).rd (.sl (l.map enc) t) = some l := decL_map h l
theorem Rd.list_some {α : Type} {dec : List AV → Option α} {enc : α → List AV} (hd : ∀ c a, dec c = some a → c = enc a) {x : AV} {l : List α} (h : (Rd.list dec).rd x = some l) : ∃ t, x = .sl (l.map enc) t := by
  cases x <;> simp [Rd.list] at h
  rename_i es t
  exact ⟨t, by rw [decL_some hd es l h]⟩

def fn1 {α : Type} (a : Rd α) (F : α → Option AV) : List AV → Option AV
  | [x] => (a.rd x).bind F
  | _ => none
def fn2 {α β : Type} (a : Rd α) (b : Rd β) (F : α → β → Option AV) : List AV → Option AV
  | [x, y] => (a.rd x).bind fun p => (b.rd y).bind fun q => F p q
  | _ => none
def fn3 {α β γ : Type} (a : Rd α) (b : Rd β) (c : Rd γ) (F : α → β → γ → Option AV) : List AV → Option AV
  | [x, y, z] => (a.rd x).bind fun p => (b.rd y).bind fun q => (c.rd z).bind fun r => F p q r
  | _ => none
theorem fn1_eq {α : Type} (a : Rd α) (F : α → Option AV) (x : AV) : fn1 a F [x] = (a.rd x).bind F := rfl
theorem fn2_eq {α β : Type} (a : Rd α) (b : Rd β) (F : α → β → Option AV) (x y : AV) : fn2 a b F [x, y] = (a.rd x).bind fun p => (b.rd y).bind fun q => F p q := rfl
theorem fn3_eq {α β γ : Type} (a : Rd α) (b : Rd β) (c : Rd γ) (F : α → β → γ → Option AV) (x y z : AV) : fn3 a b c F [x, y, z] = (a.rd x).bind fun p => (b.rd y).bind fun q => (c.rd z).bind fun r => F p q r := rfl
attribute [go_sem] fn1_eq fn2_eq fn3_eq Rd.str_eq Rd.int_eq Rd.bool_eq Rd.agg_eq
theorem fn1_some {α : Type} {a : Rd α} {F : α → Option AV} {xs : List AV} {v : AV} (h : fn1 a F xs = some v) : ∃ x p, xs = [x] ∧ a.rd x = some p ∧ F p = some v := by
  unfold fn1 at h
  split at h
  · rename_i x
    simp only [Option.bind_eq_some_iff] at h
    obtain ⟨p, h1, h2⟩ := h
    exact ⟨x, p, rfl, h1, h2⟩
  · cases h
theorem fn2_some {α β : Type} {a : Rd α} {b : Rd β} {F : α → β → Option AV} {xs : List AV} {v : AV} (h : fn2 a b F xs = some v) : ∃ x y p q, xs = [x, y] ∧ a.rd x = some p ∧ b.rd y = some q ∧ F p q = some v := by
  unfold fn2 at h
  split at h
  · rename_i x y
    simp only [Option.bind_eq_some_iff] at h
    obtain ⟨p, h1, q, h2, h3⟩ := h
    exact ⟨x, y, p, q, rfl, h1, h2, h3⟩
  · cases h
/-! ### Fresh objects -/
theorem heap_none {H : Heap} {id i : Nat} {o : AObj} (h : (H.put id o) i = none) : ¬ i = id ∧ ¬ id = i ∧ H i = none := by
  unfold Heap.put at h
  split at h
  · cases h
  · rename_i hne; exact ⟨hne, fun e => hne e.symm, h⟩
theorem Heap.Sub.rfl' (H : Heap) : H.Sub H := fun _ _ h => h
theorem Heap.Sub.put' {G G' : Heap} (h : G.Sub G') {id : Nat} (hid : G id = none) (o : AObj) : G.Sub (G'.put id o) := fun i x hx => by
  have := h i x hx
  by_cases e : i = id
  · subst e; rw [hid] at hx; cases hx
  · rw [Heap.put, if_neg e]; exact this
/-! ### Between bytes and strings -/
/-- A string of the bytes of a slice that is written. -/
theorem conv_ms {src dst : TypeId} {id off len : Nat} {H : Heap} {K : K1} {cs : List AV} {l : List UInt8} (h1 : isBytes P src = true) (h2 : descOf P dst = .string) (hid : H id = some (.cells cs)) (hle : off + len ≤ cs.length)
    (hl : (cs.drop off).take len = l.map fun b => AV.int .u8 b.toNat) (hK : K (.str l) H) : aConv P src dst (.ms id off len 1) H K := by
  unfold aConv
  rw [if_neg, if_pos ⟨h1, h2⟩]
  · refine ⟨rfl, rfl, ?_⟩
    rw [hid]
    refine ⟨by omega, l, ?_, hK⟩
    have e : ((List.range len).map fun i => (cs.drop (off + i * 1)).take 1) = (List.range len).map fun i => ((cs.drop off).drop (i * 1)).take 1 := by
      apply List.map_congr_left; intro i _; rw [List.drop_drop]
    rw [e]
    have := chunks_one' (cs.drop off) len (by rw [List.length_drop]; omega)
    rw [this, hl, List.map_map]; rfl
  · rintro ⟨-, h⟩; obtain ⟨u, hu⟩ := isBytes_slice h1; rw [h] at hu; cases hu
/-- A string of the bytes of a slice that was made by appending. -/
theorem conv_sl {src dst : TypeId} {t : Tail} {H : Heap} {K : K1} {l : List UInt8} (h1 : isBytes P src = true) (h2 : descOf P dst = .string) (hK : K (.str l) H) : aConv P src dst (.sl (l.map fun b => [AV.int .u8 b.toNat]) t) H K := by
  unfold aConv
  rw [if_neg, if_pos ⟨h1, h2⟩]
  · exact ⟨rfl, by simp [Unif], l, rfl, hK⟩
  · rintro ⟨-, h⟩; obtain ⟨u, hu⟩ := isBytes_slice h1; rw [h] at hu; cases hu
/-- A row that is filled from its beginning; from its end. -/
def fillL (z : AV) (done : List AV) (n : Nat) : List AV := done ++ List.replicate (n - done.length) z
theorem fillL_len {z : AV} {done : List AV} {n : Nat} (h : done.length ≤ n) : (fillL z done n).length = n := by
  simp [fillL]; omega
theorem fillL_set {z : AV} {done : List AV} {n : Nat} (h : done.length < n) (v : AV) : (fillL z done n).set done.length v = fillL z (done ++ [v]) n := by
  unfold fillL
  rw [List.set_append, if_neg (by simp)]
  obtain ⟨k, hk⟩ : ∃ k, n - done.length = k + 1 := ⟨n - done.length - 1, by omega⟩
  have : n - (done ++ [v]).length = k := by simp; omega
  rw [hk, this, List.replicate_succ]
  simp
theorem fillL_full {z : AV} {done : List AV} : fillL z done done.length = done := by simp [fillL]
def fillR (z : AV) (i : Nat) (t : List AV) : List AV := List.replicate i z ++ t
theorem fillR_set {z : AV} {i : Nat} {t : List AV} (h : 0 < i) (v : AV) : (fillR z i t).set (i - 1) v = fillR z (i - 1) (v :: t) := by
  unfold fillR
  rw [List.set_append, if_pos (by simp; omega)]
  obtain ⟨k, rfl⟩ : ∃ k, i = k + 1 := ⟨i - 1, by omega⟩
  have : (List.replicate (k + 1) z).set (k + 1 - 1) v = List.replicate k z ++ [v] := by
    rw [List.replicate_succ', List.set_append, if_neg (by simp)]
    simp
  rw [this]
  simp
theorem fillR_len {z : AV} {i : Nat} {t : List AV} : (fillR z i t).length = i + t.length := by simp [fillR]
theorem fillR_drop {z : AV} {i : Nat} {t : List AV} : (fillR z i t).drop i = t := by
  unfold fillR
  rw [List.drop_append, List.drop_of_length_le (by simp)]
  simp
/-! ### A slice that is written no more -/
theorem chunks_flatten (l : List AV) (k : Nat) : ∀ n, n * k ≤ l.length → ((List.range n).map fun i => (l.drop (i * k)).take k).flatten = l.take (n * k) := by
  intro n
  induction n with
  | zero => intro _; simp
  | succ n ih =>
    intro h
    have hn : n * k ≤ l.length := by rw [Nat.succ_mul] at h; omega
    rw [List.range_succ, List.map_append, List.flatten_append, ih hn, Nat.succ_mul, List.take_add]
    simp
theorem Ghost.freeze {H : Heap} {id off len k : Nat} {cs : List AV} (hid : H id = some (.cells cs)) (hle : off + len * k ≤ cs.length) :
    Ghost P (.ms id off len k) H (.sl ((List.range len).map fun i => ((cs.drop off).drop (i * k)).take k) .unk) (H.del id) := by
  intro C w v hrel hx
  have hsub : (H.del id).Sub H := fun i o ho => by
    unfold Heap.del at ho
    split at ho
    · cases ho
    · exact ho
  obtain ⟨f1, f2⟩ := Le.forget hrel hsub
  refine ⟨C, f2, f1, ?_⟩
  cases hx with
  | ms _ _ _ _ a cap h ha hl hs =>
    obtain ⟨hlt, hbase, arr, ty, fr, a1, a2, a3, a4⟩ := hrel.live id _ hid
    have hfl : ((List.range len).map fun i => ((cs.drop off).drop (i * k)).take k).flatten = (cs.drop off).take (len * k) := chunks_flatten _ _ _ (by rw [List.length_drop]; omega)
    have hfn : ((List.range len).map fun i => ((cs.drop off).drop (i * k)).take k).flatten.length = len * k := by rw [hfl]; simp; omega
    have hown : ∀ j, ¬ Owned C (H.del id) (C.β id) j := by
      rintro j ⟨i, o, hi, hb, -⟩
      have hi' := hsub i o hi
      have := hrel.inj i id o _ hi' hid hb
      subst this
      simp [Heap.del] at hi
    have e : ((List.range len).map fun i => ((cs.drop off).drop (i * k)).take k).length = len := by simp
    have key := Repr.sl (C := C) (H := H.del id) (w := w) ((List.range len).map fun i => ((cs.drop off).drop (i * k)).take k) .unk a cap (C.β id) off (fun j => arr.getD (off + j) default)
      (fun hp => ha (by rw [hfn] at hp; rcases Nat.eq_zero_or_pos len with h0 | h0
                        · subst h0; simp at hp
                        · omega))
      (fun j hj => by
        rw [hfn] at hj
        exact ⟨cell_of_cells a1 (by omega), (a3 _ (by omega)).1, (Array.getElem?_eq_some_iff.1 a1).1, hown _⟩)
      (fun j hj => by
        rw [hfn] at hj
        rw [hfl, getD_take _ _ _ _ hj, getD_drop]
        exact (a3 _ (by omega)).2.mono f1)
      (by rw [e]; exact hl) trivial
    rw [e] at key
    exact key
theorem chunks_one (l : List AV) (n : Nat) (h : n ≤ l.length) : ((List.range n).map fun i => (l.drop (i * 1)).take 1) = (l.take n).map fun c => [c] := by
  apply List.ext_getElem?
  intro i
  rw [List.getElem?_map, List.getElem?_map, List.getElem?_take]
  by_cases hi : i < n
  · rw [List.getElem?_range hi, if_pos hi]
    simp only [Option.map_some, Nat.mul_one]
    rw [List.drop_eq_getElem_cons (by omega), List.getElem?_eq_getElem (by omega)]
    rfl
  · rw [if_neg hi, List.getElem?_eq_none (by simp; omega)]
    rfl
/-- The same for elements of one cell. -/
theorem Ghost.freeze1 {H : Heap} {id off len : Nat} {cs : List AV} (hid : H id = some (.cells cs)) (hle : off + len ≤ cs.length) :
    Ghost P (.ms id off len 1) H (.sl (((cs.drop off).take len).map fun c => [c]) .unk) (H.del id) := by
  have := Ghost.freeze (P := P) (k := 1) (off := off) (len := len) hid (by omega)
  rwa [chunks_one _ _ (by rw [List.length_drop]; omega)] at this
theorem Done.via {R : K1} {x x' : AV} {H H' : Heap} (h : Ghost P x H x' H') (k : Done P R x' H') : Done P R x H := by
  obtain ⟨y, G, h1, h2⟩ := k
  exact ⟨y, G, h.trans h1, h2⟩
theorem del_put {H : Heap} {id : Nat} (o : AObj) (h : H id = none) : (H.put id o).del id = H := by
  funext i
  simp only [Heap.del, Heap.put]
  split
  · rename_i e; subst e; exact h.symm
  · rfl
end
end Go.Abs

/-
  Lists that grow by append; forgetting what room a list has.
-/
namespace Go.Abs
set_option linter.unusedVariables false
/-- A value, its lists' room forgotten. -/
def wk : Nat → AV → AV
  | 0, x => x
  | n + 1, .sl es t => .sl es .unk
  | n + 1, .tup cs => .tup (cs.map (wk n))
  | n + 1, .agg cs => .agg (cs.map (wk n))
  | n + 1, x => x
theorem getD_wk (n : Nat) (cs : List AV) (j : Nat) (h : j < cs.length) : (cs.map (wk n)).getD j .junk = wk n (cs.getD j .junk) := by
  simp [List.getD, List.getElem?_map, List.getElem?_eq_getElem h]
theorem Repr.wk {C : Cx} {H : Heap} {w : World} : ∀ (n : Nat) {x : AV} {v : Value}, Repr C H w x v → Repr C H w (Go.Abs.wk n x) v := by
  intro n
  induction n with
  | zero => intro x v h; exact h
  | succ n ih =>
    intro x v h
    cases h with
    | sl es t a cap b off us ha hc hr hl ht => exact .sl es .unk a cap b off us ha hc hr hl trivial
    | agg cs vs hs ho hr =>
      refine .agg _ vs (by rw [List.length_map]; exact hs) (fun j hj => ho j (by rw [List.length_map] at hj; exact hj)) (fun j hj => ?_)
      rw [List.length_map] at hj
      rw [getD_wk n cs j hj]
      exact ih (hr j hj)
    | tup cs vs hs hr =>
      refine .tup _ vs (by rw [List.length_map]; exact hs) (fun j hj => ?_)
      rw [List.length_map] at hj
      rw [getD_wk n cs j hj]
      exact ih (hr j hj)
    | _ => constructor <;> assumption
section
variable {P : Program}
theorem Done.wk (n : Nat) {R : K1} {x : AV} {H : Heap} (h : Done P R (Go.Abs.wk n x) H) : Done P R x H := Done.via (fun C w v h1 h2 => ⟨C, h1, Le.refl _ _ _, h2.wk n⟩) h
/-- A list that grows by append: it is empty, and has no room, or its room is an object. -/
def AppOK (H G : Heap) (k : Nat) (acc : List (List AV)) (tl : Tail) : Prop := H.Sub G ∧ (tl = .exact ∧ acc = [] ∨ ∃ id ty, tl = .tok id k ty ∧ H id = none ∧ G id = some (.tail (acc.length * k)))
theorem AppOK.nil {H G : Heap} {k : Nat} (h : H.Sub G) : AppOK H G k [] .exact := ⟨h, .inl ⟨rfl, rfl⟩⟩
theorem AppOK.sub {H G : Heap} {k : Nat} {acc : List (List AV)} {tl : Tail} (h : AppOK H G k acc tl) : H.Sub G := h.1
/-- Other objects are made. -/
theorem AppOK.put {H G : Heap} {k : Nat} {acc : List (List AV)} {tl : Tail} (h : AppOK H G k acc tl) {id : Nat} (hid : G id = none) (o : AObj) : AppOK H (G.put id o) k acc tl := by
  have hH : H id = none := by
    cases hh : H id with
    | none => rfl
    | some x => have := h.1 id x hh; rw [hid] at this; cases this
  refine ⟨h.1.put' hH o, ?_⟩
  rcases h.2 with h2 | ⟨i, ty, h2, h3, h4⟩
  · exact .inl h2
  · have : ¬ i = id := fun e => by subst e; rw [h4] at hid; cases hid
    exact .inr ⟨i, ty, h2, h3, by rw [put_ne _ _ _ _ this]; exact h4⟩
/-- One that was there is written. -/
theorem AppOK.set {H G : Heap} {k : Nat} {acc : List (List AV)} {tl : Tail} (h : AppOK H G k acc tl) {id : Nat} (hid : H id = none) {o o' : AObj} (ho : G id = some o) (hn : ∀ n, o ≠ .tail n) : AppOK H (G.put id o') k acc tl := by
  refine ⟨h.1.put' hid o', ?_⟩
  rcases h.2 with h2 | ⟨i, ty, h2, h3, h4⟩
  · exact .inl h2
  · have : ¬ i = id := fun e => by subst e; rw [h4] at ho; cases ho; exact hn _ rfl
    exact .inr ⟨i, ty, h2, h3, by rw [put_ne _ _ _ _ this]; exact h4⟩
/-- What is kept while a list grows: all objects but lists' room. -/
def Kept (G G' : Heap) : Prop := ∀ i o, G i = some o → (∀ n, o ≠ .tail n) → G' i = some o
theorem Kept.rfl' (G : Heap) : Kept G G := fun _ _ h _ => h
theorem Kept.cells {G G' : Heap} (h : Kept G G') {i : Nat} {cs : List AV} (hi : G i = some (.cells cs)) : G' i = some (.cells cs) := h _ _ hi (fun n e => by cases e)
theorem Kept.map {G G' : Heap} (h : Kept G G') {i : Nat} {kk : KK} {es : List (Key × AV)} (hi : G i = some (.map kk es)) : G' i = some (.map kk es) := h _ _ hi (fun n e => by cases e)
theorem AppOK.step {et : Option TypeId} {H G : Heap} {e : TI} {acc new : List (List AV)} {tl : Tail} {K : K1} (h : AppOK H G e.size acc tl) (hu : Unif e.size acc) (hn : new ≠ [])
    (h1 : (acc.length + new.length) * e.bytes ≤ 140737488355328) (h2 : acc.length + new.length ≤ 4611686018427387904)
    (hK : ∀ tl' G', AppOK H G' e.size (acc ++ new) tl' → Kept G G' → K (.sl (acc ++ new) tl') G') : appK et false e (.sl acc tl) new G K := by
  have hnone : ∀ id', G id' = none → H id' = none := fun id' hid' => by
    cases hh : H id' with
    | none => rfl
    | some x => have := h.1 id' x hh; rw [hid'] at this; cases this
  rcases h.2 with ⟨rfl, rfl⟩ | ⟨id, ty, rfl, h3, h4⟩
  · refine app_exact hu h1 h2 (fun e => absurd e hn) (fun _ id' hid' => ?_)
    exact hK _ _ ⟨h.1.put' (hnone _ hid') _, .inr ⟨id', _, rfl, hnone _ hid', put_same _ _ _⟩⟩ (fun i o hi _ => by
      have : ¬ i = id' := fun e => by subst e; rw [hid'] at hi; cases hi
      rw [put_ne _ _ _ _ this]; exact hi)
  · refine app_tok hu h4 h1 h2 (fun id' hid' => ?_)
    refine hK _ _ ⟨?_, .inr ⟨id', _, rfl, hnone _ hid', put_same _ _ _⟩⟩ (fun i o hi hno => ?_)
    · refine Heap.Sub.put' (fun i o hi => ?_) (hnone _ hid') _
      have : ¬ i = id := fun e => by subst e; rw [h3] at hi; cases hi
      show (if i = id then none else G i) = some o
      rw [if_neg this]; exact h.1 i o hi
    · have a1 : ¬ i = id' := fun e => by subst e; rw [hid'] at hi; cases hi
      have a2 : ¬ i = id := fun e => by subst e; rw [h4] at hi; cases hi; exact hno _ rfl
      rw [put_ne _ _ _ _ a1]
      show (if i = id then none else G i) = some o
      rw [if_neg a2]; exact hi
end
/-- The same, of a list that may begin with elements of its own. -/
def AppG (H G : Heap) (k : Nat) (acc : List (List AV)) (tl : Tail) : Prop := H.Sub G ∧ (tl = .exact ∨ ∃ id ty, tl = .tok id k ty ∧ H id = none ∧ G id = some (.tail (acc.length * k)))
theorem AppG.new {H G : Heap} {k : Nat} (h : H.Sub G) (acc : List (List AV)) : AppG H G k acc .exact := ⟨h, .inl rfl⟩
theorem AppG.sub {H G : Heap} {k : Nat} {acc : List (List AV)} {tl : Tail} (h : AppG H G k acc tl) : H.Sub G := h.1
theorem AppG.put {H G : Heap} {k : Nat} {acc : List (List AV)} {tl : Tail} (h : AppG H G k acc tl) {id : Nat} (hid : G id = none) (o : AObj) : AppG H (G.put id o) k acc tl := by
  have hH : H id = none := by
    cases hh : H id with
    | none => rfl
    | some x => have := h.1 id x hh; rw [hid] at this; cases this
  refine ⟨h.1.put' hH o, ?_⟩
  rcases h.2 with h2 | ⟨i, ty, h2, h3, h4⟩
  · exact .inl h2
  · have : ¬ i = id := fun e => by subst e; rw [h4] at hid; cases hid
    exact .inr ⟨i, ty, h2, h3, by rw [put_ne _ _ _ _ this]; exact h4⟩
theorem AppG.step {et : Option TypeId} {H G : Heap} {e : TI} {acc new : List (List AV)} {tl : Tail} {K : K1} (h : AppG H G e.size acc tl) (hu : Unif e.size acc)
    (h1 : (acc.length + new.length) * e.bytes ≤ 140737488355328) (h2 : acc.length + new.length ≤ 4611686018427387904)
    (hK : ∀ tl' G', AppG H G' e.size (acc ++ new) tl' → Kept G G' → K (.sl (acc ++ new) tl') G') : appK et false e (.sl acc tl) new G K := by
  have hnone : ∀ id', G id' = none → H id' = none := fun id' hid' => by
    cases hh : H id' with
    | none => rfl
    | some x => have := h.1 id' x hh; rw [hid'] at this; cases this
  rcases h.2 with rfl | ⟨id, ty, rfl, h3, h4⟩
  · refine app_exact hu h1 h2 (fun e => ?_) (fun _ id' hid' => ?_)
    · subst e
      have := hK .exact G ⟨h.1, .inl rfl⟩ (fun _ _ hi _ => hi)
      rwa [List.append_nil] at this
    · exact hK _ _ ⟨h.1.put' (hnone _ hid') _, .inr ⟨id', _, rfl, hnone _ hid', put_same _ _ _⟩⟩ (fun i o hi _ => by
        have : ¬ i = id' := fun e => by subst e; rw [hid'] at hi; cases hi
        rw [put_ne _ _ _ _ this]; exact hi)
  · refine app_tok hu h4 h1 h2 (fun id' hid' => ?_)
    refine hK _ _ ⟨?_, .inr ⟨id', _, rfl, hnone _ hid', put_same _ _ _⟩⟩ (fun i o hi hno => ?_)
    · refine Heap.Sub.put' (fun i o hi => ?_) (hnone _ hid') _
      have : ¬ i = id := fun e => by subst e; rw [h3] at hi; cases hi
      show (if i = id then none else G i) = some o
      rw [if_neg this]; exact h.1 i o hi
    · have a1 : ¬ i = id' := fun e => by subst e; rw [hid'] at hi; cases hi
      have a2 : ¬ i = id := fun e => by subst e; rw [h4] at hi; cases hi; exact hno _ rfl
      rw [put_ne _ _ _ _ a1]
      show (if i = id then none else G i) = some o
      rw [if_neg a2]; exact hi
theorem Kept.trans {G1 G2 G3 : Heap} (h1 : Kept G1 G2) (h2 : Kept G2 G3) : Kept G1 G3 := fun i o hi hn => h2 i o (h1 i o hi hn) hn
theorem binB_eql (P : Program) (t : TypeId) (cx cy a b : Bool) : bin P .eql t cx cy (.bool a) (.bool b) = match descOf P t with | .bool => some (.bool (a == b)) | _ => none := by
  show (eqA P t cx cy (.bool a) (.bool b)).map AV.bool = _
  unfold eqA descOf
  cases ti P t with
  | none => rfl
  | some i => dsimp only; cases i.desc <;> rfl
theorem binB_neq (P : Program) (t : TypeId) (cx cy a b : Bool) : bin P .neq t cx cy (.bool a) (.bool b) = match descOf P t with | .bool => some (.bool (!(a == b))) | _ => none := by
  show (eqA P t cx cy (.bool a) (.bool b)).map (fun b => AV.bool (!b)) = _
  unfold eqA descOf
  cases ti P t with
  | none => rfl
  | some i => dsimp only; cases i.desc <;> rfl
attribute [go_sem] binB_eql binB_neq
end Go.Abs

/-
  From what an argument reads as to an abstract value of its type.
-/
namespace Go.Abs
open Go.RowKit
set_option linter.unusedSimpArgs false
set_option linter.unusedVariables false

mutual
inductive Ty where
  | bool
  | int (k : IntKind)
  | str
  | sl (e : Ty)
  | st (f : Fs)
inductive Fs where
  | nil
  | cons (t : Ty) (f : Fs)
end

-- Is it this type's form? Fields lie one behind the other.
mutual
def tyOf (P : Program) : Ty → TypeId → Bool
  | .bool, t => match P.underlying t with | some .bool => true | _ => false
  | .int k, t => match P.underlying t with | some (.int k') => decide (k' = k) | _ => false
  | .str, t => match P.underlying t with | some .string => true | _ => false
  | .sl e, t => match P.underlying t with | some (.slice e') => tyOf P e e' && decide (0 < P.cellsOf e') | _ => false
  | .st f, t => match P.underlying t with | some (.struct fs) => tysOf P f fs.toList 0 (P.cellsOf t) | _ => false
def tysOf (P : Program) : Fs → List Field → Nat → Nat → Bool
  | .nil, [], o, n => decide (o = n)
  | .cons t f, x :: xs, o, n => decide (x.offset = o) && tyOf P t x.type && tysOf P f xs (o + P.cellsOf x.type) n
  | _, _, _, _ => false
end

-- Cells of such a type; no text and no slice in it is longer than n.
mutual
def WT (n : Nat) : Ty → List AV → Prop
  | .bool, as => ∃ b, as = [.bool b]
  | .int k, as => ∃ i, as = [.int k i] ∧ (Lit.int k i).wf = true
  | .str, as => ∃ l, as = [.str l] ∧ l.length ≤ n
  | .sl e, as => ∃ es tl, as = [.sl es tl] ∧ es.length ≤ n ∧ ∀ c ∈ es, WT n e c
  | .st f, as => WTs n f as
def WTs (n : Nat) : Fs → List AV → Prop
  | .nil, as => as = []
  | .cons t f, as => ∃ x y, as = x ++ y ∧ WT n t x ∧ WTs n f y
end
-- What is read has nothing longer than n.
mutual
def sm {H : Type} (n : Nat) : Ty → DataW H → Prop
  | .bool, _ => True
  | .int _, _ => True
  | .str, .lit (.string l) => l.length ≤ n
  | .str, _ => True
  | .sl e, .slice es _ => es.length ≤ n ∧ ∀ d ∈ es, sm n e d
  | .sl _, _ => True
  | .st f, .agg ds => sms n f ds
  | .st _, _ => True
def sms {H : Type} (n : Nat) : Fs → List (DataW H) → Prop
  | .cons t f, d :: ds => sm n t d ∧ sms n f ds
  | _, _ => True
end

def H0 : Heap := fun _ => none
def C0 (w : World) : Cx := ⟨fun _ => 0, 0, w.heap.size⟩
theorem rel0 {P : Program} (w : World) (ht : Tab P w.heap.size w) : Rel P (C0 w) H0 w := ⟨fun _ _ h => (nomatch h), fun _ _ _ _ h => (nomatch h), Nat.le_refl _, ht⟩

section
variable {H : Type} {enc : TypeId × Value → H} {P : Program} {w : World} {base : Nat} {spare : Nat → Bool} {held : Bool}

/-- The cells and the abstract values, one by one. -/
def Cs (w : World) (as : List AV) (cs : List Value) : Prop := as.length = cs.length ∧ ∀ j, j < cs.length → oneV (cs.getD j default) = true ∧ Repr (C0 w) H0 w (as.getD j .junk) (cs.getD j default)
theorem Cs.one {x : AV} {v : Value} (h1 : oneV v = true) (h : Repr (C0 w) H0 w x v) : Cs w [x] [v] := ⟨rfl, fun j hj => by
  have : j = 0 := by simp at hj; exact hj
  subst this
  exact ⟨h1, h⟩⟩
theorem Cs.append {as bs : List AV} {cs ds : List Value} (h : Cs w as cs) (k : Cs w bs ds) : Cs w (as ++ bs) (cs ++ ds) := by
  refine ⟨by simp [h.1, k.1], fun j hj => ?_⟩
  by_cases hlt : j < cs.length
  · have h1 : j < as.length := by rw [h.1]; exact hlt
    have := h.2 j hlt
    simpa [List.getD, List.getElem?_append_left hlt, List.getElem?_append_left h1] using this
  · have h1 : as.length ≤ j := by rw [h.1]; omega
    have := k.2 (j - cs.length) (by simp at hj; omega)
    simpa [List.getD, List.getElem?_append_right (Nat.le_of_not_lt hlt), List.getElem?_append_right h1, h.1] using this

theorem cells_get {a : Addr} {n : Nat} {cs : List Value} (h : w.cells? base a n = some cs) : cs.length = n ∧ ∀ j, j < n → w.cell? (a.add j) = some (cs.getD j default) := by
  obtain ⟨_, h1, h2⟩ := World.cells?_some h
  refine ⟨h1, fun j hj => ?_⟩
  rw [h2 j hj]
  simp [List.getD, show j < cs.length by omega]
theorem cell_spot {a : Addr} {v : Value} (h : w.cell? a = some v) : a.spot = none ∧ a.block < w.heap.size := by
  unfold World.cell? at h
  split at h
  · rename_i c t f hc
    split at h
    · cases h
    · rename_i hs
      exact ⟨by simpa using hs, (Array.getElem?_eq_some_iff.1 hc).1⟩
  · cases h
theorem ro0 {b off : Nat} (h : b < w.heap.size) : RO (C0 w) H0 w b off := ⟨h, fun ⟨id, o, h, _⟩ => (nomatch h)⟩

mutual
theorem trod_repr (n : Nat) : ∀ (T : Ty) (t : TypeId) (fuel : Nat) (cs : List Value) (x : DataW H × List MemPlace), tyOf P T t = true → DataW.trod enc P w base spare held fuel t cs = some x → sm n T x.1 → ∃ as, Cs w as cs ∧ WT n T as
  | .bool, t, fuel, cs, x, ht, h, hs => by
    unfold tyOf at ht
    split at ht
    · rename_i hu
      obtain ⟨b, rfl, rfl⟩ := DataW.trod_bool hu h
      exact ⟨[.bool b], .one rfl (.bool b), b, rfl⟩
    · cases ht
  | .int k, t, fuel, cs, x, ht, h, hs => by
    unfold tyOf at ht
    split at ht
    · rename_i k' hu
      obtain rfl := of_decide_eq_true ht
      obtain ⟨i, rfl, rfl, hw⟩ := DataW.trod_int hu h
      exact ⟨[.int _ i], .one rfl (.int _ i), i, rfl, hw⟩
    · cases ht
  | .str, t, fuel, cs, x, ht, h, hs => by
    unfold tyOf at ht
    split at ht
    · rename_i hu
      obtain ⟨s, rfl, rfl, hw⟩ := DataW.trod_string hu h
      exact ⟨[.str s.data.toList], .one rfl (.str _ s rfl), _, rfl, by simpa [sm] using hs⟩
    · cases ht
  | .sl e, t, fuel, cs, x, ht, h, hs => by
    unfold tyOf at ht
    split at ht
    · rename_i e' hu
      rw [Bool.and_eq_true, decide_eq_true_eq] at ht
      obtain ⟨he, hk⟩ := ht
      rcases Go.Deep.open_slice hu h with ⟨rfl, rfl⟩ | ⟨a, len, cap, m, f2, D, Pl, rfl, hb, hl, hm, hmm, rfl, hel⟩
      · refine ⟨[.sl [] .exact], .one rfl ?_, [], .exact, rfl, Nat.zero_le _, by simp⟩
        exact .sl [] .exact none 0 0 0 (fun _ => default) (by simp) (by simp) (by simp) (Nat.le_refl _) rfl
      · simp only [sm, List.length_map, List.length_range, List.mem_map, List.mem_range] at hs
        have hlm : len ≤ m := by rw [hmm]; split <;> omega
        have key : ∀ i, i < len → ∃ as, ∃ cs' : List Value, w.cells? base (a.add (i * P.cellsOf e')) (P.cellsOf e') = some cs' ∧ Cs w as cs' ∧ WT n e as := fun i hi => by
          obtain ⟨cs', h1, h2⟩ := hel i (by omega)
          obtain ⟨as, h3, h4⟩ := trod_repr n e e' f2 cs' (D i, Pl i) he h2 (hs.2 _ ⟨i, hi, rfl⟩)
          exact ⟨as, cs', h1, h3, h4⟩
        let k := P.cellsOf e'
        let E : Nat → List AV := fun i => if hi : i < len then (key i hi).choose else []
        let V : Nat → List Value := fun i => if hi : i < len then (key i hi).choose_spec.choose else []
        have hE : ∀ i, i < len → w.cells? base (a.add (i * k)) k = some (V i) ∧ Cs w (E i) (V i) ∧ WT n e (E i) := fun i hi => by
          have := (key i hi).choose_spec.choose_spec
          simp only [E, V, hi, dif_pos]
          exact this
        have hVl : ∀ i, i < len → (V i).length = k := fun i hi => (cells_get (hE i hi).1).1
        have hEl : ∀ i, i < len → (E i).length = k := fun i hi => by rw [(hE i hi).2.1.1, hVl i hi]
        have hU : Unif k ((List.range len).map E) := fun c hc => by
          simp only [List.mem_map, List.mem_range] at hc
          obtain ⟨i, hi, rfl⟩ := hc
          exact hEl i hi
        have hfl : ((List.range len).map E).flatten.length = len * k := by rw [flatten_len hU]; simp
        have hcell : ∀ i, i < len → ∀ j, j < k → w.cell? ((a.add (i * k)).add j) = some ((V i).getD j default) := fun i hi j hj => (cells_get (hE i hi).1).2 j hj
        have hspot : 0 < len → a.spot = none ∧ a.block < w.heap.size := fun h0 => by
          have := hcell 0 h0 0 hk
          simp only [Nat.zero_mul, Addr.add, if_true] at this
          exact cell_spot this
        have haddr : a.spot = none → ∀ i j, (a.add (i * k)).add j = ⟨a.block, a.off + (i * k + j), none⟩ := fun hsp i j => by
          obtain ⟨b, o, s⟩ := a
          simp only at hsp
          subst hsp
          unfold Addr.add
          by_cases e1 : i * k = 0 <;> by_cases e2 : j = 0 <;> simp [e1, e2, Nat.add_assoc]
        refine ⟨[.sl ((List.range len).map E) .unk], .one rfl ?_, _, .unk, rfl, by simpa using hs.1, fun c hc => ?_⟩
        · have e0 : len = ((List.range len).map E).length := by simp
          rw [show Value.slice (some a) len cap = Value.slice (some a) ((List.range len).map E).length cap from by rw [← e0]]
          have hdiv : ∀ j, j < len * k → j / k < len ∧ j % k < k ∧ j / k * k + j % k = j := fun j hj =>
            ⟨(Nat.div_lt_iff_lt_mul hk).2 hj, Nat.mod_lt _ hk, by rw [Nat.mul_comm]; exact Nat.div_add_mod j k⟩
          refine .sl _ .unk (some a) cap a.block a.off (fun j => (V (j / k)).getD (j % k) default) (fun h0 => ?_) (fun j hj => ?_) (fun j hj => ?_) (by simpa using hl) trivial
          · rw [hfl] at h0
            have := (hspot (Nat.pos_of_mul_pos_right h0)).1
            obtain ⟨b, o, s⟩ := a
            simp only at this
            subst this
            rfl
          · rw [hfl] at hj
            obtain ⟨d1, d2, d3⟩ := hdiv j hj
            have hs0 := hspot (Nat.lt_of_le_of_lt (Nat.zero_le _) d1)
            have h1 := hcell _ d1 _ d2
            rw [haddr hs0.1, d3] at h1
            exact ⟨h1, ((hE _ d1).2.1.2 _ (by rw [hVl _ d1]; exact d2)).1, ro0 hs0.2⟩
          · rw [hfl] at hj
            obtain ⟨d1, d2, d3⟩ := hdiv j hj
            have := flatten_get hU (j / k) (E (j / k)) (by simp [d1]) (j % k) d2
            rw [d3] at this
            rw [this]
            exact ((hE _ d1).2.1.2 _ (by rw [hVl _ d1]; exact d2)).2
        · simp only [List.mem_map, List.mem_range] at hc
          obtain ⟨i, hi, rfl⟩ := hc
          exact (hE i hi).2.2
    · cases ht
  | .st f, t, fuel, cs, x, ht, h, hs => by
    unfold tyOf at ht
    split at ht
    · rename_i fs hu
      obtain ⟨xs, f2, rfl, rfl, hl, hx, hf⟩ := DataW.trod_struct hu h
      obtain ⟨as, h1, h2⟩ := trods_repr n f fs.toList 0 (P.cellsOf t) cs xs f2 ht hl (fun i f hf' => hf i f (by simpa using hf')) (by simpa using hx) (by simpa [sm] using hs)
      exact ⟨as, by simpa using h1, h2⟩
    · cases ht
theorem trods_repr (n : Nat) : ∀ (F : Fs) (fl : List Field) (o N : Nat) (cs : List Value) (xs : List (DataW H × List MemPlace)) (fuel : Nat), tysOf P F fl o N = true → cs.length = N →
    (∀ (i : Nat) (f : Field), fl[i]? = some f → DataW.trod enc P w base spare held fuel f.type ((cs.drop f.offset).take (P.cellsOf f.type)) = xs[i]?) → xs.length = fl.length → sms n F (xs.map (·.1)) → ∃ as, Cs w as (cs.drop o) ∧ WTs n F as
  | .nil, [], o, N, cs, xs, fuel, ht, hl, hf, hx, hs => by
    unfold tysOf at ht
    obtain rfl := of_decide_eq_true ht
    exact ⟨[], by rw [List.drop_eq_nil_of_le (by omega)]; exact ⟨rfl, fun j hj => by simp at hj⟩, rfl⟩
  | .cons T F, f :: fl, o, N, cs, [], fuel, ht, hl, hf, hx, hs => by simp at hx
  | .cons T F, f :: fl, o, N, cs, x :: xs, fuel, ht, hl, hf, hx, hs => by
    unfold tysOf at ht
    rw [Bool.and_eq_true, Bool.and_eq_true, decide_eq_true_eq] at ht
    obtain ⟨⟨rfl, h1⟩, h2⟩ := ht
    simp only [List.map_cons, sms] at hs
    obtain ⟨as, g1, g2⟩ := trod_repr n T f.type fuel _ x h1 (hf 0 f rfl) hs.1
    obtain ⟨bs, g3, g4⟩ := trods_repr n F fl (f.offset + P.cellsOf f.type) N cs xs fuel h2 hl (fun i g hg => hf (i + 1) g (by simpa using hg)) (by simpa using hx) hs.2
    refine ⟨as ++ bs, ?_, as, bs, rfl, g2, g4⟩
    have := g1.append g3
    rwa [← List.drop_drop, List.take_append_drop] at this
  | .nil, _ :: _, o, N, cs, xs, fuel, ht, hl, hf, hx, hs => by simp [tysOf] at ht
  | .cons _ _, [], o, N, cs, xs, fuel, ht, hl, hf, hx, hs => by simp [tysOf] at ht
end

-- Whatever is read: no text and no slice of it is longer than the machine allows.
mutual
theorem trod_sm : ∀ (T : Ty) (t : TypeId) (fuel : Nat) (cs : List Value) (x : DataW H × List MemPlace), tyOf P T t = true → DataW.trod enc P w base spare held fuel t cs = some x → sm maxLen T x.1
  | .bool, t, fuel, cs, x, ht, h => by simp [sm]
  | .int k, t, fuel, cs, x, ht, h => by simp [sm]
  | .str, t, fuel, cs, x, ht, h => by
    unfold tyOf at ht
    split at ht
    · rename_i hu
      obtain ⟨s, rfl, rfl, hw⟩ := DataW.trod_string hu h
      exact hw
    · cases ht
  | .sl e, t, fuel, cs, x, ht, h => by
    unfold tyOf at ht
    split at ht
    · rename_i e' hu
      rw [Bool.and_eq_true, decide_eq_true_eq] at ht
      obtain ⟨he, hk⟩ := ht
      rcases Go.Deep.open_slice hu h with ⟨rfl, rfl⟩ | ⟨a, len, cap, m, f2, D, Pl, rfl, hb, hl, hm, hmm, rfl, hel⟩
      · simp [sm]
      · have hlm : len ≤ m := by rw [hmm]; split <;> omega
        refine ⟨by simp only [List.length_map, List.length_range]; omega, fun d hd => ?_⟩
        simp only [List.mem_map, List.mem_range] at hd
        obtain ⟨i, hi, rfl⟩ := hd
        obtain ⟨cs', h1, h2⟩ := hel i (by omega)
        exact trod_sm e e' f2 cs' (D i, Pl i) he h2
    · cases ht
  | .st f, t, fuel, cs, x, ht, h => by
    unfold tyOf at ht
    split at ht
    · rename_i fs hu
      obtain ⟨xs, f2, rfl, rfl, hl, hx, hf⟩ := DataW.trod_struct hu h
      exact trods_sm f fs.toList 0 (P.cellsOf t) cs xs f2 ht (fun i f hf' => hf i f (by simpa using hf'))
    · cases ht
theorem trods_sm : ∀ (F : Fs) (fl : List Field) (o N : Nat) (cs : List Value) (xs : List (DataW H × List MemPlace)) (fuel : Nat), tysOf P F fl o N = true →
    (∀ (i : Nat) (f : Field), fl[i]? = some f → DataW.trod enc P w base spare held fuel f.type ((cs.drop f.offset).take (P.cellsOf f.type)) = xs[i]?) → sms maxLen F (xs.map (·.1))
  | .nil, fl, o, N, cs, xs, fuel, ht, hf => by simp [sms]
  | .cons T F, fl, o, N, cs, [], fuel, ht, hf => by simp [sms]
  | .cons T F, f :: fl, o, N, cs, x :: xs, fuel, ht, hf => by
    unfold tysOf at ht
    rw [Bool.and_eq_true, Bool.and_eq_true, decide_eq_true_eq] at ht
    obtain ⟨⟨rfl, h1⟩, h2⟩ := ht
    exact ⟨trod_sm T f.type fuel _ x h1 (hf 0 f rfl), trods_sm F fl (f.offset + P.cellsOf f.type) N cs xs fuel h2 (fun i g hg => hf (i + 1) g (by simpa using hg))⟩
  | .cons _ _, [], o, N, cs, x :: xs, fuel, ht, hf => by simp [tysOf] at ht
end
end
end Go.Abs

/-
  From a contract of the abstract machine to what a law's row asks.
-/
namespace Go.Abs
open Go.RowKit
set_option linter.unusedSimpArgs false
set_option linter.unusedVariables false

section
variable {H : Type} {enc : TypeId × Value → H} {P : Program} {w : World}

def argOf : Ty → List AV → AV
  | .st _, as => .agg as
  | _, [x] => x
  | _, _ => .junk
/-- Arguments of these types. -/
def WA (n : Nat) : List Ty → List AV → Prop
  | [], xs => xs = []
  | T :: Ts, xs => ∃ as ys, xs = argOf T as :: ys ∧ WT n T as ∧ WA n Ts ys

theorem WT_one {n : Nat} {T : Ty} {as : List AV} (h : WT n T as) : (∃ f, T = .st f) ∨ ∃ x, as = [x] := by
  cases T with
  | bool => obtain ⟨b, rfl⟩ := h; exact .inr ⟨_, rfl⟩
  | int k => obtain ⟨b, rfl, _⟩ := h; exact .inr ⟨_, rfl⟩
  | str => obtain ⟨b, rfl, _⟩ := h; exact .inr ⟨_, rfl⟩
  | sl e => obtain ⟨b, t, rfl, _⟩ := h; exact .inr ⟨_, rfl⟩
  | st f => exact .inl ⟨f, rfl⟩

theorem no_agg {t : TypeId} {v : Value} {T : Ty} (hn : ∀ f, T ≠ .st f) (ht : tyOf P T t = true) {r : Reach} {base : Nat} (hv : Value.okWide P w r base t v) : ∀ cs, v ≠ .agg cs := by
  intro cs hc
  subst hc
  cases T with
  | st f => exact hn f rfl
  | bool =>
    simp only [tyOf] at ht; split at ht
    · rename_i hu; simp [Value.okWide, hu, Cell.okWide, Cell.ok] at hv
    · cases ht
  | int k =>
    simp only [tyOf] at ht; split at ht
    · rename_i hu; simp [Value.okWide, hu, Cell.okWide, Cell.ok] at hv
    · cases ht
  | str =>
    simp only [tyOf] at ht; split at ht
    · rename_i hu; simp [Value.okWide, hu, Cell.okWide, Cell.ok] at hv
    · cases ht
  | sl e =>
    simp only [tyOf] at ht; split at ht
    · rename_i hu; simp [Value.okWide, hu, Cell.okWide, Cell.ok] at hv
    · cases ht

theorem arg_repr {n : Nat} {T : Ty} {t : TypeId} {v : Value} (ht : tyOf P T t = true) {r : Reach} {base : Nat} (hv : Value.okWide P w r base t v) {as : List AV} (hc : Cs w as v.cells.toList) (hw : WT n T as) :
    Repr (C0 w) H0 w (argOf T as) v := by
  rcases WT_one hw with ⟨f, rfl⟩ | ⟨x, rfl⟩
  · simp only [tyOf] at ht
    split at ht
    · rename_i fs hu
      simp only [Value.okWide, hu] at hv
      obtain ⟨cs, rfl, _⟩ := hv
      refine .agg as cs (by simpa [Value.cells] using hc.1) (fun j hj => ?_) (fun j hj => ?_)
      · have := (hc.2 j (by rw [← hc.1]; exact hj)).1
        simpa [Value.cells, List.getD, Array.getD_eq_getD_getElem?] using this
      · have := (hc.2 j (by rw [← hc.1]; exact hj)).2
        simpa [Value.cells, List.getD, Array.getD_eq_getD_getElem?] using this
    · cases ht
  · by_cases hst : ∃ f, T = .st f
    · obtain ⟨f, rfl⟩ := hst
      simp only [tyOf] at ht
      split at ht
      · rename_i fs hu
        simp only [Value.okWide, hu] at hv
        obtain ⟨cs, rfl, _⟩ := hv
        refine .agg [x] cs (by simpa [Value.cells] using hc.1) (fun j hj => ?_) (fun j hj => ?_)
        · have := (hc.2 j (by rw [← hc.1]; exact hj)).1
          simpa [Value.cells, List.getD, Array.getD_eq_getD_getElem?] using this
        · have := (hc.2 j (by rw [← hc.1]; exact hj)).2
          simpa [Value.cells, List.getD, Array.getD_eq_getD_getElem?] using this
      · cases ht
    · have hna := no_agg (fun f e => hst ⟨f, e⟩) ht hv
      have e : v.cells.toList = [v] := by
        cases v <;> first | rfl | exact absurd rfl (hna _)
      rw [e] at hc
      have e2 : argOf T [x] = x := by
        cases T <;> first | rfl | exact absurd ⟨_, rfl⟩ hst
      rw [e2]
      exact (hc.2 0 (by simp)).2

theorem args_repr {n : Nat} {r : Reach} {base : Nat} : ∀ (Ts : List Ty) (ts : List TypeId) (vs : List Value) (ds : List (DataW H)) (ps : List MemPlace), ts.length = Ts.length → (∀ (j : Nat) (T : Ty) (t : TypeId), Ts[j]? = some T → ts[j]? = some t → tyOf P T t = true) →
    DataW.TrodAll enc P w 0 (fun _ => true) true ts vs ds ps → (∀ (j : Nat) t v, ts[j]? = some t → vs[j]? = some v → Value.okWide P w r base t v) → (∀ (j : Nat) (T : Ty) (d : DataW H), Ts[j]? = some T → ds[j]? = some d → sm n T d) →
    ∃ xs, ReprL (C0 w) H0 w xs vs ∧ WA n Ts xs
  | [], [], [], [], ps, _, _, h, hv, hs => ⟨[], ⟨rfl, fun j hj => by simp at hj⟩, rfl⟩
  | T :: Ts, t :: ts, v :: vs, d :: ds, ps, hl, ht, h, hv, hs => by
    obtain ⟨p, q, ⟨fuel, h1⟩, h2, rfl⟩ := h
    have ht0 := ht 0 T t rfl rfl
    obtain ⟨as, g1, g2⟩ := trod_repr n T t fuel _ (d, p) ht0 h1 (hs 0 T d rfl rfl)
    obtain ⟨xs, g3, g4⟩ := args_repr (base := base) (r := r) Ts ts vs ds q (by simpa using hl) (fun j T t h1 h2 => ht (j + 1) T t (by simpa using h1) (by simpa using h2)) h2 (fun j t v h1 h2 => hv (j + 1) t v (by simpa using h1) (by simpa using h2))
      (fun j T d h1 h2 => hs (j + 1) T d (by simpa using h1) (by simpa using h2))
    refine ⟨argOf T as :: xs, ⟨by simp [g3.1], fun j hj => ?_⟩, as, xs, rfl, g2, g4⟩
    cases j with
    | zero => exact arg_repr ht0 (hv 0 t v rfl rfl) g1 g2
    | succ j =>
      have := g3.2 j (by simpa using hj)
      simpa [List.getD] using this
  | [], [], _ :: _, _, ps, _, _, h, hv, hs => by simp [DataW.TrodAll] at h
  | [], [], [], _ :: _, ps, _, _, h, hv, hs => by simp [DataW.TrodAll] at h
  | _ :: _, _ :: _, [], _, ps, _, _, h, hv, hs => by simp [DataW.TrodAll] at h
  | _ :: _, _ :: _, _ :: _, [], ps, _, _, h, hv, hs => by simp [DataW.TrodAll] at h
  | [], _ :: _, _, _, ps, hl, _, h, hv, hs => by simp at hl
  | _ :: _, [], _, _, ps, hl, _, h, hv, hs => by simp at hl

theorem trodAll_stays {W W' : World} (hl : laidOutB P = true) (hb : Below W.heap.size W W') : ∀ (ts : List TypeId) (vs : List Value) (ds : List (DataW H)) (ps : List MemPlace), (∀ t ∈ ts, P.readableRec t = true ∧ t < P.types.size) →
    DataW.TrodAll enc P W 0 (fun _ => true) true ts vs ds ps → (∀ x ∈ ps, x.block < W.heap.size) → DataW.TrodAll enc P W' 0 (fun b => decide (b < W.heap.size)) true ts vs ds ps
  | [], [], [], ps, hr, h, hlt => h
  | t :: ts, v :: vs, d :: ds, ps, hr, h, hlt => by
    obtain ⟨p, q, h1, h2, rfl⟩ := h
    exact ⟨p, q, Below.trod hl (hr t (List.mem_cons_self ..)).1 (hr t (List.mem_cons_self ..)).2 h1 hb (fun x hx => hlt x (List.mem_append_left _ hx)),
      trodAll_stays hl hb ts vs ds q (fun t ht => hr t (List.mem_cons_of_mem _ ht)) h2 (fun x hx => hlt x (List.mem_append_right _ hx)), rfl⟩
  | [], [], _ :: _, ps, _, h, hv => by simp [DataW.TrodAll] at h
  | [], _ :: _, _, ps, _, h, hv => by simp [DataW.TrodAll] at h
  | _ :: _, [], _, ps, _, h, hv => by simp [DataW.TrodAll] at h
  | _ :: _, _ :: _, [], ps, _, h, hv => by simp [DataW.TrodAll] at h

/-- A law that is true of all arguments of its types: what its row's step asks. -/
theorem law_contract {f : FuncId} {fn : Func} {s : ChangeSpec} {tb : TypeId} (Ts : List Ty) (n : Nat) (hvars : s.vars = [])
    (hfn : ∀ ds : List (DataW H), ds.length = fn.params.toList.length → s.fn H ds = { results := [.lit (.bool true)], args := ds })
    (hres : fn.resultTypes = #[tb]) (htb : P.underlying tb = some .bool) (hf : P.funcs[f]? = some fn) (hname : (fn.name == "runtime.NumGoroutine") = false) (hbody : fn.body.isNone = false)
    (hlaid : laidOutB P = true) (hpar : (fn.params.toList.all fun t => P.readableRec t && decide (t < P.types.size)) = true)
    (hTs : fn.params.toList.length = Ts.length ∧ (List.zip Ts fn.params.toList).all (fun p => tyOf P p.1 p.2) = true)
    (hcall : ∀ xs, WA n Ts xs → ACalls P f xs H0 fun x _ => x = .bool true)
    {W : World} {base : Nat} {args : Array Value} {ds gs : List (DataW H)} {before : List MemPlace} (htab : Tab P W.heap.size W)
    (hval : ∀ (j : Nat) t v, fn.params[j]? = some t → args[j]? = some v → Value.okWide P W .any base t v)
    (hW : DataW.Whole enc P fn.params.toList s.vars false W args.toList ds gs before)
    (hsm : ∀ (j : Nat) T d, Ts[j]? = some T → ds[j]? = some d → sm n T d) :
    Calls P f args W fun e W' => ∃ v, e = .returned v ∧ s.post enc P fn false true false false W args v W' := by
  have hW0 := hW
  obtain ⟨p, q, hA, hV, rfl, hfz, hnd⟩ := hW
  have hty : ∀ (j : Nat) (T : Ty) (t : TypeId), Ts[j]? = some T → fn.params.toList[j]? = some t → tyOf P T t = true := fun j T t h1 h2 => by
    have := List.all_eq_true.1 hTs.2 (T, t) (List.mem_of_getElem? (i := j) (by rw [List.getElem?_zip_eq_some]; exact ⟨h1, h2⟩))
    exact this
  obtain ⟨xs, hx1, hx2⟩ := args_repr (base := base) (r := .any) Ts fn.params.toList args.toList ds p hTs.1 hty hA (fun j t v h1 h2 => hval j t v (by simpa using h1) (by simpa using h2)) hsm
  have hc := (hcall xs hx2).call (C0 W) W args.toList (rel0 W htab) hx1
  rw [callFunc_enter hf hname hbody] at hc
  obtain ⟨_, hc⟩ := hc
  rw [show args.toList.toArray = args from by simp] at hc
  refine hc.mono fun e W' hp => ?_
  obtain ⟨C', H', x, v, rfl, hrel, hle, hrep, rfl⟩ := hp
  cases hrep
  have hbel : Below W.heap.size W W' := hle.below
  have hlt := hW0.lt
  obtain ⟨rfl, rfl⟩ : gs = [] ∧ q = [] := by
    rw [hvars] at hV
    cases gs with
    | nil => exact ⟨rfl, hV⟩
    | cons => simp [DataW.TrodVars] at hV
  have hlen : ∀ (ts : List TypeId) (vs : List Value) (ds : List (DataW H)) (ps : List MemPlace), DataW.TrodAll enc P W 0 (fun _ => true) true ts vs ds ps → ds.length = ts.length := by
    intro ts
    induction ts with
    | nil => intro vs ds ps h; cases vs <;> cases ds <;> simp_all [DataW.TrodAll]
    | cons t ts ih =>
      intro vs ds ps h
      cases vs with
      | nil => simp [DataW.TrodAll] at h
      | cons v vs => cases ds with
        | nil => simp [DataW.TrodAll] at h
        | cons d ds =>
          obtain ⟨p, q, _, h2, _⟩ := h
          simp [ih vs ds q h2]
  have hfe := hfn ds (hlen _ _ _ _ hA)
  refine ⟨.bool true, rfl, ds, [], p ++ [], [], p, [], hW0, ?_, ?_, ?_, hbel.frame _, fun h => by cases h⟩
  · rw [List.append_nil, hfe, hres]
    exact ⟨[], [], ⟨1, by simp [DataW.trod, htb, Value.cells]⟩, rfl, rfl⟩
  · rw [List.append_nil, hfe]
    exact trodAll_stays hlaid hbel _ _ _ _ (fun t ht => by
      have := List.all_eq_true.1 hpar t ht
      rw [Bool.and_eq_true, decide_eq_true_eq] at this
      exact this) hA (fun x hx => hlt x (by simpa using hx))
  · rw [hvars, List.append_nil, hfe]
    rfl
end
end Go.Abs
