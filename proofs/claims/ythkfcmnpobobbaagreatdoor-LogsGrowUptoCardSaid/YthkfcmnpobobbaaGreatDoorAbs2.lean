/-
  An abstract machine over pure values, and that it tells what the program does (part 2 of 4).
-/
import Derived.Test.YthkfcmnpobobbaaGreatDoorAbs1

/-
  The operations that read and write the heap: new blocks, loads, stores.
-/
namespace Go.Abs
open Go.RowKit

section
variable {P : Program} {C C' : Cx} {H H' : Heap} {w w' : World}

theorem ObjOK.lt {b : Nat} {o : AObj} (h : ObjOK C H w b o) : b < w.heap.size := by
  have key : ∀ x, w.heap[b]? = some x → b < w.heap.size := fun x hx => (Array.getElem?_eq_some_iff.1 hx).1
  cases o with
  | cells cs => obtain ⟨arr, ty, fr, h1, -⟩ := h; exact key _ h1
  | tail m => obtain ⟨arr, ty, fr, h1, -⟩ := h; exact key _ h1
  | map kk es => obtain ⟨fs, cl, h1, -⟩ := h; exact key _ h1
  | bmap kk es bs cl => obtain ⟨fs, h1, -⟩ := h; exact key _ h1
  | iter m cl seen => obtain ⟨sa, h1, -⟩ := h; exact key _ h1
theorem EntriesOK.mono (hle : Le C H w C' H' w') {kk : KK} {es : List (Key × AV)} {fs : List MapEntry} (h : EntriesOK C H w kk es fs) : EntriesOK C' H' w' kk es fs :=
  ⟨h.1, fun j hj => ⟨(h.2 j hj).1, (h.2 j hj).2.mono hle⟩⟩
theorem ObjOK.mono (hle : Le C H w C' H' w') {b : Nat} {o : AObj} (hb : w'.heap[b]? = w.heap[b]?) (h : ObjOK C H w b o) : ObjOK C' H' w' b o := by
  cases o with
  | cells cs => obtain ⟨arr, ty, fr, h1, h2, h3, h4⟩ := h; exact ⟨arr, ty, fr, hb.trans h1, h2, fun j hj => ⟨(h3 j hj).1, (h3 j hj).2.mono hle⟩, h4⟩
  | tail m => obtain ⟨arr, ty, fr, h1, h2⟩ := h; exact ⟨arr, ty, fr, hb.trans h1, h2⟩
  | map kk es => obtain ⟨fs, cl, h1, h2, h3⟩ := h; exact ⟨fs, cl, hb.trans h1, h2.mono hle, h3⟩
  | bmap kk es bs cl => obtain ⟨fs, h1, h2, h3⟩ := h; exact ⟨fs, hb.trans h1, h2.mono hle, h3⟩
  | iter m cl seen =>
    obtain ⟨sa, h1, h2, h3⟩ := h
    refine ⟨sa, ?_, h2, fun id hid => Nat.lt_of_lt_of_le (h3 id hid) hle.n⟩
    rw [hb, h1]
    cases m with
    | none => rfl
    | some id => simp only [Option.map_some]; rw [hle.β id (h3 id rfl)]

theorem Rel.fresh (h : Rel P C H w) {id : Nat} (hid : C.n ≤ id) : H id = none := by
  cases hh : H id with
  | none => rfl
  | some o => have := (h.live id o hh).1; omega

/-- What comes of a computation. -/
def Does (P : Program) (C : Cx) (H : Heap) (w : World) (K : K1) (s : Sem Value) : Prop :=
  ∃ v w' C' H' x, s.run P w = .ok v w' ∧ Rel P C' H' w' ∧ Le C H w C' H' w' ∧ Repr C' H' w' x v ∧ K x H'

theorem Does.same {K : K1} {s : Sem Value} (hrel : Rel P C H w) {x : AV} {v : Value} (hs : s.run P w = .ok v w) (hx : Repr C H w x v) (hK : K x H) : Does P C H w K s :=
  ⟨v, w, C, H, x, hs, hrel, Le.refl _ _ _, hx, hK⟩
theorem Does.gives {K : K1} {s : Sem Value} (hrel : Rel P C H w) {x : AV} (hs : Gives P C H w x s) (hK : K x H) : Does P C H w K s := by
  obtain ⟨v, h1, h2⟩ := hs
  exact .same hrel (h1 w) h2 hK

/-! ### A new block -/
def Cx.new (C : Cx) (b : Nat) : Cx := { C with β := fun i => if i = C.n then b else C.β i, n := C.n + 1 }
theorem Cx.new_self (C : Cx) (b : Nat) : (C.new b).β C.n = b := by simp [Cx.new]
theorem Cx.new_old (C : Cx) (b : Nat) {i : Nat} (h : i < C.n) : (C.new b).β i = C.β i := by simp [Cx.new, show i ≠ C.n by omega]

theorem shape_alloc (w : World) (o : Obj) {b : Nat} {s : TypeId × Nat} (h : w.shape? b = some s) : (w.alloc o).shape? b = some s := by
  have hlt : b < w.heap.size := by
    rcases Nat.lt_or_ge b w.heap.size with h' | h'
    · exact h'
    · simp [World.shape?, Array.getElem?_eq_none h'] at h
  unfold World.shape? at *
  rw [Below.heap_alloc w o b hlt]
  exact h
theorem cell_alloc (w : World) (o : Obj) {b off : Nat} (h : b < w.heap.size) : (w.alloc o).cell? ⟨b, off, none⟩ = w.cell? ⟨b, off, none⟩ := by
  unfold World.cell?
  rw [Below.heap_alloc w o b h]

/-- A new block that nobody owns. -/
theorem Le.alloc_ro (hrel : Rel P C H w) (o : Obj) : Le C H w C H (w.alloc o) ∧ Rel P C H (w.alloc o) := by
  have hle : Le C H w C H (w.alloc o) := ⟨Nat.le_refl _, fun _ _ => rfl, rfl, fun b s h => shape_alloc w o h, fun b off h => ⟨⟨by simp; have := h.1; omega, h.2⟩, cell_alloc w o h.1⟩,
    (Below.refl _ _).alloc hrel.base o⟩
  exact ⟨hle, fun id x hx => by
    obtain ⟨h1, h2, h3⟩ := hrel.live id x hx
    exact ⟨h1, h2, h3.mono hle (Below.heap_alloc w o _ h3.lt)⟩, hrel.inj, by simp; have := hrel.base; omega, hrel.tab.le hle⟩

/-- A new block of our own. -/
theorem Le.alloc_own (hrel : Rel P C H w) (o : Obj) (x : AObj) (hx : ∀ C' H' w', Le C H w C' H' w' → w'.heap[w.heap.size]? = some o → ObjOK C' H' w' w.heap.size x) :
    Le C H w (C.new w.heap.size) (H.put C.n x) (w.alloc o) ∧ Rel P (C.new w.heap.size) (H.put C.n x) (w.alloc o) := by
  have hle : Le C H w (C.new w.heap.size) (H.put C.n x) (w.alloc o) := by
    refine ⟨by simp [Cx.new], fun id hid => C.new_old _ hid, rfl, fun b s h => shape_alloc w o h, fun b off h => ⟨⟨by simp; have := h.1; omega, ?_⟩, cell_alloc w o h.1⟩, (Below.refl _ _).alloc hrel.base o⟩
    rintro ⟨id, y, hy, hb, ho⟩
    unfold Heap.put at hy
    by_cases he : id = C.n
    · subst he; rw [C.new_self] at hb; have := h.1; omega
    · rw [if_neg he] at hy
      rw [C.new_old _ (hrel.live id y hy).1] at hb
      exact h.2 ⟨id, y, hy, hb, ho⟩
  refine ⟨hle, fun id y hy => ?_, fun i j oi oj hi hj hij => ?_, by simp [Cx.new]; have := hrel.base; omega, hrel.tab.le hle⟩
  · unfold Heap.put at hy
    by_cases he : id = C.n
    · subst he
      rw [if_pos rfl] at hy; injection hy with hy; subst hy
      rw [C.new_self]
      exact ⟨by simp [Cx.new], hrel.base, hx _ _ _ hle (heap_alloc_new w o)⟩
    · rw [if_neg he] at hy
      obtain ⟨h1, h2, h3⟩ := hrel.live id y hy
      rw [C.new_old _ h1]
      exact ⟨by simp [Cx.new]; omega, h2, h3.mono hle (Below.heap_alloc w o _ h3.lt)⟩
  · have lt : ∀ k ok, H.put C.n x k = some ok → k ≠ C.n → k < C.n ∧ C.β k < w.heap.size := fun k ok hk hne => by
      unfold Heap.put at hk; rw [if_neg hne] at hk
      exact ⟨(hrel.live k ok hk).1, (hrel.live k ok hk).2.2.lt⟩
    by_cases h1 : i = C.n
    · by_cases h2 : j = C.n
      · omega
      · obtain ⟨l1, l2⟩ := lt j oj hj h2
        rw [h1, C.new_self, C.new_old _ l1] at hij; omega
    · obtain ⟨l1, l2⟩ := lt i oi hi h1
      by_cases h2 : j = C.n
      · rw [h2, C.new_self, C.new_old _ l1] at hij; omega
      · obtain ⟨m1, m2⟩ := lt j oj hj h2
        rw [C.new_old _ l1, C.new_old _ m1] at hij
        unfold Heap.put at hi hj
        rw [if_neg h1] at hi; rw [if_neg h2] at hj
        exact hrel.inj i j oi oj hi hj hij

theorem cells_own {cs : List AV} {arr : Array Value} {ty : TypeId} (h : ∀ C' H' w', Le C H w C' H' w' → CellsOK C' H' w' cs arr) :
    ∀ C' H' w', Le C H w C' H' w' → w'.heap[w.heap.size]? = some (.cells arr ty) → ObjOK C' H' w' w.heap.size (.cells cs) := fun C' H' w' hle hb => by
  obtain ⟨h1, h2⟩ := h C' H' w' hle
  exact ⟨arr, ty, (0, 0), hb, by omega, h2, fun o _ _ => by simp⟩

theorem CellsOK.mono {cs : List AV} {arr : Array Value} (h : CellsOK C H w cs arr) (hle : Le C H w C' H' w') : CellsOK C' H' w' cs arr := ⟨h.1, fun j hj => ⟨(h.2 j hj).1, (h.2 j hj).2.mono hle⟩⟩

theorem val_cells {v : AV} {u : Value} (h : Repr C H w v u) (hv : v.isVal = true) : CellsOK C H w v.cells u.cells := by
  obtain ⟨h1, h2⟩ := cells_val h hv
  exact ⟨h1.symm, h2⟩

theorem newVar_sound (hrel : Rel P C H w) {t : TypeId} {v : AV} {u : Value} (hu : Repr C H w v u) (hv : v.isVal = true) {K : K1} (hK : newId H fun id => K (.ptr id 0) (H.put id (.cells v.cells))) :
    Does P C H w K (do pure (.pointer (some (← newVar t u)))) := by
  have hc := val_cells hu hv
  obtain ⟨h1, h2⟩ := Le.alloc_own hrel (.cells u.cells t) (.cells v.cells) (cells_own fun _ _ _ hle => hc.mono hle)
  refine ⟨.pointer (some ⟨w.heap.size, 0, none⟩), w.alloc (.cells u.cells t), _, _, .ptr C.n 0, ?_, h2, h1, ?_, hK _ (hrel.fresh (Nat.le_refl _))⟩
  · simp [newVar, newRow]
  · have := Repr.ptr (C := C.new w.heap.size) (H := H.put C.n (.cells v.cells)) (w := w.alloc (.cells u.cells t)) C.n 0 (by simp [Cx.new])
    rwa [C.new_self] at this

theorem repr_nilS (v : Value) : Repr C H w (nilS (ofCell v)) v := by
  unfold ofCell
  split <;> try (first | exact .bool _ | exact .int _ _ | exact .str _ _ rfl | exact .nilp | exact .nilmap | exact .nilfunc | exact .nilIface | exact .junk _)
  exact .snil
theorem newTVar_sound (hrel : Rel P C H w) {t : TypeId} {v : AV} {u : Value} (hu : Repr C H w v u) (hv : v.isVal = true) {n : Nat} (hn : v.cells.length = n) (hz : ∀ j, j < u.cells.size → ofCell (u.cells.getD j default) = v.cells.getD j .junk) {K : K1} (hK : newId H fun id => K (.tptr t n id) (H.put id (.cells (v.cells.map nilS)))) :
    Does P C H w K (do pure (.pointer (some (← newVar t u)))) := by
  have hc := val_cells hu hv
  have hc2 : CellsOK C H w (v.cells.map nilS) u.cells := by
    refine ⟨by rw [List.length_map]; exact hc.1, fun j hj => ?_⟩
    rw [List.length_map] at hj
    refine ⟨(hc.2 j hj).1, ?_⟩
    have e : (v.cells.map nilS).getD j .junk = nilS (v.cells.getD j .junk) := by simp [List.getD, List.getElem?_eq_getElem hj]
    rw [e, ← hz j (by rw [← hc.1]; exact hj)]
    exact repr_nilS _
  obtain ⟨h1, h2⟩ := Le.alloc_own hrel (.cells u.cells t) (.cells (v.cells.map nilS)) (cells_own fun _ _ _ hle => hc2.mono hle)
  refine ⟨.pointer (some ⟨w.heap.size, 0, none⟩), w.alloc (.cells u.cells t), _, _, .tptr t n C.n, ?_, h2, h1, ?_, hK _ (hrel.fresh (Nat.le_refl _))⟩
  · simp [newVar, newRow]
  · have hs : (w.alloc (.cells u.cells t)).shape? w.heap.size = some (t, n) := by
      unfold World.shape?
      rw [heap_alloc_new w]
      show some (t, u.cells.size) = _
      rw [← hc.1, hn]
    have := Repr.tptr (C := C.new w.heap.size) (H := H.put C.n (.cells (v.cells.map nilS))) (w := w.alloc (.cells u.cells t)) t n C.n (by simp [Cx.new]) (by rw [C.new_self]; exact hs)
    rwa [C.new_self] at this
theorem alloc_sound (hrel : Rel P C H w) {ms : Bool} {t : TypeId} {K : K1} (h : aAlloc P ms t H K) : Does P C H w K (Instr.alloc t true (.tuple #[])) := by
  unfold aAlloc at h
  split at h
  · rename_i i hi
    obtain ⟨hz, hK⟩ := h
    obtain ⟨v, h1, h2, h3⟩ := zero_cells (C := C) (H := H) (w := w) hi hz
    cases ms with
    | true =>
      rw [if_pos rfl] at hK
      obtain ⟨u, w', C', H', x, e1, e2⟩ := newTVar_sound (P := P) (t := t) hrel h2 hz hK.1 h3 hK.2
      exact ⟨u, w', C', H', x, by simp only [Instr.alloc, Sem.run_bind, h1, Result.andThen_ok]; simpa using e1, e2⟩
    | false =>
    rw [if_neg (by simp)] at hK
    obtain ⟨u, w', C', H', x, e1, e2⟩ := newVar_sound (P := P) (t := t) hrel h2 hz hK
    exact ⟨u, w', C', H', x, by simp only [Instr.alloc, Sem.run_bind, h1, Result.andThen_ok]; simpa using e1, e2⟩
  · exact h.elim
theorem box_sound (hrel : Rel P C H w) {t : TypeId} {x : AV} {u : Value} (hx : Repr C H w x u) {K : K1} (h : aBox x H K) : Does P C H w K (Instr.box t u) :=
  newVar_sound hrel hx h.1 h.2

/-! ### Loads -/
theorem loadFrom_run (b off : Nat) (us : Nat → Value) : ∀ (n i : Nat) (acc : Array Value), (∀ j, j < n → w.cell? ⟨b, off + (i + j), none⟩ = some (us (i + j))) →
    (loadCellsFrom ⟨b, off, none⟩ i n acc).run P w = .ok (acc ++ ((List.range n).map fun j => us (i + j)).toArray) w := by
  intro n
  induction n with
  | zero => intro i acc _; simp [loadCellsFrom]
  | succ n ih =>
    intro i acc h
    have h0 := h 0 (by omega)
    simp only [Nat.add_zero] at h0
    simp only [loadCellsFrom, Sem.run_bind, add_none]
    have hl : (load ⟨b, off + i, none⟩).run P w = .ok (us i) w := by simp [load, Sem.run, h0]
    rw [hl]
    simp only [Result.andThen_ok]
    rw [ih (i + 1) (acc.push (us i)) (fun j hj => by have := h (j + 1) (by omega); rwa [show i + (j + 1) = i + 1 + j by omega] at this)]
    congr 1
    rw [List.range_succ_eq_map]
    apply Array.ext'
    simp only [Array.toList_append, Array.toList_push, List.append_assoc, List.map_cons, List.map_map, Nat.add_zero, List.cons_append, List.nil_append]
    congr 2
    apply List.map_congr_left
    intro j _
    simp only [Function.comp]
    congr 1; omega
theorem loadCells_run {b off n : Nat} {us : Nat → Value} (h : ∀ j, j < n → w.cell? ⟨b, off + j, none⟩ = some (us j)) :
    (loadCells ⟨b, off, none⟩ n).run P w = .ok ((List.range n).map us).toArray w := by
  unfold loadCells
  rw [loadFrom_run b off us n 0 #[] (by simpa using h)]
  simp

/-- A read of cells that stand for a list. -/
theorem readC_sound {t : TypeId} {i : TI} (hi : ti P t = some i) {b off : Nat} {cs : List AV} {us : Nat → Value}
    (hc : ∀ j, j < cs.length → w.cell? ⟨b, off + j, none⟩ = some (us j) ∧ oneV (us j) = true ∧ Repr C H w (cs.getD j .junk) (us j)) {z : AV} (hz : readC i.desc.agg i.size cs = some z) :
    ∃ v, (loadVar t ⟨b, off, none⟩).run P w = .ok v w ∧ Repr C H w z v := by
  unfold readC at hz
  cases hag : i.desc.agg with
  | true =>
    rw [hag] at hz
    simp only [if_true] at hz
    split at hz
    · rename_i hle
      injection hz with hz; subst hz
      refine ⟨.agg ((List.range i.size).map us).toArray, ?_, .agg _ _ (by simp; omega) (fun j hj => ?_) (fun j hj => ?_)⟩
      · have hl := loadCells_run (P := P) (w := w) (b := b) (off := off) (n := i.size) (us := us) (fun j hj => (hc j (by omega)).1)
        simp only [loadVar, Sem.run_bind, run_isAgg hi, hag, Result.andThen_ok, if_true, run_size hi]
        rw [hl]; rfl
      all_goals
        simp only [List.length_take] at hj
        have e : (((List.range i.size).map us).toArray).getD j default = us j := by simp [Array.getD_eq_getD_getElem?, show j < i.size by omega]
        rw [e]
      · exact (hc j (by omega)).2.1
      · rw [getD_take _ _ _ _ (by omega)]; exact (hc j (by omega)).2.2
    · cases hz
  | false =>
    rw [hag] at hz
    simp only [Bool.false_eq_true, if_false] at hz
    cases cs with
    | nil => cases hz
    | cons c cs =>
      simp only [List.head?_cons, Option.some.injEq] at hz
      subst hz
      obtain ⟨h1, h2, h3⟩ := hc 0 (by simp)
      refine ⟨us 0, ?_, h3⟩
      simp only [loadVar, Sem.run_bind, run_isAgg hi, hag, Result.andThen_ok, Bool.false_eq_true, if_false]
      simp only [Nat.add_zero] at h1
      simp [load, Sem.run, h1]

theorem cell_of_cells {b : Nat} {arr : Array Value} {ty : TypeId} {fr : Nat × Nat} (h : w.heap[b]? = some (.cells arr ty fr)) {off : Nat} (ho : off < arr.size) : w.cell? ⟨b, off, none⟩ = some (arr.getD off default) := by
  simp [World.cell?, h, Array.getD_eq_getD_getElem?, ho]

theorem tab_cells (hrel : Rel P C H w) {g off : Nat} {k : IntKind} {zs : List Int} (hg : tabOf P g = some (k, zs)) :
    ∀ j, j < ((zs.map (AV.int k)).drop off).length → w.cell? ⟨g, off + j, none⟩ = some (.int k (zs.getD (off + j) 0)) ∧ oneV (.int k (zs.getD (off + j) 0)) = true ∧ Repr C H w (((zs.map (AV.int k)).drop off).getD j .junk) (.int k (zs.getD (off + j) 0)) := by
  intro j hj
  simp only [List.length_drop, List.length_map] at hj
  have hz : zs[off + j]? = some (zs[off + j]'(by omega)) := List.getElem?_eq_getElem _
  have hd : zs.getD (off + j) 0 = zs[off + j]'(by omega) := by simp [List.getD, hz]
  rw [hd]
  refine ⟨hrel.tab.1.cell hg _ _ hz, rfl, ?_⟩
  have : ((zs.map (AV.int k)).drop off).getD j .junk = .int k (zs[off + j]'(by omega)) := by
    simp [List.getD, List.getElem?_drop, hz]
  rw [this]
  exact .int _ _
theorem load_sound (hrel : Rel P C H w) {t : TypeId} {x : AV} {u : Value} (hx : Repr C H w x u) {K : K1} (h : aLoad P t x H K) : Does P C H w K (Instr.loadAt t u) := by
  unfold aLoad at h
  split at h
  · rename_i i hi
    split at h
    · rename_i id off
      unfold cellsAt at h
      split at h
      · rename_i cs hcs
        unfold so at h
        split at h
        · rename_i z hz
          cases hx with
          | ptr _ _ hid =>
          obtain ⟨-, -, arr, ty, fr, a1, a2, a3, a4⟩ := hrel.live id _ hcs
          obtain ⟨v, v1, v2⟩ := readC_sound (P := P) (C := C) (H := H) (w := w) (b := C.β id) (off := off) (us := fun j => arr.getD (off + j) default) hi (fun j hj => by
            simp only [List.length_drop] at hj
            refine ⟨cell_of_cells a1 (by omega), (a3 _ (by omega)).1, ?_⟩
            rw [getD_drop]; exact (a3 _ (by omega)).2) hz
          exact .same hrel (by simp only [Instr.loadAt, Instr.sureAddr, Sem.run_bind, Sem.run_pure, Result.andThen_ok]; exact v1) v2 h
        · exact h.elim
      · exact h.elim
    · rename_i cs
      unfold so at h
      split at h
      · rename_i z hz
        cases hx with
        | rptr _ b off us hc hr =>
        obtain ⟨v, v1, v2⟩ := readC_sound (P := P) (C := C) (H := H) (w := w) hi (fun j hj => ⟨(hc j hj).1, (hc j hj).2.1, hr j hj⟩) hz
        exact .same hrel (by simp only [Instr.loadAt, Instr.sureAddr, Sem.run_bind, Sem.run_pure, Result.andThen_ok]; exact v1) v2 h
      · exact h.elim
    · rename_i g off
      split at h
      · rename_i k zs hg
        unfold so at h
        split at h
        · rename_i z hz
          cases hx
          obtain ⟨v, v1, v2⟩ := readC_sound (P := P) (C := C) (H := H) (w := w) (b := g) (off := off) (us := fun j => .int k (zs.getD (off + j) 0)) hi (tab_cells hrel hg) hz
          exact .same hrel (by simp only [Instr.loadAt, Instr.sureAddr, Sem.run_bind, Sem.run_pure, Result.andThen_ok]; exact v1) v2 h
        · exact h.elim
      · exact h.elim
    · exact h.elim
  · exact h.elim
end
end Go.Abs

/-
  Stores; literals of slices; make.
-/
namespace Go.Abs
open Go.RowKit

section
variable {P : Program} {C C' : Cx} {H H' : Heap} {w w' : World}

/-! ### A block is replaced -/
def setBlk (w : World) (b : Nat) (o : Obj) : World := { w with heap := w.heap.setIfInBounds b o }
theorem setBlk_self {b : Nat} {o : Obj} (h : b < w.heap.size) : (setBlk w b o).heap[b]? = some o := by simp [setBlk, h]
theorem setBlk_ne {b k : Nat} {o : Obj} (h : k ≠ b) : (setBlk w b o).heap[k]? = w.heap[k]? := by simp [setBlk, Array.getElem?_setIfInBounds_ne (Ne.symm h)]
theorem setBlk_size {b : Nat} {o : Obj} : (setBlk w b o).heap.size = w.heap.size := by simp [setBlk]
theorem setBlk_twice {b : Nat} {o o' : Obj} : setBlk (setBlk w b o) b o' = setBlk w b o' := by simp [setBlk]
theorem setCell_blk {b off : Nat} {arr : Array Value} {ty : TypeId} {fr : Nat × Nat} (h : w.heap[b]? = some (.cells arr ty fr)) (v : Value) :
    w.setCell ⟨b, off, none⟩ v = setBlk w b (.cells (arr.setIfInBounds off v) ty fr) := by
  have hb : b < w.heap.size := (Array.getElem?_eq_some_iff.1 h).1
  unfold World.setCell setBlk
  congr 1
  apply Array.ext_getElem?
  intro i
  simp only [Array.getElem?_modify]
  by_cases hi : b = i
  · subst hi; rw [if_pos rfl, h]; simp [hb]
  · rw [if_neg hi, Array.getElem?_setIfInBounds_ne hi]

/-- The block of a live object is replaced by one of the same shape; the object changes with it. -/
theorem Le.set_own (hrel : Rel P C H w) {id : Nat} {old x : AObj} (ho : H id = some old) {o : Obj} (hold : ∀ off, ¬ old.owns off → ∃ ob, w.heap[C.β id]? = some ob ∧ (setBlk w (C.β id) o).cell? ⟨C.β id, off, none⟩ = w.cell? ⟨C.β id, off, none⟩ ∧ ¬ x.owns off)
    (hs : ∀ s, w.shape? (C.β id) = some s → (setBlk w (C.β id) o).shape? (C.β id) = some s)
    (hx : ∀ C' H' w', Le C H w C' H' w' → w'.heap[C.β id]? = some o → ObjOK C' H' w' (C.β id) x) :
    Le C H w C (H.put id x) (setBlk w (C.β id) o) ∧ Rel P C (H.put id x) (setBlk w (C.β id) o) := by
  obtain ⟨hid, hbase, hok⟩ := hrel.live id old ho
  have hlt := hok.lt
  have hle : Le C H w C (H.put id x) (setBlk w (C.β id) o) := by
    refine ⟨Nat.le_refl _, fun _ _ => rfl, rfl, fun b s h => ?_, fun b off h => ?_, ⟨rfl, rfl, rfl, by rw [setBlk_size]; exact Nat.le_refl _, fun k hk => setBlk_ne (by omega)⟩⟩
    · by_cases hb : b = C.β id
      · subst hb; exact hs s h
      · unfold World.shape? at *; rw [setBlk_ne hb]; exact h
    · by_cases hb : b = C.β id
      · subst hb
        have hno : ¬ old.owns off := fun hown => h.2 ⟨id, old, ho, rfl, hown⟩
        obtain ⟨ob, h1, h2, h3⟩ := hold off hno
        refine ⟨⟨by rw [setBlk_size]; exact h.1, ?_⟩, h2⟩
        rintro ⟨k, y, hy, hk, hown⟩
        unfold Heap.put at hy
        by_cases he : k = id
        · subst he; rw [if_pos rfl] at hy; injection hy with hy; subst hy; exact h3 hown
        · rw [if_neg he] at hy; exact h.2 ⟨k, y, hy, hk, hown⟩
      · refine ⟨⟨by rw [setBlk_size]; exact h.1, ?_⟩, ?_⟩
        · rintro ⟨k, y, hy, hk, hown⟩
          unfold Heap.put at hy
          by_cases he : k = id
          · subst he; exact hb hk.symm
          · rw [if_neg he] at hy; exact h.2 ⟨k, y, hy, hk, hown⟩
        · unfold World.cell?; rw [setBlk_ne hb]
  refine ⟨hle, fun k y hy => ?_, fun i j oi oj hi hj hij => ?_, by rw [setBlk_size]; exact hrel.base, hrel.tab.le hle⟩
  · unfold Heap.put at hy
    by_cases he : k = id
    · subst he
      rw [if_pos rfl] at hy; injection hy with hy; subst hy
      exact ⟨hid, hbase, hx _ _ _ hle (setBlk_self hlt)⟩
    · rw [if_neg he] at hy
      obtain ⟨h1, h2, h3⟩ := hrel.live k y hy
      have hne : C.β k ≠ C.β id := fun e => he (hrel.inj k id y old hy ho e)
      exact ⟨h1, h2, h3.mono hle (setBlk_ne hne)⟩
  · have old' : ∀ k ok, H.put id x k = some ok → ∃ ok', H k = some ok' := fun k ok hk => by
      unfold Heap.put at hk
      by_cases he : k = id
      · subst he; exact ⟨old, ho⟩
      · rw [if_neg he] at hk; exact ⟨ok, hk⟩
    obtain ⟨oi', hi'⟩ := old' i oi hi
    obtain ⟨oj', hj'⟩ := old' j oj hj
    exact hrel.inj i j oi' oj' hi' hj' hij

/-! ### Stores -/
def writeArr (arr : Array Value) (o : Nat) : List Value → Array Value
  | [] => arr
  | v :: vs => writeArr (arr.setIfInBounds o v) (o + 1) vs
theorem writeArr_size (arr : Array Value) (o : Nat) (vs : List Value) : (writeArr arr o vs).size = arr.size := by
  induction vs generalizing arr o with
  | nil => rfl
  | cons v vs ih => simp [writeArr, ih]
theorem writeArr_get (arr : Array Value) (o : Nat) (vs : List Value) (h : o + vs.length ≤ arr.size) (k : Nat) : (writeArr arr o vs).getD k default = if o ≤ k ∧ k < o + vs.length then vs.getD (k - o) default else arr.getD k default := by
  induction vs generalizing arr o with
  | nil => rw [if_neg (by simp)]; rfl
  | cons v vs ih =>
    simp only [List.length_cons] at h ⊢
    rw [writeArr, ih _ _ (by simp; omega)]
    by_cases hk : o = k
    · subst hk
      rw [if_neg (by omega), if_pos (by omega)]
      simp [Array.getD_eq_getD_getElem?, show o < arr.size by omega]
    · by_cases hin : o + 1 ≤ k ∧ k < o + 1 + vs.length
      · rw [if_pos hin, if_pos (by omega), show k - o = (k - (o + 1)) + 1 by omega]; rfl
      · rw [if_neg hin, if_neg (by omega)]
        simp [Array.getD_eq_getD_getElem?, Array.getElem?_setIfInBounds_ne hk]

theorem store_one {b off : Nat} {arr : Array Value} {ty : TypeId} {fr : Nat × Nat} (h : w.heap[b]? = some (.cells arr ty fr)) (ho : off < arr.size) (hf : ¬ (fr.1 ≤ off ∧ off < fr.2)) {v : Value} (hv : oneV v = true) :
    (store ⟨b, off, none⟩ v).run P w = .ok () (setBlk w b (.cells (arr.setIfInBounds off v) ty fr)) := by
  have hc := cell_of_cells h ho
  have hz : w.frozen? ⟨b, off, none⟩ = false := by
    obtain ⟨lo, hi⟩ := fr
    simp only [World.frozen?, h]
    simp only at hf
    rw [Bool.eq_false_iff]
    simpa using hf
  unfold store
  cases v <;> first | (simp [oneV] at hv; done) | (simp only [Sem.run, hc, hz, Bool.false_eq_true, if_false, setCell_blk h])
theorem storeCells_run (b off : Nat) (ty : TypeId) (fr : Nat × Nat) : ∀ (vs : List Value) (i : Nat) (w : World) (arr : Array Value), w.heap[b]? = some (.cells arr ty fr) → off + i + vs.length ≤ arr.size →
    Unfz fr (off + i) (off + i + vs.length) → (∀ v ∈ vs, oneV v = true) →
    (storeCells ⟨b, off, none⟩ vs i).run P w = .ok () (setBlk w b (.cells (writeArr arr (off + i) vs) ty fr)) := by
  intro vs
  induction vs with
  | nil =>
    intro i w arr h _ _ _
    have : setBlk w b (.cells (writeArr arr (off + i) []) ty fr) = w := by
      unfold setBlk writeArr
      have hb : b < w.heap.size := (Array.getElem?_eq_some_iff.1 h).1
      have e : w.heap.setIfInBounds b (.cells arr ty fr) = w.heap := by
        apply Array.ext_getElem?
        intro k
        by_cases hk : b = k
        · subst hk; rw [h]; simp [hb]
        · rw [Array.getElem?_setIfInBounds_ne hk]
      rw [e]
    rw [this]
    rfl
  | cons v vs ih =>
    intro i w arr h hl hz ho
    simp only [List.length_cons] at hl hz
    have hb : b < w.heap.size := (Array.getElem?_eq_some_iff.1 h).1
    simp only [storeCells, Sem.run_bind, add_none]
    rw [store_one h (by omega) (hz _ (by omega) (by omega)) (ho v (List.mem_cons_self ..))]
    simp only [Result.andThen_ok]
    rw [ih (i + 1) _ _ (setBlk_self hb) (by simp; omega) (fun o h1 h2 => hz o (by omega) (by omega)) (fun u hu => ho u (List.mem_cons_of_mem _ hu)), setBlk_twice]
    rfl

theorem CellsOK.write {cs : List AV} {arr : Array Value} {ns : List AV} {vs : Array Value} {off : Nat} (hlen : cs.length ≤ arr.size)
    (hc : ∀ j, j < cs.length → oneV (arr.getD j default) = true ∧ Repr C H w (cs.getD j .junk) (arr.getD j default)) (hn : CellsOK C H w ns vs) (ho : off + ns.length ≤ cs.length) :
    ∀ j, j < (writeC cs off ns).length → oneV ((writeArr arr off vs.toList).getD j default) = true ∧ Repr C H w ((writeC cs off ns).getD j .junk) ((writeArr arr off vs.toList).getD j default) := by
  intro j hj
  have hsz : vs.toList.length = ns.length := by simpa using hn.1.symm
  rw [writeC_length ho] at hj
  rw [writeC_get ho, writeArr_get _ _ _ (by omega), hsz]
  by_cases hin : off ≤ j ∧ j < off + ns.length
  · rw [if_pos hin, if_pos hin]
    have := hn.2 (j - off) (by omega)
    have e : vs.toList.getD (j - off) default = vs.getD (j - off) default := by simp [List.getD, Array.getD_eq_getD_getElem?]
    rw [e]; exact this
  · rw [if_neg hin, if_neg hin]; exact hc j hj

theorem CellsOK.one_mem {cs : List AV} {vs : Array Value} (h : CellsOK C H w cs vs) : ∀ v ∈ vs.toList, oneV v = true := by
  intro v hv
  obtain ⟨i, hi, rfl⟩ := List.getElem_of_mem hv
  simp only [Array.length_toList] at hi
  have := (h.2 i (by rw [h.1]; exact hi)).1
  simpa [Array.getD_eq_getD_getElem?, hi] using this

/-- A store of cells into an object. -/
theorem cells_set (hrel : Rel P C H w) {id : Nat} {cs : List AV} (hid : H id = some (.cells cs)) {ns : List AV} {vs : Array Value} (hn : CellsOK C H w ns vs) {off : Nat} (ho : off + ns.length ≤ cs.length) :
    ∃ w', (storeCells ⟨C.β id, off, none⟩ vs.toList).run P w = .ok () w' ∧ Le C H w C (H.put id (.cells (writeC cs off ns))) w' ∧ Rel P C (H.put id (.cells (writeC cs off ns))) w' := by
  obtain ⟨-, -, arr, ty, fr, a1, a2, a3, a4⟩ := hrel.live id _ hid
  have hsz : vs.toList.length = ns.length := by simpa using hn.1.symm
  have hrun := storeCells_run (P := P) (C.β id) off ty fr vs.toList 0 w arr a1 (by omega) (fun o _ h2 => a4 o (Nat.zero_le _) (by omega)) hn.one_mem
  simp only [Nat.add_zero] at hrun
  refine ⟨_, hrun, Le.set_own hrel hid (fun off hno => absurd trivial hno) (fun s hs => ?_) (fun C' H' w' hle hb => ⟨_, ty, fr, hb, ?_, ?_, ?_⟩)⟩
  · have hlt : C.β id < w.heap.size := (Array.getElem?_eq_some_iff.1 a1).1
    unfold World.shape? at hs ⊢
    rw [a1] at hs; rw [setBlk_self hlt]; simpa [writeArr_size] using hs
  · rw [writeC_length ho, writeArr_size]; exact a2
  · exact CellsOK.write a2 (fun j hj => ⟨(a3 j hj).1, (a3 j hj).2.mono hle⟩) (hn.mono hle) ho
  · rw [writeArr_size]; exact a4

theorem store_sound (hrel : Rel P C H w) {t : TypeId} {x y : AV} {u v : Value} (hx : Repr C H w x u) (hy : Repr C H w y v) {K : K1} (h : aStore P t x y H K) :
    ∃ w' C' H', (Instr.storeAt t u v).run P w = .ok () w' ∧ Rel P C' H' w' ∧ Le C H w C' H' w' ∧ K .junk H' := by
  unfold aStore at h
  split at h
  · rename_i i hi
    split at h
    · rename_i id off
      unfold cellsAt at h
      split at h
      · rename_i cs hcs
        obtain ⟨h1, h2, h3, h4⟩ := h
        cases hx with
        | ptr _ _ hid =>
        have hn := val_cells hy h1
        obtain ⟨w', e1, e2, e3⟩ := cells_set (P := P) hrel hcs hn (off := off) (by omega)
        refine ⟨w', C, _, ?_, e3, e2, h4⟩
        have hsz : ¬ (v.cells.size ≠ i.size) := by rw [← hn.1, h2]; simp
        simp only [Instr.storeAt, Instr.sureAddr, Sem.run_bind, Sem.run_pure, Result.andThen_ok, storeVar, run_size hi, Sem.run_ite, if_neg hsz]
        simpa using e1
      · exact h.elim
    · exact h.elim
  · exact h.elim
end
end Go.Abs

/-
  Literals of slices; make; between strings and bytes.
-/
namespace Go.Abs
open Go.RowKit

section
variable {P : Program} {C C' : Cx} {H H' : Heap} {w w' : World}

/-- Elements that stand in a row of cells. -/
def RowOK (C : Cx) (H : Heap) (w : World) (k : Nat) (es : List (List AV)) (arr : Array Value) : Prop := Unif k es ∧ CellsOK C H w es.flatten arr

theorem fillE_sound {k : Nat} : ∀ (parts : List (Nat × AV)) (qs : List (Nat × Value)) (es zs : List (List AV)) (arr : Array Value), fillE k es parts = some zs → RowOK C H w k es arr → parts.length = qs.length →
    (∀ j, j < parts.length → (parts.getD j default).1 = (qs.getD j default).1 ∧ Repr C H w (parts.getD j default).2 (qs.getD j default).2) →
    ∃ us, Instr.fill (fun i => some (i * k, k)) arr qs = some us ∧ RowOK C H w k zs us := by
  intro parts
  induction parts with
  | nil =>
    intro qs es zs arr h hc hl _
    cases qs with
    | nil => simp only [fillE] at h; injection h with h; subst h; exact ⟨arr, rfl, hc⟩
    | cons => simp at hl
  | cons p parts ih =>
    intro qs es zs arr h hc hl hq
    cases qs with
    | nil => simp at hl
    | cons q qs =>
      obtain ⟨i, v⟩ := p
      obtain ⟨i', u⟩ := q
      have h0 := hq 0 (by simp)
      simp only [List.getD_cons_zero] at h0
      obtain ⟨rfl, hvu⟩ := h0
      simp only [fillE] at h
      split at h
      · rename_i hcond
        obtain ⟨c1, c2, c3⟩ := hcond
        obtain ⟨s1, s2⟩ := cells_val hvu c1
        obtain ⟨hun, hcs⟩ := hc
        have hfl := flatten_len hun
        have hb : i * k + u.cells.size ≤ arr.size := by
          rw [s1, c2, ← hcs.1, hfl]
          calc i * k + k = (i + 1) * k := by rw [Nat.add_mul, Nat.one_mul]
            _ ≤ es.length * k := Nat.mul_le_mul_right _ c3
        obtain ⟨f1, f2⟩ := foldl_set u.cells (i * k) arr hb
        have hun' : Unif k (es.set i v.cells) := fun e he => by
          rcases List.mem_or_eq_of_mem_set he with h | h
          · exact hun e h
          · rw [h]; exact c2
        have hfl' := flatten_len hun'
        rw [List.length_set] at hfl'
        have hc' : RowOK C H w k (es.set i v.cells) (u.cells.zipIdx.foldl (fun cs (c, j) => cs.setIfInBounds (i * k + j) c) arr) := by
          refine ⟨hun', by rw [hfl', f1, ← hcs.1, hfl], fun j hj => ?_⟩
          rw [hfl'] at hj
          have hk : 0 < k := by
            rcases Nat.eq_zero_or_pos k with h | h
            · subst h; simp at hj
            · exact h
          have hdm : j = (j / k) * k + j % k := by rw [Nat.mul_comm]; exact (Nat.div_add_mod j k).symm
          have hjk : j / k < es.length := Nat.div_lt_of_lt_mul (by rw [Nat.mul_comm]; exact hj)
          have hmod : j % k < k := Nat.mod_lt _ hk
          rw [f2]
          by_cases hin : j / k = i
          · have e1 : i * k ≤ j ∧ j < i * k + u.cells.size := by rw [s1, c2]; rw [hin] at hdm; omega
            rw [if_pos e1]
            have e2 : (es.set i v.cells).flatten.getD j .junk = v.cells.getD (j - i * k) .junk := by
              have := flatten_get hun' (j / k) v.cells (by rw [hin]; simp [c3]) (j % k) hmod
              rw [← hdm] at this
              rw [this]
              congr 1
              rw [hin] at hdm; omega
            rw [e2]
            exact s2 _ (by rw [s1] at e1; omega)
          · have e1 : ¬ (i * k ≤ j ∧ j < i * k + u.cells.size) := by
              rw [s1, c2]
              intro hh
              apply hin
              have h1 : i * k ≤ j := hh.1
              have h2 : j < (i + 1) * k := by rw [Nat.add_mul, Nat.one_mul]; exact hh.2
              exact Nat.div_eq_of_lt_le (by rw [Nat.mul_comm] ; rw [Nat.mul_comm]; exact h1) (by exact h2)
            rw [if_neg e1]
            have e2 : (es.set i v.cells).flatten.getD j .junk = es.flatten.getD j .junk := by
              have g1 := flatten_get hun' (j / k) es[j / k] (by rw [List.getElem?_set_ne (Ne.symm hin)]; exact List.getElem?_eq_getElem hjk) (j % k) hmod
              have g2 := flatten_get hun (j / k) es[j / k] (List.getElem?_eq_getElem hjk) (j % k) hmod
              rw [← hdm] at g1 g2
              rw [g1, g2]
            rw [e2]
            exact hcs.2 j (by rw [hfl]; exact hj)
        obtain ⟨us, hu1, hu2⟩ := ih qs _ zs _ h hc' (by simpa using hl) (fun j hj => by have := hq (j + 1) (by simpa using hj); simpa using this)
        refine ⟨us, ?_, hu2⟩
        simp only [Instr.fill]
        rw [if_neg (by simp; omega)]
        exact hu1
      · cases h

theorem flatten_replicate_get (z : List AV) (n j : Nat) (h : j < n * z.length) : (List.replicate n z).flatten.getD j .junk = z.getD (j % z.length) .junk := by
  have hu : Unif z.length (List.replicate n z) := fun e he => by rw [List.eq_of_mem_replicate he]
  have hk : 0 < z.length := by
    rcases Nat.eq_zero_or_pos z.length with h' | h'
    · rw [h'] at h; simp at h
    · exact h'
  have hdm : j = (j / z.length) * z.length + j % z.length := by rw [Nat.mul_comm]; exact (Nat.div_add_mod j _).symm
  have := flatten_get hu (j / z.length) z (by rw [List.getElem?_replicate, if_pos (Nat.div_lt_of_lt_mul (by rw [Nat.mul_comm]; exact h))]) (j % z.length) (Nat.mod_lt _ hk)
  rwa [← hdm] at this

/-- Zero cells over and over. -/
theorem zeros_ok {z : List AV} {v : Value} (hz : CellsOK C H w z v.cells) (hpos : 0 < z.length) (n m : Nat) (hm : m = n * z.length) :
    CellsOK C H w (List.replicate n z).flatten ((Array.range m).map fun j => v.cells[j % v.cells.size]!) := by
  have hu : Unif z.length (List.replicate n z) := fun e he => by rw [List.eq_of_mem_replicate he]
  have hl := flatten_len hu
  rw [List.length_replicate] at hl
  refine ⟨by simp [hl, hm], fun j hj => ?_⟩
  rw [hl] at hj
  rw [flatten_replicate_get z n j hj]
  have hmod : j % z.length < z.length := Nat.mod_lt _ hpos
  have e : ((Array.range m).map fun j => v.cells[j % v.cells.size]!).getD j default = v.cells.getD (j % z.length) default := by
    have hj' : j < m := by omega
    rw [← hz.1]
    simp [Array.getD_eq_getD_getElem?, hj', getElem!_def]
    cases h : v.cells[j % z.length]? <;> rfl
  rw [e]
  exact hz.2 _ hmod

/-- A slice over a block that nobody owns. -/
theorem sl_of_block {k : Nat} {es : List (List AV)} {arr : Array Value} {ty : TypeId} {b : Nat} (hb : w.heap[b]? = some (.cells arr ty (0, 0))) (hr : RowOK C H w k es arr) (hno : ∀ off, ¬ Owned C H b off) :
    Repr C H w (.sl es .exact) (.slice (some ⟨b, 0, none⟩) es.length es.length) ∧ (C.base ≤ b → Repr C H w (.sl es .lit) (.slice (some ⟨b, 0, none⟩) es.length es.length)) := by
  have hlt : b < w.heap.size := (Array.getElem?_eq_some_iff.1 hb).1
  have hc : ∀ j, j < es.flatten.length → w.cell? ⟨b, 0 + j, none⟩ = some (arr.getD j default) ∧ oneV (arr.getD j default) = true ∧ RO C H w b (0 + j) := fun j hj => by
    rw [Nat.zero_add]
    exact ⟨cell_of_cells hb (by rw [← hr.2.1]; exact hj), (hr.2.2 j hj).1, hlt, hno j⟩
  exact ⟨.sl es .exact _ _ b 0 (fun j => arr.getD j default) (fun _ => rfl) hc (fun j hj => (hr.2.2 j hj).2) (Nat.le_refl _) rfl,
    fun hbase => .sl es .lit _ _ b 0 (fun j => arr.getD j default) (fun _ => rfl) hc (fun j hj => (hr.2.2 j hj).2) (Nat.le_refl _) ⟨rfl, b, 0, ty, arr.size, rfl, hbase, by simp [World.shape?, hb], hlt, hno _⟩⟩

theorem not_owned_new (hrel : Rel P C H w) (off : Nat) : ¬ Owned C H w.heap.size off := by
  rintro ⟨id, o, h1, h2, -⟩
  have := (hrel.live id o h1).2.2.lt
  omega

theorem buildSlice_sound {r : Regs} {a : Act} (hrel : Rel P C H w) (hr : RegsOK C H w r a.tmps) {t : TypeId} {len : Nat} {parts : Array (Nat × Operand)} {K : K1}
    (h : aBuildSlice P t len (parts.toList.map fun p => (p.1, ev r p.2)) H K) : Does P C H w K (Instr.buildSlice t len (parts.map fun ((i, x) : Nat × Operand) => (i, a.eval x))) := by
  obtain ⟨p1, p2⟩ := parts_ok hr parts
  generalize (parts.map fun ((i, x) : Nat × Operand) => (i, a.eval x)) = qs at *
  unfold aBuildSlice at h
  split at h
  · rename_i e he
    obtain ⟨h1, h2, h3, h4, h5⟩ := h
    split at h5
    · rename_i es hes
      obtain ⟨et, u1, u2⟩ := sliceE_some he
      obtain ⟨v, v1, v2⟩ := zero_run (P := P) (C := C) (H := H) (w := w) u2 (by intro e; rw [e] at h1; simp [AV.isVal] at h1)
      have hz := val_cells v2 h1
      have hpos : 0 < e.zero.cells.length := by omega
      have hrow : RowOK C H w e.size (List.replicate len e.zero.cells) ((Array.range (len * e.size)).map fun j => v.cells[j % v.cells.size]!) :=
        ⟨fun x hx => by rw [List.eq_of_mem_replicate hx, h2], zeros_ok hz hpos len _ (by rw [h2])⟩
      obtain ⟨us, f1, f2⟩ := fillE_sound _ _ _ _ _ hes hrow p1 p2
      have hlen : es.length = len := by
        have : ∀ (parts : List (Nat × AV)) (as bs : List (List AV)), fillE e.size as parts = some bs → bs.length = as.length := by
          intro parts
          induction parts with
          | nil => intro as bs h; simp only [fillE] at h; injection h with h; rw [h]
          | cons x xs ih =>
            intro as bs h
            obtain ⟨i, v⟩ := x
            simp only [fillE] at h
            split at h
            · rw [ih _ _ h, List.length_set]
            · cases h
        rw [this _ _ _ hes, List.length_replicate]
      obtain ⟨g1, g2⟩ := Le.alloc_ro hrel (.cells us et)
      refine ⟨.slice (some ⟨w.heap.size, 0, none⟩) len len, w.alloc (.cells us et), C, H, .sl es (litT e.desc), ?_, g2, g1, ?_, h5⟩
      · simp only [Instr.buildSlice, Sem.run_bind, run_underlying u1, Result.andThen_ok, run_size u2]
        rw [if_neg (by omega)]
        by_cases h0 : len * e.size = 0
        · have r0 : Array.range 0 = #[] := by apply Array.ext' ; simp
          rw [h0, r0, Array.map_empty] at f1
          simp [h0, r0, f1, newRow]
        · simp [h0, v1, f1, newRow]
      · rw [← hlen]
        obtain ⟨b1, b2⟩ := sl_of_block (C := C) (H := H) (heap_alloc_new w (.cells us et)) ⟨f2.1, f2.2.mono g1⟩ (not_owned_new hrel)
        unfold litT
        split
        · exact b2 hrel.base
        · exact b1
    · exact h5.elim
  · exact h.elim

theorem makeMap_sound (hrel : Rel P C H w) {t : TypeId} {K : K1} (h : aMakeMap P t H K) : Does P C H w K (Instr.makeMap t none) := by
  unfold aMakeMap at h
  split at h
  · rename_i kk _ _
    obtain ⟨h1, h2⟩ := Le.alloc_own hrel (.map #[] 0) (.map kk []) (fun C' H' w' _ hb => ⟨#[], 0, hb, ⟨rfl, by simp⟩, by simp, by simp⟩)
    refine ⟨.map (some w.heap.size), w.alloc (.map #[] 0), _, _, .map C.n, by simp [Instr.makeMap], h2, h1, ?_, h _ (hrel.fresh (Nat.le_refl _))⟩
    have := Repr.map (C := C.new w.heap.size) (H := H.put C.n (.map kk [])) (w := w.alloc (.map #[] 0)) C.n (by simp [Cx.new])
    rwa [C.new_self] at this
  · exact h.elim
end
end Go.Abs

/-
  append.
-/
namespace Go.Abs
open Go.RowKit

section
variable {P : Program} {C C' : Cx} {H H' : Heap} {w w' : World}

/-- What is appended: its elements, in whatever world has this heap. -/
structure Src (P : Program) (C : Cx) (H : Heap) (w : World) (k : Nat) (v : Value) (new : List (List AV)) (arr : Array Value) : Prop where
  row : RowOK C H w k new arr
  len : ∀ w' : World, (Builtin.lenOf v).run P w' = .ok new.length w'
  first : ∀ (w' : World) (n : Nat), w'.heap = w.heap → n ≤ new.length → (Builtin.firstCells k n v).run P w' = .ok (arr.extract 0 (n * k)) w'

theorem Src.all {k : Nat} {v : Value} {new : List (List AV)} {arr : Array Value} (h : Src P C H w k v new arr) (w' : World) (hw : w'.heap = w.heap) : (Builtin.firstCells k new.length v).run P w' = .ok arr w' := by
  have := h.first w' new.length hw (Nat.le_refl _)
  have hs : arr.size = new.length * k := by rw [← h.row.2.1, flatten_len h.row.1]
  rw [← hs, Array.extract_size] at this
  exact this

theorem cell_heap {w w' : World} (h : w'.heap = w.heap) (a : Addr) : w'.cell? a = w.cell? a := by unfold World.cell?; rw [h]

theorem src_cells {k : Nat} {es : List (List AV)} {a : Option Addr} {n cap : Nat} {b off : Nat} {us : Nat → Value} (hu : Unif k es) (hn : n = es.length) (ha : 0 < es.flatten.length → a = some ⟨b, off, none⟩)
    (hc : ∀ j, j < es.flatten.length → w.cell? ⟨b, off + j, none⟩ = some (us j) ∧ oneV (us j) = true ∧ Repr C H w (es.flatten.getD j .junk) (us j)) :
    Src P C H w k (.slice a n cap) es ((List.range es.flatten.length).map us).toArray := by
  have hl := flatten_len hu
  refine ⟨⟨hu, by simp, fun j hj => ?_⟩, fun w' => by subst hn; rfl, fun w' m hw hm => ?_⟩
  · have e : (((List.range es.flatten.length).map us).toArray).getD j default = us j := by
      simp only [Array.getD_eq_getD_getElem?, List.getElem?_toArray, List.getElem?_map, List.getElem?_range hj]
      rfl
    rw [e]
    exact (hc j hj).2
  · have hmk : m * k ≤ es.flatten.length := by rw [hl]; exact Nat.mul_le_mul_right _ hm
    cases a with
    | none =>
      have h0 : es.flatten.length = 0 := by
        rcases Nat.eq_zero_or_pos es.flatten.length with h | h
        · exact h
        · cases ha h
      have hm0 : m * k = 0 := by omega
      rw [h0, hm0]
      simp [Builtin.firstCells]
    | some ad =>
      simp only [Builtin.firstCells]
      by_cases h0 : 0 < es.flatten.length
      · have := ha h0
        injection this with this
        subst this
        rw [loadCells_run (us := us) (fun j hj => by rw [cell_heap hw]; exact (hc j (by omega)).1)]
        congr 1
        apply Array.ext
        · simp only [List.size_toArray, List.length_map, List.length_range, Array.size_extract]; omega
        · intro i h1 h2
          simp
      · have hm0 : m * k = 0 := by omega
        rw [hm0, show es.flatten.length = 0 by omega]
        simp [loadCells, loadCellsFrom]

theorem chunk_unif (cs : List AV) (k len off : Nat) (h : off + len * k ≤ cs.length) : Unif k ((List.range len).map fun i => (cs.drop (off + i * k)).take k) := by
  intro e he
  simp only [List.mem_map, List.mem_range] at he
  obtain ⟨i, hi, rfl⟩ := he
  simp only [List.length_take, List.length_drop]
  have : (i + 1) * k ≤ len * k := Nat.mul_le_mul_right _ hi
  rw [Nat.add_mul, Nat.one_mul] at this
  omega
theorem chunk_flat (cs : List AV) (k len off : Nat) (h : off + len * k ≤ cs.length) : ((List.range len).map fun i => (cs.drop (off + i * k)).take k).flatten = (cs.drop off).take (len * k) := by
  induction len generalizing off with
  | zero => simp
  | succ n ih =>
    rw [List.range_succ_eq_map, List.map_cons, List.flatten_cons, List.map_map]
    have e : (fun i => (cs.drop (off + i * k)).take k) ∘ Nat.succ = fun i => (cs.drop ((off + k) + i * k)).take k := by
      funext i
      simp only [Function.comp, Nat.succ_eq_add_one, Nat.add_mul, Nat.one_mul]
      congr 2; omega
    rw [Nat.add_mul, Nat.one_mul] at h
    rw [e, ih (off + k) (by omega), Nat.add_mul, Nat.one_mul, Nat.zero_mul, Nat.add_zero, Nat.add_comm (n * k) k, List.take_add, List.drop_drop]

theorem singles {α : Type} (f : α → AV) (l : List α) : (l.map fun b => [f b]).flatten = l.map f := by
  induction l with
  | nil => rfl
  | cons x l ih => rw [List.map_cons, List.flatten_cons, ih]; rfl
theorem bytes_row (s : List UInt8) (bs : Array UInt8) (h : bs.toList = s) : RowOK C H w 1 (s.map fun b => [.int .u8 b.toNat]) (bs.map fun b => .int .u8 b.toNat) := by
  refine ⟨fun e he => ?_, ?_, fun j hj => ?_⟩
  · simp only [List.mem_map] at he; obtain ⟨b, -, rfl⟩ := he; rfl
  · rw [singles (fun b : UInt8 => AV.int .u8 b.toNat)]; simp [← h]
  · rw [singles (fun b : UInt8 => AV.int .u8 b.toNat)] at hj ⊢
    simp only [List.length_map, ← h, Array.length_toList] at hj
    have e1 : (s.map fun b : UInt8 => AV.int .u8 b.toNat).getD j .junk = .int .u8 (bs[j]).toNat := by simp [List.getD, ← h, hj]
    have e2 : (bs.map fun b : UInt8 => Value.int .u8 b.toNat).getD j default = .int .u8 (bs[j]).toNat := by simp [Array.getD_eq_getD_getElem?, hj]
    rw [e1, e2]
    exact ⟨rfl, .int _ _⟩

theorem src_sound (hrel : Rel P C H w) {k : Nat} {x : AV} {v : Value} (hx : Repr C H w x v) {K : List (List AV) → Prop} (h : srcOf k x H K) : ∃ new arr, Src P C H w k v new arr ∧ K new := by
  unfold srcOf at h
  split at h
  · obtain ⟨hu, hK⟩ := h
    cases hx with
    | sl _ _ a cap b off us ha hc hr hl ht =>
    exact ⟨_, _, src_cells hu rfl ha fun j hj => ⟨(hc j hj).1, (hc j hj).2.1, hr j hj⟩, hK⟩
  · rename_i s
    obtain ⟨rfl, hK⟩ := h
    cases hx
    rename_i bs hbs
    refine ⟨_, bs.data.map fun b => .int .u8 b.toNat, ⟨bytes_row s bs.data hbs, fun w' => ?_, fun w' n hw hn => ?_⟩, hK⟩
    · simp [Builtin.lenOf, ← hbs]
    · simp only [Builtin.firstCells, Sem.run_pure, Nat.mul_one]
      congr 1
      apply Array.ext'
      simp [ByteArray.data_extract, Array.toList_extract]
  · rename_i id off len j
    obtain ⟨rfl, h⟩ := h
    unfold cellsAt at h
    split at h
    · rename_i cs hcs
      obtain ⟨h1, hK⟩ := h
      cases hx with
      | ms _ _ _ _ a cap hid ha hl hs =>
      obtain ⟨-, -, arr, ty, fr, a1, a2, a3, a4⟩ := hrel.live id _ hcs
      refine ⟨_, _, src_cells (b := C.β id) (off := off) (us := fun i => arr.getD (off + i) default) (chunk_unif cs j len off h1) (by simp) (fun hp => ?_) (fun i hi => ?_), hK⟩
      · rw [chunk_flat _ _ _ _ h1] at hp
        refine ha ?_
        rcases Nat.eq_zero_or_pos len with h | h
        · subst h; simp at hp
        · omega
      · rw [chunk_flat _ _ _ _ h1] at hi ⊢
        simp only [List.length_take, List.length_drop] at hi
        refine ⟨cell_of_cells a1 (by omega), (a3 _ (by omega)).1, ?_⟩
        rw [getD_take _ _ _ _ (by omega), getD_drop]
        exact (a3 _ (by omega)).2
    · exact h.elim
  · exact h.elim
end
end Go.Abs

/-
  append, continued.
-/
namespace Go.Abs
open Go.RowKit
set_option linter.unusedSimpArgs false
set_option linter.unusedVariables false

section
variable {P : Program} {C C' : Cx} {H H' : Heap} {w w' : World}

theorem appT_some {t : TypeId} (h : appT P t = true) : ∃ d, P.underlying t = some d ∧ ∀ k, d ≠ .int k := by
  unfold appT at h
  split at h
  · rename_i e hd
    obtain ⟨d, d1, d2⟩ := descOf_eq hd (by simp)
    have := (td_plain d2).2.2.2.1 _ rfl
    subst this
    exact ⟨_, d1, by simp⟩
  · rename_i hd
    exact ⟨_, desc_string hd, by simp⟩
  · cases h

/-- append in the room that there is. -/
theorem append_in {t t' ty et : TypeId} {e : TI} (ht : P.underlying t = some (.slice et)) (he : ti P et = some e) {d : TypeDesc} (hd : P.underlying t' = some d) (hdi : ∀ k, d ≠ .int k) {a : Option Addr} {n cap : Nat} {x : Value} {new : List (List AV)} {arr : Array Value}
    (hs : Src P C H w e.size x new arr) (hroom : n + new.length ≤ cap) {w1 : World} (hst : ∀ ad, a = some ad → (storeCells (ad.add (n * e.size)) arr.toList).run P w = .ok () w1) (hn : a = none → w1 = w) :
    (Builtin.append_ #[t, t'] ty #[.slice a n cap, x]).run P w = .ok (.slice a (n + new.length) cap) w1 := by
  have hall := hs.all w rfl
  unfold Builtin.append_
  simp only [List.getElem?_toArray, List.getElem?_cons_succ, List.getElem?_cons_zero]
  simp only [Sem.run_bind, run_underlying ht, Result.andThen_ok, run_size he, run_underlying hd, Sem.run_pure]
  cases d <;> first | exact absurd rfl (hdi _) | skip
  all_goals
    simp [hs.len, hroom, hall]
    cases a with
    | none => simp [hn rfl]
    | some ad => simp [hst ad rfl]

/-- append into a new block. -/
theorem append_grow {t t' ty et : TypeId} {e : TI} (ht : P.underlying t = some (.slice et)) (he : ti P et = some e) {z : Value} (hz : ∀ w' : World, (zeroValue et).run P w' = .ok z w') {d : TypeDesc} (hd : P.underlying t' = some d) (hdi : ∀ k, d ≠ .int k)
    {a : Option Addr} {n cap : Nat} {x : Value} {new old : List (List AV)} {arr arr0 : Array Value}
    (hs : Src P C H w e.size x new arr) (h0 : Src P C H w e.size (.slice a n cap) old arr0) (hn : old.length = n) (hroom : cap < n + new.length) (hb : (n + new.length) * e.bytes ≤ 140737488355328) (hl : n + new.length ≤ 4611686018427387904) :
    (Builtin.append_ #[t, t'] ty #[.slice a n cap, x]).run P w = .ok (.slice (some ⟨w.heap.size, 0, none⟩) (n + new.length) (grownCap w (n + new.length) cap et))
      (w.drew.alloc (.cells (arr0 ++ arr ++ Builtin.zeroCells z.cells (grownCap w (n + new.length) cap et - (n + new.length))) et)) := by
  have hall := hs.all w.drew rfl
  have hold := h0.all w.drew rfl
  rw [hn] at hold
  obtain ⟨info, de, i1, i2, -, i3, -⟩ := ti_desc he
  have hby : (typeInfo et).run P w = .ok info w := by simp [typeInfo, i1]
  have hby' : ∀ w' : World, (typeInfo et).run P w' = .ok info w' := fun w' => by simp [typeInfo, i1]
  have hbytes : info.bytes = e.bytes := by
    obtain ⟨info', de', j1, j2, j3, j4, j5, -⟩ := ti_desc he
    rw [i1] at j1; injection j1 with j1; subst j1
    exact j5.symm
  have hfit := growslice_fits (need := n + new.length) (old := cap) (bytes := e.bytes) hroom hb
  have h48 : ¬ (281474976710656 < Builtin.nextslicecap (n + new.length) cap * info.bytes) := by rw [hbytes]; omega
  have hnr : ¬ (n + new.length ≤ cap) := by omega
  have h63 : ¬ (9223372036854775807 < ((n : Int) + (new.length : Int))) := by omega
  unfold Builtin.append_
  simp only [List.getElem?_toArray, List.getElem?_cons_succ, List.getElem?_cons_zero]
  simp only [Sem.run_bind, run_underlying ht, Result.andThen_ok, run_size he, run_underlying hd, Sem.run_pure]
  cases d <;> first | exact absurd rfl (hdi _) | skip
  all_goals
    simp [hs.len, hnr, h63, h48, hby, hby', hall, hold, hz, Question.forced, newRow, grownCap]
end
end Go.Abs

/-
  append: what it does.
-/
namespace Go.Abs
open Go.RowKit
set_option linter.unusedSimpArgs false
set_option linter.unusedVariables false

section
variable {P : Program} {C C' : Cx} {H H' : Heap} {w w' : World}

/-- What is not needed is forgotten. -/
def Heap.Sub (H H' : Heap) : Prop := ∀ id o, H id = some o → H' id = some o
theorem Le.forget (hrel : Rel P C H w) {H2 : Heap} (hs : H2.Sub H) : Le C H w C H2 w ∧ Rel P C H2 w := by
  have hle : Le C H w C H2 w := ⟨Nat.le_refl _, fun _ _ => rfl, rfl, fun _ _ h => h, fun b off h => ⟨⟨h.1, fun ⟨id, o, h1, h2, h3⟩ => h.2 ⟨id, o, hs id o h1, h2, h3⟩⟩, rfl⟩, Below.refl _ _⟩
  exact ⟨hle, fun id o h => by
    obtain ⟨h1, h2, h3⟩ := hrel.live id o (hs id o h)
    exact ⟨h1, h2, h3.mono hle rfl⟩, fun i j oi oj hi hj => hrel.inj i j oi oj (hs i oi hi) (hs j oj hj), hrel.base, hrel.tab.le hle⟩
theorem Heap.del_sub (H : Heap) (id : Nat) : (H.del id).Sub H := fun i o h => by
  unfold Heap.del at h
  split at h
  · cases h
  · exact h

theorem Le.drew (hrel : Rel P C H w) : Le C H w C H w.drew ∧ Rel P C H w.drew := by
  have hle : Le C H w C H w.drew := ⟨Nat.le_refl _, fun _ _ => rfl, rfl, fun _ _ h => h, fun b off h => ⟨h, rfl⟩, (Below.refl _ _).drew⟩
  exact ⟨hle, fun id o h => by
    obtain ⟨h1, h2, h3⟩ := hrel.live id o h
    exact ⟨h1, h2, h3.mono hle rfl⟩, hrel.inj, hrel.base, hrel.tab.le hle⟩

/-- A live object hands its block over to a new one. -/
theorem Le.move (hrel : Rel P C H w) {id : Nat} {old x : AObj} (ho : H id = some old) {o : Obj} (hold : ∀ off, ¬ old.owns off → (setBlk w (C.β id) o).cell? ⟨C.β id, off, none⟩ = w.cell? ⟨C.β id, off, none⟩ ∧ ¬ x.owns off)
    (hs : ∀ s, w.shape? (C.β id) = some s → (setBlk w (C.β id) o).shape? (C.β id) = some s)
    (hx : ∀ C' H' w', Le C H w C' H' w' → w'.heap[C.β id]? = some o → ObjOK C' H' w' (C.β id) x) :
    Le C H w (C.new (C.β id)) ((H.del id).put C.n x) (setBlk w (C.β id) o) ∧ Rel P (C.new (C.β id)) ((H.del id).put C.n x) (setBlk w (C.β id) o) := by
  obtain ⟨hid, hbase, hok⟩ := hrel.live id old ho
  have hlt := hok.lt
  have put_cases : ∀ k y, ((H.del id).put C.n x) k = some y → (k = C.n ∧ y = x) ∨ (k ≠ C.n ∧ k ≠ id ∧ H k = some y) := fun k y hy => by
    unfold Heap.put Heap.del at hy
    by_cases he : k = C.n
    · rw [if_pos he] at hy; injection hy with hy; exact .inl ⟨he, hy.symm⟩
    · rw [if_neg he] at hy
      by_cases hi : k = id
      · rw [if_pos hi] at hy; cases hy
      · rw [if_neg hi] at hy; exact .inr ⟨he, hi, hy⟩
  have hle : Le C H w (C.new (C.β id)) ((H.del id).put C.n x) (setBlk w (C.β id) o) := by
    refine ⟨by simp [Cx.new], fun k hk => C.new_old _ hk, rfl, fun b s h => ?_, fun b off h => ?_, ⟨rfl, rfl, rfl, by rw [setBlk_size]; exact Nat.le_refl _, fun k hk => setBlk_ne (by omega)⟩⟩
    · by_cases hb : b = C.β id
      · subst hb; exact hs s h
      · unfold World.shape? at *; rw [setBlk_ne hb]; exact h
    · by_cases hb : b = C.β id
      · subst hb
        have hno : ¬ old.owns off := fun hown => h.2 ⟨id, old, ho, rfl, hown⟩
        obtain ⟨h2, h3⟩ := hold off hno
        refine ⟨⟨by rw [setBlk_size]; exact h.1, ?_⟩, h2⟩
        rintro ⟨k, y, hy, hk, hown⟩
        rcases put_cases k y hy with ⟨rfl, rfl⟩ | ⟨k1, k2, k3⟩
        · exact h3 hown
        · rw [C.new_old _ (hrel.live k y k3).1] at hk; exact h.2 ⟨k, y, k3, hk, hown⟩
      · refine ⟨⟨by rw [setBlk_size]; exact h.1, ?_⟩, ?_⟩
        · rintro ⟨k, y, hy, hk, hown⟩
          rcases put_cases k y hy with ⟨rfl, rfl⟩ | ⟨k1, k2, k3⟩
          · rw [C.new_self] at hk; exact hb hk.symm
          · rw [C.new_old _ (hrel.live k y k3).1] at hk; exact h.2 ⟨k, y, k3, hk, hown⟩
        · unfold World.cell?; rw [setBlk_ne hb]
  have ne : ∀ k y, H k = some y → k ≠ id → C.β k ≠ C.β id := fun k y hk hne e => hne (hrel.inj k id y old hk ho e)
  refine ⟨hle, fun k y hy => ?_, fun i j oi oj hi hj hij => ?_, by rw [setBlk_size]; exact hrel.base, hrel.tab.le hle⟩
  · rcases put_cases k y hy with ⟨rfl, rfl⟩ | ⟨k1, k2, k3⟩
    · rw [C.new_self]; exact ⟨by simp [Cx.new], hbase, hx _ _ _ hle (setBlk_self hlt)⟩
    · obtain ⟨h1, h2, h3⟩ := hrel.live k y k3
      rw [C.new_old _ h1]
      exact ⟨by simp [Cx.new]; omega, h2, h3.mono hle (setBlk_ne (ne k y k3 k2))⟩
  · rcases put_cases i oi hi with ⟨rfl, rfl⟩ | ⟨i1, i2, i3⟩
    · rcases put_cases j oj hj with ⟨rfl, rfl⟩ | ⟨j1, j2, j3⟩
      · rfl
      · rw [C.new_self, C.new_old _ (hrel.live j oj j3).1] at hij; exact absurd hij.symm (ne j oj j3 j2)
    · rcases put_cases j oj hj with ⟨rfl, rfl⟩ | ⟨j1, j2, j3⟩
      · rw [C.new_self, C.new_old _ (hrel.live i oi i3).1] at hij; exact absurd hij (ne i oi i3 i2)
      · rw [C.new_old _ (hrel.live i oi i3).1, C.new_old _ (hrel.live j oj j3).1] at hij
        exact hrel.inj i j oi oj i3 j3 hij

theorem tail_ro (hrel : Rel P C H w) {id m off : Nat} (h : H id = some (.tail m)) (ho : off < m) : RO C H w (C.β id) off := by
  refine ⟨(hrel.live id _ h).2.2.lt, ?_⟩
  rintro ⟨k, o, h1, h2, h3⟩
  have := hrel.inj k id o _ h1 h h2
  subst this
  rw [h] at h1
  injection h1 with h1
  subst h1
  simp only [AObj.owns] at h3
  omega

/-- A slice whose room belongs to a token. -/
theorem sl_of_tail (hrel : Rel P C H w) {id k cap : Nat} {es : List (List AV)} (hu : Unif k es) (h : H id = some (.tail (es.length * k))) {arr : Array Value} {ty : TypeId} {fr : Nat × Nat} (hb : w.heap[C.β id]? = some (.cells arr ty fr))
    (hc : ∀ j, j < es.flatten.length → oneV (arr.getD j default) = true ∧ Repr C H w (es.flatten.getD j .junk) (arr.getD j default)) (hcap : es.length ≤ cap) (hsz : cap * k ≤ arr.size) {tyo : Option TypeId} (hty : ∀ u, tyo = some u → ty = u) :
    Repr C H w (.sl es (.tok id k tyo)) (.slice (some ⟨C.β id, 0, none⟩) es.length cap) := by
  have hl := flatten_len hu
  have hle : es.length * k ≤ cap * k := Nat.mul_le_mul_right _ hcap
  refine .sl es _ _ _ (C.β id) 0 (fun j => arr.getD j default) (fun _ => rfl) (fun j hj => ?_) (fun j hj => (hc j hj).2) hcap ⟨(hrel.live id _ h).1, rfl, ty, arr.size, by simp [World.shape?, hb], hsz, hty, (hrel.live id _ h).2.1⟩
  rw [Nat.zero_add]
  exact ⟨cell_of_cells hb (by omega), (hc j hj).1, tail_ro hrel h (by omega)⟩

theorem setBlk_cell_lt {b off o : Nat} {arr : Array Value} {vs : List Value} {ty : TypeId} {fr : Nat × Nat} (h : w.heap[b]? = some (.cells arr ty fr)) (hl : o + vs.length ≤ arr.size) (ho : off < o) :
    (setBlk w b (.cells (writeArr arr o vs) ty fr)).cell? ⟨b, off, none⟩ = w.cell? ⟨b, off, none⟩ := by
  have hb : b < w.heap.size := (Array.getElem?_eq_some_iff.1 h).1
  have h1 := writeArr_get arr o vs hl off
  rw [if_neg (by omega)] at h1
  have e1 : off < arr.size := by omega
  rw [cell_of_cells h e1, cell_of_cells (setBlk_self hb) (by rw [writeArr_size]; exact e1), h1]

theorem setBlk_shape {b o : Nat} {arr : Array Value} {vs : List Value} {ty : TypeId} {fr : Nat × Nat} (h : w.heap[b]? = some (.cells arr ty fr)) (s : TypeId × Nat) (hs : w.shape? b = some s) :
    (setBlk w b (.cells (writeArr arr o vs) ty fr)).shape? b = some s := by
  have hb : b < w.heap.size := (Array.getElem?_eq_some_iff.1 h).1
  unfold World.shape? at hs ⊢
  rw [h] at hs; rw [setBlk_self hb]; simpa [writeArr_size] using hs

theorem append_cells {as bs : List AV} {xs ys : Array Value} (h1 : CellsOK C H w as xs) (h2 : CellsOK C H w bs ys) (zs : Array Value) :
    ∀ j, j < (as ++ bs).length → oneV ((xs ++ ys ++ zs).getD j default) = true ∧ Repr C H w ((as ++ bs).getD j .junk) ((xs ++ ys ++ zs).getD j default) := by
  intro j hj
  rw [List.length_append] at hj
  have s1 := h1.1
  have s2 := h2.1
  by_cases hlt : j < as.length
  · have e1 : (as ++ bs).getD j .junk = as.getD j .junk := by simp [List.getD, List.getElem?_append_left hlt]
    have e2 : (xs ++ ys ++ zs).getD j default = xs.getD j default := by
      simp only [Array.getD_eq_getD_getElem?]
      rw [Array.getElem?_append_left (by simp; omega), Array.getElem?_append_left (by omega)]
    rw [e1, e2]; exact h1.2 j hlt
  · have e1 : (as ++ bs).getD j .junk = bs.getD (j - as.length) .junk := by simp [List.getD, List.getElem?_append_right (Nat.le_of_not_lt hlt)]
    have e2 : (xs ++ ys ++ zs).getD j default = ys.getD (j - as.length) default := by
      simp only [Array.getD_eq_getD_getElem?]
      rw [Array.getElem?_append_left (by simp; omega), Array.getElem?_append_right (by omega), s1]
    rw [e1, e2]; exact h2.2 _ (by omega)

theorem zeroCells_size (z : Array Value) (n : Nat) : (Builtin.zeroCells z n).size = n * z.size := by simp [Builtin.zeroCells]
end
end Go.Abs

/-
  append: what it does, all cases.
-/
namespace Go.Abs
open Go.RowKit
set_option linter.unusedSimpArgs false
set_option linter.unusedVariables false

section
variable {P : Program} {C C' : Cx} {H H' : Heap} {w w' : World}

theorem Unif.append {k : Nat} {as bs : List (List AV)} (h1 : Unif k as) (h2 : Unif k bs) : Unif k (as ++ bs) := fun e he => by
  rcases List.mem_append.1 he with h | h
  · exact h1 e h
  · exact h2 e h

theorem setBlk_same {b : Nat} {o : Obj} (h : w.heap[b]? = some o) : setBlk w b o = w := by
  have hb : b < w.heap.size := (Array.getElem?_eq_some_iff.1 h).1
  unfold setBlk
  have e : w.heap.setIfInBounds b o = w.heap := by
    apply Array.ext_getElem?
    intro k
    by_cases hk : b = k
    · subst hk; rw [h]; simp [hb]
    · rw [Array.getElem?_setIfInBounds_ne hk]
  rw [e]
/-- The new block of an append. -/
theorem append_new (hrel : Rel P C H w) {t t' ty et : TypeId} {e : TI} (ht : P.underlying t = some (.slice et)) (he : ti P et = some e) (hz : e.zero.isVal = true) (hzl : e.zero.cells.length = e.size) {d : TypeDesc} (hd : P.underlying t' = some d) (hdi : ∀ k, d ≠ .int k)
    {a : Option Addr} {n cap : Nat} {x : Value} {new old : List (List AV)} {arr arr0 : Array Value}
    (hs : Src P C H w e.size x new arr) (h0 : Src P C H w e.size (.slice a n cap) old arr0) (hn : old.length = n) (hroom : cap < n + new.length) (hb : (n + new.length) * e.bytes ≤ 140737488355328) (hl : n + new.length ≤ 4611686018427387904)
    {H2 : Heap} (hsub : H2.Sub H) {tyo : Option TypeId} (hty : ∀ u, tyo = some u → et = u) :
    (∀ {K : K1}, (newId H fun id => K (.sl (old ++ new) (.tok id e.size tyo)) (H2.put id (.tail ((n + new.length) * e.size)))) → Does P C H w K (Builtin.append_ #[t, t'] ty #[.slice a n cap, x])) ∧
    (∀ {K : K1}, (newId H fun id => K (.ms id 0 (n + new.length) e.size) (H2.put id (.cells (old ++ new).flatten))) → Does P C H w K (Builtin.append_ #[t, t'] ty #[.slice a n cap, x])) := by
  obtain ⟨z, z1, z2⟩ := zero_run (P := P) (C := C) (H := H) (w := w) he (by intro e; rw [e] at hz; simp [AV.isVal] at hz)
  have hrun := append_grow (ty := ty) ht he z1 hd hdi hs h0 hn hroom hb hl
  have hge := grownCap_ge w (n + new.length) cap et
  generalize grownCap w (n + new.length) cap et = g at hrun hge
  have hzs : z.cells.size = e.size := by rw [(cells_val z2 hz).1, hzl]
  obtain ⟨f1, f2⟩ := Le.forget hrel hsub
  obtain ⟨d1, d2⟩ := Le.drew f2
  have hle0 := f1.trans d1
  have hsz : (arr0 ++ arr ++ Builtin.zeroCells z.cells (g - (n + new.length))).size = g * e.size := by
    have s1 : arr0.size = n * e.size := by rw [← h0.row.2.1, flatten_len h0.row.1, hn]
    have s2 : arr.size = new.length * e.size := by rw [← hs.row.2.1, flatten_len hs.row.1]
    simp only [Array.size_append, zeroCells_size, s1, s2, hzs, ← Nat.add_mul]
    congr 1; omega
  have hu : Unif e.size (old ++ new) := h0.row.1.append hs.row.1
  have hlen : (old ++ new).length = n + new.length := by rw [List.length_append, hn]
  have hfl : (old ++ new).flatten.length = (n + new.length) * e.size := by rw [flatten_len hu, hlen]
  have hcells : ∀ C' H' w', Le C H w C' H' w' → ∀ j, j < (old ++ new).flatten.length → oneV ((arr0 ++ arr ++ Builtin.zeroCells z.cells (g - (n + new.length))).getD j default) = true ∧
      Repr C' H' w' ((old ++ new).flatten.getD j .junk) ((arr0 ++ arr ++ Builtin.zeroCells z.cells (g - (n + new.length))).getD j default) := fun C' H' w' hle => by
    rw [List.flatten_append]
    exact append_cells (h0.row.2.mono hle) (hs.row.2.mono hle) _
  have hmul : (n + new.length) * e.size ≤ g * e.size := Nat.mul_le_mul_right _ hge
  refine ⟨fun {K} hK => ?_, fun {K} hK => ?_⟩
  · obtain ⟨g1, g2⟩ := Le.alloc_own d2 (.cells (arr0 ++ arr ++ Builtin.zeroCells z.cells (g - (n + new.length))) et) (.tail ((n + new.length) * e.size)) (fun C' H' w' _ hb => ⟨_, _, _, hb, by rw [hsz]; exact hmul, .inl rfl⟩)
    have hle := hle0.trans g1
    have hsl := sl_of_tail (id := C.n) (cap := g) g2 hu (by rw [hlen]; simp [Heap.put]) (by rw [C.new_self]; exact heap_alloc_new w.drew _) (hcells _ _ _ hle) (by rw [hlen]; exact hge) (by rw [hsz]; exact Nat.le_refl _) hty
    rw [C.new_self, hlen] at hsl
    exact ⟨_, _, _, _, _, hrun, g2, hle, hsl, hK _ (hrel.fresh (Nat.le_refl _))⟩
  · obtain ⟨g1, g2⟩ := Le.alloc_own d2 (.cells (arr0 ++ arr ++ Builtin.zeroCells z.cells (g - (n + new.length))) et) (.cells (old ++ new).flatten) (fun C' H' w' hle hb =>
      ⟨_, _, _, hb, by rw [hfl, hsz]; exact hmul, hcells _ _ _ (hle0.trans hle), fun o _ _ => by simp⟩)
    have hle := hle0.trans g1
    refine ⟨_, _, _, _, .ms C.n 0 (n + new.length) e.size, hrun, g2, hle, ?_, hK _ (hrel.fresh (Nat.le_refl _))⟩
    refine .ms _ _ _ _ _ _ (by simp [Cx.new]) (fun _ => by rw [C.new_self]; rfl) hge ⟨et, g * e.size, ?_, by omega⟩
    rw [C.new_self]
    have := heap_alloc_new w.drew (.cells (arr0 ++ arr ++ Builtin.zeroCells z.cells (g - (n + new.length))) et)
    simp only [World.shape?]
    rw [this]
    show some (et, _) = _
    rw [hsz]

theorem elemT_some {t et : TypeId} (ht : P.underlying t = some (.slice et)) : ∀ u, elemT P t = some u → et = u := by
  intro u hu
  unfold elemT at hu
  split at hu
  · rename_i v hv
    cases hu
    obtain ⟨d, h1, h2⟩ := descOf_eq hv (by simp)
    have := (td_plain h2).2.2.2.1 _ rfl
    subst this
    rw [ht] at h1
    cases h1
    rfl
  · cases hu
theorem tokT_elem {t et : TypeId} {ty : Option TypeId} (ht : P.underlying t = some (.slice et)) : ∀ u, tokT P t ty = some u → et = u := by
  intro u hu
  unfold tokT at hu
  split at hu
  · rename_i he; rw [he] at hu; exact elemT_some ht u hu
  · cases hu
theorem tokT_type {t ty0 : TypeId} {ty : Option TypeId} (h : ∀ u, ty = some u → ty0 = u) : ∀ u, tokT P t ty = some u → ty0 = u := by
  intro u hu
  unfold tokT at hu
  split at hu
  · exact h u hu
  · cases hu
theorem append_sound (hrel : Rel P C H w) {ms : Bool} {t t' ty : TypeId} {s x : AV} {u v : Value} (hs : Repr C H w s u) (hx : Repr C H w x v) {K : K1} (ht' : appT P t' = true) (h : aAppend P ms t s x H K) :
    Does P C H w K (Builtin.append_ #[t, t'] ty #[u, v]) := by
  obtain ⟨d, hd, hdi⟩ := appT_some ht'
  unfold aAppend at h
  split at h
  · rename_i e he
    obtain ⟨et, u1, u2⟩ := sliceE_some he
    obtain ⟨h1, h2, h3, h4⟩ := h
    obtain ⟨new, arr, src, h5⟩ := src_sound (P := P) hrel hx h4
    have hsz : arr.toList.length = new.length * e.size := by rw [Array.length_toList, ← src.row.2.1, flatten_len src.row.1]
    split at h5
    · rename_i es id k tyo
      obtain ⟨rfl, c2, c3, c4, c5, hK⟩ := h5
      cases hs with
      | sl _ _ a cap b off us ha hc hr hl ht =>
      obtain ⟨t1, t2, ty0, sz0, t3, t4, t5, t6⟩ := ht
      subst t2
      obtain ⟨-, hbase, arr1, ty1, fr, a1, a3, a2⟩ := hrel.live id _ c3
      have hsh : ty0 = ty1 ∧ sz0 = arr1.size := by
        simp only [World.shape?, a1, Option.some.injEq, Prod.mk.injEq] at t3
        exact ⟨t3.1.symm, t3.2.symm⟩
      obtain ⟨rfl, rfl⟩ := hsh
      have hfl := flatten_len c2
      by_cases hroom : es.length + new.length ≤ cap
      · have hfit : es.length * e.size + arr.toList.length ≤ arr1.size := by
          rw [hsz, ← Nat.add_mul]; exact Nat.le_trans (Nat.mul_le_mul_right _ hroom) t4
        have hst := storeCells_run (P := P) (C.β id) (es.length * e.size) ty0 fr arr.toList 0 w arr1 a1 (by omega) (fun o q1 q2 => a2.unfz arr1.size o (by omega) (by omega)) src.row.2.one_mem
        simp only [Nat.add_zero] at hst
        have hrun := append_in (ty := ty) u1 u2 hd hdi src (a := some ⟨C.β id, 0, none⟩) (n := es.length) (cap := cap) hroom (w1 := setBlk w (C.β id) (.cells (writeArr arr1 (es.length * e.size) arr.toList) ty0 fr))
          (fun ad had => by injection had with had; subst had; rw [add_none, Nat.zero_add]; exact hst) (by simp)
        have hmul : (es.length + new.length) * e.size = es.length * e.size + new.length * e.size := Nat.add_mul ..
        obtain ⟨m1, m2⟩ := Le.move hrel c3 (x := .tail ((es.length + new.length) * e.size)) (o := .cells (writeArr arr1 (es.length * e.size) arr.toList) ty0 fr)
          (fun off hno => by
            simp only [AObj.owns] at hno ⊢
            exact ⟨setBlk_cell_lt a1 hfit (by omega), by omega⟩)
          (fun s hs => setBlk_shape a1 s hs)
          (fun C' H' w' _ hb => ⟨_, _, _, hb, by rw [writeArr_size, hmul, ← hsz]; exact hfit, a2.mono (by omega)⟩)
        have hu : Unif e.size (es ++ new) := c2.append src.row.1
        have hsl := sl_of_tail (cap := cap) (es := es ++ new) (k := e.size) (id := C.n) m2 hu (by simp [Heap.put]) (by rw [C.new_self]; exact setBlk_self (Array.getElem?_eq_some_iff.1 a1).1)
          (fun j hj => by
            rw [List.flatten_append] at hj ⊢
            rw [List.length_append, hfl, flatten_len src.row.1] at hj
            rw [writeArr_get _ _ _ hfit]
            by_cases hlt : j < es.length * e.size
            · rw [if_neg (by omega)]
              obtain ⟨q1, q2, q3⟩ := hc j (by omega)
              have := ha (by omega)
              injection this with this
              injection this with this this2
              subst this this2
              rw [Nat.zero_add, cell_of_cells a1 (by omega)] at q1
              injection q1 with q1
              rw [q1]
              refine ⟨q2, ?_⟩
              have : (es.flatten ++ new.flatten).getD j .junk = es.flatten.getD j .junk := by simp [List.getD, List.getElem?_append_left (show j < es.flatten.length by omega)]
              rw [this]
              exact (hr j (by omega)).mono m1
            · rw [if_pos (by omega)]
              have e1 : (es.flatten ++ new.flatten).getD j .junk = new.flatten.getD (j - es.length * e.size) .junk := by simp [List.getD, List.getElem?_append_right (show es.flatten.length ≤ j by omega), hfl]
              have e2 : arr.toList.getD (j - es.length * e.size) default = arr.getD (j - es.length * e.size) default := by simp [List.getD, Array.getD_eq_getD_getElem?]
              rw [e1, e2]
              have := src.row.2.2 (j - es.length * e.size) (by rw [flatten_len src.row.1]; omega)
              exact ⟨this.1, this.2.mono m1⟩) (by simpa using hroom) (by rw [writeArr_size]; exact t4) (tyo := tokT P t tyo) (tokT_type t5)
        rw [C.new_self] at hsl
        simp only [List.length_append] at hsl
        exact ⟨_, _, _, _, _, hrun, m2, m1, hsl, hK _ (hrel.fresh (Nat.le_refl _))⟩
      · have h0 := src_cells (P := P) (C := C) (H := H) (w := w) (k := e.size) (n := es.length) (cap := cap) c2 rfl ha (fun j hj => ⟨(hc j hj).1, (hc j hj).2.1, hr j hj⟩)
        exact (append_new hrel u1 u2 h2 h3 hd hdi src h0 rfl (by omega) c4 c5 (Heap.del_sub H id) (tokT_elem u1)).1 hK
    · rename_i es
      cases hs with
      | sl _ _ a cap b off us ha hc hr hl ht =>
      simp only [TailOK] at ht
      subst ht
      by_cases hnew : new = []
      · subst hnew
        have harr : arr = #[] := by
          have := hsz; simp at this; exact this
        subst harr
        have hrun := append_in (ty := ty) u1 u2 hd hdi src (a := a) (n := es.length) (cap := es.length) (by simp) (w1 := w) (fun ad _ => rfl) (fun _ => rfl)
        exact .same hrel hrun (.sl es .exact a es.length b off us ha hc hr hl rfl) (h5.1 rfl)
      · obtain ⟨c2, c4, c5, hK⟩ := h5.2 hnew
        have hpos : 0 < new.length := List.length_pos_iff.2 hnew
        have h0 := src_cells (P := P) (C := C) (H := H) (w := w) (k := e.size) (n := es.length) (cap := es.length) c2 rfl ha (fun j hj => ⟨(hc j hj).1, (hc j hj).2.1, hr j hj⟩)
        obtain ⟨n1, n2⟩ := append_new (ty := ty) hrel u1 u2 h2 h3 hd hdi src h0 rfl (by omega) c4 c5 (H2 := H) (fun _ _ h => h) (elemT_some u1)
        cases ms with
        | true => exact n2 (fun id hid => by have := hK id hid; simpa using this)
        | false => exact n1 (fun id hid => by have := hK id hid; simpa using this)
    · rename_i es
      cases hs with
      | sl _ _ a cap b off us ha hc hr hl ht =>
      have ht0 := ht
      simp only [TailOK] at ht
      have ht := ht.1
      subst ht
      by_cases hnew : new = []
      · subst hnew
        have harr : arr = #[] := by
          have := hsz; simp at this; exact this
        subst harr
        have hrun := append_in (ty := ty) u1 u2 hd hdi src (a := a) (n := es.length) (cap := es.length) (by simp) (w1 := w) (fun ad _ => rfl) (fun _ => rfl)
        exact .same hrel hrun (.sl es .lit a es.length b off us ha hc hr hl ht0) (h5.1 rfl)
      · obtain ⟨c2, c4, c5, hK⟩ := h5.2 hnew
        have hpos : 0 < new.length := List.length_pos_iff.2 hnew
        have h0 := src_cells (P := P) (C := C) (H := H) (w := w) (k := e.size) (n := es.length) (cap := es.length) c2 rfl ha (fun j hj => ⟨(hc j hj).1, (hc j hj).2.1, hr j hj⟩)
        exact (append_new (ty := ty) hrel u1 u2 h2 h3 hd hdi src h0 rfl (by omega) c4 c5 (H2 := H) (fun _ _ h => h) (elemT_some u1)).1 hK
    · cases hs
      by_cases hnew : new = []
      · subst hnew
        have harr : arr = #[] := by
          have := hsz; simp at this; exact this
        subst harr
        have hrun := append_in (ty := ty) u1 u2 hd hdi src (a := none) (n := 0) (cap := 0) (by simp) (w1 := w) (fun ad _ => rfl) (fun _ => rfl)
        exact .same hrel hrun .snil (h5.1 rfl)
      · obtain ⟨c4, c5, hK⟩ := h5.2 hnew
        have hpos : 0 < new.length := List.length_pos_iff.2 hnew
        have h0 := src_cells (P := P) (C := C) (H := H) (w := w) (k := e.size) (n := 0) (cap := 0) (es := []) (a := none) (b := 0) (off := 0) (us := fun _ => default) (fun _ h => by simp at h) rfl (fun h => by simp at h) (fun j hj => by simp at hj)
        have := (append_new (ty := ty) hrel u1 u2 h2 h3 hd hdi src h0 rfl (by omega) (by simpa using c4) (by simpa using c5) (H2 := H) (fun _ _ h => h) (elemT_some u1)).1 (K := K)
        simp only [List.nil_append, Nat.zero_add] at this
        exact this hK
    · rename_i id off len k
      obtain ⟨rfl, rfl, c4, c5, h6⟩ := h5
      unfold cellsAt at h6
      split at h6
      · rename_i cs hcs
        obtain ⟨c6, hK⟩ := h6
        cases hs with
        | ms _ _ _ _ a cap hid ha hl hsh =>
        obtain ⟨ty0, sz0, t3, t4⟩ := hsh
        obtain ⟨-, hbase, arr1, ty1, fr, a1, a2, a3, a4⟩ := hrel.live id _ hcs
        have hsh : ty0 = ty1 ∧ sz0 = arr1.size := by
          simp only [World.shape?, a1, Option.some.injEq, Prod.mk.injEq] at t3
          exact ⟨t3.1.symm, t3.2.symm⟩
        obtain ⟨rfl, rfl⟩ := hsh
        simp only [Nat.zero_add] at t4
        have hu0 := chunk_unif cs e.size len 0 (by omega)
        have hf0 := chunk_flat cs e.size len 0 (by omega)
        have hf1 : ((List.range len).map fun i => (cs.drop (0 + i * e.size)).take e.size).flatten = cs := by rw [hf0, List.drop_zero, ← c6, List.take_length]
        by_cases hroom : len + new.length ≤ cap
        · have hfit : len * e.size + arr.toList.length ≤ arr1.size := by
            rw [hsz, ← Nat.add_mul]; exact Nat.le_trans (Nat.mul_le_mul_right _ hroom) t4
          have hst := storeCells_run (P := P) (C.β id) (len * e.size) ty0 fr arr.toList 0 w arr1 a1 (by omega) (fun o q1 q2 => a4 o (Nat.zero_le _) (by omega)) src.row.2.one_mem
          simp only [Nat.add_zero] at hst
          have hw1 : a = none → setBlk w (C.β id) (.cells (writeArr arr1 (len * e.size) arr.toList) ty0 fr) = w := fun hn => by
            subst hn
            have hcap : cap = 0 := by
              rcases Nat.eq_zero_or_pos cap with h | h
              · exact h
              · cases ha h
            have hn0 : arr.toList = [] := List.eq_nil_of_length_eq_zero (by rw [hsz, show new.length = 0 by omega, Nat.zero_mul])
            rw [hn0]
            exact setBlk_same a1
          have hrun := append_in (ty := ty) u1 u2 hd hdi src (a := a) (n := len) (cap := cap) hroom (w1 := setBlk w (C.β id) (.cells (writeArr arr1 (len * e.size) arr.toList) ty0 fr))
            (fun ad had => by
              subst had
              by_cases hc0 : 0 < cap
              · have := ha hc0
                injection this with this
                subst this
                rw [add_none, Nat.zero_add]; exact hst
              · have hn0 : arr.toList = [] := List.eq_nil_of_length_eq_zero (by rw [hsz, show new.length = 0 by omega, Nat.zero_mul])
                rw [hn0]
                show Result.ok () w = Result.ok () (setBlk w (C.β id) (.cells arr1 ty0 fr))
                rw [setBlk_same a1]) hw1
          have hmul : (len + new.length) * e.size = len * e.size + new.length * e.size := Nat.add_mul ..
          have hnl : new.flatten.length = new.length * e.size := flatten_len src.row.1
          obtain ⟨m1, m2⟩ := Le.move hrel hcs (x := .cells (cs ++ new.flatten)) (o := .cells (writeArr arr1 (len * e.size) arr.toList) ty0 fr)
            (fun off hno => absurd trivial hno)
            (fun s hs => setBlk_shape a1 s hs)
            (fun C' H' w' hle hb => ⟨_, _, _, hb, by rw [List.length_append, writeArr_size, c6, hnl, ← hmul]; exact Nat.le_trans (Nat.mul_le_mul_right _ hroom) t4, fun j hj => by
              rw [List.length_append, hnl, c6] at hj
              rw [writeArr_get _ _ _ hfit]
              by_cases hlt : j < len * e.size
              · rw [if_neg (by omega)]
                have : (cs ++ new.flatten).getD j .junk = cs.getD j .junk := by simp [List.getD, List.getElem?_append_left (show j < cs.length by omega)]
                rw [this]
                exact ⟨(a3 j (by omega)).1, (a3 j (by omega)).2.mono hle⟩
              · rw [if_pos (by omega)]
                have e1 : (cs ++ new.flatten).getD j .junk = new.flatten.getD (j - len * e.size) .junk := by simp [List.getD, List.getElem?_append_right (show cs.length ≤ j by omega), c6]
                have e2 : arr.toList.getD (j - len * e.size) default = arr.getD (j - len * e.size) default := by simp [List.getD, Array.getD_eq_getD_getElem?]
                rw [e1, e2]
                have := src.row.2.2 (j - len * e.size) (by omega)
                exact ⟨this.1, this.2.mono hle⟩, by rw [writeArr_size]; exact a4⟩)
          refine ⟨_, _, _, _, .ms C.n 0 (len + new.length) e.size, hrun, m2, m1, ?_, hK _ (hrel.fresh (Nat.le_refl _))⟩
          refine .ms _ _ _ _ _ _ (by simp [Cx.new]) (fun hc => by rw [C.new_self]; exact ha hc) hroom ⟨ty0, arr1.size, ?_, by omega⟩
          rw [C.new_self]
          exact setBlk_shape a1 _ (by simp [World.shape?, a1])
        · have h0 : Src P C H w e.size (.slice a len cap) ((List.range len).map fun i => (cs.drop (0 + i * e.size)).take e.size) _ :=
            src_cells (b := C.β id) (off := 0) (us := fun i => arr1.getD (0 + i) default) hu0 (by simp) (fun hp => ha (by
              rw [hf1] at hp
              rcases Nat.eq_zero_or_pos len with h | h
              · subst h; omega
              · omega)) (fun i hi => by
              rw [hf1] at hi ⊢
              refine ⟨cell_of_cells a1 (by omega), ?_⟩
              rw [Nat.zero_add]; exact a3 i hi)
          have := (append_new (ty := ty) hrel u1 u2 h2 h3 hd hdi src h0 (by simp) (by omega) c4 c5 (Heap.del_sub H id) (tyo := none) (fun _ h => by cases h)).2 (K := K)
          rw [List.flatten_append, hf1] at this
          exact this hK
      · exact h6.elim
    · exact h5.elim
  · exact h.elim
end
end Go.Abs
