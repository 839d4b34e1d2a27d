/-
  An abstract machine over pure values, and that it tells what the program does (part 3 of 4).
-/
import Derived.Test.YtnheonhmnepifaaAbs2
import Derived.Lib.ConvBytes

/-
  Maps; copy; make of a slice; between strings and bytes.
-/
namespace Go.Abs
open Go.RowKit
set_option linter.unusedSimpArgs false
set_option linter.unusedVariables false

section
variable {P : Program} {C C' : Cx} {H H' : Heap} {w w' : World}

def kdesc : Option IntKind → TypeDesc
  | none => .string
  | some k => .int k
theorem mapE_some {t : TypeId} {kk : Option IntKind} {e : TI} (h : mapE P t = some (kk, e)) : ∃ kt et, P.underlying t = some (.map kt et) ∧ ti P et = some e ∧
    P.underlying kt = some (kdesc kk) := by
  unfold mapE at h
  split at h
  · rename_i kt et hd
    obtain ⟨d, d1, d2⟩ := descOf_eq hd (by simp)
    have := (td_plain d2).2.2.2.2.2.1 _ _ rfl
    subst this
    split at h
    · rename_i hk
      simp only [Option.map_eq_some_iff, Prod.mk.injEq] at h
      obtain ⟨i, h1, rfl, rfl⟩ := h
      exact ⟨kt, et, d1, h1, desc_string hk⟩
    · rename_i j hk
      simp only [Option.map_eq_some_iff, Prod.mk.injEq] at h
      obtain ⟨i, h1, rfl, rfl⟩ := h
      exact ⟨kt, et, d1, h1, desc_int hk⟩
    · cases h
  · cases h

theorem keyOf_sound {kk : Option IntKind} {x : AV} {v : Value} {key : Key} (h : keyOf kk x = some key) (hx : Repr C H w x v) : keyV kk key v := by
  unfold keyOf at h
  split at h
  · injection h with h; subst h; cases hx; rename_i bs hbs; exact ⟨bs, rfl, hbs⟩
  · split at h
    · rename_i hk; injection h with h; subst h hk; cases hx; rfl
    · cases h
  · cases h

theorem sameNow_ok {kk : Option IntKind} {a b : Key} {u v : Value} (ha : keyV kk a u) (hb : keyV kk b v) :
    Instr.sameNow (kdesc kk) u v = some (decide (a = b)) := by
  cases kk with
  | none =>
    cases a <;> cases b <;> simp only [keyV] at ha hb
    obtain ⟨s, rfl, rfl⟩ := ha
    obtain ⟨s', rfl, rfl⟩ := hb
    simp only [kdesc, Instr.sameNow, Option.some.injEq]
    rw [beq_toListBytes, ByteArray.toList_eq, ByteArray.toList_eq, Bool.eq_iff_iff]
    simp
  | some k =>
    cases a <;> cases b <;> simp only [keyV] at ha hb
    subst ha hb
    simp only [kdesc, Instr.sameNow, if_true, Option.some.injEq]
    rw [Bool.eq_iff_iff]
    simp

/-- The place of a key. -/
def mfind : List (Key × AV) → Key → Option Nat
  | [], _ => none
  | e :: es, k => if e.1 = k then some 0 else (mfind es k).map (· + 1)
theorem mfind_lt {es : List (Key × AV)} {k : Key} {j : Nat} (h : mfind es k = some j) : j < es.length := by
  induction es generalizing j with
  | nil => cases h
  | cons e es ih =>
    simp only [mfind] at h
    split at h
    · injection h with h; subst h; simp
    · simp only [Option.map_eq_some_iff] at h
      obtain ⟨i, hi, rfl⟩ := h
      have := ih hi
      simp; omega
theorem mget_mfind (es : List (Key × AV)) (k : Key) : mget es k = (mfind es k).map fun j => (es.getD j default).2 := by
  induction es with
  | nil => rfl
  | cons e es ih =>
    unfold mget at ih ⊢
    simp only [mfind, List.find?_cons]
    by_cases h : e.1 = k
    · simp [h]
    · simp only [h, decide_false, if_false, ih]
      cases mfind es k <;> rfl
theorem mset_mfind (es : List (Key × AV)) (k : Key) (v : AV) : mset es k v = match mfind es k with | some j => es.set j (k, v) | none => es ++ [(k, v)] := by
  induction es with
  | nil => rfl
  | cons e es ih =>
    simp only [mset, mfind]
    by_cases h : e.1 = k
    · simp [h]
    · simp only [h, if_false, ih]
      cases mfind es k <;> rfl
theorem mdel_mfind (es : List (Key × AV)) (k : Key) : mdel es k = match mfind es k with | some j => es.eraseIdx j | none => es := by
  induction es with
  | nil => rfl
  | cons e es ih =>
    simp only [mdel, mfind]
    by_cases h : e.1 = k
    · simp [h]
    · simp only [h, if_false, ih]
      cases mfind es k <;> rfl

theorem EntriesOK.tail {kk : Option IntKind} {e : Key × AV} {es : List (Key × AV)} {f : MapEntry} {fs : List MapEntry} (h : EntriesOK C H w kk (e :: es) (f :: fs)) :
    (keyV kk e.1 f.key ∧ Repr C H w e.2 f.val) ∧ EntriesOK C H w kk es fs := by
  refine ⟨by have := h.2 0 (by simp); simpa using this, by have := h.1; simpa using this, fun j hj => ?_⟩
  have := h.2 (j + 1) (by simp; omega)
  simpa using this

theorem findNow_ok {kk : Option IntKind} {key : Key} {u : Value} (hk : keyV kk key u) :
    ∀ (es : List (Key × AV)) (fs : List MapEntry) (i : Nat), EntriesOK C H w kk es fs → Instr.findNow (kdesc kk) u fs i = some ((mfind es key).map fun j => (i + j, (fs.getD j default).val)) := by
  intro es
  induction es with
  | nil =>
    intro fs i h
    have : fs = [] := List.eq_nil_of_length_eq_zero h.1.symm
    subst this; rfl
  | cons e es ih =>
    intro fs i h
    cases fs with
    | nil => have := h.1; simp at this
    | cons f fs =>
      obtain ⟨⟨h1, h2⟩, h3⟩ := h.tail
      simp only [Instr.findNow, sameNow_ok hk h1, mfind]
      by_cases he : e.1 = key
      · simp [he]
      · simp only [he, if_false, show ¬ key = e.1 from fun e' => he e'.symm, decide_false, ih fs (i + 1) h3]
        cases mfind es key with
        | none => rfl
        | some j => simp; omega

theorem findKey_ok {kk : Option IntKind} {kt : TypeId} (hd : P.underlying kt = some (kdesc kk)) {key : Key} {u : Value} (hk : keyV kk key u)
    {es : List (Key × AV)} {fs : List MapEntry} (h : EntriesOK C H w kk es fs) (w' : World) : (Instr.findKey kt u fs).run P w' = .ok ((mfind es key).map fun j => (j, (fs.getD j default).val)) w' := by
  have := findNow_ok hk es fs 0 h
  simp only [Nat.zero_add] at this
  simp [Instr.findKey, run_underlying hd, this]

theorem checkKey_n {kk : Option IntKind} {kt : TypeId} (hd : P.underlying kt = some (kdesc kk)) (b : Bool) (v : Value) (w' : World) (n : Nat) : (Instr.checkKey b (n + 1) kt v).run P w' = .ok () w' := by
  simp only [Instr.checkKey, Sem.run_bind, run_underlying hd, Result.andThen_ok]
  cases kk <;> rfl
theorem checkKey_ok {kk : Option IntKind} {kt : TypeId} (hd : P.underlying kt = some (kdesc kk)) (b : Bool) (v : Value) (w' : World) : (Instr.checkKey b 10000 kt v).run P w' = .ok () w' := checkKey_n hd b v w' 9999

theorem getObj_map {b : Nat} {fs : Array MapEntry} {cl : Nat} (h : w.heap[b]? = some (.map fs cl)) : (getObj b).run P w = .ok (.map fs cl) w := by simp [getObj, Sem.run, h]
theorem setObj_map {b : Nat} {fs : Array MapEntry} {cl : Nat} (h : w.heap[b]? = some (.map fs cl)) (o : Obj) : (setObj b o).run P w = .ok () (setBlk w b o) := by simp [setObj, Sem.run, h, setBlk]

theorem lookup_sound (hrel : Rel C H w) {t : TypeId} {m k : AV} {u v : Value} {ok : Bool} (hm : Repr C H w m u) (hk : Repr C H w k v) {K : K1} (h : aLookup P t m k ok H K) : Does P C H w K (Instr.lookup t u v ok) := by
  unfold aLookup at h
  split at h
  · rename_i kt e he
    obtain ⟨kty, et, u1, u2, u3⟩ := mapE_some he
    obtain ⟨hz, h⟩ := h
    obtain ⟨z, z1, z2⟩ := zero_run (P := P) (C := C) (H := H) (w := w) u2 (by intro e; rw [e] at hz; simp [AV.isVal] at hz)
    split at h
    · rename_i id
      unfold mapAt at h
      split at h
      · rename_i kk es hes
        obtain ⟨rfl, h⟩ := h
        unfold keyK at h
        split at h
        · rename_i key hkey
          cases hm with
          | map _ hid =>
          obtain ⟨-, -, fs, cl, a1, a2, a3⟩ := hrel.live id _ hes
          have hkv := keyOf_sound hkey hk
          have hf := findKey_ok (P := P) u3 hkv a2 w
          have hc := checkKey_ok (P := P) u3 fs.isEmpty v w
          rw [mget_mfind] at h
          have hrun : ∀ (x : AV) (r : Value) (b : Bool), Repr C H w x r → (match (mfind es key).map (fun j => (j, (fs.toList.getD j default).val)) with | some (_, y) => (pure (y, true) : Sem (Value × Bool)) | none => do pure (← zeroValue et, false)).run P w = .ok (r, b) w →
              ((if ok then K (.tup [x, .bool b]) H else K x H) → Does P C H w K (Instr.lookup t (.map (some (C.β id))) v ok)) := by
            intro x r b hr he hK
            refine .same (x := if ok then .tup [x, .bool b] else x) (v := if ok then .tuple #[r, .bool b] else r) hrel ?_ ?_ (by cases ok <;> simpa using hK)
            · simp only [Instr.lookup, Sem.run_bind, run_underlying u1, Result.andThen_ok, getObj_map a1, Sem.run_pure, hc, hf]
              clear hrel hr hK
              revert he
              generalize (mfind es key).map (fun j => (j, (fs.toList.getD j default).val)) = fr
              intro he
              cases fr with
              | none =>
                simp only [Sem.run_bind, z1, Result.andThen_ok, Sem.run_pure] at he ⊢
                injection he with he
                injection he with h1 h2
                subst h1 h2; rfl
              | some p =>
                simp only [Sem.run_pure, Sem.run_bind, Result.andThen_ok] at he ⊢
                injection he with he
                injection he with h1 h2
                subst h1 h2; rfl
            · cases ok with
              | false => exact hr
              | true =>
                refine .tup _ _ rfl (fun j hj => ?_)
                have : j = 0 ∨ j = 1 := by simp at hj; omega
                rcases this with rfl | rfl
                · exact hr
                · exact .bool b
          cases hmf : mfind es key with
          | none =>
            rw [hmf] at h hrun
            simp only [Option.map_none, Option.getD_none, Option.isSome_none] at h
            exact hrun e.zero z false z2 (by simp [z1]) h
          | some j =>
            rw [hmf] at h hrun
            simp only [Option.map_some, Option.getD_some, Option.isSome_some] at h
            have hj := mfind_lt hmf
            exact hrun _ _ true (a2.2 j hj).2 (by simp) h
        · exact h.elim
      · exact h.elim
    · cases hm
      have hc := checkKey_ok (P := P) u3 true v w
      have hfn : (Instr.findKey kty v []).run P w = .ok none w := by simp [Instr.findKey, run_underlying u3, Instr.findNow]
      refine .same (x := if ok then .tup [e.zero, .bool false] else e.zero) (v := if ok then .tuple #[z, .bool false] else z) hrel ?_ ?_ (by cases ok <;> simpa using h)
      · simp only [Instr.lookup, Sem.run_bind, run_underlying u1, Result.andThen_ok, Sem.run_pure]
        simp [hc, hfn, z1]
      · cases ok with
        | false => exact z2
        | true =>
          refine .tup _ _ rfl (fun j hj => ?_)
          have : j = 0 ∨ j = 1 := by simp at hj; omega
          rcases this with rfl | rfl
          · exact z2
          · exact .bool false
    · exact h.elim
  · exact h.elim

theorem entries_set {kk : Option IntKind} {es : List (Key × AV)} {fs : Array MapEntry} (h : EntriesOK C H w kk es fs.toList) {j : Nat} {k : Key} {x : AV} {u v : Value} (hk : keyV kk k u) (hx : Repr C H w x v) :
    EntriesOK C H w kk (es.set j (k, x)) (fs.modify j fun e => { e with key := u, val := v }).toList := by
  refine ⟨by simpa using h.1, fun i hi => ?_⟩
  rw [List.length_set] at hi
  have hi2 : i < fs.size := by have := h.1; simp at this; omega
  have e2 : (fs.modify j fun e => { e with key := u, val := v }).toList.getD i default = if j = i then { fs.toList.getD i default with key := u, val := v } else fs.toList.getD i default := by
    simp only [List.getD, Array.getElem?_toList, Array.getElem?_modify]
    by_cases hji : j = i
    · subst hji; simp [hi2]
    · simp [hji]
  have e1 : (es.set j (k, x)).getD i default = if j = i then (k, x) else es.getD i default := by
    simp only [List.getD, List.getElem?_set]
    by_cases hji : j = i
    · subst hji; simp [hi]
    · simp [hji]
  rw [e1, e2]
  by_cases hji : j = i
  · simp only [hji, if_true]; exact ⟨hk, hx⟩
  · simp only [hji, if_false]; exact h.2 i hi
theorem entries_push {kk : Option IntKind} {es : List (Key × AV)} {fs : Array MapEntry} (h : EntriesOK C H w kk es fs.toList) {n : Nat} {k : Key} {x : AV} {u v : Value} (hk : keyV kk k u) (hx : Repr C H w x v) :
    EntriesOK C H w kk (es ++ [(k, x)]) (fs.push { key := u, val := v, born := n }).toList := by
  have h1 := h.1
  refine ⟨by simpa using h1, fun i hi => ?_⟩
  simp only [List.length_append, List.length_singleton] at hi
  by_cases hlt : i < es.length
  · have e1 : (es ++ [(k, x)]).getD i default = es.getD i default := by simp [List.getD, List.getElem?_append_left hlt]
    have e2 : (fs.push { key := u, val := v, born := n }).toList.getD i default = fs.toList.getD i default := by
      simp only [List.getD, Array.toList_push]
      rw [List.getElem?_append_left (by omega)]
    rw [e1, e2]; exact h.2 i hlt
  · have : i = es.length := by omega
    subst this
    have e1 : (es ++ [(k, x)]).getD es.length default = (k, x) := by simp [List.getD]
    have e2 : (fs.push { key := u, val := v, born := n }).toList.getD es.length default = { key := u, val := v, born := n } := by
      simp only [List.getD, Array.toList_push]
      rw [h1]; simp
    rw [e1, e2]; exact ⟨hk, hx⟩

theorem sameBits_ok {kk : Option IntKind} {k : Key} {u v : Value} (hu : keyV kk k u) (hv : keyV kk k v) : Instr.sameBits 10000 u v = true := by
  cases kk with
  | none =>
    cases k <;> simp only [keyV] at hu hv
    obtain ⟨s, rfl, h1⟩ := hu
    obtain ⟨s', rfl, h2⟩ := hv
    simp only [Instr.sameBits]
    rw [beq_toListBytes, ByteArray.toList_eq, ByteArray.toList_eq, h1, h2]; simp
  | some j =>
    cases k <;> simp only [keyV] at hu hv
    subst hu hv
    simp [Instr.sameBits]

/-- A map is replaced by one with other entries. -/
theorem map_set (hrel : Rel C H w) {id : Nat} {kk : Option IntKind} {es es' : List (Key × AV)} (hid : H id = some (.map kk es)) {fs' : Array MapEntry} {cl' : Nat} (h : EntriesOK C H w kk es' fs'.toList)
    (hb : (fs'.toList.map (·.born)).Pairwise (· < ·) ∧ ∀ f ∈ fs'.toList, f.born < cl') :
    Le C H w C (H.put id (.map kk es')) (setBlk w (C.β id) (.map fs' cl')) ∧ Rel C (H.put id (.map kk es')) (setBlk w (C.β id) (.map fs' cl')) := by
  obtain ⟨-, -, fs, cl, a1, a2, a3⟩ := hrel.live id _ hid
  exact Le.set_own hrel hid (fun off hno => absurd trivial hno) (fun s hs => by simp [World.shape?, a1] at hs) (fun C' H' w' hle hb' => ⟨fs', cl', hb', h.mono hle, hb⟩)

theorem update_sound (hrel : Rel C H w) {t : TypeId} {m k x : AV} {u v y : Value} (hm : Repr C H w m u) (hk : Repr C H w k v) (hx : Repr C H w x y) {K : K1} (h : aUpdate P t m k x H K) :
    ∃ w' C' H', (Instr.mapUpdate t u v y).run P w = .ok () w' ∧ Rel C' H' w' ∧ Le C H w C' H' w' ∧ K .junk H' := by
  unfold aUpdate at h
  split at h
  · rename_i kt e he
    obtain ⟨kty, et, u1, u2, u3⟩ := mapE_some he
    split at h
    · rename_i id
      unfold mapAt at h
      split at h
      · rename_i kk es hes
        obtain ⟨rfl, h⟩ := h
        unfold keyK at h
        split at h
        · rename_i key hkey
          cases hm with
          | map _ hid =>
          obtain ⟨-, -, fs, cl, a1, a2, a3, a4⟩ := hrel.live id _ hes
          have hkv := keyOf_sound hkey hk
          have hf := findKey_ok (P := P) u3 hkv a2 w
          have hc := checkKey_ok (P := P) u3 false v w
          rw [mset_mfind] at h
          cases hmf : mfind es key with
          | none =>
            rw [hmf] at h hf
            obtain ⟨m1, m2⟩ := map_set hrel hes (entries_push (n := cl) a2 hkv hx) (cl' := cl + 1) ⟨by
              simp only [Array.toList_push, List.map_append, List.map_cons, List.map_nil, List.pairwise_append]
              refine ⟨a3, by simp, fun a ha b hb => ?_⟩
              simp only [List.mem_singleton] at hb
              subst hb
              obtain ⟨f, hf1, rfl⟩ := List.mem_map.1 ha
              exact a4 f hf1, fun f hf => by
              simp only [Array.toList_push, List.mem_append, List.mem_singleton] at hf
              rcases hf with hf | rfl
              · have := a4 f hf; omega
              · simp⟩
            refine ⟨_, _, _, ?_, m2, m1, h⟩
            simp only [Instr.mapUpdate, Sem.run_bind, run_underlying u1, Result.andThen_ok, getObj_map a1, hc, hf, Option.map_none]
            exact setObj_map a1 _
          | some j =>
            rw [hmf] at h hf
            have hj := mfind_lt hmf
            have hold : keyV kk key (((fs[j]?).map (·.key)).getD v) := by
              have := (a2.2 j hj).1
              have hjs : j < fs.size := by have := a2.1; simp at this; omega
              have e : ((fs[j]?).map (·.key)).getD v = (fs.toList.getD j default).key := by simp [List.getD, hjs]
              rw [e]
              have hkey2 : ∀ (es : List (Key × AV)) j, mfind es key = some j → (es.getD j default).1 = key := by
                intro es
                induction es with
                | nil => intro j h; cases h
                | cons a es ih =>
                  intro j h
                  simp only [mfind] at h
                  split at h
                  · injection h with h; subst h; simpa
                  · simp only [Option.map_eq_some_iff] at h
                    obtain ⟨i, hi, rfl⟩ := h
                    simpa using ih i hi
              rw [hkey2 es j hmf] at this
              exact this
            obtain ⟨m1, m2⟩ := map_set hrel hes (entries_set (j := j) a2 hkv hx) (cl' := cl) (by
              have hmapb : (fs.modify j fun e => { e with key := v, val := y }).toList.map (·.born) = fs.toList.map (·.born) := by
                apply List.ext_getElem?
                intro i
                simp only [List.getElem?_map, Array.getElem?_toList, Array.getElem?_modify]
                by_cases hji : j = i
                · subst hji; cases fs[j]? <;> simp
                · simp [hji]
              refine ⟨by rw [hmapb]; exact a3, fun f hf => ?_⟩
              have : f.born ∈ (fs.modify j fun e => { e with key := v, val := y }).toList.map (·.born) := List.mem_map_of_mem hf
              rw [hmapb] at this
              obtain ⟨g, hg, hgb⟩ := List.mem_map.1 this
              rw [← hgb]; exact a4 g hg)
            refine ⟨_, _, _, ?_, m2, m1, h⟩
            simp only [Instr.mapUpdate, Sem.run_bind, run_underlying u1, Result.andThen_ok, getObj_map a1, hc, hf, Option.map_some]
            have hs := sameBits_ok hold hkv
            simp only [Instr.keyThatStays, hs, if_true, Sem.run_pure, Result.andThen_ok]
            exact setObj_map a1 _
        · exact h.elim
      · exact h.elim
    · exact h.elim
  · exact h.elim
end
end Go.Abs

/-
  delete; copy; make of a slice; between strings and bytes.
-/
namespace Go.Abs
open Go.RowKit
set_option linter.unusedSimpArgs false
set_option linter.unusedVariables false

section
variable {P : Program} {C C' : Cx} {H H' : Heap} {w w' : World}

theorem delete_sound (hrel : Rel C H w) {t t' ty : TypeId} {m k : AV} {u v : Value} (hm : Repr C H w m u) (hk : Repr C H w k v) {K : K1} (h : aDelete P t m k H K) : Does P C H w K (Builtin.delete_ #[t, t'] ty #[u, v]) := by
  unfold aDelete at h
  split at h
  · rename_i kt e he
    obtain ⟨kty, et, u1, u2, u3⟩ := mapE_some he
    split at h
    · rename_i id
      unfold mapAt at h
      split at h
      · rename_i kk es hes
        obtain ⟨rfl, h⟩ := h
        unfold keyK at h
        split at h
        · rename_i key hkey
          cases hm with
          | map _ hid =>
          obtain ⟨-, -, fs, cl, a1, a2, a3, a4⟩ := hrel.live id _ hes
          have hkv := keyOf_sound hkey hk
          have hf := findKey_ok (P := P) u3 hkv a2 w
          have hc := checkKey_ok (P := P) u3 fs.isEmpty v w
          rw [mdel_mfind] at h
          cases hmf : mfind es key with
          | none =>
            rw [hmf] at h hf
            obtain ⟨m1, m2⟩ := map_set hrel hes a2 (cl' := cl) ⟨a3, a4⟩
            refine ⟨.tuple #[], _, _, _, .tup [], ?_, m2, m1, .tup _ _ rfl (by simp), h⟩
            unfold Builtin.delete_
            simp only [List.getElem?_toArray, List.getElem?_cons_succ, List.getElem?_cons_zero]
            simp only [Sem.run_bind, run_underlying u1, Result.andThen_ok, getObj_map a1, hc, hf, Option.map_none, setObj_map a1]
            rfl
          | some j =>
            rw [hmf] at h hf
            have hj := mfind_lt hmf
            have hjs : j < fs.size := by have := a2.1; simp at this; omega
            have el : (fs.eraseIdxIfInBounds j).toList = fs.toList.eraseIdx j := by
              rw [Array.eraseIdxIfInBounds_eq]; simp [hjs, Array.toList_eraseIdx]
            obtain ⟨m1, m2⟩ := map_set (es' := es.eraseIdx j) (fs' := fs.eraseIdxIfInBounds j) hrel hes (by
              rw [el]
              refine ⟨by rw [List.length_eraseIdx, List.length_eraseIdx, a2.1], fun i hi => ?_⟩
              have g : ∀ {α : Type} [Inhabited α] (l : List α), (l.eraseIdx j).getD i default = l.getD (if i < j then i else i + 1) default := fun l => by
                simp only [List.getD, List.getElem?_eraseIdx]
                split <;> rfl
              rw [g, g]
              refine a2.2 _ ?_
              rw [List.length_eraseIdx, if_pos hj] at hi
              split <;> omega) (cl' := cl) ⟨by
                rw [el]
                refine List.Pairwise.sublist ?_ a3
                exact (List.eraseIdx_sublist _ _).map _, fun f hf => by
                rw [el] at hf
                exact a4 f ((List.eraseIdx_sublist _ _).mem hf)⟩
            refine ⟨.tuple #[], _, _, _, .tup [], ?_, m2, m1, .tup _ _ rfl (by simp), h⟩
            unfold Builtin.delete_
            simp only [List.getElem?_toArray, List.getElem?_cons_succ, List.getElem?_cons_zero]
            simp only [Sem.run_bind, run_underlying u1, Result.andThen_ok, getObj_map a1, hc, hf, Option.map_some, setObj_map a1]
            rfl
        · exact h.elim
      · exact h.elim
    · cases hm
      have hc := checkKey_ok (P := P) u3 true v w
      refine .same hrel (v := .tuple #[]) ?_ (.tup _ _ rfl (by simp)) h
      unfold Builtin.delete_
      simp only [List.getElem?_toArray, List.getElem?_cons_succ, List.getElem?_cons_zero]
      simp only [Sem.run_bind, run_underlying u1, Result.andThen_ok, hc]
      rfl
    · exact h.elim
  · exact h.elim

theorem lenMap_sound (hrel : Rel C H w) {ts : Array TypeId} {ty : TypeId} {x : AV} {u : Value} (hx : Repr C H w x u) {K : K1} (hts : isMap P ts.toList = true)
    (h : (∃ id, x = .map id ∧ mapAt (H id) fun _ es => K (.int .i64 es.length) H) ∨ (x = .nilmap ∧ K (.int .i64 0) H)) : Does P C H w K (Builtin.len_ ts ty #[u]) := by
  obtain ⟨t, t0, a, b, t1⟩ : ∃ t, ts[0]? = some t ∧ ∃ a b, P.underlying t = some (.map a b) := by
    unfold isMap at hts
    split at hts
    · rename_i t htl
      refine ⟨t, by rw [← Array.getElem?_toList, htl]; rfl, ?_⟩
      split at hts
      · rename_i a b hd
        obtain ⟨d, d1, d2⟩ := descOf_eq hd (by simp)
        have := (td_plain d2).2.2.2.2.2.1 _ _ rfl
        subst this
        exact ⟨a, b, d1⟩
      · cases hts
    · cases hts
  rcases h with ⟨id, rfl, h⟩ | ⟨rfl, h⟩
  · unfold mapAt at h
    split at h
    · rename_i kk es hes
      cases hx with
      | map _ hid =>
      obtain ⟨-, -, fs, cl, a1, a2, a3⟩ := hrel.live id _ hes
      refine .same hrel (v := .int .i64 fs.size) ?_ ?_ h
      · simp [Builtin.len_, t0, run_underlying t1, getObj_map a1, goInt]
      · have : es.length = fs.size := by have := a2.1; simpa using this
        rw [this]; exact .int _ _
    · exact h.elim
  · cases hx
    exact .same hrel (v := .int .i64 0) (by simp [Builtin.len_, t0, run_underlying t1, goInt]) (.int _ _) h

theorem copy_sound (hrel : Rel C H w) {t t' ty : TypeId} {d x : AV} {u v : Value} (hd : Repr C H w d u) (hx : Repr C H w x v) {K : K1} (h : aCopy P t d x H K) : Does P C H w K (Builtin.copy_ #[t, t'] ty #[u, v]) := by
  unfold aCopy at h
  split at h
  · rename_i e he
    obtain ⟨et, u1, u2⟩ := sliceE_some he
    obtain ⟨new, arr, src, h⟩ := src_sound (P := P) hrel hx h
    split at h
    · rename_i id off len k _
      obtain ⟨hke, h⟩ := h
      subst hke
      unfold cellsAt at h
      split at h
      · rename_i cs hcs
        obtain ⟨h1, hK⟩ := h
        cases hd with
        | ms _ _ _ _ a cap hid ha hl hs =>
        have hut : Unif e.size (new.take len) := src.row.1.take len
        have hfl := flatten_len hut
        rw [List.length_take] at hfl
        have hmin : min len new.length = min new.length len := Nat.min_comm ..
        have hfull := flatten_len src.row.1
        have hle : min new.length len * e.size ≤ new.length * e.size := Nat.mul_le_mul_right _ (Nat.min_le_left ..)
        have hle2 : min new.length len * e.size ≤ len * e.size := Nat.mul_le_mul_right _ (Nat.min_le_right ..)
        have harr : arr.size = new.length * e.size := by rw [← src.row.2.1, hfull]
        have hcells : CellsOK C H w (new.take len).flatten (arr.extract 0 (min new.length len * e.size)) := by
          refine ⟨by rw [hfl, hmin]; simp; omega, fun j hj => ?_⟩
          rw [hfl, hmin] at hj
          rw [flatten_take src.row.1, getD_take _ _ _ _ (by omega)]
          have : (arr.extract 0 (min new.length len * e.size)).getD j default = arr.getD j default := by
            simp only [Array.getD_eq_getD_getElem?, Array.getElem?_extract]
            rw [if_pos (by omega)]; simp
          rw [this]
          exact src.row.2.2 j (by omega)
        obtain ⟨w', e1, e2, e3⟩ := cells_set (P := P) hrel hcs hcells (off := off) (by rw [hfl, hmin]; omega)
        have hfirst := src.first w (min new.length len) rfl (Nat.min_le_left ..)
        have run : ∀ (w1 : World), (match a with | some ad => (storeCells ad (arr.extract 0 (min new.length len * e.size)).toList).run P w | none => .ok () w) = .ok () w1 →
            (Builtin.copy_ #[t, t'] ty #[.slice a len cap, v]).run P w = .ok (.int .i64 (min new.length len : Nat)) w1 := fun w1 hst => by
          unfold Builtin.copy_
          simp only [List.getElem?_toArray, List.getElem?_cons_succ, List.getElem?_cons_zero]
          simp only [Sem.run_bind, run_underlying u1, Result.andThen_ok, src.len, run_size u2]
          rw [show Nat.min new.length len = min new.length len from rfl, hfirst]
          simp only [Result.andThen_ok, Sem.run_pure]
          cases a with
          | none => simp only at hst ⊢; injection hst with _ hst; subst hst; rfl
          | some ad => simp only [Sem.run_bind, hst, Result.andThen_ok]; rfl
        by_cases hc : 0 < cap
        · have := ha hc; subst this
          exact ⟨_, w', _, _, _, run w' e1, e3, e2, .int .i64 _, hK⟩
        · have hl0 : len = 0 := by omega
          subst hl0
          have hm0 : min new.length 0 = 0 := Nat.min_zero _
          rw [hm0] at run hK
          have hw0 : writeC cs off (new.take 0).flatten = cs := by simp [writeC]
          rw [hw0] at hK
          have hH : H.put id (.cells cs) = H := by
            funext i
            unfold Heap.put
            by_cases hi : i = id
            · subst hi; rw [if_pos rfl, hcs]
            · rw [if_neg hi]
          rw [hH] at hK
          refine .same hrel (run w ?_) (.int .i64 _) hK
          cases a with
          | none => rfl
          | some ad => simp [storeCells]
      · exact h.elim
    · exact h.elim
  · exact h.elim

theorem makeSlice_sound (hrel : Rel C H w) {t : TypeId} {l c : AV} {u v : Value} (hl : Repr C H w l u) (hc : Repr C H w c v) {K : K1} (h : aMakeSlice P t l c H K) : Does P C H w K (Instr.makeSlice t u v) := by
  unfold aMakeSlice at h
  split at h
  · rename_i e kl l kc c he
    cases hl; cases hc
    obtain ⟨et, u1, u2⟩ := sliceE_some he
    obtain ⟨h1, h2, h3, h4, h5, h6, h7⟩ := h
    obtain ⟨z, z1, z2⟩ := zero_run (P := P) (C := C) (H := H) (w := w) u2 (by intro e; rw [e] at h1; simp [AV.isVal] at h1)
    obtain ⟨info, de, i1, i2, i3, i4, i5, -⟩ := ti_desc u2
    have hlc : l ≤ c := by omega
    have hcells := val_cells z2 h1
    have hw1 : IntKind.i64.wrap l = l := by simp [IntKind.wrap, IntKind.signed, IntKind.bits]; omega
    have hw2 : IntKind.i64.wrap c = c := by simp [IntKind.wrap, IntKind.signed, IntKind.bits]; omega
    have hby : (info.bytes : Int) * c ≤ 281474976710656 := by
      rw [← i5, Int.mul_comm]; omega
    have hrun : (Instr.makeSlice t (.int kl l) (.int kc c)).run P w = .ok (.slice (some ⟨w.heap.size, 0, none⟩) l.toNat c.toNat) (w.alloc (.cells ((Array.range (c.toNat * e.size)).map fun j => z.cells[j % z.cells.size]!) et)) := by
      have hn1 : ¬ (c < 0) := by omega
      have hn2 : ¬ (281474976710656 < (info.bytes : Int) * c) := by omega
      have hn3 : ¬ (l < 0) := by omega
      have hn4 : ¬ (c < l) := by omega
      by_cases h0 : c.toNat * e.size = 0
      · have hc0 : c.toNat = 0 := by rcases Nat.mul_eq_zero.1 h0 with h | h <;> omega
        have r0 : Array.range 0 = #[] := by apply Array.ext' ; simp
        simp [Instr.makeSlice, run_underlying u1, asInt, asIntOf, typeInfo, i1, hw1, hw2, hn1, hn2, hn3, hn4, run_size u2, hc0, newRow, r0]
      · simp [Instr.makeSlice, run_underlying u1, asInt, asIntOf, typeInfo, i1, hw1, hw2, hn1, hn2, hn3, hn4, run_size u2, h0, z1, newRow]
    have hz := zeros_ok (C := C) (H := H) (w := w) hcells (by omega) c.toNat (c.toNat * e.size) (by rw [h2])
    have hsz : ((Array.range (c.toNat * e.size)).map fun j => z.cells[j % z.cells.size]!).size = c.toNat * e.size := by simp
    rcases h7 with ⟨rfl, hK⟩ | ⟨rfl, h8, hK⟩
    · obtain ⟨g1, g2⟩ := Le.alloc_own hrel (.cells ((Array.range (l.toNat * e.size)).map fun j => z.cells[j % z.cells.size]!) et) (.cells (List.replicate l.toNat e.zero.cells).flatten) (cells_own fun _ _ _ hle => hz.mono hle)
      refine ⟨_, _, _, _, _, hrun, g2, g1, .ms C.n 0 l.toNat e.size _ _ (by simp [Cx.new]) (fun _ => by rw [C.new_self]) (Nat.le_refl _) ⟨et, l.toNat * e.size, ?_, by omega⟩, hK _ (hrel.fresh (Nat.le_refl _))⟩
      rw [C.new_self]
      unfold World.shape?
      rw [heap_alloc_new w]
      show some (et, _) = _
      rw [hsz]
    · obtain ⟨g1, g2⟩ := Le.alloc_own hrel (.cells ((Array.range (c.toNat * e.size)).map fun j => z.cells[j % z.cells.size]!) et) (.tail 0) (fun C' H' w' _ hb => ⟨_, _, _, hb, fun o _ _ => by simp⟩)
      have hsl := sl_of_tail (es := []) (k := e.size) (id := C.n) (cap := c.toNat) g2 (fun _ h => by simp at h) (by simp [Heap.put]) (by rw [C.new_self]; exact heap_alloc_new w _) (by simp) (by simp) (by rw [hsz]; exact Nat.le_refl _)
      rw [C.new_self] at hsl
      exact ⟨_, _, _, _, _, hrun, g2, g1, hsl, hK _ (hrel.fresh (Nat.le_refl _))⟩
  · exact h.elim
end
end Go.Abs

/-
  Between strings and bytes; an operation of the machine.
-/
namespace Go.Abs
open Go.RowKit
set_option linter.unusedSimpArgs false
set_option linter.unusedVariables false

section
variable {P : Program} {C C' : Cx} {H H' : Heap} {w w' : World}

theorem bytesWorld_eq (w : World) (e : TypeId) (s : ByteArray) : Lib.bytesWorld w e s = w.drew.alloc (.cells (Lib.bytesCells w e s) e ((Lib.bytesCells w e s).size, (Lib.bytesCells w e s).size + 1)) := by
  have hh : (Lib.bytesWorld w e s).heap = (w.drew.alloc (.cells (Lib.bytesCells w e s) e ((Lib.bytesCells w e s).size, (Lib.bytesCells w e s).size + 1))).heap := by
    apply Array.ext_getElem?
    intro i
    by_cases hi : i < w.heap.size
    · rw [Lib.bytesWorld_at_old w e s i hi, Below.heap_alloc w.drew _ i hi]; rfl
    · by_cases he : i = w.heap.size
      · subst he; rw [Lib.bytesWorld_at_new]; exact (heap_alloc_new w.drew _).symm
      · have h1 : (Lib.bytesWorld w e s).heap.size ≤ i := by rw [Lib.bytesWorld_size]; omega
        have h2 : (w.drew.alloc (.cells (Lib.bytesCells w e s) e ((Lib.bytesCells w e s).size, (Lib.bytesCells w e s).size + 1))).heap.size ≤ i := by
          simp; omega
        rw [Array.getElem?_eq_none h1, Array.getElem?_eq_none h2]
  have : ∀ (a b : World), a.heap = b.heap → a.tape = b.tape → a.drawn = b.drawn → a.os = b.os → a.output = b.output → a = b := by
    intro a b h1 h2 h3 h4 h5
    cases a; cases b; simp only at *; subst h1 h2 h3 h4 h5; rfl
  exact this _ _ hh rfl rfl rfl rfl

theorem isBytes_some {t : TypeId} (h : isBytes P t = true) : ∃ e, P.underlying t = some (.slice e) ∧ P.underlying e = some (.int .u8) := by
  unfold isBytes at h
  split at h
  · rename_i e he
    obtain ⟨u, u1, u2⟩ := sliceE_some he
    have hd : e.desc = .int .u8 := by simpa using h
    obtain ⟨info, d, d1, d2, d3, -⟩ := ti_desc u2
    have := (td_plain d3).2.2.1 _ hd
    subst this
    exact ⟨u, u1, d2⟩
  · cases h

theorem push_list (l : List UInt8) : ∀ (s : ByteArray), ((l.map fun b => (b.toNat : Int)).foldl (fun r n => r.push (UInt8.ofNat n.toNat)) s).data.toList = s.data.toList ++ l := by
  induction l with
  | nil => intro s; simp
  | cons b l ih =>
    intro s
    rw [List.map_cons, List.foldl_cons, ih]
    simp

theorem conv2_sound (hrel : Rel C H w) {src dst : TypeId} {x : AV} {v : Value} (hx : Repr C H w x v) {K : K1} (h : aConv P src dst x H K) : Does P C H w K (convert src dst v) := by
  unfold aConv at h
  split at h
  · rename_i hc
    obtain ⟨et, e1, e2⟩ := isBytes_some hc.1
    split at h
    · rename_i s
      cases hx
      rename_i bs hbs
      have hrun := Lib.run_convert_string_bytes (P := P) w src dst et bs (desc_string hc.2) e1 e2
      rw [bytesWorld_eq] at hrun
      have hge := grownCap_ge w bs.size 0 et
      have hsz : (Lib.bytesCells w et bs).size = grownCap w bs.size 0 et := by
        simp [Lib.bytesCells]
        have : bs.data.size = bs.size := rfl
        omega
      have hlen : s.length = bs.size := by rw [← hbs]; simp
      obtain ⟨d1, d2⟩ := Le.drew hrel
      obtain ⟨g1, g2⟩ := Le.alloc_own d2 (.cells (Lib.bytesCells w et bs) et ((Lib.bytesCells w et bs).size, (Lib.bytesCells w et bs).size + 1)) (.cells (s.map fun b => .int .u8 b.toNat)) (fun C' H' w' hle hb => by
        refine ⟨_, _, _, hb, by rw [hsz]; simp [hlen]; exact hge, fun j hj => ?_, fun o _ ho => by simp; omega⟩
        simp only [List.length_map] at hj
        have hr := (bytes_row (C := C') (H := H') (w := w') s bs.data hbs).2.2 j (by rw [singles (fun b : UInt8 => AV.int .u8 b.toNat)]; simpa using hj)
        rw [singles (fun b : UInt8 => AV.int .u8 b.toNat)] at hr
        have a2 : (Lib.bytesCells w et bs).getD j default = (bs.data.map fun b : UInt8 => Value.int .u8 b.toNat).getD j default := by
          simp only [Lib.bytesCells, Array.getD_eq_getD_getElem?]
          rw [Array.getElem?_append_left (by have : bs.data.size = bs.size := rfl; simp; omega)]
        rw [a2]
        exact hr)
      refine ⟨_, _, _, _, .ms C.n 0 s.length 1, hrun, g2, d1.trans g1, ?_, h _ (hrel.fresh (Nat.le_refl _))⟩
      rw [← hlen]
      refine .ms _ _ _ _ _ _ (by simp [Cx.new]) (fun _ => by rw [C.new_self]; rfl) (by rw [hlen]; exact hge) ⟨et, (Lib.bytesCells w et bs).size, ?_, by rw [hsz, hlen]; omega⟩
      rw [C.new_self]
      have := heap_alloc_new w.drew (.cells (Lib.bytesCells w et bs) et ((Lib.bytesCells w et bs).size, (Lib.bytesCells w et bs).size + 1))
      unfold World.shape?
      rw [this]
    · exact h.elim
  · split at h
    · rename_i hc
      obtain ⟨et, e1, e2⟩ := isBytes_some hc.1
      obtain ⟨hns, h⟩ := h
      obtain ⟨new, arr, src', l, rfl, hK⟩ := src_sound (P := P) hrel hx h
      have hd := desc_string hc.2
      have hfl : (l.map fun b : UInt8 => [AV.int .u8 b.toNat]).flatten = l.map fun b : UInt8 => AV.int .u8 b.toNat := singles _ _
      have hcells := src'.row.2
      rw [hfl] at hcells
      have harr : arr = ((l.map fun b : UInt8 => (b.toNat : Int)).map (Value.int .u8)).toArray := by
        apply Array.ext
        · have := hcells.1; simpa using this.symm
        · intro i h1 h2
          simp at h2
          have hr := (hcells.2 i (by simpa using h2)).2
          have e3 : (l.map fun b : UInt8 => AV.int .u8 b.toNat).getD i .junk = .int .u8 (l[i]).toNat := by simp [List.getD, h2]
          have e4 : arr.getD i default = arr[i] := by simp [Array.getD_eq_getD_getElem?, h1]
          rw [e3, e4] at hr
          generalize arr[i] = y at hr
          cases hr
          simp
      have hall := src'.first w l.length rfl (by simp)
      have hsz : arr.size = l.length := by rw [harr]; simp
      rw [Nat.mul_one, ← hsz, Array.extract_size, hsz] at hall
      have hstr : ∀ (a : Option Addr) (n cap : Nat), v = .slice a n cap → n = l.length → Does P C H w K (convert src dst v) := by
        intro a n cap hv hn
        subst hv hn
        have hconv := run_convert_bytes_string (P := P) w src dst et a l.length cap e1 e2 hd
        cases a with
        | none =>
          simp only [Builtin.firstCells, Sem.run_pure] at hall
          injection hall with hall
          rw [← hall] at hsz
          have : l = [] := List.eq_nil_of_length_eq_zero (by simpa using hsz.symm)
          subst this
          refine .same hrel (v := .string .empty) (by rw [hconv]; rfl) (.str _ _ (by rfl)) hK
        | some ad =>
          simp only [Builtin.firstCells, Nat.mul_one] at hall
          rw [harr] at hall
          have hb := run_bytesToString (P := P) w ad l.length cap _ hall
          exact .same hrel (by rw [hconv]; exact hb) (.str _ _ (by rw [push_list]; rfl)) hK
      have hlen := src'.len w
      rw [List.length_map] at hlen
      cases v <;> first
        | (simp [Builtin.lenOf] at hlen; done)
        | (rename_i a n cap; simp only [Builtin.lenOf, Sem.run_pure] at hlen; injection hlen with hlen; exact hstr a n cap rfl hlen)
        | (rename_i bs; generalize hvv : Value.string bs = vv at hx; cases hx <;> first | exact (show False from h).elim | (simp [isStr] at hns; done) | (cases hvv; done))
    · unfold so at h
      split at h
      · rename_i z hz
        exact .gives hrel (conv_sound hz hx) h
      · exact h.elim
end
end Go.Abs

/-
  An operation of the machine, whatever it is.
-/
namespace Go.Abs
open Go.RowKit
set_option linter.unusedSimpArgs false
set_option linter.unusedVariables false

section
variable {P : Program} {C C' : Cx} {H H' : Heap} {w w' : World}

/-- What is asked of the code behind an operation. -/
def After (C : Cx) (H : Heap) (w : World) (K : K1) (N : Value → World → Prop) : Prop :=
  ∀ C' H' w' x v, Rel C' H' w' → Le C H w C' H' w' → Repr C' H' w' x v → K x H' → N v w'

theorem Does.wp {K : K1} {s : Sem Value} (h : Does P C H w K s) {a : Act} {o : Oper} {next : Act → World → Prop} {Q : Exit → Act → World → Prop} (he : execOp a.eval o = (do pure (.value (← s))))
    (hn : After C H w K fun v w' => next (a.put o.dst v) w') : o.wp P a w next Q := by
  obtain ⟨v, w', C', H', x, h1, h2, h3, h4, h5⟩ := h
  unfold Oper.wp
  rw [he]
  simp only [Sem.run_bind, h1, Result.andThen_ok, Sem.run_pure, Oper.upon]
  exact hn C' H' w' x v h2 h3 h4 h5
theorem Yes.wp {K : K1} {z : AV} {s : Sem Next} (hrel : Rel C H w) (h : Yes P C H w z s) {a : Act} {o : Oper} {next : Act → World → Prop} {Q : Exit → Act → World → Prop} (he : execOp a.eval o = s) (hK : K z H)
    (hn : After C H w K fun v w' => next (a.put o.dst v) w') : o.wp P a w next Q := by
  obtain ⟨v, h1, h2⟩ := h
  unfold Oper.wp
  rw [he, h1]
  exact hn C H w z v hrel (Le.refl _ _ _) h2 hK
theorem unit_wp {K : K1} {s : Sem Unit} (h : ∃ w' C' H', s.run P w = .ok () w' ∧ Rel C' H' w' ∧ Le C H w C' H' w' ∧ K .junk H') {a : Act} {o : Oper} {next : Act → World → Prop} {Q : Exit → Act → World → Prop} (he : execOp a.eval o = (do s; pure .skip))
    (hn : After C H w K fun v w' => next (a.put o.dst v) w') : o.wp P a w next Q := by
  obtain ⟨w', C', H', h1, h2, h3, h4⟩ := h
  unfold Oper.wp
  rw [he]
  simp only [Sem.run_bind, h1, Result.andThen_ok, Sem.run_pure, Oper.upon]
  exact hn C' H' w' .junk undef h2 h3 (.junk _) h4

theorem call_wp {K : K1} (hrel : Rel C H w) {f : FuncId} {xs : List AV} {vs : List Value} (hx : ReprL C H w xs vs) (h : ACalls P f xs H K) {a : Act} {o : Oper} {next : Act → World → Prop} {Q : Exit → Act → World → Prop}
    (he : ∀ w', (execOp a.eval o).run P w' = (callFunc f vs.toArray).run P w') (hn : After C H w K fun v w' => next (a.put o.dst v) w') : o.wp P a w next Q := by
  have hc := h C w vs hrel hx
  unfold Oper.wp
  rw [he]
  generalize (callFunc f vs.toArray).run P w = r at hc
  unfold CallsNext at hc
  split at hc
  · obtain ⟨rfl, hc⟩ := hc
    simp only [Oper.upon]
    refine hc.mono fun e w' hp => ?_
    obtain ⟨C', H', x, v, rfl, h2, h3, h4, h5⟩ := hp
    exact hn C' H' w' x v h2 h3 h4 h5
  · obtain ⟨C', H', x, v, hv, h2, h3, h4, h5⟩ := hc
    injection hv with hv
    subst hv
    exact hn C' H' _ x _ h2 h3 h4 h5
  · exact hc.elim

theorem ReprL.append {xs ys : List AV} {us vs : List Value} (h1 : ReprL C H w xs us) (h2 : ReprL C H w ys vs) : ReprL C H w (xs ++ ys) (us ++ vs) := by
  refine ⟨by simp [h1.1, h2.1], fun j hj => ?_⟩
  rw [List.length_append] at hj
  by_cases hlt : j < xs.length
  · have e1 : (xs ++ ys).getD j .junk = xs.getD j .junk := by simp [List.getD, List.getElem?_append_left hlt]
    have e2 : (us ++ vs).getD j default = us.getD j default := by simp [List.getD, List.getElem?_append_left (show j < us.length by rw [← h1.1]; exact hlt)]
    rw [e1, e2]; exact h1.2 j hlt
  · have e1 : (xs ++ ys).getD j .junk = ys.getD (j - xs.length) .junk := by simp [List.getD, List.getElem?_append_right (Nat.le_of_not_lt hlt)]
    have e2 : (us ++ vs).getD j default = vs.getD (j - xs.length) default := by
      have := h1.1
      simp [List.getD, List.getElem?_append_right (show us.length ≤ j by omega), this]
    rw [e1, e2]; exact h2.2 _ (by omega)

theorem two_args {xs : Array Operand} {r : Regs} {x y : AV} (h : xs.toList.map (ev r) = [x, y]) : ∃ p q, xs = #[p, q] ∧ ev r p = x ∧ ev r q = y := by
  cases hx : xs.toList with
  | nil => rw [hx] at h; cases h
  | cons p l =>
    rw [hx] at h
    cases l with
    | nil => cases h
    | cons q l =>
      cases l with
      | nil =>
        simp only [List.map_cons, List.map_nil, List.cons.injEq, and_true] at h
        exact ⟨p, q, by apply Array.ext'; exact hx, h.1, h.2⟩
      | cons => simp at h
theorem one_arg {xs : Array Operand} {r : Regs} {x : AV} (h : xs.toList.map (ev r) = [x]) : ∃ p, xs = #[p] ∧ ev r p = x := by
  cases hx : xs.toList with
  | nil => rw [hx] at h; cases h
  | cons p l =>
    rw [hx] at h
    cases l with
    | nil => simp only [List.map_cons, List.map_nil, List.cons.injEq, and_true] at h; exact ⟨p, by apply Array.ext'; exact hx, h⟩
    | cons => simp at h
theorem two_types {ts : Array TypeId} {t t' : TypeId} (h : ts.toList = [t, t']) : ts = #[t, t'] := by apply Array.ext'; exact h

theorem PuOK.call {pu : Pures} (hpu : PuOK P pu) {g : FuncId} {xs : List AV} {H : Heap} {K : K1} (h : callG P g (pu g) xs H K) : ACalls P g xs H K := by
  unfold callG at h
  split at h
  · rename_i s hs
    unfold so at h
    split at h
    · rename_i v hv
      refine (hpu g s hs xs v hv H).mono ?_
      rintro x H' ⟨rfl, rfl⟩
      exact h
    · exact h.elim
  · exact h

theorem aop_sound {pu : Pures} (hpu : PuOK P pu) {ms : Bool} {r : Regs} {a : Act} (hrel : Rel C H w) (hr : RegsOK C H w r a.tmps) (o : Oper) {K : K1} (h : aop P pu ms r H o.op K) {next : Act → World → Prop} {Q : Exit → Act → World → Prop}
    (hn : After C H w K fun v w' => next (a.put o.dst v) w') : o.wp P a w next Q := by
  obtain ⟨dst, op, type, pos, after, guard⟩ := o
  simp only at h hn
  unfold aop at h
  split at h
  · exact (alloc_sound hrel h).wp rfl hn
  · exact (box_sound hrel (ev_sound hr _) h).wp rfl hn
  · exact (load_sound hrel (ev_sound hr _) h).wp rfl hn
  · exact unit_wp (store_sound hrel (ev_sound hr _) (ev_sound hr _) h) rfl hn
  · exact (buildSlice_sound hrel hr h).wp rfl hn
  · exact (makeMap_sound hrel h).wp rfl hn
  · exact (makeSlice_sound hrel (ev_sound hr _) (ev_sound hr _) h).wp rfl hn
  · exact (lookup_sound hrel (ev_sound hr _) (ev_sound hr _) h).wp rfl hn
  · exact unit_wp (update_sound hrel (ev_sound hr _) (ev_sound hr _) (ev_sound hr _) h) rfl hn
  · exact unit_wp (update_sound hrel (ev_sound hr _) (ev_sound hr _) (ev_sound hr _) h) rfl hn
  · exact (conv2_sound hrel (ev_sound hr _) h).wp rfl hn
  · rename_i f xs ts
    unfold aCallV at h
    split at h
    · rename_i g cap hf
      have h := hpu.call h
      have hfv := ev_sound hr f
      rw [hf] at hfv
      generalize hfe : a.eval f = fv at hfv
      cases hfv with
      | func _ _ vs hs hcap =>
      refine call_wp (vs := (xs.map a.eval).toList ++ vs.toList) hrel ((args_ok hr xs).append ⟨by simpa using hs, fun j hj => ?_⟩) h (fun w' => ?_) hn
      · have := hcap j hj
        simpa [List.getD, Array.getD_eq_getD_getElem?] using this
      · simp only [execOp, resolve, hfe, Deferred.ofValue, Sem.run_bind, Sem.run_pure, Result.andThen_ok, invoke]
        congr 2
        apply Array.ext'
        simp
    · exact h.elim
  · rename_i b xs ts
    unfold aBuiltin at h
    split at h
    · rename_i x hx
      obtain ⟨p, rfl, rfl⟩ := one_arg hx
      have hp := ev_sound hr p
      unfold aLen at h
      split at h
      · rename_i hm
        split at h
        · rename_i id hid
          exact (lenMap_sound (ts := ts) (ty := type) hrel hp hm (.inl ⟨id, hid, h⟩)).wp (by rw [exec_builtin]; simp only [builtin, List.map_toArray, List.map_cons, List.map_nil]) hn
        · rename_i hid
          exact (lenMap_sound (ts := ts) (ty := type) hrel hp hm (.inr ⟨hid, h⟩)).wp (by rw [exec_builtin]; simp only [builtin, List.map_toArray, List.map_cons, List.map_nil]) hn
        · exact h.elim
      · unfold so at h
        split at h
        · rename_i z hz
          exact (Does.gives hrel (lenT_sound hz hp type) h).wp (by rw [exec_builtin]; simp only [builtin, List.map_toArray, List.map_cons, List.map_nil]) hn
        · exact h.elim
    · rename_i s x t t' hx hts
      obtain ⟨p, q, rfl, rfl, rfl⟩ := two_args hx
      have := two_types hts
      subst this
      exact (append_sound (ty := type) hrel (ev_sound hr p) (ev_sound hr q) h.1 h.2).wp (by rw [exec_builtin]; simp only [builtin, List.map_toArray, List.map_cons, List.map_nil]) hn
    · rename_i s x t t' hx hts
      obtain ⟨p, q, rfl, rfl, rfl⟩ := two_args hx
      have := two_types hts
      subst this
      exact (copy_sound (t' := t') (ty := type) hrel (ev_sound hr p) (ev_sound hr q) h).wp (by rw [exec_builtin]; simp only [builtin, List.map_toArray, List.map_cons, List.map_nil]) hn
    · rename_i s x t t' hx hts
      obtain ⟨p, q, rfl, rfl, rfl⟩ := two_args hx
      have := two_types hts
      subst this
      exact (delete_sound (t' := t') (ty := type) hrel (ev_sound hr p) (ev_sound hr q) h).wp (by rw [exec_builtin]; simp only [builtin, List.map_toArray, List.map_cons, List.map_nil]) hn
    · unfold so at h
      split at h
      · rename_i z hz
        exact (Does.gives hrel (minA_sound hz (args_ok hr xs) ts type) h).wp rfl hn
      · exact h.elim
    · unfold so at h
      split at h
      · rename_i z hz
        exact (Does.gives hrel (maxA_sound hz (args_ok hr xs) ts type) h).wp rfl hn
      · exact h.elim
    · exact h.elim
  · unfold so at h
    split at h
    · rename_i z hz
      exact Yes.wp hrel (pop_sound hr ⟨dst, op, type, pos, after, guard⟩ hz) rfl h hn
    · exact h.elim
end
end Go.Abs

/-
  Regions: their operations in the order of the text, or in whatever order is drawn.
-/
namespace Go.Abs
open Go.RowKit
set_option linter.unusedSimpArgs false
set_option linter.unusedVariables false

section
variable {P : Program} {C C' : Cx} {H H' : Heap} {w w' : World}

structure StOK (C : Cx) (H : Heap) (w : World) (N : Nat) (r : Regs) (a : Act) : Prop where
  regs : RegsOK C H w r a.tmps
  size : a.tmps.size = N
  defers : a.defers = []

theorem RegsOK.mono (hle : Le C H w C' H' w') {r : Regs} {tmps : Array Value} (h : RegsOK C H w r tmps) : RegsOK C' H' w' r tmps := fun t => (h t).mono hle
theorem StOK.mono (hle : Le C H w C' H' w') {N : Nat} {r : Regs} {a : Act} (h : StOK C H w N r a) : StOK C' H' w' N r a := ⟨h.regs.mono hle, h.size, h.defers⟩

def dstOK (N : Nat) : Option Nat → Bool
  | some d => decide (d < N)
  | none => true
theorem StOK.put {N : Nat} {r : Regs} {a : Act} (h : StOK C H w N r a) {d : Option Nat} (hd : dstOK N d = true) {x : AV} {v : Value} (hx : Repr C H w x v) : StOK C H w N (put r d x) (a.put d v) := by
  cases d with
  | none => exact h
  | some d =>
    have hlt : d < N := by simpa [dstOK] using hd
    refine ⟨fun t => ?_, by simp [Act.put, h.size], h.defers⟩
    simp only [Go.Abs.put, upd, Act.put]
    by_cases ht : t = d
    · subst ht
      rw [if_pos rfl]
      have : (a.tmps.setIfInBounds t v).getD t undef = v := by simp [Array.getD_eq_getD_getElem?, h.size, hlt]
      rw [this]; exact hx
    · rw [if_neg ht]
      have : (a.tmps.setIfInBounds d v).getD t undef = a.tmps.getD t undef := by simp [Array.getD_eq_getD_getElem?, Array.getElem?_setIfInBounds_ne (Ne.symm ht)]
      rw [this]; exact h.regs t

theorem repr_bool {b : Bool} {v : Value} (h : Repr C H w (.bool b) v) : v = .bool b := by cases h; rfl
theorem repr_tup0 {v : Value} (h : Repr C H w (.tup []) v) : v = .tuple #[] := by
  cases h with
  | tup _ vs hs _ =>
    have : vs = #[] := by apply Array.ext'; apply List.eq_nil_of_length_eq_zero; simpa using hs.symm
    rw [this]

theorem wanted_sound {ops : Array Oper} {r : Regs} {a : Act} (hr : RegsOK C H w r a.tmps) {o : Oper} {Ky Kn : Prop} (h : wantedA ops.toList r o.guard Ky Kn) :
    (Region.wanted o (yielded ops a.tmps) = true ∧ Ky) ∨ (Region.wanted o (yielded ops a.tmps) = false ∧ Kn) := by
  unfold wantedA at h
  unfold Region.wanted
  split at h
  · rename_i hg; rw [hg]; exact .inl ⟨rfl, h⟩
  · rename_i j want hg
    rw [hg]
    simp only [Array.getElem?_toList] at h
    dsimp only
    split at h
    · rename_i d hd
      have hv := hr d
      have hy : ∀ v, a.tmps.getD d undef = v → yielded ops a.tmps j = match v with | .bool b => some b | _ => none := fun v hv => by
        unfold yielded
        rw [hd]
        simp only [Option.bind_some]
        by_cases hlt : d < a.tmps.size
        · have : a.tmps[d]? = some v := by
            rw [Array.getElem?_eq_getElem hlt]; congr 1
            rw [← hv, Array.getD_eq_getD_getElem?, Array.getElem?_eq_getElem hlt]; rfl
          rw [this]
          cases v <;> rfl
        · have h1 : a.tmps[d]? = none := Array.getElem?_eq_none (Nat.le_of_not_lt hlt)
          have h2 : v = undef := by rw [← hv, Array.getD_eq_getD_getElem?, h1]; rfl
          rw [h1, h2]; rfl
      split at h
      · rename_i b hb
        rw [hb] at hv
        have := hy _ (repr_bool hv)
        rw [this]
        simp only
        split at h
        · rename_i hbw; subst hbw; exact .inl ⟨by simp, h⟩
        · rename_i hbw; exact .inr ⟨by simpa using hbw, h⟩
      · rename_i hb
        rw [hb] at hv
        have := hy _ (repr_tup0 hv)
        rw [this]
        exact .inr ⟨rfl, h⟩
      · exact h.elim
    · exact h.elim

/-- What is asked of the world and the frame behind a region. -/
def NPost (C : Cx) (H : Heap) (w : World) (N : Nat) (K : Regs → Heap → Prop) (a' : Act) (w' : World) : Prop :=
  ∃ r' C' H', Rel C' H' w' ∧ Le C H w C' H' w' ∧ StOK C' H' w' N r' a' ∧ K r' H'
theorem NPost.trans (hle : Le C H w C' H' w') {N : Nat} {K : Regs → Heap → Prop} {a' : Act} {w2 : World} (h : NPost C' H' w' N K a' w2) : NPost C H w N K a' w2 := by
  obtain ⟨r', C2, H2, h1, h2, h3, h4⟩ := h
  exact ⟨r', C2, H2, h1, hle.trans h2, h3, h4⟩

def opsOK (N : Nat) (ops : List Oper) : Bool := ops.all fun o => dstOK N o.dst

theorem aops_sound {X : Steer} (hpu : PuOK P X.pure) {ops : Array Oper} {N : Nat} (hN : opsOK N ops.toList = true) {Q : Exit → Act → World → Prop} : ∀ (is : List Nat) (r : Regs) (C : Cx) (H : Heap) (w : World) (a : Act) (K : Regs → Heap → Prop),
    aops P X ops.toList is r H K → Rel C H w → StOK C H w N r a → (∀ a' w', NPost C H w N K a' w' → Q .normal a' w') → wpOps P ops Q is a w := by
  intro is
  induction is with
  | nil => intro r C H w a K h hrel hst hQ; exact hQ a w ⟨r, C, H, hrel, Le.refl _ _ _, hst, h⟩
  | cons i is ih =>
    intro r C H w a K h hrel hst hQ
    unfold aops at h
    unfold wpOps
    rw [Array.getElem?_toList] at h
    split at h
    · rename_i o ho
      rw [ho]
      have hd : dstOK N o.dst = true := by
        unfold opsOK at hN
        rw [List.all_eq_true] at hN
        exact hN o (by have := Array.mem_of_getElem? ho; simpa using this)
      rcases wanted_sound hst.regs h with ⟨h1, h2⟩ | ⟨h1, h2⟩
      · simp only [h1, if_true]
        refine .inl (aop_sound hpu hrel hst.regs o h2 fun C' H' w' x v g1 g2 g3 g4 => ?_)
        exact ih _ C' H' w' _ K g4 g1 ((hst.mono g2).put hd g3) fun a' w2 hp => hQ a' w2 (hp.trans g2)
      · simp only [h1, Bool.false_eq_true, if_false]
        exact ih _ C H w _ K h2 hrel (hst.put hd (.tup [] #[] rfl (by simp))) hQ
    · exact h.elim

/-! ### In whatever order -/
/-- Is it an operation that neither reads nor writes the heap? -/
def isPop (P : Program) (pu : Pures) : Op → Bool
  | .alloc _ | .box _ _ | .load _ _ | .store _ _ _ | .buildSlice _ _ _ | .makeMap _ _ | .makeSlice _ _ _ | .lookup _ _ _ _ | .mapUpdate _ _ _ _ | .insert _ _ _ _ => false
  | .convert src dst _ => !(decide (isBytes P dst = true ∧ descOf P src = .string) || decide (isBytes P src = true ∧ descOf P dst = .string))
  | .call { callee := .builtin .len, argTypes := ts, .. } => !isMap P ts.toList
  | .call { callee := .builtin .min, .. } | .call { callee := .builtin .max, .. } => true
  | .call { callee := .value (.func g), .. } => (pu g).isSome
  | .call _ => false
  | _ => true

/-- What such an operation leaves. -/
def popC (P : Program) (pu : Pures) (r : Regs) (op : Op) : Option AV :=
  match op with
  | .call { callee := .value f, args := xs, .. } => match ev r f with
    | .func g cap => (pu g).bind fun s => s (xs.toList.map (ev r) ++ cap)
    | _ => none
  | o => pop P r o

theorem aop_isPop {pu : Pures} {ms : Bool} {r : Regs} {op : Op} (hp : isPop P pu op = true) (H : Heap) (K : K1) : aop P pu ms r H op K ↔ so (popC P pu r op) fun v => K v H := by
  cases op <;> try (first | exact Iff.rfl | (simp only [isPop] at hp; cases hp; done))
  case convert src dst x =>
    simp only [isPop, Bool.not_eq_true', Bool.or_eq_false_iff, decide_eq_false_iff_not] at hp
    show aConv P src dst (ev r x) H K ↔ _
    unfold aConv
    rw [if_neg hp.1, if_neg hp.2]
    exact Iff.rfl
  case call c =>
    obtain ⟨callee, xs, ts⟩ := c
    cases callee with
    | value f =>
      cases f <;> try (simp only [isPop] at hp; cases hp; done)
      case func g =>
        simp only [isPop] at hp
        obtain ⟨s, hs⟩ := Option.isSome_iff_exists.1 hp
        show callG P g (pu g) _ H K ↔ so ((pu g).bind _) _
        rw [hs]
        exact Iff.rfl
    | invoke x m => simp only [isPop] at hp; cases hp
    | builtin b =>
      cases b <;> try (simp only [isPop] at hp; cases hp; done)
      case len =>
        simp only [isPop, Bool.not_eq_true'] at hp
        show aBuiltin P ms .len ts.toList (xs.toList.map (ev r)) H K ↔ so (match xs.toList.map (ev r) with | [x] => lenT P ts.toList x | _ => none) _
        unfold aBuiltin
        generalize xs.toList.map (ev r) = l
        cases l with
        | nil => exact Iff.rfl
        | cons x l =>
          cases l with
          | nil =>
            show aLen P ts.toList x H K ↔ _
            unfold aLen
            rw [if_neg (by rw [hp]; simp)]
          | cons => exact Iff.rfl
      case min => exact Iff.rfl
      case max => exact Iff.rfl
theorem isPop_sound {pu : Pures} {ms : Bool} {r : Regs} {op : Op} (hp : isPop P pu op = true) {K : K1} (h : aop P pu ms r H op K) : ∃ z, popC P pu r op = some z ∧ K z H := by
  rw [aop_isPop hp] at h
  unfold so at h
  split at h
  · exact ⟨_, ‹_›, h⟩
  · exact h.elim
end
end Go.Abs

/-
  Regions that draw their order.
-/
namespace Go.Abs
open Go.RowKit
set_option linter.unusedSimpArgs false
set_option linter.unusedVariables false

section
variable {P : Program} {C C' : Cx} {H H' : Heap} {w w' : World}

theorem map_congr_ev {r r' : Regs} (xs : Array Operand) (h : ∀ x ∈ xs, ev r x = ev r' x) : xs.toList.map (ev r) = xs.toList.map (ev r') :=
  List.map_congr_left fun x hx => h x (by simpa using hx)
theorem parts_congr_ev {r r' : Regs} (ps : Array (Nat × Operand)) (h : ∀ x ∈ (ps.toList.map (·.2)).toArray, ev r x = ev r' x) :
    (ps.toList.map fun p => (p.1, ev r p.2)) = ps.toList.map fun p => (p.1, ev r' p.2) :=
  List.map_congr_left fun p hp => by rw [h p.2 (by simp only [List.mem_toArray]; exact List.mem_map_of_mem hp)]

theorem pop_congr {r r' : Regs} (op : Op) (h : ∀ x ∈ op.operands, ev r x = ev r' x) : pop P r op = pop P r' op := by
  cases op <;> simp only [Op.operands] at h <;> try rfl
  case move x => simp only [pop]; rw [h x (by simp)]
  case assign x => simp only [pop]; rw [h x (by simp)]
  case pick c a b => simp only [pop]; rw [h c (by simp), h a (by simp), h b (by simp)]
  case build t ps => simp only [pop]; rw [parts_congr_ev ps h]
  case nilCheck x => simp only [pop]; rw [h x (by simp)]
  case binOp o t x y t' => simp only [pop]; rw [h x (by simp), h y (by simp)]
  case unOp o t x => simp only [pop]; rw [h x (by simp)]
  case convert s d x => simp only [pop]; rw [h x (by simp)]
  case makeInterface t x => simp only [pop]; rw [h x (by simp)]
  case makeFunc fn first captured =>
    simp only [pop]
    rw [map_congr_ev first fun x hx => h x (by simp [hx]), map_congr_ev captured fun x hx => h x (by simp [hx])]
  case slice t x lo hi mx =>
    have e1 : ∀ d o, (∀ y, o = some y → ev r y = ev r' y) → intOf d r o = intOf d r' o := fun d o ho => by
      cases o with
      | none => rfl
      | some y => simp only [intOf, ho y rfl]
    have hx := h x (by simp)
    have hlo : ∀ d, intOf d r lo = intOf d r' lo := fun d => e1 d lo fun y hy => h y (by simp [hy])
    have hhi : ∀ d, intOf d r hi = intOf d r' hi := fun d => e1 d hi fun y hy => h y (by simp [hy])
    have hmx : ∀ y, mx = some y → ev r y = ev r' y := fun y hy => h y (by simp [hy])
    simp only [pop, sliceA, hx, hlo, hhi]
    cases mx with
    | none => rfl
    | some y =>
      cases hi with
      | none => rfl
      | some z => simp only [hmx y rfl]
  case fieldAddr t x f => simp only [pop]; rw [h x (by simp)]
  case field t x f => simp only [pop]; rw [h x (by simp)]
  case indexAddr t x i => simp only [pop]; rw [h x (by simp), h i (by simp)]
  case index t x i => simp only [pop]; rw [h x (by simp), h i (by simp)]
  case extract x i => simp only [pop]; rw [h x (by simp)]
  case call c =>
    obtain ⟨callee, args, ts⟩ := c
    have e := map_congr_ev args fun x hx => h x (by simp [Call.operands, hx])
    cases callee with
    | builtin b => cases b <;> first | rfl | (simp only [pop, e]; done) | simp [pop, e]
    | value f => rfl
    | invoke x m => rfl

theorem popC_congr {pu : Pures} {r r' : Regs} (op : Op) (h : ∀ x ∈ op.operands, ev r x = ev r' x) : popC P pu r op = popC P pu r' op := by
  have hp := pop_congr (P := P) op h
  cases op <;> try exact hp
  case call c =>
    obtain ⟨callee, args, ts⟩ := c
    simp only [Op.operands] at h
    have e := map_congr_ev args fun x hx => h x (by simp [Call.operands, hx])
    cases callee with
    | value f => simp only [popC, e]; rw [h f (by simp [Call.operands])]
    | builtin b => exact hp
    | invoke x m => exact hp
theorem aop_congr {pu : Pures} {ms : Bool} {r r' : Regs} (op : Op) (h : ∀ x ∈ op.operands, ev r x = ev r' x) (H : Heap) (K : K1) : aop P pu ms r H op K = aop P pu ms r' H op K := by
  have hp := pop_congr (P := P) op h
  cases op <;> simp only [aop, hp] <;> simp only [Op.operands] at h <;> try rfl
  case box t x => rw [h x (by simp)]
  case buildSlice t n ps => rw [parts_congr_ev ps h]
  case load t x => rw [h x (by simp)]
  case store t x y => rw [h x (by simp), h y (by simp)]
  case convert s d x => rw [h x (by simp)]
  case makeSlice t x y => rw [h x (by simp), h y (by simp)]
  case lookup t x y b => rw [h x (by simp), h y (by simp)]
  case mapUpdate t x y z => rw [h x (by simp), h y (by simp), h z (by simp)]
  case insert t x y z => rw [h x (by simp), h y (by simp), h z (by simp)]
  case makeMap t res => cases res <;> simp only [aop, hp]
  case call c =>
    obtain ⟨callee, args, ts⟩ := c
    have e := map_congr_ev args fun x hx => h x (by simp [Call.operands, hx])
    cases callee with
    | builtin b => simp only [aop, e]
    | value f => simp only [aop, e]; rw [h f (by simp [Call.operands])]
    | invoke x m => simp only [aop, hp]

theorem so_mono {m : Option AV} {K K' : AV → Prop} (h : ∀ x, K x → K' x) (hh : so m K) : so m K' := by
  unfold so at *; split <;> simp_all
theorem newId_mono {K K' : Nat → Prop} (h : ∀ x, K x → K' x) (hh : newId H K) : newId H K' := fun id hid => h _ (hh id hid)
theorem cellsAt_mono {o : Option AObj} {K K' : List AV → Prop} (h : ∀ x, K x → K' x) (hh : cellsAt o K) : cellsAt o K' := by
  unfold cellsAt at *; split at hh <;> simp_all
theorem mapAt_mono {o : Option AObj} {K K' : Option IntKind → List (Key × AV) → Prop} (h : ∀ x y, K x y → K' x y) (hh : mapAt o K) : mapAt o K' := by
  unfold mapAt at *; split at hh <;> simp_all
theorem keyK_mono {kk : Option IntKind} {x : AV} {K K' : Key → Prop} (h : ∀ x, K x → K' x) (hh : keyK kk x K) : keyK kk x K' := by
  unfold keyK at *; split at hh <;> simp_all
theorem srcOf_mono {k : Nat} {x : AV} {K K' : List (List AV) → Prop} (h : ∀ x, K x → K' x) (hh : srcOf k x H K) : srcOf k x H K' := by
  unfold srcOf at *
  split at hh
  · exact ⟨hh.1, h _ hh.2⟩
  · exact ⟨hh.1, h _ hh.2⟩
  · exact ⟨hh.1, cellsAt_mono (fun cs hc => ⟨hc.1, h _ hc.2⟩) hh.2⟩
  · exact hh.elim

theorem aConv_mono {src dst : TypeId} {x : AV} {K K' : K1} (h : ∀ x H', K x H' → K' x H') (hh : aConv P src dst x H K) : aConv P src dst x H K' := by
  unfold aConv at *
  by_cases c1 : isBytes P dst = true ∧ descOf P src = .string
  · rw [if_pos c1] at hh ⊢
    cases x <;> first | exact hh.elim | exact newId_mono (fun _ => h _ _) hh
  · rw [if_neg c1] at hh ⊢
    by_cases c2 : isBytes P src = true ∧ descOf P dst = .string
    · rw [if_pos c2] at hh ⊢
      exact ⟨hh.1, srcOf_mono (fun _ ⟨l, e, k⟩ => ⟨l, e, h _ _ k⟩) hh.2⟩
    · rw [if_neg c2] at hh ⊢
      exact so_mono (fun _ => h _ _) hh

theorem aLen_mono {ts : List TypeId} {x : AV} {K K' : K1} (h : ∀ x H', K x H' → K' x H') (hh : aLen P ts x H K) : aLen P ts x H K' := by
  unfold aLen at *
  by_cases c : isMap P ts = true
  · rw [if_pos c] at hh ⊢
    cases x <;> first | exact hh.elim | exact mapAt_mono (fun _ _ => h _ _) hh | exact h _ _ hh
  · rw [if_neg c] at hh ⊢
    exact so_mono (fun _ => h _ _) hh
theorem callG_mono {g : FuncId} {s : Option (List AV → Option AV)} {xs : List AV} {K K' : K1} (h : ∀ x H', K x H' → K' x H') (hh : callG P g s xs H K) : callG P g s xs H K' := by
  unfold callG at *
  split at hh
  · exact so_mono (fun _ => h _ _) hh
  · exact hh.mono h
theorem aop_mono {pu : Pures} {ms : Bool} {r : Regs} {op : Op} {K K' : K1} (h : ∀ x H', K x H' → K' x H') (hh : aop P pu ms r H op K) : aop P pu ms r H op K' := by
  unfold aop at *
  split at hh
  · unfold aAlloc at *; split at hh
    · exact ⟨hh.1, newId_mono (fun _ => h _ _) hh.2⟩
    · exact hh.elim
  · exact ⟨hh.1, newId_mono (fun _ => h _ _) hh.2⟩
  · unfold aLoad at *; split at hh
    · split at hh
      · exact cellsAt_mono (fun _ => so_mono fun _ => h _ _) hh
      · exact so_mono (fun _ => h _ _) hh
      · exact hh.elim
    · exact hh.elim
  · unfold aStore at *; split at hh
    · split at hh
      · exact cellsAt_mono (fun _ hc => ⟨hc.1, hc.2.1, hc.2.2.1, h _ _ hc.2.2.2⟩) hh
      · exact hh.elim
    · exact hh.elim
  · unfold aBuildSlice at *; split at hh
    · refine ⟨hh.1, hh.2.1, hh.2.2.1, hh.2.2.2.1, ?_⟩
      have := hh.2.2.2.2
      split at this
      · exact h _ _ this
      · exact this.elim
    · exact hh.elim
  · unfold aMakeMap at *; split at hh
    · exact newId_mono (fun _ => h _ _) hh
    · exact hh.elim
  · unfold aMakeSlice at *; split at hh
    · obtain ⟨h1, h2, h3, h4, h5, h6, h7⟩ := hh
      refine ⟨h1, h2, h3, h4, h5, h6, ?_⟩
      rcases h7 with ⟨a, b⟩ | ⟨a, b, c⟩
      · exact .inl ⟨a, newId_mono (fun _ => h _ _) b⟩
      · exact .inr ⟨a, b, newId_mono (fun _ => h _ _) c⟩
    · exact hh.elim
  · unfold aLookup at *; split at hh
    · refine ⟨hh.1, ?_⟩
      have := hh.2
      split at this
      · exact mapAt_mono (fun _ _ hc => ⟨hc.1, keyK_mono (fun _ hk => by split at hk <;> simp_all) hc.2⟩) this
      · split at this <;> simp_all
      · exact this.elim
    · exact hh.elim
  · unfold aUpdate at *; split at hh
    · split at hh
      · exact mapAt_mono (fun _ _ hc => ⟨hc.1, keyK_mono (fun _ => h _ _) hc.2⟩) hh
      · exact hh.elim
    · exact hh.elim
  · unfold aUpdate at *; split at hh
    · split at hh
      · exact mapAt_mono (fun _ _ hc => ⟨hc.1, keyK_mono (fun _ => h _ _) hc.2⟩) hh
      · exact hh.elim
    · exact hh.elim
  · exact aConv_mono h hh
  · unfold aCallV at *; split at hh
    · exact callG_mono h hh
    · exact hh.elim
  · unfold aBuiltin at *; split at hh
    · exact aLen_mono h hh
    · refine ⟨hh.1, ?_⟩
      have hh := hh.2
      unfold aAppend at *; split at hh
      · refine ⟨hh.1, hh.2.1, hh.2.2.1, srcOf_mono (fun new hs => ?_) hh.2.2.2⟩
        split at hs
        · exact ⟨hs.1, hs.2.1, hs.2.2.1, hs.2.2.2.1, hs.2.2.2.2.1, newId_mono (fun _ => h _ _) hs.2.2.2.2.2⟩
        · exact ⟨fun hn => h _ _ (hs.1 hn), fun hn => ⟨(hs.2 hn).1, (hs.2 hn).2.1, (hs.2 hn).2.2.1, newId_mono (fun _ hi => by split at hi <;> simp_all) (hs.2 hn).2.2.2⟩⟩
        · exact ⟨hs.1, hs.2.1, hs.2.2.1, hs.2.2.2.1, cellsAt_mono (fun _ hc => ⟨hc.1, newId_mono (fun _ => h _ _) hc.2⟩) hs.2.2.2.2⟩
        · exact hs.elim
      · exact hh.elim
    · unfold aCopy at *; split at hh
      · refine srcOf_mono (fun new hs => ?_) hh
        split at hs
        · exact ⟨hs.1, cellsAt_mono (fun _ hc => ⟨hc.1, h _ _ hc.2⟩) hs.2⟩
        · exact hs.elim
      · exact hh.elim
    · unfold aDelete at *; split at hh
      · split at hh
        · exact mapAt_mono (fun _ _ hc => ⟨hc.1, keyK_mono (fun _ => h _ _) hc.2⟩) hh
        · exact h _ _ hh
        · exact hh.elim
      · exact hh.elim
    · exact so_mono (fun _ => h _ _) hh
    · exact so_mono (fun _ => h _ _) hh
    · exact hh.elim
  · exact so_mono (fun _ => h _ _) hh
end
end Go.Abs

/-
  Regions that draw their order: every order, and the orders that stand for all.
-/
namespace Go.Abs
open Go.RowKit
set_option linter.unusedSimpArgs false
set_option linter.unusedVariables false

section
variable {P : Program} {C C' : Cx} {H H' : Heap} {w w' : World}

/-- One operation, and what is asked behind it. -/
def aopI (P : Program) (X : Steer) (ops : Array Oper) (i : Nat) (K : Regs → Heap → Prop) (r : Regs) (H : Heap) : Prop :=
  match ops[i]? with
  | some o => wantedA ops.toList r o.guard (aop P X.pure (msOf X o.dst) r H o.op fun v H' => K (put r o.dst v) H') (K (put r o.dst (.tup [])) H)
  | none => False
def aAny (P : Program) (X : Steer) (ops : Array Oper) : Nat → Array Bool → Regs → Heap → (Regs → Heap → Prop) → Prop
  | 0, listed, r, H, K => Region.ready .any ops listed = [] ∧ K r H
  | f + 1, listed, r, H, K => (Region.ready .any ops listed = [] → K r H) ∧ ∀ i ∈ Region.ready .any ops listed, aopI P X ops i (fun r' H' => aAny P X ops f (listed.setIfInBounds i true) r' H' K) r H

theorem aAny_sound {X : Steer} (hpu : PuOK P X.pure) {ops : Array Oper} {N : Nat} (hN : opsOK N ops.toList = true) {Q : Exit → Act → World → Prop} :
    ∀ (f : Nat) (listed : Array Bool) (r : Regs) (C : Cx) (H : Heap) (w : World) (a : Act) (K : Regs → Heap → Prop),
      aAny P X ops f listed r H K → Rel C H w → StOK C H w N r a → (∀ a' w', NPost C H w N K a' w' → Q .normal a' w') → wpAny P .any ops Q f listed a w := by
  intro f
  induction f with
  | zero => intro listed r C H w a K h hrel hst hQ; exact ⟨h.1, hQ a w ⟨r, C, H, hrel, Le.refl _ _ _, hst, h.2⟩⟩
  | succ f ih =>
    intro listed r C H w a K h hrel hst hQ
    refine ⟨fun h0 => hQ a w ⟨r, C, H, hrel, Le.refl _ _ _, hst, h.1 h0⟩, fun i hi => ?_⟩
    have h2 := h.2 i hi
    unfold aopI at h2
    unfold wpOp
    split at h2
    · rename_i o ho
      rw [ho]
      have hd : dstOK N o.dst = true := by
        unfold opsOK at hN
        rw [List.all_eq_true] at hN
        exact hN o (by have := Array.mem_of_getElem? ho; simpa using this)
      simp only
      rcases wanted_sound hst.regs h2 with ⟨h1, h2⟩ | ⟨h1, h2⟩
      · simp only [h1, if_true]
        refine .inl (aop_sound hpu hrel hst.regs o h2 fun C' H' w' x v g1 g2 g3 g4 => ?_)
        exact ih _ _ C' H' w' _ K g4 g1 ((hst.mono g2).put hd g3) fun a' w2 hp => hQ a' w2 (hp.trans g2)
      · simp only [h1, Bool.false_eq_true, if_false]
        exact ih _ _ C H w _ K h2 hrel (hst.put hd (.tup [] #[] rfl (by simp))) hQ
    · exact h2.elim

/-! ### Some operations may be taken first -/
theorem ev_put {r : Regs} {d : Option Nat} {v : AV} {x : Operand} (h : ∀ t, d = some t → x ≠ .tmp t) : ev (put r d v) x = ev r x := by
  cases d with
  | none => rfl
  | some d =>
    cases x with
    | tmp t =>
      have : t ≠ d := fun e => h d rfl (by rw [e])
      simp [put, ev, upd, this]
    | _ => rfl
theorem put_comm (r : Regs) {c d : Option Nat} (u v : AV) (h : ∀ t, c = some t → d ≠ some t) : put (put r c u) d v = put (put r d v) c u := by
  cases c with
  | none => rfl
  | some c =>
    cases d with
    | none => rfl
    | some d =>
      have hne : c ≠ d := fun e => h c rfl (by rw [e])
      funext i
      simp only [put, upd]
      by_cases h1 : i = d
      · subst h1; rw [if_pos rfl, if_neg (Ne.symm hne), if_pos rfl]
      · rw [if_neg h1]
        by_cases h2 : i = c
        · subst h2; rw [if_pos rfl, if_pos rfl]
        · rw [if_neg h2, if_neg h2, if_neg h1]

section
variable {ops : Array Oper}
theorem looks_op {o : Oper} {d : Option Nat} {r : Regs} {v : AV} (h : ∀ t, d = some t → t ∉ o.looksAt ops) : ∀ x ∈ o.op.operands, ev (put r d v) x = ev r x := fun x hx => ev_put fun t ht hxt => h t ht (by
  subst hxt
  unfold Oper.looksAt
  exact List.mem_append_left _ (List.mem_filterMap.2 ⟨.tmp t, by simpa using hx, rfl⟩))
theorem looks_guard {o : Oper} {d : Option Nat} {r : Regs} {v : AV} (h : ∀ t, d = some t → t ∉ o.looksAt ops) (Ky Kn : Prop) : wantedA ops.toList (put r d v) o.guard Ky Kn = wantedA ops.toList r o.guard Ky Kn := by
  cases d with
  | none => rfl
  | some d =>
    unfold wantedA
    cases hg : o.guard with
    | none => rfl
    | some gw =>
      obtain ⟨g, want⟩ := gw
      simp only [Array.getElem?_toList]
      cases ht : (ops[g]?).bind (·.dst) with
      | none => rfl
      | some t =>
        have hne : t ≠ d := fun e => h d rfl (by
          subst e
          unfold Oper.looksAt
          refine List.mem_append_right _ ?_
          rw [hg]
          simp only [ht]
          simp)
        simp only [put, upd, if_neg hne]
end

theorem wantedA_mono {all : List Oper} {r : Regs} {g : Option (Nat × Bool)} {Ky Kn Ky' Kn' : Prop} (h1 : Ky → Ky') (h2 : Kn → Kn') (h : wantedA all r g Ky Kn) : wantedA all r g Ky' Kn' := by
  unfold wantedA at *
  split at h
  · exact h1 h
  · split at h
    · split at h
      · split at h
        · rename_i hb; simp only [hb, if_true]; exact h1 h
        · rename_i hb; simp only [hb, if_false]; exact h2 h
      · exact h2 h
      · exact h.elim
    · exact h.elim

theorem so_some {m : Option AV} {K : AV → Prop} (h : so m K) : ∃ z, m = some z ∧ K z := by
  unfold so at h
  split at h
  · exact ⟨_, rfl, h⟩
  · exact h.elim
/-- An operation that only reads. -/
def isRead : Op → Bool
  | .load _ _ | .lookup _ _ _ _ => true
  | _ => false
/-- It has one value in a state of the heap, and leaves the heap alone. -/
def isStill (P : Program) (pu : Pures) (op : Op) : Bool := isPop P pu op || isRead op

theorem still_val {pu : Pures} {ms : Bool} {r : Regs} {op : Op} (hs : isStill P pu op = true) {K : K1} (h : aop P pu ms r H op K) : ∃ z, ∀ ms' (K' : K1), aop P pu ms' r H op K' ↔ K' z H := by
  unfold isStill at hs
  rw [Bool.or_eq_true] at hs
  rcases hs with hs | hs
  · obtain ⟨z, h1, h2⟩ := isPop_sound hs h
    exact ⟨z, fun ms' K' => by rw [aop_isPop hs, h1]; exact Iff.rfl⟩
  · cases op <;> try (simp only [isRead] at hs; cases hs; done)
    case load t a =>
      have h : aLoad P t (ev r a) H K := h
      suffices ∃ z, ∀ (K' : K1), aLoad P t (ev r a) H K' ↔ K' z H from by
        obtain ⟨z, h1⟩ := this
        exact ⟨z, fun ms' K' => h1 K'⟩
      generalize ev r a = av at *
      unfold aLoad at h ⊢
      split at h
      · rename_i i hi
        split at h
        · rename_i id off
          unfold cellsAt at h
          split at h
          · rename_i cs hcs
            obtain ⟨z, h1, h2⟩ := so_some h
            exact ⟨z, fun K' => by simp only [cellsAt, hcs, h1]; exact Iff.rfl⟩
          · exact h.elim
        · rename_i cs
          obtain ⟨z, h1, h2⟩ := so_some h
          exact ⟨z, fun K' => by simp only [h1]; exact Iff.rfl⟩
        · exact h.elim
      · exact h.elim
    case lookup t m k ok =>
      have h : aLookup P t (ev r m) (ev r k) ok H K := h
      suffices ∃ z, ∀ (K' : K1), aLookup P t (ev r m) (ev r k) ok H K' ↔ K' z H from by
        obtain ⟨z, h1⟩ := this
        exact ⟨z, fun ms' K' => h1 K'⟩
      generalize ev r m = mv at *
      generalize ev r k = kv at *
      unfold aLookup at h ⊢
      split at h
      · rename_i kt e he
        obtain ⟨hz, h⟩ := h
        simp only [hz, true_and]
        split at h
        · rename_i id
          unfold mapAt at h
          split at h
          · rename_i kk es hes
            simp only [mapAt, hes]
            obtain ⟨h1, h⟩ := h
            unfold keyK at h
            split at h
            · rename_i key hkey
              simp only [keyK, hkey, h1, true_and]
              subst h1
              cases ok with
              | false => exact ⟨_, fun K' => by simp only [hkey]; exact Iff.rfl⟩
              | true => exact ⟨_, fun K' => by simp only [hkey]; exact Iff.rfl⟩
            · exact h.elim
          · exact h.elim
        · cases ok with
          | false => exact ⟨_, fun K' => Iff.rfl⟩
          | true => exact ⟨_, fun K' => Iff.rfl⟩
        · exact h.elim
      · exact h.elim

/-! ### An operation may be taken first -/
/-- In this state operation 'o' leaves 'z' in its slot, and the heap alone. -/
def Val (P : Program) (pu : Pures) (ops : Array Oper) (o : Oper) (z : AV) (r : Regs) (H : Heap) : Prop :=
  wantedA ops.toList r o.guard (∀ ms (K : K1), aop P pu ms r H o.op K ↔ K z H) (z = .tup [])
def ValP (P : Program) (pu : Pures) (ops : Array Oper) (o : Oper) (z : AV) (r : Regs) : Prop := wantedA ops.toList r o.guard (isPop P pu o.op = true ∧ popC P pu r o.op = some z) (z = .tup [])

theorem ValP.val {pu : Pures} {ops : Array Oper} {o : Oper} {z : AV} {r : Regs} (h : ValP P pu ops o z r) (H : Heap) : Val P pu ops o z r H :=
  wantedA_mono (fun ⟨h1, h2⟩ ms K => by rw [aop_isPop h1, h2]; exact Iff.rfl) (fun h => h) h
theorem Val.run {X : Steer} {ops : Array Oper} {i : Nat} {o : Oper} (ho : ops[i]? = some o) {z : AV} {r : Regs} {H : Heap} (h : Val P X.pure ops o z r H) {K : Regs → Heap → Prop} (hK : K (put r o.dst z) H) : aopI P X ops i K r H := by
  unfold aopI
  rw [ho]
  exact wantedA_mono (fun h => (h _ _).2 hK) (fun h => by rw [← h]; exact hK) h
theorem Val.put {pu : Pures} {ops : Array Oper} {o : Oper} {z : AV} {r : Regs} {H : Heap} (h : Val P pu ops o z r H) {d : Option Nat} {v : AV} (hd : ∀ t, d = some t → t ∉ o.looksAt ops) : Val P pu ops o z (Go.Abs.put r d v) H := by
  unfold Val at *
  rw [looks_guard hd]
  exact wantedA_mono (fun h ms K => by rw [aop_congr o.op (looks_op hd)]; exact h ms K) (fun h => h) h
theorem ValP.put {pu : Pures} {ops : Array Oper} {o : Oper} {z : AV} {r : Regs} (h : ValP P pu ops o z r) {d : Option Nat} {v : AV} (hd : ∀ t, d = some t → t ∉ o.looksAt ops) : ValP P pu ops o z (Go.Abs.put r d v) := by
  unfold ValP at *
  rw [looks_guard hd]
  exact wantedA_mono (fun ⟨h1, h2⟩ => ⟨h1, by rw [popC_congr o.op (looks_op hd)]; exact h2⟩) (fun h => h) h

theorem aAny_first {X : Steer} {ops : Array Oper} {i : Nat} {oi : Oper} {z : AV} (hi : ops[i]? = some oi) (D : Nat → Bool) {K : Regs → Heap → Prop} :
    ∀ (f : Nat) (listed : Array Bool) (r : Regs) (H : Heap),
      (∀ j, D j = true → j ≠ i → listed.getD j true = false ∧ ∃ oj, ops[j]? = some oj ∧ ∃ e ∈ oj.after, Region.binds .any e = true ∧ D e.on = true) →
      (∀ j oj, ops[j]? = some oj → j ≠ i → listed.getD j true = false → D j = false → oi.apart ops oj = true ∧ (ValP P X.pure ops oi z r ∨ isStill P X.pure oj.op = true)) →
      i ∈ Region.ready .any ops listed → Val P X.pure ops oi z r H → aAny P X ops f (listed.setIfInBounds i true) (put r oi.dst z) H K → aAny P X ops (f + 1) listed r H K := by
  intro f
  induction f with
  | zero =>
    intro listed r H hD hfree hr hv h
    refine ⟨fun h0 => (by rw [h0] at hr; cases hr), fun j hj => ?_⟩
    by_cases hji : j = i
    · subst hji; exact hv.run hi h
    · have := ready_mono hj hji
      rw [h.1] at this
      cases this
  | succ f ih =>
    intro listed r H hD hfree hr hv h
    refine ⟨fun h0 => (by rw [h0] at hr; cases hr), fun j hj => ?_⟩
    by_cases hji : j = i
    · subst hji; exact hv.run hi h
    · have h1 := h.2 j (ready_mono hj hji)
      obtain ⟨hjun, oj, hoj, hall⟩ := mem_ready.1 hj
      have hnot : D j = false := by
        cases hDj : D j with
        | false => rfl
        | true =>
          exfalso
          obtain ⟨_, oj', hoj', e, he, hb, hDe⟩ := hD j hDj hji
          rw [hoj] at hoj'
          cases hoj'
          have h1 := hall e he hb
          have h0 : listed.getD e.on true = false := by
            by_cases hei : e.on = i
            · rw [hei]; exact (mem_ready.1 hr).1
            · exact (hD e.on hDe hei).1
          rcases Nat.lt_or_ge e.on listed.size with h' | h'
          · simp [h'] at h0 h1; rw [h0] at h1; cases h1
          · simp [Array.getElem?_eq_none h'] at h1
      obtain ⟨hap, hkind⟩ := hfree j oj hoj hji hjun hnot
      obtain ⟨a1, a2, a3⟩ := Oper.apart_spec hap
      unfold aopI at h1 ⊢
      rw [hoj] at h1 ⊢
      simp only at h1 ⊢
      rw [looks_guard a1] at h1
      -- what follows
      have next : ∀ (u : AV) (H' : Heap), Val P X.pure ops oi z (put r oj.dst u) H' → (ValP P X.pure ops oi z (put r oj.dst u) ∨ True) → aAny P X ops f ((listed.setIfInBounds i true).setIfInBounds j true) (put (put r oi.dst z) oj.dst u) H' K →
          aAny P X ops (f + 1) (listed.setIfInBounds j true) (put r oj.dst u) H' K := by
        intro u H' hv' _ h3
        refine ih _ _ H' (fun k hk hki => ?_) (fun k ok hk hki hun hno => ?_) (ready_mono hr (Ne.symm hji)) hv' ?_
        · obtain ⟨c1, c2⟩ := hD k hk hki
          refine ⟨?_, c2⟩
          rw [getD_set_ne true (fun e => by rw [e, hk] at hnot; cases hnot)]
          exact c1
        · have hun' : listed.getD k true = false := by
            by_cases hjk : j = k
            · subst hjk; exact hjun
            · rw [getD_set_ne true hjk] at hun; exact hun
          obtain ⟨b1, b2⟩ := hfree k ok hk hki hun' hno
          exact ⟨b1, b2.imp (fun h => h.put a3) id⟩
        · rw [Array.setIfInBounds_comm _ _ hji, ← put_comm r z u a2]
          exact h3
      refine wantedA_mono (fun h2 => ?_) (fun h2 => next _ H (hv.put a3) (.inr trivial) h2) h1
      rw [aop_congr oj.op (looks_op a1)] at h2
      rcases hkind with hkind | hkind
      · exact aop_mono (fun u H' h3 => next u H' ((hkind.put a3).val H') (.inr trivial) h3) h2
      · obtain ⟨y, hy⟩ := still_val hkind h2
        exact (hy _ _).2 (next y H (hv.put a3) (.inr trivial) ((hy _ _).1 h2))

def headIs (i : Nat) (o : List Nat) : Bool := match o with | j :: _ => j == i | [] => false
theorem headIs_cons {i : Nat} {o : List Nat} (h : headIs i o = true) : o = i :: o.tail := by
  cases o with
  | nil => cases h
  | cons j o => simp only [headIs, beq_iff_eq] at h; subst h; rfl
/-- Operation 'i' and all that waits for it, as the bits of a number. -/
def desc (ops : Array Oper) (i : Nat) : Nat := (List.range ops.size).foldl (fun acc j => match ops[j]? with
  | some oj => if oj.after.any (fun e => Region.binds .any e && acc.testBit e.on) then acc ||| (1 <<< j) else acc
  | none => acc) (1 <<< i)
/-- May operation 'i' be taken first? -/
def freeS (P : Program) (pu : Pures) (ops : Array Oper) (listed : Array Bool) (i : Nat) : Bool :=
  match ops[i]? with
  | none => false
  | some oi =>
    let d := desc ops i
    isStill P pu oi.op && decide (d < 1 <<< ops.size) && (List.range ops.size).all fun j => j == i || match ops[j]? with
      | some oj => if d.testBit j then !listed.getD j true && oj.after.any (fun e => Region.binds .any e && d.testBit e.on)
          else listed.getD j true || (oi.apart ops oj && (isPop P pu oi.op || isStill P pu oj.op))
      | none => true
/-- Do these orders stand for all? -/
def okOrd (P : Program) (pu : Pures) (ops : Array Oper) : Nat → Array Bool → List (List Nat) → Bool
  | 0, listed, os => (Region.ready .any ops listed).isEmpty && os.any (·.isEmpty)
  | f + 1, listed, os =>
    let rs := Region.ready .any ops listed
    if rs.isEmpty then os.any (·.isEmpty)
    else
      match os with
      | (i :: _) :: _ =>
        (os.all (headIs i) && rs.contains i && freeS P pu ops listed i && okOrd P pu ops f (listed.setIfInBounds i true) (os.map List.tail)) ||
        rs.all fun i => match os.filter (headIs i) with
          | [o] => okOrd P pu ops f (listed.setIfInBounds i true) [o.tail]
          | _ => false
      | _ => false

theorem okOrd_sound {X : Steer} {ops : Array Oper} {K : Regs → Heap → Prop} : ∀ (f : Nat) (listed : Array Bool) (os : List (List Nat)) (r : Regs) (H : Heap), okOrd P X.pure ops f listed os = true →
    (∀ o ∈ os, aops P X ops.toList o r H K) → aAny P X ops f listed r H K := by
  intro f
  induction f with
  | zero =>
    intro listed os r H hok hos
    simp only [okOrd, Bool.and_eq_true, List.isEmpty_iff, List.any_eq_true] at hok
    obtain ⟨h1, o, ho, h2⟩ := hok
    subst h2
    exact ⟨h1, hos _ ho⟩
  | succ f ih =>
    intro listed os r H hok hos
    simp only [okOrd] at hok
    split at hok
    · rename_i hrs
      simp only [List.any_eq_true, List.isEmpty_iff] at hok hrs
      obtain ⟨o, ho, h2⟩ := hok
      subst h2
      exact ⟨fun _ => hos _ ho, by rw [hrs]; simp⟩
    · rename_i hrs
      split at hok
      · rename_i i o0 os'
        rw [Bool.or_eq_true] at hok
        rcases hok with hok | hok
        · simp only [Bool.and_eq_true] at hok
          obtain ⟨⟨⟨h1, h2⟩, h4⟩, h5⟩ := hok
          unfold freeS at h4
          split at h4
          · cases h4
          · rename_i oi hoi
            rw [Bool.and_eq_true, Bool.and_eq_true, decide_eq_true_eq] at h4
            obtain ⟨⟨h3, hdl⟩, h4⟩ := h4
            rw [List.all_eq_true] at h4
            have hall : ∀ o ∈ (i :: o0) :: os', o = i :: o.tail := fun o ho => headIs_cons (by rw [List.all_eq_true] at h1; exact h1 o ho)
            have one : ∀ o ∈ (i :: o0) :: os', wantedA ops.toList r oi.guard (aop P X.pure (msOf X oi.dst) r H oi.op fun v H' => aops P X ops.toList o.tail (put r oi.dst v) H' K) (aops P X ops.toList o.tail (put r oi.dst (.tup [])) H K) := fun o ho => by
              have h := hos o ho
              rw [hall o ho] at h
              unfold aops at h
              rw [Array.getElem?_toList, hoi] at h
              exact h
            -- its value
            have hz : ∃ z, Val P X.pure ops oi z r H ∧ (isPop P X.pure oi.op = true → ValP P X.pure ops oi z r) ∧ ∀ o ∈ (i :: o0) :: os', aops P X ops.toList o.tail (put r oi.dst z) H K := by
              have hw := one _ (List.mem_cons_self ..)
              unfold wantedA at hw one
              unfold Val ValP wantedA
              cases hg : oi.guard with
              | none =>
                simp only [hg] at hw one ⊢
                obtain ⟨z, hz⟩ := still_val h3 hw
                refine ⟨z, fun ms K => hz ms K, fun hp => ⟨hp, ?_⟩, fun o ho => (hz _ _).1 (one o ho)⟩
                obtain ⟨z', z1, z2⟩ := isPop_sound hp hw
                have := (hz (msOf X oi.dst) (fun v _ => v = z')).1 (by rw [aop_isPop hp, z1]; exact rfl)
                rw [this]; exact z1
              | some gw =>
                obtain ⟨g, want⟩ := gw
                simp only [hg] at hw one ⊢
                split at hw
                · rename_i d hd
                  simp only [hd] at one
                  split at hw
                  · rename_i b hb
                    simp only [hb] at one
                    by_cases hbw : b = want
                    · simp only [hbw, if_true] at hw one ⊢
                      obtain ⟨z, hz⟩ := still_val h3 hw
                      refine ⟨z, fun ms K => hz ms K, fun hp => ⟨hp, ?_⟩, fun o ho => (hz _ _).1 (one o ho)⟩
                      obtain ⟨z', z1, z2⟩ := isPop_sound hp hw
                      have := (hz (msOf X oi.dst) (fun v _ => v = z')).1 (by rw [aop_isPop hp, z1]; exact rfl)
                      rw [this]; exact z1
                    · simp only [hbw, if_false] at hw one ⊢
                      exact ⟨_, rfl, fun _ => rfl, one⟩
                  · rename_i hb
                    simp only [hb] at one
                    exact ⟨_, rfl, fun _ => rfl, one⟩
                  · exact hw.elim
                · exact hw.elim
            obtain ⟨z, z1, z2, z3⟩ := hz
            refine aAny_first (z := z) hoi (fun j => (desc ops i).testBit j) f listed r H (fun j hDj hne => ?_) (fun j oj hj hne hun hno => ?_) (by simpa using h2) z1 (ih _ _ _ H h5 (fun o ho => ?_))
            · have hjs : j < ops.size := by
                rcases Nat.lt_or_ge j ops.size with h' | h'
                · exact h'
                · have : desc ops i < 2 ^ j := Nat.lt_of_lt_of_le hdl (by rw [Nat.shiftLeft_eq, Nat.one_mul]; exact Nat.pow_le_pow_right (by omega) h')
                  rw [Nat.testBit_lt_two_pow this] at hDj
                  cases hDj
              have := h4 j (by rw [List.mem_range]; exact hjs)
              have hj : ops[j]? = some ops[j] := Array.getElem?_eq_getElem hjs
              simp only [hj, Bool.or_eq_true, beq_iff_eq, hne, false_or, hDj, if_true, Bool.and_eq_true, Bool.not_eq_true'] at this
              obtain ⟨t1, t2⟩ := this
              obtain ⟨e, he, hb⟩ := Array.any_eq_true'.1 t2
              rw [Bool.and_eq_true] at hb
              exact ⟨t1, _, hj, e, he, hb.1, hb.2⟩
            · have := h4 j (by rw [List.mem_range]; exact (Array.getElem?_eq_some_iff.1 hj).1)
              simp only [hj, Bool.or_eq_true, beq_iff_eq, hne, false_or, hno, Bool.false_eq_true, if_false, hun, Bool.and_eq_true] at this
              exact ⟨this.1, this.2.imp z2 id⟩
            · obtain ⟨o', ho', rfl⟩ := List.mem_map.1 ho
              exact z3 o' ho'
        · rw [List.all_eq_true] at hok
          refine ⟨fun h0 => absurd (by simp [h0]) hrs, fun j hj => ?_⟩
          have hj2 := hok j hj
          split at hj2
          · rename_i o hfil
            have hmem : o ∈ ((i :: o0) :: os').filter (headIs j) := by rw [hfil]; exact List.mem_cons_self ..
            rw [List.mem_filter] at hmem
            have h := hos o hmem.1
            rw [headIs_cons hmem.2] at h
            unfold aops at h
            unfold aopI
            rw [Array.getElem?_toList] at h
            split at h
            · rename_i oj hoj
              rw [hoj]
              have goOn : ∀ r' H', aops P X ops.toList o.tail r' H' K → aAny P X ops f (listed.setIfInBounds j true) r' H' K := fun r' H' ha => ih _ _ _ H' hj2 (fun o' ho' => by
                rw [List.mem_singleton] at ho'; subst ho'; exact ha)
              exact wantedA_mono (fun h => aop_mono (fun v H' hh => goOn _ _ hh) h) (fun h => goOn _ _ h) h
            · exact h.elim
          · cases hj2
      · cases hok
end
end Go.Abs
