/-
  An abstract machine over pure values, and that it tells what the program does (part 3 of 4).
-/
import Derived.Test.YthkfcmnpobobbaaGreatDoorAbs2
import Derived.Lib.UnsafeStr
import Derived.Lib.Builder
import Derived.Lib.ConvBytes

/-
  Maps; copy; make of a slice; between strings and bytes.
-/
namespace Go.Abs
open Go.RowKit
set_option linter.unusedSimpArgs false
set_option linter.unusedVariables false

section
variable {P : Program} {C C' : Cx} {H H' : Heap} {w w' : World}

def kdesc0 : KK0 → TypeDesc
  | .str => .string
  | .int k => .int k
def FlatOK (P : Program) : Nat → List Field → List KK0 → Prop
  | _, [], [] => True
  | n, g :: gs, k :: ks => g.offset = n ∧ (∃ i, ti P g.type = some i ∧ i.desc.agg = false) ∧ P.underlying g.type = some (kdesc0 k) ∧ FlatOK P (n + 1) gs ks
  | _, _, _ => False
/-- What is known of a type of keys. -/
def KTy (P : Program) (kt : TypeId) : KK → Prop
  | .str => P.underlying kt = some .string
  | .int k => P.underlying kt = some (.int k)
  | .st ks => ∃ gs : Array Field, P.underlying kt = some (.struct gs) ∧ gs.toList.all (fun f => f.name != "_") = true ∧ P.stoodInHeld kt = false ∧ FlatOK P 0 gs.toList ks
theorem flat_ok : ∀ (gs : List Field) (n : Nat) (ks : List KK0), flatK P n (gs.map fun f => (f.offset, f.type)) = some ks → FlatOK P n gs ks := by
  intro gs
  induction gs with
  | nil => intro n ks h; simp only [List.map_nil, flatK] at h; injection h with h; subst h; trivial
  | cons g gs ih =>
    intro n ks h
    simp only [List.map_cons, flatK] at h
    have isat : ∀ td, descOf P g.type = td → td ≠ .other → td.agg = false → ∃ i, ti P g.type = some i ∧ i.desc.agg = false := by
      intro td h1 h2 h3
      unfold descOf at h1
      split at h1
      · rename_i i hi; exact ⟨i, hi, by rw [h1]; exact h3⟩
      · exact absurd h1.symm h2
    split at h
    · rename_i ho
      split at h
      · rename_i l hd hl
        injection h with h; subst h
        exact ⟨ho, isat _ hd (by simp) rfl, desc_string hd, ih _ _ hl⟩
      · rename_i l j hd hl
        injection h with h; subst h
        exact ⟨ho, isat _ hd (by simp) rfl, desc_int hd, ih _ _ hl⟩
      · cases h
    · cases h
theorem kkOf_ok {k : TypeId} {kk : KK} (h : kkOf P k = some kk) : KTy P k kk := by
  unfold kkOf at h
  split at h
  · rename_i i hi
    obtain ⟨info, d, h1, h2, -, -, -, h3⟩ := ti_some hi
    split at h
    · rename_i hd
      injection h with h; subst h
      exact desc_string (by unfold descOf; rw [hi]; exact hd)
    · rename_i j hd
      injection h with h; subst h
      exact desc_int (by unfold descOf; rw [hi]; exact hd)
    · rename_i fs hd
      split at h
      · rename_i hh
        simp only [Option.map_eq_some_iff] at h
        obtain ⟨ks, hk, rfl⟩ := h
        rw [hd] at h3
        obtain ⟨gs, rfl, rfl, hall⟩ := td_struct h3
        refine ⟨gs, h2, hall, ?_, flat_ok _ _ _ hk⟩
        unfold ti at hi; rw [h1, h2] at hi; injection hi with hi; subst hi; exact hh
      · cases h
    · cases h
  · cases h
theorem mapE_some {t : TypeId} {kk : KK} {e : TI} (h : mapE P t = some (kk, e)) : ∃ kt et, P.underlying t = some (.map kt et) ∧ ti P et = some e ∧
    KTy P kt kk := by
  unfold mapE at h
  split at h
  · rename_i kt et hd
    obtain ⟨d, d1, d2⟩ := descOf_eq hd (by simp)
    have := (td_plain d2).2.2.2.2.2.1 _ _ rfl
    subst this
    split at h
    · rename_i kk' i hk hi
      injection h with h
      injection h with h1 h2
      subst h1 h2
      exact ⟨kt, et, d1, hi, kkOf_ok hk⟩
    · cases h
  · cases h

theorem keyOf0_sound {kk : KK0} {x : AV} {v : Value} {key : Key0} (h : keyOf0 kk x = some key) (hx : Repr C H w x v) : keyV0 kk key v := by
  unfold keyOf0 at h
  split at h
  · injection h with h; subst h; cases hx; rename_i bs hbs; exact ⟨bs, rfl, hbs⟩
  · split at h
    · rename_i hk; injection h with h; subst h hk; cases hx; rfl
    · cases h
  · cases h
theorem keysOf0_sound : ∀ (ks : List KK0) (cs : List AV) (vs : List Value) (l : List Key0), keysOf0 ks cs = some l → cs.length = vs.length → (∀ j, j < cs.length → Repr C H w (cs.getD j .junk) (vs.getD j default)) → keyVs ks l vs := by
  intro ks
  induction ks with
  | nil =>
    intro cs vs l h h1 h2
    cases cs with
    | nil =>
      simp only [keysOf0] at h; injection h with h; subst h
      have : vs = [] := List.eq_nil_of_length_eq_zero (by simpa using h1.symm)
      subst this; trivial
    | cons => simp [keysOf0] at h
  | cons k ks ih =>
    intro cs vs l h h1 h2
    cases cs with
    | nil => simp [keysOf0] at h
    | cons c cs =>
      simp only [keysOf0] at h
      split at h
      · rename_i a l' ha hl
        injection h with h; subst h
        cases vs with
        | nil => simp at h1
        | cons v vs =>
          exact ⟨keyOf0_sound ha (by simpa using h2 0 (by simp)), ih _ _ _ hl (by simpa using h1) (fun j hj => by simpa using h2 (j + 1) (by simp; omega))⟩
      · cases h
theorem keyOf_sound {kk : KK} {x : AV} {v : Value} {key : Key} (h : keyOf kk x = some key) (hx : Repr C H w x v) : keyV kk key v := by
  unfold keyOf at h
  split at h
  · injection h with h; subst h; cases hx; rename_i bs hbs; exact ⟨bs, rfl, hbs⟩
  · split at h
    · rename_i hk; injection h with h; subst h hk; cases hx; rfl
    · cases h
  · simp only [Option.map_eq_some_iff] at h
    obtain ⟨l, hl, rfl⟩ := h
    cases hx with
    | agg _ vs hs ho hr =>
      exact ⟨vs, rfl, keysOf0_sound _ _ _ _ hl (by simpa using hs) (fun j hj => by
        have := hr j hj
        simpa [Array.getD_eq_getD_getElem?, List.getD] using this)⟩
  · cases h

theorem same0 {k : KK0} {a b : Key0} {u v : Value} (ha : keyV0 k a u) (hb : keyV0 k b v) {t : TypeId} (ht : P.underlying t = some (kdesc0 k)) (d : Nat) (w' : World) :
    (Op.equalIn (d + 1) t u v).run P w' = .ok (decide (a = b)) w' := by
  cases k with
  | str =>
    cases a <;> cases b <;> simp only [keyV0] at ha hb
    obtain ⟨s, rfl, rfl⟩ := ha
    obtain ⟨s', rfl, rfl⟩ := hb
    rw [run_equalIn_string _ _ _ _ _ ht, ByteArray.toList_eq, ByteArray.toList_eq]
    congr 1
    rw [Bool.eq_iff_iff]; simp
  | int j =>
    cases a <;> cases b <;> simp only [keyV0] at ha hb
    subst ha hb
    rw [run_equalIn_int _ _ _ _ _ _ _ ht]
    congr 1
    rw [Bool.eq_iff_iff]; simp
theorem part0 {t : TypeId} (ht : ∃ i, ti P t = some i ∧ i.desc.agg = false) {vs : Array Value} {n : Nat} {v : Value} (h : vs[n]? = some v) (w' : World) : (part t vs n).run P w' = .ok v w' := by
  obtain ⟨i, h1, h2⟩ := ht
  simp only [part, Sem.run_bind, run_isAgg h1, h2, Result.andThen_ok, h, Bool.false_eq_true, if_false]; rfl
theorem drop_cons {α : Type} {l : List α} {n : Nat} {a : α} {r : List α} (h : l.drop n = a :: r) : l[n]? = some a ∧ l.drop (n + 1) = r := by
  refine ⟨?_, ?_⟩
  · have := congrArg List.head? h; simpa [List.head?_drop] using this
  · have := congrArg List.tail h; simpa [List.tail_drop] using this
theorem eqFlat {us vs : Array Value} (d : Nat) : ∀ (gs : List Field) (ks : List KK0) (n : Nat) (a b : List Key0), gs.all (fun f => f.name != "_") = true → FlatOK P n gs ks → keyVs ks a (us.toList.drop n) → keyVs ks b (vs.toList.drop n) →
    ∀ w', (Op.eqFields (d + 1) us vs gs).run P w' = .ok (decide (a = b)) w' := by
  intro gs
  induction gs with
  | nil =>
    intro ks n a b _ hf ha hb w'
    cases ks with
    | nil =>
      cases a with
      | nil =>
        cases b with
        | nil => simp [Op.eqFields]
        | cons => simp [keyVs] at hb
      | cons => simp [keyVs] at ha
    | cons => exact hf.elim
  | cons g gs ih =>
    intro ks n a b hall hf ha hb w'
    simp only [List.all_cons, Bool.and_eq_true, bne_iff_ne] at hall
    cases ks with
    | nil => exact hf.elim
    | cons k ks =>
      obtain ⟨f1, f2, f3, f4⟩ := hf
      cases a with
      | nil => simp [keyVs] at ha
      | cons a as =>
      cases b with
      | nil => simp [keyVs] at hb
      | cons b bs =>
      cases hu : us.toList.drop n with
      | nil => rw [hu] at ha; exact ha.elim
      | cons u us' =>
      cases hv : vs.toList.drop n with
      | nil => rw [hv] at hb; exact hb.elim
      | cons v vs' =>
      rw [hu] at ha; rw [hv] at hb
      obtain ⟨u1, u2⟩ := drop_cons hu
      obtain ⟨v1, v2⟩ := drop_cons hv
      obtain ⟨a1, a2⟩ := ha
      obtain ⟨b1, b2⟩ := hb
      subst f1
      have pu := part0 f2 (vs := us) (by simpa using u1) w'
      have pv := part0 f2 (vs := vs) (by simpa using v1) w'
      simp only [Op.eqFields, Sem.run_ite, if_pos hall.1, Sem.run_bind, pu, pv, Result.andThen_ok, same0 a1 b1 f3]
      by_cases he : a = b
      · subst he
        simp only [decide_true, if_true]
        rw [ih _ _ _ _ hall.2 f4 (by rw [u2]; exact a2) (by rw [v2]; exact b2)]
        simp
      · simp [he]
/-- Keys are compared. -/
theorem sameKey {kk : KK} {a b : Key} {u v : Value} (ha : keyV kk a u) (hb : keyV kk b v) {t : TypeId} (ht : KTy P t kk) (w' : World) :
    (Op.equal t u v).run P w' = .ok (decide (a = b)) w' := by
  cases kk with
  | str =>
    cases a <;> cases b <;> simp only [keyV] at ha hb
    rename_i a b
    have := same0 (k := .str) (a := .s a) (b := .s b) ha hb (P := P) ht 9999 w'
    simpa [Op.equal, Op.maxDepth] using this
  | int j =>
    cases a <;> cases b <;> simp only [keyV] at ha hb
    rename_i a b
    have := same0 (k := .int j) (a := .i a) (b := .i b) ha hb (P := P) ht 9999 w'
    simpa [Op.equal, Op.maxDepth] using this
  | st ks =>
    cases a <;> cases b <;> simp only [keyV] at ha hb
    rename_i a b
    obtain ⟨us, rfl, ha⟩ := ha
    obtain ⟨vs, rfl, hb⟩ := hb
    obtain ⟨gs, g1, g2, g3, g4⟩ := ht
    have hf : P.fieldsOf t = gs := by simp [Program.fieldsOf, g1]
    have := eqFlat (P := P) (us := us) (vs := vs) 9998 gs.toList ks 0 a b g2 g4 (by simpa using ha) (by simpa using hb) w'
    show (Op.equalIn (9999 + 1) t (.agg us) (.agg vs)).run P w' = _
    rw [run_equalIn_agg _ _ _ _ _ (by rw [hf]; exact g1) g3, hf, this]
    simp
theorem sameNow_ok {kk : KK} {a b : Key} {u v : Value} (ha : keyV kk a u) (hb : keyV kk b v) {t : TypeId} {d : TypeDesc} (hd : P.underlying t = some d) (ht : KTy P t kk) :
    Instr.sameNow d u v = some (decide (a = b)) ∨ Instr.sameNow d u v = none := by
  cases kk with
  | str =>
    cases a <;> cases b <;> simp only [keyV] at ha hb
    obtain ⟨s, rfl, rfl⟩ := ha
    obtain ⟨s', rfl, rfl⟩ := hb
    simp only [KTy] at ht
    rw [ht] at hd; injection hd with hd; subst hd
    left
    simp only [Instr.sameNow, Option.some.injEq]
    rw [beq_toListBytes, ByteArray.toList_eq, ByteArray.toList_eq, Bool.eq_iff_iff]
    simp
  | int k =>
    cases a <;> cases b <;> simp only [keyV] at ha hb
    subst ha hb
    simp only [KTy] at ht
    rw [ht] at hd; injection hd with hd; subst hd
    left
    simp only [Instr.sameNow, if_true, Option.some.injEq]
    rw [Bool.eq_iff_iff]
    simp
  | st ks =>
    obtain ⟨gs, g1, -⟩ := ht
    rw [g1] at hd; injection hd with hd; subst hd
    right
    simp [Instr.sameNow]

/-- The place of a key. -/
def mfind : List (Key × AV) → Key → Option Nat
  | [], _ => none
  | e :: es, k => if e.1 = k then some 0 else (mfind es k).map (· + 1)
theorem mfind_lt {es : List (Key × AV)} {k : Key} {j : Nat} (h : mfind es k = some j) : j < es.length := by
  induction es generalizing j with
  | nil => cases h
  | cons e es ih =>
    simp only [mfind] at h
    split at h
    · injection h with h; subst h; simp
    · simp only [Option.map_eq_some_iff] at h
      obtain ⟨i, hi, rfl⟩ := h
      have := ih hi
      simp; omega
theorem mget_mfind (es : List (Key × AV)) (k : Key) : mget es k = (mfind es k).map fun j => (es.getD j default).2 := by
  induction es with
  | nil => rfl
  | cons e es ih =>
    unfold mget at ih ⊢
    simp only [mfind, List.find?_cons]
    by_cases h : e.1 = k
    · simp [h]
    · simp only [h, decide_false, if_false, ih]
      cases mfind es k <;> rfl
theorem mset_mfind (es : List (Key × AV)) (k : Key) (v : AV) : mset es k v = match mfind es k with | some j => es.set j (k, v) | none => es ++ [(k, v)] := by
  induction es with
  | nil => rfl
  | cons e es ih =>
    simp only [mset, mfind]
    by_cases h : e.1 = k
    · simp [h]
    · simp only [h, if_false, ih]
      cases mfind es k <;> rfl
theorem mdel_mfind (es : List (Key × AV)) (k : Key) : mdel es k = match mfind es k with | some j => es.eraseIdx j | none => es := by
  induction es with
  | nil => rfl
  | cons e es ih =>
    simp only [mdel, mfind]
    by_cases h : e.1 = k
    · simp [h]
    · simp only [h, if_false, ih]
      cases mfind es k <;> rfl

theorem EntriesOK.tail {kk : KK} {e : Key × AV} {es : List (Key × AV)} {f : MapEntry} {fs : List MapEntry} (h : EntriesOK C H w kk (e :: es) (f :: fs)) :
    (keyV kk e.1 f.key ∧ Repr C H w e.2 f.val) ∧ EntriesOK C H w kk es fs := by
  refine ⟨by have := h.2 0 (by simp); simpa using this, by have := h.1; simpa using this, fun j hj => ?_⟩
  have := h.2 (j + 1) (by simp; omega)
  simpa using this

theorem findNow_ok {kk : KK} {t : TypeId} {d : TypeDesc} (hd : P.underlying t = some d) (ht : KTy P t kk) {key : Key} {u : Value} (hk : keyV kk key u) :
    ∀ (es : List (Key × AV)) (fs : List MapEntry) (i : Nat), EntriesOK C H w kk es fs → Instr.findNow d u fs i = some ((mfind es key).map fun j => (i + j, (fs.getD j default).val)) ∨ Instr.findNow d u fs i = none := by
  intro es
  induction es with
  | nil =>
    intro fs i h
    have : fs = [] := List.eq_nil_of_length_eq_zero h.1.symm
    subst this; left; rfl
  | cons e es ih =>
    intro fs i h
    cases fs with
    | nil => have := h.1; simp at this
    | cons f fs =>
      obtain ⟨⟨h1, h2⟩, h3⟩ := h.tail
      rcases sameNow_ok hk h1 hd ht with hs | hs
      · simp only [Instr.findNow, hs, mfind]
        by_cases he : e.1 = key
        · simp [he]
        · simp only [he, if_false, show ¬ key = e.1 from fun e' => he e'.symm, decide_false]
          rcases ih fs (i + 1) h3 with hi | hi
          · left
            rw [hi]
            cases mfind es key with
            | none => rfl
            | some j => simp; omega
          · exact .inr hi
      · right; simp only [Instr.findNow, hs]
theorem findAsking_ok {kk : KK} {t : TypeId} (ht : KTy P t kk) {key : Key} {u : Value} (hk : keyV kk key u) (w' : World) :
    ∀ (es : List (Key × AV)) (fs : List MapEntry) (i : Nat), EntriesOK C H w kk es fs → (Instr.findAsking t u fs i).run P w' = .ok ((mfind es key).map fun j => (i + j, (fs.getD j default).val)) w' := by
  intro es
  induction es with
  | nil =>
    intro fs i h
    have : fs = [] := List.eq_nil_of_length_eq_zero h.1.symm
    subst this; rfl
  | cons e es ih =>
    intro fs i h
    cases fs with
    | nil => have := h.1; simp at this
    | cons f fs =>
      obtain ⟨⟨h1, h2⟩, h3⟩ := h.tail
      simp only [Instr.findAsking, Sem.run_bind, sameKey hk h1 ht, Result.andThen_ok, mfind]
      by_cases he : e.1 = key
      · simp [he]
      · simp only [he, if_false, show ¬ key = e.1 from fun e' => he e'.symm, decide_false]
        rw [if_neg (by simp), ih fs (i + 1) h3]
        cases mfind es key with
        | none => rfl
        | some j => simp; omega
theorem KTy.desc {kk : KK} {kt : TypeId} (hd : KTy P kt kk) : ∃ d, P.underlying kt = some d := by
  cases kk with
  | str => exact ⟨_, hd⟩
  | int k => exact ⟨_, hd⟩
  | st l => obtain ⟨gs, g, -⟩ := hd; exact ⟨_, g⟩
theorem findKey_ok {kk : KK} {kt : TypeId} (hd : KTy P kt kk) {key : Key} {u : Value} (hk : keyV kk key u)
    {es : List (Key × AV)} {fs : List MapEntry} (h : EntriesOK C H w kk es fs) (w' : World) : (Instr.findKey kt u fs).run P w' = .ok ((mfind es key).map fun j => (j, (fs.getD j default).val)) w' := by
  obtain ⟨d, hdd⟩ := hd.desc
  have h2 := findAsking_ok hd hk w' es fs 0 h
  simp only [Nat.zero_add] at h2
  rcases findNow_ok hdd hd hk es fs 0 h with this | this
  · simp only [Nat.zero_add] at this
    simp [Instr.findKey, run_underlying hdd, this]
  · simp only [Instr.findKey, Sem.run_bind, run_underlying hdd, Result.andThen_ok, this, h2]
theorem findKey_nil {kk : KK} {kt : TypeId} (hd : KTy P kt kk) (u : Value) (w' : World) : (Instr.findKey kt u []).run P w' = .ok none w' := by
  obtain ⟨d, hdd⟩ := hd.desc
  simp [Instr.findKey, run_underlying hdd, Instr.findNow]

theorem checkKey_0 {k : KK0} {kt : TypeId} (hd : P.underlying kt = some (kdesc0 k)) (b : Bool) (v : Value) (w' : World) (n : Nat) : (Instr.checkKey b (n + 1) kt v).run P w' = .ok () w' := by
  simp only [Instr.checkKey, Sem.run_bind, run_underlying hd, Result.andThen_ok]
  cases k <;> rfl
theorem checkFields {vs : Array Value} (b : Bool) (m : Nat) (w' : World) : ∀ (gs : List Field) (ks : List KK0) (n : Nat) (l : List Key0), FlatOK P n gs ks → keyVs ks l (vs.toList.drop n) →
    (forIn (m := Sem) gs PUnit.unit fun f _ => (if f.name ≠ "_" then do Instr.checkKey b (m + 1) f.type (← part f.type vs f.offset); pure (ForInStep.yield PUnit.unit) else pure (ForInStep.yield PUnit.unit))).run P w' = .ok () w' := by
  intro gs
  induction gs with
  | nil => intro ks n l _ _; rfl
  | cons g gs ih =>
    intro ks n l hf hk
    cases ks with
    | nil => exact hf.elim
    | cons k ks =>
      obtain ⟨f1, f2, f3, f4⟩ := hf
      cases l with
      | nil => simp [keyVs] at hk
      | cons a as =>
      cases hv : vs.toList.drop n with
      | nil => rw [hv] at hk; exact hk.elim
      | cons v vs' =>
      rw [hv] at hk
      obtain ⟨v1, v2⟩ := drop_cons hv
      obtain ⟨a1, a2⟩ := hk
      subst f1
      have pv := part0 f2 (vs := vs) (by simpa using v1) w'
      have := ih ks _ as f4 (by rw [v2]; exact a2)
      rw [List.forIn_cons, Sem.run_bind]
      by_cases hn : g.name ≠ "_"
      · simp only [hn, Sem.run_ite, if_true, Sem.run_bind, pv, Result.andThen_ok, checkKey_0 f3, Sem.run_pure, ne_eq, not_false_eq_true]
        exact this
      · simp only [hn, Sem.run_ite, if_false, Sem.run_pure, Result.andThen_ok]
        exact this
theorem checkSt {kt : TypeId} {ks : List KK0} (hd : KTy P kt (.st ks)) (b : Bool) {l : List Key0} {vs : Array Value} (hk : keyVs ks l vs.toList) (m : Nat) (w' : World) : (Instr.checkKey b (m + 2) kt (.agg vs)).run P w' = .ok () w' := by
  obtain ⟨gs, g1, g2, g3, g4⟩ := hd
  have := checkFields (P := P) (vs := vs) b m w' gs.toList ks 0 _ g4 (by simpa using hk)
  rw [Instr.checkKey]
  simp only [Sem.run_bind, run_underlying g1, Result.andThen_ok]
  rw [← Array.forIn_toList]
  simp only [Sem.run_pure]
  generalize hX : Sem.run P (forIn gs.toList PUnit.unit _) w' = X
  have hX' : X = .ok PUnit.unit w' := by rw [← hX]; exact this
  rw [hX']; rfl
theorem checkKey_ok {kk : KK} {kt : TypeId} (hd : KTy P kt kk) (b : Bool) {key : Key} {v : Value} (hk : keyV kk key v) (w' : World) : (Instr.checkKey b 10000 kt v).run P w' = .ok () w' := by
  cases kk with
  | str => exact checkKey_0 (k := .str) hd b v w' 9999
  | int k => exact checkKey_0 (k := .int k) hd b v w' 9999
  | st ks =>
    cases key <;> simp only [keyV] at hk
    obtain ⟨vs, rfl, hk⟩ := hk
    exact checkSt hd b hk 9998 w'

theorem getObj_map {b : Nat} {fs : Array MapEntry} {cl : Nat} (h : w.heap[b]? = some (.map fs cl)) : (getObj b).run P w = .ok (.map fs cl) w := by simp [getObj, Sem.run, h]
theorem setObj_map {b : Nat} {fs : Array MapEntry} {cl : Nat} (h : w.heap[b]? = some (.map fs cl)) (o : Obj) : (setObj b o).run P w = .ok () (setBlk w b o) := by simp [setObj, Sem.run, h, setBlk]

theorem lookup_sound (hrel : Rel P C H w) {t : TypeId} {m k : AV} {u v : Value} {ok : Bool} (hm : Repr C H w m u) (hk : Repr C H w k v) {K : K1} (h : aLookup P t m k ok H K) : Does P C H w K (Instr.lookup t u v ok) := by
  unfold aLookup at h
  split at h
  · rename_i kt e he
    obtain ⟨kty, et, u1, u2, u3⟩ := mapE_some he
    obtain ⟨hz, h⟩ := h
    obtain ⟨z, z1, z2⟩ := zero_run (P := P) (C := C) (H := H) (w := w) u2 (by intro e; rw [e] at hz; simp [AV.isVal] at hz)
    split at h
    · rename_i id
      unfold mapAt at h
      split at h
      · rename_i kk es hes
        obtain ⟨rfl, h⟩ := h
        unfold keyK at h
        split at h
        · rename_i key hkey
          cases hm with
          | map _ hid =>
          obtain ⟨-, -, fs, cl, a1, a2, a3⟩ := hrel.live id _ hes
          have hkv := keyOf_sound hkey hk
          have hf := findKey_ok (P := P) u3 hkv a2 w
          have hc := checkKey_ok (P := P) u3 fs.isEmpty hkv w
          rw [mget_mfind] at h
          have hrun : ∀ (x : AV) (r : Value) (b : Bool), Repr C H w x r → (match (mfind es key).map (fun j => (j, (fs.toList.getD j default).val)) with | some (_, y) => (pure (y, true) : Sem (Value × Bool)) | none => do pure (← zeroValue et, false)).run P w = .ok (r, b) w →
              ((if ok then K (.tup [x, .bool b]) H else K x H) → Does P C H w K (Instr.lookup t (.map (some (C.β id))) v ok)) := by
            intro x r b hr he hK
            refine .same (x := if ok then .tup [x, .bool b] else x) (v := if ok then .tuple #[r, .bool b] else r) hrel ?_ ?_ (by cases ok <;> simpa using hK)
            · simp only [Instr.lookup, Sem.run_bind, run_underlying u1, Result.andThen_ok, getObj_map a1, Sem.run_pure, hc, hf]
              clear hrel hr hK
              revert he
              generalize (mfind es key).map (fun j => (j, (fs.toList.getD j default).val)) = fr
              intro he
              cases fr with
              | none =>
                simp only [Sem.run_bind, z1, Result.andThen_ok, Sem.run_pure] at he ⊢
                injection he with he
                injection he with h1 h2
                subst h1 h2; rfl
              | some p =>
                simp only [Sem.run_pure, Sem.run_bind, Result.andThen_ok] at he ⊢
                injection he with he
                injection he with h1 h2
                subst h1 h2; rfl
            · cases ok with
              | false => exact hr
              | true =>
                refine .tup _ _ rfl (fun j hj => ?_)
                have : j = 0 ∨ j = 1 := by simp at hj; omega
                rcases this with rfl | rfl
                · exact hr
                · exact .bool b
          cases hmf : mfind es key with
          | none =>
            rw [hmf] at h hrun
            simp only [Option.map_none, Option.getD_none, Option.isSome_none] at h
            exact hrun e.zero z false z2 (by simp [z1]) h
          | some j =>
            rw [hmf] at h hrun
            simp only [Option.map_some, Option.getD_some, Option.isSome_some] at h
            have hj := mfind_lt hmf
            exact hrun _ _ true (a2.2 j hj).2 (by simp) h
        · exact h.elim
      · exact h.elim
    · cases hm
      unfold keyK at h
      split at h
      case h_2 => exact h.elim
      rename_i key hkey
      have hc := checkKey_ok (P := P) u3 true (keyOf_sound hkey hk) w
      have hfn : (Instr.findKey kty v []).run P w = .ok none w := findKey_nil u3 v w
      refine .same (x := if ok then .tup [e.zero, .bool false] else e.zero) (v := if ok then .tuple #[z, .bool false] else z) hrel ?_ ?_ (by cases ok <;> simpa using h)
      · simp only [Instr.lookup, Sem.run_bind, run_underlying u1, Result.andThen_ok, Sem.run_pure]
        simp [hc, hfn, z1]
      · cases ok with
        | false => exact z2
        | true =>
          refine .tup _ _ rfl (fun j hj => ?_)
          have : j = 0 ∨ j = 1 := by simp at hj; omega
          rcases this with rfl | rfl
          · exact z2
          · exact .bool false
    · exact h.elim
  · exact h.elim

theorem entries_set {kk : KK} {es : List (Key × AV)} {fs : Array MapEntry} (h : EntriesOK C H w kk es fs.toList) {j : Nat} {k : Key} {x : AV} {u v : Value} (hk : keyV kk k u) (hx : Repr C H w x v) :
    EntriesOK C H w kk (es.set j (k, x)) (fs.modify j fun e => { e with key := u, val := v }).toList := by
  refine ⟨by simpa using h.1, fun i hi => ?_⟩
  rw [List.length_set] at hi
  have hi2 : i < fs.size := by have := h.1; simp at this; omega
  have e2 : (fs.modify j fun e => { e with key := u, val := v }).toList.getD i default = if j = i then { fs.toList.getD i default with key := u, val := v } else fs.toList.getD i default := by
    simp only [List.getD, Array.getElem?_toList, Array.getElem?_modify]
    by_cases hji : j = i
    · subst hji; simp [hi2]
    · simp [hji]
  have e1 : (es.set j (k, x)).getD i default = if j = i then (k, x) else es.getD i default := by
    simp only [List.getD, List.getElem?_set]
    by_cases hji : j = i
    · subst hji; simp [hi]
    · simp [hji]
  rw [e1, e2]
  by_cases hji : j = i
  · simp only [hji, if_true]; exact ⟨hk, hx⟩
  · simp only [hji, if_false]; exact h.2 i hi
theorem entries_push {kk : KK} {es : List (Key × AV)} {fs : Array MapEntry} (h : EntriesOK C H w kk es fs.toList) {n : Nat} {k : Key} {x : AV} {u v : Value} (hk : keyV kk k u) (hx : Repr C H w x v) :
    EntriesOK C H w kk (es ++ [(k, x)]) (fs.push { key := u, val := v, born := n }).toList := by
  have h1 := h.1
  refine ⟨by simpa using h1, fun i hi => ?_⟩
  simp only [List.length_append, List.length_singleton] at hi
  by_cases hlt : i < es.length
  · have e1 : (es ++ [(k, x)]).getD i default = es.getD i default := by simp [List.getD, List.getElem?_append_left hlt]
    have e2 : (fs.push { key := u, val := v, born := n }).toList.getD i default = fs.toList.getD i default := by
      simp only [List.getD, Array.toList_push]
      rw [List.getElem?_append_left (by omega)]
    rw [e1, e2]; exact h.2 i hlt
  · have : i = es.length := by omega
    subst this
    have e1 : (es ++ [(k, x)]).getD es.length default = (k, x) := by simp [List.getD]
    have e2 : (fs.push { key := u, val := v, born := n }).toList.getD es.length default = { key := u, val := v, born := n } := by
      simp only [List.getD, Array.toList_push]
      rw [h1]; simp
    rw [e1, e2]; exact ⟨hk, hx⟩

theorem bytes_eq {s s' : ByteArray} (h : s.data.toList = s'.data.toList) : (s == s') = true := by
  rw [beq_toListBytes, ByteArray.toList_eq, ByteArray.toList_eq, h]; simp
theorem sameBits0 {k : KK0} {a : Key0} {u v : Value} (hu : keyV0 k a u) (hv : keyV0 k a v) (n : Nat) : Instr.sameBits n u v = true := by
  cases k <;> cases a <;> simp only [keyV0] at hu hv
  · obtain ⟨s, rfl, h1⟩ := hu
    obtain ⟨s', rfl, h2⟩ := hv
    simp only [Instr.sameBits]
    exact bytes_eq (h1.trans h2.symm)
  · subst hu hv
    simp [Instr.sameBits]
theorem sameBitsL (n : Nat) : ∀ (ks : List KK0) (l : List Key0) (us vs : List Value), keyVs ks l us → keyVs ks l vs → us.length = vs.length ∧ (us.zip vs).all (fun x => Instr.sameBits n x.1 x.2) = true := by
  intro ks
  induction ks with
  | nil =>
    intro l us vs hu hv
    cases l <;> cases us <;> cases vs <;> simp_all [keyVs]
  | cons k ks ih =>
    intro l us vs hu hv
    cases l with
    | nil => simp [keyVs] at hu
    | cons a l =>
    cases us with
    | nil => simp [keyVs] at hu
    | cons u us =>
    cases vs with
    | nil => simp [keyVs] at hv
    | cons v vs =>
      obtain ⟨h1, h2⟩ := ih l us vs hu.2 hv.2
      exact ⟨by simp [h1], by simp only [List.zip_cons_cons, List.all_cons, sameBits0 hu.1 hv.1 n, h2, Bool.and_self]⟩
theorem sameBitsA (n : Nat) {ks : List KK0} {l : List Key0} {us vs : Array Value} (hu : keyVs ks l us.toList) (hv : keyVs ks l vs.toList) : Instr.sameBits (n + 1) (.agg us) (.agg vs) = true := by
  obtain ⟨h1, h2⟩ := sameBitsL n _ _ _ _ hu hv
  simp only [Instr.sameBits, Bool.and_eq_true, beq_iff_eq]
  exact ⟨by simpa using h1, h2⟩
theorem sameBits_ok {kk : KK} {k : Key} {u v : Value} (hu : keyV kk k u) (hv : keyV kk k v) : Instr.sameBits 10000 u v = true := by
  cases kk with
  | str =>
    cases k <;> simp only [keyV] at hu hv
    rename_i l
    exact sameBits0 (k := .str) (a := .s l) hu hv _
  | int j =>
    cases k <;> simp only [keyV] at hu hv
    rename_i l
    exact sameBits0 (k := .int j) (a := .i l) hu hv _
  | st ks =>
    cases k <;> simp only [keyV] at hu hv
    obtain ⟨us, rfl, hu⟩ := hu
    obtain ⟨vs, rfl, hv⟩ := hv
    exact sameBitsA 9999 hu hv

/-- A map is replaced by one with other entries. -/
theorem map_set (hrel : Rel P C H w) {id : Nat} {kk : KK} {es es' : List (Key × AV)} (hid : H id = some (.map kk es)) {fs' : Array MapEntry} {cl' : Nat} (h : EntriesOK C H w kk es' fs'.toList)
    (hb : (fs'.toList.map (·.born)).Pairwise (· < ·) ∧ ∀ f ∈ fs'.toList, f.born < cl') :
    Le C H w C (H.put id (.map kk es')) (setBlk w (C.β id) (.map fs' cl')) ∧ Rel P C (H.put id (.map kk es')) (setBlk w (C.β id) (.map fs' cl')) := by
  obtain ⟨-, -, fs, cl, a1, a2, a3⟩ := hrel.live id _ hid
  exact Le.set_own hrel hid (fun off hno => absurd trivial hno) (fun s hs => by simp [World.shape?, a1] at hs) (fun C' H' w' hle hb' => ⟨fs', cl', hb', h.mono hle, hb⟩)

theorem update_sound (hrel : Rel P C H w) {t : TypeId} {m k x : AV} {u v y : Value} (hm : Repr C H w m u) (hk : Repr C H w k v) (hx : Repr C H w x y) {K : K1} (h : aUpdate P t m k x H K) :
    ∃ w' C' H', (Instr.mapUpdate t u v y).run P w = .ok () w' ∧ Rel P C' H' w' ∧ Le C H w C' H' w' ∧ K .junk H' := by
  unfold aUpdate at h
  split at h
  · rename_i kt e he
    obtain ⟨kty, et, u1, u2, u3⟩ := mapE_some he
    split at h
    · rename_i id
      unfold mapAt at h
      split at h
      · rename_i kk es hes
        obtain ⟨rfl, h⟩ := h
        unfold keyK at h
        split at h
        · rename_i key hkey
          cases hm with
          | map _ hid =>
          obtain ⟨-, -, fs, cl, a1, a2, a3, a4⟩ := hrel.live id _ hes
          have hkv := keyOf_sound hkey hk
          have hf := findKey_ok (P := P) u3 hkv a2 w
          have hc := checkKey_ok (P := P) u3 false hkv w
          rw [mset_mfind] at h
          cases hmf : mfind es key with
          | none =>
            rw [hmf] at h hf
            obtain ⟨m1, m2⟩ := map_set hrel hes (entries_push (n := cl) a2 hkv hx) (cl' := cl + 1) ⟨by
              simp only [Array.toList_push, List.map_append, List.map_cons, List.map_nil, List.pairwise_append]
              refine ⟨a3, by simp, fun a ha b hb => ?_⟩
              simp only [List.mem_singleton] at hb
              subst hb
              obtain ⟨f, hf1, rfl⟩ := List.mem_map.1 ha
              exact a4 f hf1, fun f hf => by
              simp only [Array.toList_push, List.mem_append, List.mem_singleton] at hf
              rcases hf with hf | rfl
              · have := a4 f hf; omega
              · simp⟩
            refine ⟨_, _, _, ?_, m2, m1, h⟩
            simp only [Instr.mapUpdate, Sem.run_bind, run_underlying u1, Result.andThen_ok, getObj_map a1, hc, hf, Option.map_none]
            exact setObj_map a1 _
          | some j =>
            rw [hmf] at h hf
            have hj := mfind_lt hmf
            have hold : keyV kk key (((fs[j]?).map (·.key)).getD v) := by
              have := (a2.2 j hj).1
              have hjs : j < fs.size := by have := a2.1; simp at this; omega
              have e : ((fs[j]?).map (·.key)).getD v = (fs.toList.getD j default).key := by simp [List.getD, hjs]
              rw [e]
              have hkey2 : ∀ (es : List (Key × AV)) j, mfind es key = some j → (es.getD j default).1 = key := by
                intro es
                induction es with
                | nil => intro j h; cases h
                | cons a es ih =>
                  intro j h
                  simp only [mfind] at h
                  split at h
                  · injection h with h; subst h; simpa
                  · simp only [Option.map_eq_some_iff] at h
                    obtain ⟨i, hi, rfl⟩ := h
                    simpa using ih i hi
              rw [hkey2 es j hmf] at this
              exact this
            obtain ⟨m1, m2⟩ := map_set hrel hes (entries_set (j := j) a2 hkv hx) (cl' := cl) (by
              have hmapb : (fs.modify j fun e => { e with key := v, val := y }).toList.map (·.born) = fs.toList.map (·.born) := by
                apply List.ext_getElem?
                intro i
                simp only [List.getElem?_map, Array.getElem?_toList, Array.getElem?_modify]
                by_cases hji : j = i
                · subst hji; cases fs[j]? <;> simp
                · simp [hji]
              refine ⟨by rw [hmapb]; exact a3, fun f hf => ?_⟩
              have : f.born ∈ (fs.modify j fun e => { e with key := v, val := y }).toList.map (·.born) := List.mem_map_of_mem hf
              rw [hmapb] at this
              obtain ⟨g, hg, hgb⟩ := List.mem_map.1 this
              rw [← hgb]; exact a4 g hg)
            refine ⟨_, _, _, ?_, m2, m1, h⟩
            simp only [Instr.mapUpdate, Sem.run_bind, run_underlying u1, Result.andThen_ok, getObj_map a1, hc, hf, Option.map_some]
            have hs := sameBits_ok hold hkv
            simp only [Instr.keyThatStays, hs, if_true, Sem.run_pure, Result.andThen_ok]
            exact setObj_map a1 _
        · exact h.elim
      · exact h.elim
    · exact h.elim
  · exact h.elim
end
end Go.Abs

/-
  delete; copy; make of a slice; between strings and bytes.
-/
namespace Go.Abs
open Go.RowKit
set_option linter.unusedSimpArgs false
set_option linter.unusedVariables false

section
variable {P : Program} {C C' : Cx} {H H' : Heap} {w w' : World}

theorem delete_sound (hrel : Rel P C H w) {t t' ty : TypeId} {m k : AV} {u v : Value} (hm : Repr C H w m u) (hk : Repr C H w k v) {K : K1} (h : aDelete P t m k H K) : Does P C H w K (Builtin.delete_ #[t, t'] ty #[u, v]) := by
  unfold aDelete at h
  split at h
  · rename_i kt e he
    obtain ⟨kty, et, u1, u2, u3⟩ := mapE_some he
    split at h
    · rename_i id
      unfold mapAt at h
      split at h
      · rename_i kk es hes
        obtain ⟨rfl, h⟩ := h
        unfold keyK at h
        split at h
        · rename_i key hkey
          cases hm with
          | map _ hid =>
          obtain ⟨-, -, fs, cl, a1, a2, a3, a4⟩ := hrel.live id _ hes
          have hkv := keyOf_sound hkey hk
          have hf := findKey_ok (P := P) u3 hkv a2 w
          have hc := checkKey_ok (P := P) u3 fs.isEmpty hkv w
          rw [mdel_mfind] at h
          cases hmf : mfind es key with
          | none =>
            rw [hmf] at h hf
            obtain ⟨m1, m2⟩ := map_set hrel hes a2 (cl' := cl) ⟨a3, a4⟩
            refine ⟨.tuple #[], _, _, _, .tup [], ?_, m2, m1, .tup _ _ rfl (by simp), h⟩
            unfold Builtin.delete_
            simp only [List.getElem?_toArray, List.getElem?_cons_succ, List.getElem?_cons_zero]
            simp only [Sem.run_bind, run_underlying u1, Result.andThen_ok, getObj_map a1, hc, hf, Option.map_none, setObj_map a1]
            rfl
          | some j =>
            rw [hmf] at h hf
            have hj := mfind_lt hmf
            have hjs : j < fs.size := by have := a2.1; simp at this; omega
            have el : (fs.eraseIdxIfInBounds j).toList = fs.toList.eraseIdx j := by
              rw [Array.eraseIdxIfInBounds_eq]; simp [hjs, Array.toList_eraseIdx]
            obtain ⟨m1, m2⟩ := map_set (es' := es.eraseIdx j) (fs' := fs.eraseIdxIfInBounds j) hrel hes (by
              rw [el]
              refine ⟨by rw [List.length_eraseIdx, List.length_eraseIdx, a2.1], fun i hi => ?_⟩
              have g : ∀ {α : Type} [Inhabited α] (l : List α), (l.eraseIdx j).getD i default = l.getD (if i < j then i else i + 1) default := fun l => by
                simp only [List.getD, List.getElem?_eraseIdx]
                split <;> rfl
              rw [g, g]
              refine a2.2 _ ?_
              rw [List.length_eraseIdx, if_pos hj] at hi
              split <;> omega) (cl' := cl) ⟨by
                rw [el]
                refine List.Pairwise.sublist ?_ a3
                exact (List.eraseIdx_sublist _ _).map _, fun f hf => by
                rw [el] at hf
                exact a4 f ((List.eraseIdx_sublist _ _).mem hf)⟩
            refine ⟨.tuple #[], _, _, _, .tup [], ?_, m2, m1, .tup _ _ rfl (by simp), h⟩
            unfold Builtin.delete_
            simp only [List.getElem?_toArray, List.getElem?_cons_succ, List.getElem?_cons_zero]
            simp only [Sem.run_bind, run_underlying u1, Result.andThen_ok, getObj_map a1, hc, hf, Option.map_some, setObj_map a1]
            rfl
        · exact h.elim
      · exact h.elim
    · cases hm
      unfold keyK at h
      split at h
      case h_2 => exact h.elim
      rename_i key hkey
      have hc := checkKey_ok (P := P) u3 true (keyOf_sound hkey hk) w
      refine .same hrel (v := .tuple #[]) ?_ (.tup _ _ rfl (by simp)) h
      unfold Builtin.delete_
      simp only [List.getElem?_toArray, List.getElem?_cons_succ, List.getElem?_cons_zero]
      simp only [Sem.run_bind, run_underlying u1, Result.andThen_ok, hc]
      rfl
    · exact h.elim
  · exact h.elim

theorem lenMap_sound (hrel : Rel P C H w) {ts : Array TypeId} {ty : TypeId} {x : AV} {u : Value} (hx : Repr C H w x u) {K : K1} (hts : isMap P ts.toList = true)
    (h : (∃ id, x = .map id ∧ mapAt (H id) fun _ es => K (.int .i64 es.length) H) ∨ (x = .nilmap ∧ K (.int .i64 0) H)) : Does P C H w K (Builtin.len_ ts ty #[u]) := by
  obtain ⟨t, t0, a, b, t1⟩ : ∃ t, ts[0]? = some t ∧ ∃ a b, P.underlying t = some (.map a b) := by
    unfold isMap at hts
    split at hts
    · rename_i t htl
      refine ⟨t, by rw [← Array.getElem?_toList, htl]; rfl, ?_⟩
      split at hts
      · rename_i a b hd
        obtain ⟨d, d1, d2⟩ := descOf_eq hd (by simp)
        have := (td_plain d2).2.2.2.2.2.1 _ _ rfl
        subst this
        exact ⟨a, b, d1⟩
      · cases hts
    · cases hts
  rcases h with ⟨id, rfl, h⟩ | ⟨rfl, h⟩
  · unfold mapAt at h
    split at h
    · rename_i kk es hes
      cases hx with
      | map _ hid =>
      obtain ⟨-, -, fs, cl, a1, a2, a3⟩ := hrel.live id _ hes
      refine .same hrel (v := .int .i64 fs.size) ?_ ?_ h
      · simp [Builtin.len_, t0, run_underlying t1, getObj_map a1, goInt]
      · have : es.length = fs.size := by have := a2.1; simpa using this
        rw [this]; exact .int _ _
    · exact h.elim
  · cases hx
    exact .same hrel (v := .int .i64 0) (by simp [Builtin.len_, t0, run_underlying t1, goInt]) (.int _ _) h

theorem copy_sound (hrel : Rel P C H w) {t t' ty : TypeId} {d x : AV} {u v : Value} (hd : Repr C H w d u) (hx : Repr C H w x v) {K : K1} (h : aCopy P t d x H K) : Does P C H w K (Builtin.copy_ #[t, t'] ty #[u, v]) := by
  unfold aCopy at h
  split at h
  · unfold aCopy0 at h
    split at h
    · rename_i e he
      obtain ⟨et, u1, u2⟩ := sliceE_some he
      cases hx
      cases hd with
      | sl _ _ a cap b off us ha hc hr hl ht =>
      refine .same hrel (v := .int .i64 0) ?_ (.int _ _) h
      unfold Builtin.copy_
      simp only [List.getElem?_toArray, List.getElem?_cons_succ, List.getElem?_cons_zero]
      cases a <;> simp [run_underlying u1, Builtin.lenOf, run_size u2, Builtin.firstCells, storeCells, goInt]
    · exact h.elim
  unfold aCopy1 at h
  split at h
  · rename_i e he
    obtain ⟨et, u1, u2⟩ := sliceE_some he
    obtain ⟨new, arr, src, h⟩ := src_sound (P := P) hrel hx h
    split at h
    · rename_i id off len k _ _
      obtain ⟨hke, h⟩ := h
      subst hke
      unfold cellsAt at h
      split at h
      · rename_i cs hcs
        obtain ⟨h1, hK⟩ := h
        cases hd with
        | ms _ _ _ _ a cap hid ha hl hs =>
        have hut : Unif e.size (new.take len) := src.row.1.take len
        have hfl := flatten_len hut
        rw [List.length_take] at hfl
        have hmin : min len new.length = min new.length len := Nat.min_comm ..
        have hfull := flatten_len src.row.1
        have hle : min new.length len * e.size ≤ new.length * e.size := Nat.mul_le_mul_right _ (Nat.min_le_left ..)
        have hle2 : min new.length len * e.size ≤ len * e.size := Nat.mul_le_mul_right _ (Nat.min_le_right ..)
        have harr : arr.size = new.length * e.size := by rw [← src.row.2.1, hfull]
        have hcells : CellsOK C H w (new.take len).flatten (arr.extract 0 (min new.length len * e.size)) := by
          refine ⟨by rw [hfl, hmin]; simp; omega, fun j hj => ?_⟩
          rw [hfl, hmin] at hj
          rw [flatten_take src.row.1, getD_take _ _ _ _ (by omega)]
          have : (arr.extract 0 (min new.length len * e.size)).getD j default = arr.getD j default := by
            simp only [Array.getD_eq_getD_getElem?, Array.getElem?_extract]
            rw [if_pos (by omega)]; simp
          rw [this]
          exact src.row.2.2 j (by omega)
        obtain ⟨w', e1, e2, e3⟩ := cells_set (P := P) hrel hcs hcells (off := off) (by rw [hfl, hmin]; omega)
        have hfirst := src.first w (min new.length len) rfl (Nat.min_le_left ..)
        have run : ∀ (w1 : World), (match a with | some ad => (storeCells ad (arr.extract 0 (min new.length len * e.size)).toList).run P w | none => .ok () w) = .ok () w1 →
            (Builtin.copy_ #[t, t'] ty #[.slice a len cap, v]).run P w = .ok (.int .i64 (min new.length len : Nat)) w1 := fun w1 hst => by
          unfold Builtin.copy_
          simp only [List.getElem?_toArray, List.getElem?_cons_succ, List.getElem?_cons_zero]
          simp only [Sem.run_bind, run_underlying u1, Result.andThen_ok, src.len, run_size u2]
          rw [show Nat.min new.length len = min new.length len from rfl, hfirst]
          simp only [Result.andThen_ok, Sem.run_pure]
          cases a with
          | none => simp only at hst ⊢; injection hst with _ hst; subst hst; rfl
          | some ad => simp only [Sem.run_bind, hst, Result.andThen_ok]; rfl
        by_cases hc : 0 < cap
        · have := ha hc; subst this
          exact ⟨_, w', _, _, _, run w' e1, e3, e2, .int .i64 _, hK⟩
        · have hl0 : len = 0 := by omega
          subst hl0
          have hm0 : min new.length 0 = 0 := Nat.min_zero _
          rw [hm0] at run hK
          have hw0 : writeC cs off (new.take 0).flatten = cs := by simp [writeC]
          rw [hw0] at hK
          have hH : H.put id (.cells cs) = H := by
            funext i
            unfold Heap.put
            by_cases hi : i = id
            · subst hi; rw [if_pos rfl, hcs]
            · rw [if_neg hi]
          rw [hH] at hK
          refine .same hrel (run w ?_) (.int .i64 _) hK
          cases a with
          | none => rfl
          | some ad => simp [storeCells]
      · exact h.elim
    · exact h.elim
  · exact h.elim

theorem clear_sound (hrel : Rel P C H w) {t ty : TypeId} {x : AV} {u : Value} (hx : Repr C H w x u) {K : K1} (h : aClear P t x H K) : Does P C H w K (Builtin.clear_ #[t] ty #[u]) := by
  unfold aClear at h
  split at h
  · rename_i e id off len k he
    obtain ⟨et, u1, u2⟩ := sliceE_some he
    obtain ⟨hke, h1, h2, h3, h⟩ := h
    subst hke
    unfold cellsAt at h
    split at h
    · rename_i cs hcs
      obtain ⟨h4, hK⟩ := h
      cases hx with
      | ms _ _ _ _ a cap hid ha hl hs =>
      obtain ⟨z, z1, z2⟩ := zero_run (P := P) (C := C) (H := H) (w := w) u2 (by intro e; rw [e] at h1; simp [AV.isVal] at h1)
      have hcells := val_cells z2 h1
      have hz := zeros_ok (C := C) (H := H) (w := w) hcells (by omega) len (len * z.cells.size) (by rw [hcells.1])
      by_cases hl0 : len = 0
      · subst hl0
        have hw0 : writeC cs off (List.replicate 0 e.zero.cells).flatten = cs := by simp [writeC]
        rw [hw0] at hK
        have hH : H.put id (.cells cs) = H := by
          funext i
          unfold Heap.put
          by_cases hi : i = id
          · subst hi; rw [if_pos rfl, hcs]
          · rw [if_neg hi]
        rw [hH] at hK
        refine .same hrel (v := .tuple #[]) ?_ (.tup _ _ rfl (by simp)) hK
        unfold Builtin.clear_
        cases a <;> simp [run_underlying u1]
      · have hc : 0 < cap := by omega
        have hfl : (List.replicate len e.zero.cells).flatten.length = len * e.size := by
          rw [flatten_len (k := e.size) (fun c hc => by rw [List.eq_of_mem_replicate hc, h2]), List.length_replicate]
        obtain ⟨w', e1, e2, e3⟩ := cells_set (P := P) hrel hcs hz (off := off) (by rw [hfl]; exact h4)
        have := ha hc; subst this
        refine ⟨.tuple #[], w', C, _, .tup [], ?_, e3, e2, .tup _ _ rfl (by simp), hK⟩
        have hn : (len == 0) = false := by simp [hl0]
        unfold Builtin.clear_
        simp only [List.getElem?_toArray, List.getElem?_cons_succ, List.getElem?_cons_zero]
        simp only [Sem.run_bind, run_underlying u1, Result.andThen_ok]
        obtain ⟨n, rfl⟩ : ∃ n, len = n + 1 := ⟨len - 1, by omega⟩
        simp only [Sem.run_bind, z1, Result.andThen_ok, Builtin.zeroCells, e1, Sem.run_pure]
    · exact h.elim
  · exact h.elim
theorem makeSlice_sound (hrel : Rel P C H w) {t : TypeId} {l c : AV} {u v : Value} (hl : Repr C H w l u) (hc : Repr C H w c v) {K : K1} (h : aMakeSlice P t l c H K) : Does P C H w K (Instr.makeSlice t u v) := by
  unfold aMakeSlice at h
  split at h
  · rename_i e kl l kc c he
    cases hl; cases hc
    obtain ⟨et, u1, u2⟩ := sliceE_some he
    obtain ⟨h1, h2, h3, h4, h5, h6, h7⟩ := h
    obtain ⟨z, z1, z2⟩ := zero_run (P := P) (C := C) (H := H) (w := w) u2 (by intro e; rw [e] at h1; simp [AV.isVal] at h1)
    obtain ⟨info, de, i1, i2, i3, i4, i5, -⟩ := ti_desc u2
    have hlc : l ≤ c := by omega
    have hcells := val_cells z2 h1
    have hw1 : IntKind.i64.wrap l = l := by simp [IntKind.wrap, IntKind.signed, IntKind.bits]; omega
    have hw2 : IntKind.i64.wrap c = c := by simp [IntKind.wrap, IntKind.signed, IntKind.bits]; omega
    have hby : (info.bytes : Int) * c ≤ 281474976710656 := by
      rw [← i5, Int.mul_comm]; omega
    have hrun : (Instr.makeSlice t (.int kl l) (.int kc c)).run P w = .ok (.slice (some ⟨w.heap.size, 0, none⟩) l.toNat c.toNat) (w.alloc (.cells ((Array.range (c.toNat * e.size)).map fun j => z.cells[j % z.cells.size]!) et)) := by
      have hn1 : ¬ (c < 0) := by omega
      have hn2 : ¬ (281474976710656 < (info.bytes : Int) * c) := by omega
      have hn3 : ¬ (l < 0) := by omega
      have hn4 : ¬ (c < l) := by omega
      by_cases h0 : c.toNat * e.size = 0
      · have hc0 : c.toNat = 0 := by rcases Nat.mul_eq_zero.1 h0 with h | h <;> omega
        have r0 : Array.range 0 = #[] := by apply Array.ext' ; simp
        simp [Instr.makeSlice, run_underlying u1, asInt, asIntOf, typeInfo, i1, hw1, hw2, hn1, hn2, hn3, hn4, run_size u2, hc0, newRow, r0]
      · simp [Instr.makeSlice, run_underlying u1, asInt, asIntOf, typeInfo, i1, hw1, hw2, hn1, hn2, hn3, hn4, run_size u2, h0, z1, newRow]
    have hz := zeros_ok (C := C) (H := H) (w := w) hcells (by omega) c.toNat (c.toNat * e.size) (by rw [h2])
    have hsz : ((Array.range (c.toNat * e.size)).map fun j => z.cells[j % z.cells.size]!).size = c.toNat * e.size := by simp
    rcases h7 with ⟨rfl, hK⟩ | ⟨rfl, h8, hK⟩
    · obtain ⟨g1, g2⟩ := Le.alloc_own hrel (.cells ((Array.range (l.toNat * e.size)).map fun j => z.cells[j % z.cells.size]!) et) (.cells (List.replicate l.toNat e.zero.cells).flatten) (cells_own fun _ _ _ hle => hz.mono hle)
      refine ⟨_, _, _, _, _, hrun, g2, g1, .ms C.n 0 l.toNat e.size _ _ (by simp [Cx.new]) (fun _ => by rw [C.new_self]) (Nat.le_refl _) ⟨et, l.toNat * e.size, ?_, by omega⟩, hK _ (hrel.fresh (Nat.le_refl _))⟩
      rw [C.new_self]
      unfold World.shape?
      rw [heap_alloc_new w]
      show some (et, _) = _
      rw [hsz]
    · obtain ⟨g1, g2⟩ := Le.alloc_own hrel (.cells ((Array.range (c.toNat * e.size)).map fun j => z.cells[j % z.cells.size]!) et) (.tail 0) (fun C' H' w' _ hb => ⟨_, _, _, hb, Nat.zero_le _, .inl rfl⟩)
      have hsl := sl_of_tail (es := []) (k := e.size) (id := C.n) (cap := c.toNat) g2 (fun _ h => by simp at h) (by simp [Heap.put]) (by rw [C.new_self]; exact heap_alloc_new w _) (by simp) (by simp) (by rw [hsz]; exact Nat.le_refl _) (elemT_some u1)
      rw [C.new_self] at hsl
      exact ⟨_, _, _, _, _, hrun, g2, g1, hsl, hK _ (hrel.fresh (Nat.le_refl _))⟩
  · exact h.elim
end
end Go.Abs

/-
  Between strings and bytes; an operation of the machine.
-/
namespace Go.Abs
open Go.RowKit
set_option linter.unusedSimpArgs false
set_option linter.unusedVariables false

section
variable {P : Program} {C C' : Cx} {H H' : Heap} {w w' : World}

theorem bytesWorld_eq (w : World) (e : TypeId) (s : ByteArray) : Lib.bytesWorld w e s = w.drew.alloc (.cells (Lib.bytesCells w e s) e ((Lib.bytesCells w e s).size, (Lib.bytesCells w e s).size + 1)) := by
  have hh : (Lib.bytesWorld w e s).heap = (w.drew.alloc (.cells (Lib.bytesCells w e s) e ((Lib.bytesCells w e s).size, (Lib.bytesCells w e s).size + 1))).heap := by
    apply Array.ext_getElem?
    intro i
    by_cases hi : i < w.heap.size
    · rw [Lib.bytesWorld_at_old w e s i hi, Below.heap_alloc w.drew _ i hi]; rfl
    · by_cases he : i = w.heap.size
      · subst he; rw [Lib.bytesWorld_at_new]; exact (heap_alloc_new w.drew _).symm
      · have h1 : (Lib.bytesWorld w e s).heap.size ≤ i := by rw [Lib.bytesWorld_size]; omega
        have h2 : (w.drew.alloc (.cells (Lib.bytesCells w e s) e ((Lib.bytesCells w e s).size, (Lib.bytesCells w e s).size + 1))).heap.size ≤ i := by
          simp; omega
        rw [Array.getElem?_eq_none h1, Array.getElem?_eq_none h2]
  have : ∀ (a b : World), a.heap = b.heap → a.tape = b.tape → a.drawn = b.drawn → a.os = b.os → a.output = b.output → a = b := by
    intro a b h1 h2 h3 h4 h5
    cases a; cases b; simp only at *; subst h1 h2 h3 h4 h5; rfl
  exact this _ _ hh rfl rfl rfl rfl

theorem isBytes_some {t : TypeId} (h : isBytes P t = true) : ∃ e, P.underlying t = some (.slice e) ∧ P.underlying e = some (.int .u8) := by
  unfold isBytes at h
  split at h
  · rename_i e he
    obtain ⟨u, u1, u2⟩ := sliceE_some he
    have hd : e.desc = .int .u8 := by simpa using h
    obtain ⟨info, d, d1, d2, d3, -⟩ := ti_desc u2
    have := (td_plain d3).2.2.1 _ hd
    subst this
    exact ⟨u, u1, d2⟩
  · cases h

theorem push_list (l : List UInt8) : ∀ (s : ByteArray), ((l.map fun b => (b.toNat : Int)).foldl (fun r n => r.push (UInt8.ofNat n.toNat)) s).data.toList = s.data.toList ++ l := by
  induction l with
  | nil => intro s; simp
  | cons b l ih =>
    intro s
    rw [List.map_cons, List.foldl_cons, ih]
    simp

theorem desc_uptr {t : TypeId} (h : descOf P t = .uptr) : P.underlying t = some .unsafePointer := by
  obtain ⟨d, h1, h2⟩ := descOf_eq h (by simp)
  cases d <;> simp [TD.of] at h2 <;> first | exact h1 | (split at h2 <;> simp at h2)
theorem liesAt_self {T : TypeId} {n : Nat} (hc : P.cellsOf T = n) (h0 : ¬ n = 0) : liesAt P P.depth T (n / P.cellsOf T) 0 T 1 = true := by
  have hd : P.depth = (2 * (P.types.size + Made.depth) + 1) + 1 := rfl
  rw [hc, Nat.div_self (by omega), hd]
  simp only [liesAt, Bool.or_eq_true]
  left
  rw [hd]
  simp [rowAt, hc, h0, sameLayout]
theorem convU_sound (hrel : Rel P C H w) {src dst : TypeId} {x : AV} {v : Value} (hx : Repr C H w x v) {K : K1} (h : aConvU P src dst x H K) : Does P C H w K (convert src dst v) := by
  unfold aConvU at h
  split at h
  · rename_i T sz id
    split at h
    · rename_i i hi
      obtain ⟨hd, hne, hsz, hK⟩ := h
      obtain ⟨info, d, h1, h2, h3, h4, -⟩ := ti_desc hi
      cases hx with
      | tptr _ _ _ hid hsh =>
      rcases hd with ⟨d1, d2⟩ | ⟨d1, d2⟩
      · exact .same hrel (Lib.run_to_unsafe w _ (desc_ptr d1) (desc_uptr d2) h1 (by rw [← h4]; exact hne) hsh (show 0 < sz by omega)) (.tptr _ _ _ hid hsh) hK
      · refine .same hrel (Lib.run_from_unsafe w _ (desc_uptr d1) (desc_ptr d2) h1 hsh ?_) (.tptr _ _ _ hid hsh) hK
        have hc : P.cellsOf T = sz := by rw [← hsz, h4]; simp [Program.cellsOf, h1]
        have := liesAt_self (P := P) hc (by omega)
        rw [hc] at this ⊢
        exact this
    · exact h.elim
  · exact h.elim
theorem freeze_ne {b n k : Nat} (hk : k ≠ b) : (w.freeze ⟨b, 0, none⟩ n).heap[k]? = w.heap[k]? := by
  unfold World.freeze
  split
  · rfl
  · simp only [Array.getElem?_modify]
    rw [if_neg (fun e => hk e.symm)]
theorem freeze_self {b n : Nat} (hn : n ≠ 0) {arr : Array Value} {ty : TypeId} {fr : Nat × Nat} (h : w.heap[b]? = some (.cells arr ty fr)) :
    ∃ fr', (w.freeze ⟨b, 0, none⟩ n).heap[b]? = some (.cells arr ty fr') ∧ ∀ m, n ≤ m → Pfx fr m → Pfx fr' m := by
  obtain ⟨lo, hi⟩ := fr
  refine ⟨if lo == hi then (0, 0 + n) else (min lo 0, max hi (0 + n)), ?_, fun m hm hp => ?_⟩
  · unfold World.freeze
    rw [if_neg hn]
    simp [Array.getElem?_modify, h]
  · by_cases e : lo = hi
    · subst e; simp [Pfx]; omega
    · have : (lo == hi) = false := by simpa using e
      rw [this]
      rcases hp with hp | hp
      · exact absurd hp e
      · simp only [Bool.false_eq_true, if_false]
        exact .inr ⟨by simp, by simp at hp ⊢; omega⟩
/-- What nobody writes is frozen. -/
theorem Le.freeze (hrel : Rel P C H w) {b n : Nat} (hb : C.base ≤ b) {sh : TypeId × Nat} (hsh : w.shape? b = some sh) (hro : ∀ j, j < n → RO C H w b j) : Le C H w C H (w.freeze ⟨b, 0, none⟩ n) ∧ Rel P C H (w.freeze ⟨b, 0, none⟩ n) := by
  by_cases hn : n = 0
  · subst hn
    have : w.freeze ⟨b, 0, none⟩ 0 = w := by simp [World.freeze]
    rw [this]; exact ⟨Le.refl _ _ _, hrel⟩
  obtain ⟨arr, ty, fr, ha⟩ : ∃ arr ty fr, w.heap[b]? = some (.cells arr ty fr) := by
    unfold World.shape? at hsh
    split at hsh
    · exact ⟨_, _, _, ‹_›⟩
    · cases hsh
  obtain ⟨fr', hf, hp⟩ := freeze_self (w := w) hn ha
  have hsz : (w.freeze ⟨b, 0, none⟩ n).heap.size = w.heap.size := by
    unfold World.freeze; rw [if_neg hn]; simp
  have hle : Le C H w C H (w.freeze ⟨b, 0, none⟩ n) := by
    refine ⟨Nat.le_refl _, fun _ _ => rfl, rfl, fun k s hs => ?_, fun k off hr => ⟨⟨by rw [hsz]; exact hr.1, hr.2⟩, ?_⟩, Lib.below_freeze (Below.refl _ _) hb n⟩
    · by_cases hk : k = b
      · subst hk; unfold World.shape? at *; rw [ha] at hs; rw [hf]; exact hs
      · unfold World.shape? at *; rw [freeze_ne hk]; exact hs
    · by_cases hk : k = b
      · subst hk; unfold World.cell?; simp only; rw [hf, ha]
      · unfold World.cell?; simp only; rw [freeze_ne hk]
  refine ⟨hle, fun id o ho => ?_, hrel.inj, by rw [hsz]; exact hrel.base, hrel.tab.le hle⟩
  obtain ⟨h1, h2, h3⟩ := hrel.live id o ho
  refine ⟨h1, h2, ?_⟩
  by_cases hk : C.β id = b
  · have hno : ∀ j, j < n → ¬ o.owns j := fun j hj hown => (hro j hj).2 ⟨id, o, ho, hk, hown⟩
    cases o with
    | tail m =>
      obtain ⟨arr2, ty2, fr2, g1, g0, g2⟩ := h3
      rw [hk, ha] at g1
      cases g1
      rw [hk]
      have := hno (n - 1) (by omega)
      simp only [AObj.owns] at this
      exact ⟨arr, ty, fr', hf, g0, hp m (by omega) g2⟩
    | cells cs => exact absurd trivial (hno 0 (by omega))
    | map kk es => exact absurd trivial (hno 0 (by omega))
    | bmap kk es bs cl => exact absurd trivial (hno 0 (by omega))
    | iter m cl seen => exact absurd trivial (hno 0 (by omega))
  · exact h3.mono hle (freeze_ne hk)
/-- The mark of a conversion, behind a block that nobody owns. -/
theorem Le.mark (hrel : Rel P C H w) {b : Nat} (hb : C.base ≤ b) {ty : TypeId} {sz : Nat} (hsh : w.shape? b = some (ty, sz)) (hro : RO C H w b sz) : Le C H w C H (w.freeze ⟨b, sz, none⟩ 1) ∧ Rel P C H (w.freeze ⟨b, sz, none⟩ 1) := by
  obtain ⟨arr, fr, ha, hsz⟩ : ∃ arr fr, w.heap[b]? = some (.cells arr ty fr) ∧ arr.size = sz := by
    unfold World.shape? at hsh
    split at hsh
    · rename_i c e f he
      cases hsh
      exact ⟨_, _, he, rfl⟩
    · cases hsh
  have hne : ∀ k, k ≠ b → (w.freeze ⟨b, sz, none⟩ 1).heap[k]? = w.heap[k]? := fun k hk => by
    unfold World.freeze
    rw [if_neg (by omega)]
    simp only [Array.getElem?_modify]
    rw [if_neg (fun e => hk e.symm)]
  obtain ⟨fr', hf⟩ : ∃ fr', (w.freeze ⟨b, sz, none⟩ 1).heap[b]? = some (.cells arr ty fr') := by
    unfold World.freeze
    rw [if_neg (by omega)]
    simp [Array.getElem?_modify, ha]
  have hsize : (w.freeze ⟨b, sz, none⟩ 1).heap.size = w.heap.size := by
    unfold World.freeze; rw [if_neg (by omega)]; simp
  have hle : Le C H w C H (w.freeze ⟨b, sz, none⟩ 1) := by
    refine ⟨Nat.le_refl _, fun _ _ => rfl, rfl, fun k s hs => ?_, fun k off hr => ⟨⟨by rw [hsize]; exact hr.1, hr.2⟩, ?_⟩, Lib.below_freeze (Below.refl _ _) hb 1⟩
    · by_cases hk : k = b
      · subst hk; unfold World.shape? at *; rw [ha] at hs; rw [hf]; exact hs
      · unfold World.shape? at *; rw [hne k hk]; exact hs
    · by_cases hk : k = b
      · subst hk; unfold World.cell?; simp only; rw [hf, ha]
      · unfold World.cell?; simp only; rw [hne k hk]
  refine ⟨hle, fun id o ho => ?_, hrel.inj, by rw [hsize]; exact hrel.base, hrel.tab.le hle⟩
  obtain ⟨h1, h2, h3⟩ := hrel.live id o ho
  refine ⟨h1, h2, ?_⟩
  by_cases hk : C.β id = b
  · have hno : ¬ o.owns sz := fun hown => hro.2 ⟨id, o, ho, hk, hown⟩
    cases o with
    | tail m =>
      obtain ⟨arr2, ty2, fr2, q1, q0, q2⟩ := h3
      rw [hk, ha] at q1
      cases q1
      simp only [AObj.owns] at hno
      omega
    | cells cs => exact absurd trivial hno
    | map kk es => exact absurd trivial hno
    | bmap kk es bs cl => exact absurd trivial hno
    | iter m cl seen => exact absurd trivial hno
  · exact h3.mono hle (hne _ hk)
theorem uString_sound (hrel : Rel P C H w) {pt it ty : TypeId} {p n : AV} {u v : Value} (hp : Repr C H w p u) (hn : Repr C H w n v) {K : K1} (h : aUString P pt p n H K) : Does P C H w K (Builtin.unsafeString_ #[pt, it] ty #[u, v]) := by
  unfold aUString at h
  split at h
  · rename_i t l m
    obtain ⟨rfl, h2, h3, hK⟩ := h
    cases hp with
    | bp _ _ ad hb =>
    cases hn
    by_cases hl : l = []
    · subst hl
      exact .same hrel (Lib.run_unsafeString_none w _ _ _ _) (.str _ _ rfl) hK
    · obtain ⟨b, sz, rfl, b1, b2, b3, b4⟩ := hb hl
      obtain ⟨d1, d2⟩ := h3 hl
      have hc : P.cellsOf t = 1 := by
        cases hti : ti P t with
        | none => rw [hti] at d2; cases d2
        | some i =>
          rw [hti] at d2
          simp only [Option.map_some, Option.some.injEq] at d2
          obtain ⟨info, d, e1, e2, e3, e4, -⟩ := ti_desc hti
          simp [Program.cellsOf, e1, ← e4, d2]
      obtain ⟨g1, g2⟩ := Le.freeze hrel b1 b2 (n := l.length) (fun j hj => (b4 j _ (List.getElem?_eq_getElem hj)).2)
      refine ⟨_, _, _, _, _, Lib.run_unsafeString_row w _ _ _ _ (desc_ptr d1) hc b sz b2 l hl b3 h2 (fun j x hj => ?_), g2, g1, .str _ _ rfl, hK⟩
      rw [add_none, Nat.zero_add]
      exact (b4 j x hj).1
  · exact h.elim
theorem conv2_sound (hrel : Rel P C H w) {src dst : TypeId} {x : AV} {v : Value} (hx : Repr C H w x v) {K : K1} (h : aConv P src dst x H K) : Does P C H w K (convert src dst v) := by
  unfold aConv at h
  split at h
  · rename_i hc
    obtain ⟨et, e1, e2⟩ := isBytes_some hc.1
    split at h
    · rename_i s
      cases hx
      rename_i bs hbs
      have hrun := Lib.run_convert_string_bytes (P := P) w src dst et bs (desc_string hc.2) e1 e2
      rw [bytesWorld_eq] at hrun
      have hge := grownCap_ge w bs.size 0 et
      have hsz : (Lib.bytesCells w et bs).size = grownCap w bs.size 0 et := by
        simp [Lib.bytesCells]
        have : bs.data.size = bs.size := rfl
        omega
      have hlen : s.length = bs.size := by rw [← hbs]; simp
      obtain ⟨d1, d2⟩ := Le.drew hrel
      obtain ⟨g1, g2⟩ := Le.alloc_own d2 (.cells (Lib.bytesCells w et bs) et ((Lib.bytesCells w et bs).size, (Lib.bytesCells w et bs).size + 1)) (.cells (s.map fun b => .int .u8 b.toNat)) (fun C' H' w' hle hb => by
        refine ⟨_, _, _, hb, by rw [hsz]; simp [hlen]; exact hge, fun j hj => ?_, fun o _ ho => by simp; omega⟩
        simp only [List.length_map] at hj
        have hr := (bytes_row (C := C') (H := H') (w := w') s bs.data hbs).2.2 j (by rw [singles (fun b : UInt8 => AV.int .u8 b.toNat)]; simpa using hj)
        rw [singles (fun b : UInt8 => AV.int .u8 b.toNat)] at hr
        have a2 : (Lib.bytesCells w et bs).getD j default = (bs.data.map fun b : UInt8 => Value.int .u8 b.toNat).getD j default := by
          simp only [Lib.bytesCells, Array.getD_eq_getD_getElem?]
          rw [Array.getElem?_append_left (by have : bs.data.size = bs.size := rfl; simp; omega)]
        rw [a2]
        exact hr)
      refine ⟨_, _, _, _, .ms C.n 0 s.length 1, hrun, g2, d1.trans g1, ?_, h _ (hrel.fresh (Nat.le_refl _))⟩
      rw [← hlen]
      refine .ms _ _ _ _ _ _ (by simp [Cx.new]) (fun _ => by rw [C.new_self]; rfl) (by rw [hlen]; exact hge) ⟨et, (Lib.bytesCells w et bs).size, ?_, by rw [hsz, hlen]; omega⟩
      rw [C.new_self]
      have := heap_alloc_new w.drew (.cells (Lib.bytesCells w et bs) et ((Lib.bytesCells w et bs).size, (Lib.bytesCells w et bs).size + 1))
      unfold World.shape?
      rw [this]
    · exact h.elim
  · split at h
    · rename_i hc
      obtain ⟨et, e1, e2⟩ := isBytes_some hc.1
      obtain ⟨hns, h⟩ := h
      obtain ⟨new, arr, src', l, rfl, hK⟩ := src_sound (P := P) hrel hx h
      have hd := desc_string hc.2
      have hfl : (l.map fun b : UInt8 => [AV.int .u8 b.toNat]).flatten = l.map fun b : UInt8 => AV.int .u8 b.toNat := singles _ _
      have hcells := src'.row.2
      rw [hfl] at hcells
      have harr : arr = ((l.map fun b : UInt8 => (b.toNat : Int)).map (Value.int .u8)).toArray := by
        apply Array.ext
        · have := hcells.1; simpa using this.symm
        · intro i h1 h2
          simp at h2
          have hr := (hcells.2 i (by simpa using h2)).2
          have e3 : (l.map fun b : UInt8 => AV.int .u8 b.toNat).getD i .junk = .int .u8 (l[i]).toNat := by simp [List.getD, h2]
          have e4 : arr.getD i default = arr[i] := by simp [Array.getD_eq_getD_getElem?, h1]
          rw [e3, e4] at hr
          generalize arr[i] = y at hr
          cases hr
          simp
      have hall := src'.first w l.length rfl (by simp)
      have hsz : arr.size = l.length := by rw [harr]; simp
      rw [Nat.mul_one, ← hsz, Array.extract_size, hsz] at hall
      have hstr : ∀ (a : Option Addr) (n cap : Nat), v = .slice a n cap → n = l.length → Does P C H w K (convert src dst v) := by
        intro a n cap hv hn
        subst hv hn
        have hconv := run_convert_bytes_string (P := P) w src dst et a l.length cap e1 e2 hd
        cases a with
        | none =>
          simp only [Builtin.firstCells, Sem.run_pure] at hall
          injection hall with hall
          rw [← hall] at hsz
          have : l = [] := List.eq_nil_of_length_eq_zero (by simpa using hsz.symm)
          subst this
          refine .same hrel (v := .string .empty) (by rw [hconv]; rfl) (.str _ _ (by rfl)) hK
        | some ad =>
          simp only [Builtin.firstCells, Nat.mul_one] at hall
          rw [harr] at hall
          have hb := run_bytesToString (P := P) w ad l.length cap _ hall
          exact .same hrel (by rw [hconv]; exact hb) (.str _ _ (by rw [push_list]; rfl)) hK
      have hlen := src'.len w
      rw [List.length_map] at hlen
      cases v <;> first
        | (simp [Builtin.lenOf] at hlen; done)
        | (rename_i a n cap; simp only [Builtin.lenOf, Sem.run_pure] at hlen; injection hlen with hlen; exact hstr a n cap rfl hlen)
        | (rename_i bs; generalize hvv : Value.string bs = vv at hx; cases hx <;> first | exact (show False from h).elim | (simp [isStr] at hns; done) | (cases hvv; done))
    · split at h
      · exact convU_sound hrel hx h
      · split at h
        · rename_i hc
          obtain ⟨hsd, hby⟩ := hc
          subst hsd
          obtain ⟨et, e1, e2⟩ := isBytes_some hby
          split at h
          · rename_i es
            cases hx with
            | sl _ _ a cap b off us ha hc hr hl ht =>
            have ht0 := ht
            obtain ⟨rfl, b0, off0, ty, sz, rfl, hbase, hsh, hro⟩ := ht
            obtain ⟨g1, g2⟩ := Le.mark hrel hbase hsh hro
            refine ⟨_, _, C, H, .sl es .exact, ?_, g2, g1, .mono g1 (.sl es .exact _ _ b off us ha hc hr hl rfl), h⟩
            simp [convert, run_underlying e1, run_underlying e2, markStringish, hsh]
          · exact h.elim
        · unfold so at h
          split at h
          · rename_i z hz
            exact .gives hrel (conv_sound hz hx) h
          · exact h.elim

/-! ### Maps that are ranged over; entries -/
theorem setBlk_id {b : Nat} {o : Obj} (h : w.heap[b]? = some o) : setBlk w b o = w := by
  have : w.heap.setIfInBounds b o = w.heap := by
    apply Array.ext_getElem?
    intro i
    by_cases hi : b = i
    · subst hi; rw [h]; have := (Array.getElem?_eq_some_iff.1 h).1; simp [this]
    · rw [Array.getElem?_setIfInBounds_ne hi]
  unfold setBlk; rw [this]
/-- The same block, seen in another way. -/
theorem Le.view (hrel : Rel P C H w) {id : Nat} {old x : AObj} (ho : H id = some old) (hown : ∀ off, ¬ old.owns off → ¬ x.owns off)
    (hx : ∀ C' H' w', Le C H w C' H' w' → w'.heap[C.β id]? = w.heap[C.β id]? → ObjOK C' H' w' (C.β id) x) : Le C H w C (H.put id x) w ∧ Rel P C (H.put id x) w := by
  obtain ⟨hid, hbase, hok⟩ := hrel.live id old ho
  obtain ⟨o, hob⟩ : ∃ o, w.heap[C.β id]? = some o := ⟨_, Array.getElem?_eq_getElem hok.lt⟩
  have := Le.set_own hrel ho (x := x) (o := o) (fun off hno => ⟨o, hob, by rw [setBlk_id hob], hown off hno⟩) (fun s hs => by rw [setBlk_id hob]; exact hs)
    (fun C' H' w' hle hb => hx C' H' w' hle (by rw [hb, hob]))
  rwa [setBlk_id hob] at this
theorem nodup_of_lt {l : List Nat} (h : l.Pairwise (· < ·)) : l.Nodup := h.imp fun h => Nat.ne_of_lt h
theorem range_sound (hrel : Rel P C H w) {t : TypeId} {x : AV} {u : Value} (hx : Repr C H w x u) {K : K1} (h : aRange P t x H K) : Does P C H w K (Instr.range t u) := by
  unfold aRange at h
  split at h
  · rename_i kt et hd
    obtain ⟨d, d1, d2⟩ := descOf_eq hd (by simp)
    have := (td_plain d2).2.2.2.2.2.1 _ _ rfl
    subst this
    split at h
    · rename_i id
      unfold mapAt at h
      split at h
      · rename_i kk es hes
        cases hx with
        | map _ hid =>
        obtain ⟨-, -, fs, cl, a1, a2, a3, a4⟩ := hrel.live id _ hes
        have hlen : (fs.toList.map (·.born)).length = es.length := by rw [List.length_map]; exact a2.1.symm
        obtain ⟨v1, v2⟩ := Le.view hrel (x := .bmap kk es (fs.toList.map (·.born)) cl) hes (fun off hno => absurd trivial hno)
          (fun C' H' w' hle hb => ⟨fs, by rw [hb, a1], a2.mono hle, rfl, a3, a4⟩)
        obtain ⟨h1, h2⟩ := Le.alloc_own v2 (.mapIter (some (C.β id)) cl #[] cl) (.iter (some id) cl []) (fun C' H' w' hle hb => ⟨#[], by rw [hb, Option.map_some, hle.β id hid], rfl, fun i hi => by cases hi; exact Nat.lt_of_lt_of_le hid hle.n⟩)
        refine ⟨.pointer (some ⟨w.heap.size, 0, none⟩), w.alloc (.mapIter (some (C.β id)) cl #[] cl), _, _, .ptr C.n 0, ?_, h2, v1.trans h1, ?_, h _ cl hlen (nodup_of_lt a3) _ ?_⟩
        · simp [Instr.range, run_underlying d1, getObj_map a1]
        · have := Repr.ptr (C := C.new w.heap.size) (H := (H.put id (.bmap kk es (fs.toList.map (·.born)) cl)).put C.n (.iter (some id) cl [])) (w := w.alloc (.mapIter (some (C.β id)) cl #[] cl)) C.n 0 (by simp [Cx.new])
          rwa [C.new_self] at this
        · exact hrel.fresh (Nat.le_refl _)
      · exact h.elim
    · cases hx
      obtain ⟨h1, h2⟩ := Le.alloc_own hrel (.mapIter none 0 #[] 0) (.iter none 0 []) (fun C' H' w' hle hb => ⟨#[], hb, rfl, fun i hi => by cases hi⟩)
      refine ⟨.pointer (some ⟨w.heap.size, 0, none⟩), w.alloc (.mapIter none 0 #[] 0), _, _, .ptr C.n 0, ?_, h2, h1, ?_, h _ (hrel.fresh (Nat.le_refl _))⟩
      · simp [Instr.range, run_underlying d1]
      · have := Repr.ptr (C := C.new w.heap.size) (H := H.put C.n (.iter none 0 [])) (w := w.alloc (.mapIter none 0 #[] 0)) C.n 0 (by simp [Cx.new])
        rwa [C.new_self] at this
    · exact h.elim
  · exact h.elim

theorem keyV0_repr {k : KK0} {a : Key0} {v : Value} (h : keyV0 k a v) : Repr C H w (a.av k) v ∧ oneV v = true := by
  cases k <;> cases a <;> simp only [keyV0] at h
  · obtain ⟨s, rfl, h2⟩ := h; exact ⟨.str _ _ h2, rfl⟩
  · subst h; exact ⟨.int _ _, rfl⟩
theorem keyVs_repr : ∀ (ks : List KK0) (l : List Key0) (vs : List Value), keyVs ks l vs → (avs0 ks l).length = vs.length ∧ ∀ j, j < vs.length → oneV (vs.getD j default) = true ∧ Repr C H w ((avs0 ks l).getD j .junk) (vs.getD j default) := by
  intro ks
  induction ks with
  | nil => intro l vs h; cases l <;> cases vs <;> simp_all [keyVs, avs0]
  | cons k ks ih =>
    intro l vs h
    cases l with
    | nil => simp [keyVs] at h
    | cons a l =>
    cases vs with
    | nil => simp [keyVs] at h
    | cons v vs =>
      obtain ⟨h1, h2⟩ := ih l vs h.2
      obtain ⟨r1, r2⟩ := keyV0_repr (C := C) (H := H) (w := w) h.1
      refine ⟨by simp [avs0, h1], fun j hj => ?_⟩
      cases j with
      | zero => exact ⟨by simpa using r2, by simpa [avs0] using r1⟩
      | succ j => simpa [avs0] using h2 j (by simpa using hj)
theorem keyV_repr {kk : KK} {k : Key} {v : Value} (h : keyV kk k v) : Repr C H w (k.av kk) v := by
  cases kk <;> cases k <;> simp only [keyV] at h
  · obtain ⟨s, rfl, h2⟩ := h; exact .str _ _ h2
  · subst h; exact .int _ _
  · obtain ⟨vs, rfl, h⟩ := h
    obtain ⟨h1, h2⟩ := keyVs_repr (C := C) (H := H) (w := w) _ _ _ h
    simp only [Array.length_toList] at h1 h2
    have e : ∀ j, vs.toList.getD j default = vs.getD j default := fun j => by simp [Array.getD_eq_getD_getElem?, List.getD]
    exact .agg _ vs h1 (fun j hj => by have := (h2 j (by rw [← h1]; exact hj)).1; rwa [e] at this) (fun j hj => by have := (h2 j (by rw [← h1]; exact hj)).2; rwa [e] at this)

theorem getObj_iter {b : Nat} {m : Option Nat} {a c : Nat} {s : Array Nat} (h : w.heap[b]? = some (.mapIter m a s c)) : (getObj b).run P w = .ok (.mapIter m a s c) w := by simp [getObj, Sem.run, h]
theorem setObj_iter {b : Nat} {m : Option Nat} {a c : Nat} {s : Array Nat} (h : w.heap[b]? = some (.mapIter m a s c)) (o : Obj) : (setObj b o).run P w = .ok () (setBlk w b o) := by simp [setObj, Sem.run, h, setBlk]
theorem Rel.drew (hrel : Rel P C H w) : Le C H w C H w.drew ∧ Rel P C H w.drew := by
  have hle : Le C H w C H w.drew := ⟨Nat.le_refl _, fun _ _ => rfl, rfl, fun _ _ h => h, fun _ _ h => ⟨h, rfl⟩, (Below.refl _ _).drew⟩
  exact ⟨hle, fun id o ho => by obtain ⟨h1, h2, h3⟩ := hrel.live id o ho; exact ⟨h1, h2, h3.mono hle rfl⟩, hrel.inj, hrel.base, hrel.tab.le hle⟩
theorem tup1 {x : AV} {v : Value} (h : Repr C H w x v) : Repr C H w (.tup [x]) (.tuple #[v]) := .tup _ _ rfl fun j hj => by
  have : j = 0 := by simpa using hj
  subst this; exact h
theorem tup2 {x y : AV} {v u : Value} (h : Repr C H w x v) (k : Repr C H w y u) : Repr C H w (.tup [x, y]) (.tuple #[v, u]) := .tup _ _ rfl fun j hj => by
  have : j = 0 ∨ j = 1 := by simp at hj; omega
  rcases this with rfl | rfl
  · exact h
  · exact k
theorem tup3 {x y z : AV} {v u t : Value} (h : Repr C H w x v) (k : Repr C H w y u) (l : Repr C H w z t) : Repr C H w (.tup [x, y, z]) (.tuple #[v, u, t]) := .tup _ _ rfl fun j hj => by
  have : j = 0 ∨ j = 1 ∨ j = 2 := by simp at hj; omega
  rcases this with rfl | rfl | rfl
  · exact h
  · exact k
  · exact l

theorem find_born : ∀ {l : List MapEntry} {j : Nat} {f : MapEntry}, (l.map (·.born)).Pairwise (· < ·) → l[j]? = some f → l.find? (fun e => e.born == f.born) = some f
  | x :: l, 0, f, _, h => by
    simp only [List.getElem?_cons_zero, Option.some.injEq] at h
    subst h
    simp
  | x :: l, j + 1, f, hp, h => by
    simp only [List.getElem?_cons_succ] at h
    obtain ⟨h1, h2⟩ := List.pairwise_cons.1 (show (x.born :: l.map (·.born)).Pairwise (· < ·) from hp)
    have hm : f ∈ l := List.mem_of_getElem? h
    have hlt := h1 f.born (List.mem_map_of_mem hm)
    rw [List.find?_cons, show (x.born == f.born) = false by simp; omega]
    exact find_born h2 h
theorem here_sound (hrel : Rel P C H w) {x : AV} {u : Value} (hx : Repr C H w x u) {K : K1} (h : aHere x H K) : Does P C H w K (Instr.entry u) := by
  unfold aHere at h
  split at h
  · rename_i it
    split at h
    · rename_i m cl seen hit
      obtain ⟨-, -, sa, a1, a2, a3⟩ := hrel.live it _ hit
      split at h
      · rename_i kk es bs cl' hm
        obtain ⟨rfl, b, j, k, v, h1, h2, h3, h4⟩ := h
        obtain ⟨-, -, fs, b1, ⟨b2, b2'⟩, b3, b4, b5⟩ := hrel.live m _ hm
        cases hx
        rw [Option.map_some] at a1
        have hlt := (List.getElem?_eq_some_iff.1 h3).1
        have hj := b2' j hlt
        have e1 : es.getD j default = (k, v) := by simp [List.getD, h3]
        obtain ⟨f, hf⟩ : ∃ f, fs.toList[j]? = some f := ⟨fs.toList[j]'(by omega), List.getElem?_eq_getElem _⟩
        have e2 : fs.toList.getD j default = f := by rw [List.getD, hf]; rfl
        rw [e1, e2] at hj
        have hb : f.born = b := by
          rw [← b3, List.getElem?_map, hf] at h2
          simpa using h2
        have hback : sa.back? = some b := by
          rw [← a2, List.getLast?_eq_getElem?] at h1
          rw [Array.back?_eq_getElem?, ← Array.getElem?_toList]
          simpa using h1
        have hfind : fs.find? (fun e => e.born == b) = some f := by
          rw [← Array.find?_toList, ← hb]
          exact find_born b4 hf
        refine .same (v := .tuple #[f.key, f.val]) hrel ?_ (tup2 (keyV_repr hj.1) hj.2) h4
        unfold Instr.entry
        simp only [Sem.run_bind, getObj_iter a1, Result.andThen_ok, hback, getObj_map b1]
        simp [hfind, Sem.run_bind]
      · exact h.elim
    · exact h.elim
  · exact h.elim
theorem own_put {C : Cx} {H : Heap} {id : Nat} {o o' : AObj} (hm : H id = some o) (ho : ∀ j, o'.owns j ↔ o.owns j) (b j : Nat) : Owned C (H.put id o') b j ↔ Owned C H b j := by
  have same : (H.put id o') id = some o' := by unfold Heap.put; rw [if_pos rfl]
  have other : ∀ i, ¬ i = id → (H.put id o') i = H i := fun i h => by unfold Heap.put; rw [if_neg h]
  constructor
  · rintro ⟨i, p, h1, h2, h3⟩
    by_cases e : i = id
    · subst e
      rw [same] at h1
      cases h1
      exact ⟨i, o, hm, h2, (ho j).1 h3⟩
    · rw [other _ e] at h1
      exact ⟨i, p, h1, h2, h3⟩
  · rintro ⟨i, p, h1, h2, h3⟩
    by_cases e : i = id
    · subst e
      rw [hm] at h1
      cases h1
      exact ⟨i, o', same, h2, (ho j).2 h3⟩
    · exact ⟨i, p, by rw [other _ e]; exact h1, h2, h3⟩
/-- When the entries of a map were born is forgotten. -/
theorem Rel.unborn {C : Cx} {H : Heap} {w : World} (h1 : Rel P C H w) {id : Nat} {kk : KK} {es : List (Key × AV)} {bs : List Nat} {cl : Nat} (hm : H id = some (.bmap kk es bs cl)) : Le C H w C (H.put id (.map kk es)) w ∧ Rel P C (H.put id (.map kk es)) w := by
  have same : (H.put id (.map kk es)) id = some (.map kk es) := by unfold Heap.put; rw [if_pos rfl]
  have other : ∀ i, ¬ i = id → (H.put id (.map kk es)) i = H i := fun i h => by unfold Heap.put; rw [if_neg h]
  have hle : Le C H w C (H.put id (.map kk es)) w := ⟨Nat.le_refl _, fun _ _ => rfl, rfl, fun _ _ h => h, fun b off h => ⟨⟨h.1, fun h3 => h.2 ((own_put (o' := .map kk es) hm (fun j => Iff.rfl) b off).1 h3)⟩, rfl⟩, Below.refl _ _⟩
  refine ⟨hle, ⟨fun i o hi => ?_, fun i j oi oj hi hj => ?_, h1.base, h1.tab.le hle⟩⟩
  · by_cases e : i = id
    · subst e
      rw [same] at hi
      cases hi
      obtain ⟨g1, g2, fs, a1, a2, a3, a4, a5⟩ := h1.live i _ hm
      exact ⟨g1, g2, fs, cl, a1, a2.mono hle, a4, a5⟩
    · rw [other _ e] at hi
      obtain ⟨g1, g2, g3⟩ := h1.live i o hi
      exact ⟨g1, g2, g3.mono hle rfl⟩
  · have ex : ∀ i o, H.put id (.map kk es) i = some o → ∃ o', H i = some o' := fun i o h => by
      by_cases e : i = id
      · subst e; exact ⟨_, hm⟩
      · rw [other _ e] at h; exact ⟨o, h⟩
    obtain ⟨o1, e1⟩ := ex i oi hi
    obtain ⟨o2, e2⟩ := ex j oj hj
    exact h1.inj i j o1 o2 e1 e2
theorem next_sound (hrel : Rel P C H w) {x : AV} {u : Value} (hx : Repr C H w x u) (ty : TypeId) {K : K1} (h : aNext x H K) : Does P C H w K (Instr.next u false ty) := by
  unfold aNext at h
  split at h
  · rename_i it
    split at h
    · rename_i cl seen hit
      obtain ⟨-, -, sa, a1, a2, a3⟩ := hrel.live it _ hit
      cases hx
      refine .same (v := .tuple #[.bool false]) hrel ?_ (tup1 (.bool false)) h
      unfold Instr.next
      simp only [Sem.run_bind, getObj_iter a1, Result.andThen_ok, Option.map_none]
      rfl
    · rename_i m cl seen hit
      obtain ⟨-, -, sa, a1, a2, a3⟩ := hrel.live it _ hit
      split at h
      · rename_i kk es bs cl' hm
        obtain ⟨rfl, h1, h2⟩ := h
        obtain ⟨-, -, fs, b1, b2, b3, b4, b5⟩ := hrel.live m _ hm
        cases hx
        rw [Option.map_some] at a1
        -- what is left
        have hleft : ∀ f, f ∈ (fs.filter fun e => !sa.contains e.born).toList ↔ f ∈ fs.toList ∧ f.born ∉ seen := by
          intro f
          simp only [Array.toList_filter, List.mem_filter, Array.mem_toList_iff, Bool.not_eq_true', ← a2]
          simp
        have hold : ((fs.filter fun e => !sa.contains e.born).filter fun e => decide (e.born < cl')) = fs.filter fun e => !sa.contains e.born := by
          apply Array.filter_eq_self.2
          intro f hf
          have : f ∈ fs.toList := ((hleft f).1 (by simpa using hf)).1
          simpa using b5 f this
        have hnew : ((fs.filter fun e => !sa.contains e.born).filter fun e => decide (e.born ≥ cl')) = #[] := by
          apply Array.filter_eq_empty_iff.2
          intro f hf
          have : f ∈ fs.toList := ((hleft f).1 (by simpa using hf)).1
          have := b5 f this
          simp; omega
        have hall : (!sa.isEmpty && !fs.isEmpty && fs.all fun e => decide (e.born ≥ cl')) = false := by
          cases hfs : fs.isEmpty with
          | true => simp
          | false =>
            have hne : fs ≠ #[] := by intro e; rw [e] at hfs; simp at hfs
            have : (fs.all fun e => decide (e.born ≥ cl')) = false := by
              rw [Bool.eq_false_iff]
              intro hh
              rw [Array.all_eq_true] at hh
              have h0 : 0 < fs.size := by
                rcases Nat.eq_zero_or_pos fs.size with h | h
                · exact absurd (Array.eq_empty_of_size_eq_zero h) hne
                · exact h
              have := hh 0 h0
              have := b5 fs[0] (by simp)
              simp at *; omega
            rw [this]; simp
        generalize hL : (fs.filter fun e => !sa.contains e.born) = L at hleft hold hnew
        have hrun : (Instr.next (.pointer (some ⟨C.β it, 0, none⟩)) false ty).run P w = (do
            let candidates := (if L.isEmpty then #[none] else #[]) ++ L.map some
            match candidates[← choose (.mapNext candidates.size)]? with
            | some (some e) =>
              setObj (C.β it) (.mapIter (some (C.β m)) cl' (sa.push e.born) cl')
              pure (.tuple #[.bool true, e.key, e.val])
            | some none => pure (.tuple #[.bool false])
            | none => stuck "Next: no such candidate" : Sem Value).run P w := by
          unfold Instr.next
          simp only [Sem.run_bind, getObj_iter a1, getObj_map b1, Result.andThen_ok, hall, hL, hold, hnew, Bool.false_eq_true, if_false, Array.append_empty]
          rfl
        unfold Does
        rw [hrun]
        clear hrun
        obtain ⟨d1, d2⟩ := hrel.drew
        cases hLe : L.isEmpty with
        | true =>
          have hL0 : L = #[] := by simpa using hLe
          have hin : ∀ b ∈ bs, b ∈ seen := by
            intro b hb
            rw [← b3] at hb
            obtain ⟨f, hf, rfl⟩ := List.mem_map.1 hb
            by_cases hs : f.born ∈ seen
            · exact hs
            · have := (hleft f).2 ⟨hf, hs⟩
              rw [hL0] at this; simp at this
          rcases h2 hin with h2 | h2
          · refine ⟨.tuple #[.bool false], w, C, H, .tup [.bool false], ?_, hrel, Le.refl _ _ _, tup1 (.bool false), h2⟩
            simp [hL0, Question.forced]
          · have hub := hrel.unborn hm
            refine ⟨.tuple #[.bool false], w, C, _, .tup [.bool false], ?_, hub.2, hub.1, tup1 (.bool false), h2⟩
            simp [hL0, Question.forced]
        | false =>
          have hsz : 0 < L.size := by
            rcases Nat.eq_zero_or_pos L.size with h | h
            · rw [Array.eq_empty_of_size_eq_zero h] at hLe; simp at hLe
            · exact h
          have go : ∀ (n : Nat) (w1 : World), n < L.size → Rel P C H w1 → Le C H w C H w1 → w1.heap = w.heap → ((choose (.mapNext L.size)).run P w = .ok n w1) → ∃ v w' C' H' x, (do
              let candidates := (if (false : Bool) then #[none] else #[]) ++ L.map some
              match candidates[← choose (.mapNext candidates.size)]? with
              | some (some e) =>
                setObj (C.β it) (.mapIter (some (C.β m)) cl' (sa.push e.born) cl')
                pure (.tuple #[.bool true, e.key, e.val])
              | some none => pure (.tuple #[.bool false])
              | none => stuck "Next: no such candidate" : Sem Value).run P w = .ok v w' ∧ Rel P C' H' w' ∧ Le C H w C' H' w' ∧ Repr C' H' w' x v ∧ K x H' := by
            intro n w1 hn hr1 hl1 hw1 hch
            have hmem : L[n] ∈ L.toList := by simp
            obtain ⟨hf, hns⟩ := (hleft _).1 hmem
            obtain ⟨j, hj, hjf⟩ := List.mem_iff_getElem.1 hf
            have hje : j < es.length := by rw [b2.1]; exact hj
            have b2j := b2.2 j hje
            have e1 : fs.toList.getD j default = L[n] := by rw [List.getD, List.getElem?_eq_getElem hj, hjf]; rfl
            rw [e1] at b2j
            have a1' : w1.heap[C.β it]? = some (.mapIter (some (C.β m)) cl' sa cl') := by rw [hw1]; exact a1
            obtain ⟨s1, s2⟩ := Le.set_own hr1 (x := .iter (some m) cl' (seen ++ [L[n].born])) (o := .mapIter (some (C.β m)) cl' (sa.push L[n].born) cl') hit (fun off hno => absurd trivial hno)
              (fun s hs => by simp [World.shape?, a1'] at hs) (fun C' H' w' hle hb => ⟨_, by rw [hb, Option.map_some, hle.β m (a3 m rfl)], by simp [a2], fun id hid => Nat.lt_of_lt_of_le (a3 id hid) hle.n⟩)
            have hKx := h1 j (es.getD j default).1 (es.getD j default).2 L[n].born (by simp [List.getD, hje]) (by rw [← b3, List.getElem?_map, List.getElem?_eq_getElem hj, hjf]; rfl) hns
            refine ⟨.tuple #[.bool true, L[n].key, L[n].val], _, C, _, _, ?_, s2, hl1.trans s1, ?_, hKx⟩
            · have hget : (#[] ++ L.map some)[n]? = some (some L[n]) := by simp [hn]
              have hsize : (#[] ++ L.map some).size = L.size := by simp
              simp only [Bool.false_eq_true, if_false, Sem.run_bind, hsize, hch, Result.andThen_ok, hget, setObj_iter a1', Sem.run_pure]
            · exact (tup3 (.bool true) (keyV_repr b2j.1) b2j.2).mono (hl1.trans s1)
          by_cases hf : L.size ≤ 1
          · exact go 0 w hsz hrel (Le.refl _ _ _) rfl (by simp [Question.forced, hf])
          · exact go _ w.drew (Nat.mod_lt _ hsz) d2 d1 rfl (by rw [run_choose_drew, if_neg (by simpa [Question.forced] using hf)]; rfl)
      · exact h.elim
    · exact h.elim
  · exact h.elim

theorem entry_sound (hrel : Rel P C H w) {t : TypeId} {m k : AV} {u v : Value} (hm : Repr C H w m u) (hk : Repr C H w k v) {K : K1} (h : aEntry P t m k H K) : Does P C H w K (Instr.mapEntry t u v) := by
  unfold aEntry at h
  split at h
  · rename_i kt e he
    obtain ⟨kty, et, u1, u2, u3⟩ := mapE_some he
    obtain ⟨hz, h⟩ := h
    obtain ⟨z, z1, z2⟩ := zero_run (P := P) (C := C) (H := H) (w := w) u2 (by intro e; rw [e] at hz; simp [AV.isVal] at hz)
    split at h
    · rename_i id
      unfold mapAt at h
      split at h
      · rename_i kk es hes
        obtain ⟨rfl, h⟩ := h
        unfold keyK at h
        split at h
        · rename_i key hkey
          cases hm with
          | map _ hid =>
          obtain ⟨-, -, fs, cl, a1, a2, a3, a4⟩ := hrel.live id _ hes
          have hkv := keyOf_sound hkey hk
          have hf := findKey_ok (P := P) u3 hkv a2 w
          have hc := checkKey_ok (P := P) u3 false hkv w
          cases hmf : mfind es key with
          | none =>
            rw [hmf] at hf
            have hg : mget es key = none := by rw [mget_mfind, hmf]; rfl
            have a5 := entries_push (n := cl) a2 hkv z2
            have hb : ((fs.push { key := v, val := z, born := cl }).toList.map (·.born)).Pairwise (· < ·) ∧ ∀ f ∈ (fs.push { key := v, val := z, born := cl }).toList, f.born < cl + 1 := ⟨by
              simp only [Array.toList_push, List.map_append, List.map_cons, List.map_nil, List.pairwise_append]
              refine ⟨a3, by simp, fun a ha b hb => ?_⟩
              simp only [List.mem_singleton] at hb
              subst hb
              obtain ⟨f, hf1, rfl⟩ := List.mem_map.1 ha
              exact a4 f hf1, fun f hf => by
              simp only [Array.toList_push, List.mem_append, List.mem_singleton] at hf
              rcases hf with hf | rfl
              · have := a4 f hf; omega
              · simp⟩
            obtain ⟨m1, m2⟩ := Le.set_own hrel (x := .bmap kk (es ++ [(key, e.zero)]) ((fs.push { key := v, val := z, born := cl }).toList.map (·.born)) (cl + 1)) (o := .map (fs.push { key := v, val := z, born := cl }) (cl + 1)) hes (fun off hno => absurd trivial hno)
              (fun s hs => by simp [World.shape?, a1] at hs) (fun C' H' w' hle hb' => ⟨_, hb', a5.mono hle, rfl, hb⟩)
            have hlen : ((fs.push { key := v, val := z, born := cl }).toList.map (·.born)).length = (es ++ [(key, e.zero)]).length := by rw [List.length_map]; exact a5.1.symm
            refine ⟨.tuple #[z, goInt cl], _, _, _, .tup [e.zero, .int .i64 cl], ?_, m2, m1, (tup2 z2 (.int _ _)).mono m1, h _ es.length e.zero _ cl (cl + 1) (.inl ⟨hg, rfl, rfl, rfl⟩) hlen (nodup_of_lt hb.1) ?_⟩
            · simp only [Instr.mapEntry, Sem.run_bind, run_underlying u1, Result.andThen_ok, getObj_map a1, hc, hf, Option.map_none, z1, setObj_map a1]
              rfl
            · have := a2.1; simp [this]
          | some j =>
            rw [hmf] at hf
            have hj := mfind_lt hmf
            have hjs : j < fs.size := by have := a2.1; simp at this; omega
            have hkey2 : ∀ (es : List (Key × AV)) j, mfind es key = some j → (es.getD j default).1 = key := by
              intro es
              induction es with
              | nil => intro j h; cases h
              | cons a es ih =>
                intro j h
                simp only [mfind] at h
                split at h
                · injection h with h; subst h; simpa
                · simp only [Option.map_eq_some_iff] at h
                  obtain ⟨i, hi, rfl⟩ := h
                  simpa using ih i hi
            have ekey := hkey2 es j hmf
            have hg : mget es key = some (es.getD j default).2 := by rw [mget_mfind, hmf]; rfl
            have ej : es[j]? = some (key, (es.getD j default).2) := by
              rw [← ekey]; simp [List.getD, hj]
            have hold : keyV kk key (((fs[j]?).map (·.key)).getD v) := by
              have := (a2.2 j hj).1
              have e : ((fs[j]?).map (·.key)).getD v = (fs.toList.getD j default).key := by simp [List.getD, hjs]
              rw [e, ← ekey]
              exact this
            have hval : Repr C H w (es.getD j default).2 (fs.toList.getD j default).val := (a2.2 j hj).2
            have a5 : EntriesOK C H w kk es (fs.modify j fun e => { e with key := v }).toList := by
              have := entries_set (j := j) a2 hkv hval
              have e1 : es.set j (key, (es.getD j default).2) = es := by
                apply List.ext_getElem?
                intro i
                rw [List.getElem?_set]
                by_cases hji : j = i
                · subst hji; rw [if_pos rfl, if_pos hj, ej]
                · rw [if_neg hji]
              have e2 : (fs.modify j fun e => { e with key := v, val := (fs.toList.getD j default).val }) = fs.modify j fun e => { e with key := v } := by
                apply Array.ext_getElem?
                intro i
                simp only [Array.getElem?_modify]
                by_cases hji : j = i
                · subst hji; simp [List.getD, hjs]
                · simp [hji]
              rwa [e1, e2] at this
            have hmapb : (fs.modify j fun e => { e with key := v }).toList.map (·.born) = fs.toList.map (·.born) := by
              apply List.ext_getElem?
              intro i
              simp only [List.getElem?_map, Array.getElem?_toList, Array.getElem?_modify]
              by_cases hji : j = i
              · subst hji; cases fs[j]? <;> simp
              · simp [hji]
            have hb : ((fs.modify j fun e => { e with key := v }).toList.map (·.born)).Pairwise (· < ·) ∧ ∀ f ∈ (fs.modify j fun e => { e with key := v }).toList, f.born < cl := by
              refine ⟨by rw [hmapb]; exact a3, fun f hf => ?_⟩
              have : f.born ∈ (fs.modify j fun e => { e with key := v }).toList.map (·.born) := List.mem_map_of_mem hf
              rw [hmapb] at this
              obtain ⟨g, hg, hgb⟩ := List.mem_map.1 this
              rw [← hgb]; exact a4 g hg
            obtain ⟨m1, m2⟩ := Le.set_own hrel (x := .bmap kk es ((fs.modify j fun e => { e with key := v }).toList.map (·.born)) cl) (o := .map (fs.modify j fun e => { e with key := v }) cl) hes (fun off hno => absurd trivial hno)
              (fun s hs => by simp [World.shape?, a1] at hs) (fun C' H' w' hle hb' => ⟨_, hb', a5.mono hle, rfl, hb⟩)
            have hlen : ((fs.modify j fun e => { e with key := v }).toList.map (·.born)).length = es.length := by rw [List.length_map]; exact a5.1.symm
            have hbj : ((fs.modify j fun e => { e with key := v }).toList.map (·.born))[j]? = some (((fs[j]?).map (·.born)).getD 0) := by
              rw [hmapb]; simp [hjs]
            refine ⟨.tuple #[(fs.toList.getD j default).val, goInt ((((fs[j]?).map (·.born)).getD 0 : Nat) : Int)], _, _, _, .tup [(es.getD j default).2, .int .i64 ((((fs[j]?).map (·.born)).getD 0 : Nat) : Int)], ?_, m2, m1, (tup2 hval (.int _ _)).mono m1, h es j _ _ _ cl (.inr ⟨hg, rfl, ej⟩) hlen (nodup_of_lt hb.1) hbj⟩
            simp only [Instr.mapEntry, Sem.run_bind, run_underlying u1, Result.andThen_ok, getObj_map a1, hc, hf, Option.map_some]
            have hs := sameBits_ok hold hkv
            simp only [Instr.keyThatStays, hs, if_true, Sem.run_pure, Result.andThen_ok, setObj_map a1]
            cases fs[j]? <;> rfl
        · exact h.elim
      · exact h.elim
    · exact h.elim
  · exact h.elim

theorem entryStore_sound (hrel : Rel P C H w) {t : TypeId} {m s x : AV} {u v y : Value} (hm : Repr C H w m u) (hs : Repr C H w s v) (hx : Repr C H w x y) {K : K1} (h : aEntryStore m s x H K) :
    ∃ w' C' H', (Instr.entryStore t u v y).run P w = .ok () w' ∧ Rel P C' H' w' ∧ Le C H w C' H' w' ∧ K .junk H' := by
  unfold aEntryStore at h
  split at h
  · rename_i id k n
    split at h
    · rename_i kk es bs cl hid
      obtain ⟨j, b, e, h1, h2, rfl, hK⟩ := h
      cases hm with
      | map _ hlt =>
      cases hs
      obtain ⟨-, -, fs, a1, a2, a3, a4, a5⟩ := hrel.live id _ hid
      have hj : j < es.length := (List.getElem?_eq_some_iff.1 h2).1
      have hjs : j < fs.size := by have := a2.1; simp at this; omega
      have hfind : fs.findIdx? (fun e => (e.born : Int) == (b : Int)) = some j := by
        rw [Array.findIdx?_eq_some_iff_getElem]
        have hbj : fs[j].born = b := by
          rw [← a3] at h1; simp [hjs] at h1; exact h1
        refine ⟨hjs, by simp [hbj], fun i hi => ?_⟩
        have hlt := List.pairwise_iff_getElem.1 a4 i j (by simp; omega) (by simpa using hjs) hi
        simp at hlt
        simp; omega
      have hkj : (fs.toList.getD j default).key = fs[j].key := by simp [List.getD, hjs]
      have ejd : es.getD j default = e := by simp [List.getD, h2]
      have b2 := a2.2 j hj
      rw [ejd] at b2
      have a6 := entries_set (j := j) a2 b2.1 hx
      have e2 : (fs.modify j fun e => { e with key := (fs.toList.getD j default).key, val := y }) = fs.modify j fun e => { e with val := y } := by
        apply Array.ext_getElem?
        intro i
        simp only [Array.getElem?_modify]
        by_cases hji : j = i
        · subst hji; simp [List.getD, hjs]
        · simp [hji]
      rw [e2] at a6
      have hmapb : (fs.modify j fun e => { e with val := y }).toList.map (·.born) = fs.toList.map (·.born) := by
        apply List.ext_getElem?
        intro i
        simp only [List.getElem?_map, Array.getElem?_toList, Array.getElem?_modify]
        by_cases hji : j = i
        · subst hji; cases fs[j]? <;> simp
        · simp [hji]
      have hb : ((fs.modify j fun e => { e with val := y }).toList.map (·.born)).Pairwise (· < ·) ∧ ∀ f ∈ (fs.modify j fun e => { e with val := y }).toList, f.born < cl := by
        refine ⟨by rw [hmapb]; exact a4, fun f hf => ?_⟩
        have : f.born ∈ (fs.modify j fun e => { e with val := y }).toList.map (·.born) := List.mem_map_of_mem hf
        rw [hmapb] at this
        obtain ⟨g, hg, hgb⟩ := List.mem_map.1 this
        rw [← hgb]; exact a5 g hg
      obtain ⟨m1, m2⟩ := Le.set_own hrel (x := .map kk (es.set j (e.1, x))) (o := .map (fs.modify j fun e => { e with val := y }) cl) hid (fun off hno => absurd trivial hno)
        (fun s hs => by simp [World.shape?, a1] at hs) (fun C' H' w' hle hb' => ⟨_, _, hb', a6.mono hle, hb⟩)
      refine ⟨_, _, _, ?_, m2, m1, hK⟩
      have hi : (asInt (.int k (b : Int))).run P w = .ok (b : Int) w := rfl
      simp only [Instr.entryStore, Sem.run_bind, getObj_map a1, Result.andThen_ok, hi, hfind]
      exact setObj_map a1 _
    · exact h.elim
  · exact h.elim

theorem arr_slice_sound (hrel : Rel P C H w) {r : Regs} {a : Act} (hr : RegsOK C H w r a.tmps) {t : TypeId} {x : Operand} {lo hi mx : Option Operand} {K : K1} (h : aSlice P r t (ev r x) lo hi mx H K) :
    Does P C H w K (Instr.sliceAt t (a.eval x) (lo.map a.eval) (hi.map a.eval) (mx.map a.eval)) := by
  have hx := ev_sound hr x
  unfold aSlice at h
  split at h
  · rename_i id off hev
    rw [hev] at hx
    split at h
    · rename_i n e l hA hl
      split at h
      · rename_i hh hhi
        obtain ⟨h1, h2, h3, h4⟩ := h
        unfold cellsAt at h4
        split at h4
        · rename_i cs hcs
          obtain ⟨h4, hK⟩ := h4
          generalize hu : a.eval x = u at hx
          cases hx with
          | ptr _ _ hid =>
          obtain ⟨-, -, arr, ty, fr, b1, b2, b3, b4⟩ := hrel.live id _ hcs
          have core : ∃ et, P.underlying (match descOf P t with | .pointer q => q | _ => t) = some (.array n et) ∧ ti P et = some e := by
            unfold arrOf at hA
            cases hd : descOf P t <;> rw [hd] at hA <;> exact arrayE_some hA
          obtain ⟨et, c1, c2⟩ := core
          have hsz' : ∀ w' : World, (sizeOf et).run P w' = .ok e.size w' := fun w' => run_size c2
          have hb := bounds_ok (P := P) (b := false) (len := n) (cap := n) hr hl hhi h1 h2 h3 (Nat.le_refl _)
          have en : (hh - l).toNat = hh.toNat - l.toNat := by omega
          have hrep : Repr C H w (.ms id (off + l.toNat * e.size) (hh - l).toNat e.size) (.slice (some (if n = l.toNat then ⟨C.β id, off, none⟩ else (⟨C.β id, off, none⟩ : Addr).add (l.toNat * e.size))) (hh.toNat - l.toNat) (n - l.toNat)) := by
            rw [en]
            refine .ms _ _ _ _ _ _ hid (fun hp => ?_) (by omega) ⟨ty, arr.size, by simp [World.shape?, b1], ?_⟩
            · rw [if_neg (by omega)]; simp [add_none]
            · have : l.toNat * e.size + (n - l.toNat) * e.size = n * e.size := by rw [← Nat.add_mul]; congr 1; omega
              omega
          refine .same hrel ?_ hrep hK
          by_cases hp : ∃ q, descOf P t = .pointer q
          · obtain ⟨q, hq⟩ := hp
            rw [hq] at c1
            obtain ⟨d, d1, d2⟩ := descOf_eq hq (by simp)
            have := (td_plain d2).2.2.2.2.2.2.2 _ rfl
            subst this
            simp [Instr.sliceAt, Instr.slice, run_underlying d1, run_underlying c1, hb, hsz', asAddr]
          · have c1' : P.underlying t = some (.array n et) := by
              cases hd : descOf P t <;> rw [hd] at c1 <;> first | exact c1 | exact absurd ⟨_, hd⟩ hp
            simp [Instr.sliceAt, run_underlying c1', hb, hsz', Instr.sureAddr]
        · exact h4.elim
      · exact h.elim
    · exact h.elim
  · rename_i hne
    unfold so at h
    split at h
    · rename_i z hz
      exact .gives hrel (slice_sound hr hz) h
    · exact h.elim
end
end Go.Abs

/-
  An operation of the machine, whatever it is.
-/
namespace Go.Abs
open Go.RowKit
set_option linter.unusedSimpArgs false
set_option linter.unusedVariables false

section
variable {P : Program} {C C' : Cx} {H H' : Heap} {w w' : World}

/-- What is asked of the code behind an operation. -/
def After (P : Program) (C : Cx) (H : Heap) (w : World) (K : K1) (N : Value → World → Prop) : Prop :=
  ∀ C' H' w' x v, Rel P C' H' w' → Le C H w C' H' w' → Repr C' H' w' x v → K x H' → N v w'

theorem Does.wp {K : K1} {s : Sem Value} (h : Does P C H w K s) {a : Act} {o : Oper} {next : Act → World → Prop} {Q : Exit → Act → World → Prop} (he : execOp a.eval o = (do pure (.value (← s))))
    (hn : After P C H w K fun v w' => next (a.put o.dst v) w') : o.wp P a w next Q := by
  obtain ⟨v, w', C', H', x, h1, h2, h3, h4, h5⟩ := h
  unfold Oper.wp
  rw [he]
  simp only [Sem.run_bind, h1, Result.andThen_ok, Sem.run_pure, Oper.upon]
  exact hn C' H' w' x v h2 h3 h4 h5
theorem Yes.wp {K : K1} {z : AV} {s : Sem Next} (hrel : Rel P C H w) (h : Yes P C H w z s) {a : Act} {o : Oper} {next : Act → World → Prop} {Q : Exit → Act → World → Prop} (he : execOp a.eval o = s) (hK : K z H)
    (hn : After P C H w K fun v w' => next (a.put o.dst v) w') : o.wp P a w next Q := by
  obtain ⟨v, h1, h2⟩ := h
  unfold Oper.wp
  rw [he, h1]
  exact hn C H w z v hrel (Le.refl _ _ _) h2 hK
theorem unit_wp {K : K1} {s : Sem Unit} (h : ∃ w' C' H', s.run P w = .ok () w' ∧ Rel P C' H' w' ∧ Le C H w C' H' w' ∧ K .junk H') {a : Act} {o : Oper} {next : Act → World → Prop} {Q : Exit → Act → World → Prop} (he : execOp a.eval o = (do s; pure .skip))
    (hn : After P C H w K fun v w' => next (a.put o.dst v) w') : o.wp P a w next Q := by
  obtain ⟨w', C', H', h1, h2, h3, h4⟩ := h
  unfold Oper.wp
  rw [he]
  simp only [Sem.run_bind, h1, Result.andThen_ok, Sem.run_pure, Oper.upon]
  exact hn C' H' w' .junk undef h2 h3 (.junk _) h4

theorem call_wp {K : K1} (hrel : Rel P C H w) {f : FuncId} {xs : List AV} {vs : List Value} (hx : ReprL C H w xs vs) (h : ACalls P f xs H K) {a : Act} {o : Oper} {next : Act → World → Prop} {Q : Exit → Act → World → Prop}
    (he : ∀ w', (execOp a.eval o).run P w' = (callFunc f vs.toArray).run P w') (hn : After P C H w K fun v w' => next (a.put o.dst v) w') : o.wp P a w next Q := by
  have hc := h.call C w vs hrel hx
  unfold Oper.wp
  rw [he]
  generalize (callFunc f vs.toArray).run P w = r at hc
  unfold CallsNext at hc
  split at hc
  · obtain ⟨rfl, hc⟩ := hc
    simp only [Oper.upon]
    refine hc.mono fun e w' hp => ?_
    obtain ⟨C', H', x, v, rfl, h2, h3, h4, h5⟩ := hp
    exact hn C' H' w' x v h2 h3 h4 h5
  · obtain ⟨C', H', x, v, hv, h2, h3, h4, h5⟩ := hc
    injection hv with hv
    subst hv
    exact hn C' H' _ x _ h2 h3 h4 h5
  · exact hc.elim

theorem ReprL.append {xs ys : List AV} {us vs : List Value} (h1 : ReprL C H w xs us) (h2 : ReprL C H w ys vs) : ReprL C H w (xs ++ ys) (us ++ vs) := by
  refine ⟨by simp [h1.1, h2.1], fun j hj => ?_⟩
  rw [List.length_append] at hj
  by_cases hlt : j < xs.length
  · have e1 : (xs ++ ys).getD j .junk = xs.getD j .junk := by simp [List.getD, List.getElem?_append_left hlt]
    have e2 : (us ++ vs).getD j default = us.getD j default := by simp [List.getD, List.getElem?_append_left (show j < us.length by rw [← h1.1]; exact hlt)]
    rw [e1, e2]; exact h1.2 j hlt
  · have e1 : (xs ++ ys).getD j .junk = ys.getD (j - xs.length) .junk := by simp [List.getD, List.getElem?_append_right (Nat.le_of_not_lt hlt)]
    have e2 : (us ++ vs).getD j default = vs.getD (j - xs.length) default := by
      have := h1.1
      simp [List.getD, List.getElem?_append_right (show us.length ≤ j by omega), this]
    rw [e1, e2]; exact h2.2 _ (by omega)

theorem two_args {xs : Array Operand} {r : Regs} {x y : AV} (h : xs.toList.map (ev r) = [x, y]) : ∃ p q, xs = #[p, q] ∧ ev r p = x ∧ ev r q = y := by
  cases hx : xs.toList with
  | nil => rw [hx] at h; cases h
  | cons p l =>
    rw [hx] at h
    cases l with
    | nil => cases h
    | cons q l =>
      cases l with
      | nil =>
        simp only [List.map_cons, List.map_nil, List.cons.injEq, and_true] at h
        exact ⟨p, q, by apply Array.ext'; exact hx, h.1, h.2⟩
      | cons => simp at h
theorem one_arg {xs : Array Operand} {r : Regs} {x : AV} (h : xs.toList.map (ev r) = [x]) : ∃ p, xs = #[p] ∧ ev r p = x := by
  cases hx : xs.toList with
  | nil => rw [hx] at h; cases h
  | cons p l =>
    rw [hx] at h
    cases l with
    | nil => simp only [List.map_cons, List.map_nil, List.cons.injEq, and_true] at h; exact ⟨p, by apply Array.ext'; exact hx, h⟩
    | cons => simp at h
theorem two_types {ts : Array TypeId} {t t' : TypeId} (h : ts.toList = [t, t']) : ts = #[t, t'] := by apply Array.ext'; exact h

theorem eq_sl {t e : TypeId} (h : P.underlying t = some (.slice e)) (d : Nat) (a : Option Addr) (l c : Nat) (w' : World) : (Op.equalIn (d + 1) t (.slice a l c) (.slice none 0 0)).run P w' = .ok a.isNone w' := by
  cases a <;> (simp only [Op.equalIn, Sem.run_bind, run_underlying h, Result.andThen_ok]; rfl)
theorem isSlice_some {t : TypeId} (h : isSlice P t = true) : ∃ e, P.underlying t = some (.slice e) := by
  unfold isSlice descOf at h
  cases hi : ti P t with
  | none => rw [hi] at h; simp at h
  | some i =>
    rw [hi] at h
    obtain ⟨info, d, h1, h2, h3, -⟩ := ti_desc hi
    have hp := td_plain h3
    simp only at h
    split at h
    · rename_i e he
      exact ⟨e, by rw [h2, hp.2.2.2.1 e he]⟩
    · cases h
theorem nil_sound {r : Regs} {a : Act} (hrel : Rel P C H w) (hr : RegsOK C H w r a.tmps) {b : BinOp} {t u : TypeId} {x y z : Operand} {neg : Bool} (hz : nilArg (.binOp b t x y u) = some (z, neg)) (hs : isSlice P t = true) {K : K1} (h : aNil (ev r z) neg H K) :
    Does P C H w K (do eqGuard b t x y (a.eval x) (a.eval y); binOp b t (a.eval x) (a.eval y)) := by
  obtain ⟨e, he⟩ := isSlice_some hs
  have hx := ev_sound hr z
  -- what comes out
  have out : ∀ (ad : Option Addr) (l c : Nat), a.eval z = .slice ad l c → K (.bool (if neg = true then !ad.isNone else ad.isNone)) H → Does P C H w K (do eqGuard b t x y (a.eval x) (a.eval y); binOp b t (a.eval x) (a.eval y)) := by
    intro ad l c hv hK
    refine Does.gives hrel ?_ hK
    unfold nilArg at hz
    split at hz
    · rename_i heq
      cases heq
      cases hz
      rw [hv]
      refine gives_bind (fun w' => eqGuard_plain (by simp) (by simp) w') (gives_run (v := .bool ad.isNone) (fun w' => ?_) (by simpa using Repr.bool _))
      have := fun w' => eq_sl he 9999 ad l c w'
      simp only [binOp]
      simp [Op.equal, Op.maxDepth, Act.eval, this]
    · rename_i heq
      cases heq
      cases hz
      rw [hv]
      refine gives_bind (fun w' => eqGuard_plain (by simp) (by simp) w') (gives_run (v := .bool (!ad.isNone)) (fun w' => ?_) (by simpa using Repr.bool _))
      have := fun w' => eq_sl he 9999 ad l c w'
      simp only [binOp]
      simp [Op.equal, Op.maxDepth, Act.eval, this]
    · cases hz
  generalize ev r z = av at h hx
  unfold aNil at h
  split at h
  · rename_i es tl
    generalize hv : a.eval z = v at hx
    cases hx with
    | sl _ _ ad cap bb off us ha hc hrr hl ht =>
      cases ad with
      | some ad => refine out _ _ _ hv ?_; cases neg <;> exact h.2
      | none =>
        have : es.flatten = [] := by
          cases hf : es.flatten with
          | nil => rfl
          | cons c l => have := ha (by rw [hf]; simp); cases this
        refine out _ _ _ hv ?_; cases neg <;> exact h.1 this
  · generalize hv : a.eval z = v at hx
    cases hx with
    | ms _ _ _ _ ad cap hh ha hl hsz =>
      cases ad with
      | some ad => refine out _ _ _ hv ?_; cases neg <;> exact h.2
      | none =>
        refine out _ _ _ hv ?_
        have : ¬ 0 < cap := fun h0 => by have := ha h0; cases this
        cases neg <;> exact h.1 (by omega)
  · exact h.elim

theorem PuOK.call {pu : Pures} (hpu : PuOK P pu) {g : FuncId} {xs : List AV} {H : Heap} {K : K1} (h : callG P g (pu g) xs H K) : ACalls P g xs H K := by
  unfold callG at h
  split at h
  · rename_i s hs
    unfold so at h
    split at h
    · rename_i v hv
      refine (hpu g s hs xs v hv H).mono ?_
      rintro x H' ⟨rfl, rfl⟩
      exact h
    · exact h.elim
  · exact h

theorem callD_sound {pu : Pures} (hpu : PuOK P pu) {d : Bool} {f : AV} {xs : List AV} {H : Heap} {K : K1} (h : aCallD P pu d f xs H K) : ∃ g cap, f = .func g cap ∧ ACalls P g (xs ++ cap) H K := by
  unfold aCallD at h
  split at h
  · unfold callP at h
    split at h
    · rename_i g cap
      unfold so at h
      split at h
      · rename_i v hv
        rw [Option.bind_eq_some_iff] at hv
        obtain ⟨s, hs, hv⟩ := hv
        refine ⟨g, cap, rfl, (hpu g s hs _ v hv H).mono ?_⟩
        rintro x H' ⟨rfl, rfl⟩
        exact h
      · exact h.elim
    · exact h.elim
  · unfold aCallV at h
    split at h
    · exact ⟨_, _, rfl, hpu.call h⟩
    · exact h.elim
theorem aop_sound {pu : Pures} (hpu : PuOK P pu) {ms : Bool} {r : Regs} {a : Act} (hrel : Rel P C H w) (hr : RegsOK C H w r a.tmps) (o : Oper) {K : K1} (h : aop P pu ms r H o.op K) {next : Act → World → Prop} {Q : Exit → Act → World → Prop}
    (hn : After P C H w K fun v w' => next (a.put o.dst v) w') : o.wp P a w next Q := by
  obtain ⟨dst, op, type, pos, after, guard⟩ := o
  simp only at h hn
  unfold aop at h
  split at h
  · exact (alloc_sound hrel h).wp rfl hn
  · exact (box_sound hrel (ev_sound hr _) h).wp rfl hn
  · exact (load_sound hrel (ev_sound hr _) h).wp rfl hn
  · exact unit_wp (store_sound hrel (ev_sound hr _) (ev_sound hr _) h) rfl hn
  · exact (buildSlice_sound hrel hr h).wp rfl hn
  · exact (makeMap_sound hrel h).wp rfl hn
  · exact (makeSlice_sound hrel (ev_sound hr _) (ev_sound hr _) h).wp rfl hn
  · exact (lookup_sound hrel (ev_sound hr _) (ev_sound hr _) h).wp rfl hn
  · exact unit_wp (update_sound hrel (ev_sound hr _) (ev_sound hr _) (ev_sound hr _) h) rfl hn
  · exact unit_wp (update_sound hrel (ev_sound hr _) (ev_sound hr _) (ev_sound hr _) h) rfl hn
  · exact (arr_slice_sound hrel hr h).wp rfl hn
  · exact (entry_sound hrel (ev_sound hr _) (ev_sound hr _) h).wp rfl hn
  · exact unit_wp (entryStore_sound hrel (ev_sound hr _) (ev_sound hr _) (ev_sound hr _) h) rfl hn
  · exact (range_sound hrel (ev_sound hr _) h).wp rfl hn
  · exact (next_sound hrel (ev_sound hr _) type h).wp rfl hn
  · exact (here_sound hrel (ev_sound hr _) h).wp rfl hn
  · exact (conv2_sound hrel (ev_sound hr _) h).wp rfl hn
  · rename_i f xs ts
    obtain ⟨g, cap, hf, h⟩ := callD_sound hpu h
    have hfv := ev_sound hr f
    rw [hf] at hfv
    generalize hfe : a.eval f = fv at hfv
    cases hfv with
    | func _ _ vs hs hcap =>
    refine call_wp (vs := (xs.map a.eval).toList ++ vs.toList) hrel ((args_ok hr xs).append ⟨by simpa using hs, fun j hj => ?_⟩) h (fun w' => ?_) hn
    · have := hcap j hj
      simpa [List.getD, Array.getD_eq_getD_getElem?] using this
    · simp only [execOp, resolve, hfe, Deferred.ofValue, Sem.run_bind, Sem.run_pure, Result.andThen_ok, invoke]
      congr 2
      apply Array.ext'
      simp
  · rename_i b xs ts
    unfold aBuiltin at h
    split at h
    · rename_i x hx
      obtain ⟨p, rfl, rfl⟩ := one_arg hx
      have hp := ev_sound hr p
      unfold aLen at h
      split at h
      · rename_i hm
        split at h
        · rename_i id hid
          exact (lenMap_sound (ts := ts) (ty := type) hrel hp hm (.inl ⟨id, hid, h⟩)).wp (by rw [exec_builtin]; simp only [builtin, List.map_toArray, List.map_cons, List.map_nil]) hn
        · rename_i hid
          exact (lenMap_sound (ts := ts) (ty := type) hrel hp hm (.inr ⟨hid, h⟩)).wp (by rw [exec_builtin]; simp only [builtin, List.map_toArray, List.map_cons, List.map_nil]) hn
        · exact h.elim
      · unfold so at h
        split at h
        · rename_i z hz
          exact (Does.gives hrel (lenT_sound hz hp type) h).wp (by rw [exec_builtin]; simp only [builtin, List.map_toArray, List.map_cons, List.map_nil]) hn
        · exact h.elim
    · rename_i s x t t' hx hts
      obtain ⟨p, q, rfl, rfl, rfl⟩ := two_args hx
      have := two_types hts
      subst this
      exact (append_sound (ty := type) hrel (ev_sound hr p) (ev_sound hr q) h.1 h.2).wp (by rw [exec_builtin]; simp only [builtin, List.map_toArray, List.map_cons, List.map_nil]) hn
    · rename_i s x t t' hx hts
      obtain ⟨p, q, rfl, rfl, rfl⟩ := two_args hx
      have := two_types hts
      subst this
      exact (copy_sound (t' := t') (ty := type) hrel (ev_sound hr p) (ev_sound hr q) h).wp (by rw [exec_builtin]; simp only [builtin, List.map_toArray, List.map_cons, List.map_nil]) hn
    · rename_i s x t t' hx hts
      obtain ⟨p, q, rfl, rfl, rfl⟩ := two_args hx
      have := two_types hts
      subst this
      exact (delete_sound (t' := t') (ty := type) hrel (ev_sound hr p) (ev_sound hr q) h).wp (by rw [exec_builtin]; simp only [builtin, List.map_toArray, List.map_cons, List.map_nil]) hn
    · unfold so at h
      split at h
      · rename_i z hz
        exact (Does.gives hrel (minA_sound hz (args_ok hr xs) ts type) h).wp rfl hn
      · exact h.elim
    · unfold so at h
      split at h
      · rename_i z hz
        exact (Does.gives hrel (maxA_sound hz (args_ok hr xs) ts type) h).wp rfl hn
      · exact h.elim
    · unfold so at h
      split at h
      · rename_i z hz
        exact (Does.gives hrel (sliceData_gives hz (args_ok hr xs) ts type) h).wp rfl hn
      · exact h.elim
    · unfold so at h
      split at h
      · rename_i z hz
        exact (Does.gives hrel (cap_gives hz (args_ok hr xs) type) h).wp rfl hn
      · exact h.elim
    · rename_i p n pt it hx hts
      obtain ⟨p, q, rfl, rfl, rfl⟩ := two_args hx
      have := two_types hts
      subst this
      exact (uString_sound (pt := pt) (it := it) (ty := type) hrel (ev_sound hr p) (ev_sound hr q) h).wp (by rw [exec_builtin]; simp only [builtin, List.map_toArray, List.map_cons, List.map_nil]) hn
    · rename_i x t hx hts
      obtain ⟨p, rfl, rfl⟩ := one_arg hx
      have hts : ts = #[t] := Array.toList_inj.1 hts
      subst hts
      exact (clear_sound (ty := type) hrel (ev_sound hr p) h).wp (by rw [exec_builtin]; simp only [builtin, List.map_toArray, List.map_cons, List.map_nil]) hn
    · exact h.elim
  · rename_i b t x y u
    split at h
    · rename_i z neg hz
      have := nil_sound hrel hr hz h.1 h.2
      exact this.wp rfl hn
    · unfold so at h
      split at h
      · rename_i z hz
        exact Yes.wp hrel (pop_sound hr ⟨dst, .binOp b t x y u, type, pos, after, guard⟩ hz) rfl h hn
      · exact h.elim
  · unfold so at h
    split at h
    · rename_i z hz
      exact Yes.wp hrel (pop_sound hr ⟨dst, op, type, pos, after, guard⟩ hz) rfl h hn
    · exact h.elim
end
end Go.Abs

/-
  Regions: their operations in the order of the text, or in whatever order is drawn.
-/
namespace Go.Abs
open Go.RowKit
set_option linter.unusedSimpArgs false
set_option linter.unusedVariables false

section
variable {P : Program} {C C' : Cx} {H H' : Heap} {w w' : World}

structure StOK (C : Cx) (H : Heap) (w : World) (N : Nat) (r : Regs) (a : Act) : Prop where
  regs : RegsOK C H w r a.tmps
  size : a.tmps.size = N
  defers : a.defers = []

theorem RegsOK.mono (hle : Le C H w C' H' w') {r : Regs} {tmps : Array Value} (h : RegsOK C H w r tmps) : RegsOK C' H' w' r tmps := fun t => (h t).mono hle
theorem StOK.mono (hle : Le C H w C' H' w') {N : Nat} {r : Regs} {a : Act} (h : StOK C H w N r a) : StOK C' H' w' N r a := ⟨h.regs.mono hle, h.size, h.defers⟩

def dstOK (N : Nat) : Option Nat → Bool
  | some d => decide (d < N)
  | none => true
theorem StOK.put {N : Nat} {r : Regs} {a : Act} (h : StOK C H w N r a) {d : Option Nat} (hd : dstOK N d = true) {x : AV} {v : Value} (hx : Repr C H w x v) : StOK C H w N (put r d x) (a.put d v) := by
  cases d with
  | none => exact h
  | some d =>
    have hlt : d < N := by simpa [dstOK] using hd
    refine ⟨fun t => ?_, by simp [Act.put, h.size], h.defers⟩
    simp only [Go.Abs.put, upd, Act.put]
    by_cases ht : t = d
    · subst ht
      rw [if_pos rfl]
      have : (a.tmps.setIfInBounds t v).getD t undef = v := by simp [Array.getD_eq_getD_getElem?, h.size, hlt]
      rw [this]; exact hx
    · rw [if_neg ht]
      have : (a.tmps.setIfInBounds d v).getD t undef = a.tmps.getD t undef := by simp [Array.getD_eq_getD_getElem?, Array.getElem?_setIfInBounds_ne (Ne.symm ht)]
      rw [this]; exact h.regs t

theorem repr_bool {b : Bool} {v : Value} (h : Repr C H w (.bool b) v) : v = .bool b := by cases h; rfl
theorem repr_tup0 {v : Value} (h : Repr C H w (.tup []) v) : v = .tuple #[] := by
  cases h with
  | tup _ vs hs _ =>
    have : vs = #[] := by apply Array.ext'; apply List.eq_nil_of_length_eq_zero; simpa using hs.symm
    rw [this]

theorem wanted_sound {ops : Array Oper} {r : Regs} {a : Act} (hr : RegsOK C H w r a.tmps) {o : Oper} {Ky Kn : Prop} (h : wantedA ops.toList r o.guard Ky Kn) :
    (Region.wanted o (yielded ops a.tmps) = true ∧ Ky) ∨ (Region.wanted o (yielded ops a.tmps) = false ∧ Kn) := by
  unfold wantedA at h
  unfold Region.wanted
  split at h
  · rename_i hg; rw [hg]; exact .inl ⟨rfl, h⟩
  · rename_i j want hg
    rw [hg]
    simp only [Array.getElem?_toList] at h
    dsimp only
    split at h
    · rename_i d hd
      have hv := hr d
      have hy : ∀ v, a.tmps.getD d undef = v → yielded ops a.tmps j = match v with | .bool b => some b | _ => none := fun v hv => by
        unfold yielded
        rw [hd]
        simp only [Option.bind_some]
        by_cases hlt : d < a.tmps.size
        · have : a.tmps[d]? = some v := by
            rw [Array.getElem?_eq_getElem hlt]; congr 1
            rw [← hv, Array.getD_eq_getD_getElem?, Array.getElem?_eq_getElem hlt]; rfl
          rw [this]
          cases v <;> rfl
        · have h1 : a.tmps[d]? = none := Array.getElem?_eq_none (Nat.le_of_not_lt hlt)
          have h2 : v = undef := by rw [← hv, Array.getD_eq_getD_getElem?, h1]; rfl
          rw [h1, h2]; rfl
      split at h
      · rename_i b hb
        rw [hb] at hv
        have := hy _ (repr_bool hv)
        rw [this]
        simp only
        split at h
        · rename_i hbw; subst hbw; exact .inl ⟨by simp, h⟩
        · rename_i hbw; exact .inr ⟨by simpa using hbw, h⟩
      · rename_i hb
        rw [hb] at hv
        have := hy _ (repr_tup0 hv)
        rw [this]
        exact .inr ⟨rfl, h⟩
      · exact h.elim
    · exact h.elim

/-- What is asked of the world and the frame behind a region. -/
def NPost (P : Program) (C : Cx) (H : Heap) (w : World) (N : Nat) (K : Regs → Heap → Prop) (a' : Act) (w' : World) : Prop :=
  ∃ r' C' H', Rel P C' H' w' ∧ Le C H w C' H' w' ∧ StOK C' H' w' N r' a' ∧ K r' H'
theorem NPost.trans (hle : Le C H w C' H' w') {N : Nat} {K : Regs → Heap → Prop} {a' : Act} {w2 : World} (h : NPost P C' H' w' N K a' w2) : NPost P C H w N K a' w2 := by
  obtain ⟨r', C2, H2, h1, h2, h3, h4⟩ := h
  exact ⟨r', C2, H2, h1, hle.trans h2, h3, h4⟩

def opsOK (N : Nat) (ops : List Oper) : Bool := ops.all fun o => dstOK N o.dst

theorem aops_sound {X : Steer} (hpu : PuOK P X.pure) {ops : Array Oper} {N : Nat} (hN : opsOK N ops.toList = true) {Q : Exit → Act → World → Prop} : ∀ (is : List Nat) (r : Regs) (C : Cx) (H : Heap) (w : World) (a : Act) (K : Regs → Heap → Prop),
    aops P X ops.toList is r H K → Rel P C H w → StOK C H w N r a → (∀ a' w', NPost P C H w N K a' w' → Q .normal a' w') → wpOps P ops Q is a w := by
  intro is
  induction is with
  | nil => intro r C H w a K h hrel hst hQ; exact hQ a w ⟨r, C, H, hrel, Le.refl _ _ _, hst, h⟩
  | cons i is ih =>
    intro r C H w a K h hrel hst hQ
    unfold aops at h
    unfold wpOps
    rw [Array.getElem?_toList] at h
    split at h
    · rename_i o ho
      rw [ho]
      have hd : dstOK N o.dst = true := by
        unfold opsOK at hN
        rw [List.all_eq_true] at hN
        exact hN o (by have := Array.mem_of_getElem? ho; simpa using this)
      rcases wanted_sound hst.regs h with ⟨h1, h2⟩ | ⟨h1, h2⟩
      · simp only [h1, if_true]
        refine .inl (aop_sound hpu hrel hst.regs o h2 fun C' H' w' x v g1 g2 g3 g4 => ?_)
        exact ih _ C' H' w' _ K g4 g1 ((hst.mono g2).put hd g3) fun a' w2 hp => hQ a' w2 (hp.trans g2)
      · simp only [h1, Bool.false_eq_true, if_false]
        exact ih _ C H w _ K h2 hrel (hst.put hd (.tup [] #[] rfl (by simp))) hQ
    · exact h.elim

/-! ### In whatever order -/
/-- Is it an operation that neither reads nor writes the heap? -/
def isPop (P : Program) (pu : Pures) : Op → Bool
  | .alloc _ | .box _ _ | .load _ _ | .store _ _ _ | .buildSlice _ _ _ | .makeMap _ _ | .makeSlice _ _ _ | .lookup _ _ _ _ | .mapUpdate _ _ _ _ | .insert _ _ _ _ | .mapEntry _ _ _ | .entryStore _ _ _ _ | .range _ _ | .next _ _ | .entry _ => false
  | .slice t _ _ _ _ => (arrOf P t).isNone
  | .binOp o t x y u => (nilArg (.binOp o t x y u)).isNone
  | .convert src dst _ => !(decide (isBytes P dst = true ∧ descOf P src = .string) || decide (isBytes P src = true ∧ descOf P dst = .string)) && !isU P src dst && !(decide (src = dst) && isBytes P src)
  | .call { callee := .builtin .len, argTypes := ts, .. } => !isMap P ts.toList
  | .call { callee := .builtin .min, .. } | .call { callee := .builtin .max, .. } | .call { callee := .builtin .cap, .. } | .call { callee := .builtin .unsafeSliceData, .. } => true
  | .call { callee := .value (.func g), .. } => (pu g).isSome
  | .call { callee := .value (.tmp _), .. } => isDyn pu
  | .call _ => false
  | _ => true

/-- What such an operation leaves. -/
def popC (P : Program) (pu : Pures) (r : Regs) (op : Op) : Option AV :=
  match op with
  | .call { callee := .value f, args := xs, .. } => match ev r f with
    | .func g cap => (pu g).bind fun s => s (xs.toList.map (ev r) ++ cap)
    | _ => none
  | o => pop P r o

theorem aop_isPop {pu : Pures} {ms : Bool} {r : Regs} {op : Op} (hp : isPop P pu op = true) (H : Heap) (K : K1) : aop P pu ms r H op K ↔ so (popC P pu r op) fun v => K v H := by
  cases op <;> try (first | exact Iff.rfl | (simp only [isPop] at hp; cases hp; done))
  case binOp o t x y u =>
    simp only [isPop, Option.isNone_iff_eq_none] at hp
    show (match nilArg (.binOp o t x y u) with | some (z, neg) => isSlice P t = true ∧ aNil (ev r z) neg H K | none => so (pop P r (.binOp o t x y u)) fun v => K v H) ↔ _
    rw [hp]
    exact Iff.rfl
  case slice t x lo hi mx =>
    simp only [isPop, Option.isNone_iff_eq_none] at hp
    show aSlice P r t (ev r x) lo hi mx H K ↔ so (sliceA P r t (ev r x) lo hi mx) _
    unfold aSlice
    split
    · rename_i id off hev
      have e2 : sliceA P r t (ev r x) lo hi mx = none := by rw [hev]; rfl
      rw [e2]
      simp only [hp]
      exact Iff.rfl
    · exact Iff.rfl
  case convert src dst x =>
    simp only [isPop, Bool.and_eq_true, Bool.not_eq_true', Bool.or_eq_false_iff, decide_eq_false_iff_not] at hp
    show aConv P src dst (ev r x) H K ↔ _
    unfold aConv
    rw [if_neg hp.1.1.1, if_neg hp.1.1.2, if_neg (by rw [hp.1.2]; simp), if_neg (by rintro ⟨e1, e2⟩; have := hp.2; simp [e1, e2] at this; rw [e1] at e2; simp [e2] at this)]
    exact Iff.rfl
  case call c =>
    obtain ⟨callee, xs, ts⟩ := c
    cases callee with
    | value f =>
      cases f <;> try (simp only [isPop] at hp; cases hp; done)
      case func g =>
        simp only [isPop] at hp
        obtain ⟨s, hs⟩ := Option.isSome_iff_exists.1 hp
        show callG P g (pu g) _ H K ↔ so ((pu g).bind _) _
        rw [hs]
        exact Iff.rfl
      case tmp t =>
        have hp : isDyn pu = true := hp
        show aCallD P pu (true && isDyn pu) _ _ H K ↔ _
        rw [hp]
        exact Iff.rfl
    | invoke x m => simp only [isPop] at hp; cases hp
    | builtin b =>
      cases b <;> try (simp only [isPop] at hp; cases hp; done)
      case len =>
        simp only [isPop, Bool.not_eq_true'] at hp
        show aBuiltin P ms .len ts.toList (xs.toList.map (ev r)) H K ↔ so (match xs.toList.map (ev r) with | [x] => lenT P ts.toList x | _ => none) _
        unfold aBuiltin
        generalize xs.toList.map (ev r) = l
        cases l with
        | nil => exact Iff.rfl
        | cons x l =>
          cases l with
          | nil =>
            show aLen P ts.toList x H K ↔ _
            unfold aLen
            rw [if_neg (by rw [hp]; simp)]
          | cons => exact Iff.rfl
      case min => exact Iff.rfl
      case max => exact Iff.rfl
      case cap => exact Iff.rfl
      case unsafeSliceData => exact Iff.rfl
theorem isPop_sound {pu : Pures} {ms : Bool} {r : Regs} {op : Op} (hp : isPop P pu op = true) {K : K1} (h : aop P pu ms r H op K) : ∃ z, popC P pu r op = some z ∧ K z H := by
  rw [aop_isPop hp] at h
  unfold so at h
  split at h
  · exact ⟨_, ‹_›, h⟩
  · exact h.elim
end
end Go.Abs

/-
  Regions that draw their order.
-/
namespace Go.Abs
open Go.RowKit
set_option linter.unusedSimpArgs false
set_option linter.unusedVariables false

section
variable {P : Program} {C C' : Cx} {H H' : Heap} {w w' : World}

theorem map_congr_ev {r r' : Regs} (xs : Array Operand) (h : ∀ x ∈ xs, ev r x = ev r' x) : xs.toList.map (ev r) = xs.toList.map (ev r') :=
  List.map_congr_left fun x hx => h x (by simpa using hx)
theorem parts_congr_ev {r r' : Regs} (ps : Array (Nat × Operand)) (h : ∀ x ∈ (ps.toList.map (·.2)).toArray, ev r x = ev r' x) :
    (ps.toList.map fun p => (p.1, ev r p.2)) = ps.toList.map fun p => (p.1, ev r' p.2) :=
  List.map_congr_left fun p hp => by rw [h p.2 (by simp only [List.mem_toArray]; exact List.mem_map_of_mem hp)]

theorem pop_congr {r r' : Regs} (op : Op) (h : ∀ x ∈ op.operands, ev r x = ev r' x) : pop P r op = pop P r' op := by
  cases op <;> simp only [Op.operands] at h <;> try rfl
  case move x => simp only [pop]; rw [h x (by simp)]
  case assign x => simp only [pop]; rw [h x (by simp)]
  case pick c a b => simp only [pop]; rw [h c (by simp), h a (by simp), h b (by simp)]
  case build t ps => simp only [pop]; rw [parts_congr_ev ps h]
  case nilCheck x => simp only [pop]; rw [h x (by simp)]
  case binOp o t x y t' => simp only [pop]; rw [h x (by simp), h y (by simp)]
  case unOp o t x => simp only [pop]; rw [h x (by simp)]
  case convert s d x => simp only [pop]; rw [h x (by simp)]
  case makeInterface t x => simp only [pop]; rw [h x (by simp)]
  case makeFunc fn first captured =>
    simp only [pop]
    rw [map_congr_ev first fun x hx => h x (by simp [hx]), map_congr_ev captured fun x hx => h x (by simp [hx])]
  case slice t x lo hi mx =>
    have e1 : ∀ d o, (∀ y, o = some y → ev r y = ev r' y) → intOf d r o = intOf d r' o := fun d o ho => by
      cases o with
      | none => rfl
      | some y => simp only [intOf, ho y rfl]
    have hx := h x (by simp)
    have hlo : ∀ d, intOf d r lo = intOf d r' lo := fun d => e1 d lo fun y hy => h y (by simp [hy])
    have hhi : ∀ d, intOf d r hi = intOf d r' hi := fun d => e1 d hi fun y hy => h y (by simp [hy])
    have hmx : ∀ y, mx = some y → ev r y = ev r' y := fun y hy => h y (by simp [hy])
    simp only [pop, sliceA, hx, hlo, hhi]
    cases mx with
    | none => rfl
    | some y =>
      cases hi with
      | none => rfl
      | some z => simp only [hmx y rfl]
  case fieldAddr t x f => simp only [pop]; rw [h x (by simp)]
  case field t x f => simp only [pop]; rw [h x (by simp)]
  case indexAddr t x i => simp only [pop]; rw [h x (by simp), h i (by simp)]
  case index t x i => simp only [pop]; rw [h x (by simp), h i (by simp)]
  case extract x i => simp only [pop]; rw [h x (by simp)]
  case call c =>
    obtain ⟨callee, args, ts⟩ := c
    have e := map_congr_ev args fun x hx => h x (by simp [Call.operands, hx])
    cases callee with
    | builtin b => cases b <;> first | rfl | (simp only [pop, e]; done) | simp [pop, e]
    | value f => rfl
    | invoke x m => rfl

theorem popC_congr {pu : Pures} {r r' : Regs} (op : Op) (h : ∀ x ∈ op.operands, ev r x = ev r' x) : popC P pu r op = popC P pu r' op := by
  have hp := pop_congr (P := P) op h
  cases op <;> try exact hp
  case call c =>
    obtain ⟨callee, args, ts⟩ := c
    simp only [Op.operands] at h
    have e := map_congr_ev args fun x hx => h x (by simp [Call.operands, hx])
    cases callee with
    | value f => simp only [popC, e]; rw [h f (by simp [Call.operands])]
    | builtin b => exact hp
    | invoke x m => exact hp
theorem aop_congr {pu : Pures} {ms : Bool} {r r' : Regs} (op : Op) (h : ∀ x ∈ op.operands, ev r x = ev r' x) (H : Heap) (K : K1) : aop P pu ms r H op K = aop P pu ms r' H op K := by
  have hp := pop_congr (P := P) op h
  cases op <;> simp only [aop, hp] <;> simp only [Op.operands] at h <;> try rfl
  case binOp o t x y t' =>
    have h1 := h x (by simp)
    cases hn : nilArg (.binOp o t x y t') with
    | none => rfl
    | some p =>
      obtain ⟨z, neg⟩ := p
      simp only
      have : z = x := by
        unfold nilArg at hn
        split at hn
        · rename_i heq; cases heq; cases hn; rfl
        · rename_i heq; cases heq; cases hn; rfl
        · cases hn
      subst this
      rw [h1]
  case box t x => rw [h x (by simp)]
  case buildSlice t n ps => rw [parts_congr_ev ps h]
  case load t x => rw [h x (by simp)]
  case store t x y => rw [h x (by simp), h y (by simp)]
  case convert s d x => rw [h x (by simp)]
  case slice t x lo hi mx =>
    have e1 : ∀ d o, (∀ y, o = some y → ev r y = ev r' y) → intOf d r o = intOf d r' o := fun d o ho => by
      cases o with
      | none => rfl
      | some y => simp only [intOf, ho y rfl]
    have hx := h x (by simp)
    have hlo : ∀ d, intOf d r lo = intOf d r' lo := fun d => e1 d lo fun y hy => h y (by simp [hy])
    have hhi : ∀ d, intOf d r hi = intOf d r' hi := fun d => e1 d hi fun y hy => h y (by simp [hy])
    simp only [pop] at hp
    rw [hx] at hp
    unfold aSlice
    rw [hx]
    clear e1 hx
    generalize ev r' x = av at hp
    cases av <;> simp only [hlo, hhi, hp]
  case mapEntry t x y => rw [h x (by simp), h y (by simp)]
  case entryStore t x y z => rw [h x (by simp), h y (by simp), h z (by simp)]
  case range t x => rw [h x (by simp)]
  case entry x => rw [h x (by simp)]
  case next x b => cases b <;> simp only [aop] <;> first | (rw [h x (by simp)]; done) | (simp only [pop]; done) | rfl
  case makeSlice t x y => rw [h x (by simp), h y (by simp)]
  case lookup t x y b => rw [h x (by simp), h y (by simp)]
  case mapUpdate t x y z => rw [h x (by simp), h y (by simp), h z (by simp)]
  case insert t x y z => rw [h x (by simp), h y (by simp), h z (by simp)]
  case makeMap t res => cases res <;> simp only [aop, hp]
  case call c =>
    obtain ⟨callee, args, ts⟩ := c
    have e := map_congr_ev args fun x hx => h x (by simp [Call.operands, hx])
    cases callee with
    | builtin b => simp only [aop, e]
    | value f => simp only [aop, e]; rw [h f (by simp [Call.operands])]
    | invoke x m => simp only [aop, hp]

theorem so_mono {m : Option AV} {K K' : AV → Prop} (h : ∀ x, K x → K' x) (hh : so m K) : so m K' := by
  unfold so at *; split <;> simp_all
theorem newId_mono {K K' : Nat → Prop} (h : ∀ x, K x → K' x) (hh : newId H K) : newId H K' := fun id hid => h _ (hh id hid)
theorem cellsAt_mono {o : Option AObj} {K K' : List AV → Prop} (h : ∀ x, K x → K' x) (hh : cellsAt o K) : cellsAt o K' := by
  unfold cellsAt at *; split at hh <;> simp_all
theorem mapAt_mono {o : Option AObj} {K K' : KK → List (Key × AV) → Prop} (h : ∀ x y, K x y → K' x y) (hh : mapAt o K) : mapAt o K' := by
  unfold mapAt at *; split at hh <;> simp_all
theorem keyK_mono {kk : KK} {x : AV} {K K' : Key → Prop} (h : ∀ x, K x → K' x) (hh : keyK kk x K) : keyK kk x K' := by
  unfold keyK at *; split at hh <;> simp_all
theorem srcOf_mono {k : Nat} {x : AV} {K K' : List (List AV) → Prop} (h : ∀ x, K x → K' x) (hh : srcOf k x H K) : srcOf k x H K' := by
  unfold srcOf at *
  split at hh
  · exact ⟨hh.1, h _ hh.2⟩
  · exact ⟨hh.1, h _ hh.2⟩
  · exact ⟨hh.1, cellsAt_mono (fun cs hc => ⟨hc.1, h _ hc.2⟩) hh.2⟩
  · exact hh.elim

theorem aConv_mono {src dst : TypeId} {x : AV} {K K' : K1} (h : ∀ x H', K x H' → K' x H') (hh : aConv P src dst x H K) : aConv P src dst x H K' := by
  unfold aConv at *
  by_cases c1 : isBytes P dst = true ∧ descOf P src = .string
  · rw [if_pos c1] at hh ⊢
    cases x <;> first | exact hh.elim | exact newId_mono (fun _ => h _ _) hh
  · rw [if_neg c1] at hh ⊢
    by_cases c2 : isBytes P src = true ∧ descOf P dst = .string
    · rw [if_pos c2] at hh ⊢
      exact ⟨hh.1, srcOf_mono (fun _ ⟨l, e, k⟩ => ⟨l, e, h _ _ k⟩) hh.2⟩
    · rw [if_neg c2] at hh ⊢
      by_cases c3 : isU P src dst = true
      · rw [if_pos c3] at hh ⊢
        unfold aConvU at *
        split at hh
        · split at hh
          · exact ⟨hh.1, hh.2.1, hh.2.2.1, h _ _ hh.2.2.2⟩
          · exact hh.elim
        · exact hh.elim
      · rw [if_neg c3] at hh ⊢
        by_cases c4 : src = dst ∧ isBytes P src = true
        · rw [if_pos c4] at hh ⊢
          split at hh
          · exact h _ _ hh
          · exact hh.elim
        · rw [if_neg c4] at hh ⊢
          exact so_mono (fun _ => h _ _) hh

theorem aLen_mono {ts : List TypeId} {x : AV} {K K' : K1} (h : ∀ x H', K x H' → K' x H') (hh : aLen P ts x H K) : aLen P ts x H K' := by
  unfold aLen at *
  by_cases c : isMap P ts = true
  · rw [if_pos c] at hh ⊢
    cases x <;> first | exact hh.elim | exact mapAt_mono (fun _ _ => h _ _) hh | exact h _ _ hh
  · rw [if_neg c] at hh ⊢
    exact so_mono (fun _ => h _ _) hh
theorem callG_mono {g : FuncId} {s : Option (List AV → Option AV)} {xs : List AV} {K K' : K1} (h : ∀ x H', K x H' → K' x H') (hh : callG P g s xs H K) : callG P g s xs H K' := by
  unfold callG at *
  split at hh
  · exact so_mono (fun _ => h _ _) hh
  · exact hh.mono h
theorem aop_mono {pu : Pures} {ms : Bool} {r : Regs} {op : Op} {K K' : K1} (h : ∀ x H', K x H' → K' x H') (hh : aop P pu ms r H op K) : aop P pu ms r H op K' := by
  unfold aop at *
  split at hh
  · unfold aAlloc at *; split at hh
    · refine ⟨hh.1, ?_⟩
      have := hh.2
      cases ms with
      | true => exact ⟨this.1, newId_mono (fun _ => h _ _) this.2⟩
      | false => exact newId_mono (K := fun id => K (.ptr id 0) _) (fun _ => h _ _) this
    · exact hh.elim
  · exact ⟨hh.1, newId_mono (fun _ => h _ _) hh.2⟩
  · unfold aLoad at *; split at hh
    · split at hh
      · exact cellsAt_mono (fun _ => so_mono fun _ => h _ _) hh
      · exact so_mono (fun _ => h _ _) hh
      · split at hh
        · exact so_mono (fun _ => h _ _) hh
        · exact hh.elim
      · exact hh.elim
    · exact hh.elim
  · unfold aStore at *; split at hh
    · split at hh
      · exact cellsAt_mono (fun _ hc => ⟨hc.1, hc.2.1, hc.2.2.1, h _ _ hc.2.2.2⟩) hh
      · exact hh.elim
    · exact hh.elim
  · unfold aBuildSlice at *; split at hh
    · refine ⟨hh.1, hh.2.1, hh.2.2.1, hh.2.2.2.1, ?_⟩
      have := hh.2.2.2.2
      split at this
      · exact h _ _ this
      · exact this.elim
    · exact hh.elim
  · unfold aMakeMap at *; split at hh
    · exact newId_mono (fun _ => h _ _) hh
    · exact hh.elim
  · unfold aMakeSlice at *; split at hh
    · obtain ⟨h1, h2, h3, h4, h5, h6, h7⟩ := hh
      refine ⟨h1, h2, h3, h4, h5, h6, ?_⟩
      rcases h7 with ⟨a, b⟩ | ⟨a, b, c⟩
      · exact .inl ⟨a, newId_mono (fun _ => h _ _) b⟩
      · exact .inr ⟨a, b, newId_mono (fun _ => h _ _) c⟩
    · exact hh.elim
  · unfold aLookup at *; split at hh
    · refine ⟨hh.1, ?_⟩
      have := hh.2
      split at this
      · exact mapAt_mono (fun _ _ hc => ⟨hc.1, keyK_mono (fun _ hk => by split at hk <;> simp_all) hc.2⟩) this
      · exact keyK_mono (fun _ hk => by split at hk <;> simp_all) this
      · exact this.elim
    · exact hh.elim
  · unfold aUpdate at *; split at hh
    · split at hh
      · exact mapAt_mono (fun _ _ hc => ⟨hc.1, keyK_mono (fun _ => h _ _) hc.2⟩) hh
      · exact hh.elim
    · exact hh.elim
  · unfold aUpdate at *; split at hh
    · split at hh
      · exact mapAt_mono (fun _ _ hc => ⟨hc.1, keyK_mono (fun _ => h _ _) hc.2⟩) hh
      · exact hh.elim
    · exact hh.elim
  · unfold aSlice at *
    split at hh
    · split at hh
      · split at hh
        · exact ⟨hh.1, hh.2.1, hh.2.2.1, cellsAt_mono (fun _ hc => ⟨hc.1, h _ _ hc.2⟩) hh.2.2.2⟩
        · exact hh.elim
      · exact hh.elim
    · exact so_mono (fun _ => h _ _) hh
  · unfold aEntry at *; split at hh
    · refine ⟨hh.1, ?_⟩
      have := hh.2
      split at this
      · exact mapAt_mono (fun _ _ hc => ⟨hc.1, keyK_mono (fun _ hk es' j v bs b cl h1 h2 h3 h4 => h _ _ (hk es' j v bs b cl h1 h2 h3 h4)) hc.2⟩) this
      · exact this.elim
    · exact hh.elim
  · unfold aEntryStore at *; split at hh
    · split at hh
      · obtain ⟨j, b, e, h1, h2, h3, h4⟩ := hh
        exact ⟨j, b, e, h1, h2, h3, h _ _ h4⟩
      · exact hh.elim
    · exact hh.elim
  · unfold aRange at *; split at hh
    · split at hh
      · exact mapAt_mono (fun _ _ hc bs cl h1 h2 => newId_mono (fun _ => h _ _) (hc bs cl h1 h2)) hh
      · exact newId_mono (fun _ => h _ _) hh
      · exact hh.elim
    · exact hh.elim
  · unfold aNext at *; split at hh
    · split at hh
      · exact h _ _ hh
      · split at hh
        · exact ⟨hh.1, fun j k v b h1 h2 h3 => h _ _ (hh.2.1 j k v b h1 h2 h3), fun h0 => (hh.2.2 h0).imp (h _ _) (h _ _)⟩
        · exact hh.elim
      · exact hh.elim
    · exact hh.elim
  · unfold aHere at *; split at hh
    · split at hh
      · split at hh
        · obtain ⟨h1, b, j, k, v, h2, h3, h4, h5⟩ := hh
          exact ⟨h1, b, j, k, v, h2, h3, h4, h _ _ h5⟩
        · exact hh.elim
      · exact hh.elim
    · exact hh.elim
  · exact aConv_mono h hh
  · unfold aCallD at *; split at hh
    · exact so_mono (fun _ => h _ _) hh
    · unfold aCallV at *; split at hh
      · exact callG_mono h hh
      · exact hh.elim
  · unfold aBuiltin at *; split at hh
    · exact aLen_mono h hh
    · refine ⟨hh.1, ?_⟩
      have hh := hh.2
      unfold aAppend at *; split at hh
      · refine ⟨hh.1, hh.2.1, hh.2.2.1, srcOf_mono (fun new hs => ?_) hh.2.2.2⟩
        split at hs
        · exact ⟨hs.1, hs.2.1, hs.2.2.1, hs.2.2.2.1, hs.2.2.2.2.1, newId_mono (fun _ => h _ _) hs.2.2.2.2.2⟩
        · exact ⟨fun hn => h _ _ (hs.1 hn), fun hn => ⟨(hs.2 hn).1, (hs.2 hn).2.1, (hs.2 hn).2.2.1, newId_mono (fun _ hi => by split at hi <;> simp_all) (hs.2 hn).2.2.2⟩⟩
        · exact ⟨fun hn => h _ _ (hs.1 hn), fun hn => ⟨(hs.2 hn).1, (hs.2 hn).2.1, (hs.2 hn).2.2.1, newId_mono (fun _ => h _ _) (hs.2 hn).2.2.2⟩⟩
        · exact ⟨fun hn => h _ _ (hs.1 hn), fun hn => ⟨(hs.2 hn).1, (hs.2 hn).2.1, newId_mono (fun _ => h _ _) (hs.2 hn).2.2⟩⟩
        · exact ⟨hs.1, hs.2.1, hs.2.2.1, hs.2.2.2.1, cellsAt_mono (fun _ hc => ⟨hc.1, newId_mono (fun _ => h _ _) hc.2⟩) hs.2.2.2.2⟩
        · exact hs.elim
      · exact hh.elim
    · unfold aCopy at *; split at hh
      · unfold aCopy0 at *; split at hh
        · exact h _ _ hh
        · exact hh.elim
      unfold aCopy1 at *; split at hh
      · refine srcOf_mono (fun new hs => ?_) hh
        split at hs
        · exact ⟨hs.1, cellsAt_mono (fun _ hc => ⟨hc.1, h _ _ hc.2⟩) hs.2⟩
        · exact hs.elim
      · exact hh.elim
    · unfold aDelete at *; split at hh
      · split at hh
        · exact mapAt_mono (fun _ _ hc => ⟨hc.1, keyK_mono (fun _ => h _ _) hc.2⟩) hh
        · exact keyK_mono (fun _ hk => h _ _ hk) hh
        · exact hh.elim
      · exact hh.elim
    · exact so_mono (fun _ => h _ _) hh
    · exact so_mono (fun _ => h _ _) hh
    · exact so_mono (fun _ => h _ _) hh
    · exact so_mono (fun _ => h _ _) hh
    · unfold aUString at *; split at hh
      · exact ⟨hh.1, hh.2.1, hh.2.2.1, h _ _ hh.2.2.2⟩
      · exact hh.elim
    · unfold aClear at *; split at hh
      · exact ⟨hh.1, hh.2.1, hh.2.2.1, hh.2.2.2.1, cellsAt_mono (fun _ hc => ⟨hc.1, h _ _ hc.2⟩) hh.2.2.2.2⟩
      · exact hh.elim
    · exact hh.elim
  · split at hh
    · refine ⟨hh.1, ?_⟩
      have hh := hh.2
      unfold aNil at *
      split at hh
      · exact ⟨fun e => h _ _ (hh.1 e), h _ _ hh.2⟩
      · exact ⟨fun e => h _ _ (hh.1 e), h _ _ hh.2⟩
      · exact hh.elim
    · exact so_mono (fun _ => h _ _) hh
  · exact so_mono (fun _ => h _ _) hh
end
end Go.Abs

/-
  Regions that draw their order: every order, and the orders that stand for all.
-/
namespace Go.Abs
open Go.RowKit
set_option linter.unusedSimpArgs false
set_option linter.unusedVariables false

section
variable {P : Program} {C C' : Cx} {H H' : Heap} {w w' : World}

theorem aAny_sound {X : Steer} (hpu : PuOK P X.pure) {ops : Array Oper} {N : Nat} (hN : opsOK N ops.toList = true) {Q : Exit → Act → World → Prop} :
    ∀ (f : Nat) (listed : Array Bool) (r : Regs) (C : Cx) (H : Heap) (w : World) (a : Act) (K : Regs → Heap → Prop),
      aAny P X ops f listed r H K → Rel P C H w → StOK C H w N r a → (∀ a' w', NPost P C H w N K a' w' → Q .normal a' w') → wpAny P .any ops Q f listed a w := by
  intro f
  induction f with
  | zero => intro listed r C H w a K h hrel hst hQ; exact ⟨h.1, hQ a w ⟨r, C, H, hrel, Le.refl _ _ _, hst, h.2⟩⟩
  | succ f ih =>
    intro listed r C H w a K h hrel hst hQ
    refine ⟨fun h0 => hQ a w ⟨r, C, H, hrel, Le.refl _ _ _, hst, h.1 h0⟩, fun i hi => ?_⟩
    have h2 := h.2 i hi
    unfold aopI at h2
    unfold wpOp
    split at h2
    · rename_i o ho
      rw [ho]
      have hd : dstOK N o.dst = true := by
        unfold opsOK at hN
        rw [List.all_eq_true] at hN
        exact hN o (by have := Array.mem_of_getElem? ho; simpa using this)
      simp only
      rcases wanted_sound hst.regs h2 with ⟨h1, h2⟩ | ⟨h1, h2⟩
      · simp only [h1, if_true]
        refine .inl (aop_sound hpu hrel hst.regs o h2 fun C' H' w' x v g1 g2 g3 g4 => ?_)
        exact ih _ _ C' H' w' _ K g4 g1 ((hst.mono g2).put hd g3) fun a' w2 hp => hQ a' w2 (hp.trans g2)
      · simp only [h1, Bool.false_eq_true, if_false]
        exact ih _ _ C H w _ K h2 hrel (hst.put hd (.tup [] #[] rfl (by simp))) hQ
    · exact h2.elim

/-! ### Some operations may be taken first -/
theorem ev_put {r : Regs} {d : Option Nat} {v : AV} {x : Operand} (h : ∀ t, d = some t → x ≠ .tmp t) : ev (put r d v) x = ev r x := by
  cases d with
  | none => rfl
  | some d =>
    cases x with
    | tmp t =>
      have : t ≠ d := fun e => h d rfl (by rw [e])
      simp [put, ev, upd, this]
    | _ => rfl
theorem put_comm (r : Regs) {c d : Option Nat} (u v : AV) (h : ∀ t, c = some t → d ≠ some t) : put (put r c u) d v = put (put r d v) c u := by
  cases c with
  | none => rfl
  | some c =>
    cases d with
    | none => rfl
    | some d =>
      have hne : c ≠ d := fun e => h c rfl (by rw [e])
      funext i
      simp only [put, upd]
      by_cases h1 : i = d
      · subst h1; rw [if_pos rfl, if_neg (Ne.symm hne), if_pos rfl]
      · rw [if_neg h1]
        by_cases h2 : i = c
        · subst h2; rw [if_pos rfl, if_pos rfl]
        · rw [if_neg h2, if_neg h2, if_neg h1]

section
variable {ops : Array Oper}
theorem looks_op {o : Oper} {d : Option Nat} {r : Regs} {v : AV} (h : ∀ t, d = some t → t ∉ o.looksAt ops) : ∀ x ∈ o.op.operands, ev (put r d v) x = ev r x := fun x hx => ev_put fun t ht hxt => h t ht (by
  subst hxt
  unfold Oper.looksAt
  exact List.mem_append_left _ (List.mem_filterMap.2 ⟨.tmp t, by simpa using hx, rfl⟩))
theorem looks_guard {o : Oper} {d : Option Nat} {r : Regs} {v : AV} (h : ∀ t, d = some t → t ∉ o.looksAt ops) (Ky Kn : Prop) : wantedA ops.toList (put r d v) o.guard Ky Kn = wantedA ops.toList r o.guard Ky Kn := by
  cases d with
  | none => rfl
  | some d =>
    unfold wantedA
    cases hg : o.guard with
    | none => rfl
    | some gw =>
      obtain ⟨g, want⟩ := gw
      simp only [Array.getElem?_toList]
      cases ht : (ops[g]?).bind (·.dst) with
      | none => rfl
      | some t =>
        have hne : t ≠ d := fun e => h d rfl (by
          subst e
          unfold Oper.looksAt
          refine List.mem_append_right _ ?_
          rw [hg]
          simp only [ht]
          simp)
        simp only [put, upd, if_neg hne]
end

theorem wantedA_mono {all : List Oper} {r : Regs} {g : Option (Nat × Bool)} {Ky Kn Ky' Kn' : Prop} (h1 : Ky → Ky') (h2 : Kn → Kn') (h : wantedA all r g Ky Kn) : wantedA all r g Ky' Kn' := by
  unfold wantedA at *
  split at h
  · exact h1 h
  · split at h
    · split at h
      · split at h
        · rename_i hb; simp only [hb, if_true]; exact h1 h
        · rename_i hb; simp only [hb, if_false]; exact h2 h
      · exact h2 h
      · exact h.elim
    · exact h.elim

theorem so_some {m : Option AV} {K : AV → Prop} (h : so m K) : ∃ z, m = some z ∧ K z := by
  unfold so at h
  split at h
  · exact ⟨_, rfl, h⟩
  · exact h.elim
/-- An operation that only reads. -/
def litK (x : AV) (H : Heap) (K : K1) : Prop := match x with | .sl es .lit => K (.sl es .exact) H | _ => False
def isRead (P : Program) : Op → Bool
  | .load _ _ | .lookup _ _ _ _ | .buildSlice _ _ _ => true
  | .convert src dst _ => decide (src = dst) && isBytes P src && !isU P src dst && !decide (isBytes P dst = true ∧ descOf P src = .string) && !decide (isBytes P src = true ∧ descOf P dst = .string)
  | _ => false
theorem aConv_litK {P : Program} {src dst : TypeId} {y : Operand} (h : isRead P (.convert src dst y) = true) (x : AV) (H : Heap) (K : K1) : aConv P src dst x H K ↔ litK x H K := by
  simp only [isRead, Bool.and_eq_true, Bool.not_eq_true', decide_eq_true_eq, decide_eq_false_iff_not] at h
  unfold aConv
  rw [if_neg h.1.2, if_neg h.2, if_neg (by rw [h.1.1.2]; simp), if_pos ⟨h.1.1.1.1, h.1.1.1.2⟩]
  unfold litK
  cases x <;> first | exact Iff.rfl | (rename_i tl; cases tl <;> exact Iff.rfl)
/-- It has one value in a state of the heap, and leaves the heap alone. -/
def isStill (P : Program) (pu : Pures) (op : Op) : Bool := isPop P pu op || isRead P op

theorem still_val {pu : Pures} {ms : Bool} {r : Regs} {op : Op} (hs : isStill P pu op = true) {K : K1} (h : aop P pu ms r H op K) : ∃ z, ∀ ms' (K' : K1), aop P pu ms' r H op K' ↔ K' z H := by
  unfold isStill at hs
  rw [Bool.or_eq_true] at hs
  rcases hs with hs | hs
  · obtain ⟨z, h1, h2⟩ := isPop_sound hs h
    exact ⟨z, fun ms' K' => by rw [aop_isPop hs, h1]; exact Iff.rfl⟩
  · cases op <;> try (simp only [isRead] at hs; cases hs; done)
    case convert src dst x =>
      have h : aConv P src dst (ev r x) H K := h
      suffices ∃ z, ∀ (K' : K1), aConv P src dst (ev r x) H K' ↔ K' z H from by
        obtain ⟨z, h1⟩ := this
        exact ⟨z, fun ms' K' => h1 K'⟩
      rw [aConv_litK hs] at h
      revert h
      cases hx : ev r x <;> try exact fun h => h.elim
      case sl es tl =>
        cases tl <;> try exact fun h => h.elim
        exact fun h => ⟨_, fun K' => aConv_litK hs _ _ _⟩
    case load t a =>
      have h : aLoad P t (ev r a) H K := h
      suffices ∃ z, ∀ (K' : K1), aLoad P t (ev r a) H K' ↔ K' z H from by
        obtain ⟨z, h1⟩ := this
        exact ⟨z, fun ms' K' => h1 K'⟩
      generalize ev r a = av at *
      unfold aLoad at h ⊢
      split at h
      · rename_i i hi
        split at h
        · rename_i id off
          unfold cellsAt at h
          split at h
          · rename_i cs hcs
            obtain ⟨z, h1, h2⟩ := so_some h
            exact ⟨z, fun K' => by simp only [cellsAt, hcs, h1]; exact Iff.rfl⟩
          · exact h.elim
        · rename_i cs
          obtain ⟨z, h1, h2⟩ := so_some h
          exact ⟨z, fun K' => by simp only [h1]; exact Iff.rfl⟩
        · split at h
          · rename_i hg
            obtain ⟨z, h1, h2⟩ := so_some h
            exact ⟨z, fun K' => by simp only [hg, h1]; exact Iff.rfl⟩
          · exact h.elim
        · exact h.elim
      · exact h.elim
    case lookup t m k ok =>
      have h : aLookup P t (ev r m) (ev r k) ok H K := h
      suffices ∃ z, ∀ (K' : K1), aLookup P t (ev r m) (ev r k) ok H K' ↔ K' z H from by
        obtain ⟨z, h1⟩ := this
        exact ⟨z, fun ms' K' => h1 K'⟩
      generalize ev r m = mv at *
      generalize ev r k = kv at *
      unfold aLookup at h ⊢
      split at h
      · rename_i kt e he
        obtain ⟨hz, h⟩ := h
        simp only [hz, true_and]
        split at h
        · rename_i id
          unfold mapAt at h
          split at h
          · rename_i kk es hes
            simp only [mapAt, hes]
            obtain ⟨h1, h⟩ := h
            unfold keyK at h
            split at h
            · rename_i key hkey
              simp only [keyK, hkey, h1, true_and]
              subst h1
              cases ok with
              | false => exact ⟨_, fun K' => by simp only [hkey]; exact Iff.rfl⟩
              | true => exact ⟨_, fun K' => by simp only [hkey]; exact Iff.rfl⟩
            · exact h.elim
          · exact h.elim
        · unfold keyK at h
          split at h
          · rename_i key hkey
            simp only [keyK, hkey]
            cases ok with
            | false => exact ⟨_, fun K' => Iff.rfl⟩
            | true => exact ⟨_, fun K' => Iff.rfl⟩
          · exact h.elim
        · exact h.elim
      · exact h.elim

    case buildSlice t n ps =>
      have h : aBuildSlice P t n (ps.toList.map fun p => (p.1, ev r p.2)) H K := h
      suffices ∃ z, ∀ (K' : K1), aBuildSlice P t n (ps.toList.map fun p => (p.1, ev r p.2)) H K' ↔ K' z H from by
        obtain ⟨z, h1⟩ := this
        exact ⟨z, fun ms' K' => h1 K'⟩
      generalize (ps.toList.map fun p => (p.1, ev r p.2)) = l at *
      unfold aBuildSlice at h ⊢
      split at h
      · rename_i e he
        obtain ⟨a1, a2, a3, a4, h⟩ := h
        split at h
        · rename_i es hes
          exact ⟨.sl es (litT e.desc), fun K' => by simp only [hes, a1, a2, a3, a4, ne_eq, not_false_eq_true, true_and]⟩
        · exact h.elim
      · exact h.elim

/-! ### An operation may be taken first -/
/-- In this state operation 'o' leaves 'z' in its slot, and the heap alone. -/
def Val (P : Program) (pu : Pures) (ops : Array Oper) (o : Oper) (z : AV) (r : Regs) (H : Heap) : Prop :=
  wantedA ops.toList r o.guard (∀ ms (K : K1), aop P pu ms r H o.op K ↔ K z H) (z = .tup [])
def ValP (P : Program) (pu : Pures) (ops : Array Oper) (o : Oper) (z : AV) (r : Regs) : Prop := wantedA ops.toList r o.guard (isPop P pu o.op = true ∧ popC P pu r o.op = some z) (z = .tup [])

/-- What is read does not turn where there is more. -/
theorem read_mono {pu : Pures} {ms : Bool} {r : Regs} {op : Op} (hr : isRead P op = true) {H H' : Heap} (hs : H.Sub H') {Q : AV → Prop} (h : aop P pu ms r H op fun v _ => Q v) : aop P pu ms r H' op fun v _ => Q v := by
  cases op <;> try (simp only [isRead] at hr; cases hr; done)
  case convert src dst x =>
    have h : aConv P src dst (ev r x) H (fun v _ => Q v) := h
    show aConv P src dst (ev r x) H' (fun v _ => Q v)
    rw [aConv_litK hr] at h ⊢
    exact h
  case load t a =>
    have h : aLoad P t (ev r a) H (fun v _ => Q v) := h
    show aLoad P t (ev r a) H' (fun v _ => Q v)
    unfold aLoad at h ⊢
    split at h
    · rename_i i hi
      split at h
      · rename_i id off ha
        unfold cellsAt at h ⊢
        split at h
        · rename_i cs hcs
          simp only [hs _ _ hcs]
          exact h
        · exact h.elim
      · exact h
      · exact h
      · exact h.elim
    · exact h.elim
  case lookup t m k ok =>
    have h : aLookup P t (ev r m) (ev r k) ok H (fun v _ => Q v) := h
    show aLookup P t (ev r m) (ev r k) ok H' (fun v _ => Q v)
    unfold aLookup at h ⊢
    split at h
    · rename_i kt e he
      refine ⟨h.1, ?_⟩
      have h := h.2
      split at h
      · rename_i id ha
        unfold mapAt at h ⊢
        split at h
        · rename_i kk es hes
          simp only [hs _ _ hes]
          exact h
        · exact h.elim
      · exact h
      · exact h.elim
    · exact h.elim
  case buildSlice t n ps => exact h
def isNew : Op → Bool
  | .alloc _ | .box _ _ => true
  | _ => false
theorem still_fresh {pu : Pures} {r : Regs} {op : Op} (hs : isStill P pu op = true) {H : Heap} {z : AV} (hz : ∀ ms (K : K1), aop P pu ms r H op K ↔ K z H) {id : Nat} (hid : H id = none) (o : AObj) :
    ∀ ms (K : K1), aop P pu ms r (H.put id o) op K ↔ K z (H.put id o) := by
  have hsub : H.Sub (H.put id o) := fun i x hx => by
    by_cases e : i = id
    · subst e; rw [hid] at hx; cases hx
    · rw [Heap.put, if_neg e]; exact hx
  have h1 : aop P pu false r (H.put id o) op fun v _ => v = z := by
    unfold isStill at hs
    rw [Bool.or_eq_true] at hs
    rcases hs with hp | hr
    · have := (hz false (fun v _ => v = z)).2 rfl
      rw [aop_isPop hp] at this ⊢
      exact this
    · exact read_mono hr hsub ((hz false (fun v _ => v = z)).2 rfl)
  obtain ⟨z', h2⟩ := still_val hs h1
  have : z' = z := (h2 false (fun v _ => v = z)).1 h1
  subst this
  exact h2
theorem new_mono {pu : Pures} {ms : Bool} {r : Regs} {op : Op} (hn : isNew op = true) {H : Heap} {K K' : K1} (h : aop P pu ms r H op K) (hK : ∀ v id o, H id = none → K v (H.put id o) → K' v (H.put id o)) : aop P pu ms r H op K' := by
  cases op <;> try (simp only [isNew] at hn; cases hn; done)
  case alloc t =>
    have h : aAlloc P ms t H K := h
    show aAlloc P ms t H K'
    unfold aAlloc at h ⊢
    split at h
    · refine ⟨h.1, ?_⟩
      have h2 := h.2
      split at h2
      · rename_i hm
        rw [if_pos hm]
        exact ⟨h2.1, fun id hid => hK _ _ _ hid (h2.2 id hid)⟩
      · rename_i hm
        rw [if_neg hm]
        exact fun id hid => hK _ _ _ hid (h2 id hid)
    · exact h.elim
  case box t x =>
    have h : aBox (ev r x) H K := h
    exact ⟨h.1, fun id hid => hK _ _ _ hid (h.2 id hid)⟩
theorem ValP.val {pu : Pures} {ops : Array Oper} {o : Oper} {z : AV} {r : Regs} (h : ValP P pu ops o z r) (H : Heap) : Val P pu ops o z r H :=
  wantedA_mono (fun ⟨h1, h2⟩ ms K => by rw [aop_isPop h1, h2]; exact Iff.rfl) (fun h => h) h
theorem Val.run {X : Steer} {ops : Array Oper} {i : Nat} {o : Oper} (ho : ops[i]? = some o) {z : AV} {r : Regs} {H : Heap} (h : Val P X.pure ops o z r H) {K : Regs → Heap → Prop} (hK : K (put r o.dst z) H) : aopI P X ops i K r H := by
  unfold aopI
  rw [ho]
  exact wantedA_mono (fun h => (h _ _).2 hK) (fun h => by rw [← h]; exact hK) h
theorem Val.put {pu : Pures} {ops : Array Oper} {o : Oper} {z : AV} {r : Regs} {H : Heap} (h : Val P pu ops o z r H) {d : Option Nat} {v : AV} (hd : ∀ t, d = some t → t ∉ o.looksAt ops) : Val P pu ops o z (Go.Abs.put r d v) H := by
  unfold Val at *
  rw [looks_guard hd]
  exact wantedA_mono (fun h ms K => by rw [aop_congr o.op (looks_op hd)]; exact h ms K) (fun h => h) h
theorem ValP.put {pu : Pures} {ops : Array Oper} {o : Oper} {z : AV} {r : Regs} (h : ValP P pu ops o z r) {d : Option Nat} {v : AV} (hd : ∀ t, d = some t → t ∉ o.looksAt ops) : ValP P pu ops o z (Go.Abs.put r d v) := by
  unfold ValP at *
  rw [looks_guard hd]
  exact wantedA_mono (fun ⟨h1, h2⟩ => ⟨h1, by rw [popC_congr o.op (looks_op hd)]; exact h2⟩) (fun h => h) h

theorem aAny_first {X : Steer} {ops : Array Oper} {i : Nat} {oi : Oper} {z : AV} (hi : ops[i]? = some oi) (D : Nat → Bool) {K : Regs → Heap → Prop} :
    ∀ (f : Nat) (listed : Array Bool) (r : Regs) (H : Heap),
      (∀ j, D j = true → j ≠ i → listed.getD j true = false ∧ ∃ oj, ops[j]? = some oj ∧ ∃ e ∈ oj.after, Region.binds .any e = true ∧ D e.on = true) →
      (∀ j oj, ops[j]? = some oj → j ≠ i → listed.getD j true = false → D j = false → oi.apart ops oj = true ∧ (ValP P X.pure ops oi z r ∨ isStill P X.pure oj.op = true ∨ (isStill P X.pure oi.op = true ∧ isNew oj.op = true))) →
      i ∈ Region.ready .any ops listed → Val P X.pure ops oi z r H → aAny P X ops f (listed.setIfInBounds i true) (put r oi.dst z) H K → aAny P X ops (f + 1) listed r H K := by
  intro f
  induction f with
  | zero =>
    intro listed r H hD hfree hr hv h
    refine ⟨fun h0 => (by rw [h0] at hr; cases hr), fun j hj => ?_⟩
    by_cases hji : j = i
    · subst hji; exact hv.run hi h
    · have := ready_mono hj hji
      rw [h.1] at this
      cases this
  | succ f ih =>
    intro listed r H hD hfree hr hv h
    refine ⟨fun h0 => (by rw [h0] at hr; cases hr), fun j hj => ?_⟩
    by_cases hji : j = i
    · subst hji; exact hv.run hi h
    · have h1 := h.2 j (ready_mono hj hji)
      obtain ⟨hjun, oj, hoj, hall⟩ := mem_ready.1 hj
      have hnot : D j = false := by
        cases hDj : D j with
        | false => rfl
        | true =>
          exfalso
          obtain ⟨_, oj', hoj', e, he, hb, hDe⟩ := hD j hDj hji
          rw [hoj] at hoj'
          cases hoj'
          have h1 := hall e he hb
          have h0 : listed.getD e.on true = false := by
            by_cases hei : e.on = i
            · rw [hei]; exact (mem_ready.1 hr).1
            · exact (hD e.on hDe hei).1
          rcases Nat.lt_or_ge e.on listed.size with h' | h'
          · simp [h'] at h0 h1; rw [h0] at h1; cases h1
          · simp [Array.getElem?_eq_none h'] at h1
      obtain ⟨hap, hkind⟩ := hfree j oj hoj hji hjun hnot
      obtain ⟨a1, a2, a3⟩ := Oper.apart_spec hap
      unfold aopI at h1 ⊢
      rw [hoj] at h1 ⊢
      simp only at h1 ⊢
      rw [looks_guard a1] at h1
      -- what follows
      have next : ∀ (u : AV) (H' : Heap), Val P X.pure ops oi z (put r oj.dst u) H' → (ValP P X.pure ops oi z (put r oj.dst u) ∨ True) → aAny P X ops f ((listed.setIfInBounds i true).setIfInBounds j true) (put (put r oi.dst z) oj.dst u) H' K →
          aAny P X ops (f + 1) (listed.setIfInBounds j true) (put r oj.dst u) H' K := by
        intro u H' hv' _ h3
        refine ih _ _ H' (fun k hk hki => ?_) (fun k ok hk hki hun hno => ?_) (ready_mono hr (Ne.symm hji)) hv' ?_
        · obtain ⟨c1, c2⟩ := hD k hk hki
          refine ⟨?_, c2⟩
          rw [getD_set_ne true (fun e => by rw [e, hk] at hnot; cases hnot)]
          exact c1
        · have hun' : listed.getD k true = false := by
            by_cases hjk : j = k
            · subst hjk; exact hjun
            · rw [getD_set_ne true hjk] at hun; exact hun
          obtain ⟨b1, b2⟩ := hfree k ok hk hki hun' hno
          exact ⟨b1, b2.imp (fun h => h.put a3) id⟩
        · rw [Array.setIfInBounds_comm _ _ hji, ← put_comm r z u a2]
          exact h3
      refine wantedA_mono (fun h2 => ?_) (fun h2 => next _ H (hv.put a3) (.inr trivial) h2) h1
      rw [aop_congr oj.op (looks_op a1)] at h2
      rcases hkind with hkind | hkind | ⟨hk1, hk2⟩
      · exact aop_mono (fun u H' h3 => next u H' ((hkind.put a3).val H') (.inr trivial) h3) h2
      · obtain ⟨y, hy⟩ := still_val hkind h2
        exact (hy _ _).2 (next y H (hv.put a3) (.inr trivial) ((hy _ _).1 h2))
      · refine new_mono hk2 h2 fun v id o hid hh => next v _ ?_ (.inr trivial) hh
        have hv2 := hv.put (d := oj.dst) (v := v) a3
        unfold Val at hv2 ⊢
        exact wantedA_mono (fun hz => still_fresh hk1 hz hid o) (fun h => h) hv2

def headIs (i : Nat) (o : List Nat) : Bool := match o with | j :: _ => j == i | [] => false
theorem headIs_cons {i : Nat} {o : List Nat} (h : headIs i o = true) : o = i :: o.tail := by
  cases o with
  | nil => cases h
  | cons j o => simp only [headIs, beq_iff_eq] at h; subst h; rfl
/-- Operation 'i' and all that waits for it, as the bits of a number. -/
def desc (ops : Array Oper) (i : Nat) : Nat := (List.range ops.size).foldl (fun acc j => match ops[j]? with
  | some oj => if oj.after.any (fun e => Region.binds .any e && acc.testBit e.on) then acc ||| (1 <<< j) else acc
  | none => acc) (1 <<< i)
/-- May operation 'i' be taken first? -/
def freeS (P : Program) (pu : Pures) (ops : Array Oper) (listed : Array Bool) (i : Nat) : Bool :=
  match ops[i]? with
  | none => false
  | some oi =>
    let d := desc ops i
    isStill P pu oi.op && decide (d < 1 <<< ops.size) && (List.range ops.size).all fun j => j == i || match ops[j]? with
      | some oj => if d.testBit j then !listed.getD j true && oj.after.any (fun e => Region.binds .any e && d.testBit e.on)
          else listed.getD j true || (oi.apart ops oj && (isPop P pu oi.op || isStill P pu oj.op || isNew oj.op))
      | none => true
/-- An operation whose conditions can be joined: it does one thing, but for the number of a new object. -/
def isDet (P : Program) (pu : Pures) (op : Op) : Bool := isStill P pu op || match op with
  | .alloc _ | .box _ _ | .store _ _ _ => true
  | _ => false
theorem det_and {pu : Pures} {ms : Bool} {r : Regs} {op : Op} (hd : isDet P pu op = true) {α : Type} {os : List α} (hne : os ≠ []) {K : α → K1} (h : ∀ o ∈ os, aop P pu ms r H op (K o)) : aop P pu ms r H op (fun v H' => ∀ o ∈ os, K o v H') := by
  obtain ⟨o0, ho0⟩ : ∃ o, o ∈ os := by
    cases os with
    | nil => exact absurd rfl hne
    | cons o os => exact ⟨o, List.mem_cons_self ..⟩
  unfold isDet at hd
  rw [Bool.or_eq_true] at hd
  rcases hd with hd | hd
  · obtain ⟨z, hz⟩ := still_val hd (h o0 ho0)
    exact (hz _ _).2 fun o ho => (hz _ _).1 (h o ho)
  · cases op <;> try (cases hd; done)
    case alloc t =>
      have h : ∀ o ∈ os, aAlloc P ms t H (K o) := h
      show aAlloc P ms t H (fun v H' => ∀ o ∈ os, K o v H')
      have h0 := h o0 ho0
      unfold aAlloc at h h0 ⊢
      split at h0
      · rename_i i hi
        simp only [hi] at h ⊢
        refine ⟨h0.1, ?_⟩
        cases ms with
        | true =>
          simp only [if_true] at h h0 ⊢
          exact ⟨h0.2.1, fun id hid o ho => (h o ho).2.2 id hid⟩
        | false =>
          simp only [Bool.false_eq_true, if_false] at h h0 ⊢
          exact fun id hid o ho => (h o ho).2 id hid
      · exact h0.elim
    case box t x =>
      have h : ∀ o ∈ os, aBox (ev r x) H (K o) := h
      exact ⟨(h o0 ho0).1, fun id hid o ho => (h o ho).2 id hid⟩
    case store t a x =>
      have h : ∀ o ∈ os, aStore P t (ev r a) (ev r x) H (K o) := h
      show aStore P t (ev r a) (ev r x) H (fun v H' => ∀ o ∈ os, K o v H')
      have h0 := h o0 ho0
      unfold aStore at h h0 ⊢
      split at h0
      · rename_i i hi
        simp only [hi] at h ⊢
        split at h0
        · rename_i id off ha
          simp only [ha] at h ⊢
          unfold cellsAt at h0 h ⊢
          split at h0
          · rename_i cs hcs
            simp only [hcs] at h ⊢
            exact ⟨h0.1, h0.2.1, h0.2.2.1, fun o ho => (h o ho).2.2.2⟩
          · exact h0.elim
        · exact h0.elim
      · exact h0.elim
def isDetAt (P : Program) (pu : Pures) (ops : Array Oper) (i : Nat) : Bool := match ops[i]? with | some o => isDet P pu o.op | none => false
/-- Do these orders stand for all? -/
def okOrd (P : Program) (pu : Pures) (ops : Array Oper) : Nat → Array Bool → List (List Nat) → Bool
  | 0, listed, os => (Region.ready .any ops listed).isEmpty && os.any (·.isEmpty)
  | f + 1, listed, os =>
    let rs := Region.ready .any ops listed
    if rs.isEmpty then os.any (·.isEmpty)
    else
      match os with
      | (i :: _) :: _ =>
        (os.all (headIs i) && rs.contains i && freeS P pu ops listed i && okOrd P pu ops f (listed.setIfInBounds i true) (os.map List.tail)) ||
        rs.all fun i => match os.filter (headIs i) with
          | [] => false
          | [o] => okOrd P pu ops f (listed.setIfInBounds i true) [o.tail]
          | o1 :: o2 :: os' => isDetAt P pu ops i && okOrd P pu ops f (listed.setIfInBounds i true) ((o1 :: o2 :: os').map List.tail)
      | _ => false

theorem okOrd_sound {X : Steer} {ops : Array Oper} {K : Regs → Heap → Prop} : ∀ (f : Nat) (listed : Array Bool) (os : List (List Nat)) (r : Regs) (H : Heap), okOrd P X.pure ops f listed os = true →
    (∀ o ∈ os, aops P X ops.toList o r H K) → aAny P X ops f listed r H K := by
  intro f
  induction f with
  | zero =>
    intro listed os r H hok hos
    simp only [okOrd, Bool.and_eq_true, List.isEmpty_iff, List.any_eq_true] at hok
    obtain ⟨h1, o, ho, h2⟩ := hok
    subst h2
    exact ⟨h1, hos _ ho⟩
  | succ f ih =>
    intro listed os r H hok hos
    simp only [okOrd] at hok
    split at hok
    · rename_i hrs
      simp only [List.any_eq_true, List.isEmpty_iff] at hok hrs
      obtain ⟨o, ho, h2⟩ := hok
      subst h2
      exact ⟨fun _ => hos _ ho, by rw [hrs]; simp⟩
    · rename_i hrs
      split at hok
      · rename_i i o0 os'
        rw [Bool.or_eq_true] at hok
        rcases hok with hok | hok
        · simp only [Bool.and_eq_true] at hok
          obtain ⟨⟨⟨h1, h2⟩, h4⟩, h5⟩ := hok
          unfold freeS at h4
          split at h4
          · cases h4
          · rename_i oi hoi
            rw [Bool.and_eq_true, Bool.and_eq_true, decide_eq_true_eq] at h4
            obtain ⟨⟨h3, hdl⟩, h4⟩ := h4
            rw [List.all_eq_true] at h4
            have hall : ∀ o ∈ (i :: o0) :: os', o = i :: o.tail := fun o ho => headIs_cons (by rw [List.all_eq_true] at h1; exact h1 o ho)
            have one : ∀ o ∈ (i :: o0) :: os', wantedA ops.toList r oi.guard (aop P X.pure (msOf X oi.dst) r H oi.op fun v H' => aops P X ops.toList o.tail (put r oi.dst v) H' K) (aops P X ops.toList o.tail (put r oi.dst (.tup [])) H K) := fun o ho => by
              have h := hos o ho
              rw [hall o ho] at h
              unfold aops at h
              rw [Array.getElem?_toList, hoi] at h
              exact h
            -- its value
            have hz : ∃ z, Val P X.pure ops oi z r H ∧ (isPop P X.pure oi.op = true → ValP P X.pure ops oi z r) ∧ ∀ o ∈ (i :: o0) :: os', aops P X ops.toList o.tail (put r oi.dst z) H K := by
              have hw := one _ (List.mem_cons_self ..)
              unfold wantedA at hw one
              unfold Val ValP wantedA
              cases hg : oi.guard with
              | none =>
                simp only [hg] at hw one ⊢
                obtain ⟨z, hz⟩ := still_val h3 hw
                refine ⟨z, fun ms K => hz ms K, fun hp => ⟨hp, ?_⟩, fun o ho => (hz _ _).1 (one o ho)⟩
                obtain ⟨z', z1, z2⟩ := isPop_sound hp hw
                have := (hz (msOf X oi.dst) (fun v _ => v = z')).1 (by rw [aop_isPop hp, z1]; exact rfl)
                rw [this]; exact z1
              | some gw =>
                obtain ⟨g, want⟩ := gw
                simp only [hg] at hw one ⊢
                split at hw
                · rename_i d hd
                  simp only [hd] at one
                  split at hw
                  · rename_i b hb
                    simp only [hb] at one
                    by_cases hbw : b = want
                    · simp only [hbw, if_true] at hw one ⊢
                      obtain ⟨z, hz⟩ := still_val h3 hw
                      refine ⟨z, fun ms K => hz ms K, fun hp => ⟨hp, ?_⟩, fun o ho => (hz _ _).1 (one o ho)⟩
                      obtain ⟨z', z1, z2⟩ := isPop_sound hp hw
                      have := (hz (msOf X oi.dst) (fun v _ => v = z')).1 (by rw [aop_isPop hp, z1]; exact rfl)
                      rw [this]; exact z1
                    · simp only [hbw, if_false] at hw one ⊢
                      exact ⟨_, rfl, fun _ => rfl, one⟩
                  · rename_i hb
                    simp only [hb] at one
                    exact ⟨_, rfl, fun _ => rfl, one⟩
                  · exact hw.elim
                · exact hw.elim
            obtain ⟨z, z1, z2, z3⟩ := hz
            refine aAny_first (z := z) hoi (fun j => (desc ops i).testBit j) f listed r H (fun j hDj hne => ?_) (fun j oj hj hne hun hno => ?_) (by simpa using h2) z1 (ih _ _ _ H h5 (fun o ho => ?_))
            · have hjs : j < ops.size := by
                rcases Nat.lt_or_ge j ops.size with h' | h'
                · exact h'
                · have : desc ops i < 2 ^ j := Nat.lt_of_lt_of_le hdl (by rw [Nat.shiftLeft_eq, Nat.one_mul]; exact Nat.pow_le_pow_right (by omega) h')
                  rw [Nat.testBit_lt_two_pow this] at hDj
                  cases hDj
              have := h4 j (by rw [List.mem_range]; exact hjs)
              have hj : ops[j]? = some ops[j] := Array.getElem?_eq_getElem hjs
              simp only [hj, Bool.or_eq_true, beq_iff_eq, hne, false_or, hDj, if_true, Bool.and_eq_true, Bool.not_eq_true'] at this
              obtain ⟨t1, t2⟩ := this
              obtain ⟨e, he, hb⟩ := Array.any_eq_true'.1 t2
              rw [Bool.and_eq_true] at hb
              exact ⟨t1, _, hj, e, he, hb.1, hb.2⟩
            · have := h4 j (by rw [List.mem_range]; exact (Array.getElem?_eq_some_iff.1 hj).1)
              simp only [hj, Bool.or_eq_true, beq_iff_eq, hne, false_or, hno, Bool.false_eq_true, if_false, hun, Bool.and_eq_true] at this
              refine ⟨this.1, ?_⟩
              rcases this.2 with (h | h) | h
              · exact .inl (z2 h)
              · exact .inr (.inl h)
              · exact .inr (.inr ⟨h3, h⟩)
            · obtain ⟨o', ho', rfl⟩ := List.mem_map.1 ho
              exact z3 o' ho'
        · rw [List.all_eq_true] at hok
          refine ⟨fun h0 => absurd (by simp [h0]) hrs, fun j hj => ?_⟩
          have hj2 := hok j hj
          split at hj2
          · cases hj2
          · rename_i o hfil
            have hmem : o ∈ ((i :: o0) :: os').filter (headIs j) := by rw [hfil]; exact List.mem_cons_self ..
            rw [List.mem_filter] at hmem
            have h := hos o hmem.1
            rw [headIs_cons hmem.2] at h
            unfold aops at h
            unfold aopI
            rw [Array.getElem?_toList] at h
            split at h
            · rename_i oj hoj
              try rw [hoj]
              have goOn : ∀ r' H', aops P X ops.toList o.tail r' H' K → aAny P X ops f (listed.setIfInBounds j true) r' H' K := fun r' H' ha => ih _ _ _ H' hj2 (fun o' ho' => by
                rw [List.mem_singleton] at ho'; subst ho'; exact ha)
              exact wantedA_mono (fun h => aop_mono (fun v H' hh => goOn _ _ hh) h) (fun h => goOn _ _ h) h
            · exact h.elim
          · rename_i o1 o2 os2 hfil
            rw [Bool.and_eq_true] at hj2
            obtain ⟨hdet, hj2⟩ := hj2
            unfold isDetAt at hdet
            split at hdet
            · rename_i oj hoj
              have hmem : ∀ o ∈ o1 :: o2 :: os2, o ∈ (i :: o0) :: os' ∧ headIs j o = true := fun o ho => by
                rw [← hfil] at ho
                exact List.mem_filter.1 ho
              have one : ∀ o ∈ o1 :: o2 :: os2, wantedA ops.toList r oj.guard (aop P X.pure (msOf X oj.dst) r H oj.op fun v H' => aops P X ops.toList o.tail (put r oj.dst v) H' K) (aops P X ops.toList o.tail (put r oj.dst (.tup [])) H K) := fun o ho => by
                have h := hos o (hmem o ho).1
                rw [headIs_cons (hmem o ho).2] at h
                unfold aops at h
                rw [Array.getElem?_toList, hoj] at h
                exact h
              have goOn : ∀ r' H', (∀ o ∈ o1 :: o2 :: os2, aops P X ops.toList o.tail r' H' K) → aAny P X ops f (listed.setIfInBounds j true) r' H' K := fun r' H' ha => ih _ _ _ H' hj2 (fun o' ho' => by
                obtain ⟨o, ho, rfl⟩ := List.mem_map.1 ho'
                exact ha o ho)
              unfold aopI
              try rw [hoj]
              have h0 := one o1 (List.mem_cons_self ..)
              unfold wantedA at h0 one ⊢
              cases hg : oj.guard with
              | none =>
                simp only [hg] at h0 one ⊢
                exact aop_mono (fun v H' hh => goOn _ _ hh) (det_and hdet (by simp) one)
              | some gw =>
                obtain ⟨g, want⟩ := gw
                simp only [hg] at h0 one ⊢
                split at h0
                · rename_i d hd
                  simp only [hd] at one ⊢
                  split at h0
                  · rename_i b hb
                    simp only [hb] at one ⊢
                    by_cases hbw : b = want
                    · simp only [hbw, if_true] at h0 one ⊢
                      exact aop_mono (fun v H' hh => goOn _ _ hh) (det_and hdet (by simp) one)
                    · simp only [hbw, if_false] at h0 one ⊢
                      exact goOn _ _ one
                  · rename_i hb
                    simp only [hb] at one ⊢
                    exact goOn _ _ one
                  · exact h0.elim
                · exact h0.elim
            · cases hdet
      · cases hok
/-! ### Orders as a tree -/
theorem free_any {X : Steer} {ops : Array Oper} {K R : Regs → Heap → Prop} {i f : Nat} {listed : Array Bool} {r : Regs} {H : Heap} (h4 : freeS P X.pure ops listed i = true) (h2 : (Region.ready .any ops listed).contains i = true)
    (h : aopI P X ops i R r H) (hR : ∀ oi z, ops[i]? = some oi → R (put r oi.dst z) H → aAny P X ops f (listed.setIfInBounds i true) (put r oi.dst z) H K) : aAny P X ops (f + 1) listed r H K := by
  unfold freeS at h4
  split at h4
  · cases h4
  · rename_i oi hoi
    rw [Bool.and_eq_true, Bool.and_eq_true, decide_eq_true_eq] at h4
    obtain ⟨⟨h3, hdl⟩, h4⟩ := h4
    rw [List.all_eq_true] at h4
    have one := h
    unfold aopI at one
    simp only [hoi] at one
    -- its value
    have hz : ∃ z, Val P X.pure ops oi z r H ∧ (isPop P X.pure oi.op = true → ValP P X.pure ops oi z r) ∧ R (put r oi.dst z) H := by
      have hw := one
      unfold wantedA at hw one
      unfold Val ValP wantedA
      cases hg : oi.guard with
      | none =>
        simp only [hg] at hw one ⊢
        obtain ⟨z, hz⟩ := still_val h3 hw
        refine ⟨z, fun ms K => hz ms K, fun hp => ⟨hp, ?_⟩, (hz _ _).1 one⟩
        obtain ⟨z', z1, z2⟩ := isPop_sound hp hw
        have := (hz (msOf X oi.dst) (fun v _ => v = z')).1 (by rw [aop_isPop hp, z1]; exact rfl)
        rw [this]; exact z1
      | some gw =>
        obtain ⟨g, want⟩ := gw
        simp only [hg] at hw one ⊢
        split at hw
        · rename_i d hd
          simp only [hd] at one
          split at hw
          · rename_i b hb
            simp only [hb] at one
            by_cases hbw : b = want
            · simp only [hbw, if_true] at hw one ⊢
              obtain ⟨z, hz⟩ := still_val h3 hw
              refine ⟨z, fun ms K => hz ms K, fun hp => ⟨hp, ?_⟩, (hz _ _).1 one⟩
              obtain ⟨z', z1, z2⟩ := isPop_sound hp hw
              have := (hz (msOf X oi.dst) (fun v _ => v = z')).1 (by rw [aop_isPop hp, z1]; exact rfl)
              rw [this]; exact z1
            · simp only [hbw, if_false] at hw one ⊢
              exact ⟨_, rfl, fun _ => rfl, one⟩
          · rename_i hb
            simp only [hb] at one
            exact ⟨_, rfl, fun _ => rfl, one⟩
          · exact hw.elim
        · exact hw.elim
    obtain ⟨z, z1, z2, z3⟩ := hz
    refine aAny_first (z := z) hoi (fun j => (desc ops i).testBit j) f listed r H (fun j hDj hne => ?_) (fun j oj hj hne hun hno => ?_) (by simpa using h2) z1 (hR oi z hoi z3)
    · have hjs : j < ops.size := by
        rcases Nat.lt_or_ge j ops.size with h' | h'
        · exact h'
        · have : desc ops i < 2 ^ j := Nat.lt_of_lt_of_le hdl (by rw [Nat.shiftLeft_eq, Nat.one_mul]; exact Nat.pow_le_pow_right (by omega) h')
          rw [Nat.testBit_lt_two_pow this] at hDj
          cases hDj
      have := h4 j (by rw [List.mem_range]; exact hjs)
      have hj : ops[j]? = some ops[j] := Array.getElem?_eq_getElem hjs
      simp only [hj, Bool.or_eq_true, beq_iff_eq, hne, false_or, hDj, if_true, Bool.and_eq_true, Bool.not_eq_true'] at this
      obtain ⟨t1, t2⟩ := this
      obtain ⟨e, he, hb⟩ := Array.any_eq_true'.1 t2
      rw [Bool.and_eq_true] at hb
      exact ⟨t1, _, hj, e, he, hb.1, hb.2⟩
    · have := h4 j (by rw [List.mem_range]; exact (Array.getElem?_eq_some_iff.1 hj).1)
      simp only [hj, Bool.or_eq_true, beq_iff_eq, hne, false_or, hno, Bool.false_eq_true, if_false, hun, Bool.and_eq_true] at this
      refine ⟨this.1, ?_⟩
      rcases this.2 with (h | h) | h
      · exact .inl (z2 h)
      · exact .inr (.inl h)
      · exact .inr (.inr ⟨h3, h⟩)
def _root_.Go.Abs.OT.find (j : Nat) : OT → Option OT
  | .done => none
  | .any => none
  | .seg [] t => t.find j
  | .seg (i :: l) t => if i = j then some (.seg l t) else none
  | .or a b => match a.find j with | some t => some t | none => b.find j
def _root_.Go.Abs.OT.top : OT → Option Nat
  | .seg [] t => t.top
  | .seg (i :: _) _ => some i
  | _ => none
def _root_.Go.Abs.OT.isDone : OT → Bool
  | .done => true
  | .seg [] t => t.isDone
  | _ => false
theorem aOT_find {X : Steer} {ops : Array Oper} {K : Regs → Heap → Prop} {r : Regs} {H : Heap} {j : Nat} : ∀ {t t' : OT}, aOT P X ops.toList t K r H → t.find j = some t' → aopI P X ops j (fun r' H' => aOT P X ops.toList t' K r' H') r H := by
  intro t
  induction t with
  | done => intro t' _ h; cases h
  | any => intro t' _ h; cases h
  | seg l t ih =>
    intro t' h hf
    cases l with
    | nil => exact ih h hf
    | cons i l =>
      simp only [OT.find] at hf
      split at hf
      · rename_i he
        subst he
        cases hf
        have h : aops P X ops.toList (i :: l) r H (fun r' H' => aOT P X ops.toList t K r' H') := h
        unfold aops at h
        unfold aopI
        rw [Array.getElem?_toList] at h
        split at h
        · rename_i oj hoj
          try rw [hoj]
          exact h
        · exact h.elim
      · cases hf
  | or a b iha ihb =>
    intro t' h hf
    simp only [OT.find] at hf
    split at hf
    · rename_i he
      cases hf
      exact iha h.1 he
    · exact ihb h.2 hf
theorem aOT_done {X : Steer} {ops : Array Oper} {K : Regs → Heap → Prop} {r : Regs} {H : Heap} : ∀ {t : OT}, aOT P X ops.toList t K r H → t.isDone = true → K r H := by
  intro t
  induction t with
  | done => exact fun h _ => h
  | any => intro _ hd; cases hd
  | seg l t ih =>
    intro h hd
    cases l with
    | nil => exact ih h hd
    | cons i l => cases hd
  | or a b _ _ => intro _ hd; cases hd
theorem aopI_mono {X : Steer} {ops : Array Oper} {K K' : Regs → Heap → Prop} {r : Regs} {H : Heap} {j : Nat} (hK : ∀ r H, K r H → K' r H) (h : aopI P X ops j K r H) : aopI P X ops j K' r H := by
  unfold aopI at h ⊢
  split at h
  · exact wantedA_mono (fun h => aop_mono (fun v H' hh => hK _ _ hh) h) (fun h => hK _ _ h) h
  · exact h.elim
def okOT (P : Program) (pu : Pures) (ops : Array Oper) : Nat → Array Bool → OT → Bool
  | 0, listed, t => (Region.ready .any ops listed).isEmpty && t.isDone
  | f + 1, listed, t =>
    let rs := Region.ready .any ops listed
    if rs.isEmpty then t.isDone
    else
      (match t.top with
      | some i => rs.contains i && freeS P pu ops listed i && (match t.find i with | some t' => okOT P pu ops f (listed.setIfInBounds i true) t' | none => false)
      | none => false) ||
      rs.all fun i => match t.find i with
        | some t' => okOT P pu ops f (listed.setIfInBounds i true) t'
        | none => false
theorem okOT_sound {X : Steer} {ops : Array Oper} {K : Regs → Heap → Prop} : ∀ (f : Nat) (listed : Array Bool) (t : OT) (r : Regs) (H : Heap), okOT P X.pure ops f listed t = true →
    aOT P X ops.toList t K r H → aAny P X ops f listed r H K := by
  intro f
  induction f with
  | zero =>
    intro listed t r H hok h
    simp only [okOT, Bool.and_eq_true, List.isEmpty_iff] at hok
    exact ⟨hok.1, aOT_done h hok.2⟩
  | succ f ih =>
    intro listed t r H hok h
    simp only [okOT] at hok
    split at hok
    · rename_i hrs
      simp only [List.isEmpty_iff] at hrs
      exact ⟨fun _ => aOT_done h hok, by rw [hrs]; simp⟩
    · rename_i hrs
      rw [Bool.or_eq_true] at hok
      rcases hok with hok | hok
      · split at hok
        · rename_i i hi
          simp only [Bool.and_eq_true] at hok
          obtain ⟨⟨h1, h2⟩, h3⟩ := hok
          split at h3
          · rename_i t' ht
            exact free_any h2 h1 (aOT_find h ht) (fun oi z _ hz => ih _ _ _ H h3 hz)
          · cases h3
        · cases hok
      · rw [List.all_eq_true] at hok
        refine ⟨fun h0 => absurd (by simp [h0]) hrs, fun j hj => ?_⟩
        have hj2 := hok j hj
        split at hj2
        · rename_i t' ht
          exact aopI_mono (fun r' H' hz => ih _ _ _ _ hj2 hz) (aOT_find h ht)
        · cases hj2
end
end Go.Abs
