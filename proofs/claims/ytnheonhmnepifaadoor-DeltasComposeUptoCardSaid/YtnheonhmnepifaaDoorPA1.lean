/- Plain laws: an automaton that reads all parts of a text: what holds of it, and that it stays so when a sign is added. -/
namespace Go.Proofs
set_option linter.unusedSimpArgs false
set_option linter.unusedVariables false
section
variable {α : Type}
/-- 'u' stands in T, and ends at 'e'. -/
def occ (T u : List α) (e : Nat) : Prop := e ≤ T.length ∧ u <:+ T.take e
theorem occ_len {T u : List α} {e : Nat} (h : occ T u e) : u.length ≤ e := by
  have := h.2.length_le
  rw [List.length_take] at this
  omega
theorem occ_le {T u : List α} {e : Nat} (h : occ T u e) : e ≤ T.length := h.1
theorem occ_suf {T u v : List α} {e : Nat} (h : u <:+ v) (hv : occ T v e) : occ T u e := ⟨hv.1, h.trans hv.2⟩
theorem occ_nil {T : List α} {e : Nat} (h : e ≤ T.length) : occ T [] e := ⟨h, List.nil_suffix⟩
theorem suf_of_len {u v w : List α} (hu : u <:+ w) (hv : v <:+ w) (h : u.length ≤ v.length) : u <:+ v := List.suffix_of_suffix_length_le hu hv h
theorem occ_comp {T u v : List α} {e : Nat} (hu : occ T u e) (hv : occ T v e) (h : u.length ≤ v.length) : u <:+ v := suf_of_len hu.2 hv.2 h
theorem occ_full {T u : List α} : occ T u T.length ↔ u <:+ T := by
  unfold occ
  rw [List.take_length]
  exact ⟨fun h => h.2, fun h => ⟨Nat.le_refl _, h⟩⟩
theorem suf_snoc {u v : List α} {a b : α} : u ++ [a] <:+ v ++ [b] ↔ a = b ∧ u <:+ v := by
  constructor
  · rintro ⟨t, ht⟩
    rw [← List.append_assoc] at ht
    have := List.append_inj_right' ht rfl
    have h2 := List.append_inj_left' ht rfl
    exact ⟨by simpa using this, ⟨t, h2⟩⟩
  · rintro ⟨rfl, ⟨t, rfl⟩⟩
    exact ⟨t, by simp⟩
theorem suf_snoc_cases {u v : List α} {b : α} (h : u <:+ v ++ [b]) : u = [] ∨ ∃ u', u = u' ++ [b] ∧ u' <:+ v := by
  rcases List.eq_nil_or_concat u with rfl | ⟨u', a, rfl⟩
  · exact .inl rfl
  · rw [List.concat_eq_append] at *
    obtain ⟨rfl, h2⟩ := suf_snoc.1 h
    exact .inr ⟨u', rfl, h2⟩
theorem suf_eq {u v : List α} (h : u <:+ v) (hl : v.length ≤ u.length) : u = v := h.eq_of_length_le hl
theorem take_snoc {T : List α} {e : Nat} {c : α} (h : T[e]? = some c) : T.take (e + 1) = T.take e ++ [c] := by
  rw [List.take_add_one, h]; rfl
/-- Where 'u' and a sign behind it stand. -/
theorem occ_snoc {T u : List α} {c : α} {e : Nat} : occ T (u ++ [c]) e ↔ ∃ e', e = e' + 1 ∧ occ T u e' ∧ T[e']? = some c := by
  constructor
  · intro h
    have hl := occ_len h
    rw [List.length_append, List.length_singleton] at hl
    obtain ⟨e', rfl⟩ : ∃ e', e = e' + 1 := ⟨e - 1, by omega⟩
    have hlt : e' < T.length := by have := h.1; omega
    have hg : T[e']? = some T[e'] := List.getElem?_eq_getElem hlt
    have h2 := h.2
    rw [take_snoc hg] at h2
    obtain ⟨rfl, h3⟩ := suf_snoc.1 h2
    exact ⟨e', rfl, ⟨by omega, h3⟩, hg⟩
  · rintro ⟨e', rfl, h1, h2⟩
    have hlt : e' < T.length := (List.getElem?_eq_some_iff.1 h2).1
    refine ⟨by omega, ?_⟩
    rw [take_snoc h2]
    exact suf_snoc.2 ⟨rfl, h1.2⟩
/-- A sign more at the end of the text. -/
theorem occ_app {T u : List α} {c : α} {e : Nat} : occ (T ++ [c]) u e ↔ occ T u e ∨ (e = T.length + 1 ∧ u <:+ T ++ [c]) := by
  constructor
  · rintro ⟨h1, h2⟩
    rw [List.length_append, List.length_singleton] at h1
    by_cases h : e ≤ T.length
    · rw [List.take_append_of_le_length h] at h2
      exact .inl ⟨h, h2⟩
    · have e1 : e = T.length + 1 := by omega
      subst e1
      rw [List.take_of_length_le (by simp)] at h2
      exact .inr ⟨rfl, h2⟩
  · rintro (⟨h1, h2⟩ | ⟨rfl, h2⟩)
    · refine ⟨by simp; omega, ?_⟩
      rw [List.take_append_of_le_length h1]
      exact h2
    · exact ⟨by simp, by rw [List.take_of_length_le (by simp)]; exact h2⟩
theorem occ_mono {T u : List α} {c : α} {e : Nat} (h : occ T u e) : occ (T ++ [c]) u e := occ_app.2 (.inl h)
/-- 'u' is one of the parts that 'v' stands for: its end, and wherever it is, 'v' is. -/
def Of (T v u : List α) : Prop := u <:+ v ∧ ∀ e, occ T u e → occ T v e
theorem Of.self (T v : List α) : Of T v v := ⟨List.suffix_refl v, fun _ h => h⟩
/-- States: how long, the end of the first place, the shorter ends' state, edges. -/
structure Au (α : Type) where
  n : Nat
  L : Nat → Nat
  E : Nat → Nat
  K : Nat → Option Nat
  nx : Nat → α → Option Nat
structure Inv (T : List α) (A : Au α) (str : Nat → List α) : Prop where
  pos : 0 < A.n
  len : ∀ s, s < A.n → (str s).length = A.L s
  at_ : ∀ s, s < A.n → occ T (str s) (A.E s)
  first : ∀ s, s < A.n → ∀ e, occ T (str s) e → A.E s ≤ e
  closed : ∀ s, s < A.n → ∀ a, ¬ ∀ e, occ T (str s) e → occ T (a :: str s) e
  inj : ∀ s t, s < A.n → t < A.n → str s = str t → s = t
  cover : ∀ u e, occ T u e → ∃ s, s < A.n ∧ Of T (str s) u
  root : str 0 = [] ∧ A.K 0 = none
  link : ∀ s, s < A.n → s ≠ 0 → ∃ p, A.K s = some p ∧ p < A.n ∧ A.L p < A.L s ∧ str p <:+ str s ∧ ∀ u, u <:+ str s → A.L p < u.length → Of T (str s) u
  enone : ∀ s, s < A.n → ∀ c, A.nx s c = none → ∀ e, ¬ occ T (str s ++ [c]) e
  esome : ∀ s, s < A.n → ∀ c t, A.nx s c = some t → t < A.n ∧ (∃ e, occ T (str s ++ [c]) e) ∧ Of T (str t) (str s ++ [c])
theorem suf_strict {u v : List α} (h : u <:+ v) (hl : u.length < v.length) : ∃ a, a :: u <:+ v := by
  obtain ⟨t, rfl⟩ := h
  rcases List.eq_nil_or_concat t with rfl | ⟨t', a, rfl⟩
  · simp at hl
  · exact ⟨a, t', by simp⟩
theorem Inv.uniq1 {T : List α} {A : Au α} {str : Nat → List α} (h : Inv T A str) {s t : Nat} (hs : s < A.n) (ht : t < A.n) {u : List α} {e : Nat} (hu : occ T u e) (h1 : Of T (str s) u) (h2 : Of T (str t) u) : ¬ (str s).length < (str t).length := by
  intro hl
  have hsuf := occ_comp (h1.2 e hu) (h2.2 e hu) (by omega)
  obtain ⟨a, ha⟩ := suf_strict hsuf hl
  exact h.closed s hs a fun e' he' => occ_suf ha (h2.2 e' (occ_suf h1.1 he'))
/-- A part has one state. -/
theorem Inv.uniq {T : List α} {A : Au α} {str : Nat → List α} (h : Inv T A str) {s t : Nat} (hs : s < A.n) (ht : t < A.n) {u : List α} {e : Nat} (hu : occ T u e) (h1 : Of T (str s) u) (h2 : Of T (str t) u) : s = t := by
  have n1 := h.uniq1 hs ht hu h1 h2
  have n2 := h.uniq1 ht hs hu h2 h1
  have hsuf := occ_comp (h1.2 e hu) (h2.2 e hu) (by omega)
  exact h.inj s t hs ht (suf_eq hsuf (by omega))
theorem Inv.ext {T : List α} {A : Au α} {str : Nat → List α} {s : Nat} {u : List α} {c : α} {e : Nat} (h1 : Of T (str s) u) (h2 : occ T (u ++ [c]) e) : occ T (str s ++ [c]) e := by
  obtain ⟨e', rfl, h3, h4⟩ := occ_snoc.1 h2
  exact occ_snoc.2 ⟨e', rfl, h1.2 e' h3, h4⟩
/-- Reading on. -/
theorem Inv.read {T : List α} {A : Au α} {str : Nat → List α} (h : Inv T A str) {s : Nat} (hs : s < A.n) {u : List α} (h1 : Of T (str s) u) {c : α} : (A.nx s c = none → ∀ e, ¬ occ T (u ++ [c]) e) ∧ (∀ t, A.nx s c = some t → t < A.n ∧ (∃ e, occ T (u ++ [c]) e) ∧ Of T (str t) (u ++ [c])) := by
  refine ⟨fun hn e he => h.enone s hs c hn e (Inv.ext (A := A) h1 he), fun t ht => ?_⟩
  obtain ⟨h2, ⟨e, he⟩, h3⟩ := h.esome s hs c t ht
  have hsuf : u ++ [c] <:+ str s ++ [c] := suf_snoc.2 ⟨rfl, h1.1⟩
  exact ⟨h2, ⟨e, occ_suf hsuf he⟩, hsuf.trans h3.1, fun e' he' => h3.2 e' (Inv.ext (A := A) h1 he')⟩
/-- The empty text. -/
theorem inv_nil (A : Au α) (hn : A.n = 1) (h1 : A.L 0 = 0) (h2 : A.E 0 = 0) (h3 : A.K 0 = none) (h4 : ∀ c, A.nx 0 c = none) : Inv ([] : List α) A (fun _ => []) := by
  have hz : ∀ s, s < A.n → s = 0 := fun s hs => by omega
  have hno : ∀ (u : List α) e, occ ([] : List α) u e → u = [] ∧ e = 0 := fun u e h => by
    have := occ_le h
    have := occ_len h
    simp at *
    exact ⟨List.eq_nil_of_length_eq_zero (by omega), by omega⟩
  refine ⟨by omega, fun s hs => ?_, fun s hs => ?_, fun s hs e he => ?_, fun s hs a hall => ?_, fun s t hs ht _ => ?_, fun u e hu => ?_, ⟨rfl, h3⟩, fun s hs h => ?_, fun s hs c _ e he => ?_, fun s hs c t ht => ?_⟩
  · rw [hz s hs, h1]; rfl
  · rw [hz s hs, h2]; exact occ_nil (by simp)
  · rw [hz s hs, h2]; omega
  · have := hno _ _ (hall 0 (occ_nil (by simp))); simp at this
  · rw [hz s hs, hz t ht]
  · obtain ⟨rfl, rfl⟩ := hno u e hu
    exact ⟨0, by omega, Of.self _ _⟩
  · exact absurd (hz s hs) h
  · have := hno _ _ he; simp at this
  · rw [hz s hs, h4] at ht; cases ht
/-- What is the longest end of the new text that was there. -/
structure Wd (T : List α) (c : α) (w : List α) : Prop where
  suf : w <:+ T ++ [c]
  occ : ∃ e, occ T w e
  max : ∀ u, u <:+ T ++ [c] → (∃ e, Go.Proofs.occ T u e) → u.length ≤ w.length
/-- What stays of a state when a sign is added: but for one state, that is cut at the length of 'w'. -/
theorem of_keep {T : List α} {A : Au α} {str : Nat → List α} (h : Inv T A str) {c : α} {w : List α} (hw : Wd T c w) {q : Nat} (hq : q < A.n) (hqw : Of T (str q) w) {s : Nat} (hs : s < A.n) {u : List α} (h1 : Of T (str s) u) (hu : ∃ e, occ T u e)
    (hc : s ≠ q ∨ w.length < u.length ∨ str q = w) : Of (T ++ [c]) (str s) u := by
  refine ⟨h1.1, fun e he => ?_⟩
  rcases occ_app.1 he with h2 | ⟨rfl, h2⟩
  · exact occ_mono (h1.2 e h2)
  · have hl := hw.max u h2 hu
    have huw : u <:+ w := suf_of_len h2 hw.suf hl
    obtain ⟨e0, he0⟩ := hw.occ
    have hs0 := h1.2 e0 (occ_suf huw he0)
    refine occ_app.2 (.inr ⟨rfl, ?_⟩)
    by_cases hlen : (str s).length ≤ w.length
    · exact (occ_comp hs0 he0 hlen).trans hw.suf
    · have hws : w <:+ str s := occ_comp he0 hs0 (by omega)
      have hsw : Of T (str s) w := ⟨hws, fun e' he' => h1.2 e' (occ_suf huw he')⟩
      have heq := h.uniq hs hq he0 hsw hqw
      rcases hc with hc | hc | hc
      · exact absurd heq hc
      · omega
      · rw [heq, hc] at hlen; omega
/-- The new text itself stands for its ends that were not there. -/
theorem of_new {T : List α} {c : α} {u : List α} (hu : u <:+ T ++ [c]) (hn : ∀ e, ¬ occ T u e) : Of (T ++ [c]) (T ++ [c]) u := by
  refine ⟨hu, fun e he => ?_⟩
  rcases occ_app.1 he with he | ⟨rfl, _⟩
  · exact absurd he (hn e)
  · exact occ_app.2 (.inr ⟨rfl, List.suffix_refl _⟩)
theorem new_occ {T : List α} {c : α} {e : Nat} (h : occ (T ++ [c]) (T ++ [c]) e) : e = T.length + 1 := by
  have h1 := occ_len h
  have h2 := occ_le h
  simp only [List.length_append, List.length_singleton] at h1 h2
  omega
theorem new_no {T : List α} {c : α} {e : Nat} : ¬ occ T (T ++ [c]) e := fun h => by
  have h1 := occ_len h
  have h2 := occ_le h
  simp only [List.length_append, List.length_singleton] at h1
  omega
/-- Parts that end at the text's end: their states. -/
theorem chain_of {T : List α} {v u : List α} (h : Of T v u) (hu : u <:+ T) : v <:+ T := occ_full.1 (h.2 _ (occ_full.2 hu))
/-- A sign is added, where the longest end that was there has a state of its own. -/
theorem step1 {T : List α} {A A' : Au α} {str str' : Nat → List α} (h : Inv T A str) {c : α} {w : List α} (hw : Wd T c w) {q : Nat} (hq : q < A.n) (hqw : str q = w)
    (hn : A'.n = A.n + 1) (hs0 : ∀ s, s < A.n → str' s = str s) (hsn : str' A.n = T ++ [c])
    (hL : ∀ s, s < A.n → A'.L s = A.L s) (hLn : A'.L A.n = T.length + 1) (hE : ∀ s, s < A.n → A'.E s = A.E s) (hEn : A'.E A.n = T.length + 1)
    (hK : ∀ s, s < A.n → A'.K s = A.K s) (hKn : A'.K A.n = some q)
    (hx1 : ∀ s, s < A.n → str s <:+ T → A.nx s c = none → A'.nx s c = some A.n) (hx2 : ∀ s d, s < A.n → ¬ (d = c ∧ str s <:+ T ∧ A.nx s c = none) → A'.nx s d = A.nx s d) (hxn : ∀ d, A'.nx A.n d = none) : Inv (T ++ [c]) A' str' := by
  have hqo : Of T (str q) w := by rw [hqw]; exact Of.self _ _
  have keep : ∀ s, s < A.n → ∀ u, Of T (str s) u → (∃ e, occ T u e) → Of (T ++ [c]) (str s) u := fun s hs u h1 hu => of_keep h hw hq hqo hs h1 hu (.inr (.inr hqw))
  have split : ∀ s, s < A'.n → s < A.n ∨ s = A.n := fun s hs => by omega
  have hocc : ∀ s, s < A.n → ∃ e, occ T (str s) e := fun s hs => ⟨_, h.at_ s hs⟩
  have hEle : ∀ s, s < A.n → A.E s ≤ T.length := fun s hs => occ_le (h.at_ s hs)
  have hlw : w.length ≤ T.length := by obtain ⟨e, he⟩ := hw.occ; have := occ_len he; have := occ_le he; omega
  refine ⟨by omega, ?_, ?_, ?_, ?_, ?_, ?_, ?_, ?_, ?_, ?_⟩
  · intro s hs
    rcases split s hs with hs | rfl
    · rw [hs0 s hs, hL s hs]; exact h.len s hs
    · rw [hsn, hLn]; simp
  · intro s hs
    rcases split s hs with hs | rfl
    · rw [hs0 s hs, hE s hs]; exact occ_mono (h.at_ s hs)
    · rw [hsn, hEn]; exact occ_app.2 (.inr ⟨rfl, List.suffix_refl _⟩)
  · intro s hs e he
    rcases split s hs with hs | rfl
    · rw [hs0 s hs] at he
      rw [hE s hs]
      rcases occ_app.1 he with he | ⟨rfl, _⟩
      · exact h.first s hs e he
      · have := hEle s hs; omega
    · rw [hsn] at he
      rw [hEn, new_occ he]; exact Nat.le_refl _
  · intro s hs a hall
    rcases split s hs with hs | rfl
    · rw [hs0 s hs] at hall
      refine h.closed s hs a fun e he => ?_
      rcases occ_app.1 (hall e (occ_mono he)) with h2 | ⟨rfl, _⟩
      · exact h2
      · have := occ_le he; omega
    · rw [hsn] at hall
      have h1 := hall (T.length + 1) (occ_app.2 (.inr ⟨rfl, List.suffix_refl _⟩))
      have h2 := occ_len h1
      simp only [List.length_cons, List.length_append, List.length_singleton, List.length_nil] at h2
      omega
  · intro s t hs ht he
    rcases split s hs with hs | rfl <;> rcases split t ht with ht | rfl
    · rw [hs0 s hs, hs0 t ht] at he; exact h.inj s t hs ht he
    · rw [hs0 s hs, hsn] at he; have := h.at_ s hs; rw [he] at this; exact absurd this new_no
    · rw [hs0 t ht, hsn] at he; have := h.at_ t ht; rw [← he] at this; exact absurd this new_no
    · rfl
  · intro u e he
    by_cases hu : ∃ e, occ T u e
    · obtain ⟨e0, he0⟩ := hu
      obtain ⟨s, hs, h1⟩ := h.cover u e0 he0
      exact ⟨s, by omega, by rw [hs0 s hs]; exact keep s hs u h1 ⟨e0, he0⟩⟩
    · rcases occ_app.1 he with h1 | ⟨rfl, h1⟩
      · exact absurd ⟨e, h1⟩ hu
      · exact ⟨A.n, by omega, by rw [hsn]; exact of_new h1 fun e h2 => hu ⟨e, h2⟩⟩
  · exact ⟨by rw [hs0 0 h.pos]; exact h.root.1, by rw [hK 0 h.pos]; exact h.root.2⟩
  · intro s hs hne
    rcases split s hs with hs | rfl
    · obtain ⟨p, h1, h2, h3, h4, h5⟩ := h.link s hs hne
      refine ⟨p, by rw [hK s hs]; exact h1, by omega, by rw [hL p h2, hL s hs]; exact h3, by rw [hs0 p h2, hs0 s hs]; exact h4, fun u hu hl => ?_⟩
      rw [hs0 s hs] at hu ⊢
      rw [hL p h2] at hl
      obtain ⟨e, he⟩ := hocc s hs
      exact keep s hs u (h5 u hu hl) ⟨e, occ_suf hu he⟩
    · refine ⟨q, hKn, by omega, by rw [hL q hq, hLn, ← h.len q hq, hqw]; omega, by rw [hs0 q hq, hsn, hqw]; exact hw.suf, fun u hu hl => ?_⟩
      rw [hsn] at hu ⊢
      rw [hL q hq, ← h.len q hq, hqw] at hl
      refine of_new hu fun e he => ?_
      have := hw.max u hu ⟨e, he⟩
      omega
  · intro s hs d hd e he
    rcases split s hs with hs | rfl
    · rw [hs0 s hs] at he
      by_cases hc : d = c ∧ str s <:+ T ∧ A.nx s c = none
      · rw [hc.1, hx1 s hs hc.2.1 hc.2.2] at hd; cases hd
      · rw [hx2 s d hs hc] at hd
        rcases occ_app.1 he with h1 | ⟨rfl, h1⟩
        · exact h.enone s hs d hd e h1
        · obtain ⟨rfl, h2⟩ := suf_snoc.1 h1
          exact hc ⟨rfl, h2, hd⟩
    · rw [hsn] at he
      have h1 := occ_len he
      have h2 := occ_le he
      simp only [List.length_append, List.length_singleton] at h1 h2
      omega
  · intro s hs d t ht
    rcases split s hs with hs | rfl
    · rw [hs0 s hs]
      by_cases hc : d = c ∧ str s <:+ T ∧ A.nx s c = none
      · obtain ⟨rfl, h1, h2⟩ := hc
        rw [hx1 s hs h1 h2] at ht
        cases ht
        have hsuf : str s ++ [d] <:+ T ++ [d] := suf_snoc.2 ⟨rfl, h1⟩
        exact ⟨by omega, ⟨T.length + 1, occ_app.2 (.inr ⟨rfl, hsuf⟩)⟩, by rw [hsn]; exact of_new hsuf (h.enone s hs d h2)⟩
      · rw [hx2 s d hs hc] at ht
        obtain ⟨h1, ⟨e, he⟩, h3⟩ := h.esome s hs d t ht
        exact ⟨by omega, ⟨e, occ_mono he⟩, by rw [hs0 t h1]; exact keep t h1 _ h3 ⟨e, he⟩⟩
    · rw [hxn d] at ht; cases ht
end
end Go.Proofs
