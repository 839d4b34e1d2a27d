/- Plain laws: the automaton, where a state is cut in two. -/
import Derived.Test.YtnheonhmnepifaaDoorPA1
namespace Go.Proofs
set_option linter.unusedSimpArgs false
set_option linter.unusedVariables false
section
variable {α : Type}
/-- What the cut state's shorter parts become. -/
theorem of_half {T : List α} {v w u : List α} {c : α} (hw : Wd T c w) (hv : Of T v w) (h1 : Of T v u) (hu : ∃ e, occ T u e) (hl : u.length ≤ w.length) : Of (T ++ [c]) w u := by
  obtain ⟨e0, he0⟩ := hu
  have huw : u <:+ w := suf_of_len h1.1 hv.1 hl
  refine ⟨huw, fun e he => ?_⟩
  rcases occ_app.1 he with h2 | ⟨rfl, h2⟩
  · exact occ_mono (occ_suf hv.1 (h1.2 e h2))
  · exact occ_app.2 (.inr ⟨rfl, hw.suf⟩)
/-- A sign is added, where the longest end that was there, 'w', has the state of a longer part: it gets a state of its own, 'm'. -/
theorem step2 {T : List α} {A A' : Au α} {str str' : Nat → List α} (h : Inv T A str) {c : α} {w : List α} (hw : Wd T c w) {q : Nat} (hq : q < A.n) (hqo : Of T (str q) w) (hlt : w.length < (str q).length)
    (hn : A'.n = A.n + 2) (hs0 : ∀ s, s < A.n → str' s = str s) (hsn : str' A.n = T ++ [c]) (hsm : str' (A.n + 1) = w)
    (hL : ∀ s, s < A.n → A'.L s = A.L s) (hLn : A'.L A.n = T.length + 1) (hLm : A'.L (A.n + 1) = w.length)
    (hE : ∀ s, s < A.n → A'.E s = A.E s) (hEn : A'.E A.n = T.length + 1) (hEm : A'.E (A.n + 1) = A.E q)
    (hK : ∀ s, s < A.n → s ≠ q → A'.K s = A.K s) (hKq : A'.K q = some (A.n + 1)) (hKn : A'.K A.n = some (A.n + 1)) (hKm : A'.K (A.n + 1) = A.K q)
    (hx1 : ∀ s, s < A.n → str s <:+ T → A.nx s c = none → A'.nx s c = some A.n) (hx2 : ∀ s, s < A.n → str s <:+ T → A.nx s c = some q → A'.nx s c = some (A.n + 1))
    (hx3 : ∀ s d, s < A.n → ¬ (d = c ∧ str s <:+ T ∧ (A.nx s c = none ∨ A.nx s c = some q)) → A'.nx s d = A.nx s d) (hxn : ∀ d, A'.nx A.n d = none)
    (hm1 : str q <:+ T → A.nx q c = none → A'.nx (A.n + 1) c = some A.n) (hm2 : ∀ d, ¬ (d = c ∧ str q <:+ T ∧ A.nx q c = none) → A'.nx (A.n + 1) d = A.nx q d) : Inv (T ++ [c]) A' str' := by
  obtain ⟨ew, hew⟩ := hw.occ
  have keep : ∀ s, s < A.n → ∀ u, Of T (str s) u → (∃ e, occ T u e) → (s ≠ q ∨ w.length < u.length) → Of (T ++ [c]) (str s) u := fun s hs u h1 hu hc => of_keep h hw hq hqo hs h1 hu (by rcases hc with hc | hc; exact .inl hc; exact .inr (.inl hc))
  have half : ∀ u, Of T (str q) u → (∃ e, occ T u e) → u.length ≤ w.length → Of (T ++ [c]) w u := fun u h1 hu hl => of_half hw hqo h1 hu hl
  have split : ∀ s, s < A'.n → s < A.n ∨ s = A.n ∨ s = A.n + 1 := fun s hs => by omega
  have hocc : ∀ s, s < A.n → ∃ e, occ T (str s) e := fun s hs => ⟨_, h.at_ s hs⟩
  have hEle : ∀ s, s < A.n → A.E s ≤ T.length := fun s hs => occ_le (h.at_ s hs)
  have hlw : w.length ≤ T.length := by have := occ_len hew; have := occ_le hew; omega
  have hwq : ∀ e, occ T w e → occ T (str q) e := hqo.2
  have hq0 : q ≠ 0 := fun e => by rw [e, h.root.1] at hlt; simp at hlt
  obtain ⟨p0, hp1, hp2, hp3, hp4, hp5⟩ := h.link q hq hq0
  have hp0w : A.L p0 < w.length := by
    by_cases hc : A.L p0 < w.length
    · exact hc
    · have hw0 : w <:+ str p0 := suf_of_len hqo.1 hp4 (by rw [h.len p0 hp2]; omega)
      have e := h.uniq hp2 hq hew ⟨hw0, fun e he => occ_suf hp4 (hwq e he)⟩ hqo
      rw [e] at hp3; omega
  have hnew : ∀ s, s < A.n → str s ≠ w := fun s hs e => by
    have hso : Of T (str s) w := by rw [e]; exact Of.self _ _
    have := h.uniq hs hq hew hso hqo
    subst this
    rw [e] at hlt; omega
  have hwo : occ (T ++ [c]) w (T.length + 1) := occ_app.2 (.inr ⟨rfl, hw.suf⟩)
  refine ⟨by omega, ?_, ?_, ?_, ?_, ?_, ?_, ?_, ?_, ?_, ?_⟩
  · intro s hs
    rcases split s hs with hs | rfl | rfl
    · rw [hs0 s hs, hL s hs]; exact h.len s hs
    · rw [hsn, hLn]; simp
    · rw [hsm, hLm]
  · intro s hs
    rcases split s hs with hs | rfl | rfl
    · rw [hs0 s hs, hE s hs]; exact occ_mono (h.at_ s hs)
    · rw [hsn, hEn]; exact occ_app.2 (.inr ⟨rfl, List.suffix_refl _⟩)
    · rw [hsm, hEm]; exact occ_mono (occ_suf hqo.1 (h.at_ q hq))
  · intro s hs e he
    rcases split s hs with hs | rfl | rfl
    · rw [hs0 s hs] at he
      rw [hE s hs]
      rcases occ_app.1 he with h1 | ⟨rfl, _⟩
      · exact h.first s hs e h1
      · have := hEle s hs; omega
    · rw [hsn] at he
      rw [hEn, new_occ he]; exact Nat.le_refl _
    · rw [hsm] at he
      rw [hEm]
      rcases occ_app.1 he with h1 | ⟨rfl, _⟩
      · exact h.first q hq e (hwq e h1)
      · have := hEle q hq; omega
  · intro s hs a hall
    rcases split s hs with hs | rfl | rfl
    · rw [hs0 s hs] at hall
      refine h.closed s hs a fun e he => ?_
      rcases occ_app.1 (hall e (occ_mono he)) with h2 | ⟨rfl, _⟩
      · exact h2
      · have := occ_le he; omega
    · rw [hsn] at hall
      have h1 := hall (T.length + 1) (occ_app.2 (.inr ⟨rfl, List.suffix_refl _⟩))
      have h2 := occ_len h1
      simp only [List.length_cons, List.length_append, List.length_singleton, List.length_nil] at h2
      omega
    · rw [hsm] at hall
      have h1 := hall _ hwo
      have h2 : a :: w <:+ T ++ [c] := by
        rcases occ_app.1 h1 with h3 | ⟨_, h3⟩
        · have := occ_le h3; omega
        · exact h3
      have h3 : occ T (a :: w) ew := by
        rcases occ_app.1 (hall ew (occ_mono hew)) with h4 | ⟨e, _⟩
        · exact h4
        · have := occ_le hew; omega
      have := hw.max _ h2 ⟨ew, h3⟩
      simp only [List.length_cons] at this
      omega
  · intro s t hs ht he
    have a1 : ∀ s, s < A.n → str s ≠ T ++ [c] := fun s hs e => by have := h.at_ s hs; rw [e] at this; exact new_no this
    have a2 : w ≠ T ++ [c] := fun e => by rw [e] at hew; exact new_no hew
    rcases split s hs with hs | rfl | rfl <;> rcases split t ht with ht | rfl | rfl
    · rw [hs0 s hs, hs0 t ht] at he; exact h.inj s t hs ht he
    · rw [hs0 s hs, hsn] at he; exact absurd he (a1 s hs)
    · rw [hs0 s hs, hsm] at he; exact absurd he (hnew s hs)
    · rw [hs0 t ht, hsn] at he; exact absurd he.symm (a1 t ht)
    · rfl
    · rw [hsn, hsm] at he; exact absurd he.symm a2
    · rw [hs0 t ht, hsm] at he; exact absurd he.symm (hnew t ht)
    · rw [hsn, hsm] at he; exact absurd he a2
    · rfl
  · intro u e he
    by_cases hu : ∃ e, occ T u e
    · obtain ⟨e0, he0⟩ := hu
      obtain ⟨s, hs, h1⟩ := h.cover u e0 he0
      by_cases hc : s ≠ q ∨ w.length < u.length
      · exact ⟨s, by omega, by rw [hs0 s hs]; exact keep s hs u h1 ⟨e0, he0⟩ hc⟩
      · have e1 : s = q := Classical.byContradiction fun h => hc (.inl h)
        subst e1
        exact ⟨A.n + 1, by omega, by rw [hsm]; exact half u h1 ⟨e0, he0⟩ (by omega)⟩
    · rcases occ_app.1 he with h1 | ⟨rfl, h1⟩
      · exact absurd ⟨e, h1⟩ hu
      · exact ⟨A.n, by omega, by rw [hsn]; exact of_new h1 fun e h2 => hu ⟨e, h2⟩⟩
  · exact ⟨by rw [hs0 0 h.pos]; exact h.root.1, by rw [hK 0 h.pos (fun e => hq0 e.symm)]; exact h.root.2⟩
  · intro s hs hne
    rcases split s hs with hs | rfl | rfl
    · obtain ⟨e, he⟩ := hocc s hs
      by_cases hsq : s = q
      · subst hsq
        refine ⟨A.n + 1, hKq, by omega, by rw [hLm, hL s hs, ← h.len s hs]; exact hlt, by rw [hsm, hs0 s hs]; exact hqo.1, fun u hu hl => ?_⟩
        rw [hs0 s hs] at hu ⊢
        rw [hLm] at hl
        exact keep s hs u (hp5 u hu (by omega)) ⟨e, occ_suf hu he⟩ (.inr hl)
      · obtain ⟨p, h1, h2, h3, h4, h5⟩ := h.link s hs hne
        refine ⟨p, by rw [hK s hs hsq]; exact h1, by omega, by rw [hL p h2, hL s hs]; exact h3, by rw [hs0 p h2, hs0 s hs]; exact h4, fun u hu hl => ?_⟩
        rw [hs0 s hs] at hu ⊢
        rw [hL p h2] at hl
        exact keep s hs u (h5 u hu hl) ⟨e, occ_suf hu he⟩ (.inl hsq)
    · refine ⟨A.n + 1, hKn, by omega, by rw [hLm, hLn]; omega, by rw [hsm, hsn]; exact hw.suf, fun u hu hl => ?_⟩
      rw [hsn] at hu ⊢
      rw [hLm] at hl
      refine of_new hu fun e he => ?_
      have := hw.max u hu ⟨e, he⟩
      omega
    · refine ⟨p0, by rw [hKm]; exact hp1, by omega, by rw [hL p0 hp2, hLm]; exact hp0w, by rw [hs0 p0 hp2, hsm]; exact suf_of_len hp4 hqo.1 (by rw [h.len p0 hp2]; omega), fun u hu hl => ?_⟩
      rw [hsm] at hu ⊢
      rw [hL p0 hp2] at hl
      exact half u (hp5 u (hu.trans hqo.1) hl) ⟨ew, occ_suf hu hew⟩ hu.length_le
  · intro s hs d hd e he
    rcases split s hs with hs | rfl | rfl
    · rw [hs0 s hs] at he
      by_cases hc : d = c ∧ str s <:+ T ∧ (A.nx s c = none ∨ A.nx s c = some q)
      · obtain ⟨rfl, h1, h2⟩ := hc
        rcases h2 with h2 | h2
        · rw [hx1 s hs h1 h2] at hd; cases hd
        · rw [hx2 s hs h1 h2] at hd; cases hd
      · rw [hx3 s d hs hc] at hd
        rcases occ_app.1 he with h1 | ⟨rfl, h1⟩
        · exact h.enone s hs d hd e h1
        · obtain ⟨rfl, h2⟩ := suf_snoc.1 h1
          exact hc ⟨rfl, h2, .inl hd⟩
    · rw [hsn] at he
      have h1 := occ_len he
      have h2 := occ_le he
      simp only [List.length_append, List.length_singleton] at h1 h2
      omega
    · rw [hsm] at he
      by_cases hc : d = c ∧ str q <:+ T ∧ A.nx q c = none
      · rw [hc.1, hm1 hc.2.1 hc.2.2] at hd; cases hd
      · rw [hm2 d hc] at hd
        rcases occ_app.1 he with h1 | ⟨rfl, h1⟩
        · exact h.enone q hq d hd e (Inv.ext (A := A) hqo h1)
        · obtain ⟨rfl, h2⟩ := suf_snoc.1 h1
          exact hc ⟨rfl, chain_of hqo h2, hd⟩
  · intro s hs d t ht
    rcases split s hs with hs | rfl | rfl
    · rw [hs0 s hs]
      by_cases hc : d = c ∧ str s <:+ T ∧ (A.nx s c = none ∨ A.nx s c = some q)
      · obtain ⟨rfl, h1, h2⟩ := hc
        have hsuf : str s ++ [d] <:+ T ++ [d] := suf_snoc.2 ⟨rfl, h1⟩
        have ho : occ (T ++ [d]) (str s ++ [d]) (T.length + 1) := occ_app.2 (.inr ⟨rfl, hsuf⟩)
        rcases h2 with h2 | h2
        · rw [hx1 s hs h1 h2] at ht
          cases ht
          exact ⟨by omega, ⟨_, ho⟩, by rw [hsn]; exact of_new hsuf (h.enone s hs d h2)⟩
        · rw [hx2 s hs h1 h2] at ht
          cases ht
          obtain ⟨_, ⟨e, he⟩, h3⟩ := h.esome s hs d q h2
          exact ⟨by omega, ⟨_, ho⟩, by rw [hsm]; exact half _ h3 ⟨e, he⟩ (hw.max _ hsuf ⟨e, he⟩)⟩
      · rw [hx3 s d hs hc] at ht
        obtain ⟨h1, ⟨e, he⟩, h3⟩ := h.esome s hs d t ht
        refine ⟨by omega, ⟨e, occ_mono he⟩, ?_⟩
        rw [hs0 t h1]
        refine keep t h1 _ h3 ⟨e, he⟩ ?_
        by_cases htq : t = q
        · subst htq
          refine .inr (Nat.lt_of_not_le fun hle => hc ?_)
          have hsw : str s ++ [d] <:+ w := suf_of_len h3.1 hqo.1 hle
          have hsT := hsw.trans hw.suf
          obtain ⟨rfl, h4⟩ := suf_snoc.1 hsT
          exact ⟨rfl, h4, .inr ht⟩
        · exact .inl htq
    · rw [hxn d] at ht; cases ht
    · rw [hsm]
      by_cases hc : d = c ∧ str q <:+ T ∧ A.nx q c = none
      · obtain ⟨rfl, h1, h2⟩ := hc
        rw [hm1 h1 h2] at ht
        cases ht
        have hsuf : w ++ [d] <:+ T ++ [d] := suf_snoc.2 ⟨rfl, hqo.1.trans h1⟩
        refine ⟨by omega, ⟨T.length + 1, occ_app.2 (.inr ⟨rfl, hsuf⟩)⟩, ?_⟩
        rw [hsn]
        exact of_new hsuf fun e he => h.enone q hq d h2 e (Inv.ext (A := A) hqo he)
      · rw [hm2 d hc] at ht
        obtain ⟨h1, ⟨e, he⟩, h3⟩ := h.esome q hq d t ht
        have hsuf : w ++ [d] <:+ str q ++ [d] := suf_snoc.2 ⟨rfl, hqo.1⟩
        refine ⟨by omega, ⟨e, occ_mono (occ_suf hsuf he)⟩, ?_⟩
        rw [hs0 t h1]
        refine keep t h1 _ ⟨hsuf.trans h3.1, fun e' he' => h3.2 e' (Inv.ext (A := A) hqo he')⟩ ⟨e, occ_suf hsuf he⟩ ?_
        by_cases htq : t = q
        · subst htq
          refine .inr ?_
          simp
        · exact .inl htq
/-! ### The states whose parts end where the text ends -/
theorem Inv.chain_gap {T : List α} {A : Au α} {str : Nat → List α} (h : Inv T A str) {s p p2 : Nat} (hs : s < A.n) (hp : p < A.n) (hsT : str s <:+ T) (hpT : str p <:+ T) (hk : A.K p = some p2) (h1 : A.L p2 < A.L s) (h2 : A.L s ≤ A.L p) : s = p := by
  have hp0 : p ≠ 0 := fun e => by rw [e, h.root.2] at hk; cases hk
  obtain ⟨p', k1, k2, k3, k4, k5⟩ := h.link p hp hp0
  rw [hk] at k1
  cases k1
  have hsuf : str s <:+ str p := suf_of_len hsT hpT (by rw [h.len s hs, h.len p hp]; exact h2)
  exact h.uniq hs hp (h.at_ s hs) (Of.self _ _) (k5 _ hsuf (by rw [h.len s hs]; exact h1))
theorem Inv.chain_root {T : List α} {A : Au α} {str : Nat → List α} (h : Inv T A str) {s p : Nat} (hs : s < A.n) (hp : p < A.n) (hk : A.K p = none) (h2 : A.L s ≤ A.L p) : s = p := by
  have hp0 : p = 0 := Classical.byContradiction fun e => by obtain ⟨p', k1, _⟩ := h.link p hp e; rw [hk] at k1; cases k1
  subst hp0
  have hl : A.L 0 = 0 := by rw [← h.len 0 h.pos, h.root.1]; rfl
  refine h.inj s 0 hs h.pos ?_
  rw [h.root.1]
  exact List.eq_nil_of_length_eq_zero (by rw [h.len s hs]; omega)
theorem Inv.chain_link {T : List α} {A : Au α} {str : Nat → List α} (h : Inv T A str) {p p2 : Nat} (hp : p < A.n) (hpT : str p <:+ T) (hk : A.K p = some p2) : p2 < A.n ∧ str p2 <:+ T ∧ A.L p2 < A.L p := by
  have hp0 : p ≠ 0 := fun e => by rw [e, h.root.2] at hk; cases hk
  obtain ⟨p', k1, k2, k3, k4, k5⟩ := h.link p hp hp0
  rw [hk] at k1
  cases k1
  exact ⟨k2, k4.trans hpT, k3⟩
/-- Shorter ends have edges where longer ones have. -/
theorem Inv.chain_edge {T : List α} {A : Au α} {str : Nat → List α} (h : Inv T A str) {s p q : Nat} {c : α} (hs : s < A.n) (hp : p < A.n) (hsT : str s <:+ T) (hpT : str p <:+ T) (hl : A.L s ≤ A.L p) (hq : A.nx p c = some q) : ∃ t, A.nx s c = some t := by
  obtain ⟨_, ⟨e, he⟩, _⟩ := h.esome p hp c q hq
  cases hn : A.nx s c with
  | some t => exact ⟨t, rfl⟩
  | none =>
    have hsuf : str s <:+ str p := suf_of_len hsT hpT (by rw [h.len s hs, h.len p hp]; exact hl)
    exact absurd (occ_suf (suf_snoc.2 ⟨rfl, hsuf⟩) he) (h.enone s hs c hn e)
/-- The first end with an edge tells the longest end that was there. -/
theorem Inv.wd_some {T : List α} {A : Au α} {str : Nat → List α} (h : Inv T A str) {p q : Nat} {c : α} (hp : p < A.n) (hpT : str p <:+ T) (hq : A.nx p c = some q) (hmax : ∀ s, s < A.n → str s <:+ T → A.L p < A.L s → A.nx s c = none) :
    Wd T c (str p ++ [c]) ∧ q < A.n ∧ Of T (str q) (str p ++ [c]) := by
  obtain ⟨h1, h2, h3⟩ := h.esome p hp c q hq
  refine ⟨⟨suf_snoc.2 ⟨rfl, hpT⟩, h2, fun u hu hocc => ?_⟩, h1, h3⟩
  obtain ⟨e, he⟩ := hocc
  rcases suf_snoc_cases hu with rfl | ⟨u', rfl, hu'⟩
  · simp
  · obtain ⟨s, hs, hso⟩ := h.cover u' _ (occ_full.2 hu')
    have hsT := chain_of hso hu'
    have hle : A.L s ≤ A.L p := Nat.le_of_not_lt fun hlt => h.enone s hs c (hmax s hs hsT hlt) e (Inv.ext (A := A) hso he)
    have hul := hso.1.length_le
    rw [h.len s hs] at hul
    rw [List.length_append, List.length_append, h.len p hp]
    omega
theorem Inv.wd_none {T : List α} {A : Au α} {str : Nat → List α} (h : Inv T A str) {c : α} (hmax : ∀ s, s < A.n → str s <:+ T → A.nx s c = none) : Wd T c (str 0) := by
  rw [h.root.1]
  refine ⟨List.nil_suffix, ⟨0, occ_nil (Nat.zero_le _)⟩, fun u hu hocc => ?_⟩
  obtain ⟨e, he⟩ := hocc
  rcases suf_snoc_cases hu with rfl | ⟨u', rfl, hu'⟩
  · exact Nat.le_refl _
  · obtain ⟨s, hs, hso⟩ := h.cover u' _ (occ_full.2 hu')
    exact absurd (Inv.ext (A := A) hso he) (h.enone s hs c (hmax s hs (chain_of hso hu')) e)
/-- Ends whose edge leads to 'q' lie side by side. -/
theorem Inv.chain_q {T : List α} {A : Au α} {str : Nat → List α} (h : Inv T A str) {p s r q t : Nat} {c : α} (hp : p < A.n) (hs : s < A.n) (hr : r < A.n) (hpT : str p <:+ T) (hsT : str s <:+ T) (hrT : str r <:+ T) (h1 : A.nx p c = some q) (h2 : A.nx s c = some q) (l1 : A.L s ≤ A.L r) (l2 : A.L r ≤ A.L p) (h3 : A.nx r c = some t) : t = q := by
  obtain ⟨a1, ⟨e, he⟩, a3⟩ := h.esome p hp c q h1
  obtain ⟨b1, _, b3⟩ := h.esome s hs c q h2
  obtain ⟨c1, ⟨e2, he2⟩, c3⟩ := h.esome r hr c t h3
  have hsr : str s <:+ str r := suf_of_len hsT hrT (by rw [h.len s hs, h.len r hr]; exact l1)
  have hrp : str r <:+ str p := suf_of_len hrT hpT (by rw [h.len p hp, h.len r hr]; exact l2)
  have x1 : str s ++ [c] <:+ str r ++ [c] := suf_snoc.2 ⟨rfl, hsr⟩
  have x2 : str r ++ [c] <:+ str p ++ [c] := suf_snoc.2 ⟨rfl, hrp⟩
  exact h.uniq c1 a1 he2 c3 ⟨x2.trans a3.1, fun e' he' => b3.2 e' (occ_suf x1 he')⟩
end
end Go.Proofs
