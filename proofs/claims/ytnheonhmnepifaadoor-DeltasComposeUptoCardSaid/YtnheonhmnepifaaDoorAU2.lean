/- Walks: how the automaton lies in the heap. -/
import Derived.Test.YtnheonhmnepifaaDoorAU1
namespace Go.Proofs
open Go Go.Abs
set_option linter.unusedSimpArgs false
set_option linter.unusedVariables false
set_option maxRecDepth 20000
def cellsSt (st : Ste) (v : AV) : List AV := [.int .i64 (st.long : Int), .int .i64 (st.fin : Int), .int .i64 st.link, v]
def flatS (n : Nat) (g : Nat → Ste) (ev : Nat → AV) : List AV := ((List.range n).map fun s => cellsSt (g s) (ev s)).flatten
theorem flatS_succ (n : Nat) (g : Nat → Ste) (ev : Nat → AV) : flatS (n + 1) g ev = flatS n g ev ++ cellsSt (g n) (ev n) := by
  unfold flatS
  rw [List.range_succ, List.map_append, List.flatten_append]
  simp
theorem flatS_len (n : Nat) (g : Nat → Ste) (ev : Nat → AV) : (flatS n g ev).length = n * 4 := by
  induction n with
  | zero => rfl
  | succ n ih => rw [flatS_succ, List.length_append, ih]; simp only [cellsSt, List.length_cons, List.length_nil]; omega
theorem flatS_congr {n : Nat} {g g' : Nat → Ste} {ev ev' : Nat → AV} (h : ∀ s, s < n → g' s = g s ∧ ev' s = ev s) : flatS n g' ev' = flatS n g ev := by
  unfold flatS
  congr 1
  apply List.map_congr_left
  intro s hs
  have := h s (List.mem_range.1 hs)
  rw [this.1, this.2]
/-- The cells of one state, and those around it. -/
theorem flatS_split {n s : Nat} (hs : s < n) (g : Nat → Ste) (ev : Nat → AV) : ∃ a b : List AV, a.length = s * 4 ∧ ∀ g' ev', (∀ i, ¬ i = s → g' i = g i ∧ ev' i = ev i) → flatS n g' ev' = a ++ (cellsSt (g' s) (ev' s) ++ b) := by
  refine ⟨flatS s g ev, ((List.range' (s + 1) (n - (s + 1))).map fun i => cellsSt (g i) (ev i)).flatten, flatS_len s g ev, fun g' ev' h => ?_⟩
  have e : List.range n = List.range s ++ (s :: List.range' (s + 1) (n - (s + 1))) := by
    rw [List.range_eq_range', List.range_eq_range']
    have e1 : n = s + ((n - (s + 1)) + 1) := by omega
    conv => lhs; rw [e1]
    rw [← List.range'_append, List.range'_succ]
    simp
  have e2 : flatS n g' ev' = flatS s g' ev' ++ (cellsSt (g' s) (ev' s) ++ ((List.range' (s + 1) (n - (s + 1))).map fun i => cellsSt (g' i) (ev' i)).flatten) := by
    unfold flatS
    rw [e, List.map_append, List.flatten_append, List.map_cons, List.flatten_cons]
  rw [e2, flatS_congr (g := g) (ev := ev) fun i hi => h i (by omega)]
  congr 3
  apply List.map_congr_left
  intro i hi
  rw [List.mem_range'_1] at hi
  have := h i (by omega)
  rw [this.1, this.2]
theorem flatS_at {n s : Nat} (hs : s < n) (g : Nat → Ste) (ev : Nat → AV) : ∃ b, (flatS n g ev).drop (s * 4) = cellsSt (g s) (ev s) ++ b := by
  obtain ⟨a, b, h1, h2⟩ := flatS_split hs g ev
  refine ⟨b, ?_⟩
  rw [h2 g ev fun _ _ => ⟨rfl, rfl⟩, ← h1, List.drop_left]
theorem flatS_0 {n s : Nat} (hs : s < n) (g : Nat → Ste) (ev : Nat → AV) : ((flatS n g ev).drop (s * 4)).head? = some (.int .i64 ((g s).long : Int)) := by
  obtain ⟨b, h⟩ := flatS_at hs g ev
  rw [h]; rfl
theorem flatS_j {n s j : Nat} {x : AV} (hs : s < n) (g : Nat → Ste) (ev : Nat → AV) (hx : (cellsSt (g s) (ev s))[j]? = some x) : ((flatS n g ev).drop (s * 4 + j)).head? = some x := by
  obtain ⟨b, h⟩ := flatS_at hs g ev
  have hj : j < (cellsSt (g s) (ev s)).length := (List.getElem?_eq_some_iff.1 hx).1
  rw [← List.drop_drop, h, List.drop_append_of_le_length (by omega), List.head?_append, List.head?_drop, hx]
  rfl
theorem flatS_take {n s : Nat} (hs : s < n) (g : Nat → Ste) (ev : Nat → AV) : ((flatS n g ev).drop (s * 4)).take 4 = cellsSt (g s) (ev s) := by
  obtain ⟨b, h⟩ := flatS_at hs g ev
  rw [h]; rfl
theorem flatS_set {n s j : Nat} {x : AV} (hs : s < n) (hj : j < 4) (g g' : Nat → Ste) (ev ev' : Nat → AV) (h : ∀ i, ¬ i = s → g' i = g i ∧ ev' i = ev i) (hc : (cellsSt (g s) (ev s)).set j x = cellsSt (g' s) (ev' s)) : (flatS n g ev).set (s * 4 + j) x = flatS n g' ev' := by
  obtain ⟨a, b, h1, h2⟩ := flatS_split hs g ev
  rw [h2 g ev fun _ _ => ⟨rfl, rfl⟩, h2 g' ev' h, ← hc, ← h1, List.set_append_right _ _ (by omega), Nat.add_sub_cancel_left, List.set_append_left _ _ (by simpa [cellsSt] using hj)]
/-- The automaton 'A', its states in 'sid', each state's edges in an object of their own. -/
structure AH (H G : Heap) (A sid : Nat) (S : List Ste) (last : Int) (ev : Nat → AV) : Prop where
  sub : H.Sub G
  nA : H A = none
  nS : H sid = none
  AS : ¬ A = sid
  hA : G A = some (.cells [.ms sid 0 S.length 4, .int .i64 last])
  hS : G sid = some (.cells (flatS S.length (gS S) ev))
  ed : ∀ s, s < S.length → EdgeV G (ev s) (gS S s).edges
  fr : ∀ s e n, s < S.length → ev s = .ms e 0 n 2 → H e = none ∧ ¬ e = A ∧ ¬ e = sid
  nd : ∀ s s' e n n', s < S.length → s' < S.length → ev s = .ms e 0 n 2 → ev s' = .ms e 0 n' 2 → s = s'
theorem EdgeV.there {G : Heap} {v : AV} {es : List (UInt8 × Nat)} (h : EdgeV G v es) {e n : Nat} (hv : v = .ms e 0 n 2) : G e = some (.cells (flatE es)) ∧ n = es.length := by
  rcases h with ⟨h1, _⟩ | ⟨e', h1, h2⟩
  · rw [h1] at hv; cases hv
  · rw [h1] at hv; cases hv; exact ⟨h2, rfl⟩
theorem EdgeV.mono {G G' : Heap} {v : AV} {es : List (UInt8 × Nat)} (h : EdgeV G v es) (hk : ∀ e n, v = .ms e 0 n 2 → G' e = G e) : EdgeV G' v es := by
  rcases h with h | ⟨e, h1, h2⟩
  · exact .inl h
  · exact .inr ⟨e, h1, by rw [hk e _ h1]; exact h2⟩
theorem AH.set {H G G' : Heap} {A sid : Nat} {S : List Ste} {last : Int} {ev : Nat → AV} (h : AH H G A sid S last ev) {s : Nat} (hs : s < S.length) {v' : AV} {c : UInt8} {t : Nat} (hP : SetPost G G' sid (s * 4) (flatS S.length (gS S) ev) (ev s) v' (gS S s).edges c t) :
    AH H G' A sid (setS S s c t) last (fun i => if i = s then v' else ev i) := by
  obtain ⟨p1, p2, p3, p4, p5⟩ := hP
  have hfrs : ∀ e n, ev s = .ms e 0 n 2 → H e = none ∧ ¬ e = A ∧ ¬ e = sid := fun e n he => h.fr s e n hs he
  have hg : ∀ i, gS (setS S s c t) i = if i = s then ⟨(gS S s).long, (gS S s).fin, (gS S s).link, setE (gS S s).edges c t⟩ else gS S i := fun i => gS_set hs
  have keep : ∀ i o, G i = some o → ¬ i = sid → (∀ n, ev s ≠ .ms i 0 n 2) → G' i = some o := p3
  refine ⟨fun i o hi => ?_, h.nA, h.nS, h.AS, ?_, ?_, fun s' hs' => ?_, fun s' e n hs' he => ?_, fun s1 s2 e n n' h1 h2 e1 e2 => ?_⟩
  · refine keep i o (h.sub i o hi) (fun e => by rw [e, h.nS] at hi; cases hi) (fun n e => by rw [(hfrs i n e).1] at hi; cases hi)
  · rw [setS_len]
    exact keep A _ h.hA h.AS (fun n e => (hfrs A n e).2.1 rfl)
  · rw [p2, setS_len]
    congr 2
    refine flatS_set hs (by omega) _ _ _ _ (fun i hi => ⟨by rw [hg, if_neg hi], if_neg hi⟩) ?_
    rw [hg, if_pos rfl, if_pos rfl]
    rfl
  · rw [setS_len] at hs'
    rw [hg]
    by_cases e : s' = s
    · subst e
      rw [if_pos rfl, if_pos rfl]
      exact p1
    · rw [if_neg e, if_neg e]
      refine (h.ed s' hs').mono fun e' n he' => ?_
      have hth := ((h.ed s' hs').there he').1
      rw [hth]
      exact keep e' _ hth (h.fr s' e' n hs' he').2.2 (fun n' hh => e (h.nd s' s e' n n' hs' hs he' hh))
  · rw [setS_len] at hs'
    by_cases e3 : s' = s
    · subst e3
      rw [if_pos rfl] at he
      rcases p4 e n he with h4 | h4
      · exact ⟨sub_none h.sub h4, fun x => (by rw [x, h.hA] at h4; cases h4), fun x => (by rw [x, h.hS] at h4; cases h4)⟩
      · exact hfrs e _ h4
    · rw [if_neg e3] at he
      exact h.fr s' e n hs' he
  · rw [setS_len] at h1 h2
    by_cases a1 : s1 = s <;> by_cases a2 : s2 = s
    · rw [a1, a2]
    · rw [if_pos a1] at e1
      rw [if_neg a2] at e2
      rcases p4 e n e1 with h4 | h4
      · rw [((h.ed s2 h2).there e2).1] at h4; cases h4
      · rw [a1]; exact h.nd s s2 e _ n' hs h2 h4 e2
    · rw [if_neg a1] at e1
      rw [if_pos a2] at e2
      rcases p4 e n' e2 with h4 | h4
      · rw [((h.ed s1 h1).there e1).1] at h4; cases h4
      · rw [a2]; exact h.nd s1 s e n _ h1 hs e1 h4
    · rw [if_neg a1] at e1
      rw [if_neg a2] at e2
      exact h.nd s1 s2 e n n' h1 h2 e1 e2
theorem AH.link {H G : Heap} {A sid : Nat} {S : List Ste} {last : Int} {ev : Nat → AV} (h : AH H G A sid S last ev) {s : Nat} (hs : s < S.length) (l : Nat) :
    AH H (G.put sid (.cells ((flatS S.length (gS S) ev).set (s * 4 + 2) (.int .i64 (l : Int))))) A sid (linkS S s l) last ev := by
  have hg : ∀ i, gS (linkS S s l) i = if i = s then ⟨(gS S s).long, (gS S s).fin, (l : Int), (gS S s).edges⟩ else gS S i := fun i => gS_set hs
  refine ⟨h.sub.put' h.nS _, h.nA, h.nS, h.AS, by rw [put_ne _ _ _ _ h.AS, linkS_len]; exact h.hA, ?_, fun s' hs' => ?_, fun s' e n hs' he => h.fr s' e n (by rw [linkS_len] at hs'; exact hs') he, fun s1 s2 e n n' h1 h2 e1 e2 => h.nd s1 s2 e n n' (by rw [linkS_len] at h1; exact h1) (by rw [linkS_len] at h2; exact h2) e1 e2⟩
  · rw [put_same, linkS_len]
    congr 2
    refine flatS_set hs (by omega) _ _ _ _ (fun i hi => ⟨by rw [hg, if_neg hi], rfl⟩) ?_
    rw [hg, if_pos rfl]
    rfl
  · rw [linkS_len] at hs'
    have e1 : (gS (linkS S s l) s').edges = (gS S s').edges := by
      rw [hg]; split
      · rename_i e; subst e; rfl
      · rfl
    rw [e1]
    exact (h.ed s' hs').mono fun e n he => put_ne _ _ _ _ (h.fr s' e n hs' he).2.2
theorem AH.last {H G : Heap} {A sid : Nat} {S : List Ste} {last : Int} {ev : Nat → AV} (h : AH H G A sid S last ev) (l : Int) : AH H (G.put A (.cells [.ms sid 0 S.length 4, .int .i64 l])) A sid S l ev :=
  ⟨h.sub.put' h.nA _, h.nA, h.nS, h.AS, put_same _ _ _, by rw [put_ne _ _ _ _ (fun e => h.AS e.symm)]; exact h.hS, fun s hs => (h.ed s hs).mono fun e n he => put_ne _ _ _ _ (h.fr s e n hs he).2.1, h.fr, h.nd⟩
theorem AH.put {H G : Heap} {A sid : Nat} {S : List Ste} {last : Int} {ev : Nat → AV} (h : AH H G A sid S last ev) {i : Nat} (hi : G i = none) (o : AObj) : AH H (G.put i o) A sid S last ev :=
  ⟨h.sub.put' (sub_none h.sub hi) _, h.nA, h.nS, h.AS, by rw [put_ne _ _ _ _ (fun e => by rw [← e, h.hA] at hi; cases hi)]; exact h.hA, by rw [put_ne _ _ _ _ (fun e => by rw [← e, h.hS] at hi; cases hi)]; exact h.hS,
    fun s hs => (h.ed s hs).mono fun e n he => put_ne _ _ _ _ (fun x => by rw [← x, ((h.ed s hs).there he).1] at hi; cases hi), h.fr, h.nd⟩
/-- A state more. -/
theorem AH.push {H G : Heap} {A sid : Nat} {S : List Ste} {last : Int} {ev : Nat → AV} (h : AH H G A sid S last ev) {sid' : Nat} (hid : (G.del sid) sid' = none) (hid2 : G sid' = none) {st : Ste} {v : AV} (hE : EdgeV G v st.edges) (hf : ∀ e n, v = .ms e 0 n 2 → H e = none ∧ ¬ e = A ∧ ¬ e = sid ∧ ∀ s n', s < S.length → ev s ≠ .ms e 0 n' 2) :
    AH H (((G.del sid).put sid' (.cells (flatS S.length (gS S) ev ++ cellsSt st v))).put A (.cells [.ms sid' 0 (S.length + 1) 4, .int .i64 last])) A sid' (S ++ [st]) last (fun i => if i = S.length then v else ev i) := by
  have a1 : ¬ A = sid' := fun e => by rw [← e, h.hA] at hid2; cases hid2
  have a2 : ¬ sid' = A := fun e => a1 e.symm
  have hlen : (S ++ [st]).length = S.length + 1 := by simp
  have hother : ∀ e o, G e = some o → ¬ e = A → ¬ e = sid → (((G.del sid).put sid' (.cells (flatS S.length (gS S) ev ++ cellsSt st v))).put A (.cells [.ms sid' 0 (S.length + 1) 4, .int .i64 last])) e = G e := fun e o he e1 e2 => by
    have e3 : ¬ e = sid' := fun x => by rw [x, hid2] at he; cases he
    rw [put_ne _ _ _ _ e1, put_ne _ _ _ _ e3, del_ne e2]
  have hgo : ∀ s, s < S.length → gS (S ++ [st]) s = gS S s := fun s hs => gS_left hs
  refine ⟨fun i o hi => ?_, h.nA, sub_none h.sub hid2, a1, by rw [put_same, hlen], ?_, fun s hs => ?_, fun s e n hs he => ?_, fun s1 s2 e n n' h1 h2 e1 e2 => ?_⟩
  · have := h.sub i o hi
    rw [hother i o this (fun e => by rw [e, h.nA] at hi; cases hi) (fun e => by rw [e, h.nS] at hi; cases hi)]
    exact this
  · rw [put_ne _ _ _ _ a2, put_same, hlen, flatS_succ]
    congr 2
    · congr 1
      · exact (flatS_congr fun s hs => ⟨hgo s hs, if_neg (by omega)⟩).symm
      · rw [gS_new, if_pos rfl]
  · rw [hlen] at hs
    by_cases e : s = S.length
    · subst e
      rw [gS_new, if_pos rfl]
      exact hE.mono fun e' n he' => hother e' _ (hE.there he').1 (hf e' n he').2.1 (hf e' n he').2.2.1
    · rw [hgo s (by omega), if_neg e]
      exact (h.ed s (by omega)).mono fun e' n he' => hother e' _ ((h.ed s (by omega)).there he').1 (h.fr s e' n (by omega) he').2.1 (h.fr s e' n (by omega) he').2.2
  · rw [hlen] at hs
    by_cases e1 : s = S.length
    · subst e1
      rw [if_pos rfl] at he
      exact ⟨(hf e n he).1, (hf e n he).2.1, fun x => by have := (hE.there he).1; rw [x, hid2] at this; cases this⟩
    · rw [if_neg e1] at he
      have := h.fr s e n (by omega) he
      exact ⟨this.1, this.2.1, fun x => by have := ((h.ed s (by omega)).there he).1; rw [x, hid2] at this; cases this⟩
  · rw [hlen] at h1 h2
    by_cases a3 : s1 = S.length <;> by_cases a4 : s2 = S.length
    · rw [a3, a4]
    · rw [if_pos a3] at e1
      rw [if_neg a4] at e2
      exact absurd e2 ((hf e n e1).2.2.2 s2 n' (by omega))
    · rw [if_neg a3] at e1
      rw [if_pos a4] at e2
      exact absurd e1 ((hf e n' e2).2.2.2 s1 n (by omega))
    · rw [if_neg a3] at e1
      rw [if_neg a4] at e2
      exact h.nd s1 s2 e n n' (by omega) (by omega) e1 e2
/-- Edges are few: each sign has one. -/
def ND (S : List Ste) : Prop := ∀ s, ((gS S s).edges.map (·.1)).Nodup
theorem nodup_lt : ∀ (n : Nat) (l : List Nat), l.Nodup → (∀ x ∈ l, x < n) → l.length ≤ n
  | 0, l, _, h => by
    cases l with
    | nil => simp
    | cons a l => have := h a (List.mem_cons_self ..); omega
  | n + 1, l, hn, h => by
    have h1 := nodup_lt n (l.erase n) (hn.erase n) (fun x hx => by
      have h2 := h x (List.mem_of_mem_erase hx)
      have h3 : x ≠ n := fun e => by rw [e] at hx; exact (List.Nodup.not_mem_erase hn) hx
      omega)
    have h4 := List.length_erase (a := n) (l := l)
    split at h4 <;> omega
theorem ND.len {S : List Ste} (h : ND S) (s : Nat) : (gS S s).edges.length ≤ 256 := by
  have h1 : (((gS S s).edges.map (·.1)).map UInt8.toNat).Nodup := by
    unfold List.Nodup
    rw [List.pairwise_map]
    exact (h s).imp fun hab e => hab (UInt8.toNat_inj.1 e)
  have h2 := nodup_lt 256 _ h1 (fun x hx => by
    obtain ⟨b, _, rfl⟩ := List.mem_map.1 hx
    exact b.toNat_lt)
  simpa using h2
theorem setE_keys (c : UInt8) (t : Nat) : ∀ es : List (UInt8 × Nat), (es.map (·.1)).Nodup → ((setE es c t).map (·.1)).Nodup ∧ ∀ d, d ∈ (setE es c t).map (·.1) → d = c ∨ d ∈ es.map (·.1)
  | [], _ => ⟨by simp [setE], by simp [setE]⟩
  | e :: es, h => by
    rw [setE]
    rw [List.map_cons, List.nodup_cons] at h
    by_cases he : e.1 = c
    · rw [if_pos he]
      exact ⟨by rw [List.map_cons, List.nodup_cons]; exact h, fun d hd => .inr hd⟩
    · rw [if_neg he]
      obtain ⟨i1, i2⟩ := setE_keys c t es h.2
      refine ⟨?_, fun d hd => ?_⟩
      · rw [List.map_cons, List.nodup_cons]
        refine ⟨fun hm => ?_, i1⟩
        rcases i2 _ hm with h3 | h3
        · exact he h3
        · exact h.1 h3
      · rw [List.map_cons, List.mem_cons] at hd ⊢
        rcases hd with hd | hd
        · exact .inr (.inl hd)
        · rcases i2 d hd with h3 | h3
          · exact .inl h3
          · exact .inr (.inr h3)
theorem ND.set {S : List Ste} (h : ND S) {s : Nat} (hs : s < S.length) (c : UInt8) (t : Nat) : ND (setS S s c t) := fun i => by
  have hg : gS (setS S s c t) i = if i = s then ⟨(gS S s).long, (gS S s).fin, (gS S s).link, setE (gS S s).edges c t⟩ else gS S i := gS_set hs
  rw [hg]
  split
  · exact (setE_keys c t _ (h s)).1
  · exact h i
theorem ND.link {S : List Ste} (h : ND S) {s : Nat} (hs : s < S.length) (l : Nat) : ND (linkS S s l) := fun i => by
  have hg : gS (linkS S s l) i = if i = s then ⟨(gS S s).long, (gS S s).fin, (l : Int), (gS S s).edges⟩ else gS S i := gS_set hs
  rw [hg]
  split
  · exact h s
  · exact h i
theorem ND.push {S : List Ste} (h : ND S) (st : Ste) (hst : (st.edges.map (·.1)).Nodup) : ND (S ++ [st]) := fun i => by
  by_cases h1 : i < S.length
  · rw [gS_left h1]; exact h i
  · by_cases h2 : i = S.length
    · subst h2; rw [gS_new]; exact hst
    · have : gS (S ++ [st]) i = Ste.z := by
        unfold gS List.getD
        rw [List.getElem?_eq_none (by simp; omega)]; rfl
      rw [this]; simp [Ste.z]
end Go.Proofs
