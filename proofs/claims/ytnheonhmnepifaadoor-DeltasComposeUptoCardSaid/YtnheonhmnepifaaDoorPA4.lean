/- Plain laws: what the automaton is when a sign was added; what it reads. -/
import Derived.Test.YtnheonhmnepifaaDoorPA3
import Derived.Test.YtnheonhmnepifaaDoorPM1
namespace Go.Proofs
set_option linter.unusedSimpArgs false
set_option linter.unusedVariables false
theorem ofL_link {sts S : List Ste} {s : Nat} (h : (gS sts s).link = (gS S s).link) : (ofL sts).K s = (ofL S).K s := by
  simp only [ofL, h]
theorem gS_linkS {sts : List Ste} {p l s : Nat} (h : p < sts.length) : gS (linkS sts p l) s = if s = p then ⟨(gS sts p).long, (gS sts p).fin, (l : Int), (gS sts p).edges⟩ else gS sts s := gS_set h
theorem addL_ok {T : Bytes} {S : List Ste} {str : Nat → Bytes} (h : Inv T (ofL S) str) {last : Nat} (hlast : last < S.length) (hsl : str last = T) (c : UInt8) :
    ∃ str', Inv (T ++ [c]) (ofL (addL S last c (T.length + 1))) str' ∧ S.length < (addL S last c (T.length + 1)).length ∧ str' S.length = T ++ [c] ∧ (addL S last c (T.length + 1)).length ≤ S.length + 2 := by
  have hLlast : (ofL S).L last = T.length := by rw [← h.len last hlast, hsl]
  have hLle : ∀ s, s < S.length → str s <:+ T → (ofL S).L s ≤ T.length := fun s hs hT => by rw [← h.len s hs]; exact hT.length_le
  obtain ⟨X, hR, hx, hX, hp, hn⟩ := ch1_ok h (c := c) (x := ⟨T.length + 1, T.length + 1, 0, []⟩) (T.length + 1 + 1) (S ++ [⟨T.length + 1, T.length + 1, 0, []⟩]) (last : Int) (fun _ => False)
    ⟨by simp, fun s hs => by rw [gS_left hs]; exact ⟨rfl, rfl, rfl⟩, fun s _ _ => rfl, fun s _ hf => hf.elim, fun s d hs _ => by rw [gS_left hs]; rfl⟩ (gS_new _ _)
    (fun s => ⟨fun hf => hf.elim, fun hh => by
      have := hLle s hh.1 hh.2.1
      rcases hh.2.2 with h3 | h3
      · omega
      · rw [Int.toNat_natCast, hLlast] at h3; omega⟩) (fun s hf => hf.elim) (fun _ => ⟨by simpa using hlast, by rw [Int.toNat_natCast, hsl]; exact List.suffix_refl _, by rw [Int.toNat_natCast, hLlast]; omega⟩)
  have hadd := addL.eq_1 S last c (T.length + 1)
  try simp only at hadd
  generalize hr : ch1 c S.length (T.length + 1 + 1) (S ++ [⟨T.length + 1, T.length + 1, 0, []⟩]) (last : Int) = r at *
  have hstr : ∀ s, s < S.length → (fun s => if s = S.length then T ++ [c] else str s) s = str s := fun s hs => if_neg (by omega)
  by_cases hneg : r.2 < 0
  · rw [if_pos hneg] at hadd
    rw [hadd]
    have hno := hn hneg
    refine ⟨fun s => if s = S.length then T ++ [c] else str s, step1 h (h.wd_none hno) h.pos rfl hR.len hstr (if_pos rfl) (fun s hs => (hR.same s hs).1) (by show (gS r.1 S.length).long = _; rw [hx]) (fun s hs => (hR.same s hs).2.1) (by show (gS r.1 S.length).fin = _; rw [hx])
      (fun s hs => ofL_link (hR.same s hs).2.2) ?_ (fun s hs h1 h2 => hR.yes s hs ((hX s).2 ⟨hs, h1, h2⟩)) (fun s d hs hnd => hR.no s d hs (fun hh => hnd ⟨hh.1, ((hX s).1 hh.2).2⟩)) (fun d => ?_), by rw [hR.len]; omega, if_pos rfl, by rw [hR.len]; omega⟩
    · have hl : ¬ (gS r.1 S.length).link < 0 := by rw [hx]; simp
      have := ofL_K' hl
      rw [hx] at this
      exact this
    · show nxE (gS r.1 S.length).edges d = none
      rw [hx]; rfl
  · rw [if_neg hneg] at hadd
    obtain ⟨h1, h2, ⟨q, hq⟩, hmax⟩ := hp (by omega)
    generalize ha : r.2.toNat = a at hadd h1 h2 hq hmax
    obtain ⟨hW, hqn, hqo⟩ := h.wd_some h1 h2 hq hmax
    have hnXa : ¬ X a := fun hh => by rw [((hX a).1 hh).2.2] at hq; cases hq
    have hedge : nxE (gS r.1 a).edges c = some q := (hR.no a c h1 (fun hh => hnXa hh.2)).trans hq
    rw [hedge] at hadd
    simp only at hadd
    have hqn' : q < S.length := hqn
    have hLq : (gS r.1 q).long = (ofL S).L q := (hR.same q hqn').1
    have hLa : (gS r.1 a).long = (ofL S).L a := (hR.same a h1).1
    have hlenw : (str a ++ [c]).length = (ofL S).L a + 1 := by rw [List.length_append, h.len a h1]; rfl
    rw [hLq, hLa] at hadd
    by_cases hc : (ofL S).L q = (ofL S).L a + 1
    · rw [if_pos hc] at hadd
      rw [hadd]
      have hqw : str q = str a ++ [c] := (suf_eq hqo.1 (by rw [hlenw, h.len q hqn']; omega)).symm
      have hnl : S.length < r.1.length := by rw [hR.len]; omega
      have hg := fun s => gS_linkS (sts := r.1) (p := S.length) (l := q) (s := s) hnl
      have hgo : ∀ s, s < S.length → gS (linkS r.1 S.length q) s = gS r.1 s := fun s hs => by rw [hg, if_neg (by omega)]
      have hgn : gS (linkS r.1 S.length q) S.length = ⟨T.length + 1, T.length + 1, (q : Int), []⟩ := by rw [hg, if_pos rfl, hx]
      refine ⟨fun s => if s = S.length then T ++ [c] else str s, step1 h hW hqn' hqw (by show (linkS r.1 S.length q).length = _; rw [linkS_len]; exact hR.len) hstr (if_pos rfl) (fun s hs => by show (gS (linkS r.1 S.length q) s).long = _; rw [hgo s hs]; exact (hR.same s hs).1) (by show (gS (linkS r.1 S.length q) S.length).long = _; rw [hgn])
        (fun s hs => by show (gS (linkS r.1 S.length q) s).fin = _; rw [hgo s hs]; exact (hR.same s hs).2.1) (by show (gS (linkS r.1 S.length q) S.length).fin = _; rw [hgn])
        (fun s hs => ofL_link (by rw [hgo s hs]; exact (hR.same s hs).2.2)) ?_ (fun s hs h1 h2 => by show nxE (gS (linkS r.1 S.length q) s).edges c = _; rw [hgo s hs]; exact hR.yes s hs ((hX s).2 ⟨hs, h1, h2⟩))
        (fun s d hs hnd => by show nxE (gS (linkS r.1 S.length q) s).edges d = _; rw [hgo s hs]; exact hR.no s d hs (fun hh => hnd ⟨hh.1, ((hX s).1 hh.2).2⟩)) (fun d => ?_), by rw [linkS_len]; exact hnl, if_pos rfl, by rw [linkS_len, hR.len]; omega⟩
      · have hl : ¬ (gS (linkS r.1 S.length q) S.length).link < 0 := by rw [hgn]; simp
        have := ofL_K' hl
        rw [hgn] at this
        exact this
      · show nxE (gS (linkS r.1 S.length q) S.length).edges d = none
        rw [hgn]; rfl
    · rw [if_neg hc] at hadd
      have hml : r.1.length = S.length + 1 := hR.len
      rw [hml] at hadd
      have hlt : (str a ++ [c]).length < (str q).length := by
        have := hqo.1.length_le
        rw [hlenw, h.len q hqn'] at *
        omega
      have hnxa : ∀ s, s < S.length → str s <:+ T → (ofL S).L s ≤ (ofL S).L a → ¬ X s := fun s hs hT hle hXs => by
        obtain ⟨t, ht⟩ := h.chain_edge hs h1 hT h2 hle hq
        rw [((hX s).1 hXs).2.2] at ht; cases ht
      obtain ⟨Y, hR2, hx2, hy2, hY⟩ := ch2_ok h (c := c) (x := ⟨T.length + 1, T.length + 1, 0, []⟩) (y := ⟨(ofL S).L a + 1, (gS r.1 q).fin, (gS r.1 q).link, (gS r.1 q).edges⟩) h1 h2 hq hqn' (g := fun s d => nxE (gS r.1 s).edges d)
        (fun s hs hT hle => hR.no s c hs (fun hh => hnxa s hs hT hle hh.2)) hmax (T.length + 1 + 1) (r.1 ++ [⟨(ofL S).L a + 1, (gS r.1 q).fin, (gS r.1 q).link, (gS r.1 q).edges⟩]) r.2 (fun _ => False)
        ⟨by simp [hml], fun s hs => by rw [gS_left (by omega)]; exact hR.same s hs, fun s _ _ => rfl, fun s _ hf => hf.elim, fun s d hs _ => by rw [gS_left (by omega)]⟩
        (by rw [gS_left (by omega)]; exact hx) (by rw [← hml]; exact gS_new _ _)
        (fun s => ⟨fun hf => hf.elim, fun hh => by
          obtain ⟨a1, a2, a3, a4⟩ := hh
          rcases a4 with a4 | a4
          · omega
          · rw [ha] at a4
            rw [hmax s a1 a2 a4] at a3; cases a3⟩)
        (fun _ => by
          rw [ha]
          exact ⟨h1, h2, by have := hLle a h1 h2; omega, Nat.le_refl _⟩)
      generalize ch2 c q (S.length + 1) (T.length + 1 + 1) (r.1 ++ [⟨(ofL S).L a + 1, (gS r.1 q).fin, (gS r.1 q).link, (gS r.1 q).edges⟩]) r.2 = z at *
      rw [hadd]
      have hzl : z.length = S.length + 2 := hR2.len
      have hzn : ∀ s, gS (linkS (linkS z q (S.length + 1)) S.length (S.length + 1)) s = if s = S.length then ⟨T.length + 1, T.length + 1, ((S.length + 1 : Nat) : Int), []⟩ else if s = q then ⟨(gS z q).long, (gS z q).fin, ((S.length + 1 : Nat) : Int), (gS z q).edges⟩ else gS z s := fun s => by
        rw [gS_linkS (by rw [linkS_len]; omega), gS_linkS (by omega), gS_linkS (by omega), if_neg (show ¬ S.length = q by omega), hx2]
      have hw2 : (linkS (linkS z q (S.length + 1)) S.length (S.length + 1)).length = S.length + 2 := by rw [linkS_len, linkS_len, hzl]
      generalize linkS (linkS z q (S.length + 1)) S.length (S.length + 1) = y at *
      have en : gS y S.length = ⟨T.length + 1, T.length + 1, ((S.length + 1 : Nat) : Int), []⟩ := by rw [hzn, if_pos rfl]
      have em : gS y (S.length + 1) = ⟨(ofL S).L a + 1, (gS r.1 q).fin, (gS r.1 q).link, (gS r.1 q).edges⟩ := by rw [hzn, if_neg (by omega), if_neg (by omega)]; exact hy2
      have eq : gS y q = ⟨(gS z q).long, (gS z q).fin, ((S.length + 1 : Nat) : Int), (gS z q).edges⟩ := by rw [hzn, if_neg (by omega), if_pos rfl]
      have eo : ∀ s, s < S.length → s ≠ q → gS y s = gS z s := fun s hs hsq => by rw [hzn, if_neg (by omega), if_neg hsq]
      have eL : ∀ s, s < S.length → (gS y s).long = (gS S s).long ∧ (gS y s).fin = (gS S s).fin ∧ (gS y s).edges = (gS z s).edges := fun s hs => by
        by_cases hsq : s = q
        · subst hsq; rw [eq]; exact ⟨(hR2.same s hs).1, (hR2.same s hs).2.1, rfl⟩
        · rw [eo s hs hsq]; exact ⟨(hR2.same s hs).1, (hR2.same s hs).2.1, rfl⟩
      have hnXq : ∀ s, X s → (ofL S).nx s c = none := fun s hs => ((hX s).1 hs).2.2
      refine ⟨fun s => if s = S.length then T ++ [c] else if s = S.length + 1 then str a ++ [c] else str s, step2 h hW hqn' hqo hlt (by show y.length = _; exact hw2) (fun s hs => by rw [if_neg (by have : s < S.length := hs; omega), if_neg (by have : s < S.length := hs; omega)]) (if_pos rfl)
        (by show (if S.length + 1 = S.length then _ else if S.length + 1 = S.length + 1 then _ else _) = _; rw [if_neg (by omega), if_pos rfl])
        (fun s hs => (eL s hs).1) (by show (gS y S.length).long = _; rw [en]) (by show (gS y (S.length + 1)).long = _; rw [em, hlenw])
        (fun s hs => (eL s hs).2.1) (by show (gS y S.length).fin = _; rw [en]) (by show (gS y (S.length + 1)).fin = (gS S q).fin; rw [em]; exact (hR.same q hqn').2.1)
        (fun s hs hsq => ofL_link (by rw [eo s hs hsq]; exact (hR2.same s hs).2.2)) ?_ ?_ ?_
        (fun s hs h1 h2 => ?_) (fun s hs h1 h2 => ?_) (fun s d hs hnd => ?_) (fun d => ?_) (fun h1 h2 => ?_) (fun d hnd => ?_), by rw [hw2]; omega, if_pos rfl, by rw [hw2]; exact Nat.le_refl _⟩
      · have hl : ¬ (gS y q).link < 0 := by rw [eq]; simp only; omega
        have := ofL_K' hl
        rw [eq] at this
        exact this
      · have hl : ¬ (gS y S.length).link < 0 := by rw [en]; simp only; omega
        have := ofL_K' hl
        rw [en] at this
        exact this
      · show (ofL y).K (S.length + 1) = (ofL S).K q
        have : (gS y (S.length + 1)).link = (gS S q).link := by rw [em]; exact (hR.same q hqn').2.2
        simp only [ofL, this]
      · show nxE (gS y s).edges c = _
        have hnY : ¬ Y s := fun hh => by rw [((hY s).1 hh).2.2] at h2; cases h2
        rw [(eL s hs).2.2, hR2.no s c hs (fun hh => hnY hh.2)]
        exact hR.yes s hs ((hX s).2 ⟨hs, h1, h2⟩)
      · show nxE (gS y s).edges c = _
        rw [(eL s hs).2.2]
        exact hR2.yes s hs ((hY s).2 ⟨hs, h1, h2⟩)
      · show nxE (gS y s).edges d = _
        rw [(eL s hs).2.2, hR2.no s d hs (fun hh => hnd ⟨hh.1, ((hY s).1 hh.2).2.1, .inr ((hY s).1 hh.2).2.2⟩)]
        exact hR.no s d hs (fun hh => hnd ⟨hh.1, ((hX s).1 hh.2).2.1, .inl ((hX s).1 hh.2).2.2⟩)
      · show nxE (gS y S.length).edges d = none
        rw [en]; rfl
      · show nxE (gS y (S.length + 1)).edges c = _
        rw [em]
        exact hR.yes q hqn' ((hX q).2 ⟨hqn', h1, h2⟩)
      · show nxE (gS y (S.length + 1)).edges d = _
        rw [em]
        exact hR.no q d hqn' (fun hh => hnd ⟨hh.1, ((hX q).1 hh.2).2⟩)
/-- The automaton of a text. -/
def auto0 : List Ste := [⟨0, 0, -1, []⟩]
structure AOk (T : Bytes) (S : List Ste) (last : Nat) : Prop where
  inv : ∃ str, Inv T (ofL S) str ∧ str last = T
  lt : last < S.length
  le : S.length ≤ 2 * T.length + 1
theorem auto0_ok : AOk [] auto0 0 := ⟨⟨_, inv_nil _ rfl rfl rfl rfl (fun _ => rfl), rfl⟩, by simp [auto0], by simp [auto0]⟩
theorem AOk.add {T : Bytes} {S : List Ste} {last : Nat} (h : AOk T S last) (c : UInt8) : AOk (T ++ [c]) (addL S last c (T.length + 1)) S.length := by
  obtain ⟨⟨str, h1, h2⟩, h3, h4⟩ := h
  obtain ⟨str', g1, g2, g3, g4⟩ := addL_ok h1 h3 h2 c
  exact ⟨⟨str', g1, g3⟩, g2, by rw [List.length_append, List.length_singleton]; omega⟩
/-- What the walk wants of an automaton: links lead to shorter parts, edges to states. -/
structure Lk (S : List Ste) : Prop where
  pos : 0 < S.length
  zero : (gS S 0).long = 0
  link : ∀ s, s < S.length → (gS S s).link < 0 ∨ (gS S s).link.toNat < S.length ∧ (gS S (gS S s).link.toNat).long < (gS S s).long
  edge : ∀ s c t, s < S.length → nxE (gS S s).edges c = some t → t < S.length
theorem Inv.lk {T : Bytes} {S : List Ste} {str : Nat → Bytes} (h : Inv T (ofL S) str) : Lk S ∧ ∀ s, s < S.length → (gS S s).long ≤ T.length := by
  refine ⟨⟨h.pos, ?_, fun s hs => ?_, fun s c t hs ht => (h.esome s hs c t ht).1⟩, fun s hs => ?_⟩
  · have := h.len 0 h.pos
    rw [h.root.1] at this
    exact this.symm
  · by_cases hl : (gS S s).link < 0
    · exact .inl hl
    · right
      by_cases h0 : s = 0
      · subst h0
        have := h.root.2
        rw [ofL_K' hl] at this
        cases this
      · obtain ⟨p, k1, k2, k3, _⟩ := h.link s hs h0
        rw [ofL_K' hl] at k1
        cases k1
        exact ⟨k2, k3⟩
  · have h1 := h.len s hs
    have h2 := occ_len (h.at_ s hs)
    have h3 := occ_le (h.at_ s hs)
    have h4 : (ofL S).L s = (gS S s).long := rfl
    omega
/-! ### Reading -/
/-- How far the automaton reads, and where it is then. -/
def readL (S : List Ste) : Nat → Bytes → Nat × Nat
  | s, [] => (0, s)
  | s, c :: w => match nxE (gS S s).edges c with
    | none => (0, s)
    | some t => ((readL S t w).1 + 1, (readL S t w).2)
theorem readL_ok {T : Bytes} {S : List Ste} {str : Nat → Bytes} (h : Inv T (ofL S) str) : ∀ (w u : Bytes) (s : Nat), s < S.length → Of T (str s) u → (readL S s w).2 < S.length ∧ (readL S s w).1 ≤ w.length ∧ Of T (str (readL S s w).2) (u ++ w.take (readL S s w).1) ∧ ((∃ e, occ T u e) → ∃ e, occ T (u ++ w.take (readL S s w).1) e) ∧ ((readL S s w).1 < w.length → ∀ e, ¬ occ T (u ++ w.take ((readL S s w).1 + 1)) e)
  | [], u, s, hs, ho => by
    refine ⟨hs, Nat.le_refl _, by simpa [readL] using ho, by simp [readL], fun hh => by simp [readL] at hh⟩
  | c :: w, u, s, hs, ho => by
    rw [readL]
    cases hn : nxE (gS S s).edges c with
    | none =>
      refine ⟨hs, Nat.zero_le _, by simpa using ho, by simp, fun _ e he => ?_⟩
      simp only [Nat.zero_add, List.take_succ_cons, List.take_zero] at he
      exact (h.read hs ho).1 hn e he
    | some t =>
      obtain ⟨h1, h2, h3⟩ := (h.read hs ho).2 t hn
      obtain ⟨g1, g2, g3, g4, g5⟩ := readL_ok h w (u ++ [c]) t h1 h3
      simp only [List.take_succ_cons]
      have e : ∀ k, u ++ [c] ++ w.take k = u ++ c :: w.take k := fun k => by simp
      rw [e] at g3 g4 g5
      exact ⟨g1, by simp only [List.length_cons]; omega, g3, fun _ => g4 h2, fun hh => g5 (by simp only [List.length_cons] at hh; omega)⟩
/-! ### .. and what the reference finds -/
theorem lcp_take {x w : Bytes} : ∀ {l : Nat}, l ≤ w.length → (l ≤ lcp x w ↔ w.take l <+: x) := by
  induction x generalizing w with
  | nil =>
    intro l hl
    cases w with
    | nil => simp [lcp] at *; simp [hl]
    | cons b w =>
      cases l with
      | zero => simp
      | succ l => simp [lcp]
  | cons a x ih =>
    intro l hl
    cases w with
    | nil => simp at hl; subst hl; simp
    | cons b w =>
      cases l with
      | zero => simp
      | succ l =>
        simp only [List.length_cons] at hl
        rw [lcp, List.take_succ_cons]
        by_cases e : a = b
        · subst e
          rw [if_pos rfl, List.prefix_cons_inj]
          rw [← ih (w := w) (l := l) (by omega)]
          omega
        · rw [if_neg e]
          constructor
          · intro hh; omega
          · rintro ⟨t, ht⟩
            simp only [List.cons_append, List.cons.injEq] at ht
            exact absurd ht.1.symm e
theorem occ_start {T u : Bytes} {k : Nat} : occ T u (k + u.length) ↔ k + u.length ≤ T.length ∧ u <+: T.drop k := by
  unfold occ
  constructor
  · rintro ⟨h1, ⟨t, ht⟩⟩
    refine ⟨h1, ?_⟩
    have hl := congrArg List.length ht
    rw [List.length_append, List.length_take] at hl
    have hk : t.length = k := by omega
    have e : T.drop k = u ++ T.drop (k + u.length) := by
      have h2 : T = T.take (k + u.length) ++ T.drop (k + u.length) := (List.take_append_drop _ _).symm
      conv => lhs; rw [h2, ← ht]
      rw [List.append_assoc, List.drop_append_of_le_length (by omega), List.drop_of_length_le (by omega)]
      rfl
    exact ⟨_, e.symm⟩
  · rintro ⟨h1, ⟨t, ht⟩⟩
    refine ⟨h1, T.take k, ?_⟩
    rw [List.take_add, ← ht, List.take_left']
    rfl
theorem bestM_spec (a w : Bytes) : ∀ n, (∀ k, k < n → lcp (a.drop k) w ≤ (bestM a w n).2) ∧ ((bestM a w n).2 = 0 ∧ (bestM a w n).1 = 0 ∨ 0 < (bestM a w n).2 ∧ (bestM a w n).1 < n ∧ lcp (a.drop (bestM a w n).1) w = (bestM a w n).2 ∧ ∀ k, k < (bestM a w n).1 → lcp (a.drop k) w < (bestM a w n).2)
  | 0 => ⟨fun k hk => by omega, .inl ⟨rfl, rfl⟩⟩
  | n + 1 => by
    obtain ⟨h1, h2⟩ := bestM_spec a w n
    rw [bestM]
    by_cases hc : (bestM a w n).2 < lcp (a.drop n) w
    · rw [if_pos hc]
      refine ⟨fun k hk => ?_, .inr ⟨by simp only; omega, by simp only; omega, rfl, fun k hk => ?_⟩⟩
      · by_cases e : k = n
        · subst e; exact Nat.le_refl _
        · have := h1 k (by omega); simp only; omega
      · have := h1 k hk; simp only; omega
    · rw [if_neg hc]
      refine ⟨fun k hk => ?_, ?_⟩
      · by_cases e : k = n
        · subst e; omega
        · exact h1 k (by omega)
      · rcases h2 with h2 | ⟨h3, h4, h5, h6⟩
        · exact .inl h2
        · exact .inr ⟨h3, by omega, h5, h6⟩
/-- What the automaton finds is what the reference finds. -/
theorem read_best {a : Bytes} {S : List Ste} {str : Nat → Bytes} (h : Inv a (ofL S) str) (w : Bytes) : bestM a w a.length = ((gS S (readL S 0 w).2).fin - (readL S 0 w).1, (readL S 0 w).1) ∧ (readL S 0 w).1 ≤ (gS S (readL S 0 w).2).fin ∧ (gS S (readL S 0 w).2).fin ≤ a.length := by
  have hr0 : Of a (str 0) [] := by rw [h.root.1]; exact Of.self _ _
  obtain ⟨g1, g2, g3, g4, g5⟩ := readL_ok h w [] 0 h.pos hr0
  simp only [List.nil_append] at g3 g4 g5
  generalize readL S 0 w = r at *
  obtain ⟨l, s⟩ := r
  simp only at *
  have hfin : (ofL S).E s = (gS S s).fin := rfl
  have hat := h.at_ s g1
  have hfirst := h.first s g1
  rw [hfin] at hat hfirst
  generalize (gS S s).fin = e at *
  have hu : occ a (w.take l) e := occ_suf g3.1 hat
  have hul : (w.take l).length = l := by rw [List.length_take]; omega
  have hmin : ∀ e', occ a (w.take l) e' → e ≤ e' := fun e' he' => hfirst e' (g3.2 e' he')
  have hle := occ_len hu
  rw [hul] at hle
  have hea := occ_le hu
  refine ⟨?_, hle, hea⟩
  have hlcp : ∀ k m, m ≤ w.length → k + m ≤ a.length → (m ≤ lcp (a.drop k) w ↔ occ a (w.take m) (k + m)) := fun k m hm hk => by
    have hml : (w.take m).length = m := by rw [List.length_take]; omega
    have := occ_start (T := a) (u := w.take m) (k := k)
    rw [hml] at this
    rw [this, lcp_take hm]
    exact ⟨fun hh => ⟨hk, hh⟩, fun hh => hh.2⟩
  have hub : ∀ k, k < a.length → lcp (a.drop k) w ≤ l := fun k hk => by
    have hb := lcp_le (a.drop k) w
    rw [List.length_drop] at hb
    refine Nat.le_of_not_lt fun hlt => ?_
    have := (hlcp k (l + 1) (by omega) (by omega)).1 (by omega)
    exact g5 (by omega) _ this
  obtain ⟨b1, b2⟩ := bestM_spec a w a.length
  have hbm : ∀ k, k + l ≤ a.length → occ a (w.take l) (k + l) → 0 < l → l ≤ (bestM a w a.length).2 := fun k hk ho hl0 => by
    have h1 := (hlcp k l (by omega) hk).2 ho
    have h2 := b1 k (by omega)
    omega
  by_cases hl0 : l = 0
  · subst hl0
    have he0 : e = 0 := by
      have := hmin 0 (by simp only [List.take_zero]; exact occ_nil (Nat.zero_le _))
      omega
    subst he0
    rcases b2 with ⟨b3, b4⟩ | ⟨b3, b4, b5, b6⟩
    · rw [Prod.ext_iff]; exact ⟨b4, b3⟩
    · have := hub _ b4; omega
  · have hstart : occ a (w.take l) (e - l + l) := by rw [show e - l + l = e by omega]; exact hu
    have h1 := hbm (e - l) (by omega) hstart (by omega)
    rcases b2 with ⟨b3, b4⟩ | ⟨b3, b4, b5, b6⟩
    · omega
    · have h2 := hub _ b4
      have hl : (bestM a w a.length).2 = l := by omega
      rw [Prod.ext_iff]
      refine ⟨?_, hl⟩
      simp only
      rw [hl] at b5 b6
      have hb := lcp_le (a.drop (bestM a w a.length).1) w
      rw [List.length_drop] at hb
      have ho := (hlcp (bestM a w a.length).1 l (by omega) (by omega)).1 (by omega)
      have h3 := hmin _ ho
      have h4 : ¬ e - l < (bestM a w a.length).1 := fun hlt => by
        have := b6 _ hlt
        have := (hlcp (e - l) l (by omega) (by omega)).2 hstart
        omega
      omega
end Go.Proofs
