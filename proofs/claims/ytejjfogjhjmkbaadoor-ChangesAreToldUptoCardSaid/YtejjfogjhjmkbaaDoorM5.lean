/-
  Walks and plain laws, part 5.
-/
import Derived.Test.YtejjfogjhjmkbaaDoorM4
import Derived.Test.YtejjfogjhjmkbaaDoorM3
import Derived.Test.YtejjfogjhjmkbaaDoorM2
/- Plain laws: what the automaton is when a sign was added; what it reads. -/
namespace Go.Proofs
set_option linter.unusedSimpArgs false
set_option linter.unusedVariables false
theorem ofL_link {sts S : List Ste} {s : Nat} (h : (gS sts s).link = (gS S s).link) : (ofL sts).K s = (ofL S).K s := by
  simp only [ofL, h]
theorem gS_linkS {sts : List Ste} {p l s : Nat} (h : p < sts.length) : gS (linkS sts p l) s = if s = p then ⟨(gS sts p).long, (gS sts p).fin, (l : Int), (gS sts p).edges⟩ else gS sts s := gS_set h
theorem addL_ok {T : Bytes} {S : List Ste} {str : Nat → Bytes} (h : Inv T (ofL S) str) {last : Nat} (hlast : last < S.length) (hsl : str last = T) (c : UInt8) :
    ∃ str', Inv (T ++ [c]) (ofL (addL S last c (T.length + 1))) str' ∧ S.length < (addL S last c (T.length + 1)).length ∧ str' S.length = T ++ [c] ∧ (addL S last c (T.length + 1)).length ≤ S.length + 2 := by
  have hLlast : (ofL S).L last = T.length := by rw [← h.len last hlast, hsl]
  have hLle : ∀ s, s < S.length → str s <:+ T → (ofL S).L s ≤ T.length := fun s hs hT => by rw [← h.len s hs]; exact hT.length_le
  obtain ⟨X, hR, hx, hX, hp, hn⟩ := ch1_ok h (c := c) (x := ⟨T.length + 1, T.length + 1, 0, []⟩) (T.length + 1 + 1) (S ++ [⟨T.length + 1, T.length + 1, 0, []⟩]) (last : Int) (fun _ => False)
    ⟨by simp, fun s hs => by rw [gS_left hs]; exact ⟨rfl, rfl, rfl⟩, fun s _ _ => rfl, fun s _ hf => hf.elim, fun s d hs _ => by rw [gS_left hs]; rfl⟩ (gS_new _ _)
    (fun s => ⟨fun hf => hf.elim, fun hh => by
      have := hLle s hh.1 hh.2.1
      rcases hh.2.2 with h3 | h3
      · omega
      · rw [Int.toNat_natCast, hLlast] at h3; omega⟩) (fun s hf => hf.elim) (fun _ => ⟨by simpa using hlast, by rw [Int.toNat_natCast, hsl]; exact List.suffix_refl _, by rw [Int.toNat_natCast, hLlast]; omega⟩)
  have hadd := addL.eq_1 S last c (T.length + 1)
  try simp only at hadd
  generalize hr : ch1 c S.length (T.length + 1 + 1) (S ++ [⟨T.length + 1, T.length + 1, 0, []⟩]) (last : Int) = r at *
  have hstr : ∀ s, s < S.length → (fun s => if s = S.length then T ++ [c] else str s) s = str s := fun s hs => if_neg (by omega)
  by_cases hneg : r.2 < 0
  · rw [if_pos hneg] at hadd
    rw [hadd]
    have hno := hn hneg
    refine ⟨fun s => if s = S.length then T ++ [c] else str s, step1 h (h.wd_none hno) h.pos rfl hR.len hstr (if_pos rfl) (fun s hs => (hR.same s hs).1) (by show (gS r.1 S.length).long = _; rw [hx]) (fun s hs => (hR.same s hs).2.1) (by show (gS r.1 S.length).fin = _; rw [hx])
      (fun s hs => ofL_link (hR.same s hs).2.2) ?_ (fun s hs h1 h2 => hR.yes s hs ((hX s).2 ⟨hs, h1, h2⟩)) (fun s d hs hnd => hR.no s d hs (fun hh => hnd ⟨hh.1, ((hX s).1 hh.2).2⟩)) (fun d => ?_), by rw [hR.len]; omega, if_pos rfl, by rw [hR.len]; omega⟩
    · have hl : ¬ (gS r.1 S.length).link < 0 := by rw [hx]; simp
      have := ofL_K' hl
      rw [hx] at this
      exact this
    · show nxE (gS r.1 S.length).edges d = none
      rw [hx]; rfl
  · rw [if_neg hneg] at hadd
    obtain ⟨h1, h2, ⟨q, hq⟩, hmax⟩ := hp (by omega)
    generalize ha : r.2.toNat = a at hadd h1 h2 hq hmax
    obtain ⟨hW, hqn, hqo⟩ := h.wd_some h1 h2 hq hmax
    have hnXa : ¬ X a := fun hh => by rw [((hX a).1 hh).2.2] at hq; cases hq
    have hedge : nxE (gS r.1 a).edges c = some q := (hR.no a c h1 (fun hh => hnXa hh.2)).trans hq
    rw [hedge] at hadd
    simp only at hadd
    have hqn' : q < S.length := hqn
    have hLq : (gS r.1 q).long = (ofL S).L q := (hR.same q hqn').1
    have hLa : (gS r.1 a).long = (ofL S).L a := (hR.same a h1).1
    have hlenw : (str a ++ [c]).length = (ofL S).L a + 1 := by rw [List.length_append, h.len a h1]; rfl
    rw [hLq, hLa] at hadd
    by_cases hc : (ofL S).L q = (ofL S).L a + 1
    · rw [if_pos hc] at hadd
      rw [hadd]
      have hqw : str q = str a ++ [c] := (suf_eq hqo.1 (by rw [hlenw, h.len q hqn']; omega)).symm
      have hnl : S.length < r.1.length := by rw [hR.len]; omega
      have hg := fun s => gS_linkS (sts := r.1) (p := S.length) (l := q) (s := s) hnl
      have hgo : ∀ s, s < S.length → gS (linkS r.1 S.length q) s = gS r.1 s := fun s hs => by rw [hg, if_neg (by omega)]
      have hgn : gS (linkS r.1 S.length q) S.length = ⟨T.length + 1, T.length + 1, (q : Int), []⟩ := by rw [hg, if_pos rfl, hx]
      refine ⟨fun s => if s = S.length then T ++ [c] else str s, step1 h hW hqn' hqw (by show (linkS r.1 S.length q).length = _; rw [linkS_len]; exact hR.len) hstr (if_pos rfl) (fun s hs => by show (gS (linkS r.1 S.length q) s).long = _; rw [hgo s hs]; exact (hR.same s hs).1) (by show (gS (linkS r.1 S.length q) S.length).long = _; rw [hgn])
        (fun s hs => by show (gS (linkS r.1 S.length q) s).fin = _; rw [hgo s hs]; exact (hR.same s hs).2.1) (by show (gS (linkS r.1 S.length q) S.length).fin = _; rw [hgn])
        (fun s hs => ofL_link (by rw [hgo s hs]; exact (hR.same s hs).2.2)) ?_ (fun s hs h1 h2 => by show nxE (gS (linkS r.1 S.length q) s).edges c = _; rw [hgo s hs]; exact hR.yes s hs ((hX s).2 ⟨hs, h1, h2⟩))
        (fun s d hs hnd => by show nxE (gS (linkS r.1 S.length q) s).edges d = _; rw [hgo s hs]; exact hR.no s d hs (fun hh => hnd ⟨hh.1, ((hX s).1 hh.2).2⟩)) (fun d => ?_), by rw [linkS_len]; exact hnl, if_pos rfl, by rw [linkS_len, hR.len]; omega⟩
      · have hl : ¬ (gS (linkS r.1 S.length q) S.length).link < 0 := by rw [hgn]; simp
        have := ofL_K' hl
        rw [hgn] at this
        exact this
      · show nxE (gS (linkS r.1 S.length q) S.length).edges d = none
        rw [hgn]; rfl
    · rw [if_neg hc] at hadd
      have hml : r.1.length = S.length + 1 := hR.len
      rw [hml] at hadd
      have hlt : (str a ++ [c]).length < (str q).length := by
        have := hqo.1.length_le
        rw [hlenw, h.len q hqn'] at *
        omega
      have hnxa : ∀ s, s < S.length → str s <:+ T → (ofL S).L s ≤ (ofL S).L a → ¬ X s := fun s hs hT hle hXs => by
        obtain ⟨t, ht⟩ := h.chain_edge hs h1 hT h2 hle hq
        rw [((hX s).1 hXs).2.2] at ht; cases ht
      obtain ⟨Y, hR2, hx2, hy2, hY⟩ := ch2_ok h (c := c) (x := ⟨T.length + 1, T.length + 1, 0, []⟩) (y := ⟨(ofL S).L a + 1, (gS r.1 q).fin, (gS r.1 q).link, (gS r.1 q).edges⟩) h1 h2 hq hqn' (g := fun s d => nxE (gS r.1 s).edges d)
        (fun s hs hT hle => hR.no s c hs (fun hh => hnxa s hs hT hle hh.2)) hmax (T.length + 1 + 1) (r.1 ++ [⟨(ofL S).L a + 1, (gS r.1 q).fin, (gS r.1 q).link, (gS r.1 q).edges⟩]) r.2 (fun _ => False)
        ⟨by simp [hml], fun s hs => by rw [gS_left (by omega)]; exact hR.same s hs, fun s _ _ => rfl, fun s _ hf => hf.elim, fun s d hs _ => by rw [gS_left (by omega)]⟩
        (by rw [gS_left (by omega)]; exact hx) (by rw [← hml]; exact gS_new _ _)
        (fun s => ⟨fun hf => hf.elim, fun hh => by
          obtain ⟨a1, a2, a3, a4⟩ := hh
          rcases a4 with a4 | a4
          · omega
          · rw [ha] at a4
            rw [hmax s a1 a2 a4] at a3; cases a3⟩)
        (fun _ => by
          rw [ha]
          exact ⟨h1, h2, by have := hLle a h1 h2; omega, Nat.le_refl _⟩)
      generalize ch2 c q (S.length + 1) (T.length + 1 + 1) (r.1 ++ [⟨(ofL S).L a + 1, (gS r.1 q).fin, (gS r.1 q).link, (gS r.1 q).edges⟩]) r.2 = z at *
      rw [hadd]
      have hzl : z.length = S.length + 2 := hR2.len
      have hzn : ∀ s, gS (linkS (linkS z q (S.length + 1)) S.length (S.length + 1)) s = if s = S.length then ⟨T.length + 1, T.length + 1, ((S.length + 1 : Nat) : Int), []⟩ else if s = q then ⟨(gS z q).long, (gS z q).fin, ((S.length + 1 : Nat) : Int), (gS z q).edges⟩ else gS z s := fun s => by
        rw [gS_linkS (by rw [linkS_len]; omega), gS_linkS (by omega), gS_linkS (by omega), if_neg (show ¬ S.length = q by omega), hx2]
      have hw2 : (linkS (linkS z q (S.length + 1)) S.length (S.length + 1)).length = S.length + 2 := by rw [linkS_len, linkS_len, hzl]
      generalize linkS (linkS z q (S.length + 1)) S.length (S.length + 1) = y at *
      have en : gS y S.length = ⟨T.length + 1, T.length + 1, ((S.length + 1 : Nat) : Int), []⟩ := by rw [hzn, if_pos rfl]
      have em : gS y (S.length + 1) = ⟨(ofL S).L a + 1, (gS r.1 q).fin, (gS r.1 q).link, (gS r.1 q).edges⟩ := by rw [hzn, if_neg (by omega), if_neg (by omega)]; exact hy2
      have eq : gS y q = ⟨(gS z q).long, (gS z q).fin, ((S.length + 1 : Nat) : Int), (gS z q).edges⟩ := by rw [hzn, if_neg (by omega), if_pos rfl]
      have eo : ∀ s, s < S.length → s ≠ q → gS y s = gS z s := fun s hs hsq => by rw [hzn, if_neg (by omega), if_neg hsq]
      have eL : ∀ s, s < S.length → (gS y s).long = (gS S s).long ∧ (gS y s).fin = (gS S s).fin ∧ (gS y s).edges = (gS z s).edges := fun s hs => by
        by_cases hsq : s = q
        · subst hsq; rw [eq]; exact ⟨(hR2.same s hs).1, (hR2.same s hs).2.1, rfl⟩
        · rw [eo s hs hsq]; exact ⟨(hR2.same s hs).1, (hR2.same s hs).2.1, rfl⟩
      have hnXq : ∀ s, X s → (ofL S).nx s c = none := fun s hs => ((hX s).1 hs).2.2
      refine ⟨fun s => if s = S.length then T ++ [c] else if s = S.length + 1 then str a ++ [c] else str s, step2 h hW hqn' hqo hlt (by show y.length = _; exact hw2) (fun s hs => by rw [if_neg (by have : s < S.length := hs; omega), if_neg (by have : s < S.length := hs; omega)]) (if_pos rfl)
        (by show (if S.length + 1 = S.length then _ else if S.length + 1 = S.length + 1 then _ else _) = _; rw [if_neg (by omega), if_pos rfl])
        (fun s hs => (eL s hs).1) (by show (gS y S.length).long = _; rw [en]) (by show (gS y (S.length + 1)).long = _; rw [em, hlenw])
        (fun s hs => (eL s hs).2.1) (by show (gS y S.length).fin = _; rw [en]) (by show (gS y (S.length + 1)).fin = (gS S q).fin; rw [em]; exact (hR.same q hqn').2.1)
        (fun s hs hsq => ofL_link (by rw [eo s hs hsq]; exact (hR2.same s hs).2.2)) ?_ ?_ ?_
        (fun s hs h1 h2 => ?_) (fun s hs h1 h2 => ?_) (fun s d hs hnd => ?_) (fun d => ?_) (fun h1 h2 => ?_) (fun d hnd => ?_), by rw [hw2]; omega, if_pos rfl, by rw [hw2]; exact Nat.le_refl _⟩
      · have hl : ¬ (gS y q).link < 0 := by rw [eq]; simp only; omega
        have := ofL_K' hl
        rw [eq] at this
        exact this
      · have hl : ¬ (gS y S.length).link < 0 := by rw [en]; simp only; omega
        have := ofL_K' hl
        rw [en] at this
        exact this
      · show (ofL y).K (S.length + 1) = (ofL S).K q
        have : (gS y (S.length + 1)).link = (gS S q).link := by rw [em]; exact (hR.same q hqn').2.2
        simp only [ofL, this]
      · show nxE (gS y s).edges c = _
        have hnY : ¬ Y s := fun hh => by rw [((hY s).1 hh).2.2] at h2; cases h2
        rw [(eL s hs).2.2, hR2.no s c hs (fun hh => hnY hh.2)]
        exact hR.yes s hs ((hX s).2 ⟨hs, h1, h2⟩)
      · show nxE (gS y s).edges c = _
        rw [(eL s hs).2.2]
        exact hR2.yes s hs ((hY s).2 ⟨hs, h1, h2⟩)
      · show nxE (gS y s).edges d = _
        rw [(eL s hs).2.2, hR2.no s d hs (fun hh => hnd ⟨hh.1, ((hY s).1 hh.2).2.1, .inr ((hY s).1 hh.2).2.2⟩)]
        exact hR.no s d hs (fun hh => hnd ⟨hh.1, ((hX s).1 hh.2).2.1, .inl ((hX s).1 hh.2).2.2⟩)
      · show nxE (gS y S.length).edges d = none
        rw [en]; rfl
      · show nxE (gS y (S.length + 1)).edges c = _
        rw [em]
        exact hR.yes q hqn' ((hX q).2 ⟨hqn', h1, h2⟩)
      · show nxE (gS y (S.length + 1)).edges d = _
        rw [em]
        exact hR.no q d hqn' (fun hh => hnd ⟨hh.1, ((hX q).1 hh.2).2⟩)
/-- The automaton of a text. -/
def auto0 : List Ste := [⟨0, 0, -1, []⟩]
structure AOk (T : Bytes) (S : List Ste) (last : Nat) : Prop where
  inv : ∃ str, Inv T (ofL S) str ∧ str last = T
  lt : last < S.length
  le : S.length ≤ 2 * T.length + 1
theorem auto0_ok : AOk [] auto0 0 := ⟨⟨_, inv_nil _ rfl rfl rfl rfl (fun _ => rfl), rfl⟩, by simp [auto0], by simp [auto0]⟩
theorem AOk.add {T : Bytes} {S : List Ste} {last : Nat} (h : AOk T S last) (c : UInt8) : AOk (T ++ [c]) (addL S last c (T.length + 1)) S.length := by
  obtain ⟨⟨str, h1, h2⟩, h3, h4⟩ := h
  obtain ⟨str', g1, g2, g3, g4⟩ := addL_ok h1 h3 h2 c
  exact ⟨⟨str', g1, g3⟩, g2, by rw [List.length_append, List.length_singleton]; omega⟩
/-- What the walk wants of an automaton: links lead to shorter parts, edges to states. -/
structure Lk (S : List Ste) : Prop where
  pos : 0 < S.length
  zero : (gS S 0).long = 0
  link : ∀ s, s < S.length → (gS S s).link < 0 ∨ (gS S s).link.toNat < S.length ∧ (gS S (gS S s).link.toNat).long < (gS S s).long
  edge : ∀ s c t, s < S.length → nxE (gS S s).edges c = some t → t < S.length
theorem Inv.lk {T : Bytes} {S : List Ste} {str : Nat → Bytes} (h : Inv T (ofL S) str) : Lk S ∧ ∀ s, s < S.length → (gS S s).long ≤ T.length := by
  refine ⟨⟨h.pos, ?_, fun s hs => ?_, fun s c t hs ht => (h.esome s hs c t ht).1⟩, fun s hs => ?_⟩
  · have := h.len 0 h.pos
    rw [h.root.1] at this
    exact this.symm
  · by_cases hl : (gS S s).link < 0
    · exact .inl hl
    · right
      by_cases h0 : s = 0
      · subst h0
        have := h.root.2
        rw [ofL_K' hl] at this
        cases this
      · obtain ⟨p, k1, k2, k3, _⟩ := h.link s hs h0
        rw [ofL_K' hl] at k1
        cases k1
        exact ⟨k2, k3⟩
  · have h1 := h.len s hs
    have h2 := occ_len (h.at_ s hs)
    have h3 := occ_le (h.at_ s hs)
    have h4 : (ofL S).L s = (gS S s).long := rfl
    omega
/-! ### Reading -/
/-- How far the automaton reads, and where it is then. -/
def readL (S : List Ste) : Nat → Bytes → Nat × Nat
  | s, [] => (0, s)
  | s, c :: w => match nxE (gS S s).edges c with
    | none => (0, s)
    | some t => ((readL S t w).1 + 1, (readL S t w).2)
theorem readL_ok {T : Bytes} {S : List Ste} {str : Nat → Bytes} (h : Inv T (ofL S) str) : ∀ (w u : Bytes) (s : Nat), s < S.length → Of T (str s) u → (readL S s w).2 < S.length ∧ (readL S s w).1 ≤ w.length ∧ Of T (str (readL S s w).2) (u ++ w.take (readL S s w).1) ∧ ((∃ e, occ T u e) → ∃ e, occ T (u ++ w.take (readL S s w).1) e) ∧ ((readL S s w).1 < w.length → ∀ e, ¬ occ T (u ++ w.take ((readL S s w).1 + 1)) e)
  | [], u, s, hs, ho => by
    refine ⟨hs, Nat.le_refl _, by simpa [readL] using ho, by simp [readL], fun hh => by simp [readL] at hh⟩
  | c :: w, u, s, hs, ho => by
    rw [readL]
    cases hn : nxE (gS S s).edges c with
    | none =>
      refine ⟨hs, Nat.zero_le _, by simpa using ho, by simp, fun _ e he => ?_⟩
      simp only [Nat.zero_add, List.take_succ_cons, List.take_zero] at he
      exact (h.read hs ho).1 hn e he
    | some t =>
      obtain ⟨h1, h2, h3⟩ := (h.read hs ho).2 t hn
      obtain ⟨g1, g2, g3, g4, g5⟩ := readL_ok h w (u ++ [c]) t h1 h3
      simp only [List.take_succ_cons]
      have e : ∀ k, u ++ [c] ++ w.take k = u ++ c :: w.take k := fun k => by simp
      rw [e] at g3 g4 g5
      exact ⟨g1, by simp only [List.length_cons]; omega, g3, fun _ => g4 h2, fun hh => g5 (by simp only [List.length_cons] at hh; omega)⟩
/-! ### .. and what the reference finds -/
theorem lcp_take {x w : Bytes} : ∀ {l : Nat}, l ≤ w.length → (l ≤ lcp x w ↔ w.take l <+: x) := by
  induction x generalizing w with
  | nil =>
    intro l hl
    cases w with
    | nil => simp [lcp] at *; simp [hl]
    | cons b w =>
      cases l with
      | zero => simp
      | succ l => simp [lcp]
  | cons a x ih =>
    intro l hl
    cases w with
    | nil => simp at hl; subst hl; simp
    | cons b w =>
      cases l with
      | zero => simp
      | succ l =>
        simp only [List.length_cons] at hl
        rw [lcp, List.take_succ_cons]
        by_cases e : a = b
        · subst e
          rw [if_pos rfl, List.prefix_cons_inj]
          rw [← ih (w := w) (l := l) (by omega)]
          omega
        · rw [if_neg e]
          constructor
          · intro hh; omega
          · rintro ⟨t, ht⟩
            simp only [List.cons_append, List.cons.injEq] at ht
            exact absurd ht.1.symm e
theorem occ_start {T u : Bytes} {k : Nat} : occ T u (k + u.length) ↔ k + u.length ≤ T.length ∧ u <+: T.drop k := by
  unfold occ
  constructor
  · rintro ⟨h1, ⟨t, ht⟩⟩
    refine ⟨h1, ?_⟩
    have hl := congrArg List.length ht
    rw [List.length_append, List.length_take] at hl
    have hk : t.length = k := by omega
    have e : T.drop k = u ++ T.drop (k + u.length) := by
      have h2 : T = T.take (k + u.length) ++ T.drop (k + u.length) := (List.take_append_drop _ _).symm
      conv => lhs; rw [h2, ← ht]
      rw [List.append_assoc, List.drop_append_of_le_length (by omega), List.drop_of_length_le (by omega)]
      rfl
    exact ⟨_, e.symm⟩
  · rintro ⟨h1, ⟨t, ht⟩⟩
    refine ⟨h1, T.take k, ?_⟩
    rw [List.take_add, ← ht, List.take_left']
    rfl
theorem bestM_spec (a w : Bytes) : ∀ n, (∀ k, k < n → lcp (a.drop k) w ≤ (bestM a w n).2) ∧ ((bestM a w n).2 = 0 ∧ (bestM a w n).1 = 0 ∨ 0 < (bestM a w n).2 ∧ (bestM a w n).1 < n ∧ lcp (a.drop (bestM a w n).1) w = (bestM a w n).2 ∧ ∀ k, k < (bestM a w n).1 → lcp (a.drop k) w < (bestM a w n).2)
  | 0 => ⟨fun k hk => by omega, .inl ⟨rfl, rfl⟩⟩
  | n + 1 => by
    obtain ⟨h1, h2⟩ := bestM_spec a w n
    rw [bestM]
    by_cases hc : (bestM a w n).2 < lcp (a.drop n) w
    · rw [if_pos hc]
      refine ⟨fun k hk => ?_, .inr ⟨by simp only; omega, by simp only; omega, rfl, fun k hk => ?_⟩⟩
      · by_cases e : k = n
        · subst e; exact Nat.le_refl _
        · have := h1 k (by omega); simp only; omega
      · have := h1 k hk; simp only; omega
    · rw [if_neg hc]
      refine ⟨fun k hk => ?_, ?_⟩
      · by_cases e : k = n
        · subst e; omega
        · exact h1 k (by omega)
      · rcases h2 with h2 | ⟨h3, h4, h5, h6⟩
        · exact .inl h2
        · exact .inr ⟨h3, by omega, h5, h6⟩
/-- What the automaton finds is what the reference finds. -/
theorem read_best {a : Bytes} {S : List Ste} {str : Nat → Bytes} (h : Inv a (ofL S) str) (w : Bytes) : bestM a w a.length = ((gS S (readL S 0 w).2).fin - (readL S 0 w).1, (readL S 0 w).1) ∧ (readL S 0 w).1 ≤ (gS S (readL S 0 w).2).fin ∧ (gS S (readL S 0 w).2).fin ≤ a.length := by
  have hr0 : Of a (str 0) [] := by rw [h.root.1]; exact Of.self _ _
  obtain ⟨g1, g2, g3, g4, g5⟩ := readL_ok h w [] 0 h.pos hr0
  simp only [List.nil_append] at g3 g4 g5
  generalize readL S 0 w = r at *
  obtain ⟨l, s⟩ := r
  simp only at *
  have hfin : (ofL S).E s = (gS S s).fin := rfl
  have hat := h.at_ s g1
  have hfirst := h.first s g1
  rw [hfin] at hat hfirst
  generalize (gS S s).fin = e at *
  have hu : occ a (w.take l) e := occ_suf g3.1 hat
  have hul : (w.take l).length = l := by rw [List.length_take]; omega
  have hmin : ∀ e', occ a (w.take l) e' → e ≤ e' := fun e' he' => hfirst e' (g3.2 e' he')
  have hle := occ_len hu
  rw [hul] at hle
  have hea := occ_le hu
  refine ⟨?_, hle, hea⟩
  have hlcp : ∀ k m, m ≤ w.length → k + m ≤ a.length → (m ≤ lcp (a.drop k) w ↔ occ a (w.take m) (k + m)) := fun k m hm hk => by
    have hml : (w.take m).length = m := by rw [List.length_take]; omega
    have := occ_start (T := a) (u := w.take m) (k := k)
    rw [hml] at this
    rw [this, lcp_take hm]
    exact ⟨fun hh => ⟨hk, hh⟩, fun hh => hh.2⟩
  have hub : ∀ k, k < a.length → lcp (a.drop k) w ≤ l := fun k hk => by
    have hb := lcp_le (a.drop k) w
    rw [List.length_drop] at hb
    refine Nat.le_of_not_lt fun hlt => ?_
    have := (hlcp k (l + 1) (by omega) (by omega)).1 (by omega)
    exact g5 (by omega) _ this
  obtain ⟨b1, b2⟩ := bestM_spec a w a.length
  have hbm : ∀ k, k + l ≤ a.length → occ a (w.take l) (k + l) → 0 < l → l ≤ (bestM a w a.length).2 := fun k hk ho hl0 => by
    have h1 := (hlcp k l (by omega) hk).2 ho
    have h2 := b1 k (by omega)
    omega
  by_cases hl0 : l = 0
  · subst hl0
    have he0 : e = 0 := by
      have := hmin 0 (by simp only [List.take_zero]; exact occ_nil (Nat.zero_le _))
      omega
    subst he0
    rcases b2 with ⟨b3, b4⟩ | ⟨b3, b4, b5, b6⟩
    · rw [Prod.ext_iff]; exact ⟨b4, b3⟩
    · have := hub _ b4; omega
  · have hstart : occ a (w.take l) (e - l + l) := by rw [show e - l + l = e by omega]; exact hu
    have h1 := hbm (e - l) (by omega) hstart (by omega)
    rcases b2 with ⟨b3, b4⟩ | ⟨b3, b4, b5, b6⟩
    · omega
    · have h2 := hub _ b4
      have hl : (bestM a w a.length).2 = l := by omega
      rw [Prod.ext_iff]
      refine ⟨?_, hl⟩
      simp only
      rw [hl] at b5 b6
      have hb := lcp_le (a.drop (bestM a w a.length).1) w
      rw [List.length_drop] at hb
      have ho := (hlcp (bestM a w a.length).1 l (by omega) (by omega)).1 (by omega)
      have h3 := hmin _ ho
      have h4 : ¬ e - l < (bestM a w a.length).1 := fun hlt => by
        have := b6 _ hlt
        have := (hlcp (e - l) l (by omega) (by omega)).2 hstart
        omega
      omega
end Go.Proofs

/- Walks: the automaton: a state's next one; an edge is set. -/
namespace Go.Proofs
open Go Go.Abs
set_option linter.unusedSimpArgs false
set_option linter.unusedVariables false
set_option maxRecDepth 20000
def encE (e : UInt8 × Nat) : List AV := [.int .u8 (e.1.toNat : Int), .int .i64 (e.2 : Int)]
def flatE (es : List (UInt8 × Nat)) : List AV := (es.map encE).flatten
theorem flatE_len (es : List (UInt8 × Nat)) : (flatE es).length = es.length * 2 := by
  unfold flatE
  induction es with
  | nil => rfl
  | cons e es ih => simp only [List.map_cons, List.flatten_cons, List.length_append, List.length_cons, ih, encE, List.length_nil]; omega
theorem flatE_drop : ∀ (es : List (UInt8 × Nat)) (i : Nat), (flatE es).drop (i * 2) = flatE (es.drop i)
  | es, 0 => by simp
  | [], i + 1 => by simp [flatE]
  | e :: es, i + 1 => by
    have : (i + 1) * 2 = i * 2 + 2 := by omega
    rw [this, List.drop_succ_cons, ← flatE_drop es i]
    simp [flatE, encE]
theorem flatE_get {es : List (UInt8 × Nat)} {i : Nat} {e : UInt8 × Nat} (h : es[i]? = some e) : ((flatE es).drop (i * 2)).take 2 = encE e ∧ i * 2 + 2 ≤ (flatE es).length := by
  obtain ⟨hlt, rfl⟩ := List.getElem?_eq_some_iff.1 h
  rw [flatE_drop, flatE_len, List.drop_eq_getElem_cons hlt]
  refine ⟨?_, by omega⟩
  unfold flatE
  rw [List.map_cons, List.flatten_cons]
  rfl
theorem flatE_head {es : List (UInt8 × Nat)} {i : Nat} {e : UInt8 × Nat} (h : es[i]? = some e) : ((flatE es).drop (i * 2)).head? = some (.int .u8 (e.1.toNat : Int)) := by
  obtain ⟨hlt, rfl⟩ := List.getElem?_eq_some_iff.1 h
  rw [flatE_drop, List.drop_eq_getElem_cons hlt]
  unfold flatE
  rw [List.map_cons, List.flatten_cons]
  rfl
theorem flatE_set : ∀ {es : List (UInt8 × Nat)} {i : Nat} {c : UInt8} {t u : Nat}, es[i]? = some (c, t) → (flatE es).set (i * 2 + 1) (.int .i64 (u : Int)) = flatE (es.set i (c, u))
  | [], i, c, t, u, h => by simp at h
  | e :: es, 0, c, t, u, h => by
    simp at h
    subst h
    simp [flatE, encE]
  | e :: es, i + 1, c, t, u, h => by
    have ih := flatE_set (es := es) (i := i) (u := u) (by simpa using h)
    have : (i + 1) * 2 + 1 = (i * 2 + 1) + 1 + 1 := by omega
    rw [this]
    simp only [flatE, List.map_cons, List.flatten_cons, encE, List.cons_append, List.nil_append, List.set_cons_succ] at ih ⊢
    rw [ih]
theorem flatE_app (es : List (UInt8 × Nat)) (c : UInt8) (t : Nat) : flatE es ++ [.int .u8 (c.toNat : Int), .int .i64 (t : Int)] = flatE (es ++ [(c, t)]) := by
  simp [flatE, encE]
/-- The first place of a sign among the edges. -/
theorem nxE_at {c : UInt8} : ∀ {es : List (UInt8 × Nat)} {i : Nat} {t : Nat}, es[i]? = some (c, t) → (∀ j e, j < i → es[j]? = some e → ¬ e.1 = c) → nxE es c = some t ∧ ∀ u, setE es c u = es.set i (c, u)
  | [], i, t, h, _ => by simp at h
  | e :: es, 0, t, h, _ => by
    simp at h
    subst h
    exact ⟨by simp [nxE], fun u => by simp [setE]⟩
  | e :: es, i + 1, t, h, hn => by
    have he : ¬ e.1 = c := hn 0 e (by omega) (by simp)
    obtain ⟨h1, h2⟩ := nxE_at (es := es) (i := i) (t := t) (by simpa using h) (fun j x hj hx => hn (j + 1) x (by omega) (by simpa using hx))
    exact ⟨by rw [nxE, if_neg he]; exact h1, fun u => by rw [setE, if_neg he, h2, List.set_cons_succ]⟩
theorem nxE_no {c : UInt8} : ∀ {es : List (UInt8 × Nat)}, (∀ j e, j < es.length → es[j]? = some e → ¬ e.1 = c) → nxE es c = none ∧ ∀ u, setE es c u = es ++ [(c, u)]
  | [], _ => ⟨rfl, fun _ => rfl⟩
  | e :: es, hn => by
    have he : ¬ e.1 = c := hn 0 e (by simp) (by simp)
    obtain ⟨h1, h2⟩ := nxE_no (es := es) (fun j x hj hx => hn (j + 1) x (by simp; omega) (by simpa using hx))
    exact ⟨by rw [nxE, if_neg he]; exact h1, fun u => by rw [setE, if_neg he, h2]; rfl⟩
/-- A state's edges, as they lie in the heap. -/
def EdgeV (G : Heap) (v : AV) (es : List (UInt8 × Nat)) : Prop := (v = .sl [] .exact ∧ es = []) ∨ ∃ e, v = .ms e 0 es.length 2 ∧ G e = some (.cells (flatE es))
def nxI (es : List (UInt8 × Nat)) (c : UInt8) : Int := match nxE es c with
  | some t => (t : Int)
  | none => -1
theorem u8_eq {a b : UInt8} : decide ((a.toNat : Int) = (b.toNat : Int)) = decide (a = b) := by
  rw [decide_eq_decide]
  exact ⟨fun h => UInt8.toNat_inj.1 (by omega), fun h => by rw [h]⟩
set_option maxHeartbeats 1600000 in
theorem next_calls {G : Heap} {sid s : Nat} {cs : List AV} {v : AV} {es : List (UInt8 × Nat)} {c : UInt8} (hs : G sid = some (.cells cs)) (hv : (cs.drop (s + 3)).head? = some v) (hE : EdgeV G v es) (hl : es.length ≤ 1000000) :
    ACalls Tryd.prog 35 [.ptr sid s, .int .u8 (c.toNat : Int)] G fun x G' => x = .int .i64 (nxI es c) ∧ G' = G := by
  rcases hE with ⟨rfl, rfl⟩ | ⟨e, rfl, he⟩
  · refine ACalls.of_code (X := { pure := pu0 }) pu0_ok Tryd.func35 (by kernel_rfl) rfl (by kernel_rfl) (Nat.le_of_ble_eq_true rfl) ?_
    simp -implicitDefEqProofs only [go_sem, tys, regs0, Nat.reduceEqDiff, Nat.reduceAdd, Nat.reduceLeDiff, Nat.reduceLT, Nat.reduceMul, Int.natCast_one, Int.natCast_zero, Int.reduceEq, Int.reduceLT, Int.reduceLE, Int.reduceAdd, Int.reduceSub, Int.reduceToNat, UInt8.reduceToNat, Tryd.f35, hs, hv]
    refine aloop_intro (σ := Unit) (fun _ => [(11, .int .i64 0), (12, .int .i64 0)]) (fun _ G' => G' = G) (fun _ => 0) () ?_ rfl ?_
    · simp -implicitDefEqProofs only [go_sem, tys, regs0, Nat.reduceEqDiff, Nat.reduceAdd, Nat.reduceLeDiff, Nat.reduceLT, Nat.reduceMul, Int.natCast_one, Int.natCast_zero, Int.reduceEq, Int.reduceLT, Int.reduceLE, Int.reduceAdd, Int.reduceSub, Int.reduceToNat, UInt8.reduceToNat]
    · rintro u r G' hr rfl
      have h11 := hr.1
      have h12 := hr.2.1
      simp -implicitDefEqProofs only [go_sem, tys, regs0, Nat.reduceEqDiff, Nat.reduceAdd, Nat.reduceLeDiff, Nat.reduceLT, Nat.reduceMul, Int.natCast_one, Int.natCast_zero, Int.reduceEq, Int.reduceLT, Int.reduceLE, Int.reduceAdd, Int.reduceSub, Int.reduceToNat, UInt8.reduceToNat, h11, h12]
      exact Done.now ⟨rfl, rfl⟩
  · refine ACalls.of_code (X := { pure := pu0 }) pu0_ok Tryd.func35 (by kernel_rfl) rfl (by kernel_rfl) (Nat.le_of_ble_eq_true rfl) ?_
    simp -implicitDefEqProofs only [go_sem, tys, regs0, Nat.reduceEqDiff, Nat.reduceAdd, Nat.reduceLeDiff, Nat.reduceLT, Nat.reduceMul, Int.natCast_one, Int.natCast_zero, Int.reduceEq, Int.reduceLT, Int.reduceLE, Int.reduceAdd, Int.reduceSub, Int.reduceToNat, UInt8.reduceToNat, Tryd.f35, hs, hv]
    refine aloop_intro (σ := Nat) (fun i => [(1, .int .u8 (c.toNat : Int)), (10, .ms e 0 es.length 2), (11, .int .i64 es.length), (12, .int .i64 (i : Int))])
      (fun i G' => G.Sub G' ∧ i ≤ es.length ∧ ∀ j x, j < i → es[j]? = some x → ¬ x.1 = c) (fun i => es.length - i) 0 ?_ ?_ ?_
    · simp -implicitDefEqProofs only [go_sem, tys, regs0, Nat.reduceEqDiff, Nat.reduceAdd, Nat.reduceLeDiff, Nat.reduceLT, Nat.reduceMul, Int.natCast_one, Int.natCast_zero, Int.reduceEq, Int.reduceLT, Int.reduceLE, Int.reduceAdd, Int.reduceSub, Int.reduceToNat, UInt8.reduceToNat]
    · exact ⟨Heap.Sub.rfl' G, Nat.zero_le _, fun j x hj => by omega⟩
    · intro i r G hv hI
      have h1 := hv.1
      have h10 := hv.2.1
      have h11 := hv.2.2.1
      have h12 := hv.2.2.2.1
      have hS := hI.1
      have hi := hI.2.1
      have hn := hI.2.2
      clear hv hI
      simp -implicitDefEqProofs only [go_sem, tys, regs0, Nat.reduceEqDiff, Nat.reduceAdd, Nat.reduceLeDiff, Nat.reduceLT, Nat.reduceMul, Int.natCast_one, Int.natCast_zero, Int.reduceEq, Int.reduceLT, Int.reduceLE, Int.reduceAdd, Int.reduceSub, Int.reduceToNat, UInt8.reduceToNat, h1, h10, h11, h12]
      refine cnd_intro (fun g => ?_) (fun g => ?_)
      · simp only [decide_eq_true_eq] at g
        obtain ⟨x, hx⟩ : ∃ x, es[i]? = some x := getD_get' (by omega)
        obtain ⟨f1, f2⟩ := flatE_get hx
        have he2 := hS e _ he
        have w : IntKind.i64.wrap ((i : Int) + 1) = ((i + 1 : Nat) : Int) := by rw [Go.IntWalk.i64_in _ (by omega)]; omega
        have f3 : 2 ≤ (flatE es).length - i * 2 := by omega
        simp -implicitDefEqProofs only [go_sem, tys, regs0, Nat.reduceEqDiff, Nat.reduceAdd, Nat.reduceLeDiff, Nat.reduceLT, Nat.reduceMul, Int.natCast_one, Int.natCast_zero, Int.reduceEq, Int.reduceLT, Int.reduceLE, Int.reduceAdd, Int.reduceSub, Int.reduceToNat, UInt8.reduceToNat, h1, h10, h11, h12, he2, g, Int.toNat_natCast, Nat.zero_add, f1, List.length_drop, f3, encE]
        with_reducible refine nwC_intro fun y hy => ?_
        by_cases hc : x.1 = c
        · have hd : decide ((x.1.toNat : Int) = (c.toNat : Int)) = true := by rw [u8_eq, decide_eq_true hc]
          simp -implicitDefEqProofs only [go_sem, tys, regs0, Nat.reduceEqDiff, Nat.reduceAdd, Nat.reduceLeDiff, Nat.reduceLT, Nat.reduceMul, Int.natCast_one, Int.natCast_zero, Int.reduceEq, Int.reduceLT, Int.reduceLE, Int.reduceAdd, Int.reduceSub, Int.reduceToNat, UInt8.reduceToNat, h1, h10, h11, h12, hd]
          refine Done.drop (hS.put' (sub_none hS hy) _) ⟨?_, rfl⟩
          have := (nxE_at (c := c) (t := x.2) (by rw [hx, ← hc]) hn).1
          unfold nxI
          rw [this]
        · have hd : decide ((x.1.toNat : Int) = (c.toNat : Int)) = false := by rw [u8_eq, decide_eq_false hc]
          simp -implicitDefEqProofs only [go_sem, tys, regs0, Nat.reduceEqDiff, Nat.reduceAdd, Nat.reduceLeDiff, Nat.reduceLT, Nat.reduceMul, Int.natCast_one, Int.natCast_zero, Int.reduceEq, Int.reduceLT, Int.reduceLE, Int.reduceAdd, Int.reduceSub, Int.reduceToNat, UInt8.reduceToNat, h1, h10, h11, h12, hd, w]
          refine Again.mk (i + 1) (by simp -implicitDefEqProofs only [go_sem, tys, regs0, Nat.reduceEqDiff, Nat.reduceAdd, Nat.reduceLeDiff, Nat.reduceLT, Nat.reduceMul, Int.natCast_one, Int.natCast_zero, Int.reduceEq, Int.reduceLT, Int.reduceLE, Int.reduceAdd, Int.reduceSub, Int.reduceToNat, UInt8.reduceToNat, h1, h10, h11, h12]) ⟨hS.put' (sub_none hS hy) _, by omega, fun j z hj hz => ?_⟩ (by omega)
          by_cases ej : j = i
          · subst ej; rw [hx] at hz; cases hz; exact hc
          · exact hn j z (by omega) hz
      · simp only [decide_eq_false_iff_not] at g
        have e1 : i = es.length := by omega
        subst e1
        simp -implicitDefEqProofs only [go_sem, tys, regs0, Nat.reduceEqDiff, Nat.reduceAdd, Nat.reduceLeDiff, Nat.reduceLT, Nat.reduceMul, Int.natCast_one, Int.natCast_zero, Int.reduceEq, Int.reduceLT, Int.reduceLE, Int.reduceAdd, Int.reduceSub, Int.reduceToNat, UInt8.reduceToNat, h1, h10, h11, h12]
        refine Done.drop hS ⟨?_, rfl⟩
        have := (nxE_no (c := c) hn).1
        unfold nxI
        rw [this]
/-- What setting an edge leaves. -/
def SetPost (G G' : Heap) (sid s : Nat) (cs : List AV) (v v' : AV) (es : List (UInt8 × Nat)) (c : UInt8) (t : Nat) : Prop :=
  EdgeV G' v' (setE es c t) ∧ G' sid = some (.cells (cs.set (s + 3) v')) ∧ (∀ i o, G i = some o → ¬ i = sid → (∀ n, v ≠ .ms i 0 n 2) → G' i = some o) ∧ (∀ e n, v' = .ms e 0 n 2 → G e = none ∨ v = .ms e 0 es.length 2) ∧ v' ≠ .sl [] .exact
set_option maxHeartbeats 3200000 in
theorem set_calls {G : Heap} {sid s : Nat} {cs : List AV} {v : AV} {es : List (UInt8 × Nat)} {c : UInt8} {t : Nat} (hs : G sid = some (.cells cs)) (hv : (cs.drop (s + 3)).head? = some v) (hE : EdgeV G v es) (hl : es.length ≤ 1000000) (hne : ∀ n, v ≠ .ms sid 0 n 2) :
    ACalls Tryd.prog 43 [.ptr sid s, .int .u8 (c.toNat : Int), .int .i64 (t : Int)] G fun x G' => x = .tup [] ∧ ∃ v', SetPost G G' sid s cs v v' es c t := by
  have hlt : s + 3 < cs.length := by
    rw [List.head?_drop] at hv
    exact (List.getElem?_eq_some_iff.1 hv).1
  rcases hE with ⟨rfl, rfl⟩ | ⟨e, rfl, he⟩
  · refine ACalls.of_code (X := { pure := pu0, ms := fun t => decide (t = 43) }) pu0_ok Tryd.func43 (by kernel_rfl) rfl (by kernel_rfl) (Nat.le_of_ble_eq_true rfl) ?_
    simp -implicitDefEqProofs only [go_sem, tys, regs0, Nat.reduceEqDiff, Nat.reduceAdd, Nat.reduceLeDiff, Nat.reduceLT, Nat.reduceMul, Int.natCast_one, Int.natCast_zero, Int.reduceEq, Int.reduceLT, Int.reduceLE, Int.reduceAdd, Int.reduceSub, Int.reduceToNat, UInt8.reduceToNat, Tryd.f43, hs, hv]
    refine aloop_intro (σ := Unit) (fun _ => [(0, .ptr sid s), (1, .int .u8 (c.toNat : Int)), (2, .int .i64 (t : Int)), (11, .int .i64 0), (12, .int .i64 0)]) (fun _ G' => G' = G) (fun _ => 0) () ?_ rfl ?_
    · simp -implicitDefEqProofs only [go_sem, tys, regs0, Nat.reduceEqDiff, Nat.reduceAdd, Nat.reduceLeDiff, Nat.reduceLT, Nat.reduceMul, Int.natCast_one, Int.natCast_zero, Int.reduceEq, Int.reduceLT, Int.reduceLE, Int.reduceAdd, Int.reduceSub, Int.reduceToNat, UInt8.reduceToNat]
    · rintro u r G' hr rfl
      have h0 := hr.1
      have h1 := hr.2.1
      have h2 := hr.2.2.1
      have h11 := hr.2.2.2.1
      have h12 := hr.2.2.2.2.1
      simp -implicitDefEqProofs only [go_sem, tys, regs0, Nat.reduceEqDiff, Nat.reduceAdd, Nat.reduceLeDiff, Nat.reduceLT, Nat.reduceMul, Int.natCast_one, Int.natCast_zero, Int.reduceEq, Int.reduceLT, Int.reduceLE, Int.reduceAdd, Int.reduceSub, Int.reduceToNat, UInt8.reduceToNat, h0, h1, h2, h11, h12, hs, hv, decide_true]
      refine app_ms0 (by simp) (by simp) (by simp) (fun e' he' => ?_)
      have n1 : ¬ sid = e' := fun x => by rw [← x, hs] at he'; cases he'
      have n2 : ¬ e' = sid := fun x => n1 x.symm
      simp -implicitDefEqProofs only [go_sem, tys, regs0, Nat.reduceEqDiff, Nat.reduceAdd, Nat.reduceLeDiff, Nat.reduceLT, Nat.reduceMul, Int.natCast_one, Int.natCast_zero, Int.reduceEq, Int.reduceLT, Int.reduceLE, Int.reduceAdd, Int.reduceSub, Int.reduceToNat, UInt8.reduceToNat, h0, h1, h2, put_ne, n1, hs]
      refine ⟨by omega, Done.now ⟨rfl, .ms e' 0 1 2, ?_, put_same _ _ _, fun i o hi hne2 _ => ?_, fun e n h => ?_, by simp⟩⟩
      · refine .inr ⟨e', rfl, ?_⟩
        rw [put_ne _ _ _ _ n2, put_same]
        simp [setE, flatE, encE]
      · have n3 : ¬ i = e' := fun x => by rw [x, he'] at hi; cases hi
        rw [put_ne _ _ _ _ hne2, put_ne _ _ _ _ n3]; exact hi
      · cases h; exact .inl he'
  · have n0 : ¬ sid = e := fun x => hne es.length (by rw [x])
    have n0' : ¬ e = sid := fun x => n0 x.symm
    have hfl := flatE_len es
    refine ACalls.of_code (X := { pure := pu0, ms := fun t => decide (t = 43) }) pu0_ok Tryd.func43 (by kernel_rfl) rfl (by kernel_rfl) (Nat.le_of_ble_eq_true rfl) ?_
    simp -implicitDefEqProofs only [go_sem, tys, regs0, Nat.reduceEqDiff, Nat.reduceAdd, Nat.reduceLeDiff, Nat.reduceLT, Nat.reduceMul, Int.natCast_one, Int.natCast_zero, Int.reduceEq, Int.reduceLT, Int.reduceLE, Int.reduceAdd, Int.reduceSub, Int.reduceToNat, UInt8.reduceToNat, Tryd.f43, hs, hv]
    refine aloop_intro (σ := Nat) (fun i => [(0, .ptr sid s), (1, .int .u8 (c.toNat : Int)), (2, .int .i64 (t : Int)), (11, .int .i64 es.length), (12, .int .i64 (i : Int))])
      (fun i G' => G' = G ∧ i ≤ es.length ∧ ∀ j x, j < i → es[j]? = some x → ¬ x.1 = c) (fun i => es.length - i) 0 ?_ ?_ ?_
    · simp -implicitDefEqProofs only [go_sem, tys, regs0, Nat.reduceEqDiff, Nat.reduceAdd, Nat.reduceLeDiff, Nat.reduceLT, Nat.reduceMul, Int.natCast_one, Int.natCast_zero, Int.reduceEq, Int.reduceLT, Int.reduceLE, Int.reduceAdd, Int.reduceSub, Int.reduceToNat, UInt8.reduceToNat]
    · exact ⟨rfl, Nat.zero_le _, fun j x hj => by omega⟩
    · intro i r G hv hI
      have h0 := hv.1
      have h1 := hv.2.1
      have h2 := hv.2.2.1
      have h11 := hv.2.2.2.1
      have h12 := hv.2.2.2.2.1
      have hG := hI.1.symm
      have hi := hI.2.1
      have hn := hI.2.2
      clear hv hI
      subst hG
      simp -implicitDefEqProofs only [go_sem, tys, regs0, Nat.reduceEqDiff, Nat.reduceAdd, Nat.reduceLeDiff, Nat.reduceLT, Nat.reduceMul, Int.natCast_one, Int.natCast_zero, Int.reduceEq, Int.reduceLT, Int.reduceLE, Int.reduceAdd, Int.reduceSub, Int.reduceToNat, UInt8.reduceToNat, h0, h1, h2, h11, h12]
      refine cnd_intro (fun g => ?_) (fun g => ?_)
      · simp only [decide_eq_true_eq] at g
        obtain ⟨x, hx⟩ : ∃ x, es[i]? = some x := getD_get' (by omega)
        have f1 := flatE_head hx
        have w : IntKind.i64.wrap ((i : Int) + 1) = ((i + 1 : Nat) : Int) := by rw [Go.IntWalk.i64_in _ (by omega)]; omega
        by_cases hc : x.1 = c
        · have hd : decide ((x.1.toNat : Int) = (c.toNat : Int)) = true := by rw [u8_eq, decide_eq_true hc]
          have hx2 : es[i]? = some (c, x.2) := by rw [hx, ← hc]
          have f2 := flatE_set (u := t) hx2
          simp -implicitDefEqProofs only [go_sem, tys, regs0, Nat.reduceEqDiff, Nat.reduceAdd, Nat.reduceLeDiff, Nat.reduceLT, Nat.reduceMul, Int.natCast_one, Int.natCast_zero, Int.reduceEq, Int.reduceLT, Int.reduceLE, Int.reduceAdd, Int.reduceSub, Int.reduceToNat, UInt8.reduceToNat, h0, h1, h2, h11, h12, hs, hv, g, he, Int.toNat_natCast, Nat.zero_add, f1, hd, f2, hfl]
          refine ⟨by omega, Done.now ⟨rfl, .ms e 0 es.length 2, ?_, ?_, fun j o hj hne2 hno => ?_, fun e' n h => ?_, by simp⟩⟩
          · have := (nxE_at hx2 hn).2 t
            rw [this]
            exact .inr ⟨e, by rw [List.length_set], put_same _ _ _⟩
          · rw [put_ne _ _ _ _ n0, hs]
            congr 2
            rw [List.head?_drop] at hv
            refine List.ext_getElem? fun j => ?_
            rw [List.getElem?_set]
            split
            · rename_i ej; subst ej; simp [hlt]; exact (List.getElem?_eq_some_iff.1 hv).2
            · rfl
          · rw [put_ne _ _ _ _ (fun x => hno es.length (by rw [x]))]; exact hj
          · cases h; exact .inr rfl
        · have hd : decide ((x.1.toNat : Int) = (c.toNat : Int)) = false := by rw [u8_eq, decide_eq_false hc]
          simp -implicitDefEqProofs only [go_sem, tys, regs0, Nat.reduceEqDiff, Nat.reduceAdd, Nat.reduceLeDiff, Nat.reduceLT, Nat.reduceMul, Int.natCast_one, Int.natCast_zero, Int.reduceEq, Int.reduceLT, Int.reduceLE, Int.reduceAdd, Int.reduceSub, Int.reduceToNat, UInt8.reduceToNat, h0, h1, h2, h11, h12, hs, hv, g, he, Int.toNat_natCast, Nat.zero_add, f1, hd, w]
          refine Again.mk (i + 1) (by simp -implicitDefEqProofs only [go_sem, tys, regs0, Nat.reduceEqDiff, Nat.reduceAdd, Nat.reduceLeDiff, Nat.reduceLT, Nat.reduceMul, Int.natCast_one, Int.natCast_zero, Int.reduceEq, Int.reduceLT, Int.reduceLE, Int.reduceAdd, Int.reduceSub, Int.reduceToNat, UInt8.reduceToNat, h0, h1, h2, h11, h12]) ⟨rfl, by omega, fun j z hj hz => ?_⟩ (by omega)
          by_cases ej : j = i
          · subst ej; rw [hx] at hz; cases hz; exact hc
          · exact hn j z (by omega) hz
      · simp only [decide_eq_false_iff_not] at g
        have e1 : i = es.length := by omega
        subst e1
        obtain ⟨q1, q2⟩ := nxE_no (c := c) hn
        simp -implicitDefEqProofs only [go_sem, tys, regs0, Nat.reduceEqDiff, Nat.reduceAdd, Nat.reduceLeDiff, Nat.reduceLT, Nat.reduceMul, Int.natCast_one, Int.natCast_zero, Int.reduceEq, Int.reduceLT, Int.reduceLE, Int.reduceAdd, Int.reduceSub, Int.reduceToNat, UInt8.reduceToNat, h0, h1, h2, h11, h12, hs, hv, decide_true]
        refine app_ms he hfl (by simp; omega) (by simp; omega) (fun e' he' => ?_)
        have n1 : ¬ sid = e' := fun x => by rw [← x, hs] at he'; cases he'
        have n2 : ¬ e' = sid := fun x => n1 x.symm
        simp -implicitDefEqProofs only [go_sem, tys, regs0, Nat.reduceEqDiff, Nat.reduceAdd, Nat.reduceLeDiff, Nat.reduceLT, Nat.reduceMul, Int.natCast_one, Int.natCast_zero, Int.reduceEq, Int.reduceLT, Int.reduceLE, Int.reduceAdd, Int.reduceSub, Int.reduceToNat, UInt8.reduceToNat, h0, h1, h2, put_ne, n1, hs, del_ne, n0]
        refine ⟨by omega, Done.now ⟨rfl, .ms e' 0 (es.length + 1) 2, ?_, put_same _ _ _, fun i o hi hne2 hno => ?_, fun e2 n h => ?_, by simp⟩⟩
        · rw [q2]
          refine .inr ⟨e', by rw [List.length_append]; rfl, ?_⟩
          rw [put_ne _ _ _ _ n2, put_same]
          congr 2
          rw [← flatE_app]; simp
        · have n3 : ¬ i = e' := fun x => by rw [x, he'] at hi; cases hi
          rw [put_ne _ _ _ _ hne2, put_ne _ _ _ _ n3, del_ne (fun x => hno es.length (by rw [x]))]; exact hi
        · cases h; exact .inl he'
end Go.Proofs

/- Walks: how the automaton lies in the heap. -/
namespace Go.Proofs
open Go Go.Abs
set_option linter.unusedSimpArgs false
set_option linter.unusedVariables false
set_option maxRecDepth 20000
def cellsSt (st : Ste) (v : AV) : List AV := [.int .i64 (st.long : Int), .int .i64 (st.fin : Int), .int .i64 st.link, v]
def flatS (n : Nat) (g : Nat → Ste) (ev : Nat → AV) : List AV := ((List.range n).map fun s => cellsSt (g s) (ev s)).flatten
theorem flatS_succ (n : Nat) (g : Nat → Ste) (ev : Nat → AV) : flatS (n + 1) g ev = flatS n g ev ++ cellsSt (g n) (ev n) := by
  unfold flatS
  rw [List.range_succ, List.map_append, List.flatten_append]
  simp
theorem flatS_len (n : Nat) (g : Nat → Ste) (ev : Nat → AV) : (flatS n g ev).length = n * 4 := by
  induction n with
  | zero => rfl
  | succ n ih => rw [flatS_succ, List.length_append, ih]; simp only [cellsSt, List.length_cons, List.length_nil]; omega
theorem flatS_congr {n : Nat} {g g' : Nat → Ste} {ev ev' : Nat → AV} (h : ∀ s, s < n → g' s = g s ∧ ev' s = ev s) : flatS n g' ev' = flatS n g ev := by
  unfold flatS
  congr 1
  apply List.map_congr_left
  intro s hs
  have := h s (List.mem_range.1 hs)
  rw [this.1, this.2]
/-- The cells of one state, and those around it. -/
theorem flatS_split {n s : Nat} (hs : s < n) (g : Nat → Ste) (ev : Nat → AV) : ∃ a b : List AV, a.length = s * 4 ∧ ∀ g' ev', (∀ i, ¬ i = s → g' i = g i ∧ ev' i = ev i) → flatS n g' ev' = a ++ (cellsSt (g' s) (ev' s) ++ b) := by
  refine ⟨flatS s g ev, ((List.range' (s + 1) (n - (s + 1))).map fun i => cellsSt (g i) (ev i)).flatten, flatS_len s g ev, fun g' ev' h => ?_⟩
  have e : List.range n = List.range s ++ (s :: List.range' (s + 1) (n - (s + 1))) := by
    rw [List.range_eq_range', List.range_eq_range']
    have e1 : n = s + ((n - (s + 1)) + 1) := by omega
    conv => lhs; rw [e1]
    rw [← List.range'_append, List.range'_succ]
    simp
  have e2 : flatS n g' ev' = flatS s g' ev' ++ (cellsSt (g' s) (ev' s) ++ ((List.range' (s + 1) (n - (s + 1))).map fun i => cellsSt (g' i) (ev' i)).flatten) := by
    unfold flatS
    rw [e, List.map_append, List.flatten_append, List.map_cons, List.flatten_cons]
  rw [e2, flatS_congr (g := g) (ev := ev) fun i hi => h i (by omega)]
  congr 3
  apply List.map_congr_left
  intro i hi
  rw [List.mem_range'_1] at hi
  have := h i (by omega)
  rw [this.1, this.2]
theorem flatS_at {n s : Nat} (hs : s < n) (g : Nat → Ste) (ev : Nat → AV) : ∃ b, (flatS n g ev).drop (s * 4) = cellsSt (g s) (ev s) ++ b := by
  obtain ⟨a, b, h1, h2⟩ := flatS_split hs g ev
  refine ⟨b, ?_⟩
  rw [h2 g ev fun _ _ => ⟨rfl, rfl⟩, ← h1, List.drop_left]
theorem flatS_0 {n s : Nat} (hs : s < n) (g : Nat → Ste) (ev : Nat → AV) : ((flatS n g ev).drop (s * 4)).head? = some (.int .i64 ((g s).long : Int)) := by
  obtain ⟨b, h⟩ := flatS_at hs g ev
  rw [h]; rfl
theorem flatS_j {n s j : Nat} {x : AV} (hs : s < n) (g : Nat → Ste) (ev : Nat → AV) (hx : (cellsSt (g s) (ev s))[j]? = some x) : ((flatS n g ev).drop (s * 4 + j)).head? = some x := by
  obtain ⟨b, h⟩ := flatS_at hs g ev
  have hj : j < (cellsSt (g s) (ev s)).length := (List.getElem?_eq_some_iff.1 hx).1
  rw [← List.drop_drop, h, List.drop_append_of_le_length (by omega), List.head?_append, List.head?_drop, hx]
  rfl
theorem flatS_take {n s : Nat} (hs : s < n) (g : Nat → Ste) (ev : Nat → AV) : ((flatS n g ev).drop (s * 4)).take 4 = cellsSt (g s) (ev s) := by
  obtain ⟨b, h⟩ := flatS_at hs g ev
  rw [h]; rfl
theorem flatS_set {n s j : Nat} {x : AV} (hs : s < n) (hj : j < 4) (g g' : Nat → Ste) (ev ev' : Nat → AV) (h : ∀ i, ¬ i = s → g' i = g i ∧ ev' i = ev i) (hc : (cellsSt (g s) (ev s)).set j x = cellsSt (g' s) (ev' s)) : (flatS n g ev).set (s * 4 + j) x = flatS n g' ev' := by
  obtain ⟨a, b, h1, h2⟩ := flatS_split hs g ev
  rw [h2 g ev fun _ _ => ⟨rfl, rfl⟩, h2 g' ev' h, ← hc, ← h1, List.set_append_right _ _ (by omega), Nat.add_sub_cancel_left, List.set_append_left _ _ (by simpa [cellsSt] using hj)]
/-- The automaton 'A', its states in 'sid', each state's edges in an object of their own. -/
structure AH (H G : Heap) (A sid : Nat) (S : List Ste) (last : Int) (ev : Nat → AV) : Prop where
  sub : H.Sub G
  nA : H A = none
  nS : H sid = none
  AS : ¬ A = sid
  hA : G A = some (.cells [.ms sid 0 S.length 4, .int .i64 last])
  hS : G sid = some (.cells (flatS S.length (gS S) ev))
  ed : ∀ s, s < S.length → EdgeV G (ev s) (gS S s).edges
  fr : ∀ s e n, s < S.length → ev s = .ms e 0 n 2 → H e = none ∧ ¬ e = A ∧ ¬ e = sid
  nd : ∀ s s' e n n', s < S.length → s' < S.length → ev s = .ms e 0 n 2 → ev s' = .ms e 0 n' 2 → s = s'
theorem EdgeV.there {G : Heap} {v : AV} {es : List (UInt8 × Nat)} (h : EdgeV G v es) {e n : Nat} (hv : v = .ms e 0 n 2) : G e = some (.cells (flatE es)) ∧ n = es.length := by
  rcases h with ⟨h1, _⟩ | ⟨e', h1, h2⟩
  · rw [h1] at hv; cases hv
  · rw [h1] at hv; cases hv; exact ⟨h2, rfl⟩
theorem EdgeV.mono {G G' : Heap} {v : AV} {es : List (UInt8 × Nat)} (h : EdgeV G v es) (hk : ∀ e n, v = .ms e 0 n 2 → G' e = G e) : EdgeV G' v es := by
  rcases h with h | ⟨e, h1, h2⟩
  · exact .inl h
  · exact .inr ⟨e, h1, by rw [hk e _ h1]; exact h2⟩
theorem AH.set {H G G' : Heap} {A sid : Nat} {S : List Ste} {last : Int} {ev : Nat → AV} (h : AH H G A sid S last ev) {s : Nat} (hs : s < S.length) {v' : AV} {c : UInt8} {t : Nat} (hP : SetPost G G' sid (s * 4) (flatS S.length (gS S) ev) (ev s) v' (gS S s).edges c t) :
    AH H G' A sid (setS S s c t) last (fun i => if i = s then v' else ev i) := by
  obtain ⟨p1, p2, p3, p4, p5⟩ := hP
  have hfrs : ∀ e n, ev s = .ms e 0 n 2 → H e = none ∧ ¬ e = A ∧ ¬ e = sid := fun e n he => h.fr s e n hs he
  have hg : ∀ i, gS (setS S s c t) i = if i = s then ⟨(gS S s).long, (gS S s).fin, (gS S s).link, setE (gS S s).edges c t⟩ else gS S i := fun i => gS_set hs
  have keep : ∀ i o, G i = some o → ¬ i = sid → (∀ n, ev s ≠ .ms i 0 n 2) → G' i = some o := p3
  refine ⟨fun i o hi => ?_, h.nA, h.nS, h.AS, ?_, ?_, fun s' hs' => ?_, fun s' e n hs' he => ?_, fun s1 s2 e n n' h1 h2 e1 e2 => ?_⟩
  · refine keep i o (h.sub i o hi) (fun e => by rw [e, h.nS] at hi; cases hi) (fun n e => by rw [(hfrs i n e).1] at hi; cases hi)
  · rw [setS_len]
    exact keep A _ h.hA h.AS (fun n e => (hfrs A n e).2.1 rfl)
  · rw [p2, setS_len]
    congr 2
    refine flatS_set hs (by omega) _ _ _ _ (fun i hi => ⟨by rw [hg, if_neg hi], if_neg hi⟩) ?_
    rw [hg, if_pos rfl, if_pos rfl]
    rfl
  · rw [setS_len] at hs'
    rw [hg]
    by_cases e : s' = s
    · subst e
      rw [if_pos rfl, if_pos rfl]
      exact p1
    · rw [if_neg e, if_neg e]
      refine (h.ed s' hs').mono fun e' n he' => ?_
      have hth := ((h.ed s' hs').there he').1
      rw [hth]
      exact keep e' _ hth (h.fr s' e' n hs' he').2.2 (fun n' hh => e (h.nd s' s e' n n' hs' hs he' hh))
  · rw [setS_len] at hs'
    by_cases e3 : s' = s
    · subst e3
      rw [if_pos rfl] at he
      rcases p4 e n he with h4 | h4
      · exact ⟨sub_none h.sub h4, fun x => (by rw [x, h.hA] at h4; cases h4), fun x => (by rw [x, h.hS] at h4; cases h4)⟩
      · exact hfrs e _ h4
    · rw [if_neg e3] at he
      exact h.fr s' e n hs' he
  · rw [setS_len] at h1 h2
    by_cases a1 : s1 = s <;> by_cases a2 : s2 = s
    · rw [a1, a2]
    · rw [if_pos a1] at e1
      rw [if_neg a2] at e2
      rcases p4 e n e1 with h4 | h4
      · rw [((h.ed s2 h2).there e2).1] at h4; cases h4
      · rw [a1]; exact h.nd s s2 e _ n' hs h2 h4 e2
    · rw [if_neg a1] at e1
      rw [if_pos a2] at e2
      rcases p4 e n' e2 with h4 | h4
      · rw [((h.ed s1 h1).there e1).1] at h4; cases h4
      · rw [a2]; exact h.nd s1 s e n _ h1 hs e1 h4
    · rw [if_neg a1] at e1
      rw [if_neg a2] at e2
      exact h.nd s1 s2 e n n' h1 h2 e1 e2
theorem AH.link {H G : Heap} {A sid : Nat} {S : List Ste} {last : Int} {ev : Nat → AV} (h : AH H G A sid S last ev) {s : Nat} (hs : s < S.length) (l : Nat) :
    AH H (G.put sid (.cells ((flatS S.length (gS S) ev).set (s * 4 + 2) (.int .i64 (l : Int))))) A sid (linkS S s l) last ev := by
  have hg : ∀ i, gS (linkS S s l) i = if i = s then ⟨(gS S s).long, (gS S s).fin, (l : Int), (gS S s).edges⟩ else gS S i := fun i => gS_set hs
  refine ⟨h.sub.put' h.nS _, h.nA, h.nS, h.AS, by rw [put_ne _ _ _ _ h.AS, linkS_len]; exact h.hA, ?_, fun s' hs' => ?_, fun s' e n hs' he => h.fr s' e n (by rw [linkS_len] at hs'; exact hs') he, fun s1 s2 e n n' h1 h2 e1 e2 => h.nd s1 s2 e n n' (by rw [linkS_len] at h1; exact h1) (by rw [linkS_len] at h2; exact h2) e1 e2⟩
  · rw [put_same, linkS_len]
    congr 2
    refine flatS_set hs (by omega) _ _ _ _ (fun i hi => ⟨by rw [hg, if_neg hi], rfl⟩) ?_
    rw [hg, if_pos rfl]
    rfl
  · rw [linkS_len] at hs'
    have e1 : (gS (linkS S s l) s').edges = (gS S s').edges := by
      rw [hg]; split
      · rename_i e; subst e; rfl
      · rfl
    rw [e1]
    exact (h.ed s' hs').mono fun e n he => put_ne _ _ _ _ (h.fr s' e n hs' he).2.2
theorem AH.last {H G : Heap} {A sid : Nat} {S : List Ste} {last : Int} {ev : Nat → AV} (h : AH H G A sid S last ev) (l : Int) : AH H (G.put A (.cells [.ms sid 0 S.length 4, .int .i64 l])) A sid S l ev :=
  ⟨h.sub.put' h.nA _, h.nA, h.nS, h.AS, put_same _ _ _, by rw [put_ne _ _ _ _ (fun e => h.AS e.symm)]; exact h.hS, fun s hs => (h.ed s hs).mono fun e n he => put_ne _ _ _ _ (h.fr s e n hs he).2.1, h.fr, h.nd⟩
theorem AH.put {H G : Heap} {A sid : Nat} {S : List Ste} {last : Int} {ev : Nat → AV} (h : AH H G A sid S last ev) {i : Nat} (hi : G i = none) (o : AObj) : AH H (G.put i o) A sid S last ev :=
  ⟨h.sub.put' (sub_none h.sub hi) _, h.nA, h.nS, h.AS, by rw [put_ne _ _ _ _ (fun e => by rw [← e, h.hA] at hi; cases hi)]; exact h.hA, by rw [put_ne _ _ _ _ (fun e => by rw [← e, h.hS] at hi; cases hi)]; exact h.hS,
    fun s hs => (h.ed s hs).mono fun e n he => put_ne _ _ _ _ (fun x => by rw [← x, ((h.ed s hs).there he).1] at hi; cases hi), h.fr, h.nd⟩
/-- A state more. -/
theorem AH.push {H G : Heap} {A sid : Nat} {S : List Ste} {last : Int} {ev : Nat → AV} (h : AH H G A sid S last ev) {sid' : Nat} (hid : (G.del sid) sid' = none) (hid2 : G sid' = none) {st : Ste} {v : AV} (hE : EdgeV G v st.edges) (hf : ∀ e n, v = .ms e 0 n 2 → H e = none ∧ ¬ e = A ∧ ¬ e = sid ∧ ∀ s n', s < S.length → ev s ≠ .ms e 0 n' 2) :
    AH H (((G.del sid).put sid' (.cells (flatS S.length (gS S) ev ++ cellsSt st v))).put A (.cells [.ms sid' 0 (S.length + 1) 4, .int .i64 last])) A sid' (S ++ [st]) last (fun i => if i = S.length then v else ev i) := by
  have a1 : ¬ A = sid' := fun e => by rw [← e, h.hA] at hid2; cases hid2
  have a2 : ¬ sid' = A := fun e => a1 e.symm
  have hlen : (S ++ [st]).length = S.length + 1 := by simp
  have hother : ∀ e o, G e = some o → ¬ e = A → ¬ e = sid → (((G.del sid).put sid' (.cells (flatS S.length (gS S) ev ++ cellsSt st v))).put A (.cells [.ms sid' 0 (S.length + 1) 4, .int .i64 last])) e = G e := fun e o he e1 e2 => by
    have e3 : ¬ e = sid' := fun x => by rw [x, hid2] at he; cases he
    rw [put_ne _ _ _ _ e1, put_ne _ _ _ _ e3, del_ne e2]
  have hgo : ∀ s, s < S.length → gS (S ++ [st]) s = gS S s := fun s hs => gS_left hs
  refine ⟨fun i o hi => ?_, h.nA, sub_none h.sub hid2, a1, by rw [put_same, hlen], ?_, fun s hs => ?_, fun s e n hs he => ?_, fun s1 s2 e n n' h1 h2 e1 e2 => ?_⟩
  · have := h.sub i o hi
    rw [hother i o this (fun e => by rw [e, h.nA] at hi; cases hi) (fun e => by rw [e, h.nS] at hi; cases hi)]
    exact this
  · rw [put_ne _ _ _ _ a2, put_same, hlen, flatS_succ]
    congr 2
    · congr 1
      · exact (flatS_congr fun s hs => ⟨hgo s hs, if_neg (by omega)⟩).symm
      · rw [gS_new, if_pos rfl]
  · rw [hlen] at hs
    by_cases e : s = S.length
    · subst e
      rw [gS_new, if_pos rfl]
      exact hE.mono fun e' n he' => hother e' _ (hE.there he').1 (hf e' n he').2.1 (hf e' n he').2.2.1
    · rw [hgo s (by omega), if_neg e]
      exact (h.ed s (by omega)).mono fun e' n he' => hother e' _ ((h.ed s (by omega)).there he').1 (h.fr s e' n (by omega) he').2.1 (h.fr s e' n (by omega) he').2.2
  · rw [hlen] at hs
    by_cases e1 : s = S.length
    · subst e1
      rw [if_pos rfl] at he
      exact ⟨(hf e n he).1, (hf e n he).2.1, fun x => by have := (hE.there he).1; rw [x, hid2] at this; cases this⟩
    · rw [if_neg e1] at he
      have := h.fr s e n (by omega) he
      exact ⟨this.1, this.2.1, fun x => by have := ((h.ed s (by omega)).there he).1; rw [x, hid2] at this; cases this⟩
  · rw [hlen] at h1 h2
    by_cases a3 : s1 = S.length <;> by_cases a4 : s2 = S.length
    · rw [a3, a4]
    · rw [if_pos a3] at e1
      rw [if_neg a4] at e2
      exact absurd e2 ((hf e n e1).2.2.2 s2 n' (by omega))
    · rw [if_neg a3] at e1
      rw [if_pos a4] at e2
      exact absurd e1 ((hf e n' e2).2.2.2 s1 n (by omega))
    · rw [if_neg a3] at e1
      rw [if_neg a4] at e2
      exact h.nd s1 s2 e n n' (by omega) (by omega) e1 e2
/-- Edges are few: each sign has one. -/
def ND (S : List Ste) : Prop := ∀ s, ((gS S s).edges.map (·.1)).Nodup
theorem nodup_lt : ∀ (n : Nat) (l : List Nat), l.Nodup → (∀ x ∈ l, x < n) → l.length ≤ n
  | 0, l, _, h => by
    cases l with
    | nil => simp
    | cons a l => have := h a (List.mem_cons_self ..); omega
  | n + 1, l, hn, h => by
    have h1 := nodup_lt n (l.erase n) (hn.erase n) (fun x hx => by
      have h2 := h x (List.mem_of_mem_erase hx)
      have h3 : x ≠ n := fun e => by rw [e] at hx; exact (List.Nodup.not_mem_erase hn) hx
      omega)
    have h4 := List.length_erase (a := n) (l := l)
    split at h4 <;> omega
theorem ND.len {S : List Ste} (h : ND S) (s : Nat) : (gS S s).edges.length ≤ 256 := by
  have h1 : (((gS S s).edges.map (·.1)).map UInt8.toNat).Nodup := by
    unfold List.Nodup
    rw [List.pairwise_map]
    exact (h s).imp fun hab e => hab (UInt8.toNat_inj.1 e)
  have h2 := nodup_lt 256 _ h1 (fun x hx => by
    obtain ⟨b, _, rfl⟩ := List.mem_map.1 hx
    exact b.toNat_lt)
  simpa using h2
theorem setE_keys (c : UInt8) (t : Nat) : ∀ es : List (UInt8 × Nat), (es.map (·.1)).Nodup → ((setE es c t).map (·.1)).Nodup ∧ ∀ d, d ∈ (setE es c t).map (·.1) → d = c ∨ d ∈ es.map (·.1)
  | [], _ => ⟨by simp [setE], by simp [setE]⟩
  | e :: es, h => by
    rw [setE]
    rw [List.map_cons, List.nodup_cons] at h
    by_cases he : e.1 = c
    · rw [if_pos he]
      exact ⟨by rw [List.map_cons, List.nodup_cons]; exact h, fun d hd => .inr hd⟩
    · rw [if_neg he]
      obtain ⟨i1, i2⟩ := setE_keys c t es h.2
      refine ⟨?_, fun d hd => ?_⟩
      · rw [List.map_cons, List.nodup_cons]
        refine ⟨fun hm => ?_, i1⟩
        rcases i2 _ hm with h3 | h3
        · exact he h3
        · exact h.1 h3
      · rw [List.map_cons, List.mem_cons] at hd ⊢
        rcases hd with hd | hd
        · exact .inr (.inl hd)
        · rcases i2 d hd with h3 | h3
          · exact .inl h3
          · exact .inr (.inr h3)
theorem ND.set {S : List Ste} (h : ND S) {s : Nat} (hs : s < S.length) (c : UInt8) (t : Nat) : ND (setS S s c t) := fun i => by
  have hg : gS (setS S s c t) i = if i = s then ⟨(gS S s).long, (gS S s).fin, (gS S s).link, setE (gS S s).edges c t⟩ else gS S i := gS_set hs
  rw [hg]
  split
  · exact (setE_keys c t _ (h s)).1
  · exact h i
theorem ND.link {S : List Ste} (h : ND S) {s : Nat} (hs : s < S.length) (l : Nat) : ND (linkS S s l) := fun i => by
  have hg : gS (linkS S s l) i = if i = s then ⟨(gS S s).long, (gS S s).fin, (l : Int), (gS S s).edges⟩ else gS S i := gS_set hs
  rw [hg]
  split
  · exact h s
  · exact h i
theorem ND.push {S : List Ste} (h : ND S) (st : Ste) (hst : (st.edges.map (·.1)).Nodup) : ND (S ++ [st]) := fun i => by
  by_cases h1 : i < S.length
  · rw [gS_left h1]; exact h i
  · by_cases h2 : i = S.length
    · subst h2; rw [gS_new]; exact hst
    · have : gS (S ++ [st]) i = Ste.z := by
        unfold gS List.getD
        rw [List.getElem?_eq_none (by simp; omega)]; rfl
      rw [this]; simp [Ste.z]
end Go.Proofs

/- Walks: a sign is added to the automaton: what holds while a state is cut in two, in whatever order. -/
namespace Go.Proofs
open Go Go.Abs
set_option linter.unusedSimpArgs false
set_option linter.unusedVariables false
set_option maxRecDepth 20000
theorem ready_mem {ops : Array Oper} {listed : Array Bool} {i : Nat} (h : i ∈ Region.ready .any ops listed) : i < ops.size ∧ listed.getD i true = false ∧ ∀ o, ops[i]? = some o → ∀ e ∈ o.after, Region.binds .any e = true → listed.getD e.on false = true := by
  unfold Region.ready at h
  rw [List.mem_filter, List.mem_range, Bool.and_eq_true] at h
  obtain ⟨h1, h2, h3⟩ := h
  refine ⟨h1, by simpa using h2, fun o ho e he hb => ?_⟩
  rw [ho] at h3
  simp only [Option.map_some, Option.getD_some] at h3
  have := (Array.all_eq_true'.1 h3) e he
  rw [hb] at this
  simpa using this
/-- Nothing is ready: all was done. -/
theorem ready_nil {ops : Array Oper} {listed : Array Bool} (hb : ((List.range ops.size).all fun i => (ops[i]?).all fun o => o.after.all fun e => decide (e.on < i)) = true) (hsz : listed.size = ops.size) (h : Region.ready .any ops listed = []) : ∀ i, i < ops.size → listed.getD i true = true := by
  intro i
  induction i using Nat.strongRecOn with
  | _ i ih =>
    intro hi
    cases hl : listed.getD i true with
    | true => rfl
    | false =>
      have hm : i ∈ Region.ready .any ops listed := by
        unfold Region.ready
        rw [List.mem_filter, List.mem_range, Bool.and_eq_true]
        refine ⟨hi, by rw [hl]; rfl, ?_⟩
        have ho : ops[i]? = some ops[i] := Array.getElem?_eq_getElem hi
        rw [ho]
        simp only [Option.map_some, Option.getD_some]
        rw [Array.all_eq_true']
        intro e he
        have h1 := List.all_eq_true.1 hb i (List.mem_range.2 hi)
        rw [ho] at h1
        have h2 := (Array.all_eq_true'.1 (show ops[i].after.all _ = true from h1)) e he
        rw [decide_eq_true_eq] at h2
        have h3 := ih e.on h2 (by omega)
        have h4 : listed.getD e.on false = true := by
          have hlt : e.on < listed.size := by
            omega
          rw [Array.getD_eq_getD_getElem?, Array.getElem?_eq_getElem hlt] at h3 ⊢
          exact h3
        rw [h4]; simp
      rw [h] at hm
      cases hm
theorem getD_setB {listed : Array Bool} {i k : Nat} (h : i < listed.size) : (listed.setIfInBounds i true).getD k false = if k = i then true else listed.getD k false := by
  rw [Array.getD_eq_getD_getElem?, Array.getD_eq_getD_getElem?, Array.getElem?_setIfInBounds]
  by_cases e : i = k
  · subst e; simp [h]
  · rw [if_neg e, if_neg (fun x => e x.symm)]
theorem getD_unl {listed : Array Bool} {i : Nat} (h : listed.getD i true = false) : listed.getD i false = false := by
  rw [Array.getD_eq_getD_getElem?] at h ⊢
  cases hh : listed[i]? with
  | none => rw [hh] at h; cases h
  | some b => rw [hh] at h; exact h
/-- What the operations that only tell something tell. -/
def tv13 (pA V vp pS lp lp1 vf vl ve : AV) (W : Nat) : Nat → Option (Nat × AV)
  | 0 => some (114, pA)
  | 1 => some (115, pA)
  | 2 => some (116, pA)
  | 3 => some (117, pA)
  | 4 => some (118, V)
  | 5 => some (119, pA)
  | 6 => some (120, pA)
  | 7 => some (121, pA)
  | 8 => some (122, V)
  | 9 => some (123, vp)
  | 10 => some (124, pS)
  | 11 => some (125, pS)
  | 12 => some (126, lp)
  | 13 => some (127, lp1)
  | 14 => some (128, .ptr W 1)
  | 15 => some (129, vf)
  | 16 => some (130, .ptr W 2)
  | 17 => some (131, vl)
  | 18 => some (132, .sl [] .exact)
  | 19 => some (133, .ptr W 3)
  | 20 => some (134, ve)
  | 25 => some (139, pA)
  | 26 => some (140, pA)
  | _ => none
theorem tv13_reg {pA V vp pS lp lp1 vf vl ve : AV} {W k t : Nat} {v : AV} (h : tv13 pA V vp pS lp lp1 vf vl ve W k = some (t, v)) : t = 114 + k ∧ k ≤ 26 ∧ ¬ k = 21 ∧ ¬ k = 22 ∧ ¬ k = 23 ∧ ¬ k = 24 := by
  unfold tv13 at h
  split at h <;> simp only [Option.some.injEq, Prod.mk.injEq, reduceCtorEq] at h
  all_goals (obtain ⟨rfl, -⟩ := h; refine ⟨rfl, ?_⟩; omega)
structure I13 (tv : Nat → Option (Nat × AV)) (fx : List (Nat × AV)) (G0 : Heap) (Ap : AV → Heap → Prop) (c3 : AV → List AV) (sid N A : Nat) (FS : List AV) (last : AV) (listed : Array Bool) (r : Regs) (H : Heap) : Prop where
  size : listed.size = 28
  fix : agrees r fx
  val : ∀ k t v, tv k = some (t, v) → listed.getD k false = true → r t = v
  cl : (listed.getD 22 false = true → listed.getD 21 false = true) ∧ (listed.getD 23 false = true → listed.getD 22 false = true) ∧ (listed.getD 24 false = true → listed.getD 23 false = true) ∧ (listed.getD 27 false = true → listed.getD 24 false = true)
  all : listed.getD 22 false = true → listed.getD 8 false = true ∧ listed.getD 12 false = true ∧ listed.getD 15 false = true ∧ listed.getD 17 false = true
  all2 : listed.getD 24 false = true → listed.getD 4 false = true
  h20 : listed.getD 21 false = true → listed.getD 20 false = true
  h0 : listed.getD 21 false = false → H = G0
  h1 : listed.getD 21 false = true → ∃ v' G1, Ap v' G1 ∧ r 135 = v' ∧ (listed.getD 22 false = true → r 136 = .agg (c3 v')) ∧ (listed.getD 23 false = true → r 137 = .sl [c3 v'] .exact) ∧ (listed.getD 24 false = false → H = G1) ∧
    (listed.getD 24 false = true → ∃ s', G1 s' = none ∧ r 138 = .ms s' 0 (N + 1) 4 ∧ (listed.getD 27 false = false → H = (G1.del sid).put s' (.cells (FS ++ c3 v'))) ∧ (listed.getD 27 false = true → H = ((G1.del sid).put s' (.cells (FS ++ c3 v'))).put A (.cells [.ms s' 0 (N + 1) 4, last])))
theorem agrees_upd {r : Regs} {t : Nat} {v : AV} : ∀ {fx : List (Nat × AV)}, (∀ p ∈ fx, ¬ p.1 = t) → agrees r fx → agrees (upd r t v) fx
  | [], _, _ => trivial
  | p :: fx, hn, h => ⟨by rw [upd_ne _ _ _ _ (hn p (List.mem_cons_self ..))]; exact h.1, agrees_upd (fun q hq => hn q (List.mem_cons_of_mem _ hq)) h.2⟩
/-- An operation that only tells something was done. -/
theorem I13.step {pA V vp pS lp lp1 vf vl ve : AV} {W : Nat} {fx : List (Nat × AV)} {G0 : Heap} {Ap : AV → Heap → Prop} {c3 : AV → List AV} {sid N A : Nat} {FS : List AV} {last : AV} {listed : Array Bool} {r : Regs} {H : Heap}
    (h : I13 (tv13 pA V vp pS lp lp1 vf vl ve W) fx G0 Ap c3 sid N A FS last listed r H) (hfx : ∀ p ∈ fx, p.1 < 114) {k t : Nat} {v : AV} (hk : tv13 pA V vp pS lp lp1 vf vl ve W k = some (t, v)) : I13 (tv13 pA V vp pS lp lp1 vf vl ve W) fx G0 Ap c3 sid N A FS last (listed.setIfInBounds k true) (upd r t v) H := by
  obtain ⟨e1, e2, e3, e4, e5, e6⟩ := tv13_reg hk
  have hg : ∀ j, (listed.setIfInBounds k true).getD j false = if j = k then true else listed.getD j false := fun j => getD_setB (by rw [h.size]; omega)
  have g21 : (listed.setIfInBounds k true).getD 21 false = listed.getD 21 false := by rw [hg, if_neg (fun e => e3 e.symm)]
  have g22 : (listed.setIfInBounds k true).getD 22 false = listed.getD 22 false := by rw [hg, if_neg (fun e => e4 e.symm)]
  have g23 : (listed.setIfInBounds k true).getD 23 false = listed.getD 23 false := by rw [hg, if_neg (fun e => e5 e.symm)]
  have g24 : (listed.setIfInBounds k true).getD 24 false = listed.getD 24 false := by rw [hg, if_neg (fun e => e6 e.symm)]
  have g27 : (listed.setIfInBounds k true).getD 27 false = listed.getD 27 false := by rw [hg, if_neg (fun e => by omega)]
  have up : ∀ j, listed.getD j false = true → (listed.setIfInBounds k true).getD j false = true := fun j hj => by rw [hg]; split; rfl; exact hj
  have n1 : ¬ 135 = t := by omega
  have n2 : ¬ 136 = t := by omega
  have n3 : ¬ 137 = t := by omega
  have n4 : ¬ 138 = t := by omega
  refine ⟨by rw [Array.size_setIfInBounds]; exact h.size, agrees_upd (fun p hp e => by have := hfx p hp; omega) h.fix, fun j u w hj hl => ?_, ?_, fun h22 => ?_, fun h24 => ?_, fun h21 => ?_, fun h21 => ?_, fun h21 => ?_⟩
  · have hr := tv13_reg hj
    by_cases ej : j = k
    · subst ej
      rw [hk] at hj
      cases hj
      rw [upd_same]
    · rw [upd_ne _ _ _ _ (by omega)]
      rw [hg, if_neg ej] at hl
      exact h.val j u w hj hl
  · rw [g21, g22, g23, g24, g27]; exact h.cl
  · rw [g22] at h22
    obtain ⟨a, b, c, d⟩ := h.all h22
    exact ⟨up _ a, up _ b, up _ c, up _ d⟩
  · rw [g24] at h24
    exact up _ (h.all2 h24)
  · rw [g21] at h21
    exact up _ (h.h20 h21)
  · rw [g21] at h21
    exact h.h0 h21
  · rw [g21] at h21
    rw [g22, g23, g24, g27, upd_ne _ _ _ _ n1, upd_ne _ _ _ _ n2, upd_ne _ _ _ _ n3, upd_ne _ _ _ _ n4]
    exact h.h1 h21
/-- While loads are to come, what was there is there. -/
theorem I13.heap {tv : Nat → Option (Nat × AV)} {fx : List (Nat × AV)} {G0 : Heap} {Ap : AV → Heap → Prop} {c3 : AV → List AV} {sid N A : Nat} {FS : List AV} {last : AV} {listed : Array Bool} {r : Regs} {H : Heap}
    (h : I13 tv fx G0 Ap c3 sid N A FS last listed r H) (hAp : ∀ v' G1, Ap v' G1 → G0.Sub G1) {k : Nat} (hk : k = 4 ∨ k = 8 ∨ k = 12 ∨ k = 15 ∨ k = 17 ∨ k = 20) (hu : listed.getD k false = false) : G0.Sub H := by
  cases h21 : listed.getD 21 false with
  | false => rw [h.h0 h21]; exact Heap.Sub.rfl' _
  | true =>
    obtain ⟨v', G1, h2, _, _, _, h5, _⟩ := h.h1 h21
    have h24 : listed.getD 24 false = false := by
      cases h24 : listed.getD 24 false with
      | false => rfl
      | true =>
        have h22 := h.cl.2.1 (h.cl.2.2.1 h24)
        obtain ⟨a, b, c, d⟩ := h.all h22
        have e := h.all2 h24
        have f := h.h20 h21
        rcases hk with rfl | rfl | rfl | rfl | rfl | rfl <;> simp_all
    rw [h5 h24]
    exact hAp v' G1 h2
theorem aopI_of {P : Program} {X : Steer} {ops : Array Oper} {i : Nat} {K : Regs → Heap → Prop} {r : Regs} {H : Heap} {d : Option Tmp} {op : Op} {ty : TypeId} {pos : String} {after : Array Edge} (h : ops[i]? = some ⟨d, op, ty, pos, after, none⟩) (hh : aop P X.pure (msOf X d) r H op fun v H' => K (put r d v) H') : aopI P X ops i K r H := by
  unfold aopI
  rw [h]
  exact hh
theorem I13.base {pA V vp pS lp lp1 vf vl ve : AV} {W : Nat} {fx : List (Nat × AV)} {G0 : Heap} {Ap : AV → Heap → Prop} {c3 : AV → List AV} {sid N A : Nat} {FS : List AV} {last : AV} {listed : Array Bool} {r : Regs} {H : Heap}
    (h : I13 (tv13 pA V vp pS lp lp1 vf vl ve W) fx G0 Ap c3 sid N A FS last listed r H) (hfx : ∀ p ∈ fx, p.1 < 114) {k t : Nat} {v : AV} (hk : k = 21 ∧ t = 135 ∨ k = 22 ∧ t = 136 ∨ k = 23 ∧ t = 137 ∨ k = 24 ∧ t = 138) :
    (listed.setIfInBounds k true).size = 28 ∧ agrees (upd r t v) fx ∧ (∀ j u w, tv13 pA V vp pS lp lp1 vf vl ve W j = some (u, w) → (listed.setIfInBounds k true).getD j false = true → upd r t v u = w) ∧ (∀ j, (listed.setIfInBounds k true).getD j false = if j = k then true else listed.getD j false) := by
  have hg : ∀ j, (listed.setIfInBounds k true).getD j false = if j = k then true else listed.getD j false := fun j => getD_setB (by rw [h.size]; omega)
  refine ⟨by rw [Array.size_setIfInBounds]; exact h.size, agrees_upd (fun p hp e => by have := hfx p hp; omega) h.fix, fun j u w hj hl => ?_, hg⟩
  have hr := tv13_reg hj
  rw [hg, if_neg (by omega)] at hl
  rw [upd_ne _ _ _ _ (by omega)]
  exact h.val j u w hj hl
theorem AH.grow {H G G' : Heap} {A sid : Nat} {S : List Ste} {last : Int} {ev : Nat → AV} (h : AH H G A sid S last ev) (hs : G.Sub G') : AH H G' A sid S last ev :=
  ⟨fun i o hi => hs i o (h.sub i o hi), h.nA, h.nS, h.AS, hs _ _ h.hA, hs _ _ h.hS, fun s hs' => (h.ed s hs').mono fun e n he => by rw [((h.ed s hs').there he).1]; exact hs _ _ ((h.ed s hs').there he).1, h.fr, h.nd⟩
end Go.Proofs
