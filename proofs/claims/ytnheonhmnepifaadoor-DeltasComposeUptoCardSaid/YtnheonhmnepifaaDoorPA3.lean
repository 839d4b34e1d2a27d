/- Plain laws: the automaton as a list of states; a sign is added as the program adds it. -/
import Derived.Test.YtnheonhmnepifaaDoorPA2
import Derived.Test.YtnheonhmnepifaaDoorP1
namespace Go.Proofs
set_option linter.unusedSimpArgs false
set_option linter.unusedVariables false
structure Ste where
  long : Nat
  fin : Nat
  link : Int
  edges : List (UInt8 × Nat)
def Ste.z : Ste := ⟨0, 0, -1, []⟩
def nxE : List (UInt8 × Nat) → UInt8 → Option Nat
  | [], _ => none
  | e :: l, c => if e.1 = c then some e.2 else nxE l c
def setE : List (UInt8 × Nat) → UInt8 → Nat → List (UInt8 × Nat)
  | [], c, t => [(c, t)]
  | e :: l, c, t => if e.1 = c then (e.1, t) :: l else e :: setE l c t
theorem nxE_set (l : List (UInt8 × Nat)) (c : UInt8) (t : Nat) (d : UInt8) : nxE (setE l c t) d = if d = c then some t else nxE l d := by
  induction l with
  | nil =>
    simp only [setE, nxE]
    by_cases h : c = d
    · rw [if_pos h, if_pos h.symm]
    · rw [if_neg h, if_neg (fun e => h e.symm)]
  | cons e l ih =>
    rw [setE]
    by_cases he : e.1 = c
    · rw [if_pos he, nxE, nxE]
      simp only
      by_cases hd : d = c
      · rw [if_pos hd, if_pos (by rw [he, hd])]
      · rw [if_neg hd, if_neg (by rw [he]; exact fun h => hd h.symm), if_neg (by rw [he]; exact fun h => hd h.symm)]
    · rw [if_neg he, nxE, nxE, ih]
      by_cases hd : e.1 = d
      · rw [if_pos hd, if_pos hd, if_neg (by rw [← hd]; exact he)]
      · rw [if_neg hd, if_neg hd]
theorem setE_len (l : List (UInt8 × Nat)) (c : UInt8) (t : Nat) : (setE l c t).length = if nxE l c = none then l.length + 1 else l.length := by
  induction l with
  | nil => simp [setE, nxE]
  | cons e l ih =>
    rw [setE, nxE]
    by_cases he : e.1 = c
    · rw [if_pos he, if_pos he, if_neg (by simp)]; rfl
    · rw [if_neg he, if_neg he, List.length_cons, ih]
      split <;> simp
def gS (sts : List Ste) (s : Nat) : Ste := sts.getD s Ste.z
theorem gS_get {sts : List Ste} {s : Nat} (h : s < sts.length) : sts[s]? = some (gS sts s) := by
  simp [gS, List.getD, List.getElem?_eq_getElem h]
theorem gS_set {sts : List Ste} {p s : Nat} {x : Ste} (h : p < sts.length) : gS (sts.set p x) s = if s = p then x else gS sts s := by
  unfold gS List.getD
  rw [List.getElem?_set]
  by_cases e : p = s
  · subst e; simp [h]
  · rw [if_neg e, if_neg (fun h => e h.symm)]
theorem gS_left {sts l : List Ste} {s : Nat} (h : s < sts.length) : gS (sts ++ l) s = gS sts s := by
  unfold gS List.getD
  rw [List.getElem?_append_left h]
theorem gS_new (sts : List Ste) (x : Ste) : gS (sts ++ [x]) sts.length = x := by simp [gS, List.getD]
def setS (sts : List Ste) (p : Nat) (c : UInt8) (t : Nat) : List Ste := sts.set p ⟨(gS sts p).long, (gS sts p).fin, (gS sts p).link, setE (gS sts p).edges c t⟩
def linkS (sts : List Ste) (p : Nat) (l : Nat) : List Ste := sts.set p ⟨(gS sts p).long, (gS sts p).fin, (l : Int), (gS sts p).edges⟩
theorem setS_len (sts : List Ste) (p : Nat) (c : UInt8) (t : Nat) : (setS sts p c t).length = sts.length := by simp [setS]
theorem linkS_len (sts : List Ste) (p l : Nat) : (linkS sts p l).length = sts.length := by simp [linkS]
/-- From state to state along the shorter ends: an edge is set where there is none. -/
def ch1 (c : UInt8) (n : Nat) : Nat → List Ste → Int → List Ste × Int
  | 0, sts, p => (sts, p)
  | f + 1, sts, p => if p < 0 then (sts, p) else if nxE (gS sts p.toNat).edges c = none then ch1 c n f (setS sts p.toNat c n) (gS sts p.toNat).link else (sts, p)
/-- .. an edge is led elsewhere. -/
def ch2 (c : UInt8) (q m : Nat) : Nat → List Ste → Int → List Ste
  | 0, sts, _ => sts
  | f + 1, sts, p => if p < 0 then sts else if nxE (gS sts p.toNat).edges c = some q then ch2 c q m f (setS sts p.toNat c m) (gS sts p.toNat).link else sts
/-- A sign is added; 'e': how many there are then. -/
def addL (sts : List Ste) (last : Nat) (c : UInt8) (e : Nat) : List Ste :=
  let r := ch1 c sts.length (e + 1) (sts ++ [⟨e, e, 0, []⟩]) (last : Int)
  if r.2 < 0 then r.1 else
    match nxE (gS r.1 r.2.toNat).edges c with
    | none => r.1
    | some q =>
      if (gS r.1 q).long = (gS r.1 r.2.toNat).long + 1 then linkS r.1 sts.length q else
        linkS (linkS (ch2 c q r.1.length (e + 1) (r.1 ++ [⟨(gS r.1 r.2.toNat).long + 1, (gS r.1 q).fin, (gS r.1 q).link, (gS r.1 q).edges⟩]) r.2) q r.1.length) sts.length r.1.length
def ofL (sts : List Ste) : Au UInt8 := ⟨sts.length, fun s => (gS sts s).long, fun s => (gS sts s).fin, fun s => if (gS sts s).link < 0 then none else some (gS sts s).link.toNat, fun s c => nxE (gS sts s).edges c⟩
/-- What the loops leave of the old states: 'X' has a new edge. -/
structure Rw1 (S sts : List Ste) (N : Nat) (c : UInt8) (t : Nat) (g : Nat → UInt8 → Option Nat) (X : Nat → Prop) : Prop where
  len : sts.length = N
  same : ∀ s, s < S.length → (gS sts s).long = (gS S s).long ∧ (gS sts s).fin = (gS S s).fin ∧ (gS sts s).link = (gS S s).link
  up : ∀ s, S.length ≤ s → s < N → gS sts s = gS sts s
  yes : ∀ s, s < S.length → X s → nxE (gS sts s).edges c = some t
  no : ∀ s d, s < S.length → ¬ (d = c ∧ X s) → nxE (gS sts s).edges d = g s d
theorem ofL_K {sts : List Ste} {s : Nat} (h : (gS sts s).link < 0) : (ofL sts).K s = none := by simp [ofL, h]
theorem ofL_K' {sts : List Ste} {s : Nat} (h : ¬ (gS sts s).link < 0) : (ofL sts).K s = some (gS sts s).link.toNat := by simp [ofL, h]
theorem ch1_neg {c : UInt8} {n f : Nat} {sts : List Ste} {p : Int} (h : p < 0) : ch1 c n f sts p = (sts, p) := by
  cases f with
  | zero => rfl
  | succ f => rw [ch1, if_pos h]
theorem ch2_neg {c : UInt8} {q m f : Nat} {sts : List Ste} {p : Int} (h : p < 0) : ch2 c q m f sts p = sts := by
  cases f with
  | zero => rfl
  | succ f => rw [ch2, if_pos h]
/-- The first loop. -/
theorem ch1_ok {T : Bytes} {S : List Ste} {str : Nat → Bytes} (h : Inv T (ofL S) str) {c : UInt8} {x : Ste} : ∀ (f : Nat) (sts : List Ste) (p : Int) (X : Nat → Prop),
    Rw1 S sts (S.length + 1) c S.length (ofL S).nx X → gS sts S.length = x → (∀ s, X s ↔ s < S.length ∧ str s <:+ T ∧ (p < 0 ∨ (ofL S).L p.toNat < (ofL S).L s)) → (∀ s, X s → (ofL S).nx s c = none) →
    (0 ≤ p → p.toNat < S.length ∧ str p.toNat <:+ T ∧ (ofL S).L p.toNat < f) →
    ∃ X', Rw1 S (ch1 c S.length f sts p).1 (S.length + 1) c S.length (ofL S).nx X' ∧ gS (ch1 c S.length f sts p).1 S.length = x ∧ (∀ s, X' s ↔ s < S.length ∧ str s <:+ T ∧ (ofL S).nx s c = none) ∧
      (0 ≤ (ch1 c S.length f sts p).2 → (ch1 c S.length f sts p).2.toNat < S.length ∧ str (ch1 c S.length f sts p).2.toNat <:+ T ∧ (∃ q, (ofL S).nx (ch1 c S.length f sts p).2.toNat c = some q) ∧ ∀ s, s < S.length → str s <:+ T → (ofL S).L (ch1 c S.length f sts p).2.toNat < (ofL S).L s → (ofL S).nx s c = none) ∧
      ((ch1 c S.length f sts p).2 < 0 → ∀ s, s < S.length → str s <:+ T → (ofL S).nx s c = none) := by
  intro f
  induction f with
  | zero =>
    intro sts p X hR hx hX hXn hp
    have hneg : p < 0 := Int.lt_of_not_ge fun hge => by have := (hp hge).2.2; omega
    refine ⟨X, hR, hx, fun s => ?_, fun hge => ?_, fun _ s hs hsT => ?_⟩
    · rw [hX]
      refine ⟨fun hh => ⟨hh.1, hh.2.1, hXn s ((hX s).2 hh)⟩, fun hh => ⟨hh.1, hh.2.1, .inl hneg⟩⟩
    · have : p < 0 := hneg
      have : 0 ≤ p := hge
      omega
    · exact hXn s ((hX s).2 ⟨hs, hsT, .inl hneg⟩)
  | succ f ih =>
    intro sts p X hR hx hX hXn hp
    by_cases hneg : p < 0
    · rw [ch1_neg hneg]
      refine ⟨X, hR, hx, fun s => ?_, fun hge => ?_, fun _ s hs hsT => ?_⟩
      · rw [hX]
        refine ⟨fun hh => ⟨hh.1, hh.2.1, hXn s ((hX s).2 hh)⟩, fun hh => ⟨hh.1, hh.2.1, .inl hneg⟩⟩
      · have : 0 ≤ p := hge
        omega
      · exact hXn s ((hX s).2 ⟨hs, hsT, .inl hneg⟩)
    · obtain ⟨h1, h2, h3⟩ := hp (by omega)
      obtain ⟨r, hr⟩ : ∃ r : Nat, p = r := ⟨p.toNat, by omega⟩
      subst hr
      rw [Int.toNat_natCast] at h1 h2 h3
      have hnX : ¬ X r := fun hh => by
        have := (hX r).1 hh
        rw [Int.toNat_natCast] at this
        omega
      have hnx : nxE (gS sts r).edges c = (ofL S).nx r c := hR.no r c h1 (fun hh => hnX hh.2)
      rw [ch1, if_neg hneg, Int.toNat_natCast, hnx]
      cases hq : (ofL S).nx r c with
      | none =>
        rw [if_pos rfl]
        have hlk : (gS sts r).link = (gS S r).link := (hR.same r h1).2.2
        have hrl : r < sts.length := by rw [hR.len]; omega
        have hsl : S.length < sts.length := by rw [hR.len]; omega
        rw [hlk]
        have hg : ∀ s, gS (setS sts r c S.length) s = if s = r then ⟨(gS sts r).long, (gS sts r).fin, (gS sts r).link, setE (gS sts r).edges c S.length⟩ else gS sts s := fun s => gS_set hrl
        refine ih (setS sts r c S.length) (gS S r).link (fun s => X s ∨ s = r) ⟨by rw [setS_len]; exact hR.len, fun s hs => ?_, fun s _ _ => rfl, fun s hs hXs => ?_, fun s d hs hnd => ?_⟩ ?_ (fun s => ?_) (fun s hXs => ?_) (fun hge => ?_)
        · rw [hg]
          split
          · rename_i e; subst e; exact hR.same s hs
          · exact hR.same s hs
        · rw [hg]
          split
          · simp only; rw [nxE_set, if_pos rfl]
          · rename_i e; exact hR.yes s hs (hXs.resolve_right e)
        · rw [hg]
          split
          · rename_i e
            subst e
            simp only
            rw [nxE_set, if_neg (fun e2 => hnd ⟨e2, .inr rfl⟩)]
            exact hR.no s d hs (fun hh => hnd ⟨hh.1, .inl hh.2⟩)
          · exact hR.no s d hs (fun hh => hnd ⟨hh.1, .inl hh.2⟩)
        · rw [hg, if_neg (by omega)]; exact hx
        · rw [hX]
          constructor
          · rintro (⟨a1, a2, a3⟩ | rfl)
            · refine ⟨a1, a2, ?_⟩
              by_cases hl : (gS S r).link < 0
              · exact .inl hl
              · have := (h.chain_link h1 h2 (ofL_K' hl)).2.2
                rcases a3 with a3 | a3
                · omega
                · rw [Int.toNat_natCast] at a3
                  exact .inr (by omega)
            · refine ⟨h1, h2, ?_⟩
              by_cases hl : (gS S s).link < 0
              · exact .inl hl
              · exact .inr (h.chain_link h1 h2 (ofL_K' hl)).2.2
          · rintro ⟨a1, a2, a3⟩
            by_cases hgt : (ofL S).L r < (ofL S).L s
            · exact .inl ⟨a1, a2, .inr (by rw [Int.toNat_natCast]; exact hgt)⟩
            · refine .inr ?_
              by_cases hl : (gS S r).link < 0
              · exact h.chain_root a1 h1 (ofL_K hl) (by omega)
              · exact h.chain_gap a1 h1 a2 h2 (ofL_K' hl) (a3.resolve_left hl) (by omega)
        · rcases hXs with hXs | rfl
          · exact hXn s hXs
          · exact hq
        · have hl : ¬ (gS S r).link < 0 := by omega
          obtain ⟨b1, b2, b3⟩ := h.chain_link h1 h2 (ofL_K' hl)
          exact ⟨b1, b2, by omega⟩
      | some q =>
        rw [if_neg (by simp)]
        have hXiff : ∀ s, X s ↔ s < S.length ∧ str s <:+ T ∧ (ofL S).nx s c = none := fun s => by
          rw [hX, Int.toNat_natCast]
          constructor
          · rintro ⟨a1, a2, a3⟩
            exact ⟨a1, a2, hXn s ((hX s).2 ⟨a1, a2, by rw [Int.toNat_natCast]; exact a3⟩)⟩
          · rintro ⟨a1, a2, a3⟩
            refine ⟨a1, a2, .inr (Nat.lt_of_not_le fun hle => ?_)⟩
            obtain ⟨t, ht⟩ := h.chain_edge a1 h1 a2 h2 hle hq
            rw [a3] at ht; cases ht
        refine ⟨X, hR, hx, hXiff, fun _ => ⟨by simpa using h1, by simpa using h2, ⟨q, by simpa using hq⟩, fun s hs hsT hl => ?_⟩, fun hn => ?_⟩
        · have hl : (ofL S).L r < (ofL S).L s := by simpa using hl
          exact hXn s ((hX s).2 ⟨hs, hsT, .inr (by rw [Int.toNat_natCast]; exact hl)⟩)
        · have : ((r : Nat) : Int) < 0 := hn
          omega
/-- The second loop. -/
theorem ch2_ok {T : Bytes} {S : List Ste} {str : Nat → Bytes} (h : Inv T (ofL S) str) {c : UInt8} {x y : Ste} {r q : Nat} (hr : r < S.length) (hrT : str r <:+ T) (hrq : (ofL S).nx r c = some q) (hqn : q < S.length) {g : Nat → UInt8 → Option Nat}
    (hg1 : ∀ s, s < S.length → str s <:+ T → (ofL S).L s ≤ (ofL S).L r → g s c = (ofL S).nx s c) (hgr : ∀ s, s < S.length → str s <:+ T → (ofL S).L r < (ofL S).L s → (ofL S).nx s c = none) : ∀ (f : Nat) (sts : List Ste) (p : Int) (X : Nat → Prop),
    Rw1 S sts (S.length + 2) c (S.length + 1) g X → gS sts S.length = x → gS sts (S.length + 1) = y → (∀ s, X s ↔ s < S.length ∧ str s <:+ T ∧ (ofL S).nx s c = some q ∧ (p < 0 ∨ (ofL S).L p.toNat < (ofL S).L s)) →
    (0 ≤ p → p.toNat < S.length ∧ str p.toNat <:+ T ∧ (ofL S).L p.toNat < f ∧ (ofL S).L p.toNat ≤ (ofL S).L r) →
    ∃ X', Rw1 S (ch2 c q (S.length + 1) f sts p) (S.length + 2) c (S.length + 1) g X' ∧ gS (ch2 c q (S.length + 1) f sts p) S.length = x ∧ gS (ch2 c q (S.length + 1) f sts p) (S.length + 1) = y ∧ (∀ s, X' s ↔ s < S.length ∧ str s <:+ T ∧ (ofL S).nx s c = some q) := by
  intro f
  induction f with
  | zero =>
    intro sts p X hR hx hy hX hp
    have hneg : p < 0 := Int.lt_of_not_ge fun hge => by have := (hp hge).2.2.1; omega
    exact ⟨X, hR, hx, hy, fun s => by rw [hX]; exact ⟨fun hh => ⟨hh.1, hh.2.1, hh.2.2.1⟩, fun hh => ⟨hh.1, hh.2.1, hh.2.2, .inl hneg⟩⟩⟩
  | succ f ih =>
    intro sts p X hR hx hy hX hp
    by_cases hneg : p < 0
    · rw [ch2_neg hneg]
      exact ⟨X, hR, hx, hy, fun s => by rw [hX]; exact ⟨fun hh => ⟨hh.1, hh.2.1, hh.2.2.1⟩, fun hh => ⟨hh.1, hh.2.1, hh.2.2, .inl hneg⟩⟩⟩
    · obtain ⟨h1, h2, h3, h4⟩ := hp (by omega)
      obtain ⟨a, ha⟩ : ∃ a : Nat, p = a := ⟨p.toNat, by omega⟩
      subst ha
      rw [Int.toNat_natCast] at h1 h2 h3 h4
      have hnX : ¬ X a := fun hh => by
        have := (hX a).1 hh
        rw [Int.toNat_natCast] at this
        omega
      have hnx : nxE (gS sts a).edges c = (ofL S).nx a c := (hR.no a c h1 (fun hh => hnX hh.2)).trans (hg1 a h1 h2 h4)
      rw [ch2, if_neg hneg, Int.toNat_natCast, hnx]
      by_cases hq : (ofL S).nx a c = some q
      · rw [if_pos hq]
        have hlk : (gS sts a).link = (gS S a).link := (hR.same a h1).2.2
        have hrl : a < sts.length := by rw [hR.len]; omega
        rw [hlk]
        have hg : ∀ s, gS (setS sts a c (S.length + 1)) s = if s = a then ⟨(gS sts a).long, (gS sts a).fin, (gS sts a).link, setE (gS sts a).edges c (S.length + 1)⟩ else gS sts s := fun s => gS_set hrl
        refine ih (setS sts a c (S.length + 1)) (gS S a).link (fun s => X s ∨ s = a) ⟨by rw [setS_len]; exact hR.len, fun s hs => ?_, fun s _ _ => rfl, fun s hs hXs => ?_, fun s d hs hnd => ?_⟩ ?_ ?_ (fun s => ?_) (fun hge => ?_)
        · rw [hg]
          split
          · rename_i e; subst e; exact hR.same s hs
          · exact hR.same s hs
        · rw [hg]
          split
          · simp only; rw [nxE_set, if_pos rfl]
          · rename_i e; exact hR.yes s hs (hXs.resolve_right e)
        · rw [hg]
          split
          · rename_i e
            subst e
            simp only
            rw [nxE_set, if_neg (fun e2 => hnd ⟨e2, .inr rfl⟩)]
            exact hR.no s d hs (fun hh => hnd ⟨hh.1, .inl hh.2⟩)
          · exact hR.no s d hs (fun hh => hnd ⟨hh.1, .inl hh.2⟩)
        · rw [hg, if_neg (by omega)]; exact hx
        · rw [hg, if_neg (by omega)]; exact hy
        · rw [hX]
          constructor
          · rintro (⟨a1, a2, a4, a3⟩ | rfl)
            · refine ⟨a1, a2, a4, ?_⟩
              by_cases hl : (gS S a).link < 0
              · exact .inl hl
              · have := (h.chain_link h1 h2 (ofL_K' hl)).2.2
                rcases a3 with a3 | a3
                · omega
                · rw [Int.toNat_natCast] at a3
                  exact .inr (by omega)
            · refine ⟨h1, h2, hq, ?_⟩
              by_cases hl : (gS S s).link < 0
              · exact .inl hl
              · exact .inr (h.chain_link h1 h2 (ofL_K' hl)).2.2
          · rintro ⟨a1, a2, a4, a3⟩
            by_cases hgt : (ofL S).L a < (ofL S).L s
            · exact .inl ⟨a1, a2, a4, .inr (by rw [Int.toNat_natCast]; exact hgt)⟩
            · refine .inr ?_
              by_cases hl : (gS S a).link < 0
              · exact h.chain_root a1 h1 (ofL_K hl) (by omega)
              · exact h.chain_gap a1 h1 a2 h2 (ofL_K' hl) (a3.resolve_left hl) (by omega)
        · have hl : ¬ (gS S a).link < 0 := by omega
          obtain ⟨b1, b2, b3⟩ := h.chain_link h1 h2 (ofL_K' hl)
          exact ⟨b1, b2, by omega, by omega⟩
      · rw [if_neg hq]
        refine ⟨X, hR, hx, hy, fun s => ?_⟩
        rw [hX, Int.toNat_natCast]
        constructor
        · rintro ⟨a1, a2, a4, a3⟩
          exact ⟨a1, a2, a4⟩
        · rintro ⟨a1, a2, a3⟩
          refine ⟨a1, a2, a3, .inr (Nat.lt_of_not_le fun hle => ?_)⟩
          obtain ⟨t, ht⟩ := h.chain_edge h1 hr h2 hrT h4 hrq
          have := h.chain_q hr a1 h1 hrT a2 h2 hrq a3 hle h4 ht
          rw [this] at ht
          exact hq ht
end Go.Proofs
