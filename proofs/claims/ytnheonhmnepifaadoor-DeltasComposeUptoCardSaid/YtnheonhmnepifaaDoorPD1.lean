/- Pieces and deltas: plain Lean, no program. -/
import Derived.Test.YtnheonhmnepifaaDoorP3
namespace Go.Proofs
open Go Go.Abs
set_option linter.unusedSimpArgs false
set_option linter.unusedVariables false
structure PieceV where
  at_ : Int
  long : Int
  data : Bytes
  deriving DecidableEq
structure DeltaV where
  old : Int
  new : Int
  osum : Bytes
  nsum : Bytes
  ps : List PieceV
  deriving DecidableEq
def encPc (p : PieceV) : List AV := [.int .i64 p.at_, .int .i64 p.long, .str p.data]
def decPc : List AV → Option PieceV
  | [.int .i64 a, .int .i64 b, .str c] => some ⟨a, b, c⟩
  | _ => none
theorem decPc_enc (p : PieceV) : decPc (encPc p) = some p := rfl
theorem decPc_some {c : List AV} {p : PieceV} (h : decPc c = some p) : c = encPc p := by
  unfold decPc at h; split at h
  · cases h; rfl
  · cases h
def inI (n : Int) : Prop := -9223372036854775808 ≤ n ∧ n ≤ 9223372036854775807
instance (n : Int) : Decidable (inI n) := inferInstanceAs (Decidable (_ ∧ _))
def pcR (p : PieceV) : Prop := inI p.at_ ∧ inI p.long ∧ p.data.length ≤ 4194304
instance (p : PieceV) : Decidable (pcR p) := inferInstanceAs (Decidable (_ ∧ _ ∧ _))
/-- The first that is not 0. -/
def fst0 : List Int → Int
  | [] => 0
  | e :: l => if e = 0 then fst0 l else e
theorem fst0_at {l : List Int} {i : Nat} {e : Int} (h : fst0 (l.take i) = 0) (he : l[i]? = some e) (hne : e ≠ 0) : fst0 l = e := by
  induction l generalizing i with
  | nil => simp at he
  | cons d l ih =>
    cases i with
    | zero => simp at he; subst he; simp [fst0, hne]
    | succ i =>
      simp only [List.take_succ_cons, fst0] at h
      split at h
      · rename_i hd; simp only [fst0, hd, if_true]; exact ih h (by simpa using he)
      · exact absurd h ‹_›
theorem fst0_succ {l : List Int} {i : Nat} {e : Int} (h : fst0 (l.take i) = 0) (he : l[i]? = some e) (h0 : e = 0) : fst0 (l.take (i + 1)) = 0 := by
  induction l generalizing i with
  | nil => simp at he
  | cons d l ih =>
    cases i with
    | zero => simp at he; subst he; simp [fst0, h0]
    | succ i =>
      simp only [List.take_succ_cons, fst0] at h ⊢
      split at h
      · rename_i hd; simp only [hd, if_true]; exact ih h (by simpa using he)
      · exact absurd h ‹_›
def pcE (old : Int) (p : PieceV) : Int :=
  if p.data ≠ [] then (if p.at_ ≠ 0 ∨ p.long ≠ 0 then 2 else 0) else if p.at_ < 0 ∨ p.long < 1 ∨ old < p.long ∨ old - p.long < p.at_ then 3 else 0
def pcSize (p : PieceV) : Int := if p.data ≠ [] then p.data.length else p.long
def pcSum (l : List PieceV) : Int := (l.map pcSize).sum
def stepsV (l : List PieceV) (old : Int) : Int × Int :=
  if old < 0 ∨ 65536 < old then (0, 3) else if (5000 : Int) < l.length then (0, 4) else
  if fst0 (l.map (pcE old)) ≠ 0 then (0, fst0 (l.map (pcE old))) else if 65536 < pcSum l then (0, 4) else (pcSum l, 0)
theorem pcSum_succ {l : List PieceV} {i : Nat} {p : PieceV} (h : l[i]? = some p) : pcSum (l.take (i + 1)) = pcSum (l.take i) + pcSize p := by
  unfold pcSum
  rw [List.take_add_one, h]
  simp
/-- A right piece makes no more than this. -/
theorem pcSize_ok {old : Int} {p : PieceV} (hr : pcR p) (ho : old ≤ 65536) (h : pcE old p = 0) : 0 ≤ pcSize p ∧ pcSize p ≤ 4194304 := by
  obtain ⟨h1, h2, h3⟩ := hr
  unfold pcE at h
  unfold pcSize
  split at h
  · rename_i hd
    rw [if_pos hd]; omega
  · rename_i hd
    rw [if_neg hd]
    split at h
    · omega
    · omega
theorem stepsV_range {l : List PieceV} {old : Int} : 0 ≤ (stepsV l old).2 ∧ (stepsV l old).2 ≤ 4 := by
  have : ∀ l : List Int, (∀ e ∈ l, e = 0 ∨ e = 2 ∨ e = 3) → 0 ≤ fst0 l ∧ fst0 l ≤ 4 := by
    intro l hl
    induction l with
    | nil => simp [fst0]
    | cons e l ih =>
      unfold fst0
      split
      · exact ih fun e he => hl e (List.mem_cons_of_mem _ he)
      · have := hl e (List.mem_cons_self ..); omega
  have h2 := this (l.map (pcE old)) (by
    intro e he
    simp only [List.mem_map] at he
    obtain ⟨p, _, rfl⟩ := he
    unfold pcE
    split <;> split <;> omega)
  unfold stepsV
  split
  · simp
  · split
    · simp
    · split
      · exact h2
      · split <;> simp
def encDl (d : DeltaV) (t : Tail) : List AV := [.int .i64 d.old, .int .i64 d.new, .str d.osum, .str d.nsum, .sl (d.ps.map encPc) t]
def decDl : List AV → Option (DeltaV × Tail)
  | [.int .i64 a, .int .i64 b, .str c, .str e, .sl es t] => (decL decPc es).map fun l => (⟨a, b, c, e, l⟩, t)
  | _ => none
theorem decDl_enc (d : DeltaV) (t : Tail) : decDl (encDl d t) = some (d, t) := by
  unfold decDl encDl
  simp [decL_map (enc := encPc) decPc_enc]
theorem decDl_some {c : List AV} {p : DeltaV × Tail} (h : decDl c = some p) : c = encDl p.1 p.2 := by
  unfold decDl at h; split at h
  · rename_i a b c e es t
    cases hl : decL decPc es with
    | none => rw [hl] at h; cases h
    | some l =>
      rw [hl] at h
      cases h
      have := decL_some (enc := encPc) (fun _ _ => decPc_some) es l hl
      subst this
      rfl
  · cases h
def psR (l : List PieceV) : Prop := l.length ≤ 1099511627776 ∧ ∀ p ∈ l, pcR p
instance (l : List PieceV) : Decidable (psR l) := inferInstanceAs (Decidable (_ ∧ _))
def dlR (d : DeltaV) : Prop := inI d.old ∧ inI d.new ∧ d.osum.length ≤ 1099511627776 ∧ d.nsum.length ≤ 1099511627776 ∧ psR d.ps
instance (d : DeltaV) : Decidable (dlR d) := inferInstanceAs (Decidable (_ ∧ _ ∧ _ ∧ _ ∧ _))
def deltaE (d : DeltaV) : Int :=
  if d.old < 0 ∨ 65536 < d.old ∨ d.new < 0 ∨ 65536 < d.new then 3 else if sumB d.osum = false ∨ sumB d.nsum = false then 2 else
  if (stepsV d.ps d.old).2 ≠ 0 then (stepsV d.ps d.old).2 else if (stepsV d.ps d.old).1 ≠ d.new then 11 else 0
/-- What a piece makes of a text; what pieces make. -/
def pcMade (a : Bytes) (p : PieceV) : Bytes := if p.data ≠ [] then p.data else (a.take (p.at_ + p.long).toNat).drop p.at_.toNat
def madeV (a : Bytes) (l : List PieceV) : Bytes := (l.map (pcMade a)).flatten
def DeltaV.zero : DeltaV := ⟨0, 0, [], [], []⟩
def sameV (a b : DeltaV) : Prop := a.old = b.old ∧ a.new = b.new ∧ a.osum = b.osum ∧ a.nsum = b.nsum ∧ a.ps = b.ps
theorem madeV_succ {a : Bytes} {l : List PieceV} {i : Nat} {p : PieceV} (h : l[i]? = some p) : madeV a (l.take (i + 1)) = madeV a (l.take i) ++ pcMade a p := by
  unfold madeV
  rw [List.take_add_one, h]
  simp
theorem pcMade_len {a : Bytes} {p : PieceV} (h : pcE a.length p = 0) : ((pcMade a p).length : Int) = pcSize p := by
  unfold pcE at h
  unfold pcMade pcSize
  split at h
  · rename_i hd
    rw [if_pos hd, if_pos hd]
  · rename_i hd
    rw [if_neg hd, if_neg hd]
    split at h
    · omega
    · rw [List.length_drop, List.length_take]; omega
theorem madeV_len {a : Bytes} : ∀ {l : List PieceV}, (∀ p ∈ l, pcE a.length p = 0) → ((madeV a l).length : Int) = pcSum l
  | [], _ => rfl
  | p :: l, h => by
    have h1 := pcMade_len (h p (List.mem_cons_self ..))
    have h2 := madeV_len fun q hq => h q (List.mem_cons_of_mem _ hq)
    unfold madeV pcSum at *
    simp only [List.map_cons, List.flatten_cons, List.length_append, List.sum_cons]
    omega
theorem fst0_all {l : List Int} (h : fst0 l = 0) : ∀ e ∈ l, e = 0 := by
  induction l with
  | nil => intro e he; cases he
  | cons d l ih =>
    unfold fst0 at h
    split at h
    · rename_i hd
      intro e he
      rcases List.mem_cons.1 he with rfl | he
      · exact hd
      · exact ih h e he
    · exact absurd h ‹_›
theorem stepsV_ok {l : List PieceV} {old : Int} (h : (stepsV l old).2 = 0) : 0 ≤ old ∧ old ≤ 65536 ∧ l.length ≤ 5000 ∧ (∀ p ∈ l, pcE old p = 0) ∧ pcSum l ≤ 65536 ∧ (stepsV l old).1 = pcSum l := by
  unfold stepsV at h ⊢
  split at h
  · simp at h
  · rename_i h1
    split at h
    · simp at h
    · rename_i h2
      split at h
      · rename_i h3; exact absurd h h3
      · rename_i h3
        split at h
        · simp at h
        · rename_i h4
          rw [if_neg h1, if_neg h2, if_neg h3, if_neg h4]
          refine ⟨by omega, by omega, by omega, fun p hp => ?_, by omega, rfl⟩
          exact fst0_all (Decidable.not_not.1 h3) _ (List.mem_map_of_mem hp)
theorem deltaE_ok {d : DeltaV} (h : deltaE d = 0) : 0 ≤ d.old ∧ d.old ≤ 65536 ∧ 0 ≤ d.new ∧ d.new ≤ 65536 ∧ sumB d.osum = true ∧ sumB d.nsum = true ∧ (stepsV d.ps d.old).2 = 0 ∧ d.new = pcSum d.ps := by
  unfold deltaE at h
  split at h
  · omega
  · rename_i h1
    split at h
    · omega
    · rename_i h2
      split at h
      · rename_i h3; exact absurd h h3
      · rename_i h3
        split at h
        · omega
        · rename_i h4
          have h5 : (stepsV d.ps d.old).2 = 0 := Decidable.not_not.1 h3
          have h6 := (stepsV_ok h5).2.2.2.2.2
          refine ⟨by omega, by omega, by omega, by omega, ?_, ?_, h5, by omega⟩
          · cases hs : sumB d.osum with
            | true => rfl
            | false => exact absurd (.inl hs) h2
          · cases hs : sumB d.nsum with
            | true => rfl
            | false => exact absurd (.inr hs) h2
end Go.Proofs
