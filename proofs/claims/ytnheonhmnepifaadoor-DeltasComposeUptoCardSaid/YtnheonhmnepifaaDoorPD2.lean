/- Pieces of which neighbours are joined: plain Lean, no program. -/
import Derived.Test.YtnheonhmnepifaaDoorPD1
namespace Go.Proofs
open Go Go.Abs
set_option linter.unusedSimpArgs false
set_option linter.unusedVariables false
def pcMerge (p n : PieceV) : Option PieceV :=
  if p.data = [] ∧ n.data = [] ∧ n.at_ = p.at_ + p.long then some ⟨p.at_, p.long + n.long, []⟩ else if p.data ≠ [] ∧ n.data ≠ [] then some ⟨p.at_, p.long, p.data ++ n.data⟩ else none
def joinR (p : PieceV) : List PieceV → List PieceV
  | [] => [p]
  | n :: r => match pcMerge p n with
    | some q => joinR q r
    | none => p :: joinR n r
def joinedV : List PieceV → List PieceV
  | [] => []
  | p :: r => joinR p r
def jstep (out : List PieceV) (p : PieceV) : List PieceV := match out.getLast? with
  | some q => (match pcMerge q p with
    | some q' => out.dropLast ++ [q']
    | none => out ++ [p])
  | none => [p]
theorem jstep_some {out : List PieceV} {q p q' : PieceV} (h : out.getLast? = some q) (hm : pcMerge q p = some q') : jstep out p = out.dropLast ++ [q'] := by
  unfold jstep; rw [h]; dsimp only; rw [hm]
theorem jstep_none {out : List PieceV} {q p : PieceV} (h : out.getLast? = some q) (hm : pcMerge q p = none) : jstep out p = out ++ [p] := by
  unfold jstep; rw [h]; dsimp only; rw [hm]
theorem fold_join : ∀ (r done : List PieceV) (q : PieceV), r.foldl jstep (done ++ [q]) = done ++ joinR q r
  | [], done, q => rfl
  | n :: r, done, q => by
    rw [List.foldl_cons]
    have hl : (done ++ [q]).getLast? = some q := by simp
    unfold joinR
    cases hm : pcMerge q n with
    | some q' =>
      rw [jstep_some hl hm]
      simp only [List.dropLast_concat]
      exact fold_join r done q'
    | none =>
      rw [jstep_none hl hm, fold_join r (done ++ [q]) n]
      simp
theorem joined_fold (l : List PieceV) : l.foldl jstep [] = joinedV l := by
  cases l with
  | nil => rfl
  | cons p r => exact fold_join r [] p
theorem fold_take {l : List PieceV} {i : Nat} {p : PieceV} (h : l[i]? = some p) : (l.take (i + 1)).foldl jstep [] = jstep ((l.take i).foldl jstep []) p := by
  rw [List.take_add_one, h, List.foldl_append]
  rfl
/-- What a piece may be. -/
def bnd (m : Nat) (q : PieceV) : Prop := (q.data = [] → -1099511627776 ≤ q.at_ ∧ q.at_ ≤ 1099511627776 ∧ 0 ≤ q.long ∧ q.long ≤ 1048576 * m) ∧ q.data.length ≤ 4194304 * m
def jR (l : List PieceV) : Prop := l.length ≤ 2097152 ∧ ∀ p ∈ l, bnd 1 p
theorem bnd.mono {m k : Nat} {q : PieceV} (h : bnd m q) (hk : m ≤ k) : bnd k q := ⟨fun e => by have := h.1 e; omega, by have := h.2; omega⟩
theorem bnd.merge {m : Nat} {p n q : PieceV} (hp : bnd m p) (hn : bnd 1 n) (h : pcMerge p n = some q) : bnd (m + 1) q := by
  unfold pcMerge at h
  split at h
  · rename_i hc
    cases h
    have h1 := hp.1 hc.1
    have h2 := hn.1 hc.2.1
    exact ⟨fun _ => by simp only; omega, by simp⟩
  · split at h
    · rename_i hc
      cases h
      refine ⟨fun e => ?_, ?_⟩
      · simp only [List.append_eq_nil_iff] at e
        exact absurd e.1 hc.1
      · simp only [List.length_append]
        have h1 := hp.2
        have h2 := hn.2
        omega
    · cases h
theorem jstep_bnd {out : List PieceV} {m : Nat} {p : PieceV} (h : ∀ q ∈ out, bnd m q) (hp : bnd 1 p) : ∀ q ∈ jstep out p, bnd (m + 1) q := by
  intro q hq
  unfold jstep at hq
  split at hq
  · rename_i q0 h0
    have hq0 : bnd m q0 := h q0 (List.mem_of_getLast? h0)
    split at hq
    · rename_i q' hm
      rcases List.mem_append.1 hq with h1 | h1
      · exact (h q ((List.dropLast_sublist out).subset h1)).mono (by omega)
      · simp only [List.mem_singleton] at h1
        subst h1
        exact hq0.merge hp hm
    · rcases List.mem_append.1 hq with h1 | h1
      · exact (h q h1).mono (by omega)
      · simp only [List.mem_singleton] at h1
        subst h1
        exact hp.mono (by omega)
  · simp only [List.mem_singleton] at hq
    subst hq
    exact hp.mono (by omega)
theorem jstep_len {out : List PieceV} {p : PieceV} : (jstep out p).length ≤ out.length + 1 := by
  unfold jstep
  split
  · rename_i q h
    have : 0 < out.length := by
      cases out with
      | nil => simp at h
      | cons => simp
    split <;> simp <;> omega
  · simp
theorem joinR_none {p n : PieceV} {r : List PieceV} (h : pcMerge p n = none) : joinR p (n :: r) = p :: joinR n r := by rw [joinR, h]
theorem joinR_some {p n q : PieceV} {r : List PieceV} (h : pcMerge p n = some q) : joinR p (n :: r) = joinR q r := by rw [joinR, h]
theorem drop_cons {α : Type} {l : List α} {i : Nat} {c : α} (h : l[i]? = some c) : l.drop i = c :: l.drop (i + 1) := by
  obtain ⟨h1, h2⟩ := List.getElem?_eq_some_iff.1 h
  rw [List.drop_eq_getElem_cons h1, h2]
/-- Right pieces are such. -/
theorem jR_of {l : List PieceV} {old : Int} (hr : psR l) (h : (stepsV l old).2 = 0) : jR l := by
  obtain ⟨h1, h2, h3, h4, h5, h6⟩ := stepsV_ok h
  refine ⟨by omega, fun p hp => ?_⟩
  have hpe := h4 p hp
  obtain ⟨r1, r2, r3⟩ := hr.2 p hp
  unfold pcE at hpe
  refine ⟨fun e => ?_, by omega⟩
  rw [if_neg (by simpa using e)] at hpe
  split at hpe <;> omega
def freshV (l : List PieceV) : Int := (l.map fun p => (p.data.length : Int)).sum
theorem freshV_succ {l : List PieceV} {i : Nat} {p : PieceV} (h : l[i]? = some p) : freshV (l.take (i + 1)) = freshV (l.take i) + p.data.length := by
  unfold freshV
  rw [List.take_add_one, h]
  simp
def patchV (a : Bytes) (d : DeltaV) : Bytes × Int :=
  if ¬ (a.length : Int) = d.old ∨ ¬ sumOf a = d.osum then ([], 14) else if ¬ sumOf (madeV a d.ps) = d.nsum then ([], 14) else (madeV a d.ps, 0)
def applyV (a : Bytes) (d : DeltaV) : Bytes × Int := if deltaE d ≠ 0 then ([], deltaE d) else patchV a d
def tidyV (d : DeltaV) : DeltaV := { d with ps := joinedV d.ps }
theorem fold_bnd {l : List PieceV} (h : ∀ p ∈ l, bnd 1 p) : ∀ i, (∀ q ∈ (l.take i).foldl jstep [], bnd i q) ∧ ((l.take i).foldl jstep []).length ≤ i
  | 0 => ⟨fun q hq => by simp at hq, by simp⟩
  | i + 1 => by
    obtain ⟨h1, h2⟩ := fold_bnd h i
    cases hp : l[i]? with
    | none =>
      rw [List.take_add_one, hp]
      simp only [Option.toList_none, List.append_nil]
      exact ⟨fun q hq => (h1 q hq).mono (by omega), by omega⟩
    | some p =>
      rw [fold_take hp]
      exact ⟨jstep_bnd h1 (h p (List.mem_of_getElem? hp)), Nat.le_trans jstep_len (by omega)⟩
end Go.Proofs
