/- Plain laws: bytes of a delta are read. -/
import Derived.Test.YtnheonhmnepifaaDoorDD7
namespace Go.Proofs
open Go Go.Abs
set_option linter.unusedSimpArgs false
set_option linter.unusedVariables false
/-- Digits of bytes. -/
def hexB (b : Bytes) : Bytes := b.flatMap fun c => [dig (c.toNat / 16), dig (c.toNat % 16)]
def beN (b : Bytes) : Nat := b.foldl (fun v c => v * 256 + c.toNat) 0
theorem beN_snoc (b : Bytes) (c : UInt8) : beN (b ++ [c]) = beN b * 256 + c.toNat := by simp [beN]
theorem hexB_snoc (b : Bytes) (c : UInt8) : hexB (b ++ [c]) = hexB b ++ [dig (c.toNat / 16), dig (c.toNat % 16)] := by simp [hexB]
theorem beN_lt : ∀ (k : Nat) (b : Bytes), b.length = k → beN b < 256 ^ k := by
  intro k
  induction k with
  | zero => intro b h; rw [List.eq_nil_of_length_eq_zero h]; simp [beN]
  | succ k ih =>
    intro b h
    obtain ⟨b', c, rfl⟩ : ∃ b' c, b = b' ++ [c] := ⟨b.dropLast, b.getLast (by intro e; simp [e] at h), (List.dropLast_concat_getLast _).symm⟩
    rw [beN_snoc]
    have h1 := ih b' (by simpa using h)
    have h2 := c.toNat_lt
    rw [Nat.pow_succ]
    omega
theorem hexPad_be : ∀ (k : Nat) (b : Bytes), b.length = k → hexPad (2 * k) (beN b) = hexB b := by
  intro k
  induction k with
  | zero => intro b h; rw [List.eq_nil_of_length_eq_zero h]; rfl
  | succ k ih =>
    intro b h
    obtain ⟨b', c, rfl⟩ : ∃ b' c, b = b' ++ [c] := ⟨b.dropLast, b.getLast (by intro e; simp [e] at h), (List.dropLast_concat_getLast _).symm⟩
    have h2 := c.toNat_lt
    rw [beN_snoc, hexB_snoc, show 2 * (k + 1) = 2 * k + 1 + 1 from by omega, hexPad, hexPad, ← ih b' (by simpa using h)]
    have e1 : (beN b' * 256 + c.toNat) / 16 / 16 = beN b' := by omega
    have e2 : (beN b' * 256 + c.toNat) / 16 % 16 = c.toNat / 16 := by omega
    have e3 : (beN b' * 256 + c.toNat) % 16 = c.toNat % 16 := by omega
    rw [e1, e2, e3]
    simp
/-- Reading. -/
def sumR (l : Bytes) : Option (Bytes × Bytes) := if 8 ≤ l.length then some (hexB (l.take 8), l.drop 8) else none
def numR : Nat → Nat → Nat → Bytes → Option (Nat × Bytes)
  | 0, _, _, _ => none
  | _ + 1, _, _, [] => none
  | f + 1, i, n, c :: l => if c.toNat < 128 then (if 0 < i ∧ c = 0 then none else some (n + c.toNat % 128 * 2 ^ (7 * i), l)) else numR f (i + 1) (n + c.toNat % 128 * 2 ^ (7 * i)) l
def num (l : Bytes) : Option (Nat × Bytes) := numR 5 0 0 l
def pieceR : Bytes → Option (PieceV × Bytes)
  | [] => none
  | c :: l => if c = 0 then (num l).bind fun x => (num x.2).map fun y => (⟨x.1, y.1, []⟩, y.2)
    else if c = 1 then (num l).bind fun x => if x.1 = 0 ∨ x.2.length < x.1 then none else some (⟨0, 0, x.2.take x.1⟩, x.2.drop x.1)
    else none
def piecesR : Nat → Bytes → Option (List PieceV × Bytes)
  | 0, l => some ([], l)
  | k + 1, l => (pieceR l).bind fun x => (piecesR k x.2).map fun y => (x.1 :: y.1, y.2)
def bodyR (s : Bytes) : Option (DeltaV × Bytes) :=
  if s.take 4 = [79, 70, 68, 49] then (num (s.drop 4)).bind fun a => (num a.2).bind fun b => (sumR b.2).bind fun u => (sumR u.2).bind fun v => (num v.2).bind fun n => (piecesR n.1 n.2).map fun p => (⟨a.1, b.1, u.1, v.1, p.1⟩, p.2) else none
def parseV (s : Bytes) : DeltaV × Int :=
  if 2097152 < s.length then (DeltaV.zero, 4) else match bodyR s with
  | none => (DeltaV.zero, 8)
  | some (d, r) => match sumR r with
    | some (h, []) => if ¬ h = sumOf (s.take (s.length - r.length)) then (DeltaV.zero, 14) else if ¬ deltaE d = 0 then (DeltaV.zero, deltaE d) else (d, 0)
    | _ => (DeltaV.zero, 8)
/-! ### What is written is read -/
theorem numR_groups : ∀ (f i n m : Nat) (l : Bytes), m < 128 ^ (f + 1) → (0 < i → 0 < m) → numR (f + 1) i n (groupsB m ++ l) = some (n + m * 2 ^ (7 * i), l) := by
  have small : ∀ (f i n m : Nat) (l : Bytes), m < 128 → (0 < i → 0 < m) → numR (f + 1) i n (groupsB m ++ l) = some (n + m * 2 ^ (7 * i), l) := by
    intro f i n m l hs hm
    rw [groupsB_small hs]
    have e : (UInt8.ofNat m).toNat = m := by rw [u8_of_mod]; omega
    simp only [List.singleton_append, numR, e, if_pos hs]
    rw [if_neg, Nat.mod_eq_of_lt hs]
    rintro ⟨h1, h2⟩
    have := hm h1
    rw [h2] at e
    simp at e
    omega
  intro f
  induction f with
  | zero => intro i n m l h hm; exact small 0 i n m l (by simpa using h) hm
  | succ f ih =>
    intro i n m l h hm
    by_cases hs : m < 128
    · exact small _ i n m l hs hm
    · rw [groupsB_big hs]
      have e : (UInt8.ofNat (m % 128 + 128)).toNat = m % 128 + 128 := by rw [u8_of_mod]; omega
      simp only [List.cons_append]
      rw [numR]
      simp only [e]
      rw [if_neg (by omega), ih (i + 1) _ (m / 128) l (by rw [Nat.pow_succ] at h; omega) (by omega)]
      congr 2
      have e2 : (m % 128 + 128) % 128 = m % 128 := by omega
      rw [e2, show 7 * (i + 1) = 7 * i + 7 from by omega, Nat.pow_add]
      have := Nat.div_add_mod m 128
      have e3 : (2 : Nat) ^ 7 = 128 := rfl
      rw [e3]
      generalize 2 ^ (7 * i) = z at *
      have e4 : m * z = (128 * (m / 128) + m % 128) * z := by rw [this]
      rw [e4, Nat.add_mul]
      have e5 : m / 128 * (z * 128) = 128 * (m / 128) * z := by rw [Nat.mul_comm z 128, ← Nat.mul_assoc, Nat.mul_comm (m / 128) 128]
      omega
theorem num_groups {m : Nat} (l : Bytes) (h : m < 34359738368) : num (groupsB m ++ l) = some (m, l) := by
  have := numR_groups 4 0 0 m l (by simpa using h) (by omega)
  simpa [num] using this
theorem numR_lt : ∀ (f i n : Nat) (l : Bytes) (v : Nat) (r : Bytes), numR f i n l = some (v, r) → n < 2 ^ (7 * i) → v < 2 ^ (7 * (i + f)) ∧ r.length < l.length := by
  intro f
  induction f with
  | zero => intro i n l v r h; cases h
  | succ f ih =>
    intro i n l v r h hn
    cases l with
    | nil => cases h
    | cons c l =>
      have h1 : c.toNat % 128 < 128 := Nat.mod_lt _ (by omega)
      have e3 : (2 : Nat) ^ 7 = 128 := rfl
      have h2 : n + c.toNat % 128 * 2 ^ (7 * i) < 2 ^ (7 * (i + 1)) := by
        rw [show 7 * (i + 1) = 7 * i + 7 from by omega, Nat.pow_add, e3]
        generalize 2 ^ (7 * i) = z at *
        have : c.toNat % 128 * z ≤ 127 * z := Nat.mul_le_mul_right _ (by omega)
        omega
      rw [numR] at h
      split at h
      · split at h
        · cases h
        · cases h
          refine ⟨Nat.lt_of_lt_of_le h2 (Nat.pow_le_pow_right (by omega) (by omega)), by simp⟩
      · have := ih (i + 1) _ l v r h h2
        rw [show i + 1 + f = i + (f + 1) from by omega] at this
        exact ⟨this.1, by simp only [List.length_cons]; omega⟩
theorem num_lt {l : Bytes} {v : Nat} {r : Bytes} (h : num l = some (v, r)) : v < 34359738368 ∧ r.length < l.length := by
  have := numR_lt 5 0 0 l v r h (by simp)
  simpa using this
/-- The digits of a sum mean its bytes. -/
theorem dig_dgV : ∀ m : Nat, m < 16 → dgV (dig m) = m := by decide
set_option maxRecDepth 100000 in
theorem dgV_dig0 : ∀ n : Nat, n < 256 → isHx (n : Int) = true → dig (dgV (UInt8.ofNat n)) = UInt8.ofNat n := by decide
theorem dgV_dig {c : UInt8} (h : isHx (c.toNat : Int) = true) : dig (dgV c) = c := by
  have := dgV_dig0 c.toNat c.toNat_lt h
  simpa using this
theorem hexN_pad : ∀ (k : Nat) (s : Bytes), s.length = k → allB isHx s = true → hexPad k (hexN s) = s := by
  intro k
  induction k with
  | zero => intro s h _; rw [List.eq_nil_of_length_eq_zero h]; rfl
  | succ k ih =>
    intro s h ha
    obtain ⟨b, c, rfl⟩ : ∃ b c, s = b ++ [c] := ⟨s.dropLast, s.getLast (by intro e; simp [e] at h), (List.dropLast_concat_getLast _).symm⟩
    simp only [allB, List.all_append, List.all_cons, List.all_nil, Bool.and_true, Bool.and_eq_true] at ha
    have h1 := dgV_lt ha.2
    have e : hexN (b ++ [c]) = hexN b * 16 + dgV c := by simp [hexN]
    rw [e, hexPad]
    have e1 : (hexN b * 16 + dgV c) / 16 = hexN b := by omega
    have e2 : (hexN b * 16 + dgV c) % 16 = dgV c := by omega
    rw [e1, e2, ih b (by simpa using h) (by simpa [allB] using ha.1), dgV_dig ha.2]
theorem sum_pad {s : Bytes} (h : sumB s = true) : hexPad 16 (hexN s) = s := by
  have h1 := sumB_len h
  have h2 : allB isHx s = true := by
    simp only [sumB, Bool.and_eq_true] at h
    exact h.1
  exact hexN_pad 16 s h1 h2
theorem hexB_raw (n : Nat) : hexB (rawB n) = hexPad 16 n := by
  have hl : ∀ b : Bytes, (hexB b).length = 2 * b.length := by
    intro b
    induction b with
    | nil => rfl
    | cons c b ih => simp only [hexB, List.flatMap_cons, List.length_append, List.length_cons, List.length_nil] at ih ⊢; omega
  refine List.ext_getElem? fun i => ?_
  by_cases hi : i < 16
  · have : i = 0 ∨ i = 1 ∨ i = 2 ∨ i = 3 ∨ i = 4 ∨ i = 5 ∨ i = 6 ∨ i = 7 ∨ i = 8 ∨ i = 9 ∨ i = 10 ∨ i = 11 ∨ i = 12 ∨ i = 13 ∨ i = 14 ∨ i = 15 := by omega
    rw [hexPad_get2 n i hi]
    rcases this with rfl | rfl | rfl | rfl | rfl | rfl | rfl | rfl | rfl | rfl | rfl | rfl | rfl | rfl | rfl | rfl <;>
      simp [hexB, rawB, List.range, List.range.loop] <;> congr 1 <;> omega
  · rw [List.getElem?_eq_none (by rw [hl, rawB_len]; omega), List.getElem?_eq_none (by rw [hexPad_len]; omega)]
theorem sumR_raw {s : Bytes} (l : Bytes) (h : sumB s = true) : sumR (rawB (hexN s) ++ l) = some (s, l) := by
  have hl := rawB_len (hexN s)
  unfold sumR
  rw [if_pos (by simp; omega), List.take_left' hl, List.drop_left' hl, hexB_raw, sum_pad h]
theorem piece_read {old : Int} {p : PieceV} (l : Bytes) (ho : old ≤ 65536) (hr : pcR p) (h : pcE old p = 0) : pieceR (pieceB p ++ l) = some (p, l) := by
  obtain ⟨a, b, c⟩ := p
  have hs := pc_small ho h
  have hc := hr.2.2
  unfold pcE at h
  unfold pieceB
  simp only at hs hc h ⊢
  by_cases hd : c = []
  · subst hd
    have hs := hs rfl
    rw [if_neg (by simp)]
    simp only [List.cons_append, pieceR, if_true, List.append_assoc]
    rw [num_groups _ (by omega)]
    simp only [Option.bind_some]
    rw [num_groups _ (by omega)]
    simp only [Option.map_some, Int.toNat_of_nonneg hs.1, Int.toNat_of_nonneg hs.2.2.1]
  · rw [if_pos (by simpa using hd)] at h ⊢
    simp only [List.cons_append, pieceR, List.append_assoc]
    rw [if_neg (by decide), if_pos trivial, num_groups _ (by omega)]
    simp only [Option.bind_some]
    rw [if_neg (by simp; exact hd), List.take_left, List.drop_left]
    split at h
    · omega
    · rename_i h2
      have : a = 0 ∧ b = 0 := by omega
      rw [this.1, this.2]
theorem pieces_read {old : Int} (ho : old ≤ 65536) : ∀ (ps : List PieceV) (l : Bytes), (∀ p ∈ ps, pcR p) → (∀ p ∈ ps, pcE old p = 0) → piecesR ps.length ((ps.map pieceB).flatten ++ l) = some (ps, l)
  | [], l, _, _ => rfl
  | p :: ps, l, h1, h2 => by
    simp only [List.length_cons, List.map_cons, List.flatten_cons, List.append_assoc, piecesR]
    rw [piece_read _ ho (h1 p (List.mem_cons_self ..)) (h2 p (List.mem_cons_self ..))]
    simp only [Option.bind_some]
    rw [pieces_read ho ps l (fun q hq => h1 q (List.mem_cons_of_mem _ hq)) (fun q hq => h2 q (List.mem_cons_of_mem _ hq))]
    rfl
theorem body_read {d : DeltaV} (l : Bytes) (hr : dlR d) (h : deltaE d = 0) : bodyR (bodyB d ++ l) = some (d, l) := by
  obtain ⟨e1, e2, e3, e4, e5, e6, e7, e8⟩ := deltaE_ok h
  obtain ⟨f1, f2, f3, f4, f5, f6⟩ := stepsV_ok e7
  have hp := pieces_read e2 d.ps l hr.2.2.2.2.2 f4
  unfold bodyR bodyB headB
  simp only [List.append_assoc]
  rw [if_pos (by rfl)]
  rw [List.drop_left' (by rfl), num_groups _ (by omega)]
  simp only [Option.bind_some]
  rw [num_groups _ (by omega)]
  simp only [Option.bind_some]
  rw [sumR_raw _ e5]
  simp only [Option.bind_some]
  rw [sumR_raw _ e6]
  simp only [Option.bind_some]
  rw [num_groups _ (by omega)]
  simp only [Option.bind_some, hp, Option.map_some, Int.toNat_of_nonneg e1, Int.toNat_of_nonneg e3]
theorem piece_len2 {p : PieceV} {old : Int} (ho : old ≤ 65536) (hr : pcR p) (h : pcE old p = 0) : ((pieceB p).length : Int) ≤ 13 + pcSize p := by
  have hs := pc_small ho h
  have hc := hr.2.2
  have hz := (pcSize_ok hr ho h).1
  unfold pieceB pcSize
  unfold pcSize at hz
  by_cases hd : p.data = []
  · have hs := hs hd
    have h1 := groups6 (n := p.at_.toNat) (by omega)
    have h2 := groups6 (n := p.long.toNat) (by omega)
    rw [if_neg (by simpa using hd)] at hz
    rw [if_neg (by simpa using hd), if_neg (by simpa using hd)]
    simp only [List.length_cons, List.length_append]
    omega
  · have h1 := groups6 (n := p.data.length) (by omega)
    rw [if_pos hd, if_pos hd]
    simp only [List.length_cons, List.length_append]
    omega
theorem print_len {d : DeltaV} (hr : dlR d) (h : deltaE d = 0) : (printB d).length ≤ 2097152 := by
  obtain ⟨e1, e2, e3, e4, e5, e6, e7, e8⟩ := deltaE_ok h
  obtain ⟨f1, f2, f3, f4, f5, f6⟩ := stepsV_ok e7
  have key : ∀ ps : List PieceV, (∀ p ∈ ps, pcR p) → (∀ p ∈ ps, pcE d.old p = 0) → ((ps.map pieceB).flatten.length : Int) ≤ 13 * ps.length + pcSum ps := by
    intro ps
    induction ps with
    | nil => intro _ _; simp [pcSum]
    | cons p ps ih =>
      intro h1 h2
      have a := piece_len2 e2 (h1 p (List.mem_cons_self ..)) (h2 p (List.mem_cons_self ..))
      have b := ih (fun q hq => h1 q (List.mem_cons_of_mem _ hq)) (fun q hq => h2 q (List.mem_cons_of_mem _ hq))
      unfold pcSum at b ⊢
      simp only [List.map_cons, List.flatten_cons, List.length_append, List.sum_cons, List.length_cons]
      omega
  have hk := key d.ps hr.2.2.2.2.2 f4
  have hh := headB_len e2 e4 f3
  unfold printB bodyB
  simp only [List.length_append, rawB_len]
  omega
/-- What is written is read. -/
theorem parse_print {d : DeltaV} (hr : dlR d) (h : deltaE d = 0) : parseV (printB d) = (d, 0) := by
  have hl := print_len hr h
  unfold parseV
  rw [if_neg (by omega)]
  unfold printB
  rw [body_read _ hr h]
  have hs := sumR_raw (s := sumOf (bodyB d)) [] (sumOf_form _)
  rw [List.append_nil] at hs
  simp only [hs]
  have e : (bodyB d ++ rawB (hexN (sumOf (bodyB d)))).length - (rawB (hexN (sumOf (bodyB d)))).length = (bodyB d).length := by simp
  rw [e, List.take_left, if_neg (by simp), if_neg (by simpa using h)]
end Go.Proofs
