/-
  Walks and plain laws, part 3.
-/
import Derived.Test.YtejjfogjhjmkbaaDoorM2
/- Plain laws: bytes of a delta are read. -/
namespace Go.Proofs
open Go Go.Abs
set_option linter.unusedSimpArgs false
set_option linter.unusedVariables false
/-- Digits of bytes. -/
def hexB (b : Bytes) : Bytes := b.flatMap fun c => [dig (c.toNat / 16), dig (c.toNat % 16)]
def beN (b : Bytes) : Nat := b.foldl (fun v c => v * 256 + c.toNat) 0
theorem beN_snoc (b : Bytes) (c : UInt8) : beN (b ++ [c]) = beN b * 256 + c.toNat := by simp [beN]
theorem hexB_snoc (b : Bytes) (c : UInt8) : hexB (b ++ [c]) = hexB b ++ [dig (c.toNat / 16), dig (c.toNat % 16)] := by simp [hexB]
theorem beN_lt : ∀ (k : Nat) (b : Bytes), b.length = k → beN b < 256 ^ k := by
  intro k
  induction k with
  | zero => intro b h; rw [List.eq_nil_of_length_eq_zero h]; simp [beN]
  | succ k ih =>
    intro b h
    obtain ⟨b', c, rfl⟩ : ∃ b' c, b = b' ++ [c] := ⟨b.dropLast, b.getLast (by intro e; simp [e] at h), (List.dropLast_concat_getLast _).symm⟩
    rw [beN_snoc]
    have h1 := ih b' (by simpa using h)
    have h2 := c.toNat_lt
    rw [Nat.pow_succ]
    omega
theorem hexPad_be : ∀ (k : Nat) (b : Bytes), b.length = k → hexPad (2 * k) (beN b) = hexB b := by
  intro k
  induction k with
  | zero => intro b h; rw [List.eq_nil_of_length_eq_zero h]; rfl
  | succ k ih =>
    intro b h
    obtain ⟨b', c, rfl⟩ : ∃ b' c, b = b' ++ [c] := ⟨b.dropLast, b.getLast (by intro e; simp [e] at h), (List.dropLast_concat_getLast _).symm⟩
    have h2 := c.toNat_lt
    rw [beN_snoc, hexB_snoc, show 2 * (k + 1) = 2 * k + 1 + 1 from by omega, hexPad, hexPad, ← ih b' (by simpa using h)]
    have e1 : (beN b' * 256 + c.toNat) / 16 / 16 = beN b' := by omega
    have e2 : (beN b' * 256 + c.toNat) / 16 % 16 = c.toNat / 16 := by omega
    have e3 : (beN b' * 256 + c.toNat) % 16 = c.toNat % 16 := by omega
    rw [e1, e2, e3]
    simp
/-- Reading. -/
def sumR (l : Bytes) : Option (Bytes × Bytes) := if 8 ≤ l.length then some (hexB (l.take 8), l.drop 8) else none
def numR : Nat → Nat → Nat → Bytes → Option (Nat × Bytes)
  | 0, _, _, _ => none
  | _ + 1, _, _, [] => none
  | f + 1, i, n, c :: l => if c.toNat < 128 then (if 0 < i ∧ c = 0 then none else some (n + c.toNat % 128 * 2 ^ (7 * i), l)) else numR f (i + 1) (n + c.toNat % 128 * 2 ^ (7 * i)) l
def num (l : Bytes) : Option (Nat × Bytes) := numR 5 0 0 l
def pieceR : Bytes → Option (PieceV × Bytes)
  | [] => none
  | c :: l => if c = 0 then (num l).bind fun x => (num x.2).map fun y => (⟨x.1, y.1, []⟩, y.2)
    else if c = 1 then (num l).bind fun x => if x.1 = 0 ∨ x.2.length < x.1 then none else some (⟨0, 0, x.2.take x.1⟩, x.2.drop x.1)
    else none
def piecesR : Nat → Bytes → Option (List PieceV × Bytes)
  | 0, l => some ([], l)
  | k + 1, l => (pieceR l).bind fun x => (piecesR k x.2).map fun y => (x.1 :: y.1, y.2)
def bodyR (s : Bytes) : Option (DeltaV × Bytes) :=
  if s.take 4 = [79, 70, 68, 49] then (num (s.drop 4)).bind fun a => (num a.2).bind fun b => (sumR b.2).bind fun u => (sumR u.2).bind fun v => (num v.2).bind fun n => (piecesR n.1 n.2).map fun p => (⟨a.1, b.1, u.1, v.1, p.1⟩, p.2) else none
def parseV (s : Bytes) : DeltaV × Int :=
  if 2097152 < s.length then (DeltaV.zero, 4) else match bodyR s with
  | none => (DeltaV.zero, 8)
  | some (d, r) => match sumR r with
    | some (h, []) => if ¬ h = sumOf (s.take (s.length - r.length)) then (DeltaV.zero, 14) else if ¬ deltaE d = 0 then (DeltaV.zero, deltaE d) else (d, 0)
    | _ => (DeltaV.zero, 8)
/-! ### What is written is read -/
theorem numR_groups : ∀ (f i n m : Nat) (l : Bytes), m < 128 ^ (f + 1) → (0 < i → 0 < m) → numR (f + 1) i n (groupsB m ++ l) = some (n + m * 2 ^ (7 * i), l) := by
  have small : ∀ (f i n m : Nat) (l : Bytes), m < 128 → (0 < i → 0 < m) → numR (f + 1) i n (groupsB m ++ l) = some (n + m * 2 ^ (7 * i), l) := by
    intro f i n m l hs hm
    rw [groupsB_small hs]
    have e : (UInt8.ofNat m).toNat = m := by rw [u8_of_mod]; omega
    simp only [List.singleton_append, numR, e, if_pos hs]
    rw [if_neg, Nat.mod_eq_of_lt hs]
    rintro ⟨h1, h2⟩
    have := hm h1
    rw [h2] at e
    simp at e
    omega
  intro f
  induction f with
  | zero => intro i n m l h hm; exact small 0 i n m l (by simpa using h) hm
  | succ f ih =>
    intro i n m l h hm
    by_cases hs : m < 128
    · exact small _ i n m l hs hm
    · rw [groupsB_big hs]
      have e : (UInt8.ofNat (m % 128 + 128)).toNat = m % 128 + 128 := by rw [u8_of_mod]; omega
      simp only [List.cons_append]
      rw [numR]
      simp only [e]
      rw [if_neg (by omega), ih (i + 1) _ (m / 128) l (by rw [Nat.pow_succ] at h; omega) (by omega)]
      congr 2
      have e2 : (m % 128 + 128) % 128 = m % 128 := by omega
      rw [e2, show 7 * (i + 1) = 7 * i + 7 from by omega, Nat.pow_add]
      have := Nat.div_add_mod m 128
      have e3 : (2 : Nat) ^ 7 = 128 := rfl
      rw [e3]
      generalize 2 ^ (7 * i) = z at *
      have e4 : m * z = (128 * (m / 128) + m % 128) * z := by rw [this]
      rw [e4, Nat.add_mul]
      have e5 : m / 128 * (z * 128) = 128 * (m / 128) * z := by rw [Nat.mul_comm z 128, ← Nat.mul_assoc, Nat.mul_comm (m / 128) 128]
      omega
theorem num_groups {m : Nat} (l : Bytes) (h : m < 34359738368) : num (groupsB m ++ l) = some (m, l) := by
  have := numR_groups 4 0 0 m l (by simpa using h) (by omega)
  simpa [num] using this
theorem numR_lt : ∀ (f i n : Nat) (l : Bytes) (v : Nat) (r : Bytes), numR f i n l = some (v, r) → n < 2 ^ (7 * i) → v < 2 ^ (7 * (i + f)) ∧ r.length < l.length := by
  intro f
  induction f with
  | zero => intro i n l v r h; cases h
  | succ f ih =>
    intro i n l v r h hn
    cases l with
    | nil => cases h
    | cons c l =>
      have h1 : c.toNat % 128 < 128 := Nat.mod_lt _ (by omega)
      have e3 : (2 : Nat) ^ 7 = 128 := rfl
      have h2 : n + c.toNat % 128 * 2 ^ (7 * i) < 2 ^ (7 * (i + 1)) := by
        rw [show 7 * (i + 1) = 7 * i + 7 from by omega, Nat.pow_add, e3]
        generalize 2 ^ (7 * i) = z at *
        have : c.toNat % 128 * z ≤ 127 * z := Nat.mul_le_mul_right _ (by omega)
        omega
      rw [numR] at h
      split at h
      · split at h
        · cases h
        · cases h
          refine ⟨Nat.lt_of_lt_of_le h2 (Nat.pow_le_pow_right (by omega) (by omega)), by simp⟩
      · have := ih (i + 1) _ l v r h h2
        rw [show i + 1 + f = i + (f + 1) from by omega] at this
        exact ⟨this.1, by simp only [List.length_cons]; omega⟩
theorem num_lt {l : Bytes} {v : Nat} {r : Bytes} (h : num l = some (v, r)) : v < 34359738368 ∧ r.length < l.length := by
  have := numR_lt 5 0 0 l v r h (by simp)
  simpa using this
/-- The digits of a sum mean its bytes. -/
theorem dig_dgV : ∀ m : Nat, m < 16 → dgV (dig m) = m := by decide
set_option maxRecDepth 100000 in
theorem dgV_dig0 : ∀ n : Nat, n < 256 → isHx (n : Int) = true → dig (dgV (UInt8.ofNat n)) = UInt8.ofNat n := by decide
theorem dgV_dig {c : UInt8} (h : isHx (c.toNat : Int) = true) : dig (dgV c) = c := by
  have := dgV_dig0 c.toNat c.toNat_lt h
  simpa using this
theorem hexN_pad : ∀ (k : Nat) (s : Bytes), s.length = k → allB isHx s = true → hexPad k (hexN s) = s := by
  intro k
  induction k with
  | zero => intro s h _; rw [List.eq_nil_of_length_eq_zero h]; rfl
  | succ k ih =>
    intro s h ha
    obtain ⟨b, c, rfl⟩ : ∃ b c, s = b ++ [c] := ⟨s.dropLast, s.getLast (by intro e; simp [e] at h), (List.dropLast_concat_getLast _).symm⟩
    simp only [allB, List.all_append, List.all_cons, List.all_nil, Bool.and_true, Bool.and_eq_true] at ha
    have h1 := dgV_lt ha.2
    have e : hexN (b ++ [c]) = hexN b * 16 + dgV c := by simp [hexN]
    rw [e, hexPad]
    have e1 : (hexN b * 16 + dgV c) / 16 = hexN b := by omega
    have e2 : (hexN b * 16 + dgV c) % 16 = dgV c := by omega
    rw [e1, e2, ih b (by simpa using h) (by simpa [allB] using ha.1), dgV_dig ha.2]
theorem sum_pad {s : Bytes} (h : sumB s = true) : hexPad 16 (hexN s) = s := by
  have h1 := sumB_len h
  have h2 : allB isHx s = true := by
    simp only [sumB, Bool.and_eq_true] at h
    exact h.1
  exact hexN_pad 16 s h1 h2
theorem hexB_raw (n : Nat) : hexB (rawB n) = hexPad 16 n := by
  have hl : ∀ b : Bytes, (hexB b).length = 2 * b.length := by
    intro b
    induction b with
    | nil => rfl
    | cons c b ih => simp only [hexB, List.flatMap_cons, List.length_append, List.length_cons, List.length_nil] at ih ⊢; omega
  refine List.ext_getElem? fun i => ?_
  by_cases hi : i < 16
  · have : i = 0 ∨ i = 1 ∨ i = 2 ∨ i = 3 ∨ i = 4 ∨ i = 5 ∨ i = 6 ∨ i = 7 ∨ i = 8 ∨ i = 9 ∨ i = 10 ∨ i = 11 ∨ i = 12 ∨ i = 13 ∨ i = 14 ∨ i = 15 := by omega
    rw [hexPad_get2 n i hi]
    rcases this with rfl | rfl | rfl | rfl | rfl | rfl | rfl | rfl | rfl | rfl | rfl | rfl | rfl | rfl | rfl | rfl <;>
      simp [hexB, rawB, List.range, List.range.loop] <;> congr 1 <;> omega
  · rw [List.getElem?_eq_none (by rw [hl, rawB_len]; omega), List.getElem?_eq_none (by rw [hexPad_len]; omega)]
theorem sumR_raw {s : Bytes} (l : Bytes) (h : sumB s = true) : sumR (rawB (hexN s) ++ l) = some (s, l) := by
  have hl := rawB_len (hexN s)
  unfold sumR
  rw [if_pos (by simp; omega), List.take_left' hl, List.drop_left' hl, hexB_raw, sum_pad h]
theorem piece_read {old : Int} {p : PieceV} (l : Bytes) (ho : old ≤ 65536) (hr : pcR p) (h : pcE old p = 0) : pieceR (pieceB p ++ l) = some (p, l) := by
  obtain ⟨a, b, c⟩ := p
  have hs := pc_small ho h
  have hc := hr.2.2
  unfold pcE at h
  unfold pieceB
  simp only at hs hc h ⊢
  by_cases hd : c = []
  · subst hd
    have hs := hs rfl
    rw [if_neg (by simp)]
    simp only [List.cons_append, pieceR, if_true, List.append_assoc]
    rw [num_groups _ (by omega)]
    simp only [Option.bind_some]
    rw [num_groups _ (by omega)]
    simp only [Option.map_some, Int.toNat_of_nonneg hs.1, Int.toNat_of_nonneg hs.2.2.1]
  · rw [if_pos (by simpa using hd)] at h ⊢
    simp only [List.cons_append, pieceR, List.append_assoc]
    rw [if_neg (by decide), if_pos trivial, num_groups _ (by omega)]
    simp only [Option.bind_some]
    rw [if_neg (by simp; exact hd), List.take_left, List.drop_left]
    split at h
    · omega
    · rename_i h2
      have : a = 0 ∧ b = 0 := by omega
      rw [this.1, this.2]
theorem pieces_read {old : Int} (ho : old ≤ 65536) : ∀ (ps : List PieceV) (l : Bytes), (∀ p ∈ ps, pcR p) → (∀ p ∈ ps, pcE old p = 0) → piecesR ps.length ((ps.map pieceB).flatten ++ l) = some (ps, l)
  | [], l, _, _ => rfl
  | p :: ps, l, h1, h2 => by
    simp only [List.length_cons, List.map_cons, List.flatten_cons, List.append_assoc, piecesR]
    rw [piece_read _ ho (h1 p (List.mem_cons_self ..)) (h2 p (List.mem_cons_self ..))]
    simp only [Option.bind_some]
    rw [pieces_read ho ps l (fun q hq => h1 q (List.mem_cons_of_mem _ hq)) (fun q hq => h2 q (List.mem_cons_of_mem _ hq))]
    rfl
theorem body_read {d : DeltaV} (l : Bytes) (hr : dlR d) (h : deltaE d = 0) : bodyR (bodyB d ++ l) = some (d, l) := by
  obtain ⟨e1, e2, e3, e4, e5, e6, e7, e8⟩ := deltaE_ok h
  obtain ⟨f1, f2, f3, f4, f5, f6⟩ := stepsV_ok e7
  have hp := pieces_read e2 d.ps l hr.2.2.2.2.2 f4
  unfold bodyR bodyB headB
  simp only [List.append_assoc]
  rw [if_pos (by rfl)]
  rw [List.drop_left' (by rfl), num_groups _ (by omega)]
  simp only [Option.bind_some]
  rw [num_groups _ (by omega)]
  simp only [Option.bind_some]
  rw [sumR_raw _ e5]
  simp only [Option.bind_some]
  rw [sumR_raw _ e6]
  simp only [Option.bind_some]
  rw [num_groups _ (by omega)]
  simp only [Option.bind_some, hp, Option.map_some, Int.toNat_of_nonneg e1, Int.toNat_of_nonneg e3]
theorem piece_len2 {p : PieceV} {old : Int} (ho : old ≤ 65536) (hr : pcR p) (h : pcE old p = 0) : ((pieceB p).length : Int) ≤ 13 + pcSize p := by
  have hs := pc_small ho h
  have hc := hr.2.2
  have hz := (pcSize_ok hr ho h).1
  unfold pieceB pcSize
  unfold pcSize at hz
  by_cases hd : p.data = []
  · have hs := hs hd
    have h1 := groups6 (n := p.at_.toNat) (by omega)
    have h2 := groups6 (n := p.long.toNat) (by omega)
    rw [if_neg (by simpa using hd)] at hz
    rw [if_neg (by simpa using hd), if_neg (by simpa using hd)]
    simp only [List.length_cons, List.length_append]
    omega
  · have h1 := groups6 (n := p.data.length) (by omega)
    rw [if_pos hd, if_pos hd]
    simp only [List.length_cons, List.length_append]
    omega
theorem print_len {d : DeltaV} (hr : dlR d) (h : deltaE d = 0) : (printB d).length ≤ 2097152 := by
  obtain ⟨e1, e2, e3, e4, e5, e6, e7, e8⟩ := deltaE_ok h
  obtain ⟨f1, f2, f3, f4, f5, f6⟩ := stepsV_ok e7
  have key : ∀ ps : List PieceV, (∀ p ∈ ps, pcR p) → (∀ p ∈ ps, pcE d.old p = 0) → ((ps.map pieceB).flatten.length : Int) ≤ 13 * ps.length + pcSum ps := by
    intro ps
    induction ps with
    | nil => intro _ _; simp [pcSum]
    | cons p ps ih =>
      intro h1 h2
      have a := piece_len2 e2 (h1 p (List.mem_cons_self ..)) (h2 p (List.mem_cons_self ..))
      have b := ih (fun q hq => h1 q (List.mem_cons_of_mem _ hq)) (fun q hq => h2 q (List.mem_cons_of_mem _ hq))
      unfold pcSum at b ⊢
      simp only [List.map_cons, List.flatten_cons, List.length_append, List.sum_cons, List.length_cons]
      omega
  have hk := key d.ps hr.2.2.2.2.2 f4
  have hh := headB_len e2 e4 f3
  unfold printB bodyB
  simp only [List.length_append, rawB_len]
  omega
/-- What is written is read. -/
theorem parse_print {d : DeltaV} (hr : dlR d) (h : deltaE d = 0) : parseV (printB d) = (d, 0) := by
  have hl := print_len hr h
  unfold parseV
  rw [if_neg (by omega)]
  unfold printB
  rw [body_read _ hr h]
  have hs := sumR_raw (s := sumOf (bodyB d)) [] (sumOf_form _)
  rw [List.append_nil] at hs
  simp only [hs]
  have e : (bodyB d ++ rawB (hexN (sumOf (bodyB d)))).length - (rawB (hexN (sumOf (bodyB d)))).length = (bodyB d).length := by simp
  rw [e, List.take_left, if_neg (by simp), if_neg (by simpa using h)]
end Go.Proofs

/- Plain laws: the reference makes a delta. -/
namespace Go.Proofs
open Go Go.Abs
set_option linter.unusedSimpArgs false
set_option linter.unusedVariables false
def zD : AObj := .cells [.int .i64 0, .int .i64 0, .str [], .str [], .sl [] .exact]
def nD (a b : Int) (u v : Bytes) (out : List PieceV) (tl : Tail) : AObj := .cells [.int .i64 a, .int .i64 b, .str u, .str v, .sl (out.map encPc) tl]
/-- How long two texts are alike. -/
def lcp : Bytes → Bytes → Nat
  | x :: xs, y :: ys => if x = y then lcp xs ys + 1 else 0
  | _, _ => 0
theorem lcp_nil_right (x : Bytes) : lcp x [] = 0 := by cases x <;> rfl
theorem lcp_le : ∀ x y : Bytes, lcp x y ≤ x.length ∧ lcp x y ≤ y.length
  | [], _ => by simp [lcp]
  | _ :: _, [] => by simp [lcp]
  | x :: xs, y :: ys => by
    have := lcp_le xs ys
    simp only [lcp]
    split <;> simp <;> omega
/-- The longest part of 'a' at the beginning of 'w', among the first places. -/
def bestM (a w : Bytes) : Nat → Nat × Nat
  | 0 => (0, 0)
  | k + 1 => if (bestM a w k).2 < lcp (a.drop k) w then (k, lcp (a.drop k) w) else bestM a w k
theorem bestM_ok (a w : Bytes) : ∀ k, (bestM a w k).1 + (bestM a w k).2 ≤ a.length ∧ (bestM a w k).2 ≤ w.length
  | 0 => by simp [bestM]
  | k + 1 => by
    have h := bestM_ok a w k
    have h2 := lcp_le (a.drop k) w
    rw [List.length_drop] at h2
    rw [bestM]
    split
    · simp only; omega
    · exact h
def fl (data : Bytes) : List PieceV := if data ≠ [] then [⟨0, 0, data⟩] else []
def mkR (a : Bytes) : Nat → Bytes → Bytes → List PieceV
  | 0, _, data => fl data
  | _ + 1, [], data => fl data
  | f + 1, c :: w, data => if (bestM a (c :: w) a.length).2 < 8 then mkR a f w (data ++ [c]) else fl data ++ ⟨(bestM a (c :: w) a.length).1, (bestM a (c :: w) a.length).2, []⟩ :: mkR a f ((c :: w).drop (bestM a (c :: w) a.length).2) []
theorem fl_ok {a : Bytes} {data : Bytes} (hd : data.length ≤ 4194304) : (∀ p ∈ fl data, pcR p ∧ pcE a.length p = 0) ∧ pcSum (fl data) = data.length := by
  unfold fl
  by_cases h : data = []
  · rw [if_neg (by simpa using h), h]; simp [pcSum]
  · rw [if_pos h]
    refine ⟨fun p hp => ?_, by simp [pcSum, pcSize, h]⟩
    rw [List.mem_singleton] at hp
    subst hp
    exact ⟨⟨by simp [inI], by simp [inI], hd⟩, by simp [pcE, h]⟩
theorem pcSum_append (x y : List PieceV) : pcSum (x ++ y) = pcSum x + pcSum y := by simp [pcSum]
theorem mkR_ok {a : Bytes} (ha : a.length ≤ 65536) : ∀ (f : Nat) (w data : Bytes), w.length ≤ f → data.length + w.length ≤ 65536 → (∀ p ∈ mkR a f w data, pcR p ∧ pcE a.length p = 0) ∧ pcSum (mkR a f w data) = data.length + w.length := by
  intro f
  induction f with
  | zero =>
    intro w data h1 h2
    obtain rfl : w = [] := List.eq_nil_of_length_eq_zero (by omega)
    have := fl_ok (a := a) (data := data) (by omega)
    exact ⟨this.1, by rw [mkR, this.2]; simp⟩
  | succ f ih =>
    intro w data h1 h2
    cases w with
    | nil =>
      have := fl_ok (a := a) (data := data) (by omega)
      exact ⟨this.1, by rw [mkR, this.2]; simp⟩
    | cons c w =>
      simp only [List.length_cons] at h1 h2
      rw [mkR]
      split
      · have := ih w (data ++ [c]) (by omega) (by simp; omega)
        refine ⟨this.1, ?_⟩
        rw [this.2]
        simp only [List.length_append, List.length_cons, List.length_nil]
        omega
      · rename_i h8
        have hb := bestM_ok a (c :: w) a.length
        generalize bestM a (c :: w) a.length = m at *
        simp only [List.length_cons] at hb
        have h3 := ih ((c :: w).drop m.2) [] (by rw [List.length_drop, List.length_cons]; omega) (by rw [List.length_drop, List.length_cons, List.length_nil]; omega)
        have h4 := fl_ok (a := a) (data := data) (by omega)
        refine ⟨fun p hp => ?_, ?_⟩
        · rcases List.mem_append.1 hp with h | h
          · exact h4.1 p h
          · rcases List.mem_cons.1 h with h | h
            · subst h
              refine ⟨⟨⟨by simp only; omega, by simp only; omega⟩, ⟨by simp only; omega, by simp only; omega⟩, by simp⟩, ?_⟩
              unfold pcE
              rw [if_neg (by simp), if_neg]
              simp only
              omega
            · exact h3.1 p h
        · have e : pcSum (⟨m.1, m.2, []⟩ :: mkR a f ((c :: w).drop m.2) []) = m.2 + pcSum (mkR a f ((c :: w).drop m.2) []) := by simp [pcSum, pcSize]
          rw [pcSum_append, h4.2, e, h3.2, List.length_drop]
          simp only [List.length_cons, List.length_nil]
          omega
theorem fst0_zero : ∀ (l : List Int), (∀ x ∈ l, x = 0) → fst0 l = 0
  | [], _ => rfl
  | x :: l, h => by
    rw [fst0, if_pos (h x (List.mem_cons_self ..))]
    exact fst0_zero l fun y hy => h y (List.mem_cons_of_mem _ hy)
/-- What the reference makes. -/
def makeV (a b : Bytes) : DeltaV × Int :=
  if 65536 < a.length ∨ 65536 < b.length then (DeltaV.zero, 4) else if (5000 : Int) < (mkR a b.length b []).length then (DeltaV.zero, 4) else
  (⟨a.length, b.length, sumOf a, sumOf b, mkR a b.length b []⟩, 0)
theorem makeV_ok {a b : Bytes} (h : (makeV a b).2 = 0) : dlR (makeV a b).1 ∧ deltaE (makeV a b).1 = 0 := by
  unfold makeV at h ⊢
  split at h
  · cases h
  · rename_i h1
    rw [if_neg h1]
    split at h
    · cases h
    · rename_i h2
      rw [if_neg h2]
      have hm := mkR_ok (a := a) (by omega) b.length b [] (Nat.le_refl _) (by simp; omega)
      have hs : ∀ x : Bytes, (sumOf x).length ≤ 1099511627776 := fun x => by rw [sumOf_len]; omega
      refine ⟨⟨⟨by simp only; omega, by simp only; omega⟩, ⟨by simp only; omega, by simp only; omega⟩, hs _, hs _, by simp only; omega, fun p hp => (hm.1 p hp).1⟩, ?_⟩
      have hst : stepsV (mkR a b.length b []) a.length = ((b.length : Int), 0) := by
        unfold stepsV
        have hf : fst0 ((mkR a b.length b []).map (pcE a.length)) = 0 := fst0_zero _ (by
          intro x hx
          obtain ⟨p, hp, rfl⟩ := List.mem_map.1 hx
          exact (hm.1 p hp).2)
        have hsum := hm.2
        simp only [List.length_nil] at hsum
        rw [if_neg (by omega), if_neg h2, hf, if_neg (by simp), hsum, if_neg (by omega)]
        simp
      unfold deltaE
      simp only [hst, sumOf_form]
      rw [if_neg (by omega)]
      simp
end Go.Proofs

/- Walks: a delta is written, on the program's side. -/
namespace Go.Proofs
open Go Go.Abs
set_option linter.unusedSimpArgs false
set_option linter.unusedVariables false
set_option maxRecDepth 20000
theorem bcell_unif (l : Bytes) : Unif 1 (l.map bcell) := bcell_len l
set_option maxHeartbeats 1600000 in
theorem putNumber_calls {F G : Heap} {l : Bytes} {tl : Tail} (n : Nat) (hn : n < 4398046511104) (hl : l.length ≤ 1099511627776) (h : AppG F G 1 (l.map bcell) tl) :
    ACalls Tryd.prog 23 [.sl (l.map bcell) tl, .int .i64 n] G fun x G' => ∃ tl', x = .sl ((l ++ groupsB n).map bcell) tl' ∧ AppG F G' 1 ((l ++ groupsB n).map bcell) tl' ∧ Kept G G' := by
  have hgl := groups6 hn
  refine ACalls.of_code (X := { pure := pu0 }) pu0_ok Tryd.func23 (by kernel_rfl) rfl (by kernel_rfl) (Nat.le_of_ble_eq_true rfl) ?_
  simp -implicitDefEqProofs only [go_sem, tys, regs0, Nat.reduceEqDiff, Nat.reduceAdd, Nat.reduceLeDiff, Nat.reduceLT, Nat.reduceMul, Int.natCast_one, Int.natCast_zero, Int.reduceEq, Int.reduceLT, Int.reduceLE, Int.reduceAdd, Int.reduceSub, Int.reduceToNat, UInt8.reduceToNat, Tryd.f23]
  refine aloop_intro (σ := Nat × Bytes × Tail) (fun s => [(0, .sl ((l ++ s.2.1).map bcell) s.2.2), (1, .int .i64 s.1)]) (fun s G' => AppG F G' 1 ((l ++ s.2.1).map bcell) s.2.2 ∧ Kept G G' ∧ groupsB n = s.2.1 ++ groupsB s.1 ∧ s.1 < 4398046511104) (fun s => s.1) (n, [], tl) ?_ ?_ ?_
  · simp -implicitDefEqProofs only [go_sem, tys, regs0, Nat.reduceEqDiff, Nat.reduceAdd, Nat.reduceLeDiff, Nat.reduceLT, Nat.reduceMul, Int.natCast_one, Int.natCast_zero, Int.reduceEq, Int.reduceLT, Int.reduceLE, Int.reduceAdd, Int.reduceSub, Int.reduceToNat, UInt8.reduceToNat, List.append_nil]
  · exact ⟨by simpa using h, Kept.rfl' G, rfl, hn⟩
  · rintro ⟨m, out, tl1⟩ r G' hv ⟨hA, hK, hg, hm⟩
    have h0 := hv.1
    have h1 := hv.2.1
    clear hv
    simp only at h0 h1 hg hm hA
    have ho : out.length ≤ 6 := by rw [hg, List.length_append] at hgl; omega
    simp -implicitDefEqProofs only [go_sem, tys, regs0, Nat.reduceEqDiff, Nat.reduceAdd, Nat.reduceLeDiff, Nat.reduceLT, Nat.reduceMul, Int.natCast_one, Int.natCast_zero, Int.reduceEq, Int.reduceLT, Int.reduceLE, Int.reduceAdd, Int.reduceSub, Int.reduceToNat, UInt8.reduceToNat, h0, h1]
    refine cnd_intro (fun g => ?_) (fun g => ?_)
    · simp only [decide_eq_true_eq] at g
      have a1 := and127 m (by omega)
      have a3 : orI .i64 ((m % 128 : Nat) : Int) 128 = ((m % 128 + 128 : Nat) : Int) := or128 (m % 128) (Nat.mod_lt _ (by omega))
      have a2 : IntKind.u8.wrap ((m % 128 + 128 : Nat) : Int) = ((UInt8.ofNat (m % 128 + 128)).toNat : Int) := wrap8 _
      have a4 := shrI64 m 7 7 rfl (by omega)
      rw [groupsB_big (n := m) (by omega)] at hg
      generalize UInt8.ofNat (m % 128 + 128) = b at *
      simp -implicitDefEqProofs only [go_sem, tys, regs0, Nat.reduceEqDiff, Nat.reduceAdd, Nat.reduceLeDiff, Nat.reduceLT, Nat.reduceMul, Int.natCast_one, Int.natCast_zero, Int.reduceEq, Int.reduceLT, Int.reduceLE, Int.reduceAdd, Int.reduceSub, Int.reduceToNat, UInt8.reduceToNat, h0, h1, a1, a2, a3, a4]
      refine AppG.step hA (bcell_unif _) (by simp; omega) (by simp; omega) (fun tl2 G2 hA2 hK2 => ?_)
      simp -implicitDefEqProofs only [go_sem, tys, regs0, Nat.reduceEqDiff, Nat.reduceAdd, Nat.reduceLeDiff, Nat.reduceLT, Nat.reduceMul, Int.natCast_one, Int.natCast_zero, Int.reduceEq, Int.reduceLT, Int.reduceLE, Int.reduceAdd, Int.reduceSub, Int.reduceToNat, UInt8.reduceToNat, h0, h1, a4]
      have e : (l ++ out).map bcell ++ [[AV.int .u8 (b.toNat : Int)]] = (l ++ (out ++ [b])).map bcell := by simp [bcell]
      rw [e] at hA2
      exact Again.mk (m / 2 ^ 7, out ++ [b], tl2) (by simp -implicitDefEqProofs only [go_sem, tys, regs0, Nat.reduceEqDiff, Nat.reduceAdd, Nat.reduceLeDiff, Nat.reduceLT, Nat.reduceMul, Int.natCast_one, Int.natCast_zero, Int.reduceEq, Int.reduceLT, Int.reduceLE, Int.reduceAdd, Int.reduceSub, Int.reduceToNat, UInt8.reduceToNat, h0, h1]; simp [bcell]) ⟨hA2, hK.trans hK2, by simpa using hg, by simp only; omega⟩ (by simp only; omega)
    · simp only [decide_eq_false_iff_not] at g
      have a2 := wrap8 m
      rw [groupsB_small (n := m) (by omega)] at hg
      generalize UInt8.ofNat m = b at *
      simp -implicitDefEqProofs only [go_sem, tys, regs0, Nat.reduceEqDiff, Nat.reduceAdd, Nat.reduceLeDiff, Nat.reduceLT, Nat.reduceMul, Int.natCast_one, Int.natCast_zero, Int.reduceEq, Int.reduceLT, Int.reduceLE, Int.reduceAdd, Int.reduceSub, Int.reduceToNat, UInt8.reduceToNat, h0, h1, a2]
      refine AppG.step hA (bcell_unif _) (by simp; omega) (by simp; omega) (fun tl2 G2 hA2 hK2 => ?_)
      have e : (l ++ out).map bcell ++ [[AV.int .u8 (b.toNat : Int)]] = (l ++ groupsB n).map bcell := by rw [hg]; simp [bcell]
      rw [e] at hA2
      simp -implicitDefEqProofs only [go_sem, tys, regs0, Nat.reduceEqDiff, Nat.reduceAdd, Nat.reduceLeDiff, Nat.reduceLT, Nat.reduceMul, Int.natCast_one, Int.natCast_zero, Int.reduceEq, Int.reduceLT, Int.reduceLE, Int.reduceAdd, Int.reduceSub, Int.reduceToNat, UInt8.reduceToNat, h0, h1]
      exact Done.now ⟨tl2, by rw [← e], hA2, hK.trans hK2⟩
theorem putNumber_k {F G : Heap} {l : Bytes} {tl : Tail} {n : Int} (hn : 0 ≤ n ∧ n < 4398046511104) (hl : l.length ≤ 1099511627776) (h : AppG F G 1 (l.map bcell) tl) {K : K1}
    (hK : ∀ tl' G', AppG F G' 1 ((l ++ groupsB n.toNat).map bcell) tl' → Kept G G' → K (.sl ((l ++ groupsB n.toNat).map bcell) tl') G') : ACalls Tryd.prog 23 [.sl (l.map bcell) tl, .int .i64 n] G K := by
  obtain ⟨m, rfl⟩ : ∃ m : Nat, n = m := ⟨n.toNat, by omega⟩
  refine (putNumber_calls m (by omega) hl h).mono ?_
  rintro x G' ⟨tl', rfl, h1, h2⟩
  exact hK tl' G' h1 h2
set_option maxHeartbeats 1600000 in
theorem putSum_calls {F G : Heap} {l : Bytes} {tl : Tail} (s : Bytes) (hs : sumB s = true) (hl : l.length ≤ 1099511627776) (h : AppG F G 1 (l.map bcell) tl) :
    ACalls Tryd.prog 24 [.sl (l.map bcell) tl, .str s] G fun x G' => ∃ tl', x = .sl ((l ++ rawB (hexN s)).map bcell) tl' ∧ AppG F G' 1 ((l ++ rawB (hexN s)).map bcell) tl' ∧ Kept G G' := by
  have hp := sPU_eq s hs
  have hn := hexN_all hs
  have hrl := rawB_len (hexN s)
  have hrg := fun i hi => rawB_get (n := hexN s) (i := i) hi
  generalize hexN s = n at *
  have hw : IntKind.i64.wrap (-8) = -8 := by decide
  refine ACalls.of_code (X := { pure := puP3 }) puP3_ok Tryd.func24 (by kernel_rfl) rfl (by kernel_rfl) (Nat.le_of_ble_eq_true rfl) ?_
  simp -implicitDefEqProofs only [go_sem, tys, regs0, Nat.reduceEqDiff, Nat.reduceAdd, Nat.reduceLeDiff, Nat.reduceLT, Nat.reduceMul, Int.natCast_one, Int.natCast_zero, Int.reduceEq, Int.reduceLT, Int.reduceLE, Int.reduceAdd, Int.reduceSub, Int.reduceToNat, UInt8.reduceToNat, Tryd.f24, puP3, hp]
  refine aloop_intro (σ := Nat × Tail) (fun s => [(0, .sl ((l ++ (rawB n).take s.1).map bcell) s.2), (5, .int .u64 n), (7, .int .i64 (56 - 8 * (s.1 : Int)))]) (fun s G' => AppG F G' 1 ((l ++ (rawB n).take s.1).map bcell) s.2 ∧ Kept G G' ∧ s.1 ≤ 8) (fun s => 8 - s.1) (0, tl) ?_ ?_ ?_
  · simp -implicitDefEqProofs only [go_sem, tys, regs0, Nat.reduceEqDiff, Nat.reduceAdd, Nat.reduceLeDiff, Nat.reduceLT, Nat.reduceMul, Int.natCast_one, Int.natCast_zero, Int.reduceEq, Int.reduceLT, Int.reduceLE, Int.reduceAdd, Int.reduceSub, Int.reduceToNat, UInt8.reduceToNat]
    simp
  · exact ⟨by simpa using h, Kept.rfl' G, by omega⟩
  · rintro ⟨i, tl1⟩ r G' hv ⟨hA, hK, hi⟩
    have h0 := hv.1
    have h5 := hv.2.1
    have h7 := hv.2.2.1
    clear hv
    simp only at h0 h5 h7 hA hi
    simp -implicitDefEqProofs only [go_sem, tys, regs0, Nat.reduceEqDiff, Nat.reduceAdd, Nat.reduceLeDiff, Nat.reduceLT, Nat.reduceMul, Int.natCast_one, Int.natCast_zero, Int.reduceEq, Int.reduceLT, Int.reduceLE, Int.reduceAdd, Int.reduceSub, Int.reduceToNat, UInt8.reduceToNat, h0, h5, h7]
    refine cnd_intro (fun g => ?_) (fun g => ?_)
    · simp only [decide_eq_true_eq] at g
      have a1 := shrN n (56 - 8 * i) ((56 : Int) - 8 * i) (by omega) (by omega)
      have a2 := wrap8 (n / 2 ^ (56 - 8 * i))
      have hg := hrg i (by omega)
      generalize UInt8.ofNat (n / 2 ^ (56 - 8 * i)) = b at *
      simp -implicitDefEqProofs (disch := omega) only [go_sem, tys, regs0, Nat.reduceEqDiff, Nat.reduceAdd, Nat.reduceLeDiff, Nat.reduceLT, Nat.reduceMul, Int.natCast_one, Int.natCast_zero, Int.reduceEq, Int.reduceLT, Int.reduceLE, Int.reduceAdd, Int.reduceSub, Int.reduceToNat, UInt8.reduceToNat, Go.IntWalk.i64_in, h0, h5, h7, a1, a2]
      refine ⟨by omega, ?_⟩
      refine AppG.step hA (bcell_unif _) (by simp; omega) (by simp; omega) (fun tl2 G2 hA2 hK2 => ?_)
      simp -implicitDefEqProofs (disch := omega) only [go_sem, tys, regs0, Nat.reduceEqDiff, Nat.reduceAdd, Nat.reduceLeDiff, Nat.reduceLT, Nat.reduceMul, Int.natCast_one, Int.natCast_zero, Int.reduceEq, Int.reduceLT, Int.reduceLE, Int.reduceAdd, Int.reduceSub, Int.reduceToNat, UInt8.reduceToNat, Go.IntWalk.i64_in, h0, h5, h7]
      have e : (l ++ (rawB n).take i).map bcell ++ [[AV.int .u8 (b.toNat : Int)]] = (l ++ (rawB n).take (i + 1)).map bcell := by rw [List.take_add_one, hg]; simp [bcell]
      rw [e] at hA2
      exact Again.mk (i + 1, tl2) (by simp -implicitDefEqProofs only [go_sem, tys, regs0, Nat.reduceEqDiff, Nat.reduceAdd, Nat.reduceLeDiff, Nat.reduceLT, Nat.reduceMul, Int.natCast_one, Int.natCast_zero, Int.reduceEq, Int.reduceLT, Int.reduceLE, Int.reduceAdd, Int.reduceSub, Int.reduceToNat, UInt8.reduceToNat, h0, h5, h7]; exact ⟨by rw [← e], by congr 1; omega⟩) ⟨hA2, hK.trans hK2, by simp only; omega⟩ (by simp only; omega)
    · simp only [decide_eq_false_iff_not] at g
      have e : i = 8 := by omega
      subst e
      rw [List.take_of_length_le (by omega)] at h0 hA
      simp -implicitDefEqProofs only [go_sem, tys, regs0, Nat.reduceEqDiff, Nat.reduceAdd, Nat.reduceLeDiff, Nat.reduceLT, Nat.reduceMul, Int.natCast_one, Int.natCast_zero, Int.reduceEq, Int.reduceLT, Int.reduceLE, Int.reduceAdd, Int.reduceSub, Int.reduceToNat, UInt8.reduceToNat, h0, h5, h7]
      exact Done.now ⟨tl1, rfl, hA, hK⟩
theorem putSum_k {F G : Heap} {l : Bytes} {tl : Tail} {s : Bytes} (hs : sumB s = true) (hl : l.length ≤ 1099511627776) (h : AppG F G 1 (l.map bcell) tl) {K : K1}
    (hK : ∀ tl' G', AppG F G' 1 ((l ++ rawB (hexN s)).map bcell) tl' → Kept G G' → K (.sl ((l ++ rawB (hexN s)).map bcell) tl') G') : ACalls Tryd.prog 24 [.sl (l.map bcell) tl, .str s] G K := by
  refine (putSum_calls s hs hl h).mono ?_
  rintro x G' ⟨tl', rfl, h1, h2⟩
  exact hK tl' G' h1 h2
end Go.Proofs

/- Walks: a delta is written, on the program's side: all of it. -/
namespace Go.Proofs
open Go Go.Abs
set_option linter.unusedSimpArgs false
set_option linter.unusedVariables false
set_option maxRecDepth 20000
def sCheck : List AV → Option AV := fn1 (Rd.agg decDl) fun p => if dlR p.1 then some (.int .i64 (deltaE p.1)) else none
theorem sCheck_eq (d : DeltaV) (t : Tail) (h : dlR d) : sCheck [.agg (encDl d t)] = some (.int .i64 (deltaE d)) := by
  show (decDl (encDl d t)).bind _ = _
  rw [decDl_enc]
  simp only [Option.bind_some, if_pos h]
theorem sCheck_ok {P : Program} {f : FuncId} (h : ∀ d t H, dlR d → ACalls P f [.agg (encDl d t)] H fun x H' => x = .int .i64 (deltaE d) ∧ H' = H) : ∀ xs v, sCheck xs = some v → ∀ H, ACalls P f xs H fun x H' => x = v ∧ H' = H := by
  intro xs v hv H
  obtain ⟨x, p, rfl, h1, h2⟩ := fn1_some hv
  split at h2
  · cases h2
    cases Rd.agg_some (fun _ _ => decDl_some) h1
    exact h p.1 p.2 H ‹_›
  · cases h2
def puP5 : Pures := putP 20 sCheck puM
theorem puP5_ok : PuOK Tryd.prog puP5 := .put (puM_ok) (sCheck_ok dCheck_calls)
def ot4 : OT := .seg [0, 1, 2, 3, 5] (.or (.seg [4, 6, 7, 8] .done) (.seg [6, 4, 7, 8] .done))
def ot5 : OT := .seg [0, 1, 2, 4, 7] (.or (.seg [3, 5] (.or (.seg [6, 8, 9, 10, 11] .done) (.seg [8, 9, 6, 10, 11] .done))) (.or (.seg [5] (.or (.seg [3] (.or (.seg [6, 8, 9, 10, 11] .done) (.seg [8, 9, 6, 10, 11] .done))) (.seg [8, 9, 3, 6, 10, 11] .done))) (.seg [8, 9] (.or (.seg [3, 5, 6, 10, 11] .done) (.seg [5, 3, 6, 10, 11] .done)))))
def ot10 : OT := .seg [0, 1, 3, 7] (.or (.seg [2, 4, 5] (.or (.seg [6, 8, 9, 10] .done) (.seg [8, 6, 9, 10] .done))) (.or (.seg [4, 5] (.or (.seg [2] (.or (.seg [6, 8, 9, 10] .done) (.seg [8, 6, 9, 10] .done))) (.seg [8, 2, 6, 9, 10] .done))) (.seg [8] (.or (.seg [2, 4, 5, 6, 9, 10] .done) (.seg [4, 5, 2, 6, 9, 10] .done)))))
def ot11 : OT := .seg [0, 1, 3, 6] (.or (.seg [2, 4] (.or (.seg [5, 7, 8, 9] .done) (.seg [7, 5, 8, 9] .done))) (.or (.seg [4] (.or (.seg [2] (.or (.seg [5, 7, 8, 9] .done) (.seg [7, 5, 8, 9] .done))) (.seg [7, 2, 5, 8, 9] .done))) (.seg [7] (.or (.seg [2, 4, 5, 8, 9] .done) (.seg [4, 2, 5, 8, 9] .done)))))
def printOT (n : Nat) : Option OT := if n = 4 then some ot4 else if n = 5 then some ot5 else if n = 10 then some ot10 else if n = 11 then some ot11 else none
def pmagic : Bytes := [79, 70, 68, 49]
theorem pmagic_cells : [[AV.int .u8 79], [AV.int .u8 70], [AV.int .u8 68], [AV.int .u8 49]] = pmagic.map bcell := rfl
def Mid1 (d : DeltaV) (t : Tail) (H : Heap) (idd : Nat) (l : Bytes) (r : Regs) (G : Heap) : Prop := ∃ tl, agrees r [(1, .ptr idd 0), (5, .sl (l.map bcell) tl)] ∧ AppG H G 1 (l.map bcell) tl ∧ G idd = some (.cells (encDl d t))
def Mid2 (d : DeltaV) (t : Tail) (H : Heap) (i : Nat) (l : Bytes) (r : Regs) (G : Heap) : Prop := ∃ tl, agrees r [(5, .sl (l.map bcell) tl), (33, .sl (d.ps.map encPc) t), (34, .int .i64 d.ps.length), (35, .int .i64 i)] ∧ AppG H G 1 (l.map bcell) tl
theorem one_cell (l : Bytes) : l.map bcell ++ [[AV.int .u8 1]] = (l ++ [1]).map bcell := by rw [List.map_append]; rfl
theorem zero_cell (l : Bytes) : l.map bcell ++ [[AV.int .u8 0]] = (l ++ [0]).map bcell := by rw [List.map_append]; rfl
set_option maxHeartbeats 6400000 in
theorem print_calls (d : DeltaV) (t : Tail) (H : Heap) (hr : dlR d) : ACalls Tryd.prog 12 [.agg (encDl d t)] H fun x H' => x = (if deltaE d = 0 then .tup [.str (printB d), .int .i64 0] else .tup [.str [], .int .i64 (deltaE d)]) ∧ H' = H := by
  have hc := sCheck_eq d t hr
  simp only [encDl] at hc
  by_cases hE : ¬ deltaE d = 0
  · rw [if_neg hE]
    have hE2 : decide (¬ deltaE d = 0) = true := decide_eq_true hE
    refine ACalls.of_code (X := { pure := puP5, tree := printOT }) puP5_ok Tryd.func12 (by kernel_rfl) rfl (by kernel_rfl) (Nat.le_of_ble_eq_true rfl) ?_
    simp -implicitDefEqProofs only [go_sem, tys, regs0, Nat.reduceEqDiff, Nat.reduceAdd, Nat.reduceLeDiff, Nat.reduceLT, Nat.reduceMul, Int.natCast_one, Int.natCast_zero, Int.reduceEq, Int.reduceLT, Int.reduceLE, Int.reduceAdd, Int.reduceSub, Int.reduceToNat, UInt8.reduceToNat, Tryd.f12, encDl]
    with_reducible refine nwC_intro fun idd hidd => ?_
    simp -implicitDefEqProofs only [go_sem, tys, regs0, Nat.reduceEqDiff, Nat.reduceAdd, Nat.reduceLeDiff, Nat.reduceLT, Nat.reduceMul, Int.natCast_one, Int.natCast_zero, Int.reduceEq, Int.reduceLT, Int.reduceLE, Int.reduceAdd, Int.reduceSub, Int.reduceToNat, UInt8.reduceToNat, puP5, hc, hE2]
    exact Done.drop1 hidd ⟨rfl, rfl⟩
  have hE : deltaE d = 0 := Decidable.not_not.1 hE
  rw [if_pos hE]
  rw [hE] at hc
  obtain ⟨e1, e2, e3, e4, e5, e6, e7, e8⟩ := deltaE_ok hE
  obtain ⟨f1, f2, f3, f4, f5, f6⟩ := stepsV_ok e7
  have hrp := hr.2.2.2.2.2
  have hsm : ∀ p ∈ d.ps, p.data = [] → 0 ≤ p.at_ ∧ p.at_ ≤ 65536 ∧ 0 ≤ p.long ∧ p.long ≤ 65536 := fun p hp => pc_small e2 (f4 p hp)
  have hpl := pieces_len hrp hsm
  have hhl := headB_len e2 e4 f3
  have l1 := groups6 (n := d.old.toNat) (by omega)
  have l2 := groups6 (n := d.new.toNat) (by omega)
  have l3 := groups6 (n := d.ps.length) (by omega)
  have l4 := rawB_len (hexN d.osum)
  have l5 := rawB_len (hexN d.nsum)
  refine ACalls.of_code (X := { pure := puP5, tree := printOT }) puP5_ok Tryd.func12 (by kernel_rfl) rfl (by kernel_rfl) (Nat.le_of_ble_eq_true rfl) ?_
  simp -implicitDefEqProofs only [go_sem, tys, regs0, Nat.reduceEqDiff, Nat.reduceAdd, Nat.reduceLeDiff, Nat.reduceLT, Nat.reduceMul, Int.natCast_one, Int.natCast_zero, Int.reduceEq, Int.reduceLT, Int.reduceLE, Int.reduceAdd, Int.reduceSub, Int.reduceToNat, UInt8.reduceToNat, Tryd.f12, encDl]
  with_reducible refine nwC_intro fun idd hidd => ?_
  simp -implicitDefEqProofs only [go_sem, tys, regs0, Nat.reduceEqDiff, Nat.reduceAdd, Nat.reduceLeDiff, Nat.reduceLT, Nat.reduceMul, Int.natCast_one, Int.natCast_zero, Int.reduceEq, Int.reduceLT, Int.reduceLE, Int.reduceAdd, Int.reduceSub, Int.reduceToNat, UInt8.reduceToNat, puP5, hc]
  have hA0 := AppG.new (k := 1) ((Heap.Sub.rfl' H).put' hidd (.cells (encDl d t))) (pmagic.map bcell)
  have hB0 := put_same H idd (.cells (encDl d t))
  with_reducible refine acode_mid (Mid1 d t H idd (pmagic ++ groupsB d.old.toNat ++ groupsB d.new.toNat)) ?_ ?_
  rotate_left
  · rw [acode_tree (t := ot4) rfl (by rfl)]
    unfold encDl at hB0 hA0
    have hm : pmagic.length = 4 := rfl
    have s1 := fun G tl K => putNumber_k (F := H) (G := G) (l := pmagic) (tl := tl) (n := d.old) (K := K) (by omega) (by omega)
    have s2 := fun G tl K => putNumber_k (F := H) (G := G) (l := pmagic ++ groupsB d.old.toNat) (tl := tl) (n := d.new) (K := K) (by omega) (by rw [List.length_append]; omega)
    rw [← pmagic_cells] at s1 hA0
    simp -implicitDefEqProofs only [go_sem, tys, regs0, Nat.reduceEqDiff, Nat.reduceAdd, Nat.reduceLeDiff, Nat.reduceLT, Nat.reduceMul, Int.natCast_one, Int.natCast_zero, Int.reduceEq, Int.reduceLT, Int.reduceLE, Int.reduceAdd, Int.reduceSub, Int.reduceToNat, UInt8.reduceToNat, ot4, stripO, encDl, puP5, puM, puN, pu0]
    refine ⟨?_, ?_⟩
    all_goals
      refine s1 _ _ _ hA0 (fun tl1 G1 hA1 hK1 => ?_)
      have hB1 := hK1.cells hB0
      simp -implicitDefEqProofs only [go_sem, tys, regs0, Nat.reduceEqDiff, Nat.reduceAdd, Nat.reduceLeDiff, Nat.reduceLT, Nat.reduceMul, Int.natCast_one, Int.natCast_zero, Int.reduceEq, Int.reduceLT, Int.reduceLE, Int.reduceAdd, Int.reduceSub, Int.reduceToNat, UInt8.reduceToNat, ot4, stripO, hB1, puP5, puM, puN, pu0]
      refine s2 _ _ _ hA1 (fun tl2 G2 hA2 hK2 => ?_)
      have hB2 := hK2.cells hB1
      simp -implicitDefEqProofs only [go_sem, tys, regs0, Nat.reduceEqDiff, Nat.reduceAdd, Nat.reduceLeDiff, Nat.reduceLT, Nat.reduceMul, Int.natCast_one, Int.natCast_zero, Int.reduceEq, Int.reduceLT, Int.reduceLE, Int.reduceAdd, Int.reduceSub, Int.reduceToNat, UInt8.reduceToNat, ot4, stripO, hB2, puP5, puM, puN, pu0]
      exact ⟨tl2, by simp -implicitDefEqProofs only [go_sem, tys, regs0, Nat.reduceEqDiff, Nat.reduceAdd, Nat.reduceLeDiff, Nat.reduceLT, Nat.reduceMul, Int.natCast_one, Int.natCast_zero, Int.reduceEq, Int.reduceLT, Int.reduceLE, Int.reduceAdd, Int.reduceSub, Int.reduceToNat, UInt8.reduceToNat], hA2, hB2⟩
  clear hA0 hB0
  rintro r G ⟨tl0, hv, hA0, hB0⟩
  have h1 := hv.1
  have h5 := hv.2.1
  clear hv
  simp -implicitDefEqProofs only [go_sem, tys, regs0, Nat.reduceEqDiff, Nat.reduceAdd, Nat.reduceLeDiff, Nat.reduceLT, Nat.reduceMul, Int.natCast_one, Int.natCast_zero, Int.reduceEq, Int.reduceLT, Int.reduceLE, Int.reduceAdd, Int.reduceSub, Int.reduceToNat, UInt8.reduceToNat, h1, h5]
  with_reducible refine acode_mid (Mid1 d t H idd (headB d)) ?_ ?_
  rotate_left
  · rw [acode_tree (t := ot5) rfl (by rfl)]
    unfold encDl at hB0
    have hm : pmagic.length = 4 := rfl
    have s1 := fun G tl K => putSum_k (F := H) (G := G) (l := pmagic ++ groupsB d.old.toNat ++ groupsB d.new.toNat) (tl := tl) (s := d.osum) (K := K) e5 (by simp only [List.length_append]; omega)
    have s2 := fun G tl K => putSum_k (F := H) (G := G) (l := pmagic ++ groupsB d.old.toNat ++ groupsB d.new.toNat ++ rawB (hexN d.osum)) (tl := tl) (s := d.nsum) (K := K) e6 (by simp only [List.length_append]; omega)
    have s3 := fun G tl K => putNumber_k (F := H) (G := G) (l := pmagic ++ groupsB d.old.toNat ++ groupsB d.new.toNat ++ rawB (hexN d.osum) ++ rawB (hexN d.nsum)) (tl := tl) (n := (d.ps.length : Int)) (K := K) (by omega) (by simp only [List.length_append]; omega)
    simp only [Int.toNat_natCast] at s3
    simp -implicitDefEqProofs only [go_sem, tys, regs0, Nat.reduceEqDiff, Nat.reduceAdd, Nat.reduceLeDiff, Nat.reduceLT, Nat.reduceMul, Int.natCast_one, Int.natCast_zero, Int.reduceEq, Int.reduceLT, Int.reduceLE, Int.reduceAdd, Int.reduceSub, Int.reduceToNat, UInt8.reduceToNat, h1, h5, hB0, ot5, stripO, puP5, puM, puN, pu0]
    repeat' first
      | (with_reducible refine And.intro ?_ ?_)
      | (refine s1 _ _ _ hA0 (fun tl1 G1 hA1 hK1 => ?_)
         have hB1 := hK1.cells hB0
         simp -implicitDefEqProofs only [go_sem, tys, regs0, Nat.reduceEqDiff, Nat.reduceAdd, Nat.reduceLeDiff, Nat.reduceLT, Nat.reduceMul, Int.natCast_one, Int.natCast_zero, Int.reduceEq, Int.reduceLT, Int.reduceLE, Int.reduceAdd, Int.reduceSub, Int.reduceToNat, UInt8.reduceToNat, h1, h5, stripO, hB1, puP5, puM, puN, pu0])
      | (refine s2 _ _ _ hA1 (fun tl2 G2 hA2 hK2 => ?_)
         have hB2 := hK2.cells hB1
         simp -implicitDefEqProofs only [go_sem, tys, regs0, Nat.reduceEqDiff, Nat.reduceAdd, Nat.reduceLeDiff, Nat.reduceLT, Nat.reduceMul, Int.natCast_one, Int.natCast_zero, Int.reduceEq, Int.reduceLT, Int.reduceLE, Int.reduceAdd, Int.reduceSub, Int.reduceToNat, UInt8.reduceToNat, h1, h5, stripO, hB2, puP5, puM, puN, pu0])
      | (refine s3 _ _ _ hA2 (fun tl3 G3 hA3 hK3 => ?_)
         have hB3 := hK3.cells hB2
         simp -implicitDefEqProofs only [go_sem, tys, regs0, Nat.reduceEqDiff, Nat.reduceAdd, Nat.reduceLeDiff, Nat.reduceLT, Nat.reduceMul, Int.natCast_one, Int.natCast_zero, Int.reduceEq, Int.reduceLT, Int.reduceLE, Int.reduceAdd, Int.reduceSub, Int.reduceToNat, UInt8.reduceToNat, h1, h5, stripO, hB3, puP5, puM, puN, pu0])
    all_goals exact ⟨tl3, by simp -implicitDefEqProofs only [go_sem, tys, regs0, Nat.reduceEqDiff, Nat.reduceAdd, Nat.reduceLeDiff, Nat.reduceLT, Nat.reduceMul, Int.natCast_one, Int.natCast_zero, Int.reduceEq, Int.reduceLT, Int.reduceLE, Int.reduceAdd, Int.reduceSub, Int.reduceToNat, UInt8.reduceToNat, h1]; exact rfl, hA3, hB3⟩
  clear hA0 hB0 h1 h5
  rintro r G ⟨tl0, hv, hA0, hB0⟩
  have h1 := hv.1
  have h5 := hv.2.1
  clear hv
  unfold encDl at hB0
  simp -implicitDefEqProofs only [go_sem, tys, regs0, Nat.reduceEqDiff, Nat.reduceAdd, Nat.reduceLeDiff, Nat.reduceLT, Nat.reduceMul, Int.natCast_one, Int.natCast_zero, Int.reduceEq, Int.reduceLT, Int.reduceLE, Int.reduceAdd, Int.reduceSub, Int.reduceToNat, UInt8.reduceToNat, h1, h5, hB0]
  refine aloop_intro (σ := Nat × Tail) (fun s => [(5, .sl ((headB d ++ ((d.ps.take s.1).map pieceB).flatten).map bcell) s.2), (33, .sl (d.ps.map encPc) t), (34, .int .i64 d.ps.length), (35, .int .i64 s.1)])
    (fun s G => AppG H G 1 ((headB d ++ ((d.ps.take s.1).map pieceB).flatten).map bcell) s.2 ∧ s.1 ≤ d.ps.length) (fun s => d.ps.length - s.1) (0, tl0) ?_ ?_ ?_
  · simp -implicitDefEqProofs only [go_sem, tys, regs0, Nat.reduceEqDiff, Nat.reduceAdd, Nat.reduceLeDiff, Nat.reduceLT, Nat.reduceMul, Int.natCast_one, Int.natCast_zero, Int.reduceEq, Int.reduceLT, Int.reduceLE, Int.reduceAdd, Int.reduceSub, Int.reduceToNat, UInt8.reduceToNat, h1, h5]
    simp
  · exact ⟨by simpa using hA0, by omega⟩
  · rintro ⟨i, tl1⟩ r G hv ⟨hA, hi⟩
    have h5 := hv.1
    have h33 := hv.2.1
    have h34 := hv.2.2.1
    have h35 := hv.2.2.2.1
    clear hv hA0 hB0
    simp only at h5 h33 h34 h35 hA hi
    simp -implicitDefEqProofs only [go_sem, tys, regs0, Nat.reduceEqDiff, Nat.reduceAdd, Nat.reduceLeDiff, Nat.reduceLT, Nat.reduceMul, Int.natCast_one, Int.natCast_zero, Int.reduceEq, Int.reduceLT, Int.reduceLE, Int.reduceAdd, Int.reduceSub, Int.reduceToNat, UInt8.reduceToNat, h5, h33, h34, h35]
    refine cnd_intro (fun g => ?_) (fun g => ?_)
    · simp only [decide_eq_true_eq] at g
      obtain ⟨p, hp⟩ : ∃ p, d.ps[i]? = some p := getD_get' (by omega)
      have hm := List.mem_of_getElem? hp
      have hrpp := hrp p hm
      have hpc := hsm p hm
      have hpi := hpl i
      have hps := pieces_succ hp
      have hpb := pieceB.eq_1 p
      have hpbl := pieceB_len hrpp hpc
      have r3 := hrpp.2.2
      generalize hout : headB d ++ ((d.ps.take i).map pieceB).flatten = out at *
      have hol : out.length ≤ 40 + 4194320 * i := by rw [← hout, List.length_append]; omega
      simp -implicitDefEqProofs only [go_sem, tys, regs0, Nat.reduceEqDiff, Nat.reduceAdd, Nat.reduceLeDiff, Nat.reduceLT, Nat.reduceMul, Int.natCast_one, Int.natCast_zero, Int.reduceEq, Int.reduceLT, Int.reduceLE, Int.reduceAdd, Int.reduceSub, Int.reduceToNat, UInt8.reduceToNat, h5, h33, h34, h35, hp, encPc]
      with_reducible refine nwC_intro fun id hid => ?_
      have hB2 := put_same G id (.cells [.int .i64 p.at_, .int .i64 p.long, .str p.data])
      have hA2 := hA.put hid (.cells [.int .i64 p.at_, .int .i64 p.long, .str p.data])
      simp -implicitDefEqProofs only [go_sem, tys, regs0, Nat.reduceEqDiff, Nat.reduceAdd, Nat.reduceLeDiff, Nat.reduceLT, Nat.reduceMul, Int.natCast_one, Int.natCast_zero, Int.reduceEq, Int.reduceLT, Int.reduceLE, Int.reduceAdd, Int.reduceSub, Int.reduceToNat, UInt8.reduceToNat, h5, h33, h34, h35]
      refine cnd_intro (fun g7 => ?_) (fun g7 => ?_)
      · simp only [decide_eq_true_eq] at g7
        rw [if_pos g7] at hpb
        have q2 := groups6 (n := p.data.length) (by omega)
        with_reducible refine acode_mid (Mid2 d t H i (out ++ pieceB p)) ?_ ?_
        · rintro r G ⟨tl0, hv, hA0⟩
          have h5 := hv.1
          have h33 := hv.2.1
          have h34 := hv.2.2.1
          have h35 := hv.2.2.2.1
          clear hv
          simp -implicitDefEqProofs (disch := omega) only [go_sem, tys, regs0, Nat.reduceEqDiff, Nat.reduceAdd, Nat.reduceLeDiff, Nat.reduceLT, Nat.reduceMul, Int.natCast_one, Int.natCast_zero, Int.reduceEq, Int.reduceLT, Int.reduceLE, Int.reduceAdd, Int.reduceSub, Int.reduceToNat, UInt8.reduceToNat, Go.IntWalk.i64_in, h5, h33, h34, h35]
          rw [← hout, List.append_assoc, ← hps] at hA0 h5
          exact Again.mk (i + 1, tl0) (by simp -implicitDefEqProofs only [go_sem, tys, regs0, Nat.reduceEqDiff, Nat.reduceAdd, Nat.reduceLeDiff, Nat.reduceLT, Nat.reduceMul, Int.natCast_one, Int.natCast_zero, Int.reduceEq, Int.reduceLT, Int.reduceLE, Int.reduceAdd, Int.reduceSub, Int.reduceToNat, UInt8.reduceToNat, h5, h33, h34, h35]; exact rfl) ⟨hA0, by simp only; omega⟩ (by simp only; omega)
        rw [acode_tree (t := ot10) rfl (by rfl)]
        have s2 := fun G tl K => putNumber_k (F := H) (G := G) (l := out ++ [1]) (tl := tl) (n := (p.data.length : Int)) (K := K) (by omega) (by simp only [List.length_append, List.length_cons, List.length_nil]; omega)
        simp only [Int.toNat_natCast] at s2
        simp -implicitDefEqProofs only [go_sem, tys, regs0, Nat.reduceEqDiff, Nat.reduceAdd, Nat.reduceLeDiff, Nat.reduceLT, Nat.reduceMul, Int.natCast_one, Int.natCast_zero, Int.reduceEq, Int.reduceLT, Int.reduceLE, Int.reduceAdd, Int.reduceSub, Int.reduceToNat, UInt8.reduceToNat, h5, h33, h34, h35, hB2, ot10, stripO, puP5, puM, puN, pu0]
        repeat' first
          | (with_reducible refine And.intro ?_ ?_)
          | (refine AppG.step hA2 (bcell_unif _) (by simp; omega) (by simp; omega) (fun tl2 G2 hA3 hK3 => ?_)
             rw [one_cell] at hA3
             have hB3 := hK3.cells hB2
             simp -implicitDefEqProofs only [go_sem, tys, regs0, Nat.reduceEqDiff, Nat.reduceAdd, Nat.reduceLeDiff, Nat.reduceLT, Nat.reduceMul, Int.natCast_one, Int.natCast_zero, Int.reduceEq, Int.reduceLT, Int.reduceLE, Int.reduceAdd, Int.reduceSub, Int.reduceToNat, UInt8.reduceToNat, h5, h33, h34, h35, stripO, hB3, one_cell, puP5, puM, puN, pu0])
          | (refine s2 _ _ _ hA3 (fun tl3 G3 hA4 hK4 => ?_)
             have hB4 := hK4.cells hB3
             simp -implicitDefEqProofs only [go_sem, tys, regs0, Nat.reduceEqDiff, Nat.reduceAdd, Nat.reduceLeDiff, Nat.reduceLT, Nat.reduceMul, Int.natCast_one, Int.natCast_zero, Int.reduceEq, Int.reduceLT, Int.reduceLE, Int.reduceAdd, Int.reduceSub, Int.reduceToNat, UInt8.reduceToNat, h5, h33, h34, h35, stripO, hB4, puP5, puM, puN, pu0])
          | (refine AppG.step (new := p.data.map bcell) hA4 (bcell_unif _) (by simp; omega) (by simp; omega) (fun tl4 G4 hA5 hK5 => ?_)
             rw [← List.map_append] at hA5 ⊢
             simp -implicitDefEqProofs only [go_sem, tys, regs0, Nat.reduceEqDiff, Nat.reduceAdd, Nat.reduceLeDiff, Nat.reduceLT, Nat.reduceMul, Int.natCast_one, Int.natCast_zero, Int.reduceEq, Int.reduceLT, Int.reduceLE, Int.reduceAdd, Int.reduceSub, Int.reduceToNat, UInt8.reduceToNat, h5, h33, h34, h35, stripO, puP5, puM, puN, pu0])
        all_goals
          have e : out ++ [1] ++ groupsB p.data.length ++ p.data = out ++ pieceB p := by rw [hpb]; simp
          exact ⟨tl4, by simp -implicitDefEqProofs only [go_sem, tys, regs0, Nat.reduceEqDiff, Nat.reduceAdd, Nat.reduceLeDiff, Nat.reduceLT, Nat.reduceMul, Int.natCast_one, Int.natCast_zero, Int.reduceEq, Int.reduceLT, Int.reduceLE, Int.reduceAdd, Int.reduceSub, Int.reduceToNat, UInt8.reduceToNat, h5, h33, h34, h35]; rw [← e], by rw [← e]; exact hA5⟩
      · simp only [decide_eq_false_iff_not] at g7
        rw [if_neg g7] at hpb
        have hpc2 := hpc (by simpa using g7)
        with_reducible refine acode_mid (Mid2 d t H i (out ++ pieceB p)) ?_ ?_
        · rintro r G ⟨tl0, hv, hA0⟩
          have h5 := hv.1
          have h33 := hv.2.1
          have h34 := hv.2.2.1
          have h35 := hv.2.2.2.1
          clear hv
          simp -implicitDefEqProofs (disch := omega) only [go_sem, tys, regs0, Nat.reduceEqDiff, Nat.reduceAdd, Nat.reduceLeDiff, Nat.reduceLT, Nat.reduceMul, Int.natCast_one, Int.natCast_zero, Int.reduceEq, Int.reduceLT, Int.reduceLE, Int.reduceAdd, Int.reduceSub, Int.reduceToNat, UInt8.reduceToNat, Go.IntWalk.i64_in, h5, h33, h34, h35]
          rw [← hout, List.append_assoc, ← hps] at hA0 h5
          exact Again.mk (i + 1, tl0) (by simp -implicitDefEqProofs only [go_sem, tys, regs0, Nat.reduceEqDiff, Nat.reduceAdd, Nat.reduceLeDiff, Nat.reduceLT, Nat.reduceMul, Int.natCast_one, Int.natCast_zero, Int.reduceEq, Int.reduceLT, Int.reduceLE, Int.reduceAdd, Int.reduceSub, Int.reduceToNat, UInt8.reduceToNat, h5, h33, h34, h35]; exact rfl) ⟨hA0, by simp only; omega⟩ (by simp only; omega)
        rw [acode_tree (t := ot11) rfl (by rfl)]
        have q2 := groups6 (n := p.at_.toNat) (by omega)
        have s2 := fun G tl K => putNumber_k (F := H) (G := G) (l := out ++ [0]) (tl := tl) (n := p.at_) (K := K) (by omega) (by simp only [List.length_append, List.length_cons, List.length_nil]; omega)
        have s3 := fun G tl K => putNumber_k (F := H) (G := G) (l := out ++ [0] ++ groupsB p.at_.toNat) (tl := tl) (n := p.long) (K := K) (by omega) (by simp only [List.length_append, List.length_cons, List.length_nil]; omega)
        simp -implicitDefEqProofs only [go_sem, tys, regs0, Nat.reduceEqDiff, Nat.reduceAdd, Nat.reduceLeDiff, Nat.reduceLT, Nat.reduceMul, Int.natCast_one, Int.natCast_zero, Int.reduceEq, Int.reduceLT, Int.reduceLE, Int.reduceAdd, Int.reduceSub, Int.reduceToNat, UInt8.reduceToNat, h5, h33, h34, h35, hB2, ot11, stripO, puP5, puM, puN, pu0]
        repeat' first
          | (with_reducible refine And.intro ?_ ?_)
          | (refine AppG.step hA2 (bcell_unif _) (by simp; omega) (by simp; omega) (fun tl2 G2 hA3 hK3 => ?_)
             rw [zero_cell] at hA3
             have hB3 := hK3.cells hB2
             simp -implicitDefEqProofs only [go_sem, tys, regs0, Nat.reduceEqDiff, Nat.reduceAdd, Nat.reduceLeDiff, Nat.reduceLT, Nat.reduceMul, Int.natCast_one, Int.natCast_zero, Int.reduceEq, Int.reduceLT, Int.reduceLE, Int.reduceAdd, Int.reduceSub, Int.reduceToNat, UInt8.reduceToNat, h5, h33, h34, h35, stripO, hB3, zero_cell, puP5, puM, puN, pu0])
          | (refine s2 _ _ _ hA3 (fun tl3 G3 hA4 hK4 => ?_)
             have hB4 := hK4.cells hB3
             simp -implicitDefEqProofs only [go_sem, tys, regs0, Nat.reduceEqDiff, Nat.reduceAdd, Nat.reduceLeDiff, Nat.reduceLT, Nat.reduceMul, Int.natCast_one, Int.natCast_zero, Int.reduceEq, Int.reduceLT, Int.reduceLE, Int.reduceAdd, Int.reduceSub, Int.reduceToNat, UInt8.reduceToNat, h5, h33, h34, h35, stripO, hB4, puP5, puM, puN, pu0])
          | (refine s3 _ _ _ hA4 (fun tl4 G4 hA5 hK5 => ?_)
             simp -implicitDefEqProofs only [go_sem, tys, regs0, Nat.reduceEqDiff, Nat.reduceAdd, Nat.reduceLeDiff, Nat.reduceLT, Nat.reduceMul, Int.natCast_one, Int.natCast_zero, Int.reduceEq, Int.reduceLT, Int.reduceLE, Int.reduceAdd, Int.reduceSub, Int.reduceToNat, UInt8.reduceToNat, h5, h33, h34, h35, stripO, puP5, puM, puN, pu0])
        all_goals
          have e : out ++ [0] ++ groupsB p.at_.toNat ++ groupsB p.long.toNat = out ++ pieceB p := by rw [hpb]; simp
          exact ⟨tl4, by simp -implicitDefEqProofs only [go_sem, tys, regs0, Nat.reduceEqDiff, Nat.reduceAdd, Nat.reduceLeDiff, Nat.reduceLT, Nat.reduceMul, Int.natCast_one, Int.natCast_zero, Int.reduceEq, Int.reduceLT, Int.reduceLE, Int.reduceAdd, Int.reduceSub, Int.reduceToNat, UInt8.reduceToNat, h5, h33, h34, h35]; rw [← e], by rw [← e]; exact hA5⟩
    · simp only [decide_eq_false_iff_not] at g
      have e : i = d.ps.length := by omega
      subst e
      have hpi := hpl d.ps.length
      rw [List.take_length] at hA hpi h5
      have hbod : headB d ++ (d.ps.map pieceB).flatten = bodyB d := rfl
      rw [hbod] at hA h5
      have hbl : (bodyB d).length ≤ 40 + 4194320 * d.ps.length := by unfold bodyB; rw [List.length_append]; omega
      have hR : Room = 1099511627776 := rfl
      have hrm : (bodyB d).length ≤ 1099511627776 := by omega
      have q2 := rawB_len (hexN (sumOf (bodyB d)))
      have s1 := fun G tl K => putSum_k (F := H) (G := G) (l := bodyB d) (tl := tl) (s := sumOf (bodyB d)) (K := K) (sumOf_form (bodyB d)) (by omega)
      simp -implicitDefEqProofs only [go_sem, tys, regs0, Nat.reduceEqDiff, Nat.reduceAdd, Nat.reduceLeDiff, Nat.reduceLT, Nat.reduceMul, Int.natCast_one, Int.natCast_zero, Int.reduceEq, Int.reduceLT, Int.reduceLE, Int.reduceAdd, Int.reduceSub, Int.reduceToNat, UInt8.reduceToNat, h5, h33, h34, h35]
      refine conv_sl (l := bodyB d) (by simp -implicitDefEqProofs only [go_sem, tys, regs0, Nat.reduceEqDiff, Nat.reduceAdd, Nat.reduceLeDiff, Nat.reduceLT, Nat.reduceMul, Int.natCast_one, Int.natCast_zero, Int.reduceEq, Int.reduceLT, Int.reduceLE, Int.reduceAdd, Int.reduceSub, Int.reduceToNat, UInt8.reduceToNat]) (by simp -implicitDefEqProofs only [go_sem, tys, regs0, Nat.reduceEqDiff, Nat.reduceAdd, Nat.reduceLeDiff, Nat.reduceLT, Nat.reduceMul, Int.natCast_one, Int.natCast_zero, Int.reduceEq, Int.reduceLT, Int.reduceLE, Int.reduceAdd, Int.reduceSub, Int.reduceToNat, UInt8.reduceToNat]) ?_
      simp -implicitDefEqProofs (disch := (first | omega | (simp only [List.length_append, List.length_cons, List.length_nil]; omega))) only [go_sem, binS_addD, tys, regs0, Nat.reduceEqDiff, Nat.reduceAdd, Nat.reduceLeDiff, Nat.reduceLT, Nat.reduceMul, Int.natCast_one, Int.natCast_zero, Int.reduceEq, Int.reduceLT, Int.reduceLE, Int.reduceAdd, Int.reduceSub, Int.reduceToNat, UInt8.reduceToNat, Go.IntWalk.i64_in, h5, puP5, puM, puN, pu0, sSum_eq, hR, hrm]
      refine s1 _ _ _ hA (fun tl3 G3 hA4 hK4 => ?_)
      simp -implicitDefEqProofs only [go_sem, tys, regs0, Nat.reduceEqDiff, Nat.reduceAdd, Nat.reduceLeDiff, Nat.reduceLT, Nat.reduceMul, Int.natCast_one, Int.natCast_zero, Int.reduceEq, Int.reduceLT, Int.reduceLE, Int.reduceAdd, Int.reduceSub, Int.reduceToNat, UInt8.reduceToNat, h5]
      refine conv_sl (l := bodyB d ++ rawB (hexN (sumOf (bodyB d)))) (by simp -implicitDefEqProofs only [go_sem, tys, regs0, Nat.reduceEqDiff, Nat.reduceAdd, Nat.reduceLeDiff, Nat.reduceLT, Nat.reduceMul, Int.natCast_one, Int.natCast_zero, Int.reduceEq, Int.reduceLT, Int.reduceLE, Int.reduceAdd, Int.reduceSub, Int.reduceToNat, UInt8.reduceToNat]) (by simp -implicitDefEqProofs only [go_sem, tys, regs0, Nat.reduceEqDiff, Nat.reduceAdd, Nat.reduceLeDiff, Nat.reduceLT, Nat.reduceMul, Int.natCast_one, Int.natCast_zero, Int.reduceEq, Int.reduceLT, Int.reduceLE, Int.reduceAdd, Int.reduceSub, Int.reduceToNat, UInt8.reduceToNat]) ?_
      simp -implicitDefEqProofs only [go_sem, tys, regs0, Nat.reduceEqDiff, Nat.reduceAdd, Nat.reduceLeDiff, Nat.reduceLT, Nat.reduceMul, Int.natCast_one, Int.natCast_zero, Int.reduceEq, Int.reduceLT, Int.reduceLE, Int.reduceAdd, Int.reduceSub, Int.reduceToNat, UInt8.reduceToNat, h5]
      exact Done.drop hA4.sub ⟨rfl, rfl⟩
end Go.Proofs

/- Walks: Cost, Fresh, Tidy, Patch. -/
namespace Go.Proofs
open Go Go.Abs
set_option linter.unusedSimpArgs false
set_option linter.unusedVariables false
set_option maxRecDepth 20000
def sDl (f : DeltaV → Tail → Option AV) : List AV → Option AV := fn1 (Rd.agg decDl) fun p => f p.1 p.2
theorem sDl_eq (f : DeltaV → Tail → Option AV) (d : DeltaV) (t : Tail) : sDl f [.agg (encDl d t)] = f d t := by
  show (decDl (encDl d t)).bind _ = _
  rw [decDl_enc]
  rfl
theorem sDl_ok {P : Program} {f : FuncId} {g : DeltaV → Tail → Option AV} (h : ∀ d t v H, g d t = some v → ACalls P f [.agg (encDl d t)] H fun x H' => x = v ∧ H' = H) : ∀ xs v, sDl g xs = some v → ∀ H, ACalls P f xs H fun x H' => x = v ∧ H' = H := by
  intro xs v hv H
  obtain ⟨x, p, rfl, h1, h2⟩ := fn1_some hv
  cases Rd.agg_some (fun _ _ => decDl_some) h1
  exact h p.1 p.2 v H h2
def sTD (f : Bytes → DeltaV → Tail → Option AV) : List AV → Option AV := fn2 .str (Rd.agg decDl) fun s p => f s p.1 p.2
theorem sTD_eq (f : Bytes → DeltaV → Tail → Option AV) (s : Bytes) (d : DeltaV) (t : Tail) : sTD f [.str s, .agg (encDl d t)] = f s d t := by
  unfold sTD
  rw [fn2_eq, Rd.str_eq]
  show (decDl (encDl d t)).bind _ = _
  rw [decDl_enc]
  rfl
theorem sTD_ok {P : Program} {f : FuncId} {g : Bytes → DeltaV → Tail → Option AV} (h : ∀ s d t v H, g s d t = some v → ACalls P f [.str s, .agg (encDl d t)] H fun x H' => x = v ∧ H' = H) : ∀ xs v, sTD g xs = some v → ∀ H, ACalls P f xs H fun x H' => x = v ∧ H' = H := by
  intro xs v hv H
  obtain ⟨x, y, p, q, rfl, h1, h2, h3⟩ := fn2_some hv
  cases Rd.str_some h1
  cases Rd.agg_some (fun _ _ => decDl_some) h2
  exact h p q.1 q.2 v H h3
/-- The answers. -/
def vPrint (d : DeltaV) (t : Tail) : Option AV := if dlR d then some (.tup [.str (if deltaE d = 0 then printB d else []), .int .i64 (deltaE d)]) else none
def vCost (d : DeltaV) (t : Tail) : Option AV := if dlR d then some (.tup [.int .i64 ((if deltaE d = 0 then printB d else []).length : Int), .int .i64 (deltaE d)]) else none
def vFresh (d : DeltaV) (t : Tail) : Option AV := if dlR d then some (.tup [.int .i64 (if deltaE d = 0 then freshV d.ps else 0), .int .i64 (deltaE d)]) else none
def vTidy (d : DeltaV) (t : Tail) : Option AV := if dlR d then some (.tup [.agg (if deltaE d = 0 then encDl (tidyV d) .unk else encDl DeltaV.zero .exact), .int .i64 (deltaE d)]) else none
theorem print_val (d : DeltaV) (t : Tail) (v : AV) (H : Heap) (h : vPrint d t = some v) : ACalls Tryd.prog 12 [.agg (encDl d t)] H fun x H' => x = v ∧ H' = H := by
  obtain ⟨hr, rfl⟩ := some_if h
  refine (print_calls d t H hr).mono ?_
  rintro x H' ⟨rfl, h2⟩
  refine ⟨?_, h2⟩
  by_cases hE : deltaE d = 0
  · rw [if_pos hE, if_pos hE, hE]
  · rw [if_neg hE, if_neg hE]
def puP6 : Pures := putP 12 (sDl vPrint) puP5
theorem puP6_ok : PuOK Tryd.prog puP6 := .put (puP5_ok) (sDl_ok print_val)
theorem fresh_len {l : List PieceV} (hp : ∀ p ∈ l, pcR p) : ∀ i, 0 ≤ freshV (l.take i) ∧ freshV (l.take i) ≤ 4194304 * i
  | 0 => by simp [freshV]
  | i + 1 => by
    have h1 := fresh_len hp i
    cases h : l[i]? with
    | none =>
      rw [List.take_add_one, h]
      simp only [Option.toList_none, List.append_nil]
      omega
    | some p =>
      rw [freshV_succ h]
      have := (hp p (List.mem_of_getElem? h)).2.2
      omega
instance (m : Nat) (q : PieceV) : Decidable (bnd m q) := inferInstanceAs (Decidable ((_ → _ ∧ _ ∧ _ ∧ _) ∧ _))
instance (l : List PieceV) : Decidable (jR l) := inferInstanceAs (Decidable (_ ∧ ∀ p ∈ l, bnd 1 p))
def sJl : List AV → Option AV := fn1 (Rd.list decPc) fun l => if jR l then some (.sl ((joinedV l).map encPc) .unk) else none
theorem sJl_eq (l : List PieceV) (t : Tail) (h : jR l) : sJl [.sl (l.map encPc) t] = some (.sl ((joinedV l).map encPc) .unk) := by
  show ((Rd.list decPc).rd (.sl (l.map encPc) t)).bind _ = _
  rw [Rd.list_eq (enc := encPc) decPc_enc l t]
  simp only [Option.bind_some, if_pos h]
theorem sJl_ok {P : Program} {f : FuncId} (h : ∀ l t H, jR l → ACalls P f [.sl (l.map encPc) t] H fun x H' => x = .sl ((joinedV l).map encPc) .unk ∧ H' = H) : ∀ xs v, sJl xs = some v → ∀ H, ACalls P f xs H fun x H' => x = v ∧ H' = H := by
  intro xs v hv H
  obtain ⟨x, l, rfl, h1, h2⟩ := fn1_some hv
  obtain ⟨h3, rfl⟩ := some_if h2
  obtain ⟨t, rfl⟩ := Rd.list_some (enc := encPc) (fun _ _ => decPc_some) h1
  exact h l t H h3
def puP7 : Pures := puP6
theorem puP7_ok : PuOK Tryd.prog puP7 := puP6_ok
end Go.Proofs

/- Walks: a delta is applied, both sides. -/
namespace Go.Proofs
open Go Go.Abs
set_option linter.unusedSimpArgs false
set_option linter.unusedVariables false
set_option maxRecDepth 20000
def madeR (a : Bytes) (l : List PieceV) : Prop := psR l ∧ a.length ≤ 65536 ∧ (∀ p ∈ l, pcE a.length p = 0) ∧ l.length ≤ 5000
instance (a : Bytes) (l : List PieceV) : Decidable (madeR a l) := inferInstanceAs (Decidable (_ ∧ _ ∧ _ ∧ _))
def sMade : List AV → Option AV := fn2 .str (Rd.list decPc) fun a l => if madeR a l then some (.str (madeV a l)) else none
theorem sMade_eq (a : Bytes) (l : List PieceV) (t : Tail) (h : madeR a l) : sMade [.str a, .sl (l.map encPc) t] = some (.str (madeV a l)) := by
  unfold sMade
  rw [fn2_eq, Rd.str_eq]
  show ((Rd.list decPc).rd (.sl (l.map encPc) t)).bind _ = _
  rw [Rd.list_eq (enc := encPc) decPc_enc l t]
  simp only [Option.bind_some, if_pos h]
theorem sMade_ok {P : Program} {f : FuncId} (h : ∀ a l t H, madeR a l → ACalls P f [.str a, .sl (l.map encPc) t] H fun x H' => x = .str (madeV a l) ∧ H' = H) : ∀ xs v, sMade xs = some v → ∀ H, ACalls P f xs H fun x H' => x = v ∧ H' = H := by
  intro xs v hv H
  obtain ⟨x, y, p, q, rfl, h1, h2, h3⟩ := fn2_some hv
  obtain ⟨h4, rfl⟩ := some_if h3
  cases Rd.str_some h1
  obtain ⟨t, rfl⟩ := Rd.list_some (enc := encPc) (fun _ _ => decPc_some) h2
  exact h p q t H h4
def puP8 : Pures := puP7
theorem puP8_ok : PuOK Tryd.prog puP8 := puP7_ok
def vPatch (s : Bytes) (d : DeltaV) (t : Tail) : Option AV := if dlR d ∧ deltaE d = 0 ∧ s.length ≤ 1099511627776 then some (.tup [.str (patchV s d).1, .int .i64 (patchV s d).2]) else none
def vApply (s : Bytes) (d : DeltaV) (t : Tail) : Option AV := if dlR d ∧ s.length ≤ 1099511627776 then some (.tup [.str (applyV s d).1, .int .i64 (applyV s d).2]) else none
theorem made_len {d : DeltaV} {s : Bytes} (hr : dlR d) (hE : deltaE d = 0) (hs : (s.length : Int) = d.old) : madeR s d.ps ∧ (madeV s d.ps).length ≤ 4194304 * d.ps.length ∧ d.ps.length ≤ 5000 := by
  obtain ⟨e1, e2, e3, e4, e5, e6, e7, e8⟩ := deltaE_ok hE
  obtain ⟨f1, f2, f3, f4, f5, f6⟩ := stepsV_ok e7
  have h := take_len_le (a := s) hs hr.2.2.2.2.2 f4 e2 d.ps.length
  rw [List.take_length] at h
  exact ⟨⟨hr.2.2.2.2, by omega, by rw [hs]; exact f4, f3⟩, h, f3⟩
def ot14 : OT := .seg [2] (.or (.seg [0, 1, 3, 4] .done) (.seg [3, 0, 1, 4] .done))
set_option maxHeartbeats 1600000 in
theorem apply_calls (s : Bytes) (d : DeltaV) (t : Tail) (v : AV) (H : Heap) (h : vApply s d t = some v) : ACalls Tryd.prog 8 [.str s, .agg (encDl d t)] H fun x H' => x = v ∧ H' = H := by
  obtain ⟨⟨hr, hs⟩, rfl⟩ := some_if h
  have hR : Room = 1099511627776 := rfl
  have hc := sCheck_eq d t hr
  unfold encDl at hc
  have hav := applyV.eq_1 s d
  by_cases hE : ¬ deltaE d = 0
  · have hE2 : decide (¬ deltaE d = 0) = true := decide_eq_true hE
    rw [if_pos hE] at hav
    rw [hav]
    refine ACalls.of_code (X := { pure := puP5, ms := fun t => decide (t = 7), tree := fun n => if n = 14 then some ot14 else none }) puP5_ok Tryd.func8 (by kernel_rfl) rfl (by kernel_rfl) (Nat.le_of_ble_eq_true rfl) ?_
    simp -implicitDefEqProofs only [go_sem, tys, regs0, Nat.reduceEqDiff, Nat.reduceAdd, Nat.reduceLeDiff, Nat.reduceLT, Nat.reduceMul, Int.natCast_one, Int.natCast_zero, Int.reduceEq, Int.reduceLT, Int.reduceLE, Int.reduceAdd, Int.reduceSub, Int.reduceToNat, UInt8.reduceToNat, Tryd.f8, encDl]
    with_reducible refine nwC_intro fun idd hidd => ?_
    simp -implicitDefEqProofs only [go_sem, tys, regs0, Nat.reduceEqDiff, Nat.reduceAdd, Nat.reduceLeDiff, Nat.reduceLT, Nat.reduceMul, Int.natCast_one, Int.natCast_zero, Int.reduceEq, Int.reduceLT, Int.reduceLE, Int.reduceAdd, Int.reduceSub, Int.reduceToNat, UInt8.reduceToNat, puP5, hc, hE2]
    exact Done.drop1 hidd ⟨rfl, rfl⟩
  have hE : deltaE d = 0 := Decidable.not_not.1 hE
  rw [hE] at hc
  rw [if_neg (by simpa using hE)] at hav
  rw [hav]
  have hv := patchV.eq_1 s d
  by_cases c1 : (s.length : Int) = d.old
  · have k1 : decide (¬ (s.length : Int) = d.old) = false := decide_eq_false (by simpa using c1)
    by_cases c2 : sumOf s = d.osum
    · have k2 : decide (¬ sumOf s = d.osum) = false := decide_eq_false (by simpa using c2)
      obtain ⟨mr, m1, m2⟩ := made_len (s := s) hr hE c1
      obtain ⟨e1, e2, e3, e4, e5, e6, e7, e8⟩ := deltaE_ok hE
      obtain ⟨f1, f2, f3, f4, f5, f6⟩ := stepsV_ok e7
      have hml : (madeV s d.ps).length ≤ 1099511627776 := by omega
      rw [if_neg (by simp [c1, c2])] at hv
      rw [hv]
      refine ACalls.of_code (X := { pure := puP5, ms := fun t => decide (t = 7), tree := fun n => if n = 14 then some ot14 else none }) puP5_ok Tryd.func8 (by kernel_rfl) rfl (by kernel_rfl) (Nat.le_of_ble_eq_true rfl) ?_
      simp -implicitDefEqProofs only [go_sem, tys, regs0, Nat.reduceEqDiff, Nat.reduceAdd, Nat.reduceLeDiff, Nat.reduceLT, Nat.reduceMul, Int.natCast_one, Int.natCast_zero, Int.reduceEq, Int.reduceLT, Int.reduceLE, Int.reduceAdd, Int.reduceSub, Int.reduceToNat, UInt8.reduceToNat, Tryd.f8, encDl]
      with_reducible refine nwC_intro fun idd hidd => ?_
      simp -implicitDefEqProofs only [go_sem, tys, regs0, Nat.reduceEqDiff, Nat.reduceAdd, Nat.reduceLeDiff, Nat.reduceLT, Nat.reduceMul, Int.natCast_one, Int.natCast_zero, Int.reduceEq, Int.reduceLT, Int.reduceLE, Int.reduceAdd, Int.reduceSub, Int.reduceToNat, UInt8.reduceToNat, puP5, hc]
      rw [acode_draw]
      simp -implicitDefEqProofs only [go_sem, tys, regs0, Nat.reduceEqDiff, Nat.reduceAdd, Nat.reduceLeDiff, Nat.reduceLT, Nat.reduceMul, Int.natCast_one, Int.natCast_zero, Int.reduceEq, Int.reduceLT, Int.reduceLE, Int.reduceAdd, Int.reduceSub, Int.reduceToNat, UInt8.reduceToNat, puP5, puM, puN, pu0, sSum_eq, hR, hs, k1, k2]
      have hF : H.Sub (H.put idd (.cells (encDl d t))) := (Heap.Sub.rfl' H).put' hidd _
      have hB0 := put_same H idd (.cells (encDl d t))
      have hput : H.put idd (.cells (encDl d t)) = H.put idd (.cells [.int .i64 d.old, .int .i64 d.new, .str d.osum, .str d.nsum, .sl (d.ps.map encPc) t]) := rfl
      rw [← hput]
      generalize H.put idd (.cells (encDl d t)) = F at *
      unfold encDl at hB0
      with_reducible refine nwT_intro fun b hb => ?_
      have hnew := BldG.new (Heap.Sub.rfl' F) hb
      have hd0 := hnew.sub _ _ hB0
      simp -implicitDefEqProofs only [go_sem, tys, regs0, Nat.reduceEqDiff, Nat.reduceAdd, Nat.reduceLeDiff, Nat.reduceLT, Nat.reduceMul, Int.natCast_one, Int.natCast_zero, Int.reduceEq, Int.reduceLT, Int.reduceLE, Int.reduceAdd, Int.reduceSub, Int.reduceToNat, UInt8.reduceToNat, hd0]
      refine aloop_intro (σ := Nat) (fun i => [(0, .str s), (3, .ptr idd 0), (7, bldP b), (28, .sl (d.ps.map encPc) t), (29, .int .i64 d.ps.length), (30, .int .i64 i)])
        (fun i G => BldOK F G b (madeV s (d.ps.take i)) ∧ i ≤ d.ps.length) (fun i => d.ps.length - i) 0 ?_ ?_ ?_
      · simp -implicitDefEqProofs only [go_sem, tys, regs0, Nat.reduceEqDiff, Nat.reduceAdd, Nat.reduceLeDiff, Nat.reduceLT, Nat.reduceMul, Int.natCast_one, Int.natCast_zero, Int.reduceEq, Int.reduceLT, Int.reduceLE, Int.reduceAdd, Int.reduceSub, Int.reduceToNat, UInt8.reduceToNat]
      · exact ⟨hnew, by omega⟩
      · intro i r G hv hI
        have h0 := hv.1
        have h3 := hv.2.1
        have h7 := hv.2.2.1
        have h28 := hv.2.2.2.1
        have h29 := hv.2.2.2.2.1
        have h30 := hv.2.2.2.2.2.1
        have hB := hI.1
        have hi := hI.2
        clear hv hI
        simp -implicitDefEqProofs only [go_sem, tys, regs0, Nat.reduceEqDiff, Nat.reduceAdd, Nat.reduceLeDiff, Nat.reduceLT, Nat.reduceMul, Int.natCast_one, Int.natCast_zero, Int.reduceEq, Int.reduceLT, Int.reduceLE, Int.reduceAdd, Int.reduceSub, Int.reduceToNat, UInt8.reduceToNat, h0, h3, h7, h28, h29, h30]
        refine cnd_intro (fun g => ?_) (fun g => ?_)
        · simp only [decide_eq_true_eq] at g
          obtain ⟨p, hp⟩ : ∃ p, d.ps[i]? = some p := getD_get' (by omega)
          have hm := List.mem_of_getElem? hp
          have hrp := hr.2.2.2.2.2 p hm
          have hpe := f4 p hm
          rw [← c1] at hpe
          have hlen := take_len_le (a := s) c1 hr.2.2.2.2.2 f4 e2 i
          have hms := madeV_succ (a := s) hp
          have hml := pcMade_len hpe
          have hms2 := pcSize_ok hrp (by omega) hpe
          have hpm := pcMade.eq_1 s p
          unfold pcE at hpe
          simp -implicitDefEqProofs only [go_sem, tys, regs0, Nat.reduceEqDiff, Nat.reduceAdd, Nat.reduceLeDiff, Nat.reduceLT, Nat.reduceMul, Int.natCast_one, Int.natCast_zero, Int.reduceEq, Int.reduceLT, Int.reduceLE, Int.reduceAdd, Int.reduceSub, Int.reduceToNat, UInt8.reduceToNat, h0, h3, h7, h28, h29, h30, hp, encPc]
          with_reducible refine nwC_intro fun id hid => ?_
          have hB2 := hB.put hid (.cells [.int .i64 p.at_, .int .i64 p.long, .str p.data])
          simp -implicitDefEqProofs only [go_sem, tys, regs0, Nat.reduceEqDiff, Nat.reduceAdd, Nat.reduceLeDiff, Nat.reduceLT, Nat.reduceMul, Int.natCast_one, Int.natCast_zero, Int.reduceEq, Int.reduceLT, Int.reduceLE, Int.reduceAdd, Int.reduceSub, Int.reduceToNat, UInt8.reduceToNat]
          refine cnd_intro (fun g2 => ?_) (fun g2 => ?_)
          · simp only [decide_eq_true_eq] at g2
            rw [if_pos g2] at hpm
            simp -implicitDefEqProofs only [go_sem, tys, regs0, Nat.reduceEqDiff, Nat.reduceAdd, Nat.reduceLeDiff, Nat.reduceLT, Nat.reduceMul, Int.natCast_one, Int.natCast_zero, Int.reduceEq, Int.reduceLT, Int.reduceLE, Int.reduceAdd, Int.reduceSub, Int.reduceToNat, UInt8.reduceToNat, h0, h3, h7, h28, h29, h30]
            refine writeString_k hB2 (by rw [← hpm]; omega) (fun G3 hG3 _ => ?_)
            rw [← hpm, ← hms] at hG3
            simp -implicitDefEqProofs (disch := omega) only [go_sem, tys, regs0, Nat.reduceEqDiff, Nat.reduceAdd, Nat.reduceLeDiff, Nat.reduceLT, Nat.reduceMul, Int.natCast_one, Int.natCast_zero, Int.reduceEq, Int.reduceLT, Int.reduceLE, Int.reduceAdd, Int.reduceSub, Int.reduceToNat, UInt8.reduceToNat, Go.IntWalk.i64_in, h0, h3, h7, h28, h29, h30]
            exact Again.mk (i + 1) (by simp -implicitDefEqProofs only [go_sem, tys, regs0, Nat.reduceEqDiff, Nat.reduceAdd, Nat.reduceLeDiff, Nat.reduceLT, Nat.reduceMul, Int.natCast_one, Int.natCast_zero, Int.reduceEq, Int.reduceLT, Int.reduceLE, Int.reduceAdd, Int.reduceSub, Int.reduceToNat, UInt8.reduceToNat, h0, h3, h7, h28, h29, h30]; exact rfl) ⟨hG3, by omega⟩ (by omega)
          · simp only [decide_eq_false_iff_not] at g2
            rw [if_neg g2] at hpm hpe
            have hx : 0 ≤ p.at_ ∧ 1 ≤ p.long ∧ p.at_ + p.long ≤ s.length := by
              split at hpe
              · omega
              · omega
            have hw : IntKind.i64.wrap (p.at_ + p.long) = p.at_ + p.long := Go.IntWalk.i64_in _ (by omega)
            simp -implicitDefEqProofs only [go_sem, tys, regs0, Nat.reduceEqDiff, Nat.reduceAdd, Nat.reduceLeDiff, Nat.reduceLT, Nat.reduceMul, Int.natCast_one, Int.natCast_zero, Int.reduceEq, Int.reduceLT, Int.reduceLE, Int.reduceAdd, Int.reduceSub, Int.reduceToNat, UInt8.reduceToNat, h0, h3, h7, h28, h29, h30, hw]
            refine ⟨⟨hx.1, by omega, hx.2.2⟩, ?_⟩
            refine writeString_k hB2 (by rw [← hpm]; omega) (fun G3 hG3 _ => ?_)
            rw [← hpm, ← hms] at hG3
            simp -implicitDefEqProofs (disch := omega) only [go_sem, tys, regs0, Nat.reduceEqDiff, Nat.reduceAdd, Nat.reduceLeDiff, Nat.reduceLT, Nat.reduceMul, Int.natCast_one, Int.natCast_zero, Int.reduceEq, Int.reduceLT, Int.reduceLE, Int.reduceAdd, Int.reduceSub, Int.reduceToNat, UInt8.reduceToNat, Go.IntWalk.i64_in, h0, h3, h7, h28, h29, h30]
            exact Again.mk (i + 1) (by simp -implicitDefEqProofs only [go_sem, tys, regs0, Nat.reduceEqDiff, Nat.reduceAdd, Nat.reduceLeDiff, Nat.reduceLT, Nat.reduceMul, Int.natCast_one, Int.natCast_zero, Int.reduceEq, Int.reduceLT, Int.reduceLE, Int.reduceAdd, Int.reduceSub, Int.reduceToNat, UInt8.reduceToNat, h0, h3, h7, h28, h29, h30]; exact rfl) ⟨hG3, by omega⟩ (by omega)
        · simp only [decide_eq_false_iff_not] at g
          have e : i = d.ps.length := by omega
          subst e
          rw [List.take_length] at hB
          have hBd := hB.sub _ _ hB0
          have hS : H.Sub G := fun j o hj => hB.sub j o (hF j o hj)
          simp -implicitDefEqProofs only [go_sem, tys, regs0, Nat.reduceEqDiff, Nat.reduceAdd, Nat.reduceLeDiff, Nat.reduceLT, Nat.reduceMul, Int.natCast_one, Int.natCast_zero, Int.reduceEq, Int.reduceLT, Int.reduceLE, Int.reduceAdd, Int.reduceSub, Int.reduceToNat, UInt8.reduceToNat, h0, h3, h7, h28, h29, h30]
          rw [acode_tree (t := ot14) rfl (by rfl)]
          by_cases c3 : sumOf (madeV s d.ps) = d.nsum
          · have k3 : decide (¬ sumOf (madeV s d.ps) = d.nsum) = false := decide_eq_false (by simpa using c3)
            rw [if_neg (by simpa using c3)]
            simp -implicitDefEqProofs only [go_sem, tys, regs0, Nat.reduceEqDiff, Nat.reduceAdd, Nat.reduceLeDiff, Nat.reduceLT, Nat.reduceMul, Int.natCast_one, Int.natCast_zero, Int.reduceEq, Int.reduceLT, Int.reduceLE, Int.reduceAdd, Int.reduceSub, Int.reduceToNat, UInt8.reduceToNat, h0, h3, h7, h28, h29, h30, ot14, stripO, hBd]
            refine ⟨?_, ?_⟩
            all_goals
              refine bldString_k hB (by omega) (fun e => by cases e) ?_
              simp -implicitDefEqProofs only [go_sem, tys, regs0, Nat.reduceEqDiff, Nat.reduceAdd, Nat.reduceLeDiff, Nat.reduceLT, Nat.reduceMul, Int.natCast_one, Int.natCast_zero, Int.reduceEq, Int.reduceLT, Int.reduceLE, Int.reduceAdd, Int.reduceSub, Int.reduceToNat, UInt8.reduceToNat, h0, h3, h7, h28, h29, h30, stripO, puP5, puM, puN, pu0, sSum_eq, hR, hml, hBd, k3]
              refine bldString_k hB (by omega) (fun e => by cases e) ?_
              simp -implicitDefEqProofs only [go_sem, tys, regs0, Nat.reduceEqDiff, Nat.reduceAdd, Nat.reduceLeDiff, Nat.reduceLT, Nat.reduceMul, Int.natCast_one, Int.natCast_zero, Int.reduceEq, Int.reduceLT, Int.reduceLE, Int.reduceAdd, Int.reduceSub, Int.reduceToNat, UInt8.reduceToNat, h0, h3, h7]
              exact Done.drop hS ⟨rfl, rfl⟩
          · have k3 : decide (¬ sumOf (madeV s d.ps) = d.nsum) = true := decide_eq_true c3
            rw [if_pos c3]
            simp -implicitDefEqProofs only [go_sem, tys, regs0, Nat.reduceEqDiff, Nat.reduceAdd, Nat.reduceLeDiff, Nat.reduceLT, Nat.reduceMul, Int.natCast_one, Int.natCast_zero, Int.reduceEq, Int.reduceLT, Int.reduceLE, Int.reduceAdd, Int.reduceSub, Int.reduceToNat, UInt8.reduceToNat, h0, h3, h7, h28, h29, h30, ot14, stripO, hBd]
            refine ⟨?_, ?_⟩
            all_goals
              refine bldString_k hB (by omega) (fun e => by cases e) ?_
              simp -implicitDefEqProofs only [go_sem, tys, regs0, Nat.reduceEqDiff, Nat.reduceAdd, Nat.reduceLeDiff, Nat.reduceLT, Nat.reduceMul, Int.natCast_one, Int.natCast_zero, Int.reduceEq, Int.reduceLT, Int.reduceLE, Int.reduceAdd, Int.reduceSub, Int.reduceToNat, UInt8.reduceToNat, h0, h3, h7, h28, h29, h30, stripO, puP5, puM, puN, pu0, sSum_eq, hR, hml, hBd, k3]
              exact Done.drop hS ⟨rfl, rfl⟩
    · have k2 : decide (¬ sumOf s = d.osum) = true := decide_eq_true c2
      rw [if_pos (.inr c2)] at hv
      rw [hv]
      refine ACalls.of_code (X := { pure := puP5, ms := fun t => decide (t = 7), tree := fun n => if n = 14 then some ot14 else none }) puP5_ok Tryd.func8 (by kernel_rfl) rfl (by kernel_rfl) (Nat.le_of_ble_eq_true rfl) ?_
      simp -implicitDefEqProofs only [go_sem, tys, regs0, Nat.reduceEqDiff, Nat.reduceAdd, Nat.reduceLeDiff, Nat.reduceLT, Nat.reduceMul, Int.natCast_one, Int.natCast_zero, Int.reduceEq, Int.reduceLT, Int.reduceLE, Int.reduceAdd, Int.reduceSub, Int.reduceToNat, UInt8.reduceToNat, Tryd.f8, encDl]
      with_reducible refine nwC_intro fun idd hidd => ?_
      simp -implicitDefEqProofs only [go_sem, tys, regs0, Nat.reduceEqDiff, Nat.reduceAdd, Nat.reduceLeDiff, Nat.reduceLT, Nat.reduceMul, Int.natCast_one, Int.natCast_zero, Int.reduceEq, Int.reduceLT, Int.reduceLE, Int.reduceAdd, Int.reduceSub, Int.reduceToNat, UInt8.reduceToNat, puP5, hc]
      rw [acode_draw]
      simp -implicitDefEqProofs only [go_sem, tys, regs0, Nat.reduceEqDiff, Nat.reduceAdd, Nat.reduceLeDiff, Nat.reduceLT, Nat.reduceMul, Int.natCast_one, Int.natCast_zero, Int.reduceEq, Int.reduceLT, Int.reduceLE, Int.reduceAdd, Int.reduceSub, Int.reduceToNat, UInt8.reduceToNat, puP5, puM, puN, pu0, sSum_eq, hR, hs, k1, k2]
      exact Done.drop1 hidd ⟨rfl, rfl⟩
  · have k1 : decide (¬ (s.length : Int) = d.old) = true := decide_eq_true c1
    rw [if_pos (.inl c1)] at hv
    rw [hv]
    refine ACalls.of_code (X := { pure := puP5, ms := fun t => decide (t = 7), tree := fun n => if n = 14 then some ot14 else none }) puP5_ok Tryd.func8 (by kernel_rfl) rfl (by kernel_rfl) (Nat.le_of_ble_eq_true rfl) ?_
    simp -implicitDefEqProofs only [go_sem, tys, regs0, Nat.reduceEqDiff, Nat.reduceAdd, Nat.reduceLeDiff, Nat.reduceLT, Nat.reduceMul, Int.natCast_one, Int.natCast_zero, Int.reduceEq, Int.reduceLT, Int.reduceLE, Int.reduceAdd, Int.reduceSub, Int.reduceToNat, UInt8.reduceToNat, Tryd.f8, encDl]
    with_reducible refine nwC_intro fun idd hidd => ?_
    simp -implicitDefEqProofs only [go_sem, tys, regs0, Nat.reduceEqDiff, Nat.reduceAdd, Nat.reduceLeDiff, Nat.reduceLT, Nat.reduceMul, Int.natCast_one, Int.natCast_zero, Int.reduceEq, Int.reduceLT, Int.reduceLE, Int.reduceAdd, Int.reduceSub, Int.reduceToNat, UInt8.reduceToNat, puP5, hc]
    rw [acode_draw]
    simp -implicitDefEqProofs only [go_sem, tys, regs0, Nat.reduceEqDiff, Nat.reduceAdd, Nat.reduceLeDiff, Nat.reduceLT, Nat.reduceMul, Int.natCast_one, Int.natCast_zero, Int.reduceEq, Int.reduceLT, Int.reduceLE, Int.reduceAdd, Int.reduceSub, Int.reduceToNat, UInt8.reduceToNat, puP5, puM, puN, pu0, sSum_eq, hR, hs, k1]
    exact Done.drop1 hidd ⟨rfl, rfl⟩
end Go.Proofs

/- Walks: the law RawDeltas. -/
namespace Go.Proofs
open Go Go.Abs
set_option linter.unusedSimpArgs false
set_option linter.unusedVariables false
set_option maxRecDepth 20000
def sSame : List AV → Option AV := fn2 (Rd.agg decDl) (Rd.agg decDl) fun a b => if a.1.ps.length ≤ 1099511627776 then some (.bool (decide (a.1 = b.1))) else none
theorem sSame_eq (a b : DeltaV) (t t' : Tail) (h : a.ps.length ≤ 1099511627776) : sSame [.agg (encDl a t), .agg (encDl b t')] = some (.bool (decide (a = b))) := by
  unfold sSame
  rw [fn2_eq]
  show (decDl (encDl a t)).bind _ = _
  rw [decDl_enc]
  show (decDl (encDl b t')).bind _ = _
  rw [decDl_enc]
  simp only [Option.bind_some, if_pos h]
theorem sSame_ok : ∀ xs v, sSame xs = some v → ∀ H, ACalls Tryd.prog 14 xs H fun x H' => x = v ∧ H' = H := by
  intro xs v hv H
  obtain ⟨x, y, p, q, rfl, h1, h2, h3⟩ := fn2_some hv
  obtain ⟨h4, rfl⟩ := some_if h3
  cases Rd.agg_some (fun _ _ => decDl_some) h1
  cases Rd.agg_some (fun _ _ => decDl_some) h2
  exact sameDelta_calls p.1 q.1 p.2 q.2 H h4
def vPD (d : DeltaV) (t : Tail) : Option AV := if dlR d ∧ deltaE d = 0 then some (.str (printB d)) else none
def puF : Pures := putP 4 sLandD (putP 40 sSteps (putP 8 (sTD vApply) (putP 14 sSame puP8)))
theorem puF_ok : PuOK Tryd.prog puF := .put (.put (.put (.put (puP8_ok) sSame_ok) (sTD_ok apply_calls)) (sSteps_ok fun l t old H h1 h2 => checkSteps_calls l t old H h1.1 h1.2 h2)) sLandD_ok
def Mid3 (s : Bytes) (t : Tail) (H : Heap) (id : Nat) (r : Regs) (G : Heap) : Prop := ∃ d, dlR d ∧ agrees r [(0, .str s), (5, .ptr id 0)] ∧ G id = some (.cells (encDl d t)) ∧ H.Sub G
theorem pcSum_nonneg : ∀ {l : List PieceV}, (∀ p ∈ l, 0 ≤ pcSize p) → 0 ≤ pcSum l
  | [], _ => by simp [pcSum]
  | p :: l, h => by
    have h1 := h p (List.mem_cons_self ..)
    have h2 := pcSum_nonneg (l := l) fun q hq => h q (List.mem_cons_of_mem _ hq)
    unfold pcSum at h2 ⊢
    rw [List.map_cons, List.sum_cons]
    omega
end Go.Proofs
