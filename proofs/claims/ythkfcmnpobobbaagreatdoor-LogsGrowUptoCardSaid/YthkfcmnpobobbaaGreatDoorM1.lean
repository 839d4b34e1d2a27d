/-
  Walks and plain laws, part 1.
-/
import Derived.Lib.Bytealg
import Derived.Lib.AtoiTie
import Derived.Lib.ItoaNum
import Derived.Lib.SlTrimSet
import Derived.Test.YthkfcmnpobobbaaGreatDoorAbs4
import Derived.Test.YthkfcmnpobobbaaGreatDoorTy
import Derived.IntWalk
/- What strings are cut into; signs and names: plain Lean, no program. -/
namespace Go.Proofs
set_option linter.unusedSimpArgs false
set_option linter.unusedVariables false
abbrev Bytes := List UInt8
def splitB (c : UInt8) : Bytes → List Bytes
  | [] => [[]]
  | b :: l => if b = c then [] :: splitB c l else
    match splitB c l with
    | h :: t => (b :: h) :: t
    | [] => [[b]]
theorem splitB_ne (c : UInt8) (l : Bytes) : splitB c l ≠ [] := by
  cases l with
  | nil => simp [splitB]
  | cons b l =>
    unfold splitB
    split
    · simp
    · split <;> simp
theorem splitB_none {c : UInt8} : ∀ {l : Bytes}, l.count c = 0 → splitB c l = [l]
  | [], _ => rfl
  | b :: l, h => by
    rw [List.count_cons] at h
    have hb : ¬ b = c := by intro e; subst e; simp at h
    have hl : l.count c = 0 := by omega
    unfold splitB
    rw [if_neg hb, splitB_none hl]
theorem indexByte_none {c : UInt8} : ∀ {l : Bytes}, Lib.indexByte l c = -1 ↔ l.count c = 0
  | [] => by simp [Lib.indexByte]
  | b :: l => by
    have ih := indexByte_none (c := c) (l := l)
    have hge := Lib.indexByte_ge l c
    unfold Lib.indexByte
    rw [List.count_cons]
    by_cases hb : (b == c) = true
    · rw [if_pos hb, if_pos hb]; omega
    · rw [if_neg hb, if_neg hb]
      by_cases h2 : Lib.indexByte l c = -1
      · simp [h2, ih.1 h2]
      · have : ¬ l.count c = 0 := fun e => h2 (ih.2 e)
        have hb2 : (Lib.indexByte l c == -1) = false := by simpa using h2
        rw [hb2]
        simp only [Bool.false_eq_true, if_false]
        omega
theorem indexByte_some {c : UInt8} : ∀ {l : Bytes} {m : Nat}, Lib.indexByte l c = (m : Int) → m < l.length ∧ splitB c l = l.take m :: splitB c (l.drop (m + 1)) ∧ l.count c = (l.drop (m + 1)).count c + 1
  | [], m, h => by simp [Lib.indexByte] at h
  | b :: l, m, h => by
    unfold Lib.indexByte at h
    by_cases hb : (b == c) = true
    · rw [if_pos hb] at h
      have : m = 0 := by omega
      subst this
      have hb' : b = c := by simpa using hb
      subst hb'
      refine ⟨by simp, by simp [splitB], by simp⟩
    · rw [if_neg hb] at h
      have hge := Lib.indexByte_ge l c
      by_cases h2 : Lib.indexByte l c = -1
      · rw [h2] at h; simp at h
      · have hb2 : (Lib.indexByte l c == -1) = false := by simpa using h2
        rw [hb2] at h
        simp only [Bool.false_eq_true, if_false] at h
        obtain ⟨k, rfl⟩ : ∃ k, m = k + 1 := ⟨m - 1, by omega⟩
        obtain ⟨i1, i2, i3⟩ := indexByte_some (c := c) (l := l) (m := k) (by omega)
        have hb' : ¬ b = c := by simpa using hb
        refine ⟨by simp; omega, ?_, ?_⟩
        · rw [splitB, if_neg hb', i2]; simp
        · rw [List.count_cons, if_neg hb, i3]; simp
theorem splitB_len {c : UInt8} : ∀ (l : Bytes), (splitB c l).length = l.count c + 1
  | [] => by simp [splitB]
  | b :: l => by
    have ih := splitB_len (c := c) l
    unfold splitB
    rw [List.count_cons]
    by_cases hb : b = c
    · simp [hb, ih]
    · simp only [hb, if_false, beq_iff_eq]
      cases hs : splitB c l with
      | nil => exact absurd hs (splitB_ne c l)
      | cons h t => rw [hs] at ih; simpa using ih
/-- Each part of a text is no longer than it. -/
theorem splitB_mem {c : UInt8} : ∀ (l : Bytes), ∀ p ∈ splitB c l, p.length ≤ l.length
  | [], p, h => by simp [splitB] at h; simp [h]
  | b :: l, p, h => by
    have ih := splitB_mem (c := c) l
    unfold splitB at h
    split at h
    · rcases List.mem_cons.1 h with rfl | h
      · simp
      · have := ih p h; simp; omega
    · split at h
      · rename_i hd t hs
        rw [hs] at ih
        rcases List.mem_cons.1 h with rfl | h
        · have := ih hd (by simp); simp; omega
        · have := ih p (by simp [h]); simp; omega
      · rename_i hs; exact absurd hs (splitB_ne c l)
end Go.Proofs

/- Signs, names, paths, values: plain Lean, no program. -/
namespace Go.Proofs
set_option linter.unusedSimpArgs false
set_option linter.unusedVariables false
def isSm (c : Int) : Bool := decide (97 ≤ c) && decide (c ≤ 122)
def isDg (c : Int) : Bool := decide (48 ≤ c) && decide (c ≤ 57)
def isNm (c : Int) : Bool := isSm c || isDg c || decide (c = 45) || decide (c = 46)
def isPt (c : Int) : Bool := isSm c || (decide (65 ≤ c) && decide (c ≤ 90)) || isDg c || decide (c = 45) || decide (c = 46) || decide (c = 95)
def isVl (c : Int) : Bool := decide (32 ≤ c) && decide (c ≤ 126)
def allB (p : Int → Bool) (s : Bytes) : Bool := s.all fun b => p (b.toNat : Int)
def sEach (p : Int → Bool) (s : Bytes) (most : Int) : Bool := allB p s && decide (s ≠ []) && decide ((s.length : Int) ≤ most)
def nameB (s : Bytes) : Bool := sEach isNm s 40 && isSm ((s.headD 0).toNat : Int)
def partB (s : Bytes) : Bool := sEach isPt s 40 && decide (s ≠ [46]) && decide (s ≠ [46, 46])
def pathB (s : Bytes) : Bool := (splitB 47 s).all partB && decide ((s.length : Int) ≤ 200)
def valueB (s : Bytes) : Bool := decide (s = []) || sEach isVl s 1000
theorem allB_succ {p : Int → Bool} {s : Bytes} {i : Nat} {c : UInt8} (h : allB p (s.take i) = true) (hc : s[i]? = some c) (hp : p (c.toNat : Int) = true) : allB p (s.take (i + 1)) = true := by
  unfold allB at *
  rw [List.take_add_one, hc]
  simp [List.all_append, h, hp]
theorem allB_false {p : Int → Bool} {s : Bytes} {i : Nat} {c : UInt8} (hc : s[i]? = some c) (hp : p (c.toNat : Int) = false) : allB p s = false := by
  unfold allB
  rw [List.all_eq_false]
  exact ⟨c, List.mem_of_getElem? hc, by simp [hp]⟩
theorem sEach_false {p : Int → Bool} {s : Bytes} {i : Nat} {c : UInt8} {n : Int} (hc : s[i]? = some c) (hp : p (c.toNat : Int) = false) : sEach p s n = false := by
  unfold sEach; rw [allB_false hc hp]; simp
theorem head_of {s : Bytes} {c : UInt8} (h : s[0]? = some c) : s.headD 0 = c := by
  cases s with
  | nil => cases h
  | cons b l => simpa using h
theorem not_nil_of {s : Bytes} {i : Nat} {c : UInt8} (h : s[i]? = some c) : s ≠ [] := by rintro rfl; simp at h
end Go.Proofs

/- Versions: plain Lean, no program. -/
namespace Go.Proofs
set_option linter.unusedSimpArgs false
set_option linter.unusedVariables false
theorem dropAt {α : Type} {l : List α} {i : Nat} {x : α} (h : l[i]? = some x) : l.drop i = x :: l.drop (i + 1) := by
  obtain ⟨hi, hx⟩ := List.getElem?_eq_some_iff.1 h
  rw [List.drop_eq_getElem_cons hi, hx]
structure VerV where
  major : Int
  minor : Int
  patch : Int
  early : Bytes
  deriving DecidableEq
def VerV.zero : VerV := ⟨0, 0, 0, []⟩
def isWd (c : Int) : Bool := isSm c || isDg c
def numB (w : Bytes) : Bool := sEach isDg w 10
def wordB (w : Bytes) : Bool := sEach isWd w 10 && !(numB w && decide (w.head? = some 48) && decide (w ≠ [48]))
def earlyB (s : Bytes) : Bool := (splitB 46 s).all wordB && decide ((s.length : Int) ≤ 40)
def outI (n lo hi : Int) : Bool := decide (n < lo) || decide (hi < n)
def verOut (v : VerV) : Bool := outI v.major 0 999999 || outI v.minor 0 999999 || outI v.patch 0 999999
def verErr (v : VerV) : Int := if verOut v = true then 3 else if v.early ≠ [] ∧ earlyB v.early = false then 2 else 0
/-! What the reference asks of signs. -/
def dgS : Bytes := [48, 49, 50, 51, 52, 53, 54, 55, 56, 57]
def wdS : Bytes := [97, 98, 99, 100, 101, 102, 103, 104, 105, 106, 107, 108, 109, 110, 111, 112, 113, 114, 115, 116, 117, 118, 119, 120, 121, 122, 48, 49, 50, 51, 52, 53, 54, 55, 56, 57]
def ofB (s cs : Bytes) : Bool := s.all fun b => cs.contains b
theorem u8_all {p : UInt8 → Prop} (h : ∀ n : Fin 256, p (UInt8.ofNat n.val)) (b : UInt8) : p b := by
  have := h ⟨b.toNat, b.toNat_lt⟩
  simpa using this
theorem dgS_has (b : UInt8) : dgS.contains b = isDg (b.toNat : Int) := u8_all (p := fun b => dgS.contains b = isDg (b.toNat : Int)) (by decide +kernel) b
theorem wdS_has (b : UInt8) : wdS.contains b = isWd (b.toNat : Int) := u8_all (p := fun b => wdS.contains b = isWd (b.toNat : Int)) (by decide +kernel) b
theorem ofB_dg (s : Bytes) : ofB s dgS = allB isDg s := by unfold ofB allB; simp only [dgS_has]
theorem ofB_wd (s : Bytes) : ofB s wdS = allB isWd s := by unfold ofB allB; simp only [wdS_has]
theorem dropWhile_all {α : Type} {p : α → Bool} : ∀ {l : List α}, l.all p = true → l.dropWhile p = []
  | [], _ => rfl
  | a :: l, h => by
    rw [List.all_cons, Bool.and_eq_true] at h
    rw [List.dropWhile_cons, if_pos h.1]
    exact dropWhile_all h.2
theorem trim_of {s cs : Bytes} (h : ofB s cs = true) : Lib.trimS s cs = [] := by
  unfold ofB at h
  have h1 : s.reverse.all (fun b => cs.contains b) = true := by rw [List.all_reverse]; exact h
  simp only [Lib.trimS, Lib.trimLeftS, Lib.trimRightS]
  first
    | (rw [dropWhile_all h1]; rfl)
    | (rw [dropWhile_all h]; rfl)
    | simp [dropWhile_all h, dropWhile_all h1]
/-- A word, as the reference looks at it. -/
theorem wordB_ref (w : Bytes) : wordB w = !(decide (w = []) || decide (10 < w.length) || !ofB w wdS || (ofB w dgS && decide (1 < w.length) && decide (w.head? = some 48))) := by
  rw [ofB_dg, ofB_wd]
  unfold wordB numB sEach
  cases w with
  | nil => simp
  | cons b l =>
    simp only [List.head?_cons, List.length_cons]
    by_cases h1 : (l.length : Int) + 1 ≤ 10
    · have h2 : ¬ 10 < l.length + 1 := by omega
      have h1' : ((l.length + 1 : Nat) : Int) ≤ 10 := by omega
      have h3 : (0 < l.length) ↔ l ≠ [] := by cases l <;> simp
      cases e1 : allB isWd (b :: l) <;> cases e2 : allB isDg (b :: l) <;> by_cases e3 : b = 48 <;> by_cases e4 : l = [] <;> simp [h1, h1', h2, e3, e4, h3]
    · have h2 : 10 < l.length + 1 := by omega
      have h1' : ¬ ((l.length + 1 : Nat) : Int) ≤ 10 := by omega
      simp [h1, h1', h2]
/-! ### Order -/
def cmpI (x y : Int) : Int := if x < y then -1 else if y < x then 1 else 0
def orI : List Int → Int
  | [] => 0
  | x :: l => if x = 0 then orI l else x
def wordCmp (a b : Bytes) : Int := if (numB a && numB b) = true then (if a.length = b.length then Lib.compareBytes a b else cmpI a.length b.length) else if numB a = true then -1 else if numB b = true then 1 else Lib.compareBytes a b
def wordsCmp : List Bytes → List Bytes → Int
  | [], [] => 0
  | [], _ :: _ => -1
  | _ :: _, [] => 1
  | x :: xs, y :: ys => if wordCmp x y = 0 then wordsCmp xs ys else wordCmp x y
def earlyCmp (a b : Bytes) : Int := if a = b then 0 else if a = [] then 1 else if b = [] then -1 else wordsCmp (splitB 46 a) (splitB 46 b)
def orderV (a b : VerV) : Int := orI [cmpI a.major b.major, cmpI a.minor b.minor, cmpI a.patch b.patch, earlyCmp a.early b.early]
theorem compareBytes_self : ∀ a : Bytes, Lib.compareBytes a a = 0
  | [] => rfl
  | a :: l => by
    simp only [Lib.compareBytes]
    rw [if_neg (UInt8.lt_irrefl a), if_neg (UInt8.lt_irrefl a)]
    exact compareBytes_self l
theorem wordCmp_self (a : Bytes) : wordCmp a a = 0 := by
  unfold wordCmp
  cases numB a <;> simp [compareBytes_self]
theorem wordsCmp_self : ∀ l : List Bytes, wordsCmp l l = 0
  | [] => rfl
  | a :: l => by rw [wordsCmp, if_pos (wordCmp_self a), wordsCmp_self l]
/-- The value of digits. -/
def decV (s : Bytes) : Nat := (Lib.decFrom 0 s).getD 0
theorem digit_ok {b : UInt8} (h : isDg (b.toNat : Int) = true) : Lib.digitVal b = some (b.toNat - 48) := by
  unfold isDg at h
  rw [Bool.and_eq_true, decide_eq_true_eq, decide_eq_true_eq] at h
  unfold Lib.digitVal
  rw [if_pos (by omega)]
theorem decFrom_ok : ∀ (s : Bytes) (acc : Nat), allB isDg s = true → ∃ n, Lib.decFrom acc s = some n
  | [], acc, _ => ⟨acc, rfl⟩
  | b :: l, acc, h => by
    unfold allB at h
    rw [List.all_cons, Bool.and_eq_true] at h
    obtain ⟨n, hn⟩ := decFrom_ok l (acc * 10 + (b.toNat - 48)) h.2
    exact ⟨n, by rw [Lib.decFrom, digit_ok h.1]; exact hn⟩
theorem decFrom_low : ∀ (s : Bytes) (acc n : Nat), Lib.decFrom acc s = some n → acc * 10 ^ s.length ≤ n
  | [], acc, n, h => by simp only [Lib.decFrom, Option.some.injEq] at h; simp [h]
  | b :: l, acc, n, h => by
    simp only [Lib.decFrom] at h
    split at h
    · rename_i d hd
      have := decFrom_low l _ n h
      rw [List.length_cons, Nat.pow_succ, Nat.mul_comm (10 ^ l.length) 10, ← Nat.mul_assoc]
      exact Nat.le_trans (Nat.mul_le_mul_right _ (by omega)) this
    · cases h
/-- Digits of one length: their values compare as they do. -/
theorem decFrom_cmp : ∀ (s t : Bytes) (p q m n : Nat), s.length = t.length → Lib.decFrom p s = some m → Lib.decFrom q t = some n → (p < q → m < n) ∧ (q < p → n < m) ∧ (p = q → cmpI m n = Lib.compareBytes s t)
  | [], [], p, q, m, n, _, h1, h2 => by
    simp only [Lib.decFrom, Option.some.injEq] at h1 h2
    subst h1; subst h2
    exact ⟨fun h => h, fun h => h, fun h => by subst h; simp [cmpI, Lib.compareBytes]⟩
  | [], b :: t, _, _, _, _, h, _, _ => by simp at h
  | a :: s, [], _, _, _, _, h, _, _ => by simp at h
  | a :: s, b :: t, p, q, m, n, hl, h1, h2 => by
    simp only [Lib.decFrom] at h1 h2
    cases ha : Lib.digitVal a with
    | none => rw [ha] at h1; cases h1
    | some d =>
      cases hb : Lib.digitVal b with
      | none => rw [hb] at h2; cases h2
      | some e =>
        rw [ha] at h1
        rw [hb] at h2
        simp only at h1 h2
        obtain ⟨a1, a2, a3⟩ := Lib.digitVal_eq ha
        obtain ⟨b1, b2, b3⟩ := Lib.digitVal_eq hb
        obtain ⟨i1, j1, i2⟩ := decFrom_cmp s t _ _ m n (by simpa using hl) h1 h2
        refine ⟨fun h => i1 (by omega), fun h => j1 (by omega), fun h => ?_⟩
        subst h
        simp only [Lib.compareBytes]
        by_cases c1 : a < b
        · have c1' : a.toNat < b.toNat := UInt8.lt_iff_toNat_lt.1 c1
          rw [if_pos c1]
          have := i1 (by omega)
          unfold cmpI
          rw [if_pos (by omega)]
        rw [if_neg c1]
        by_cases c2 : b < a
        · have c2' : b.toNat < a.toNat := UInt8.lt_iff_toNat_lt.1 c2
          rw [if_pos c2]
          have := j1 (by omega)
          unfold cmpI
          rw [if_neg (by omega), if_pos (by omega)]
        rw [if_neg c2]
        have e : a = b := UInt8.le_antisymm (UInt8.not_lt.1 c2) (UInt8.not_lt.1 c1)
        subst e
        exact i2 (by omega)
theorem numB_ok {w : Bytes} (h : numB w = true) : allB isDg w = true ∧ w ≠ [] ∧ w.length ≤ 10 := by
  unfold numB sEach at h
  simp only [Bool.and_eq_true, decide_eq_true_eq] at h
  exact ⟨h.1.1, h.1.2, by omega⟩
theorem wordB_ok {w : Bytes} (h : wordB w = true) : allB isWd w = true ∧ w ≠ [] ∧ w.length ≤ 10 := by
  unfold wordB sEach at h
  simp only [Bool.and_eq_true, decide_eq_true_eq] at h
  exact ⟨h.1.1.1, h.1.1.2, by omega⟩
theorem numB_word {w : Bytes} (h : wordB w = true) : numB w = ofB w dgS := by
  obtain ⟨h1, h2, h3⟩ := wordB_ok h
  have h3' : (w.length : Int) ≤ 10 := by omega
  rw [ofB_dg]
  unfold numB sEach
  simp [h2, h3']
/-- A numeral that is a word has no superfluous 0. -/
theorem num_head {w : Bytes} (h : wordB w = true) (hn : numB w = true) : w.head? = some 48 → w = [48] := by
  unfold wordB at h
  rw [hn] at h
  simp only [Bool.and_eq_true, Bool.true_and, Bool.not_eq_true', Bool.and_eq_false_iff, decide_eq_false_iff_not, Decidable.not_not] at h
  intro e
  rcases h.2 with h2 | h2
  · exact absurd e h2
  · exact Decidable.not_not.1 (by simpa using h2)
theorem decV_eq {w : Bytes} (h : allB isDg w = true) : Lib.decFrom 0 w = some (decV w) := by
  obtain ⟨n, hn⟩ := decFrom_ok w 0 h
  unfold decV
  rw [hn]
  rfl
theorem decV_lt {w : Bytes} (h : allB isDg w = true) : decV w < 10 ^ w.length := by
  have := Lib.decFrom_lt w 0 _ (decV_eq h)
  simpa using this
theorem decV_ge {b : UInt8} {w : Bytes} (h : allB isDg (b :: w) = true) (hb : b ≠ 48) : 10 ^ w.length ≤ decV (b :: w) := by
  have e := decV_eq h
  unfold allB at h
  rw [List.all_cons, Bool.and_eq_true] at h
  rw [Lib.decFrom, digit_ok h.1] at e
  have h1 := decFrom_low w _ _ e
  have h2 := h.1
  unfold isDg at h2
  rw [Bool.and_eq_true, decide_eq_true_eq, decide_eq_true_eq] at h2
  have h3 : b.toNat ≠ 48 := fun e => hb (by rw [← UInt8.toNat_inj]; exact e)
  refine Nat.le_trans ?_ h1
  have h4 : 1 ≤ 0 * 10 + (b.toNat - 48) := by omega
  calc 10 ^ w.length = 1 * 10 ^ w.length := by rw [Nat.one_mul]
    _ ≤ _ := Nat.mul_le_mul_right _ h4
theorem num_len_lt {a b : Bytes} (ha : wordB a = true) (hna : numB a = true) (hb : wordB b = true) (hnb : numB b = true) (hl : a.length < b.length) : decV a < decV b := by
  obtain ⟨a1, a2, a3⟩ := numB_ok hna
  obtain ⟨b1, b2, b3⟩ := numB_ok hnb
  cases b with
  | nil => exact absurd rfl b2
  | cons x l =>
    have hx : x ≠ 48 := fun e => by
      have := num_head hb hnb (by rw [e]; rfl)
      rw [this] at hl
      cases a with
      | nil => exact a2 rfl
      | cons y m => simp at hl
    have h1 := decV_lt a1
    have h2 := decV_ge b1 hx
    have h3 : 10 ^ a.length ≤ 10 ^ l.length := Nat.pow_le_pow_right (by decide) (by simp at hl; omega)
    omega
/-- Numerals compare by their values. -/
theorem num_cmp {a b : Bytes} (ha : wordB a = true) (hna : numB a = true) (hb : wordB b = true) (hnb : numB b = true) :
    cmpI (decV a) (decV b) = if a.length = b.length then Lib.compareBytes a b else cmpI a.length b.length := by
  by_cases hl : a.length = b.length
  · rw [if_pos hl]
    exact (decFrom_cmp a b 0 0 _ _ hl (decV_eq (numB_ok hna).1) (decV_eq (numB_ok hnb).1)).2.2 rfl
  · rw [if_neg hl]
    rcases Nat.lt_or_ge a.length b.length with h | h
    · have := num_len_lt ha hna hb hnb h
      unfold cmpI
      rw [if_pos (by omega), if_pos (by omega)]
    · have := num_len_lt hb hnb ha hna (by omega)
      unfold cmpI
      rw [if_neg (by omega), if_pos (by omega), if_neg (by omega), if_pos (by omega)]
/-- What Atoi makes of a numeral. -/
theorem isDg_sign {b : UInt8} (h : isDg (b.toNat : Int) = true) : (b == 45) = false ∧ (b == 43) = false := by
  unfold isDg at h
  rw [Bool.and_eq_true, decide_eq_true_eq, decide_eq_true_eq] at h
  constructor
  · rw [beq_eq_false_iff_ne]; rintro rfl; simp at h
  · rw [beq_eq_false_iff_ne]; rintro rfl; simp at h
theorem atoi_dec {w : Bytes} (h : allB isDg w = true) (h0 : w ≠ []) : Lib.atoi w = some (decV w : Int) := by
  cases w with
  | nil => exact absurd rfl h0
  | cons b l =>
    have h' := h
    unfold allB at h'
    rw [List.all_cons, Bool.and_eq_true] at h'
    obtain ⟨s1, s2⟩ := isDg_sign h'.1
    simp only [Lib.atoi, s1, s2, Bool.false_eq_true, if_false]
    unfold Lib.decNat
    rw [if_neg (by simp), decV_eq h]
    rfl
theorem atoiAll_dec {w : Bytes} (h : allB isDg w = true) (h0 : w ≠ []) (hl : w.length ≤ 18) : Lib.atoiAll w = .ok (decV w : Int) := by
  rw [Lib.atoiAll_short w hl, atoi_dec h h0]
  rfl
/-- A word, compared as the reference does it. -/
theorem wordCmp_ref {a b : Bytes} (ha : wordB a = true) (hb : wordB b = true) :
    wordCmp a b = if (ofB a dgS && ofB b dgS) = true then cmpI (decV a) (decV b) else if ofB a dgS = true then -1 else if ofB b dgS = true then 1 else Lib.compareBytes a b := by
  rw [← numB_word ha, ← numB_word hb]
  unfold wordCmp
  by_cases h : (numB a && numB b) = true
  · rw [if_pos h, if_pos h]
    rw [Bool.and_eq_true] at h
    exact (num_cmp ha h.1 hb h.2).symm
  · rw [if_neg h, if_neg h]
theorem early_words {s : Bytes} (h : earlyB s = true) : (∀ w ∈ splitB 46 s, wordB w = true) ∧ s.length ≤ 40 := by
  unfold earlyB at h
  rw [Bool.and_eq_true, decide_eq_true_eq, List.all_eq_true] at h
  exact ⟨h.1, by omega⟩
theorem earlyCmp_ref {a b : Bytes} (ha : a ≠ []) (hb : b ≠ []) : earlyCmp a b = wordsCmp (splitB 46 a) (splitB 46 b) := by
  unfold earlyCmp
  by_cases h : a = b
  · subst h
    rw [if_pos rfl, wordsCmp_self]
  · rw [if_neg h, if_neg ha, if_neg hb]
theorem earlyCmp_nil (a b : Bytes) (h : a = [] ∨ b = []) : earlyCmp a b = cmpI (min 1 (b.length : Int)) (min 1 (a.length : Int)) := by
  unfold earlyCmp
  rcases h with rfl | rfl
  · cases b with
    | nil => rfl
    | cons x l =>
      rw [if_neg (by simp), if_pos rfl]
      unfold cmpI
      simp only [List.length_cons, List.length_nil]
      rw [if_neg (by omega), if_pos (by omega)]
  · cases a with
    | nil => rfl
    | cons x l =>
      rw [if_neg (by simp), if_neg (by simp), if_pos rfl]
      unfold cmpI
      simp only [List.length_cons, List.length_nil]
      rw [if_pos (by omega)]
theorem verErr_ok {v : VerV} (h : verErr v = 0) : verOut v = false ∧ (v.early = [] ∨ earlyB v.early = true) := by
  unfold verErr at h
  split at h
  · cases h
  rename_i h1
  split at h
  · cases h
  rename_i h2
  refine ⟨by simpa using h1, ?_⟩
  by_cases h3 : v.early = []
  · exact .inl h3
  · right
    cases h4 : earlyB v.early with
    | true => rfl
    | false => exact absurd ⟨h3, h4⟩ h2
end Go.Proofs

/- Strings as elements; tests of signs and strings. -/
namespace Go.Proofs
open Go Go.Abs
set_option linter.unusedSimpArgs false
set_option linter.unusedVariables false
/-- Lengths that may be. -/
abbrev Room : Nat := 1099511627776
def encBs (s : Bytes) : List AV := [.str s]
theorem pu0_ok : PuOK Tryz.prog pu0 := PuOK.zero
def sByte (p : Int → Bool) : List AV → Option AV := fn1 (.int .u8) fun c => some (.bool (p c))
theorem sByte_eq (p : Int → Bool) (c : Int) : sByte p [.int .u8 c] = some (.bool (p c)) := rfl
def sStr (p : Bytes → Bool) : List AV → Option AV := fn1 .str fun s => if s.length ≤ Room then some (.bool (p s)) else none
theorem sStr_eq (p : Bytes → Bool) (s : Bytes) : sStr p [.str s] = if s.length ≤ Room then some (.bool (p s)) else none := rfl
theorem sByte_ok {P : Program} {f : FuncId} {p : Int → Bool} (h : ∀ c H, ACalls P f [.int .u8 c] H fun x H' => x = .bool (p c) ∧ H' = H) : ∀ xs v, sByte p xs = some v → ∀ H, ACalls P f xs H fun x H' => x = v ∧ H' = H := by
  intro xs v hv H
  obtain ⟨x, c, rfl, h1, h2⟩ := fn1_some hv
  cases h2
  cases Rd.int_some h1
  exact h c H
theorem sStr_ok {P : Program} {f : FuncId} {p : Bytes → Bool} (h : ∀ s H, s.length ≤ Room → ACalls P f [.str s] H fun x H' => x = .bool (p s) ∧ H' = H) : ∀ xs v, sStr p xs = some v → ∀ H, ACalls P f xs H fun x H' => x = v ∧ H' = H := by
  intro xs v hv H
  obtain ⟨x, s, rfl, h1, h2⟩ := fn1_some hv
  split at h2
  · cases h2
    cases Rd.str_some h1
    exact h s H ‹_›
  · cases h2
end Go.Proofs

/- Walks of Go's functions on strings: Index, Count, Split (of one byte), Compare. -/
namespace Go.Proofs
open Go Go.Abs
set_option linter.unusedSimpArgs false
set_option linter.unusedVariables false
def sIdxB : List AV → Option AV := fn2 .str (.int .u8) fun s c => some (.int .i64 (Lib.indexByte s c.toNat.toUInt8))
def sCntB : List AV → Option AV := fn2 .str (.int .u8) fun s c => some (.int .i64 (Lib.countByte s c.toNat.toUInt8))
def sCmpS : List AV → Option AV := fn2 .str .str fun s t => some (.int .i64 (Lib.compareBytes s t))
def one1 : Bytes → Option UInt8
  | [b] => some b
  | _ => none
theorem one1_eq (b : UInt8) : one1 [b] = some b := rfl
theorem one1_some {s : Bytes} {b : UInt8} (h : one1 s = some b) : s = [b] := by
  unfold one1 at h
  split at h
  · cases h; rfl
  · cases h
def sCnt : List AV → Option AV := fn2 .str .str fun s p => (one1 p).bind fun c => some (.int .i64 (s.count c))
def sSplit : List AV → Option AV := fn2 .str .str fun s p => (one1 p).bind fun c => if s.length ≤ Room then some (.sl ((splitB c s).map encBs) .unk) else none
attribute [go_sem] one1_eq
def puK1 : Pures := putP 214 sCmpS (putP 113 sCntB (putP 251 sIdxB pu0))
theorem puK1_dyn : isDyn puK1 = false := by simp only [puK1, go_sem, Nat.reduceEqDiff]
attribute [go_sem] puK1_dyn
theorem sIdxB_ok {P : Program} {f : FuncId} (h : ∀ s c H, ACalls P f [.str s, .int .u8 c] H fun x H' => x = .int .i64 (Lib.indexByte s c.toNat.toUInt8) ∧ H' = H) : ∀ xs v, sIdxB xs = some v → ∀ H, ACalls P f xs H fun x H' => x = v ∧ H' = H := by
  intro xs v hv H
  obtain ⟨x, y, p, q, rfl, h1, h2, h3⟩ := fn2_some hv
  cases h3; cases Rd.str_some h1; cases Rd.int_some h2
  exact h _ _ H
theorem sCntB_ok {P : Program} {f : FuncId} (h : ∀ s c H, ACalls P f [.str s, .int .u8 c] H fun x H' => x = .int .i64 (Lib.countByte s c.toNat.toUInt8) ∧ H' = H) : ∀ xs v, sCntB xs = some v → ∀ H, ACalls P f xs H fun x H' => x = v ∧ H' = H := by
  intro xs v hv H
  obtain ⟨x, y, p, q, rfl, h1, h2, h3⟩ := fn2_some hv
  cases h3; cases Rd.str_some h1; cases Rd.int_some h2
  exact h _ _ H
theorem sCmpS_ok {P : Program} {f : FuncId} (h : ∀ s t H, ACalls P f [.str s, .str t] H fun x H' => x = .int .i64 (Lib.compareBytes s t) ∧ H' = H) : ∀ xs v, sCmpS xs = some v → ∀ H, ACalls P f xs H fun x H' => x = v ∧ H' = H := by
  intro xs v hv H
  obtain ⟨x, y, p, q, rfl, h1, h2, h3⟩ := fn2_some hv
  cases h3; cases Rd.str_some h1; cases Rd.str_some h2
  exact h _ _ H
theorem idxBX_calls (s : Bytes) (c : Int) (H : Heap) : ACalls Tryz.prog 251 [.str s, .int .u8 c] H fun x H' => x = .int .i64 (Lib.indexByte s c.toNat.toUInt8) ∧ H' = H :=
  indexByteString_calls Tryz.func251 (by kernel_rfl) rfl (by kernel_rfl) (by kernel_rfl) _ _ H
theorem cntBX_calls (s : Bytes) (c : Int) (H : Heap) : ACalls Tryz.prog 113 [.str s, .int .u8 c] H fun x H' => x = .int .i64 (Lib.countByte s c.toNat.toUInt8) ∧ H' = H :=
  countString_calls Tryz.func113 (by kernel_rfl) rfl (by kernel_rfl) (by kernel_rfl) _ _ H
theorem cmpX_calls (s t : Bytes) (H : Heap) : ACalls Tryz.prog 214 [.str s, .str t] H fun x H' => x = .int .i64 (Lib.compareBytes s t) ∧ H' = H :=
  cmpString_calls Tryz.func214 (by kernel_rfl) rfl (by kernel_rfl) (by kernel_rfl) _ _ H
theorem puK1_ok : PuOK Tryz.prog puK1 := .put (.put (.put (.zero) (sIdxB_ok idxBX_calls)) (sCntB_ok cntBX_calls)) (sCmpS_ok cmpX_calls)
theorem sIdxB_eq (s : Bytes) (c : Int) : sIdxB [.str s, .int .u8 c] = some (.int .i64 (Lib.indexByte s c.toNat.toUInt8)) := rfl
theorem sCntB_eq (s : Bytes) (c : Int) : sCntB [.str s, .int .u8 c] = some (.int .i64 (Lib.countByte s c.toNat.toUInt8)) := rfl
theorem sCmpS_eq (s t : Bytes) : sCmpS [.str s, .str t] = some (.int .i64 (Lib.compareBytes s t)) := rfl
theorem sCnt_eq (s : Bytes) (c : UInt8) : sCnt [.str s, .str [c]] = some (.int .i64 (s.count c)) := rfl
theorem sSplit_eq (s : Bytes) (c : UInt8) : sSplit [.str s, .str [c]] = if s.length ≤ Room then some (.sl ((splitB c s).map encBs) .unk) else none := rfl
theorem u8_back (c : UInt8) : ((c.toNat : Int)).toNat.toUInt8 = c := by
  rw [Int.toNat_natCast]; simp

theorem u8_nat (c : UInt8) : c.toNat.toUInt8 = c := by simp
theorem indexByte_calls (s : Bytes) (c : Int) (H : Heap) : ACalls Tryz.prog 207 [.str s, .int .u8 c] H fun x H' => x = .int .i64 (Lib.indexByte s c.toNat.toUInt8) ∧ H' = H := by
  refine ACalls.of_code (X := { pure := puK1 }) puK1_ok Tryz.func207 (by kernel_rfl) rfl (by kernel_rfl) (Nat.le_of_ble_eq_true rfl) ?_
  simp -implicitDefEqProofs only [go_sem, Tryz.f207, puK1, sIdxB_eq]
  exact Done.now ⟨rfl, rfl⟩
theorem compareString_calls (s t : Bytes) (H : Heap) : ACalls Tryz.prog 175 [.str s, .str t] H fun x H' => x = .int .i64 (Lib.compareBytes s t) ∧ H' = H := by
  refine ACalls.of_code (X := { pure := puK1 }) puK1_ok Tryz.func175 (by kernel_rfl) rfl (by kernel_rfl) (Nat.le_of_ble_eq_true rfl) ?_
  simp -implicitDefEqProofs only [go_sem, Tryz.f175, puK1, sCmpS_eq]
  exact Done.now ⟨rfl, rfl⟩
def puK2 : Pures := putP 175 sCmpS (putP 207 sIdxB puK1)
theorem puK2_dyn : isDyn puK2 = false := by simp only [puK2, go_sem, Nat.reduceEqDiff]
attribute [go_sem] puK2_dyn
theorem puK2_ok : PuOK Tryz.prog puK2 := .put (.put (puK1_ok) (sIdxB_ok indexByte_calls)) (sCmpS_ok compareString_calls)
theorem strCompare_calls (s t : Bytes) (H : Heap) : ACalls Tryz.prog 124 [.str s, .str t] H fun x H' => x = .int .i64 (Lib.compareBytes s t) ∧ H' = H := by
  refine ACalls.of_code (X := { pure := puK2 }) puK2_ok Tryz.func124 (by kernel_rfl) rfl (by kernel_rfl) (Nat.le_of_ble_eq_true rfl) ?_
  simp -implicitDefEqProofs only [go_sem, Tryz.f124, puK2, sCmpS_eq]
  exact Done.now ⟨rfl, rfl⟩
theorem indexL_calls (s : Bytes) (c : UInt8) (H : Heap) : ACalls Tryz.prog 170 [.str s, .str [c]] H fun x H' => x = .int .i64 (Lib.indexByte s c) ∧ H' = H := by
  refine ACalls.of_code (X := { pure := puK2 }) puK2_ok Tryz.func170 (by kernel_rfl) rfl (by kernel_rfl) (Nat.le_of_ble_eq_true rfl) ?_
  simp -implicitDefEqProofs only [go_sem, Tryz.f170, puK2, sIdxB_eq, puK1]
  repeat' (first | (with_reducible refine gd_intro (fun h => ?_) (fun h => ?_) <;> first | (exact absurd h (by decide)) | (simp at h; done) | simp -implicitDefEqProofs (disch := omega) only [go_sem, Go.IntWalk.i64_in, puK2, sIdxB_eq, puK1, *]) | (with_reducible refine cnd_intro (fun h => ?_) (fun h => ?_) <;> first | (exact absurd h (by decide)) | (simp at h; done) | simp -implicitDefEqProofs (disch := omega) only [go_sem, Go.IntWalk.i64_in, puK2, sIdxB_eq, puK1, *]))
  · simp only [decide_eq_true_eq] at h
    subst h
    exact Done.now ⟨by simp [Lib.indexByte], rfl⟩
  · exact Done.now ⟨by rw [u8_nat], rfl⟩
def sIdxL : List AV → Option AV := fn2 .str .str fun s p => (one1 p).bind fun c => some (.int .i64 (Lib.indexByte s c))
theorem sIdxL_eq (s : Bytes) (c : UInt8) : sIdxL [.str s, .str [c]] = some (.int .i64 (Lib.indexByte s c)) := rfl
theorem one_of {α : Type} {p : Bytes} {F : UInt8 → Option α} {v : α} (h : (one1 p).bind F = some v) : ∃ c, p = [c] ∧ F c = some v := by
  rw [Option.bind_eq_some_iff] at h
  obtain ⟨c, h1, h2⟩ := h
  exact ⟨c, one1_some h1, h2⟩
def puK3 : Pures := putP 170 sIdxL puK2
theorem puK3_dyn : isDyn puK3 = false := by simp only [puK3, go_sem, Nat.reduceEqDiff]
attribute [go_sem] puK3_dyn
theorem sIdxL_ok {P : Program} {f : FuncId} (h : ∀ s c H, ACalls P f [.str s, .str [c]] H fun x H' => x = .int .i64 (Lib.indexByte s c) ∧ H' = H) : ∀ xs v, sIdxL xs = some v → ∀ H, ACalls P f xs H fun x H' => x = v ∧ H' = H := by
  intro xs v hv H
  obtain ⟨x, y, p, q, rfl, h1, h2, h3⟩ := fn2_some hv
  obtain ⟨c, rfl, h3⟩ := one_of h3
  cases h3; cases Rd.str_some h1; cases Rd.str_some h2
  exact h _ _ H
theorem puK3_ok : PuOK Tryz.prog puK3 := .put (puK2_ok) (sIdxL_ok indexL_calls)
theorem index_calls (s : Bytes) (c : UInt8) (H : Heap) : ACalls Tryz.prog 114 [.str s, .str [c]] H fun x H' => x = .int .i64 (Lib.indexByte s c) ∧ H' = H := by
  refine ACalls.of_code (X := { pure := puK3 }) puK3_ok Tryz.func114 (by kernel_rfl) rfl (by kernel_rfl) (Nat.le_of_ble_eq_true rfl) ?_
  simp -implicitDefEqProofs only [go_sem, Tryz.f114, puK3, sIdxL_eq]
  exact Done.now ⟨rfl, rfl⟩
theorem count_calls (s : Bytes) (c : UInt8) (H : Heap) : ACalls Tryz.prog 41 [.str s, .str [c]] H fun x H' => x = .int .i64 (s.count c) ∧ H' = H := by
  refine ACalls.of_code (X := { pure := puK3 }) puK3_ok Tryz.func41 (by kernel_rfl) rfl (by kernel_rfl) (Nat.le_of_ble_eq_true rfl) ?_
  simp -implicitDefEqProofs only [go_sem, Tryz.f41, puK3, puK2, puK1, sCntB_eq]
  repeat' (first | (with_reducible refine gd_intro (fun h => ?_) (fun h => ?_) <;> first | (exact absurd h (by decide)) | (simp at h; done) | simp -implicitDefEqProofs (disch := omega) only [go_sem, Go.IntWalk.i64_in, puK3, puK2, puK1, sCntB_eq, *]) | (with_reducible refine cnd_intro (fun h => ?_) (fun h => ?_) <;> first | (exact absurd h (by decide)) | (simp at h; done) | simp -implicitDefEqProofs (disch := omega) only [go_sem, Go.IntWalk.i64_in, puK3, puK2, puK1, sCntB_eq, *]))
  exact Done.now ⟨by rw [u8_nat]; rfl, rfl⟩
def puK4 : Pures := putP 41 sCnt (putP 114 sIdxL puK3)
theorem puK4_dyn : isDyn puK4 = false := by simp only [puK4, go_sem, Nat.reduceEqDiff]
attribute [go_sem] puK4_dyn
theorem sCnt_ok {P : Program} {f : FuncId} (h : ∀ s c H, ACalls P f [.str s, .str [c]] H fun x H' => x = .int .i64 (s.count c) ∧ H' = H) : ∀ xs v, sCnt xs = some v → ∀ H, ACalls P f xs H fun x H' => x = v ∧ H' = H := by
  intro xs v hv H
  obtain ⟨x, y, p, q, rfl, h1, h2, h3⟩ := fn2_some hv
  obtain ⟨c, rfl, h3⟩ := one_of h3
  cases h3; cases Rd.str_some h1; cases Rd.str_some h2
  exact h _ _ H
theorem puK4_ok : PuOK Tryz.prog puK4 := .put (.put (puK3_ok) (sIdxL_ok index_calls)) (sCnt_ok count_calls)
/-- What the cells of the slice hold while it is filled. -/
def fillC (done : List Bytes) (n : Nat) : List AV := done.map AV.str ++ List.replicate (n - done.length) (.str [])
theorem fillC_len {done : List Bytes} {n : Nat} (h : done.length ≤ n) : (fillC done n).length = n := by
  simp [fillC]; omega
theorem fillC_set {done : List Bytes} {n : Nat} (h : done.length < n) (p : Bytes) : (fillC done n).set done.length (.str p) = fillC (done ++ [p]) n := by
  unfold fillC
  rw [List.set_append, if_neg (by simp)]
  obtain ⟨k, hk⟩ : ∃ k, n - done.length = k + 1 := ⟨n - done.length - 1, by omega⟩
  have : n - (done ++ [p]).length = k := by simp; omega
  rw [hk, this, List.replicate_succ]
  simp
theorem split_calls (s : Bytes) (c : UInt8) (H : Heap) (hs : s.length ≤ Room) :
    ACalls Tryz.prog 147 [.str s, .str [c], .int .i64 0, .int .i64 (-1)] H fun x H' => x = .sl ((splitB c s).map encBs) .unk ∧ H' = H := by
  have hcnt : s.count c ≤ s.length := List.count_le_length
  have hR : Room = 1099511627776 := rfl
  rw [hR] at hs
  clear hR
  refine ACalls.of_code (X := { pure := puK4 }) puK4_ok Tryz.func147 (by kernel_rfl) rfl (by kernel_rfl) (Nat.le_of_ble_eq_true rfl) ?_
  simp -implicitDefEqProofs only [go_sem, Tryz.f147, puK4, sCnt_eq, sIdxL_eq]
  repeat' (first | (with_reducible refine gd_intro (fun h => ?_) (fun h => ?_) <;> first | (exact absurd h (by decide)) | (simp at h; done) | simp -implicitDefEqProofs (disch := omega) only [go_sem, Go.IntWalk.i64_in, puK4, sCnt_eq, sIdxL_eq, *]) | (with_reducible refine cnd_intro (fun h => ?_) (fun h => ?_) <;> first | (exact absurd h (by decide)) | (simp at h; done) | simp -implicitDefEqProofs (disch := omega) only [go_sem, Go.IntWalk.i64_in, puK4, sCnt_eq, sIdxL_eq, *]))
  have hm : min ((s.count c : Int) + 1) ((s.length : Int) + 1) = ((s.count c + 1 : Nat) : Int) := by omega
  rw [hm]
  with_reducible refine makeSlice_ms (e := tiStr) ?_ ?_ ?_ ?_ ?_ ?_
  · simp -implicitDefEqProofs only [go_sem]
  · decide
  · omega
  · simp only []; omega
  · omega
  intro id hid
  have hw : (((s.count c + 1 : Nat) : Int) - 1) = (s.count c : Int) := by omega
  simp -implicitDefEqProofs (disch := omega) only [go_sem, Go.IntWalk.i64_in, puK4, sCnt_eq, sIdxL_eq, *]
  have hflat : ([AV.str []] :: List.replicate (s.count c) [AV.str []]).flatten = fillC [] (s.count c + 1) := by
    simp [fillC, List.flatten_replicate_singleton, List.replicate_succ]
  rw [hflat]
  refine aloop_intro (σ := List Bytes × Bytes) (fun p => [(0, .str p.2), (1, .str [c]), (2, .int .i64 0), (3, .int .i64 (s.count c)), (9, .ms id 0 (s.count c + 1) 1), (10, .int .i64 p.1.length)])
    (fun p G => G = H.put id (.cells (fillC p.1 (s.count c + 1))) ∧ splitB c s = p.1 ++ splitB c p.2 ∧ p.2.count c + p.1.length = s.count c ∧ p.2.length ≤ s.length) (fun p => p.2.length) ([], s) ?_ ?_ ?_
  · simp -implicitDefEqProofs (disch := omega) only [go_sem, Go.IntWalk.i64_in, *]
  · simp
  · rintro ⟨done, rest⟩ r G ⟨h0, h1, h2, h3, h9, h10, -⟩ ⟨rfl, hspl, hct, hl⟩
    simp only at h0 h1 h2 h3 h9 h10 hspl hct hl
    have hcr : rest.count c ≤ rest.length := List.count_le_length
    simp -implicitDefEqProofs only [go_sem, h0, h1, h2, h3, h9, h10, puK4, sIdxL_eq]
    refine cnd_intro (fun hlt => ?_) (fun hlt => ?_)
    · simp only [decide_eq_true_eq] at hlt
      obtain ⟨m, hm2⟩ : ∃ m : Nat, Lib.indexByte rest c = (m : Int) := by
        have h1 := Lib.indexByte_ge rest c
        have h2 : ¬ Lib.indexByte rest c = -1 := fun e => by have := indexByte_none.1 e; omega
        exact ⟨(Lib.indexByte rest c).toNat, by omega⟩
      obtain ⟨i1, i2, i3⟩ := indexByte_some hm2
      have hb : decide ((m : Int) < 0) = false := by simp
      simp -implicitDefEqProofs (disch := omega) only [go_sem, Go.IntWalk.i64_in, h0, h1, h2, h3, h9, h10, puK4, sIdxL_eq, hm2, hb]
      refine ⟨by omega, by omega, by rw [fillC_len (by omega)]; omega, by omega, ?_⟩
      have e1 : ((m : Int) + 1).toNat = m + 1 := by omega
      have e2 : ((m : Int) + 0).toNat = m := by omega
      rw [e1, e2, List.take_length, Nat.mul_one, fillC_set (by omega)]
      refine Again.mk (done ++ [rest.take m], rest.drop (m + 1)) (by simp -implicitDefEqProofs only [go_sem, h0, h1, h2, h3, h9, h10]; simp) ⟨rfl, by rw [hspl, i2]; simp, by simp; omega, by simp; omega⟩ (by simp; omega)
    · simp only [decide_eq_false_iff_not] at hlt
      simp -implicitDefEqProofs (disch := omega) only [go_sem, Go.IntWalk.i64_in, h0, h1, h2, h3, h9, h10, puK4, sIdxL_eq]
      have hz : rest.count c = 0 := by omega
      have hd : done.length = s.count c := by omega
      refine ⟨by omega, by rw [fillC_len (by omega)]; omega, by omega, ?_⟩
      rw [Nat.mul_one, fillC_set (by omega)]
      have e1 : ((done.length : Int) + 1 - 0).toNat = s.count c + 1 := by omega
      rw [e1]
      have e2 : fillC (done ++ [rest]) (s.count c + 1) = (splitB c s).map AV.str := by
        rw [hspl, splitB_none hz]
        simp [fillC, hd]
      rw [e2]
      have e3 : ((splitB c s).map AV.str).length = s.count c + 1 := by rw [List.length_map, splitB_len]
      refine Done.via (Ghost.freeze1 (put_same _ _ _) (by rw [e3]; omega)) (Done.now ⟨?_, del_put _ hid⟩)
      rw [List.drop_zero, List.take_of_length_le (by rw [e3]; omega), List.map_map]
      rfl
def sGen : List AV → Option AV
  | [.str s, .str [c], .int .i64 n, .int .i64 k] => if n = 0 ∧ k = -1 ∧ s.length ≤ Room then some (.sl ((splitB c s).map encBs) .unk) else none
  | _ => none
theorem sGen_eq (s : Bytes) (c : UInt8) : sGen [.str s, .str [c], .int .i64 0, .int .i64 (-1)] = if s.length ≤ Room then some (.sl ((splitB c s).map encBs) .unk) else none := by simp [sGen]
def puK5 : Pures := putP 147 sGen (putP 124 sCmpS puK4)
theorem puK5_dyn : isDyn puK5 = false := by simp only [puK5, go_sem, Nat.reduceEqDiff]
attribute [go_sem] puK5_dyn
theorem sGen_ok : ∀ xs v, sGen xs = some v → ∀ H, ACalls Tryz.prog 147 xs H fun x H' => x = v ∧ H' = H := by
  intro xs v h H
  unfold sGen at h
  split at h
  · split at h
    · rename_i hc
      obtain ⟨rfl, rfl, hr⟩ := hc
      cases h
      exact split_calls _ _ H hr
    · cases h
  · cases h
theorem puK5_ok : PuOK Tryz.prog puK5 := .put (.put (puK4_ok) (sCmpS_ok strCompare_calls)) sGen_ok
theorem splitT_calls (s : Bytes) (c : UInt8) (H : Heap) (hs : s.length ≤ Room) :
    ACalls Tryz.prog 139 [.str s, .str [c]] H fun x H' => x = .sl ((splitB c s).map encBs) .unk ∧ H' = H := by
  refine ACalls.of_code (X := { pure := puK5 }) puK5_ok Tryz.func139 (by kernel_rfl) rfl (by kernel_rfl) (Nat.le_of_ble_eq_true rfl) ?_
  simp -implicitDefEqProofs only [go_sem, Tryz.f139, puK5, sGen_eq, hs]
  exact Done.now ⟨rfl, rfl⟩
theorem sSplit_ok {P : Program} {f : FuncId} (h : ∀ s c H, s.length ≤ Room → ACalls P f [.str s, .str [c]] H fun x H' => x = .sl ((splitB c s).map encBs) .unk ∧ H' = H) : ∀ xs v, sSplit xs = some v → ∀ H, ACalls P f xs H fun x H' => x = v ∧ H' = H := by
  intro xs v hv H
  obtain ⟨x, y, p, q, rfl, h1, h2, h3⟩ := fn2_some hv
  obtain ⟨c, rfl, h3⟩ := one_of h3
  split at h3
  · rename_i hr
    cases h3
    cases Rd.str_some h1
    cases Rd.str_some h2
    exact h _ _ H hr
  · cases h3
def puK : Pures := putP 139 sSplit puK5
theorem puK_dyn : isDyn puK = false := by simp only [puK, go_sem, Nat.reduceEqDiff]
attribute [go_sem] puK_dyn
theorem puK_ok : PuOK Tryz.prog puK := .put (puK5_ok) (sSplit_ok splitT_calls)
end Go.Proofs

/- Walks: names, paths, values, of the program and of the reference. -/
namespace Go.Proofs
open Go Go.Abs
set_option linter.unusedSimpArgs false
set_option linter.unusedVariables false
theorem isSmall_calls (c : Int) (H : Heap) : ACalls Tryz.prog 134 [.int .u8 c] H fun x H' => x = .bool (isSm c) ∧ H' = H := by
  refine ACalls.of_code (X := { pure := puK }) puK_ok Tryz.func134 (by kernel_rfl) rfl (by kernel_rfl) (Nat.le_of_ble_eq_true rfl) ?_
  simp -implicitDefEqProofs only [go_sem, Tryz.f134]
  repeat' (first | (with_reducible refine gd_intro (fun h => ?_) (fun h => ?_) <;> first | (exact absurd h (by decide)) | (simp at h; done) | simp -implicitDefEqProofs (disch := omega) only [go_sem, Go.IntWalk.i64_in, *]) | (with_reducible refine cnd_intro (fun h => ?_) (fun h => ?_) <;> first | (exact absurd h (by decide)) | (simp at h; done) | simp -implicitDefEqProofs (disch := omega) only [go_sem, Go.IntWalk.i64_in, *]))
  all_goals (refine Done.now ⟨?_, rfl⟩; simp only [decide_eq_true_eq, decide_eq_false_iff_not] at h; simp [isSm, h])
theorem isDigit_calls (c : Int) (H : Heap) : ACalls Tryz.prog 135 [.int .u8 c] H fun x H' => x = .bool (isDg c) ∧ H' = H := by
  refine ACalls.of_code (X := { pure := puK }) puK_ok Tryz.func135 (by kernel_rfl) rfl (by kernel_rfl) (Nat.le_of_ble_eq_true rfl) ?_
  simp -implicitDefEqProofs only [go_sem, Tryz.f135]
  repeat' (first | (with_reducible refine gd_intro (fun h => ?_) (fun h => ?_) <;> first | (exact absurd h (by decide)) | (simp at h; done) | simp -implicitDefEqProofs (disch := omega) only [go_sem, Go.IntWalk.i64_in, *]) | (with_reducible refine cnd_intro (fun h => ?_) (fun h => ?_) <;> first | (exact absurd h (by decide)) | (simp at h; done) | simp -implicitDefEqProofs (disch := omega) only [go_sem, Go.IntWalk.i64_in, *]))
  all_goals (refine Done.now ⟨?_, rfl⟩; simp only [decide_eq_true_eq, decide_eq_false_iff_not] at h; simp [isDg, h])
def puV1 : Pures := putP 134 (sByte isSm) (putP 135 (sByte isDg) puK)
theorem puV1_dyn : isDyn puV1 = false := by simp only [puV1, go_sem, Nat.reduceEqDiff]
attribute [go_sem] puV1_dyn
theorem puV1_ok : PuOK Tryz.prog puV1 := .put (.put (puK_ok) (sByte_ok isDigit_calls)) (sByte_ok isSmall_calls)
theorem isName1_calls (c : Int) (H : Heap) : ACalls Tryz.prog 133 [.int .u8 c] H fun x H' => x = .bool (isNm c) ∧ H' = H := by
  refine ACalls.of_code (X := { pure := puV1 }) puV1_ok Tryz.func133 (by kernel_rfl) rfl (by kernel_rfl) (Nat.le_of_ble_eq_true rfl) ?_
  simp -implicitDefEqProofs only [go_sem, Tryz.f133, puV1, sByte_eq]
  repeat' (first | (with_reducible refine gd_intro (fun h => ?_) (fun h => ?_) <;> first | (exact absurd h (by decide)) | (simp at h; done) | simp -implicitDefEqProofs (disch := omega) only [go_sem, Go.IntWalk.i64_in, puV1, sByte_eq, *]) | (with_reducible refine cnd_intro (fun h => ?_) (fun h => ?_) <;> first | (exact absurd h (by decide)) | (simp at h; done) | simp -implicitDefEqProofs (disch := omega) only [go_sem, Go.IntWalk.i64_in, puV1, sByte_eq, *]))
  all_goals (refine Done.now ⟨?_, rfl⟩; simp_all [isNm])
theorem isValue1_calls (c : Int) (H : Heap) : ACalls Tryz.prog 146 [.int .u8 c] H fun x H' => x = .bool (isVl c) ∧ H' = H := by
  refine ACalls.of_code (X := { pure := puV1 }) puV1_ok Tryz.func146 (by kernel_rfl) rfl (by kernel_rfl) (Nat.le_of_ble_eq_true rfl) ?_
  simp -implicitDefEqProofs only [go_sem, Tryz.f146, puV1, sByte_eq]
  repeat' (first | (with_reducible refine gd_intro (fun h => ?_) (fun h => ?_) <;> first | (exact absurd h (by decide)) | (simp at h; done) | simp -implicitDefEqProofs (disch := omega) only [go_sem, Go.IntWalk.i64_in, puV1, sByte_eq, *]) | (with_reducible refine cnd_intro (fun h => ?_) (fun h => ?_) <;> first | (exact absurd h (by decide)) | (simp at h; done) | simp -implicitDefEqProofs (disch := omega) only [go_sem, Go.IntWalk.i64_in, puV1, sByte_eq, *]))
  all_goals (refine Done.now ⟨?_, rfl⟩; simp_all [isVl] <;> omega)
theorem each_calls (s : Bytes) (most : Int) (f : FuncId) (p : Int → Bool) (H : Heap) (hs : s.length ≤ Room) (hf : ∀ c H, ACalls Tryz.prog f [.int .u8 c] H fun x H' => x = .bool (p c) ∧ H' = H) :
    ACalls Tryz.prog 132 [.str s, .int .i64 most, .func f []] H fun x H' => x = .bool (sEach p s most) ∧ H' = H := by
  have hR : Room = 1099511627776 := rfl
  rw [hR] at hs
  refine ACalls.of_code (X := {}) (fun _ _ h => nomatch h) Tryz.func132 (by kernel_rfl) rfl (by kernel_rfl) (Nat.le_of_ble_eq_true rfl) ?_
  simp -implicitDefEqProofs only [go_sem, Tryz.f132]
  refine aloop_intro (σ := Nat) (fun i => [(0, .str s), (1, .int .i64 most), (2, .func f []), (7, .int .i64 i)]) (fun i G => G = H ∧ i ≤ s.length ∧ allB p (s.take i) = true) (fun i => s.length - i) 0 ?_ ?_ ?_
  · simp -implicitDefEqProofs only [go_sem]
  · simp [allB]
  · intro i r G hv hI
    have h0 := hv.1
    have h1 := hv.2.1
    have h2 := hv.2.2.1
    have h7 := hv.2.2.2.1
    have hG := hI.1
    have hp := hI.2.2
    have hi := hI.2.1
    subst hG
    simp -implicitDefEqProofs only [go_sem, h0, h1, h2, h7]
    refine cnd_intro (fun h => ?_) (fun h => ?_)
    · simp only [decide_eq_true_eq] at h
      obtain ⟨c, hc⟩ : ∃ c, s[i]? = some c := ⟨s[i]'(by omega), List.getElem?_eq_getElem _⟩
      simp -implicitDefEqProofs only [go_sem, h0, h1, h2, h7, hc]
      refine ACalls.pure_next _ (hf c.toNat _) ?_
      simp -implicitDefEqProofs only [go_sem, h0, h1, h2, h7, hc]
      refine cnd_intro (fun hpc => ?_) (fun hpc => ?_) <;> simp only [Bool.not_eq_true', Bool.not_eq_false'] at hpc
      · simp -implicitDefEqProofs only [go_sem, h0, h1, h2, h7, hc]
        exact Done.now ⟨by rw [sEach_false hc hpc], rfl⟩
      · simp -implicitDefEqProofs (disch := omega) only [go_sem, Go.IntWalk.i64_in, h0, h1, h2, h7, hc]
        exact Again.mk (i + 1) (by simp -implicitDefEqProofs only [go_sem, h0, h1, h2, h7]; exact rfl) ⟨rfl, by omega, allB_succ hp hc hpc⟩ (by omega)
    · simp only [decide_eq_false_iff_not] at h
      have e : i = s.length := by omega
      subst e
      rw [List.take_length] at hp
      simp -implicitDefEqProofs only [go_sem, h0, h1, h2, h7]
      refine gd_intro (fun hn => ?_) (fun hn => ?_) <;> simp -implicitDefEqProofs only [go_sem, h0, h1, h2, h7, hn] <;> refine Done.now ⟨?_, rfl⟩ <;> simp only [sEach, hp, hn, ne_eq] <;> simp
def puV2 : Pures := puV1
theorem puV2_dyn : isDyn puV2 = isDyn puV1 := rfl
attribute [go_sem] puV2_dyn
theorem puV2_ok : PuOK Tryz.prog puV2 := puV1_ok
def puV3 : Pures := puV2
theorem puV3_dyn : isDyn puV3 = isDyn puV2 := rfl
attribute [go_sem] puV3_dyn
theorem puV3_ok : PuOK Tryz.prog puV3 := puV2_ok
theorem room_part {s p : Bytes} {c : UInt8} (hs : s.length ≤ Room) {i : Nat} (h : (splitB c s)[i]? = some p) : p.length ≤ Room := Nat.le_trans (splitB_mem s p (List.mem_of_getElem? h)) hs
theorem sSplit_room (s : Bytes) (c : UInt8) (h : s.length ≤ Room) : sSplit [.str s, .str [c]] = some (.sl ((splitB c s).map encBs) .unk) := by rw [sSplit_eq, if_pos h]
end Go.Proofs

/- Small things: objects by name; pure functions by what they answer. -/
namespace Go.Proofs
open Go Go.Abs
set_option linter.unusedSimpArgs false
set_option linter.unusedVariables false
theorem getD_get' {α : Type} {l : List α} {i : Nat} (h : i < l.length) : ∃ c, l[i]? = some c := ⟨l[i], List.getElem?_eq_getElem h⟩
theorem sub_none {H G : Heap} (h : H.Sub G) {i : Nat} (hi : G i = none) : H i = none := by
  cases hh : H i with
  | none => rfl
  | some x => have := h i x hh; rw [hi] at this; cases this
theorem put_put' (H : Heap) (i : Nat) (a b : AObj) : (H.put i a).put i b = H.put i b := by
  funext j
  unfold Heap.put
  split <;> rfl
theorem put_self {H : Heap} {i : Nat} {a : AObj} (h : H i = some a) : H.put i a = H := by
  funext k
  unfold Heap.put
  split
  · rename_i e; rw [e, h]
  · rfl
theorem obj_new {H0 H G : Heap} {id : Nat} {o : AObj} (e : H.put id o = G) (hid : H id = none) (hS : H0.Sub H) : H0 id = none ∧ H0.Sub G ∧ G id = some o ∧ H.Sub G := by
  subst e
  exact ⟨sub_none hS hid, hS.put' (sub_none hS hid) o, put_same _ _ _, (Heap.Sub.rfl' H).put' hid o⟩
theorem obj_ne {G : Heap} {i j : Nat} {o : AObj} (hi : G i = some o) (hj : G j = none) : ¬ i = j := fun e => by rw [e, hj] at hi; cases hi
/-- A function that answers one thing and leaves the heap alone, told by how its arguments are written. -/
def Pur (P : Program) (f : FuncId) (s : List AV → Option AV) : Prop := ∀ xs v, s xs = some v → ∀ H, ACalls P f xs H fun x H' => x = v ∧ H' = H
noncomputable def spF {α : Type} (enc : α → List AV) (pre : α → Prop) (F : α → AV) : List AV → Option AV :=
  open Classical in fun xs => if h : ∃ a, enc a = xs ∧ pre a then some (F h.choose) else none
theorem spF_eq {α : Type} {enc : α → List AV} {pre : α → Prop} {F : α → AV} (inj : ∀ a b, enc a = enc b → F a = F b) (a : α) (h : pre a) : spF enc pre F (enc a) = some (F a) := by
  have hx : ∃ b, enc b = enc a ∧ pre b := ⟨a, rfl, h⟩
  unfold spF
  rw [dif_pos hx, inj _ _ hx.choose_spec.1]
theorem spF_ok {P : Program} {f : FuncId} {α : Type} {enc : α → List AV} {pre : α → Prop} {F : α → AV} (h : ∀ a H, pre a → ACalls P f (enc a) H fun x H' => x = F a ∧ H' = H) : Pur P f (spF enc pre F) := by
  intro xs v hv H
  unfold spF at hv
  split at hv
  · rename_i hx
    obtain ⟨h1, h2⟩ := hx.choose_spec
    cases hv
    have := h hx.choose H h2
    rw [h1] at this
    exact this
  · cases hv
theorem take_eq_succ {α : Type} {a b : List α} {i : Nat} {x y : α} (ha : a[i]? = some x) (hb : b[i]? = some y) : a.take (i + 1) = b.take (i + 1) ↔ a.take i = b.take i ∧ x = y := by
  rw [List.take_add_one, List.take_add_one, ha, hb]
  constructor
  · intro h
    have hl : (a.take i).length = (b.take i).length := by
      have h1 : i < a.length := (List.getElem?_eq_some_iff.1 ha).1
      have h2 : i < b.length := (List.getElem?_eq_some_iff.1 hb).1
      simp; omega
    have := List.append_inj h hl
    exact ⟨this.1, by simpa using this.2⟩
  · rintro ⟨h1, rfl⟩; rw [h1]
theorem get_some {α : Type} {l : List α} {i : Nat} (h : i < l.length) : ∃ x, l[i]? = some x := ⟨l[i], List.getElem?_eq_getElem h⟩
end Go.Proofs

/- Walks: words, names and values, versions, of the program. -/
namespace Go.Proofs
open Go Go.Abs
set_option linter.unusedSimpArgs false
set_option linter.unusedVariables false
set_option maxRecDepth 20000
theorem indexA_agg {P : Program} (t : TypeId) (cs : List AV) (k : IntKind) (n : Int) : indexA P t (.agg cs) (.int k n) = match arrayE P t with
    | some p => if 0 ≤ n ∧ n < p.1 then readC p.2.desc.agg p.2.size (cs.drop (n.toNat * p.2.size)) else none
    | none => none := by
  unfold indexA
  cases arrayE P t <;> rfl
attribute [go_sem] indexA_agg
def encVer (v : VerV) : List AV := [.int .i64 v.major, .int .i64 v.minor, .int .i64 v.patch, .str v.early]
theorem isEarly1_calls (c : Int) (H : Heap) : ACalls Tryz.prog 183 [.int .u8 c] H fun x H' => x = .bool (isWd c) ∧ H' = H := by
  refine ACalls.of_code (X := { pure := puV1 }) puV1_ok Tryz.func183 (by kernel_rfl) rfl (by kernel_rfl) (Nat.le_of_ble_eq_true rfl) ?_
  simp -implicitDefEqProofs only [go_sem, Tryz.f183, puV1, sByte_eq]
  repeat' (first | (with_reducible refine gd_intro (fun h => ?_) (fun h => ?_) <;> first | (exact absurd h (by decide)) | (simp at h; done) | simp -implicitDefEqProofs (disch := omega) only [go_sem, Go.IntWalk.i64_in, puV1, sByte_eq, *]) | (with_reducible refine cnd_intro (fun h => ?_) (fun h => ?_) <;> first | (exact absurd h (by decide)) | (simp at h; done) | simp -implicitDefEqProofs (disch := omega) only [go_sem, Go.IntWalk.i64_in, puV1, sByte_eq, *]))
  all_goals (refine Done.now ⟨?_, rfl⟩; simp_all [isWd])
def sEachW : List AV → Option AV
  | [.str s, .int .i64 most, .func f []] => if s.length ≤ Room then
      (if f = 133 then some (.bool (sEach isNm s most)) else if f = 146 then some (.bool (sEach isVl s most)) else if f = 183 then some (.bool (sEach isWd s most)) else if f = 135 then some (.bool (sEach isDg s most)) else none) else none
  | _ => none
theorem sEachW_eq (s : Bytes) (most : Int) (f : FuncId) : sEachW [.str s, .int .i64 most, .func f []] = if s.length ≤ Room then
      (if f = 133 then some (.bool (sEach isNm s most)) else if f = 146 then some (.bool (sEach isVl s most)) else if f = 183 then some (.bool (sEach isWd s most)) else if f = 135 then some (.bool (sEach isDg s most)) else none) else none := rfl
theorem sEachW_ok : Pur Tryz.prog 132 sEachW := by
  intro xs v h H
  unfold sEachW at h
  split at h
  · rename_i s most f
    split at h
    · rename_i hs
      split at h
      · rename_i hf; subst hf; cases h; exact each_calls s most _ isNm H hs isName1_calls
      · split at h
        · rename_i hf; subst hf; cases h; exact each_calls s most _ isVl H hs isValue1_calls
        · split at h
          · rename_i hf; subst hf; cases h; exact each_calls s most _ isWd H hs isEarly1_calls
          · split at h
            · rename_i hf; subst hf; cases h; exact each_calls s most _ isDg H hs isDigit_calls
            · cases h
    · cases h
  · cases h
def puW1 : Pures := putP 132 sEachW puV1
theorem puW1_dyn : isDyn puW1 = false := by simp only [puW1, go_sem, Nat.reduceEqDiff]
attribute [go_sem] puW1_dyn
theorem puW1_ok : PuOK Tryz.prog puW1 := .put (puV1_ok) sEachW_ok
theorem vIsName_calls (s : Bytes) (H : Heap) (hs : s.length ≤ Room) : ACalls Tryz.prog 56 [.str s] H fun x H' => x = .bool (nameB s) ∧ H' = H := by
  refine ACalls.of_code (X := { pure := puW1 }) puW1_ok Tryz.func56 (by kernel_rfl) rfl (by kernel_rfl) (Nat.le_of_ble_eq_true rfl) ?_
  simp -implicitDefEqProofs only [go_sem, Tryz.f56, puW1, puV1, sByte_eq, sEachW_eq, hs]
  refine gd_intro (fun hn => ?_) (fun hn => ?_)
  · obtain ⟨c, l, rfl⟩ : ∃ c l, s = c :: l := by
      cases s with
      | nil => simp [sEach] at hn
      | cons c l => exact ⟨c, l, rfl⟩
    simp -implicitDefEqProofs only [go_sem, puW1, puV1, sByte_eq, hn, Int.toNat_zero, Int.le_refl]
    exact Done.now ⟨by simp [nameB, hn], rfl⟩
  · simp -implicitDefEqProofs only [go_sem, puW1, puV1, sByte_eq, hn]
    exact Done.now ⟨by simp [nameB, hn], rfl⟩
theorem vIsValue_calls (s : Bytes) (H : Heap) (hs : s.length ≤ Room) : ACalls Tryz.prog 73 [.str s] H fun x H' => x = .bool (valueB s) ∧ H' = H := by
  refine ACalls.of_code (X := { pure := puW1 }) puW1_ok Tryz.func73 (by kernel_rfl) rfl (by kernel_rfl) (Nat.le_of_ble_eq_true rfl) ?_
  simp -implicitDefEqProofs only [go_sem, Tryz.f73, puW1, puV1, sByte_eq, sEachW_eq, hs]
  repeat' (first | (with_reducible refine gd_intro (fun h => ?_) (fun h => ?_) <;> first | (exact absurd h (by decide)) | (simp at h; done) | simp -implicitDefEqProofs (disch := omega) only [go_sem, Go.IntWalk.i64_in, puW1, puV1, sEachW_eq, *]) | (with_reducible refine cnd_intro (fun h => ?_) (fun h => ?_) <;> first | (exact absurd h (by decide)) | (simp at h; done) | simp -implicitDefEqProofs (disch := omega) only [go_sem, Go.IntWalk.i64_in, puW1, puV1, sEachW_eq, *]))
  all_goals (refine Done.now ⟨?_, rfl⟩; simp_all [valueB])
theorem isNumeral_calls (s : Bytes) (H : Heap) (hs : s.length ≤ Room) : ACalls Tryz.prog 184 [.str s] H fun x H' => x = .bool (numB s) ∧ H' = H := by
  refine ACalls.of_code (X := { pure := puW1 }) puW1_ok Tryz.func184 (by kernel_rfl) rfl (by kernel_rfl) (Nat.le_of_ble_eq_true rfl) ?_
  simp -implicitDefEqProofs only [go_sem, Tryz.f184, puW1, puV1, sByte_eq, sEachW_eq, hs]
  exact Done.now ⟨rfl, rfl⟩
def puW2 : Pures := putP 184 (sStr numB) (putP 56 (sStr nameB) (putP 73 (sStr valueB) puW1))
theorem puW2_dyn : isDyn puW2 = false := by simp only [puW2, go_sem, Nat.reduceEqDiff]
attribute [go_sem] puW2_dyn
theorem puW2_ok : PuOK Tryz.prog puW2 := .put (.put (.put (puW1_ok) (sStr_ok fun s H h => vIsValue_calls s H h)) (sStr_ok fun s H h => vIsName_calls s H h)) (sStr_ok fun s H h => isNumeral_calls s H h)
theorem isEarly_calls (s : Bytes) (H : Heap) (hs : s.length ≤ Room) : ACalls Tryz.prog 144 [.str s] H fun x H' => x = .bool (earlyB s) ∧ H' = H := by
  have hsp := sSplit_room s 46 hs
  refine ACalls.of_code (X := { pure := puW2 }) puW2_ok Tryz.func144 (by kernel_rfl) rfl (by kernel_rfl) (Nat.le_of_ble_eq_true rfl) ?_
  simp -implicitDefEqProofs only [go_sem, Tryz.f144, puW2, puW1, puV1, puK, hsp]
  have hlen : (splitB 46 s).length ≤ 1099511627777 := by rw [splitB_len]; have := List.count_le_length (a := (46 : UInt8)) (l := s); have : Room = 1099511627776 := rfl; omega
  refine aloop_intro (σ := Nat) (fun i => [(0, .str s), (6, .sl ((splitB 46 s).map encBs) .unk), (7, .int .i64 (splitB 46 s).length), (8, .int .i64 i)]) (fun i G => G = H ∧ i ≤ (splitB 46 s).length ∧ ((splitB 46 s).take i).all wordB = true) (fun i => (splitB 46 s).length - i) 0 ?_ ?_ ?_
  · simp -implicitDefEqProofs only [go_sem]
  · simp
  rintro i r G hv ⟨rfl, hi, hp⟩
  have h0 := hv.1
  have h6 := hv.2.1
  have h7 := hv.2.2.1
  have h8 := hv.2.2.2.1
  clear hv
  by_cases g : i < (splitB 46 s).length
  rotate_left
  · have y0 : decide ((i : Int) < (splitB 46 s).length) = false := decide_eq_false (by omega)
    have e : i = (splitB 46 s).length := by omega
    subst e
    rw [List.take_length] at hp
    simp -implicitDefEqProofs only [go_sem, h0, h6, h7, h8, y0]
    exact Done.now ⟨by simp [earlyB, hp], rfl⟩
  have y0 : decide ((i : Int) < (splitB 46 s).length) = true := decide_eq_true (by omega)
  obtain ⟨w, hc⟩ : ∃ x, (splitB 46 s)[i]? = some x := ⟨(splitB 46 s)[i], List.getElem?_eq_getElem g⟩
  have hr := room_part hs hc
  have ws : IntKind.i64.wrap ((i : Int) + 1) = ((i + 1 : Nat) : Int) := by rw [Go.IntWalk.i64_in _ (by omega)]; omega
  have bad : wordB w = false → earlyB s = false := fun e => by
    unfold earlyB
    have : (splitB 46 s).all wordB = false := by rw [List.all_eq_false]; exact ⟨w, List.mem_of_getElem? hc, by simp [e]⟩
    rw [this]; rfl
  have good : wordB w = true → ((splitB 46 s).take (i + 1)).all wordB = true := fun e => by
    rw [List.take_add_one, hc]
    simp [List.all_append, hp, e]
  have hW := wordB.eq_1 w
  cases e1 : sEach isWd w 10 with
  | false =>
    rw [e1] at hW
    simp -implicitDefEqProofs only [go_sem, h0, h6, h7, h8, y0, hc, encBs, puW2, puW1, puV1, sEachW_eq, sStr_eq, hr, e1]
    exact Done.now ⟨by rw [bad (by rw [hW]; rfl)], rfl⟩
  | true =>
    rw [e1, Bool.true_and] at hW
    cases e2 : numB w with
    | false =>
      rw [e2] at hW
      simp -implicitDefEqProofs only [go_sem, h0, h6, h7, h8, y0, hc, encBs, puW2, puW1, puV1, sEachW_eq, sStr_eq, hr, e1, e2, ws]
      exact Again.mk (i + 1) (by simp -implicitDefEqProofs only [go_sem, h0, h6, h7, h8]) ⟨rfl, by omega, good (by rw [hW]; rfl)⟩ (by omega)
    | true =>
      obtain ⟨b, l, rfl⟩ : ∃ b l, w = b :: l := by
        cases w with
        | nil => exact absurd rfl (numB_ok e2).2.1
        | cons b l => exact ⟨b, l, rfl⟩
      rw [e2] at hW
      have hr' : l.length + 1 ≤ Room := by simpa using hr
      by_cases e3 : b = 48
      · have y3 : decide ((b.toNat : Int) = 48) = true := decide_eq_true (by rw [e3]; rfl)
        by_cases e4 : (b :: l) = [48]
        · have y4 : decide (¬ (b :: l) = [48]) = false := decide_eq_false (by simpa using e4)
          have y4' : decide ((b :: l) ≠ [48]) = false := y4
          rw [y4'] at hW
          simp -implicitDefEqProofs only [go_sem, h0, h6, h7, h8, y0, hc, encBs, puW2, puW1, puV1, sEachW_eq, sStr_eq, hr', hr, e1, e2, y3, y4, ws, Int.toNat_zero, Int.le_refl]
          exact Again.mk (i + 1) (by simp -implicitDefEqProofs only [go_sem, h0, h6, h7, h8]) ⟨rfl, by omega, good (by rw [hW]; simp)⟩ (by omega)
        · have y4 : decide (¬ (b :: l) = [48]) = true := decide_eq_true e4
          have y4' : decide ((b :: l) ≠ [48]) = true := y4
          rw [y4'] at hW
          simp -implicitDefEqProofs only [go_sem, h0, h6, h7, h8, y0, hc, encBs, puW2, puW1, puV1, sEachW_eq, sStr_eq, hr', hr, e1, e2, y3, y4, Int.toNat_zero, Int.le_refl]
          exact Done.now ⟨by rw [bad (by rw [hW, e3]; rfl)], rfl⟩
      · have y3 : decide ((b.toNat : Int) = 48) = false := decide_eq_false fun e => e3 (UInt8.toNat_inj.1 (by rw [show (48 : UInt8).toNat = 48 from rfl]; omega))
        have hh : decide ((b :: l).head? = some 48) = false := decide_eq_false (by simpa using e3)
        rw [hh] at hW
        simp -implicitDefEqProofs only [go_sem, h0, h6, h7, h8, y0, hc, encBs, puW2, puW1, puV1, sEachW_eq, sStr_eq, hr', hr, e1, e2, y3, ws, Int.toNat_zero, Int.le_refl]
        exact Again.mk (i + 1) (by simp -implicitDefEqProofs only [go_sem, h0, h6, h7, h8]) ⟨rfl, by omega, good (by rw [hW]; simp)⟩ (by omega)
theorem vOutside_calls (n lo hi : Int) (H : Heap) : ACalls Tryz.prog 143 [.int .i64 n, .int .i64 lo, .int .i64 hi] H fun x H' => x = .bool (outI n lo hi) ∧ H' = H := by
  refine ACalls.of_code (X := { pure := pu0 }) pu0_ok Tryz.func143 (by kernel_rfl) rfl (by kernel_rfl) (Nat.le_of_ble_eq_true rfl) ?_
  simp -implicitDefEqProofs only [go_sem, Tryz.f143]
  unfold outI
  cases e1 : decide (n < lo) <;> cases e2 : decide (hi < n)
  all_goals
    simp -implicitDefEqProofs only [go_sem, e1, e2]
    exact Done.now ⟨rfl, rfl⟩
def sOut : List AV → Option AV
  | [.int .i64 n, .int .i64 lo, .int .i64 hi] => some (.bool (outI n lo hi))
  | _ => none
theorem sOut_eq (n lo hi : Int) : sOut [.int .i64 n, .int .i64 lo, .int .i64 hi] = some (.bool (outI n lo hi)) := rfl
theorem sOut_ok {P : Program} {f : FuncId} (h : ∀ n lo hi H, ACalls P f [.int .i64 n, .int .i64 lo, .int .i64 hi] H fun x H' => x = .bool (outI n lo hi) ∧ H' = H) : Pur P f sOut := by
  intro xs v hv H
  unfold sOut at hv
  split at hv
  · cases hv; exact h _ _ _ H
  · cases hv
def puW3 : Pures := putP 144 (sStr earlyB) (putP 143 sOut puW2)
theorem puW3_dyn : isDyn puW3 = false := by simp only [puW3, go_sem, Nat.reduceEqDiff]
attribute [go_sem] puW3_dyn
theorem puW3_ok : PuOK Tryz.prog puW3 := .put (.put (puW2_ok) (sOut_ok vOutside_calls)) (sStr_ok fun s H h => isEarly_calls s H h)
def verR (v : VerV) : Prop := v.early.length ≤ 1099511627776
def VerI (v : VerV) (i : Nat) : Prop := i ≤ 3 ∧ (0 < i → outI v.major 0 999999 = false) ∧ (1 < i → outI v.minor 0 999999 = false) ∧ (2 < i → outI v.patch 0 999999 = false)
def VerQ (v : VerV) (G1 : Heap) (i1 : Nat) (r : Regs) (G : Heap) : Prop := verOut v = false ∧ G = G1 ∧ r 1 = .ptr i1 0
theorem verCheck_calls (v : VerV) (H : Heap) (hr : verR v) : ACalls Tryz.prog 70 [.agg (encVer v)] H fun x H' => x = .int .i64 (verErr v) ∧ H' = H := by
  have hS := Heap.Sub.rfl' H
  have hs : v.early.length ≤ Room := hr
  have hv := verErr.eq_1 v
  unfold verOut at hv
  refine ACalls.of_code (X := { pure := puW3 }) puW3_ok Tryz.func70 (by kernel_rfl) rfl (by kernel_rfl) (Nat.le_of_ble_eq_true rfl) ?_
  simp -implicitDefEqProofs only [go_sem, Tryz.f70, encVer]
  with_reducible refine nwC_intro fun i1 hi1 => ?_
  generalize E1 : Heap.put H i1 _ = G1
  have hO_1 := obj_new E1 hi1 hS
  have n1 := hO_1.1
  have hS := hO_1.2.1
  have g1 := hO_1.2.2.1
  clear hO_1
  simp -implicitDefEqProofs only [go_sem, g1]
  with_reducible refine aloop_cut 0 (VerQ v G1 i1) ?_ ?_
  rotate_left
  · refine aloop_intro (σ := Nat) (fun i => [(1, .ptr i1 0), (11, .agg [.int .i64 v.major, .int .i64 v.minor, .int .i64 v.patch]), (12, .int .i64 i)])
      (fun i G => G = G1 ∧ VerI v i) (fun i => 3 - i) 0 ?_ ?_ ?_
    · simp -implicitDefEqProofs only [go_sem]
    · exact ⟨rfl, by omega, fun h => by omega, fun h => by omega, fun h => by omega⟩
    rintro i r G hw ⟨rfl, hi, b0, b1, b2⟩
    have h1 := hw.1
    have h11 := hw.2.1
    have h12 := hw.2.2.1
    clear hw
    have q := fun n => sOut_eq n 0 999999
    have bad : verOut v = true → verErr v = 3 := fun e => by unfold verErr; rw [if_pos e]
    have ws : IntKind.i64.wrap ((i : Int) + 1) = ((i + 1 : Nat) : Int) := by rw [Go.IntWalk.i64_in _ (by omega)]; omega
    obtain rfl | rfl | rfl | rfl : i = 0 ∨ i = 1 ∨ i = 2 ∨ i = 3 := by omega
    · have y0 : decide (((0 : Nat) : Int) < 3) = true := rfl
      cases e : outI v.major 0 999999 with
      | true =>
        simp -implicitDefEqProofs only [go_sem, h1, h11, h12, y0, puW3, q, e, Int.toNat_natCast, Int.natCast_nonneg]
        exact Done.drop hS ⟨by rw [bad (by unfold verOut; rw [e]; rfl)], rfl⟩
      | false =>
        simp -implicitDefEqProofs only [go_sem, h1, h11, h12, y0, puW3, q, e, ws, Int.toNat_natCast, Int.natCast_nonneg]
        exact Again.mk 1 (by simp -implicitDefEqProofs only [go_sem, h1, h11, h12]; exact rfl) ⟨rfl, by omega, fun _ => e, fun h => by omega, fun h => by omega⟩ (by omega)
    · have b0 := b0 (by omega)
      have y0 : decide (((1 : Nat) : Int) < 3) = true := rfl
      have z1 : decide ((1 : Int) < 3) = true := rfl
      cases e : outI v.minor 0 999999 with
      | true =>
        simp -implicitDefEqProofs only [go_sem, h1, h11, h12, y0, z1, puW3, q, e, Int.toNat_natCast, Int.natCast_nonneg, Int.toNat_one]
        exact Done.drop hS ⟨by rw [bad (by unfold verOut; rw [b0, e]; rfl)], rfl⟩
      | false =>
        simp -implicitDefEqProofs only [go_sem, h1, h11, h12, y0, z1, puW3, q, e, ws, Int.toNat_natCast, Int.natCast_nonneg, Int.toNat_one]
        exact Again.mk 2 (by simp -implicitDefEqProofs only [go_sem, h1, h11, h12]; exact rfl) ⟨rfl, by omega, fun _ => b0, fun _ => e, fun h => by omega⟩ (by omega)
    · have b0 := b0 (by omega)
      have b1 := b1 (by omega)
      have y0 : decide (((2 : Nat) : Int) < 3) = true := rfl
      cases e : outI v.patch 0 999999 with
      | true =>
        simp -implicitDefEqProofs only [go_sem, h1, h11, h12, y0, puW3, q, e, Int.toNat_natCast, Int.natCast_nonneg]
        exact Done.drop hS ⟨by rw [bad (by unfold verOut; rw [b0, b1, e]; rfl)], rfl⟩
      | false =>
        simp -implicitDefEqProofs only [go_sem, h1, h11, h12, y0, puW3, q, e, ws, Int.toNat_natCast, Int.natCast_nonneg]
        exact Again.mk 3 (by simp -implicitDefEqProofs only [go_sem, h1, h11, h12]; exact rfl) ⟨rfl, by omega, fun _ => b0, fun _ => b1, fun _ => e⟩ (by omega)
    · have y0 : decide (((3 : Nat) : Int) < 3) = false := rfl
      simp -implicitDefEqProofs only [go_sem, h1, h11, h12, y0]
      exact ⟨by unfold verOut; rw [b0 (by omega), b1 (by omega), b2 (by omega)]; rfl, rfl, by simp -implicitDefEqProofs only [go_sem, h1]⟩
  clear hv
  have hv := verErr.eq_1 v
  rintro r G ⟨ho, rfl, h1⟩
  rw [if_neg (by simp [ho])] at hv
  by_cases c : v.early = []
  · have y1 : decide (¬ v.early = []) = false := decide_eq_false (by simpa using c)
    rw [if_neg (fun h => h.1 c)] at hv
    simp -implicitDefEqProofs only [go_sem, h1, g1, y1]
    exact Done.drop hS ⟨by rw [hv], rfl⟩
  have y1 : decide (¬ v.early = []) = true := decide_eq_true c
  cases e : earlyB v.early with
  | true =>
    rw [if_neg (fun h => by rw [e] at h; cases h.2)] at hv
    simp -implicitDefEqProofs only [go_sem, h1, g1, y1, puW3, sStr_eq, hs, e]
    exact Done.drop hS ⟨by rw [hv], rfl⟩
  | false =>
    rw [if_pos ⟨c, e⟩] at hv
    simp -implicitDefEqProofs only [go_sem, h1, g1, y1, puW3, sStr_eq, hs, e]
    exact Done.drop hS ⟨by rw [hv], rfl⟩
end Go.Proofs

/- Walks: versions compared, on the program's side. -/
namespace Go.Proofs
open Go Go.Abs
set_option linter.unusedSimpArgs false
set_option linter.unusedVariables false
set_option maxRecDepth 20000
theorem isNaNI_calls (n : Int) (H : Heap) : ACalls Tryz.prog 137 [.int .i64 n] H fun x H' => x = .bool false ∧ H' = H := by
  have y1 : decide (¬ n = n) = false := decide_eq_false (by simp)
  refine ACalls.of_code (X := { pure := pu0 }) pu0_ok Tryz.func137 (by kernel_rfl) rfl (by kernel_rfl) (Nat.le_of_ble_eq_true rfl) ?_
  simp -implicitDefEqProofs only [go_sem, Tryz.f137, y1]
  exact Done.now ⟨rfl, rfl⟩
def sNaN : List AV → Option AV
  | [.int .i64 _] => some (.bool false)
  | _ => none
theorem sNaN_eq (n : Int) : sNaN [.int .i64 n] = some (.bool false) := rfl
theorem sNaN_ok {P : Program} {f : FuncId} (h : ∀ n H, ACalls P f [.int .i64 n] H fun x H' => x = .bool false ∧ H' = H) : Pur P f sNaN := by
  intro xs v hv H
  unfold sNaN at hv
  split at hv
  · cases hv; exact h _ H
  · cases hv
def puW4 : Pures := putP 137 sNaN puW3
theorem puW4_dyn : isDyn puW4 = false := by simp only [puW4, go_sem, Nat.reduceEqDiff]
attribute [go_sem] puW4_dyn
theorem puW4_ok : PuOK Tryz.prog puW4 := .put (puW3_ok) (sNaN_ok isNaNI_calls)
theorem cmpI_calls (m n : Int) (H : Heap) : ACalls Tryz.prog 60 [.int .i64 m, .int .i64 n] H fun x H' => x = .int .i64 (cmpI m n) ∧ H' = H := by
  have hv := cmpI.eq_1 m n
  by_cases h1 : m < n
  · have y1 : decide (m < n) = true := decide_eq_true h1
    rw [if_pos h1] at hv
    refine ACalls.of_code (X := { pure := puW4 }) puW4_ok Tryz.func60 (by kernel_rfl) rfl (by kernel_rfl) (Nat.le_of_ble_eq_true rfl) ?_
    simp -implicitDefEqProofs only [go_sem, Tryz.f60, puW4, sNaN_eq, y1]
    exact Done.now ⟨by rw [hv], rfl⟩
  have y1 : decide (m < n) = false := decide_eq_false h1
  rw [if_neg h1] at hv
  by_cases h2 : n < m
  · have y2 : decide (n < m) = true := decide_eq_true h2
    rw [if_pos h2] at hv
    refine ACalls.of_code (X := { pure := puW4 }) puW4_ok Tryz.func60 (by kernel_rfl) rfl (by kernel_rfl) (Nat.le_of_ble_eq_true rfl) ?_
    simp -implicitDefEqProofs only [go_sem, Tryz.f60, puW4, sNaN_eq, y1, y2]
    exact Done.now ⟨by rw [hv], rfl⟩
  · have y2 : decide (n < m) = false := decide_eq_false h2
    rw [if_neg h2] at hv
    refine ACalls.of_code (X := { pure := puW4 }) puW4_ok Tryz.func60 (by kernel_rfl) rfl (by kernel_rfl) (Nat.le_of_ble_eq_true rfl) ?_
    simp -implicitDefEqProofs only [go_sem, Tryz.f60, puW4, sNaN_eq, y1, y2]
    exact Done.now ⟨by rw [hv], rfl⟩
def sCmpI : List AV → Option AV
  | [.int .i64 m, .int .i64 n] => some (.int .i64 (cmpI m n))
  | _ => none
theorem sCmpI_eq (m n : Int) : sCmpI [.int .i64 m, .int .i64 n] = some (.int .i64 (cmpI m n)) := rfl
theorem sCmpI_ok {P : Program} {f : FuncId} (h : ∀ m n H, ACalls P f [.int .i64 m, .int .i64 n] H fun x H' => x = .int .i64 (cmpI m n) ∧ H' = H) : Pur P f sCmpI := by
  intro xs v hv H
  unfold sCmpI at hv
  split at hv
  · cases hv; exact h _ _ H
  · cases hv
def encZ (n : Int) : List AV := [.int .i64 n]
theorem orI_calls (l : List Int) (t : Tail) (H : Heap) (hl : l.length ≤ 1099511627776) : ACalls Tryz.prog 123 [.sl (l.map encZ) t] H fun x H' => x = .int .i64 (orI l) ∧ H' = H := by
  refine ACalls.of_code (X := { pure := puW4 }) puW4_ok Tryz.func123 (by kernel_rfl) rfl (by kernel_rfl) (Nat.le_of_ble_eq_true rfl) ?_
  simp -implicitDefEqProofs only [go_sem, Tryz.f123]
  refine aloop_intro (σ := Nat) (fun i => [(3, .int .i64 0), (6, .sl (l.map encZ) t), (7, .int .i64 l.length), (8, .int .i64 i)])
    (fun i G => G = H ∧ i ≤ l.length ∧ orI l = orI (l.drop i)) (fun i => l.length - i) 0 ?_ ?_ ?_
  · simp -implicitDefEqProofs only [go_sem]
  · exact ⟨rfl, Nat.zero_le _, rfl⟩
  rintro i r G hv ⟨rfl, hi, hO⟩
  have h3 := hv.1
  have h6 := hv.2.1
  have h7 := hv.2.2.1
  have h8 := hv.2.2.2.1
  clear hv
  by_cases g : i < l.length
  rotate_left
  · have y0 : decide ((i : Int) < l.length) = false := decide_eq_false (by omega)
    obtain rfl : i = l.length := by omega
    rw [List.drop_length, orI] at hO
    simp -implicitDefEqProofs only [go_sem, h3, h6, h7, h8, y0]
    exact Done.now ⟨by rw [hO], rfl⟩
  have y0 : decide ((i : Int) < l.length) = true := decide_eq_true (by omega)
  obtain ⟨x, hx⟩ : ∃ x, l[i]? = some x := getD_get' g
  have ws : IntKind.i64.wrap ((i : Int) + 1) = ((i + 1 : Nat) : Int) := by rw [Go.IntWalk.i64_in _ (by omega)]; omega
  have hU : ∀ (a : Int), a ∈ l → (encZ a).length = 1 := fun _ _ => rfl
  rw [dropAt hx, orI] at hO
  by_cases h0 : x = 0
  · have y1 : decide (¬ x = 0) = false := decide_eq_false (by simpa using h0)
    rw [if_pos h0] at hO
    simp -implicitDefEqProofs only [go_sem, h3, h6, h7, h8, y0, hx, encZ, y1, ws]
    exact Again.mk (i + 1) (by simp -implicitDefEqProofs only [go_sem, h3, h6, h7, h8]) ⟨rfl, by omega, hO⟩ (by omega)
  · have y1 : decide (¬ x = 0) = true := decide_eq_true h0
    rw [if_neg h0] at hO
    simp -implicitDefEqProofs only [go_sem, h3, h6, h7, h8, y0, hx, encZ, y1]
    exact Done.now ⟨by rw [hO], rfl⟩
def decZ : List AV → Option Int
  | [.int .i64 n] => some n
  | _ => none
theorem decZ_enc (n : Int) : decZ (encZ n) = some n := rfl
theorem decZ_some {c : List AV} {n : Int} (h : decZ c = some n) : c = encZ n := by
  unfold decZ at h
  split at h
  · cases h; rfl
  · cases h
def sOrI : List AV → Option AV := fn1 (Rd.list decZ) fun l => if l.length ≤ 1099511627776 then some (.int .i64 (orI l)) else none
theorem sOrI_eq (l : List Int) (t : Tail) (h : l.length ≤ 1099511627776) : sOrI [.sl (l.map encZ) t] = some (.int .i64 (orI l)) := by
  unfold sOrI
  rw [fn1_eq, Rd.list_eq decZ_enc]
  simp only [Option.bind_some, if_pos h]
theorem sOrI_ok : Pur Tryz.prog 123 sOrI := by
  intro xs v hv H
  obtain ⟨x, l, rfl, h1, h2⟩ := fn1_some hv
  split at h2
  · rename_i h
    cases h2
    obtain ⟨t, rfl⟩ := Rd.list_some (enc := encZ) (fun _ _ => decZ_some) h1
    exact orI_calls l t H h
  · cases h2
def puW5 : Pures := putP 123 sOrI (putP 60 sCmpI puW4)
theorem puW5_dyn : isDyn puW5 = false := by simp only [puW5, go_sem, Nat.reduceEqDiff]
attribute [go_sem] puW5_dyn
theorem puW5_ok : PuOK Tryz.prog puW5 := .put (.put (puW4_ok) (sCmpI_ok cmpI_calls)) sOrI_ok
theorem compareWords_calls (a b : Bytes) (H : Heap) (ha : a.length ≤ Room) (hb : b.length ≤ Room) : ACalls Tryz.prog 185 [.str a, .str b] H fun x H' => x = .int .i64 (wordCmp a b) ∧ H' = H := by
  have hv := wordCmp.eq_1 a b
  have n1 := isNumeral_calls a
  have n2 := isNumeral_calls b
  cases e1 : numB a with
  | true =>
    cases e2 : numB b with
    | true =>
      rw [e1, e2, if_pos (by simp)] at hv
      by_cases hl : a.length = b.length
      · rw [if_pos hl] at hv
        have y1 : decide (¬ (a.length : Int) = b.length) = false := decide_eq_false (by omega)
        refine ACalls.of_code (X := { pure := puW5 }) puW5_ok Tryz.func185 (by kernel_rfl) rfl (by kernel_rfl) (Nat.le_of_ble_eq_true rfl) ?_
        simp -implicitDefEqProofs only [go_sem, Tryz.f185, puW5, puW4, puW3, puW2, puW1, puV1, puK, puK5, sCmpS_eq, sStr_eq, ha, hb, e1, e2, y1]
        exact Done.now ⟨by rw [hv], rfl⟩
      · rw [if_neg hl] at hv
        have y1 : decide (¬ (a.length : Int) = b.length) = true := decide_eq_true (by omega)
        refine ACalls.of_code (X := { pure := puW5 }) puW5_ok Tryz.func185 (by kernel_rfl) rfl (by kernel_rfl) (Nat.le_of_ble_eq_true rfl) ?_
        simp -implicitDefEqProofs only [go_sem, Tryz.f185, puW5, puW4, puW3, puW2, puW1, puV1, puK, puK5, sCmpS_eq, sStr_eq, ha, hb, e1, e2, y1, sCmpI_eq]
        exact Done.now ⟨by rw [hv], rfl⟩
    | false =>
      rw [e1, e2, if_neg (by simp), if_pos rfl] at hv
      refine ACalls.of_code (X := { pure := puW5 }) puW5_ok Tryz.func185 (by kernel_rfl) rfl (by kernel_rfl) (Nat.le_of_ble_eq_true rfl) ?_
      simp -implicitDefEqProofs only [go_sem, Tryz.f185, puW5, puW4, puW3, puW2, puW1, puV1, puK, puK5, sCmpS_eq, sStr_eq, ha, hb, e1, e2]
      exact Done.now ⟨by rw [hv], rfl⟩
  | false =>
    cases e2 : numB b with
    | true =>
      rw [e1, e2, if_neg (by simp), if_neg (by simp), if_pos rfl] at hv
      refine ACalls.of_code (X := { pure := puW5 }) puW5_ok Tryz.func185 (by kernel_rfl) rfl (by kernel_rfl) (Nat.le_of_ble_eq_true rfl) ?_
      simp -implicitDefEqProofs only [go_sem, Tryz.f185, puW5, puW4, puW3, puW2, puW1, puV1, puK, puK5, sCmpS_eq, sStr_eq, ha, hb, e1, e2]
      exact Done.now ⟨by rw [hv], rfl⟩
    | false =>
      rw [e1, e2, if_neg (by simp), if_neg (by simp), if_neg (by simp)] at hv
      refine ACalls.of_code (X := { pure := puW5 }) puW5_ok Tryz.func185 (by kernel_rfl) rfl (by kernel_rfl) (Nat.le_of_ble_eq_true rfl) ?_
      simp -implicitDefEqProofs only [go_sem, Tryz.f185, puW5, puW4, puW3, puW2, puW1, puV1, puK, puK5, sCmpS_eq, sStr_eq, ha, hb, e1, e2]
      exact Done.now ⟨by rw [hv], rfl⟩
def sWordC : List AV → Option AV := fn2 .str .str fun a b => if a.length ≤ Room ∧ b.length ≤ Room then some (.int .i64 (wordCmp a b)) else none
theorem sWordC_eq (a b : Bytes) (h : a.length ≤ Room ∧ b.length ≤ Room) : sWordC [.str a, .str b] = some (.int .i64 (wordCmp a b)) := by
  unfold sWordC
  rw [fn2_eq]
  show (if a.length ≤ Room ∧ b.length ≤ Room then some (AV.int .i64 (wordCmp a b)) else none) = _
  rw [if_pos h]
theorem sWordC_ok : Pur Tryz.prog 185 sWordC := by
  intro xs v hv H
  obtain ⟨x, y, p, q, rfl, h1, h2, h3⟩ := fn2_some hv
  split at h3
  · rename_i h
    cases h3
    cases Rd.str_some h1
    cases Rd.str_some h2
    exact compareWords_calls p q H h.1 h.2
  · cases h3
def puW6 : Pures := putP 185 sWordC puW5
theorem puW6_dyn : isDyn puW6 = false := by simp only [puW6, go_sem, Nat.reduceEqDiff]
attribute [go_sem] puW6_dyn
theorem puW6_ok : PuOK Tryz.prog puW6 := .put (puW5_ok) sWordC_ok
theorem wordsCmp_end (x y : List Bytes) (i : Nat) (hi : i = min x.length y.length) : wordsCmp (x.drop i) (y.drop i) = cmpI x.length y.length := by
  subst hi
  unfold cmpI
  rcases Nat.lt_trichotomy x.length y.length with h | h | h
  · rw [Nat.min_eq_left (by omega), List.drop_length, if_pos (by omega)]
    cases e : y.drop x.length with
    | nil => have := congrArg List.length e; simp at this; omega
    | cons a l => rfl
  · rw [Nat.min_eq_left (by omega), List.drop_length, h, List.drop_length, if_neg (by omega), if_neg (by omega)]
    rfl
  · rw [Nat.min_eq_right (by omega), List.drop_length, if_neg (by omega), if_pos (by omega)]
    cases e : x.drop y.length with
    | nil => have := congrArg List.length e; simp at this; omega
    | cons a l => rfl
set_option maxHeartbeats 1600000 in
theorem compareEarly_calls (a b : Bytes) (H : Heap) (ha : a.length ≤ Room) (hb : b.length ≤ Room) : ACalls Tryz.prog 145 [.str a, .str b] H fun x H' => x = .int .i64 (earlyCmp a b) ∧ H' = H := by
  have hv := earlyCmp.eq_1 a b
  by_cases c1 : a = b
  · have y1 : decide (a = b) = true := decide_eq_true c1
    rw [if_pos c1] at hv
    refine ACalls.of_code (X := { pure := puW6 }) puW6_ok Tryz.func145 (by kernel_rfl) rfl (by kernel_rfl) (Nat.le_of_ble_eq_true rfl) ?_
    simp -implicitDefEqProofs only [go_sem, Tryz.f145, y1]
    exact Done.now ⟨by rw [hv], rfl⟩
  have y1 : decide (a = b) = false := decide_eq_false c1
  rw [if_neg c1] at hv
  by_cases c2 : a = []
  · have y2 : decide (a = []) = true := decide_eq_true c2
    rw [if_pos c2] at hv
    refine ACalls.of_code (X := { pure := puW6 }) puW6_ok Tryz.func145 (by kernel_rfl) rfl (by kernel_rfl) (Nat.le_of_ble_eq_true rfl) ?_
    simp -implicitDefEqProofs only [go_sem, Tryz.f145, y1, y2]
    exact Done.now ⟨by rw [hv], rfl⟩
  have y2 : decide (a = []) = false := decide_eq_false c2
  rw [if_neg c2] at hv
  by_cases c3 : b = []
  · have y3 : decide (b = []) = true := decide_eq_true c3
    rw [if_pos c3] at hv
    refine ACalls.of_code (X := { pure := puW6 }) puW6_ok Tryz.func145 (by kernel_rfl) rfl (by kernel_rfl) (Nat.le_of_ble_eq_true rfl) ?_
    simp -implicitDefEqProofs only [go_sem, Tryz.f145, y1, y2, y3]
    exact Done.now ⟨by rw [hv], rfl⟩
  have y3 : decide (b = []) = false := decide_eq_false c3
  rw [if_neg c3] at hv
  have s1 := sSplit_room a 46 ha
  have s2 := sSplit_room b 46 hb
  have hR : Room = 1099511627776 := rfl
  have l1 : (splitB 46 a).length ≤ 1099511627777 := by rw [splitB_len]; have := List.count_le_length (a := (46 : UInt8)) (l := a); omega
  have l2 : (splitB 46 b).length ≤ 1099511627777 := by rw [splitB_len]; have := List.count_le_length (a := (46 : UInt8)) (l := b); omega
  have mm : min ((splitB 46 a).length : Int) (splitB 46 b).length = ((min (splitB 46 a).length (splitB 46 b).length : Nat) : Int) := by omega
  have r1 : ∀ {i : Nat} {w : Bytes}, (splitB 46 a)[i]? = some w → w.length ≤ Room := fun h => room_part ha h
  have r2 : ∀ {i : Nat} {w : Bytes}, (splitB 46 b)[i]? = some w → w.length ≤ Room := fun h => room_part hb h
  refine ACalls.of_code (X := { pure := puW6 }) puW6_ok Tryz.func145 (by kernel_rfl) rfl (by kernel_rfl) (Nat.le_of_ble_eq_true rfl) ?_
  simp -implicitDefEqProofs only [go_sem, Tryz.f145, y1, y2, y3, puW6, puW5, puW4, puW3, puW2, puW1, puV1, puK, s1, s2, mm]
  generalize splitB 46 a = x at *
  generalize splitB 46 b = y at *
  refine aloop_intro (σ := Nat) (fun i => [(5, .sl (x.map encBs) .unk), (6, .sl (y.map encBs) .unk), (27, .int .i64 ((min x.length y.length : Nat) : Int)), (28, .int .i64 i)])
    (fun i G => G = H ∧ i ≤ min x.length y.length ∧ wordsCmp x y = wordsCmp (x.drop i) (y.drop i)) (fun i => min x.length y.length - i) 0 ?_ ?_ ?_
  · simp -implicitDefEqProofs only [go_sem]
  · exact ⟨rfl, Nat.zero_le _, rfl⟩
  rintro i r G hw ⟨rfl, hi, hO⟩
  have h5 := hw.1
  have h6 := hw.2.1
  have h27 := hw.2.2.1
  have h28 := hw.2.2.2.1
  clear hw
  by_cases g : i < min x.length y.length
  rotate_left
  · have y0 : decide ((i : Int) < ((min x.length y.length : Nat) : Int)) = false := decide_eq_false (by omega)
    rw [wordsCmp_end x y i (by omega)] at hO
    simp -implicitDefEqProofs only [go_sem, h5, h6, h27, h28, y0, puW6, puW5, sCmpI_eq]
    exact Done.now ⟨by rw [hv, hO], rfl⟩
  have y0 : decide ((i : Int) < ((min x.length y.length : Nat) : Int)) = true := decide_eq_true (by omega)
  obtain ⟨p, hp⟩ : ∃ w, x[i]? = some w := getD_get' (by omega)
  obtain ⟨q, hq⟩ : ∃ w, y[i]? = some w := getD_get' (by omega)
  have hw := sWordC_eq p q ⟨r1 hp, r2 hq⟩
  have ws : IntKind.i64.wrap ((i : Int) + 1) = ((i + 1 : Nat) : Int) := by rw [Go.IntWalk.i64_in _ (by omega)]; omega
  have hU : ∀ (w : Bytes), (encBs w).length = 1 := fun _ => rfl
  rw [dropAt hp, dropAt hq, wordsCmp] at hO
  by_cases h0 : wordCmp p q = 0
  · have z1 : decide (¬ wordCmp p q = 0) = false := decide_eq_false (by simpa using h0)
    rw [if_pos h0] at hO
    simp -implicitDefEqProofs only [go_sem, h5, h6, h27, h28, y0, hp, hq, encBs, puW6, hw, z1, ws]
    exact Again.mk (i + 1) (by simp -implicitDefEqProofs only [go_sem, h5, h6, h27, h28]) ⟨rfl, by omega, hO⟩ (by omega)
  · have z1 : decide (¬ wordCmp p q = 0) = true := decide_eq_true h0
    rw [if_neg h0] at hO
    simp -implicitDefEqProofs only [go_sem, h5, h6, h27, h28, y0, hp, hq, encBs, puW6, hw, z1]
    exact Done.now ⟨by rw [hv, hO], rfl⟩
def sEarC : List AV → Option AV := fn2 .str .str fun a b => if a.length ≤ Room ∧ b.length ≤ Room then some (.int .i64 (earlyCmp a b)) else none
theorem sEarC_eq (a b : Bytes) (h : a.length ≤ Room ∧ b.length ≤ Room) : sEarC [.str a, .str b] = some (.int .i64 (earlyCmp a b)) := by
  unfold sEarC
  rw [fn2_eq]
  show (if a.length ≤ Room ∧ b.length ≤ Room then some (AV.int .i64 (earlyCmp a b)) else none) = _
  rw [if_pos h]
theorem sEarC_ok : Pur Tryz.prog 145 sEarC := by
  intro xs v hv H
  obtain ⟨x, y, p, q, rfl, h1, h2, h3⟩ := fn2_some hv
  split at h3
  · rename_i h
    cases h3
    cases Rd.str_some h1
    cases Rd.str_some h2
    exact compareEarly_calls p q H h.1 h.2
  · cases h3
def puW7 : Pures := putP 145 sEarC puW6
theorem puW7_dyn : isDyn puW7 = false := by simp only [puW7, go_sem, Nat.reduceEqDiff]
attribute [go_sem] puW7_dyn
theorem puW7_ok : PuOK Tryz.prog puW7 := .put (puW6_ok) sEarC_ok
theorem order_calls (a b : VerV) (H : Heap) (ha : verR a) (hb : verR b) : ACalls Tryz.prog 72 [.agg (encVer a), .agg (encVer b)] H fun x H' => x = .int .i64 (orderV a b) ∧ H' = H := by
  have hS := Heap.Sub.rfl' H
  have q1 := sEarC_eq a.early b.early ⟨ha, hb⟩
  have q2 := fun t => sOrI_eq [cmpI a.major b.major, cmpI a.minor b.minor, cmpI a.patch b.patch, earlyCmp a.early b.early] t (by simp)
  simp only [List.map_cons, List.map_nil, encZ] at q2
  refine ACalls.of_code (X := { pure := puW7 }) puW7_ok Tryz.func72 (by kernel_rfl) rfl (by kernel_rfl) (Nat.le_of_ble_eq_true rfl) ?_
  simp -implicitDefEqProofs only [go_sem, Tryz.f72, encVer]
  with_reducible refine nwC_intro fun i2 hi2 => ?_
  generalize E2 : Heap.put H i2 _ = G1
  have hO_2 := obj_new E2 hi2 hS
  have n2 := hO_2.1
  have hS := hO_2.2.1
  have g2 := hO_2.2.2.1
  clear hO_2
  simp -implicitDefEqProofs only [go_sem]
  with_reducible refine nwC_intro fun i3 hi3 => ?_
  generalize E3 : Heap.put G1 i3 _ = G2
  have hO_3 := obj_new E3 hi3 hS
  have n3 := hO_3.1
  have hS := hO_3.2.1
  have g3 := hO_3.2.2.1
  have d2_3 := obj_ne g2 hi3
  have g2 := hO_3.2.2.2 _ _ g2
  clear hO_3
  simp -implicitDefEqProofs only [go_sem, puW7, puW6, puW5, sCmpI_eq, q1, q2, g2, g3]
  exact Done.drop hS ⟨rfl, rfl⟩
end Go.Proofs
