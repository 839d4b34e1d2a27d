/-
  Walks and plain laws, part 8.
-/
import Derived.Test.YtncemkhlbhmobaaGreatDoorM7
import Derived.Test.YtncemkhlbhmobaaGreatDoorM2
import Derived.Test.YtncemkhlbhmobaaGreatDoorAbs4
import Derived.Test.YtncemkhlbhmobaaGreatDoorTy
import Derived.KernelRfl
import Derived.Shelf.SlIter.Nil
import Derived.Shelf.SortM.Plain
import Derived.Shelf.SortM.SortNone
import Derived.Test.YtncemkhlbhmobaaGreatDoorM6
import Derived.Test.YtncemkhlbhmobaaGreatDoorM1
/- Sorting by insertion, and leaving out what is there twice: plain Lean, no program. -/
namespace Go.Proofs
open Go Go.Abs
set_option linter.unusedSimpArgs false
set_option linter.unusedVariables false
theorem cmp_lt : ∀ (a b : Bytes), Lib.compareBytes a b < 0 ↔ strLt a b = true
  | [], [] => by simp [Lib.compareBytes, lt_irr]
  | [], b :: s => by
    rw [lt_lex, decide_eq_true_eq]
    simp only [Lib.compareBytes]
    exact ⟨fun _ => List.Lex.nil, fun _ => by decide⟩
  | a :: r, [] => by
    rw [lt_lex, decide_eq_true_eq]
    simp only [Lib.compareBytes]
    exact ⟨fun h => absurd h (by decide), fun h => by cases h⟩
  | a :: r, b :: s => by
    have ih := cmp_lt r s
    rw [lt_lex, decide_eq_true_eq] at ih ⊢
    simp only [Lib.compareBytes]
    by_cases h1 : a < b
    · rw [if_pos h1]
      exact ⟨fun _ => List.Lex.rel h1, fun _ => by decide⟩
    rw [if_neg h1]
    by_cases h2 : b < a
    · rw [if_pos h2]
      refine ⟨fun h => absurd h (by decide), fun h => ?_⟩
      cases h with
      | rel h => exact absurd h h1
      | cons h => exact absurd h2 h1
    · rw [if_neg h2]
      have e : a = b := UInt8.le_antisymm (UInt8.not_lt.1 h2) (UInt8.not_lt.1 h1)
      subst e
      rw [ih]
      exact ⟨fun h => List.Lex.cons h, fun h => by
        cases h with
        | rel h => exact absurd h h1
        | cons h => exact h⟩
section
variable {α : Type} (key : α → Bytes)
/-- No greater. -/
def LeK (a b : α) : Prop := strLt (key b) (key a) = false
variable {key}
theorem LeK.refl (a : α) : LeK key a a := lt_irr _
theorem LeK.of_lt {a b : α} (h : strLt (key a) (key b) = true) : LeK key a b := by
  unfold LeK
  cases hh : strLt (key b) (key a) with
  | false => rfl
  | true => have := lt_tr h hh; rw [lt_irr] at this; cases this
theorem LeK.lt_or {a b : α} (h : LeK key a b) : strLt (key a) (key b) = true ∨ key a = key b := by
  rcases lt_tri (key a) (key b) with t | t | t
  · exact .inl t
  · exact .inr t
  · unfold LeK at h; rw [h] at t; cases t
theorem LeK.of_eq {a b : α} (h : key a = key b) : LeK key a b := by unfold LeK; rw [h]; exact lt_irr _
theorem LeK.trans {a b c : α} (h1 : LeK key a b) (h2 : LeK key b c) : LeK key a c := by
  rcases h1.lt_or with t | t
  · rcases h2.lt_or with u | u
    · exact LeK.of_lt (lt_tr t u)
    · exact LeK.of_lt (u ▸ t)
  · rcases h2.lt_or with u | u
    · exact LeK.of_lt (t ▸ u)
    · exact LeK.of_eq (t.trans u)
theorem LeK.lt_of_lt {a b c : α} (h1 : LeK key a b) (h2 : strLt (key b) (key c) = true) : strLt (key a) (key c) = true := by
  rcases h1.lt_or with t | t
  · exact lt_tr t h2
  · exact t ▸ h2
/-- In order up to a place. -/
def SortTo (key : α → Bytes) (l : List α) (n : Nat) : Prop := ∀ a b x y, a < b → b < n → l[a]? = some x → l[b]? = some y → LeK key x y
/-- In order up to a place, but for the thing at j, which is no greater than those behind it. -/
def SortBut (key : α → Bytes) (l : List α) (n j : Nat) : Prop := ∀ a b x y, a < b → b < n → ¬ b = j → l[a]? = some x → l[b]? = some y → LeK key x y
theorem SortTo.but {l : List α} {n : Nat} (h : SortTo key l n) : SortBut key l (n + 1) n := fun a b x y h1 h2 h3 h4 h5 => h a b x y h1 (by omega) h4 h5
theorem SortBut.stop0 {l : List α} {n : Nat} (h : SortBut key l n 0) : SortTo key l n := fun a b x y h1 h2 h4 h5 => h a b x y h1 h2 (by omega) h4 h5
theorem SortBut.stop {l : List α} {n j : Nat} {u v : α} (h : SortBut key l n j) (hj : 0 < j) (hu : l[j - 1]? = some u) (hv : l[j]? = some v) (hle : LeK key u v) : SortTo key l n := fun a b x y h1 h2 h4 h5 => by
  by_cases e : b = j
  · subst e
    rw [hv] at h5; cases h5
    by_cases e2 : a = b - 1
    · subst e2; rw [hu] at h4; cases h4; exact hle
    · exact (h a (b - 1) x u (by omega) (by omega) (by omega) h4 hu).trans hle
  · exact h a b x y h1 h2 e h4 h5
def swapL (l : List α) (i j : Nat) (u v : α) : List α := (l.set i v).set j u
theorem swapL_get {l : List α} {j : Nat} {u v : α} (hj : 0 < j) (hlt : j < l.length) (a : Nat) : (swapL l j (j - 1) v u)[a]? = if a = j then some u else if a = j - 1 then some v else l[a]? := by
  unfold swapL
  rw [List.getElem?_set, List.getElem?_set]
  by_cases e : j - 1 = a
  · subst e
    rw [if_pos rfl, if_pos (by rw [List.length_set]; omega), if_neg (by omega), if_pos rfl]
  · rw [if_neg e]
    by_cases e2 : j = a
    · subst e2
      rw [if_pos rfl, if_pos rfl, if_pos hlt]
    · rw [if_neg e2, if_neg (fun h => e2 h.symm), if_neg (fun h => e h.symm)]
theorem swap_perm {l : List α} {j : Nat} {u v : α} (hj : 0 < j) (hu : l[j - 1]? = some u) (hv : l[j]? = some v) : (swapL l j (j - 1) v u).Perm l := by
  have h1 : j < l.length := (List.getElem?_eq_some_iff.1 hv).1
  obtain ⟨k, rfl⟩ : ∃ k, j = k + 1 := ⟨j - 1, by omega⟩
  simp only [Nat.add_sub_cancel] at hu ⊢
  have e1 : l = l.take k ++ u :: v :: l.drop (k + 2) := by
    conv => lhs; rw [← List.take_append_drop k l, drop_at hu, drop_at hv]
  have e2 : swapL l (k + 1) k v u = l.take k ++ v :: u :: l.drop (k + 2) := by
    unfold swapL
    refine List.ext_getElem? fun a => ?_
    have hk : (l.take k).length = k := by rw [List.length_take]; omega
    by_cases ha : a < k
    · rw [List.getElem?_set_ne (by omega), List.getElem?_set_ne (by omega), List.getElem?_append_left (by omega), List.getElem?_take, if_pos ha]
    · rw [List.getElem?_append_right (by omega), hk]
      by_cases e : a = k
      · subst e
        rw [List.getElem?_set_self (by rw [List.length_set]; omega)]; simp
      by_cases e2 : a = k + 1
      · subst e2
        rw [List.getElem?_set_ne (by omega), List.getElem?_set_self h1]
        simp
      · rw [List.getElem?_set_ne (by omega), List.getElem?_set_ne (by omega)]
        obtain ⟨t, rfl⟩ : ∃ t, a = k + 2 + t := ⟨a - (k + 2), by omega⟩
        rw [show k + 2 + t - k = t + 2 by omega, List.getElem?_cons_succ, List.getElem?_cons_succ, List.getElem?_drop]
  rw [e2]
  conv => rhs; rw [e1]
  exact List.Perm.append_left _ (List.Perm.swap u v _)
theorem SortBut.swap {l : List α} {n j : Nat} {u v : α} (h : SortBut key l n j) (hj : 0 < j) (hn : j < n) (hu : l[j - 1]? = some u) (hv : l[j]? = some v) (hlt : strLt (key v) (key u) = true) : SortBut key (swapL l j (j - 1) v u) n (j - 1) := fun a b x y h1 h2 h3 h4 h5 => by
  have hlen : j < l.length := (List.getElem?_eq_some_iff.1 hv).1
  rw [swapL_get hj hlen] at h4 h5
  by_cases eb : b = j
  · rw [if_pos eb] at h5
    cases h5
    rw [if_neg (by omega)] at h4
    by_cases ea : a = j - 1
    · rw [if_pos ea] at h4
      cases h4
      exact LeK.of_lt hlt
    · rw [if_neg ea] at h4
      exact h a (j - 1) x u (by omega) (by omega) (by omega) h4 hu
  · rw [if_neg eb, if_neg h3] at h5
    by_cases ea : a = j
    · rw [if_pos ea] at h4
      cases h4
      exact h (j - 1) b u y (by omega) h2 eb hu h5
    rw [if_neg ea] at h4
    by_cases ea2 : a = j - 1
    · rw [if_pos ea2] at h4
      cases h4
      exact h j b v y (by omega) h2 eb hv h5
    · rw [if_neg ea2] at h4
      exact h a b x y h1 h2 eb h4 h5
/-- A list that rises, by places. -/
theorem asc_snoc {l : List α} {x : α} (h : Asc key l) (hx : ∀ y ∈ l, strLt (key y) (key x) = true) : Asc key (l ++ [x]) := by
  unfold Asc
  rw [List.pairwise_append]
  exact ⟨h, by simp, fun a ha b hb => by rw [List.mem_singleton.1 hb]; exact hx a ha⟩
end
/-! ### Cells of a list of rows -/
section
variable {α : Type} {enc : α → List AV} {k : Nat}
theorem flatU_len (hu : ∀ a, (enc a).length = k) (l : List α) : (l.map enc).flatten.length = l.length * k := by
  rw [flatten_len (k := k) (fun c hc => by obtain ⟨a, -, rfl⟩ := List.mem_map.1 hc; exact hu a), List.length_map]
theorem flatU_get (hu : ∀ a, (enc a).length = k) : ∀ {l : List α} {j : Nat} {p : α}, l[j]? = some p → ((l.map enc).flatten.drop (j * k)).take k = enc p
  | [], j, p, h => by simp at h
  | x :: l, 0, p, h => by
    simp at h; subst h
    simp only [List.map_cons, List.flatten_cons, Nat.zero_mul, List.drop_zero]
    rw [List.take_append_of_le_length (by rw [hu]; exact Nat.le_refl _), List.take_of_length_le (by rw [hu]; exact Nat.le_refl _)]
  | x :: l, j + 1, p, h => by
    rw [List.map_cons, List.flatten_cons, Nat.succ_mul, Nat.add_comm, List.drop_append, hu, List.drop_of_length_le (by rw [hu]; omega), List.nil_append, Nat.add_sub_cancel_left]
    exact flatU_get hu (by simpa using h)
theorem flatU_set (hu : ∀ a, (enc a).length = k) : ∀ {l : List α} {j : Nat} (q : α), j < l.length → (l.map enc).flatten.take (j * k) ++ enc q ++ (l.map enc).flatten.drop (j * k + k) = ((l.set j q).map enc).flatten
  | [], j, q, h => by simp at h
  | x :: l, 0, q, h => by
    simp only [List.map_cons, List.flatten_cons, Nat.zero_mul, List.take_zero, List.nil_append, Nat.zero_add, List.set_cons_zero]
    rw [List.drop_append, hu, List.drop_of_length_le (by rw [hu]; omega), List.nil_append, Nat.sub_self, List.drop_zero]
  | x :: l, j + 1, q, h => by
    rw [List.map_cons, List.flatten_cons, List.set_cons_succ, List.map_cons, List.flatten_cons, ← flatU_set hu (l := l) (j := j) q (by simpa using h)]
    rw [List.take_append, hu, List.drop_append, hu, List.take_of_length_le (by rw [hu, Nat.succ_mul]; omega), List.drop_of_length_le (by rw [hu, Nat.succ_mul]; omega), List.nil_append]
    rw [show (j + 1) * k - k = j * k by rw [Nat.succ_mul]; omega, show (j + 1) * k + k - k = j * k + k by rw [Nat.succ_mul]; omega]
    simp only [List.append_assoc]
theorem flatU_write (hu : ∀ a, (enc a).length = k) {l : List α} {j : Nat} (q : α) (h : j < l.length) : writeC (l.map enc).flatten (j * k) (enc q) = ((l.set j q).map enc).flatten := by
  rw [← flatU_set hu q h]
  unfold writeC
  have hl := flatU_len hu l
  have hk := hu q
  have h2 : j * k + k ≤ l.length * k := by
    have := Nat.mul_le_mul_right k (show j + 1 ≤ l.length by omega)
    rw [Nat.succ_mul] at this; exact this
  split
  · rename_i v hv
    have hk2 := hk
    rw [hv] at hk2
    have hk1 : k = 1 := by simpa using hk2.symm
    subst hk1
    rw [List.set_eq_take_append_cons_drop, if_pos (by omega), hv]
    simp
  · rw [hk]
end
end Go.Proofs

/- What one step forgets at the end of a function: when a map's entries were born. -/
namespace Go.Proofs
open Go Go.Abs Go.RowKit
set_option linter.unusedSimpArgs false
set_option linter.unusedVariables false
theorem put_owned {C : Cx} {H : Heap} {id : Nat} {o o' : AObj} (hm : H id = some o) (ho : ∀ j, o'.owns j ↔ o.owns j) (b j : Nat) : Owned C (H.put id o') b j ↔ Owned C H b j := by
  constructor
  · rintro ⟨i, p, h1, h2, h3⟩
    by_cases e : i = id
    · subst e
      rw [put_same] at h1
      cases h1
      exact ⟨i, o, hm, h2, (ho j).1 h3⟩
    · rw [put_ne _ _ _ _ e] at h1
      exact ⟨i, p, h1, h2, h3⟩
  · rintro ⟨i, p, h1, h2, h3⟩
    by_cases e : i = id
    · subst e
      rw [hm] at h1
      cases h1
      exact ⟨i, o', put_same _ _ _, h2, (ho j).2 h3⟩
    · exact ⟨i, p, by rw [put_ne _ _ _ _ e]; exact h1, h2, h3⟩
/-- When the entries were born is forgotten. -/
theorem _root_.Go.Abs.Ghost.unborn {P : Program} {H : Heap} {x : AV} {id : Nat} {kk : KK} {es : List (Key × AV)} {bs : List Nat} {cl : Nat} (hm : H id = some (.bmap kk es bs cl)) : Ghost P x H x (H.put id (.map kk es)) := fun C w v h1 h2 => by
  have hle : Le C H w C (H.put id (.map kk es)) w := ⟨Nat.le_refl _, fun _ _ => rfl, rfl, fun _ _ h => h, fun b off h => ⟨⟨h.1, fun h3 => h.2 ((put_owned (o' := .map kk es) hm (fun j => Iff.rfl) b off).1 h3)⟩, rfl⟩, Below.refl _ _⟩
  refine ⟨C, ⟨fun i o hi => ?_, fun i j oi oj hi hj => ?_, h1.base, h1.tab.le hle⟩, hle, h2.mono hle⟩
  · by_cases e : i = id
    · subst e
      rw [put_same] at hi
      cases hi
      obtain ⟨g1, g2, fs, a1, a2, a3, a4, a5⟩ := h1.live i _ hm
      exact ⟨g1, g2, fs, cl, a1, a2.mono hle, a4, a5⟩
    · rw [put_ne _ _ _ _ e] at hi
      obtain ⟨g1, g2, g3⟩ := h1.live i o hi
      exact ⟨g1, g2, g3.mono hle rfl⟩
  · have ex : ∀ i o, H.put id (.map kk es) i = some o → ∃ o', H i = some o' := fun i o h => by
      by_cases e : i = id
      · subst e; exact ⟨_, hm⟩
      · rw [put_ne _ _ _ _ e] at h; exact ⟨o, h⟩
    obtain ⟨o1, e1⟩ := ex i oi hi
    obtain ⟨o2, e2⟩ := ex j oj hj
    exact h1.inj i j o1 o2 e1 e2
end Go.Proofs

/- The library's contracts laid at this program. -/
namespace Go.Proofs
open Go.Shelf
def Tryz.shSort_ren : Go.Shelf.Ren := ⟨fun | 6 => 134 | 8 => 143 | 9 => 142 | 19 => 154 | 20 => 155 | 21 => 145 | 22 => 146 | 23 => 147 | 24 => 148 | 25 => 149 | 26 => 150 | 27 => 151 | 28 => 152 | 29 => 153 | 36 => 156 | 31 => 157 | 32 => 158 | 37 => 159 | 38 => 160 | 39 => 161 | 41 => 162 | n => n, fun | 27 => 50 | 29 => 9 | 3 => 3 | 32 => 85 | 26 => 50 | 0 => 0 | 44 => 166 | 46 => 180 | 4 => 4 | 36 => 173 | 35 => 172 | 41 => 152 | 5 => 5 | 9 => 9 | 53 => 185 | 57 => 189 | 63 => 191 | 64 => 192 | n => n, fun | n => n⟩
theorem Tryz.shSort : Go.Proofs.SlLaysM.n6 Tryz.prog Tryz.shSort_ren := {
  mixed := by kernel_rfl
  f6 := ⟨Tryz.f134.name, by decide, Tryz.func134.trans (congrArg some (by kernel_rfl))⟩
  f8 := Tryz.func143.trans (congrArg some (by kernel_rfl))
  f9 := ⟨Tryz.f142.name, by decide, Tryz.func142.trans (congrArg some (by kernel_rfl))⟩
  f19 := Tryz.func154.trans (congrArg some (by kernel_rfl))
  f20 := Tryz.func155.trans (congrArg some (by kernel_rfl))
  f21 := ⟨Tryz.f145.name, by decide, Tryz.func145.trans (congrArg some (by kernel_rfl))⟩
  f22 := ⟨Tryz.f146.name, by decide, Tryz.func146.trans (congrArg some (by kernel_rfl))⟩
  f23 := ⟨Tryz.f147.name, by decide, Tryz.func147.trans (congrArg some (by kernel_rfl))⟩
  f24 := ⟨Tryz.f148.name, by decide, Tryz.func148.trans (congrArg some (by kernel_rfl))⟩
  f25 := ⟨Tryz.f149.name, by decide, Tryz.func149.trans (congrArg some (by kernel_rfl))⟩
  f26 := ⟨Tryz.f150.name, by decide, Tryz.func150.trans (congrArg some (by kernel_rfl))⟩
  f27 := ⟨Tryz.f151.name, by decide, Tryz.func151.trans (congrArg some (by kernel_rfl))⟩
  f28 := ⟨Tryz.f152.name, by decide, Tryz.func152.trans (congrArg some (by kernel_rfl))⟩
  f29 := ⟨Tryz.f153.name, by decide, Tryz.func153.trans (congrArg some (by kernel_rfl))⟩
  f31 := Tryz.func157.trans (congrArg some (by kernel_rfl))
  f32 := Tryz.func158.trans (congrArg some (by kernel_rfl))
  f36 := ⟨Tryz.f156.name, by decide, Tryz.func156.trans (congrArg some (by kernel_rfl))⟩
  f37 := ⟨Tryz.f159.name, by decide, Tryz.func159.trans (congrArg some (by kernel_rfl))⟩
  f38 := ⟨Tryz.f160.name, by decide, Tryz.func160.trans (congrArg some (by kernel_rfl))⟩
  f39 := ⟨Tryz.f161.name, by decide, Tryz.func161.trans (congrArg some (by kernel_rfl))⟩
  f41 := ⟨Tryz.f162.name, by decide, Tryz.func162.trans (congrArg some (by kernel_rfl))⟩
  t0 := Tryz.underlying0
  a0 := Tryz.isAgg0
  z0 := Tryz.sizeOf0
  v0 := Tryz.zeroValue0
  t3 := Tryz.underlying3
  a3 := Tryz.isAgg3
  z3 := Tryz.sizeOf3
  v3 := Tryz.zeroValue3
  t4 := Tryz.underlying4
  a4 := Tryz.isAgg4
  z4 := Tryz.sizeOf4
  v4 := Tryz.zeroValue4
  t5 := Tryz.underlying5
  a5 := Tryz.isAgg5
  z5 := Tryz.sizeOf5
  v5 := Tryz.zeroValue5
  t9 := Tryz.underlying9
  a9 := Tryz.isAgg9
  z9 := Tryz.sizeOf9
  v9 := Tryz.zeroValue9
  t26 := Tryz.underlying50
  a26 := Tryz.isAgg50
  z26 := Tryz.sizeOf50
  v26 := Tryz.zeroValue50
  t27 := Tryz.underlying50
  a27 := Tryz.isAgg50
  z27 := Tryz.sizeOf50
  v27 := Tryz.zeroValue50
  t29 := Tryz.underlying9
  a29 := Tryz.isAgg9
  z29 := Tryz.sizeOf9
  v29 := Tryz.zeroValue9
  t32 := Tryz.underlying85
  a32 := Tryz.isAgg85
  z32 := Tryz.sizeOf85
  v32 := Tryz.zeroValue85
  t35 := Tryz.underlying172
  a35 := Tryz.isAgg172
  z35 := Tryz.sizeOf172
  v35 := Tryz.zeroValue172
  t36 := Tryz.underlying173
  a36 := Tryz.isAgg173
  z36 := Tryz.sizeOf173
  v36 := Tryz.zeroValue173
  t41 := Tryz.underlying152
  a41 := Tryz.isAgg152
  z41 := Tryz.sizeOf152
  v41 := Tryz.zeroValue152
  t44 := Tryz.underlying166
  a44 := Tryz.isAgg166
  z44 := Tryz.sizeOf166
  v44 := Tryz.zeroValue166
  t46 := Tryz.underlying180
  a46 := Tryz.isAgg180
  z46 := Tryz.sizeOf180
  v46 := Tryz.zeroValue180
  t53 := Tryz.underlying185
  a53 := Tryz.isAgg185
  z53 := Tryz.sizeOf185
  v53 := Tryz.zeroValue185
  t57 := Tryz.underlying189
  a57 := Tryz.isAgg189
  z57 := Tryz.sizeOf189
  v57 := Tryz.zeroValue189
  t63 := Tryz.underlying191
  a63 := Tryz.isAgg191
  z63 := Tryz.sizeOf191
  v63 := Tryz.zeroValue191
  t64 := Tryz.underlying192
  a64 := Tryz.isAgg192
  z64 := Tryz.sizeOf192
  v64 := Tryz.zeroValue192 }
end Go.Proofs

/- Strings sorted in place, and the keys of maps, by the library's contracts. -/
namespace Go.Proofs
open Go Go.Abs Go.Shelf
set_option linter.unusedVariables false
set_option maxRecDepth 20000
theorem sortS_calls (ss : List Bytes) (id : Nat) (H : Heap) (ho : H id = some (.cells (ss.map .str))) (hne : ss ≠ []) (hlen : ss.length ≤ 1099511627776) :
    ACalls Tryz.prog 134 [.ms id 0 ss.length 1] H fun x H' => x = .tup [] ∧ H' = H.put id (.cells ((ss.mergeSort fun x y => decide (x ≤ y)).map .str)) :=
  sort_bridge (fn := Tryz.f134) Tryz.func134 (by kernel_rfl) (by kernel_rfl) (fun ss => ss.mergeSort fun x y => decide (x ≤ y)) (fun ss => List.length_mergeSort ss)
    (fun blk off cap ss w hH hB hz => AnyM.slices_Sort_string Tryz.shSort blk off cap ss w hH hB hz) ho hne (by omega)
theorem sortS0_calls (H : Heap) : ACalls Tryz.prog 134 [.sl [] .exact] H fun x H' => x = .tup [] ∧ H' = H :=
  sort_bridge0 (fn := Tryz.f134) Tryz.func134 (by kernel_rfl) (by kernel_rfl) (fun p cap W => AnyM.slices_Sort_string_none Tryz.shSort p cap W) H
end Go.Proofs

/- Walks: the keys of a map, on the reference's side. -/
namespace Go.Proofs
open Go Go.Abs
set_option linter.unusedSimpArgs false
set_option linter.unusedVariables false
set_option maxRecDepth 20000
theorem range_intro {P : Program} {t : TypeId} {id : Nat} {kk : KK} {es : List (Key × AV)} {H : Heap} {K : K1} (hd : ∃ a b, descOf P t = .map a b) (hm : H id = some (.map kk es))
    (h : ∀ bs cl it, bs.length = es.length → bs.Nodup → (H.put id (.bmap kk es bs cl)) it = none ∨ H it = none → H it = none → K (.ptr it 0) ((H.put id (.bmap kk es bs cl)).put it (.iter (some id) cl []))) : aRange P t (.map id) H K := by
  obtain ⟨a, b, hd⟩ := hd
  unfold aRange
  rw [hd]
  simp only [mapAt, hm]
  exact fun bs cl hb hn it hit => h bs cl it hb hn (.inr hit) hit
theorem next_intro {it m cl : Nat} {seen : List Nat} {kk : KK} {es : List (Key × AV)} {bs : List Nat} {G : Heap} {K : K1} (h1 : G it = some (.iter (some m) cl seen)) (h2 : G m = some (.bmap kk es bs cl))
    (hs : ∀ (j : Nat) (k : Key) (v : AV) (b : Nat), es[j]? = some (k, v) → bs[j]? = some b → b ∉ seen → K (.tup [.bool true, k.av kk, v]) (G.put it (.iter (some m) cl (seen ++ [b]))))
    (he : (∀ b ∈ bs, b ∈ seen) → K (.tup [.bool false]) G) : aNext (.ptr it 0) G K := by
  unfold aNext
  simp only [h1, h2]
  exact ⟨trivial, hs, fun h => .inl (he h)⟩
/-- At the end it is forgotten when the entries were born. -/
theorem next_intro2 {it m cl : Nat} {seen : List Nat} {kk : KK} {es : List (Key × AV)} {bs : List Nat} {G : Heap} {K : K1} (h1 : G it = some (.iter (some m) cl seen)) (h2 : G m = some (.bmap kk es bs cl))
    (hs : ∀ (j : Nat) (k : Key) (v : AV) (b : Nat), es[j]? = some (k, v) → bs[j]? = some b → b ∉ seen → K (.tup [.bool true, k.av kk, v]) (G.put it (.iter (some m) cl (seen ++ [b]))))
    (he : (∀ b ∈ bs, b ∈ seen) → K (.tup [.bool false]) (G.put m (.map kk es))) : aNext (.ptr it 0) G K := by
  unfold aNext
  simp only [h1, h2]
  exact ⟨trivial, hs, fun h => .inr (he h)⟩
theorem here_intro {it m cl j b : Nat} {seen : List Nat} {kk : KK} {es : List (Key × AV)} {bs : List Nat} {k : Key} {v : AV} {G : Heap} {K : K1} (h1 : G it = some (.iter (some m) cl (seen ++ [b]))) (h2 : G m = some (.bmap kk es bs cl))
    (hb : bs[j]? = some b) (he : es[j]? = some (k, v)) (h : K (.tup [k.av kk, v]) G) : aHere (.ptr it 0) G K := by
  unfold aHere
  simp only [h1, h2]
  exact ⟨trivial, b, j, k, v, by simp, hb, he, h⟩
/-- What a walk over a map has seen. -/
structure SeenK (es : List (Key × AV)) (bs : List Nat) (js : List Nat) (seen : List Nat) (ks : List Bytes) : Prop where
  nodup : js.Nodup
  lt : ∀ j ∈ js, j < es.length
  stamps : seen = js.map fun j => bs.getD j 0
  keys : ks = js.map fun j => keyS (es.getD j default)
theorem SeenK.nil (es : List (Key × AV)) (bs : List Nat) : SeenK es bs [] [] [] := ⟨List.nodup_nil, by simp, rfl, rfl⟩
theorem SeenK.step {es : List (Key × AV)} {bs js seen : List Nat} {ks : List Bytes} (h : SeenK es bs js seen ks) {j b : Nat} {e : Key × AV} (hj : es[j]? = some e) (hb : bs[j]? = some b) (hs : b ∉ seen) : SeenK es bs (js ++ [j]) (seen ++ [b]) (ks ++ [keyS e]) := by
  obtain ⟨h1, h2, h3, h4⟩ := h
  have hjn : j ∉ js := fun hm => hs (by rw [h3]; exact List.mem_map.2 ⟨j, hm, by simp [List.getD, hb]⟩)
  refine ⟨?_, fun i hi => ?_, ?_, ?_⟩
  · rw [List.nodup_append]
    exact ⟨h1, by simp, fun a ha c hc => by rw [List.mem_singleton.1 hc]; exact fun e => hjn (e ▸ ha)⟩
  · rcases List.mem_append.1 hi with h | h
    · exact h2 i h
    · rw [List.mem_singleton.1 h]; exact (List.getElem?_eq_some_iff.1 hj).1
  · rw [List.map_append, ← h3]; simp [List.getD, hb]
  · rw [List.map_append, ← h4]; simp [List.getD, hj]
theorem nodup_lt : ∀ (n : Nat) (l : List Nat), l.Nodup → (∀ j ∈ l, j < n) → l.length ≤ n
  | 0, [], _, _ => Nat.le_refl _
  | 0, x :: l, _, h => absurd (h x (List.mem_cons_self ..)) (by omega)
  | n + 1, l, hn, h => by
    have h1 := nodup_lt n (l.erase n) (hn.erase n) fun j hj => by
      have h2 := h j (List.mem_of_mem_erase hj)
      have h3 : j ≠ n := fun e => by subst e; exact List.Nodup.not_mem_erase hn hj
      omega
    have h2 : l.length ≤ (l.erase n).length + 1 := by rw [List.length_erase]; split <;> omega
    omega
theorem SeenK.len {es : List (Key × AV)} {bs js seen : List Nat} {ks : List Bytes} (h : SeenK es bs js seen ks) : js.length ≤ es.length ∧ ks.length = js.length := by
  refine ⟨?_, by rw [h.keys]; simp⟩
  exact nodup_lt _ _ h.nodup h.lt
theorem SeenK.all {es : List (Key × AV)} {bs js seen : List Nat} {ks : List Bytes} (h : SeenK es bs js seen ks) (hl : bs.length = es.length) (hn : bs.Nodup) (ha : ∀ b ∈ bs, b ∈ seen) : ks.Perm (es.map keyS) := by
  have hp : js.Perm (List.range es.length) := by
    refine (List.perm_ext_iff_of_nodup h.nodup List.nodup_range).2 fun j => ⟨fun hj => List.mem_range.2 (h.lt j hj), fun hj => ?_⟩
    have hj := List.mem_range.1 hj
    have hb : bs[j]? = some (bs[j]'(by omega)) := List.getElem?_eq_getElem _
    have hm := ha _ (List.mem_of_getElem? hb)
    rw [h.stamps] at hm
    obtain ⟨i, hi, e⟩ := List.mem_map.1 hm
    have hil := h.lt i hi
    have e2 : bs.getD i 0 = bs[i]'(by omega) := by simp [List.getD, show i < bs.length by omega]
    rw [e2] at e
    have : i = j := (List.getElem_inj hn).1 e
    rw [← this]; exact hi
  rw [h.keys]
  refine (hp.map _).trans ?_
  have e : (List.range es.length).map (fun j => keyS (es.getD j default)) = es.map keyS := by
    refine List.ext_getElem (by simp) fun i h1 h2 => ?_
    simp at h1
    simp [List.getD, h1]
  rw [e]
end Go.Proofs

/- Walks: the keys of a map, on the reference's side. -/
namespace Go.Proofs
open Go Go.Abs
open Nat (reduceEqDiff reduceAdd reduceLeDiff reduceLT reduceMul)
open Int (reduceEq reduceLE reduceSub reduceToNat)
set_option linter.unusedSimpArgs false
set_option linter.unusedVariables false
set_option maxRecDepth 20000
def listV (ks : List Bytes) (id : Nat) : AV := if ks = [] then .sl [] .exact else .ms id 0 ks.length 1
theorem listV_one (s : Bytes) (id : Nat) : listV [s] id = .ms id 0 1 1 := rfl
theorem listV_app (ks : List Bytes) (s : Bytes) (id : Nat) : listV (ks ++ [s]) id = .ms id 0 (ks.length + 1) 1 := by unfold listV; rw [if_neg (by simp)]; simp
theorem listV_ne {ks : List Bytes} (h : ks ≠ []) (id : Nat) : listV ks id = .ms id 0 ks.length 1 := by unfold listV; rw [if_neg h]
/-- A list of strings that is written by one. -/
def OwnS (H G : Heap) (id : Nat) (ks : List Bytes) : Prop := ks = [] ∨ (H id = none ∧ G id = some (.cells (ks.map .str)))
set_option maxHeartbeats 3200000 in
theorem keysFile_calls (m : Nat) (es : List (Key × AV)) (H : Heap) (hm : H m = some (.map .str es)) (hk : ∀ e ∈ es, ∃ s, e.1 = .s s) (hl : es.length ≤ 1099511627776) :
    ACalls Tryz.prog 112 [.map m] H fun x H' => ∃ ss : List Bytes, ss.Perm (es.map keyS) ∧ x = .sl ((ss.mergeSort fun x y => decide (x ≤ y)).map fun s => [AV.str s]) .unk ∧ H' = H := by
  refine ACalls.of_code (X := { pure := pu0, ms := fun t => decide (t = 14) }) pu0_ok Tryz.func112 (by kernel_rfl) rfl (by kernel_rfl) (Nat.le_of_ble_eq_true rfl) ?_
  simp -implicitDefEqProofs only [go_sem, reduceEqDiff, reduceAdd, reduceLeDiff, reduceLT, reduceMul, reduceEq, Int.reduceLT, reduceLE, Int.reduceAdd, reduceSub, reduceToNat, UInt8.reduceToNat, Tryz.f112]
  refine range_intro ⟨_, _, by simp -implicitDefEqProofs only [go_sem, reduceEqDiff, reduceAdd, reduceLeDiff, reduceLT, reduceMul, reduceEq, Int.reduceLT, reduceLE, Int.reduceAdd, reduceSub, reduceToNat, UInt8.reduceToNat]; rfl⟩ hm fun bs cl it hb hn _ hit => ?_
  have dm : ¬ m = it := fun e => by rw [e, hit] at hm; cases hm
  simp -implicitDefEqProofs only [go_sem, reduceEqDiff, reduceAdd, reduceLeDiff, reduceLT, reduceMul, reduceEq, Int.reduceLT, reduceLE, Int.reduceAdd, reduceSub, reduceToNat, UInt8.reduceToNat]
  have g1 : ((H.put m (.bmap .str es bs cl)).put it (.iter (some m) cl [])) it = some (.iter (some m) cl []) := put_same _ _ _
  have g2 : ((H.put m (.bmap .str es bs cl)).put it (.iter (some m) cl [])) m = some (.bmap .str es bs cl) := by rw [put_ne _ _ _ _ dm, put_same]
  have g3 : ∀ i o, H i = some o → ¬ i = m → ((H.put m (.bmap .str es bs cl)).put it (.iter (some m) cl [])) i = some o := fun i o hi h => by
    rw [put_ne _ _ _ _ (obj_ne hi hit), put_ne _ _ _ _ h]; exact hi
  generalize (H.put m (.bmap .str es bs cl)).put it (.iter (some m) cl []) = G0 at *
  with_reducible refine aloop_cut 0 (fun r G => ∃ ks id, ks.Perm (es.map keyS) ∧ OwnS H G id ks ∧ ¬ id = m ∧ G m = some (.bmap .str es bs cl) ∧ (∀ i o, H i = some o → ¬ i = m → G i = some o) ∧ agrees r [(3, listV ks id)]) ?_ ?_
  rotate_left
  · refine aloop_intro (σ := List Nat × List Nat × List Bytes × Nat) (fun t => [(0, .map m), (3, listV t.2.2.1 t.2.2.2), (6, .ptr it 0)])
      (fun t G => SeenK es bs t.1 t.2.1 t.2.2.1 ∧ OwnS H G t.2.2.2 t.2.2.1 ∧ ¬ t.2.2.2 = m ∧ ¬ t.2.2.2 = it ∧ G it = some (.iter (some m) cl t.2.1) ∧ G m = some (.bmap .str es bs cl) ∧ (∀ i o, H i = some o → ¬ i = m → G i = some o)) (fun t => es.length - t.1.length) ([], [], [], it + m + 1) ?_ ?_ ?_
    · simp -implicitDefEqProofs only [go_sem, reduceEqDiff, reduceAdd, reduceLeDiff, reduceLT, reduceMul, reduceEq, Int.reduceLT, reduceLE, Int.reduceAdd, reduceSub, reduceToNat, UInt8.reduceToNat]
      exact rfl
    · exact ⟨SeenK.nil _ _, .inl rfl, by simp only; omega, by simp only; omega, g1, g2, g3⟩
    clear g1 g2 g3
    rintro ⟨js, seen, ks, id⟩ r G hv ⟨hS, hO, nm, ni, g1, g2, g3⟩
    have h0 := hv.1
    have h3 := hv.2.1
    have h6 := hv.2.2.1
    clear hv
    simp only at h0 h3 h6 hS hO nm ni g1 g2
    simp -implicitDefEqProofs only [go_sem, reduceEqDiff, reduceAdd, reduceLeDiff, reduceLT, reduceMul, reduceEq, Int.reduceLT, reduceLE, Int.reduceAdd, reduceSub, reduceToNat, UInt8.reduceToNat, h0, h3, h6]
    refine next_intro g1 g2 (fun j k v b hj hbj hsn => ?_) (fun ha => ?_)
    rotate_left
    · simp -implicitDefEqProofs only [go_sem, reduceEqDiff, reduceAdd, reduceLeDiff, reduceLT, reduceMul, reduceEq, Int.reduceLT, reduceLE, Int.reduceAdd, reduceSub, reduceToNat, UInt8.reduceToNat, h0, h3, h6]
      exact ⟨ks, id, hS.all hb hn ha, hO, nm, g2, g3, by simp -implicitDefEqProofs only [go_sem, reduceEqDiff, reduceAdd, reduceLeDiff, reduceLT, reduceMul, reduceEq, Int.reduceLT, reduceLE, Int.reduceAdd, reduceSub, reduceToNat, UInt8.reduceToNat, h3]⟩
    obtain ⟨s, rfl⟩ := hk _ (List.mem_of_getElem? hj)
    have hS2 := hS.step hj hbj hsn
    have hlen := hS2.len
    have g1' : (G.put it (.iter (some m) cl (seen ++ [b]))) it = some (.iter (some m) cl (seen ++ [b])) := put_same _ _ _
    have g2' : (G.put it (.iter (some m) cl (seen ++ [b]))) m = some (.bmap .str es bs cl) := by rw [put_ne _ _ _ _ dm]; exact g2
    have g3' : ∀ i o, H i = some o → ¬ i = m → (G.put it (.iter (some m) cl (seen ++ [b]))) i = some o := fun i o hi h => by
      rw [put_ne _ _ _ _ (obj_ne hi hit)]; exact g3 i o hi h
    have hO' : OwnS H (G.put it (.iter (some m) cl (seen ++ [b]))) id ks := hO.imp (fun h => h) fun h => ⟨h.1, by rw [put_ne _ _ _ _ ni]; exact h.2⟩
    generalize G.put it (.iter (some m) cl (seen ++ [b])) = G1 at *
    simp -implicitDefEqProofs only [go_sem, reduceEqDiff, reduceAdd, reduceLeDiff, reduceLT, reduceMul, reduceEq, Int.reduceLT, reduceLE, Int.reduceAdd, reduceSub, reduceToNat, UInt8.reduceToNat, h0, h3, h6]
    refine here_intro g1' g2' hbj hj ?_
    have hkv : (Key.s s).av .str = .str s := rfl
    have hid' : ∀ id', G1 id' = none → H id' = none ∧ ¬ id' = m ∧ ¬ id' = it := fun id' h => by
      have e1 : ¬ id' = m := fun e => by rw [e, g2'] at h; cases h
      refine ⟨?_, e1, fun e => by rw [e, g1'] at h; cases h⟩
      cases hh : H id' with
      | none => rfl
      | some o => rw [g3' id' o hh e1] at h; cases h
    by_cases hks : ks = []
    · subst hks
      have h3' : r 3 = .sl [] .exact := h3
      simp -implicitDefEqProofs only [go_sem, reduceEqDiff, reduceAdd, reduceLeDiff, reduceLT, reduceMul, reduceEq, Int.reduceLT, reduceLE, Int.reduceAdd, reduceSub, reduceToNat, UInt8.reduceToNat, h0, h3', h6, hkv]
      refine app_ms0 (by simp) (by simp) (by simp) fun id' hi => ?_
      obtain ⟨q1, q2, q3⟩ := hid' id' hi
      simp -implicitDefEqProofs only [go_sem, reduceEqDiff, reduceAdd, reduceLeDiff, reduceLT, reduceMul, reduceEq, Int.reduceLT, reduceLE, Int.reduceAdd, reduceSub, reduceToNat, UInt8.reduceToNat, h0, h6]
      refine Again.mk (js ++ [j], seen ++ [b], [] ++ [keyS (.s s, v)], id') (by simp -implicitDefEqProofs only [go_sem, reduceEqDiff, reduceAdd, reduceLeDiff, reduceLT, reduceMul, reduceEq, Int.reduceLT, reduceLE, Int.reduceAdd, reduceSub, reduceToNat, UInt8.reduceToNat, h0, h6, listV_one, keyS]) ⟨hS2, .inr ⟨q1, put_same _ _ _⟩, q2, q3, by rw [put_ne _ _ _ _ (fun e => q3 e.symm)]; exact g1', by rw [put_ne _ _ _ _ (fun e => q2 e.symm)]; exact g2', fun i o hi2 h => by rw [put_ne _ _ _ _ (fun e => by rw [e, q1] at hi2; cases hi2)]; exact g3' i o hi2 h⟩ (by simp only [List.length_append, List.length_cons, List.length_nil] at hlen ⊢; omega)
    · have hoo := hO'.resolve_left hks
      have h3' := h3
      rw [listV_ne hks] at h3'
      simp -implicitDefEqProofs only [go_sem, reduceEqDiff, reduceAdd, reduceLeDiff, reduceLT, reduceMul, reduceEq, Int.reduceLT, reduceLE, Int.reduceAdd, reduceSub, reduceToNat, UInt8.reduceToNat, h0, h3', h6, hkv]
      refine app_ms hoo.2 (by simp) (by simp only [List.length_cons, List.length_nil] at hlen ⊢; simp at hlen ⊢; omega) (by simp at hlen ⊢; omega) fun id' hi => ?_
      obtain ⟨q1, q2, q3⟩ := hid' id' hi
      simp -implicitDefEqProofs only [go_sem, reduceEqDiff, reduceAdd, reduceLeDiff, reduceLT, reduceMul, reduceEq, Int.reduceLT, reduceLE, Int.reduceAdd, reduceSub, reduceToNat, UInt8.reduceToNat, h0, h6]
      have hcell : (ks.map AV.str ++ [AV.str s]) = (ks ++ [keyS (.s s, v)]).map AV.str := by simp [keyS]
      refine Again.mk (js ++ [j], seen ++ [b], ks ++ [keyS (.s s, v)], id') (by simp -implicitDefEqProofs only [go_sem, reduceEqDiff, reduceAdd, reduceLeDiff, reduceLT, reduceMul, reduceEq, Int.reduceLT, reduceLE, Int.reduceAdd, reduceSub, reduceToNat, UInt8.reduceToNat, h0, h6, listV_app, keyS]) ⟨hS2, .inr ⟨q1, by rw [put_same, ← hcell]; rfl⟩, q2, q3, by rw [put_ne _ _ _ _ (fun e => q3 e.symm), del_ne (fun e => ni e.symm)]; exact g1', by rw [put_ne _ _ _ _ (fun e => q2 e.symm), del_ne (fun e => nm e.symm)]; exact g2', fun i o hi2 h => by rw [put_ne _ _ _ _ (fun e => by rw [e, q1] at hi2; cases hi2), del_ne (fun e => by rw [e, hoo.1] at hi2; cases hi2)]; exact g3' i o hi2 h⟩ (by simp only [List.length_append, List.length_cons, List.length_nil] at hlen ⊢; omega)
  rintro r G ⟨ks, id, hp, hO, nm, g2, g3, hv⟩
  have h3 := hv.1
  clear hv
  have hlk : ks.length = es.length := by rw [hp.length_eq, List.length_map]
  have hsub : H.Sub (G.put m (.map .str es)) := fun k p hi => by
    by_cases e : k = m
    · subst e; rw [hm] at hi; cases hi; exact put_same _ _ _
    · rw [put_ne _ _ _ _ e]; exact g3 k p hi e
  by_cases hks : ks = []
  · subst hks
    have h3' : r 3 = .sl [] .exact := h3
    simp -implicitDefEqProofs only [go_sem, reduceEqDiff, reduceAdd, reduceLeDiff, reduceLT, reduceMul, reduceEq, Int.reduceLT, reduceLE, Int.reduceAdd, reduceSub, reduceToNat, UInt8.reduceToNat, h3']
    refine (sortS0_calls G).pure_next _ ?_
    simp -implicitDefEqProofs only [go_sem, reduceEqDiff, reduceAdd, reduceLeDiff, reduceLT, reduceMul, reduceEq, Int.reduceLT, reduceLE, Int.reduceAdd, reduceSub, reduceToNat, UInt8.reduceToNat, h3']
    exact Done.via (Ghost.unborn g2) (Done.wk 3 (Done.drop hsub ⟨[], hp, by simp; rfl, rfl⟩))
  · have hoo := hO.resolve_left hks
    rw [listV_ne hks] at h3
    simp -implicitDefEqProofs only [go_sem, reduceEqDiff, reduceAdd, reduceLeDiff, reduceLT, reduceMul, reduceEq, Int.reduceLT, reduceLE, Int.reduceAdd, reduceSub, reduceToNat, UInt8.reduceToNat, h3]
    refine (sortS_calls ks id G hoo.2 hks (by omega)).pure_next2 ?_
    simp -implicitDefEqProofs only [go_sem, reduceEqDiff, reduceAdd, reduceLeDiff, reduceLT, reduceMul, reduceEq, Int.reduceLT, reduceLE, Int.reduceAdd, reduceSub, reduceToNat, UInt8.reduceToNat, h3]
    have hlen : (ks.mergeSort fun x y => decide (x ≤ y)).length = ks.length := List.length_mergeSort ks
    refine Done.via (Ghost.freeze1 (off := 0) (len := ks.length) (put_same G id _) (by simp)) ?_
    have g2' : ((G.put id (.cells ((ks.mergeSort fun x y => decide (x ≤ y)).map .str))).del id) m = some (.bmap .str es bs cl) := by rw [del_ne (fun e => nm e.symm), put_ne _ _ _ _ (fun e => nm e.symm)]; exact g2
    refine Done.via (Ghost.unborn g2') (Done.drop (H' := H) (fun k p hi => ?_) ⟨ks, hp, ?_, rfl⟩)
    · by_cases e : k = m
      · subst e; rw [hm] at hi; cases hi; exact put_same _ _ _
      · have e2 : ¬ k = id := fun e2 => by rw [e2, hoo.1] at hi; cases hi
        rw [put_ne _ _ _ _ e, del_ne e2, put_ne _ _ _ _ e2]
        exact g3 k p hi e
    · rw [List.drop_zero, List.take_of_length_le (by simp), List.map_map]
      rfl
set_option maxHeartbeats 3200000 in
theorem keysStr_calls (m : Nat) (es : List (Key × AV)) (H : Heap) (hm : H m = some (.map .str es)) (hk : ∀ e ∈ es, ∃ s, e.1 = .s s) (hl : es.length ≤ 1099511627776) :
    ACalls Tryz.prog 113 [.map m] H fun x H' => ∃ ss : List Bytes, ss.Perm (es.map keyS) ∧ x = .sl ((ss.mergeSort fun x y => decide (x ≤ y)).map fun s => [AV.str s]) .unk ∧ H' = H := by
  refine ACalls.of_code (X := { pure := pu0, ms := fun t => decide (t = 14) }) pu0_ok Tryz.func113 (by kernel_rfl) rfl (by kernel_rfl) (Nat.le_of_ble_eq_true rfl) ?_
  simp -implicitDefEqProofs only [go_sem, reduceEqDiff, reduceAdd, reduceLeDiff, reduceLT, reduceMul, reduceEq, Int.reduceLT, reduceLE, Int.reduceAdd, reduceSub, reduceToNat, UInt8.reduceToNat, Tryz.f113]
  refine range_intro ⟨_, _, by simp -implicitDefEqProofs only [go_sem, reduceEqDiff, reduceAdd, reduceLeDiff, reduceLT, reduceMul, reduceEq, Int.reduceLT, reduceLE, Int.reduceAdd, reduceSub, reduceToNat, UInt8.reduceToNat]; rfl⟩ hm fun bs cl it hb hn _ hit => ?_
  have dm : ¬ m = it := fun e => by rw [e, hit] at hm; cases hm
  simp -implicitDefEqProofs only [go_sem, reduceEqDiff, reduceAdd, reduceLeDiff, reduceLT, reduceMul, reduceEq, Int.reduceLT, reduceLE, Int.reduceAdd, reduceSub, reduceToNat, UInt8.reduceToNat]
  have g1 : ((H.put m (.bmap .str es bs cl)).put it (.iter (some m) cl [])) it = some (.iter (some m) cl []) := put_same _ _ _
  have g2 : ((H.put m (.bmap .str es bs cl)).put it (.iter (some m) cl [])) m = some (.bmap .str es bs cl) := by rw [put_ne _ _ _ _ dm, put_same]
  have g3 : ∀ i o, H i = some o → ¬ i = m → ((H.put m (.bmap .str es bs cl)).put it (.iter (some m) cl [])) i = some o := fun i o hi h => by
    rw [put_ne _ _ _ _ (obj_ne hi hit), put_ne _ _ _ _ h]; exact hi
  generalize (H.put m (.bmap .str es bs cl)).put it (.iter (some m) cl []) = G0 at *
  with_reducible refine aloop_cut 0 (fun r G => ∃ ks id, ks.Perm (es.map keyS) ∧ OwnS H G id ks ∧ ¬ id = m ∧ G m = some (.bmap .str es bs cl) ∧ (∀ i o, H i = some o → ¬ i = m → G i = some o) ∧ agrees r [(3, listV ks id)]) ?_ ?_
  rotate_left
  · refine aloop_intro (σ := List Nat × List Nat × List Bytes × Nat) (fun t => [(0, .map m), (3, listV t.2.2.1 t.2.2.2), (6, .ptr it 0)])
      (fun t G => SeenK es bs t.1 t.2.1 t.2.2.1 ∧ OwnS H G t.2.2.2 t.2.2.1 ∧ ¬ t.2.2.2 = m ∧ ¬ t.2.2.2 = it ∧ G it = some (.iter (some m) cl t.2.1) ∧ G m = some (.bmap .str es bs cl) ∧ (∀ i o, H i = some o → ¬ i = m → G i = some o)) (fun t => es.length - t.1.length) ([], [], [], it + m + 1) ?_ ?_ ?_
    · simp -implicitDefEqProofs only [go_sem, reduceEqDiff, reduceAdd, reduceLeDiff, reduceLT, reduceMul, reduceEq, Int.reduceLT, reduceLE, Int.reduceAdd, reduceSub, reduceToNat, UInt8.reduceToNat]
      exact rfl
    · exact ⟨SeenK.nil _ _, .inl rfl, by simp only; omega, by simp only; omega, g1, g2, g3⟩
    clear g1 g2 g3
    rintro ⟨js, seen, ks, id⟩ r G hv ⟨hS, hO, nm, ni, g1, g2, g3⟩
    have h0 := hv.1
    have h3 := hv.2.1
    have h6 := hv.2.2.1
    clear hv
    simp only at h0 h3 h6 hS hO nm ni g1 g2
    simp -implicitDefEqProofs only [go_sem, reduceEqDiff, reduceAdd, reduceLeDiff, reduceLT, reduceMul, reduceEq, Int.reduceLT, reduceLE, Int.reduceAdd, reduceSub, reduceToNat, UInt8.reduceToNat, h0, h3, h6]
    refine next_intro g1 g2 (fun j k v b hj hbj hsn => ?_) (fun ha => ?_)
    rotate_left
    · simp -implicitDefEqProofs only [go_sem, reduceEqDiff, reduceAdd, reduceLeDiff, reduceLT, reduceMul, reduceEq, Int.reduceLT, reduceLE, Int.reduceAdd, reduceSub, reduceToNat, UInt8.reduceToNat, h0, h3, h6]
      exact ⟨ks, id, hS.all hb hn ha, hO, nm, g2, g3, by simp -implicitDefEqProofs only [go_sem, reduceEqDiff, reduceAdd, reduceLeDiff, reduceLT, reduceMul, reduceEq, Int.reduceLT, reduceLE, Int.reduceAdd, reduceSub, reduceToNat, UInt8.reduceToNat, h3]⟩
    obtain ⟨s, rfl⟩ := hk _ (List.mem_of_getElem? hj)
    have hS2 := hS.step hj hbj hsn
    have hlen := hS2.len
    have g1' : (G.put it (.iter (some m) cl (seen ++ [b]))) it = some (.iter (some m) cl (seen ++ [b])) := put_same _ _ _
    have g2' : (G.put it (.iter (some m) cl (seen ++ [b]))) m = some (.bmap .str es bs cl) := by rw [put_ne _ _ _ _ dm]; exact g2
    have g3' : ∀ i o, H i = some o → ¬ i = m → (G.put it (.iter (some m) cl (seen ++ [b]))) i = some o := fun i o hi h => by
      rw [put_ne _ _ _ _ (obj_ne hi hit)]; exact g3 i o hi h
    have hO' : OwnS H (G.put it (.iter (some m) cl (seen ++ [b]))) id ks := hO.imp (fun h => h) fun h => ⟨h.1, by rw [put_ne _ _ _ _ ni]; exact h.2⟩
    generalize G.put it (.iter (some m) cl (seen ++ [b])) = G1 at *
    simp -implicitDefEqProofs only [go_sem, reduceEqDiff, reduceAdd, reduceLeDiff, reduceLT, reduceMul, reduceEq, Int.reduceLT, reduceLE, Int.reduceAdd, reduceSub, reduceToNat, UInt8.reduceToNat, h0, h3, h6]
    refine here_intro g1' g2' hbj hj ?_
    have hkv : (Key.s s).av .str = .str s := rfl
    have hid' : ∀ id', G1 id' = none → H id' = none ∧ ¬ id' = m ∧ ¬ id' = it := fun id' h => by
      have e1 : ¬ id' = m := fun e => by rw [e, g2'] at h; cases h
      refine ⟨?_, e1, fun e => by rw [e, g1'] at h; cases h⟩
      cases hh : H id' with
      | none => rfl
      | some o => rw [g3' id' o hh e1] at h; cases h
    by_cases hks : ks = []
    · subst hks
      have h3' : r 3 = .sl [] .exact := h3
      simp -implicitDefEqProofs only [go_sem, reduceEqDiff, reduceAdd, reduceLeDiff, reduceLT, reduceMul, reduceEq, Int.reduceLT, reduceLE, Int.reduceAdd, reduceSub, reduceToNat, UInt8.reduceToNat, h0, h3', h6, hkv]
      refine app_ms0 (by simp) (by simp) (by simp) fun id' hi => ?_
      obtain ⟨q1, q2, q3⟩ := hid' id' hi
      simp -implicitDefEqProofs only [go_sem, reduceEqDiff, reduceAdd, reduceLeDiff, reduceLT, reduceMul, reduceEq, Int.reduceLT, reduceLE, Int.reduceAdd, reduceSub, reduceToNat, UInt8.reduceToNat, h0, h6]
      refine Again.mk (js ++ [j], seen ++ [b], [] ++ [keyS (.s s, v)], id') (by simp -implicitDefEqProofs only [go_sem, reduceEqDiff, reduceAdd, reduceLeDiff, reduceLT, reduceMul, reduceEq, Int.reduceLT, reduceLE, Int.reduceAdd, reduceSub, reduceToNat, UInt8.reduceToNat, h0, h6, listV_one, keyS]) ⟨hS2, .inr ⟨q1, put_same _ _ _⟩, q2, q3, by rw [put_ne _ _ _ _ (fun e => q3 e.symm)]; exact g1', by rw [put_ne _ _ _ _ (fun e => q2 e.symm)]; exact g2', fun i o hi2 h => by rw [put_ne _ _ _ _ (fun e => by rw [e, q1] at hi2; cases hi2)]; exact g3' i o hi2 h⟩ (by simp only [List.length_append, List.length_cons, List.length_nil] at hlen ⊢; omega)
    · have hoo := hO'.resolve_left hks
      have h3' := h3
      rw [listV_ne hks] at h3'
      simp -implicitDefEqProofs only [go_sem, reduceEqDiff, reduceAdd, reduceLeDiff, reduceLT, reduceMul, reduceEq, Int.reduceLT, reduceLE, Int.reduceAdd, reduceSub, reduceToNat, UInt8.reduceToNat, h0, h3', h6, hkv]
      refine app_ms hoo.2 (by simp) (by simp only [List.length_cons, List.length_nil] at hlen ⊢; simp at hlen ⊢; omega) (by simp at hlen ⊢; omega) fun id' hi => ?_
      obtain ⟨q1, q2, q3⟩ := hid' id' hi
      simp -implicitDefEqProofs only [go_sem, reduceEqDiff, reduceAdd, reduceLeDiff, reduceLT, reduceMul, reduceEq, Int.reduceLT, reduceLE, Int.reduceAdd, reduceSub, reduceToNat, UInt8.reduceToNat, h0, h6]
      have hcell : (ks.map AV.str ++ [AV.str s]) = (ks ++ [keyS (.s s, v)]).map AV.str := by simp [keyS]
      refine Again.mk (js ++ [j], seen ++ [b], ks ++ [keyS (.s s, v)], id') (by simp -implicitDefEqProofs only [go_sem, reduceEqDiff, reduceAdd, reduceLeDiff, reduceLT, reduceMul, reduceEq, Int.reduceLT, reduceLE, Int.reduceAdd, reduceSub, reduceToNat, UInt8.reduceToNat, h0, h6, listV_app, keyS]) ⟨hS2, .inr ⟨q1, by rw [put_same, ← hcell]; rfl⟩, q2, q3, by rw [put_ne _ _ _ _ (fun e => q3 e.symm), del_ne (fun e => ni e.symm)]; exact g1', by rw [put_ne _ _ _ _ (fun e => q2 e.symm), del_ne (fun e => nm e.symm)]; exact g2', fun i o hi2 h => by rw [put_ne _ _ _ _ (fun e => by rw [e, q1] at hi2; cases hi2), del_ne (fun e => by rw [e, hoo.1] at hi2; cases hi2)]; exact g3' i o hi2 h⟩ (by simp only [List.length_append, List.length_cons, List.length_nil] at hlen ⊢; omega)
  rintro r G ⟨ks, id, hp, hO, nm, g2, g3, hv⟩
  have h3 := hv.1
  clear hv
  have hlk : ks.length = es.length := by rw [hp.length_eq, List.length_map]
  have hsub : H.Sub (G.put m (.map .str es)) := fun k p hi => by
    by_cases e : k = m
    · subst e; rw [hm] at hi; cases hi; exact put_same _ _ _
    · rw [put_ne _ _ _ _ e]; exact g3 k p hi e
  by_cases hks : ks = []
  · subst hks
    have h3' : r 3 = .sl [] .exact := h3
    simp -implicitDefEqProofs only [go_sem, reduceEqDiff, reduceAdd, reduceLeDiff, reduceLT, reduceMul, reduceEq, Int.reduceLT, reduceLE, Int.reduceAdd, reduceSub, reduceToNat, UInt8.reduceToNat, h3']
    refine (sortS0_calls G).pure_next _ ?_
    simp -implicitDefEqProofs only [go_sem, reduceEqDiff, reduceAdd, reduceLeDiff, reduceLT, reduceMul, reduceEq, Int.reduceLT, reduceLE, Int.reduceAdd, reduceSub, reduceToNat, UInt8.reduceToNat, h3']
    exact Done.via (Ghost.unborn g2) (Done.wk 3 (Done.drop hsub ⟨[], hp, by simp; rfl, rfl⟩))
  · have hoo := hO.resolve_left hks
    rw [listV_ne hks] at h3
    simp -implicitDefEqProofs only [go_sem, reduceEqDiff, reduceAdd, reduceLeDiff, reduceLT, reduceMul, reduceEq, Int.reduceLT, reduceLE, Int.reduceAdd, reduceSub, reduceToNat, UInt8.reduceToNat, h3]
    refine (sortS_calls ks id G hoo.2 hks (by omega)).pure_next2 ?_
    simp -implicitDefEqProofs only [go_sem, reduceEqDiff, reduceAdd, reduceLeDiff, reduceLT, reduceMul, reduceEq, Int.reduceLT, reduceLE, Int.reduceAdd, reduceSub, reduceToNat, UInt8.reduceToNat, h3]
    have hlen : (ks.mergeSort fun x y => decide (x ≤ y)).length = ks.length := List.length_mergeSort ks
    refine Done.via (Ghost.freeze1 (off := 0) (len := ks.length) (put_same G id _) (by simp)) ?_
    have g2' : ((G.put id (.cells ((ks.mergeSort fun x y => decide (x ≤ y)).map .str))).del id) m = some (.bmap .str es bs cl) := by rw [del_ne (fun e => nm e.symm), put_ne _ _ _ _ (fun e => nm e.symm)]; exact g2
    refine Done.via (Ghost.unborn g2') (Done.drop (H' := H) (fun k p hi => ?_) ⟨ks, hp, ?_, rfl⟩)
    · by_cases e : k = m
      · subst e; rw [hm] at hi; cases hi; exact put_same _ _ _
      · have e2 : ¬ k = id := fun e2 => by rw [e2, hoo.1] at hi; cases hi
        rw [put_ne _ _ _ _ e, del_ne e2, put_ne _ _ _ _ e2]
        exact g3 k p hi e
    · rw [List.drop_zero, List.take_of_length_le (by simp), List.map_map]
      rfl
set_option maxHeartbeats 3200000 in
theorem keysSvc_calls (m : Nat) (es : List (Key × AV)) (H : Heap) (hm : H m = some (.map .str es)) (hk : ∀ e ∈ es, ∃ s, e.1 = .s s) (hl : es.length ≤ 1099511627776) :
    ACalls Tryz.prog 114 [.map m] H fun x H' => ∃ ss : List Bytes, ss.Perm (es.map keyS) ∧ x = .sl ((ss.mergeSort fun x y => decide (x ≤ y)).map fun s => [AV.str s]) .unk ∧ H' = H := by
  refine ACalls.of_code (X := { pure := pu0, ms := fun t => decide (t = 14) }) pu0_ok Tryz.func114 (by kernel_rfl) rfl (by kernel_rfl) (Nat.le_of_ble_eq_true rfl) ?_
  simp -implicitDefEqProofs only [go_sem, reduceEqDiff, reduceAdd, reduceLeDiff, reduceLT, reduceMul, reduceEq, Int.reduceLT, reduceLE, Int.reduceAdd, reduceSub, reduceToNat, UInt8.reduceToNat, Tryz.f114]
  refine range_intro ⟨_, _, by simp -implicitDefEqProofs only [go_sem, reduceEqDiff, reduceAdd, reduceLeDiff, reduceLT, reduceMul, reduceEq, Int.reduceLT, reduceLE, Int.reduceAdd, reduceSub, reduceToNat, UInt8.reduceToNat]; rfl⟩ hm fun bs cl it hb hn _ hit => ?_
  have dm : ¬ m = it := fun e => by rw [e, hit] at hm; cases hm
  simp -implicitDefEqProofs only [go_sem, reduceEqDiff, reduceAdd, reduceLeDiff, reduceLT, reduceMul, reduceEq, Int.reduceLT, reduceLE, Int.reduceAdd, reduceSub, reduceToNat, UInt8.reduceToNat]
  have g1 : ((H.put m (.bmap .str es bs cl)).put it (.iter (some m) cl [])) it = some (.iter (some m) cl []) := put_same _ _ _
  have g2 : ((H.put m (.bmap .str es bs cl)).put it (.iter (some m) cl [])) m = some (.bmap .str es bs cl) := by rw [put_ne _ _ _ _ dm, put_same]
  have g3 : ∀ i o, H i = some o → ¬ i = m → ((H.put m (.bmap .str es bs cl)).put it (.iter (some m) cl [])) i = some o := fun i o hi h => by
    rw [put_ne _ _ _ _ (obj_ne hi hit), put_ne _ _ _ _ h]; exact hi
  generalize (H.put m (.bmap .str es bs cl)).put it (.iter (some m) cl []) = G0 at *
  with_reducible refine aloop_cut 0 (fun r G => ∃ ks id, ks.Perm (es.map keyS) ∧ OwnS H G id ks ∧ ¬ id = m ∧ G m = some (.bmap .str es bs cl) ∧ (∀ i o, H i = some o → ¬ i = m → G i = some o) ∧ agrees r [(3, listV ks id)]) ?_ ?_
  rotate_left
  · refine aloop_intro (σ := List Nat × List Nat × List Bytes × Nat) (fun t => [(0, .map m), (3, listV t.2.2.1 t.2.2.2), (6, .ptr it 0)])
      (fun t G => SeenK es bs t.1 t.2.1 t.2.2.1 ∧ OwnS H G t.2.2.2 t.2.2.1 ∧ ¬ t.2.2.2 = m ∧ ¬ t.2.2.2 = it ∧ G it = some (.iter (some m) cl t.2.1) ∧ G m = some (.bmap .str es bs cl) ∧ (∀ i o, H i = some o → ¬ i = m → G i = some o)) (fun t => es.length - t.1.length) ([], [], [], it + m + 1) ?_ ?_ ?_
    · simp -implicitDefEqProofs only [go_sem, reduceEqDiff, reduceAdd, reduceLeDiff, reduceLT, reduceMul, reduceEq, Int.reduceLT, reduceLE, Int.reduceAdd, reduceSub, reduceToNat, UInt8.reduceToNat]
      exact rfl
    · exact ⟨SeenK.nil _ _, .inl rfl, by simp only; omega, by simp only; omega, g1, g2, g3⟩
    clear g1 g2 g3
    rintro ⟨js, seen, ks, id⟩ r G hv ⟨hS, hO, nm, ni, g1, g2, g3⟩
    have h0 := hv.1
    have h3 := hv.2.1
    have h6 := hv.2.2.1
    clear hv
    simp only at h0 h3 h6 hS hO nm ni g1 g2
    simp -implicitDefEqProofs only [go_sem, reduceEqDiff, reduceAdd, reduceLeDiff, reduceLT, reduceMul, reduceEq, Int.reduceLT, reduceLE, Int.reduceAdd, reduceSub, reduceToNat, UInt8.reduceToNat, h0, h3, h6]
    refine next_intro g1 g2 (fun j k v b hj hbj hsn => ?_) (fun ha => ?_)
    rotate_left
    · simp -implicitDefEqProofs only [go_sem, reduceEqDiff, reduceAdd, reduceLeDiff, reduceLT, reduceMul, reduceEq, Int.reduceLT, reduceLE, Int.reduceAdd, reduceSub, reduceToNat, UInt8.reduceToNat, h0, h3, h6]
      exact ⟨ks, id, hS.all hb hn ha, hO, nm, g2, g3, by simp -implicitDefEqProofs only [go_sem, reduceEqDiff, reduceAdd, reduceLeDiff, reduceLT, reduceMul, reduceEq, Int.reduceLT, reduceLE, Int.reduceAdd, reduceSub, reduceToNat, UInt8.reduceToNat, h3]⟩
    obtain ⟨s, rfl⟩ := hk _ (List.mem_of_getElem? hj)
    have hS2 := hS.step hj hbj hsn
    have hlen := hS2.len
    have g1' : (G.put it (.iter (some m) cl (seen ++ [b]))) it = some (.iter (some m) cl (seen ++ [b])) := put_same _ _ _
    have g2' : (G.put it (.iter (some m) cl (seen ++ [b]))) m = some (.bmap .str es bs cl) := by rw [put_ne _ _ _ _ dm]; exact g2
    have g3' : ∀ i o, H i = some o → ¬ i = m → (G.put it (.iter (some m) cl (seen ++ [b]))) i = some o := fun i o hi h => by
      rw [put_ne _ _ _ _ (obj_ne hi hit)]; exact g3 i o hi h
    have hO' : OwnS H (G.put it (.iter (some m) cl (seen ++ [b]))) id ks := hO.imp (fun h => h) fun h => ⟨h.1, by rw [put_ne _ _ _ _ ni]; exact h.2⟩
    generalize G.put it (.iter (some m) cl (seen ++ [b])) = G1 at *
    simp -implicitDefEqProofs only [go_sem, reduceEqDiff, reduceAdd, reduceLeDiff, reduceLT, reduceMul, reduceEq, Int.reduceLT, reduceLE, Int.reduceAdd, reduceSub, reduceToNat, UInt8.reduceToNat, h0, h3, h6]
    refine here_intro g1' g2' hbj hj ?_
    have hkv : (Key.s s).av .str = .str s := rfl
    have hid' : ∀ id', G1 id' = none → H id' = none ∧ ¬ id' = m ∧ ¬ id' = it := fun id' h => by
      have e1 : ¬ id' = m := fun e => by rw [e, g2'] at h; cases h
      refine ⟨?_, e1, fun e => by rw [e, g1'] at h; cases h⟩
      cases hh : H id' with
      | none => rfl
      | some o => rw [g3' id' o hh e1] at h; cases h
    by_cases hks : ks = []
    · subst hks
      have h3' : r 3 = .sl [] .exact := h3
      simp -implicitDefEqProofs only [go_sem, reduceEqDiff, reduceAdd, reduceLeDiff, reduceLT, reduceMul, reduceEq, Int.reduceLT, reduceLE, Int.reduceAdd, reduceSub, reduceToNat, UInt8.reduceToNat, h0, h3', h6, hkv]
      refine app_ms0 (by simp) (by simp) (by simp) fun id' hi => ?_
      obtain ⟨q1, q2, q3⟩ := hid' id' hi
      simp -implicitDefEqProofs only [go_sem, reduceEqDiff, reduceAdd, reduceLeDiff, reduceLT, reduceMul, reduceEq, Int.reduceLT, reduceLE, Int.reduceAdd, reduceSub, reduceToNat, UInt8.reduceToNat, h0, h6]
      refine Again.mk (js ++ [j], seen ++ [b], [] ++ [keyS (.s s, v)], id') (by simp -implicitDefEqProofs only [go_sem, reduceEqDiff, reduceAdd, reduceLeDiff, reduceLT, reduceMul, reduceEq, Int.reduceLT, reduceLE, Int.reduceAdd, reduceSub, reduceToNat, UInt8.reduceToNat, h0, h6, listV_one, keyS]) ⟨hS2, .inr ⟨q1, put_same _ _ _⟩, q2, q3, by rw [put_ne _ _ _ _ (fun e => q3 e.symm)]; exact g1', by rw [put_ne _ _ _ _ (fun e => q2 e.symm)]; exact g2', fun i o hi2 h => by rw [put_ne _ _ _ _ (fun e => by rw [e, q1] at hi2; cases hi2)]; exact g3' i o hi2 h⟩ (by simp only [List.length_append, List.length_cons, List.length_nil] at hlen ⊢; omega)
    · have hoo := hO'.resolve_left hks
      have h3' := h3
      rw [listV_ne hks] at h3'
      simp -implicitDefEqProofs only [go_sem, reduceEqDiff, reduceAdd, reduceLeDiff, reduceLT, reduceMul, reduceEq, Int.reduceLT, reduceLE, Int.reduceAdd, reduceSub, reduceToNat, UInt8.reduceToNat, h0, h3', h6, hkv]
      refine app_ms hoo.2 (by simp) (by simp only [List.length_cons, List.length_nil] at hlen ⊢; simp at hlen ⊢; omega) (by simp at hlen ⊢; omega) fun id' hi => ?_
      obtain ⟨q1, q2, q3⟩ := hid' id' hi
      simp -implicitDefEqProofs only [go_sem, reduceEqDiff, reduceAdd, reduceLeDiff, reduceLT, reduceMul, reduceEq, Int.reduceLT, reduceLE, Int.reduceAdd, reduceSub, reduceToNat, UInt8.reduceToNat, h0, h6]
      have hcell : (ks.map AV.str ++ [AV.str s]) = (ks ++ [keyS (.s s, v)]).map AV.str := by simp [keyS]
      refine Again.mk (js ++ [j], seen ++ [b], ks ++ [keyS (.s s, v)], id') (by simp -implicitDefEqProofs only [go_sem, reduceEqDiff, reduceAdd, reduceLeDiff, reduceLT, reduceMul, reduceEq, Int.reduceLT, reduceLE, Int.reduceAdd, reduceSub, reduceToNat, UInt8.reduceToNat, h0, h6, listV_app, keyS]) ⟨hS2, .inr ⟨q1, by rw [put_same, ← hcell]; rfl⟩, q2, q3, by rw [put_ne _ _ _ _ (fun e => q3 e.symm), del_ne (fun e => ni e.symm)]; exact g1', by rw [put_ne _ _ _ _ (fun e => q2 e.symm), del_ne (fun e => nm e.symm)]; exact g2', fun i o hi2 h => by rw [put_ne _ _ _ _ (fun e => by rw [e, q1] at hi2; cases hi2), del_ne (fun e => by rw [e, hoo.1] at hi2; cases hi2)]; exact g3' i o hi2 h⟩ (by simp only [List.length_append, List.length_cons, List.length_nil] at hlen ⊢; omega)
  rintro r G ⟨ks, id, hp, hO, nm, g2, g3, hv⟩
  have h3 := hv.1
  clear hv
  have hlk : ks.length = es.length := by rw [hp.length_eq, List.length_map]
  have hsub : H.Sub (G.put m (.map .str es)) := fun k p hi => by
    by_cases e : k = m
    · subst e; rw [hm] at hi; cases hi; exact put_same _ _ _
    · rw [put_ne _ _ _ _ e]; exact g3 k p hi e
  by_cases hks : ks = []
  · subst hks
    have h3' : r 3 = .sl [] .exact := h3
    simp -implicitDefEqProofs only [go_sem, reduceEqDiff, reduceAdd, reduceLeDiff, reduceLT, reduceMul, reduceEq, Int.reduceLT, reduceLE, Int.reduceAdd, reduceSub, reduceToNat, UInt8.reduceToNat, h3']
    refine (sortS0_calls G).pure_next _ ?_
    simp -implicitDefEqProofs only [go_sem, reduceEqDiff, reduceAdd, reduceLeDiff, reduceLT, reduceMul, reduceEq, Int.reduceLT, reduceLE, Int.reduceAdd, reduceSub, reduceToNat, UInt8.reduceToNat, h3']
    exact Done.via (Ghost.unborn g2) (Done.wk 3 (Done.drop hsub ⟨[], hp, by simp; rfl, rfl⟩))
  · have hoo := hO.resolve_left hks
    rw [listV_ne hks] at h3
    simp -implicitDefEqProofs only [go_sem, reduceEqDiff, reduceAdd, reduceLeDiff, reduceLT, reduceMul, reduceEq, Int.reduceLT, reduceLE, Int.reduceAdd, reduceSub, reduceToNat, UInt8.reduceToNat, h3]
    refine (sortS_calls ks id G hoo.2 hks (by omega)).pure_next2 ?_
    simp -implicitDefEqProofs only [go_sem, reduceEqDiff, reduceAdd, reduceLeDiff, reduceLT, reduceMul, reduceEq, Int.reduceLT, reduceLE, Int.reduceAdd, reduceSub, reduceToNat, UInt8.reduceToNat, h3]
    have hlen : (ks.mergeSort fun x y => decide (x ≤ y)).length = ks.length := List.length_mergeSort ks
    refine Done.via (Ghost.freeze1 (off := 0) (len := ks.length) (put_same G id _) (by simp)) ?_
    have g2' : ((G.put id (.cells ((ks.mergeSort fun x y => decide (x ≤ y)).map .str))).del id) m = some (.bmap .str es bs cl) := by rw [del_ne (fun e => nm e.symm), put_ne _ _ _ _ (fun e => nm e.symm)]; exact g2
    refine Done.via (Ghost.unborn g2') (Done.drop (H' := H) (fun k p hi => ?_) ⟨ks, hp, ?_, rfl⟩)
    · by_cases e : k = m
      · subst e; rw [hm] at hi; cases hi; exact put_same _ _ _
      · have e2 : ¬ k = id := fun e2 => by rw [e2, hoo.1] at hi; cases hi
        rw [put_ne _ _ _ _ e, del_ne e2, put_ne _ _ _ _ e2]
        exact g3 k p hi e
    · rw [List.drop_zero, List.take_of_length_le (by simp), List.map_map]
      rfl
end Go.Proofs

/- Walks: a machine as maps, on the reference's side. -/
namespace Go.Proofs
open Go Go.Abs
open Nat (reduceEqDiff reduceAdd reduceLeDiff reduceLT reduceMul)
open Int (reduceEq reduceLE reduceSub reduceToNat)
set_option linter.unusedSimpArgs false
set_option linter.unusedVariables false
set_option maxRecDepth 20000
/-- The reference's machine of maps. -/
structure RW (H G : Heap) (iw i1 i2 i3 : Nat) (fs : List (List AV)) (ta : Tail) (lf : List FileV) (ls : List SetV) (lv : List SvcV) : Prop where
  sub : H.Sub G
  nw : H iw = none
  n1 : H i1 = none
  n2 : H i2 = none
  n3 : H i3 = none
  d : ¬ i1 = iw ∧ ¬ i2 = iw ∧ ¬ i3 = iw ∧ ¬ i1 = i2 ∧ ¬ i1 = i3 ∧ ¬ i2 = i3
  w : G iw = some (.cells [.sl fs ta, .map i1, .map i2, .map i3])
  f : ∃ es, G i1 = some (.map .str es) ∧ MapOf (·.path) (fun x => .agg (encFile x)) es lf
  s : ∃ es, G i2 = some (.map .str es) ∧ MapOf (·.key) (fun x => .str x.value) es ls
  v : ∃ es, G i3 = some (.map .str es) ∧ MapOf (·.name) (fun x => .agg (encSvc x)) es lv
theorem _root_.Go.Abs.Heap.Sub.ne {H G : Heap} (h : H.Sub G) {i j : Nat} {o : AObj} (hi : H i = none) (hj : H j = some o) : ¬ j = i := fun e => by rw [e, hi] at hj; cases hj
theorem RW.put {H G : Heap} {iw i1 i2 i3 : Nat} {fs : List (List AV)} {ta : Tail} {lf : List FileV} {ls : List SetV} {lv : List SvcV} (h : RW H G iw i1 i2 i3 fs ta lf ls lv) {id : Nat} (hid : G id = none) (o : AObj) : RW H (G.put id o) iw i1 i2 i3 fs ta lf ls lv := by
  obtain ⟨a, b, c, d, e, f, g, ⟨e1, h1, k1⟩, ⟨e2, h2, k2⟩, ⟨e3, h3, k3⟩⟩ := h
  exact ⟨a.put' (sub_none a hid) _, b, c, d, e, f, by rw [put_ne _ _ _ _ (obj_ne g hid)]; exact g, ⟨e1, by rw [put_ne _ _ _ _ (obj_ne h1 hid)]; exact h1, k1⟩, ⟨e2, by rw [put_ne _ _ _ _ (obj_ne h2 hid)]; exact h2, k2⟩, ⟨e3, by rw [put_ne _ _ _ _ (obj_ne h3 hid)]; exact h3, k3⟩⟩
theorem RW.setF {H G : Heap} {iw i1 i2 i3 : Nat} {fs : List (List AV)} {ta : Tail} {lf lf' : List FileV} {ls : List SetV} {lv : List SvcV} (h : RW H G iw i1 i2 i3 fs ta lf ls lv) {es : List (Key × AV)} (hes : MapOf (·.path) (fun x => .agg (encFile x)) es lf') : RW H (G.put i1 (.map .str es)) iw i1 i2 i3 fs ta lf' ls lv := by
  obtain ⟨a, b, c, d, e, f, g, -, ⟨e2, h2, k2⟩, ⟨e3, h3, k3⟩⟩ := h
  exact ⟨a.put' c _, b, c, d, e, f, by rw [put_ne _ _ _ _ (fun e => f.1 e.symm)]; exact g, ⟨es, put_same _ _ _, hes⟩, ⟨e2, by rw [put_ne _ _ _ _ (fun e => f.2.2.2.1 e.symm)]; exact h2, k2⟩, ⟨e3, by rw [put_ne _ _ _ _ (fun e => f.2.2.2.2.1 e.symm)]; exact h3, k3⟩⟩
theorem RW.setS {H G : Heap} {iw i1 i2 i3 : Nat} {fs : List (List AV)} {ta : Tail} {lf : List FileV} {ls : List SetV} {lv : List SvcV} {ls' : List SetV} (h : RW H G iw i1 i2 i3 fs ta lf ls lv) {es : List (Key × AV)} (hes : MapOf (·.key) (fun x => .str x.value) es ls') : RW H (G.put i2 (.map .str es)) iw i1 i2 i3 fs ta lf ls' lv := by
  obtain ⟨a, b, c, d, e, f, g, ⟨e1, h1, k1⟩, -, ⟨e3, h3, k3⟩⟩ := h
  exact ⟨a.put' d _, b, c, d, e, f, by rw [put_ne _ _ _ _ (fun e => f.2.1 e.symm)]; exact g, ⟨e1, by rw [put_ne _ _ _ _ f.2.2.2.1]; exact h1, k1⟩, ⟨es, put_same _ _ _, hes⟩, ⟨e3, by rw [put_ne _ _ _ _ (fun e => f.2.2.2.2.2 e.symm)]; exact h3, k3⟩⟩
theorem RW.setV {H G : Heap} {iw i1 i2 i3 : Nat} {fs : List (List AV)} {ta : Tail} {lf : List FileV} {ls : List SetV} {lv : List SvcV} {lv' : List SvcV} (h : RW H G iw i1 i2 i3 fs ta lf ls lv) {es : List (Key × AV)} (hes : MapOf (·.name) (fun x => .agg (encSvc x)) es lv') : RW H (G.put i3 (.map .str es)) iw i1 i2 i3 fs ta lf ls lv' := by
  obtain ⟨a, b, c, d, e, f, g, ⟨e1, h1, k1⟩, ⟨e2, h2, k2⟩, -⟩ := h
  exact ⟨a.put' e _, b, c, d, e, f, by rw [put_ne _ _ _ _ (fun e => f.2.2.1 e.symm)]; exact g, ⟨e1, by rw [put_ne _ _ _ _ f.2.2.2.2.1]; exact h1, k1⟩, ⟨e2, by rw [put_ne _ _ _ _ f.2.2.2.2.2]; exact h2, k2⟩, ⟨es, put_same _ _ _, hes⟩⟩
/-- Behind a loop of worldOf. -/
def WorldQ (H : Heap) (iw i1 i2 i3 im : Nat) (fs : List (List AV)) (ta : Tail) (lf : List FileV) (ls : List SetV) (lv : List SvcV) (cs : List AV) (r : Regs) (G : Heap) : Prop :=
  RW H G iw i1 i2 i3 fs ta lf ls lv ∧ G im = some (.cells cs) ∧ r 1 = .ptr im 0 ∧ r 3 = .ptr iw 0
set_option maxHeartbeats 3200000 in
theorem worldOf_calls (m : MacV) (ta tb tc td : Tail) (H : Heap) (hr : macR m) (h1 : Asc (·.path) m.files) (h2 : Asc (·.key) m.sets) (h3 : Asc (·.name) m.svcs) :
    ACalls Tryz.prog 80 [.agg (encMac m ta tb tc td)] H fun x H' => ∃ iw i1 i2 i3, x = .ptr iw 0 ∧ RW H H' iw i1 i2 i3 (m.facts.map encSet) ta m.files m.sets m.svcs := by
  obtain ⟨⟨l1, l2, l3, l4⟩, r1, r2, r3, r4⟩ := hr
  refine ACalls.of_code (X := { pure := pu0 }) pu0_ok Tryz.func80 (by kernel_rfl) rfl (by kernel_rfl) (Nat.le_of_ble_eq_true rfl) ?_
  simp -implicitDefEqProofs only [go_sem, reduceEqDiff, reduceAdd, reduceLeDiff, reduceLT, reduceMul, reduceEq, Int.reduceLT, reduceLE, Int.reduceAdd, reduceSub, reduceToNat, UInt8.reduceToNat, Tryz.f80, encMac]
  have hS := Heap.Sub.rfl' H
  with_reducible refine nwC_intro fun im him => ?_
  generalize Em : Heap.put H im _ = G1
  have hO_m := obj_new Em him hS
  have nm := hO_m.1
  have hS := hO_m.2.1
  have gm := hO_m.2.2.1
  clear hO_m
  simp -implicitDefEqProofs only [go_sem, reduceEqDiff, reduceAdd, reduceLeDiff, reduceLT, reduceMul, reduceEq, Int.reduceLT, reduceLE, Int.reduceAdd, reduceSub, reduceToNat, UInt8.reduceToNat, gm]
  with_reducible refine nwM_intro fun i1 hi1 => ?_
  generalize E1 : Heap.put G1 i1 _ = G2
  have hO_1 := obj_new E1 hi1 hS
  have n1 := hO_1.1
  have hS := hO_1.2.1
  have g1 := hO_1.2.2.1
  have dm_1 := obj_ne gm hi1
  have gm := hO_1.2.2.2 _ _ gm
  clear hO_1
  simp -implicitDefEqProofs only [go_sem, reduceEqDiff, reduceAdd, reduceLeDiff, reduceLT, reduceMul, reduceEq, Int.reduceLT, reduceLE, Int.reduceAdd, reduceSub, reduceToNat, UInt8.reduceToNat]
  with_reducible refine nwM_intro fun i2 hi2 => ?_
  generalize E2 : Heap.put G2 i2 _ = G3
  have hO_2 := obj_new E2 hi2 hS
  have n2 := hO_2.1
  have hS := hO_2.2.1
  have g2 := hO_2.2.2.1
  have dm_2 := obj_ne gm hi2
  have gm := hO_2.2.2.2 _ _ gm
  have d1_2 := obj_ne g1 hi2
  have g1 := hO_2.2.2.2 _ _ g1
  clear hO_2
  simp -implicitDefEqProofs only [go_sem, reduceEqDiff, reduceAdd, reduceLeDiff, reduceLT, reduceMul, reduceEq, Int.reduceLT, reduceLE, Int.reduceAdd, reduceSub, reduceToNat, UInt8.reduceToNat]
  with_reducible refine nwM_intro fun i3 hi3 => ?_
  generalize E3 : Heap.put G3 i3 _ = G4
  have hO_3 := obj_new E3 hi3 hS
  have n3 := hO_3.1
  have hS := hO_3.2.1
  have g3 := hO_3.2.2.1
  have dm_3 := obj_ne gm hi3
  have gm := hO_3.2.2.2 _ _ gm
  have d1_3 := obj_ne g1 hi3
  have g1 := hO_3.2.2.2 _ _ g1
  have d2_3 := obj_ne g2 hi3
  have g2 := hO_3.2.2.2 _ _ g2
  clear hO_3
  simp -implicitDefEqProofs only [go_sem, reduceEqDiff, reduceAdd, reduceLeDiff, reduceLT, reduceMul, reduceEq, Int.reduceLT, reduceLE, Int.reduceAdd, reduceSub, reduceToNat, UInt8.reduceToNat]
  with_reducible refine nwC_intro fun iw hiw => ?_
  generalize Ew : Heap.put G4 iw _ = G5
  have hO_w := obj_new Ew hiw hS
  have nw := hO_w.1
  have hS := hO_w.2.1
  have gw := hO_w.2.2.1
  have dm_w := obj_ne gm hiw
  have gm := hO_w.2.2.2 _ _ gm
  have d1_w := obj_ne g1 hiw
  have g1 := hO_w.2.2.2 _ _ g1
  have d2_w := obj_ne g2 hiw
  have g2 := hO_w.2.2.2 _ _ g2
  have d3_w := obj_ne g3 hiw
  have g3 := hO_w.2.2.2 _ _ g3
  clear hO_w
  have hRW : RW H G5 iw i1 i2 i3 (m.facts.map encSet) ta [] [] [] :=
    ⟨hS, nw, n1, n2, n3, ⟨d1_w, d2_w, d3_w, d1_2, d1_3, d2_3⟩, gw, ⟨[], g1, MapOf.nil⟩, ⟨[], g2, MapOf.nil⟩, ⟨[], g3, MapOf.nil⟩⟩
  clear g1 g2 g3 gw hS E1 E2 E3 Em Ew
  have nmH : H im = none := him
  simp -implicitDefEqProofs only [go_sem, reduceEqDiff, reduceAdd, reduceLeDiff, reduceLT, reduceMul, reduceEq, Int.reduceLT, reduceLE, Int.reduceAdd, reduceSub, reduceToNat, UInt8.reduceToNat, gm]
  with_reducible refine aloop_cut 0 (WorldQ H iw i1 i2 i3 im (m.facts.map encSet) ta m.files [] [] (encMac m ta tb tc td)) ?_ ?_
  rotate_left
  · refine aloop_intro (σ := Nat) (fun i => [(1, .ptr im 0), (3, .ptr iw 0), (18, .sl (m.files.map encFile) tb), (19, .int .i64 m.files.length), (20, .int .i64 i)])
      (fun i G => i ≤ m.files.length ∧ RW H G iw i1 i2 i3 (m.facts.map encSet) ta (m.files.take i) [] [] ∧ G im = some (.cells (encMac m ta tb tc td))) (fun i => m.files.length - i) 0 ?_ ?_ ?_
    · simp -implicitDefEqProofs only [go_sem, reduceEqDiff, reduceAdd, reduceLeDiff, reduceLT, reduceMul, reduceEq, Int.reduceLT, reduceLE, Int.reduceAdd, reduceSub, reduceToNat, UInt8.reduceToNat]
    · exact ⟨Nat.zero_le _, hRW, gm⟩
    clear hRW
    rintro i r G hv ⟨hi, hR, gm⟩
    have e1 := hv.1
    have e3 := hv.2.1
    have ea := hv.2.2.1
    have eb := hv.2.2.2.1
    have ec := hv.2.2.2.2.1
    clear hv
    by_cases g : i < m.files.length
    rotate_left
    · have y0 : decide ((i : Int) < m.files.length) = false := decide_eq_false (by omega)
      obtain rfl : i = m.files.length := by omega
      rw [List.take_length] at hR
      simp -implicitDefEqProofs only [go_sem, reduceEqDiff, reduceAdd, reduceLeDiff, reduceLT, reduceMul, reduceEq, Int.reduceLT, reduceLE, Int.reduceAdd, reduceSub, reduceToNat, UInt8.reduceToNat, e1, e3, ea, eb, ec, y0]
      exact ⟨hR, gm, by simp -implicitDefEqProofs only [go_sem, reduceEqDiff, reduceAdd, reduceLeDiff, reduceLT, reduceMul, reduceEq, Int.reduceLT, reduceLE, Int.reduceAdd, reduceSub, reduceToNat, UInt8.reduceToNat, e1], by simp -implicitDefEqProofs only [go_sem, reduceEqDiff, reduceAdd, reduceLeDiff, reduceLT, reduceMul, reduceEq, Int.reduceLT, reduceLE, Int.reduceAdd, reduceSub, reduceToNat, UInt8.reduceToNat, e3]⟩
    have y0 : decide ((i : Int) < m.files.length) = true := decide_eq_true (by omega)
    obtain ⟨x, hx⟩ : ∃ x, m.files[i]? = some x := getD_get' g
    have ws : IntKind.i64.wrap ((i : Int) + 1) = ((i + 1 : Nat) : Int) := by rw [Go.IntWalk.i64_in _ (by omega)]; omega
    have hU : ∀ (a : FileV), a ∈ m.files → (encFile a).length = 3 := fun _ _ => rfl
    have hput := putK_take h1 hx
    obtain ⟨p, d, ru⟩ := x
    simp -implicitDefEqProofs only [go_sem, reduceEqDiff, reduceAdd, reduceLeDiff, reduceLT, reduceMul, reduceEq, Int.reduceLT, reduceLE, Int.reduceAdd, reduceSub, reduceToNat, UInt8.reduceToNat, e1, e3, ea, eb, ec, y0, hx]
    refine ⟨hU, Nat.le_refl _, ?_⟩
    simp only [encFile, List.take_succ_cons, List.take_zero, List.take_nil]
    with_reducible refine nwC_intro fun i5 hi5 => ?_
    simp -implicitDefEqProofs only [go_sem, reduceEqDiff, reduceAdd, reduceLeDiff, reduceLT, reduceMul, reduceEq, Int.reduceLT, reduceLE, Int.reduceAdd, reduceSub, reduceToNat, UInt8.reduceToNat]
    have hR2 := hR.put hi5 (.cells [.str p, .str d, .bool ru])
    have gm2 : (G.put i5 (.cells [.str p, .str d, .bool ru])) im = some (.cells (encMac m ta tb tc td)) := by rw [put_ne _ _ _ _ (obj_ne gm hi5)]; exact gm
    have g5 := put_same G i5 (.cells [.str p, .str d, .bool ru])
    generalize G.put i5 (.cells [.str p, .str d, .bool ru]) = G6 at *
    obtain ⟨es, k1, k2⟩ := hR2.f
    have kw := hR2.w
    simp -implicitDefEqProofs only [go_sem, reduceEqDiff, reduceAdd, reduceLeDiff, reduceLT, reduceMul, reduceEq, Int.reduceLT, reduceLE, Int.reduceAdd, reduceSub, reduceToNat, UInt8.reduceToNat, e1, e3, ea, eb, ec, g5, kw, k1, ws]
    exact Again.mk (i + 1) (by simp -implicitDefEqProofs only [go_sem, reduceEqDiff, reduceAdd, reduceLeDiff, reduceLT, reduceMul, reduceEq, Int.reduceLT, reduceLE, Int.reduceAdd, reduceSub, reduceToNat, UInt8.reduceToNat, e1, e3, ea, eb]) ⟨by omega, by rw [← hput]; exact hR2.setF (k2.set ⟨p, d, ru⟩), by rw [put_ne _ _ _ _ dm_1]; exact gm2⟩ (by omega)
  clear hRW gm
  rintro r G ⟨hRW, gm, e1, e3⟩
  simp -implicitDefEqProofs only [go_sem, reduceEqDiff, reduceAdd, reduceLeDiff, reduceLT, reduceMul, reduceEq, Int.reduceLT, reduceLE, Int.reduceAdd, reduceSub, reduceToNat, UInt8.reduceToNat, e1, e3, gm, encMac]
  with_reducible refine aloop_cut 2 (WorldQ H iw i1 i2 i3 im (m.facts.map encSet) ta m.files m.sets [] (encMac m ta tb tc td)) ?_ ?_
  rotate_left
  · refine aloop_intro (σ := Nat) (fun i => [(1, .ptr im 0), (3, .ptr iw 0), (33, .sl (m.sets.map encSet) tc), (34, .int .i64 m.sets.length), (35, .int .i64 i)])
      (fun i G => i ≤ m.sets.length ∧ RW H G iw i1 i2 i3 (m.facts.map encSet) ta m.files (m.sets.take i) [] ∧ G im = some (.cells (encMac m ta tb tc td))) (fun i => m.sets.length - i) 0 ?_ ?_ ?_
    · simp -implicitDefEqProofs only [go_sem, reduceEqDiff, reduceAdd, reduceLeDiff, reduceLT, reduceMul, reduceEq, Int.reduceLT, reduceLE, Int.reduceAdd, reduceSub, reduceToNat, UInt8.reduceToNat, e1, e3]
    · exact ⟨Nat.zero_le _, hRW, gm⟩
    clear hRW e1 e3
    rintro i r G hv ⟨hi, hR, gm⟩
    have e1 := hv.1
    have e3 := hv.2.1
    have ea := hv.2.2.1
    have eb := hv.2.2.2.1
    have ec := hv.2.2.2.2.1
    clear hv
    by_cases g : i < m.sets.length
    rotate_left
    · have y0 : decide ((i : Int) < m.sets.length) = false := decide_eq_false (by omega)
      obtain rfl : i = m.sets.length := by omega
      rw [List.take_length] at hR
      simp -implicitDefEqProofs only [go_sem, reduceEqDiff, reduceAdd, reduceLeDiff, reduceLT, reduceMul, reduceEq, Int.reduceLT, reduceLE, Int.reduceAdd, reduceSub, reduceToNat, UInt8.reduceToNat, e1, e3, ea, eb, ec, y0]
      exact ⟨hR, gm, by simp -implicitDefEqProofs only [go_sem, reduceEqDiff, reduceAdd, reduceLeDiff, reduceLT, reduceMul, reduceEq, Int.reduceLT, reduceLE, Int.reduceAdd, reduceSub, reduceToNat, UInt8.reduceToNat, e1], by simp -implicitDefEqProofs only [go_sem, reduceEqDiff, reduceAdd, reduceLeDiff, reduceLT, reduceMul, reduceEq, Int.reduceLT, reduceLE, Int.reduceAdd, reduceSub, reduceToNat, UInt8.reduceToNat, e3]⟩
    have y0 : decide ((i : Int) < m.sets.length) = true := decide_eq_true (by omega)
    obtain ⟨x, hx⟩ : ∃ x, m.sets[i]? = some x := getD_get' g
    have ws : IntKind.i64.wrap ((i : Int) + 1) = ((i + 1 : Nat) : Int) := by rw [Go.IntWalk.i64_in _ (by omega)]; omega
    have hU : ∀ (a : SetV), a ∈ m.sets → (encSet a).length = 2 := fun _ _ => rfl
    have hput := putK_take h2 hx
    obtain ⟨p, d⟩ := x
    simp -implicitDefEqProofs only [go_sem, reduceEqDiff, reduceAdd, reduceLeDiff, reduceLT, reduceMul, reduceEq, Int.reduceLT, reduceLE, Int.reduceAdd, reduceSub, reduceToNat, UInt8.reduceToNat, e1, e3, ea, eb, ec, y0, hx]
    refine ⟨hU, Nat.le_refl _, ?_⟩
    simp only [encSet, List.take_succ_cons, List.take_zero, List.take_nil]
    with_reducible refine nwC_intro fun i5 hi5 => ?_
    simp -implicitDefEqProofs only [go_sem, reduceEqDiff, reduceAdd, reduceLeDiff, reduceLT, reduceMul, reduceEq, Int.reduceLT, reduceLE, Int.reduceAdd, reduceSub, reduceToNat, UInt8.reduceToNat]
    have hR2 := hR.put hi5 (.cells [.str p, .str d])
    have gm2 : (G.put i5 (.cells [.str p, .str d])) im = some (.cells (encMac m ta tb tc td)) := by rw [put_ne _ _ _ _ (obj_ne gm hi5)]; exact gm
    have g5 := put_same G i5 (.cells [.str p, .str d])
    generalize G.put i5 (.cells [.str p, .str d]) = G6 at *
    obtain ⟨es, k1, k2⟩ := hR2.s
    have kw := hR2.w
    simp -implicitDefEqProofs only [go_sem, reduceEqDiff, reduceAdd, reduceLeDiff, reduceLT, reduceMul, reduceEq, Int.reduceLT, reduceLE, Int.reduceAdd, reduceSub, reduceToNat, UInt8.reduceToNat, e1, e3, ea, eb, ec, g5, kw, k1, ws]
    exact Again.mk (i + 1) (by simp -implicitDefEqProofs only [go_sem, reduceEqDiff, reduceAdd, reduceLeDiff, reduceLT, reduceMul, reduceEq, Int.reduceLT, reduceLE, Int.reduceAdd, reduceSub, reduceToNat, UInt8.reduceToNat, e1, e3, ea, eb]) ⟨by omega, by rw [← hput]; exact hR2.setS (k2.set ⟨p, d⟩), by rw [put_ne _ _ _ _ dm_2]; exact gm2⟩ (by omega)
  clear hRW gm e1 e3
  rintro r G ⟨hRW, gm, e1, e3⟩
  simp -implicitDefEqProofs only [go_sem, reduceEqDiff, reduceAdd, reduceLeDiff, reduceLT, reduceMul, reduceEq, Int.reduceLT, reduceLE, Int.reduceAdd, reduceSub, reduceToNat, UInt8.reduceToNat, e1, e3, gm, encMac]
  with_reducible refine aloop_cut 4 (WorldQ H iw i1 i2 i3 im (m.facts.map encSet) ta m.files m.sets m.svcs (encMac m ta tb tc td)) ?_ ?_
  rotate_left
  · refine aloop_intro (σ := Nat) (fun i => [(1, .ptr im 0), (3, .ptr iw 0), (49, .sl (m.svcs.map encSvc) td), (50, .int .i64 m.svcs.length), (51, .int .i64 i)])
      (fun i G => i ≤ m.svcs.length ∧ RW H G iw i1 i2 i3 (m.facts.map encSet) ta m.files m.sets (m.svcs.take i) ∧ G im = some (.cells (encMac m ta tb tc td))) (fun i => m.svcs.length - i) 0 ?_ ?_ ?_
    · simp -implicitDefEqProofs only [go_sem, reduceEqDiff, reduceAdd, reduceLeDiff, reduceLT, reduceMul, reduceEq, Int.reduceLT, reduceLE, Int.reduceAdd, reduceSub, reduceToNat, UInt8.reduceToNat, e1, e3]
    · exact ⟨Nat.zero_le _, hRW, gm⟩
    clear hRW e1 e3
    rintro i r G hv ⟨hi, hR, gm⟩
    have e1 := hv.1
    have e3 := hv.2.1
    have ea := hv.2.2.1
    have eb := hv.2.2.2.1
    have ec := hv.2.2.2.2.1
    clear hv
    by_cases g : i < m.svcs.length
    rotate_left
    · have y0 : decide ((i : Int) < m.svcs.length) = false := decide_eq_false (by omega)
      obtain rfl : i = m.svcs.length := by omega
      rw [List.take_length] at hR
      simp -implicitDefEqProofs only [go_sem, reduceEqDiff, reduceAdd, reduceLeDiff, reduceLT, reduceMul, reduceEq, Int.reduceLT, reduceLE, Int.reduceAdd, reduceSub, reduceToNat, UInt8.reduceToNat, e1, e3, ea, eb, ec, y0]
      exact ⟨hR, gm, by simp -implicitDefEqProofs only [go_sem, reduceEqDiff, reduceAdd, reduceLeDiff, reduceLT, reduceMul, reduceEq, Int.reduceLT, reduceLE, Int.reduceAdd, reduceSub, reduceToNat, UInt8.reduceToNat, e1], by simp -implicitDefEqProofs only [go_sem, reduceEqDiff, reduceAdd, reduceLeDiff, reduceLT, reduceMul, reduceEq, Int.reduceLT, reduceLE, Int.reduceAdd, reduceSub, reduceToNat, UInt8.reduceToNat, e3]⟩
    have y0 : decide ((i : Int) < m.svcs.length) = true := decide_eq_true (by omega)
    obtain ⟨x, hx⟩ : ∃ x, m.svcs[i]? = some x := getD_get' g
    have ws : IntKind.i64.wrap ((i : Int) + 1) = ((i + 1 : Nat) : Int) := by rw [Go.IntWalk.i64_in _ (by omega)]; omega
    have hU : ∀ (a : SvcV), a ∈ m.svcs → (encSvc a).length = 4 := fun _ _ => rfl
    have hput := putK_take h3 hx
    obtain ⟨p, d, au, on⟩ := x
    simp -implicitDefEqProofs only [go_sem, reduceEqDiff, reduceAdd, reduceLeDiff, reduceLT, reduceMul, reduceEq, Int.reduceLT, reduceLE, Int.reduceAdd, reduceSub, reduceToNat, UInt8.reduceToNat, e1, e3, ea, eb, ec, y0, hx]
    refine ⟨hU, Nat.le_refl _, ?_⟩
    simp only [encSvc, List.take_succ_cons, List.take_zero, List.take_nil]
    with_reducible refine nwC_intro fun i5 hi5 => ?_
    simp -implicitDefEqProofs only [go_sem, reduceEqDiff, reduceAdd, reduceLeDiff, reduceLT, reduceMul, reduceEq, Int.reduceLT, reduceLE, Int.reduceAdd, reduceSub, reduceToNat, UInt8.reduceToNat]
    have hR2 := hR.put hi5 (.cells [.str p, .str d, .bool au, .bool on])
    have gm2 : (G.put i5 (.cells [.str p, .str d, .bool au, .bool on])) im = some (.cells (encMac m ta tb tc td)) := by rw [put_ne _ _ _ _ (obj_ne gm hi5)]; exact gm
    have g5 := put_same G i5 (.cells [.str p, .str d, .bool au, .bool on])
    generalize G.put i5 (.cells [.str p, .str d, .bool au, .bool on]) = G6 at *
    obtain ⟨es, k1, k2⟩ := hR2.v
    have kw := hR2.w
    simp -implicitDefEqProofs only [go_sem, reduceEqDiff, reduceAdd, reduceLeDiff, reduceLT, reduceMul, reduceEq, Int.reduceLT, reduceLE, Int.reduceAdd, reduceSub, reduceToNat, UInt8.reduceToNat, e1, e3, ea, eb, ec, g5, kw, k1, ws]
    exact Again.mk (i + 1) (by simp -implicitDefEqProofs only [go_sem, reduceEqDiff, reduceAdd, reduceLeDiff, reduceLT, reduceMul, reduceEq, Int.reduceLT, reduceLE, Int.reduceAdd, reduceSub, reduceToNat, UInt8.reduceToNat, e1, e3, ea, eb]) ⟨by omega, by rw [← hput]; exact hR2.setV (k2.set ⟨p, d, au, on⟩), by rw [put_ne _ _ _ _ dm_3]; exact gm2⟩ (by omega)
  clear hRW gm e1 e3
  rintro r G ⟨hRW, gm, e1, e3⟩
  simp -implicitDefEqProofs only [go_sem, reduceEqDiff, reduceAdd, reduceLeDiff, reduceLT, reduceMul, reduceEq, Int.reduceLT, reduceLE, Int.reduceAdd, reduceSub, reduceToNat, UInt8.reduceToNat, e1, e3, gm, encMac]
  refine Done.now ⟨iw, i1, i2, i3, rfl, hRW⟩
end Go.Proofs
