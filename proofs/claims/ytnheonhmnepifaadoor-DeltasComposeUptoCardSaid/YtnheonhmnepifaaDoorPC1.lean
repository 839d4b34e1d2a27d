/- Plain laws: deltas are composed. -/
import Derived.Test.YtnheonhmnepifaaDoorPM1
namespace Go.Proofs
open Go Go.Abs
set_option linter.unusedSimpArgs false
set_option linter.unusedVariables false
/-- A piece, byte by byte. -/
def units (p : PieceV) : List PieceV := if p.data ≠ [] then p.data.map (fun c => ⟨0, 0, [c]⟩) else (List.range p.long.toNat).map fun i : Nat => ⟨p.at_ + (i : Int), 1, []⟩
def unitsL (l : List PieceV) : List PieceV := (l.map units).flatten
theorem pcE_data {old : Int} {p : PieceV} (h : pcE old p = 0) (hd : p.data ≠ []) : p.at_ = 0 ∧ p.long = 0 := by
  unfold pcE at h
  rw [if_pos hd] at h
  split at h
  · cases h
  · omega
theorem pcE_copy {old : Int} {p : PieceV} (h : pcE old p = 0) (hd : p.data = []) : 0 ≤ p.at_ ∧ 1 ≤ p.long ∧ p.at_ + p.long ≤ old := by
  unfold pcE at h
  rw [if_neg (by simpa using hd)] at h
  split at h
  · cases h
  · omega
theorem units_len {old : Int} {p : PieceV} (h : pcE old p = 0) : ((units p).length : Int) = pcSize p ∧ 1 ≤ pcSize p := by
  unfold units pcSize
  by_cases hd : p.data = []
  · have := pcE_copy h hd
    rw [if_neg (by simpa using hd), if_neg (by simpa using hd)]
    rw [List.length_map, List.length_range]
    omega
  · rw [if_pos hd, if_pos hd, List.length_map]
    have : 0 < p.data.length := List.length_pos_iff.2 hd
    omega
theorem jstep_last (o : List PieceV) (q p : PieceV) : jstep (o ++ [q]) p = match pcMerge q p with
    | some q' => o ++ [q']
    | none => o ++ [q] ++ [p] := by
  unfold jstep
  rw [List.getLast?_concat]
  simp only [List.dropLast_concat]
  cases pcMerge q p <;> rfl
theorem merge_data {q p : PieceV} (h1 : q.data ≠ []) (h2 : p.data ≠ []) : pcMerge q p = some ⟨q.at_, q.long, q.data ++ p.data⟩ := by
  unfold pcMerge
  rw [if_neg (fun h => h1 h.1), if_pos ⟨h1, h2⟩]
theorem merge_copy {q p : PieceV} (h1 : q.data = []) (h2 : p.data = []) : pcMerge q p = if p.at_ = q.at_ + q.long then some ⟨q.at_, q.long + p.long, []⟩ else none := by
  unfold pcMerge
  by_cases h : p.at_ = q.at_ + q.long
  · rw [if_pos ⟨h1, h2, h⟩, if_pos h]
  · rw [if_neg (fun hh => h hh.2.2), if_neg (fun hh => hh.1 h1), if_neg h]
theorem merge_mix {q p : PieceV} (h : ¬ (q.data = [] ↔ p.data = [])) : pcMerge q p = none := by
  unfold pcMerge
  rw [if_neg (fun hh => h ⟨fun _ => hh.2.1, fun _ => hh.1⟩), if_neg (fun hh => h ⟨fun e => absurd e hh.1, fun e => absurd e hh.2⟩)]
theorem fold_data : ∀ (cs : Bytes) (o : List PieceV) (q : PieceV), q.data ≠ [] → (cs.map (fun c => (⟨0, 0, [c]⟩ : PieceV))).foldl jstep (o ++ [q]) = o ++ [⟨q.at_, q.long, q.data ++ cs⟩]
  | [], o, q, _ => by simp
  | c :: cs, o, q, h => by
    rw [List.map_cons, List.foldl_cons, jstep_last, merge_data h (by simp)]
    simp only
    rw [fold_data cs o ⟨q.at_, q.long, q.data ++ [c]⟩ (by simp)]
    simp
theorem fold_copy : ∀ (n : Nat) (b : Int) (o : List PieceV) (q : PieceV), q.data = [] → q.at_ + q.long = b → ((List.range n).map (fun i : Nat => (⟨b + (i : Int), 1, []⟩ : PieceV))).foldl jstep (o ++ [q]) = o ++ [⟨q.at_, q.long + n, []⟩]
  | 0, b, o, q, h1, h2 => by
    obtain ⟨x, y, z⟩ := q
    simp only at h1
    subst h1
    simp
  | n + 1, b, o, q, h1, h2 => by
    rw [List.range_succ, List.map_append, List.foldl_append, fold_copy n b o q h1 h2]
    simp only [List.map_cons, List.map_nil, List.foldl_cons, List.foldl_nil]
    rw [jstep_last, merge_copy rfl rfl, if_pos (by simp only; omega)]
    simp only
    congr 2
    congr 1
    omega
theorem jstep_nil (p : PieceV) : jstep [] p = [p] := rfl
/-- Byte by byte it is the same. -/
theorem units_fold {old : Int} {p : PieceV} (h : pcE old p = 0) (out : List PieceV) : (units p).foldl jstep out = jstep out p := by
  obtain ⟨at_, long, data⟩ := p
  unfold units
  by_cases hd : data = []
  · subst hd
    obtain ⟨h1, h2, h3⟩ := pcE_copy h rfl
    simp only at h1 h2 h3
    rw [if_neg (by simp)]
    simp only
    obtain ⟨n, rfl⟩ : ∃ n : Nat, long = n + 1 := ⟨(long - 1).toNat, by omega⟩
    rw [show ((n : Int) + 1).toNat = n + 1 by omega, List.range_succ_eq_map, List.map_cons, List.map_map, List.foldl_cons]
    have e : ((fun i : Nat => (⟨at_ + (i : Int), 1, []⟩ : PieceV)) ∘ Nat.succ) = fun i : Nat => (⟨at_ + 1 + (i : Int), 1, []⟩ : PieceV) := by
      funext i
      simp only [Function.comp]
      congr 1
      omega
    rw [e]
    have hout := List.eq_nil_or_concat out
    simp only [List.concat_eq_append] at hout
    rcases hout with rfl | ⟨o, q, rfl⟩
    · rw [jstep_nil, jstep_nil]
      have := fold_copy n (at_ + 1) [] ⟨at_ + ((0 : Nat) : Int), 1, []⟩ rfl (by simp only; omega)
      rw [List.nil_append] at this
      rw [this]
      simp only [List.nil_append]
      congr 2
      · omega
      · omega
    · rw [jstep_last, jstep_last]
      by_cases hq : q.data = []
      · rw [merge_copy hq rfl, merge_copy hq rfl]
        simp only
        by_cases hm : at_ = q.at_ + q.long
        · rw [if_pos (by omega), if_pos hm]
          simp only
          rw [fold_copy n (at_ + 1) o ⟨q.at_, q.long + 1, []⟩ rfl (by simp only; omega)]
          simp only
          congr 2
          congr 1
          omega
        · rw [if_neg (by omega), if_neg hm]
          simp only
          rw [fold_copy n (at_ + 1) (o ++ [q]) ⟨at_ + ((0 : Nat) : Int), 1, []⟩ rfl (by simp only; omega)]
          simp only
          congr 3
          · omega
          · omega
      · rw [merge_mix (by simpa using hq), merge_mix (by simpa using hq)]
        simp only
        rw [fold_copy n (at_ + 1) (o ++ [q]) ⟨at_ + ((0 : Nat) : Int), 1, []⟩ rfl (by simp only; omega)]
        simp only
        congr 3
        · omega
        · omega
  · obtain ⟨h1, h2⟩ := pcE_data h hd
    simp only at h1 h2
    subst h1
    subst h2
    rw [if_pos hd]
    simp only
    obtain ⟨c, cs, rfl⟩ : ∃ c cs, data = c :: cs := by cases data with
      | nil => exact absurd rfl hd
      | cons c cs => exact ⟨c, cs, rfl⟩
    rw [List.map_cons, List.foldl_cons]
    have hout := List.eq_nil_or_concat out
    simp only [List.concat_eq_append] at hout
    rcases hout with rfl | ⟨o, q, rfl⟩
    · rw [jstep_nil, jstep_nil]
      have := fold_data cs [] ⟨0, 0, [c]⟩ (by simp)
      rw [List.nil_append] at this
      rw [this]
      simp
    · rw [jstep_last, jstep_last]
      by_cases hq : q.data = []
      · rw [merge_mix (by simp [hq]), merge_mix (by simp [hq])]
        simp only
        rw [fold_data cs (o ++ [q]) ⟨0, 0, [c]⟩ (by simp)]
        simp
      · rw [merge_data hq (by simp), merge_data hq (by simp)]
        simp only
        rw [fold_data cs o ⟨q.at_, q.long, q.data ++ [c]⟩ (by simp)]
        simp
theorem unitsL_fold {old : Int} : ∀ (l : List PieceV) (out : List PieceV), (∀ p ∈ l, pcE old p = 0) → (unitsL l).foldl jstep out = l.foldl jstep out
  | [], _, _ => rfl
  | p :: l, out, h => by
    unfold unitsL
    rw [List.map_cons, List.flatten_cons, List.foldl_append, units_fold (h p (List.mem_cons_self ..)), List.foldl_cons]
    exact unitsL_fold l _ fun q hq => h q (List.mem_cons_of_mem _ hq)
def partV (q : PieceV) (f t : Int) : PieceV := if q.data ≠ [] then ⟨0, 0, (q.data.take t.toNat).drop f.toNat⟩ else ⟨q.at_ + f, t - f, []⟩
theorem partV_ok {old : Int} {q : PieceV} {f t : Int} (h : pcE old q = 0) (h0 : 0 ≤ f) (h1 : f < t) (h2 : t ≤ pcSize q) : pcE old (partV q f t) = 0 ∧ units (partV q f t) = ((units q).take t.toNat).drop f.toNat := by
  obtain ⟨f, rfl⟩ : ∃ n : Nat, f = n := ⟨f.toNat, by omega⟩
  obtain ⟨t, rfl⟩ : ∃ n : Nat, t = n := ⟨t.toNat, by omega⟩
  simp only [Int.toNat_natCast]
  unfold partV
  by_cases hd : q.data = []
  · obtain ⟨g1, g2, g3⟩ := pcE_copy h hd
    have hs : pcSize q = q.long := by unfold pcSize; rw [if_neg (by simpa using hd)]
    rw [if_neg (by simpa using hd)]
    refine ⟨?_, ?_⟩
    · unfold pcE
      rw [if_neg (by simp)]
      simp only
      rw [if_neg (by omega)]
    · unfold units
      rw [if_neg (by simp), if_neg (by simpa using hd)]
      simp only
      apply List.ext_getElem?
      intro i
      rw [List.getElem?_drop, List.getElem?_take, List.getElem?_map, List.getElem?_map]
      by_cases hi : i < t - f
      · rw [if_pos (by omega), List.getElem?_range (by omega), List.getElem?_range (by omega)]
        simp only [Option.map_some]
        congr 2
        omega
      · rw [if_neg (by omega), List.getElem?_eq_none (by rw [List.length_range]; omega)]
        rfl
  · have hs : pcSize q = q.data.length := by unfold pcSize; rw [if_pos hd]
    rw [if_pos hd]
    have hne : ¬ ((q.data.take (t : Int).toNat).drop (f : Int).toNat) = [] := by
      intro e
      have := congrArg List.length e
      rw [List.length_drop, List.length_take] at this
      simp only [List.length_nil, Int.toNat_natCast] at this
      omega
    simp only [Int.toNat_natCast] at hne ⊢
    refine ⟨?_, ?_⟩
    · unfold pcE
      rw [if_pos hne]
      simp
    · unfold units
      rw [if_pos hne, if_pos hd]
      simp only
      rw [List.map_drop, List.map_take]
def cutAll : List PieceV → Int → Int → Int → List PieceV
  | [], _, _, _ => []
  | q :: qs, b, at_, long => (if max (at_ - b) 0 < min (at_ + long - b) (pcSize q) then [partV q (max (at_ - b) 0) (min (at_ + long - b) (pcSize q))] else []) ++ cutAll qs (b + pcSize q) at_ long
theorem unitsL_append (x y : List PieceV) : unitsL (x ++ y) = unitsL x ++ unitsL y := by simp [unitsL]
theorem cutAll_ok {old : Int} : ∀ (ps : List PieceV) (b at_ long : Int), (∀ p ∈ ps, pcE old p = 0) → (∀ p ∈ cutAll ps b at_ long, pcE old p = 0) ∧ unitsL (cutAll ps b at_ long) = ((unitsL ps).take (at_ + long - b).toNat).drop (at_ - b).toNat
  | [], b, at_, long, _ => by simp [cutAll, unitsL]
  | q :: qs, b, at_, long, h => by
    have hq := h q (List.mem_cons_self ..)
    obtain ⟨u1, u2⟩ := units_len hq
    obtain ⟨i1, i2⟩ := cutAll_ok qs (b + pcSize q) at_ long fun p hp => h p (List.mem_cons_of_mem _ hp)
    rw [cutAll]
    have hU : unitsL (q :: qs) = units q ++ unitsL qs := by simp [unitsL]
    rw [unitsL_append, i2, hU, List.take_append, List.drop_append, List.length_take]
    have e2 : ((unitsL qs).take (at_ + long - (b + pcSize q)).toNat).drop (at_ - (b + pcSize q)).toNat = ((unitsL qs).take ((at_ + long - b).toNat - (units q).length)).drop ((at_ - b).toNat - min (at_ + long - b).toNat (units q).length) := by
      by_cases hc : (at_ + long - b).toNat ≤ (units q).length
      · rw [show (at_ + long - (b + pcSize q)).toNat = 0 by omega, show (at_ + long - b).toNat - (units q).length = 0 by omega]
        simp
      · rw [show (at_ + long - (b + pcSize q)).toNat = (at_ + long - b).toNat - (units q).length by omega, show (at_ - (b + pcSize q)).toNat = (at_ - b).toNat - min (at_ + long - b).toNat (units q).length by omega]
    rw [e2]
    by_cases hc : max (at_ - b) 0 < min (at_ + long - b) (pcSize q)
    · rw [if_pos hc]
      obtain ⟨p1, p2⟩ := partV_ok hq (by omega) hc (by omega)
      refine ⟨fun p hp => ?_, ?_⟩
      · rcases List.mem_append.1 hp with hp | hp
        · rw [List.mem_singleton] at hp; rw [hp]; exact p1
        · exact i1 p hp
      · congr 1
        have : unitsL [partV q (max (at_ - b) 0) (min (at_ + long - b) (pcSize q))] = units (partV q (max (at_ - b) 0) (min (at_ + long - b) (pcSize q))) := by simp [unitsL]
        rw [this, p2, show (max (at_ - b) 0).toNat = (at_ - b).toNat by omega]
        by_cases h3 : at_ + long - b ≤ pcSize q
        · rw [show (min (at_ + long - b) (pcSize q)).toNat = (at_ + long - b).toNat by omega]
        · rw [List.take_of_length_le (by omega), List.take_of_length_le (by omega)]
    · rw [if_neg hc]
      refine ⟨fun p hp => i1 p (by simpa using hp), ?_⟩
      congr 1
      rw [List.drop_eq_nil_of_le (by rw [List.length_take]; omega)]
      rfl
def compL (d e : List PieceV) : List PieceV := (e.map fun p => if p.data ≠ [] then [p] else cutAll d 0 p.at_ p.long).flatten
def compR (d e : List PieceV) : List PieceV := (e.map fun p => if p.data ≠ [] then [p] else ((unitsL d).take (p.at_ + p.long).toNat).drop p.at_.toNat).flatten
theorem comp_fold {old : Int} {d : List PieceV} (hd : ∀ p ∈ d, pcE old p = 0) : ∀ (e out : List PieceV), (compL d e).foldl jstep out = (compR d e).foldl jstep out
  | [], _ => rfl
  | p :: e, out => by
    unfold compL compR
    rw [List.map_cons, List.map_cons, List.flatten_cons, List.flatten_cons, List.foldl_append, List.foldl_append]
    have ih := comp_fold hd e
    unfold compL compR at ih
    rw [ih]
    congr 1
    by_cases hp : p.data = []
    · rw [if_neg (by simpa using hp), if_neg (by simpa using hp)]
      obtain ⟨c1, c2⟩ := cutAll_ok d 0 p.at_ p.long hd
      rw [← unitsL_fold _ out c1, c2, Int.sub_zero, Int.sub_zero]
    · rw [if_pos hp, if_pos hp]
theorem comp_eq {old : Int} {d : List PieceV} (hd : ∀ p ∈ d, pcE old p = 0) (e : List PieceV) : joinedV (compL d e) = joinedV (compR d e) := by
  rw [← joined_fold, ← joined_fold]
  exact comp_fold hd e []
theorem made_cons (a : Bytes) (p : PieceV) (l : List PieceV) : madeV a (p :: l) = pcMade a p ++ madeV a l := by simp [madeV]
theorem made_append (a : Bytes) (x y : List PieceV) : madeV a (x ++ y) = madeV a x ++ madeV a y := by simp [madeV]
theorem made_take {a : Bytes} : ∀ (l : List PieceV) (n : Nat), (∀ u ∈ l, (pcMade a u).length = 1) → madeV a (l.take n) = (madeV a l).take n
  | [], n, _ => by simp [madeV]
  | u :: l, 0, _ => by simp [madeV]
  | u :: l, n + 1, h => by
    have h1 := h u (List.mem_cons_self ..)
    rw [List.take_succ_cons, made_cons, made_cons, made_take l n fun v hv => h v (List.mem_cons_of_mem _ hv), List.take_append, h1, Nat.add_sub_cancel, List.take_of_length_le (l := pcMade a u) (by omega)]
theorem made_drop {a : Bytes} : ∀ (l : List PieceV) (n : Nat), (∀ u ∈ l, (pcMade a u).length = 1) → madeV a (l.drop n) = (madeV a l).drop n
  | [], n, _ => by simp [madeV]
  | u :: l, 0, _ => by simp
  | u :: l, n + 1, h => by
    have h1 := h u (List.mem_cons_self ..)
    rw [List.drop_succ_cons, made_cons, made_drop l n fun v hv => h v (List.mem_cons_of_mem _ hv), List.drop_append, h1, Nat.add_sub_cancel, List.drop_eq_nil_of_le (show (pcMade a u).length ≤ n + 1 by omega), List.nil_append]
theorem made_bytes (a : Bytes) : ∀ cs : Bytes, madeV a (cs.map fun c => (⟨0, 0, [c]⟩ : PieceV)) = cs
  | [] => rfl
  | c :: cs => by
    rw [List.map_cons, made_cons, made_bytes a cs]
    simp [pcMade]
theorem made_run (a : Bytes) (k : Nat) : ∀ n : Nat, k + n ≤ a.length → madeV a ((List.range n).map fun i : Nat => (⟨(k : Int) + (i : Int), 1, []⟩ : PieceV)) = (a.take (k + n)).drop k
  | 0, _ => by simp [madeV]
  | n + 1, h => by
    have hx : a[k + n]? = some a[k + n] := List.getElem?_eq_getElem (by omega)
    rw [List.range_succ, List.map_append, made_append, made_run a k n (by omega)]
    have e : madeV a (List.map (fun i : Nat => (⟨(k : Int) + (i : Int), 1, []⟩ : PieceV)) [n]) = [a[k + n]] := by
      simp only [List.map_cons, List.map_nil, made_cons]
      have : madeV a [] = [] := rfl
      rw [this, List.append_nil]
      unfold pcMade
      rw [if_neg (by simp)]
      simp only
      rw [show ((k : Int) + (n : Int) + 1).toNat = k + n + 1 by omega, show ((k : Int) + (n : Int)).toNat = k + n by omega, List.take_add_one, hx, List.drop_append_of_le_length (by rw [List.length_take]; omega), List.drop_eq_nil_of_le (by rw [List.length_take]; omega)]
      rfl
    rw [e, ← Nat.add_assoc, List.take_add_one, hx, List.drop_append_of_le_length (by rw [List.length_take]; omega)]
    rfl
theorem units_made {a : Bytes} {p : PieceV} (h : pcE a.length p = 0) : madeV a (units p) = pcMade a p ∧ ∀ u ∈ units p, (pcMade a u).length = 1 := by
  unfold units
  by_cases hd : p.data = []
  · obtain ⟨g1, g2, g3⟩ := pcE_copy h hd
    rw [if_neg (by simpa using hd)]
    have e : (fun i : Nat => (⟨p.at_ + (i : Int), 1, []⟩ : PieceV)) = fun i : Nat => (⟨(p.at_.toNat : Int) + (i : Int), 1, []⟩ : PieceV) := by
      funext i; congr 1; omega
    refine ⟨?_, fun u hu => ?_⟩
    · rw [e, made_run a p.at_.toNat p.long.toNat (by omega)]
      unfold pcMade
      rw [if_neg (by simpa using hd)]
      congr 2
      omega
    · obtain ⟨i, hi, rfl⟩ := List.mem_map.1 hu
      rw [List.mem_range] at hi
      unfold pcMade
      rw [if_neg (by simp)]
      simp only
      rw [List.length_drop, List.length_take]
      omega
  · rw [if_pos hd]
    refine ⟨?_, fun u hu => ?_⟩
    · rw [made_bytes]
      unfold pcMade
      rw [if_pos hd]
    · obtain ⟨c, hc, rfl⟩ := List.mem_map.1 hu
      simp [pcMade]
theorem unitsL_made {a : Bytes} : ∀ (l : List PieceV), (∀ p ∈ l, pcE a.length p = 0) → madeV a (unitsL l) = madeV a l ∧ ∀ u ∈ unitsL l, (pcMade a u).length = 1
  | [], _ => ⟨rfl, fun u hu => by simp [unitsL] at hu⟩
  | p :: l, h => by
    obtain ⟨h1, h2⟩ := units_made (h p (List.mem_cons_self ..))
    obtain ⟨h3, h4⟩ := unitsL_made l fun q hq => h q (List.mem_cons_of_mem _ hq)
    have hU : unitsL (p :: l) = units p ++ unitsL l := by simp [unitsL]
    rw [hU]
    refine ⟨by rw [made_append, h1, h3, made_cons], fun u hu => ?_⟩
    rcases List.mem_append.1 hu with hu | hu
    · exact h2 u hu
    · exact h4 u hu
theorem compL_made {a : Bytes} {d : List PieceV} (hd : ∀ p ∈ d, pcE a.length p = 0) : ∀ e : List PieceV, madeV a (compL d e) = madeV (madeV a d) e
  | [] => rfl
  | p :: e => by
    have ih := compL_made hd e
    unfold compL at ih ⊢
    rw [List.map_cons, List.flatten_cons, made_append, ih, made_cons]
    congr 1
    obtain ⟨h1, h2⟩ := unitsL_made d hd
    by_cases hp : p.data = []
    · rw [if_neg (by simpa using hp)]
      have e1 : pcMade (madeV a d) p = ((madeV a d).take (p.at_ + p.long).toNat).drop p.at_.toNat := by unfold pcMade; rw [if_neg (by simpa using hp)]
      obtain ⟨c1, c2⟩ := cutAll_ok d 0 p.at_ p.long hd
      rw [e1, ← (unitsL_made _ c1).1, c2, Int.sub_zero, Int.sub_zero, made_drop _ _ (fun u hu => h2 u (List.mem_of_mem_take hu)), made_take _ _ h2, h1]
    · rw [if_pos hp]
      have e1 : pcMade (madeV a d) p = p.data := by unfold pcMade; rw [if_pos hp]
      have e2 : pcMade a p = p.data := by unfold pcMade; rw [if_pos hp]
      rw [made_cons, e1, e2]
      simp [madeV]
theorem jstep_made {a : Bytes} {out : List PieceV} {p : PieceV} (ho : ∀ q ∈ out, pcE a.length q = 0) (hp : pcE a.length p = 0) : (∀ q ∈ jstep out p, pcE a.length q = 0) ∧ madeV a (jstep out p) = madeV a out ++ pcMade a p := by
  have hone : madeV a [p] = pcMade a p := by simp [madeV]
  have hout := List.eq_nil_or_concat out
  simp only [List.concat_eq_append] at hout
  rcases hout with rfl | ⟨o, q, rfl⟩
  · rw [jstep_nil]
    exact ⟨fun q hq => by rw [List.mem_singleton] at hq; rw [hq]; exact hp, by rw [hone]; rfl⟩
  · have hq := ho q (by simp)
    rw [jstep_last]
    have hnone : (∀ x ∈ o ++ [q] ++ [p], pcE a.length x = 0) ∧ madeV a (o ++ [q] ++ [p]) = madeV a (o ++ [q]) ++ pcMade a p := by
      refine ⟨fun x hx => ?_, by rw [made_append, hone]⟩
      rcases List.mem_append.1 hx with hx | hx
      · exact ho x hx
      · rw [List.mem_singleton] at hx; rw [hx]; exact hp
    by_cases h1 : q.data = [] <;> by_cases h2 : p.data = []
    · rw [merge_copy h1 h2]
      split
      · rename_i q' hm
        split at hm
        · rename_i hat
          cases hm
          obtain ⟨a1, a2, a3⟩ := pcE_copy hq h1
          obtain ⟨b1, b2, b3⟩ := pcE_copy hp h2
          refine ⟨fun x hx => ?_, ?_⟩
          · rcases List.mem_append.1 hx with hx | hx
            · exact ho x (by simp [hx])
            · rw [List.mem_singleton] at hx
              rw [hx]
              unfold pcE
              rw [if_neg (by simp)]
              simp only
              rw [if_neg (by omega)]
          · rw [made_append, made_append, List.append_assoc]
            congr 1
            have e1 : madeV a [(⟨q.at_, q.long + p.long, []⟩ : PieceV)] = (a.take (q.at_ + (q.long + p.long)).toNat).drop q.at_.toNat := by simp [madeV, pcMade]
            have e2 : madeV a [q] = (a.take (q.at_ + q.long).toNat).drop q.at_.toNat := by simp [madeV, pcMade, h1]
            have e3 : pcMade a p = (a.take (p.at_ + p.long).toNat).drop p.at_.toNat := by unfold pcMade; rw [if_neg (by simpa using h2)]
            rw [e1, e2, e3, hat]
            have e4 : a.take (q.at_ + q.long).toNat = (a.take (q.at_ + (q.long + p.long)).toNat).take (q.at_ + q.long).toNat := by rw [List.take_take]; congr 1; omega
            rw [e4, show (q.at_ + q.long + p.long).toNat = (q.at_ + (q.long + p.long)).toNat by omega]
            generalize a.take (q.at_ + (q.long + p.long)).toNat = z
            have e5 := List.take_append_drop (q.at_ + q.long).toNat z
            conv => lhs; rw [← e5]
            by_cases hz : (q.at_ + q.long).toNat ≤ z.length
            · rw [List.drop_append_of_le_length (by rw [List.length_take]; omega)]
            · rw [List.drop_eq_nil_of_le (i := (q.at_ + q.long).toNat) (by omega), List.append_nil, List.append_nil]
        · cases hm
      · exact hnone
    · rw [merge_mix (by simp [h1, h2])]
      exact hnone
    · rw [merge_mix (by simp [h1, h2])]
      exact hnone
    · rw [merge_data h1 h2]
      simp only
      obtain ⟨a1, a2⟩ := pcE_data hq h1
      refine ⟨fun x hx => ?_, ?_⟩
      · rcases List.mem_append.1 hx with hx | hx
        · exact ho x (by simp [hx])
        · rw [List.mem_singleton] at hx
          rw [hx]
          unfold pcE
          rw [if_pos (by simp [h1])]
          simp only
          rw [if_neg (by omega)]
      · rw [made_append, made_append, List.append_assoc]
        congr 1
        have e2 : pcMade a p = p.data := by unfold pcMade; rw [if_pos h2]
        rw [e2]
        simp [madeV, pcMade, h1]
theorem joined_made {a : Bytes} : ∀ (l out : List PieceV), (∀ q ∈ out, pcE a.length q = 0) → (∀ p ∈ l, pcE a.length p = 0) → (∀ q ∈ l.foldl jstep out, pcE a.length q = 0) ∧ madeV a (l.foldl jstep out) = madeV a out ++ madeV a l
  | [], out, ho, _ => ⟨ho, by simp [madeV]⟩
  | p :: l, out, ho, hl => by
    obtain ⟨h1, h2⟩ := jstep_made ho (hl p (List.mem_cons_self ..))
    obtain ⟨h3, h4⟩ := joined_made l _ h1 fun q hq => hl q (List.mem_cons_of_mem _ hq)
    rw [List.foldl_cons]
    exact ⟨h3, by rw [h4, h2, made_cons, List.append_assoc]⟩
theorem compL_ok {old : Int} {d : List PieceV} (hd : ∀ p ∈ d, pcE old p = 0) {e : List PieceV} {o2 : Int} (he : ∀ p ∈ e, pcE o2 p = 0) : ∀ p ∈ compL d e, pcE old p = 0 := by
  intro p hp
  unfold compL at hp
  obtain ⟨l, hl, hpl⟩ := List.mem_flatten.1 hp
  obtain ⟨x, hx, rfl⟩ := List.mem_map.1 hl
  by_cases h : x.data = []
  · rw [if_neg (by simpa using h)] at hpl
    exact (cutAll_ok d 0 x.at_ x.long hd).1 p hpl
  · rw [if_pos h, List.mem_singleton] at hpl
    rw [hpl]
    have h1 := he x hx
    unfold pcE at h1 ⊢
    rw [if_pos h] at h1 ⊢
    exact h1
/-- What the composed delta makes. -/
theorem compose_apply {a b c : Bytes} {d e : DeltaV} (hd : applyV a d = (b, 0)) (he : applyV b e = (c, 0)) (hlen : (joinedV (compL d.ps e.ps)).length ≤ 5000) : applyV a ⟨d.old, e.new, d.osum, e.nsum, joinedV (compL d.ps e.ps)⟩ = (c, 0) := by
  unfold applyV at hd he
  split at hd
  · rename_i h; exact absurd (Prod.mk.inj hd).2 h
  rename_i hE1
  split at he
  · rename_i h; exact absurd (Prod.mk.inj he).2 h
  rename_i hE2
  have hE1 := Decidable.not_not.1 hE1
  have hE2 := Decidable.not_not.1 hE2
  obtain ⟨e1, e2, e3, e4, e5, e6, e7, e8⟩ := deltaE_ok hE1
  obtain ⟨f1, f2, f3, f4, f5, f6⟩ := stepsV_ok e7
  obtain ⟨g1, g2, g3, g4, g5, g6, g7, g8⟩ := deltaE_ok hE2
  obtain ⟨k1, k2, k3, k4, k5, k6⟩ := stepsV_ok g7
  unfold patchV at hd he
  split at hd
  · cases hd
  rename_i hp1
  split at hd
  · cases hd
  rename_i hp2
  split at he
  · cases he
  rename_i hp3
  split at he
  · cases he
  rename_i hp4
  simp only [not_or, Decidable.not_not] at hp1 hp2 hp3 hp4
  have hb := (Prod.mk.inj hd).1
  have hc := (Prod.mk.inj he).1
  rw [← hp1.1] at f4
  have hJ := joined_made (a := a) (compL d.ps e.ps) [] (fun q hq => by cases hq) (compL_ok f4 k4)
  rw [joined_fold, compL_made f4, hb, hc] at hJ
  obtain ⟨hL, hm⟩ := hJ
  have hm : madeV a (joinedV (compL d.ps e.ps)) = c := hm
  generalize joinedV (compL d.ps e.ps) = L at *
  have hs := madeV_len hL
  rw [hm] at hs
  rw [← hp3.1] at k4
  have hs2 := madeV_len k4
  rw [hc] at hs2
  have hst : stepsV L d.old = (pcSum L, 0) := by
    unfold stepsV
    have hf : fst0 (L.map (pcE d.old)) = 0 := fst0_zero _ (by
      intro x hx
      obtain ⟨p, hp, rfl⟩ := List.mem_map.1 hx
      rw [← hp1.1]
      exact hL p hp)
    rw [if_neg (by omega), if_neg (by omega), hf, if_neg (by simp), if_neg (by omega)]
  have hE : deltaE ⟨d.old, e.new, d.osum, e.nsum, L⟩ = 0 := by
    unfold deltaE
    simp only [hst, e5, g6]
    rw [if_neg (by omega), if_neg (by simp), if_neg (by simp), if_neg (by omega)]
  unfold applyV
  rw [hE, if_neg (by simp)]
  unfold patchV
  simp only [hm]
  rw [if_neg (by simp [hp1.1, hp1.2]), if_neg (by rw [← hc]; simpa using hp4)]
end Go.Proofs
