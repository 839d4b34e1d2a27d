/-
  Walks and plain laws, part 2.
-/
import Derived.Test.YtfippeedjajnkaaGreatDoorM1
import Derived.Test.YtfippeedjajnkaaGreatDoorAbs4
import Derived.Test.YtfippeedjajnkaaGreatDoorTy
import Derived.IntWalk
/- Strings sorted in place, and the keys of maps, by the library's contracts. -/
namespace Go.Proofs
open Go Go.Abs Go.Shelf
set_option linter.unusedVariables false
set_option maxRecDepth 20000
theorem sortS_calls (ss : List Bytes) (id : Nat) (H : Heap) (ho : H id = some (.cells (ss.map .str))) (hne : ss ≠ []) (hlen : ss.length ≤ 1099511627776) :
    ACalls Tryz.prog 99 [.ms id 0 ss.length 1] H fun x H' => x = .tup [] ∧ H' = H.put id (.cells ((ss.mergeSort fun x y => decide (x ≤ y)).map .str)) :=
  sort_bridge (fn := Tryz.f99) Tryz.func99 (by kernel_rfl) (by kernel_rfl) (fun ss => ss.mergeSort fun x y => decide (x ≤ y)) (fun ss => List.length_mergeSort ss)
    (fun blk off cap ss w hH hB hz => AnyM.slices_Sort_string Tryz.shSort blk off cap ss w hH hB hz) ho hne (by omega)
theorem sortS0_calls (H : Heap) : ACalls Tryz.prog 99 [.sl [] .exact] H fun x H' => x = .tup [] ∧ H' = H :=
  sort_bridge0 (fn := Tryz.f99) Tryz.func99 (by kernel_rfl) (by kernel_rfl) (fun p cap W => AnyM.slices_Sort_string_none Tryz.shSort p cap W) H
theorem sortedFile_calls (ib m : Nat) (es : List (Key × AV)) (H : Heap) (hb : H ib = some (.cells [.map m])) (hm : H m = some (.map .str es)) (hl : ∀ e ∈ es, (keyS e).length ≤ maxLen) (hsz : es.length ≤ 1099511627776) (hnd : (es.map keyS).Nodup) :
    ACalls Tryz.prog 153 [.func 176 [.ptr ib 0]] H fun x H' => ∃ ss : List Bytes, ss.Perm (es.map keyS) ∧ x = .sl ((ss.mergeSort fun x y => decide (x ≤ y)).map fun s => [AV.str s]) .unk ∧ H' = H :=
  sorted_keys Tryz.shSorted Tryz.shKeys176 (fn := Tryz.f153) Tryz.func153 (by kernel_rfl) (by kernel_rfl) (enters_of Tryz.func99 (by kernel_rfl) rfl) (enters_of Tryz.func176 (by kernel_rfl) rfl)
    (fun blk off cap ss W hH hB hz => AnyM.slices_Sort_string Tryz.shSort blk off cap ss W hH hB hz) (fun p cap W => AnyM.slices_Sort_string_none Tryz.shSort p cap W) hb hm Tryz.shKeys176.t26 hl hsz hnd
theorem sortedSetting_calls (ib m : Nat) (es : List (Key × AV)) (H : Heap) (hb : H ib = some (.cells [.map m])) (hm : H m = some (.map .str es)) (hl : ∀ e ∈ es, (keyS e).length ≤ maxLen) (hsz : es.length ≤ 1099511627776) (hnd : (es.map keyS).Nodup) :
    ACalls Tryz.prog 153 [.func 177 [.ptr ib 0]] H fun x H' => ∃ ss : List Bytes, ss.Perm (es.map keyS) ∧ x = .sl ((ss.mergeSort fun x y => decide (x ≤ y)).map fun s => [AV.str s]) .unk ∧ H' = H :=
  sorted_keys Tryz.shSorted Tryz.shKeys177 (fn := Tryz.f153) Tryz.func153 (by kernel_rfl) (by kernel_rfl) (enters_of Tryz.func99 (by kernel_rfl) rfl) (enters_of Tryz.func177 (by kernel_rfl) rfl)
    (fun blk off cap ss W hH hB hz => AnyM.slices_Sort_string Tryz.shSort blk off cap ss W hH hB hz) (fun p cap W => AnyM.slices_Sort_string_none Tryz.shSort p cap W) hb hm Tryz.shKeys177.t26 hl hsz hnd
theorem sortedService_calls (ib m : Nat) (es : List (Key × AV)) (H : Heap) (hb : H ib = some (.cells [.map m])) (hm : H m = some (.map .str es)) (hl : ∀ e ∈ es, (keyS e).length ≤ maxLen) (hsz : es.length ≤ 1099511627776) (hnd : (es.map keyS).Nodup) :
    ACalls Tryz.prog 153 [.func 178 [.ptr ib 0]] H fun x H' => ∃ ss : List Bytes, ss.Perm (es.map keyS) ∧ x = .sl ((ss.mergeSort fun x y => decide (x ≤ y)).map fun s => [AV.str s]) .unk ∧ H' = H :=
  sorted_keys Tryz.shSorted Tryz.shKeys178 (fn := Tryz.f153) Tryz.func153 (by kernel_rfl) (by kernel_rfl) (enters_of Tryz.func99 (by kernel_rfl) rfl) (enters_of Tryz.func178 (by kernel_rfl) rfl)
    (fun blk off cap ss W hH hB hz => AnyM.slices_Sort_string Tryz.shSort blk off cap ss W hH hB hz) (fun p cap W => AnyM.slices_Sort_string_none Tryz.shSort p cap W) hb hm Tryz.shKeys178.t26 hl hsz hnd
end Go.Proofs

/- Strings as elements; tests of signs and strings. -/
namespace Go.Proofs
open Go Go.Abs
set_option linter.unusedSimpArgs false
set_option linter.unusedVariables false
/-- Lengths that may be. -/
abbrev Room : Nat := 1099511627776
def encBs (s : Bytes) : List AV := [.str s]
theorem pu0_ok : PuOK Tryz.prog pu0 := PuOK.zero
def sByte (p : Int → Bool) : List AV → Option AV := fn1 (.int .u8) fun c => some (.bool (p c))
theorem sByte_eq (p : Int → Bool) (c : Int) : sByte p [.int .u8 c] = some (.bool (p c)) := rfl
def sStr (p : Bytes → Bool) : List AV → Option AV := fn1 .str fun s => if s.length ≤ Room then some (.bool (p s)) else none
theorem sStr_eq (p : Bytes → Bool) (s : Bytes) : sStr p [.str s] = if s.length ≤ Room then some (.bool (p s)) else none := rfl
theorem sByte_ok {P : Program} {f : FuncId} {p : Int → Bool} (h : ∀ c H, ACalls P f [.int .u8 c] H fun x H' => x = .bool (p c) ∧ H' = H) : ∀ xs v, sByte p xs = some v → ∀ H, ACalls P f xs H fun x H' => x = v ∧ H' = H := by
  intro xs v hv H
  obtain ⟨x, c, rfl, h1, h2⟩ := fn1_some hv
  cases h2
  cases Rd.int_some h1
  exact h c H
theorem sStr_ok {P : Program} {f : FuncId} {p : Bytes → Bool} (h : ∀ s H, s.length ≤ Room → ACalls P f [.str s] H fun x H' => x = .bool (p s) ∧ H' = H) : ∀ xs v, sStr p xs = some v → ∀ H, ACalls P f xs H fun x H' => x = v ∧ H' = H := by
  intro xs v hv H
  obtain ⟨x, s, rfl, h1, h2⟩ := fn1_some hv
  split at h2
  · cases h2
    cases Rd.str_some h1
    exact h s H ‹_›
  · cases h2
end Go.Proofs

/- Small things: objects by name; pure functions by what they answer. -/
namespace Go.Proofs
open Go Go.Abs
set_option linter.unusedSimpArgs false
set_option linter.unusedVariables false
theorem getD_get' {α : Type} {l : List α} {i : Nat} (h : i < l.length) : ∃ c, l[i]? = some c := ⟨l[i], List.getElem?_eq_getElem h⟩
theorem sub_none {H G : Heap} (h : H.Sub G) {i : Nat} (hi : G i = none) : H i = none := by
  cases hh : H i with
  | none => rfl
  | some x => have := h i x hh; rw [hi] at this; cases this
theorem put_self {H : Heap} {i : Nat} {a : AObj} (h : H i = some a) : H.put i a = H := by
  funext k
  unfold Heap.put
  split
  · rename_i e; rw [e, h]
  · rfl
theorem obj_new {H0 H G : Heap} {id : Nat} {o : AObj} (e : H.put id o = G) (hid : H id = none) (hS : H0.Sub H) : H0 id = none ∧ H0.Sub G ∧ G id = some o ∧ H.Sub G := by
  subst e
  exact ⟨sub_none hS hid, hS.put' (sub_none hS hid) o, put_same _ _ _, (Heap.Sub.rfl' H).put' hid o⟩
theorem obj_ne {G : Heap} {i j : Nat} {o : AObj} (hi : G i = some o) (hj : G j = none) : ¬ i = j := fun e => by rw [e, hj] at hi; cases hi
theorem obj_sub {H0 H G : Heap} {id : Nat} {o : AObj} (e : H.put id o = G) (hid : H0 id = none) (hS : H0.Sub H) : H0.Sub G := by
  subst e
  exact hS.put' hid o
theorem obj_at {H G : Heap} {id : Nat} {o : AObj} (e : H.put id o = G) : G id = some o := by
  subst e
  exact put_same _ _ _
theorem obj_keep {H G : Heap} {id i : Nat} {o x : AObj} (e : H.put id o = G) (hne : ¬ i = id) (h : H i = some x) : G i = some x := by
  subst e
  rw [put_ne _ _ _ _ hne]; exact h
/-- A function that answers one thing and leaves the heap alone, told by how its arguments are written. -/
def Pur (P : Program) (f : FuncId) (s : List AV → Option AV) : Prop := ∀ xs v, s xs = some v → ∀ H, ACalls P f xs H fun x H' => x = v ∧ H' = H
noncomputable def spF {α : Type} (enc : α → List AV) (pre : α → Prop) (F : α → AV) : List AV → Option AV :=
  open Classical in fun xs => if h : ∃ a, enc a = xs ∧ pre a then some (F h.choose) else none
theorem spF_eq {α : Type} {enc : α → List AV} {pre : α → Prop} {F : α → AV} (inj : ∀ a b, enc a = enc b → F a = F b) (a : α) (h : pre a) : spF enc pre F (enc a) = some (F a) := by
  have hx : ∃ b, enc b = enc a ∧ pre b := ⟨a, rfl, h⟩
  unfold spF
  rw [dif_pos hx, inj _ _ hx.choose_spec.1]
theorem spF_ok {P : Program} {f : FuncId} {α : Type} {enc : α → List AV} {pre : α → Prop} {F : α → AV} (h : ∀ a H, pre a → ACalls P f (enc a) H fun x H' => x = F a ∧ H' = H) : Pur P f (spF enc pre F) := by
  intro xs v hv H
  unfold spF at hv
  split at hv
  · rename_i hx
    obtain ⟨h1, h2⟩ := hx.choose_spec
    cases hv
    have := h hx.choose H h2
    rw [h1] at this
    exact this
  · cases hv
theorem take_eq_succ {α : Type} {a b : List α} {i : Nat} {x y : α} (ha : a[i]? = some x) (hb : b[i]? = some y) : a.take (i + 1) = b.take (i + 1) ↔ a.take i = b.take i ∧ x = y := by
  rw [List.take_add_one, List.take_add_one, ha, hb]
  constructor
  · intro h
    have hl : (a.take i).length = (b.take i).length := by
      have h1 : i < a.length := (List.getElem?_eq_some_iff.1 ha).1
      have h2 : i < b.length := (List.getElem?_eq_some_iff.1 hb).1
      simp; omega
    have := List.append_inj h hl
    exact ⟨this.1, by simpa using this.2⟩
  · rintro ⟨h1, rfl⟩; rw [h1]
theorem get_some {α : Type} {l : List α} {i : Nat} (h : i < l.length) : ∃ x, l[i]? = some x := ⟨l[i], List.getElem?_eq_getElem h⟩
end Go.Proofs

/- Walks: the keys of a map, on the reference's side. -/
namespace Go.Proofs
open Go Go.Abs
set_option linter.unusedSimpArgs false
set_option linter.unusedVariables false
set_option maxRecDepth 20000
theorem range_intro {P : Program} {t : TypeId} {id : Nat} {kk : KK} {es : List (Key × AV)} {H : Heap} {K : K1} (hd : ∃ a b, descOf P t = .map a b) (hm : H id = some (.map kk es))
    (h : ∀ bs cl it, bs.length = es.length → bs.Nodup → (H.put id (.bmap kk es bs cl)) it = none ∨ H it = none → H it = none → K (.ptr it 0) ((H.put id (.bmap kk es bs cl)).put it (.iter (some id) cl []))) : aRange P t (.map id) H K := by
  obtain ⟨a, b, hd⟩ := hd
  unfold aRange
  rw [hd]
  simp only [mapAt, hm]
  exact fun bs cl hb hn it hit => h bs cl it hb hn (.inr hit) hit
theorem next_intro {it m cl : Nat} {seen : List Nat} {kk : KK} {es : List (Key × AV)} {bs : List Nat} {G : Heap} {K : K1} (h1 : G it = some (.iter (some m) cl seen)) (h2 : G m = some (.bmap kk es bs cl))
    (hs : ∀ (j : Nat) (k : Key) (v : AV) (b : Nat), es[j]? = some (k, v) → bs[j]? = some b → b ∉ seen → K (.tup [.bool true, k.av kk, v]) (G.put it (.iter (some m) cl (seen ++ [b]))))
    (he : (∀ b ∈ bs, b ∈ seen) → K (.tup [.bool false]) G) : aNext (.ptr it 0) G K := by
  unfold aNext
  simp only [h1, h2]
  exact ⟨trivial, hs, fun h => .inl (he h)⟩
/-- At the end it is forgotten when the entries were born. -/
theorem next_intro2 {it m cl : Nat} {seen : List Nat} {kk : KK} {es : List (Key × AV)} {bs : List Nat} {G : Heap} {K : K1} (h1 : G it = some (.iter (some m) cl seen)) (h2 : G m = some (.bmap kk es bs cl))
    (hs : ∀ (j : Nat) (k : Key) (v : AV) (b : Nat), es[j]? = some (k, v) → bs[j]? = some b → b ∉ seen → K (.tup [.bool true, k.av kk, v]) (G.put it (.iter (some m) cl (seen ++ [b]))))
    (he : (∀ b ∈ bs, b ∈ seen) → K (.tup [.bool false]) (G.put m (.map kk es))) : aNext (.ptr it 0) G K := by
  unfold aNext
  simp only [h1, h2]
  exact ⟨trivial, hs, fun h => .inr (he h)⟩
theorem here_intro {it m cl j b : Nat} {seen : List Nat} {kk : KK} {es : List (Key × AV)} {bs : List Nat} {k : Key} {v : AV} {G : Heap} {K : K1} (h1 : G it = some (.iter (some m) cl (seen ++ [b]))) (h2 : G m = some (.bmap kk es bs cl))
    (hb : bs[j]? = some b) (he : es[j]? = some (k, v)) (h : K (.tup [k.av kk, v]) G) : aHere (.ptr it 0) G K := by
  unfold aHere
  simp only [h1, h2]
  exact ⟨trivial, b, j, k, v, by simp, hb, he, h⟩
/-- What a walk over a map has seen. -/
structure SeenK (es : List (Key × AV)) (bs : List Nat) (js : List Nat) (seen : List Nat) (ks : List Bytes) : Prop where
  nodup : js.Nodup
  lt : ∀ j ∈ js, j < es.length
  stamps : seen = js.map fun j => bs.getD j 0
  keys : ks = js.map fun j => keyS (es.getD j default)
theorem SeenK.nil (es : List (Key × AV)) (bs : List Nat) : SeenK es bs [] [] [] := ⟨List.nodup_nil, by simp, rfl, rfl⟩
theorem SeenK.step {es : List (Key × AV)} {bs js seen : List Nat} {ks : List Bytes} (h : SeenK es bs js seen ks) {j b : Nat} {e : Key × AV} (hj : es[j]? = some e) (hb : bs[j]? = some b) (hs : b ∉ seen) : SeenK es bs (js ++ [j]) (seen ++ [b]) (ks ++ [keyS e]) := by
  obtain ⟨h1, h2, h3, h4⟩ := h
  have hjn : j ∉ js := fun hm => hs (by rw [h3]; exact List.mem_map.2 ⟨j, hm, by simp [List.getD, hb]⟩)
  refine ⟨?_, fun i hi => ?_, ?_, ?_⟩
  · rw [List.nodup_append]
    exact ⟨h1, by simp, fun a ha c hc => by rw [List.mem_singleton.1 hc]; exact fun e => hjn (e ▸ ha)⟩
  · rcases List.mem_append.1 hi with h | h
    · exact h2 i h
    · rw [List.mem_singleton.1 h]; exact (List.getElem?_eq_some_iff.1 hj).1
  · rw [List.map_append, ← h3]; simp [List.getD, hb]
  · rw [List.map_append, ← h4]; simp [List.getD, hj]
theorem nodup_lt : ∀ (n : Nat) (l : List Nat), l.Nodup → (∀ j ∈ l, j < n) → l.length ≤ n
  | 0, [], _, _ => Nat.le_refl _
  | 0, x :: l, _, h => absurd (h x (List.mem_cons_self ..)) (by omega)
  | n + 1, l, hn, h => by
    have h1 := nodup_lt n (l.erase n) (hn.erase n) fun j hj => by
      have h2 := h j (List.mem_of_mem_erase hj)
      have h3 : j ≠ n := fun e => by subst e; exact List.Nodup.not_mem_erase hn hj
      omega
    have h2 : l.length ≤ (l.erase n).length + 1 := by rw [List.length_erase]; split <;> omega
    omega
theorem SeenK.len {es : List (Key × AV)} {bs js seen : List Nat} {ks : List Bytes} (h : SeenK es bs js seen ks) : js.length ≤ es.length ∧ ks.length = js.length := by
  refine ⟨?_, by rw [h.keys]; simp⟩
  exact nodup_lt _ _ h.nodup h.lt
theorem SeenK.all {es : List (Key × AV)} {bs js seen : List Nat} {ks : List Bytes} (h : SeenK es bs js seen ks) (hl : bs.length = es.length) (hn : bs.Nodup) (ha : ∀ b ∈ bs, b ∈ seen) : ks.Perm (es.map keyS) := by
  have hp : js.Perm (List.range es.length) := by
    refine (List.perm_ext_iff_of_nodup h.nodup List.nodup_range).2 fun j => ⟨fun hj => List.mem_range.2 (h.lt j hj), fun hj => ?_⟩
    have hj := List.mem_range.1 hj
    have hb : bs[j]? = some (bs[j]'(by omega)) := List.getElem?_eq_getElem _
    have hm := ha _ (List.mem_of_getElem? hb)
    rw [h.stamps] at hm
    obtain ⟨i, hi, e⟩ := List.mem_map.1 hm
    have hil := h.lt i hi
    have e2 : bs.getD i 0 = bs[i]'(by omega) := by simp [List.getD, show i < bs.length by omega]
    rw [e2] at e
    have : i = j := (List.getElem_inj hn).1 e
    rw [← this]; exact hi
  rw [h.keys]
  refine (hp.map _).trans ?_
  have e : (List.range es.length).map (fun j => keyS (es.getD j default)) = es.map keyS := by
    refine List.ext_getElem (by simp) fun i h1 h2 => ?_
    simp at h1
    simp [List.getD, h1]
  rw [e]
end Go.Proofs

/- Walks of Go's functions on strings: Index, Count, Split (of one byte), Compare. -/
namespace Go.Proofs
open Go Go.Abs
open Nat (reduceEqDiff reduceAdd reduceLeDiff reduceLT reduceMul)
open Int (reduceEq reduceLE reduceSub reduceToNat)
set_option linter.unusedSimpArgs false
set_option linter.unusedVariables false
def sIdxB : List AV → Option AV := fn2 .str (.int .u8) fun s c => some (.int .i64 (Lib.indexByte s c.toNat.toUInt8))
def sCntB : List AV → Option AV := fn2 .str (.int .u8) fun s c => some (.int .i64 (Lib.countByte s c.toNat.toUInt8))
def sCmpS : List AV → Option AV := fn2 .str .str fun s t => some (.int .i64 (Lib.compareBytes s t))
def one1 : Bytes → Option UInt8
  | [b] => some b
  | _ => none
theorem one1_eq (b : UInt8) : one1 [b] = some b := rfl
theorem one1_some {s : Bytes} {b : UInt8} (h : one1 s = some b) : s = [b] := by
  unfold one1 at h
  split at h
  · cases h; rfl
  · cases h
def sCnt : List AV → Option AV := fn2 .str .str fun s p => (one1 p).bind fun c => some (.int .i64 (s.count c))
def sSplit : List AV → Option AV := fn2 .str .str fun s p => (one1 p).bind fun c => if s.length ≤ Room then some (.sl ((splitB c s).map encBs) .unk) else none
attribute [go_sem] one1_eq
def puK1 : Pures := putP 130 sCmpS (putP 188 sCntB (putP 197 sIdxB pu0))
theorem puK1_dyn : isDyn puK1 = false := by simp only [puK1, go_sem, Nat.reduceEqDiff]
attribute [go_sem] puK1_dyn
theorem sIdxB_ok {P : Program} {f : FuncId} (h : ∀ s c H, ACalls P f [.str s, .int .u8 c] H fun x H' => x = .int .i64 (Lib.indexByte s c.toNat.toUInt8) ∧ H' = H) : ∀ xs v, sIdxB xs = some v → ∀ H, ACalls P f xs H fun x H' => x = v ∧ H' = H := by
  intro xs v hv H
  obtain ⟨x, y, p, q, rfl, h1, h2, h3⟩ := fn2_some hv
  cases h3; cases Rd.str_some h1; cases Rd.int_some h2
  exact h _ _ H
theorem sCntB_ok {P : Program} {f : FuncId} (h : ∀ s c H, ACalls P f [.str s, .int .u8 c] H fun x H' => x = .int .i64 (Lib.countByte s c.toNat.toUInt8) ∧ H' = H) : ∀ xs v, sCntB xs = some v → ∀ H, ACalls P f xs H fun x H' => x = v ∧ H' = H := by
  intro xs v hv H
  obtain ⟨x, y, p, q, rfl, h1, h2, h3⟩ := fn2_some hv
  cases h3; cases Rd.str_some h1; cases Rd.int_some h2
  exact h _ _ H
theorem sCmpS_ok {P : Program} {f : FuncId} (h : ∀ s t H, ACalls P f [.str s, .str t] H fun x H' => x = .int .i64 (Lib.compareBytes s t) ∧ H' = H) : ∀ xs v, sCmpS xs = some v → ∀ H, ACalls P f xs H fun x H' => x = v ∧ H' = H := by
  intro xs v hv H
  obtain ⟨x, y, p, q, rfl, h1, h2, h3⟩ := fn2_some hv
  cases h3; cases Rd.str_some h1; cases Rd.str_some h2
  exact h _ _ H
theorem idxBX_calls (s : Bytes) (c : Int) (H : Heap) : ACalls Tryz.prog 197 [.str s, .int .u8 c] H fun x H' => x = .int .i64 (Lib.indexByte s c.toNat.toUInt8) ∧ H' = H :=
  indexByteString_calls Tryz.func197 (by kernel_rfl) rfl (by kernel_rfl) (by kernel_rfl) _ _ H
theorem cntBX_calls (s : Bytes) (c : Int) (H : Heap) : ACalls Tryz.prog 188 [.str s, .int .u8 c] H fun x H' => x = .int .i64 (Lib.countByte s c.toNat.toUInt8) ∧ H' = H :=
  countString_calls Tryz.func188 (by kernel_rfl) rfl (by kernel_rfl) (by kernel_rfl) _ _ H
theorem cmpX_calls (s t : Bytes) (H : Heap) : ACalls Tryz.prog 130 [.str s, .str t] H fun x H' => x = .int .i64 (Lib.compareBytes s t) ∧ H' = H :=
  cmpString_calls Tryz.func130 (by kernel_rfl) rfl (by kernel_rfl) (by kernel_rfl) _ _ H
theorem puK1_ok : PuOK Tryz.prog puK1 := .put (.put (.put (.zero) (sIdxB_ok idxBX_calls)) (sCntB_ok cntBX_calls)) (sCmpS_ok cmpX_calls)
theorem sIdxB_eq (s : Bytes) (c : Int) : sIdxB [.str s, .int .u8 c] = some (.int .i64 (Lib.indexByte s c.toNat.toUInt8)) := rfl
theorem sCntB_eq (s : Bytes) (c : Int) : sCntB [.str s, .int .u8 c] = some (.int .i64 (Lib.countByte s c.toNat.toUInt8)) := rfl
theorem sCmpS_eq (s t : Bytes) : sCmpS [.str s, .str t] = some (.int .i64 (Lib.compareBytes s t)) := rfl
theorem sCnt_eq (s : Bytes) (c : UInt8) : sCnt [.str s, .str [c]] = some (.int .i64 (s.count c)) := rfl
theorem sSplit_eq (s : Bytes) (c : UInt8) : sSplit [.str s, .str [c]] = if s.length ≤ Room then some (.sl ((splitB c s).map encBs) .unk) else none := rfl
theorem u8_nat (c : UInt8) : c.toNat.toUInt8 = c := by simp
theorem indexByte_calls (s : Bytes) (c : Int) (H : Heap) : ACalls Tryz.prog 193 [.str s, .int .u8 c] H fun x H' => x = .int .i64 (Lib.indexByte s c.toNat.toUInt8) ∧ H' = H := by
  refine ACalls.of_code (X := { pure := puK1 }) puK1_ok Tryz.func193 (by kernel_rfl) rfl (by kernel_rfl) (Nat.le_of_ble_eq_true rfl) ?_
  simp -implicitDefEqProofs only [go_sem, reduceEqDiff, reduceAdd, reduceLeDiff, reduceLT, reduceMul, reduceEq, Int.reduceLT, reduceLE, Int.reduceAdd, reduceSub, reduceToNat, UInt8.reduceToNat, Tryz.f193, puK1, sIdxB_eq]
  exact Done.now ⟨rfl, rfl⟩
theorem compareString_calls (s t : Bytes) (H : Heap) : ACalls Tryz.prog 98 [.str s, .str t] H fun x H' => x = .int .i64 (Lib.compareBytes s t) ∧ H' = H := by
  refine ACalls.of_code (X := { pure := puK1 }) puK1_ok Tryz.func98 (by kernel_rfl) rfl (by kernel_rfl) (Nat.le_of_ble_eq_true rfl) ?_
  simp -implicitDefEqProofs only [go_sem, reduceEqDiff, reduceAdd, reduceLeDiff, reduceLT, reduceMul, reduceEq, Int.reduceLT, reduceLE, Int.reduceAdd, reduceSub, reduceToNat, UInt8.reduceToNat, Tryz.f98, puK1, sCmpS_eq]
  exact Done.now ⟨rfl, rfl⟩
def puK2 : Pures := putP 98 sCmpS (putP 193 sIdxB puK1)
theorem puK2_dyn : isDyn puK2 = false := by simp only [puK2, go_sem, Nat.reduceEqDiff]
attribute [go_sem] puK2_dyn
theorem puK2_ok : PuOK Tryz.prog puK2 := .put (.put (puK1_ok) (sIdxB_ok indexByte_calls)) (sCmpS_ok compareString_calls)
theorem strCompare_calls (s t : Bytes) (H : Heap) : ACalls Tryz.prog 46 [.str s, .str t] H fun x H' => x = .int .i64 (Lib.compareBytes s t) ∧ H' = H := by
  refine ACalls.of_code (X := { pure := puK2 }) puK2_ok Tryz.func46 (by kernel_rfl) rfl (by kernel_rfl) (Nat.le_of_ble_eq_true rfl) ?_
  simp -implicitDefEqProofs only [go_sem, reduceEqDiff, reduceAdd, reduceLeDiff, reduceLT, reduceMul, reduceEq, Int.reduceLT, reduceLE, Int.reduceAdd, reduceSub, reduceToNat, UInt8.reduceToNat, Tryz.f46, puK2, sCmpS_eq]
  exact Done.now ⟨rfl, rfl⟩
theorem indexL_calls (s : Bytes) (c : UInt8) (H : Heap) : ACalls Tryz.prog 189 [.str s, .str [c]] H fun x H' => x = .int .i64 (Lib.indexByte s c) ∧ H' = H := by
  refine ACalls.of_code (X := { pure := puK2 }) puK2_ok Tryz.func189 (by kernel_rfl) rfl (by kernel_rfl) (Nat.le_of_ble_eq_true rfl) ?_
  simp -implicitDefEqProofs only [go_sem, reduceEqDiff, reduceAdd, reduceLeDiff, reduceLT, reduceMul, reduceEq, Int.reduceLT, reduceLE, Int.reduceAdd, reduceSub, reduceToNat, UInt8.reduceToNat, Tryz.f189, puK2, sIdxB_eq, puK1]
  repeat' (first | (with_reducible refine gd_intro (fun h => ?_) (fun h => ?_) <;> first | (exact absurd h (by decide)) | (simp at h; done) | simp -implicitDefEqProofs (disch := omega) only [go_sem, reduceEqDiff, reduceAdd, reduceLeDiff, reduceLT, reduceMul, reduceEq, Int.reduceLT, reduceLE, Int.reduceAdd, reduceSub, reduceToNat, UInt8.reduceToNat, Go.IntWalk.i64_in, puK2, sIdxB_eq, puK1, *]) | (with_reducible refine cnd_intro (fun h => ?_) (fun h => ?_) <;> first | (exact absurd h (by decide)) | (simp at h; done) | simp -implicitDefEqProofs (disch := omega) only [go_sem, reduceEqDiff, reduceAdd, reduceLeDiff, reduceLT, reduceMul, reduceEq, Int.reduceLT, reduceLE, Int.reduceAdd, reduceSub, reduceToNat, UInt8.reduceToNat, Go.IntWalk.i64_in, puK2, sIdxB_eq, puK1, *]))
  · simp only [decide_eq_true_eq] at h
    subst h
    exact Done.now ⟨by simp [Lib.indexByte], rfl⟩
  · exact Done.now ⟨by rw [u8_nat], rfl⟩
def sIdxL : List AV → Option AV := fn2 .str .str fun s p => (one1 p).bind fun c => some (.int .i64 (Lib.indexByte s c))
theorem sIdxL_eq (s : Bytes) (c : UInt8) : sIdxL [.str s, .str [c]] = some (.int .i64 (Lib.indexByte s c)) := rfl
theorem one_of {α : Type} {p : Bytes} {F : UInt8 → Option α} {v : α} (h : (one1 p).bind F = some v) : ∃ c, p = [c] ∧ F c = some v := by
  rw [Option.bind_eq_some_iff] at h
  obtain ⟨c, h1, h2⟩ := h
  exact ⟨c, one1_some h1, h2⟩
def puK3 : Pures := putP 189 sIdxL puK2
theorem puK3_dyn : isDyn puK3 = false := by simp only [puK3, go_sem, Nat.reduceEqDiff]
attribute [go_sem] puK3_dyn
theorem sIdxL_ok {P : Program} {f : FuncId} (h : ∀ s c H, ACalls P f [.str s, .str [c]] H fun x H' => x = .int .i64 (Lib.indexByte s c) ∧ H' = H) : ∀ xs v, sIdxL xs = some v → ∀ H, ACalls P f xs H fun x H' => x = v ∧ H' = H := by
  intro xs v hv H
  obtain ⟨x, y, p, q, rfl, h1, h2, h3⟩ := fn2_some hv
  obtain ⟨c, rfl, h3⟩ := one_of h3
  cases h3; cases Rd.str_some h1; cases Rd.str_some h2
  exact h _ _ H
theorem puK3_ok : PuOK Tryz.prog puK3 := .put (puK2_ok) (sIdxL_ok indexL_calls)
theorem index_calls (s : Bytes) (c : UInt8) (H : Heap) : ACalls Tryz.prog 171 [.str s, .str [c]] H fun x H' => x = .int .i64 (Lib.indexByte s c) ∧ H' = H := by
  refine ACalls.of_code (X := { pure := puK3 }) puK3_ok Tryz.func171 (by kernel_rfl) rfl (by kernel_rfl) (Nat.le_of_ble_eq_true rfl) ?_
  simp -implicitDefEqProofs only [go_sem, reduceEqDiff, reduceAdd, reduceLeDiff, reduceLT, reduceMul, reduceEq, Int.reduceLT, reduceLE, Int.reduceAdd, reduceSub, reduceToNat, UInt8.reduceToNat, Tryz.f171, puK3, sIdxL_eq]
  exact Done.now ⟨rfl, rfl⟩
theorem count_calls (s : Bytes) (c : UInt8) (H : Heap) : ACalls Tryz.prog 170 [.str s, .str [c]] H fun x H' => x = .int .i64 (s.count c) ∧ H' = H := by
  refine ACalls.of_code (X := { pure := puK3 }) puK3_ok Tryz.func170 (by kernel_rfl) rfl (by kernel_rfl) (Nat.le_of_ble_eq_true rfl) ?_
  simp -implicitDefEqProofs only [go_sem, reduceEqDiff, reduceAdd, reduceLeDiff, reduceLT, reduceMul, reduceEq, Int.reduceLT, reduceLE, Int.reduceAdd, reduceSub, reduceToNat, UInt8.reduceToNat, Tryz.f170, puK3, puK2, puK1, sCntB_eq]
  repeat' (first | (with_reducible refine gd_intro (fun h => ?_) (fun h => ?_) <;> first | (exact absurd h (by decide)) | (simp at h; done) | simp -implicitDefEqProofs (disch := omega) only [go_sem, reduceEqDiff, reduceAdd, reduceLeDiff, reduceLT, reduceMul, reduceEq, Int.reduceLT, reduceLE, Int.reduceAdd, reduceSub, reduceToNat, UInt8.reduceToNat, Go.IntWalk.i64_in, puK3, puK2, puK1, sCntB_eq, *]) | (with_reducible refine cnd_intro (fun h => ?_) (fun h => ?_) <;> first | (exact absurd h (by decide)) | (simp at h; done) | simp -implicitDefEqProofs (disch := omega) only [go_sem, reduceEqDiff, reduceAdd, reduceLeDiff, reduceLT, reduceMul, reduceEq, Int.reduceLT, reduceLE, Int.reduceAdd, reduceSub, reduceToNat, UInt8.reduceToNat, Go.IntWalk.i64_in, puK3, puK2, puK1, sCntB_eq, *]))
  exact Done.now ⟨by rw [u8_nat]; rfl, rfl⟩
def puK4 : Pures := putP 170 sCnt (putP 171 sIdxL puK3)
theorem puK4_dyn : isDyn puK4 = false := by simp only [puK4, go_sem, Nat.reduceEqDiff]
attribute [go_sem] puK4_dyn
theorem sCnt_ok {P : Program} {f : FuncId} (h : ∀ s c H, ACalls P f [.str s, .str [c]] H fun x H' => x = .int .i64 (s.count c) ∧ H' = H) : ∀ xs v, sCnt xs = some v → ∀ H, ACalls P f xs H fun x H' => x = v ∧ H' = H := by
  intro xs v hv H
  obtain ⟨x, y, p, q, rfl, h1, h2, h3⟩ := fn2_some hv
  obtain ⟨c, rfl, h3⟩ := one_of h3
  cases h3; cases Rd.str_some h1; cases Rd.str_some h2
  exact h _ _ H
theorem puK4_ok : PuOK Tryz.prog puK4 := .put (.put (puK3_ok) (sIdxL_ok index_calls)) (sCnt_ok count_calls)
/-- What the cells of the slice hold while it is filled. -/
def fillC (done : List Bytes) (n : Nat) : List AV := done.map AV.str ++ List.replicate (n - done.length) (.str [])
theorem fillC_len {done : List Bytes} {n : Nat} (h : done.length ≤ n) : (fillC done n).length = n := by
  simp [fillC]; omega
theorem fillC_set {done : List Bytes} {n : Nat} (h : done.length < n) (p : Bytes) : (fillC done n).set done.length (.str p) = fillC (done ++ [p]) n := by
  unfold fillC
  rw [List.set_append, if_neg (by simp)]
  obtain ⟨k, hk⟩ : ∃ k, n - done.length = k + 1 := ⟨n - done.length - 1, by omega⟩
  have : n - (done ++ [p]).length = k := by simp; omega
  rw [hk, this, List.replicate_succ]
  simp
theorem split_calls (s : Bytes) (c : UInt8) (H : Heap) (hs : s.length ≤ Room) :
    ACalls Tryz.prog 135 [.str s, .str [c], .int .i64 0, .int .i64 (-1)] H fun x H' => x = .sl ((splitB c s).map encBs) .unk ∧ H' = H := by
  have hcnt : s.count c ≤ s.length := List.count_le_length
  have hR : Room = 1099511627776 := rfl
  rw [hR] at hs
  clear hR
  refine ACalls.of_code (X := { pure := puK4 }) puK4_ok Tryz.func135 (by kernel_rfl) rfl (by kernel_rfl) (Nat.le_of_ble_eq_true rfl) ?_
  simp -implicitDefEqProofs only [go_sem, reduceEqDiff, reduceAdd, reduceLeDiff, reduceLT, reduceMul, reduceEq, Int.reduceLT, reduceLE, Int.reduceAdd, reduceSub, reduceToNat, UInt8.reduceToNat, Tryz.f135, puK4, sCnt_eq, sIdxL_eq]
  repeat' (first | (with_reducible refine gd_intro (fun h => ?_) (fun h => ?_) <;> first | (exact absurd h (by decide)) | (simp at h; done) | simp -implicitDefEqProofs (disch := omega) only [go_sem, reduceEqDiff, reduceAdd, reduceLeDiff, reduceLT, reduceMul, reduceEq, Int.reduceLT, reduceLE, Int.reduceAdd, reduceSub, reduceToNat, UInt8.reduceToNat, Go.IntWalk.i64_in, puK4, sCnt_eq, sIdxL_eq, *]) | (with_reducible refine cnd_intro (fun h => ?_) (fun h => ?_) <;> first | (exact absurd h (by decide)) | (simp at h; done) | simp -implicitDefEqProofs (disch := omega) only [go_sem, reduceEqDiff, reduceAdd, reduceLeDiff, reduceLT, reduceMul, reduceEq, Int.reduceLT, reduceLE, Int.reduceAdd, reduceSub, reduceToNat, UInt8.reduceToNat, Go.IntWalk.i64_in, puK4, sCnt_eq, sIdxL_eq, *]))
  have hm : min ((s.count c : Int) + 1) ((s.length : Int) + 1) = ((s.count c + 1 : Nat) : Int) := by omega
  rw [hm]
  with_reducible refine makeSlice_ms (e := tiStr) ?_ ?_ ?_ ?_ ?_ ?_
  · simp -implicitDefEqProofs only [go_sem, reduceEqDiff, reduceAdd, reduceLeDiff, reduceLT, reduceMul, reduceEq, Int.reduceLT, reduceLE, Int.reduceAdd, reduceSub, reduceToNat, UInt8.reduceToNat]
  · decide
  · omega
  · simp only []; omega
  · omega
  intro id hid
  have hw : (((s.count c + 1 : Nat) : Int) - 1) = (s.count c : Int) := by omega
  simp -implicitDefEqProofs (disch := omega) only [go_sem, reduceEqDiff, reduceAdd, reduceLeDiff, reduceLT, reduceMul, reduceEq, Int.reduceLT, reduceLE, Int.reduceAdd, reduceSub, reduceToNat, UInt8.reduceToNat, Go.IntWalk.i64_in, puK4, sCnt_eq, sIdxL_eq, *]
  have hflat : ([AV.str []] :: List.replicate (s.count c) [AV.str []]).flatten = fillC [] (s.count c + 1) := by
    simp [fillC, List.flatten_replicate_singleton, List.replicate_succ]
  rw [hflat]
  refine aloop_intro (σ := List Bytes × Bytes) (fun p => [(0, .str p.2), (1, .str [c]), (2, .int .i64 0), (3, .int .i64 (s.count c)), (9, .ms id 0 (s.count c + 1) 1), (10, .int .i64 p.1.length)])
    (fun p G => G = H.put id (.cells (fillC p.1 (s.count c + 1))) ∧ splitB c s = p.1 ++ splitB c p.2 ∧ p.2.count c + p.1.length = s.count c ∧ p.2.length ≤ s.length) (fun p => p.2.length) ([], s) ?_ ?_ ?_
  · simp -implicitDefEqProofs (disch := omega) only [go_sem, reduceEqDiff, reduceAdd, reduceLeDiff, reduceLT, reduceMul, reduceEq, Int.reduceLT, reduceLE, Int.reduceAdd, reduceSub, reduceToNat, UInt8.reduceToNat, Go.IntWalk.i64_in, *]
  · simp
  · rintro ⟨done, rest⟩ r G ⟨h0, h1, h2, h3, h9, h10, -⟩ ⟨rfl, hspl, hct, hl⟩
    simp only at h0 h1 h2 h3 h9 h10 hspl hct hl
    have hcr : rest.count c ≤ rest.length := List.count_le_length
    simp -implicitDefEqProofs only [go_sem, reduceEqDiff, reduceAdd, reduceLeDiff, reduceLT, reduceMul, reduceEq, Int.reduceLT, reduceLE, Int.reduceAdd, reduceSub, reduceToNat, UInt8.reduceToNat, h0, h1, h2, h3, h9, h10, puK4, sIdxL_eq]
    refine cnd_intro (fun hlt => ?_) (fun hlt => ?_)
    · simp only [decide_eq_true_eq] at hlt
      obtain ⟨m, hm2⟩ : ∃ m : Nat, Lib.indexByte rest c = (m : Int) := by
        have h1 := Lib.indexByte_ge rest c
        have h2 : ¬ Lib.indexByte rest c = -1 := fun e => by have := indexByte_none.1 e; omega
        exact ⟨(Lib.indexByte rest c).toNat, by omega⟩
      obtain ⟨i1, i2, i3⟩ := indexByte_some hm2
      have hb : decide ((m : Int) < 0) = false := by simp
      simp -implicitDefEqProofs (disch := omega) only [go_sem, reduceEqDiff, reduceAdd, reduceLeDiff, reduceLT, reduceMul, reduceEq, Int.reduceLT, reduceLE, Int.reduceAdd, reduceSub, reduceToNat, UInt8.reduceToNat, Go.IntWalk.i64_in, h0, h1, h2, h3, h9, h10, puK4, sIdxL_eq, hm2, hb]
      refine ⟨by omega, by omega, by rw [fillC_len (by omega)]; omega, by omega, ?_⟩
      have e1 : ((m : Int) + 1).toNat = m + 1 := by omega
      have e2 : ((m : Int) + 0).toNat = m := by omega
      rw [e1, e2, List.take_length, Nat.mul_one, fillC_set (by omega)]
      refine Again.mk (done ++ [rest.take m], rest.drop (m + 1)) (by simp -implicitDefEqProofs only [go_sem, reduceEqDiff, reduceAdd, reduceLeDiff, reduceLT, reduceMul, reduceEq, Int.reduceLT, reduceLE, Int.reduceAdd, reduceSub, reduceToNat, UInt8.reduceToNat, h0, h1, h2, h3, h9, h10]; simp) ⟨rfl, by rw [hspl, i2]; simp, by simp; omega, by simp; omega⟩ (by simp; omega)
    · simp only [decide_eq_false_iff_not] at hlt
      simp -implicitDefEqProofs (disch := omega) only [go_sem, reduceEqDiff, reduceAdd, reduceLeDiff, reduceLT, reduceMul, reduceEq, Int.reduceLT, reduceLE, Int.reduceAdd, reduceSub, reduceToNat, UInt8.reduceToNat, Go.IntWalk.i64_in, h0, h1, h2, h3, h9, h10, puK4, sIdxL_eq]
      have hz : rest.count c = 0 := by omega
      have hd : done.length = s.count c := by omega
      refine ⟨by omega, by rw [fillC_len (by omega)]; omega, by omega, ?_⟩
      rw [Nat.mul_one, fillC_set (by omega)]
      have e1 : ((done.length : Int) + 1 - 0).toNat = s.count c + 1 := by omega
      rw [e1]
      have e2 : fillC (done ++ [rest]) (s.count c + 1) = (splitB c s).map AV.str := by
        rw [hspl, splitB_none hz]
        simp [fillC, hd]
      rw [e2]
      have e3 : ((splitB c s).map AV.str).length = s.count c + 1 := by rw [List.length_map, splitB_len]
      refine Done.via (Ghost.freeze1 (put_same _ _ _) (by rw [e3]; omega)) (Done.now ⟨?_, del_put _ hid⟩)
      rw [List.drop_zero, List.take_of_length_le (by rw [e3]; omega), List.map_map]
      rfl
def sGen : List AV → Option AV
  | [.str s, .str [c], .int .i64 n, .int .i64 k] => if n = 0 ∧ k = -1 ∧ s.length ≤ Room then some (.sl ((splitB c s).map encBs) .unk) else none
  | _ => none
theorem sGen_eq (s : Bytes) (c : UInt8) : sGen [.str s, .str [c], .int .i64 0, .int .i64 (-1)] = if s.length ≤ Room then some (.sl ((splitB c s).map encBs) .unk) else none := by simp [sGen]
def puK5 : Pures := putP 135 sGen (putP 46 sCmpS puK4)
theorem puK5_dyn : isDyn puK5 = false := by simp only [puK5, go_sem, Nat.reduceEqDiff]
attribute [go_sem] puK5_dyn
theorem sGen_ok : ∀ xs v, sGen xs = some v → ∀ H, ACalls Tryz.prog 135 xs H fun x H' => x = v ∧ H' = H := by
  intro xs v h H
  unfold sGen at h
  split at h
  · split at h
    · rename_i hc
      obtain ⟨rfl, rfl, hr⟩ := hc
      cases h
      exact split_calls _ _ H hr
    · cases h
  · cases h
theorem puK5_ok : PuOK Tryz.prog puK5 := .put (.put (puK4_ok) (sCmpS_ok strCompare_calls)) sGen_ok
theorem splitT_calls (s : Bytes) (c : UInt8) (H : Heap) (hs : s.length ≤ Room) :
    ACalls Tryz.prog 105 [.str s, .str [c]] H fun x H' => x = .sl ((splitB c s).map encBs) .unk ∧ H' = H := by
  refine ACalls.of_code (X := { pure := puK5 }) puK5_ok Tryz.func105 (by kernel_rfl) rfl (by kernel_rfl) (Nat.le_of_ble_eq_true rfl) ?_
  simp -implicitDefEqProofs only [go_sem, reduceEqDiff, reduceAdd, reduceLeDiff, reduceLT, reduceMul, reduceEq, Int.reduceLT, reduceLE, Int.reduceAdd, reduceSub, reduceToNat, UInt8.reduceToNat, Tryz.f105, puK5, sGen_eq, hs]
  exact Done.now ⟨rfl, rfl⟩
theorem sSplit_ok {P : Program} {f : FuncId} (h : ∀ s c H, s.length ≤ Room → ACalls P f [.str s, .str [c]] H fun x H' => x = .sl ((splitB c s).map encBs) .unk ∧ H' = H) : ∀ xs v, sSplit xs = some v → ∀ H, ACalls P f xs H fun x H' => x = v ∧ H' = H := by
  intro xs v hv H
  obtain ⟨x, y, p, q, rfl, h1, h2, h3⟩ := fn2_some hv
  obtain ⟨c, rfl, h3⟩ := one_of h3
  split at h3
  · rename_i hr
    cases h3
    cases Rd.str_some h1
    cases Rd.str_some h2
    exact h _ _ H hr
  · cases h3
def puK : Pures := putP 105 sSplit puK5
theorem puK_dyn : isDyn puK = false := by simp only [puK, go_sem, Nat.reduceEqDiff]
attribute [go_sem] puK_dyn
theorem puK_ok : PuOK Tryz.prog puK := .put (puK5_ok) (sSplit_ok splitT_calls)
end Go.Proofs

/- Walks: names, paths, values, of the program and of the reference. -/
namespace Go.Proofs
open Go Go.Abs
open Nat (reduceEqDiff reduceAdd reduceLeDiff reduceLT reduceMul)
open Int (reduceEq reduceLE reduceSub reduceToNat)
set_option linter.unusedSimpArgs false
set_option linter.unusedVariables false
theorem isSmall_calls (c : Int) (H : Heap) : ACalls Tryz.prog 95 [.int .u8 c] H fun x H' => x = .bool (isSm c) ∧ H' = H := by
  refine ACalls.of_code (X := { pure := puK }) puK_ok Tryz.func95 (by kernel_rfl) rfl (by kernel_rfl) (Nat.le_of_ble_eq_true rfl) ?_
  simp -implicitDefEqProofs only [go_sem, reduceEqDiff, reduceAdd, reduceLeDiff, reduceLT, reduceMul, reduceEq, Int.reduceLT, reduceLE, Int.reduceAdd, reduceSub, reduceToNat, UInt8.reduceToNat, Tryz.f95]
  repeat' (first | (with_reducible refine gd_intro (fun h => ?_) (fun h => ?_) <;> first | (exact absurd h (by decide)) | (simp at h; done) | simp -implicitDefEqProofs (disch := omega) only [go_sem, reduceEqDiff, reduceAdd, reduceLeDiff, reduceLT, reduceMul, reduceEq, Int.reduceLT, reduceLE, Int.reduceAdd, reduceSub, reduceToNat, UInt8.reduceToNat, Go.IntWalk.i64_in, *]) | (with_reducible refine cnd_intro (fun h => ?_) (fun h => ?_) <;> first | (exact absurd h (by decide)) | (simp at h; done) | simp -implicitDefEqProofs (disch := omega) only [go_sem, reduceEqDiff, reduceAdd, reduceLeDiff, reduceLT, reduceMul, reduceEq, Int.reduceLT, reduceLE, Int.reduceAdd, reduceSub, reduceToNat, UInt8.reduceToNat, Go.IntWalk.i64_in, *]))
  all_goals (refine Done.now ⟨?_, rfl⟩; simp only [decide_eq_true_eq, decide_eq_false_iff_not] at h; simp [isSm, h])
theorem isDigit_calls (c : Int) (H : Heap) : ACalls Tryz.prog 96 [.int .u8 c] H fun x H' => x = .bool (isDg c) ∧ H' = H := by
  refine ACalls.of_code (X := { pure := puK }) puK_ok Tryz.func96 (by kernel_rfl) rfl (by kernel_rfl) (Nat.le_of_ble_eq_true rfl) ?_
  simp -implicitDefEqProofs only [go_sem, reduceEqDiff, reduceAdd, reduceLeDiff, reduceLT, reduceMul, reduceEq, Int.reduceLT, reduceLE, Int.reduceAdd, reduceSub, reduceToNat, UInt8.reduceToNat, Tryz.f96]
  repeat' (first | (with_reducible refine gd_intro (fun h => ?_) (fun h => ?_) <;> first | (exact absurd h (by decide)) | (simp at h; done) | simp -implicitDefEqProofs (disch := omega) only [go_sem, reduceEqDiff, reduceAdd, reduceLeDiff, reduceLT, reduceMul, reduceEq, Int.reduceLT, reduceLE, Int.reduceAdd, reduceSub, reduceToNat, UInt8.reduceToNat, Go.IntWalk.i64_in, *]) | (with_reducible refine cnd_intro (fun h => ?_) (fun h => ?_) <;> first | (exact absurd h (by decide)) | (simp at h; done) | simp -implicitDefEqProofs (disch := omega) only [go_sem, reduceEqDiff, reduceAdd, reduceLeDiff, reduceLT, reduceMul, reduceEq, Int.reduceLT, reduceLE, Int.reduceAdd, reduceSub, reduceToNat, UInt8.reduceToNat, Go.IntWalk.i64_in, *]))
  all_goals (refine Done.now ⟨?_, rfl⟩; simp only [decide_eq_true_eq, decide_eq_false_iff_not] at h; simp [isDg, h])
def puV1 : Pures := putP 95 (sByte isSm) (putP 96 (sByte isDg) puK)
theorem puV1_dyn : isDyn puV1 = false := by simp only [puV1, go_sem, Nat.reduceEqDiff]
attribute [go_sem] puV1_dyn
theorem puV1_ok : PuOK Tryz.prog puV1 := .put (.put (puK_ok) (sByte_ok isDigit_calls)) (sByte_ok isSmall_calls)
theorem isName1_calls (c : Int) (H : Heap) : ACalls Tryz.prog 94 [.int .u8 c] H fun x H' => x = .bool (isNm c) ∧ H' = H := by
  refine ACalls.of_code (X := { pure := puV1 }) puV1_ok Tryz.func94 (by kernel_rfl) rfl (by kernel_rfl) (Nat.le_of_ble_eq_true rfl) ?_
  simp -implicitDefEqProofs only [go_sem, reduceEqDiff, reduceAdd, reduceLeDiff, reduceLT, reduceMul, reduceEq, Int.reduceLT, reduceLE, Int.reduceAdd, reduceSub, reduceToNat, UInt8.reduceToNat, Tryz.f94, puV1, sByte_eq]
  repeat' (first | (with_reducible refine gd_intro (fun h => ?_) (fun h => ?_) <;> first | (exact absurd h (by decide)) | (simp at h; done) | simp -implicitDefEqProofs (disch := omega) only [go_sem, reduceEqDiff, reduceAdd, reduceLeDiff, reduceLT, reduceMul, reduceEq, Int.reduceLT, reduceLE, Int.reduceAdd, reduceSub, reduceToNat, UInt8.reduceToNat, Go.IntWalk.i64_in, puV1, sByte_eq, *]) | (with_reducible refine cnd_intro (fun h => ?_) (fun h => ?_) <;> first | (exact absurd h (by decide)) | (simp at h; done) | simp -implicitDefEqProofs (disch := omega) only [go_sem, reduceEqDiff, reduceAdd, reduceLeDiff, reduceLT, reduceMul, reduceEq, Int.reduceLT, reduceLE, Int.reduceAdd, reduceSub, reduceToNat, UInt8.reduceToNat, Go.IntWalk.i64_in, puV1, sByte_eq, *]))
  all_goals (refine Done.now ⟨?_, rfl⟩; simp_all [isNm])
theorem isPart1_calls (c : Int) (H : Heap) : ACalls Tryz.prog 136 [.int .u8 c] H fun x H' => x = .bool (isPt c) ∧ H' = H := by
  refine ACalls.of_code (X := { pure := puV1 }) puV1_ok Tryz.func136 (by kernel_rfl) rfl (by kernel_rfl) (Nat.le_of_ble_eq_true rfl) ?_
  simp -implicitDefEqProofs only [go_sem, reduceEqDiff, reduceAdd, reduceLeDiff, reduceLT, reduceMul, reduceEq, Int.reduceLT, reduceLE, Int.reduceAdd, reduceSub, reduceToNat, UInt8.reduceToNat, Tryz.f136, puV1, sByte_eq]
  repeat' (first | (with_reducible refine gd_intro (fun h => ?_) (fun h => ?_) <;> first | (exact absurd h (by decide)) | (simp at h; done) | simp -implicitDefEqProofs (disch := omega) only [go_sem, reduceEqDiff, reduceAdd, reduceLeDiff, reduceLT, reduceMul, reduceEq, Int.reduceLT, reduceLE, Int.reduceAdd, reduceSub, reduceToNat, UInt8.reduceToNat, Go.IntWalk.i64_in, puV1, sByte_eq, *]) | (with_reducible refine cnd_intro (fun h => ?_) (fun h => ?_) <;> first | (exact absurd h (by decide)) | (simp at h; done) | simp -implicitDefEqProofs (disch := omega) only [go_sem, reduceEqDiff, reduceAdd, reduceLeDiff, reduceLT, reduceMul, reduceEq, Int.reduceLT, reduceLE, Int.reduceAdd, reduceSub, reduceToNat, UInt8.reduceToNat, Go.IntWalk.i64_in, puV1, sByte_eq, *]))
  all_goals (refine Done.now ⟨?_, rfl⟩; simp_all [isPt] <;> omega)
theorem isValue1_calls (c : Int) (H : Heap) : ACalls Tryz.prog 134 [.int .u8 c] H fun x H' => x = .bool (isVl c) ∧ H' = H := by
  refine ACalls.of_code (X := { pure := puV1 }) puV1_ok Tryz.func134 (by kernel_rfl) rfl (by kernel_rfl) (Nat.le_of_ble_eq_true rfl) ?_
  simp -implicitDefEqProofs only [go_sem, reduceEqDiff, reduceAdd, reduceLeDiff, reduceLT, reduceMul, reduceEq, Int.reduceLT, reduceLE, Int.reduceAdd, reduceSub, reduceToNat, UInt8.reduceToNat, Tryz.f134, puV1, sByte_eq]
  repeat' (first | (with_reducible refine gd_intro (fun h => ?_) (fun h => ?_) <;> first | (exact absurd h (by decide)) | (simp at h; done) | simp -implicitDefEqProofs (disch := omega) only [go_sem, reduceEqDiff, reduceAdd, reduceLeDiff, reduceLT, reduceMul, reduceEq, Int.reduceLT, reduceLE, Int.reduceAdd, reduceSub, reduceToNat, UInt8.reduceToNat, Go.IntWalk.i64_in, puV1, sByte_eq, *]) | (with_reducible refine cnd_intro (fun h => ?_) (fun h => ?_) <;> first | (exact absurd h (by decide)) | (simp at h; done) | simp -implicitDefEqProofs (disch := omega) only [go_sem, reduceEqDiff, reduceAdd, reduceLeDiff, reduceLT, reduceMul, reduceEq, Int.reduceLT, reduceLE, Int.reduceAdd, reduceSub, reduceToNat, UInt8.reduceToNat, Go.IntWalk.i64_in, puV1, sByte_eq, *]))
  all_goals (refine Done.now ⟨?_, rfl⟩; simp_all [isVl] <;> omega)
theorem each_calls (s : Bytes) (most : Int) (f : FuncId) (p : Int → Bool) (H : Heap) (hs : s.length ≤ Room) (hf : ∀ c H, ACalls Tryz.prog f [.int .u8 c] H fun x H' => x = .bool (p c) ∧ H' = H) :
    ACalls Tryz.prog 93 [.str s, .int .i64 most, .func f []] H fun x H' => x = .bool (sEach p s most) ∧ H' = H := by
  have hR : Room = 1099511627776 := rfl
  rw [hR] at hs
  refine ACalls.of_code (X := {}) (fun _ _ h => nomatch h) Tryz.func93 (by kernel_rfl) rfl (by kernel_rfl) (Nat.le_of_ble_eq_true rfl) ?_
  simp -implicitDefEqProofs only [go_sem, reduceEqDiff, reduceAdd, reduceLeDiff, reduceLT, reduceMul, reduceEq, Int.reduceLT, reduceLE, Int.reduceAdd, reduceSub, reduceToNat, UInt8.reduceToNat, Tryz.f93]
  refine aloop_intro (σ := Nat) (fun i => [(0, .str s), (1, .int .i64 most), (2, .func f []), (7, .int .i64 i)]) (fun i G => G = H ∧ i ≤ s.length ∧ allB p (s.take i) = true) (fun i => s.length - i) 0 ?_ ?_ ?_
  · simp -implicitDefEqProofs only [go_sem, reduceEqDiff, reduceAdd, reduceLeDiff, reduceLT, reduceMul, reduceEq, Int.reduceLT, reduceLE, Int.reduceAdd, reduceSub, reduceToNat, UInt8.reduceToNat]
  · simp [allB]
  · intro i r G hv hI
    have h0 := hv.1
    have h1 := hv.2.1
    have h2 := hv.2.2.1
    have h7 := hv.2.2.2.1
    have hG := hI.1
    have hp := hI.2.2
    have hi := hI.2.1
    subst hG
    simp -implicitDefEqProofs only [go_sem, reduceEqDiff, reduceAdd, reduceLeDiff, reduceLT, reduceMul, reduceEq, Int.reduceLT, reduceLE, Int.reduceAdd, reduceSub, reduceToNat, UInt8.reduceToNat, h0, h1, h2, h7]
    refine cnd_intro (fun h => ?_) (fun h => ?_)
    · simp only [decide_eq_true_eq] at h
      obtain ⟨c, hc⟩ : ∃ c, s[i]? = some c := ⟨s[i]'(by omega), List.getElem?_eq_getElem _⟩
      simp -implicitDefEqProofs only [go_sem, reduceEqDiff, reduceAdd, reduceLeDiff, reduceLT, reduceMul, reduceEq, Int.reduceLT, reduceLE, Int.reduceAdd, reduceSub, reduceToNat, UInt8.reduceToNat, h0, h1, h2, h7, hc]
      refine ACalls.pure_next _ (hf c.toNat _) ?_
      simp -implicitDefEqProofs only [go_sem, reduceEqDiff, reduceAdd, reduceLeDiff, reduceLT, reduceMul, reduceEq, Int.reduceLT, reduceLE, Int.reduceAdd, reduceSub, reduceToNat, UInt8.reduceToNat, h0, h1, h2, h7, hc]
      refine cnd_intro (fun hpc => ?_) (fun hpc => ?_) <;> simp only [Bool.not_eq_true', Bool.not_eq_false'] at hpc
      · simp -implicitDefEqProofs only [go_sem, reduceEqDiff, reduceAdd, reduceLeDiff, reduceLT, reduceMul, reduceEq, Int.reduceLT, reduceLE, Int.reduceAdd, reduceSub, reduceToNat, UInt8.reduceToNat, h0, h1, h2, h7, hc]
        exact Done.now ⟨by rw [sEach_false hc hpc], rfl⟩
      · simp -implicitDefEqProofs (disch := omega) only [go_sem, reduceEqDiff, reduceAdd, reduceLeDiff, reduceLT, reduceMul, reduceEq, Int.reduceLT, reduceLE, Int.reduceAdd, reduceSub, reduceToNat, UInt8.reduceToNat, Go.IntWalk.i64_in, h0, h1, h2, h7, hc]
        exact Again.mk (i + 1) (by simp -implicitDefEqProofs only [go_sem, reduceEqDiff, reduceAdd, reduceLeDiff, reduceLT, reduceMul, reduceEq, Int.reduceLT, reduceLE, Int.reduceAdd, reduceSub, reduceToNat, UInt8.reduceToNat, h0, h1, h2, h7]; exact rfl) ⟨rfl, by omega, allB_succ hp hc hpc⟩ (by omega)
    · simp only [decide_eq_false_iff_not] at h
      have e : i = s.length := by omega
      subst e
      rw [List.take_length] at hp
      simp -implicitDefEqProofs only [go_sem, reduceEqDiff, reduceAdd, reduceLeDiff, reduceLT, reduceMul, reduceEq, Int.reduceLT, reduceLE, Int.reduceAdd, reduceSub, reduceToNat, UInt8.reduceToNat, h0, h1, h2, h7]
      refine gd_intro (fun hn => ?_) (fun hn => ?_) <;> simp -implicitDefEqProofs only [go_sem, reduceEqDiff, reduceAdd, reduceLeDiff, reduceLT, reduceMul, reduceEq, Int.reduceLT, reduceLE, Int.reduceAdd, reduceSub, reduceToNat, UInt8.reduceToNat, h0, h1, h2, h7, hn] <;> refine Done.now ⟨?_, rfl⟩ <;> simp only [sEach, hp, hn, ne_eq] <;> simp
def sEachP : List AV → Option AV
  | [.str s, .int .i64 most, .func f []] => if s.length ≤ Room then
      (if f = 94 then some (.bool (sEach isNm s most)) else if f = 136 then some (.bool (sEach isPt s most)) else if f = 134 then some (.bool (sEach isVl s most)) else none) else none
  | _ => none
theorem sEachP_eq (s : Bytes) (most : Int) (f : FuncId) : sEachP [.str s, .int .i64 most, .func f []] = if s.length ≤ Room then
      (if f = 94 then some (.bool (sEach isNm s most)) else if f = 136 then some (.bool (sEach isPt s most)) else if f = 134 then some (.bool (sEach isVl s most)) else none) else none := rfl
def puV2 : Pures := putP 93 sEachP puV1
theorem puV2_dyn : isDyn puV2 = false := by simp only [puV2, go_sem, Nat.reduceEqDiff]
attribute [go_sem] puV2_dyn
theorem puV2_ok : PuOK Tryz.prog puV2 := by
  refine PuOK.put puV1_ok ?_
  intro xs v h H
  unfold sEachP at h
  split at h
  · rename_i s most f
    split at h
    · rename_i hs
      split at h
      · rename_i hf; subst hf; cases h; exact each_calls s most _ isNm H hs isName1_calls
      · split at h
        · rename_i hf; subst hf; cases h; exact each_calls s most _ isPt H hs isPart1_calls
        · split at h
          · rename_i hf; subst hf; cases h; exact each_calls s most _ isVl H hs isValue1_calls
          · cases h
    · cases h
  · cases h
theorem isName_calls (s : Bytes) (H : Heap) (hs : s.length ≤ Room) : ACalls Tryz.prog 41 [.str s] H fun x H' => x = .bool (nameB s) ∧ H' = H := by
  refine ACalls.of_code (X := { pure := puV2 }) puV2_ok Tryz.func41 (by kernel_rfl) rfl (by kernel_rfl) (Nat.le_of_ble_eq_true rfl) ?_
  simp -implicitDefEqProofs only [go_sem, reduceEqDiff, reduceAdd, reduceLeDiff, reduceLT, reduceMul, reduceEq, Int.reduceLT, reduceLE, Int.reduceAdd, reduceSub, reduceToNat, UInt8.reduceToNat, Tryz.f41, puV2, puV1, sByte_eq, sEachP_eq, hs]
  refine gd_intro (fun hn => ?_) (fun hn => ?_)
  · obtain ⟨c, l, rfl⟩ : ∃ c l, s = c :: l := by
      cases s with
      | nil => simp [sEach] at hn
      | cons c l => exact ⟨c, l, rfl⟩
    simp -implicitDefEqProofs only [go_sem, reduceEqDiff, reduceAdd, reduceLeDiff, reduceLT, reduceMul, reduceEq, Int.reduceLT, reduceLE, Int.reduceAdd, reduceSub, reduceToNat, UInt8.reduceToNat, puV2, puV1, sByte_eq, hn, Int.toNat_zero, Int.le_refl]
    exact Done.now ⟨by simp [nameB, hn], rfl⟩
  · simp -implicitDefEqProofs only [go_sem, reduceEqDiff, reduceAdd, reduceLeDiff, reduceLT, reduceMul, reduceEq, Int.reduceLT, reduceLE, Int.reduceAdd, reduceSub, reduceToNat, UInt8.reduceToNat, puV2, puV1, sByte_eq, hn]
    exact Done.now ⟨by simp [nameB, hn], rfl⟩
theorem isPart_calls (s : Bytes) (H : Heap) (hs : s.length ≤ Room) : ACalls Tryz.prog 106 [.str s] H fun x H' => x = .bool (partB s) ∧ H' = H := by
  refine ACalls.of_code (X := { pure := puV2 }) puV2_ok Tryz.func106 (by kernel_rfl) rfl (by kernel_rfl) (Nat.le_of_ble_eq_true rfl) ?_
  simp -implicitDefEqProofs only [go_sem, reduceEqDiff, reduceAdd, reduceLeDiff, reduceLT, reduceMul, reduceEq, Int.reduceLT, reduceLE, Int.reduceAdd, reduceSub, reduceToNat, UInt8.reduceToNat, Tryz.f106, puV2, puV1, sByte_eq, sEachP_eq, hs]
  repeat' (first | (with_reducible refine gd_intro (fun h => ?_) (fun h => ?_) <;> first | (exact absurd h (by decide)) | (simp at h; done) | simp -implicitDefEqProofs (disch := omega) only [go_sem, reduceEqDiff, reduceAdd, reduceLeDiff, reduceLT, reduceMul, reduceEq, Int.reduceLT, reduceLE, Int.reduceAdd, reduceSub, reduceToNat, UInt8.reduceToNat, Go.IntWalk.i64_in, puV2, puV1, sEachP_eq, *]) | (with_reducible refine cnd_intro (fun h => ?_) (fun h => ?_) <;> first | (exact absurd h (by decide)) | (simp at h; done) | simp -implicitDefEqProofs (disch := omega) only [go_sem, reduceEqDiff, reduceAdd, reduceLeDiff, reduceLT, reduceMul, reduceEq, Int.reduceLT, reduceLE, Int.reduceAdd, reduceSub, reduceToNat, UInt8.reduceToNat, Go.IntWalk.i64_in, puV2, puV1, sEachP_eq, *]))
  all_goals (refine Done.now ⟨?_, rfl⟩; simp_all [partB])
theorem isValue_calls (s : Bytes) (H : Heap) (hs : s.length ≤ Room) : ACalls Tryz.prog 104 [.str s] H fun x H' => x = .bool (valueB s) ∧ H' = H := by
  refine ACalls.of_code (X := { pure := puV2 }) puV2_ok Tryz.func104 (by kernel_rfl) rfl (by kernel_rfl) (Nat.le_of_ble_eq_true rfl) ?_
  simp -implicitDefEqProofs only [go_sem, reduceEqDiff, reduceAdd, reduceLeDiff, reduceLT, reduceMul, reduceEq, Int.reduceLT, reduceLE, Int.reduceAdd, reduceSub, reduceToNat, UInt8.reduceToNat, Tryz.f104, puV2, puV1, sByte_eq, sEachP_eq, hs]
  repeat' (first | (with_reducible refine gd_intro (fun h => ?_) (fun h => ?_) <;> first | (exact absurd h (by decide)) | (simp at h; done) | simp -implicitDefEqProofs (disch := omega) only [go_sem, reduceEqDiff, reduceAdd, reduceLeDiff, reduceLT, reduceMul, reduceEq, Int.reduceLT, reduceLE, Int.reduceAdd, reduceSub, reduceToNat, UInt8.reduceToNat, Go.IntWalk.i64_in, puV2, puV1, sEachP_eq, *]) | (with_reducible refine cnd_intro (fun h => ?_) (fun h => ?_) <;> first | (exact absurd h (by decide)) | (simp at h; done) | simp -implicitDefEqProofs (disch := omega) only [go_sem, reduceEqDiff, reduceAdd, reduceLeDiff, reduceLT, reduceMul, reduceEq, Int.reduceLT, reduceLE, Int.reduceAdd, reduceSub, reduceToNat, UInt8.reduceToNat, Go.IntWalk.i64_in, puV2, puV1, sEachP_eq, *]))
  all_goals (refine Done.now ⟨?_, rfl⟩; simp_all [valueB])
def puV3 : Pures := putP 106 (sStr partB) puV2
theorem puV3_dyn : isDyn puV3 = false := by simp only [puV3, go_sem, Nat.reduceEqDiff]
attribute [go_sem] puV3_dyn
theorem puV3_ok : PuOK Tryz.prog puV3 := .put (puV2_ok) (sStr_ok isPart_calls)
theorem room_part {s p : Bytes} {c : UInt8} (hs : s.length ≤ Room) {i : Nat} (h : (splitB c s)[i]? = some p) : p.length ≤ Room := Nat.le_trans (splitB_mem s p (List.mem_of_getElem? h)) hs
theorem sSplit_room (s : Bytes) (c : UInt8) (h : s.length ≤ Room) : sSplit [.str s, .str [c]] = some (.sl ((splitB c s).map encBs) .unk) := by rw [sSplit_eq, if_pos h]
theorem isPath_calls (s : Bytes) (H : Heap) (hs : s.length ≤ Room) : ACalls Tryz.prog 73 [.str s] H fun x H' => x = .bool (pathB s) ∧ H' = H := by
  refine ACalls.of_code (X := { pure := puV3 }) puV3_ok Tryz.func73 (by kernel_rfl) rfl (by kernel_rfl) (Nat.le_of_ble_eq_true rfl) ?_
  simp -implicitDefEqProofs only [go_sem, reduceEqDiff, reduceAdd, reduceLeDiff, reduceLT, reduceMul, reduceEq, Int.reduceLT, reduceLE, Int.reduceAdd, reduceSub, reduceToNat, UInt8.reduceToNat, Tryz.f73, puV3, puV2, puV1, puK, sSplit_room s _ hs]
  have hlen : (splitB 47 s).length ≤ 1099511627777 := by rw [splitB_len]; have := List.count_le_length (a := (47 : UInt8)) (l := s); have : Room = 1099511627776 := rfl; omega
  refine aloop_intro (σ := Nat) (fun i => [(0, .str s), (6, .sl ((splitB 47 s).map encBs) .unk), (7, .int .i64 (splitB 47 s).length), (8, .int .i64 i)]) (fun i G => G = H ∧ i ≤ (splitB 47 s).length ∧ ((splitB 47 s).take i).all partB = true) (fun i => (splitB 47 s).length - i) 0 ?_ ?_ ?_
  · simp -implicitDefEqProofs only [go_sem, reduceEqDiff, reduceAdd, reduceLeDiff, reduceLT, reduceMul, reduceEq, Int.reduceLT, reduceLE, Int.reduceAdd, reduceSub, reduceToNat, UInt8.reduceToNat]
  · simp
  · rintro i r G ⟨h0, h6, h7, h8, -⟩ ⟨rfl, hi, hp⟩
    simp -implicitDefEqProofs only [go_sem, reduceEqDiff, reduceAdd, reduceLeDiff, reduceLT, reduceMul, reduceEq, Int.reduceLT, reduceLE, Int.reduceAdd, reduceSub, reduceToNat, UInt8.reduceToNat, h0, h6, h7, h8]
    refine cnd_intro (fun h => ?_) (fun h => ?_)
    · simp only [decide_eq_true_eq] at h
      obtain ⟨c, hc⟩ : ∃ c, (splitB 47 s)[i]? = some c := ⟨(splitB 47 s)[i]'(by omega), List.getElem?_eq_getElem _⟩
      have hr := room_part hs hc
      simp -implicitDefEqProofs only [go_sem, reduceEqDiff, reduceAdd, reduceLeDiff, reduceLT, reduceMul, reduceEq, Int.reduceLT, reduceLE, Int.reduceAdd, reduceSub, reduceToNat, UInt8.reduceToNat, h0, h6, h7, h8, hc, encBs, puV3, sStr_eq, hr]
      refine cnd_intro (fun hpc => ?_) (fun hpc => ?_) <;> simp only [Bool.not_eq_true', Bool.not_eq_false'] at hpc
      · simp -implicitDefEqProofs only [go_sem, reduceEqDiff, reduceAdd, reduceLeDiff, reduceLT, reduceMul, reduceEq, Int.reduceLT, reduceLE, Int.reduceAdd, reduceSub, reduceToNat, UInt8.reduceToNat, h0, h6, h7, h8, hc]
        refine Done.now ⟨?_, rfl⟩
        have : (splitB 47 s).all partB = false := by rw [List.all_eq_false]; exact ⟨c, List.mem_of_getElem? hc, by simp [hpc]⟩
        simp [pathB, this]
      · simp -implicitDefEqProofs (disch := omega) only [go_sem, reduceEqDiff, reduceAdd, reduceLeDiff, reduceLT, reduceMul, reduceEq, Int.reduceLT, reduceLE, Int.reduceAdd, reduceSub, reduceToNat, UInt8.reduceToNat, Go.IntWalk.i64_in, h0, h6, h7, h8, hc]
        refine Again.mk (i + 1) (by simp -implicitDefEqProofs only [go_sem, reduceEqDiff, reduceAdd, reduceLeDiff, reduceLT, reduceMul, reduceEq, Int.reduceLT, reduceLE, Int.reduceAdd, reduceSub, reduceToNat, UInt8.reduceToNat, h0, h6, h7, h8]; exact rfl) ⟨rfl, by omega, ?_⟩ (by omega)
        rw [List.take_add_one, hc]
        simp [List.all_append, hp, hpc]
    · simp only [decide_eq_false_iff_not] at h
      have e : i = (splitB 47 s).length := by omega
      subst e
      rw [List.take_length] at hp
      simp -implicitDefEqProofs only [go_sem, reduceEqDiff, reduceAdd, reduceLeDiff, reduceLT, reduceMul, reduceEq, Int.reduceLT, reduceLE, Int.reduceAdd, reduceSub, reduceToNat, UInt8.reduceToNat, h0, h6, h7, h8]
      exact Done.now ⟨by simp [pathB, hp], rfl⟩
end Go.Proofs

/- Walks: the reference's names, paths, values; what has the form of a sum. -/
namespace Go.Proofs
open Go Go.Abs
open Nat (reduceEqDiff reduceAdd reduceLeDiff reduceLT reduceMul)
open Int (reduceEq reduceLE reduceSub reduceToNat)
set_option linter.unusedSimpArgs false
set_option linter.unusedVariables false
theorem name_iff (s : Bytes) (h : s ≠ []) : nameB s = (allB isNm s && isSm ((s.headD 0).toNat : Int) && decide ((s.length : Int) ≤ 40)) := by
  simp only [nameB, sEach, h, ne_eq, not_false_eq_true, decide_true, Bool.and_true]
  cases allB isNm s <;> cases isSm ((s.headD 0).toNat : Int) <;> simp
theorem rIsName_calls (s : Bytes) (H : Heap) (hs : s.length ≤ Room) : ACalls Tryz.prog 42 [.str s] H fun x H' => x = .bool (nameB s) ∧ H' = H := by
  have hR : Room = 1099511627776 := rfl
  rw [hR] at hs
  refine ACalls.of_code (X := { pure := puV3 }) puV3_ok Tryz.func42 (by kernel_rfl) rfl (by kernel_rfl) (Nat.le_of_ble_eq_true rfl) ?_
  simp -implicitDefEqProofs only [go_sem, reduceEqDiff, reduceAdd, reduceLeDiff, reduceLT, reduceMul, reduceEq, Int.reduceLT, reduceLE, Int.reduceAdd, reduceSub, reduceToNat, UInt8.reduceToNat, Tryz.f42]
  refine aloop_intro (σ := Nat) (fun i => [(0, .str s), (7, .int .i64 s.length), (8, .int .i64 i)]) (fun i G => G = H ∧ i ≤ s.length ∧ allB isNm (s.take i) = true ∧ (0 < i → isSm ((s.headD 0).toNat : Int) = true)) (fun i => s.length - i) 0 ?_ ?_ ?_
  · simp -implicitDefEqProofs only [go_sem, reduceEqDiff, reduceAdd, reduceLeDiff, reduceLT, reduceMul, reduceEq, Int.reduceLT, reduceLE, Int.reduceAdd, reduceSub, reduceToNat, UInt8.reduceToNat]
  · simp [allB]
  · intro i r G hv hI
    have h0 := hv.1
    have h7 := hv.2.1
    have h8 := hv.2.2.1
    have hG := hI.1.symm
    have hi := hI.2.1
    have hp := hI.2.2.1
    have hh := hI.2.2.2
    clear hv hI
    subst hG
    simp -implicitDefEqProofs only [go_sem, reduceEqDiff, reduceAdd, reduceLeDiff, reduceLT, reduceMul, reduceEq, Int.reduceLT, reduceLE, Int.reduceAdd, reduceSub, reduceToNat, UInt8.reduceToNat, h0, h7, h8]
    refine cnd_intro (fun h => ?_) (fun h => ?_)
    · simp only [decide_eq_true_eq] at h
      obtain ⟨c, hc⟩ : ∃ c, s[i]? = some c := ⟨s[i]'(by omega), List.getElem?_eq_getElem _⟩
      have hn := not_nil_of hc
      have hsm : i = 0 → s.headD 0 = c := fun e => by subst e; exact head_of hc
      have bad0 : i = 0 → isSm (c.toNat : Int) = false → nameB s = false := fun e1 e2 => by rw [name_iff s hn, hsm e1, e2]; simp
      have bad1 : isNm (c.toNat : Int) = false → nameB s = false := fun e => by rw [nameB, sEach_false hc e]; rfl
      have good : (i = 0 → isSm (c.toNat : Int) = true) → isNm (c.toNat : Int) = true → allB isNm (s.take (i + 1)) = true ∧ (0 < i + 1 → isSm ((s.headD 0).toNat : Int) = true) := fun e1 e2 =>
        ⟨allB_succ hp hc e2, fun _ => by
          rcases Nat.eq_zero_or_pos i with e | e
          · rw [hsm e]; exact e1 e
          · exact hh e⟩
      clear hp hsm hh
      generalize hcn : (c.toNat : Int) = k at *
      simp -implicitDefEqProofs only [go_sem, reduceEqDiff, reduceAdd, reduceLeDiff, reduceLT, reduceMul, reduceEq, Int.reduceLT, reduceLE, Int.reduceAdd, reduceSub, reduceToNat, UInt8.reduceToNat, h0, h7, h8, hc, hcn]
      clear hc
      repeat' (first | (with_reducible refine gd_intro (fun h => ?_) (fun h => ?_) <;> first | (exact absurd h (by decide)) | (simp at h; done) | simp -implicitDefEqProofs (disch := omega) only [go_sem, reduceEqDiff, reduceAdd, reduceLeDiff, reduceLT, reduceMul, reduceEq, Int.reduceLT, reduceLE, Int.reduceAdd, reduceSub, reduceToNat, UInt8.reduceToNat, Go.IntWalk.i64_in, *]) | (with_reducible refine cnd_intro (fun h => ?_) (fun h => ?_) <;> first | (exact absurd h (by decide)) | (simp at h; done) | simp -implicitDefEqProofs (disch := omega) only [go_sem, reduceEqDiff, reduceAdd, reduceLeDiff, reduceLT, reduceMul, reduceEq, Int.reduceLT, reduceLE, Int.reduceAdd, reduceSub, reduceToNat, UInt8.reduceToNat, Go.IntWalk.i64_in, *]))
      all_goals first
        | (refine Done.now ⟨?_, rfl⟩
           simp only [decide_eq_true_eq, decide_eq_false_iff_not, Bool.not_eq_true', Bool.not_eq_false', Decidable.not_not, Int.not_lt, Int.not_le, ne_eq] at *
           first
            | (rw [bad0 (by omega) (by simp [isSm]; omega)]; done)
            | (rw [bad1 (by simp [isNm, isSm, isDg]; omega)]; done))
        | (simp only [decide_eq_true_eq, decide_eq_false_iff_not, Bool.not_eq_true', Bool.not_eq_false', Decidable.not_not, Int.not_lt, Int.not_le, ne_eq] at *
           exact Again.mk (i + 1) (by simp -implicitDefEqProofs only [go_sem, reduceEqDiff, reduceAdd, reduceLeDiff, reduceLT, reduceMul, reduceEq, Int.reduceLT, reduceLE, Int.reduceAdd, reduceSub, reduceToNat, UInt8.reduceToNat, h0, h7, h8]; exact rfl) ⟨rfl, by omega, good (by simp [isSm]; omega) (by simp [isNm, isSm, isDg]; omega)⟩ (by omega))
    · simp only [decide_eq_false_iff_not] at h
      have e : i = s.length := by omega
      subst e
      rw [List.take_length] at hp
      simp -implicitDefEqProofs only [go_sem, reduceEqDiff, reduceAdd, reduceLeDiff, reduceLT, reduceMul, reduceEq, Int.reduceLT, reduceLE, Int.reduceAdd, reduceSub, reduceToNat, UInt8.reduceToNat, h0, h7, h8]
      repeat' (first | (with_reducible refine gd_intro (fun h => ?_) (fun h => ?_) <;> first | (exact absurd h (by decide)) | (simp at h; done) | simp -implicitDefEqProofs (disch := omega) only [go_sem, reduceEqDiff, reduceAdd, reduceLeDiff, reduceLT, reduceMul, reduceEq, Int.reduceLT, reduceLE, Int.reduceAdd, reduceSub, reduceToNat, UInt8.reduceToNat, Go.IntWalk.i64_in, *]) | (with_reducible refine cnd_intro (fun h => ?_) (fun h => ?_) <;> first | (exact absurd h (by decide)) | (simp at h; done) | simp -implicitDefEqProofs (disch := omega) only [go_sem, reduceEqDiff, reduceAdd, reduceLeDiff, reduceLT, reduceMul, reduceEq, Int.reduceLT, reduceLE, Int.reduceAdd, reduceSub, reduceToNat, UInt8.reduceToNat, Go.IntWalk.i64_in, *]))
      all_goals refine Done.now ⟨?_, rfl⟩
      all_goals simp only [decide_eq_true_eq, decide_eq_false_iff_not, Bool.not_eq_true', Bool.not_eq_false', Decidable.not_not, Int.not_lt, Int.not_le, ne_eq] at *
      · cases s with
        | nil => simp at hR h
        | cons b l => rw [name_iff _ (by simp), hp, hh (by simp)]; simp
      · have : s = [] := by simpa using h
        subst this; rfl
theorem rIsPart_calls (s : Bytes) (H : Heap) (hs : s.length ≤ Room) : ACalls Tryz.prog 133 [.str s] H fun x H' => x = .bool (partB s) ∧ H' = H := by
  have hR : Room = 1099511627776 := rfl
  rw [hR] at hs
  clear hR
  refine ACalls.of_code (X := { pure := puV3 }) puV3_ok Tryz.func133 (by kernel_rfl) rfl (by kernel_rfl) (Nat.le_of_ble_eq_true rfl) ?_
  simp -implicitDefEqProofs only [go_sem, reduceEqDiff, reduceAdd, reduceLeDiff, reduceLT, reduceMul, reduceEq, Int.reduceLT, reduceLE, Int.reduceAdd, reduceSub, reduceToNat, UInt8.reduceToNat, Tryz.f133]
  refine aloop_intro (σ := Nat) (fun i => [(0, .str s), (6, .int .i64 s.length), (7, .int .i64 i)]) (fun i G => G = H ∧ i ≤ s.length ∧ allB isPt (s.take i) = true) (fun i => s.length - i) 0 ?_ ?_ ?_
  · simp -implicitDefEqProofs only [go_sem, reduceEqDiff, reduceAdd, reduceLeDiff, reduceLT, reduceMul, reduceEq, Int.reduceLT, reduceLE, Int.reduceAdd, reduceSub, reduceToNat, UInt8.reduceToNat]
  · simp [allB]
  · intro i r G hv hI
    have h0 := hv.1
    have h7 := hv.2.1
    have h8 := hv.2.2.1
    have hG := hI.1.symm
    have hi := hI.2.1
    have hp := hI.2.2
    clear hv hI
    subst hG
    simp -implicitDefEqProofs only [go_sem, reduceEqDiff, reduceAdd, reduceLeDiff, reduceLT, reduceMul, reduceEq, Int.reduceLT, reduceLE, Int.reduceAdd, reduceSub, reduceToNat, UInt8.reduceToNat, h0, h7, h8]
    refine cnd_intro (fun h => ?_) (fun h => ?_)
    · simp only [decide_eq_true_eq] at h
      obtain ⟨c, hc⟩ : ∃ c, s[i]? = some c := ⟨s[i]'(by omega), List.getElem?_eq_getElem _⟩
      have bad1 : isPt (c.toNat : Int) = false → partB s = false := fun e => by simp [partB, sEach, allB_false hc e, not_nil_of hc]
      have good : isPt (c.toNat : Int) = true → allB isPt (s.take (i + 1)) = true := fun e2 => allB_succ hp hc e2
      clear hp
      generalize hcn : (c.toNat : Int) = k at *
      simp -implicitDefEqProofs only [go_sem, reduceEqDiff, reduceAdd, reduceLeDiff, reduceLT, reduceMul, reduceEq, Int.reduceLT, reduceLE, Int.reduceAdd, reduceSub, reduceToNat, UInt8.reduceToNat, h0, h7, h8, hc, hcn]
      repeat' (first | (with_reducible refine gd_intro (fun h => ?_) (fun h => ?_) <;> first | (exact absurd h (by decide)) | (simp at h; done) | simp -implicitDefEqProofs (disch := omega) only [go_sem, reduceEqDiff, reduceAdd, reduceLeDiff, reduceLT, reduceMul, reduceEq, Int.reduceLT, reduceLE, Int.reduceAdd, reduceSub, reduceToNat, UInt8.reduceToNat, Go.IntWalk.i64_in, *]) | (with_reducible refine cnd_intro (fun h => ?_) (fun h => ?_) <;> first | (exact absurd h (by decide)) | (simp at h; done) | simp -implicitDefEqProofs (disch := omega) only [go_sem, reduceEqDiff, reduceAdd, reduceLeDiff, reduceLT, reduceMul, reduceEq, Int.reduceLT, reduceLE, Int.reduceAdd, reduceSub, reduceToNat, UInt8.reduceToNat, Go.IntWalk.i64_in, *]))
      all_goals first
        | (refine Done.now ⟨?_, rfl⟩
           simp only [decide_eq_true_eq, decide_eq_false_iff_not, Bool.not_eq_true', Bool.not_eq_false', Decidable.not_not, Int.not_lt, Int.not_le, ne_eq] at *
           rw [bad1 (by simp [isPt, isSm, isDg]; omega)]; done)
        | (simp only [decide_eq_true_eq, decide_eq_false_iff_not, Bool.not_eq_true', Bool.not_eq_false', Decidable.not_not, Int.not_lt, Int.not_le, ne_eq] at *
           exact Again.mk (i + 1) (by simp -implicitDefEqProofs only [go_sem, reduceEqDiff, reduceAdd, reduceLeDiff, reduceLT, reduceMul, reduceEq, Int.reduceLT, reduceLE, Int.reduceAdd, reduceSub, reduceToNat, UInt8.reduceToNat, h0, h7, h8]; exact rfl) ⟨rfl, by omega, good (by simp [isPt, isSm, isDg]; omega)⟩ (by omega))
    · simp only [decide_eq_false_iff_not] at h
      have e : i = s.length := by omega
      subst e
      rw [List.take_length] at hp
      simp -implicitDefEqProofs only [go_sem, reduceEqDiff, reduceAdd, reduceLeDiff, reduceLT, reduceMul, reduceEq, Int.reduceLT, reduceLE, Int.reduceAdd, reduceSub, reduceToNat, UInt8.reduceToNat, h0, h7, h8]
      repeat' (first | (with_reducible refine gd_intro (fun h => ?_) (fun h => ?_) <;> first | (exact absurd h (by decide)) | (simp at h; done) | simp -implicitDefEqProofs (disch := omega) only [go_sem, reduceEqDiff, reduceAdd, reduceLeDiff, reduceLT, reduceMul, reduceEq, Int.reduceLT, reduceLE, Int.reduceAdd, reduceSub, reduceToNat, UInt8.reduceToNat, Go.IntWalk.i64_in, *]) | (with_reducible refine cnd_intro (fun h => ?_) (fun h => ?_) <;> first | (exact absurd h (by decide)) | (simp at h; done) | simp -implicitDefEqProofs (disch := omega) only [go_sem, reduceEqDiff, reduceAdd, reduceLeDiff, reduceLT, reduceMul, reduceEq, Int.reduceLT, reduceLE, Int.reduceAdd, reduceSub, reduceToNat, UInt8.reduceToNat, Go.IntWalk.i64_in, *]))
      all_goals refine Done.now ⟨?_, rfl⟩
      all_goals try simp only [decide_eq_true_eq, decide_eq_false_iff_not, Bool.not_eq_true', Bool.not_eq_false', Decidable.not_not, Int.not_lt, Int.not_le, ne_eq] at *
      all_goals (by_cases hn : s = [] <;> simp_all [partB, sEach] <;> omega)

theorem rIsValue_calls (s : Bytes) (H : Heap) (hs : s.length ≤ Room) : ACalls Tryz.prog 43 [.str s] H fun x H' => x = .bool (valueB s) ∧ H' = H := by
  have hR : Room = 1099511627776 := rfl
  rw [hR] at hs
  clear hR
  refine ACalls.of_code (X := { pure := puV3 }) puV3_ok Tryz.func43 (by kernel_rfl) rfl (by kernel_rfl) (Nat.le_of_ble_eq_true rfl) ?_
  simp -implicitDefEqProofs only [go_sem, reduceEqDiff, reduceAdd, reduceLeDiff, reduceLT, reduceMul, reduceEq, Int.reduceLT, reduceLE, Int.reduceAdd, reduceSub, reduceToNat, UInt8.reduceToNat, Tryz.f43]
  refine aloop_intro (σ := Nat) (fun i => [(0, .str s), (5, .int .i64 s.length), (6, .int .i64 i)]) (fun i G => G = H ∧ i ≤ s.length ∧ allB isVl (s.take i) = true) (fun i => s.length - i) 0 ?_ ?_ ?_
  · simp -implicitDefEqProofs only [go_sem, reduceEqDiff, reduceAdd, reduceLeDiff, reduceLT, reduceMul, reduceEq, Int.reduceLT, reduceLE, Int.reduceAdd, reduceSub, reduceToNat, UInt8.reduceToNat]
  · simp [allB]
  · intro i r G hv hI
    have h0 := hv.1
    have h7 := hv.2.1
    have h8 := hv.2.2.1
    have hG := hI.1.symm
    have hi := hI.2.1
    have hp := hI.2.2
    clear hv hI
    subst hG
    simp -implicitDefEqProofs only [go_sem, reduceEqDiff, reduceAdd, reduceLeDiff, reduceLT, reduceMul, reduceEq, Int.reduceLT, reduceLE, Int.reduceAdd, reduceSub, reduceToNat, UInt8.reduceToNat, h0, h7, h8]
    refine cnd_intro (fun h => ?_) (fun h => ?_)
    · simp only [decide_eq_true_eq] at h
      obtain ⟨c, hc⟩ : ∃ c, s[i]? = some c := ⟨s[i]'(by omega), List.getElem?_eq_getElem _⟩
      have bad1 : isVl (c.toNat : Int) = false → valueB s = false := fun e => by simp [valueB, sEach, allB_false hc e, not_nil_of hc]
      have good : isVl (c.toNat : Int) = true → allB isVl (s.take (i + 1)) = true := fun e2 => allB_succ hp hc e2
      clear hp
      generalize hcn : (c.toNat : Int) = k at *
      simp -implicitDefEqProofs only [go_sem, reduceEqDiff, reduceAdd, reduceLeDiff, reduceLT, reduceMul, reduceEq, Int.reduceLT, reduceLE, Int.reduceAdd, reduceSub, reduceToNat, UInt8.reduceToNat, h0, h7, h8, hc, hcn]
      repeat' (first | (with_reducible refine gd_intro (fun h => ?_) (fun h => ?_) <;> first | (exact absurd h (by decide)) | (simp at h; done) | simp -implicitDefEqProofs (disch := omega) only [go_sem, reduceEqDiff, reduceAdd, reduceLeDiff, reduceLT, reduceMul, reduceEq, Int.reduceLT, reduceLE, Int.reduceAdd, reduceSub, reduceToNat, UInt8.reduceToNat, Go.IntWalk.i64_in, *]) | (with_reducible refine cnd_intro (fun h => ?_) (fun h => ?_) <;> first | (exact absurd h (by decide)) | (simp at h; done) | simp -implicitDefEqProofs (disch := omega) only [go_sem, reduceEqDiff, reduceAdd, reduceLeDiff, reduceLT, reduceMul, reduceEq, Int.reduceLT, reduceLE, Int.reduceAdd, reduceSub, reduceToNat, UInt8.reduceToNat, Go.IntWalk.i64_in, *]))
      all_goals first
        | (refine Done.now ⟨?_, rfl⟩
           simp only [decide_eq_true_eq, decide_eq_false_iff_not, Bool.not_eq_true', Bool.not_eq_false', Decidable.not_not, Int.not_lt, Int.not_le, ne_eq] at *
           rw [bad1 (by simp [isVl]; omega)]; done)
        | (simp only [decide_eq_true_eq, decide_eq_false_iff_not, Bool.not_eq_true', Bool.not_eq_false', Decidable.not_not, Int.not_lt, Int.not_le, ne_eq] at *
           exact Again.mk (i + 1) (by simp -implicitDefEqProofs only [go_sem, reduceEqDiff, reduceAdd, reduceLeDiff, reduceLT, reduceMul, reduceEq, Int.reduceLT, reduceLE, Int.reduceAdd, reduceSub, reduceToNat, UInt8.reduceToNat, h0, h7, h8]; exact rfl) ⟨rfl, by omega, good (by simp [isVl]; omega)⟩ (by omega))
    · simp only [decide_eq_false_iff_not] at h
      have e : i = s.length := by omega
      subst e
      rw [List.take_length] at hp
      simp -implicitDefEqProofs only [go_sem, reduceEqDiff, reduceAdd, reduceLeDiff, reduceLT, reduceMul, reduceEq, Int.reduceLT, reduceLE, Int.reduceAdd, reduceSub, reduceToNat, UInt8.reduceToNat, h0, h7, h8]
      repeat' (first | (with_reducible refine gd_intro (fun h => ?_) (fun h => ?_) <;> first | (exact absurd h (by decide)) | (simp at h; done) | simp -implicitDefEqProofs (disch := omega) only [go_sem, reduceEqDiff, reduceAdd, reduceLeDiff, reduceLT, reduceMul, reduceEq, Int.reduceLT, reduceLE, Int.reduceAdd, reduceSub, reduceToNat, UInt8.reduceToNat, Go.IntWalk.i64_in, *]) | (with_reducible refine cnd_intro (fun h => ?_) (fun h => ?_) <;> first | (exact absurd h (by decide)) | (simp at h; done) | simp -implicitDefEqProofs (disch := omega) only [go_sem, reduceEqDiff, reduceAdd, reduceLeDiff, reduceLT, reduceMul, reduceEq, Int.reduceLT, reduceLE, Int.reduceAdd, reduceSub, reduceToNat, UInt8.reduceToNat, Go.IntWalk.i64_in, *]))
      all_goals refine Done.now ⟨?_, rfl⟩
      all_goals try simp only [decide_eq_true_eq, decide_eq_false_iff_not, Bool.not_eq_true', Bool.not_eq_false', Decidable.not_not, Int.not_lt, Int.not_le, ne_eq] at *
      all_goals (by_cases hn : s = [] <;> simp_all [valueB, sEach] <;> omega)

def puR1 : Pures := putP 133 (sStr partB) (putP 43 (sStr valueB) (putP 42 (sStr nameB) puV3))
theorem puR1_dyn : isDyn puR1 = false := by simp only [puR1, go_sem, Nat.reduceEqDiff]
attribute [go_sem] puR1_dyn
theorem puR1_ok : PuOK Tryz.prog puR1 := .put (.put (.put (puV3_ok) (sStr_ok rIsName_calls)) (sStr_ok rIsValue_calls)) (sStr_ok rIsPart_calls)
theorem rIsPath_calls (s : Bytes) (H : Heap) (hs : s.length ≤ Room) : ACalls Tryz.prog 103 [.str s] H fun x H' => x = .bool (pathB s) ∧ H' = H := by
  refine ACalls.of_code (X := { pure := puR1 }) puR1_ok Tryz.func103 (by kernel_rfl) rfl (by kernel_rfl) (Nat.le_of_ble_eq_true rfl) ?_
  simp -implicitDefEqProofs only [go_sem, reduceEqDiff, reduceAdd, reduceLeDiff, reduceLT, reduceMul, reduceEq, Int.reduceLT, reduceLE, Int.reduceAdd, reduceSub, reduceToNat, UInt8.reduceToNat, Tryz.f103, puR1, puV3, puV2, puV1, puK, sSplit_room s _ hs]
  have hlen : (splitB 47 s).length ≤ 1099511627777 := by rw [splitB_len]; have := List.count_le_length (a := (47 : UInt8)) (l := s); have : Room = 1099511627776 := rfl; omega
  refine aloop_intro (σ := Nat) (fun i => [(0, .str s), (6, .sl ((splitB 47 s).map encBs) .unk), (7, .int .i64 (splitB 47 s).length), (8, .int .i64 i)]) (fun i G => G = H ∧ i ≤ (splitB 47 s).length ∧ ((splitB 47 s).take i).all partB = true) (fun i => (splitB 47 s).length - i) 0 ?_ ?_ ?_
  · simp -implicitDefEqProofs only [go_sem, reduceEqDiff, reduceAdd, reduceLeDiff, reduceLT, reduceMul, reduceEq, Int.reduceLT, reduceLE, Int.reduceAdd, reduceSub, reduceToNat, UInt8.reduceToNat]
  · simp
  · intro i r G hv hI
    have h0 := hv.1
    have h6 := hv.2.1
    have h7 := hv.2.2.1
    have h8 := hv.2.2.2.1
    have hG := hI.1.symm
    have hi := hI.2.1
    have hp := hI.2.2
    clear hv hI
    subst hG
    simp -implicitDefEqProofs only [go_sem, reduceEqDiff, reduceAdd, reduceLeDiff, reduceLT, reduceMul, reduceEq, Int.reduceLT, reduceLE, Int.reduceAdd, reduceSub, reduceToNat, UInt8.reduceToNat, h0, h6, h7, h8]
    refine cnd_intro (fun h => ?_) (fun h => ?_)
    · simp only [decide_eq_true_eq] at h
      obtain ⟨c, hc⟩ : ∃ c, (splitB 47 s)[i]? = some c := ⟨(splitB 47 s)[i]'(by omega), List.getElem?_eq_getElem _⟩
      have hr := room_part hs hc
      simp -implicitDefEqProofs only [go_sem, reduceEqDiff, reduceAdd, reduceLeDiff, reduceLT, reduceMul, reduceEq, Int.reduceLT, reduceLE, Int.reduceAdd, reduceSub, reduceToNat, UInt8.reduceToNat, h0, h6, h7, h8, hc, encBs, puR1, sStr_eq, hr]
      refine cnd_intro (fun hpc => ?_) (fun hpc => ?_) <;> simp only [Bool.not_eq_true', Bool.not_eq_false'] at hpc
      · simp -implicitDefEqProofs only [go_sem, reduceEqDiff, reduceAdd, reduceLeDiff, reduceLT, reduceMul, reduceEq, Int.reduceLT, reduceLE, Int.reduceAdd, reduceSub, reduceToNat, UInt8.reduceToNat, h0, h6, h7, h8, hc]
        refine Done.now ⟨?_, rfl⟩
        have : (splitB 47 s).all partB = false := by rw [List.all_eq_false]; exact ⟨c, List.mem_of_getElem? hc, by simp [hpc]⟩
        simp [pathB, this]
      · simp -implicitDefEqProofs (disch := omega) only [go_sem, reduceEqDiff, reduceAdd, reduceLeDiff, reduceLT, reduceMul, reduceEq, Int.reduceLT, reduceLE, Int.reduceAdd, reduceSub, reduceToNat, UInt8.reduceToNat, Go.IntWalk.i64_in, h0, h6, h7, h8, hc]
        refine Again.mk (i + 1) (by simp -implicitDefEqProofs only [go_sem, reduceEqDiff, reduceAdd, reduceLeDiff, reduceLT, reduceMul, reduceEq, Int.reduceLT, reduceLE, Int.reduceAdd, reduceSub, reduceToNat, UInt8.reduceToNat, h0, h6, h7, h8]; exact rfl) ⟨rfl, by omega, ?_⟩ (by omega)
        rw [List.take_add_one, hc]
        simp [List.all_append, hp, hpc]
    · simp only [decide_eq_false_iff_not] at h
      have e : i = (splitB 47 s).length := by omega
      subst e
      rw [List.take_length] at hp
      simp -implicitDefEqProofs only [go_sem, reduceEqDiff, reduceAdd, reduceLeDiff, reduceLT, reduceMul, reduceEq, Int.reduceLT, reduceLE, Int.reduceAdd, reduceSub, reduceToNat, UInt8.reduceToNat, h0, h6, h7, h8]
      exact Done.now ⟨by simp [pathB, hp], rfl⟩
def puN : Pures := putP 103 (sStr pathB) (putP 73 (sStr pathB) (putP 41 (sStr nameB) (putP 104 (sStr valueB) puR1)))
theorem puN_dyn : isDyn puN = false := by simp only [puN, go_sem, Nat.reduceEqDiff]
attribute [go_sem] puN_dyn
theorem puN_ok : PuOK Tryz.prog puN := .put (.put (.put (.put (puR1_ok) (sStr_ok isValue_calls)) (sStr_ok isName_calls)) (sStr_ok isPath_calls)) (sStr_ok rIsPath_calls)
end Go.Proofs

/- Walks: sums, of the program and of the reference. -/
namespace Go.Proofs
open Go Go.Abs
open Nat (reduceEqDiff reduceAdd reduceLeDiff reduceLT reduceMul)
open Int (reduceEq reduceLE reduceSub reduceToNat)
set_option linter.unusedSimpArgs false
set_option linter.unusedVariables false
def encB (b : UInt8) : AV := .int .u8 b.toNat
set_option maxHeartbeats 1600000 in
theorem sumOf_calls (s : Bytes) (H : Heap) (hs : s.length ≤ Room) : ACalls Tryz.prog 77 [.str s] H fun x H' => x = .str (sumOf s) ∧ H' = H := by
  have hR : Room = 1099511627776 := rfl
  rw [hR] at hs
  clear hR
  refine ACalls.of_code (X := { pure := puN }) puN_ok Tryz.func77 (by kernel_rfl) rfl (by kernel_rfl) (Nat.le_of_ble_eq_true rfl) ?_
  simp -implicitDefEqProofs only [go_sem, reduceEqDiff, reduceAdd, reduceLeDiff, reduceLT, reduceMul, reduceEq, Int.reduceLT, reduceLE, Int.reduceAdd, reduceSub, reduceToNat, UInt8.reduceToNat, Tryz.f77]
  refine aloop_intro (σ := Nat) (fun i => [(0, .str s), (3, .int .u64 (fnv (s.take i))), (4, .int .i64 i)]) (fun i G => G = H ∧ i ≤ s.length) (fun i => s.length - i) 0 ?_ ?_ ?_
  · simp -implicitDefEqProofs only [go_sem, reduceEqDiff, reduceAdd, reduceLeDiff, reduceLT, reduceMul, reduceEq, Int.reduceLT, reduceLE, Int.reduceAdd, reduceSub, reduceToNat, UInt8.reduceToNat]
    simp [fnv]
  · simp
  · intro i r G hv hI
    have h0 := hv.1
    have h3 := hv.2.1
    have h4 := hv.2.2.1
    have hG := hI.1.symm
    have hi := hI.2
    clear hv hI
    subst hG
    simp -implicitDefEqProofs only [go_sem, reduceEqDiff, reduceAdd, reduceLeDiff, reduceLT, reduceMul, reduceEq, Int.reduceLT, reduceLE, Int.reduceAdd, reduceSub, reduceToNat, UInt8.reduceToNat, h0, h3, h4]
    refine cnd_intro (fun h => ?_) (fun h => ?_)
    · simp only [decide_eq_true_eq] at h
      obtain ⟨c, hc⟩ : ∃ c, s[i]? = some c := ⟨s[i]'(by omega), List.getElem?_eq_getElem _⟩
      simp -implicitDefEqProofs (disch := omega) only [go_sem, reduceEqDiff, reduceAdd, reduceLeDiff, reduceLT, reduceMul, reduceEq, Int.reduceLT, reduceLE, Int.reduceAdd, reduceSub, reduceToNat, UInt8.reduceToNat, Go.IntWalk.i64_in, h0, h3, h4, hc, u64_byte]
      refine Again.mk (i + 1) (by simp -implicitDefEqProofs only [go_sem, reduceEqDiff, reduceAdd, reduceLeDiff, reduceLT, reduceMul, reduceEq, Int.reduceLT, reduceLE, Int.reduceAdd, reduceSub, reduceToNat, UInt8.reduceToNat, h0, h3, h4]; rw [fnv_succ hc]; exact ⟨rfl, rfl⟩) ⟨rfl, by omega⟩ (by omega)
    · simp only [decide_eq_false_iff_not] at h
      have e : i = s.length := by omega
      subst e
      rw [List.take_length, fnvN_eq] at h3
      have hn := fnvN_lt s
      unfold sumOf
      generalize fnvN s = n at *
      simp -implicitDefEqProofs only [go_sem, reduceEqDiff, reduceAdd, reduceLeDiff, reduceLT, reduceMul, reduceEq, Int.reduceLT, reduceLE, Int.reduceAdd, reduceSub, reduceToNat, UInt8.reduceToNat, h0, h3, h4]
      with_reducible refine makeSlice_ms (e := tiU8) ?_ ?_ ?_ ?_ ?_ ?_
      · simp -implicitDefEqProofs only [go_sem, reduceEqDiff, reduceAdd, reduceLeDiff, reduceLT, reduceMul, reduceEq, Int.reduceLT, reduceLE, Int.reduceAdd, reduceSub, reduceToNat, UInt8.reduceToNat]
      · decide
      · omega
      · decide
      · decide
      intro id hid
      simp -implicitDefEqProofs only [go_sem, reduceEqDiff, reduceAdd, reduceLeDiff, reduceLT, reduceMul, reduceEq, Int.reduceLT, reduceLE, Int.reduceAdd, reduceSub, reduceToNat, UInt8.reduceToNat, h0, h3, h4]
      refine aloop_intro (σ := Nat) (fun i => [(0, .str s), (3, .int .u64 n), (5, .ms id 0 16 1), (22, .int .i64 16), (23, .int .i64 i)]) (fun i G => G = H.put id (.cells (fillL (.int .u8 0) (((hexPad 16 n).take i).map encB) 16)) ∧ i ≤ 16) (fun i => 16 - i) 0 ?_ ?_ ?_
      · simp -implicitDefEqProofs only [go_sem, reduceEqDiff, reduceAdd, reduceLeDiff, reduceLT, reduceMul, reduceEq, Int.reduceLT, reduceLE, Int.reduceAdd, reduceSub, reduceToNat, UInt8.reduceToNat, h0, h3]
      · refine ⟨?_, by omega⟩
        congr 1
      · intro i r G hv hI
        have h0 := hv.1
        have h3 := hv.2.1
        have h5 := hv.2.2.1
        have h22 := hv.2.2.2.1
        have h23 := hv.2.2.2.2.1
        have hG := hI.1.symm
        have hi := hI.2
        clear hv hI
        subst hG
        have hlen : (((hexPad 16 n).take i).map encB).length = i := by simp [hexPad_len]; omega
        simp -implicitDefEqProofs only [go_sem, reduceEqDiff, reduceAdd, reduceLeDiff, reduceLT, reduceMul, reduceEq, Int.reduceLT, reduceLE, Int.reduceAdd, reduceSub, reduceToNat, UInt8.reduceToNat, h0, h3, h5, h22, h23]
        refine cnd_intro (fun h => ?_) (fun h => ?_)
        · simp only [decide_eq_true_eq] at h
          have e2 := shrN n (60 - 4 * i) ((60 : Int) - 4 * i) (by omega) (by omega)
          have hlt : n / 2 ^ (60 - 4 * i) < 18446744073709551616 := Nat.lt_of_le_of_lt (Nat.div_le_self _ _) hn
          have e3 := and15 _ hlt
          have e4 := dig_get (n / 2 ^ (60 - 4 * i) % 16) (Nat.mod_lt _ (by omega))
          simp -implicitDefEqProofs (disch := omega) only [go_sem, reduceEqDiff, reduceAdd, reduceLeDiff, reduceLT, reduceMul, reduceEq, Int.reduceLT, reduceLE, Int.reduceAdd, reduceSub, reduceToNat, UInt8.reduceToNat, Go.IntWalk.i64_in, h0, h3, h5, h22, h23, e2, e3, e4]
          refine ⟨by omega, by omega, by rw [fillL_len (by omega)]; omega, ?_⟩
          have hg := hexPad_get2 n i (by omega)
          clear e2 e3 e4 hlt
          generalize dig (n / 2 ^ (60 - 4 * i) % 16) = d at hg
          have e5 : (fillL (AV.int .u8 0) (((hexPad 16 n).take i).map encB) 16).set (i * 1) (.int .u8 (d.toNat : Int)) = fillL (.int .u8 0) (((hexPad 16 n).take (i + 1)).map encB) 16 := by
            have := fillL_set (z := AV.int .u8 0) (done := ((hexPad 16 n).take i).map encB) (n := 16) (by omega) (encB d)
            rw [hlen] at this
            rw [Nat.mul_one]
            have e6 : ((hexPad 16 n).take i).map encB ++ [encB d] = ((hexPad 16 n).take (i + 1)).map encB := by
              rw [List.take_add_one, hg, List.map_append]
              rfl
            rw [e6] at this
            exact this
          rw [e5]
          exact Again.mk (i + 1) (by simp -implicitDefEqProofs only [go_sem, reduceEqDiff, reduceAdd, reduceLeDiff, reduceLT, reduceMul, reduceEq, Int.reduceLT, reduceLE, Int.reduceAdd, reduceSub, reduceToNat, UInt8.reduceToNat, h0, h3, h5, h22, h23]; exact rfl) ⟨rfl, by omega⟩ (by omega)
        · simp only [decide_eq_false_iff_not] at h
          have e : i = 16 := by omega
          subst e
          simp -implicitDefEqProofs only [go_sem, reduceEqDiff, reduceAdd, reduceLeDiff, reduceLT, reduceMul, reduceEq, Int.reduceLT, reduceLE, Int.reduceAdd, reduceSub, reduceToNat, UInt8.reduceToNat, h0, h3, h5, h22, h23]
          have ef : fillL (AV.int .u8 0) (((hexPad 16 n).take 16).map encB) 16 = (hexPad 16 n).map encB := by
            rw [List.take_of_length_le (by rw [hexPad_len]; omega)]
            have := fillL_full (z := AV.int .u8 0) (done := (hexPad 16 n).map encB)
            rwa [List.length_map, hexPad_len] at this
          rw [ef]
          with_reducible refine conv_ms (l := hexPad 16 n) ?_ ?_ (put_same _ _ _) ?_ ?_ ?_
          · simp -implicitDefEqProofs only [go_sem, reduceEqDiff, reduceAdd, reduceLeDiff, reduceLT, reduceMul, reduceEq, Int.reduceLT, reduceLE, Int.reduceAdd, reduceSub, reduceToNat, UInt8.reduceToNat]
          · simp -implicitDefEqProofs only [go_sem, reduceEqDiff, reduceAdd, reduceLeDiff, reduceLT, reduceMul, reduceEq, Int.reduceLT, reduceLE, Int.reduceAdd, reduceSub, reduceToNat, UInt8.reduceToNat]
          · simp [hexPad_len]
          · rw [List.drop_zero, List.take_of_length_le (by simp [hexPad_len])]; rfl
          simp -implicitDefEqProofs only [go_sem, reduceEqDiff, reduceAdd, reduceLeDiff, reduceLT, reduceMul, reduceEq, Int.reduceLT, reduceLE, Int.reduceAdd, reduceSub, reduceToNat, UInt8.reduceToNat]
          exact Done.drop (fun i o ho => by rw [put_ne]; exact ho; intro e; subst e; rw [hid] at ho; cases ho) ⟨rfl, rfl⟩
/-! ### The reference's: the digits without zeros, and zeros before them -/
def puS1 : Pures := puN
theorem puS1_dyn : isDyn puS1 = isDyn puN := rfl
attribute [go_sem] puS1_dyn
theorem puS1_ok : PuOK Tryz.prog puS1 := puN_ok
end Go.Proofs
