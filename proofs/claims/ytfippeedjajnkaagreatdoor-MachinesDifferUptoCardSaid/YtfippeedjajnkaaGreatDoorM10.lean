/-
  Walks and plain laws, part 10.
-/
import Derived.Test.YtfippeedjajnkaaGreatDoorM9
/- Walks: the difference of two machines, on the reference's side. -/
namespace Go.Proofs
open Go Go.Abs
open Nat (reduceEqDiff reduceAdd reduceLeDiff reduceLT reduceMul)
open Int (reduceEq reduceLE reduceSub reduceToNat)
set_option linter.unusedSimpArgs false
set_option linter.unusedVariables false
set_option maxRecDepth 20000
theorem RW.base {H H' G : Heap} {iw i1 i2 i3 : Nat} {fs : List (List AV)} {ta : Tail} {lf : List FileV} {ls : List SetV} {lv : List SvcV} (h : RW H' G iw i1 i2 i3 fs ta lf ls lv) (hs : H.Sub H') : RW H G iw i1 i2 i3 fs ta lf ls lv := by
  obtain ⟨a, b, c, d, e, f, g, h1, h2, h3⟩ := h
  exact ⟨fun i o hi => a _ _ (hs _ _ hi), sub_none hs b, sub_none hs c, sub_none hs d, sub_none hs e, f, g, h1, h2, h3⟩
theorem RW.kept {H G G' : Heap} {iw i1 i2 i3 : Nat} {fs : List (List AV)} {ta : Tail} {lf : List FileV} {ls : List SetV} {lv : List SvcV} (h : RW H G iw i1 i2 i3 fs ta lf ls lv) (hs : H.Sub G') (hk : Kept G G') : RW H G' iw i1 i2 i3 fs ta lf ls lv := by
  obtain ⟨a, b, c, d, e, f, g, ⟨e1, h1, k1⟩, ⟨e2, h2, k2⟩, ⟨e3, h3, k3⟩⟩ := h
  exact ⟨hs, b, c, d, e, f, hk.cells g, ⟨e1, hk.map h1, k1⟩, ⟨e2, hk.map h2, k2⟩, ⟨e3, hk.map h3, k3⟩⟩
def rdOT : OT := .seg [0] (.or (.seg [1, 2, 3, 4, 5] .done) (.seg [2, 1, 3, 4, 5] .done))
def rdO2 : OT := .seg [0, 1, 2, 3, 4, 5, 6, 7, 8, 9, 10, 11] .done
/-- Both machines of maps stand. -/
structure Two (H G : Heap) (iv v1 v2 v3 iw w1 w2 w3 : Nat) (a b : MacV) (ta tb : Tail) : Prop where
  v : RWM H G iv v1 v2 v3 ta a
  w : RWM H G iw w1 w2 w3 tb b
theorem Two.put {H G : Heap} {iv v1 v2 v3 iw w1 w2 w3 : Nat} {a b : MacV} {ta tb : Tail} (h : Two H G iv v1 v2 v3 iw w1 w2 w3 a b ta tb) {j : Nat} (hj : G j = none) (o : AObj) : Two H (G.put j o) iv v1 v2 v3 iw w1 w2 w3 a b ta tb := ⟨RW.put h.v hj o, RW.put h.w hj o⟩
theorem Two.kept {H G G' : Heap} {iv v1 v2 v3 iw w1 w2 w3 : Nat} {a b : MacV} {ta tb : Tail} (h : Two H G iv v1 v2 v3 iw w1 w2 w3 a b ta tb) (hs : H.Sub G') (hk : Kept G G') : Two H G' iv v1 v2 v3 iw w1 w2 w3 a b ta tb := ⟨RW.kept h.v hs hk, RW.kept h.w hs hk⟩
def RdQ (H : Heap) (a b : MacV) (ta tb : Tail) (r : Regs) (G : Heap) : Prop := ∃ iv v1 v2 v3 iw w1 w2 w3, Two H G iv v1 v2 v3 iw w1 w2 w3 a b ta tb ∧ r 5 = .ptr iv 0 ∧ r 6 = .ptr iw 0
def RdL (H : Heap) (iv v1 v2 v3 iw w1 w2 w3 : Nat) (a b : MacV) (ta tb : Tail) (P : List ChgV) (r : Regs) (G : Heap) : Prop := ∃ tl, AppOK H G 10 (P.map encChg) tl ∧ Two H G iv v1 v2 v3 iw w1 w2 w3 a b ta tb ∧ r 5 = .ptr iv 0 ∧ r 6 = .ptr iw 0 ∧ r 7 = .sl (P.map encChg) tl
theorem filt_yes {α : Type} {p : α → Bool} {l : List α} {i : Nat} {x : α} (hx : l[i]? = some x) (hp : p x = true) : (l.take (i + 1)).filter p = (l.take i).filter p ++ [x] := by
  rw [List.take_add_one, hx, List.filter_append]
  simp [hp]
theorem filt_no {α : Type} {p : α → Bool} {l : List α} {i : Nat} {x : α} (hx : l[i]? = some x) (hp : p x = false) : (l.take (i + 1)).filter p = (l.take i).filter p := by
  rw [List.take_add_one, hx, List.filter_append]
  simp [hp]
theorem filt_len {α : Type} (p : α → Bool) (l : List α) (i : Nat) : ((l.take i).filter p).length ≤ l.length := Nat.le_trans (List.length_filter_le _ _) (by rw [List.length_take]; omega)
set_option maxHeartbeats 25600000 in
theorem rDiff_calls (a b : MacV) (ta tb tc td ua ub uc ud : Tail) (H : Heap) (hA : MacOK a) (hB : MacOK b) :
    ACalls Tryz.prog 8 [.agg (encMac a ta tb tc td), .agg (encMac b ua ub uc ud)] H fun x H' => x = .sl ((diffV a b).map encChg) .unk ∧ H' = H := by
  have hS := Heap.Sub.rfl' H
  have qa2 := hA.l2; have qa3 := hA.l3; have qa4 := hA.l4
  have qb2 := hB.l2; have qb3 := hB.l3; have qb4 := hB.l4
  have n1 := filt_len (fun x : FileV => (getK (·.path) x.path b.files).isNone) a.files
  have n2 := filt_len (fun x : SetV => (getK (·.key) x.key b.sets).isNone) a.sets
  have n3 := filt_len (fun x : SvcV => (getK (·.name) x.name b.svcs).isNone) a.svcs
  have n4 := filt_len (fun x : FileV => decide (getK (·.path) x.path a.files ≠ some x)) b.files
  have n5 := filt_len (fun x : SetV => decide (getK (·.key) x.key a.sets ≠ some x)) b.sets
  have n6 := filt_len (fun x : SvcV => decide (getK (·.name) x.name a.svcs ≠ some x)) b.svcs
  have m1 := n1 a.files.length
  have m2 := n2 a.sets.length
  have m3 := n3 a.svcs.length
  have m4 := n4 b.files.length
  have m5 := n5 b.sets.length
  have m6 := n6 b.svcs.length
  rw [List.take_length] at m1 m2 m3 m4 m5 m6
  refine ACalls.of_code (X := { pure := pu0, tree := fun n => if n = 1 then some rdOT else if n = 28 then some rdO2 else if n = 42 then some rdO2 else none }) pu0_ok Tryz.func8 (by kernel_rfl) rfl (by kernel_rfl) (Nat.le_of_ble_eq_true rfl) ?_
  simp -implicitDefEqProofs only [go_sem, reduceEqDiff, reduceAdd, reduceLeDiff, reduceLT, reduceMul, reduceEq, Int.reduceLT, reduceLE, Int.reduceAdd, reduceSub, reduceToNat, UInt8.reduceToNat, Tryz.f8, encMac]
  with_reducible refine nwC_intro fun ia hia => ?_
  generalize Ea : Heap.put H ia _ = G1
  have hO_a := obj_new Ea hia hS
  have na := hO_a.1
  have hS := hO_a.2.1
  have ga := hO_a.2.2.1
  clear hO_a
  simp -implicitDefEqProofs only [go_sem, reduceEqDiff, reduceAdd, reduceLeDiff, reduceLT, reduceMul, reduceEq, Int.reduceLT, reduceLE, Int.reduceAdd, reduceSub, reduceToNat, UInt8.reduceToNat]
  with_reducible refine nwC_intro fun jb hjb => ?_
  generalize Eb : Heap.put G1 jb _ = G2
  have hO_b := obj_new Eb hjb hS
  have nb := hO_b.1
  have hS := hO_b.2.1
  have gb := hO_b.2.2.1
  have da_b := obj_ne ga hjb
  have ga := hO_b.2.2.2 _ _ ga
  clear hO_b
  simp -implicitDefEqProofs only [go_sem, reduceEqDiff, reduceAdd, reduceLeDiff, reduceLT, reduceMul, reduceEq, Int.reduceLT, reduceLE, Int.reduceAdd, reduceSub, reduceToNat, UInt8.reduceToNat]
  have cv := fun G => worldOf_calls a ta tb tc td G hA.R hA.a2 hA.a3 hA.a4
  have cw := fun G => worldOf_calls b ua ub uc ud G hB.R hB.a2 hB.a3 hB.a4
  unfold encMac at cv cw
  with_reducible refine acode_mid (RdQ G2 a b ta ua) ?_ ?_
  rotate_left
  · rw [acode_tree (t := rdOT) rfl (by rfl)]
    simp -implicitDefEqProofs only [go_sem, reduceEqDiff, reduceAdd, reduceLeDiff, reduceLT, reduceMul, reduceEq, Int.reduceLT, reduceLE, Int.reduceAdd, reduceSub, reduceToNat, UInt8.reduceToNat, rdOT, stripO, ga, gb]
    refine ⟨?_, ?_⟩
    · refine (cv G2).mono ?_
      rintro x G3 ⟨iv, v1, v2, v3, rfl, hV⟩
      have gb3 := hV.sub _ _ gb
      simp -implicitDefEqProofs only [go_sem, reduceEqDiff, reduceAdd, reduceLeDiff, reduceLT, reduceMul, reduceEq, Int.reduceLT, reduceLE, Int.reduceAdd, reduceSub, reduceToNat, UInt8.reduceToNat, gb3]
      refine (cw G3).mono ?_
      rintro x G4 ⟨iw, w1, w2, w3, rfl, hW⟩
      simp -implicitDefEqProofs only [go_sem, reduceEqDiff, reduceAdd, reduceLeDiff, reduceLT, reduceMul, reduceEq, Int.reduceLT, reduceLE, Int.reduceAdd, reduceSub, reduceToNat, UInt8.reduceToNat]
      exact ⟨iv, v1, v2, v3, iw, w1, w2, w3, ⟨RW.mono hV hW.sub, RW.base hW hV.sub⟩, by simp -implicitDefEqProofs only [go_sem, reduceEqDiff, reduceAdd, reduceLeDiff, reduceLT, reduceMul, reduceEq, Int.reduceLT, reduceLE, Int.reduceAdd, reduceSub, reduceToNat, UInt8.reduceToNat], by simp -implicitDefEqProofs only [go_sem, reduceEqDiff, reduceAdd, reduceLeDiff, reduceLT, reduceMul, reduceEq, Int.reduceLT, reduceLE, Int.reduceAdd, reduceSub, reduceToNat, UInt8.reduceToNat]⟩
    · refine (cv G2).mono ?_
      rintro x G3 ⟨iv, v1, v2, v3, rfl, hV⟩
      simp -implicitDefEqProofs only [go_sem, reduceEqDiff, reduceAdd, reduceLeDiff, reduceLT, reduceMul, reduceEq, Int.reduceLT, reduceLE, Int.reduceAdd, reduceSub, reduceToNat, UInt8.reduceToNat]
      refine (cw G3).mono ?_
      rintro x G4 ⟨iw, w1, w2, w3, rfl, hW⟩
      simp -implicitDefEqProofs only [go_sem, reduceEqDiff, reduceAdd, reduceLeDiff, reduceLT, reduceMul, reduceEq, Int.reduceLT, reduceLE, Int.reduceAdd, reduceSub, reduceToNat, UInt8.reduceToNat]
      exact ⟨iv, v1, v2, v3, iw, w1, w2, w3, ⟨RW.mono hV hW.sub, RW.base hW hV.sub⟩, by simp -implicitDefEqProofs only [go_sem, reduceEqDiff, reduceAdd, reduceLeDiff, reduceLT, reduceMul, reduceEq, Int.reduceLT, reduceLE, Int.reduceAdd, reduceSub, reduceToNat, UInt8.reduceToNat], by simp -implicitDefEqProofs only [go_sem, reduceEqDiff, reduceAdd, reduceLeDiff, reduceLT, reduceMul, reduceEq, Int.reduceLT, reduceLE, Int.reduceAdd, reduceSub, reduceToNat, UInt8.reduceToNat]⟩
  rintro r G ⟨iv, v1, v2, v3, iw, w1, w2, w3, hT, e5, e6⟩
  clear cv cw Ea Eb ga gb
  have hO : AppOK G2 G 10 (([] : List ChgV).map encChg) .exact := AppOK.nil hT.v.sub
  have kv := hT.v.w
  have kw := hT.w.w
  simp -implicitDefEqProofs only [go_sem, reduceEqDiff, reduceAdd, reduceLeDiff, reduceLT, reduceMul, reduceEq, Int.reduceLT, reduceLE, Int.reduceAdd, reduceSub, reduceToNat, UInt8.reduceToNat, e5, e6, kv, kw]
  obtain ⟨es0, g0, u0⟩ := hT.v.f
  refine (keysFile_calls _ es0 G g0 (by obtain ⟨-, xs, rfl, -⟩ := u0; intro e he; obtain ⟨x, -, rfl⟩ := List.mem_map.1 he; exact ⟨_, rfl⟩) (by rw [u0.len]; omega)).mono ?_
  rintro x G9 ⟨ss, hp, rfl, rfl⟩
  rw [u0.sorted hp]
  clear hp g0 u0 ss kv kw
  simp -implicitDefEqProofs only [go_sem, reduceEqDiff, reduceAdd, reduceLeDiff, reduceLT, reduceMul, reduceEq, Int.reduceLT, reduceLE, Int.reduceAdd, reduceSub, reduceToNat, UInt8.reduceToNat]
  with_reducible refine aloop_cut 0 (RdL G2 iv v1 v2 v3 iw w1 w2 w3 a b ta ua ((a.files.filter (fun x : FileV => (getK (·.path) x.path b.files).isNone)).map rmF)) ?_ ?_
  rotate_left
  · refine aloop_intro (σ := Nat × Tail) (fun s => [(5, .ptr iv 0), (6, .ptr iw 0), (7, .sl ((((a.files.take s.1).filter (fun x : FileV => (getK (·.path) x.path b.files).isNone)).map rmF).map encChg) s.2), (40, .sl ((a.files.map (·.path)).map fun s => [AV.str s]) .unk), (41, .int .i64 a.files.length), (42, .int .i64 s.1)])
      (fun s G => s.1 ≤ a.files.length ∧ AppOK G2 G 10 ((((a.files.take s.1).filter (fun x : FileV => (getK (·.path) x.path b.files).isNone)).map rmF).map encChg) s.2 ∧ Two G2 G iv v1 v2 v3 iw w1 w2 w3 a b ta ua) (fun s => a.files.length - s.1) (0, .exact) ?_ ?_ ?_
    · simp -implicitDefEqProofs only [go_sem, reduceEqDiff, reduceAdd, reduceLeDiff, reduceLT, reduceMul, reduceEq, Int.reduceLT, reduceLE, Int.reduceAdd, reduceSub, reduceToNat, UInt8.reduceToNat, e5, e6, List.length_map, List.take_zero, List.filter_nil, List.map_nil, List.append_nil]
    · exact ⟨Nat.zero_le _, by simpa using hO, hT⟩
    clear hO hT e5 e6
    rintro ⟨i, tl⟩ r G hv ⟨hi, hO, hT⟩
    simp only at hi hO
    have e5 := hv.1
    have e6 := hv.2.1
    have e7 := hv.2.2.1
    have ea := hv.2.2.2.1
    have eb := hv.2.2.2.2.1
    have ec := hv.2.2.2.2.2.1
    simp only at e7 ec
    clear hv
    by_cases g : i < a.files.length
    rotate_left
    · have y0 : decide ((i : Int) < a.files.length) = false := decide_eq_false (by omega)
      obtain rfl : i = a.files.length := by omega
      rw [List.take_length] at hO e7
      simp -implicitDefEqProofs only [go_sem, reduceEqDiff, reduceAdd, reduceLeDiff, reduceLT, reduceMul, reduceEq, Int.reduceLT, reduceLE, Int.reduceAdd, reduceSub, reduceToNat, UInt8.reduceToNat, e5, e6, e7, ea, eb, ec, y0]
      exact ⟨tl, hO, hT, by simp -implicitDefEqProofs only [go_sem, reduceEqDiff, reduceAdd, reduceLeDiff, reduceLT, reduceMul, reduceEq, Int.reduceLT, reduceLE, Int.reduceAdd, reduceSub, reduceToNat, UInt8.reduceToNat, e5], by simp -implicitDefEqProofs only [go_sem, reduceEqDiff, reduceAdd, reduceLeDiff, reduceLT, reduceMul, reduceEq, Int.reduceLT, reduceLE, Int.reduceAdd, reduceSub, reduceToNat, UInt8.reduceToNat, e6], by simp -implicitDefEqProofs only [go_sem, reduceEqDiff, reduceAdd, reduceLeDiff, reduceLT, reduceMul, reduceEq, Int.reduceLT, reduceLE, Int.reduceAdd, reduceSub, reduceToNat, UInt8.reduceToNat, e7]⟩
    have y0 : decide ((i : Int) < a.files.length) = true := decide_eq_true (by omega)
    obtain ⟨x, hx⟩ : ∃ x, a.files[i]? = some x := getD_get' g
    have ws : IntKind.i64.wrap ((i : Int) + 1) = ((i + 1 : Nat) : Int) := by rw [Go.IntWalk.i64_in _ (by omega)]; omega
    have hU : ∀ x ∈ a.files.map (·.path), ([AV.str x] : List AV).length = 1 := fun _ _ => rfl
    have hx2 : (a.files.map (·.path))[i]? = some x.path := by rw [List.getElem?_map, hx]; rfl
    have hlen : (((a.files.take i).filter (fun x : FileV => (getK (·.path) x.path b.files).isNone)).map rmF).length ≤ 100000 := by
      have := n1 i
      simp only [List.length_append, List.length_map]
      omega
    have kv := hT.v.w
    have kw := hT.w.w
    obtain ⟨es, k1, u1⟩ := hT.w.f
    have hg := u1.get x.path
    have no : ∀ G', AppOK G2 G' 10 ((((a.files.take i).filter (fun x : FileV => (getK (·.path) x.path b.files).isNone)).map rmF).map encChg) tl → (fun x : FileV => (getK (·.path) x.path b.files).isNone) x = false → AppOK G2 G' 10 ((((a.files.take (i + 1)).filter (fun x : FileV => (getK (·.path) x.path b.files).isNone)).map rmF).map encChg) tl := fun G' h hp => by rw [filt_no hx hp]; exact h
    have noE : (fun x : FileV => (getK (·.path) x.path b.files).isNone) x = false → (((a.files.take (i + 1)).filter (fun x : FileV => (getK (·.path) x.path b.files).isNone)).map rmF).map encChg = (((a.files.take i).filter (fun x : FileV => (getK (·.path) x.path b.files).isNone)).map rmF).map encChg := fun hp => by rw [filt_no hx hp]
    have yes : (fun x : FileV => (getK (·.path) x.path b.files).isNone) x = true → (((a.files.take i).filter (fun x : FileV => (getK (·.path) x.path b.files).isNone)).map rmF).map encChg ++ [encChg (rmF x)] = (((a.files.take (i + 1)).filter (fun x : FileV => (getK (·.path) x.path b.files).isNone)).map rmF).map encChg := fun hp => by rw [filt_yes hx hp]; simp
    cases ho : getK (·.path) x.path b.files with
    | none =>
      rw [ho] at hg
      simp only [Option.map_none] at hg
      have yes := yes (by simp [ho])
      simp only [encChg, rmF, FileV.zero, SetV.zero, SvcV.zero] at yes
      simp -implicitDefEqProofs only [go_sem, reduceEqDiff, reduceAdd, reduceLeDiff, reduceLT, reduceMul, reduceEq, Int.reduceLT, reduceLE, Int.reduceAdd, reduceSub, reduceToNat, UInt8.reduceToNat, e5, e6, e7, ea, eb, ec, y0, hx2, hU, kv, kw, k1, hg]
      with_reducible refine nwC_intro fun i5 hi5 => ?_
      replace hO := hO.put hi5 (.cells [.str [], .str [], .bool false])
      replace hT := hT.put hi5 (.cells [.str [], .str [], .bool false])
      try simp -implicitDefEqProofs only [go_sem, reduceEqDiff, reduceAdd, reduceLeDiff, reduceLT, reduceMul, reduceEq, Int.reduceLT, reduceLE, Int.reduceAdd, reduceSub, reduceToNat, UInt8.reduceToNat]
      generalize G.put i5 (.cells [.str [], .str [], .bool false]) = G6 at *
      try simp -implicitDefEqProofs only [go_sem, reduceEqDiff, reduceAdd, reduceLeDiff, reduceLT, reduceMul, reduceEq, Int.reduceLT, reduceLE, Int.reduceAdd, reduceSub, reduceToNat, UInt8.reduceToNat, e5, e6, e7, ea, eb, ec]
      refine AppOK.step hO (fun z hz => by obtain ⟨q, -, rfl⟩ := List.mem_map.1 hz; rfl) (by simp) (by rw [List.length_map]; simp at hlen ⊢; omega) (by rw [List.length_map]; simp at hlen ⊢; omega) fun tl' G' hO' hK => ?_
      rw [yes] at hO' ⊢
      simp -implicitDefEqProofs only [go_sem, reduceEqDiff, reduceAdd, reduceLeDiff, reduceLT, reduceMul, reduceEq, Int.reduceLT, reduceLE, Int.reduceAdd, reduceSub, reduceToNat, UInt8.reduceToNat, e5, e6, e7, ea, eb, ec, ws]
      exact Again.mk (i + 1, tl') (by simp -implicitDefEqProofs only [go_sem, reduceEqDiff, reduceAdd, reduceLeDiff, reduceLT, reduceMul, reduceEq, Int.reduceLT, reduceLE, Int.reduceAdd, reduceSub, reduceToNat, UInt8.reduceToNat, e5, e6, e7, ea, eb, ec]) ⟨by simp only; omega, hO', hT.kept hO'.sub hK⟩ (by simp only; omega)
    | some y =>
      rw [ho] at hg
      simp only [Option.map_some] at hg
      have hyk := getK_key ho
      try simp only at hyk
      have hpf : (fun x : FileV => (getK (·.path) x.path b.files).isNone) x = false := by simp [ho]
      have noE := noE hpf
      rw [encFile] at hg
      simp -implicitDefEqProofs only [go_sem, reduceEqDiff, reduceAdd, reduceLeDiff, reduceLT, reduceMul, reduceEq, Int.reduceLT, reduceLE, Int.reduceAdd, reduceSub, reduceToNat, UInt8.reduceToNat, e5, e6, e7, ea, eb, ec, y0, hx2, hU, kv, kw, k1, hg, ws]
      with_reducible refine nwC_intro fun i5 hi5 => ?_
      replace hO := hO.put hi5 (.cells (encFile y))
      replace hT := hT.put hi5 (.cells (encFile y))
      rw [encFile] at hO hT
      try simp -implicitDefEqProofs only [go_sem, reduceEqDiff, reduceAdd, reduceLeDiff, reduceLT, reduceMul, reduceEq, Int.reduceLT, reduceLE, Int.reduceAdd, reduceSub, reduceToNat, UInt8.reduceToNat, ws]
      generalize G.put i5 _ = G6 at *
      try simp -implicitDefEqProofs only [go_sem, reduceEqDiff, reduceAdd, reduceLeDiff, reduceLT, reduceMul, reduceEq, Int.reduceLT, reduceLE, Int.reduceAdd, reduceSub, reduceToNat, UInt8.reduceToNat, e5, e6, e7, ea, eb, ec, ws]
      exact Again.mk (i + 1, tl) (by simp -implicitDefEqProofs only [go_sem, reduceEqDiff, reduceAdd, reduceLeDiff, reduceLT, reduceMul, reduceEq, Int.reduceLT, reduceLE, Int.reduceAdd, reduceSub, reduceToNat, UInt8.reduceToNat, e5, e6, e7, ea, eb, ec, noE]) ⟨by simp only; omega, no _ hO hpf, hT⟩ (by simp only; omega)
  clear hO hT e5 e6
  rintro r G ⟨tl, hO, hT, e5, e6, e7⟩
  have kv := hT.v.w
  have kw := hT.w.w
  simp -implicitDefEqProofs only [go_sem, reduceEqDiff, reduceAdd, reduceLeDiff, reduceLT, reduceMul, reduceEq, Int.reduceLT, reduceLE, Int.reduceAdd, reduceSub, reduceToNat, UInt8.reduceToNat, e5, e6, e7, kv, kw]
  obtain ⟨es1, g1, u1⟩ := hT.v.s
  refine (keysStr_calls _ es1 G g1 (by obtain ⟨-, xs, rfl, -⟩ := u1; intro e he; obtain ⟨x, -, rfl⟩ := List.mem_map.1 he; exact ⟨_, rfl⟩) (by rw [u1.len]; omega)).mono ?_
  rintro x G9 ⟨ss, hp, rfl, rfl⟩
  rw [u1.sorted hp]
  clear hp g1 u1 ss kv kw
  simp -implicitDefEqProofs only [go_sem, reduceEqDiff, reduceAdd, reduceLeDiff, reduceLT, reduceMul, reduceEq, Int.reduceLT, reduceLE, Int.reduceAdd, reduceSub, reduceToNat, UInt8.reduceToNat]
  with_reducible refine aloop_cut 2 (RdL G2 iv v1 v2 v3 iw w1 w2 w3 a b ta ua ((a.files.filter (fun x : FileV => (getK (·.path) x.path b.files).isNone)).map rmF ++ (a.sets.filter (fun x : SetV => (getK (·.key) x.key b.sets).isNone)).map rmS)) ?_ ?_
  rotate_left
  · refine aloop_intro (σ := Nat × Tail) (fun s => [(5, .ptr iv 0), (6, .ptr iw 0), (7, .sl ((((a.files.filter (fun x : FileV => (getK (·.path) x.path b.files).isNone)).map rmF) ++ ((a.sets.take s.1).filter (fun x : SetV => (getK (·.key) x.key b.sets).isNone)).map rmS).map encChg) s.2), (68, .sl ((a.sets.map (·.key)).map fun s => [AV.str s]) .unk), (69, .int .i64 a.sets.length), (70, .int .i64 s.1)])
      (fun s G => s.1 ≤ a.sets.length ∧ AppOK G2 G 10 ((((a.files.filter (fun x : FileV => (getK (·.path) x.path b.files).isNone)).map rmF) ++ ((a.sets.take s.1).filter (fun x : SetV => (getK (·.key) x.key b.sets).isNone)).map rmS).map encChg) s.2 ∧ Two G2 G iv v1 v2 v3 iw w1 w2 w3 a b ta ua) (fun s => a.sets.length - s.1) (0, tl) ?_ ?_ ?_
    · simp -implicitDefEqProofs only [go_sem, reduceEqDiff, reduceAdd, reduceLeDiff, reduceLT, reduceMul, reduceEq, Int.reduceLT, reduceLE, Int.reduceAdd, reduceSub, reduceToNat, UInt8.reduceToNat, e5, e6, e7, List.length_map, List.take_zero, List.filter_nil, List.map_nil, List.append_nil]
    · exact ⟨Nat.zero_le _, by simpa using hO, hT⟩
    clear hO hT e5 e6 e7
    rintro ⟨i, tl⟩ r G hv ⟨hi, hO, hT⟩
    simp only at hi hO
    have e5 := hv.1
    have e6 := hv.2.1
    have e7 := hv.2.2.1
    have ea := hv.2.2.2.1
    have eb := hv.2.2.2.2.1
    have ec := hv.2.2.2.2.2.1
    simp only at e7 ec
    clear hv
    by_cases g : i < a.sets.length
    rotate_left
    · have y0 : decide ((i : Int) < a.sets.length) = false := decide_eq_false (by omega)
      obtain rfl : i = a.sets.length := by omega
      rw [List.take_length] at hO e7
      simp -implicitDefEqProofs only [go_sem, reduceEqDiff, reduceAdd, reduceLeDiff, reduceLT, reduceMul, reduceEq, Int.reduceLT, reduceLE, Int.reduceAdd, reduceSub, reduceToNat, UInt8.reduceToNat, e5, e6, e7, ea, eb, ec, y0]
      exact ⟨tl, hO, hT, by simp -implicitDefEqProofs only [go_sem, reduceEqDiff, reduceAdd, reduceLeDiff, reduceLT, reduceMul, reduceEq, Int.reduceLT, reduceLE, Int.reduceAdd, reduceSub, reduceToNat, UInt8.reduceToNat, e5], by simp -implicitDefEqProofs only [go_sem, reduceEqDiff, reduceAdd, reduceLeDiff, reduceLT, reduceMul, reduceEq, Int.reduceLT, reduceLE, Int.reduceAdd, reduceSub, reduceToNat, UInt8.reduceToNat, e6], by simp -implicitDefEqProofs only [go_sem, reduceEqDiff, reduceAdd, reduceLeDiff, reduceLT, reduceMul, reduceEq, Int.reduceLT, reduceLE, Int.reduceAdd, reduceSub, reduceToNat, UInt8.reduceToNat, e7]⟩
    have y0 : decide ((i : Int) < a.sets.length) = true := decide_eq_true (by omega)
    obtain ⟨x, hx⟩ : ∃ x, a.sets[i]? = some x := getD_get' g
    have ws : IntKind.i64.wrap ((i : Int) + 1) = ((i + 1 : Nat) : Int) := by rw [Go.IntWalk.i64_in _ (by omega)]; omega
    have hU : ∀ x ∈ a.sets.map (·.key), ([AV.str x] : List AV).length = 1 := fun _ _ => rfl
    have hx2 : (a.sets.map (·.key))[i]? = some x.key := by rw [List.getElem?_map, hx]; rfl
    have hlen : (((a.files.filter (fun x : FileV => (getK (·.path) x.path b.files).isNone)).map rmF) ++ ((a.sets.take i).filter (fun x : SetV => (getK (·.key) x.key b.sets).isNone)).map rmS).length ≤ 100000 := by
      have := n2 i
      simp only [List.length_append, List.length_map]
      omega
    have kv := hT.v.w
    have kw := hT.w.w
    obtain ⟨es, k1, u1⟩ := hT.w.s
    have hg := u1.get x.key
    have no : ∀ G', AppOK G2 G' 10 ((((a.files.filter (fun x : FileV => (getK (·.path) x.path b.files).isNone)).map rmF) ++ ((a.sets.take i).filter (fun x : SetV => (getK (·.key) x.key b.sets).isNone)).map rmS).map encChg) tl → (fun x : SetV => (getK (·.key) x.key b.sets).isNone) x = false → AppOK G2 G' 10 ((((a.files.filter (fun x : FileV => (getK (·.path) x.path b.files).isNone)).map rmF) ++ ((a.sets.take (i + 1)).filter (fun x : SetV => (getK (·.key) x.key b.sets).isNone)).map rmS).map encChg) tl := fun G' h hp => by rw [filt_no hx hp]; exact h
    have noE : (fun x : SetV => (getK (·.key) x.key b.sets).isNone) x = false → (((a.files.filter (fun x : FileV => (getK (·.path) x.path b.files).isNone)).map rmF) ++ ((a.sets.take (i + 1)).filter (fun x : SetV => (getK (·.key) x.key b.sets).isNone)).map rmS).map encChg = (((a.files.filter (fun x : FileV => (getK (·.path) x.path b.files).isNone)).map rmF) ++ ((a.sets.take i).filter (fun x : SetV => (getK (·.key) x.key b.sets).isNone)).map rmS).map encChg := fun hp => by rw [filt_no hx hp]
    have yes : (fun x : SetV => (getK (·.key) x.key b.sets).isNone) x = true → (((a.files.filter (fun x : FileV => (getK (·.path) x.path b.files).isNone)).map rmF) ++ ((a.sets.take i).filter (fun x : SetV => (getK (·.key) x.key b.sets).isNone)).map rmS).map encChg ++ [encChg (rmS x)] = (((a.files.filter (fun x : FileV => (getK (·.path) x.path b.files).isNone)).map rmF) ++ ((a.sets.take (i + 1)).filter (fun x : SetV => (getK (·.key) x.key b.sets).isNone)).map rmS).map encChg := fun hp => by rw [filt_yes hx hp]; simp
    cases ho : getK (·.key) x.key b.sets with
    | none =>
      rw [ho] at hg
      simp only [Option.map_none] at hg
      have yes := yes (by simp [ho])
      simp only [encChg, rmS, FileV.zero, SetV.zero, SvcV.zero] at yes
      simp -implicitDefEqProofs only [go_sem, reduceEqDiff, reduceAdd, reduceLeDiff, reduceLT, reduceMul, reduceEq, Int.reduceLT, reduceLE, Int.reduceAdd, reduceSub, reduceToNat, UInt8.reduceToNat, e5, e6, e7, ea, eb, ec, y0, hx2, hU, kv, kw, k1, hg]
      refine AppOK.step hO (fun z hz => by obtain ⟨q, -, rfl⟩ := List.mem_map.1 hz; rfl) (by simp) (by rw [List.length_map]; simp at hlen ⊢; omega) (by rw [List.length_map]; simp at hlen ⊢; omega) fun tl' G' hO' hK => ?_
      rw [yes] at hO' ⊢
      simp -implicitDefEqProofs only [go_sem, reduceEqDiff, reduceAdd, reduceLeDiff, reduceLT, reduceMul, reduceEq, Int.reduceLT, reduceLE, Int.reduceAdd, reduceSub, reduceToNat, UInt8.reduceToNat, e5, e6, e7, ea, eb, ec, ws]
      exact Again.mk (i + 1, tl') (by simp -implicitDefEqProofs only [go_sem, reduceEqDiff, reduceAdd, reduceLeDiff, reduceLT, reduceMul, reduceEq, Int.reduceLT, reduceLE, Int.reduceAdd, reduceSub, reduceToNat, UInt8.reduceToNat, e5, e6, e7, ea, eb, ec]) ⟨by simp only; omega, hO', hT.kept hO'.sub hK⟩ (by simp only; omega)
    | some y =>
      rw [ho] at hg
      simp only [Option.map_some] at hg
      have hyk := getK_key ho
      try simp only at hyk
      have hpf : (fun x : SetV => (getK (·.key) x.key b.sets).isNone) x = false := by simp [ho]
      have noE := noE hpf
      simp -implicitDefEqProofs only [go_sem, reduceEqDiff, reduceAdd, reduceLeDiff, reduceLT, reduceMul, reduceEq, Int.reduceLT, reduceLE, Int.reduceAdd, reduceSub, reduceToNat, UInt8.reduceToNat, e5, e6, e7, ea, eb, ec, y0, hx2, hU, kv, kw, k1, hg, ws]
      exact Again.mk (i + 1, tl) (by simp -implicitDefEqProofs only [go_sem, reduceEqDiff, reduceAdd, reduceLeDiff, reduceLT, reduceMul, reduceEq, Int.reduceLT, reduceLE, Int.reduceAdd, reduceSub, reduceToNat, UInt8.reduceToNat, e5, e6, e7, ea, eb, ec, noE]) ⟨by simp only; omega, no _ hO hpf, hT⟩ (by simp only; omega)
  clear hO hT e5 e6 e7
  rintro r G ⟨tl, hO, hT, e5, e6, e7⟩
  have kv := hT.v.w
  have kw := hT.w.w
  simp -implicitDefEqProofs only [go_sem, reduceEqDiff, reduceAdd, reduceLeDiff, reduceLT, reduceMul, reduceEq, Int.reduceLT, reduceLE, Int.reduceAdd, reduceSub, reduceToNat, UInt8.reduceToNat, e5, e6, e7, kv, kw]
  obtain ⟨es2, g2, u2⟩ := hT.v.v
  refine (keysSvc_calls _ es2 G g2 (by obtain ⟨-, xs, rfl, -⟩ := u2; intro e he; obtain ⟨x, -, rfl⟩ := List.mem_map.1 he; exact ⟨_, rfl⟩) (by rw [u2.len]; omega)).mono ?_
  rintro x G9 ⟨ss, hp, rfl, rfl⟩
  rw [u2.sorted hp]
  clear hp g2 u2 ss kv kw
  simp -implicitDefEqProofs only [go_sem, reduceEqDiff, reduceAdd, reduceLeDiff, reduceLT, reduceMul, reduceEq, Int.reduceLT, reduceLE, Int.reduceAdd, reduceSub, reduceToNat, UInt8.reduceToNat]
  with_reducible refine aloop_cut 4 (RdL G2 iv v1 v2 v3 iw w1 w2 w3 a b ta ua ((a.files.filter (fun x : FileV => (getK (·.path) x.path b.files).isNone)).map rmF ++ (a.sets.filter (fun x : SetV => (getK (·.key) x.key b.sets).isNone)).map rmS ++ (a.svcs.filter (fun x : SvcV => (getK (·.name) x.name b.svcs).isNone)).map rmV)) ?_ ?_
  rotate_left
  · refine aloop_intro (σ := Nat × Tail) (fun s => [(5, .ptr iv 0), (6, .ptr iw 0), (7, .sl ((((a.files.filter (fun x : FileV => (getK (·.path) x.path b.files).isNone)).map rmF ++ (a.sets.filter (fun x : SetV => (getK (·.key) x.key b.sets).isNone)).map rmS) ++ ((a.svcs.take s.1).filter (fun x : SvcV => (getK (·.name) x.name b.svcs).isNone)).map rmV).map encChg) s.2), (96, .sl ((a.svcs.map (·.name)).map fun s => [AV.str s]) .unk), (97, .int .i64 a.svcs.length), (98, .int .i64 s.1)])
      (fun s G => s.1 ≤ a.svcs.length ∧ AppOK G2 G 10 ((((a.files.filter (fun x : FileV => (getK (·.path) x.path b.files).isNone)).map rmF ++ (a.sets.filter (fun x : SetV => (getK (·.key) x.key b.sets).isNone)).map rmS) ++ ((a.svcs.take s.1).filter (fun x : SvcV => (getK (·.name) x.name b.svcs).isNone)).map rmV).map encChg) s.2 ∧ Two G2 G iv v1 v2 v3 iw w1 w2 w3 a b ta ua) (fun s => a.svcs.length - s.1) (0, tl) ?_ ?_ ?_
    · simp -implicitDefEqProofs only [go_sem, reduceEqDiff, reduceAdd, reduceLeDiff, reduceLT, reduceMul, reduceEq, Int.reduceLT, reduceLE, Int.reduceAdd, reduceSub, reduceToNat, UInt8.reduceToNat, e5, e6, e7, List.length_map, List.take_zero, List.filter_nil, List.map_nil, List.append_nil]
    · exact ⟨Nat.zero_le _, by simpa using hO, hT⟩
    clear hO hT e5 e6 e7
    rintro ⟨i, tl⟩ r G hv ⟨hi, hO, hT⟩
    simp only at hi hO
    have e5 := hv.1
    have e6 := hv.2.1
    have e7 := hv.2.2.1
    have ea := hv.2.2.2.1
    have eb := hv.2.2.2.2.1
    have ec := hv.2.2.2.2.2.1
    simp only at e7 ec
    clear hv
    by_cases g : i < a.svcs.length
    rotate_left
    · have y0 : decide ((i : Int) < a.svcs.length) = false := decide_eq_false (by omega)
      obtain rfl : i = a.svcs.length := by omega
      rw [List.take_length] at hO e7
      simp -implicitDefEqProofs only [go_sem, reduceEqDiff, reduceAdd, reduceLeDiff, reduceLT, reduceMul, reduceEq, Int.reduceLT, reduceLE, Int.reduceAdd, reduceSub, reduceToNat, UInt8.reduceToNat, e5, e6, e7, ea, eb, ec, y0]
      exact ⟨tl, hO, hT, by simp -implicitDefEqProofs only [go_sem, reduceEqDiff, reduceAdd, reduceLeDiff, reduceLT, reduceMul, reduceEq, Int.reduceLT, reduceLE, Int.reduceAdd, reduceSub, reduceToNat, UInt8.reduceToNat, e5], by simp -implicitDefEqProofs only [go_sem, reduceEqDiff, reduceAdd, reduceLeDiff, reduceLT, reduceMul, reduceEq, Int.reduceLT, reduceLE, Int.reduceAdd, reduceSub, reduceToNat, UInt8.reduceToNat, e6], by simp -implicitDefEqProofs only [go_sem, reduceEqDiff, reduceAdd, reduceLeDiff, reduceLT, reduceMul, reduceEq, Int.reduceLT, reduceLE, Int.reduceAdd, reduceSub, reduceToNat, UInt8.reduceToNat, e7]⟩
    have y0 : decide ((i : Int) < a.svcs.length) = true := decide_eq_true (by omega)
    obtain ⟨x, hx⟩ : ∃ x, a.svcs[i]? = some x := getD_get' g
    have ws : IntKind.i64.wrap ((i : Int) + 1) = ((i + 1 : Nat) : Int) := by rw [Go.IntWalk.i64_in _ (by omega)]; omega
    have hU : ∀ x ∈ a.svcs.map (·.name), ([AV.str x] : List AV).length = 1 := fun _ _ => rfl
    have hx2 : (a.svcs.map (·.name))[i]? = some x.name := by rw [List.getElem?_map, hx]; rfl
    have hlen : (((a.files.filter (fun x : FileV => (getK (·.path) x.path b.files).isNone)).map rmF ++ (a.sets.filter (fun x : SetV => (getK (·.key) x.key b.sets).isNone)).map rmS) ++ ((a.svcs.take i).filter (fun x : SvcV => (getK (·.name) x.name b.svcs).isNone)).map rmV).length ≤ 100000 := by
      have := n3 i
      simp only [List.length_append, List.length_map]
      omega
    have kv := hT.v.w
    have kw := hT.w.w
    obtain ⟨es, k1, u1⟩ := hT.w.v
    have hg := u1.get x.name
    have no : ∀ G', AppOK G2 G' 10 ((((a.files.filter (fun x : FileV => (getK (·.path) x.path b.files).isNone)).map rmF ++ (a.sets.filter (fun x : SetV => (getK (·.key) x.key b.sets).isNone)).map rmS) ++ ((a.svcs.take i).filter (fun x : SvcV => (getK (·.name) x.name b.svcs).isNone)).map rmV).map encChg) tl → (fun x : SvcV => (getK (·.name) x.name b.svcs).isNone) x = false → AppOK G2 G' 10 ((((a.files.filter (fun x : FileV => (getK (·.path) x.path b.files).isNone)).map rmF ++ (a.sets.filter (fun x : SetV => (getK (·.key) x.key b.sets).isNone)).map rmS) ++ ((a.svcs.take (i + 1)).filter (fun x : SvcV => (getK (·.name) x.name b.svcs).isNone)).map rmV).map encChg) tl := fun G' h hp => by rw [filt_no hx hp]; exact h
    have noE : (fun x : SvcV => (getK (·.name) x.name b.svcs).isNone) x = false → (((a.files.filter (fun x : FileV => (getK (·.path) x.path b.files).isNone)).map rmF ++ (a.sets.filter (fun x : SetV => (getK (·.key) x.key b.sets).isNone)).map rmS) ++ ((a.svcs.take (i + 1)).filter (fun x : SvcV => (getK (·.name) x.name b.svcs).isNone)).map rmV).map encChg = (((a.files.filter (fun x : FileV => (getK (·.path) x.path b.files).isNone)).map rmF ++ (a.sets.filter (fun x : SetV => (getK (·.key) x.key b.sets).isNone)).map rmS) ++ ((a.svcs.take i).filter (fun x : SvcV => (getK (·.name) x.name b.svcs).isNone)).map rmV).map encChg := fun hp => by rw [filt_no hx hp]
    have yes : (fun x : SvcV => (getK (·.name) x.name b.svcs).isNone) x = true → (((a.files.filter (fun x : FileV => (getK (·.path) x.path b.files).isNone)).map rmF ++ (a.sets.filter (fun x : SetV => (getK (·.key) x.key b.sets).isNone)).map rmS) ++ ((a.svcs.take i).filter (fun x : SvcV => (getK (·.name) x.name b.svcs).isNone)).map rmV).map encChg ++ [encChg (rmV x)] = (((a.files.filter (fun x : FileV => (getK (·.path) x.path b.files).isNone)).map rmF ++ (a.sets.filter (fun x : SetV => (getK (·.key) x.key b.sets).isNone)).map rmS) ++ ((a.svcs.take (i + 1)).filter (fun x : SvcV => (getK (·.name) x.name b.svcs).isNone)).map rmV).map encChg := fun hp => by rw [filt_yes hx hp]; simp
    cases ho : getK (·.name) x.name b.svcs with
    | none =>
      rw [ho] at hg
      simp only [Option.map_none] at hg
      have yes := yes (by simp [ho])
      simp only [encChg, rmV, FileV.zero, SetV.zero, SvcV.zero] at yes
      simp -implicitDefEqProofs only [go_sem, reduceEqDiff, reduceAdd, reduceLeDiff, reduceLT, reduceMul, reduceEq, Int.reduceLT, reduceLE, Int.reduceAdd, reduceSub, reduceToNat, UInt8.reduceToNat, e5, e6, e7, ea, eb, ec, y0, hx2, hU, kv, kw, k1, hg]
      with_reducible refine nwC_intro fun i5 hi5 => ?_
      replace hO := hO.put hi5 (.cells [.str [], .str [], .bool false, .bool false])
      replace hT := hT.put hi5 (.cells [.str [], .str [], .bool false, .bool false])
      try simp -implicitDefEqProofs only [go_sem, reduceEqDiff, reduceAdd, reduceLeDiff, reduceLT, reduceMul, reduceEq, Int.reduceLT, reduceLE, Int.reduceAdd, reduceSub, reduceToNat, UInt8.reduceToNat]
      generalize G.put i5 (.cells [.str [], .str [], .bool false, .bool false]) = G6 at *
      try simp -implicitDefEqProofs only [go_sem, reduceEqDiff, reduceAdd, reduceLeDiff, reduceLT, reduceMul, reduceEq, Int.reduceLT, reduceLE, Int.reduceAdd, reduceSub, reduceToNat, UInt8.reduceToNat, e5, e6, e7, ea, eb, ec]
      refine AppOK.step hO (fun z hz => by obtain ⟨q, -, rfl⟩ := List.mem_map.1 hz; rfl) (by simp) (by rw [List.length_map]; simp at hlen ⊢; omega) (by rw [List.length_map]; simp at hlen ⊢; omega) fun tl' G' hO' hK => ?_
      rw [yes] at hO' ⊢
      simp -implicitDefEqProofs only [go_sem, reduceEqDiff, reduceAdd, reduceLeDiff, reduceLT, reduceMul, reduceEq, Int.reduceLT, reduceLE, Int.reduceAdd, reduceSub, reduceToNat, UInt8.reduceToNat, e5, e6, e7, ea, eb, ec, ws]
      exact Again.mk (i + 1, tl') (by simp -implicitDefEqProofs only [go_sem, reduceEqDiff, reduceAdd, reduceLeDiff, reduceLT, reduceMul, reduceEq, Int.reduceLT, reduceLE, Int.reduceAdd, reduceSub, reduceToNat, UInt8.reduceToNat, e5, e6, e7, ea, eb, ec]) ⟨by simp only; omega, hO', hT.kept hO'.sub hK⟩ (by simp only; omega)
    | some y =>
      rw [ho] at hg
      simp only [Option.map_some] at hg
      have hyk := getK_key ho
      try simp only at hyk
      have hpf : (fun x : SvcV => (getK (·.name) x.name b.svcs).isNone) x = false := by simp [ho]
      have noE := noE hpf
      rw [encSvc] at hg
      simp -implicitDefEqProofs only [go_sem, reduceEqDiff, reduceAdd, reduceLeDiff, reduceLT, reduceMul, reduceEq, Int.reduceLT, reduceLE, Int.reduceAdd, reduceSub, reduceToNat, UInt8.reduceToNat, e5, e6, e7, ea, eb, ec, y0, hx2, hU, kv, kw, k1, hg, ws]
      with_reducible refine nwC_intro fun i5 hi5 => ?_
      replace hO := hO.put hi5 (.cells (encSvc y))
      replace hT := hT.put hi5 (.cells (encSvc y))
      rw [encSvc] at hO hT
      try simp -implicitDefEqProofs only [go_sem, reduceEqDiff, reduceAdd, reduceLeDiff, reduceLT, reduceMul, reduceEq, Int.reduceLT, reduceLE, Int.reduceAdd, reduceSub, reduceToNat, UInt8.reduceToNat, ws]
      generalize G.put i5 _ = G6 at *
      try simp -implicitDefEqProofs only [go_sem, reduceEqDiff, reduceAdd, reduceLeDiff, reduceLT, reduceMul, reduceEq, Int.reduceLT, reduceLE, Int.reduceAdd, reduceSub, reduceToNat, UInt8.reduceToNat, e5, e6, e7, ea, eb, ec, ws]
      exact Again.mk (i + 1, tl) (by simp -implicitDefEqProofs only [go_sem, reduceEqDiff, reduceAdd, reduceLeDiff, reduceLT, reduceMul, reduceEq, Int.reduceLT, reduceLE, Int.reduceAdd, reduceSub, reduceToNat, UInt8.reduceToNat, e5, e6, e7, ea, eb, ec, noE]) ⟨by simp only; omega, no _ hO hpf, hT⟩ (by simp only; omega)
  clear hO hT e5 e6 e7
  rintro r G ⟨tl, hO, hT, e5, e6, e7⟩
  have kv := hT.v.w
  have kw := hT.w.w
  simp -implicitDefEqProofs only [go_sem, reduceEqDiff, reduceAdd, reduceLeDiff, reduceLT, reduceMul, reduceEq, Int.reduceLT, reduceLE, Int.reduceAdd, reduceSub, reduceToNat, UInt8.reduceToNat, e5, e6, e7, kv, kw]
  obtain ⟨es3, g3, u3⟩ := hT.w.f
  refine (keysFile_calls _ es3 G g3 (by obtain ⟨-, xs, rfl, -⟩ := u3; intro e he; obtain ⟨x, -, rfl⟩ := List.mem_map.1 he; exact ⟨_, rfl⟩) (by rw [u3.len]; omega)).mono ?_
  rintro x G9 ⟨ss, hp, rfl, rfl⟩
  rw [u3.sorted hp]
  clear hp g3 u3 ss kv kw
  simp -implicitDefEqProofs only [go_sem, reduceEqDiff, reduceAdd, reduceLeDiff, reduceLT, reduceMul, reduceEq, Int.reduceLT, reduceLE, Int.reduceAdd, reduceSub, reduceToNat, UInt8.reduceToNat]
  with_reducible refine aloop_cut 6 (RdL G2 iv v1 v2 v3 iw w1 w2 w3 a b ta ua ((a.files.filter (fun x : FileV => (getK (·.path) x.path b.files).isNone)).map rmF ++ (a.sets.filter (fun x : SetV => (getK (·.key) x.key b.sets).isNone)).map rmS ++ (a.svcs.filter (fun x : SvcV => (getK (·.name) x.name b.svcs).isNone)).map rmV ++ (b.files.filter (fun x : FileV => decide (getK (·.path) x.path a.files ≠ some x))).map ptF)) ?_ ?_
  rotate_left
  · refine aloop_intro (σ := Nat × Tail) (fun s => [(5, .ptr iv 0), (6, .ptr iw 0), (7, .sl ((((a.files.filter (fun x : FileV => (getK (·.path) x.path b.files).isNone)).map rmF ++ (a.sets.filter (fun x : SetV => (getK (·.key) x.key b.sets).isNone)).map rmS ++ (a.svcs.filter (fun x : SvcV => (getK (·.name) x.name b.svcs).isNone)).map rmV) ++ ((b.files.take s.1).filter (fun x : FileV => decide (getK (·.path) x.path a.files ≠ some x))).map ptF).map encChg) s.2), (124, .sl ((b.files.map (·.path)).map fun s => [AV.str s]) .unk), (125, .int .i64 b.files.length), (126, .int .i64 s.1)])
      (fun s G => s.1 ≤ b.files.length ∧ AppOK G2 G 10 ((((a.files.filter (fun x : FileV => (getK (·.path) x.path b.files).isNone)).map rmF ++ (a.sets.filter (fun x : SetV => (getK (·.key) x.key b.sets).isNone)).map rmS ++ (a.svcs.filter (fun x : SvcV => (getK (·.name) x.name b.svcs).isNone)).map rmV) ++ ((b.files.take s.1).filter (fun x : FileV => decide (getK (·.path) x.path a.files ≠ some x))).map ptF).map encChg) s.2 ∧ Two G2 G iv v1 v2 v3 iw w1 w2 w3 a b ta ua) (fun s => b.files.length - s.1) (0, tl) ?_ ?_ ?_
    · simp -implicitDefEqProofs only [go_sem, reduceEqDiff, reduceAdd, reduceLeDiff, reduceLT, reduceMul, reduceEq, Int.reduceLT, reduceLE, Int.reduceAdd, reduceSub, reduceToNat, UInt8.reduceToNat, e5, e6, e7, List.length_map, List.take_zero, List.filter_nil, List.map_nil, List.append_nil]
    · exact ⟨Nat.zero_le _, by simpa using hO, hT⟩
    clear hO hT e5 e6 e7
    rintro ⟨i, tl⟩ r G hv ⟨hi, hO, hT⟩
    simp only at hi hO
    have e5 := hv.1
    have e6 := hv.2.1
    have e7 := hv.2.2.1
    have ea := hv.2.2.2.1
    have eb := hv.2.2.2.2.1
    have ec := hv.2.2.2.2.2.1
    simp only at e7 ec
    clear hv
    by_cases g : i < b.files.length
    rotate_left
    · have y0 : decide ((i : Int) < b.files.length) = false := decide_eq_false (by omega)
      obtain rfl : i = b.files.length := by omega
      rw [List.take_length] at hO e7
      simp -implicitDefEqProofs only [go_sem, reduceEqDiff, reduceAdd, reduceLeDiff, reduceLT, reduceMul, reduceEq, Int.reduceLT, reduceLE, Int.reduceAdd, reduceSub, reduceToNat, UInt8.reduceToNat, e5, e6, e7, ea, eb, ec, y0]
      exact ⟨tl, hO, hT, by simp -implicitDefEqProofs only [go_sem, reduceEqDiff, reduceAdd, reduceLeDiff, reduceLT, reduceMul, reduceEq, Int.reduceLT, reduceLE, Int.reduceAdd, reduceSub, reduceToNat, UInt8.reduceToNat, e5], by simp -implicitDefEqProofs only [go_sem, reduceEqDiff, reduceAdd, reduceLeDiff, reduceLT, reduceMul, reduceEq, Int.reduceLT, reduceLE, Int.reduceAdd, reduceSub, reduceToNat, UInt8.reduceToNat, e6], by simp -implicitDefEqProofs only [go_sem, reduceEqDiff, reduceAdd, reduceLeDiff, reduceLT, reduceMul, reduceEq, Int.reduceLT, reduceLE, Int.reduceAdd, reduceSub, reduceToNat, UInt8.reduceToNat, e7]⟩
    have y0 : decide ((i : Int) < b.files.length) = true := decide_eq_true (by omega)
    obtain ⟨x, hx⟩ : ∃ x, b.files[i]? = some x := getD_get' g
    have ws : IntKind.i64.wrap ((i : Int) + 1) = ((i + 1 : Nat) : Int) := by rw [Go.IntWalk.i64_in _ (by omega)]; omega
    have hU : ∀ x ∈ b.files.map (·.path), ([AV.str x] : List AV).length = 1 := fun _ _ => rfl
    have hx2 : (b.files.map (·.path))[i]? = some x.path := by rw [List.getElem?_map, hx]; rfl
    have hlen : (((a.files.filter (fun x : FileV => (getK (·.path) x.path b.files).isNone)).map rmF ++ (a.sets.filter (fun x : SetV => (getK (·.key) x.key b.sets).isNone)).map rmS ++ (a.svcs.filter (fun x : SvcV => (getK (·.name) x.name b.svcs).isNone)).map rmV) ++ ((b.files.take i).filter (fun x : FileV => decide (getK (·.path) x.path a.files ≠ some x))).map ptF).length ≤ 100000 := by
      have := n4 i
      simp only [List.length_append, List.length_map]
      omega
    have kv := hT.v.w
    have kw := hT.w.w
    obtain ⟨es, k1, u1⟩ := hT.v.f
    have hg := u1.get x.path
    have no : ∀ G', AppOK G2 G' 10 ((((a.files.filter (fun x : FileV => (getK (·.path) x.path b.files).isNone)).map rmF ++ (a.sets.filter (fun x : SetV => (getK (·.key) x.key b.sets).isNone)).map rmS ++ (a.svcs.filter (fun x : SvcV => (getK (·.name) x.name b.svcs).isNone)).map rmV) ++ ((b.files.take i).filter (fun x : FileV => decide (getK (·.path) x.path a.files ≠ some x))).map ptF).map encChg) tl → (fun x : FileV => decide (getK (·.path) x.path a.files ≠ some x)) x = false → AppOK G2 G' 10 ((((a.files.filter (fun x : FileV => (getK (·.path) x.path b.files).isNone)).map rmF ++ (a.sets.filter (fun x : SetV => (getK (·.key) x.key b.sets).isNone)).map rmS ++ (a.svcs.filter (fun x : SvcV => (getK (·.name) x.name b.svcs).isNone)).map rmV) ++ ((b.files.take (i + 1)).filter (fun x : FileV => decide (getK (·.path) x.path a.files ≠ some x))).map ptF).map encChg) tl := fun G' h hp => by rw [filt_no hx hp]; exact h
    have noE : (fun x : FileV => decide (getK (·.path) x.path a.files ≠ some x)) x = false → (((a.files.filter (fun x : FileV => (getK (·.path) x.path b.files).isNone)).map rmF ++ (a.sets.filter (fun x : SetV => (getK (·.key) x.key b.sets).isNone)).map rmS ++ (a.svcs.filter (fun x : SvcV => (getK (·.name) x.name b.svcs).isNone)).map rmV) ++ ((b.files.take (i + 1)).filter (fun x : FileV => decide (getK (·.path) x.path a.files ≠ some x))).map ptF).map encChg = (((a.files.filter (fun x : FileV => (getK (·.path) x.path b.files).isNone)).map rmF ++ (a.sets.filter (fun x : SetV => (getK (·.key) x.key b.sets).isNone)).map rmS ++ (a.svcs.filter (fun x : SvcV => (getK (·.name) x.name b.svcs).isNone)).map rmV) ++ ((b.files.take i).filter (fun x : FileV => decide (getK (·.path) x.path a.files ≠ some x))).map ptF).map encChg := fun hp => by rw [filt_no hx hp]
    have yes : (fun x : FileV => decide (getK (·.path) x.path a.files ≠ some x)) x = true → (((a.files.filter (fun x : FileV => (getK (·.path) x.path b.files).isNone)).map rmF ++ (a.sets.filter (fun x : SetV => (getK (·.key) x.key b.sets).isNone)).map rmS ++ (a.svcs.filter (fun x : SvcV => (getK (·.name) x.name b.svcs).isNone)).map rmV) ++ ((b.files.take i).filter (fun x : FileV => decide (getK (·.path) x.path a.files ≠ some x))).map ptF).map encChg ++ [encChg (ptF x)] = (((a.files.filter (fun x : FileV => (getK (·.path) x.path b.files).isNone)).map rmF ++ (a.sets.filter (fun x : SetV => (getK (·.key) x.key b.sets).isNone)).map rmS ++ (a.svcs.filter (fun x : SvcV => (getK (·.name) x.name b.svcs).isNone)).map rmV) ++ ((b.files.take (i + 1)).filter (fun x : FileV => decide (getK (·.path) x.path a.files ≠ some x))).map ptF).map encChg := fun hp => by rw [filt_yes hx hp]; simp
    obtain ⟨es', k1', u1'⟩ := hT.w.f
    have hg' : mget es' (.s x.path) = some (.agg (encFile x)) := by rw [u1'.get, getK_at u1'.1 hx]; rfl
    cases ho : getK (·.path) x.path a.files with
    | none =>
      rw [ho] at hg
      simp only [Option.map_none] at hg
      have yes := yes (by simp [ho])
      simp only [encChg, ptF, FileV.zero, SetV.zero, SvcV.zero] at yes
      have hex : encFile x = encFile x := rfl
      rw [encFile] at hg'
      simp -implicitDefEqProofs only [go_sem, reduceEqDiff, reduceAdd, reduceLeDiff, reduceLT, reduceMul, reduceEq, Int.reduceLT, reduceLE, Int.reduceAdd, reduceSub, reduceToNat, UInt8.reduceToNat, e5, e6, e7, ea, eb, ec, y0, hx2, hU, kv, kw, k1, hg]
      with_reducible refine nwC_intro fun i5 hi5 => ?_
      replace hO := hO.put hi5 (.cells [.str [], .str [], .bool false])
      replace hT := hT.put hi5 (.cells [.str [], .str [], .bool false])
      try simp -implicitDefEqProofs only [go_sem, reduceEqDiff, reduceAdd, reduceLeDiff, reduceLT, reduceMul, reduceEq, Int.reduceLT, reduceLE, Int.reduceAdd, reduceSub, reduceToNat, UInt8.reduceToNat]
      generalize G.put i5 (.cells [.str [], .str [], .bool false]) = G6 at *
      have kv := hT.v.w
      have kw := hT.w.w
      obtain ⟨es9, k9, u9⟩ := hT.w.f
      have hg9 : mget es9 (.s x.path) = some (.agg (encFile x)) := by rw [u9.get, getK_at u9.1 hx]; rfl
      rw [encFile] at hg9
      rw [acode_tree (t := rdO2) rfl (by rfl)]
      simp -implicitDefEqProofs only [go_sem, reduceEqDiff, reduceAdd, reduceLeDiff, reduceLT, reduceMul, reduceEq, Int.reduceLT, reduceLE, Int.reduceAdd, reduceSub, reduceToNat, UInt8.reduceToNat, e5, e6, e7, ea, eb, ec, kv, kw, k9, hg9, rdO2, stripO]
      refine AppOK.step hO (fun z hz => by obtain ⟨q, -, rfl⟩ := List.mem_map.1 hz; rfl) (by simp) (by rw [List.length_map]; simp at hlen ⊢; omega) (by rw [List.length_map]; simp at hlen ⊢; omega) fun tl' G' hO' hK => ?_
      rw [yes] at hO' ⊢
      simp -implicitDefEqProofs only [go_sem, reduceEqDiff, reduceAdd, reduceLeDiff, reduceLT, reduceMul, reduceEq, Int.reduceLT, reduceLE, Int.reduceAdd, reduceSub, reduceToNat, UInt8.reduceToNat, e5, e6, e7, ea, eb, ec, ws]
      exact Again.mk (i + 1, tl') (by simp -implicitDefEqProofs only [go_sem, reduceEqDiff, reduceAdd, reduceLeDiff, reduceLT, reduceMul, reduceEq, Int.reduceLT, reduceLE, Int.reduceAdd, reduceSub, reduceToNat, UInt8.reduceToNat, e5, e6, e7, ea, eb, ec]) ⟨by simp only; omega, hO', hT.kept hO'.sub hK⟩ (by simp only; omega)
    | some y =>
      rw [ho] at hg
      simp only [Option.map_some] at hg
      have hyk := getK_key ho
      try simp only at hyk
      have hn := fun cx cy => eqFile_calls_ne cx cy y x
      have hgy : encFile y = encFile y := rfl
      rw [encFile] at hg
      rw [show encFile y = _ from encFile.eq_1 y, show encFile x = _ from encFile.eq_1 x] at hn
      simp -implicitDefEqProofs only [go_sem, reduceEqDiff, reduceAdd, reduceLeDiff, reduceLT, reduceMul, reduceEq, Int.reduceLT, reduceLE, Int.reduceAdd, reduceSub, reduceToNat, UInt8.reduceToNat, e5, e6, e7, ea, eb, ec, y0, hx2, hU, kv, kw, k1, hg]
      with_reducible refine nwC_intro fun i5 hi5 => ?_
      replace hO := hO.put hi5 (.cells (encFile y))
      replace hT := hT.put hi5 (.cells (encFile y))
      have g5 := put_same G i5 (.cells (encFile y))
      rw [encFile] at hO hT g5
      try simp -implicitDefEqProofs only [go_sem, reduceEqDiff, reduceAdd, reduceLeDiff, reduceLT, reduceMul, reduceEq, Int.reduceLT, reduceLE, Int.reduceAdd, reduceSub, reduceToNat, UInt8.reduceToNat]
      generalize G.put i5 _ = G6 at *
      have kv := hT.v.w
      have kw := hT.w.w
      obtain ⟨es9, k9, u9⟩ := hT.w.f
      have hg9 : mget es9 (.s x.path) = some (.agg (encFile x)) := by rw [u9.get, getK_at u9.1 hx]; rfl
      rw [encFile] at hg9
      by_cases c : y = x
      · have yc : decide (¬ y = x) = false := decide_eq_false (by simpa using c)
        have hpf : (fun x : FileV => decide (getK (·.path) x.path a.files ≠ some x)) x = false := by simp [ho, c]
        have noE := noE hpf
        rw [acode_tree (t := rdO2) rfl (by rfl)]
        simp -implicitDefEqProofs only [go_sem, reduceEqDiff, reduceAdd, reduceLeDiff, reduceLT, reduceMul, reduceEq, Int.reduceLT, reduceLE, Int.reduceAdd, reduceSub, reduceToNat, UInt8.reduceToNat, e5, e6, e7, ea, eb, ec, kv, kw, k9, hg9, g5, hn, yc, ws, rdO2, stripO]
        exact Again.mk (i + 1, tl) (by simp -implicitDefEqProofs only [go_sem, reduceEqDiff, reduceAdd, reduceLeDiff, reduceLT, reduceMul, reduceEq, Int.reduceLT, reduceLE, Int.reduceAdd, reduceSub, reduceToNat, UInt8.reduceToNat, e5, e6, e7, ea, eb, ec, noE]) ⟨by simp only; omega, no _ hO hpf, hT⟩ (by simp only; omega)
      · have yc : decide (¬ y = x) = true := decide_eq_true c
        have yes := yes (by simp [ho, c])
        simp only [encChg, ptF, FileV.zero, SetV.zero, SvcV.zero] at yes
        rw [acode_tree (t := rdO2) rfl (by rfl)]
        simp -implicitDefEqProofs only [go_sem, reduceEqDiff, reduceAdd, reduceLeDiff, reduceLT, reduceMul, reduceEq, Int.reduceLT, reduceLE, Int.reduceAdd, reduceSub, reduceToNat, UInt8.reduceToNat, e5, e6, e7, ea, eb, ec, kv, kw, k9, hg9, g5, hn, yc, rdO2, stripO]
        refine AppOK.step hO (fun z hz => by obtain ⟨q, -, rfl⟩ := List.mem_map.1 hz; rfl) (by simp) (by rw [List.length_map]; simp at hlen ⊢; omega) (by rw [List.length_map]; simp at hlen ⊢; omega) fun tl' G' hO' hK => ?_
        rw [yes] at hO' ⊢
        simp -implicitDefEqProofs only [go_sem, reduceEqDiff, reduceAdd, reduceLeDiff, reduceLT, reduceMul, reduceEq, Int.reduceLT, reduceLE, Int.reduceAdd, reduceSub, reduceToNat, UInt8.reduceToNat, e5, e6, e7, ea, eb, ec, ws]
        exact Again.mk (i + 1, tl') (by simp -implicitDefEqProofs only [go_sem, reduceEqDiff, reduceAdd, reduceLeDiff, reduceLT, reduceMul, reduceEq, Int.reduceLT, reduceLE, Int.reduceAdd, reduceSub, reduceToNat, UInt8.reduceToNat, e5, e6, e7, ea, eb, ec]) ⟨by simp only; omega, hO', hT.kept hO'.sub hK⟩ (by simp only; omega)
  clear hO hT e5 e6 e7
  rintro r G ⟨tl, hO, hT, e5, e6, e7⟩
  have kv := hT.v.w
  have kw := hT.w.w
  simp -implicitDefEqProofs only [go_sem, reduceEqDiff, reduceAdd, reduceLeDiff, reduceLT, reduceMul, reduceEq, Int.reduceLT, reduceLE, Int.reduceAdd, reduceSub, reduceToNat, UInt8.reduceToNat, e5, e6, e7, kv, kw]
  obtain ⟨es4, g4, u4⟩ := hT.w.s
  refine (keysStr_calls _ es4 G g4 (by obtain ⟨-, xs, rfl, -⟩ := u4; intro e he; obtain ⟨x, -, rfl⟩ := List.mem_map.1 he; exact ⟨_, rfl⟩) (by rw [u4.len]; omega)).mono ?_
  rintro x G9 ⟨ss, hp, rfl, rfl⟩
  rw [u4.sorted hp]
  clear hp g4 u4 ss kv kw
  simp -implicitDefEqProofs only [go_sem, reduceEqDiff, reduceAdd, reduceLeDiff, reduceLT, reduceMul, reduceEq, Int.reduceLT, reduceLE, Int.reduceAdd, reduceSub, reduceToNat, UInt8.reduceToNat]
  with_reducible refine aloop_cut 8 (RdL G2 iv v1 v2 v3 iw w1 w2 w3 a b ta ua ((a.files.filter (fun x : FileV => (getK (·.path) x.path b.files).isNone)).map rmF ++ (a.sets.filter (fun x : SetV => (getK (·.key) x.key b.sets).isNone)).map rmS ++ (a.svcs.filter (fun x : SvcV => (getK (·.name) x.name b.svcs).isNone)).map rmV ++ (b.files.filter (fun x : FileV => decide (getK (·.path) x.path a.files ≠ some x))).map ptF ++ (b.sets.filter (fun x : SetV => decide (getK (·.key) x.key a.sets ≠ some x))).map ptS)) ?_ ?_
  rotate_left
  · refine aloop_intro (σ := Nat × Tail) (fun s => [(5, .ptr iv 0), (6, .ptr iw 0), (7, .sl ((((a.files.filter (fun x : FileV => (getK (·.path) x.path b.files).isNone)).map rmF ++ (a.sets.filter (fun x : SetV => (getK (·.key) x.key b.sets).isNone)).map rmS ++ (a.svcs.filter (fun x : SvcV => (getK (·.name) x.name b.svcs).isNone)).map rmV ++ (b.files.filter (fun x : FileV => decide (getK (·.path) x.path a.files ≠ some x))).map ptF) ++ ((b.sets.take s.1).filter (fun x : SetV => decide (getK (·.key) x.key a.sets ≠ some x))).map ptS).map encChg) s.2), (166, .sl ((b.sets.map (·.key)).map fun s => [AV.str s]) .unk), (167, .int .i64 b.sets.length), (168, .int .i64 s.1)])
      (fun s G => s.1 ≤ b.sets.length ∧ AppOK G2 G 10 ((((a.files.filter (fun x : FileV => (getK (·.path) x.path b.files).isNone)).map rmF ++ (a.sets.filter (fun x : SetV => (getK (·.key) x.key b.sets).isNone)).map rmS ++ (a.svcs.filter (fun x : SvcV => (getK (·.name) x.name b.svcs).isNone)).map rmV ++ (b.files.filter (fun x : FileV => decide (getK (·.path) x.path a.files ≠ some x))).map ptF) ++ ((b.sets.take s.1).filter (fun x : SetV => decide (getK (·.key) x.key a.sets ≠ some x))).map ptS).map encChg) s.2 ∧ Two G2 G iv v1 v2 v3 iw w1 w2 w3 a b ta ua) (fun s => b.sets.length - s.1) (0, tl) ?_ ?_ ?_
    · simp -implicitDefEqProofs only [go_sem, reduceEqDiff, reduceAdd, reduceLeDiff, reduceLT, reduceMul, reduceEq, Int.reduceLT, reduceLE, Int.reduceAdd, reduceSub, reduceToNat, UInt8.reduceToNat, e5, e6, e7, List.length_map, List.take_zero, List.filter_nil, List.map_nil, List.append_nil]
    · exact ⟨Nat.zero_le _, by simpa using hO, hT⟩
    clear hO hT e5 e6 e7
    rintro ⟨i, tl⟩ r G hv ⟨hi, hO, hT⟩
    simp only at hi hO
    have e5 := hv.1
    have e6 := hv.2.1
    have e7 := hv.2.2.1
    have ea := hv.2.2.2.1
    have eb := hv.2.2.2.2.1
    have ec := hv.2.2.2.2.2.1
    simp only at e7 ec
    clear hv
    by_cases g : i < b.sets.length
    rotate_left
    · have y0 : decide ((i : Int) < b.sets.length) = false := decide_eq_false (by omega)
      obtain rfl : i = b.sets.length := by omega
      rw [List.take_length] at hO e7
      simp -implicitDefEqProofs only [go_sem, reduceEqDiff, reduceAdd, reduceLeDiff, reduceLT, reduceMul, reduceEq, Int.reduceLT, reduceLE, Int.reduceAdd, reduceSub, reduceToNat, UInt8.reduceToNat, e5, e6, e7, ea, eb, ec, y0]
      exact ⟨tl, hO, hT, by simp -implicitDefEqProofs only [go_sem, reduceEqDiff, reduceAdd, reduceLeDiff, reduceLT, reduceMul, reduceEq, Int.reduceLT, reduceLE, Int.reduceAdd, reduceSub, reduceToNat, UInt8.reduceToNat, e5], by simp -implicitDefEqProofs only [go_sem, reduceEqDiff, reduceAdd, reduceLeDiff, reduceLT, reduceMul, reduceEq, Int.reduceLT, reduceLE, Int.reduceAdd, reduceSub, reduceToNat, UInt8.reduceToNat, e6], by simp -implicitDefEqProofs only [go_sem, reduceEqDiff, reduceAdd, reduceLeDiff, reduceLT, reduceMul, reduceEq, Int.reduceLT, reduceLE, Int.reduceAdd, reduceSub, reduceToNat, UInt8.reduceToNat, e7]⟩
    have y0 : decide ((i : Int) < b.sets.length) = true := decide_eq_true (by omega)
    obtain ⟨x, hx⟩ : ∃ x, b.sets[i]? = some x := getD_get' g
    have ws : IntKind.i64.wrap ((i : Int) + 1) = ((i + 1 : Nat) : Int) := by rw [Go.IntWalk.i64_in _ (by omega)]; omega
    have hU : ∀ x ∈ b.sets.map (·.key), ([AV.str x] : List AV).length = 1 := fun _ _ => rfl
    have hx2 : (b.sets.map (·.key))[i]? = some x.key := by rw [List.getElem?_map, hx]; rfl
    have hlen : (((a.files.filter (fun x : FileV => (getK (·.path) x.path b.files).isNone)).map rmF ++ (a.sets.filter (fun x : SetV => (getK (·.key) x.key b.sets).isNone)).map rmS ++ (a.svcs.filter (fun x : SvcV => (getK (·.name) x.name b.svcs).isNone)).map rmV ++ (b.files.filter (fun x : FileV => decide (getK (·.path) x.path a.files ≠ some x))).map ptF) ++ ((b.sets.take i).filter (fun x : SetV => decide (getK (·.key) x.key a.sets ≠ some x))).map ptS).length ≤ 100000 := by
      have := n5 i
      simp only [List.length_append, List.length_map]
      omega
    have kv := hT.v.w
    have kw := hT.w.w
    obtain ⟨es, k1, u1⟩ := hT.v.s
    have hg := u1.get x.key
    have no : ∀ G', AppOK G2 G' 10 ((((a.files.filter (fun x : FileV => (getK (·.path) x.path b.files).isNone)).map rmF ++ (a.sets.filter (fun x : SetV => (getK (·.key) x.key b.sets).isNone)).map rmS ++ (a.svcs.filter (fun x : SvcV => (getK (·.name) x.name b.svcs).isNone)).map rmV ++ (b.files.filter (fun x : FileV => decide (getK (·.path) x.path a.files ≠ some x))).map ptF) ++ ((b.sets.take i).filter (fun x : SetV => decide (getK (·.key) x.key a.sets ≠ some x))).map ptS).map encChg) tl → (fun x : SetV => decide (getK (·.key) x.key a.sets ≠ some x)) x = false → AppOK G2 G' 10 ((((a.files.filter (fun x : FileV => (getK (·.path) x.path b.files).isNone)).map rmF ++ (a.sets.filter (fun x : SetV => (getK (·.key) x.key b.sets).isNone)).map rmS ++ (a.svcs.filter (fun x : SvcV => (getK (·.name) x.name b.svcs).isNone)).map rmV ++ (b.files.filter (fun x : FileV => decide (getK (·.path) x.path a.files ≠ some x))).map ptF) ++ ((b.sets.take (i + 1)).filter (fun x : SetV => decide (getK (·.key) x.key a.sets ≠ some x))).map ptS).map encChg) tl := fun G' h hp => by rw [filt_no hx hp]; exact h
    have noE : (fun x : SetV => decide (getK (·.key) x.key a.sets ≠ some x)) x = false → (((a.files.filter (fun x : FileV => (getK (·.path) x.path b.files).isNone)).map rmF ++ (a.sets.filter (fun x : SetV => (getK (·.key) x.key b.sets).isNone)).map rmS ++ (a.svcs.filter (fun x : SvcV => (getK (·.name) x.name b.svcs).isNone)).map rmV ++ (b.files.filter (fun x : FileV => decide (getK (·.path) x.path a.files ≠ some x))).map ptF) ++ ((b.sets.take (i + 1)).filter (fun x : SetV => decide (getK (·.key) x.key a.sets ≠ some x))).map ptS).map encChg = (((a.files.filter (fun x : FileV => (getK (·.path) x.path b.files).isNone)).map rmF ++ (a.sets.filter (fun x : SetV => (getK (·.key) x.key b.sets).isNone)).map rmS ++ (a.svcs.filter (fun x : SvcV => (getK (·.name) x.name b.svcs).isNone)).map rmV ++ (b.files.filter (fun x : FileV => decide (getK (·.path) x.path a.files ≠ some x))).map ptF) ++ ((b.sets.take i).filter (fun x : SetV => decide (getK (·.key) x.key a.sets ≠ some x))).map ptS).map encChg := fun hp => by rw [filt_no hx hp]
    have yes : (fun x : SetV => decide (getK (·.key) x.key a.sets ≠ some x)) x = true → (((a.files.filter (fun x : FileV => (getK (·.path) x.path b.files).isNone)).map rmF ++ (a.sets.filter (fun x : SetV => (getK (·.key) x.key b.sets).isNone)).map rmS ++ (a.svcs.filter (fun x : SvcV => (getK (·.name) x.name b.svcs).isNone)).map rmV ++ (b.files.filter (fun x : FileV => decide (getK (·.path) x.path a.files ≠ some x))).map ptF) ++ ((b.sets.take i).filter (fun x : SetV => decide (getK (·.key) x.key a.sets ≠ some x))).map ptS).map encChg ++ [encChg (ptS x)] = (((a.files.filter (fun x : FileV => (getK (·.path) x.path b.files).isNone)).map rmF ++ (a.sets.filter (fun x : SetV => (getK (·.key) x.key b.sets).isNone)).map rmS ++ (a.svcs.filter (fun x : SvcV => (getK (·.name) x.name b.svcs).isNone)).map rmV ++ (b.files.filter (fun x : FileV => decide (getK (·.path) x.path a.files ≠ some x))).map ptF) ++ ((b.sets.take (i + 1)).filter (fun x : SetV => decide (getK (·.key) x.key a.sets ≠ some x))).map ptS).map encChg := fun hp => by rw [filt_yes hx hp]; simp
    obtain ⟨es', k1', u1'⟩ := hT.w.s
    have hg' : mget es' (.s x.key) = some (.str x.value) := by rw [u1'.get, getK_at u1'.1 hx]; rfl
    cases ho : getK (·.key) x.key a.sets with
    | none =>
      rw [ho] at hg
      simp only [Option.map_none] at hg
      have yes := yes (by simp [ho])
      simp only [encChg, ptS, FileV.zero, SetV.zero, SvcV.zero] at yes
      simp -implicitDefEqProofs only [go_sem, reduceEqDiff, reduceAdd, reduceLeDiff, reduceLT, reduceMul, reduceEq, Int.reduceLT, reduceLE, Int.reduceAdd, reduceSub, reduceToNat, UInt8.reduceToNat, e5, e6, e7, ea, eb, ec, y0, hx2, hU, kv, kw, k1, hg, k1', hg']
      refine AppOK.step hO (fun z hz => by obtain ⟨q, -, rfl⟩ := List.mem_map.1 hz; rfl) (by simp) (by rw [List.length_map]; simp at hlen ⊢; omega) (by rw [List.length_map]; simp at hlen ⊢; omega) fun tl' G' hO' hK => ?_
      rw [yes] at hO' ⊢
      simp -implicitDefEqProofs only [go_sem, reduceEqDiff, reduceAdd, reduceLeDiff, reduceLT, reduceMul, reduceEq, Int.reduceLT, reduceLE, Int.reduceAdd, reduceSub, reduceToNat, UInt8.reduceToNat, e5, e6, e7, ea, eb, ec, ws]
      exact Again.mk (i + 1, tl') (by simp -implicitDefEqProofs only [go_sem, reduceEqDiff, reduceAdd, reduceLeDiff, reduceLT, reduceMul, reduceEq, Int.reduceLT, reduceLE, Int.reduceAdd, reduceSub, reduceToNat, UInt8.reduceToNat, e5, e6, e7, ea, eb, ec]) ⟨by simp only; omega, hO', hT.kept hO'.sub hK⟩ (by simp only; omega)
    | some y =>
      rw [ho] at hg
      simp only [Option.map_some] at hg
      have hyk := getK_key ho
      try simp only at hyk
      have hyx : y = x ↔ y.value = x.value := by
        obtain ⟨yk, yv⟩ := y
        obtain ⟨xk, xv⟩ := x
        simp only at hyk
        simp [hyk]
      by_cases c : y.value = x.value
      · have yc : decide (¬ y.value = x.value) = false := decide_eq_false (by simpa using c)
        have hpf : (fun x : SetV => decide (getK (·.key) x.key a.sets ≠ some x)) x = false := by simp [ho, hyx.2 c]
        have noE := noE hpf
        simp -implicitDefEqProofs only [go_sem, reduceEqDiff, reduceAdd, reduceLeDiff, reduceLT, reduceMul, reduceEq, Int.reduceLT, reduceLE, Int.reduceAdd, reduceSub, reduceToNat, UInt8.reduceToNat, e5, e6, e7, ea, eb, ec, y0, hx2, hU, kv, kw, k1, hg, k1', hg', yc, ws]
        exact Again.mk (i + 1, tl) (by simp -implicitDefEqProofs only [go_sem, reduceEqDiff, reduceAdd, reduceLeDiff, reduceLT, reduceMul, reduceEq, Int.reduceLT, reduceLE, Int.reduceAdd, reduceSub, reduceToNat, UInt8.reduceToNat, e5, e6, e7, ea, eb, ec, noE]) ⟨by simp only; omega, no _ hO hpf, hT⟩ (by simp only; omega)
      · have yc : decide (¬ y.value = x.value) = true := decide_eq_true c
        have yes := yes (by simp [ho, hyx, c])
        simp only [encChg, ptS, FileV.zero, SetV.zero, SvcV.zero] at yes
        simp -implicitDefEqProofs only [go_sem, reduceEqDiff, reduceAdd, reduceLeDiff, reduceLT, reduceMul, reduceEq, Int.reduceLT, reduceLE, Int.reduceAdd, reduceSub, reduceToNat, UInt8.reduceToNat, e5, e6, e7, ea, eb, ec, y0, hx2, hU, kv, kw, k1, hg, k1', hg', yc]
        refine AppOK.step hO (fun z hz => by obtain ⟨q, -, rfl⟩ := List.mem_map.1 hz; rfl) (by simp) (by rw [List.length_map]; simp at hlen ⊢; omega) (by rw [List.length_map]; simp at hlen ⊢; omega) fun tl' G' hO' hK => ?_
        rw [yes] at hO' ⊢
        simp -implicitDefEqProofs only [go_sem, reduceEqDiff, reduceAdd, reduceLeDiff, reduceLT, reduceMul, reduceEq, Int.reduceLT, reduceLE, Int.reduceAdd, reduceSub, reduceToNat, UInt8.reduceToNat, e5, e6, e7, ea, eb, ec, ws]
        exact Again.mk (i + 1, tl') (by simp -implicitDefEqProofs only [go_sem, reduceEqDiff, reduceAdd, reduceLeDiff, reduceLT, reduceMul, reduceEq, Int.reduceLT, reduceLE, Int.reduceAdd, reduceSub, reduceToNat, UInt8.reduceToNat, e5, e6, e7, ea, eb, ec]) ⟨by simp only; omega, hO', hT.kept hO'.sub hK⟩ (by simp only; omega)
  clear hO hT e5 e6 e7
  rintro r G ⟨tl, hO, hT, e5, e6, e7⟩
  have kv := hT.v.w
  have kw := hT.w.w
  simp -implicitDefEqProofs only [go_sem, reduceEqDiff, reduceAdd, reduceLeDiff, reduceLT, reduceMul, reduceEq, Int.reduceLT, reduceLE, Int.reduceAdd, reduceSub, reduceToNat, UInt8.reduceToNat, e5, e6, e7, kv, kw]
  obtain ⟨es5, g5, u5⟩ := hT.w.v
  refine (keysSvc_calls _ es5 G g5 (by obtain ⟨-, xs, rfl, -⟩ := u5; intro e he; obtain ⟨x, -, rfl⟩ := List.mem_map.1 he; exact ⟨_, rfl⟩) (by rw [u5.len]; omega)).mono ?_
  rintro x G9 ⟨ss, hp, rfl, rfl⟩
  rw [u5.sorted hp]
  clear hp g5 u5 ss kv kw
  simp -implicitDefEqProofs only [go_sem, reduceEqDiff, reduceAdd, reduceLeDiff, reduceLT, reduceMul, reduceEq, Int.reduceLT, reduceLE, Int.reduceAdd, reduceSub, reduceToNat, UInt8.reduceToNat]
  with_reducible refine aloop_cut 10 (RdL G2 iv v1 v2 v3 iw w1 w2 w3 a b ta ua ((a.files.filter (fun x : FileV => (getK (·.path) x.path b.files).isNone)).map rmF ++ (a.sets.filter (fun x : SetV => (getK (·.key) x.key b.sets).isNone)).map rmS ++ (a.svcs.filter (fun x : SvcV => (getK (·.name) x.name b.svcs).isNone)).map rmV ++ (b.files.filter (fun x : FileV => decide (getK (·.path) x.path a.files ≠ some x))).map ptF ++ (b.sets.filter (fun x : SetV => decide (getK (·.key) x.key a.sets ≠ some x))).map ptS ++ (b.svcs.filter (fun x : SvcV => decide (getK (·.name) x.name a.svcs ≠ some x))).map ptV)) ?_ ?_
  rotate_left
  · refine aloop_intro (σ := Nat × Tail) (fun s => [(5, .ptr iv 0), (6, .ptr iw 0), (7, .sl ((((a.files.filter (fun x : FileV => (getK (·.path) x.path b.files).isNone)).map rmF ++ (a.sets.filter (fun x : SetV => (getK (·.key) x.key b.sets).isNone)).map rmS ++ (a.svcs.filter (fun x : SvcV => (getK (·.name) x.name b.svcs).isNone)).map rmV ++ (b.files.filter (fun x : FileV => decide (getK (·.path) x.path a.files ≠ some x))).map ptF ++ (b.sets.filter (fun x : SetV => decide (getK (·.key) x.key a.sets ≠ some x))).map ptS) ++ ((b.svcs.take s.1).filter (fun x : SvcV => decide (getK (·.name) x.name a.svcs ≠ some x))).map ptV).map encChg) s.2), (210, .sl ((b.svcs.map (·.name)).map fun s => [AV.str s]) .unk), (211, .int .i64 b.svcs.length), (212, .int .i64 s.1)])
      (fun s G => s.1 ≤ b.svcs.length ∧ AppOK G2 G 10 ((((a.files.filter (fun x : FileV => (getK (·.path) x.path b.files).isNone)).map rmF ++ (a.sets.filter (fun x : SetV => (getK (·.key) x.key b.sets).isNone)).map rmS ++ (a.svcs.filter (fun x : SvcV => (getK (·.name) x.name b.svcs).isNone)).map rmV ++ (b.files.filter (fun x : FileV => decide (getK (·.path) x.path a.files ≠ some x))).map ptF ++ (b.sets.filter (fun x : SetV => decide (getK (·.key) x.key a.sets ≠ some x))).map ptS) ++ ((b.svcs.take s.1).filter (fun x : SvcV => decide (getK (·.name) x.name a.svcs ≠ some x))).map ptV).map encChg) s.2 ∧ Two G2 G iv v1 v2 v3 iw w1 w2 w3 a b ta ua) (fun s => b.svcs.length - s.1) (0, tl) ?_ ?_ ?_
    · simp -implicitDefEqProofs only [go_sem, reduceEqDiff, reduceAdd, reduceLeDiff, reduceLT, reduceMul, reduceEq, Int.reduceLT, reduceLE, Int.reduceAdd, reduceSub, reduceToNat, UInt8.reduceToNat, e5, e6, e7, List.length_map, List.take_zero, List.filter_nil, List.map_nil, List.append_nil]
    · exact ⟨Nat.zero_le _, by simpa using hO, hT⟩
    clear hO hT e5 e6 e7
    rintro ⟨i, tl⟩ r G hv ⟨hi, hO, hT⟩
    simp only at hi hO
    have e5 := hv.1
    have e6 := hv.2.1
    have e7 := hv.2.2.1
    have ea := hv.2.2.2.1
    have eb := hv.2.2.2.2.1
    have ec := hv.2.2.2.2.2.1
    simp only at e7 ec
    clear hv
    by_cases g : i < b.svcs.length
    rotate_left
    · have y0 : decide ((i : Int) < b.svcs.length) = false := decide_eq_false (by omega)
      obtain rfl : i = b.svcs.length := by omega
      rw [List.take_length] at hO e7
      simp -implicitDefEqProofs only [go_sem, reduceEqDiff, reduceAdd, reduceLeDiff, reduceLT, reduceMul, reduceEq, Int.reduceLT, reduceLE, Int.reduceAdd, reduceSub, reduceToNat, UInt8.reduceToNat, e5, e6, e7, ea, eb, ec, y0]
      exact ⟨tl, hO, hT, by simp -implicitDefEqProofs only [go_sem, reduceEqDiff, reduceAdd, reduceLeDiff, reduceLT, reduceMul, reduceEq, Int.reduceLT, reduceLE, Int.reduceAdd, reduceSub, reduceToNat, UInt8.reduceToNat, e5], by simp -implicitDefEqProofs only [go_sem, reduceEqDiff, reduceAdd, reduceLeDiff, reduceLT, reduceMul, reduceEq, Int.reduceLT, reduceLE, Int.reduceAdd, reduceSub, reduceToNat, UInt8.reduceToNat, e6], by simp -implicitDefEqProofs only [go_sem, reduceEqDiff, reduceAdd, reduceLeDiff, reduceLT, reduceMul, reduceEq, Int.reduceLT, reduceLE, Int.reduceAdd, reduceSub, reduceToNat, UInt8.reduceToNat, e7]⟩
    have y0 : decide ((i : Int) < b.svcs.length) = true := decide_eq_true (by omega)
    obtain ⟨x, hx⟩ : ∃ x, b.svcs[i]? = some x := getD_get' g
    have ws : IntKind.i64.wrap ((i : Int) + 1) = ((i + 1 : Nat) : Int) := by rw [Go.IntWalk.i64_in _ (by omega)]; omega
    have hU : ∀ x ∈ b.svcs.map (·.name), ([AV.str x] : List AV).length = 1 := fun _ _ => rfl
    have hx2 : (b.svcs.map (·.name))[i]? = some x.name := by rw [List.getElem?_map, hx]; rfl
    have hlen : (((a.files.filter (fun x : FileV => (getK (·.path) x.path b.files).isNone)).map rmF ++ (a.sets.filter (fun x : SetV => (getK (·.key) x.key b.sets).isNone)).map rmS ++ (a.svcs.filter (fun x : SvcV => (getK (·.name) x.name b.svcs).isNone)).map rmV ++ (b.files.filter (fun x : FileV => decide (getK (·.path) x.path a.files ≠ some x))).map ptF ++ (b.sets.filter (fun x : SetV => decide (getK (·.key) x.key a.sets ≠ some x))).map ptS) ++ ((b.svcs.take i).filter (fun x : SvcV => decide (getK (·.name) x.name a.svcs ≠ some x))).map ptV).length ≤ 100000 := by
      have := n6 i
      simp only [List.length_append, List.length_map]
      omega
    have kv := hT.v.w
    have kw := hT.w.w
    obtain ⟨es, k1, u1⟩ := hT.v.v
    have hg := u1.get x.name
    have no : ∀ G', AppOK G2 G' 10 ((((a.files.filter (fun x : FileV => (getK (·.path) x.path b.files).isNone)).map rmF ++ (a.sets.filter (fun x : SetV => (getK (·.key) x.key b.sets).isNone)).map rmS ++ (a.svcs.filter (fun x : SvcV => (getK (·.name) x.name b.svcs).isNone)).map rmV ++ (b.files.filter (fun x : FileV => decide (getK (·.path) x.path a.files ≠ some x))).map ptF ++ (b.sets.filter (fun x : SetV => decide (getK (·.key) x.key a.sets ≠ some x))).map ptS) ++ ((b.svcs.take i).filter (fun x : SvcV => decide (getK (·.name) x.name a.svcs ≠ some x))).map ptV).map encChg) tl → (fun x : SvcV => decide (getK (·.name) x.name a.svcs ≠ some x)) x = false → AppOK G2 G' 10 ((((a.files.filter (fun x : FileV => (getK (·.path) x.path b.files).isNone)).map rmF ++ (a.sets.filter (fun x : SetV => (getK (·.key) x.key b.sets).isNone)).map rmS ++ (a.svcs.filter (fun x : SvcV => (getK (·.name) x.name b.svcs).isNone)).map rmV ++ (b.files.filter (fun x : FileV => decide (getK (·.path) x.path a.files ≠ some x))).map ptF ++ (b.sets.filter (fun x : SetV => decide (getK (·.key) x.key a.sets ≠ some x))).map ptS) ++ ((b.svcs.take (i + 1)).filter (fun x : SvcV => decide (getK (·.name) x.name a.svcs ≠ some x))).map ptV).map encChg) tl := fun G' h hp => by rw [filt_no hx hp]; exact h
    have noE : (fun x : SvcV => decide (getK (·.name) x.name a.svcs ≠ some x)) x = false → (((a.files.filter (fun x : FileV => (getK (·.path) x.path b.files).isNone)).map rmF ++ (a.sets.filter (fun x : SetV => (getK (·.key) x.key b.sets).isNone)).map rmS ++ (a.svcs.filter (fun x : SvcV => (getK (·.name) x.name b.svcs).isNone)).map rmV ++ (b.files.filter (fun x : FileV => decide (getK (·.path) x.path a.files ≠ some x))).map ptF ++ (b.sets.filter (fun x : SetV => decide (getK (·.key) x.key a.sets ≠ some x))).map ptS) ++ ((b.svcs.take (i + 1)).filter (fun x : SvcV => decide (getK (·.name) x.name a.svcs ≠ some x))).map ptV).map encChg = (((a.files.filter (fun x : FileV => (getK (·.path) x.path b.files).isNone)).map rmF ++ (a.sets.filter (fun x : SetV => (getK (·.key) x.key b.sets).isNone)).map rmS ++ (a.svcs.filter (fun x : SvcV => (getK (·.name) x.name b.svcs).isNone)).map rmV ++ (b.files.filter (fun x : FileV => decide (getK (·.path) x.path a.files ≠ some x))).map ptF ++ (b.sets.filter (fun x : SetV => decide (getK (·.key) x.key a.sets ≠ some x))).map ptS) ++ ((b.svcs.take i).filter (fun x : SvcV => decide (getK (·.name) x.name a.svcs ≠ some x))).map ptV).map encChg := fun hp => by rw [filt_no hx hp]
    have yes : (fun x : SvcV => decide (getK (·.name) x.name a.svcs ≠ some x)) x = true → (((a.files.filter (fun x : FileV => (getK (·.path) x.path b.files).isNone)).map rmF ++ (a.sets.filter (fun x : SetV => (getK (·.key) x.key b.sets).isNone)).map rmS ++ (a.svcs.filter (fun x : SvcV => (getK (·.name) x.name b.svcs).isNone)).map rmV ++ (b.files.filter (fun x : FileV => decide (getK (·.path) x.path a.files ≠ some x))).map ptF ++ (b.sets.filter (fun x : SetV => decide (getK (·.key) x.key a.sets ≠ some x))).map ptS) ++ ((b.svcs.take i).filter (fun x : SvcV => decide (getK (·.name) x.name a.svcs ≠ some x))).map ptV).map encChg ++ [encChg (ptV x)] = (((a.files.filter (fun x : FileV => (getK (·.path) x.path b.files).isNone)).map rmF ++ (a.sets.filter (fun x : SetV => (getK (·.key) x.key b.sets).isNone)).map rmS ++ (a.svcs.filter (fun x : SvcV => (getK (·.name) x.name b.svcs).isNone)).map rmV ++ (b.files.filter (fun x : FileV => decide (getK (·.path) x.path a.files ≠ some x))).map ptF ++ (b.sets.filter (fun x : SetV => decide (getK (·.key) x.key a.sets ≠ some x))).map ptS) ++ ((b.svcs.take (i + 1)).filter (fun x : SvcV => decide (getK (·.name) x.name a.svcs ≠ some x))).map ptV).map encChg := fun hp => by rw [filt_yes hx hp]; simp
    obtain ⟨es', k1', u1'⟩ := hT.w.v
    have hg' : mget es' (.s x.name) = some (.agg (encSvc x)) := by rw [u1'.get, getK_at u1'.1 hx]; rfl
    cases ho : getK (·.name) x.name a.svcs with
    | none =>
      rw [ho] at hg
      simp only [Option.map_none] at hg
      have yes := yes (by simp [ho])
      simp only [encChg, ptV, FileV.zero, SetV.zero, SvcV.zero] at yes
      have hex : encSvc x = encSvc x := rfl
      rw [encSvc] at hg'
      simp -implicitDefEqProofs only [go_sem, reduceEqDiff, reduceAdd, reduceLeDiff, reduceLT, reduceMul, reduceEq, Int.reduceLT, reduceLE, Int.reduceAdd, reduceSub, reduceToNat, UInt8.reduceToNat, e5, e6, e7, ea, eb, ec, y0, hx2, hU, kv, kw, k1, hg]
      with_reducible refine nwC_intro fun i5 hi5 => ?_
      replace hO := hO.put hi5 (.cells [.str [], .str [], .bool false, .bool false])
      replace hT := hT.put hi5 (.cells [.str [], .str [], .bool false, .bool false])
      try simp -implicitDefEqProofs only [go_sem, reduceEqDiff, reduceAdd, reduceLeDiff, reduceLT, reduceMul, reduceEq, Int.reduceLT, reduceLE, Int.reduceAdd, reduceSub, reduceToNat, UInt8.reduceToNat]
      generalize G.put i5 (.cells [.str [], .str [], .bool false, .bool false]) = G6 at *
      have kv := hT.v.w
      have kw := hT.w.w
      obtain ⟨es9, k9, u9⟩ := hT.w.v
      have hg9 : mget es9 (.s x.name) = some (.agg (encSvc x)) := by rw [u9.get, getK_at u9.1 hx]; rfl
      rw [encSvc] at hg9
      rw [acode_tree (t := rdO2) rfl (by rfl)]
      simp -implicitDefEqProofs only [go_sem, reduceEqDiff, reduceAdd, reduceLeDiff, reduceLT, reduceMul, reduceEq, Int.reduceLT, reduceLE, Int.reduceAdd, reduceSub, reduceToNat, UInt8.reduceToNat, e5, e6, e7, ea, eb, ec, kv, kw, k9, hg9, rdO2, stripO]
      refine AppOK.step hO (fun z hz => by obtain ⟨q, -, rfl⟩ := List.mem_map.1 hz; rfl) (by simp) (by rw [List.length_map]; simp at hlen ⊢; omega) (by rw [List.length_map]; simp at hlen ⊢; omega) fun tl' G' hO' hK => ?_
      rw [yes] at hO' ⊢
      simp -implicitDefEqProofs only [go_sem, reduceEqDiff, reduceAdd, reduceLeDiff, reduceLT, reduceMul, reduceEq, Int.reduceLT, reduceLE, Int.reduceAdd, reduceSub, reduceToNat, UInt8.reduceToNat, e5, e6, e7, ea, eb, ec, ws]
      exact Again.mk (i + 1, tl') (by simp -implicitDefEqProofs only [go_sem, reduceEqDiff, reduceAdd, reduceLeDiff, reduceLT, reduceMul, reduceEq, Int.reduceLT, reduceLE, Int.reduceAdd, reduceSub, reduceToNat, UInt8.reduceToNat, e5, e6, e7, ea, eb, ec]) ⟨by simp only; omega, hO', hT.kept hO'.sub hK⟩ (by simp only; omega)
    | some y =>
      rw [ho] at hg
      simp only [Option.map_some] at hg
      have hyk := getK_key ho
      try simp only at hyk
      have hn := fun cx cy => eqSvc_calls_ne cx cy y x
      have hgy : encSvc y = encSvc y := rfl
      rw [encSvc] at hg
      rw [show encSvc y = _ from encSvc.eq_1 y, show encSvc x = _ from encSvc.eq_1 x] at hn
      simp -implicitDefEqProofs only [go_sem, reduceEqDiff, reduceAdd, reduceLeDiff, reduceLT, reduceMul, reduceEq, Int.reduceLT, reduceLE, Int.reduceAdd, reduceSub, reduceToNat, UInt8.reduceToNat, e5, e6, e7, ea, eb, ec, y0, hx2, hU, kv, kw, k1, hg]
      with_reducible refine nwC_intro fun i5 hi5 => ?_
      replace hO := hO.put hi5 (.cells (encSvc y))
      replace hT := hT.put hi5 (.cells (encSvc y))
      have g5 := put_same G i5 (.cells (encSvc y))
      rw [encSvc] at hO hT g5
      try simp -implicitDefEqProofs only [go_sem, reduceEqDiff, reduceAdd, reduceLeDiff, reduceLT, reduceMul, reduceEq, Int.reduceLT, reduceLE, Int.reduceAdd, reduceSub, reduceToNat, UInt8.reduceToNat]
      generalize G.put i5 _ = G6 at *
      have kv := hT.v.w
      have kw := hT.w.w
      obtain ⟨es9, k9, u9⟩ := hT.w.v
      have hg9 : mget es9 (.s x.name) = some (.agg (encSvc x)) := by rw [u9.get, getK_at u9.1 hx]; rfl
      rw [encSvc] at hg9
      by_cases c : y = x
      · have yc : decide (¬ y = x) = false := decide_eq_false (by simpa using c)
        have hpf : (fun x : SvcV => decide (getK (·.name) x.name a.svcs ≠ some x)) x = false := by simp [ho, c]
        have noE := noE hpf
        rw [acode_tree (t := rdO2) rfl (by rfl)]
        simp -implicitDefEqProofs only [go_sem, reduceEqDiff, reduceAdd, reduceLeDiff, reduceLT, reduceMul, reduceEq, Int.reduceLT, reduceLE, Int.reduceAdd, reduceSub, reduceToNat, UInt8.reduceToNat, e5, e6, e7, ea, eb, ec, kv, kw, k9, hg9, g5, hn, yc, ws, rdO2, stripO]
        exact Again.mk (i + 1, tl) (by simp -implicitDefEqProofs only [go_sem, reduceEqDiff, reduceAdd, reduceLeDiff, reduceLT, reduceMul, reduceEq, Int.reduceLT, reduceLE, Int.reduceAdd, reduceSub, reduceToNat, UInt8.reduceToNat, e5, e6, e7, ea, eb, ec, noE]) ⟨by simp only; omega, no _ hO hpf, hT⟩ (by simp only; omega)
      · have yc : decide (¬ y = x) = true := decide_eq_true c
        have yes := yes (by simp [ho, c])
        simp only [encChg, ptV, FileV.zero, SetV.zero, SvcV.zero] at yes
        rw [acode_tree (t := rdO2) rfl (by rfl)]
        simp -implicitDefEqProofs only [go_sem, reduceEqDiff, reduceAdd, reduceLeDiff, reduceLT, reduceMul, reduceEq, Int.reduceLT, reduceLE, Int.reduceAdd, reduceSub, reduceToNat, UInt8.reduceToNat, e5, e6, e7, ea, eb, ec, kv, kw, k9, hg9, g5, hn, yc, rdO2, stripO]
        refine AppOK.step hO (fun z hz => by obtain ⟨q, -, rfl⟩ := List.mem_map.1 hz; rfl) (by simp) (by rw [List.length_map]; simp at hlen ⊢; omega) (by rw [List.length_map]; simp at hlen ⊢; omega) fun tl' G' hO' hK => ?_
        rw [yes] at hO' ⊢
        simp -implicitDefEqProofs only [go_sem, reduceEqDiff, reduceAdd, reduceLeDiff, reduceLT, reduceMul, reduceEq, Int.reduceLT, reduceLE, Int.reduceAdd, reduceSub, reduceToNat, UInt8.reduceToNat, e5, e6, e7, ea, eb, ec, ws]
        exact Again.mk (i + 1, tl') (by simp -implicitDefEqProofs only [go_sem, reduceEqDiff, reduceAdd, reduceLeDiff, reduceLT, reduceMul, reduceEq, Int.reduceLT, reduceLE, Int.reduceAdd, reduceSub, reduceToNat, UInt8.reduceToNat, e5, e6, e7, ea, eb, ec]) ⟨by simp only; omega, hO', hT.kept hO'.sub hK⟩ (by simp only; omega)
  clear hO hT e5 e6 e7
  rintro r G ⟨tl, hO, hT, e5, e6, e7⟩
  have kv := hT.v.w
  have kw := hT.w.w
  simp -implicitDefEqProofs only [go_sem, reduceEqDiff, reduceAdd, reduceLeDiff, reduceLT, reduceMul, reduceEq, Int.reduceLT, reduceLE, Int.reduceAdd, reduceSub, reduceToNat, UInt8.reduceToNat, e5, e6, e7, kv, kw]
  exact Done.wk 1 (Done.drop (fun i o hi => hO.sub _ _ (hS i o hi)) ⟨rfl, rfl⟩)
end Go.Proofs
