/-
  Walks and plain laws, part 3.
-/
import Derived.Test.YtmcnfdbohkobaaaGreatDoorM2
import Derived.Test.YtmcnfdbohkobaaaGreatDoorM1
import Derived.Test.YtmcnfdbohkobaaaGreatDoorAbs4
import Derived.Test.YtmcnfdbohkobaaaGreatDoorTy
import Derived.IntWalk
import Derived.Lib.MakeNoZero
import Derived.Lib.Builder
/- Walks: changes and items, of the program and of the reference. -/
namespace Go.Proofs
open Go Go.Abs
set_option linter.unusedSimpArgs false
set_option linter.unusedVariables false
def encIn (n : Int) : List AV := [.int .i64 n]
def decIn : List AV → Option Int
  | [.int .i64 n] => some n
  | _ => none
theorem decIn_some {c : List AV} {n : Int} (h : decIn c = some n) : c = encIn n := by
  unfold decIn at h; split at h
  · cases h; rfl
  · cases h
theorem firstOf_at {l : List Int} {i : Nat} {e : Int} (h : firstOf (l.take i) = 0) (he : l[i]? = some e) (hne : e ≠ 0) : firstOf l = e := by
  induction l generalizing i with
  | nil => simp at he
  | cons d l ih =>
    cases i with
    | zero => simp at he; subst he; simp [firstOf, hne]
    | succ i =>
      simp only [List.take_succ_cons, firstOf] at h
      split at h
      · rename_i hd; simp only [firstOf, hd, if_true]; exact ih h (by simpa using he)
      · exact absurd h ‹_›
theorem firstOf_succ {l : List Int} {i : Nat} {e : Int} (h : firstOf (l.take i) = 0) (he : l[i]? = some e) (h0 : e = 0) : firstOf (l.take (i + 1)) = 0 := by
  induction l generalizing i with
  | nil => simp at he
  | cons d l ih =>
    cases i with
    | zero => simp at he; subst he; simp [firstOf, h0]
    | succ i =>
      simp only [List.take_succ_cons, firstOf] at h ⊢
      split at h
      · rename_i hd; simp only [hd, if_true]; exact ih h (by simpa using he)
      · exact absurd h ‹_›
theorem first_calls (l : List Int) (t : Tail) (H : Heap) (hl : l.length ≤ 1099511627776) : ACalls Tryz.prog 50 [.sl (l.map encIn) t] H fun x H' => x = .int .i64 (firstOf l) ∧ H' = H := by
  refine ACalls.of_code (X := { pure := puM }) puM_ok Tryz.func50 (by kernel_rfl) rfl (by kernel_rfl) (Nat.le_of_ble_eq_true rfl) ?_
  simp -implicitDefEqProofs only [go_sem, Tryz.f50]
  refine aloop_intro (σ := Nat) (fun i => [(5, .sl (l.map encIn) t), (6, .int .i64 l.length), (7, .int .i64 i)]) (fun i G => G = H ∧ i ≤ l.length ∧ firstOf (l.take i) = 0) (fun i => l.length - i) 0 ?_ ?_ ?_
  · simp -implicitDefEqProofs only [go_sem]
  · simp [firstOf]
  · intro i r G hv hI
    have h5 := hv.1
    have h6 := hv.2.1
    have h7 := hv.2.2.1
    have hG := hI.1.symm
    have hi := hI.2.1
    have hz := hI.2.2
    clear hv hI
    subst hG
    simp -implicitDefEqProofs only [go_sem, h5, h6, h7]
    refine cnd_intro (fun h => ?_) (fun h => ?_)
    · simp only [decide_eq_true_eq] at h
      obtain ⟨c, hc⟩ : ∃ c, l[i]? = some c := ⟨l[i]'(by omega), List.getElem?_eq_getElem _⟩
      simp -implicitDefEqProofs only [go_sem, h5, h6, h7, hc, encIn]
      refine cnd_intro (fun g => ?_) (fun g => ?_)
      · simp -implicitDefEqProofs only [go_sem, h5, h6, h7, hc]
        simp only [decide_eq_true_eq] at g
        exact Done.now ⟨by rw [firstOf_at hz hc g], rfl⟩
      · simp -implicitDefEqProofs (disch := omega) only [go_sem, Go.IntWalk.i64_in, h5, h6, h7, hc]
        simp only [decide_eq_false_iff_not, Decidable.not_not] at g
        exact Again.mk (i + 1) (by simp -implicitDefEqProofs only [go_sem, h5, h6, h7]; exact rfl) ⟨rfl, by omega, firstOf_succ hz hc g⟩ (by omega)
    · simp only [decide_eq_false_iff_not] at h
      have e : i = l.length := by omega
      subst e
      rw [List.take_length] at hz
      simp -implicitDefEqProofs only [go_sem, h5, h6, h7]
      exact Done.now ⟨by rw [hz], rfl⟩
theorem when_calls (b : Bool) (e : Int) (H : Heap) : ACalls Tryz.prog 49 [.bool b, .int .i64 e] H fun x H' => x = .int .i64 (if b then e else 0) ∧ H' = H := by
  refine ACalls.of_code (X := { pure := puM }) puM_ok Tryz.func49 (by kernel_rfl) rfl (by kernel_rfl) (Nat.le_of_ble_eq_true rfl) ?_
  simp -implicitDefEqProofs only [go_sem, Tryz.f49]
  repeat' (first | (with_reducible refine gd_intro (fun h => ?_) (fun h => ?_) <;> first | (exact absurd h (by decide)) | (simp at h; done) | simp -implicitDefEqProofs (disch := omega) only [go_sem, Go.IntWalk.i64_in, *]) | (with_reducible refine cnd_intro (fun h => ?_) (fun h => ?_) <;> first | (exact absurd h (by decide)) | (simp at h; done) | simp -implicitDefEqProofs (disch := omega) only [go_sem, Go.IntWalk.i64_in, *]))
  all_goals (refine Done.now ⟨?_, rfl⟩; simp [*])
def sWhen : List AV → Option AV := fn2 .bool (.int .i64) fun b e => some (.int .i64 (if b then e else 0))
def sFirst : List AV → Option AV := fn1 (Rd.list decIn) fun l => if l.length ≤ 1099511627776 then some (.int .i64 (firstOf l)) else none
theorem sWhen_eq (b : Bool) (e : Int) : sWhen [.bool b, .int .i64 e] = some (.int .i64 (if b then e else 0)) := rfl
theorem decL_nil {α : Type} (d : List AV → Option α) : decL d [] = some [] := rfl
theorem decL_cons {α : Type} (d : List AV → Option α) (c : List AV) (es : List (List AV)) : decL d (c :: es) = (d c).bind fun a => (decL d es).map (a :: ·) := by
  rw [decL]
  cases d c <;> cases decL d es <;> rfl
theorem rdL_eq {α : Type} (d : List AV → Option α) (es : List (List AV)) (t : Tail) : (Rd.list d).rd (.sl es t) = decL d es := rfl
theorem decIn_eq (n : Int) : decIn [.int .i64 n] = some n := rfl
attribute [go_sem] decL_nil decL_cons rdL_eq decIn_eq
def sFileE : List AV → Option AV := fn1 (Rd.agg decFile) fun f => if fileR f then some (.int .i64 (fileErr f)) else none
def sSetE : List AV → Option AV := fn1 (Rd.agg decSet) fun f => if setR f then some (.int .i64 (setErr f)) else none
def sSvcE : List AV → Option AV := fn1 (Rd.agg decSvc) fun f => if svcR f then some (.int .i64 (svcErr f)) else none
def sSetF : List AV → Option AV
  | [x, .func f []] => ((Rd.agg decSet).rd x).bind fun s => if setR s then (if f = 72 then some (.int .i64 (setErr s)) else none) else none
  | _ => none
theorem sFileE_ok {P : Program} {f : FuncId} (h : ∀ a H, fileR a → ACalls P f [.agg (encFile a)] H fun x H' => x = .int .i64 (fileErr a) ∧ H' = H) : ∀ xs v, sFileE xs = some v → ∀ H, ACalls P f xs H fun x H' => x = v ∧ H' = H := by
  intro xs v hv H
  obtain ⟨x, s, rfl, h1, h2⟩ := fn1_some hv
  split at h2
  · cases h2; cases Rd.agg_some (fun _ _ => decFile_some) h1; exact h s H ‹_›
  · cases h2
theorem sSetE_ok {P : Program} {f : FuncId} (h : ∀ a H, setR a → ACalls P f [.agg (encSet a)] H fun x H' => x = .int .i64 (setErr a) ∧ H' = H) : ∀ xs v, sSetE xs = some v → ∀ H, ACalls P f xs H fun x H' => x = v ∧ H' = H := by
  intro xs v hv H
  obtain ⟨x, s, rfl, h1, h2⟩ := fn1_some hv
  split at h2
  · cases h2; cases Rd.agg_some (fun _ _ => decSet_some) h1; exact h s H ‹_›
  · cases h2
theorem sSvcE_ok {P : Program} {f : FuncId} (h : ∀ a H, svcR a → ACalls P f [.agg (encSvc a)] H fun x H' => x = .int .i64 (svcErr a) ∧ H' = H) : ∀ xs v, sSvcE xs = some v → ∀ H, ACalls P f xs H fun x H' => x = v ∧ H' = H := by
  intro xs v hv H
  obtain ⟨x, s, rfl, h1, h2⟩ := fn1_some hv
  split at h2
  · cases h2; cases Rd.agg_some (fun _ _ => decSvc_some) h1; exact h s H ‹_›
  · cases h2
def puC1 : Pures := putP 68 sFileE (putP 66 sSetF (putP 74 sSvcE (putP 50 sFirst (putP 49 sWhen puM))))
theorem puC1_dyn : isDyn puC1 = false := by simp only [puC1, go_sem, Nat.reduceEqDiff]
attribute [go_sem] puC1_dyn
theorem sWhen_ok {P : Program} {f : FuncId} (h : ∀ b e H, ACalls P f [.bool b, .int .i64 e] H fun x H' => x = .int .i64 (if b then e else 0) ∧ H' = H) : ∀ xs v, sWhen xs = some v → ∀ H, ACalls P f xs H fun x H' => x = v ∧ H' = H := by
  intro xs v hv H
  obtain ⟨x, y, p, q, rfl, h1, h2, h3⟩ := fn2_some hv
  cases h3
  cases Rd.bool_some h1
  cases Rd.int_some h2
  exact h _ _ H
theorem sFirst_ok {P : Program} {f : FuncId} (h : ∀ l t H, l.length ≤ 1099511627776 → ACalls P f [.sl (l.map encIn) t] H fun x H' => x = .int .i64 (firstOf l) ∧ H' = H) : ∀ xs v, sFirst xs = some v → ∀ H, ACalls P f xs H fun x H' => x = v ∧ H' = H := by
  intro xs v hv H
  obtain ⟨x, l, rfl, h1, h2⟩ := fn1_some hv
  split at h2
  · rename_i hl
    cases h2
    obtain ⟨t, rfl⟩ := Rd.list_some (fun _ _ => decIn_some) h1
    exact h l t H hl
  · cases h2
theorem sSetF_ok : ∀ xs v, sSetF xs = some v → ∀ H, ACalls Tryz.prog 66 xs H fun x H' => x = v ∧ H' = H := by
  intro xs v hv H
  unfold sSetF at hv
  split at hv
  · rename_i x f
    rw [Option.bind_eq_some_iff] at hv
    obtain ⟨s, h1, h2⟩ := hv
    split at h2
    · rename_i hr
      split at h2
      · rename_i hf
        subst hf
        cases h2
        cases Rd.agg_some (fun _ _ => decSet_some) h1
        exact settingFault_calls s H hr
      · cases h2
    · cases h2
  · cases hv
theorem puC1_ok : PuOK Tryz.prog puC1 := .put (.put (.put (.put (.put (puM_ok) (sWhen_ok when_calls)) (sFirst_ok first_calls)) (sSvcE_ok serviceFault_calls)) sSetF_ok) (sFileE_ok fileFault_calls)
theorem rFileError_calls (f : FileV) (H : Heap) (hr : fileR f) : ACalls Tryz.prog 51 [.agg (encFile f)] H fun x H' => x = .int .i64 (fileErr f) ∧ H' = H := by
  obtain ⟨h1, h2⟩ := hr
  have hR : Room = 1099511627776 := rfl
  refine ACalls.of_code (X := { pure := puC1 }) puC1_ok Tryz.func51 (by kernel_rfl) rfl (by kernel_rfl) (Nat.le_of_ble_eq_true rfl) ?_
  simp -implicitDefEqProofs only [go_sem, Tryz.f51, puC1, puM, puN, puR1, encFile, sStr_eq, sWhen_eq, sFirst, hR, h1]
  with_reducible refine nwC_intro fun id hid => ?_
  simp -implicitDefEqProofs (disch := omega) only [go_sem, Go.IntWalk.i64_in, puC1, puM, puN, puR1, sStr_eq, sWhen_eq, sFirst, hR, *]
  refine Done.drop1 hid ⟨?_, rfl⟩
  simp only [firstOf, fileErr]
  repeat' split
  all_goals simp_all
theorem rSettingError_calls (f : SetV) (H : Heap) (hr : setR f) : ACalls Tryz.prog 52 [.agg (encSet f)] H fun x H' => x = .int .i64 (setErr f) ∧ H' = H := by
  obtain ⟨h1, h2⟩ := hr
  have hR : Room = 1099511627776 := rfl
  refine ACalls.of_code (X := { pure := puC1 }) puC1_ok Tryz.func52 (by kernel_rfl) rfl (by kernel_rfl) (Nat.le_of_ble_eq_true rfl) ?_
  simp -implicitDefEqProofs only [go_sem, Tryz.f52, puC1, puM, puN, puR1, encSet, sStr_eq, sWhen_eq, sFirst, hR, h1]
  with_reducible refine nwC_intro fun id hid => ?_
  simp -implicitDefEqProofs (disch := omega) only [go_sem, Go.IntWalk.i64_in, puC1, puM, puN, puR1, sStr_eq, sWhen_eq, sFirst, hR, *]
  refine Done.drop1 hid ⟨?_, rfl⟩
  simp only [firstOf, setErr]
  repeat' split
  all_goals simp_all
theorem rServiceError_calls (f : SvcV) (H : Heap) (hr : svcR f) : ACalls Tryz.prog 53 [.agg (encSvc f)] H fun x H' => x = .int .i64 (svcErr f) ∧ H' = H := by
  obtain ⟨h1, h2⟩ := hr
  have hR : Room = 1099511627776 := rfl
  refine ACalls.of_code (X := { pure := puC1 }) puC1_ok Tryz.func53 (by kernel_rfl) rfl (by kernel_rfl) (Nat.le_of_ble_eq_true rfl) ?_
  simp -implicitDefEqProofs only [go_sem, Tryz.f53, puC1, puM, puN, puR1, encSvc, sStr_eq, sWhen_eq, sFirst, hR, h1]
  with_reducible refine nwC_intro fun id hid => ?_
  simp -implicitDefEqProofs (disch := omega) only [go_sem, Go.IntWalk.i64_in, puC1, puM, puN, puR1, sStr_eq, sWhen_eq, sFirst, hR, *]
  repeat' (first | (with_reducible refine gd_intro (fun h => ?_) (fun h => ?_) <;> first | (exact absurd h (by decide)) | (simp at h; done) | simp -implicitDefEqProofs (disch := omega) only [go_sem, Go.IntWalk.i64_in, puC1, puM, puN, puR1, sStr_eq, sWhen_eq, sFirst, hR, *]) | (with_reducible refine cnd_intro (fun h => ?_) (fun h => ?_) <;> first | (exact absurd h (by decide)) | (simp at h; done) | simp -implicitDefEqProofs (disch := omega) only [go_sem, Go.IntWalk.i64_in, puC1, puM, puN, puR1, sStr_eq, sWhen_eq, sFirst, hR, *]))
  all_goals refine Done.drop1 hid ⟨?_, rfl⟩
  all_goals (simp only [svcErr]; simp_all)
def puC2 : Pures := putP 51 sFileE (putP 52 sSetE (putP 53 sSvcE puC1))
theorem puC2_dyn : isDyn puC2 = false := by simp only [puC2, go_sem, Nat.reduceEqDiff]
attribute [go_sem] puC2_dyn
theorem puC2_ok : PuOK Tryz.prog puC2 := .put (.put (.put (puC1_ok) (sSvcE_ok rServiceError_calls)) (sSetE_ok rSettingError_calls)) (sFileE_ok rFileError_calls)
theorem neq_lit (cx cy : Bool) (k : Int) (a b : Bytes) (r : Bool) (x y p q : Bytes) (u v : Bool) (k' : Int) (a' b' : Bytes) (r' : Bool) (x' y' p' q' : Bytes) (u' v' : Bool) :
    bin Tryz.prog .neq 61 cx cy (.agg [.int .i64 k, .str a, .str b, .bool r, .str x, .str y, .str p, .str q, .bool u, .bool v]) (.agg [.int .i64 k', .str a', .str b', .bool r', .str x', .str y', .str p', .str q', .bool u', .bool v']) =
      some (.bool (!decide ((⟨k, ⟨a, b, r⟩, ⟨x, y⟩, ⟨p, q, u, v⟩⟩ : ChgV) = ⟨k', ⟨a', b', r'⟩, ⟨x', y'⟩, ⟨p', q', u', v'⟩⟩))) :=
  neq_chg cx cy ⟨k, ⟨a, b, r⟩, ⟨x, y⟩, ⟨p, q, u, v⟩⟩ ⟨k', ⟨a', b', r'⟩, ⟨x', y'⟩, ⟨p', q', u', v'⟩⟩
theorem decFile_eq (a b : Bytes) (c : Bool) : decFile [.str a, .str b, .bool c] = some ⟨a, b, c⟩ := rfl
theorem decSet_eq (a b : Bytes) : decSet [.str a, .str b] = some ⟨a, b⟩ := rfl
theorem decSvc_eq (a b : Bytes) (c d : Bool) : decSvc [.str a, .str b, .bool c, .bool d] = some ⟨a, b, c, d⟩ := rfl
theorem decChg_eq (k : Int) (a b : Bytes) (r : Bool) (x y p q : Bytes) (u v : Bool) : decChg [.int .i64 k, .str a, .str b, .bool r, .str x, .str y, .str p, .str q, .bool u, .bool v] = some ⟨k, ⟨a, b, r⟩, ⟨x, y⟩, ⟨p, q, u, v⟩⟩ := rfl
attribute [go_sem] decFile_eq decSet_eq decSvc_eq decChg_eq
set_option maxHeartbeats 3200000 in
theorem rChangeError_calls (c : ChgV) (H : Heap) (hr : chgR c) : ACalls Tryz.prog 89 [.agg (encChg c)] H fun x H' => x = .int .i64 (chgErr c) ∧ H' = H := by
  obtain ⟨k, ⟨a, b, r⟩, ⟨x, y⟩, ⟨p, q, u, v⟩⟩ := c
  obtain ⟨h1, h2, h3⟩ := hr
  have hR : Room = 1099511627776 := rfl
  have g1 : a.length ≤ 1099511627776 := h1.1
  have g2 : x.length ≤ 1099511627776 := h2.1
  have g3 : p.length ≤ 1099511627776 := h3.1
  simp only at h1 h2 h3
  refine ACalls.of_code (X := { pure := puC2 }) puC2_ok Tryz.func89 (by kernel_rfl) rfl (by kernel_rfl) (Nat.le_of_ble_eq_true rfl) ?_
  simp -implicitDefEqProofs only [go_sem, Tryz.f89, encChg]
  with_reducible refine nwC_intro fun id hid => ?_
  simp -implicitDefEqProofs only [go_sem]
  with_reducible refine nwC_intro fun id2 hid2 => ?_
  have n1 := (heap_none hid2).1
  have n2 := (heap_none hid2).2.1
  have hid3 := (heap_none hid2).2.2
  clear hid2
  simp -implicitDefEqProofs only [go_sem, puC2, puC1, sFileE, sSetE, sSvcE, put_ne, n1, n2]
  repeat' (first | (with_reducible refine gd_intro (fun h => ?_) (fun h => ?_) <;> first | (exact absurd h (by decide)) | (simp at h; done) | simp -implicitDefEqProofs (disch := omega) only [go_sem, Go.IntWalk.i64_in, puC2, puC1, puM, puN, puR1, sFileE, sSetE, sSvcE, sStr_eq, sWhen_eq, sFirst, put_ne, n1, n2, neq_lit, hR, *]) | (with_reducible refine cnd_intro (fun h => ?_) (fun h => ?_) <;> first | (exact absurd h (by decide)) | (simp at h; done) | simp -implicitDefEqProofs (disch := omega) only [go_sem, Go.IntWalk.i64_in, puC2, puC1, puM, puN, puR1, sFileE, sSetE, sSvcE, sStr_eq, sWhen_eq, sFirst, put_ne, n1, n2, neq_lit, hR, *]))
  all_goals refine Done.drop2 hid hid3 ⟨?_, rfl⟩
  all_goals clear hid hid3 n1 n2
  all_goals congr 1
  all_goals simp only [decide_eq_true_eq, decide_eq_false_iff_not, Bool.not_eq_true', Bool.not_eq_false'] at *
  all_goals first
    | (rw [chgErr, if_pos (by simp only []; omega)]; done)
    | (subst k
       simp only [firstOf, chgErr, partErr, kept, FileV.zero, SetV.zero, SvcV.zero, pathErr, nameErr]
       repeat' split
       all_goals simp_all)
end Go.Proofs

/- Small things: objects by name; pure functions by what they answer. -/
namespace Go.Proofs
open Go Go.Abs
set_option linter.unusedSimpArgs false
set_option linter.unusedVariables false
theorem getD_get' {α : Type} {l : List α} {i : Nat} (h : i < l.length) : ∃ c, l[i]? = some c := ⟨l[i], List.getElem?_eq_getElem h⟩
theorem sub_none {H G : Heap} (h : H.Sub G) {i : Nat} (hi : G i = none) : H i = none := by
  cases hh : H i with
  | none => rfl
  | some x => have := h i x hh; rw [hi] at this; cases this
theorem put_self {H : Heap} {i : Nat} {a : AObj} (h : H i = some a) : H.put i a = H := by
  funext k
  unfold Heap.put
  split
  · rename_i e; rw [e, h]
  · rfl
theorem obj_new {H0 H G : Heap} {id : Nat} {o : AObj} (e : H.put id o = G) (hid : H id = none) (hS : H0.Sub H) : H0 id = none ∧ H0.Sub G ∧ G id = some o ∧ H.Sub G := by
  subst e
  exact ⟨sub_none hS hid, hS.put' (sub_none hS hid) o, put_same _ _ _, (Heap.Sub.rfl' H).put' hid o⟩
theorem obj_ne {G : Heap} {i j : Nat} {o : AObj} (hi : G i = some o) (hj : G j = none) : ¬ i = j := fun e => by rw [e, hj] at hi; cases hi
theorem obj_sub {H0 H G : Heap} {id : Nat} {o : AObj} (e : H.put id o = G) (hid : H0 id = none) (hS : H0.Sub H) : H0.Sub G := by
  subst e
  exact hS.put' hid o
theorem obj_at {H G : Heap} {id : Nat} {o : AObj} (e : H.put id o = G) : G id = some o := by
  subst e
  exact put_same _ _ _
theorem obj_keep {H G : Heap} {id i : Nat} {o x : AObj} (e : H.put id o = G) (hne : ¬ i = id) (h : H i = some x) : G i = some x := by
  subst e
  rw [put_ne _ _ _ _ hne]; exact h
/-- A function that answers one thing and leaves the heap alone, told by how its arguments are written. -/
def Pur (P : Program) (f : FuncId) (s : List AV → Option AV) : Prop := ∀ xs v, s xs = some v → ∀ H, ACalls P f xs H fun x H' => x = v ∧ H' = H
noncomputable def spF {α : Type} (enc : α → List AV) (pre : α → Prop) (F : α → AV) : List AV → Option AV :=
  open Classical in fun xs => if h : ∃ a, enc a = xs ∧ pre a then some (F h.choose) else none
theorem spF_eq {α : Type} {enc : α → List AV} {pre : α → Prop} {F : α → AV} (inj : ∀ a b, enc a = enc b → F a = F b) (a : α) (h : pre a) : spF enc pre F (enc a) = some (F a) := by
  have hx : ∃ b, enc b = enc a ∧ pre b := ⟨a, rfl, h⟩
  unfold spF
  rw [dif_pos hx, inj _ _ hx.choose_spec.1]
theorem spF_ok {P : Program} {f : FuncId} {α : Type} {enc : α → List AV} {pre : α → Prop} {F : α → AV} (h : ∀ a H, pre a → ACalls P f (enc a) H fun x H' => x = F a ∧ H' = H) : Pur P f (spF enc pre F) := by
  intro xs v hv H
  unfold spF at hv
  split at hv
  · rename_i hx
    obtain ⟨h1, h2⟩ := hx.choose_spec
    cases hv
    have := h hx.choose H h2
    rw [h1] at this
    exact this
  · cases hv
theorem take_eq_succ {α : Type} {a b : List α} {i : Nat} {x y : α} (ha : a[i]? = some x) (hb : b[i]? = some y) : a.take (i + 1) = b.take (i + 1) ↔ a.take i = b.take i ∧ x = y := by
  rw [List.take_add_one, List.take_add_one, ha, hb]
  constructor
  · intro h
    have hl : (a.take i).length = (b.take i).length := by
      have h1 : i < a.length := (List.getElem?_eq_some_iff.1 ha).1
      have h2 : i < b.length := (List.getElem?_eq_some_iff.1 hb).1
      simp; omega
    have := List.append_inj h hl
    exact ⟨this.1, by simpa using this.2⟩
  · rintro ⟨h1, rfl⟩; rw [h1]
theorem get_some {α : Type} {l : List α} {i : Nat} (h : i < l.length) : ∃ x, l[i]? = some x := ⟨l[i], List.getElem?_eq_getElem h⟩
end Go.Proofs

/- Walks: Check, on the program's side. -/
namespace Go.Proofs
open Go Go.Abs
set_option linter.unusedSimpArgs false
set_option linter.unusedVariables false
set_option maxRecDepth 20000
def sFactE : List AV → Option AV := fn1 (Rd.agg decSet) fun f => if setR f then some (.int .i64 (factErr f)) else none
def sKeyO : List AV → Option AV := fn1 (Rd.agg decSet) fun f => some (.str f.key)
def sNameO : List AV → Option AV := fn1 (Rd.agg decSvc) fun f => some (.str f.name)
theorem sFactE_ok {P : Program} {f : FuncId} (h : ∀ a H, setR a → ACalls P f [.agg (encSet a)] H fun x H' => x = .int .i64 (factErr a) ∧ H' = H) : ∀ xs v, sFactE xs = some v → ∀ H, ACalls P f xs H fun x H' => x = v ∧ H' = H := by
  intro xs v hv H
  obtain ⟨x, s, rfl, h1, h2⟩ := fn1_some hv
  split at h2
  · cases h2; cases Rd.agg_some (fun _ _ => decSet_some) h1; exact h s H ‹_›
  · cases h2
theorem keyOf_calls (f : SetV) (H : Heap) : ACalls Tryz.prog 67 [.agg (encSet f)] H fun x H' => x = .str f.key ∧ H' = H := by
  refine ACalls.of_code (X := { pure := pu0 }) pu0_ok Tryz.func67 (by kernel_rfl) rfl (by kernel_rfl) (Nat.le_of_ble_eq_true rfl) ?_
  simp -implicitDefEqProofs only [go_sem, Tryz.f67, encSet]
  with_reducible refine nwC_intro fun i1 h1 => ?_
  simp -implicitDefEqProofs only [go_sem]
  exact Done.drop1 h1 ⟨rfl, rfl⟩
theorem nameOf_calls (f : SvcV) (H : Heap) : ACalls Tryz.prog 75 [.agg (encSvc f)] H fun x H' => x = .str f.name ∧ H' = H := by
  refine ACalls.of_code (X := { pure := pu0 }) pu0_ok Tryz.func75 (by kernel_rfl) rfl (by kernel_rfl) (Nat.le_of_ble_eq_true rfl) ?_
  simp -implicitDefEqProofs only [go_sem, Tryz.f75, encSvc]
  with_reducible refine nwC_intro fun i1 h1 => ?_
  simp -implicitDefEqProofs only [go_sem]
  exact Done.drop1 h1 ⟨rfl, rfl⟩
theorem sKeyO_ok {P : Program} {f : FuncId} (h : ∀ a H, ACalls P f [.agg (encSet a)] H fun x H' => x = .str a.key ∧ H' = H) : ∀ xs v, sKeyO xs = some v → ∀ H, ACalls P f xs H fun x H' => x = v ∧ H' = H := by
  intro xs v hv H
  obtain ⟨x, s, rfl, h1, h2⟩ := fn1_some hv
  cases h2; cases Rd.agg_some (fun _ _ => decSet_some) h1; exact h s H
theorem sNameO_ok {P : Program} {f : FuncId} (h : ∀ a H, ACalls P f [.agg (encSvc a)] H fun x H' => x = .str a.name ∧ H' = H) : ∀ xs v, sNameO xs = some v → ∀ H, ACalls P f xs H fun x H' => x = v ∧ H' = H := by
  intro xs v hv H
  obtain ⟨x, s, rfl, h1, h2⟩ := fn1_some hv
  cases h2; cases Rd.agg_some (fun _ _ => decSvc_some) h1; exact h s H
theorem setFaultN_calls (f : SetV) (H : Heap) (hr : setR f) : ACalls Tryz.prog 66 [.agg (encSet f), .func 15 []] H fun x H' => x = .int .i64 (factErr f) ∧ H' = H := by
  obtain ⟨h1, h2⟩ := hr
  have hR : Room = 1099511627776 := rfl
  refine ACalls.of_code (X := { pure := puM }) puM_ok Tryz.func66 (by kernel_rfl) rfl (by kernel_rfl) (Nat.le_of_ble_eq_true rfl) ?_
  simp -implicitDefEqProofs only [go_sem, Tryz.f66, encSet]
  with_reducible refine nwC_intro fun id hid => ?_
  simp -implicitDefEqProofs only [go_sem, puM, puN, sStr_eq, hR, h1, h2]
  repeat' (first | (with_reducible refine gd_intro (fun h => ?_) (fun h => ?_) <;> first | (exact absurd h (by decide)) | (simp at h; done) | simp -implicitDefEqProofs (disch := omega) only [go_sem, Go.IntWalk.i64_in, puM, puN, sStr_eq, hR, *]) | (with_reducible refine cnd_intro (fun h => ?_) (fun h => ?_) <;> first | (exact absurd h (by decide)) | (simp at h; done) | simp -implicitDefEqProofs (disch := omega) only [go_sem, Go.IntWalk.i64_in, puM, puN, sStr_eq, hR, *]))
  all_goals refine Done.drop1 hid ⟨?_, rfl⟩
  all_goals simp_all [factErr]
theorem check1_calls (f : SetV) (H : Heap) (hr : setR f) : ACalls Tryz.prog 65 [.agg (encSet f)] H fun x H' => x = .int .i64 (factErr f) ∧ H' = H := by
  refine ACalls.of_code (X := { pure := pu0 }) pu0_ok Tryz.func65 (by kernel_rfl) rfl (by kernel_rfl) (Nat.le_of_ble_eq_true rfl) ?_
  simp -implicitDefEqProofs only [go_sem, Tryz.f65, encSet]
  with_reducible refine nwC_intro fun i1 h1 => ?_
  simp -implicitDefEqProofs only [go_sem]
  refine (setFaultN_calls f _ hr).pure_next _ ?_
  simp -implicitDefEqProofs only [go_sem]
  exact Done.drop1 h1 ⟨rfl, rfl⟩
theorem check3_calls (f : SetV) (H : Heap) (hr : setR f) : ACalls Tryz.prog 71 [.agg (encSet f)] H fun x H' => x = .int .i64 (setErr f) ∧ H' = H := by
  refine ACalls.of_code (X := { pure := pu0 }) pu0_ok Tryz.func71 (by kernel_rfl) rfl (by kernel_rfl) (Nat.le_of_ble_eq_true rfl) ?_
  simp -implicitDefEqProofs only [go_sem, Tryz.f71, encSet]
  with_reducible refine nwC_intro fun i1 h1 => ?_
  simp -implicitDefEqProofs only [go_sem]
  refine (settingFault_calls f _ hr).pure_next _ ?_
  simp -implicitDefEqProofs only [go_sem]
  exact Done.drop1 h1 ⟨rfl, rfl⟩
def sNone : List AV → Option AV := fun _ => none
/-- A number that no function has, to say that what is called by way of a register is known. -/
theorem dyn_ok {P : Program} : ∀ xs v, sNone xs = some v → ∀ H, ACalls P 999999999 xs H fun x H' => x = v ∧ H' = H := fun xs v h => by cases h
noncomputable def puE : Pures := putP 999999999 sNone (putP 65 sFactE (putP 71 sSetE (putP 74 sSvcE (putP 67 sKeyO (putP 75 sNameO pu0)))))
theorem puE_dyn : isDyn puE = true := by simp only [puE, go_sem, Nat.reduceEqDiff]
attribute [go_sem] puE_dyn
theorem puE_ok : PuOK Tryz.prog puE := .put (.put (.put (.put (.put (.put (pu0_ok) (sNameO_ok nameOf_calls)) (sKeyO_ok keyOf_calls)) (sSvcE_ok serviceFault_calls)) (sSetE_ok check3_calls)) (sFactE_ok check1_calls)) dyn_ok
set_option maxHeartbeats 1600000 in
theorem eachFact_calls (l : List SetV) (t : Tail) (H : Heap) (hl : l.length ≤ 1099511627776) (hr : ∀ x ∈ l, setR x) : ACalls Tryz.prog 64 [.sl (l.map encSet) t, .func 65 [], .func 67 []] H fun x H' => x = .int .i64 (eachE factErr (·.key) none l) ∧ H' = H := by
  refine ACalls.of_code (X := { pure := puE }) puE_ok Tryz.func64 (by kernel_rfl) rfl (by kernel_rfl) (Nat.le_of_ble_eq_true rfl) ?_
  simp -implicitDefEqProofs only [go_sem, Tryz.f64]
  refine aloop_intro (σ := Nat) (fun i => [(0, .sl (l.map encSet) t), (1, .func 65 []), (2, .func 67 []), (10, .sl (l.map encSet) t), (11, .int .i64 l.length), (12, .int .i64 i)])
    (fun i G => H.Sub G ∧ i ≤ l.length ∧ eachE factErr (·.key) none l = eachE factErr (·.key) (prevK (·.key) l i) (l.drop i)) (fun i => l.length - i) 0 ?_ ?_ ?_
  · simp -implicitDefEqProofs only [go_sem]
  · exact ⟨Heap.Sub.rfl' H, Nat.zero_le _, rfl⟩
  rintro i r G hv ⟨hS, hi, hE⟩
  have h0 := hv.1
  have h1 := hv.2.1
  have h2 := hv.2.2.1
  have h10 := hv.2.2.2.1
  have h11 := hv.2.2.2.2.1
  have h12 := hv.2.2.2.2.2.1
  clear hv
  by_cases g : i < l.length
  rotate_left
  · have y0 : decide ((i : Int) < l.length) = false := decide_eq_false (by omega)
    obtain rfl : i = l.length := by omega
    rw [List.drop_length, eachE] at hE
    simp -implicitDefEqProofs only [go_sem, h0, h1, h2, h10, h11, h12, y0]
    exact Done.drop hS ⟨by rw [hE], rfl⟩
  have y0 : decide ((i : Int) < l.length) = true := decide_eq_true (by omega)
  obtain ⟨x, hx⟩ : ∃ x, l[i]? = some x := getD_get' g
  have hxr := hr x (List.mem_of_getElem? hx)
  have ws : IntKind.i64.wrap ((i : Int) + 1) = ((i + 1 : Nat) : Int) := by rw [Go.IntWalk.i64_in _ (by omega)]; omega
  rw [drop_at hx, eachE] at hE
  have hps := prevK_succ (·.key) hx
  have hU : ∀ (a : SetV), a ∈ l → (encSet a).length = 2 := fun _ _ => rfl
  obtain ⟨xkey, xvalue⟩ := x
  simp -implicitDefEqProofs only [go_sem, h0, h1, h2, h10, h11, h12, y0, hx]
  refine ⟨hU, Nat.le_refl _, ?_⟩
  simp only [encSet, List.take_succ_cons, List.take_zero, List.take_nil]
  with_reducible refine nwC_intro fun i8 hi8 => ?_
  simp -implicitDefEqProofs only [go_sem]
  generalize E8 : Heap.put G i8 _ = G8
  have hO_8 := obj_new E8 hi8 hS
  have n8 := hO_8.1
  have hS := hO_8.2.1
  have g8 := hO_8.2.2.1
  clear hO_8
  by_cases c1 : factErr ⟨xkey, xvalue⟩ = 0
  rotate_left
  · have y1 : decide (¬ factErr ⟨xkey, xvalue⟩ = 0) = true := decide_eq_true c1
    rw [if_pos c1] at hE
    simp -implicitDefEqProofs only [go_sem, h0, h1, h2, h10, h11, h12, puE, sFactE, hxr, y1]
    exact Done.drop hS ⟨by rw [hE], rfl⟩
  have y1 : decide (¬ factErr ⟨xkey, xvalue⟩ = 0) = false := decide_eq_false (by simpa using c1)
  rw [if_neg (by simpa using c1)] at hE
  by_cases c2 : i = 0
  · subst c2
    have y2 : decide ((0 : Int) < ((0 : Nat) : Int)) = false := rfl
    have y3 : decide ((0 : Int) < 0) = false := rfl
    have w10 : IntKind.i64.wrap 1 = 1 := by decide
    simp -implicitDefEqProofs only [go_sem, h0, h1, h2, h10, h11, h12, puE, sFactE, hxr, y1, y2, y3, ws]
    rw [if_neg (by simp [prevK, ordB]), ← hps] at hE
    exact Again.mk 1 (by simp -implicitDefEqProofs only [go_sem, h0, h1, h2, h10, h11, w10]) ⟨hS, by omega, hE⟩ (by omega)
  have y2 : decide ((0 : Int) < (i : Int)) = true := decide_eq_true (by omega)
  have w1 : IntKind.i64.wrap ((i : Int) - 1) = ((i - 1 : Nat) : Int) := by rw [Go.IntWalk.i64_in _ (by omega)]; omega
  obtain ⟨q, hq⟩ : ∃ q, l[i - 1]? = some q := getD_get' (by omega)
  have hpk : prevK (·.key) l i = some (q.key) := by unfold prevK; rw [if_neg c2, hq]; rfl
  rw [hpk] at hE
  obtain ⟨qkey, qvalue⟩ := q
  simp -implicitDefEqProofs only [go_sem, h0, h1, h2, h10, h11, h12, puE, sFactE, sKeyO, hxr, y1, y2, w1, hq, g8]
  refine ⟨by omega, Nat.le_refl _, ?_⟩
  simp only [encSet, List.take_succ_cons, List.take_zero, List.take_nil]
  by_cases c3 : leB xkey qkey = true
  · have y3 : (strLt xkey qkey || decide (xkey = qkey)) = true := c3
    rw [if_pos (show ordB (some qkey) xkey = true from c3)] at hE
    simp -implicitDefEqProofs only [go_sem, h0, h1, h2, h10, h11, h12, puE, sFactE, sKeyO, hxr, y1, y2, y3, w1, hq, g8]
    exact Done.drop hS ⟨by rw [hE], rfl⟩
  · have y3 : (strLt xkey qkey || decide (xkey = qkey)) = false := by simpa [leB] using c3
    rw [if_neg (show ¬ ordB (some qkey) xkey = true from c3), ← hps] at hE
    simp -implicitDefEqProofs only [go_sem, h0, h1, h2, h10, h11, h12, puE, sFactE, sKeyO, hxr, y1, y2, y3, w1, hq, g8, ws]
    exact Again.mk (i + 1) (by simp -implicitDefEqProofs only [go_sem, h0, h1, h2, h10, h11]) ⟨hS, by omega, hE⟩ (by omega)

set_option maxHeartbeats 1600000 in
theorem eachSet_calls (l : List SetV) (t : Tail) (H : Heap) (hl : l.length ≤ 1099511627776) (hr : ∀ x ∈ l, setR x) : ACalls Tryz.prog 64 [.sl (l.map encSet) t, .func 71 [], .func 67 []] H fun x H' => x = .int .i64 (eachE setErr (·.key) none l) ∧ H' = H := by
  refine ACalls.of_code (X := { pure := puE }) puE_ok Tryz.func64 (by kernel_rfl) rfl (by kernel_rfl) (Nat.le_of_ble_eq_true rfl) ?_
  simp -implicitDefEqProofs only [go_sem, Tryz.f64]
  refine aloop_intro (σ := Nat) (fun i => [(0, .sl (l.map encSet) t), (1, .func 71 []), (2, .func 67 []), (10, .sl (l.map encSet) t), (11, .int .i64 l.length), (12, .int .i64 i)])
    (fun i G => H.Sub G ∧ i ≤ l.length ∧ eachE setErr (·.key) none l = eachE setErr (·.key) (prevK (·.key) l i) (l.drop i)) (fun i => l.length - i) 0 ?_ ?_ ?_
  · simp -implicitDefEqProofs only [go_sem]
  · exact ⟨Heap.Sub.rfl' H, Nat.zero_le _, rfl⟩
  rintro i r G hv ⟨hS, hi, hE⟩
  have h0 := hv.1
  have h1 := hv.2.1
  have h2 := hv.2.2.1
  have h10 := hv.2.2.2.1
  have h11 := hv.2.2.2.2.1
  have h12 := hv.2.2.2.2.2.1
  clear hv
  by_cases g : i < l.length
  rotate_left
  · have y0 : decide ((i : Int) < l.length) = false := decide_eq_false (by omega)
    obtain rfl : i = l.length := by omega
    rw [List.drop_length, eachE] at hE
    simp -implicitDefEqProofs only [go_sem, h0, h1, h2, h10, h11, h12, y0]
    exact Done.drop hS ⟨by rw [hE], rfl⟩
  have y0 : decide ((i : Int) < l.length) = true := decide_eq_true (by omega)
  obtain ⟨x, hx⟩ : ∃ x, l[i]? = some x := getD_get' g
  have hxr := hr x (List.mem_of_getElem? hx)
  have ws : IntKind.i64.wrap ((i : Int) + 1) = ((i + 1 : Nat) : Int) := by rw [Go.IntWalk.i64_in _ (by omega)]; omega
  rw [drop_at hx, eachE] at hE
  have hps := prevK_succ (·.key) hx
  have hU : ∀ (a : SetV), a ∈ l → (encSet a).length = 2 := fun _ _ => rfl
  obtain ⟨xkey, xvalue⟩ := x
  simp -implicitDefEqProofs only [go_sem, h0, h1, h2, h10, h11, h12, y0, hx]
  refine ⟨hU, Nat.le_refl _, ?_⟩
  simp only [encSet, List.take_succ_cons, List.take_zero, List.take_nil]
  with_reducible refine nwC_intro fun i8 hi8 => ?_
  simp -implicitDefEqProofs only [go_sem]
  generalize E8 : Heap.put G i8 _ = G8
  have hO_8 := obj_new E8 hi8 hS
  have n8 := hO_8.1
  have hS := hO_8.2.1
  have g8 := hO_8.2.2.1
  clear hO_8
  by_cases c1 : setErr ⟨xkey, xvalue⟩ = 0
  rotate_left
  · have y1 : decide (¬ setErr ⟨xkey, xvalue⟩ = 0) = true := decide_eq_true c1
    rw [if_pos c1] at hE
    simp -implicitDefEqProofs only [go_sem, h0, h1, h2, h10, h11, h12, puE, sSetE, hxr, y1]
    exact Done.drop hS ⟨by rw [hE], rfl⟩
  have y1 : decide (¬ setErr ⟨xkey, xvalue⟩ = 0) = false := decide_eq_false (by simpa using c1)
  rw [if_neg (by simpa using c1)] at hE
  by_cases c2 : i = 0
  · subst c2
    have y2 : decide ((0 : Int) < ((0 : Nat) : Int)) = false := rfl
    have y3 : decide ((0 : Int) < 0) = false := rfl
    have w10 : IntKind.i64.wrap 1 = 1 := by decide
    simp -implicitDefEqProofs only [go_sem, h0, h1, h2, h10, h11, h12, puE, sSetE, hxr, y1, y2, y3, ws]
    rw [if_neg (by simp [prevK, ordB]), ← hps] at hE
    exact Again.mk 1 (by simp -implicitDefEqProofs only [go_sem, h0, h1, h2, h10, h11, w10]) ⟨hS, by omega, hE⟩ (by omega)
  have y2 : decide ((0 : Int) < (i : Int)) = true := decide_eq_true (by omega)
  have w1 : IntKind.i64.wrap ((i : Int) - 1) = ((i - 1 : Nat) : Int) := by rw [Go.IntWalk.i64_in _ (by omega)]; omega
  obtain ⟨q, hq⟩ : ∃ q, l[i - 1]? = some q := getD_get' (by omega)
  have hpk : prevK (·.key) l i = some (q.key) := by unfold prevK; rw [if_neg c2, hq]; rfl
  rw [hpk] at hE
  obtain ⟨qkey, qvalue⟩ := q
  simp -implicitDefEqProofs only [go_sem, h0, h1, h2, h10, h11, h12, puE, sSetE, sKeyO, hxr, y1, y2, w1, hq, g8]
  refine ⟨by omega, Nat.le_refl _, ?_⟩
  simp only [encSet, List.take_succ_cons, List.take_zero, List.take_nil]
  by_cases c3 : leB xkey qkey = true
  · have y3 : (strLt xkey qkey || decide (xkey = qkey)) = true := c3
    rw [if_pos (show ordB (some qkey) xkey = true from c3)] at hE
    simp -implicitDefEqProofs only [go_sem, h0, h1, h2, h10, h11, h12, puE, sSetE, sKeyO, hxr, y1, y2, y3, w1, hq, g8]
    exact Done.drop hS ⟨by rw [hE], rfl⟩
  · have y3 : (strLt xkey qkey || decide (xkey = qkey)) = false := by simpa [leB] using c3
    rw [if_neg (show ¬ ordB (some qkey) xkey = true from c3), ← hps] at hE
    simp -implicitDefEqProofs only [go_sem, h0, h1, h2, h10, h11, h12, puE, sSetE, sKeyO, hxr, y1, y2, y3, w1, hq, g8, ws]
    exact Again.mk (i + 1) (by simp -implicitDefEqProofs only [go_sem, h0, h1, h2, h10, h11]) ⟨hS, by omega, hE⟩ (by omega)

set_option maxHeartbeats 1600000 in
theorem eachSvc_calls (l : List SvcV) (t : Tail) (H : Heap) (hl : l.length ≤ 1099511627776) (hr : ∀ x ∈ l, svcR x) : ACalls Tryz.prog 73 [.sl (l.map encSvc) t, .func 74 [], .func 75 []] H fun x H' => x = .int .i64 (eachE svcErr (·.name) none l) ∧ H' = H := by
  refine ACalls.of_code (X := { pure := puE }) puE_ok Tryz.func73 (by kernel_rfl) rfl (by kernel_rfl) (Nat.le_of_ble_eq_true rfl) ?_
  simp -implicitDefEqProofs only [go_sem, Tryz.f73]
  refine aloop_intro (σ := Nat) (fun i => [(0, .sl (l.map encSvc) t), (1, .func 74 []), (2, .func 75 []), (10, .sl (l.map encSvc) t), (11, .int .i64 l.length), (12, .int .i64 i)])
    (fun i G => H.Sub G ∧ i ≤ l.length ∧ eachE svcErr (·.name) none l = eachE svcErr (·.name) (prevK (·.name) l i) (l.drop i)) (fun i => l.length - i) 0 ?_ ?_ ?_
  · simp -implicitDefEqProofs only [go_sem]
  · exact ⟨Heap.Sub.rfl' H, Nat.zero_le _, rfl⟩
  rintro i r G hv ⟨hS, hi, hE⟩
  have h0 := hv.1
  have h1 := hv.2.1
  have h2 := hv.2.2.1
  have h10 := hv.2.2.2.1
  have h11 := hv.2.2.2.2.1
  have h12 := hv.2.2.2.2.2.1
  clear hv
  by_cases g : i < l.length
  rotate_left
  · have y0 : decide ((i : Int) < l.length) = false := decide_eq_false (by omega)
    obtain rfl : i = l.length := by omega
    rw [List.drop_length, eachE] at hE
    simp -implicitDefEqProofs only [go_sem, h0, h1, h2, h10, h11, h12, y0]
    exact Done.drop hS ⟨by rw [hE], rfl⟩
  have y0 : decide ((i : Int) < l.length) = true := decide_eq_true (by omega)
  obtain ⟨x, hx⟩ : ∃ x, l[i]? = some x := getD_get' g
  have hxr := hr x (List.mem_of_getElem? hx)
  have ws : IntKind.i64.wrap ((i : Int) + 1) = ((i + 1 : Nat) : Int) := by rw [Go.IntWalk.i64_in _ (by omega)]; omega
  rw [drop_at hx, eachE] at hE
  have hps := prevK_succ (·.name) hx
  have hU : ∀ (a : SvcV), a ∈ l → (encSvc a).length = 4 := fun _ _ => rfl
  obtain ⟨xname, xpath, xauto, xon⟩ := x
  simp -implicitDefEqProofs only [go_sem, h0, h1, h2, h10, h11, h12, y0, hx]
  refine ⟨hU, Nat.le_refl _, ?_⟩
  simp only [encSvc, List.take_succ_cons, List.take_zero, List.take_nil]
  with_reducible refine nwC_intro fun i8 hi8 => ?_
  simp -implicitDefEqProofs only [go_sem]
  generalize E8 : Heap.put G i8 _ = G8
  have hO_8 := obj_new E8 hi8 hS
  have n8 := hO_8.1
  have hS := hO_8.2.1
  have g8 := hO_8.2.2.1
  clear hO_8
  by_cases c1 : svcErr ⟨xname, xpath, xauto, xon⟩ = 0
  rotate_left
  · have y1 : decide (¬ svcErr ⟨xname, xpath, xauto, xon⟩ = 0) = true := decide_eq_true c1
    rw [if_pos c1] at hE
    simp -implicitDefEqProofs only [go_sem, h0, h1, h2, h10, h11, h12, puE, sSvcE, hxr, y1]
    exact Done.drop hS ⟨by rw [hE], rfl⟩
  have y1 : decide (¬ svcErr ⟨xname, xpath, xauto, xon⟩ = 0) = false := decide_eq_false (by simpa using c1)
  rw [if_neg (by simpa using c1)] at hE
  by_cases c2 : i = 0
  · subst c2
    have y2 : decide ((0 : Int) < ((0 : Nat) : Int)) = false := rfl
    have y3 : decide ((0 : Int) < 0) = false := rfl
    have w10 : IntKind.i64.wrap 1 = 1 := by decide
    simp -implicitDefEqProofs only [go_sem, h0, h1, h2, h10, h11, h12, puE, sSvcE, hxr, y1, y2, y3, ws]
    rw [if_neg (by simp [prevK, ordB]), ← hps] at hE
    exact Again.mk 1 (by simp -implicitDefEqProofs only [go_sem, h0, h1, h2, h10, h11, w10]) ⟨hS, by omega, hE⟩ (by omega)
  have y2 : decide ((0 : Int) < (i : Int)) = true := decide_eq_true (by omega)
  have w1 : IntKind.i64.wrap ((i : Int) - 1) = ((i - 1 : Nat) : Int) := by rw [Go.IntWalk.i64_in _ (by omega)]; omega
  obtain ⟨q, hq⟩ : ∃ q, l[i - 1]? = some q := getD_get' (by omega)
  have hpk : prevK (·.name) l i = some (q.name) := by unfold prevK; rw [if_neg c2, hq]; rfl
  rw [hpk] at hE
  obtain ⟨qname, qpath, qauto, qon⟩ := q
  simp -implicitDefEqProofs only [go_sem, h0, h1, h2, h10, h11, h12, puE, sSvcE, sNameO, hxr, y1, y2, w1, hq, g8]
  refine ⟨by omega, Nat.le_refl _, ?_⟩
  simp only [encSvc, List.take_succ_cons, List.take_zero, List.take_nil]
  by_cases c3 : leB xname qname = true
  · have y3 : (strLt xname qname || decide (xname = qname)) = true := c3
    rw [if_pos (show ordB (some qname) xname = true from c3)] at hE
    simp -implicitDefEqProofs only [go_sem, h0, h1, h2, h10, h11, h12, puE, sSvcE, sNameO, hxr, y1, y2, y3, w1, hq, g8]
    exact Done.drop hS ⟨by rw [hE], rfl⟩
  · have y3 : (strLt xname qname || decide (xname = qname)) = false := by simpa [leB] using c3
    rw [if_neg (show ¬ ordB (some qname) xname = true from c3), ← hps] at hE
    simp -implicitDefEqProofs only [go_sem, h0, h1, h2, h10, h11, h12, puE, sSvcE, sNameO, hxr, y1, y2, y3, w1, hq, g8, ws]
    exact Again.mk (i + 1) (by simp -implicitDefEqProofs only [go_sem, h0, h1, h2, h10, h11]) ⟨hS, by omega, hE⟩ (by omega)

end Go.Proofs

/- Walks: strings.Builder. -/
namespace Go.Proofs
open Go Go.Abs
set_option linter.unusedSimpArgs false
set_option linter.unusedVariables false

/-- Bytes as cells of a slice. -/
def bcell (b : UInt8) : List AV := [.int .u8 b.toNat]
theorem bcell_len (l : Bytes) : Unif 1 (l.map bcell) := by
  intro c hc
  simp only [List.mem_map] at hc
  obtain ⟨b, _, rfl⟩ := hc
  rfl
abbrev bldP (b : Nat) : AV := .tptr 67 2 b
theorem noEscape_calls (T sz id : Nat) (H : Heap) : ACalls Tryz.prog 95 [.tptr T sz id] H fun y H' => y = .tptr T sz id ∧ H' = H :=
  ACalls.of_extern (e := Extern.AbiNoEscape.same) Tryz.func95 (by kernel_rfl) rfl (by kernel_rfl) (by kernel_rfl) fun C H w vs hv => by
    obtain ⟨v, rfl, h1⟩ := reprL_one hv
    exact ⟨v, Lib.run_noEscape (P := Tryz.prog) w v, h1⟩
theorem heap_put_id {H : Heap} {b : Nat} {o : AObj} (h : H b = some o) : H.put b o = H := by
  funext i
  unfold Heap.put
  split
  · rename_i e; subst e; exact h.symm
  · rfl
theorem _root_.Go.Abs.ACalls.next1 {P : Program} {f : FuncId} {args : List AV} {H H1 : Heap} {K : K1} {x : AV} (h : ACalls P f args H fun y H' => y = x ∧ H' = H1) (hK : K x H1) : ACalls P f args H K := by
  refine h.mono ?_
  rintro x H' ⟨rfl, rfl⟩
  exact hK
def addrOK (b : Nat) (p : AV) : Prop := p = .nilp ∨ p = bldP b
theorem copyCheck_calls {G : Heap} {b : Nat} {p buf : AV} (hp : addrOK b p) (h3 : G b = some (.cells [p, buf])) :
    ACalls Tryz.prog 59 [bldP b] G fun x G' => x = .tup [] ∧ G' = G.put b (.cells [bldP b, buf]) := by
  rcases hp with rfl | rfl
  · refine ACalls.of_code (X := { pure := pu0 }) pu0_ok Tryz.func59 (by kernel_rfl) rfl (by kernel_rfl) (Nat.le_of_ble_eq_true rfl) ?_
    simp -implicitDefEqProofs only [go_sem, Tryz.f59, h3]
    refine (noEscape_calls _ _ _ _).pure_next _ ?_
    simp -implicitDefEqProofs only [go_sem, h3]
    exact Done.now ⟨rfl, rfl⟩
  · refine ACalls.of_code (X := { pure := pu0 }) pu0_ok Tryz.func59 (by kernel_rfl) rfl (by kernel_rfl) (Nat.le_of_ble_eq_true rfl) ?_
    simp -implicitDefEqProofs only [go_sem, Tryz.f59, h3]
    exact Done.now ⟨rfl, (heap_put_id h3).symm⟩
/-- The builder 'b' holds these bytes; 'H': what there is beside it. -/
def BufOK (g : Bool) (H G : Heap) (b : Nat) (buf : AV) (l : Bytes) : Prop := buf = .snil ∧ l = [] ∨ ∃ t, buf = .sl (l.map bcell) (.tok t 1 (some 5)) ∧ H t = none ∧ G t = some (.tail l.length) ∧ ¬ t = b ∧ (g = false → l ≠ [])
/-- .. 'g': it may have got room, and hold nothing. -/
def BldG (g : Bool) (H G : Heap) (b : Nat) (l : Bytes) : Prop := H.Sub G ∧ H b = none ∧ ∃ p buf, G b = some (.cells [p, buf]) ∧ addrOK b p ∧ BufOK g H G b buf l
abbrev BldOK (H G : Heap) (b : Nat) (l : Bytes) : Prop := BldG false H G b l
/-- What a builder's writing leaves of other objects. -/
def tokOf (G : Heap) (b : Nat) : Option Nat := match G b with
  | some (.cells [_, .sl _ (.tok t _ _)]) => some t
  | _ => none
def BKept (b : Nat) (G G' : Heap) : Prop := ∀ i o, G i = some o → ¬ i = b → tokOf G b ≠ some i → G' i = some o
theorem BldG.sub {g : Bool} {H G : Heap} {b : Nat} {l : Bytes} (h : BldG g H G b l) : H.Sub G := h.1
theorem BldG.tok {g : Bool} {H G : Heap} {b : Nat} {l : Bytes} (h : BldG g H G b l) {t : Nat} (ht : tokOf G b = some t) : H t = none := by
  obtain ⟨_, _, p, buf, h3, h4, h5⟩ := h
  unfold tokOf at ht
  rw [h3] at ht
  rcases h5 with ⟨rfl, -⟩ | ⟨t', rfl, h6, -⟩
  · cases ht
  · cases ht; exact h6
/-- Objects that stand beside stay. -/
theorem BldG.kept {g : Bool} {H G G' : Heap} {b : Nat} {l : Bytes} (h : BldG g H G b l) (hk : BKept b G G') {i : Nat} {o : AObj} (hi : H i = some o) : G' i = some o :=
  hk i o (h.1 i o hi) (fun e => by subst e; rw [h.2.1] at hi; cases hi) (fun e => by rw [h.tok e] at hi; cases hi)
theorem BldG.put {g : Bool} {H G : Heap} {b : Nat} {l : Bytes} (h : BldG g H G b l) {i : Nat} (hi : G i = none) (o : AObj) : BldG g H (G.put i o) b l := by
  obtain ⟨h1, h2, p, buf, h3, h4, h5⟩ := h
  have hH : H i = none := by
    cases hh : H i with
    | none => rfl
    | some x => have := h1 i x hh; rw [hi] at this; cases this
  have hb : ¬ b = i := fun e => by subst e; rw [h3] at hi; cases hi
  refine ⟨h1.put' hH o, h2, p, buf, by rw [put_ne _ _ _ _ hb]; exact h3, h4, ?_⟩
  rcases h5 with h5 | ⟨t, t1, t2, t3, t4, t9⟩
  · exact .inl h5
  · have ht : ¬ t = i := fun e => by subst e; rw [t3] at hi; cases hi
    exact .inr ⟨t, t1, t2, by rw [put_ne _ _ _ _ ht]; exact t3, t4, t9⟩
/-- A new builder. -/
theorem BldG.new {H G : Heap} (h : H.Sub G) {b : Nat} (hb : G b = none) : BldOK H (G.put b (.cells [.nilp, .snil])) b [] := by
  have hH : H b = none := by
    cases hh : H b with
    | none => rfl
    | some x => have := h b x hh; rw [hb] at this; cases this
  exact ⟨h.put' hH _, hH, _, _, put_same _ _ _, .inl rfl, .inl ⟨rfl, rfl⟩⟩
theorem app_snil {et : Option TypeId} {e : TI} {new : List (List AV)} {H : Heap} {K : K1} (h1 : new.length * e.bytes ≤ 140737488355328) (h2 : new.length ≤ 4611686018427387904) (h0 : new = [] → K .snil H)
    (h : new ≠ [] → ∀ id', H id' = none → K (.sl new (.tok id' e.size et)) (H.put id' (.tail (new.length * e.size)))) : appK et false e .snil new H K :=
  ⟨h0, fun hn => ⟨h1, h2, fun id' hid => h hn id' hid⟩⟩
theorem app_tok' {et : Option TypeId} {e : TI} {es new : List (List AV)} {id : Nat} {H : Heap} {K : K1} (hu : Unif e.size es) (ht : H id = some (.tail (es.length * e.size))) (h1 : (es.length + new.length) * e.bytes ≤ 140737488355328) (h2 : es.length + new.length ≤ 4611686018427387904)
    (h : ∀ id', H id' = none → K (.sl (es ++ new) (.tok id' e.size et)) ((H.del id).put id' (.tail ((es ++ new).length * e.size)))) : appK et false e (.sl es (.tok id e.size et)) new H K :=
  app_tok hu ht h1 h2 fun id' hid => by rw [if_pos rfl]; exact h id' hid

theorem writeString_calls {g : Bool} {H G : Heap} {b : Nat} {l s : Bytes} (h : BldG g H G b l) (hl : l.length + s.length ≤ 140737488355328) :
    ACalls Tryz.prog 31 [bldP b, .str s] G fun x G' => x = .tup [.int .i64 s.length, .nilIface] ∧ BldG g H G' b (l ++ s) ∧ BKept b G G' := by
  obtain ⟨h1, h2, p, buf, h3, h4, h5⟩ := h
  have hc := copyCheck_calls h4 h3
  have hm : (s.map fun b : UInt8 => [AV.int .u8 b.toNat]) = s.map bcell := rfl
  rcases h5 with ⟨rfl, rfl⟩ | ⟨t, rfl, t2, t3, t4, t9⟩
  · refine ACalls.of_code (X := { pure := pu0 }) pu0_ok Tryz.func31 (by kernel_rfl) rfl (by kernel_rfl) (Nat.le_of_ble_eq_true rfl) ?_
    simp -implicitDefEqProofs only [go_sem, Tryz.f31]
    refine hc.next1 ?_
    simp -implicitDefEqProofs only [go_sem, hm]
    refine app_snil (by simp at hl ⊢; omega) (by simp at hl ⊢; omega) (fun hn => ?_) (fun hn t' ht' => ?_)
    · have hs : s = [] := by simpa using hn
      subst hs
      simp -implicitDefEqProofs only [go_sem]
      refine Done.now ⟨rfl, ⟨h1.put' h2 _, h2, _, _, put_same _ _ _, .inr rfl, .inl ⟨rfl, rfl⟩⟩, fun i o hi hb _ => by rw [put_ne _ _ _ _ hb]; exact hi⟩
    · have n1 := (heap_none ht').1
      have n2 := (heap_none ht').2.1
      have n3 := (heap_none ht').2.2
      have n4 : H t' = none := by
        cases hh : H t' with
        | none => rfl
        | some x => have := h1 t' x hh; rw [n3] at this; cases this
      simp -implicitDefEqProofs only [go_sem, put_ne, n2]
      refine Done.now ⟨rfl, ⟨((h1.put' h2 _).put' n4 _).put' h2 _, h2, _, _, put_same _ _ _, .inr rfl, .inr ⟨t', rfl, n4, ?_, n1, fun _ => by simpa using hn⟩⟩, fun i o hi hb _ => ?_⟩
      · rw [put_ne _ _ _ _ n1, put_same]; simp
      · have n5 : ¬ i = t' := fun e => by subst e; rw [n3] at hi; cases hi
        rw [put_ne _ _ _ _ hb, put_ne _ _ _ _ n5, put_ne _ _ _ _ hb]; exact hi
  · have htk : tokOf G b = some t := by simp [tokOf, h3]
    have t5 : (G.put b (.cells [bldP b, .sl (l.map bcell) (.tok t 1 (some 5))])) t = some (.tail ((l.map bcell).length * 1)) := by
      rw [put_ne _ _ _ _ t4]; simpa using t3
    refine ACalls.of_code (X := { pure := pu0 }) pu0_ok Tryz.func31 (by kernel_rfl) rfl (by kernel_rfl) (Nat.le_of_ble_eq_true rfl) ?_
    simp -implicitDefEqProofs only [go_sem, Tryz.f31]
    refine hc.next1 ?_
    simp -implicitDefEqProofs only [go_sem, hm]
    refine app_tok' (e := tiU8) (bcell_len l) t5 (by simp at hl ⊢; omega) (by simp at hl ⊢; omega) (fun t' ht' => ?_)
    have n1 := (heap_none ht').1
    have n2 := (heap_none ht').2.1
    have n3 := (heap_none ht').2.2
    have n4 : H t' = none := by
      cases hh : H t' with
      | none => rfl
      | some x => have := h1 t' x hh; rw [n3] at this; cases this
    have n6 : ¬ b = t := fun e => t4 e.symm
    have n7 : H.Sub ((G.put b (.cells [bldP b, .sl (l.map bcell) (.tok t 1 (some 5))])).del t) := fun i o hi => by
      rw [del_ne (fun e => by subst e; rw [t2] at hi; cases hi)]
      exact h1.put' h2 _ i o hi
    simp -implicitDefEqProofs only [go_sem, put_ne, n2, del_ne, n6]
    refine Done.now ⟨rfl, ⟨(n7.put' n4 _).put' h2 _, h2, _, _, put_same _ _ _, .inr rfl, .inr ⟨t', by rw [List.map_append], n4, ?_, n1, fun e => by simp [t9 e]⟩⟩, fun i o hi hb hk => ?_⟩
    · rw [put_ne _ _ _ _ n1, put_same]; simp
    · have n5 : ¬ i = t' := fun e => by subst e; rw [n3] at hi; cases hi
      have n8 : ¬ i = t := fun e => hk (by rw [htk, e])
      rw [put_ne _ _ _ _ hb, put_ne _ _ _ _ n5, del_ne n8, put_ne _ _ _ _ hb]; exact hi
theorem bldString_calls {g : Bool} {H G : Heap} {b : Nat} {l : Bytes} (h : BldG g H G b l) (hl : l.length ≤ 140737488355328) (hg : g = true → l ≠ []) : ACalls Tryz.prog 34 [bldP b] G fun x G' => x = .str l ∧ G' = G := by
  obtain ⟨h1, h2, p, buf, h3, h4, h5⟩ := h
  rcases h5 with ⟨rfl, rfl⟩ | ⟨t, rfl, t2, t3, t4, t9⟩
  · refine ACalls.of_code (X := { pure := pu0 }) pu0_ok Tryz.func34 (by kernel_rfl) rfl (by kernel_rfl) (Nat.le_of_ble_eq_true rfl) ?_
    simp -implicitDefEqProofs only [go_sem, Tryz.f34, h3]
    exact Done.now ⟨rfl, rfl⟩
  · have hm : l.map bcell = l.map fun b : UInt8 => [AV.int .u8 b.toNat] := rfl
    have hl0 : ¬ l = [] := by cases g with
      | true => exact hg rfl
      | false => exact t9 rfl
    refine ACalls.of_code (X := { pure := pu0 }) pu0_ok Tryz.func34 (by kernel_rfl) rfl (by kernel_rfl) (Nat.le_of_ble_eq_true rfl) ?_
    simp -implicitDefEqProofs only [go_sem, Tryz.f34, h3, hm, hl0]
    exact ⟨by omega, Done.now ⟨rfl, rfl⟩⟩
/-! ### In passing -/
theorem writeString_k {g : Bool} {H G : Heap} {b : Nat} {l s : Bytes} (h : BldG g H G b l) (hl : l.length + s.length ≤ 140737488355328) {K : K1} (hK : ∀ G', BldG g H G' b (l ++ s) → BKept b G G' → K (.tup [.int .i64 s.length, .nilIface]) G') :
    ACalls Tryz.prog 31 [bldP b, .str s] G K := by
  refine (writeString_calls h hl).mono ?_
  rintro x G' ⟨rfl, h1, h2⟩
  exact hK G' h1 h2
theorem bldString_k {g : Bool} {H G : Heap} {b : Nat} {l : Bytes} (h : BldG g H G b l) (hl : l.length ≤ 140737488355328) (hg : g = true → l ≠ []) {K : K1} (hK : K (.str l) G) : ACalls Tryz.prog 34 [bldP b] G K := (bldString_calls h hl hg).pure_next _ hK
end Go.Proofs

/- Plain laws: what is quoted, and what quotes are read as. -/
namespace Go.Proofs
set_option linter.unusedSimpArgs false
set_option linter.unusedVariables false
def qc (c : UInt8) : Bytes :=
  if c = 92 ∨ c = 34 then [92, c] else if c = 10 then [92, 110] else if c.toNat < 32 ∨ 126 < c.toNat then [92, 120, dig (c.toNat / 16), dig (c.toNat % 16)] else [c]
def quoteI (s : Bytes) : Bytes := s.flatMap qc
def quoteB (s : Bytes) : Bytes := 34 :: (quoteI s ++ [34])
/-- The value of a digit. -/
def hexI (c : UInt8) : Int := Lib.indexByte [48, 49, 50, 51, 52, 53, 54, 55, 56, 57, 97, 98, 99, 100, 101, 102] c
/-- As the reference reads it. -/
def dqI (s : Bytes) : Option Bytes :=
  match s with
  | [] => some []
  | c :: r =>
    if c ≠ 92 then (dqI r).map (c :: ·) else
      match r with
      | [] => none
      | a :: r2 =>
        if a = 34 ∨ a = 92 then (dqI r2).map (a :: ·) else if a = 110 then (dqI r2).map (10 :: ·) else if a = 120 then
          match r2 with
          | h :: l :: r3 => (dqI r3).map (UInt8.ofNat (IntKind.u8.wrap (hexI h * 16 + hexI l)).toNat :: ·)
          | _ => none
        else none
termination_by s.length
theorem quoteI_len (s : Bytes) : (quoteI s).length ≤ 4 * s.length := by
  induction s with
  | nil => simp [quoteI]
  | cons c s ih =>
    unfold quoteI at ih ⊢
    rw [List.flatMap_cons, List.length_append, List.length_cons]
    have : (qc c).length ≤ 4 := by
      unfold qc
      repeat' split
      all_goals simp
    omega
theorem quoteI_snoc (s : Bytes) (c : UInt8) : quoteI (s ++ [c]) = quoteI s ++ qc c := by simp [quoteI]
end Go.Proofs

/- Walks: Quote, on both sides. -/
namespace Go.Proofs
open Go Go.Abs
set_option linter.unusedSimpArgs false
set_option linter.unusedVariables false
set_option maxRecDepth 20000
theorem shr4u : ∀ m : Nat, m < 256 → shrI .u8 (m : Int) 4 = ((m / 16 : Nat) : Int) := by decide
theorem and15u : ∀ m : Nat, m < 256 → andI .u8 (m : Int) 15 = ((m % 16 : Nat) : Int) := by decide
theorem AppG.tok0 {H : Heap} {id k : Nat} {ty : Option TypeId} (h : H id = none) : AppG H (H.put id (.tail 0)) k [] (.tok id k ty) :=
  ⟨(Heap.Sub.rfl' H).put' h _, .inr ⟨id, ty, rfl, h, by rw [put_same]; simp⟩⟩
def accQ (s : Bytes) : Bytes := 34 :: quoteI s
theorem accQ_nil : [[AV.int .u8 34]] = (accQ []).map bcell := rfl
theorem accQ_take {s : Bytes} {i : Nat} {c : UInt8} (h : s[i]? = some c) : accQ (s.take (i + 1)) = accQ (s.take i) ++ qc c := by
  rw [List.take_add_one, h]
  unfold accQ
  rw [List.cons_append]
  exact congrArg _ (quoteI_snoc _ _)
theorem accQ_len (s : Bytes) (i : Nat) : (accQ (s.take i)).length ≤ 4 * s.length + 1 := by
  have := quoteI_len (s.take i)
  rw [List.length_take] at this
  unfold accQ
  rw [List.length_cons]
  omega
theorem accQ_end (s : Bytes) : (accQ s).map bcell ++ [[AV.int .u8 34]] = (quoteB s).map bcell := by simp [accQ, quoteB, bcell]
theorem u8_eq {c : UInt8} {n : Nat} (h : n < 256) : ((c.toNat : Int) = n) ↔ c = UInt8.ofNat n := by
  constructor
  · intro e
    apply UInt8.toNat_inj.1
    simp only [UInt8.toNat_ofNat']
    omega
  · rintro rfl
    simp only [UInt8.toNat_ofNat']
    omega
set_option maxHeartbeats 3200000 in
theorem quote_calls (s : Bytes) (H : Heap) (hs : s.length ≤ 1099511627776) : ACalls Tryz.prog 112 [.str s] H fun x H' => x = .str (quoteB s) ∧ H' = H := by
  have w0 : IntKind.i64.wrap ((s.length : Int) + 2) = ((s.length + 2 : Nat) : Int) := by rw [Go.IntWalk.i64_in _ (by omega)]; omega
  refine ACalls.of_code (X := { pure := pu0 }) pu0_ok Tryz.func112 (by kernel_rfl) rfl (by kernel_rfl) (Nat.le_of_ble_eq_true rfl) ?_
  simp -implicitDefEqProofs only [go_sem, Tryz.f112, w0]
  refine makeSlice_tok (e := tiU8) (by simp -implicitDefEqProofs only [go_sem]) ⟨rfl, rfl, by decide⟩ (by omega) (by simp only; omega) (by omega) (fun id hid => ?_)
  have hA := AppG.tok0 (k := 1) (ty := some 5) hid
  generalize H.put id (.tail 0) = G at *
  simp -implicitDefEqProofs only [go_sem]
  refine AppG.step (e := tiU8) hA (by simp [Unif]) (by simp) (by simp) (fun tl G1 hA1 hK1 => ?_)
  clear hA hid
  rw [List.nil_append, accQ_nil] at hA1
  rw [List.nil_append, accQ_nil]
  simp -implicitDefEqProofs only [go_sem]
  refine aloop_intro (σ := Nat × Tail) (fun t => [(0, .str s), (3, .sl ((accQ (s.take t.1)).map bcell) t.2), (4, .int .i64 t.1)])
    (fun t G' => AppG H G' 1 ((accQ (s.take t.1)).map bcell) t.2 ∧ t.1 ≤ s.length) (fun t => s.length - t.1) (0, tl) ?_ ?_ ?_
  · simp -implicitDefEqProofs only [go_sem]
  · exact ⟨hA1, Nat.zero_le _⟩
  clear hA1 hK1
  rintro ⟨i, tl1⟩ r G2 hv ⟨hA, hi⟩
  have h0 := hv.1
  have h3 := hv.2.1
  have h4 := hv.2.2.1
  clear hv
  simp only at h0 h3 h4 hA hi
  have hql := accQ_len s i
  have hU := bcell_len (accQ (s.take i))
  by_cases g : i < s.length
  · have y0 : decide ((i : Int) < s.length) = true := decide_eq_true (by omega)
    obtain ⟨c, hc⟩ : ∃ c, s[i]? = some c := getD_get' g
    have hq := accQ_take hc
    have hcl := c.toNat_lt
    have ws : IntKind.i64.wrap ((i : Int) + 1) = ((i + 1 : Nat) : Int) := by rw [Go.IntWalk.i64_in _ (by omega)]; omega
    have e92 := @u8_eq c 92 (by decide)
    have e34 := @u8_eq c 34 (by decide)
    have e10 := @u8_eq c 10 (by decide)
    have a1 := shr4u c.toNat hcl
    have a2 := and15u c.toNat hcl
    have d1 := dig_get (c.toNat / 16) (by omega)
    have d2 := dig_get (c.toNat % 16) (by omega)
    have again : ∀ (l : Bytes) (es : List (List AV)), qc c = l → es = l.map bcell → (accQ (s.take i)).map bcell ++ es = (accQ (s.take (i + 1))).map bcell := fun l es h1 h2 => by rw [hq, h1, h2, List.map_append]
    have hel : (accQ (s.take i)).length ≤ 8796093022208 := by omega
    have fin : ∀ (es : List (List AV)) (k : K1), (accQ (s.take i)).map bcell ++ es = (accQ (s.take (i + 1))).map bcell → es.length ≤ 4 →
        (∀ tl2 G3, AppG H G3 1 ((accQ (s.take (i + 1))).map bcell) tl2 → k (.sl ((accQ (s.take (i + 1))).map bcell) tl2) G3) → appK (some 5) false tiU8 (.sl ((accQ (s.take i)).map bcell) tl1) es G2 k := fun es k h1 h2 h3 => by
      refine AppG.step (e := tiU8) hA hU (by simp; omega) (by simp; omega) (fun tl2 G3 hA3 hK3 => ?_)
      rw [h1] at hA3 ⊢
      exact h3 tl2 G3 hA3
    by_cases c1 : c = 92 ∨ c = 34
    · have hqc : qc c = [92, c] := by unfold qc; rw [if_pos c1]
      have ag := again _ [[.int .u8 92], [.int .u8 c.toNat]] hqc rfl
      by_cases c2 : c = 92
      · have y1 : decide ((c.toNat : Int) = 92) = true := decide_eq_true (e92.2 c2)
        simp -implicitDefEqProofs only [go_sem, h0, h3, h4, y0, hc, y1]
        refine fin _ _ ag (by simp) (fun tl2 G3 hA3 => ?_)
        simp -implicitDefEqProofs only [go_sem, h0, h4, ws]
        exact Again.mk (i + 1, tl2) (by simp -implicitDefEqProofs only [go_sem, h0, h4]) ⟨hA3, by simp only; omega⟩ (by simp only; omega)
      · have y1 : decide ((c.toNat : Int) = 92) = false := decide_eq_false (fun e => c2 (e92.1 e))
        have y2 : decide ((c.toNat : Int) = 34) = true := decide_eq_true (e34.2 (c1.resolve_left c2))
        simp -implicitDefEqProofs only [go_sem, h0, h3, h4, y0, hc, y1, y2]
        refine fin _ _ ag (by simp) (fun tl2 G3 hA3 => ?_)
        simp -implicitDefEqProofs only [go_sem, h0, h4, ws]
        exact Again.mk (i + 1, tl2) (by simp -implicitDefEqProofs only [go_sem, h0, h4]) ⟨hA3, by simp only; omega⟩ (by simp only; omega)
    simp only [not_or] at c1
    have y1 : decide ((c.toNat : Int) = 92) = false := decide_eq_false (fun e => c1.1 (e92.1 e))
    have y2 : decide ((c.toNat : Int) = 34) = false := decide_eq_false (fun e => c1.2 (e34.1 e))
    by_cases c2 : c = 10
    · have hqc : qc c = [92, 110] := by unfold qc; rw [if_neg (by simp only [not_or]; exact c1), if_pos c2]
      have ag := again _ [[.int .u8 92], [.int .u8 110]] hqc rfl
      have y3 : decide ((c.toNat : Int) = 10) = true := decide_eq_true (e10.2 c2)
      simp -implicitDefEqProofs only [go_sem, h0, h3, h4, y0, hc, y1, y2, y3]
      refine fin _ _ ag (by simp) (fun tl2 G3 hA3 => ?_)
      simp -implicitDefEqProofs only [go_sem, h0, h4, ws]
      exact Again.mk (i + 1, tl2) (by simp -implicitDefEqProofs only [go_sem, h0, h4]) ⟨hA3, by simp only; omega⟩ (by simp only; omega)
    have y3 : decide ((c.toNat : Int) = 10) = false := decide_eq_false (fun e => c2 (e10.1 e))
    by_cases c3 : c.toNat < 32 ∨ 126 < c.toNat
    · have hqc : qc c = [92, 120, dig (c.toNat / 16), dig (c.toNat % 16)] := by unfold qc; rw [if_neg (by simp only [not_or]; exact c1), if_neg c2, if_pos c3]
      have ag := again _ [[.int .u8 92], [.int .u8 120], [.int .u8 (dig (c.toNat / 16)).toNat], [.int .u8 (dig (c.toNat % 16)).toNat]] hqc rfl
      by_cases c4 : c.toNat < 32
      · have y4 : decide ((c.toNat : Int) < 32) = true := decide_eq_true (by omega)
        simp -implicitDefEqProofs only [go_sem, h0, h3, h4, y0, hc, y1, y2, y3, y4, a1, a2, Int.toNat_natCast, d1, d2]
        refine fin _ _ ag (by simp) (fun tl2 G3 hA3 => ?_)
        simp -implicitDefEqProofs only [go_sem, h0, h4, ws]
        exact Again.mk (i + 1, tl2) (by simp -implicitDefEqProofs only [go_sem, h0, h4]) ⟨hA3, by simp only; omega⟩ (by simp only; omega)
      · have y4 : decide ((c.toNat : Int) < 32) = false := decide_eq_false (by omega)
        have y5 : decide (126 < (c.toNat : Int)) = true := decide_eq_true (by omega)
        simp -implicitDefEqProofs only [go_sem, h0, h3, h4, y0, hc, y1, y2, y3, y4, y5, a1, a2, Int.toNat_natCast, d1, d2]
        refine fin _ _ ag (by simp) (fun tl2 G3 hA3 => ?_)
        simp -implicitDefEqProofs only [go_sem, h0, h4, ws]
        exact Again.mk (i + 1, tl2) (by simp -implicitDefEqProofs only [go_sem, h0, h4]) ⟨hA3, by simp only; omega⟩ (by simp only; omega)
    simp only [not_or] at c3
    have hqc : qc c = [c] := by unfold qc; rw [if_neg (by simp only [not_or]; exact c1), if_neg c2, if_neg (by omega)]
    have ag := again _ [[.int .u8 c.toNat]] hqc rfl
    have y4 : decide ((c.toNat : Int) < 32) = false := decide_eq_false (by omega)
    have y5 : decide (126 < (c.toNat : Int)) = false := decide_eq_false (by omega)
    simp -implicitDefEqProofs only [go_sem, h0, h3, h4, y0, hc, y1, y2, y3, y4, y5]
    refine fin _ _ ag (by simp) (fun tl2 G3 hA3 => ?_)
    simp -implicitDefEqProofs only [go_sem, h0, h4, ws]
    exact Again.mk (i + 1, tl2) (by simp -implicitDefEqProofs only [go_sem, h0, h4]) ⟨hA3, by simp only; omega⟩ (by simp only; omega)
  · have y0 : decide ((i : Int) < s.length) = false := decide_eq_false (by omega)
    obtain rfl : i = s.length := by omega
    rw [List.take_length] at h3 hA hql hU
    simp -implicitDefEqProofs only [go_sem, h0, h3, h4, y0]
    refine AppG.step (e := tiU8) hA hU (by simp; omega) (by simp; omega) (fun tl2 G3 hA3 hK3 => ?_)
    rw [accQ_end]
    simp -implicitDefEqProofs only [go_sem]
    refine conv_sl (by simp -implicitDefEqProofs only [go_sem]) (by simp -implicitDefEqProofs only [go_sem]) ?_
    simp -implicitDefEqProofs only [go_sem]
    exact Done.drop hA3.1 ⟨rfl, rfl⟩
/-! ### The reference's -/
theorem writeByte_calls {g : Bool} {H G : Heap} {b : Nat} {l : Bytes} {c : UInt8} (h : BldG g H G b l) (hl : l.length + 1 ≤ 140737488355328) :
    ACalls Tryz.prog 60 [bldP b, .int .u8 c.toNat] G fun x G' => x = .nilIface ∧ BldG g H G' b (l ++ [c]) ∧ BKept b G G' := by
  obtain ⟨h1, h2, p, buf, h3, h4, h5⟩ := h
  have hc := copyCheck_calls h4 h3
  have hne : ([[AV.int .u8 c.toNat]] : List (List AV)) ≠ [] := by simp
  rcases h5 with ⟨rfl, rfl⟩ | ⟨t, rfl, t2, t3, t4, t9⟩
  · refine ACalls.of_code (X := { pure := pu0 }) pu0_ok Tryz.func60 (by kernel_rfl) rfl (by kernel_rfl) (Nat.le_of_ble_eq_true rfl) ?_
    simp -implicitDefEqProofs only [go_sem, Tryz.f60]
    refine hc.next1 ?_
    simp -implicitDefEqProofs only [go_sem]
    refine app_snil (by simp) (by simp) (fun hn => absurd hn hne) (fun hn t' ht' => ?_)
    have n1 := (heap_none ht').1
    have n2 := (heap_none ht').2.1
    have n3 := (heap_none ht').2.2
    have n4 : H t' = none := by
      cases hh : H t' with
      | none => rfl
      | some x => have := h1 t' x hh; rw [n3] at this; cases this
    simp -implicitDefEqProofs only [go_sem, put_ne, n2]
    refine Done.now ⟨rfl, ⟨((h1.put' h2 _).put' n4 _).put' h2 _, h2, _, _, put_same _ _ _, .inr rfl, .inr ⟨t', rfl, n4, ?_, n1, fun _ => by simp⟩⟩, fun i o hi hb _ => ?_⟩
    · rw [put_ne _ _ _ _ n1, put_same]; simp
    · have n5 : ¬ i = t' := fun e => by subst e; rw [n3] at hi; cases hi
      rw [put_ne _ _ _ _ hb, put_ne _ _ _ _ n5, put_ne _ _ _ _ hb]; exact hi
  · have htk : tokOf G b = some t := by simp [tokOf, h3]
    have t5 : (G.put b (.cells [bldP b, .sl (l.map bcell) (.tok t 1 (some 5))])) t = some (.tail ((l.map bcell).length * 1)) := by
      rw [put_ne _ _ _ _ t4]; simpa using t3
    refine ACalls.of_code (X := { pure := pu0 }) pu0_ok Tryz.func60 (by kernel_rfl) rfl (by kernel_rfl) (Nat.le_of_ble_eq_true rfl) ?_
    simp -implicitDefEqProofs only [go_sem, Tryz.f60]
    refine hc.next1 ?_
    simp -implicitDefEqProofs only [go_sem]
    refine app_tok' (e := tiU8) (bcell_len l) t5 (by simp at hl ⊢; omega) (by simp at hl ⊢; omega) (fun t' ht' => ?_)
    have n1 := (heap_none ht').1
    have n2 := (heap_none ht').2.1
    have n3 := (heap_none ht').2.2
    have n4 : H t' = none := by
      cases hh : H t' with
      | none => rfl
      | some x => have := h1 t' x hh; rw [n3] at this; cases this
    have n6 : ¬ b = t := fun e => t4 e.symm
    have n7 : H.Sub ((G.put b (.cells [bldP b, .sl (l.map bcell) (.tok t 1 (some 5))])).del t) := fun i o hi => by
      rw [del_ne (fun e => by subst e; rw [t2] at hi; cases hi)]
      exact h1.put' h2 _ i o hi
    simp -implicitDefEqProofs only [go_sem, put_ne, n2, del_ne, n6]
    refine Done.now ⟨rfl, ⟨(n7.put' n4 _).put' h2 _, h2, _, _, put_same _ _ _, .inr rfl, .inr ⟨t', by rw [List.map_append]; rfl, n4, ?_, n1, fun e => by simp⟩⟩, fun i o hi hb hk => ?_⟩
    · rw [put_ne _ _ _ _ n1, put_same]; simp
    · have n5 : ¬ i = t' := fun e => by subst e; rw [n3] at hi; cases hi
      have n8 : ¬ i = t := fun e => hk (by rw [htk, e])
      rw [put_ne _ _ _ _ hb, put_ne _ _ _ _ n5, del_ne n8, put_ne _ _ _ _ hb]; exact hi
theorem writeByte_k {g : Bool} {H G : Heap} {b : Nat} {l : Bytes} {c : UInt8} (h : BldG g H G b l) (hl : l.length + 1 ≤ 140737488355328) {K : K1} (hK : ∀ G', BldG g H G' b (l ++ [c]) → BKept b G G' → K .nilIface G') :
    ACalls Tryz.prog 60 [bldP b, .int .u8 c.toNat] G K := by
  refine (writeByte_calls h hl).mono ?_
  rintro x G' ⟨rfl, h1, h2⟩
  exact hK G' h1 h2
end Go.Proofs
