/-
  Walks and plain laws, part 7.
-/
import Derived.Test.YtmcnfdbohkobaaaGreatDoorM6
import Derived.Test.YtmcnfdbohkobaaaGreatDoorM4
import Derived.Test.YtmcnfdbohkobaaaGreatDoorM3
import Derived.Test.YtmcnfdbohkobaaaGreatDoorM1
import Derived.Test.YtmcnfdbohkobaaaGreatDoorM2
/- Walks: Cut, and a line of a thing, on the program's side. -/
namespace Go.Proofs
open Go Go.Abs
set_option linter.unusedSimpArgs false
set_option linter.unusedVariables false
set_option maxRecDepth 20000
noncomputable def puM1 : Pures := pu0
theorem puM1_dyn : isDyn puM1 = isDyn pu0 := rfl
attribute [go_sem] puM1_dyn
noncomputable def puM2 : Pures := putP 100 sSplit pu0
theorem puM2_dyn : isDyn puM2 = false := by simp only [puM2, go_sem, Nat.reduceEqDiff]
attribute [go_sem] puM2_dyn
end Go.Proofs

/- Walks: eachLine, and what Parse does with each line. -/
namespace Go.Proofs
open Go Go.Abs
set_option linter.unusedSimpArgs false
set_option linter.unusedVariables false
set_option maxRecDepth 20000
noncomputable def puM3 : Pures := pu0
theorem puM3_dyn : isDyn puM3 = isDyn pu0 := rfl
attribute [go_sem] puM3_dyn
end Go.Proofs

/- Lists that grow beside others. -/
namespace Go.Proofs
open Go Go.Abs
set_option linter.unusedSimpArgs false
set_option linter.unusedVariables false
set_option maxRecDepth 20000
/-- Two lists have not the same room. -/
def tokNe (t u : Tail) : Prop := ∀ i k ty k' ty', t = .tok i k ty → u ≠ .tok i k' ty'
theorem tokNe.symm {t u : Tail} (h : tokNe t u) : tokNe u t := fun i k ty k' ty' h1 h2 => h i k' ty' k ty h2 h1
theorem tokNe_exact (t : Tail) : tokNe .exact t := fun i k ty k' ty' h => by cases h
/-- What one list's growing leaves: all but its room. -/
def Grows (G G' : Heap) (tl tl' : Tail) : Prop := (∀ i o, G i = some o → (∀ k ty, tl ≠ .tok i k ty) → G' i = some o) ∧ (∀ i k ty, tl' = .tok i k ty → G i = none)
theorem Grows.cells {H G G' : Heap} {k : Nat} {acc : List (List AV)} {tl tl' : Tail} (h : Grows G G' tl tl') (ha : AppG H G k acc tl) {i : Nat} {cs : List AV} (hi : G i = some (.cells cs)) : G' i = some (.cells cs) := by
  refine h.1 i _ hi (fun k ty e => ?_)
  rcases ha.2 with h2 | ⟨id, ty2, h2, h3, h4⟩
  · rw [e] at h2; cases h2
  · rw [e] at h2; cases h2; rw [hi] at h4; cases h4
theorem Grows.other {H G G' : Heap} {k2 : Nat} {acc2 : List (List AV)} {tl tl' u : Tail} (h : Grows G G' tl tl') (hs : H.Sub G') (ha : AppG H G k2 acc2 u) (hne : tokNe u tl) : AppG H G' k2 acc2 u ∧ tokNe u tl' := by
  rcases ha.2 with rfl | ⟨id, ty2, rfl, h3, h4⟩
  · exact ⟨⟨hs, .inl rfl⟩, tokNe_exact _⟩
  · refine ⟨⟨hs, .inr ⟨id, ty2, rfl, h3, h.1 id _ h4 (fun k ty e => hne id _ _ _ _ rfl e)⟩⟩, fun i k ty k' ty' e1 e2 => ?_⟩
    cases e1
    have := h.2 _ _ _ e2
    rw [h4] at this; cases this
theorem _root_.Go.Abs.AppG.set {H G : Heap} {k : Nat} {acc : List (List AV)} {tl : Tail} (h : AppG H G k acc tl) {id : Nat} (hid : H id = none) {cs : List AV} (ho : G id = some (.cells cs)) (o' : AObj) : AppG H (G.put id o') k acc tl := by
  refine ⟨h.1.put' hid o', ?_⟩
  rcases h.2 with h2 | ⟨i, ty, h2, h3, h4⟩
  · exact .inl h2
  · have : ¬ i = id := fun e => by subst e; rw [h4] at ho; cases ho
    exact .inr ⟨i, ty, h2, h3, by rw [put_ne _ _ _ _ this]; exact h4⟩
end Go.Proofs

/- Walks: Parse. -/
namespace Go.Proofs
open Go Go.Abs
set_option linter.unusedSimpArgs false
set_option linter.unusedVariables false
set_option maxRecDepth 20000
/-- The four lists of a machine that is read. -/
structure Mac4 (H G : Heap) (m : MacV) (ta tb tc td : Tail) : Prop where
  a : AppG H G 2 (m.facts.map encSet) ta
  b : AppG H G 3 (m.files.map encFile) tb
  c : AppG H G 2 (m.sets.map encSet) tc
  d : AppG H G 4 (m.svcs.map encSvc) td
  ab : tokNe ta tb
  ac : tokNe ta tc
  ad : tokNe ta td
  bc : tokNe tb tc
  bd : tokNe tb td
  cd : tokNe tc td
theorem Mac4.new {H G : Heap} (h : H.Sub G) : Mac4 H G .zero .exact .exact .exact .exact :=
  ⟨.new h _, .new h _, .new h _, .new h _, tokNe_exact _, tokNe_exact _, tokNe_exact _, tokNe_exact _, tokNe_exact _, tokNe_exact _⟩
theorem Mac4.put {H G : Heap} {m : MacV} {ta tb tc td : Tail} (h : Mac4 H G m ta tb tc td) {id : Nat} (hid : G id = none) (o : AObj) : Mac4 H (G.put id o) m ta tb tc td :=
  ⟨h.a.put hid o, h.b.put hid o, h.c.put hid o, h.d.put hid o, h.ab, h.ac, h.ad, h.bc, h.bd, h.cd⟩
theorem Mac4.set {H G : Heap} {m : MacV} {ta tb tc td : Tail} (h : Mac4 H G m ta tb tc td) {id : Nat} (hid : H id = none) {cs : List AV} (ho : G id = some (.cells cs)) (o : AObj) : Mac4 H (G.put id o) m ta tb tc td :=
  ⟨h.a.set hid ho o, h.b.set hid ho o, h.c.set hid ho o, h.d.set hid ho o, h.ab, h.ac, h.ad, h.bc, h.bd, h.cd⟩
noncomputable def puM4 : Pures := pu0
theorem puM4_dyn : isDyn puM4 = isDyn pu0 := rfl
attribute [go_sem] puM4_dyn
end Go.Proofs

/- Walks: Parse, on the program's side. -/
namespace Go.Proofs
open Go Go.Abs
set_option linter.unusedSimpArgs false
set_option linter.unusedVariables false
set_option maxRecDepth 20000
end Go.Proofs

/- Plain laws: a line of a machine as the reference reads it; walks: its small functions. -/
namespace Go.Proofs
open Go Go.Abs
set_option linter.unusedSimpArgs false
set_option linter.unusedVariables false
set_option maxRecDepth 20000
end Go.Proofs

/- Walks: Parse, on the reference's side. -/
namespace Go.Proofs
open Go Go.Abs
set_option linter.unusedSimpArgs false
set_option linter.unusedVariables false
set_option maxRecDepth 20000
noncomputable def puM6 : Pures := pu0
theorem puM6_dyn : isDyn puM6 = isDyn pu0 := rfl
attribute [go_sem] puM6_dyn
end Go.Proofs

/- Walks: lines that are written, on both sides. -/
namespace Go.Proofs
open Go Go.Abs
set_option linter.unusedSimpArgs false
set_option linter.unusedVariables false
set_option maxRecDepth 20000
theorem dbit_calls (b : Bool) (H : Heap) : ACalls Tryz.prog 113 [.bool b] H fun x H' => x = .str (bitV b) ∧ H' = H := by
  cases b
  · refine ACalls.of_code (X := { pure := pu0 }) pu0_ok Tryz.func113 (by kernel_rfl) rfl (by kernel_rfl) (Nat.le_of_ble_eq_true rfl) ?_
    simp -implicitDefEqProofs only [go_sem, Tryz.f113]
    exact Done.now ⟨rfl, rfl⟩
  · refine ACalls.of_code (X := { pure := pu0 }) pu0_ok Tryz.func113 (by kernel_rfl) rfl (by kernel_rfl) (Nat.le_of_ble_eq_true rfl) ?_
    simp -implicitDefEqProofs only [go_sem, Tryz.f113]
    exact Done.now ⟨rfl, rfl⟩
theorem rbit_calls (b : Bool) (H : Heap) : ACalls Tryz.prog 61 [.bool b] H fun x H' => x = .str (bitV b) ∧ H' = H := by
  cases b
  · refine ACalls.of_code (X := { pure := pu0 }) pu0_ok Tryz.func61 (by kernel_rfl) rfl (by kernel_rfl) (Nat.le_of_ble_eq_true rfl) ?_
    simp -implicitDefEqProofs only [go_sem, Tryz.f61]
    exact Done.now ⟨rfl, rfl⟩
  · refine ACalls.of_code (X := { pure := pu0 }) pu0_ok Tryz.func61 (by kernel_rfl) rfl (by kernel_rfl) (Nat.le_of_ble_eq_true rfl) ?_
    simp -implicitDefEqProofs only [go_sem, Tryz.f61]
    exact Done.now ⟨rfl, rfl⟩
def sBitV : List AV → Option AV := fn1 .bool fun b => some (.str (bitV b))
theorem sBitV_eq (b : Bool) : sBitV [.bool b] = some (.str (bitV b)) := rfl
theorem sBitV_ok {P : Program} {f : FuncId} (h : ∀ b H, ACalls P f [.bool b] H fun x H' => x = .str (bitV b) ∧ H' = H) : ∀ xs v, sBitV xs = some v → ∀ H, ACalls P f xs H fun x H' => x = v ∧ H' = H := by
  intro xs v hv H
  obtain ⟨x, s, rfl, h1, h2⟩ := fn1_some hv
  cases h2; cases Rd.bool_some h1; exact h s H
theorem bitV_len (b : Bool) : (bitV b).length = 1 := by cases b <;> rfl
noncomputable def puCP1 : Pures := putP 32 sQuo (putP 112 sQuo (putP 61 sBitV (putP 113 sBitV pu0)))
theorem puCP1_dyn : isDyn puCP1 = false := by simp only [puCP1, go_sem, Nat.reduceEqDiff]
attribute [go_sem] puCP1_dyn
theorem puCP1_ok : PuOK Tryz.prog puCP1 := .put (.put (.put (.put (pu0_ok) (sBitV_ok dbit_calls)) (sBitV_ok rbit_calls)) (spF_ok fun s H h => quote_calls s H h)) (spF_ok fun s H h => rQuote_calls s H h)
theorem quoteB_len (s : Bytes) : (quoteB s).length ≤ 4 * s.length + 2 := by
  have := quoteI_len s
  unfold quoteB
  simp only [List.length_cons, List.length_append, List.length_nil]
  omega
theorem serviceLine_calls (s : SvcV) (H : Heap) (hr : svcR s) : ACalls Tryz.prog 98 [.agg (encSvc s)] H fun x H' => x = .str (wService ++ [32] ++ svcLine s ++ [10]) ∧ H' = H := by
  obtain ⟨r1, r2⟩ := hr
  have b1 := bitV_len s.auto
  have b2 := bitV_len s.on
  refine ACalls.of_code (X := { pure := puCP1 }) puCP1_ok Tryz.func98 (by kernel_rfl) rfl (by kernel_rfl) (Nat.le_of_ble_eq_true rfl) ?_
  simp -implicitDefEqProofs (disch := (first | omega | (simp only [List.length_append, List.length_cons, List.length_nil]; omega))) only [go_sem, binS_addD, Go.IntWalk.i64_in, Tryz.f98, encSvc]
  with_reducible refine nwC_intro fun i1 hi1 => ?_
  simp -implicitDefEqProofs (disch := (first | omega | (simp only [List.length_append, List.length_cons, List.length_nil]; omega))) only [go_sem, binS_addD, Go.IntWalk.i64_in, puCP1, sBitV_eq, b1, b2]
  exact Done.drop1 hi1 ⟨by simp [svcLine], rfl⟩
theorem serviceWords_calls (s : SvcV) (H : Heap) (hr : svcR s) : ACalls Tryz.prog 33 [.agg (encSvc s)] H fun x H' => x = .str (svcLine s) ∧ H' = H := by
  obtain ⟨r1, r2⟩ := hr
  have b1 := bitV_len s.auto
  have b2 := bitV_len s.on
  refine ACalls.of_code (X := { pure := puCP1 }) puCP1_ok Tryz.func33 (by kernel_rfl) rfl (by kernel_rfl) (Nat.le_of_ble_eq_true rfl) ?_
  simp -implicitDefEqProofs (disch := (first | omega | (simp only [List.length_append, List.length_cons, List.length_nil]; omega))) only [go_sem, binS_addD, Go.IntWalk.i64_in, Tryz.f33, encSvc]
  with_reducible refine nwC_intro fun i1 hi1 => ?_
  simp -implicitDefEqProofs (disch := (first | omega | (simp only [List.length_append, List.length_cons, List.length_nil]; omega))) only [go_sem, binS_addD, Go.IntWalk.i64_in, puCP1, sBitV_eq, b1, b2]
  exact Done.drop1 hi1 ⟨by simp [svcLine], rfl⟩
theorem settingLine_calls (w : Bytes) (s : SetV) (H : Heap) (hw : w.length ≤ 100) (hr : setR s) : ACalls Tryz.prog 96 [.str w, .agg (encSet s)] H fun x H' => x = .str (w ++ [32] ++ s.key ++ [32] ++ quoteB s.value ++ [10]) ∧ H' = H := by
  obtain ⟨r1, r2⟩ := hr
  have q := sQuo_eq s.value r2
  have ql := quoteB_len s.value
  generalize quoteB s.value = qv at *
  refine ACalls.of_code (X := { pure := puCP1 }) puCP1_ok Tryz.func96 (by kernel_rfl) rfl (by kernel_rfl) (Nat.le_of_ble_eq_true rfl) ?_
  simp -implicitDefEqProofs (disch := (first | omega | (simp only [List.length_append, List.length_cons, List.length_nil]; omega))) only [go_sem, binS_addD, Go.IntWalk.i64_in, Tryz.f96, encSet]
  with_reducible refine nwC_intro fun i1 hi1 => ?_
  simp -implicitDefEqProofs (disch := (first | omega | (simp only [List.length_append, List.length_cons, List.length_nil]; omega))) only [go_sem, binS_addD, Go.IntWalk.i64_in, puCP1, q]
  exact Done.drop1 hi1 ⟨by simp, rfl⟩
theorem fileLine_calls (w w2 : Bytes) (f : FileV) (H : Heap) (hw : w.length ≤ 100) (hw2 : w2.length ≤ 100) (hr : fileR f) :
    ACalls Tryz.prog 97 [.str w, .str w2, .agg (encFile f)] H fun x H' => x = .str ((if f.runs = true then w2 else w) ++ [32] ++ f.path ++ [32] ++ quoteB f.data ++ [10]) ∧ H' = H := by
  obtain ⟨r1, r2⟩ := hr
  have q := sQuo_eq f.data r2
  have ql := quoteB_len f.data
  generalize quoteB f.data = qv at *
  obtain ⟨p, d, r⟩ := f
  simp only at r1 r2 q ql
  refine ACalls.of_code (X := { pure := puCP1 }) puCP1_ok Tryz.func97 (by kernel_rfl) rfl (by kernel_rfl) (Nat.le_of_ble_eq_true rfl) ?_
  simp -implicitDefEqProofs (disch := (first | omega | (simp only [List.length_append, List.length_cons, List.length_nil]; omega))) only [go_sem, binS_addD, Go.IntWalk.i64_in, Tryz.f97, encFile]
  with_reducible refine nwC_intro fun i1 hi1 => ?_
  cases r
  · simp -implicitDefEqProofs (disch := (first | omega | (simp only [List.length_append, List.length_cons, List.length_nil]; omega))) only [go_sem, binS_addD, Go.IntWalk.i64_in, puCP1, q]
    exact Done.drop1 hi1 ⟨by simp, rfl⟩
  · simp -implicitDefEqProofs (disch := (first | omega | (simp only [List.length_append, List.length_cons, List.length_nil]; omega))) only [go_sem, binS_addD, Go.IntWalk.i64_in, puCP1, q]
    exact Done.drop1 hi1 ⟨by simp, rfl⟩
theorem sized_calls (s : Bytes) (H : Heap) : ACalls Tryz.prog 62 [.str s] H fun x H' => x = (if 4194304 < s.length then .tup [.str [], .int .i64 4] else .tup [.str s, .int .i64 0]) ∧ H' = H := by
  by_cases h : 4194304 < s.length
  · have y : decide ((4194304 : Int) < s.length) = true := decide_eq_true (by omega)
    rw [if_pos h]
    refine ACalls.of_code (X := { pure := pu0 }) pu0_ok Tryz.func62 (by kernel_rfl) rfl (by kernel_rfl) (Nat.le_of_ble_eq_true rfl) ?_
    simp -implicitDefEqProofs only [go_sem, Tryz.f62, y]
    exact Done.now ⟨rfl, rfl⟩
  · have y : decide ((4194304 : Int) < s.length) = false := decide_eq_false (by omega)
    rw [if_neg h]
    refine ACalls.of_code (X := { pure := pu0 }) pu0_ok Tryz.func62 (by kernel_rfl) rfl (by kernel_rfl) (Nat.le_of_ble_eq_true rfl) ?_
    simp -implicitDefEqProofs only [go_sem, Tryz.f62, y]
    exact Done.now ⟨rfl, rfl⟩
end Go.Proofs

/- Machines as texts: what is written is read; plain Lean, no program. -/
namespace Go.Proofs
open Go Go.Abs
set_option linter.unusedSimpArgs false
set_option linter.unusedVariables false
def factLn (s : SetV) : Bytes := wFact ++ [32] ++ s.key ++ [32] ++ quoteB s.value
def fileLn (f : FileV) : Bytes := (if f.runs = true then wRun else wFile) ++ [32] ++ f.path ++ [32] ++ quoteB f.data
def setLn (s : SetV) : Bytes := wSet ++ [32] ++ s.key ++ [32] ++ quoteB s.value
def svcLn (s : SvcV) : Bytes := wService ++ [32] ++ svcLine s
def linesT {α : Type} (ln : α → Bytes) (l : List α) : Bytes := (l.map fun x => ln x ++ [10]).flatten
theorem linesT_take {α : Type} {ln : α → Bytes} {l : List α} {i : Nat} {c : α} (h : l[i]? = some c) : linesT ln (l.take (i + 1)) = linesT ln (l.take i) ++ (ln c ++ [10]) := by
  unfold linesT
  rw [List.take_add_one, h]
  simp
theorem linesT_le {α : Type} (ln : α → Bytes) (l : List α) (i : Nat) : (linesT ln (l.take i)).length ≤ (linesT ln l).length := by
  have e : linesT ln l = linesT ln (l.take i) ++ linesT ln (l.drop i) := by
    unfold linesT
    rw [← List.flatten_append, ← List.map_append, List.take_append_drop]
  rw [e, List.length_append]
  omega
def macText (m : MacV) : Bytes := linesT factLn m.facts ++ linesT fileLn m.files ++ linesT setLn m.sets ++ linesT svcLn m.svcs
end Go.Proofs

/- Walks: a machine is written, on both sides. -/
namespace Go.Proofs
open Go Go.Abs
set_option linter.unusedSimpArgs false
set_option linter.unusedVariables false
set_option maxRecDepth 20000
noncomputable def sSvW2 := spF (fun f : SvcV => [.agg (encSvc f)]) svcR (fun s => .str (svcLine s))
theorem sSvW2_eq (n p : Bytes) (u v : Bool) (h : svcR ⟨n, p, u, v⟩) : sSvW2 [.agg [.str n, .str p, .bool u, .bool v]] = some (.str (svcLine ⟨n, p, u, v⟩)) :=
  spF_eq (enc := fun f : SvcV => [.agg (encSvc f)]) (fun a b e => by
    obtain ⟨x1, x2, x3, x4⟩ := a
    obtain ⟨y1, y2, y3, y4⟩ := b
    cases e; rfl) ⟨n, p, u, v⟩ h
noncomputable def puTP : Pures := putP 33 sSvW2 puCP1
theorem puTP_dyn : isDyn puTP = false := by simp only [puTP, go_sem, Nat.reduceEqDiff]
attribute [go_sem] puTP_dyn
theorem puTP_ok : PuOK Tryz.prog puTP := .put (puCP1_ok) (spF_ok fun f H h => serviceWords_calls f H h)
def BldM (H : Heap) (im b : Nat) (s : Bytes) (r : Regs) (G : Heap) : Prop := BldOK H G b s ∧ r 1 = .ptr im 0 ∧ r 3 = bldP b
/-- The text so far. -/
def upTo (m : MacV) : Nat → Bytes
  | 0 => []
  | 1 => linesT factLn m.facts
  | 2 => linesT factLn m.facts ++ linesT fileLn m.files
  | 3 => linesT factLn m.facts ++ linesT fileLn m.files ++ linesT setLn m.sets
  | _ => macText m
set_option maxHeartbeats 12800000 in
theorem machineText_calls (m : MacV) (ta tb tc td : Tail) (H : Heap) (hr : macR m) (hT : (macText m).length ≤ 140737488355328) :
    ACalls Tryz.prog 63 [.agg (encMac m ta tb tc td)] H fun x H' => x = .str (macText m) ∧ H' = H := by
  obtain ⟨⟨l1, l2, l3, l4⟩, r1, r2, r3, r4⟩ := hr
  have hS := Heap.Sub.rfl' H
  have hlen : (macText m).length = (linesT factLn m.facts).length + (linesT fileLn m.files).length + (linesT setLn m.sets).length + (linesT svcLn m.svcs).length := by simp [macText]; omega
  refine ACalls.of_code (X := { pure := puTP, ms := fun t => decide (t = 3) }) puTP_ok Tryz.func63 (by kernel_rfl) rfl (by kernel_rfl) (Nat.le_of_ble_eq_true rfl) ?_
  simp -implicitDefEqProofs only [go_sem, Tryz.f63, encMac]
  with_reducible refine nwC_intro fun im him => ?_
  generalize Em : Heap.put H im _ = G1
  have hO_m := obj_new Em him hS
  have nm := hO_m.1
  have hS := hO_m.2.1
  have gm := hO_m.2.2.1
  clear hO_m
  simp -implicitDefEqProofs only [go_sem]
  with_reducible refine nwT_intro fun b hb => ?_
  simp -implicitDefEqProofs only [go_sem]
  have gm2 : (G1.put b (.cells [.nilp, .snil])) im = _ := (put_ne _ _ _ _ (obj_ne gm hb)).trans gm
  have hB := BldG.new (Heap.Sub.rfl' G1) hb
  generalize G1.put b (.cells [.nilp, .snil]) = G0 at *
  simp -implicitDefEqProofs only [go_sem, gm2]
  with_reducible refine aloop_cut 0 (BldM G1 im b (upTo m 1)) ?_ ?_
  rotate_left
  · refine aloop_intro (σ := Nat) (fun i => [(1, .ptr im 0), (3, bldP b), (13, .sl (m.facts.map encSet) ta), (14, .int .i64 m.facts.length), (15, .int .i64 i)])
      (fun i G => i ≤ m.facts.length ∧ BldOK G1 G b (upTo m 0 ++ linesT factLn (m.facts.take i))) (fun i => m.facts.length - i) 0 ?_ ?_ ?_
    · simp -implicitDefEqProofs only [go_sem, bldP]
    · exact ⟨Nat.zero_le _, by simpa [linesT, upTo] using hB⟩
    clear hB
    rintro i r G hv ⟨hi, hB⟩
    have e1 := hv.1
    have e3 := hv.2.1
    have ea := hv.2.2.1
    have eb := hv.2.2.2.1
    have ec := hv.2.2.2.2.1
    clear hv
    by_cases g : i < m.facts.length
    rotate_left
    · have y0 : decide ((i : Int) < m.facts.length) = false := decide_eq_false (by omega)
      obtain rfl : i = m.facts.length := by omega
      rw [List.take_length] at hB
      simp -implicitDefEqProofs only [go_sem, e1, e3, ea, eb, ec, y0]
      exact ⟨hB, by simp -implicitDefEqProofs only [go_sem, e1], by simp -implicitDefEqProofs only [go_sem, e3]⟩
    have y0 : decide ((i : Int) < m.facts.length) = true := decide_eq_true (by omega)
    obtain ⟨x, hx⟩ : ∃ x, m.facts[i]? = some x := getD_get' g
    have hxr := r1 x (List.mem_of_getElem? hx)
    have ws : IntKind.i64.wrap ((i : Int) + 1) = ((i + 1 : Nat) : Int) := by rw [Go.IntWalk.i64_in _ (by omega)]; omega
    have hU : ∀ (a : SetV), a ∈ m.facts → (encSet a).length = 2 := fun _ _ => rfl
    have hn := linesT_take (ln := factLn) hx
    have hle := linesT_le factLn m.facts (i + 1)
    have hup : (upTo m 0).length + (linesT factLn m.facts).length ≤ (macText m).length := by
      rw [hlen]
      simp only [upTo, List.length_append, List.length_nil]
      omega
    obtain ⟨p, d⟩ := x
    have fin : ∀ s, s = factLn ⟨p, d⟩ ++ [10] → ∀ G7, BldOK G1 G7 b (upTo m 0 ++ linesT factLn (m.facts.take i)) → ∀ K : K1, (∀ G', BldOK G1 G' b (upTo m 0 ++ linesT factLn (m.facts.take (i + 1))) → K (.tup [.int .i64 s.length, .nilIface]) G') → ACalls Tryz.prog 31 [bldP b, .str s] G7 K := by
      intro s hs G7 hB7 K hK
      rw [hn, ← hs, List.length_append] at hle
      refine writeString_k hB7 (by rw [List.length_append]; omega) fun G' hB' _ => hK G' ?_
      rw [hn, ← hs, ← List.append_assoc]; exact hB'
    simp -implicitDefEqProofs only [go_sem, e1, e3, ea, eb, ec, y0, hx]
    refine ⟨hU, Nat.le_refl _, ?_⟩
    simp only [encSet, List.take_succ_cons, List.take_zero, List.take_nil]
    with_reducible refine nwC_intro fun i7 hi7 => ?_
    replace hB := BldG.put hB hi7 (.cells [.str p, .str d])
    have g7 := put_same G i7 (.cells [.str p, .str d])
    try simp -implicitDefEqProofs only [go_sem]
    generalize G.put i7 (.cells [.str p, .str d]) = G7 at *
    have hsl := settingLine_calls wFact ⟨p, d⟩ G7 (by decide) hxr
    simp only [encSet, wFact, wSet] at hsl
    try simp -implicitDefEqProofs only [go_sem, e1, e3, ea, eb, ec, g7]
    refine hsl.pure_next _ ?_
    try simp -implicitDefEqProofs only [go_sem, e1, e3, ea, eb, ec]
    try refine ⟨by omega, by omega, ?_⟩
    refine fin _ ?_ G7 hB _ fun G' hB' => ?_
    · simp [factLn, wFact, wFile, wRun, wSet, wService]
    simp -implicitDefEqProofs only [go_sem, e1, e3, ea, eb, ec, ws]
    exact Again.mk (i + 1) (by simp -implicitDefEqProofs only [go_sem, e1, e3, ea, eb]) ⟨by omega, hB'⟩ (by omega)
  clear hB
  rintro r G ⟨hB, e1, e3⟩
  have gm3 := hB.sub _ _ gm
  simp -implicitDefEqProofs only [go_sem, e1, e3, gm3]
  clear gm3
  with_reducible refine aloop_cut 2 (BldM G1 im b (upTo m 2)) ?_ ?_
  rotate_left
  · refine aloop_intro (σ := Nat) (fun i => [(1, .ptr im 0), (3, bldP b), (24, .sl (m.files.map encFile) tb), (25, .int .i64 m.files.length), (26, .int .i64 i)])
      (fun i G => i ≤ m.files.length ∧ BldOK G1 G b (upTo m 1 ++ linesT fileLn (m.files.take i))) (fun i => m.files.length - i) 0 ?_ ?_ ?_
    · simp -implicitDefEqProofs only [go_sem, e1, e3, bldP]
    · exact ⟨Nat.zero_le _, by simpa [linesT, upTo] using hB⟩
    clear hB e1 e3
    rintro i r G hv ⟨hi, hB⟩
    have e1 := hv.1
    have e3 := hv.2.1
    have ea := hv.2.2.1
    have eb := hv.2.2.2.1
    have ec := hv.2.2.2.2.1
    clear hv
    by_cases g : i < m.files.length
    rotate_left
    · have y0 : decide ((i : Int) < m.files.length) = false := decide_eq_false (by omega)
      obtain rfl : i = m.files.length := by omega
      rw [List.take_length] at hB
      simp -implicitDefEqProofs only [go_sem, e1, e3, ea, eb, ec, y0]
      exact ⟨hB, by simp -implicitDefEqProofs only [go_sem, e1], by simp -implicitDefEqProofs only [go_sem, e3]⟩
    have y0 : decide ((i : Int) < m.files.length) = true := decide_eq_true (by omega)
    obtain ⟨x, hx⟩ : ∃ x, m.files[i]? = some x := getD_get' g
    have hxr := r2 x (List.mem_of_getElem? hx)
    have ws : IntKind.i64.wrap ((i : Int) + 1) = ((i + 1 : Nat) : Int) := by rw [Go.IntWalk.i64_in _ (by omega)]; omega
    have hU : ∀ (a : FileV), a ∈ m.files → (encFile a).length = 3 := fun _ _ => rfl
    have hn := linesT_take (ln := fileLn) hx
    have hle := linesT_le fileLn m.files (i + 1)
    have hup : (upTo m 1).length + (linesT fileLn m.files).length ≤ (macText m).length := by
      rw [hlen]
      simp only [upTo, List.length_append, List.length_nil]
      omega
    obtain ⟨p, d, ru⟩ := x
    have fin : ∀ s, s = fileLn ⟨p, d, ru⟩ ++ [10] → ∀ G7, BldOK G1 G7 b (upTo m 1 ++ linesT fileLn (m.files.take i)) → ∀ K : K1, (∀ G', BldOK G1 G' b (upTo m 1 ++ linesT fileLn (m.files.take (i + 1))) → K (.tup [.int .i64 s.length, .nilIface]) G') → ACalls Tryz.prog 31 [bldP b, .str s] G7 K := by
      intro s hs G7 hB7 K hK
      rw [hn, ← hs, List.length_append] at hle
      refine writeString_k hB7 (by rw [List.length_append]; omega) fun G' hB' _ => hK G' ?_
      rw [hn, ← hs, ← List.append_assoc]; exact hB'
    simp -implicitDefEqProofs only [go_sem, e1, e3, ea, eb, ec, y0, hx]
    refine ⟨hU, Nat.le_refl _, ?_⟩
    simp only [encFile, List.take_succ_cons, List.take_zero, List.take_nil]
    with_reducible refine nwC_intro fun i7 hi7 => ?_
    replace hB := BldG.put hB hi7 (.cells [.str p, .str d, .bool ru])
    have g7 := put_same G i7 (.cells [.str p, .str d, .bool ru])
    try simp -implicitDefEqProofs only [go_sem]
    generalize G.put i7 (.cells [.str p, .str d, .bool ru]) = G7 at *
    have hsl := fileLine_calls wFile wRun ⟨p, d, ru⟩ G7 (by decide) (by decide) hxr
    simp only [encFile, wFile, wRun] at hsl
    try simp -implicitDefEqProofs only [go_sem, e1, e3, ea, eb, ec, g7]
    refine hsl.pure_next _ ?_
    try simp -implicitDefEqProofs only [go_sem, e1, e3, ea, eb, ec]
    try refine ⟨by omega, by omega, ?_⟩
    refine fin _ ?_ G7 hB _ fun G' hB' => ?_
    · simp [fileLn, wFact, wFile, wRun, wSet, wService]
    simp -implicitDefEqProofs only [go_sem, e1, e3, ea, eb, ec, ws]
    exact Again.mk (i + 1) (by simp -implicitDefEqProofs only [go_sem, e1, e3, ea, eb]) ⟨by omega, hB'⟩ (by omega)
  clear hB e1 e3
  rintro r G ⟨hB, e1, e3⟩
  have gm3 := hB.sub _ _ gm
  simp -implicitDefEqProofs only [go_sem, e1, e3, gm3]
  clear gm3
  with_reducible refine aloop_cut 4 (BldM G1 im b (upTo m 3)) ?_ ?_
  rotate_left
  · refine aloop_intro (σ := Nat) (fun i => [(1, .ptr im 0), (3, bldP b), (35, .sl (m.sets.map encSet) tc), (36, .int .i64 m.sets.length), (37, .int .i64 i)])
      (fun i G => i ≤ m.sets.length ∧ BldOK G1 G b (upTo m 2 ++ linesT setLn (m.sets.take i))) (fun i => m.sets.length - i) 0 ?_ ?_ ?_
    · simp -implicitDefEqProofs only [go_sem, e1, e3, bldP]
    · exact ⟨Nat.zero_le _, by simpa [linesT, upTo] using hB⟩
    clear hB e1 e3
    rintro i r G hv ⟨hi, hB⟩
    have e1 := hv.1
    have e3 := hv.2.1
    have ea := hv.2.2.1
    have eb := hv.2.2.2.1
    have ec := hv.2.2.2.2.1
    clear hv
    by_cases g : i < m.sets.length
    rotate_left
    · have y0 : decide ((i : Int) < m.sets.length) = false := decide_eq_false (by omega)
      obtain rfl : i = m.sets.length := by omega
      rw [List.take_length] at hB
      simp -implicitDefEqProofs only [go_sem, e1, e3, ea, eb, ec, y0]
      exact ⟨hB, by simp -implicitDefEqProofs only [go_sem, e1], by simp -implicitDefEqProofs only [go_sem, e3]⟩
    have y0 : decide ((i : Int) < m.sets.length) = true := decide_eq_true (by omega)
    obtain ⟨x, hx⟩ : ∃ x, m.sets[i]? = some x := getD_get' g
    have hxr := r3 x (List.mem_of_getElem? hx)
    have ws : IntKind.i64.wrap ((i : Int) + 1) = ((i + 1 : Nat) : Int) := by rw [Go.IntWalk.i64_in _ (by omega)]; omega
    have hU : ∀ (a : SetV), a ∈ m.sets → (encSet a).length = 2 := fun _ _ => rfl
    have hn := linesT_take (ln := setLn) hx
    have hle := linesT_le setLn m.sets (i + 1)
    have hup : (upTo m 2).length + (linesT setLn m.sets).length ≤ (macText m).length := by
      rw [hlen]
      simp only [upTo, List.length_append, List.length_nil]
      omega
    obtain ⟨p, d⟩ := x
    have fin : ∀ s, s = setLn ⟨p, d⟩ ++ [10] → ∀ G7, BldOK G1 G7 b (upTo m 2 ++ linesT setLn (m.sets.take i)) → ∀ K : K1, (∀ G', BldOK G1 G' b (upTo m 2 ++ linesT setLn (m.sets.take (i + 1))) → K (.tup [.int .i64 s.length, .nilIface]) G') → ACalls Tryz.prog 31 [bldP b, .str s] G7 K := by
      intro s hs G7 hB7 K hK
      rw [hn, ← hs, List.length_append] at hle
      refine writeString_k hB7 (by rw [List.length_append]; omega) fun G' hB' _ => hK G' ?_
      rw [hn, ← hs, ← List.append_assoc]; exact hB'
    simp -implicitDefEqProofs only [go_sem, e1, e3, ea, eb, ec, y0, hx]
    refine ⟨hU, Nat.le_refl _, ?_⟩
    simp only [encSet, List.take_succ_cons, List.take_zero, List.take_nil]
    with_reducible refine nwC_intro fun i7 hi7 => ?_
    replace hB := BldG.put hB hi7 (.cells [.str p, .str d])
    have g7 := put_same G i7 (.cells [.str p, .str d])
    try simp -implicitDefEqProofs only [go_sem]
    generalize G.put i7 (.cells [.str p, .str d]) = G7 at *
    have hsl := settingLine_calls wSet ⟨p, d⟩ G7 (by decide) hxr
    simp only [encSet, wFact, wSet] at hsl
    try simp -implicitDefEqProofs only [go_sem, e1, e3, ea, eb, ec, g7]
    refine hsl.pure_next _ ?_
    try simp -implicitDefEqProofs only [go_sem, e1, e3, ea, eb, ec]
    try refine ⟨by omega, by omega, ?_⟩
    refine fin _ ?_ G7 hB _ fun G' hB' => ?_
    · simp [setLn, wFact, wFile, wRun, wSet, wService]
    simp -implicitDefEqProofs only [go_sem, e1, e3, ea, eb, ec, ws]
    exact Again.mk (i + 1) (by simp -implicitDefEqProofs only [go_sem, e1, e3, ea, eb]) ⟨by omega, hB'⟩ (by omega)
  clear hB e1 e3
  rintro r G ⟨hB, e1, e3⟩
  have gm3 := hB.sub _ _ gm
  simp -implicitDefEqProofs only [go_sem, e1, e3, gm3]
  clear gm3
  with_reducible refine aloop_cut 6 (BldM G1 im b (upTo m 4)) ?_ ?_
  rotate_left
  · refine aloop_intro (σ := Nat) (fun i => [(1, .ptr im 0), (3, bldP b), (46, .sl (m.svcs.map encSvc) td), (47, .int .i64 m.svcs.length), (48, .int .i64 i)])
      (fun i G => i ≤ m.svcs.length ∧ BldOK G1 G b (upTo m 3 ++ linesT svcLn (m.svcs.take i))) (fun i => m.svcs.length - i) 0 ?_ ?_ ?_
    · simp -implicitDefEqProofs only [go_sem, e1, e3, bldP]
    · exact ⟨Nat.zero_le _, by simpa [linesT, upTo] using hB⟩
    clear hB e1 e3
    rintro i r G hv ⟨hi, hB⟩
    have e1 := hv.1
    have e3 := hv.2.1
    have ea := hv.2.2.1
    have eb := hv.2.2.2.1
    have ec := hv.2.2.2.2.1
    clear hv
    by_cases g : i < m.svcs.length
    rotate_left
    · have y0 : decide ((i : Int) < m.svcs.length) = false := decide_eq_false (by omega)
      obtain rfl : i = m.svcs.length := by omega
      rw [List.take_length] at hB
      simp -implicitDefEqProofs only [go_sem, e1, e3, ea, eb, ec, y0]
      exact ⟨hB, by simp -implicitDefEqProofs only [go_sem, e1], by simp -implicitDefEqProofs only [go_sem, e3]⟩
    have y0 : decide ((i : Int) < m.svcs.length) = true := decide_eq_true (by omega)
    obtain ⟨x, hx⟩ : ∃ x, m.svcs[i]? = some x := getD_get' g
    have hxr := r4 x (List.mem_of_getElem? hx)
    have ws : IntKind.i64.wrap ((i : Int) + 1) = ((i + 1 : Nat) : Int) := by rw [Go.IntWalk.i64_in _ (by omega)]; omega
    have hU : ∀ (a : SvcV), a ∈ m.svcs → (encSvc a).length = 4 := fun _ _ => rfl
    have hn := linesT_take (ln := svcLn) hx
    have hle := linesT_le svcLn m.svcs (i + 1)
    have hup : (upTo m 3).length + (linesT svcLn m.svcs).length ≤ (macText m).length := by
      rw [hlen]
      simp only [upTo, List.length_append, List.length_nil]
      omega
    obtain ⟨p, d, au, on⟩ := x
    have fin : ∀ s, s = svcLn ⟨p, d, au, on⟩ ++ [10] → ∀ G7, BldOK G1 G7 b (upTo m 3 ++ linesT svcLn (m.svcs.take i)) → ∀ K : K1, (∀ G', BldOK G1 G' b (upTo m 3 ++ linesT svcLn (m.svcs.take (i + 1))) → K (.tup [.int .i64 s.length, .nilIface]) G') → ACalls Tryz.prog 31 [bldP b, .str s] G7 K := by
      intro s hs G7 hB7 K hK
      rw [hn, ← hs, List.length_append] at hle
      refine writeString_k hB7 (by rw [List.length_append]; omega) fun G' hB' _ => hK G' ?_
      rw [hn, ← hs, ← List.append_assoc]; exact hB'
    simp -implicitDefEqProofs only [go_sem, e1, e3, ea, eb, ec, y0, hx]
    refine ⟨hU, Nat.le_refl _, ?_⟩
    simp only [encSvc, List.take_succ_cons, List.take_zero, List.take_nil]
    with_reducible refine nwC_intro fun i7 hi7 => ?_
    replace hB := BldG.put hB hi7 (.cells [.str p, .str d, .bool au, .bool on])
    have g7 := put_same G i7 (.cells [.str p, .str d, .bool au, .bool on])
    try simp -implicitDefEqProofs only [go_sem]
    generalize G.put i7 (.cells [.str p, .str d, .bool au, .bool on]) = G7 at *
    have hsl := serviceLine_calls ⟨p, d, au, on⟩ G7 hxr
    simp only [encSvc] at hsl
    try simp -implicitDefEqProofs only [go_sem, e1, e3, ea, eb, ec, g7]
    refine hsl.pure_next _ ?_
    try simp -implicitDefEqProofs only [go_sem, e1, e3, ea, eb, ec]
    try refine ⟨by omega, by omega, ?_⟩
    refine fin _ ?_ G7 hB _ fun G' hB' => ?_
    · simp [svcLn, wFact, wFile, wRun, wSet, wService]
    simp -implicitDefEqProofs only [go_sem, e1, e3, ea, eb, ec, ws]
    exact Again.mk (i + 1) (by simp -implicitDefEqProofs only [go_sem, e1, e3, ea, eb]) ⟨by omega, hB'⟩ (by omega)
  clear hB e1 e3
  rintro r G ⟨hB, e1, e3⟩
  simp -implicitDefEqProofs only [go_sem, e1, e3]
  refine bldString_k hB (by simpa [upTo] using hT) (fun h => by cases h) ?_
  simp -implicitDefEqProofs only [go_sem]
  exact Done.drop (fun i o hi => hB.sub _ _ (hS i o hi)) ⟨by simp [upTo], rfl⟩
def printA (m : MacV) : AV := if macErr m ≠ 0 then .tup [.str [], .int .i64 (macErr m)] else if 4194304 < (macText m).length then .tup [.str [], .int .i64 4] else .tup [.str (macText m), .int .i64 0]
theorem print_calls (m : MacV) (ta tb tc td : Tail) (H : Heap) (hr : macR m) (hT : (macText m).length ≤ 140737488355328) :
    ACalls Tryz.prog 36 [.agg (encMac m ta tb tc td)] H fun x H' => x = printA m ∧ H' = H := by
  have hS := Heap.Sub.rfl' H
  have hck := fun G => check_calls m ta tb tc td G hr
  have hmt := fun G => machineText_calls m ta tb tc td G hr hT
  have hv := printA.eq_1 m
  unfold encMac at hck hmt
  refine ACalls.of_code (X := { pure := pu0 }) pu0_ok Tryz.func36 (by kernel_rfl) rfl (by kernel_rfl) (Nat.le_of_ble_eq_true rfl) ?_
  simp -implicitDefEqProofs only [go_sem, Tryz.f36, encMac]
  with_reducible refine nwC_intro fun im him => ?_
  generalize Em : Heap.put H im _ = G1
  have hO_m := obj_new Em him hS
  have nm := hO_m.1
  have hS := hO_m.2.1
  have gm := hO_m.2.2.1
  clear hO_m
  simp -implicitDefEqProofs only [go_sem, gm]
  refine (hck G1).pure_next _ ?_
  by_cases c0 : macErr m = 0
  rotate_left
  · have y0 : decide (¬ macErr m = 0) = true := decide_eq_true c0
    rw [if_pos c0] at hv
    simp -implicitDefEqProofs only [go_sem, y0]
    exact Done.drop hS ⟨hv.symm, rfl⟩
  have y0 : decide (¬ macErr m = 0) = false := decide_eq_false (by simpa using c0)
  rw [if_neg (by simpa using c0)] at hv
  simp -implicitDefEqProofs only [go_sem, y0, gm]
  refine (hmt G1).pure_next _ ?_
  simp -implicitDefEqProofs only [go_sem]
  refine (sized_calls (macText m) G1).pure_next _ ?_
  by_cases c1 : 4194304 < (macText m).length
  · rw [if_pos c1] at hv ⊢
    simp -implicitDefEqProofs only [go_sem]
    exact Done.drop hS ⟨hv.symm, rfl⟩
  · rw [if_neg c1] at hv ⊢
    simp -implicitDefEqProofs only [go_sem]
    exact Done.drop hS ⟨hv.symm, rfl⟩
set_option maxHeartbeats 12800000 in
theorem rPrint_calls (m : MacV) (ta tb tc td : Tail) (H : Heap) (hr : macR m) (hT : (macText m).length ≤ 140737488355328) :
    ACalls Tryz.prog 10 [.agg (encMac m ta tb tc td)] H fun x H' => x = .str (macText m) ∧ H' = H := by
  obtain ⟨⟨l1, l2, l3, l4⟩, r1, r2, r3, r4⟩ := hr
  have hS := Heap.Sub.rfl' H
  have hlen : (macText m).length = (linesT factLn m.facts).length + (linesT fileLn m.files).length + (linesT setLn m.sets).length + (linesT svcLn m.svcs).length := by simp [macText]; omega
  refine ACalls.of_code (X := { pure := puTP, ms := fun t => decide (t = 3) }) puTP_ok Tryz.func10 (by kernel_rfl) rfl (by kernel_rfl) (Nat.le_of_ble_eq_true rfl) ?_
  simp -implicitDefEqProofs only [go_sem, Tryz.f10, encMac]
  with_reducible refine nwC_intro fun im him => ?_
  generalize Em : Heap.put H im _ = G1
  have hO_m := obj_new Em him hS
  have nm := hO_m.1
  have hS := hO_m.2.1
  have gm := hO_m.2.2.1
  clear hO_m
  simp -implicitDefEqProofs only [go_sem]
  with_reducible refine nwT_intro fun b hb => ?_
  simp -implicitDefEqProofs only [go_sem]
  have gm2 : (G1.put b (.cells [.nilp, .snil])) im = _ := (put_ne _ _ _ _ (obj_ne gm hb)).trans gm
  have hB := BldG.new (Heap.Sub.rfl' G1) hb
  generalize G1.put b (.cells [.nilp, .snil]) = G0 at *
  simp -implicitDefEqProofs only [go_sem, gm2]
  with_reducible refine aloop_cut 0 (BldM G1 im b (upTo m 1)) ?_ ?_
  rotate_left
  · refine aloop_intro (σ := Nat) (fun i => [(1, .ptr im 0), (3, bldP b), (14, .sl (m.facts.map encSet) ta), (15, .int .i64 m.facts.length), (16, .int .i64 i)])
      (fun i G => i ≤ m.facts.length ∧ BldOK G1 G b (upTo m 0 ++ linesT factLn (m.facts.take i))) (fun i => m.facts.length - i) 0 ?_ ?_ ?_
    · simp -implicitDefEqProofs only [go_sem, bldP]
    · exact ⟨Nat.zero_le _, by simpa [linesT, upTo] using hB⟩
    clear hB
    rintro i r G hv ⟨hi, hB⟩
    have e1 := hv.1
    have e3 := hv.2.1
    have ea := hv.2.2.1
    have eb := hv.2.2.2.1
    have ec := hv.2.2.2.2.1
    clear hv
    by_cases g : i < m.facts.length
    rotate_left
    · have y0 : decide ((i : Int) < m.facts.length) = false := decide_eq_false (by omega)
      obtain rfl : i = m.facts.length := by omega
      rw [List.take_length] at hB
      simp -implicitDefEqProofs only [go_sem, e1, e3, ea, eb, ec, y0]
      exact ⟨hB, by simp -implicitDefEqProofs only [go_sem, e1], by simp -implicitDefEqProofs only [go_sem, e3]⟩
    have y0 : decide ((i : Int) < m.facts.length) = true := decide_eq_true (by omega)
    obtain ⟨x, hx⟩ : ∃ x, m.facts[i]? = some x := getD_get' g
    have hxr := r1 x (List.mem_of_getElem? hx)
    have ws : IntKind.i64.wrap ((i : Int) + 1) = ((i + 1 : Nat) : Int) := by rw [Go.IntWalk.i64_in _ (by omega)]; omega
    have hU : ∀ (a : SetV), a ∈ m.facts → (encSet a).length = 2 := fun _ _ => rfl
    have hn := linesT_take (ln := factLn) hx
    have hle := linesT_le factLn m.facts (i + 1)
    have hup : (upTo m 0).length + (linesT factLn m.facts).length ≤ (macText m).length := by
      rw [hlen]
      simp only [upTo, List.length_append, List.length_nil]
      omega
    obtain ⟨p, d⟩ := x
    have fin : ∀ s, s = factLn ⟨p, d⟩ ++ [10] → ∀ G7, BldOK G1 G7 b (upTo m 0 ++ linesT factLn (m.facts.take i)) → ∀ K : K1, (∀ G', BldOK G1 G' b (upTo m 0 ++ linesT factLn (m.facts.take (i + 1))) → K (.tup [.int .i64 s.length, .nilIface]) G') → ACalls Tryz.prog 31 [bldP b, .str s] G7 K := by
      intro s hs G7 hB7 K hK
      rw [hn, ← hs, List.length_append] at hle
      refine writeString_k hB7 (by rw [List.length_append]; omega) fun G' hB' _ => hK G' ?_
      rw [hn, ← hs, ← List.append_assoc]; exact hB'
    simp -implicitDefEqProofs only [go_sem, e1, e3, ea, eb, ec, y0, hx]
    refine ⟨hU, Nat.le_refl _, ?_⟩
    simp only [encSet, List.take_succ_cons, List.take_zero, List.take_nil]
    with_reducible refine nwC_intro fun i7 hi7 => ?_
    replace hB := BldG.put hB hi7 (.cells [.str p, .str d])
    have g7 := put_same G i7 (.cells [.str p, .str d])
    try simp -implicitDefEqProofs only [go_sem]
    generalize G.put i7 (.cells [.str p, .str d]) = G7 at *
    have q := sQuo_eq d hxr.2
    have ql := quoteB_len d
    have h1 := hxr.1
    have h2 := hxr.2
    simp only at h1 h2
    simp -implicitDefEqProofs (disch := (first | omega | (simp only [List.length_append, List.length_cons, List.length_nil]; omega))) only [go_sem, binS_addD, Go.IntWalk.i64_in, e1, e3, ea, eb, ec, g7, puTP, puCP1, q]
    try refine ⟨by omega, by omega, ?_⟩
    refine fin _ ?_ G7 hB _ fun G' hB' => ?_
    · simp [factLn, wFact, wFile, wRun, wSet, wService]
    simp -implicitDefEqProofs only [go_sem, e1, e3, ea, eb, ec, ws]
    exact Again.mk (i + 1) (by simp -implicitDefEqProofs only [go_sem, e1, e3, ea, eb]) ⟨by omega, hB'⟩ (by omega)
  clear hB
  rintro r G ⟨hB, e1, e3⟩
  have gm3 := hB.sub _ _ gm
  simp -implicitDefEqProofs only [go_sem, e1, e3, gm3]
  clear gm3
  with_reducible refine aloop_cut 2 (BldM G1 im b (upTo m 2)) ?_ ?_
  rotate_left
  · refine aloop_intro (σ := Nat) (fun i => [(1, .ptr im 0), (3, bldP b), (32, .sl (m.files.map encFile) tb), (33, .int .i64 m.files.length), (34, .int .i64 i)])
      (fun i G => i ≤ m.files.length ∧ BldOK G1 G b (upTo m 1 ++ linesT fileLn (m.files.take i))) (fun i => m.files.length - i) 0 ?_ ?_ ?_
    · simp -implicitDefEqProofs only [go_sem, e1, e3, bldP]
    · exact ⟨Nat.zero_le _, by simpa [linesT, upTo] using hB⟩
    clear hB e1 e3
    rintro i r G hv ⟨hi, hB⟩
    have e1 := hv.1
    have e3 := hv.2.1
    have ea := hv.2.2.1
    have eb := hv.2.2.2.1
    have ec := hv.2.2.2.2.1
    clear hv
    by_cases g : i < m.files.length
    rotate_left
    · have y0 : decide ((i : Int) < m.files.length) = false := decide_eq_false (by omega)
      obtain rfl : i = m.files.length := by omega
      rw [List.take_length] at hB
      simp -implicitDefEqProofs only [go_sem, e1, e3, ea, eb, ec, y0]
      exact ⟨hB, by simp -implicitDefEqProofs only [go_sem, e1], by simp -implicitDefEqProofs only [go_sem, e3]⟩
    have y0 : decide ((i : Int) < m.files.length) = true := decide_eq_true (by omega)
    obtain ⟨x, hx⟩ : ∃ x, m.files[i]? = some x := getD_get' g
    have hxr := r2 x (List.mem_of_getElem? hx)
    have ws : IntKind.i64.wrap ((i : Int) + 1) = ((i + 1 : Nat) : Int) := by rw [Go.IntWalk.i64_in _ (by omega)]; omega
    have hU : ∀ (a : FileV), a ∈ m.files → (encFile a).length = 3 := fun _ _ => rfl
    have hn := linesT_take (ln := fileLn) hx
    have hle := linesT_le fileLn m.files (i + 1)
    have hup : (upTo m 1).length + (linesT fileLn m.files).length ≤ (macText m).length := by
      rw [hlen]
      simp only [upTo, List.length_append, List.length_nil]
      omega
    obtain ⟨p, d, ru⟩ := x
    have fin : ∀ s, s = fileLn ⟨p, d, ru⟩ ++ [10] → ∀ G7, BldOK G1 G7 b (upTo m 1 ++ linesT fileLn (m.files.take i)) → ∀ K : K1, (∀ G', BldOK G1 G' b (upTo m 1 ++ linesT fileLn (m.files.take (i + 1))) → K (.tup [.int .i64 s.length, .nilIface]) G') → ACalls Tryz.prog 31 [bldP b, .str s] G7 K := by
      intro s hs G7 hB7 K hK
      rw [hn, ← hs, List.length_append] at hle
      refine writeString_k hB7 (by rw [List.length_append]; omega) fun G' hB' _ => hK G' ?_
      rw [hn, ← hs, ← List.append_assoc]; exact hB'
    simp -implicitDefEqProofs only [go_sem, e1, e3, ea, eb, ec, y0, hx]
    refine ⟨hU, Nat.le_refl _, ?_⟩
    simp only [encFile, List.take_succ_cons, List.take_zero, List.take_nil]
    with_reducible refine nwC_intro fun i7 hi7 => ?_
    replace hB := BldG.put hB hi7 (.cells [.str p, .str d, .bool ru])
    have g7 := put_same G i7 (.cells [.str p, .str d, .bool ru])
    try simp -implicitDefEqProofs only [go_sem]
    generalize G.put i7 (.cells [.str p, .str d, .bool ru]) = G7 at *
    have q := sQuo_eq d hxr.2
    have ql := quoteB_len d
    have h1 := hxr.1
    have h2 := hxr.2
    simp only at h1 h2
    cases ru
    all_goals
      simp -implicitDefEqProofs (disch := (first | omega | (simp only [List.length_append, List.length_cons, List.length_nil]; omega))) only [go_sem, binS_addD, Go.IntWalk.i64_in, e1, e3, ea, eb, ec, g7, puTP, puCP1, q]
      try refine ⟨by omega, by omega, ?_⟩
      refine fin _ ?_ G7 hB _ fun G' hB' => ?_
      · simp [fileLn, wFact, wFile, wRun, wSet, wService]
      simp -implicitDefEqProofs only [go_sem, e1, e3, ea, eb, ec, ws]
      exact Again.mk (i + 1) (by simp -implicitDefEqProofs only [go_sem, e1, e3, ea, eb]) ⟨by omega, hB'⟩ (by omega)
  clear hB e1 e3
  rintro r G ⟨hB, e1, e3⟩
  have gm3 := hB.sub _ _ gm
  simp -implicitDefEqProofs only [go_sem, e1, e3, gm3]
  clear gm3
  with_reducible refine aloop_cut 4 (BldM G1 im b (upTo m 3)) ?_ ?_
  rotate_left
  · refine aloop_intro (σ := Nat) (fun i => [(1, .ptr im 0), (3, bldP b), (53, .sl (m.sets.map encSet) tc), (54, .int .i64 m.sets.length), (55, .int .i64 i)])
      (fun i G => i ≤ m.sets.length ∧ BldOK G1 G b (upTo m 2 ++ linesT setLn (m.sets.take i))) (fun i => m.sets.length - i) 0 ?_ ?_ ?_
    · simp -implicitDefEqProofs only [go_sem, e1, e3, bldP]
    · exact ⟨Nat.zero_le _, by simpa [linesT, upTo] using hB⟩
    clear hB e1 e3
    rintro i r G hv ⟨hi, hB⟩
    have e1 := hv.1
    have e3 := hv.2.1
    have ea := hv.2.2.1
    have eb := hv.2.2.2.1
    have ec := hv.2.2.2.2.1
    clear hv
    by_cases g : i < m.sets.length
    rotate_left
    · have y0 : decide ((i : Int) < m.sets.length) = false := decide_eq_false (by omega)
      obtain rfl : i = m.sets.length := by omega
      rw [List.take_length] at hB
      simp -implicitDefEqProofs only [go_sem, e1, e3, ea, eb, ec, y0]
      exact ⟨hB, by simp -implicitDefEqProofs only [go_sem, e1], by simp -implicitDefEqProofs only [go_sem, e3]⟩
    have y0 : decide ((i : Int) < m.sets.length) = true := decide_eq_true (by omega)
    obtain ⟨x, hx⟩ : ∃ x, m.sets[i]? = some x := getD_get' g
    have hxr := r3 x (List.mem_of_getElem? hx)
    have ws : IntKind.i64.wrap ((i : Int) + 1) = ((i + 1 : Nat) : Int) := by rw [Go.IntWalk.i64_in _ (by omega)]; omega
    have hU : ∀ (a : SetV), a ∈ m.sets → (encSet a).length = 2 := fun _ _ => rfl
    have hn := linesT_take (ln := setLn) hx
    have hle := linesT_le setLn m.sets (i + 1)
    have hup : (upTo m 2).length + (linesT setLn m.sets).length ≤ (macText m).length := by
      rw [hlen]
      simp only [upTo, List.length_append, List.length_nil]
      omega
    obtain ⟨p, d⟩ := x
    have fin : ∀ s, s = setLn ⟨p, d⟩ ++ [10] → ∀ G7, BldOK G1 G7 b (upTo m 2 ++ linesT setLn (m.sets.take i)) → ∀ K : K1, (∀ G', BldOK G1 G' b (upTo m 2 ++ linesT setLn (m.sets.take (i + 1))) → K (.tup [.int .i64 s.length, .nilIface]) G') → ACalls Tryz.prog 31 [bldP b, .str s] G7 K := by
      intro s hs G7 hB7 K hK
      rw [hn, ← hs, List.length_append] at hle
      refine writeString_k hB7 (by rw [List.length_append]; omega) fun G' hB' _ => hK G' ?_
      rw [hn, ← hs, ← List.append_assoc]; exact hB'
    simp -implicitDefEqProofs only [go_sem, e1, e3, ea, eb, ec, y0, hx]
    refine ⟨hU, Nat.le_refl _, ?_⟩
    simp only [encSet, List.take_succ_cons, List.take_zero, List.take_nil]
    with_reducible refine nwC_intro fun i7 hi7 => ?_
    replace hB := BldG.put hB hi7 (.cells [.str p, .str d])
    have g7 := put_same G i7 (.cells [.str p, .str d])
    try simp -implicitDefEqProofs only [go_sem]
    generalize G.put i7 (.cells [.str p, .str d]) = G7 at *
    have q := sQuo_eq d hxr.2
    have ql := quoteB_len d
    have h1 := hxr.1
    have h2 := hxr.2
    simp only at h1 h2
    simp -implicitDefEqProofs (disch := (first | omega | (simp only [List.length_append, List.length_cons, List.length_nil]; omega))) only [go_sem, binS_addD, Go.IntWalk.i64_in, e1, e3, ea, eb, ec, g7, puTP, puCP1, q]
    try refine ⟨by omega, by omega, ?_⟩
    refine fin _ ?_ G7 hB _ fun G' hB' => ?_
    · simp [setLn, wFact, wFile, wRun, wSet, wService]
    simp -implicitDefEqProofs only [go_sem, e1, e3, ea, eb, ec, ws]
    exact Again.mk (i + 1) (by simp -implicitDefEqProofs only [go_sem, e1, e3, ea, eb]) ⟨by omega, hB'⟩ (by omega)
  clear hB e1 e3
  rintro r G ⟨hB, e1, e3⟩
  have gm3 := hB.sub _ _ gm
  simp -implicitDefEqProofs only [go_sem, e1, e3, gm3]
  clear gm3
  with_reducible refine aloop_cut 6 (BldM G1 im b (upTo m 4)) ?_ ?_
  rotate_left
  · refine aloop_intro (σ := Nat) (fun i => [(1, .ptr im 0), (3, bldP b), (71, .sl (m.svcs.map encSvc) td), (72, .int .i64 m.svcs.length), (73, .int .i64 i)])
      (fun i G => i ≤ m.svcs.length ∧ BldOK G1 G b (upTo m 3 ++ linesT svcLn (m.svcs.take i))) (fun i => m.svcs.length - i) 0 ?_ ?_ ?_
    · simp -implicitDefEqProofs only [go_sem, e1, e3, bldP]
    · exact ⟨Nat.zero_le _, by simpa [linesT, upTo] using hB⟩
    clear hB e1 e3
    rintro i r G hv ⟨hi, hB⟩
    have e1 := hv.1
    have e3 := hv.2.1
    have ea := hv.2.2.1
    have eb := hv.2.2.2.1
    have ec := hv.2.2.2.2.1
    clear hv
    by_cases g : i < m.svcs.length
    rotate_left
    · have y0 : decide ((i : Int) < m.svcs.length) = false := decide_eq_false (by omega)
      obtain rfl : i = m.svcs.length := by omega
      rw [List.take_length] at hB
      simp -implicitDefEqProofs only [go_sem, e1, e3, ea, eb, ec, y0]
      exact ⟨hB, by simp -implicitDefEqProofs only [go_sem, e1], by simp -implicitDefEqProofs only [go_sem, e3]⟩
    have y0 : decide ((i : Int) < m.svcs.length) = true := decide_eq_true (by omega)
    obtain ⟨x, hx⟩ : ∃ x, m.svcs[i]? = some x := getD_get' g
    have hxr := r4 x (List.mem_of_getElem? hx)
    have ws : IntKind.i64.wrap ((i : Int) + 1) = ((i + 1 : Nat) : Int) := by rw [Go.IntWalk.i64_in _ (by omega)]; omega
    have hU : ∀ (a : SvcV), a ∈ m.svcs → (encSvc a).length = 4 := fun _ _ => rfl
    have hn := linesT_take (ln := svcLn) hx
    have hle := linesT_le svcLn m.svcs (i + 1)
    have hup : (upTo m 3).length + (linesT svcLn m.svcs).length ≤ (macText m).length := by
      rw [hlen]
      simp only [upTo, List.length_append, List.length_nil]
      omega
    obtain ⟨p, d, au, on⟩ := x
    have fin : ∀ s, s = svcLn ⟨p, d, au, on⟩ ++ [10] → ∀ G7, BldOK G1 G7 b (upTo m 3 ++ linesT svcLn (m.svcs.take i)) → ∀ K : K1, (∀ G', BldOK G1 G' b (upTo m 3 ++ linesT svcLn (m.svcs.take (i + 1))) → K (.tup [.int .i64 s.length, .nilIface]) G') → ACalls Tryz.prog 31 [bldP b, .str s] G7 K := by
      intro s hs G7 hB7 K hK
      rw [hn, ← hs, List.length_append] at hle
      refine writeString_k hB7 (by rw [List.length_append]; omega) fun G' hB' _ => hK G' ?_
      rw [hn, ← hs, ← List.append_assoc]; exact hB'
    simp -implicitDefEqProofs only [go_sem, e1, e3, ea, eb, ec, y0, hx]
    refine ⟨hU, Nat.le_refl _, ?_⟩
    simp only [encSvc, List.take_succ_cons, List.take_zero, List.take_nil]
    with_reducible refine nwC_intro fun i7 hi7 => ?_
    replace hB := BldG.put hB hi7 (.cells [.str p, .str d, .bool au, .bool on])
    have g7 := put_same G i7 (.cells [.str p, .str d, .bool au, .bool on])
    try simp -implicitDefEqProofs only [go_sem]
    generalize G.put i7 (.cells [.str p, .str d, .bool au, .bool on]) = G7 at *
    have q := sSvW2_eq p d au on hxr
    have h1 := hxr.1
    have h2 := hxr.2
    simp only at h1 h2
    have q3 : (svcLine ⟨p, d, au, on⟩).length ≤ p.length + d.length + 5 := by simp only [svcLine, List.length_append, List.length_cons, List.length_nil, bitV_len]; omega
    obtain ⟨sv, hsv⟩ : ∃ sv, svcLine ⟨p, d, au, on⟩ = sv := ⟨_, rfl⟩
    rw [hsv] at q q3
    simp -implicitDefEqProofs (disch := (first | omega | (simp only [List.length_append, List.length_cons, List.length_nil]; omega))) only [go_sem, binS_addD, Go.IntWalk.i64_in, e1, e3, ea, eb, ec, g7, puTP, puCP1, q]
    try refine ⟨by omega, by omega, ?_⟩
    refine fin _ ?_ G7 hB _ fun G' hB' => ?_
    · simp [svcLn, wFact, wFile, wRun, wSet, wService]
      try simp [hsv]
    simp -implicitDefEqProofs only [go_sem, e1, e3, ea, eb, ec, ws]
    exact Again.mk (i + 1) (by simp -implicitDefEqProofs only [go_sem, e1, e3, ea, eb]) ⟨by omega, hB'⟩ (by omega)
  clear hB e1 e3
  rintro r G ⟨hB, e1, e3⟩
  simp -implicitDefEqProofs only [go_sem, e1, e3]
  refine bldString_k hB (by simpa [upTo] using hT) (fun h => by cases h) ?_
  simp -implicitDefEqProofs only [go_sem]
  exact Done.drop (fun i o hi => hB.sub _ _ (hS i o hi)) ⟨by simp [upTo], rfl⟩
end Go.Proofs

/- Sorting by insertion, and leaving out what is there twice: plain Lean, no program. -/
namespace Go.Proofs
open Go Go.Abs
set_option linter.unusedSimpArgs false
set_option linter.unusedVariables false
theorem cmp_lt : ∀ (a b : Bytes), Lib.compareBytes a b < 0 ↔ strLt a b = true
  | [], [] => by simp [Lib.compareBytes, lt_irr]
  | [], b :: s => by
    rw [lt_lex, decide_eq_true_eq]
    simp only [Lib.compareBytes]
    exact ⟨fun _ => List.Lex.nil, fun _ => by decide⟩
  | a :: r, [] => by
    rw [lt_lex, decide_eq_true_eq]
    simp only [Lib.compareBytes]
    exact ⟨fun h => absurd h (by decide), fun h => by cases h⟩
  | a :: r, b :: s => by
    have ih := cmp_lt r s
    rw [lt_lex, decide_eq_true_eq] at ih ⊢
    simp only [Lib.compareBytes]
    by_cases h1 : a < b
    · rw [if_pos h1]
      exact ⟨fun _ => List.Lex.rel h1, fun _ => by decide⟩
    rw [if_neg h1]
    by_cases h2 : b < a
    · rw [if_pos h2]
      refine ⟨fun h => absurd h (by decide), fun h => ?_⟩
      cases h with
      | rel h => exact absurd h h1
      | cons h => exact absurd h2 h1
    · rw [if_neg h2]
      have e : a = b := UInt8.le_antisymm (UInt8.not_lt.1 h2) (UInt8.not_lt.1 h1)
      subst e
      rw [ih]
      exact ⟨fun h => List.Lex.cons h, fun h => by
        cases h with
        | rel h => exact absurd h h1
        | cons h => exact h⟩
section
variable {α : Type} (key : α → Bytes)
/-- No greater. -/
def LeK (a b : α) : Prop := strLt (key b) (key a) = false
variable {key}
theorem LeK.refl (a : α) : LeK key a a := lt_irr _
theorem LeK.of_lt {a b : α} (h : strLt (key a) (key b) = true) : LeK key a b := by
  unfold LeK
  cases hh : strLt (key b) (key a) with
  | false => rfl
  | true => have := lt_tr h hh; rw [lt_irr] at this; cases this
theorem LeK.lt_or {a b : α} (h : LeK key a b) : strLt (key a) (key b) = true ∨ key a = key b := by
  rcases lt_tri (key a) (key b) with t | t | t
  · exact .inl t
  · exact .inr t
  · unfold LeK at h; rw [h] at t; cases t
theorem LeK.of_eq {a b : α} (h : key a = key b) : LeK key a b := by unfold LeK; rw [h]; exact lt_irr _
theorem LeK.trans {a b c : α} (h1 : LeK key a b) (h2 : LeK key b c) : LeK key a c := by
  rcases h1.lt_or with t | t
  · rcases h2.lt_or with u | u
    · exact LeK.of_lt (lt_tr t u)
    · exact LeK.of_lt (u ▸ t)
  · rcases h2.lt_or with u | u
    · exact LeK.of_lt (t ▸ u)
    · exact LeK.of_eq (t.trans u)
theorem LeK.lt_of_lt {a b c : α} (h1 : LeK key a b) (h2 : strLt (key b) (key c) = true) : strLt (key a) (key c) = true := by
  rcases h1.lt_or with t | t
  · exact lt_tr t h2
  · exact t ▸ h2
/-- In order up to a place. -/
def SortTo (key : α → Bytes) (l : List α) (n : Nat) : Prop := ∀ a b x y, a < b → b < n → l[a]? = some x → l[b]? = some y → LeK key x y
/-- In order up to a place, but for the thing at j, which is no greater than those behind it. -/
def SortBut (key : α → Bytes) (l : List α) (n j : Nat) : Prop := ∀ a b x y, a < b → b < n → ¬ b = j → l[a]? = some x → l[b]? = some y → LeK key x y
theorem SortTo.but {l : List α} {n : Nat} (h : SortTo key l n) : SortBut key l (n + 1) n := fun a b x y h1 h2 h3 h4 h5 => h a b x y h1 (by omega) h4 h5
theorem SortBut.stop0 {l : List α} {n : Nat} (h : SortBut key l n 0) : SortTo key l n := fun a b x y h1 h2 h4 h5 => h a b x y h1 h2 (by omega) h4 h5
theorem SortBut.stop {l : List α} {n j : Nat} {u v : α} (h : SortBut key l n j) (hj : 0 < j) (hu : l[j - 1]? = some u) (hv : l[j]? = some v) (hle : LeK key u v) : SortTo key l n := fun a b x y h1 h2 h4 h5 => by
  by_cases e : b = j
  · subst e
    rw [hv] at h5; cases h5
    by_cases e2 : a = b - 1
    · subst e2; rw [hu] at h4; cases h4; exact hle
    · exact (h a (b - 1) x u (by omega) (by omega) (by omega) h4 hu).trans hle
  · exact h a b x y h1 h2 e h4 h5
def swapL (l : List α) (i j : Nat) (u v : α) : List α := (l.set i v).set j u
theorem swapL_get {l : List α} {j : Nat} {u v : α} (hj : 0 < j) (hlt : j < l.length) (a : Nat) : (swapL l j (j - 1) v u)[a]? = if a = j then some u else if a = j - 1 then some v else l[a]? := by
  unfold swapL
  rw [List.getElem?_set, List.getElem?_set]
  by_cases e : j - 1 = a
  · subst e
    rw [if_pos rfl, if_pos (by rw [List.length_set]; omega), if_neg (by omega), if_pos rfl]
  · rw [if_neg e]
    by_cases e2 : j = a
    · subst e2
      rw [if_pos rfl, if_pos rfl, if_pos hlt]
    · rw [if_neg e2, if_neg (fun h => e2 h.symm), if_neg (fun h => e h.symm)]
theorem swap_perm {l : List α} {j : Nat} {u v : α} (hj : 0 < j) (hu : l[j - 1]? = some u) (hv : l[j]? = some v) : (swapL l j (j - 1) v u).Perm l := by
  have h1 : j < l.length := (List.getElem?_eq_some_iff.1 hv).1
  obtain ⟨k, rfl⟩ : ∃ k, j = k + 1 := ⟨j - 1, by omega⟩
  simp only [Nat.add_sub_cancel] at hu ⊢
  have e1 : l = l.take k ++ u :: v :: l.drop (k + 2) := by
    conv => lhs; rw [← List.take_append_drop k l, drop_at hu, drop_at hv]
  have e2 : swapL l (k + 1) k v u = l.take k ++ v :: u :: l.drop (k + 2) := by
    unfold swapL
    refine List.ext_getElem? fun a => ?_
    have hk : (l.take k).length = k := by rw [List.length_take]; omega
    by_cases ha : a < k
    · rw [List.getElem?_set_ne (by omega), List.getElem?_set_ne (by omega), List.getElem?_append_left (by omega), List.getElem?_take, if_pos ha]
    · rw [List.getElem?_append_right (by omega), hk]
      by_cases e : a = k
      · subst e
        rw [List.getElem?_set_self (by rw [List.length_set]; omega)]; simp
      by_cases e2 : a = k + 1
      · subst e2
        rw [List.getElem?_set_ne (by omega), List.getElem?_set_self h1]
        simp
      · rw [List.getElem?_set_ne (by omega), List.getElem?_set_ne (by omega)]
        obtain ⟨t, rfl⟩ : ∃ t, a = k + 2 + t := ⟨a - (k + 2), by omega⟩
        rw [show k + 2 + t - k = t + 2 by omega, List.getElem?_cons_succ, List.getElem?_cons_succ, List.getElem?_drop]
  rw [e2]
  conv => rhs; rw [e1]
  exact List.Perm.append_left _ (List.Perm.swap u v _)
theorem SortBut.swap {l : List α} {n j : Nat} {u v : α} (h : SortBut key l n j) (hj : 0 < j) (hn : j < n) (hu : l[j - 1]? = some u) (hv : l[j]? = some v) (hlt : strLt (key v) (key u) = true) : SortBut key (swapL l j (j - 1) v u) n (j - 1) := fun a b x y h1 h2 h3 h4 h5 => by
  have hlen : j < l.length := (List.getElem?_eq_some_iff.1 hv).1
  rw [swapL_get hj hlen] at h4 h5
  by_cases eb : b = j
  · rw [if_pos eb] at h5
    cases h5
    rw [if_neg (by omega)] at h4
    by_cases ea : a = j - 1
    · rw [if_pos ea] at h4
      cases h4
      exact LeK.of_lt hlt
    · rw [if_neg ea] at h4
      exact h a (j - 1) x u (by omega) (by omega) (by omega) h4 hu
  · rw [if_neg eb, if_neg h3] at h5
    by_cases ea : a = j
    · rw [if_pos ea] at h4
      cases h4
      exact h (j - 1) b u y (by omega) h2 eb hu h5
    rw [if_neg ea] at h4
    by_cases ea2 : a = j - 1
    · rw [if_pos ea2] at h4
      cases h4
      exact h j b v y (by omega) h2 eb hv h5
    · rw [if_neg ea2] at h4
      exact h a b x y h1 h2 eb h4 h5
/-- A list that rises, by places. -/
theorem asc_snoc {l : List α} {x : α} (h : Asc key l) (hx : ∀ y ∈ l, strLt (key y) (key x) = true) : Asc key (l ++ [x]) := by
  unfold Asc
  rw [List.pairwise_append]
  exact ⟨h, by simp, fun a ha b hb => by rw [List.mem_singleton.1 hb]; exact hx a ha⟩
end
/-! ### Cells of a list of rows -/
section
variable {α : Type} {enc : α → List AV} {k : Nat}
theorem flatU_len (hu : ∀ a, (enc a).length = k) (l : List α) : (l.map enc).flatten.length = l.length * k := by
  rw [flatten_len (k := k) (fun c hc => by obtain ⟨a, -, rfl⟩ := List.mem_map.1 hc; exact hu a), List.length_map]
theorem flatU_get (hu : ∀ a, (enc a).length = k) : ∀ {l : List α} {j : Nat} {p : α}, l[j]? = some p → ((l.map enc).flatten.drop (j * k)).take k = enc p
  | [], j, p, h => by simp at h
  | x :: l, 0, p, h => by
    simp at h; subst h
    simp only [List.map_cons, List.flatten_cons, Nat.zero_mul, List.drop_zero]
    rw [List.take_append_of_le_length (by rw [hu]; exact Nat.le_refl _), List.take_of_length_le (by rw [hu]; exact Nat.le_refl _)]
  | x :: l, j + 1, p, h => by
    rw [List.map_cons, List.flatten_cons, Nat.succ_mul, Nat.add_comm, List.drop_append, hu, List.drop_of_length_le (by rw [hu]; omega), List.nil_append, Nat.add_sub_cancel_left]
    exact flatU_get hu (by simpa using h)
theorem flatU_set (hu : ∀ a, (enc a).length = k) : ∀ {l : List α} {j : Nat} (q : α), j < l.length → (l.map enc).flatten.take (j * k) ++ enc q ++ (l.map enc).flatten.drop (j * k + k) = ((l.set j q).map enc).flatten
  | [], j, q, h => by simp at h
  | x :: l, 0, q, h => by
    simp only [List.map_cons, List.flatten_cons, Nat.zero_mul, List.take_zero, List.nil_append, Nat.zero_add, List.set_cons_zero]
    rw [List.drop_append, hu, List.drop_of_length_le (by rw [hu]; omega), List.nil_append, Nat.sub_self, List.drop_zero]
  | x :: l, j + 1, q, h => by
    rw [List.map_cons, List.flatten_cons, List.set_cons_succ, List.map_cons, List.flatten_cons, ← flatU_set hu (l := l) (j := j) q (by simpa using h)]
    rw [List.take_append, hu, List.drop_append, hu, List.take_of_length_le (by rw [hu, Nat.succ_mul]; omega), List.drop_of_length_le (by rw [hu, Nat.succ_mul]; omega), List.nil_append]
    rw [show (j + 1) * k - k = j * k by rw [Nat.succ_mul]; omega, show (j + 1) * k + k - k = j * k + k by rw [Nat.succ_mul]; omega]
    simp only [List.append_assoc]
theorem flatU_write (hu : ∀ a, (enc a).length = k) {l : List α} {j : Nat} (q : α) (h : j < l.length) : writeC (l.map enc).flatten (j * k) (enc q) = ((l.set j q).map enc).flatten := by
  rw [← flatU_set hu q h]
  unfold writeC
  have hl := flatU_len hu l
  have hk := hu q
  have h2 : j * k + k ≤ l.length * k := by
    have := Nat.mul_le_mul_right k (show j + 1 ≤ l.length by omega)
    rw [Nat.succ_mul] at this; exact this
  split
  · rename_i v hv
    have hk2 := hk
    rw [hv] at hk2
    have hk1 : k = 1 := by simpa using hk2.symm
    subst hk1
    rw [List.set_eq_take_append_cons_drop, if_pos (by omega), hv]
    simp
  · rw [hk]
end
end Go.Proofs
