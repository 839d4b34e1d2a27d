/-
  Walks and plain laws, part 7.
-/
import Derived.Test.YthkfcmnpobobbaaGreatDoorM6
import Derived.Test.YthkfcmnpobobbaaGreatDoorM2
import Derived.Test.YthkfcmnpobobbaaGreatDoorM1
import Derived.Test.YthkfcmnpobobbaaGreatDoorM5
import Derived.Lib.ItoaNum
/- Logs that grow: Records, Text and Sum; slices.Equal of records. -/
namespace Go.Proofs
open Go Go.Abs
set_option linter.unusedSimpArgs false
set_option linter.unusedVariables false
set_option maxRecDepth 20000
theorem records_calls (H G : Heap) (il it im : Nat) (rs : List RecV) (hL : LogP H G il it im rs) (hn : rs.length ≤ 5000) :
    ACalls Tryz.prog 27 [.ptr il 0] G fun x G' => (∃ t, x = .sl (rs.map encRec) t) ∧ G.Sub G' := by
  obtain ⟨ta, tb, gl, hA, hB, hne⟩ := hL.c
  refine ACalls.of_code (X := { pure := pu0 }) pu0_ok Tryz.func27 (by kernel_rfl) rfl (by kernel_rfl) (Nat.le_of_ble_eq_true rfl) ?_
  simp -implicitDefEqProofs only [go_sem, Tryz.f27, gl]
  refine ⟨fun _ _ => rfl, ?_⟩
  refine AppG.step (H := G) (acc := []) (AppG.new (Heap.Sub.rfl' G) _) (fun z hz => by cases hz) (by simp; omega) (by simp; omega) (fun t1 G1 hA' hK => ?_)
  simp -implicitDefEqProofs only [go_sem]
  exact Done.now ⟨⟨t1, by simp⟩, hA'.1⟩
theorem sum_calls (H G : Heap) (il it im : Nat) (rs : List RecV) (hL : LogP H G il it im rs) :
    ACalls Tryz.prog 29 [.ptr il 0] G fun x G' => x = .str (sumAfter [] rs) ∧ G' = G := by
  obtain ⟨ta, tb, gl, hA, hB, hne⟩ := hL.c
  refine ACalls.of_code (X := { pure := pu0 }) pu0_ok Tryz.func29 (by kernel_rfl) rfl (by kernel_rfl) (Nat.le_of_ble_eq_true rfl) ?_
  simp -implicitDefEqProofs only [go_sem, Tryz.f29, gl]
  exact Done.now ⟨rfl, rfl⟩
theorem lines_flat_len : ∀ (s : Bytes) (rs : List RecV), (∀ r ∈ rs, recErr r = 0) → ((linesAfter s rs).flatten).length ≤ rs.length * 5018
  | s, [], _ => by simp [linesAfter]
  | s, r :: rs, h => by
    have h1 := lines_flat_len (sumOf (s ++ recText r)) rs (fun x hx => h x (List.mem_cons_of_mem _ hx))
    have h2 := recText_len (recErr_ok (h r (List.mem_cons_self ..)))
    have h3 := sumOf_len (s ++ recText r)
    simp only [linesAfter, List.flatten_cons, List.length_append, List.length_cons, lineOf, List.length_nil] at h1 ⊢
    omega
theorem text_calls (H G : Heap) (il it im : Nat) (rs : List RecV) (hL : LogP H G il it im rs) (hn : rs.length ≤ 5000) (hok : ∀ r ∈ rs, recErr r = 0) :
    ACalls Tryz.prog 28 [.ptr il 0] G fun x G' => x = .str (linesAfter [] rs).flatten ∧ G' = G := by
  obtain ⟨ta, tb, gl, hA, hB, hne⟩ := hL.c
  have h1 := lines_flat_len [] rs hok
  have h2 := linesAfter_len [] rs
  refine ACalls.of_code (X := { pure := pu0 }) pu0_ok Tryz.func28 (by kernel_rfl) rfl (by kernel_rfl) (Nat.le_of_ble_eq_true rfl) ?_
  simp -implicitDefEqProofs only [go_sem, Tryz.f28, gl]
  refine (join_calls (linesAfter [] rs) tb G (by omega) (by omega)).mono ?_
  rintro x G' ⟨rfl, rfl⟩
  simp -implicitDefEqProofs only [go_sem]
  exact Done.now ⟨rfl, rfl⟩
theorem eqA_rec (cx cy : Bool) (a b : RecV) : eqA Tryz.prog 32 cx cy (.agg (encRec a)) (.agg (encRec b)) = some (decide (a = b)) := by
  have h : eqT Tryz.prog 6 32 (.agg (encRec a)) (.agg (encRec b)) = some (decide (a = b)) := by
    obtain ⟨x1, x2, x3, ⟨x4, x5, x6, x7⟩, ⟨x8, x9, x10, x11⟩, x12, x13⟩ := a
    obtain ⟨y1, y2, y3, ⟨y4, y5, y6, y7⟩, ⟨y8, y9, y10, y11⟩, y12, y13⟩ := b
    simp only [encRec, eqT, eqFields, tys, readC, TD.agg, if_true, List.drop_zero, List.drop_succ_cons, List.head?_cons, Bool.false_eq_true, if_false, Option.some.injEq, Bool.and_true, List.length_cons, List.length_nil, Nat.reduceAdd, Nat.reduceLeDiff, List.take_succ_cons, List.take_zero, List.take_nil]
    rw [Bool.eq_iff_iff]
    simp [RecV.mk.injEq, VerV.mk.injEq, and_assoc]
  unfold eqA
  simp only [tys, if_true]
  exact h
theorem neq_encRec (cx cy : Bool) (a b : RecV) : bin Tryz.prog .neq 32 cx cy (.agg (encRec a)) (.agg (encRec b)) = some (.bool (decide ¬ a = b)) := by
  show (eqA Tryz.prog 32 cx cy (.agg (encRec a)) (.agg (encRec b))).map (fun b => AV.bool (!b)) = _
  rw [eqA_rec]
  simp
set_option maxHeartbeats 3200000
theorem eqRec_calls_ne (cx cy : Bool) (a b : RecV) : bin Tryz.prog .neq 32 cx cy (.agg (encRec a)) (.agg (encRec b)) = some (.bool (decide ¬ a = b)) := by
  first | exact neq_encRec cx cy a b | (rw [neq_chg]; simp)
theorem eqRec_calls (a b : List RecV) (t t' : Tail) (H : Heap) (ha : a.length ≤ 1099511627776) : ACalls Tryz.prog 15 [.sl (a.map encRec) t, .sl (b.map encRec) t'] H fun x H' => x = .bool (decide (a = b)) ∧ H' = H := by
  by_cases hl : ¬ a.length = b.length
  · have d1 : decide (¬ (a.length : Int) = b.length) = true := by simp; omega
    refine ACalls.of_code (X := { pure := pu0 }) pu0_ok Tryz.func15 (by kernel_rfl) rfl (by kernel_rfl) (Nat.le_of_ble_eq_true rfl) ?_
    simp -implicitDefEqProofs only [go_sem, Tryz.f15, d1]
    refine Done.now ⟨?_, rfl⟩
    have : ¬ a = b := fun e => hl (by rw [e])
    simp [this]
  · have hl : a.length = b.length := Decidable.not_not.1 hl
    have d1 : decide (¬ (a.length : Int) = b.length) = false := by simp; omega
    refine ACalls.of_code (X := { pure := pu0 }) pu0_ok Tryz.func15 (by kernel_rfl) rfl (by kernel_rfl) (Nat.le_of_ble_eq_true rfl) ?_
    simp -implicitDefEqProofs only [go_sem, Tryz.f15, d1]
    refine aloop_intro (σ := Nat) (fun i => [(0, .sl (a.map encRec) t), (1, .sl (b.map encRec) t'), (12, .int .i64 a.length), (13, .int .i64 i)])
      (fun i G => G = H ∧ i ≤ a.length ∧ a.take i = b.take i) (fun i => a.length - i) 0 ?_ ?_ ?_
    · simp -implicitDefEqProofs only [go_sem]
    · simp
    · intro i r G hv hI
      have h0 := hv.1
      have h1 := hv.2.1
      have h12 := hv.2.2.1
      have h13 := hv.2.2.2.1
      have hG := hI.1.symm
      have hi := hI.2.1
      have hp := hI.2.2
      clear hv hI
      subst hG
      simp -implicitDefEqProofs only [go_sem, h0, h1, h12, h13]
      refine cnd_intro (fun h => ?_) (fun h => ?_)
      · simp only [decide_eq_true_eq] at h
        obtain ⟨x, hx⟩ := get_some (l := a) (i := i) (by omega)
        obtain ⟨y, hy⟩ := get_some (l := b) (i := i) (by omega)
        have ht := take_eq_succ hx hy
        have hn := fun cx cy => eqRec_calls_ne cx cy x y
        obtain ⟨xtime, xkind, xpack, ⟨xmajor, xminor, xpatch, xearly⟩, ⟨xmajor2, xminor2, xpatch2, xearly2⟩, xresult, xnote⟩ := x
        obtain ⟨ytime, ykind, ypack, ⟨ymajor, yminor, ypatch, yearly⟩, ⟨ymajor2, yminor2, ypatch2, yearly2⟩, yresult, ynote⟩ := y
        simp only [encRec] at hn
        simp -implicitDefEqProofs only [go_sem, h0, h1, h12, h13, hx, hy, encRec, hn]
        refine cnd_intro (fun g => ?_) (fun g => ?_)
        · simp -implicitDefEqProofs only [go_sem]
          refine Done.now ⟨?_, rfl⟩
          have : ¬ a = b := fun e => by subst e; rw [hx] at hy; cases hy; simp at g
          simp [this]
        · simp -implicitDefEqProofs (disch := omega) only [go_sem, Go.IntWalk.i64_in, h0, h1, h12, h13]
          simp only [decide_eq_false_iff_not, Decidable.not_not] at g
          exact Again.mk (i + 1) (by simp -implicitDefEqProofs only [go_sem, h0, h1, h12, h13]; exact rfl) ⟨rfl, by omega, ht.2 ⟨hp, g⟩⟩ (by omega)
      · simp only [decide_eq_false_iff_not] at h
        have e : i = a.length := by omega
        rw [e, List.take_length, hl, List.take_length] at hp
        simp -implicitDefEqProofs only [go_sem]
        exact Done.now ⟨by simp [hp], rfl⟩

end Go.Proofs

/- Walks: strings.LastIndexByte. -/
namespace Go.Proofs
open Go Go.Abs
set_option linter.unusedSimpArgs false
set_option linter.unusedVariables false
set_option maxRecDepth 20000
def lastI (c : UInt8) (s : Bytes) : Nat → Option Nat
  | 0 => none
  | n + 1 => if s[n]? = some c then some n else lastI c s n
def lastB (c : UInt8) (s : Bytes) : Option Nat := lastI c s s.length
def lastZ (o : Option Nat) : Int := match o with | some i => (i : Int) | none => -1
theorem lastI_lt {c : UInt8} {s : Bytes} : ∀ {n i : Nat}, lastI c s n = some i → i < n ∧ s[i]? = some c
  | 0, i, h => by cases h
  | n + 1, i, h => by
    rw [lastI] at h
    split at h
    · cases h; exact ⟨Nat.lt_succ_self _, by assumption⟩
    · have := lastI_lt h; exact ⟨by omega, this.2⟩
theorem lastI_at {c : UInt8} {s : Bytes} {i : Nat} (hi : s[i]? = some c) : ∀ {n : Nat}, i < n → (∀ j, i < j → j < n → ¬ s[j]? = some c) → lastI c s n = some i
  | 0, h, _ => by omega
  | n + 1, h, k => by
    rw [lastI]
    by_cases e : i = n
    · subst e; rw [if_pos hi]
    · rw [if_neg (k n (by omega) (by omega))]
      exact lastI_at hi (by omega) fun j h1 h2 => k j h1 (by omega)
theorem lastB_app {c : UInt8} {a b : Bytes} (h : ∀ x ∈ b, x ≠ c) : lastB c (a ++ c :: b) = some a.length := by
  refine lastI_at (by simp) (by simp) fun j h1 h2 e => ?_
  rw [List.getElem?_append_right (by omega)] at e
  obtain ⟨k, hk⟩ : ∃ k, j - a.length = k + 1 := ⟨j - a.length - 1, by omega⟩
  rw [hk, List.getElem?_cons_succ] at e
  exact h c (List.mem_of_getElem? e) rfl
theorem lastS_calls (s : Bytes) (c : UInt8) (H : Heap) (hs : s.length ≤ 1099511627776) : ACalls Tryz.prog 161 [.str s, .int .u8 c.toNat] H fun x H' => x = .int .i64 (lastZ (lastB c s)) ∧ H' = H := by
  have w0 : IntKind.i64.wrap ((s.length : Int) - 1) = (s.length : Int) - 1 := Go.IntWalk.i64_in _ (by omega)
  refine ACalls.of_code (X := { pure := pu0 }) pu0_ok Tryz.func161 (by kernel_rfl) rfl (by kernel_rfl) (Nat.le_of_ble_eq_true rfl) ?_
  simp -implicitDefEqProofs only [go_sem, Tryz.f161, w0]
  refine aloop_intro (σ := Nat) (fun i => [(0, .str s), (1, .int .u8 c.toNat), (5, .int .i64 ((i : Int) - 1))]) (fun i G => G = H ∧ i ≤ s.length ∧ lastI c s i = lastB c s) (fun i => i) s.length ?_ ?_ ?_
  · simp -implicitDefEqProofs only [go_sem]
  · exact ⟨rfl, Nat.le_refl _, rfl⟩
  rintro i r G hw ⟨rfl, hi, hE⟩
  have h0 := hw.1
  have h1 := hw.2.1
  have h5 := hw.2.2.1
  clear hw
  cases i with
  | zero =>
    have y0 : decide ((0 : Int) ≤ ((0 : Nat) : Int) - 1) = false := rfl
    have hN : lastB c s = none := hE.symm
    simp -implicitDefEqProofs only [go_sem, h0, h1, h5, y0]
    exact Done.now ⟨by rw [hN]; rfl, rfl⟩
  | succ i =>
    have y0 : decide ((0 : Int) ≤ ((i + 1 : Nat) : Int) - 1) = true := decide_eq_true (by omega)
    have e1 : ((i + 1 : Nat) : Int) - 1 = (i : Int) := by omega
    have y2 : decide ((0 : Int) ≤ (i : Int)) = true := decide_eq_true (by omega)
    have wi : IntKind.i64.wrap ((i : Int) - 1) = (i : Int) - 1 := Go.IntWalk.i64_in _ (by omega)
    obtain ⟨d, hd⟩ : ∃ d, s[i]? = some d := getD_get' (by omega)
    rw [lastI, hd] at hE
    rw [e1] at h5
    by_cases c1 : d = c
    · subst c1
      rw [if_pos rfl] at hE
      simp -implicitDefEqProofs only [go_sem, h0, h1, h5, y2, hd, Int.toNat_natCast]
      first | exact Done.now ⟨by rw [← hE]; rfl, rfl⟩ | exact ⟨by omega, Done.now ⟨by rw [← hE]; rfl, rfl⟩⟩
    · rw [if_neg (by simpa using c1)] at hE
      have y1 : decide ((d.toNat : Int) = c.toNat) = false := decide_eq_false (fun e => c1 (UInt8.toNat_inj.1 (by omega)))
      simp -implicitDefEqProofs only [go_sem, h0, h1, h5, y2, hd, Int.toNat_natCast, y1, wi]
      first | exact Again.mk i (by simp -implicitDefEqProofs only [go_sem, h0, h1, h5]) ⟨rfl, by omega, hE⟩ (by omega) | exact ⟨by omega, Again.mk i (by simp -implicitDefEqProofs only [go_sem, h0, h1, h5]) ⟨rfl, by omega, hE⟩ (by omega)⟩
theorem lastIB_calls (s : Bytes) (c : UInt8) (H : Heap) (hs : s.length ≤ 1099511627776) : ACalls Tryz.prog 98 [.str s, .int .u8 c.toNat] H fun x H' => x = .int .i64 (lastZ (lastB c s)) ∧ H' = H := by
  refine ACalls.of_code (X := { pure := pu0 }) pu0_ok Tryz.func98 (by kernel_rfl) rfl (by kernel_rfl) (Nat.le_of_ble_eq_true rfl) ?_
  simp -implicitDefEqProofs only [go_sem, Tryz.f98]
  refine (lastS_calls s c H hs).mono ?_
  rintro x G ⟨rfl, rfl⟩
  simp -implicitDefEqProofs only [go_sem]
  exact Done.now ⟨rfl, rfl⟩
end Go.Proofs

/- Logs are opened, on the program's side. -/
namespace Go.Proofs
open Go Go.Abs
set_option linter.unusedSimpArgs false
set_option linter.unusedVariables false
set_option maxRecDepth 20000
def openStep (rs : List RecV) (t : Bytes) : Option (RecV × Bytes) :=
  if (cutT 10 t).2.2 = true then
    match lastB 32 (cutT 10 t).1 with
    | some i =>
      if (parseRec ((cutT 10 t).1.take i)).2 = 0 ∧ (cutT 10 t).1.drop (i + 1) = sumOf (sumAfter [] rs ++ (cutT 10 t).1.take i) ∧ addErr rs (parseRec ((cutT 10 t).1.take i)).1 = 0
      then some ((parseRec ((cutT 10 t).1.take i)).1, (cutT 10 t).2.1) else none
    | none => none
  else none
def openL : Nat → List RecV → Bytes → List RecV
  | 0, rs, _ => rs
  | n + 1, rs, t => match openStep rs t with
    | some (r, t') => openL n (rs ++ [r]) t'
    | none => rs
def openT (t : Bytes) : List RecV := openL (t.length + 1) [] t
theorem addErr_ok {rs : List RecV} {r : RecV} (h : addErr rs r = 0) : recErr r = 0 ∧ ¬ r.time < lastT rs ∧ rs.length < 5000 ∧ ¬ tabBad (tabAfter rs) r = true := by
  unfold addErr at h
  by_cases c1 : recErr r = 0
  · rw [if_pos c1] at h
    refine ⟨c1, ?_⟩
    split at h
    · cases h
    split at h
    · cases h
    split at h
    · cases h
    exact ⟨by assumption, by omega, by assumption⟩
  · rw [if_neg c1] at h; exact absurd h c1
noncomputable def sLIB := spF (fun p : Bytes × UInt8 => [AV.str p.1, AV.int .u8 p.2.toNat]) (fun p => p.1.length ≤ 1099511627776) fun p => .int .i64 (lastZ (lastB p.2 p.1))
theorem sLIB_eq (s : Bytes) (c : UInt8) (h : s.length ≤ 1099511627776) : sLIB [.str s, .int .u8 c.toNat] = some (.int .i64 (lastZ (lastB c s))) := spF_eq (fun a b e => by
  obtain ⟨a1, a2⟩ := a
  obtain ⟨b1, b2⟩ := b
  simp only [List.cons.injEq, AV.str.injEq, AV.int.injEq, and_true, true_and] at e
  obtain ⟨rfl, e2⟩ := e
  rw [UInt8.toNat_inj.1 (by omega : a2.toNat = b2.toNat)]) (s, c) h
noncomputable def sParR := spF (fun s : Bytes => [AV.str s]) (fun s => s.length ≤ 1099511627776) fun s => recA (parseRec s)
theorem sParR_eq (s : Bytes) (h : s.length ≤ 1099511627776) : sParR [.str s] = some (recA (parseRec s)) := spF_eq (enc := fun s : Bytes => [AV.str s]) (fun a b e => by cases e; rfl) s h
noncomputable def puL2 : Pures := putP 20 sParR (putP 98 sLIB puL1)
theorem puL2_dyn : isDyn puL2 = false := by simp only [puL2, go_sem, Nat.reduceEqDiff]
attribute [go_sem] puL2_dyn
theorem puL2_ok : PuOK Tryz.prog puL2 := .put (.put (puL1_ok) (spF_ok fun p H h => lastIB_calls p.1 p.2 H h)) (spF_ok fun s H h => parseRecord_calls s H h)
theorem parseRec_R {s : Bytes} (h : (parseRec s).2 = 0) : recErr (parseRec s).1 = 0 := by
  unfold parseRec at *
  split at h
  · split at h
    · cases h
    split at h
    · cases h
    split at h
    · rename_i c1 c2 c3
      rw [if_neg c1, if_neg c2, if_pos c3]
      exact c3
    · rename_i c3; exact absurd h c3
  · cases h
theorem recR_of {r : RecV} (h : recErr r = 0) : recR r := by
  have o := recErr_ok h
  have h1 := nameB_lenV o.pack
  have h2 := valueB_lenV o.note
  have h3 := (verErr_in o.vf).2.2.2
  have h4 := (verErr_in o.vt).2.2.2
  exact ⟨by omega, by unfold verR; omega, by unfold verR; omega, by omega⟩
theorem cutT_rest {c : UInt8} {s a b : Bytes} (h : cutT c s = (a, b, true)) : b.length < s.length := by
  unfold cutT at h
  split at h
  · rename_i p hp
    have := cutB_len hp
    cases h
    omega
  · cases h
def OpQ (H : Heap) (text : Bytes) (r : Regs) (G : Heap) : Prop := ∃ il it im, LogP H G il it im (openT text) ∧ r 5 = .ptr il 0
set_option maxHeartbeats 12800000 in
theorem open_calls (text : Bytes) (H : Heap) (hs : text.length ≤ 1099511627776) : ACalls Tryz.prog 30 [.str text] H fun x G =>
    if 4194304 < text.length then x = .tup [.nilp, .int .i64 0, .int .i64 4] ∧ G = H
    else ∃ il it im, x = .tup [.ptr il 0, .int .i64 (openT text).length, .int .i64 0] ∧ LogP H G il it im (openT text) := by
  refine ACalls.of_code (X := { pure := puL2 }) puL2_ok Tryz.func30 (by kernel_rfl) rfl (by kernel_rfl) (Nat.le_of_ble_eq_true rfl) ?_
  simp -implicitDefEqProofs only [go_sem, Tryz.f30]
  by_cases c0 : 4194304 < text.length
  · have y0 : decide ((4194304 : Int) < text.length) = true := decide_eq_true (by omega)
    simp -implicitDefEqProofs only [go_sem, y0]
    exact Done.now (by rw [if_pos c0]; exact ⟨rfl, rfl⟩)
  have y0 : decide ((4194304 : Int) < text.length) = false := decide_eq_false (by omega)
  simp -implicitDefEqProofs only [go_sem, y0]
  refine (new_calls H).mono ?_
  rintro x G0 ⟨il, it, im, rfl, hL0⟩
  simp -implicitDefEqProofs only [go_sem]
  with_reducible refine aloop_cut 0 (OpQ H text) ?_ ?_
  rotate_left
  · refine aloop_intro (σ := List RecV × Bytes) (fun s => [(0, .str s.2), (5, .ptr il 0)])
      (fun s G => LogP H G il it im s.1 ∧ s.1.length ≤ 5000 ∧ s.2.length ≤ text.length ∧ ∃ n, s.2.length < n ∧ openL n s.1 s.2 = openT text) (fun s => s.2.length) ([], text) ?_ ?_ ?_
    · simp -implicitDefEqProofs only [go_sem]
    · exact ⟨hL0, Nat.zero_le _, Nat.le_refl _, text.length + 1, Nat.lt_succ_self _, rfl⟩
    clear hL0
    rintro ⟨rs, t⟩ r G hw ⟨hL, hn, ht, k, hk, hE⟩
    simp only at hw hL hn ht hk hE
    have h0 := hw.1
    have h5 := hw.2.1
    clear hw
    obtain ⟨k, rfl⟩ : ∃ j, k = j + 1 := ⟨k - 1, by omega⟩
    rw [openL] at hE
    have hS := openStep.eq_1 rs t
    have q1 := sCut_eq t 10 (by omega)
    have hcl := cutT_len 10 t
    generalize hct : cutT 10 t = p at *
    obtain ⟨line, rest, b⟩ := p
    simp only at hS q1 hcl
    have q2 : sLIB [.str line, .int .u8 32] = _ := sLIB_eq line 32 (by omega)
    generalize hlb : lastB 32 line = o at *
    have stop : openStep rs t = none → LogP H G il it im (openT text) := fun e => by rw [e] at hE; simp only at hE; rw [← hE]; exact hL
    cases b with
    | false =>
      have hst := stop (by rw [hS, if_neg (by simp)])
      simp -implicitDefEqProofs only [go_sem, h0, h5, puL2, puL1, puP2, puP1, q1, q2]
      exact ⟨il, it, im, hst, by simp -implicitDefEqProofs only [go_sem, h5]⟩
    | true =>
      rw [if_pos rfl] at hS
      cases o with
      | none =>
        have hst := stop hS
        have y1 : decide (lastZ none < 0) = true := rfl
        simp -implicitDefEqProofs only [go_sem, h0, h5, puL2, puL1, puP2, puP1, q1, q2, y1]
        exact ⟨il, it, im, hst, by simp -implicitDefEqProofs only [go_sem, h5]⟩
      | some i =>
        simp only at hS
        have hi := (lastI_lt hlb).1
        have hz : lastZ (some i) = (i : Int) := rfl
        rw [hz] at q2
        have y1 : decide ((i : Int) < 0) = false := decide_eq_false (by omega)
        have wi : IntKind.i64.wrap ((i : Int) + 1) = ((i + 1 : Nat) : Int) := by rw [Go.IntWalk.i64_in _ (by omega)]; omega
        have la : (line.take i).length ≤ text.length := by rw [List.length_take]; omega
        have q3 := sParR_eq (line.take i) (by omega)
        have hsl := sumAfter_len [] rs (Nat.zero_le _)
        have hR : Room = 1099511627776 := rfl
        have q4 := sSumL_eq (sumAfter [] rs ++ line.take i) (by rw [List.length_append, hR]; omega)
        have hpe := @parseRec_R (line.take i)
        generalize parseRec (line.take i) = pr at *
        obtain ⟨w, e⟩ := pr
        unfold recA encRec at q3
        simp only at hS hpe q3
        have i1 : (i : Int) ≤ line.length := by omega
        have i2 : ((i + 1 : Nat) : Int) ≤ line.length := by omega
        have i3 : (0 : Int) ≤ i := by omega
        have i4 : (0 : Int) ≤ ((i + 1 : Nat) : Int) := by omega
        have i5 : ((List.length (sumAfter [] rs) + (List.take i line).length : Nat) : Int) ≤ 9223372036854775807 := by omega
        simp -implicitDefEqProofs only [go_sem, h0, h5, puL2, puL1, puP2, puP1, q1, q2, y1, q3, i1, i3, Int.toNat_natCast]
        with_reducible refine nwC_intro fun i10 hi10 => ?_
        simp -implicitDefEqProofs only [go_sem]
        have hL := hL.junk ((Heap.Sub.rfl' G).put' hi10 (.cells (encRec w)))
        have g10 := put_same G i10 (.cells (encRec w))
        unfold encRec at hL g10
        generalize G.put i10 _ = G1 at *
        have stop : openStep rs t = none → ∀ {G2 : Heap}, LogP H G2 il it im rs → LogP H G2 il it im (openT text) := fun e G2 hl => by rw [e] at hE; simp only at hE; rw [← hE]; exact hl
        by_cases c1 : e = 0
        rotate_left
        · have y2 : decide (¬ e = 0) = true := decide_eq_true c1
          have hst := stop (by rw [hS, if_neg (fun h => c1 h.1)]) hL
          simp -implicitDefEqProofs only [go_sem, y2]
          exact ⟨il, it, im, hst, by simp -implicitDefEqProofs only [go_sem, h5]⟩
        have y2 : decide (¬ e = 0) = false := decide_eq_false (by simpa using c1)
        obtain ⟨ta, tb, gl, -⟩ := hL.c
        by_cases c2 : line.drop (i + 1) = sumOf (sumAfter [] rs ++ line.take i)
        rotate_left
        · have y3 : decide (¬ line.drop (i + 1) = sumOf (sumAfter [] rs ++ line.take i)) = true := decide_eq_true c2
          have hst := stop (by rw [hS, if_neg (fun h => c2 h.2.1)]) hL
          simp -implicitDefEqProofs only [go_sem, y2, h5, gl, wi, puL2, puL1, puP2, puP1, q4, i1, i2, i3, i4, i5, Int.le_refl, List.take_length, Int.toNat_natCast, y3]
          exact ⟨il, it, im, hst, by simp -implicitDefEqProofs only [go_sem, h5]⟩
        have y3 : decide (¬ line.drop (i + 1) = sumOf (sumAfter [] rs ++ line.take i)) = false := decide_eq_false (by simpa using c2)
        simp -implicitDefEqProofs only [go_sem, y2, h5, gl, wi, puL2, puL1, puP2, puP1, q4, i1, i2, i3, i4, i5, Int.le_refl, List.take_length, Int.toNat_natCast, y3, g10]
        have hpe := hpe c1
        refine (add_calls w (recR_of hpe) H G1 il it im rs hL hn).mono ?_
        rintro x G2 ⟨rfl, hL2⟩
        by_cases c3 : addErr rs w = 0
        rotate_left
        · have y4 : decide (¬ addErr rs w = 0) = true := decide_eq_true c3
          rw [if_neg c3] at hL2
          have hst := stop (by rw [hS, if_neg (fun h => c3 h.2.2)]) hL2
          simp -implicitDefEqProofs only [go_sem, y4]
          exact ⟨il, it, im, hst, by simp -implicitDefEqProofs only [go_sem, h5]⟩
        have y4 : decide (¬ addErr rs w = 0) = false := decide_eq_false (by simpa using c3)
        rw [if_pos c3] at hL2
        rw [hS, if_pos ⟨c1, c2, c3⟩] at hE
        have hcs := cutT_rest hct
        have h5k := (addErr_ok c3).2.2.1
        simp -implicitDefEqProofs only [go_sem, y4, h5]
        exact Again.mk (rs ++ [w], rest) (by simp -implicitDefEqProofs only [go_sem, h5]) ⟨hL2, by simp only [List.length_append, List.length_singleton]; omega, (show rest.length ≤ text.length by omega), k, (show rest.length < k by omega), hE⟩ (show rest.length < t.length from hcs)
  rintro r G ⟨il, it, im, hL, h5⟩
  obtain ⟨ta, tb, gl, -⟩ := hL.c
  simp -implicitDefEqProofs only [go_sem, h5, gl, List.length_map]
  exact Done.now (by rw [if_neg c0]; exact ⟨il, it, im, rfl, hL⟩)
end Go.Proofs

/- Changes as texts: plain Lean, no program. -/
namespace Go.Proofs
open Go Go.Abs
set_option linter.unusedSimpArgs false
set_option linter.unusedVariables false
/-! ### What is written is read -/
theorem cutB_app {c : UInt8} : ∀ {a b : Bytes}, (∀ x ∈ a, x ≠ c) → cutB c (a ++ c :: b) = some (a, b)
  | [], b, h => by rw [List.nil_append, cutB, if_pos rfl]
  | x :: a, b, h => by
    rw [List.cons_append, cutB, if_neg (h x (List.mem_cons_self ..)), cutB_app fun y hy => h y (List.mem_cons_of_mem _ hy)]
    rfl
theorem cutB_no {c : UInt8} : ∀ {a : Bytes}, (∀ x ∈ a, x ≠ c) → cutB c a = none
  | [], h => rfl
  | x :: a, h => by
    rw [cutB, if_neg (h x (List.mem_cons_self ..)), cutB_no fun y hy => h y (List.mem_cons_of_mem _ hy)]
    rfl
theorem cutT_app {c : UInt8} {a b : Bytes} (h : ∀ x ∈ a, x ≠ c) : cutT c (a ++ c :: b) = (a, b, true) := by unfold cutT; rw [cutB_app h]
theorem cutT_no {c : UInt8} {a : Bytes} (h : ∀ x ∈ a, x ≠ c) : cutT c a = (a, [], false) := by unfold cutT; rw [cutB_no h]
theorem splitB_app {c : UInt8} {a b : Bytes} (h : ∀ x ∈ a, x ≠ c) : splitB c (a ++ c :: b) = a :: splitB c b := cutB_split.1 _ (cutB_app h)
theorem splitB_no {c : UInt8} {a : Bytes} (h : ∀ x ∈ a, x ≠ c) : splitB c a = [a] := cutB_split.2 (cutB_no h)
theorem mem_split {c : UInt8} : ∀ {s : Bytes} {x : UInt8}, x ∈ s → x = c ∨ ∃ p ∈ splitB c s, x ∈ p
  | b :: l, x, h => by
    unfold splitB
    by_cases hb : b = c
    · rw [if_pos hb]
      rcases List.mem_cons.1 h with h | h
      · exact .inl (h.trans hb)
      · rcases mem_split (c := c) h with h | ⟨p, hp, hx⟩
        · exact .inl h
        · exact .inr ⟨p, List.mem_cons_of_mem _ hp, hx⟩
    · rw [if_neg hb]
      obtain ⟨a, t, ht⟩ : ∃ a t, splitB c l = a :: t := by
        cases hs : splitB c l with
        | nil => exact absurd hs (splitB_ne c l)
        | cons a t => exact ⟨a, t, rfl⟩
      rw [ht]
      rcases List.mem_cons.1 h with h | h
      · exact .inr ⟨b :: a, List.mem_cons_self .., by rw [h]; exact List.mem_cons_self ..⟩
      · rcases mem_split (c := c) h with h | ⟨p, hp, hx⟩
        · exact .inl h
        · rw [ht] at hp
          rcases List.mem_cons.1 hp with h | h
          · exact .inr ⟨b :: a, List.mem_cons_self .., by rw [← h]; exact List.mem_cons_of_mem _ hx⟩
          · exact .inr ⟨p, List.mem_cons_of_mem _ h, hx⟩
/-- A sign that needs no care. -/
def plainC (c : UInt8) : Prop := c ≠ 32 ∧ c ≠ 10
theorem plain_nm (c : UInt8) (h : isNm (c.toNat : Int) = true) : plainC c := by
  refine ⟨?_, ?_⟩ <;> rintro rfl <;> revert h <;> decide
theorem name_plain {s : Bytes} (h : nameB s = true) : s ≠ [] ∧ ∀ x ∈ s, plainC x := by
  unfold nameB sEach allB at h
  simp only [Bool.and_eq_true, List.all_eq_true, decide_eq_true_eq] at h
  exact ⟨h.1.1.2, fun x hx => plain_nm x (h.1.1.1 x hx)⟩
theorem dig_ne : ∀ k, k < 16 → dig k ≠ 10 := by decide
theorem quote_ten (s : Bytes) : ∀ x ∈ quoteB s, x ≠ 10 := by
  intro x hx
  unfold quoteB quoteI at hx
  rcases List.mem_cons.1 hx with h | h
  · rw [h]; decide
  rcases List.mem_append.1 h with h | h
  · obtain ⟨c, _, hc⟩ := List.mem_flatMap.1 h
    have hl := c.toNat_lt
    unfold qc at hc
    split at hc
    · rename_i h1
      rcases List.mem_cons.1 hc with h | h
      · rw [h]; decide
      · rw [List.mem_singleton.1 h]
        rcases h1 with h1 | h1 <;> rw [h1] <;> decide
    split at hc
    · simp only [List.mem_cons, List.not_mem_nil, or_false] at hc
      rcases hc with h | h <;> rw [h] <;> decide
    rename_i h2
    split at hc
    · simp only [List.mem_cons, List.not_mem_nil, or_false] at hc
      rcases hc with h | h | h | h <;> rw [h]
      · decide
      · decide
      · exact dig_ne _ (by omega)
      · exact dig_ne _ (by omega)
    · rw [List.mem_singleton.1 hc]; exact h2
  · rw [List.mem_singleton.1 h]; decide
end Go.Proofs

/- Plain laws: what is written of a record is read. -/
namespace Go.Proofs
open Go Go.Abs
set_option linter.unusedSimpArgs false
set_option linter.unusedVariables false
set_option maxRecDepth 20000
/-- A decimal digit. -/
def dgC (b : UInt8) : Prop := 48 ≤ b.toNat ∧ b.toNat ≤ 57
theorem dg_of {i : Nat} (h : i < 10) : dgC (UInt8.ofNat (48 + i)) ∧ Lib.digitVal (UInt8.ofNat (48 + i)) = some i := by
  have e : (UInt8.ofNat (48 + i)).toNat = 48 + i := by rw [UInt8.toNat_ofNat']; omega
  refine ⟨⟨by omega, by omega⟩, ?_⟩
  unfold Lib.digitVal
  rw [if_pos (by omega), e]
  congr 1; omega
theorem decFrom_snoc {b : UInt8} {d : Nat} (hb : Lib.digitVal b = some d) : ∀ (s : Bytes) (acc n : Nat), Lib.decFrom acc s = some n → Lib.decFrom acc (s ++ [b]) = some (n * 10 + d)
  | [], acc, n, h => by
    simp only [Lib.decFrom, Option.some.injEq] at h
    subst h
    simp only [List.nil_append, Lib.decFrom, hb]
  | x :: s, acc, n, h => by
    simp only [List.cons_append, Lib.decFrom] at h ⊢
    split at h
    · exact decFrom_snoc hb s _ n h
    · cases h
theorem digits_ok (u : Nat) : (∀ b ∈ Lib.decDigits u, dgC b) ∧ Lib.decFrom 0 (Lib.decDigits u) = some u ∧ Lib.decDigits u ≠ [] ∧ (1 ≤ u → (Lib.decDigits u).head? ≠ some 48) ∧ ∀ k, u < 10 ^ (k + 1) → (Lib.decDigits u).length ≤ k + 1 := by
  induction u using Nat.strongRecOn with
  | _ u ih =>
    by_cases h : u < 10
    · rw [Lib.decDigits, dif_pos h]
      obtain ⟨h1, h2⟩ := dg_of h
      refine ⟨fun b hb => by rw [List.mem_singleton.1 hb]; exact h1, by simp only [Lib.decFrom, h2, Nat.zero_mul, Nat.zero_add], by simp, fun hu e => ?_, fun k _ => by simp⟩
      simp only [List.head?_cons, Option.some.injEq] at e
      have e2 : (UInt8.ofNat (48 + u)).toNat = 48 + u := by rw [UInt8.toNat_ofNat']; omega
      rw [e] at e2
      have : (48 : UInt8).toNat = 48 := rfl
      omega
    · rw [Lib.decDigits, dif_neg h]
      obtain ⟨i1, i2, i3, i4, i5⟩ := ih (u / 10) (by omega)
      obtain ⟨h1, h2⟩ := dg_of (i := u % 10) (by omega)
      refine ⟨fun b hb => ?_, ?_, by simp, fun _ => ?_, fun k hk => ?_⟩
      · rcases List.mem_append.1 hb with hb | hb
        · exact i1 b hb
        · rw [List.mem_singleton.1 hb]; exact h1
      · rw [decFrom_snoc h2 _ _ _ i2]
        congr 1; omega
      · obtain ⟨a, l, e⟩ := List.exists_cons_of_ne_nil i3
        have := i4 (by omega)
        rw [e] at this ⊢
        exact this
      · cases k with
        | zero => omega
        | succ k =>
          have := i5 k (by rw [Nat.pow_succ] at hk; omega)
          simp only [List.length_append, List.length_singleton]
          omega
theorem itoa_nat (u : Nat) : Lib.itoa (u : Int) = Lib.decDigits u := by unfold Lib.itoa; rw [if_neg (by omega)]; simp
theorem dg_all {s : Bytes} (h : ∀ b ∈ s, dgC b) : allB isDg s = true := by
  unfold allB
  rw [List.all_eq_true]
  intro b hb
  have := h b hb
  unfold dgC at this
  unfold isDg
  rw [Bool.and_eq_true, decide_eq_true_eq, decide_eq_true_eq]
  omega
theorem num_itoa {most k u : Nat} (hu : u < 10 ^ (k + 1)) (hk : k + 1 ≤ most) : numOK most (Lib.itoa (u : Int)) = true ∧ decV (Lib.itoa (u : Int)) = u ∧ (∀ b ∈ Lib.itoa (u : Int), dgC b) ∧ Lib.itoa (u : Int) ≠ [] := by
  rw [itoa_nat]
  obtain ⟨i1, i2, i3, i4, i5⟩ := digits_ok u
  have hl := i5 k hu
  refine ⟨?_, by unfold decV; rw [i2]; rfl, i1, i3⟩
  unfold numOK
  rw [dg_all i1, decide_eq_true i3, decide_eq_true (show (Lib.decDigits u).length ≤ most by omega)]
  simp only [Bool.and_true, Bool.true_and, Bool.not_eq_true', Bool.and_eq_false_iff, decide_eq_false_iff_not]
  by_cases h : 1 ≤ u
  · exact .inl (i4 h)
  · obtain rfl : u = 0 := by omega
    refine .inr fun h => h ?_
    rw [Lib.decDigits, dif_pos (by omega)]
    rfl
theorem nat_of {n : Int} (h : 0 ≤ n) : ∃ u : Nat, n = u := ⟨n.toNat, by omega⟩
theorem plain_dg {b : UInt8} (h : dgC b) : plainC b ∧ b ≠ 45 ∧ b ≠ 46 := by
  refine ⟨⟨?_, ?_⟩, ?_, ?_⟩ <;> rintro rfl <;> revert h <;> (unfold dgC; decide)
theorem plain_wd (c : UInt8) (h : isWd (c.toNat : Int) = true) : plainC c := by
  refine ⟨?_, ?_⟩ <;> rintro rfl <;> revert h <;> decide
theorem early_plain {s : Bytes} (h : earlyB s = true) : ∀ x ∈ s, plainC x := by
  intro x hx
  obtain ⟨h1, -⟩ := early_words h
  rcases mem_split (c := 46) hx with e | ⟨p, hp, hxp⟩
  · subst e; exact ⟨by decide, by decide⟩
  · have := h1 p hp
    unfold wordB sEach allB at this
    simp only [Bool.and_eq_true, List.all_eq_true] at this
    exact plain_wd x (this.1.1.1 x hxp)
theorem verText_ok {v : VerV} (h : verErr v = 0) : parseVer (verText v) = (v, 0) ∧ (∀ x ∈ verText v, plainC x) ∧ 2 ≤ (verText v).length := by
  obtain ⟨⟨a1, a2⟩, ⟨b1, b2⟩, ⟨c1, c2⟩, -⟩ := verErr_in h
  have hE := (verErr_ok h).2
  obtain ⟨ma, mi, pa, ea⟩ := v
  simp only at *
  obtain ⟨x, rfl⟩ := nat_of a1
  obtain ⟨y, rfl⟩ := nat_of b1
  obtain ⟨z, rfl⟩ := nat_of c1
  obtain ⟨x1, x2, x3, x4⟩ := num_itoa (most := 9) (k := 5) (u := x) (by omega) (by omega)
  obtain ⟨y1, y2, y3, y4⟩ := num_itoa (most := 9) (k := 5) (u := y) (by omega) (by omega)
  obtain ⟨z1, z2, z3, z4⟩ := num_itoa (most := 9) (k := 5) (u := z) (by omega) (by omega)
  have hvv := h
  unfold verText
  simp only
  generalize Lib.itoa (x : Int) = X at *
  generalize Lib.itoa (y : Int) = Y at *
  generalize Lib.itoa (z : Int) = Z at *
  have hf : splitB 46 (X ++ [46] ++ Y ++ [46] ++ Z) = [X, Y, Z] := by
    rw [show X ++ [46] ++ Y ++ [46] ++ Z = X ++ 46 :: (Y ++ 46 :: Z) by simp]
    rw [splitB_app (fun q hq => (plain_dg (x3 q hq)).2.2), splitB_app (fun q hq => (plain_dg (y3 q hq)).2.2), splitB_no (fun q hq => (plain_dg (z3 q hq)).2.2)]
  have hm : ∀ q ∈ X ++ [46] ++ Y ++ [46] ++ Z, plainC q ∧ q ≠ 45 := by
    intro q hq
    simp only [List.mem_append, List.mem_singleton] at hq
    rcases hq with (((hq | hq) | hq) | hq) | hq
    · exact ⟨(plain_dg (x3 q hq)).1, (plain_dg (x3 q hq)).2.1⟩
    · rw [hq]; exact ⟨⟨by decide, by decide⟩, by decide⟩
    · exact ⟨(plain_dg (y3 q hq)).1, (plain_dg (y3 q hq)).2.1⟩
    · rw [hq]; exact ⟨⟨by decide, by decide⟩, by decide⟩
    · exact ⟨(plain_dg (z3 q hq)).1, (plain_dg (z3 q hq)).2.1⟩
  have hle : 2 ≤ (X ++ [46] ++ Y ++ [46] ++ Z).length := by simp only [List.length_append, List.length_singleton]; omega
  generalize X ++ [46] ++ Y ++ [46] ++ Z = F at *
  have hvp : ∀ e, verOfP X Y Z e = ⟨x, y, z, e⟩ := fun e => by unfold verOfP; rw [x2, y2, z2]
  have hcut : cutT 45 (F ++ if ea = [] then [] else [45] ++ ea) = (F, ea, decide (¬ ea = [])) := by
    by_cases he : ea = []
    · rw [if_pos he, List.append_nil, cutT_no (fun q hq => (hm q hq).2), he]; rfl
    · rw [if_neg he, List.singleton_append, cutT_app (fun q hq => (hm q hq).2), decide_eq_true he]
  refine ⟨?_, ?_, ?_⟩
  · unfold parseVer
    rw [hcut]
    simp only
    rw [hf]
    simp only [x1, y1, z1, hvp, hvv, Bool.and_self, if_true]
    rw [if_neg (fun hh => by simp at hh)]
  · intro q hq
    rcases List.mem_append.1 hq with hq | hq
    · exact (hm q hq).1
    · split at hq
      · cases hq
      · rename_i he
        rcases List.mem_append.1 hq with hq | hq
        · rw [List.mem_singleton.1 hq]; exact ⟨by decide, by decide⟩
        · exact early_plain (hE.resolve_left he) q hq
  · rw [List.length_append]; omega
theorem verT_ok {v : VerV} (h : verErr v = 0) : verOfV (verT v) = (v, true) ∧ ∀ x ∈ verT v, plainC x := by
  unfold verT
  by_cases hz : v = .zero
  · rw [if_pos hz, hz]
    exact ⟨by unfold verOfV; rw [if_pos rfl], fun x hx => by rw [List.mem_singleton.1 hx]; exact ⟨by decide, by decide⟩⟩
  · rw [if_neg hz]
    obtain ⟨h1, h2, h3⟩ := verText_ok h
    refine ⟨?_, h2⟩
    unfold verOfV
    rw [if_neg (fun e => by rw [e] at h3; simp at h3), h1]
    simp [hz]
theorem kindOf_word {k : Int} (h : 1 ≤ k ∧ k ≤ 6) : kindOf (kindWs.getD k.toNat []) = k ∧ ∀ x ∈ kindWs.getD k.toNat [], plainC x := by
  have : k = 1 ∨ k = 2 ∨ k = 3 ∨ k = 4 ∨ k = 5 ∨ k = 6 := by omega
  rcases this with rfl | rfl | rfl | rfl | rfl | rfl <;> exact ⟨by decide, by unfold plainC; decide⟩
theorem spN_app {c : UInt8} {n : Nat} {a b : Bytes} (h : ∀ x ∈ a, x ≠ c) : spN c (n + 1) (a ++ c :: b) = a :: spN c n b := by
  rw [spN, cutB_app h]
theorem sum_plain (s : Bytes) : ∀ x ∈ sumOf s, plainC x := by
  have hd : ∀ k, k < 16 → plainC (dig k) := by unfold plainC; decide
  have hh : ∀ (k n : Nat), ∀ x ∈ hexPad k n, plainC x := by
    intro k
    induction k with
    | zero => intro n x hx; cases hx
    | succ k ih =>
      intro n x hx
      rw [hexPad] at hx
      rcases List.mem_append.1 hx with hx | hx
      · exact ih _ x hx
      · rw [List.mem_singleton.1 hx]; exact hd _ (by omega)
  exact hh _ _
/-- What is written of a record is read. -/
theorem parse_text {r : RecV} (h : recErr r = 0) : parseRec (recText r) = (r, 0) ∧ ∀ x ∈ recText r, x ≠ 10 := by
  have o := recErr_ok h
  have hv1 := verT_ok o.vf
  have hv2 := verT_ok o.vt
  have hk := kindOf_word o.kind
  obtain ⟨hp0, hp⟩ := name_plain o.pack
  have hq := quote_ten r.note
  have hu := unq_quote r.note
  have ht := o.time
  have hr := o.result
  obtain ⟨t, k, p, vf, vt, re, no⟩ := r
  simp only at *
  obtain ⟨x, rfl⟩ := nat_of ht.1
  obtain ⟨y, rfl⟩ := nat_of hr.1
  obtain ⟨x1, x2, x3, x4⟩ := num_itoa (most := 18) (k := 16) (u := x) (by omega) (by omega)
  obtain ⟨y1, y2, y3, y4⟩ := num_itoa (most := 18) (k := 16) (u := y) (by omega) (by omega)
  have n1 : numN 18 (Lib.itoa (x : Int)) = x := by unfold numN; rw [if_pos x1, x2]
  have n2 : numN 18 (Lib.itoa (y : Int)) = y := by unfold numN; rw [if_pos y1, y2]
  have hk0 : ¬ k = 0 := by have := o.kind.1; simp only at this; omega
  unfold recText recWords
  simp only
  generalize Lib.itoa (x : Int) = X at *
  generalize Lib.itoa (y : Int) = Y at *
  generalize kindWs.getD k.toNat [] = W at *
  generalize verT vf = VF at *
  generalize verT vt = VT at *
  generalize quoteB no = Q at *
  have e : joinP [32] [X, W, p, VF, VT, Y, Q] = X ++ 32 :: (W ++ 32 :: (p ++ 32 :: (VF ++ 32 :: (VT ++ 32 :: (Y ++ 32 :: Q))))) := by simp [joinP]
  rw [e]
  have hsp : spN 32 6 (X ++ 32 :: (W ++ 32 :: (p ++ 32 :: (VF ++ 32 :: (VT ++ 32 :: (Y ++ 32 :: Q)))))) = [X, W, p, VF, VT, Y, Q] := by
    rw [spN_app (fun q hq => (plain_dg (x3 q hq)).1.1), spN_app (fun q hq => (hk.2 q hq).1), spN_app (fun q hq => (hp q hq).1), spN_app (fun q hq => (hv1.2 q hq).1), spN_app (fun q hq => (hv2.2 q hq).1), spN_app (fun q hq => (plain_dg (y3 q hq)).1.1)]
    rfl
  have hro : recOf X W p VF VT Y Q = ⟨x, k, p, vf, vt, y, no⟩ := by
    unfold recOf
    rw [n1, hk.1, hv1.1, hv2.1, n2, hu]
    rfl
  refine ⟨?_, ?_⟩
  · unfold parseRec
    rw [hsp]
    simp only
    rw [if_neg hp0, hro, if_pos h, if_neg]
    unfold recBad
    rw [hk.1, x1, hv1.1, hv2.1, y1, hu]
    simp [hk0]
  · intro q hq
    simp only [List.mem_append, List.mem_cons] at hq
    rcases hq with h | h | h | h | h | h | h | h | h | h | h | h | h
    all_goals first
      | exact (plain_dg (x3 q h)).1.2
      | exact (plain_dg (y3 q h)).1.2
      | exact (hk.2 q h).2
      | exact (hp q h).2
      | exact (hv1.2 q h).2
      | exact (hv2.2 q h).2
      | (rw [h]; decide)
      | exact quote_ten no q h
      | skip
    exact ‹∀ x ∈ Q, x ≠ 10› q (by assumption)
end Go.Proofs

/- Logs that grow beside others in the heap; what a log's lines are read as. -/
namespace Go.Proofs
open Go Go.Abs
set_option linter.unusedSimpArgs false
set_option linter.unusedVariables false
set_option maxRecDepth 20000
theorem LogP.app {et : Option TypeId} {H0 H G : Heap} {il it im : Nat} {rs : List RecV} {e : TI} {acc new : List (List AV)} {tl : Tail} {K : K1} (hL : LogP H G il it im rs) (hA : AppG H0 H e.size acc tl) (hu : Unif e.size acc) (hn : new ≠ [])
    (h1 : (acc.length + new.length) * e.bytes ≤ 140737488355328) (h2 : acc.length + new.length ≤ 4611686018427387904)
    (hK : ∀ tl' H' G', LogP H' G' il it im rs → AppG H0 H' e.size (acc ++ new) tl' → (∀ i o, H i = some o → (∀ n, o ≠ .tail n) → H' i = some o) → K (.sl (acc ++ new) tl') G') : appK et false e (.sl acc tl) new G K := by
  have hnone : ∀ {id'}, G id' = none → H id' = none := fun hid' => sub_none hL.sub hid'
  rcases hA.2 with rfl | ⟨id, ty, rfl, h3, h4⟩
  · refine app_exact hu h1 h2 (fun e => absurd e hn) (fun _ id' hid' => ?_)
    refine hK _ (H.put id' (.tail ((acc ++ new).length * e.size))) _ (hL.new hid' _) ⟨hA.1.put' (sub_none hA.1 (hnone hid')) _, .inr ⟨id', _, rfl, sub_none hA.1 (hnone hid'), put_same _ _ _⟩⟩ (fun i o hi _ => ?_)
    have : ¬ i = id' := fun e => by subst e; rw [hnone hid'] at hi; cases hi
    rw [put_ne _ _ _ _ this]; exact hi
  · refine app_tok hu (hL.sub _ _ h4) h1 h2 (fun id' hid' => ?_)
    have hne : ¬ id = id' := fun e => by subst e; rw [hL.sub _ _ h4] at hid'; cases hid'
    refine hK _ ((H.del id).put id' (.tail ((acc ++ new).length * e.size))) _ (hL.frame (sub_put2 (fun i o hi => ?_) _ _) fun i o hi hg => ?_) ⟨?_, .inr ⟨id', _, rfl, sub_none hA.1 (hnone hid'), put_same _ _ _⟩⟩ (fun i o hi hno => ?_)
    · show (if i = id then none else G i) = some o
      have hi2 : (if i = id then none else H i) = some o := hi
      split at hi2
      · cases hi2
      · rename_i hne2; rw [if_neg hne2]; exact hL.sub _ _ hi2
    · have a1 : ¬ i = id' := fun e => by subst e; rw [hg] at hid'; cases hid'
      have a2 : ¬ i = id := fun e => by subst e; rw [h4] at hi; cases hi
      rw [put_ne _ _ _ _ a1, put_ne _ _ _ _ a1]
      exact ⟨(if_neg a2).trans hg, (if_neg a2).trans hi⟩
    · refine Heap.Sub.put' (fun i o hi => ?_) (sub_none hA.1 (hnone hid')) _
      have : ¬ i = id := fun e => by subst e; rw [h3] at hi; cases hi
      exact (if_neg this).trans (hA.1 i o hi)
    · have a1 : ¬ i = id' := fun e => by subst e; rw [hnone hid'] at hi; cases hi
      have a2 : ¬ i = id := fun e => by subst e; rw [h4] at hi; cases hi; exact hno _ rfl
      rw [put_ne _ _ _ _ a1]
      exact (if_neg a2).trans hi
/-- Every record could be added behind those before it. -/
def goodL : List RecV → List RecV → Prop
  | _, [] => True
  | pre, r :: rs => addErr pre r = 0 ∧ goodL (pre ++ [r]) rs
theorem goodL_snoc {r : RecV} : ∀ {rs pre : List RecV}, goodL pre rs → addErr (pre ++ rs) r = 0 → goodL pre (rs ++ [r])
  | [], pre, _, h => ⟨by rw [List.append_nil] at h; exact h, trivial⟩
  | x :: rs, pre, hg, h => ⟨hg.1, goodL_snoc hg.2 (by rw [List.append_assoc]; exact h)⟩
theorem goodL_ok : ∀ {rs pre : List RecV}, goodL pre rs → ∀ r ∈ rs, recErr r = 0
  | [], _, _, r, h => by cases h
  | x :: rs, pre, hg, r, h => by
    rcases List.mem_cons.1 h with h | h
    · rw [h]; exact (addErr_ok hg.1).1
    · exact goodL_ok hg.2 r h
theorem openL_lines : ∀ (rs pre : List RecV) (n : Nat), goodL pre rs → ((linesAfter (sumAfter [] pre) rs).flatten).length < n → openL n pre (linesAfter (sumAfter [] pre) rs).flatten = pre ++ rs
  | [], pre, 0, _, h => by omega
  | [], pre, n + 1, _, h => by
    rw [openL, openStep, List.append_nil]
    simp only [linesAfter, List.flatten_nil]
    rfl
  | r :: rs, pre, 0, _, h => by omega
  | r :: rs, pre, n + 1, hg, h => by
    obtain ⟨h1, h2⟩ := parse_text (addErr_ok hg.1).1
    have hs := sum_plain (sumAfter [] pre ++ recText r)
    have ih := openL_lines rs (pre ++ [r]) n hg.2
    rw [sumAfter_snoc, List.append_assoc] at ih
    simp only [linesAfter, List.flatten_cons, List.length_append, lineOf, List.length_singleton] at h ⊢
    have ih := ih (by omega)
    generalize (linesAfter (sumOf (sumAfter [] pre ++ recText r)) rs).flatten = rest at *
    generalize hS : sumOf (sumAfter [] pre ++ recText r) = S at *
    have hc : cutT 10 (recText r ++ [32] ++ S ++ [10] ++ rest) = (recText r ++ 32 :: S, rest, true) := by
      rw [show recText r ++ [32] ++ S ++ [10] ++ rest = (recText r ++ 32 :: S) ++ 10 :: rest by simp]
      refine cutT_app fun q hq => ?_
      rcases List.mem_append.1 hq with hq | hq
      · exact h2 q hq
      · rcases List.mem_cons.1 hq with hq | hq
        · rw [hq]; decide
        · exact (hs q hq).2
    have hst : openStep pre (recText r ++ [32] ++ S ++ [10] ++ rest) = some (r, rest) := by
      unfold openStep
      rw [hc]
      simp only [if_true]
      rw [lastB_app (fun q hq => (hs q hq).1)]
      simp only [List.take_left', List.drop_append_of_le_length, List.take_left]
      have hd : (recText r ++ 32 :: S).drop (List.length (recText r) + 1) = S := by
        rw [show recText r ++ 32 :: S = (recText r ++ [32]) ++ S by simp, List.drop_left' (by simp)]
      rw [hd, h1, hS]
      rw [if_pos ⟨rfl, rfl, hg.1⟩]
    rw [openL, hst]
    exact ih
theorem openT_lines {rs : List RecV} (h : goodL [] rs) : openT (linesAfter [] rs).flatten = rs := openL_lines rs [] _ h (Nat.lt_succ_self _)
end Go.Proofs

/- The law LogsGrow. -/
namespace Go.Proofs
open Go Go.Abs
set_option linter.unusedSimpArgs false
set_option linter.unusedVariables false
set_option maxRecDepth 20000
noncomputable def sNamL := spF (fun s : Bytes => [AV.str s]) (fun s => s.length ≤ Room) fun s => .bool (nameB s)
theorem sNamL_eq (s : Bytes) (h : s.length ≤ Room) : sNamL [.str s] = some (.bool (nameB s)) := spF_eq (enc := fun s : Bytes => [AV.str s]) (fun a b e => by cases e; rfl) s h
noncomputable def puL3 : Pures := putP 56 sNamL puL2
theorem puL3_dyn : isDyn puL3 = false := by simp only [puL3, go_sem, Nat.reduceEqDiff]
attribute [go_sem] puL3_dyn
theorem puL3_ok : PuOK Tryz.prog puL3 := .put (puL2_ok) (spF_ok fun s H h => vIsName_calls s H h)
theorem landedL_calls (H : Heap) : ACalls Tryz.prog 11 [] H fun x H' => x = .bool true ∧ H' = H := by
  have q := sNamL_eq [97] (by decide)
  have hn : nameB [97] = true := by decide
  rw [hn] at q
  refine ACalls.of_code (X := { pure := puL3 }) puL3_ok Tryz.func11 (by kernel_rfl) rfl (by kernel_rfl) (Nat.le_of_ble_eq_true rfl) ?_
  simp -implicitDefEqProofs only [go_sem, Tryz.f11, puL3, q]
  exact Done.now ⟨rfl, rfl⟩
theorem follows_calls (r : RecV) (im : Nat) (es : List (Key × AV)) (l : List HadV) (G : Heap) (g91 : G im = some (.map .str es)) (hM : TabR es l) :
    ACalls Tryz.prog 24 [.map im, .agg (encRec r)] G fun x G' => x = .bool (!tabBad l r) ∧ ∃ es', TabR es' (if tabBad l r = true then l else tabAdd l r) ∧ G' = G.put im (.map .str es') := by
  have cr : encRec r = [.int .i64 r.time, .int .i64 r.kind, .str r.pack, .int .i64 r.vfrom.major, .int .i64 r.vfrom.minor, .int .i64 r.vfrom.patch, .str r.vfrom.early, .int .i64 r.vto.major, .int .i64 r.vto.minor, .int .i64 r.vto.patch, .str r.vto.early, .int .i64 r.result, .str r.note] := rfl
  have hS := Heap.Sub.rfl' G
  rw [cr]
  refine ACalls.of_code (X := { pure := pu0 }) pu0_ok Tryz.func24 (by kernel_rfl) rfl (by kernel_rfl) (Nat.le_of_ble_eq_true rfl) ?_
  simp -implicitDefEqProofs only [go_sem, Tryz.f24]
  with_reducible refine nwC_intro fun i3 hi3 => ?_
  generalize E3 : Heap.put G i3 _ = G1
  have hO_3 := obj_new E3 hi3 hS
  have n3 := hO_3.1
  have hS := hO_3.2.1
  have g3 := hO_3.2.2.1
  have d91_3 := obj_ne g91 hi3
  have g91 := hO_3.2.2.2 _ _ g91
  clear hO_3
  simp -implicitDefEqProofs only [go_sem, g3]
  rw [← cr]
  refine (could_calls r im es l G1 g91 hM).mono ?_
  rintro x G2 ⟨rfl, es', hM', rfl⟩
  simp -implicitDefEqProofs only [go_sem]
  exact Done.drop (sub_put2 hS im _) ⟨rfl, es', hM', rfl⟩
def LgI (H : Heap) (l : List RecV) (tl : Tail) (il it im jm : Nat) (s : List RecV × Tail × Nat) (G : Heap) : Prop :=
  ∃ H', LogP H' G il it im s.1 ∧ AppG H H' 13 (s.1.map encRec) s.2.1 ∧ (∃ es, H' jm = some (.map .str es) ∧ TabR es (tabAfter s.1)) ∧ s.1.length ≤ 5000 ∧ goodL [] s.1 ∧ s.2.2 ≤ l.length
def lgV (l : List RecV) (tl : Tail) (il jm : Nat) (s : List RecV × Tail × Nat) : List (Nat × AV) := [(3, .ptr il 0), (4, .sl (s.1.map encRec) s.2.1), (5, .map jm), (6, .str (linesAfter [] s.1).flatten), (7, .str (sumAfter [] s.1)), (19, .sl (l.map encRec) tl), (20, .int .i64 l.length), (21, .int .i64 s.2.2)]
def LgQ1 (H : Heap) (l : List RecV) (tl : Tail) (il it im jm i9 : Nat) (rs : List RecV) (ta : Tail) (i : Nat) (x : RecV) (r : Regs) (G : Heap) : Prop :=
  ∃ H', LogP H' G il it im rs ∧ AppG H H' 13 (rs.map encRec) ta ∧ (∃ es, H' jm = some (.map .str es) ∧ TabR es (tabAfter (if addErr rs x = 0 then rs ++ [x] else rs))) ∧ H' i9 = some (.cells (encRec x)) ∧ agrees r (lgV l tl il jm (rs, ta, i)) ∧ agrees r [(9, .ptr i9 0), (10, .int .i64 (addErr rs x))]
def LgQ2 (H : Heap) (l : List RecV) (tl : Tail) (il it im jm : Nat) (rs : List RecV) (i : Nat) (r : Regs) (G : Heap) : Prop :=
  ∃ H' ta, LogP H' G il it im rs ∧ AppG H H' 13 (rs.map encRec) ta ∧ (∃ es, H' jm = some (.map .str es) ∧ TabR es (tabAfter rs)) ∧ agrees r (lgV l tl il jm (rs, ta, i))
set_option maxHeartbeats 25600000 in
theorem logsGrow_calls (l : List RecV) (tl : Tail) (H : Heap) (hl : l.length ≤ 1099511627776) (hr : ∀ r ∈ l, recR r) :
    ACalls Tryz.prog 5 [.sl (l.map encRec) tl] H fun x H' => x = .bool true := by
  have hS := Heap.Sub.rfl' H
  refine ACalls.of_code (X := { pure := puL3 }) puL3_ok Tryz.func5 (by kernel_rfl) rfl (by kernel_rfl) (Nat.le_of_ble_eq_true rfl) ?_
  simp -implicitDefEqProofs only [go_sem, Tryz.f5]
  refine (landedL_calls H).pure_next _ ?_
  simp -implicitDefEqProofs only [go_sem]
  refine (new_calls H).mono ?_
  rintro x G ⟨il, it, im, rfl, hL⟩
  simp -implicitDefEqProofs only [go_sem]
  with_reducible refine nwM_intro fun jm hjm => ?_
  have hsub := hL.sub
  have hHj := sub_none hsub hjm
  have hL := hL.new hjm (.map .str [])
  have hA : AppG H (H.put jm (.map .str [])) 13 (([] : List RecV).map encRec) .exact := AppG.new (hS.put' (sub_none hsub hjm) _) _
  have hj := put_same H jm (.map .str [])
  generalize H.put jm _ = H1 at *
  generalize G.put jm _ = G1 at *
  simp -implicitDefEqProofs only [go_sem, List.length_map]
  with_reducible refine aloop_cut 0 (fun r G => ∃ s : List RecV × Tail × Nat, LgI H l tl il it im jm s G ∧ agrees r (lgV l tl il jm s)) ?_ ?_
  rotate_left
  · refine aloop_intro (σ := List RecV × Tail × Nat) (lgV l tl il jm) (LgI H l tl il it im jm) (fun s => l.length - s.2.2) ([], .exact, 0) ?_ ?_ ?_
    · simp -implicitDefEqProofs only [go_sem, lgV, linesAfter, sumAfter, List.flatten_nil, List.map_nil]
    · exact ⟨H1, hL, hA, ⟨[], hj, MapOf.nil⟩, Nat.zero_le _, trivial, Nat.zero_le _⟩
    clear hL hA hj
    rintro ⟨rs, ta, i⟩ r G hw ⟨H2, hL, hA, ⟨es, hj, hM⟩, hn, hg, hi⟩
    simp only at hL hA hM hn hg hi
    have hwv := hw
    unfold lgV at hw
    simp only at hw
    have h3 := hw.1
    have h4 := hw.2.1
    have h5 := hw.2.2.1
    have h6 := hw.2.2.2.1
    have h7 := hw.2.2.2.2.1
    have h19 := hw.2.2.2.2.2.1
    have h20 := hw.2.2.2.2.2.2.1
    have h21 := hw.2.2.2.2.2.2.2.1
    clear hw
    by_cases gi : i < l.length
    rotate_left
    · have y0 : decide ((i : Int) < l.length) = false := decide_eq_false (by omega)
      simp -implicitDefEqProofs only [go_sem, h20, h21, y0]
      exact ⟨(rs, ta, i), ⟨H2, hL, hA, ⟨es, hj, hM⟩, hn, hg, hi⟩, by simp -implicitDefEqProofs only [go_sem, lgV, h3, h4, h5, h6, h7, h19, h20, h21]⟩
    have y0 : decide ((i : Int) < l.length) = true := decide_eq_true (by omega)
    obtain ⟨x, hx⟩ : ∃ x, l[i]? = some x := getD_get' gi
    have hxr := hr x (List.mem_of_getElem? hx)
    have qc := sChkR_eq x hxr
    have cr : encRec x = [.int .i64 x.time, .int .i64 x.kind, .str x.pack, .int .i64 x.vfrom.major, .int .i64 x.vfrom.minor, .int .i64 x.vfrom.patch, .str x.vfrom.early, .int .i64 x.vto.major, .int .i64 x.vto.minor, .int .i64 x.vto.patch, .str x.vto.early, .int .i64 x.result, .str x.note] := rfl
    rw [cr] at qc
    simp -implicitDefEqProofs only [go_sem, h19, h20, h21, y0, List.getElem?_map, hx, encRec, Int.toNat_natCast]
    with_reducible refine nwC_intro fun i9 hi9 => ?_
    simp -implicitDefEqProofs only [go_sem]
    have hsub := hL.sub
    have dj9 : ¬ jm = i9 := fun e => by rw [← e, hsub _ _ hj] at hi9; cases hi9
    have hL := hL.new hi9 (.cells (encRec x))
    have hA := hA.put (sub_none hsub hi9) (.cells (encRec x))
    have hj := (put_ne H2 i9 jm (.cells (encRec x)) dj9).trans hj
    have k9 := put_same H2 i9 (.cells (encRec x))
    rw [cr] at hL hA hj k9
    generalize H2.put i9 _ = H3 at *
    generalize G.put i9 _ = G3 at *
    have g9 := hL.sub _ _ k9
    simp -implicitDefEqProofs only [go_sem, g9, puL3, puL2, puL1, qc]
    have hE := addErr.eq_1 rs x
    have fin : ∀ {H4 G4 : Heap} {r : Regs}, LogP H4 G4 il it im rs → AppG H H4 13 (rs.map encRec) ta → (∃ es, H4 jm = some (.map .str es) ∧ TabR es (tabAfter (if addErr rs x = 0 then rs ++ [x] else rs))) → H4 i9 = some (.cells (encRec x)) → agrees r (lgV l tl il jm (rs, ta, i)) → agrees r [(9, .ptr i9 0), (10, .int .i64 (addErr rs x))] → LgQ1 H l tl il it im jm i9 rs ta i x r G4 := fun a b c d e f => ⟨_, a, b, c, d, e, f⟩
    with_reducible refine cnd_mid (LgQ1 H l tl il it im jm i9 rs ta i x) ?_ ?_
    rotate_left
    · by_cases c1 : recErr x = 0
      rotate_left
      · have y1 : decide (¬ recErr x = 0) = true := decide_eq_true c1
        rw [if_neg c1] at hE
        simp -implicitDefEqProofs only [go_sem, y1]
        exact fin hL hA ⟨es, hj, by rw [if_neg (by rw [hE]; exact c1)]; exact hM⟩ (by rw [cr]; exact k9) (by simp -implicitDefEqProofs only [go_sem, lgV, h3, h4, h5, h6, h7, h19, h20, h21]) (by simp -implicitDefEqProofs only [go_sem, hE])
      have y1 : decide (¬ recErr x = 0) = false := decide_eq_false (by simpa using c1)
      rw [if_pos c1] at hE
      have hxt := (recErr_ok c1).time
      have hguard : ∃ b : Bool, b = decide (x.time < lastT rs) ∧ ((rs = [] ∧ b = false) ∨ ∃ q, 0 < rs.length ∧ rs[rs.length - 1]? = some q ∧ q.time = lastT rs) := by
        refine ⟨_, rfl, ?_⟩
        cases hgl : rs.getLast? with
        | none =>
          have e0 := List.getLast?_eq_none_iff.1 hgl
          refine .inl ⟨e0, ?_⟩
          rw [e0]
          exact decide_eq_false (by show ¬ x.time < 0; omega)
        | some q =>
          refine .inr ⟨q, ?_, by rw [← List.getLast?_eq_getElem?]; exact hgl, by unfold lastT; rw [hgl]⟩
          cases rs with
          | nil => cases hgl
          | cons a b => simp
      obtain ⟨b, hb, hgd⟩ := hguard
      have z0 : decide ((rs.length : Int) = 5000) = decide (5000 ≤ rs.length) := by rw [decide_eq_decide]; omega
      have g5 := hL.sub _ _ hj
      rcases hgd with ⟨e0, eb⟩ | ⟨q, hq0, hq, hqt⟩
      · rw [eb] at hb
        have hln : rs.length = 0 := by rw [e0]; rfl
        rw [if_neg (of_decide_eq_false hb.symm), if_neg (by omega)] at hE
        have y2 : decide ((0 : Int) < (rs.length : Int)) = false := decide_eq_false (by omega)
        have y4 : decide ((rs.length : Int) = 5000) = false := decide_eq_false (by omega)
        simp -implicitDefEqProofs only [go_sem, y1, h4, List.length_map, y2, y4, h5, g9]
        rw [← cr]
        cases hb4 : tabBad (tabAfter rs) x with
        | true =>
          rw [if_pos hb4] at hE
          refine (follows_calls x jm es _ G3 g5 hM).mono ?_
          rintro v G4 ⟨rfl, es', hM', rfl⟩
          rw [hb4]
          rw [if_pos hb4] at hM'
          simp -implicitDefEqProofs only [go_sem, Bool.not_true, Bool.not_false]
          exact fin (hL.set hj _) (AppG.setO hA hHj hj (fun n e => by cases e) _) ⟨es', put_same _ _ _, by rw [if_neg (by rw [hE]; decide)]; exact hM'⟩ (by rw [put_ne _ _ _ _ (fun e => dj9 e.symm), cr]; exact k9) (by simp -implicitDefEqProofs only [go_sem, lgV, h3, h4, h5, h6, h7, h19, h20, h21]) (by simp -implicitDefEqProofs only [go_sem, hE])
        | false =>
          rw [if_neg (by rw [hb4]; decide)] at hE
          refine (follows_calls x jm es _ G3 g5 hM).mono ?_
          rintro v G4 ⟨rfl, es', hM', rfl⟩
          rw [hb4]
          rw [if_neg (by rw [hb4]; decide)] at hM'
          simp -implicitDefEqProofs only [go_sem, Bool.not_true, Bool.not_false]
          exact fin (hL.set hj _) (AppG.setO hA hHj hj (fun n e => by cases e) _) ⟨es', put_same _ _ _, by rw [if_pos hE, tabAfter_snoc]; exact hM'⟩ (by rw [put_ne _ _ _ _ (fun e => dj9 e.symm), cr]; exact k9) (by simp -implicitDefEqProofs only [go_sem, lgV, h3, h4, h5, h6, h7, h19, h20, h21]) (by simp -implicitDefEqProofs only [go_sem, hE, c1])
      · have y2 : decide ((0 : Int) < (rs.length : Int)) = true := decide_eq_true (by omega)
        have wm : IntKind.i64.wrap ((rs.length : Int) - 1) = ((rs.length - 1 : Nat) : Int) := by rw [Go.IntWalk.i64_in _ (by omega)]; omega
        rw [← hqt] at hE
        by_cases c2 : x.time < q.time
        · have y3 : decide (x.time < q.time) = true := decide_eq_true c2
          rw [if_pos c2] at hE
          simp -implicitDefEqProofs only [go_sem, y1, h4, List.length_map, y2, wm, List.getElem?_map, hq, encRec, Int.toNat_natCast, g9, y3]
          exact fin hL hA ⟨es, hj, by rw [if_neg (by rw [hE]; decide)]; exact hM⟩ (by rw [cr]; exact k9) (by simp -implicitDefEqProofs only [go_sem, lgV, h3, h4, h5, h6, h7, h19, h20, h21]) (by simp -implicitDefEqProofs only [go_sem, hE])
        have y3 : decide (x.time < q.time) = false := decide_eq_false c2
        rw [if_neg c2] at hE
        by_cases c3 : 5000 ≤ rs.length
        · have y4 : decide ((rs.length : Int) = 5000) = true := decide_eq_true (by omega)
          rw [if_pos c3] at hE
          simp -implicitDefEqProofs only [go_sem, y1, h4, List.length_map, y2, wm, List.getElem?_map, hq, encRec, Int.toNat_natCast, g9, y3, y4]
          exact fin hL hA ⟨es, hj, by rw [if_neg (by rw [hE]; decide)]; exact hM⟩ (by rw [cr]; exact k9) (by simp -implicitDefEqProofs only [go_sem, lgV, h3, h4, h5, h6, h7, h19, h20, h21]) (by simp -implicitDefEqProofs only [go_sem, hE])
        have y4 : decide ((rs.length : Int) = 5000) = false := decide_eq_false (by omega)
        rw [if_neg c3] at hE
        simp -implicitDefEqProofs only [go_sem, y1, h4, h5, List.length_map, y2, wm, List.getElem?_map, hq, encRec, Int.toNat_natCast, g9, y3, y4]
        rw [← cr]
        cases hb4 : tabBad (tabAfter rs) x with
        | true =>
          rw [if_pos hb4] at hE
          refine (follows_calls x jm es _ G3 g5 hM).mono ?_
          rintro v G4 ⟨rfl, es', hM', rfl⟩
          rw [hb4]
          rw [if_pos hb4] at hM'
          simp -implicitDefEqProofs only [go_sem, Bool.not_true, Bool.not_false]
          exact fin (hL.set hj _) (AppG.setO hA hHj hj (fun n e => by cases e) _) ⟨es', put_same _ _ _, by rw [if_neg (by rw [hE]; decide)]; exact hM'⟩ (by rw [put_ne _ _ _ _ (fun e => dj9 e.symm), cr]; exact k9) (by simp -implicitDefEqProofs only [go_sem, lgV, h3, h4, h5, h6, h7, h19, h20, h21]) (by simp -implicitDefEqProofs only [go_sem, hE])
        | false =>
          rw [if_neg (by rw [hb4]; decide)] at hE
          refine (follows_calls x jm es _ G3 g5 hM).mono ?_
          rintro v G4 ⟨rfl, es', hM', rfl⟩
          rw [hb4]
          rw [if_neg (by rw [hb4]; decide)] at hM'
          simp -implicitDefEqProofs only [go_sem, Bool.not_true, Bool.not_false]
          exact fin (hL.set hj _) (AppG.setO hA hHj hj (fun n e => by cases e) _) ⟨es', put_same _ _ _, by rw [if_pos hE, tabAfter_snoc]; exact hM'⟩ (by rw [put_ne _ _ _ _ (fun e => dj9 e.symm), cr]; exact k9) (by simp -implicitDefEqProofs only [go_sem, lgV, h3, h4, h5, h6, h7, h19, h20, h21]) (by simp -implicitDefEqProofs only [go_sem, hE, c1])
    rintro r G4 ⟨H4, hL, hA, ⟨es2, hj, hM2⟩, k9, hv, h9v⟩
    have h9 := h9v.1
    have h10 := h9v.2.1
    unfold lgV at hv
    simp only at hv
    have h3 := hv.1
    have h4 := hv.2.1
    have h5 := hv.2.2.1
    have h6 := hv.2.2.2.1
    have h7 := hv.2.2.2.2.1
    have h19 := hv.2.2.2.2.2.1
    have h20 := hv.2.2.2.2.2.2.1
    have h21 := hv.2.2.2.2.2.2.2.1
    clear hv h9v
    rw [cr] at k9
    have g9 := hL.sub _ _ k9
    have ya : decide (¬ addErr rs x = addErr rs x) = false := by simp
    simp -implicitDefEqProofs only [go_sem, h3, h9, h10, g9]
    rw [← cr]
    refine (add_calls x hxr H4 G4 il it im rs hL hn).mono ?_
    rintro v G5 ⟨rfl, hL5⟩
    simp -implicitDefEqProofs only [go_sem, h10, ya]
    with_reducible refine cnd_mid (LgQ2 H l tl il it im jm (if addErr rs x = 0 then rs ++ [x] else rs) i) ?_ ?_
    rotate_left
    · by_cases c : addErr rs x = 0
      rotate_left
      · have y1 : decide (addErr rs x = 0) = false := decide_eq_false c
        rw [if_neg c] at hM2 hL5 ⊢
        simp -implicitDefEqProofs only [go_sem, y1]
        exact ⟨H4, ta, hL5, hA, ⟨es2, hj, hM2⟩, by simp -implicitDefEqProofs only [go_sem, lgV, h3, h4, h5, h6, h7, h19, h20, h21]⟩
      have y1 : decide (addErr rs x = 0) = true := decide_eq_true c
      rw [if_pos c] at hM2 hL5 ⊢
      have g9 := hL5.sub _ _ k9
      simp -implicitDefEqProofs only [go_sem, y1, h4, h9, g9]
      refine LogP.app hL5 hA (fun z hz => by obtain ⟨q, -, rfl⟩ := List.mem_map.1 hz; rfl) (by simp) (by simp; omega) (by simp; omega) (fun tn H6 G6 hL6 hA6 hk => ?_)
      have hnew : rs.map encRec ++ [[AV.int .i64 x.time, .int .i64 x.kind, .str x.pack, .int .i64 x.vfrom.major, .int .i64 x.vfrom.minor, .int .i64 x.vfrom.patch, .str x.vfrom.early, .int .i64 x.vto.major, .int .i64 x.vto.minor, .int .i64 x.vto.patch, .str x.vto.early, .int .i64 x.result, .str x.note]] = (rs ++ [x]).map encRec := by rw [List.map_append, List.map_singleton, cr]
      rw [hnew] at hA6 ⊢
      have k9 := hk _ _ k9 (fun n e => by cases e)
      have hj := hk _ _ hj (fun n e => by cases e)
      have g9 := hL6.sub _ _ k9
      have hc1 := (addErr_ok c).1
      have qt := sRecT_eq x ⟨hc1, hxr⟩
      rw [cr] at qt
      have hlen := recText_len (recErr_ok hc1)
      have hR : Room = 1099511627776 := rfl
      have hsl := sumAfter_len [] rs (Nat.zero_le _)
      have hfl := lines_flat_len [] rs (goodL_ok hg)
      have hs16 := sumOf_len (sumAfter [] rs ++ recText x)
      have qs := sSumL_eq (sumAfter [] rs ++ recText x) (by rw [List.length_append, hR]; omega)
      simp -implicitDefEqProofs only [go_sem, h3, h4, h5, h6, h7, h9, g9, puL3, puL2, puL1, qt, qs]
      have hsn : sumAfter [] (rs ++ [x]) = sumOf (sumAfter [] rs ++ recText x) := sumAfter_snoc x [] rs
      have hlines : (linesAfter [] (rs ++ [x])).flatten = (linesAfter [] rs).flatten ++ (recText x ++ [32] ++ sumOf (sumAfter [] rs ++ recText x) ++ [10]) := by rw [linesAfter_snoc, List.flatten_append]; simp [lineOf]
      refine ⟨by omega, by omega, by simp only [List.length_append, List.length_singleton]; omega, by simp only [List.length_append, List.length_singleton]; omega, by simp only [List.length_append, List.length_singleton]; omega, ?_⟩
      exact ⟨H6, tn, hL6, hA6, ⟨es2, hj, hM2⟩, by simp -implicitDefEqProofs only [go_sem, lgV, hlines, hsn, h3, h4, h5, h6, h7, h19, h20, h21]⟩
    have hg2 : goodL [] (if addErr rs x = 0 then rs ++ [x] else rs) := by
      split
      · rename_i c; exact goodL_snoc hg c
      · exact hg
    have hn2 : (if addErr rs x = 0 then rs ++ [x] else rs).length ≤ 5000 := by
      split
      · rename_i c
        have := (addErr_ok c).2.2.1
        rw [List.length_append, List.length_singleton]; omega
      · exact hn
    generalize (if addErr rs x = 0 then rs ++ [x] else rs) = rs2 at hg2 hn2 ⊢
    clear hL hA hj hM2 hL5 h3 h4 h5 h6 h7 h9 h10 h19 h20 h21 k9 g9
    rintro r G6 ⟨H6, tb, hL, hA, ⟨es3, hj, hM3⟩, hv⟩
    unfold lgV at hv
    simp only at hv
    have h3 := hv.1
    have h4 := hv.2.1
    have h5 := hv.2.2.1
    have h6 := hv.2.2.2.1
    have h7 := hv.2.2.2.2.1
    have h19 := hv.2.2.2.2.2.1
    have h20 := hv.2.2.2.2.2.2.1
    have h21 := hv.2.2.2.2.2.2.2.1
    clear hv
    have e1 : decide (rs2 = rs2) = true := by simp
    have e2 : decide (¬ (linesAfter [] rs2).flatten = (linesAfter [] rs2).flatten) = false := by simp
    have e3 : decide (¬ sumAfter [] rs2 = sumAfter [] rs2) = false := by simp
    have wi : IntKind.i64.wrap ((i : Int) + 1) = ((i + 1 : Nat) : Int) := by rw [Go.IntWalk.i64_in _ (by omega)]; omega
    simp -implicitDefEqProofs only [go_sem, h3]
    refine (records_calls H6 G6 il it im rs2 hL hn2).mono ?_
    rintro v G7 ⟨⟨tr, rfl⟩, hs7⟩
    have hL := hL.junk hs7
    simp -implicitDefEqProofs only [go_sem, h4]
    refine (eqRec_calls rs2 rs2 tr tb G7 (by omega)).mono ?_
    rintro v G8 ⟨rfl, rfl⟩
    simp -implicitDefEqProofs only [go_sem, e1, h3, Bool.not_true]
    refine (text_calls H6 G8 il it im rs2 hL hn2 (goodL_ok hg2)).mono ?_
    rintro v G9 ⟨rfl, rfl⟩
    simp -implicitDefEqProofs only [go_sem, h6, e2, h3]
    refine (sum_calls H6 G9 il it im rs2 hL).mono ?_
    rintro v G10 ⟨rfl, rfl⟩
    simp -implicitDefEqProofs only [go_sem, h7, e3, h21, wi]
    exact Again.mk (rs2, tb, i + 1) (by simp -implicitDefEqProofs only [go_sem, lgV, h3, h4, h5, h6, h7, h19, h20, h21]) ⟨H6, hL, hA, ⟨es3, hj, hM3⟩, hn2, hg2, (show i + 1 ≤ l.length by omega)⟩ (show l.length - (i + 1) < l.length - i by omega)
  rintro r G2 ⟨⟨rs, ta, i⟩, ⟨H2, hL, hA, ⟨es, hj, hM⟩, hn, hg, hi⟩, hv⟩
  simp only at hL hA hM hn hg hi
  unfold lgV at hv
  simp only at hv
  have h4 := hv.2.1
  have h6 := hv.2.2.2.1
  have h7 := hv.2.2.2.2.1
  clear hv
  have hfl := lines_flat_len [] rs (goodL_ok hg)
  have hot := openT_lines hg
  simp -implicitDefEqProofs only [go_sem, h6]
  refine (open_calls (linesAfter [] rs).flatten G2 (by omega)).mono ?_
  rintro v G3 hp
  by_cases c : 4194304 < (linesAfter [] rs).flatten.length
  · rw [if_pos c] at hp
    obtain ⟨rfl, rfl⟩ := hp
    have y1 : decide ((4194304 : Int) < ((linesAfter [] rs).flatten.length : Int)) = true := decide_eq_true (by omega)
    simp -implicitDefEqProofs only [go_sem, h6, y1]
    exact Done.now rfl
  rw [if_neg c] at hp
  obtain ⟨jl, jt, jm2, rfl, hL2⟩ := hp
  rw [hot] at hL2
  have y1 : decide ((4194304 : Int) < ((linesAfter [] rs).flatten.length : Int)) = false := decide_eq_false (by omega)
  have y2 : decide ((rs.length : Int) = rs.length) = true := by simp
  have e1 : decide (rs = rs) = true := by simp
  have e3 : decide (sumAfter [] rs = sumAfter [] rs) = true := by simp
  simp -implicitDefEqProofs only [go_sem, h6, y1, hot, h4, List.length_map, y2]
  refine (records_calls G2 G3 jl jt jm2 rs hL2 hn).mono ?_
  rintro v G7 ⟨⟨tr, rfl⟩, hs7⟩
  have hL2 := hL2.junk hs7
  simp -implicitDefEqProofs only [go_sem, h4]
  refine (eqRec_calls rs rs tr ta G7 (by omega)).mono ?_
  rintro v G8 ⟨rfl, rfl⟩
  simp -implicitDefEqProofs only [go_sem, e1]
  refine (sum_calls G2 G8 jl jt jm2 rs hL2).mono ?_
  rintro v G9 ⟨rfl, rfl⟩
  simp -implicitDefEqProofs only [go_sem, h7, e3]
  exact Done.now rfl
end Go.Proofs
