/-
  Walks and plain laws, part 6.
-/
import Derived.Test.YtmcnfdbohkobaaaGreatDoorM5
import Derived.Test.YtmcnfdbohkobaaaGreatDoorM4
import Derived.Test.YtmcnfdbohkobaaaGreatDoorM1
import Derived.Test.YtmcnfdbohkobaaaGreatDoorM3
/- Walks: the program's bench: counts of files below directories. -/
namespace Go.Proofs
open Go Go.Abs
set_option linter.unusedSimpArgs false
set_option linter.unusedVariables false
set_option maxRecDepth 20000
/-- The program's machine of maps. -/
structure BW (H G : Heap) (ib i1 i2 i3 i4 : Nat) (fs : List (List AV)) (ta : Tail) (lf : List FileV) (ls : List SetV) (lv : List SvcV) (F : Bytes → Int) : Prop where
  sub : H.Sub G
  nn : H ib = none ∧ H i1 = none ∧ H i2 = none ∧ H i3 = none ∧ H i4 = none
  d : ¬ i1 = ib ∧ ¬ i2 = ib ∧ ¬ i3 = ib ∧ ¬ i4 = ib ∧ ¬ i1 = i2 ∧ ¬ i1 = i3 ∧ ¬ i1 = i4 ∧ ¬ i2 = i3 ∧ ¬ i2 = i4 ∧ ¬ i3 = i4
  b : G ib = some (.cells [.sl fs ta, .map i1, .map i2, .map i3, .map i4])
  f : ∃ es, G i1 = some (.map .str es) ∧ MapOf (·.path) (fun x => .agg (encFile x)) es lf
  c : ∃ es, G i2 = some (.map .str es) ∧ CountOK es F
  s : ∃ es, G i3 = some (.map .str es) ∧ MapOf (·.key) (fun x => .agg (encSet x)) es ls
  v : ∃ es, G i4 = some (.map .str es) ∧ MapOf (·.name) (fun x => .agg (encSvc x)) es lv
section
variable {H G : Heap} {ib i1 i2 i3 i4 : Nat} {fs : List (List AV)} {ta : Tail} {lf lf' : List FileV} {ls ls' : List SetV} {lv lv' : List SvcV} {F F' : Bytes → Int}
theorem BW.mono {G' : Heap} (h : BW H G ib i1 i2 i3 i4 fs ta lf ls lv F) (hs : G.Sub G') : BW H G' ib i1 i2 i3 i4 fs ta lf ls lv F := by
  obtain ⟨a, b, d, e, ⟨e1, h1, k1⟩, ⟨e2, h2, k2⟩, ⟨e3, h3, k3⟩, ⟨e4, h4, k4⟩⟩ := h
  exact ⟨fun i o hi => hs _ _ (a i o hi), b, d, hs _ _ e, ⟨e1, hs _ _ h1, k1⟩, ⟨e2, hs _ _ h2, k2⟩, ⟨e3, hs _ _ h3, k3⟩, ⟨e4, hs _ _ h4, k4⟩⟩
theorem BW.put {j : Nat} (h : BW H G ib i1 i2 i3 i4 fs ta lf ls lv F) (hj : G j = none) (o : AObj) : BW H (G.put j o) ib i1 i2 i3 i4 fs ta lf ls lv F := h.mono ((Heap.Sub.rfl' G).put' hj o)
theorem BW.setF (h : BW H G ib i1 i2 i3 i4 fs ta lf ls lv F) {es : List (Key × AV)} (hes : MapOf (·.path) (fun x => .agg (encFile x)) es lf') : BW H (G.put i1 (.map .str es)) ib i1 i2 i3 i4 fs ta lf' ls lv F := by
  obtain ⟨a, b, d, e, -, ⟨e2, h2, k2⟩, ⟨e3, h3, k3⟩, ⟨e4, h4, k4⟩⟩ := h
  exact ⟨a.put' b.2.1 _, b, d, by rw [put_ne _ _ _ _ (fun e => d.1 e.symm)]; exact e, ⟨es, put_same _ _ _, hes⟩, ⟨e2, by rw [put_ne _ _ _ _ (fun e => d.2.2.2.2.1 e.symm)]; exact h2, k2⟩, ⟨e3, by rw [put_ne _ _ _ _ (fun e => d.2.2.2.2.2.1 e.symm)]; exact h3, k3⟩, ⟨e4, by rw [put_ne _ _ _ _ (fun e => d.2.2.2.2.2.2.1 e.symm)]; exact h4, k4⟩⟩
theorem BW.setS (h : BW H G ib i1 i2 i3 i4 fs ta lf ls lv F) {es : List (Key × AV)} (hes : MapOf (·.key) (fun x => .agg (encSet x)) es ls') : BW H (G.put i3 (.map .str es)) ib i1 i2 i3 i4 fs ta lf ls' lv F := by
  obtain ⟨a, b, d, e, ⟨e1, h1, k1⟩, ⟨e2, h2, k2⟩, -, ⟨e4, h4, k4⟩⟩ := h
  exact ⟨a.put' b.2.2.2.1 _, b, d, by rw [put_ne _ _ _ _ (fun e => d.2.2.1 e.symm)]; exact e, ⟨e1, by rw [put_ne _ _ _ _ d.2.2.2.2.2.1]; exact h1, k1⟩, ⟨e2, by rw [put_ne _ _ _ _ d.2.2.2.2.2.2.2.1]; exact h2, k2⟩, ⟨es, put_same _ _ _, hes⟩, ⟨e4, by rw [put_ne _ _ _ _ (fun e => d.2.2.2.2.2.2.2.2.2 e.symm)]; exact h4, k4⟩⟩
theorem BW.setV (h : BW H G ib i1 i2 i3 i4 fs ta lf ls lv F) {es : List (Key × AV)} (hes : MapOf (·.name) (fun x => .agg (encSvc x)) es lv') : BW H (G.put i4 (.map .str es)) ib i1 i2 i3 i4 fs ta lf ls lv' F := by
  obtain ⟨a, b, d, e, ⟨e1, h1, k1⟩, ⟨e2, h2, k2⟩, ⟨e3, h3, k3⟩, -⟩ := h
  exact ⟨a.put' b.2.2.2.2 _, b, d, by rw [put_ne _ _ _ _ (fun e => d.2.2.2.1 e.symm)]; exact e, ⟨e1, by rw [put_ne _ _ _ _ d.2.2.2.2.2.2.1]; exact h1, k1⟩, ⟨e2, by rw [put_ne _ _ _ _ d.2.2.2.2.2.2.2.2.1]; exact h2, k2⟩, ⟨e3, by rw [put_ne _ _ _ _ d.2.2.2.2.2.2.2.2.2]; exact h3, k3⟩, ⟨es, put_same _ _ _, hes⟩⟩
end
/-- All but these objects stay. -/
def Fr (G G' : Heap) (S : List Nat) : Prop := ∀ i o, G i = some o → i ∉ S → G' i = some o
theorem Fr.rfl' (G : Heap) (S : List Nat) : Fr G G S := fun _ _ h _ => h
theorem Fr.trans {G1 G2 G3 : Heap} {S : List Nat} (h1 : Fr G1 G2 S) (h2 : Fr G2 G3 S) : Fr G1 G3 S := fun i o hi hs => h2 i o (h1 i o hi hs) hs
theorem Fr.new {G : Heap} {j : Nat} (hj : G j = none) (o : AObj) (S : List Nat) : Fr G (G.put j o) S := fun i p hi _ => by rw [put_ne _ _ _ _ (obj_ne hi hj)]; exact hi
theorem Fr.set (G : Heap) {j : Nat} (o : AObj) {S : List Nat} (hj : j ∈ S) : Fr G (G.put j o) S := fun i p hi hs => by
  have : ¬ i = j := fun e => hs (by rw [e]; exact hj)
  rw [put_ne _ _ _ _ this]; exact hi
end Go.Proofs

/- Walks: the program's bench: put, remove, conflict. -/
namespace Go.Proofs
open Go Go.Abs
set_option linter.unusedSimpArgs false
set_option linter.unusedVariables false
set_option maxRecDepth 20000
section
variable {H G : Heap} {ib i1 i2 i3 i4 : Nat} {fs : List (List AV)} {ta : Tail} {lf : List FileV} {ls : List SetV} {lv : List SvcV}
end
end Go.Proofs

/- Walks: changes of a machine, on the reference's side. -/
namespace Go.Proofs
open Go Go.Abs
set_option linter.unusedSimpArgs false
set_option linter.unusedVariables false
set_option maxRecDepth 20000
theorem pathB_len {s : Bytes} (h : pathB s = true) : s.length ≤ 200 := by
  unfold pathB at h
  simp only [Bool.and_eq_true, decide_eq_true_eq] at h
  omega
theorem nameB_len {s : Bytes} (h : nameB s = true) : s.length ≤ 40 := by
  unfold nameB sEach at h
  simp only [Bool.and_eq_true, decide_eq_true_eq] at h
  omega
theorem valueB_len {s : Bytes} (h : valueB s = true) : s.length ≤ 1000 := by
  unfold valueB sEach at h
  simp only [Bool.or_eq_true, Bool.and_eq_true, decide_eq_true_eq] at h
  rcases h with rfl | h
  · simp
  · omega
theorem fileErr_ok {f : FileV} (h : fileErr f = 0) : pathB f.path = true ∧ f.data.length ≤ 65536 := by
  unfold fileErr at h
  split at h
  · cases h
  split at h
  · cases h
  · exact ⟨by simp_all, by omega⟩
theorem setErr_ok {f : SetV} (h : setErr f = 0) : pathB f.key = true ∧ valueB f.value = true := by
  unfold setErr at h
  split at h
  · cases h
  split at h
  · cases h
  · exact ⟨by simp_all, by simp_all⟩
theorem factErr_ok {f : SetV} (h : factErr f = 0) : nameB f.key = true ∧ valueB f.value = true := by
  unfold factErr at h
  split at h
  · cases h
  split at h
  · cases h
  · exact ⟨by simp_all, by simp_all⟩
theorem svcErr_ok {f : SvcV} (h : svcErr f = 0) : nameB f.name = true ∧ pathB f.path = true := by
  unfold svcErr at h
  split at h
  · cases h
  · exact ⟨by simp_all, by simp_all⟩
theorem MacOK.R {m : MacV} (h : MacOK m) : macR m := by
  refine ⟨⟨by have := h.l1; omega, by have := h.l2; omega, by have := h.l3; omega, by have := h.l4; omega⟩, fun x hx => ?_, fun x hx => ?_, fun x hx => ?_, fun x hx => ?_⟩
  · obtain ⟨a, b⟩ := factErr_ok (h.e1 x hx)
    have := nameB_len a; have := valueB_len b
    exact ⟨by omega, by omega⟩
  · obtain ⟨a, b⟩ := fileErr_ok (h.e2 x hx)
    have := pathB_len a
    exact ⟨by omega, by omega⟩
  · obtain ⟨a, b⟩ := setErr_ok (h.e3 x hx)
    have := pathB_len a; have := valueB_len b
    exact ⟨by omega, by omega⟩
  · obtain ⟨a, b⟩ := svcErr_ok (h.e4 x hx)
    have := nameB_len a; have := pathB_len b
    exact ⟨by omega, by omega⟩
/-- What Apply answers. -/
def applyA (r : Except Int MacV) : AV := match r with
  | .ok n => .tup [.agg (encMac n .unk .unk .unk .unk), .int .i64 0]
  | .error e => .tup [.agg (encMac .zero .unk .unk .unk .unk), .int .i64 e]
def ApQ (H : Heap) (iw i1 i2 i3 i4 : Nat) (ta : Tail) (d : Except Int MacV) (r : Regs) (G : Heap) : Prop := ∃ n, d = .ok n ∧ MacOK n ∧ RWM H G iw i1 i2 i3 ta n ∧ r 4 = .ptr i4 0 ∧ r 7 = .ptr iw 0
set_option maxHeartbeats 3200000 in
theorem rApply_calls (m : MacV) (l : List ChgV) (ta tb tc td t : Tail) (H : Heap) (hr : macR m) (hl : l.length ≤ 1099511627776) (hc : ∀ c ∈ l, chgR c) :
    ACalls Tryz.prog 30 [.agg (encMac m ta tb tc td), .sl (l.map encChg) t] H fun x H' => x = applyA (applyV m l) ∧ H' = H := by
  have hv := applyV.eq_1 m l
  generalize applyV m l = av at *
  have hS := Heap.Sub.rfl' H
  refine ACalls.of_code (X := { pure := pu0 }) pu0_ok Tryz.func30 (by kernel_rfl) rfl (by kernel_rfl) (Nat.le_of_ble_eq_true rfl) ?_
  simp -implicitDefEqProofs only [go_sem, Tryz.f30, encMac]
  with_reducible refine nwC_intro fun im him => ?_
  generalize Em : Heap.put H im _ = G1
  have hO_m := obj_new Em him hS
  have nm := hO_m.1
  have hS := hO_m.2.1
  have gm := hO_m.2.2.1
  clear hO_m
  simp -implicitDefEqProofs only [go_sem]
  with_reducible refine nwC_intro fun i4 hi4 => ?_
  generalize E4 : Heap.put G1 i4 _ = G2
  have hO_4 := obj_new E4 hi4 hS
  have n4 := hO_4.1
  have hS := hO_4.2.1
  have g4 := hO_4.2.2.1
  have dm_4 := obj_ne gm hi4
  have gm := hO_4.2.2.2 _ _ gm
  clear hO_4
  have hck := rCheck_calls m ta tb tc td G2 hr
  have hwo := fun h1 h2 h3 => worldOf_calls m ta tb tc td G2 hr h1 h2 h3
  unfold encMac at hck hwo
  have g40 := g4
  simp -implicitDefEqProofs only [go_sem, gm]
  refine hck.pure_next _ ?_
  by_cases c0 : macErr m = 0
  rotate_left
  · have y0 : decide (¬ macErr m = 0) = true := decide_eq_true c0
    rw [if_pos c0] at hv
    subst hv
    simp -implicitDefEqProofs only [go_sem, y0, g4]
    exact Done.wk 3 (Done.drop (hS.put' n4 _) ⟨rfl, rfl⟩)
  have y0 : decide (¬ macErr m = 0) = false := decide_eq_false (by simpa using c0)
  rw [if_neg (by simpa using c0)] at hv
  have hM := (macErr_ok m).1 c0
  simp -implicitDefEqProofs only [go_sem, y0, gm]
  refine (hwo hM.a2 hM.a3 hM.a4).mono ?_
  rintro x G3 ⟨iw, i1, i2, i3, rfl, hR⟩
  clear hck hwo
  simp -implicitDefEqProofs only [go_sem]
  with_reducible refine aloop_cut 0 (ApQ G2 iw i1 i2 i3 i4 ta av) ?_ ?_
  rotate_left
  · refine aloop_intro (σ := Nat × MacV) (fun s => [(4, .ptr i4 0), (7, .ptr iw 0), (19, .sl (l.map encChg) t), (20, .int .i64 l.length), (21, .int .i64 s.1)])
      (fun s G => s.1 ≤ l.length ∧ MacOK s.2 ∧ RWM G2 G iw i1 i2 i3 ta s.2 ∧ av = doAll s.2 (l.drop s.1)) (fun s => l.length - s.1) (0, m) ?_ ?_ ?_
    · simp -implicitDefEqProofs only [go_sem]
    · exact ⟨Nat.zero_le _, hM, hR, hv⟩
    clear hR hv hM
    rintro ⟨i, n⟩ r G hvv ⟨hi, hM, hR, hv⟩
    simp only at hi hM hR hv
    have e4 := hvv.1
    have e7 := hvv.2.1
    have ea := hvv.2.2.1
    have eb := hvv.2.2.2.1
    have ec := hvv.2.2.2.2.1
    simp only at ec
    clear hvv
    by_cases g : i < l.length
    rotate_left
    · have y0 : decide ((i : Int) < l.length) = false := decide_eq_false (by omega)
      obtain rfl : i = l.length := by omega
      rw [List.drop_length, doAll] at hv
      simp -implicitDefEqProofs only [go_sem, e4, e7, ea, eb, ec, y0]
      exact ⟨n, hv, hM, hR, by simp -implicitDefEqProofs only [go_sem, e4], by simp -implicitDefEqProofs only [go_sem, e7]⟩
    have y1 : decide ((i : Int) < l.length) = true := decide_eq_true (by omega)
    obtain ⟨c, hx⟩ : ∃ x, l[i]? = some x := getD_get' g
    have ws : IntKind.i64.wrap ((i : Int) + 1) = ((i + 1 : Nat) : Int) := by rw [Go.IntWalk.i64_in _ (by omega)]; omega
    have hU : ∀ (a : ChgV), a ∈ l → (encChg a).length = 10 := fun _ _ => rfl
    rw [drop_at hx, doAll] at hv
    have hcc := hc c (List.mem_of_getElem? hx)
    have ht : (encChg c).take 10 = encChg c := rfl
    simp -implicitDefEqProofs only [go_sem, e4, e7, ea, eb, ec, y1, hx]
    refine ⟨hU, Nat.le_refl _, ?_⟩
    rw [ht]
    simp only [encChg]
    with_reducible refine nwC_intro fun i5 hi5 => ?_
    simp -implicitDefEqProofs only [go_sem]
    have hR2 : RWM G2 (G.put i5 (.cells (encChg c))) iw i1 i2 i3 ta n := RW.put hR hi5 _
    have g5 := put_same G i5 (.cells (encChg c))
    unfold encChg at hR2 g5
    generalize G.put i5 _ = G6 at *
    have hdo := rDo_calls hR2 hM.R hcc
    unfold encChg at hdo
    simp -implicitDefEqProofs only [go_sem, e4, e7, ea, eb, ec, g5]
    refine hdo.mono ?_
    clear hdo
    intro x G7 hx7
    cases hd : doV n c with
    | error e =>
      rw [hd] at hx7 hv
      simp only at hv
      obtain ⟨rfl, hR7⟩ := hx7
      subst hv
      have he : ¬ e = 0 := doV_err hd
      have y2 : decide (¬ e = 0) = true := decide_eq_true he
      have g4 := hR7.sub _ _ g40
      simp -implicitDefEqProofs only [go_sem, e4, e7, ea, eb, ec, y2, g4]
      exact Done.wk 3 (Done.drop (Heap.Sub.put' (fun i o hi => hR7.sub _ _ (hS i o hi)) n4 _) ⟨rfl, rfl⟩)
    | ok n2 =>
      rw [hd] at hx7 hv
      simp only at hv
      obtain ⟨rfl, hR7⟩ := hx7
      have y2 : decide (¬ (0 : Int) = 0) = false := rfl
      simp -implicitDefEqProofs only [go_sem, e4, e7, ea, eb, ec, y2, ws]
      exact Again.mk (i + 1, n2) (by simp -implicitDefEqProofs only [go_sem, e4, e7, ea, eb, ec]) ⟨by simp only; omega, doV_ok hM hd, hR7, hv⟩ (by simp only; omega)
  clear hR
  rintro r G ⟨n, hv, hM, hR, e4, e7⟩
  subst hv
  obtain ⟨⟨q1, q2, q3, q4⟩, -, -, -, -⟩ := hM.R
  have hma := machine_calls hR q1 q2 q3 q4
  have g4 := hR.sub _ _ g40
  simp -implicitDefEqProofs only [go_sem, e4, e7]
  refine hma.pure_next _ ?_
  unfold encMac
  simp -implicitDefEqProofs only [go_sem, e4, e7, g4]
  refine Done.drop (Heap.Sub.put' (fun i o hi => hR.sub _ _ (hS i o hi)) n4 _) ⟨rfl, rfl⟩
end Go.Proofs

/- Walks: the program's bench: the error of a change, and the change. -/
namespace Go.Proofs
open Go Go.Abs
set_option linter.unusedSimpArgs false
set_option linter.unusedVariables false
set_option maxRecDepth 20000
end Go.Proofs

/- Walks: the program's bench: made of a machine, and a machine again. -/
namespace Go.Proofs
open Go Go.Abs
set_option linter.unusedSimpArgs false
set_option linter.unusedVariables false
set_option maxRecDepth 20000
end Go.Proofs

/- Walks: the program's machine, Apply. -/
namespace Go.Proofs
open Go Go.Abs
set_option linter.unusedSimpArgs false
set_option linter.unusedVariables false
set_option maxRecDepth 20000
end Go.Proofs

/- Walks: Apply, on the program's side. -/
namespace Go.Proofs
open Go Go.Abs
set_option linter.unusedSimpArgs false
set_option linter.unusedVariables false
set_option maxRecDepth 20000
end Go.Proofs

/- Walks: clones, and booting. -/
namespace Go.Proofs
open Go Go.Abs
set_option linter.unusedSimpArgs false
set_option linter.unusedVariables false
set_option maxRecDepth 20000
theorem cloneFile_calls (l : List FileV) (t : Tail) (H : Heap) (hl : l.length ≤ 1099511627776) : ACalls Tryz.prog 102 [.sl (l.map encFile) t] H fun x H' => x = .sl (l.map encFile) .unk ∧ H' = H := by
  refine ACalls.of_code (X := { pure := pu0 }) pu0_ok Tryz.func102 (by kernel_rfl) rfl (by kernel_rfl) (Nat.le_of_ble_eq_true rfl) ?_
  simp -implicitDefEqProofs only [go_sem, Tryz.f102, aNil_sl]
  refine ⟨fun h => ?_, ?_⟩
  · obtain rfl := flat_nil (fun a => by simp [encFile]) h
    exact Done.wk 1 (Done.now ⟨rfl, rfl⟩)
  · refine ⟨fun a _ => rfl, ?_⟩
    refine AppOK.clone (by simp; omega) (by simp; omega) (fun tl G' h => ?_)
    simp -implicitDefEqProofs only [go_sem]
    exact Done.wk 1 (Done.drop h.sub ⟨rfl, rfl⟩)

theorem cloneSvc_calls (l : List SvcV) (t : Tail) (H : Heap) (hl : l.length ≤ 1099511627776) : ACalls Tryz.prog 35 [.sl (l.map encSvc) t] H fun x H' => x = .sl (l.map encSvc) .unk ∧ H' = H := by
  refine ACalls.of_code (X := { pure := pu0 }) pu0_ok Tryz.func35 (by kernel_rfl) rfl (by kernel_rfl) (Nat.le_of_ble_eq_true rfl) ?_
  simp -implicitDefEqProofs only [go_sem, Tryz.f35, aNil_sl]
  refine ⟨fun h => ?_, ?_⟩
  · obtain rfl := flat_nil (fun a => by simp [encSvc]) h
    exact Done.wk 1 (Done.now ⟨rfl, rfl⟩)
  · refine ⟨fun a _ => rfl, ?_⟩
    refine AppOK.clone (by simp; omega) (by simp; omega) (fun tl G' h => ?_)
    simp -implicitDefEqProofs only [go_sem]
    exact Done.wk 1 (Done.drop h.sub ⟨rfl, rfl⟩)

noncomputable def sCl {V : Type} (enc : V → List AV) := spF (fun p : List (List AV) × Tail => [AV.sl p.1 p.2]) (fun p => ∃ l : List V, p.1 = l.map enc ∧ l.length ≤ 1099511627776) (fun p => .sl p.1 .unk)
theorem sCl_eq {V : Type} (enc : V → List AV) (l : List V) (t : Tail) (h : l.length ≤ 1099511627776) : sCl enc [.sl (l.map enc) t] = some (.sl (l.map enc) .unk) := spF_eq (enc := fun p : List (List AV) × Tail => [AV.sl p.1 p.2]) (fun p q h => by
  obtain ⟨p1, p2⟩ := p
  obtain ⟨q1, q2⟩ := q
  cases h; rfl) (l.map enc, t) ⟨l, rfl, h⟩
theorem sCl_ok {V : Type} {enc : V → List AV} {P : Program} {f : FuncId} (h : ∀ (l : List V) t H, l.length ≤ 1099511627776 → ACalls P f [.sl (l.map enc) t] H fun x H' => x = .sl (l.map enc) .unk ∧ H' = H) : Pur P f (sCl enc) := spF_ok fun p H hp => by
  obtain ⟨p1, p2⟩ := p
  obtain ⟨l, e, hl⟩ := hp
  simp only at e
  subst e
  exact h l p2 H hl
noncomputable def puDc : Pures := putP 102 (sCl encFile) (putP 91 (sCl encSet) pu0)
theorem puDc_dyn : isDyn puDc = false := by simp only [puDc, go_sem, Nat.reduceEqDiff]
attribute [go_sem] puDc_dyn
theorem puDc_ok : PuOK Tryz.prog puDc := .put (.put (pu0_ok) (sCl_ok cloneSet_calls)) (sCl_ok cloneFile_calls)
/-- A clone of services can be written. -/
theorem cloneSvcM_calls (l : List SvcV) (t : Tail) (H : Heap) (hne : l ≠ []) (hl : l.length ≤ 1099511627776) :
    ACalls Tryz.prog 35 [.sl (l.map encSvc) t] H fun x H' => ∃ id, H id = none ∧ x = .ms id 0 l.length 4 ∧ H' = H.put id (.cells (l.map encSvc).flatten) := by
  have hf : (l.map encSvc).flatten ≠ [] := by
    cases l with
    | nil => exact absurd rfl hne
    | cons p l => simp [encSvc]
  refine ACalls.of_code (X := { pure := pu0, ms := fun t => decide (t = 7) }) pu0_ok Tryz.func35 (by kernel_rfl) rfl (by kernel_rfl) (Nat.le_of_ble_eq_true rfl) ?_
  simp -implicitDefEqProofs only [go_sem, Tryz.f35]
  refine ⟨fun h => absurd h hf, ?_⟩
  simp -implicitDefEqProofs only [go_sem]
  refine ⟨fun a _ => rfl, app_ms0 (by simpa using hne) (by simp; omega) (by simp; omega) (fun id hid => ?_)⟩
  simp -implicitDefEqProofs only [go_sem, List.length_map]
  exact Done.now ⟨id, hid, rfl, rfl⟩
/-- Cells of services. -/
def svC (l : List SvcV) : List AV := (l.map encSvc).flatten
theorem svC_len (l : List SvcV) : (svC l).length = l.length * 4 := by
  unfold svC
  induction l with
  | nil => rfl
  | cons x l ih => rw [List.map_cons, List.flatten_cons, List.length_append, ih, List.length_cons]; show 4 + _ = _; omega
theorem svC_get : ∀ {l : List SvcV} {i : Nat} {x : SvcV}, l[i]? = some x → (svC l)[i * 4 + 2]? = some (.bool x.auto)
  | [], i, x, h => by simp at h
  | y :: l, 0, x, h => by
    rw [List.getElem?_cons_zero] at h
    obtain rfl := Option.some.inj h
    rfl
  | y :: l, i + 1, x, h => by
    rw [List.getElem?_cons_succ] at h
    have := svC_get h
    show (encSvc y ++ svC l)[(i + 1) * 4 + 2]? = _
    rw [List.getElem?_append_right (by show 4 ≤ _; omega)]
    rw [show (i + 1) * 4 + 2 - (encSvc y).length = i * 4 + 2 by show (i + 1) * 4 + 2 - 4 = _; omega]
    exact this
theorem svC_set : ∀ {l : List SvcV} {i : Nat} {x : SvcV} (b : Bool), l[i]? = some x → (svC l).set (i * 4 + 3) (.bool b) = svC (l.set i { x with on := b })
  | [], i, x, b, h => by simp at h
  | y :: l, 0, x, b, h => by
    rw [List.getElem?_cons_zero] at h
    obtain rfl := Option.some.inj h
    rfl
  | y :: l, i + 1, x, b, h => by
    rw [List.getElem?_cons_succ] at h
    have := svC_set b h
    show (encSvc y ++ svC l).set ((i + 1) * 4 + 3) _ = encSvc y ++ svC (l.set i { x with on := b })
    rw [List.set_append, if_neg (by show ¬ _ < 4; omega), show (i + 1) * 4 + 3 - (encSvc y).length = i * 4 + 3 by show (i + 1) * 4 + 3 - 4 = _; omega, this]
/-- Services of which the first were switched on. -/
def bootL (l : List SvcV) (i : Nat) : List SvcV := (l.take i).map bootS ++ l.drop i
theorem bootL_zero (l : List SvcV) : bootL l 0 = l := by simp [bootL]
theorem bootL_all (l : List SvcV) : bootL l l.length = l.map bootS := by simp [bootL]
theorem bootL_len (l : List SvcV) (i : Nat) : (bootL l i).length = l.length := by simp [bootL]; omega
theorem bootL_get {l : List SvcV} {i : Nat} {x : SvcV} (h : l[i]? = some x) : (bootL l i)[i]? = some x := by
  have hi : i < l.length := (List.getElem?_eq_some_iff.1 h).1
  unfold bootL
  rw [List.getElem?_append_right (by simp; omega), List.length_map, List.length_take, Nat.min_eq_left (by omega), Nat.sub_self, List.getElem?_drop]
  simpa using h
theorem bootL_set {l : List SvcV} {i : Nat} {x : SvcV} (h : l[i]? = some x) : (bootL l i).set i (bootS x) = bootL l (i + 1) := by
  have hi : i < l.length := (List.getElem?_eq_some_iff.1 h).1
  have hx : l[i] = x := (List.getElem?_eq_some_iff.1 h).2
  unfold bootL
  rw [List.set_append, if_neg (by simp; omega), List.length_map, List.length_take, Nat.min_eq_left (by omega), Nat.sub_self, List.drop_eq_getElem_cons hi, List.set_cons_zero, List.take_add_one, h, List.map_append]
  simp
theorem svC_chunks (l : List SvcV) : ((List.range l.length).map fun i => ((svC l).drop (i * 4)).take 4) = l.map encSvc := by
  have := chunks_of (k := 4) (es := l.map encSvc) (fun c hc => by obtain ⟨x, -, rfl⟩ := List.mem_map.1 hc; rfl)
  rw [List.length_map] at this
  exact this
/-- A slice that was written, seen as one that is not written any more. -/
theorem frozenR {P : Program} {C : Cx} {H : Heap} {w : World} {id len k : Nat} {cs : List AV} {v : Value} (hrel : Rel P C H w) (hid : H id = some (.cells cs)) (hle : len * k ≤ cs.length) (hx : Repr C H w (.ms id 0 len k) v) :
    Repr C (H.del id) w (.sl ((List.range len).map fun i => (cs.drop (i * k)).take k) .unk) v := by
  have hsub : (H.del id).Sub H := fun i o ho => by
    unfold Heap.del at ho
    split at ho
    · cases ho
    · exact ho
  obtain ⟨f1, f2⟩ := Le.forget hrel hsub
  cases hx with
  | ms _ _ _ _ a cap h ha hl hs =>
    obtain ⟨hlt, hbase, arr, ty, fr, a1, a2, a3, a4⟩ := hrel.live id _ hid
    have hfl : ((List.range len).map fun i => (cs.drop (i * k)).take k).flatten = cs.take (len * k) := Go.Abs.chunks_flatten _ _ _ hle
    have hfn : ((List.range len).map fun i => (cs.drop (i * k)).take k).flatten.length = len * k := by rw [hfl]; simp; omega
    have hown : ∀ j, ¬ Owned C (H.del id) (C.β id) j := by
      rintro j ⟨i, o, hi, hb, -⟩
      have hi' := hsub i o hi
      have := hrel.inj i id o _ hi' hid hb
      subst this
      simp [Heap.del] at hi
    have e : ((List.range len).map fun i => (cs.drop (i * k)).take k).length = len := by simp
    have key := Repr.sl (C := C) (H := H.del id) (w := w) ((List.range len).map fun i => (cs.drop (i * k)).take k) .unk a cap (C.β id) 0 (fun j => arr.getD j default)
      (fun hp => ha (by rw [hfn] at hp; rcases Nat.eq_zero_or_pos len with h0 | h0
                        · subst h0; simp at hp
                        · omega))
      (fun j hj => by
        rw [hfn] at hj
        exact ⟨by rw [Nat.zero_add]; exact cell_of_cells a1 (by omega), (a3 _ (by omega)).1, (Array.getElem?_eq_some_iff.1 a1).1, hown _⟩)
      (fun j hj => by
        rw [hfn] at hj
        rw [hfl, getD_take _ _ _ _ hj]
        exact (a3 _ (by omega)).2.mono f1)
      (by rw [e]; exact hl) trivial
    rw [e] at key
    exact key
/-- A machine of which the services were written. -/
theorem Ghost.freezeA {P : Program} {H : Heap} {id len k : Nat} {cs : List AV} (pre : List AV) (hid : H id = some (.cells cs)) (hle : len * k ≤ cs.length) :
    Ghost P (.agg (pre ++ [.ms id 0 len k])) H (.agg (pre ++ [.sl ((List.range len).map fun i => (cs.drop (i * k)).take k) .unk])) (H.del id) := by
  intro C w v hrel hx
  have hsub : (H.del id).Sub H := fun i o ho => by
    unfold Heap.del at ho
    split at ho
    · cases ho
    · exact ho
  obtain ⟨f1, f2⟩ := Le.forget hrel hsub
  refine ⟨C, f2, f1, ?_⟩
  cases hx with
  | agg _ us hs ho hr =>
    refine .agg _ us (by simpa using hs) (fun j hj => ho j (by simpa using hj)) (fun j hj => ?_)
    have hr' := hr j (by simpa using hj)
    by_cases e : j < pre.length
    · have e1 : ∀ x : AV, (pre ++ [x]).getD j .junk = pre.getD j .junk := fun x => by simp [List.getD, List.getElem?_append_left e]
      rw [e1] at hr' ⊢
      exact hr'.mono f1
    · have e0 : j = pre.length := by simp at hj; omega
      have e1 : ∀ x : AV, (pre ++ [x]).getD j .junk = x := fun x => by rw [e0]; simp [List.getD]
      rw [e1] at hr' ⊢
      exact frozenR hrel hid hle hr'
end Go.Proofs

/- Walks: clones of machines, and booting. -/
namespace Go.Proofs
open Go Go.Abs
set_option linter.unusedSimpArgs false
set_option linter.unusedVariables false
set_option maxRecDepth 20000
theorem sub_both {H G : Heap} (h : H.Sub G) (id : Nat) (o : AObj) : (H.put id o).Sub (G.put id o) := fun i p hi => by
  by_cases e : i = id
  · subst e; rw [put_same] at hi ⊢; exact hi
  · rw [put_ne _ _ _ _ e] at hi ⊢; exact h i p hi
/-- The clone of a machine; its services, if there are any, can be written. -/
def clOT : OT := .seg [0, 1, 2, 3, 4, 5, 6, 7, 8, 9, 10, 11, 12, 13] .done
theorem dClone_calls (m : MacV) (ta tb tc td : Tail) (H : Heap) (hr : macR m) :
    ACalls Tryz.prog 76 [.agg (encMac m ta tb tc td)] H fun x H' => (m.svcs = [] ∧ x = .agg (encMac m .unk .unk .unk .unk) ∧ H' = H) ∨ m.svcs ≠ [] ∧ ∃ id, H id = none ∧ x = .agg [.sl (m.facts.map encSet) .unk, .sl (m.files.map encFile) .unk, .sl (m.sets.map encSet) .unk, .ms id 0 m.svcs.length 4] ∧ H' = H.put id (.cells (svC m.svcs)) := by
  have hS := Heap.Sub.rfl' H
  obtain ⟨⟨l1, l2, l3, l4⟩, -⟩ := hr
  have c1 := sCl_eq encSet m.facts ta l1
  have c2 := sCl_eq encFile m.files tb l2
  have c3 := sCl_eq encSet m.sets tc l3
  refine ACalls.of_code (X := { pure := puDc, tree := fun n => if n = 1 then some clOT else none }) puDc_ok Tryz.func76 (by kernel_rfl) rfl (by kernel_rfl) (Nat.le_of_ble_eq_true rfl) ?_
  simp -implicitDefEqProofs only [go_sem, Tryz.f76, encMac]
  with_reducible refine nwC_intro fun i1 hi1 => ?_
  generalize E1 : Heap.put H i1 _ = G1
  have hO_1 := obj_new E1 hi1 hS
  have n1 := hO_1.1
  have hS := hO_1.2.1
  have g1 := hO_1.2.2.1
  clear hO_1
  simp -implicitDefEqProofs only [go_sem]
  with_reducible refine nwC_intro fun i2 hi2 => ?_
  generalize E2 : Heap.put G1 i2 _ = G2
  have hO_2 := obj_new E2 hi2 hS
  have n2 := hO_2.1
  have hS := hO_2.2.1
  have g2 := hO_2.2.2.1
  have d1_2 := obj_ne g1 hi2
  have g1 := hO_2.2.2.2 _ _ g1
  clear hO_2
  simp -implicitDefEqProofs only [go_sem]
  have y0 : puDc 35 = none := rfl
  have d21 : ¬ i2 = i1 := fun e => d1_2 e.symm
  rw [acode_tree (t := clOT) rfl (by rfl)]
  by_cases hn : m.svcs = []
  · have c4 := fun G => cloneSvc_calls m.svcs td G l4
    simp -implicitDefEqProofs only [go_sem, clOT, stripO, g1, c1, c2, c3, puDc]
    refine (c4 G2).pure_next _ ?_
    simp -implicitDefEqProofs only [go_sem, g1, g2]
    have hS2 := hS.put' n2 (.cells [.sl (m.facts.map encSet) .unk, .sl (m.files.map encFile) .unk, .sl (m.sets.map encSet) .unk, .sl (m.svcs.map encSvc) .unk])
    try simp -implicitDefEqProofs only [go_sem, put_same]
    exact Done.drop hS2 (.inl ⟨hn, rfl, rfl⟩)
  · have c4 := fun G => cloneSvcM_calls m.svcs td G hn l4
    simp -implicitDefEqProofs only [go_sem, clOT, stripO, g1, c1, c2, c3, puDc]
    refine (c4 G2).mono ?_
    rintro x G3 ⟨id, hid, rfl, rfl⟩
    rw [show (m.svcs.map encSvc).flatten = svC m.svcs from rfl]
    have d2 := obj_ne g2 hid
    have g2' := (put_ne G2 id i2 (.cells (svC m.svcs)) d2).trans g2
    have hSid := sub_none hS hid
    simp -implicitDefEqProofs only [go_sem, g2']
    refine Done.drop (H' := H.put id (.cells (svC m.svcs))) ((sub_both hS id _).put' ?_ _) (.inr ⟨hn, id, hSid, rfl, rfl⟩)
    rw [put_ne _ _ _ _ d2]; exact n2
/-- Booting: a loop over the services. -/
theorem bootP_calls (m : MacV) (ta tb tc td : Tail) (H : Heap) (hr : macR m) :
    ACalls Tryz.prog 38 [.agg (encMac m ta tb tc td)] H fun x H' => x = .agg (encMac (bootV m) .unk .unk .unk .unk) ∧ H' = H := by
  have hS := Heap.Sub.rfl' H
  have hcl := fun G => dClone_calls m ta tb tc td G hr
  obtain ⟨⟨l1, l2, l3, l4⟩, -⟩ := hr
  unfold encMac at hcl
  refine ACalls.of_code (X := { pure := pu0 }) pu0_ok Tryz.func38 (by kernel_rfl) rfl (by kernel_rfl) (Nat.le_of_ble_eq_true rfl) ?_
  simp -implicitDefEqProofs only [go_sem, Tryz.f38, encMac]
  with_reducible refine nwC_intro fun i1 hi1 => ?_
  generalize E1 : Heap.put H i1 _ = G1
  have hO_1 := obj_new E1 hi1 hS
  have n1 := hO_1.1
  have hS := hO_1.2.1
  have g1 := hO_1.2.2.1
  clear hO_1
  simp -implicitDefEqProofs only [go_sem]
  with_reducible refine nwC_intro fun i2 hi2 => ?_
  generalize E2 : Heap.put G1 i2 _ = G2
  have hO_2 := obj_new E2 hi2 hS
  have n2 := hO_2.1
  have hS := hO_2.2.1
  have g2 := hO_2.2.2.1
  have d1_2 := obj_ne g1 hi2
  have g1 := hO_2.2.2.2 _ _ g1
  clear hO_2
  simp -implicitDefEqProofs only [go_sem, g1]
  refine (hcl G2).mono ?_
  rintro x G3 (⟨hn, rfl, rfl⟩ | ⟨hn, id, hid, rfl, rfl⟩)
  · have hb : m.svcs.map bootS = m.svcs := by rw [hn]; rfl
    rw [bootV, hb]
    rw [hn]
    simp -implicitDefEqProofs only [go_sem, g1]
    generalize E1 : Heap.put G3 i1 _ = G4
    have hS := obj_sub E1 n1 hS
    have g1 := obj_at E1
    have g2 := obj_keep E1 (by first | exact d2_1 | exact fun e => d1_2 e.symm) g2
    try simp -implicitDefEqProofs only [go_sem, g1, List.length_nil, List.map_nil]
    refine aloop_intro (σ := Unit) (fun _ => [(1, .ptr i1 0), (2, .ptr i2 0), (8, .int .i64 0), (9, .int .i64 0)]) (fun _ G => G = G4) (fun _ => 0) () ?_ ?_ ?_
    · simp -implicitDefEqProofs only [go_sem, g1]
      try exact ⟨rfl, rfl, rfl, rfl⟩
    · rfl
    rintro _ r G hv rfl
    have e1 := hv.1
    have e2 := hv.2.1
    have e8 := hv.2.2.1
    have e9 := hv.2.2.2.1
    clear hv
    have y0 : decide ((0 : Int) < 0) = false := rfl
    simp -implicitDefEqProofs only [go_sem, e1, e2, e8, e9, y0, g1, g2]
    try simp -implicitDefEqProofs only [go_sem, put_same]
    exact Done.drop (hS.put' n2 _) ⟨rfl, rfl⟩
  · have hSid := sub_none hS hid
    have d2 := obj_ne g2 hid
    have d1 := obj_ne g1 hid
    have g1' := (put_ne G2 id i1 (.cells (svC m.svcs)) d1).trans g1
    have g2' := (put_ne G2 id i2 (.cells (svC m.svcs)) d2).trans g2
    have gd' := put_same G2 id (.cells (svC m.svcs))
    have hS' := hS.put' hSid (.cells (svC m.svcs))
    clear g1 g2 hS
    generalize G2.put id (.cells (svC m.svcs)) = G3 at *
    have hS := hS'
    have g1 := g1'
    have g2 := g2'
    have gd := gd'
    clear hS' g1' g2' gd'
    have d1_d : ¬ i1 = id := d1
    simp -implicitDefEqProofs only [go_sem, g1]
    generalize E1 : Heap.put G3 i1 _ = G4
    have hS4 := obj_sub E1 n1 hS
    have g1' := obj_at E1
    have g2' := obj_keep E1 (fun e => d1_2 e.symm) g2
    have gd' := obj_keep E1 (fun e => d1 e.symm) gd
    clear hS g1 g2 gd E1
    try simp -implicitDefEqProofs only [go_sem, g1']
    refine aloop_intro (σ := Nat) (fun i => [(1, .ptr i1 0), (2, .ptr i2 0), (8, .int .i64 m.svcs.length), (9, .int .i64 i)])
      (fun i G => i ≤ m.svcs.length ∧ H.Sub G ∧ G i1 = some (.cells [.sl (m.facts.map encSet) .unk, .sl (m.files.map encFile) .unk, .sl (m.sets.map encSet) .unk, .ms id 0 m.svcs.length 4]) ∧ G i2 = some (.cells [.sl [] .exact, .sl [] .exact, .sl [] .exact, .sl [] .exact]) ∧ G id = some (.cells (svC (bootL m.svcs i)))) (fun i => m.svcs.length - i) 0 ?_ ?_ ?_
    · simp -implicitDefEqProofs only [go_sem, g1']
      try exact ⟨rfl, rfl, rfl, rfl⟩
    · exact ⟨Nat.zero_le _, hS4, g1', g2', by rw [bootL_zero]; exact gd'⟩
    clear hS4 g1' g2' gd'
    rintro i r G hv ⟨hi, hS, g1, g2, gd⟩
    have e1 := hv.1
    have e2 := hv.2.1
    have e8 := hv.2.2.1
    have e9 := hv.2.2.2.1
    clear hv
    by_cases g : i < m.svcs.length
    rotate_left
    · have y0 : decide ((i : Int) < m.svcs.length) = false := decide_eq_false (by omega)
      obtain rfl : i = m.svcs.length := by omega
      rw [bootL_all] at gd
      simp -implicitDefEqProofs only [go_sem, e1, e2, e8, e9, y0, g1, g2]
      try simp -implicitDefEqProofs only [go_sem, put_same]
      have gd' := (put_ne G i2 id (.cells [.sl (m.facts.map encSet) .unk, .sl (m.files.map encFile) .unk, .sl (m.sets.map encSet) .unk, .ms id 0 m.svcs.length 4]) (fun e => d2 e.symm)).trans gd
      have hfz := Ghost.freezeA (P := Tryz.prog) (k := 4) (len := m.svcs.length) [.sl (m.facts.map encSet) .unk, .sl (m.files.map encFile) .unk, .sl (m.sets.map encSet) .unk] gd' (by rw [svC_len, List.length_map]; omega)
      have hch := svC_chunks (m.svcs.map bootS)
      rw [List.length_map] at hch
      rw [hch] at hfz
      refine Done.via hfz ?_
      refine Done.drop (fun k o hk => ?_) ⟨rfl, rfl⟩
      rw [del_ne (fun e => by subst e; rw [hSid] at hk; cases hk)]
      exact hS.put' n2 _ k o hk
    have y0 : decide ((i : Int) < m.svcs.length) = true := decide_eq_true (by omega)
    obtain ⟨x, hx⟩ : ∃ x, m.svcs[i]? = some x := getD_get' g
    have ws : IntKind.i64.wrap ((i : Int) + 1) = ((i + 1 : Nat) : Int) := by rw [Go.IntWalk.i64_in _ (by omega)]; omega
    have hg := svC_get (bootL_get hx)
    rw [← List.head?_drop] at hg
    simp -implicitDefEqProofs only [go_sem, e1, e2, e8, e9, y0, g1, g2, gd, hg, ws]
    have hsl := svC_len (bootL m.svcs i)
    rw [bootL_len] at hsl
    refine ⟨by omega, by omega, by omega, ?_⟩
    rw [svC_set x.auto (bootL_get hx), show ({ x with on := x.auto } : SvcV) = bootS x from rfl, bootL_set hx]
    refine Again.mk (i + 1) (by simp -implicitDefEqProofs only [go_sem, e1, e2, e8, e9]) ⟨by omega, hS.put' hSid _, ?_, ?_, put_same _ _ _⟩ (by omega)
    · rw [put_ne _ _ _ _ d1]; exact g1
    · rw [put_ne _ _ _ _ d2]; exact g2
/-- Booting, on the reference's side. -/
theorem bootR_calls (m : MacV) (ta tb tc td : Tail) (H : Heap) (hr : macR m) :
    ACalls Tryz.prog 11 [.agg (encMac m ta tb tc td)] H fun x H' => x = .agg (encMac (bootV m) .unk .unk .unk .unk) ∧ H' = H := by
  have hS := Heap.Sub.rfl' H
  obtain ⟨⟨l1, l2, l3, l4⟩, -⟩ := hr
  refine ACalls.of_code (X := { pure := pu0 }) pu0_ok Tryz.func11 (by kernel_rfl) rfl (by kernel_rfl) (Nat.le_of_ble_eq_true rfl) ?_
  simp -implicitDefEqProofs only [go_sem, Tryz.f11, encMac]
  with_reducible refine nwC_intro fun i1 hi1 => ?_
  generalize E1 : Heap.put H i1 _ = G1
  have hO_1 := obj_new E1 hi1 hS
  have n1 := hO_1.1
  have hS := hO_1.2.1
  have g1 := hO_1.2.2.1
  clear hO_1
  simp -implicitDefEqProofs only [go_sem]
  with_reducible refine nwC_intro fun i2 hi2 => ?_
  generalize E2 : Heap.put G1 i2 _ = G2
  have hO_2 := obj_new E2 hi2 hS
  have n2 := hO_2.1
  have hS := hO_2.2.1
  have g2 := hO_2.2.2.1
  have d1_2 := obj_ne g1 hi2
  have g1 := hO_2.2.2.2 _ _ g1
  clear hO_2
  simp -implicitDefEqProofs only [go_sem, g1]
  by_cases hn : m.svcs = []
  · have hb : m.svcs.map bootS = m.svcs := by rw [hn]; rfl
    rw [bootV, hb]
    have hcl := fun G => cloneSvc_calls m.svcs td G l4
    refine (hcl G2).pure_next _ ?_
    rw [hn]
    simp -implicitDefEqProofs only [go_sem, g1]
    generalize E1 : Heap.put G2 i1 _ = G4
    have hS := obj_sub E1 n1 hS
    have g1 := obj_at E1
    have g2 := obj_keep E1 (by first | exact d2_1 | exact fun e => d1_2 e.symm) g2
    try simp -implicitDefEqProofs only [go_sem, g1, List.length_nil, List.map_nil]
    refine aloop_intro (σ := Unit) (fun _ => [(1, .ptr i1 0), (2, .ptr i2 0), (10, .int .i64 0), (11, .int .i64 0)]) (fun _ G => G = G4) (fun _ => 0) () ?_ ?_ ?_
    · simp -implicitDefEqProofs only [go_sem, g1]
      try exact ⟨rfl, rfl, rfl, rfl⟩
    · rfl
    rintro _ r G hv rfl
    have e1 := hv.1
    have e2 := hv.2.1
    have e8 := hv.2.2.1
    have e9 := hv.2.2.2.1
    clear hv
    have y0 : decide ((0 : Int) < 0) = false := rfl
    simp -implicitDefEqProofs only [go_sem, e1, e2, e8, e9, y0, g1, g2]
    try simp -implicitDefEqProofs only [go_sem, put_same]
    exact Done.wk 2 (Done.drop (hS.put' n2 _) ⟨rfl, rfl⟩)
  · have hcl := fun G => cloneSvcM_calls m.svcs td G hn l4
    refine (hcl G2).mono ?_
    rintro x G3 ⟨id, hid, rfl, rfl⟩
    rw [show (m.svcs.map encSvc).flatten = svC m.svcs from rfl]
    have hSid := sub_none hS hid
    have d2 := obj_ne g2 hid
    have d1 := obj_ne g1 hid
    have g1' := (put_ne G2 id i1 (.cells (svC m.svcs)) d1).trans g1
    have g2' := (put_ne G2 id i2 (.cells (svC m.svcs)) d2).trans g2
    have gd' := put_same G2 id (.cells (svC m.svcs))
    have hS' := hS.put' hSid (.cells (svC m.svcs))
    clear g1 g2 hS
    generalize G2.put id (.cells (svC m.svcs)) = G3 at *
    have hS := hS'
    have g1 := g1'
    have g2 := g2'
    have gd := gd'
    clear hS' g1' g2' gd'
    have d1_d : ¬ i1 = id := d1
    simp -implicitDefEqProofs only [go_sem, g1]
    generalize E1 : Heap.put G3 i1 _ = G4
    have hS4 := obj_sub E1 n1 hS
    have g1' := obj_at E1
    have g2' := obj_keep E1 (fun e => d1_2 e.symm) g2
    have gd' := obj_keep E1 (fun e => d1 e.symm) gd
    clear hS g1 g2 gd E1
    try simp -implicitDefEqProofs only [go_sem, g1']
    refine aloop_intro (σ := Nat) (fun i => [(1, .ptr i1 0), (2, .ptr i2 0), (10, .int .i64 m.svcs.length), (11, .int .i64 i)])
      (fun i G => i ≤ m.svcs.length ∧ H.Sub G ∧ G i1 = some (.cells [.sl (m.facts.map encSet) ta, .sl (m.files.map encFile) tb, .sl (m.sets.map encSet) tc, .ms id 0 m.svcs.length 4]) ∧ G i2 = some (.cells [.sl [] .exact, .sl [] .exact, .sl [] .exact, .sl [] .exact]) ∧ G id = some (.cells (svC (bootL m.svcs i)))) (fun i => m.svcs.length - i) 0 ?_ ?_ ?_
    · simp -implicitDefEqProofs only [go_sem, g1']
      try exact ⟨rfl, rfl, rfl, rfl⟩
    · exact ⟨Nat.zero_le _, hS4, g1', g2', by rw [bootL_zero]; exact gd'⟩
    clear hS4 g1' g2' gd'
    rintro i r G hv ⟨hi, hS, g1, g2, gd⟩
    have e1 := hv.1
    have e2 := hv.2.1
    have e8 := hv.2.2.1
    have e9 := hv.2.2.2.1
    clear hv
    by_cases g : i < m.svcs.length
    rotate_left
    · have y0 : decide ((i : Int) < m.svcs.length) = false := decide_eq_false (by omega)
      obtain rfl : i = m.svcs.length := by omega
      rw [bootL_all] at gd
      simp -implicitDefEqProofs only [go_sem, e1, e2, e8, e9, y0, g1, g2]
      try simp -implicitDefEqProofs only [go_sem, put_same]
      have gd' := (put_ne G i2 id (.cells [.sl (m.facts.map encSet) ta, .sl (m.files.map encFile) tb, .sl (m.sets.map encSet) tc, .ms id 0 m.svcs.length 4]) (fun e => d2 e.symm)).trans gd
      have hfz := Ghost.freezeA (P := Tryz.prog) (k := 4) (len := m.svcs.length) [.sl (m.facts.map encSet) ta, .sl (m.files.map encFile) tb, .sl (m.sets.map encSet) tc] gd' (by rw [svC_len, List.length_map]; omega)
      have hch := svC_chunks (m.svcs.map bootS)
      rw [List.length_map] at hch
      rw [hch] at hfz
      refine Done.via hfz ?_
      refine Done.wk 2 ?_
      refine Done.drop (fun k o hk => ?_) ⟨rfl, rfl⟩
      rw [del_ne (fun e => by subst e; rw [hSid] at hk; cases hk)]
      exact hS.put' n2 _ k o hk
    have y0 : decide ((i : Int) < m.svcs.length) = true := decide_eq_true (by omega)
    obtain ⟨x, hx⟩ : ∃ x, m.svcs[i]? = some x := getD_get' g
    have ws : IntKind.i64.wrap ((i : Int) + 1) = ((i + 1 : Nat) : Int) := by rw [Go.IntWalk.i64_in _ (by omega)]; omega
    have hg := svC_get (bootL_get hx)
    rw [← List.head?_drop] at hg
    simp -implicitDefEqProofs only [go_sem, e1, e2, e8, e9, y0, g1, g2, gd, hg, ws]
    have hsl := svC_len (bootL m.svcs i)
    rw [bootL_len] at hsl
    refine ⟨by omega, by omega, by omega, ?_⟩
    rw [svC_set x.auto (bootL_get hx), show ({ x with on := x.auto } : SvcV) = bootS x from rfl, bootL_set hx]
    refine Again.mk (i + 1) (by simp -implicitDefEqProofs only [go_sem, e1, e2, e8, e9]) ⟨by omega, hS.put' hSid _, ?_, ?_, put_same _ _ _⟩ (by omega)
    · rw [put_ne _ _ _ _ d1]; exact g1
    · rw [put_ne _ _ _ _ d2]; exact g2
end Go.Proofs

/- Lines of things: plain Lean, no program. -/
namespace Go.Proofs
open Go Go.Abs
set_option linter.unusedSimpArgs false
set_option linter.unusedVariables false
/-! ### Lines -/
structure LineV where
  word : Bytes
  file : FileV
  set : SetV
  svc : SvcV
  deriving DecidableEq
def LineV.zero : LineV := ⟨[], .zero, .zero, .zero⟩
abbrev wFact : Bytes := [102, 97, 99, 116]
abbrev wSet : Bytes := [115, 101, 116]
abbrev wFile : Bytes := [102, 105, 108, 101]
abbrev wRun : Bytes := [114, 117, 110]
abbrev wService : Bytes := [115, 101, 114, 118, 105, 99, 101]
end Go.Proofs

/- Changes as texts: plain Lean, no program. -/
namespace Go.Proofs
open Go Go.Abs
set_option linter.unusedSimpArgs false
set_option linter.unusedVariables false
def bitV (b : Bool) : Bytes := if b then [49] else [48]
def svcLine (s : SvcV) : Bytes := s.name ++ [32] ++ s.path ++ [32] ++ bitV s.auto ++ [32] ++ bitV s.on
/-! ### What is written is read -/
end Go.Proofs

/- Walks: Quote, on the reference's side; escape; Unquote. -/
namespace Go.Proofs
open Go Go.Abs
set_option linter.unusedSimpArgs false
set_option linter.unusedVariables false
set_option maxRecDepth 20000
theorem hexCut : ∀ m : Nat, m < 16 → ((48 :: ([49, 50, 51, 52, 53, 54, 55, 56, 57, 97, 98, 99, 100, 101, 102] : Bytes).take m).drop m) = [dig m] := by decide
theorem take_drop1 {s : Bytes} {i : Nat} {c : UInt8} (h : s[i]? = some c) : (s.take (i + 1)).drop i = [c] := by
  rw [List.take_add_one, h, List.drop_append_of_le_length (by rw [List.length_take]; have := (List.getElem?_eq_some_iff.1 h).1; omega), List.drop_of_length_le (by rw [List.length_take]; omega)]
  rfl
set_option maxHeartbeats 3200000 in
theorem rQuote_calls (s : Bytes) (H : Heap) (hs : s.length ≤ 1099511627776) : ACalls Tryz.prog 32 [.str s] H fun x H' => x = .str (quoteB s) ∧ H' = H := by
  refine ACalls.of_code (X := { pure := pu0, ms := fun t => decide (t = 3) }) pu0_ok Tryz.func32 (by kernel_rfl) rfl (by kernel_rfl) (Nat.le_of_ble_eq_true rfl) ?_
  simp -implicitDefEqProofs only [go_sem, Tryz.f32]
  with_reducible refine nwT_intro fun b hb => ?_
  have hnew := BldG.new (Heap.Sub.rfl' H) hb
  simp -implicitDefEqProofs only [go_sem]
  refine writeByte_k (c := 34) hnew (by simp) (fun G hG hK => ?_)
  clear hnew hK
  rw [show ([] : Bytes) ++ [34] = accQ [] from rfl] at hG
  simp -implicitDefEqProofs only [go_sem]
  refine aloop_intro (σ := Nat) (fun i => [(0, .str s), (3, bldP b), (8, .int .i64 s.length), (9, .int .i64 i)]) (fun i G' => BldOK H G' b (accQ (s.take i)) ∧ i ≤ s.length) (fun i => s.length - i) 0 ?_ ?_ ?_
  · simp -implicitDefEqProofs only [go_sem]
  · exact ⟨hG, Nat.zero_le _⟩
  clear hG
  rintro i r G2 hv ⟨hB, hi⟩
  have h0 := hv.1
  have h3 := hv.2.1
  have h8 := hv.2.2.1
  have h9 := hv.2.2.2.1
  clear hv
  have hql := accQ_len s i
  by_cases g : i < s.length
  · have y0 : decide ((i : Int) < s.length) = true := decide_eq_true (by omega)
    obtain ⟨c, hc⟩ : ∃ c, s[i]? = some c := getD_get' g
    have hq := accQ_take hc
    have hcl := c.toNat_lt
    have ws : IntKind.i64.wrap ((i : Int) + 1) = ((i + 1 : Nat) : Int) := by rw [Go.IntWalk.i64_in _ (by omega)]; omega
    have e92 := @u8_eq c 92 (by decide)
    have e34 := @u8_eq c 34 (by decide)
    have e10 := @u8_eq c 10 (by decide)
    have a1 := shr4u c.toNat hcl
    have a2 := and15u c.toNat hcl
    have b1 : IntKind.u8.wrap (((c.toNat / 16 : Nat) : Int) + 1) = ((c.toNat / 16 + 1 : Nat) : Int) := by rw [Go.IntWalk.u8_in _ (by omega)]; omega
    have b2 : IntKind.u8.wrap (((c.toNat % 16 : Nat) : Int) + 1) = ((c.toNat % 16 + 1 : Nat) : Int) := by rw [Go.IntWalk.u8_in _ (by omega)]; omega
    have d1 := hexCut (c.toNat / 16) (by omega)
    have d2 := hexCut (c.toNat % 16) (by omega)
    have t1 := take_drop1 hc
    have fin : ∀ {k : K1} (l : Bytes), qc c = l → (∀ G3, BldOK H G3 b (accQ (s.take (i + 1))) → k (.tup [.int .i64 l.length, .nilIface]) G3) → ACalls Tryz.prog 31 [bldP b, .str l] G2 k := fun {k} l h1 h2 => by
      have hl : l.length ≤ 4 := by
        rw [← h1]
        unfold qc
        repeat' split
        all_goals simp
      refine writeString_k hB (by omega) (fun G3 hG3 _ => ?_)
      rw [← h1, ← hq] at hG3
      exact h2 G3 hG3
    by_cases c1 : c = 92 ∨ c = 34
    · have hqc : qc c = [92, c] := by unfold qc; rw [if_pos c1]
      by_cases c2 : c = 34
      · have y1 : decide ((c.toNat : Int) = 34) = true := decide_eq_true (e34.2 c2)
        simp -implicitDefEqProofs only [go_sem, h0, h3, h8, h9, y0, hc, y1, ws, Int.toNat_natCast, t1]
        refine ⟨by omega, ?_⟩
        refine fin _ hqc (fun G3 hB3 => ?_)
        simp -implicitDefEqProofs only [go_sem, h0, h3, h8, h9, ws]
        exact Again.mk (i + 1) (by simp -implicitDefEqProofs only [go_sem, h0, h3, h8, h9]) ⟨hB3, by omega⟩ (by omega)
      · have y1 : decide ((c.toNat : Int) = 34) = false := decide_eq_false (fun e => c2 (e34.1 e))
        have y2 : decide ((c.toNat : Int) = 92) = true := decide_eq_true (e92.2 (c1.resolve_right c2))
        simp -implicitDefEqProofs only [go_sem, h0, h3, h8, h9, y0, hc, y1, y2, ws, Int.toNat_natCast, t1]
        refine ⟨by omega, ?_⟩
        refine fin _ hqc (fun G3 hB3 => ?_)
        simp -implicitDefEqProofs only [go_sem, h0, h3, h8, h9, ws]
        exact Again.mk (i + 1) (by simp -implicitDefEqProofs only [go_sem, h0, h3, h8, h9]) ⟨hB3, by omega⟩ (by omega)
    simp only [not_or] at c1
    have y1 : decide ((c.toNat : Int) = 92) = false := decide_eq_false (fun e => c1.1 (e92.1 e))
    have y2 : decide ((c.toNat : Int) = 34) = false := decide_eq_false (fun e => c1.2 (e34.1 e))
    by_cases c2 : c = 10
    · have hqc : qc c = [92, 110] := by unfold qc; rw [if_neg (by simp only [not_or]; exact c1), if_pos c2]
      have y3 : decide ((c.toNat : Int) = 10) = true := decide_eq_true (e10.2 c2)
      simp -implicitDefEqProofs only [go_sem, h0, h3, h8, h9, y0, hc, y1, y2, y3]
      refine fin _ hqc (fun G3 hB3 => ?_)
      simp -implicitDefEqProofs only [go_sem, h0, h3, h8, h9, ws]
      exact Again.mk (i + 1) (by simp -implicitDefEqProofs only [go_sem, h0, h3, h8, h9]) ⟨hB3, by omega⟩ (by omega)
    have y3 : decide ((c.toNat : Int) = 10) = false := decide_eq_false (fun e => c2 (e10.1 e))
    by_cases c3 : c.toNat < 32 ∨ 126 < c.toNat
    · have hqc : qc c = [92, 120, dig (c.toNat / 16), dig (c.toNat % 16)] := by unfold qc; rw [if_neg (by simp only [not_or]; exact c1), if_neg c2, if_pos c3]
      by_cases c4 : c.toNat < 32
      · have y4 : decide ((c.toNat : Int) < 32) = true := decide_eq_true (by omega)
        simp -implicitDefEqProofs only [go_sem, h0, h3, h8, h9, y0, hc, y1, y2, y3, y4, a1, a2, b1, b2, Int.toNat_natCast, List.take_length, d1, d2]
        refine ⟨by omega, ⟨by omega, by omega⟩, ?_⟩
        refine fin _ hqc (fun G3 hB3 => ?_)
        simp -implicitDefEqProofs only [go_sem, h0, h3, h8, h9, ws]
        exact Again.mk (i + 1) (by simp -implicitDefEqProofs only [go_sem, h0, h3, h8, h9]) ⟨hB3, by omega⟩ (by omega)
      · have y4 : decide ((c.toNat : Int) < 32) = false := decide_eq_false (by omega)
        have y5 : decide (126 < (c.toNat : Int)) = true := decide_eq_true (by omega)
        simp -implicitDefEqProofs only [go_sem, h0, h3, h8, h9, y0, hc, y1, y2, y3, y4, y5, a1, a2, b1, b2, Int.toNat_natCast, d1, d2]
        refine ⟨by omega, ⟨by omega, by omega⟩, ?_⟩
        refine fin _ hqc (fun G3 hB3 => ?_)
        simp -implicitDefEqProofs only [go_sem, h0, h3, h8, h9, ws]
        exact Again.mk (i + 1) (by simp -implicitDefEqProofs only [go_sem, h0, h3, h8, h9]) ⟨hB3, by omega⟩ (by omega)
    simp only [not_or] at c3
    have hqc : qc c = [c] := by unfold qc; rw [if_neg (by simp only [not_or]; exact c1), if_neg c2, if_neg (by omega)]
    have y4 : decide ((c.toNat : Int) < 32) = false := decide_eq_false (by omega)
    have y5 : decide (126 < (c.toNat : Int)) = false := decide_eq_false (by omega)
    simp -implicitDefEqProofs only [go_sem, h0, h3, h8, h9, y0, hc, y1, y2, y3, y4, y5]
    refine writeByte_k hB (by omega) (fun G3 hB3 _ => ?_)
    rw [← hqc, ← hq] at hB3
    simp -implicitDefEqProofs only [go_sem, h0, h3, h8, h9, ws]
    exact Again.mk (i + 1) (by simp -implicitDefEqProofs only [go_sem, h0, h3, h8, h9]) ⟨hB3, by omega⟩ (by omega)
  · have y0 : decide ((i : Int) < s.length) = false := decide_eq_false (by omega)
    obtain rfl : i = s.length := by omega
    rw [List.take_length] at hB hql
    simp -implicitDefEqProofs only [go_sem, h0, h3, h8, h9, y0]
    refine bldString_k hB (by omega) (fun e => by cases e) ?_
    simp -implicitDefEqProofs only [go_sem]
    refine ⟨by simp; omega, ?_⟩
    exact Done.drop hB.1 ⟨rfl, rfl⟩
end Go.Proofs

/- Walks: escape and Unquote. -/
namespace Go.Proofs
open Go Go.Abs
set_option linter.unusedSimpArgs false
set_option linter.unusedVariables false
set_option maxRecDepth 20000
noncomputable def puQ1 : Pures := pu0
theorem puQ1_dyn : isDyn puQ1 = isDyn pu0 := rfl
attribute [go_sem] puQ1_dyn
noncomputable def puQ2 : Pures := puQ1
theorem puQ2_dyn : isDyn puQ2 = isDyn puQ1 := rfl
attribute [go_sem] puQ2_dyn
end Go.Proofs

/- Walks: Unquote, on the reference's side. -/
namespace Go.Proofs
open Go Go.Abs
set_option linter.unusedSimpArgs false
set_option linter.unusedVariables false
set_option maxRecDepth 20000
noncomputable def sQuo := spF (fun s : Bytes => [AV.str s]) (fun s => s.length ≤ 1099511627776) (fun s => .str (quoteB s))
theorem sQuo_eq (s : Bytes) (h : s.length ≤ 1099511627776) : sQuo [.str s] = some (.str (quoteB s)) := spF_eq (fun a b e => by cases e; rfl) s h
noncomputable def puQ4 : Pures := putP 32 sQuo (putP 124 sIdxL pu0)
theorem puQ4_dyn : isDyn puQ4 = false := by simp only [puQ4, go_sem, Nat.reduceEqDiff]
attribute [go_sem] puQ4_dyn
/-- What is left to read, and what was read. -/
def dRest (m rest out : Bytes) : Prop := dqI m = (dqI rest).map (out ++ ·)
theorem dRest.step {m rest rest2 out : Bytes} {x : UInt8} (h : dRest m rest out) (e : dqI rest = (dqI rest2).map (x :: ·)) : dRest m rest2 (out ++ [x]) := by
  unfold dRest at h ⊢
  rw [h, e, Option.map_map]
  congr 1
  funext l
  simp
def AppL (H G : Heap) (acc : Bytes) (tl : Tail) : Prop := AppG H G 1 (acc.map bcell) tl ∨ (tl = .lit ∧ H.Sub G)
theorem AppL.sub {H G : Heap} {acc : Bytes} {tl : Tail} (h : AppL H G acc tl) : H.Sub G := by
  rcases h with h | h
  · exact h.1
  · exact h.2
theorem AppL.step {H G : Heap} {acc : Bytes} {tl : Tail} {x : UInt8} {n : Int} (h : AppL H G acc tl) (hx : n = x.toNat) (hl : acc.length ≤ 1099511627776) {k : K1} (hk : ∀ tl2 G3, AppL H G3 (acc ++ [x]) tl2 → k (.sl ((acc ++ [x]).map bcell) tl2) G3) :
    appK (some 5) false tiU8 (.sl (acc.map bcell) tl) [[.int .u8 n]] G k := by
  subst hx
  have e : acc.map bcell ++ [[AV.int .u8 x.toNat]] = (acc ++ [x]).map bcell := by simp [bcell]
  rcases h with h | ⟨rfl, hs⟩
  · refine AppG.step (e := tiU8) h (bcell_len acc) (by simp; omega) (by simp; omega) (fun tl2 G3 hA3 hK3 => ?_)
    rw [e] at hA3 ⊢
    exact hk tl2 G3 (.inl hA3)
  · refine ⟨fun e => by simp at e, fun _ => ⟨bcell_len acc, by simp; omega, by simp; omega, fun id hid => ?_⟩⟩
    rw [e]
    refine hk _ _ (.inl ⟨hs.put' (sub_none hs hid) _, .inr ⟨id, _, rfl, sub_none hs hid, ?_⟩⟩)
    rw [put_same]
    simp
end Go.Proofs
