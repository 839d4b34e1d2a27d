/- What the bound of an '..UptoSaid' gives; what the listed tables give. -/
import Derived.Test.YthkfcmnpobobbaaGreatDoorTy
import Derived.Test.YthkfcmnpobobbaaGreatDoorAbs4
import Derived.Test.YthkfcmnpobobbaaGreatDoorRows
import Derived.Test.YthkfcmnpobobbaaGreatDoorTie
import Derived.Test.YthkfcmnpobobbaaGreatDoorCards
import Derived.WalkKit
import Derived.ProofKit
import Derived.OpenShut
import Derived.Deep.DeepHandedRow
import Derived.Lib.LaidTab
namespace Go.Proofs.YthkfcmnpobobbaaGreatDoor
open Go Go.Abs Go.Proofs
set_option linter.unusedVariables false
theorem own : ownKnob Tryz.prog.godebug = none := by kernel_rfl
theorem bulk_one {H : Type} (d : DataW H) : 1 ≤ Rows.uptoBulk d := by
  cases d with
  | lit l => cases l <;> simp [Rows.uptoBulk]
  | nil => simp [Rows.uptoBulk]
  | ptr d => simp [Rows.uptoBulk]
  | slice elems spare => simp [Rows.uptoBulk]
  | agg parts => simp [Rows.uptoBulk]
  | iface t d => simp [Rows.uptoBulk]
  | map entries => simp [Rows.uptoBulk]
  | held h => simp [Rows.uptoBulk]
theorem bulk_part {H : Type} {d : DataW H} {l : List (DataW H)} (h : d ∈ l) : Rows.uptoBulk d ≤ Rows.uptoBulkAll l := by
  induction l with
  | nil => cases h
  | cons x r ih =>
    simp only [Rows.uptoBulkAll]
    cases List.mem_cons.1 h with
    | inl e => subst e; omega
    | inr e => have := ih e; omega
theorem bulk_append {H : Type} (l r : List (DataW H)) : Rows.uptoBulkAll (l ++ r) = Rows.uptoBulkAll l + Rows.uptoBulkAll r := by
  induction l with
  | nil => simp [Rows.uptoBulkAll]
  | cons x l ih => simp only [List.cons_append, Rows.uptoBulkAll, ih]; omega
theorem bulk_len {H : Type} (l : List (DataW H)) : l.length ≤ Rows.uptoBulkAll l := by
  induction l with
  | nil => simp [Rows.uptoBulkAll]
  | cons x r ih => have := bulk_one x; simp only [Rows.uptoBulkAll, List.length_cons]; omega
mutual
theorem bulk_sm {H : Type} (n : Nat) : ∀ (T : Ty) (d : DataW H), Rows.uptoBulk d ≤ n → sm n T d
  | .bool, d, h => by cases d <;> trivial
  | .int _, d, h => by cases d <;> trivial
  | .str, d, h => by
    cases d with
    | lit l => cases l <;> simp_all [sm, Rows.uptoBulk]; omega
    | _ => trivial
  | .sl e, d, h => by
    cases d with
    | slice es sp =>
      simp only [Rows.uptoBulk] at h
      have h1 := bulk_len es
      exact ⟨by omega, fun x hx => bulk_sm n e x (by have := bulk_part hx; omega)⟩
    | _ => trivial
  | .st f, d, h => by
    cases d with
    | agg ds => simp only [Rows.uptoBulk] at h; exact bulk_sms n f ds (by omega)
    | _ => trivial
theorem bulk_sms {H : Type} (n : Nat) : ∀ (f : Fs) (ds : List (DataW H)), Rows.uptoBulkAll ds ≤ n → sms n f ds
  | .nil, ds, h => by cases ds <;> trivial
  | .cons T f, ds, h => by
    cases ds with
    | nil => trivial
    | cons d ds => simp only [Rows.uptoBulkAll] at h; exact ⟨bulk_sm n T d (by omega), bulk_sms n f ds (by omega)⟩
end
/-- The bound, as the builder hands it over. -/
theorem sm_of_upto {H : Type} {ds gs : List (DataW H)} (hk : Rows.uptoSmall H (ds ++ gs) = true) {Ts : List Ty} : ∀ (j : Nat) T d, Ts[j]? = some T → ds[j]? = some d → sm 1048576 T d := by
  have h : Rows.uptoBulkAll (ds ++ gs) ≤ 1048576 := of_decide_eq_true hk
  rw [bulk_append] at h
  intro j T d _ hd
  exact bulk_sm _ _ _ (by have := bulk_part (List.mem_of_getElem? hd); omega)
/-! ### Tables -/
theorem laidVars_mem {P : Program} {W : World} : ∀ {l : List (String × DataW Unit)} {ps : List MemPlace}, DataW.LaidVars P W l ps → ∀ x ∈ l, ∃ g t cs fuel p, P.globalNamed x.1 = some g ∧ (P.globals[g]?).map (·.type) = some t ∧ W.var? P x.1 = some cs ∧ DataW.trod (fun _ => ()) P W 0 (fun _ => true) false fuel t cs.toList = some (x.2, p)
  | [], _, _, x, hx => by cases hx
  | (n, d) :: r, ps, h, x, hx => by
    obtain ⟨g, t, cs, fuel, p, q, h1, h2, h3, h4, h5, _⟩ := h
    cases List.mem_cons.1 hx with
    | inl e => subst e; exact ⟨g, t, cs, fuel, p, h1, h2, h3, h4⟩
    | inr e => exact laidVars_mem h5 x e
theorem tab_blk {P : Program} {W : World} {l : List (String × DataW Unit)} {name : String} {k : IntKind} {zs : List Int} {g : Nat} {t e : TypeId} {n : Nat} (hm : laidMet P l W) (hx : (name, Lib.tabData k zs) ∈ l)
    (hg : P.globalNamed name = some g) (hty : (P.globals[g]?).map (·.type) = some t) (ht : P.underlying t = some (.array n e)) (he : P.underlying e = some (.int k)) (hce : P.cellsOf e = 1) (hct : P.cellsOf t = n) :
    ∃ ty fr, W.heap[g]? = some (.cells (zs.map (Value.int k)).toArray ty fr) := by
  obtain ⟨ps, hv, _⟩ := hm
  obtain ⟨g', t', cs, fuel, p, h1, h2, h3, h4⟩ := laidVars_mem hv _ hx
  obtain rfl := Option.some.inj (hg.symm.trans h1)
  obtain rfl := Option.some.inj (hty.symm.trans h2)
  have hT : Lib.TabIs P W name k zs := by
    unfold Lib.TabIs
    rw [h3, ← Lib.cells_of_tab ht he hce hct h4]
  unfold Lib.TabIs World.var? at hT
  rw [hg, Option.bind_some] at hT
  split at hT
  · rename_i cs' ty fr e
    obtain rfl := Option.some.inj hT
    exact ⟨ty, fr, e⟩
  · cases hT
/-- The table is an array of such integers. -/
def tabB (P : Program) (name : String) (g : Nat) (k : IntKind) : Bool :=
  match P.globalNamed name, P.globals[g]? with
  | some g', some v => decide (g' = g) && (match P.underlying v.type with
    | some (.array n e) => (match P.underlying e with | some (.int k') => decide (k' = k) | _ => false) && decide (P.cellsOf e = 1) && decide (P.cellsOf v.type = n)
    | _ => false)
  | _, _ => false
theorem tab_blk' {P : Program} {W : World} {l : List (String × DataW Unit)} {name : String} {k : IntKind} {zs : List Int} {g : Nat} (hm : laidMet P l W) (hx : (name, Lib.tabData k zs) ∈ l) (hb : tabB P name g k = true) :
    ∃ ty fr, W.heap[g]? = some (.cells (zs.map (Value.int k)).toArray ty fr) := by
  unfold tabB at hb
  split at hb
  · rename_i g' v h1 h2
    rw [Bool.and_eq_true, decide_eq_true_eq] at hb
    obtain ⟨rfl, hb⟩ := hb
    split at hb
    · rename_i n e ht
      simp only [Bool.and_eq_true, decide_eq_true_eq] at hb
      obtain ⟨⟨hk, hce⟩, hct⟩ := hb
      split at hk
      · rename_i k' he
        obtain rfl := of_decide_eq_true hk
        exact tab_blk hm hx h1 (by rw [h2]; rfl) ht he hce hct
      · cases hk
    · cases hb
  · cases hb
theorem tab_of {P : Program} {W : World} (gs : List Nat) (h0 : ((List.range P.globals.size).all fun g => (tabOf P g).isNone || gs.contains g) = true)
    (h1 : ∀ g ∈ gs, ∀ k zs, tabOf P g = some (k, zs) → ∃ ty fr, W.heap[g]? = some (.cells (zs.map (Value.int k)).toArray ty fr)) : TabN P W.heap.size W := by
  intro g k zs hg
  have hlt : g < P.globals.size := by
    unfold tabOf at hg
    split at hg
    · rename_i v hv; exact (Array.getElem?_eq_some_iff.1 hv).1
    · cases hg
  have hm := List.all_eq_true.1 h0 g (List.mem_range.2 hlt)
  rw [hg] at hm
  simp only [Option.isNone_some, Bool.false_or, List.contains_iff_mem] at hm
  obtain ⟨ty, fr, hc⟩ := h1 g hm k zs hg
  exact ⟨(Array.getElem?_eq_some_iff.1 hc).1, ty, fr, hc⟩
/-- Variables that hold an error: what the listed data give. -/
theorem iface_of_trod {P : Program} {w : World} {base : Nat} {spare : Nat → Bool} {held : Bool} {fuel : Nat} {t : TypeId} {cs : List Value} {ms : Array (String × TypeId)} {x : DataW Unit × List MemPlace} (hi : P.underlying t = some (.interface ms))
    (h : DataW.trod (fun _ => ()) P w base spare held fuel t cs = some x) : ∃ v, cs = [v] ∧ (v = .nilIface ∨ ∃ u y, v = .iface u y) := by
  cases fuel with
  | zero => simp [DataW.trod] at h
  | succ fuel =>
    unfold DataW.trod at h
    rw [hi] at h
    split at h <;> first | (exact ⟨_, rfl, .inl rfl⟩) | (exact ⟨_, rfl, .inr ⟨_, _, rfl⟩⟩) | (rename_i e; cases e) | (rename_i e _; cases e) | cases h
theorem sent_cell0 {P : Program} {W : World} {l : List (String × DataW Unit)} {name : String} {d : DataW Unit} {g : Nat} {t : TypeId} {ms : Array (String × TypeId)} (hm : laidMet P l W) (hx : (name, d) ∈ l)
    (hg : P.globalNamed name = some g) (hty : (P.globals[g]?).map (·.type) = some t) (ht : P.underlying t = some (.interface ms)) : ∃ v, W.cell? ⟨g, 0, none⟩ = some v ∧ (v = .nilIface ∨ ∃ u y, v = .iface u y) := by
  obtain ⟨ps, hv, _⟩ := hm
  obtain ⟨g', t', cs, fuel, p, h1, h2, h3, h4⟩ := laidVars_mem hv _ hx
  obtain rfl := Option.some.inj (hg.symm.trans h1)
  obtain rfl := Option.some.inj (hty.symm.trans h2)
  obtain ⟨v, e, hv⟩ := iface_of_trod ht h4
  refine ⟨v, ?_, hv⟩
  have := World.var?_cell hg h3 0
  rw [this]
  obtain ⟨cs⟩ := cs
  simp only at e
  subst e
  rfl
/-- A variable of an interface's type. -/
def isIfG (P : Program) (g : Nat) : Bool := match P.globals[g]? with
  | some v => (match P.underlying v.type with | some (.interface _) => true | _ => false)
  | none => false
theorem sent_cell {P : Program} {W : World} {l : List (String × DataW Unit)} {name : String} {d : DataW Unit} {g : Nat} (hm : laidMet P l W) (hx : (name, d) ∈ l)
    (hg : P.globalNamed name = some g) (ht : isIfG P g = true) : ∃ v, W.cell? ⟨g, 0, none⟩ = some v ∧ (v = .nilIface ∨ ∃ u y, v = .iface u y) := by
  unfold isIfG at ht
  split at ht
  · rename_i gv hgv
    split at ht
    · rename_i ms hms
      refine sent_cell0 (t := gv.type) (ms := ms) hm hx hg (by rw [hgv]; rfl) hms
    · cases ht
  · cases ht
theorem sent_of {P : Program} {W : World} (gs : List Nat) (h0 : ((List.range P.globals.size).all fun g => !sentOf P g || gs.contains g) = true)
    (h1 : ∀ g ∈ gs, ∃ v, W.cell? ⟨g, 0, none⟩ = some v ∧ (v = .nilIface ∨ ∃ u y, v = .iface u y)) : TabE P W.heap.size W := by
  intro g hg
  have hlt : g < P.globals.size := by
    unfold sentOf at hg
    split at hg
    · rename_i v hv; exact (Array.getElem?_eq_some_iff.1 hv).1
    · cases hg
  have hm := List.all_eq_true.1 h0 g (List.mem_range.2 hlt)
  rw [hg] at hm
  simp only [Bool.not_true, Bool.false_or, List.contains_iff_mem] at hm
  obtain ⟨v, hc, hv⟩ := h1 g hm
  exact ⟨(cell_spot hc).2, v, hc, hv⟩
/-- The cells of a table, to lay it in a world. -/
def litV : Lit → Value
  | .int k n => .int k n
  | .bool b => .bool b
  | _ => default
mutual
def dataV : DataW Unit → List Value
  | .lit l => [litV l]
  | .agg ds => datasV ds
  | _ => []
def datasV : List (DataW Unit) → List Value
  | [] => []
  | d :: ds => dataV d ++ datasV ds
end
end Go.Proofs.YthkfcmnpobobbaaGreatDoor
