/-
  Walks and plain laws, part 6.
-/
import Derived.Test.YtfippeedjajnkaaGreatDoorM5
import Derived.Test.YtfippeedjajnkaaGreatDoorM3
/- Walks: the program's bench: counts of files below directories. -/
namespace Go.Proofs
open Go Go.Abs
set_option linter.unusedSimpArgs false
set_option linter.unusedVariables false
set_option maxRecDepth 20000
set_option maxHeartbeats 1600000 in
theorem aboveG_calls {f : FuncId} {caps : List AV} (p : Bytes) (hp : p.length ≤ 1099511627776) (stop : Bytes → Bool) (I : Nat → Heap → Prop) (J : Heap → Prop)
    (hcall : ∀ i G, p[i]? = some 47 → I i G → ACalls Tryz.prog f (.str (p.take i) :: caps) G fun x G' => x = .bool (!stop (p.take i)) ∧ (stop (p.take i) = true → J G') ∧ (stop (p.take i) = false → I (i + 1) G'))
    (hskip : ∀ i G, i < p.length → ¬ p[i]? = some 47 → I i G → I (i + 1) G) (G : Heap) (h0 : I 0 G) :
    ACalls Tryz.prog 70 [.str p, .func f caps] G fun x G' => (x = .bool false ∧ (dirsB p).any stop = true ∧ J G') ∨ (x = .bool true ∧ (dirsB p).any stop = false ∧ I p.length G') := by
  refine ACalls.of_code (X := { pure := pu0 }) pu0_ok Tryz.func70 (by kernel_rfl) rfl (by kernel_rfl) (Nat.le_of_ble_eq_true rfl) ?_
  simp -implicitDefEqProofs only [go_sem, Tryz.f70]
  refine aloop_intro (σ := Nat) (fun i => [(0, .str p), (1, .func f caps), (5, .int .i64 i)]) (fun i G' => I i G' ∧ i ≤ p.length ∧ (dirsTo p i).any stop = false) (fun i => p.length - i) 0 ?_ ?_ ?_
  · simp -implicitDefEqProofs only [go_sem]
  · exact ⟨h0, Nat.zero_le _, rfl⟩
  clear h0
  rintro i r G' hv ⟨hI, hi, hE⟩
  have h0 := hv.1
  have h1 := hv.2.1
  have h5 := hv.2.2.1
  clear hv
  by_cases g : i < p.length
  rotate_left
  · have y0 : decide ((i : Int) < p.length) = false := decide_eq_false (by omega)
    obtain rfl : i = p.length := by omega
    simp -implicitDefEqProofs only [go_sem, h0, h1, h5, y0]
    exact Done.now (.inr ⟨rfl, hE, hI⟩)
  have y0 : decide ((i : Int) < p.length) = true := decide_eq_true (by omega)
  obtain ⟨c, hc⟩ : ∃ c, p[i]? = some c := getD_get' g
  have ws : IntKind.i64.wrap ((i : Int) + 1) = ((i + 1 : Nat) : Int) := by rw [Go.IntWalk.i64_in _ (by omega)]; omega
  have e47 := @u8_eq c 47 (by decide)
  by_cases c1 : c = 47
  rotate_left
  · have y1 : decide ((c.toNat : Int) = 47) = false := decide_eq_false (fun e => c1 (e47.1 e))
    have hn : ¬ p[i]? = some 47 := by rw [hc]; simpa using c1
    simp -implicitDefEqProofs only [go_sem, h0, h1, h5, y0, hc, y1, ws]
    exact Again.mk (i + 1) (by simp -implicitDefEqProofs only [go_sem, h0, h1, h5]) ⟨hskip i G' g hn hI, by omega, by rw [dirsTo_no hn]; exact hE⟩ (by omega)
  have y1 : decide ((c.toNat : Int) = 47) = true := decide_eq_true (e47.2 c1)
  subst c1
  simp -implicitDefEqProofs only [go_sem, h0, h1, h5, y0, hc, y1, Int.toNat_natCast]
  refine ⟨by omega, ?_⟩
  refine (hcall i G' hc hI).mono ?_
  rintro x G2 ⟨rfl, hj, hi2⟩
  have hs : (dirsTo p (i + 1)).any stop = stop (p.take i) := by rw [dirsTo_yes hc, List.any_append, hE]; simp
  cases c2 : stop (p.take i) with
  | true =>
    rw [c2] at hs
    simp -implicitDefEqProofs only [go_sem, h0, h1, h5]
    exact Done.now (.inl ⟨rfl, by rw [← dirsTo_all]; exact dirsTo_mono hs _ (by omega), hj c2⟩)
  | false =>
    rw [c2] at hs
    simp -implicitDefEqProofs only [go_sem, h0, h1, h5, ws]
    exact Again.mk (i + 1) (by simp -implicitDefEqProofs only [go_sem, h0, h1, h5]) ⟨hi2 c2, by omega, hs⟩ (by omega)
/-- The program's machine of maps. -/
structure BW (H G : Heap) (ib i1 i2 i3 i4 : Nat) (fs : List (List AV)) (ta : Tail) (lf : List FileV) (ls : List SetV) (lv : List SvcV) (F : Bytes → Int) : Prop where
  sub : H.Sub G
  nn : H ib = none ∧ H i1 = none ∧ H i2 = none ∧ H i3 = none ∧ H i4 = none
  d : ¬ i1 = ib ∧ ¬ i2 = ib ∧ ¬ i3 = ib ∧ ¬ i4 = ib ∧ ¬ i1 = i2 ∧ ¬ i1 = i3 ∧ ¬ i1 = i4 ∧ ¬ i2 = i3 ∧ ¬ i2 = i4 ∧ ¬ i3 = i4
  b : G ib = some (.cells [.sl fs ta, .map i1, .map i2, .map i3, .map i4])
  f : ∃ es, G i1 = some (.map .str es) ∧ MapOf (·.path) (fun x => .agg (encFile x)) es lf
  c : ∃ es, G i2 = some (.map .str es) ∧ CountOK es F
  s : ∃ es, G i3 = some (.map .str es) ∧ MapOf (·.key) (fun x => .agg (encSet x)) es ls
  v : ∃ es, G i4 = some (.map .str es) ∧ MapOf (·.name) (fun x => .agg (encSvc x)) es lv
section
variable {H G : Heap} {ib i1 i2 i3 i4 : Nat} {fs : List (List AV)} {ta : Tail} {lf lf' : List FileV} {ls ls' : List SetV} {lv lv' : List SvcV} {F F' : Bytes → Int}
theorem BW.mono {G' : Heap} (h : BW H G ib i1 i2 i3 i4 fs ta lf ls lv F) (hs : G.Sub G') : BW H G' ib i1 i2 i3 i4 fs ta lf ls lv F := by
  obtain ⟨a, b, d, e, ⟨e1, h1, k1⟩, ⟨e2, h2, k2⟩, ⟨e3, h3, k3⟩, ⟨e4, h4, k4⟩⟩ := h
  exact ⟨fun i o hi => hs _ _ (a i o hi), b, d, hs _ _ e, ⟨e1, hs _ _ h1, k1⟩, ⟨e2, hs _ _ h2, k2⟩, ⟨e3, hs _ _ h3, k3⟩, ⟨e4, hs _ _ h4, k4⟩⟩
theorem BW.put {j : Nat} (h : BW H G ib i1 i2 i3 i4 fs ta lf ls lv F) (hj : G j = none) (o : AObj) : BW H (G.put j o) ib i1 i2 i3 i4 fs ta lf ls lv F := h.mono ((Heap.Sub.rfl' G).put' hj o)
theorem BW.eqF (h : BW H G ib i1 i2 i3 i4 fs ta lf ls lv F) (e : ∀ d, F d = F' d) : BW H G ib i1 i2 i3 i4 fs ta lf ls lv F' := by
  obtain ⟨a, b, d, e', f, ⟨e2, h2, k2⟩, s, v⟩ := h
  exact ⟨a, b, d, e', f, ⟨e2, h2, k2.eq e⟩, s, v⟩
theorem BW.setF (h : BW H G ib i1 i2 i3 i4 fs ta lf ls lv F) {es : List (Key × AV)} (hes : MapOf (·.path) (fun x => .agg (encFile x)) es lf') : BW H (G.put i1 (.map .str es)) ib i1 i2 i3 i4 fs ta lf' ls lv F := by
  obtain ⟨a, b, d, e, -, ⟨e2, h2, k2⟩, ⟨e3, h3, k3⟩, ⟨e4, h4, k4⟩⟩ := h
  exact ⟨a.put' b.2.1 _, b, d, by rw [put_ne _ _ _ _ (fun e => d.1 e.symm)]; exact e, ⟨es, put_same _ _ _, hes⟩, ⟨e2, by rw [put_ne _ _ _ _ (fun e => d.2.2.2.2.1 e.symm)]; exact h2, k2⟩, ⟨e3, by rw [put_ne _ _ _ _ (fun e => d.2.2.2.2.2.1 e.symm)]; exact h3, k3⟩, ⟨e4, by rw [put_ne _ _ _ _ (fun e => d.2.2.2.2.2.2.1 e.symm)]; exact h4, k4⟩⟩
theorem BW.setC (h : BW H G ib i1 i2 i3 i4 fs ta lf ls lv F) {es : List (Key × AV)} (hes : CountOK es F') : BW H (G.put i2 (.map .str es)) ib i1 i2 i3 i4 fs ta lf ls lv F' := by
  obtain ⟨a, b, d, e, ⟨e1, h1, k1⟩, -, ⟨e3, h3, k3⟩, ⟨e4, h4, k4⟩⟩ := h
  exact ⟨a.put' b.2.2.1 _, b, d, by rw [put_ne _ _ _ _ (fun e => d.2.1 e.symm)]; exact e, ⟨e1, by rw [put_ne _ _ _ _ d.2.2.2.2.1]; exact h1, k1⟩, ⟨es, put_same _ _ _, hes⟩, ⟨e3, by rw [put_ne _ _ _ _ (fun e => d.2.2.2.2.2.2.2.1 e.symm)]; exact h3, k3⟩, ⟨e4, by rw [put_ne _ _ _ _ (fun e => d.2.2.2.2.2.2.2.2.1 e.symm)]; exact h4, k4⟩⟩
theorem BW.setS (h : BW H G ib i1 i2 i3 i4 fs ta lf ls lv F) {es : List (Key × AV)} (hes : MapOf (·.key) (fun x => .agg (encSet x)) es ls') : BW H (G.put i3 (.map .str es)) ib i1 i2 i3 i4 fs ta lf ls' lv F := by
  obtain ⟨a, b, d, e, ⟨e1, h1, k1⟩, ⟨e2, h2, k2⟩, -, ⟨e4, h4, k4⟩⟩ := h
  exact ⟨a.put' b.2.2.2.1 _, b, d, by rw [put_ne _ _ _ _ (fun e => d.2.2.1 e.symm)]; exact e, ⟨e1, by rw [put_ne _ _ _ _ d.2.2.2.2.2.1]; exact h1, k1⟩, ⟨e2, by rw [put_ne _ _ _ _ d.2.2.2.2.2.2.2.1]; exact h2, k2⟩, ⟨es, put_same _ _ _, hes⟩, ⟨e4, by rw [put_ne _ _ _ _ (fun e => d.2.2.2.2.2.2.2.2.2 e.symm)]; exact h4, k4⟩⟩
theorem BW.setV (h : BW H G ib i1 i2 i3 i4 fs ta lf ls lv F) {es : List (Key × AV)} (hes : MapOf (·.name) (fun x => .agg (encSvc x)) es lv') : BW H (G.put i4 (.map .str es)) ib i1 i2 i3 i4 fs ta lf ls lv' F := by
  obtain ⟨a, b, d, e, ⟨e1, h1, k1⟩, ⟨e2, h2, k2⟩, ⟨e3, h3, k3⟩, -⟩ := h
  exact ⟨a.put' b.2.2.2.2 _, b, d, by rw [put_ne _ _ _ _ (fun e => d.2.2.2.1 e.symm)]; exact e, ⟨e1, by rw [put_ne _ _ _ _ d.2.2.2.2.2.2.1]; exact h1, k1⟩, ⟨e2, by rw [put_ne _ _ _ _ d.2.2.2.2.2.2.2.2.1]; exact h2, k2⟩, ⟨e3, by rw [put_ne _ _ _ _ d.2.2.2.2.2.2.2.2.2]; exact h3, k3⟩, ⟨es, put_same _ _ _, hes⟩⟩
end
/-- All but these objects stay. -/
def Fr (G G' : Heap) (S : List Nat) : Prop := ∀ i o, G i = some o → i ∉ S → G' i = some o
theorem Fr.rfl' (G : Heap) (S : List Nat) : Fr G G S := fun _ _ h _ => h
theorem Fr.trans {G1 G2 G3 : Heap} {S : List Nat} (h1 : Fr G1 G2 S) (h2 : Fr G2 G3 S) : Fr G1 G3 S := fun i o hi hs => h2 i o (h1 i o hi hs) hs
theorem Fr.new {G : Heap} {j : Nat} (hj : G j = none) (o : AObj) (S : List Nat) : Fr G (G.put j o) S := fun i p hi _ => by rw [put_ne _ _ _ _ (obj_ne hi hj)]; exact hi
theorem Fr.set (G : Heap) {j : Nat} (o : AObj) {S : List Nat} (hj : j ∈ S) : Fr G (G.put j o) S := fun i p hi hs => by
  have : ¬ i = j := fun e => hs (by rw [e]; exact hj)
  rw [put_ne _ _ _ _ this]; exact hi
theorem Fr.wide {G G' : Heap} {S T : List Nat} (h : Fr G G' S) (hs : ∀ i ∈ S, i ∈ T) : Fr G G' T := fun i o hi ht => h i o hi fun h => ht (hs i h)
theorem count1_calls {H G : Heap} {ib i1 i2 i3 i4 c1 c2 : Nat} {fs : List (List AV)} {ta : Tail} {lf : List FileV} {ls : List SetV} {lv : List SvcV} {F : Bytes → Int} (n : Int) (d : Bytes)
    (hB : BW H G ib i1 i2 i3 i4 fs ta lf ls lv F) (h1 : G c1 = some (.cells [.ptr ib 0])) (h2 : G c2 = some (.cells [.int .i64 n])) (hw : -1000000 ≤ F d + n ∧ F d + n ≤ 1000000) :
    ACalls Tryz.prog 173 [.str d, .ptr c1 0, .ptr c2 0] G fun x G' => x = .bool true ∧ BW H G' ib i1 i2 i3 i4 fs ta lf ls lv (fun x => if d = x then F d + n else F x) ∧ Fr G G' [i2] := by
  have gb := hB.b
  obtain ⟨es, g2, k2⟩ := hB.c
  have hg := k2 d
  have w := Go.IntWalk.i64_in (F d + n) (by omega)
  refine ACalls.of_code (X := { pure := pu0 }) pu0_ok Tryz.func173 (by kernel_rfl) rfl (by kernel_rfl) (Nat.le_of_ble_eq_true rfl) ?_
  simp -implicitDefEqProofs only [go_sem, Tryz.f173, h1, h2, gb, g2, hg, w]
  exact Done.now ⟨rfl, hB.setC (k2.set d _), Fr.set _ _ (by simp)⟩
theorem countB_calls {H G : Heap} {ib i1 i2 i3 i4 : Nat} {fs : List (List AV)} {ta : Tail} {lf : List FileV} {ls : List SetV} {lv : List SvcV} {F : Bytes → Int} (n : Int) (p : Bytes)
    (hB : BW H G ib i1 i2 i3 i4 fs ta lf ls lv F) (hp : p.length ≤ 1099511627776) (hw : ∀ d, -1000000 ≤ F d + n ∧ F d + n ≤ 1000000) :
    ACalls Tryz.prog 148 [.ptr ib 0, .str p, .int .i64 n] G fun x G' => x = .tup [] ∧ BW H G' ib i1 i2 i3 i4 fs ta lf ls lv (fun d => F d + if underB p d = true then n else 0) ∧ Fr G G' [i2] := by
  refine ACalls.of_code (X := { pure := pu0 }) pu0_ok Tryz.func148 (by kernel_rfl) rfl (by kernel_rfl) (Nat.le_of_ble_eq_true rfl) ?_
  simp -implicitDefEqProofs only [go_sem, Tryz.f148]
  with_reducible refine nwC_intro fun c1 hc1 => ?_
  have hB1 := hB.put hc1 (.cells [.ptr ib 0])
  have f1 := Fr.new hc1 (.cells [.ptr ib 0]) [i2]
  have g1 := put_same G c1 (.cells [.ptr ib 0])
  have d1 : ¬ c1 = i2 := fun e => by obtain ⟨es, h, -⟩ := hB.c; rw [e, h] at hc1; cases hc1
  simp -implicitDefEqProofs only [go_sem]
  generalize G.put c1 _ = G1 at *
  with_reducible refine nwC_intro fun c2 hc2 => ?_
  have hB2 := hB1.put hc2 (.cells [.int .i64 n])
  have f2 := Fr.new hc2 (.cells [.int .i64 n]) [i2]
  have g2 := put_same G1 c2 (.cells [.int .i64 n])
  have g12 : (G1.put c2 (.cells [.int .i64 n])) c1 = some (.cells [.ptr ib 0]) := by rw [put_ne _ _ _ _ (obj_ne g1 hc2)]; exact g1
  have d2 : ¬ c2 = i2 := fun e => by obtain ⟨es, h, -⟩ := hB1.c; rw [e, h] at hc2; cases hc2
  simp -implicitDefEqProofs only [go_sem]
  generalize G1.put c2 _ = G2 at *
  have hab := aboveG_calls (f := 173) (caps := [.ptr c1 0, .ptr c2 0]) p hp (fun _ => false)
    (fun i G' => BW H G' ib i1 i2 i3 i4 fs ta lf ls lv (cntTo F p n i) ∧ Fr G2 G' [i2]) (fun _ => True)
    (fun i G' hi hI => by
      have hlt := (List.getElem?_eq_some_iff.1 hi).1
      have hwn : -1000000 ≤ cntTo F p n i (p.take i) + n ∧ cntTo F p n i (p.take i) + n ≤ 1000000 := by
        unfold cntTo
        rw [if_neg (dirsTo_new hlt)]
        have := hw (p.take i)
        omega
      refine (count1_calls n (p.take i) hI.1 (hI.2 _ _ g12 (by simpa using d1)) (hI.2 _ _ g2 (by simpa using d2)) hwn).mono ?_
      rintro x G3 ⟨rfl, hb, hf⟩
      exact ⟨rfl, ⟨fun _ => trivial, fun _ => ⟨hb.eqF fun d => (cntTo_yes hi d).symm, hI.2.trans hf⟩⟩⟩)
    (fun i G' hi hn hI => ⟨hI.1.eqF fun d => (cntTo_no hn d).symm, hI.2⟩) G2 ⟨hB2.eqF fun d => (cntTo_zero F p n d).symm, Fr.rfl' _ _⟩
  refine hab.mono ?_
  rintro x G3 (⟨rfl, hany, -⟩ | ⟨rfl, -, hI⟩)
  · simp at hany
  simp -implicitDefEqProofs only [go_sem]
  exact Done.now ⟨rfl, hI.1.eqF fun d => cntTo_all F p n d, (f1.trans f2).trans hI.2⟩
end Go.Proofs

/- Walks: the program's bench: put, remove, conflict. -/
namespace Go.Proofs
open Go Go.Abs
set_option linter.unusedSimpArgs false
set_option linter.unusedVariables false
set_option maxRecDepth 20000
theorem missF_calls (im : Nat) (es : List (Key × AV)) (k : Bytes) (o : Option FileV) (H : Heap) (hm : H im = some (.map .str es)) (hg : mget es (.s k) = o.map fun x => .agg (encFile x)) :
    ACalls Tryz.prog 150 [.map im, .str k] H fun x H' => x = .bool o.isNone ∧ H' = H := by
  cases o with
  | none =>
    simp only [Option.map_none] at hg
    refine ACalls.of_code (X := { pure := pu0 }) pu0_ok Tryz.func150 (by kernel_rfl) rfl (by kernel_rfl) (Nat.le_of_ble_eq_true rfl) ?_
    simp -implicitDefEqProofs only [go_sem, Tryz.f150, hm, hg]
    with_reducible refine nwC_intro fun i5 hi5 => ?_
    simp -implicitDefEqProofs only [go_sem]
    exact Done.drop1 hi5 ⟨rfl, rfl⟩
  | some f =>
    simp only [Option.map_some, encFile] at hg
    refine ACalls.of_code (X := { pure := pu0 }) pu0_ok Tryz.func150 (by kernel_rfl) rfl (by kernel_rfl) (Nat.le_of_ble_eq_true rfl) ?_
    simp -implicitDefEqProofs only [go_sem, Tryz.f150, hm, hg]
    with_reducible refine nwC_intro fun i5 hi5 => ?_
    try simp -implicitDefEqProofs only [go_sem]
    exact Done.drop1 hi5 ⟨rfl, rfl⟩
theorem missS_calls (im : Nat) (es : List (Key × AV)) (k : Bytes) (o : Option SetV) (H : Heap) (hm : H im = some (.map .str es)) (hg : mget es (.s k) = o.map fun x => .agg (encSet x)) :
    ACalls Tryz.prog 151 [.map im, .str k] H fun x H' => x = .bool o.isNone ∧ H' = H := by
  cases o with
  | none =>
    simp only [Option.map_none] at hg
    refine ACalls.of_code (X := { pure := pu0 }) pu0_ok Tryz.func151 (by kernel_rfl) rfl (by kernel_rfl) (Nat.le_of_ble_eq_true rfl) ?_
    simp -implicitDefEqProofs only [go_sem, Tryz.f151, hm, hg]
    with_reducible refine nwC_intro fun i5 hi5 => ?_
    simp -implicitDefEqProofs only [go_sem]
    exact Done.drop1 hi5 ⟨rfl, rfl⟩
  | some f =>
    simp only [Option.map_some, encSet] at hg
    refine ACalls.of_code (X := { pure := pu0 }) pu0_ok Tryz.func151 (by kernel_rfl) rfl (by kernel_rfl) (Nat.le_of_ble_eq_true rfl) ?_
    simp -implicitDefEqProofs only [go_sem, Tryz.f151, hm, hg]
    with_reducible refine nwC_intro fun i5 hi5 => ?_
    try simp -implicitDefEqProofs only [go_sem]
    exact Done.drop1 hi5 ⟨rfl, rfl⟩
theorem missV_calls (im : Nat) (es : List (Key × AV)) (k : Bytes) (o : Option SvcV) (H : Heap) (hm : H im = some (.map .str es)) (hg : mget es (.s k) = o.map fun x => .agg (encSvc x)) :
    ACalls Tryz.prog 152 [.map im, .str k] H fun x H' => x = .bool o.isNone ∧ H' = H := by
  cases o with
  | none =>
    simp only [Option.map_none] at hg
    refine ACalls.of_code (X := { pure := pu0 }) pu0_ok Tryz.func152 (by kernel_rfl) rfl (by kernel_rfl) (Nat.le_of_ble_eq_true rfl) ?_
    simp -implicitDefEqProofs only [go_sem, Tryz.f152, hm, hg]
    with_reducible refine nwC_intro fun i5 hi5 => ?_
    simp -implicitDefEqProofs only [go_sem]
    exact Done.drop1 hi5 ⟨rfl, rfl⟩
  | some f =>
    simp only [Option.map_some, encSvc] at hg
    refine ACalls.of_code (X := { pure := pu0 }) pu0_ok Tryz.func152 (by kernel_rfl) rfl (by kernel_rfl) (Nat.le_of_ble_eq_true rfl) ?_
    simp -implicitDefEqProofs only [go_sem, Tryz.f152, hm, hg]
    with_reducible refine nwC_intro fun i5 hi5 => ?_
    try simp -implicitDefEqProofs only [go_sem]
    exact Done.drop1 hi5 ⟨rfl, rfl⟩
section
variable {H G : Heap} {ib i1 i2 i3 i4 : Nat} {fs : List (List AV)} {ta : Tail} {lf : List FileV} {ls : List SetV} {lv : List SvcV}
/-- The bench whose counts are right. -/
def BM (H G : Heap) (ib i1 i2 i3 i4 : Nat) (ta : Tail) (m : MacV) : Prop := BW H G ib i1 i2 i3 i4 (m.facts.map encSet) ta m.files m.sets m.svcs fun d => cntU m.files d
theorem put_calls (x : FileV) (hB : BW H G ib i1 i2 i3 i4 fs ta lf ls lv fun d => cntU lf d) (hx : fileR x) (hl : lf.length ≤ 100000) (ha : Asc (·.path) lf) :
    ACalls Tryz.prog 118 [.ptr ib 0, .agg (encFile x)] G fun y G' => y = .tup [] ∧ BW H G' ib i1 i2 i3 i4 fs ta (putK (·.path) x lf) ls lv (fun d => cntU (putK (·.path) x lf) d) ∧ Fr G G' [i1, i2] := by
  have hp := hx.1
  have hcp := fun d => cntU_put (x := x) ha d
  refine ACalls.of_code (X := { pure := pu0 }) pu0_ok Tryz.func118 (by kernel_rfl) rfl (by kernel_rfl) (Nat.le_of_ble_eq_true rfl) ?_
  simp -implicitDefEqProofs only [go_sem, Tryz.f118, encFile]
  with_reducible refine nwC_intro fun ic hic => ?_
  have hB1 := hB.put hic (.cells (encFile x))
  have f1 := Fr.new hic (.cells (encFile x)) [i1, i2]
  have gc := put_same G ic (.cells (encFile x))
  have dc1 : ¬ ic = i1 := fun e => by obtain ⟨es, h, -⟩ := hB.f; rw [e, h] at hic; cases hic
  have dc2 : ¬ ic = i2 := fun e => by obtain ⟨es, h, -⟩ := hB.c; rw [e, h] at hic; cases hic
  unfold encFile at hB1 f1 gc
  clear hic
  generalize G.put ic _ = G1 at *
  have kb := hB1.b
  obtain ⟨es, g1, m1⟩ := hB1.f
  have hg := m1.get x.path
  cases ho : getK (·.path) x.path lf with
  | some f =>
    rw [ho] at hg hcp
    simp only [Option.map_some] at hg
    have ef := encFile.eq_1 f
    rw [ef] at hg
    simp -implicitDefEqProofs only [go_sem, gc, kb, g1, hg]
    with_reducible refine nwC_intro fun i6 hi6 => ?_
    have hB2 := hB1.put hi6 (.cells [.str f.path, .str f.data, .bool f.runs])
    have f2 := f1.trans (Fr.new hi6 (.cells [.str f.path, .str f.data, .bool f.runs]) [i1, i2])
    have gc2 : (G1.put i6 (.cells [.str f.path, .str f.data, .bool f.runs])) ic = some (.cells [.str x.path, .str x.data, .bool x.runs]) := by rw [put_ne _ _ _ _ (obj_ne gc hi6)]; exact gc
    try simp -implicitDefEqProofs only [go_sem]
    generalize G1.put i6 _ = G2 at *
    have kb2 := hB2.b
    obtain ⟨es2, k1, mm⟩ := hB2.f
    try simp -implicitDefEqProofs only [go_sem, gc2, kb2, k1]
    refine Done.now ⟨rfl, ((hB2.setF (mm.set x)).eqF fun d => ?_), f2.trans (Fr.set _ _ (by simp))⟩
    rw [hcp d]; simp
  | none =>
    rw [ho] at hg hcp
    simp only [Option.map_none] at hg
    simp -implicitDefEqProofs only [go_sem, gc, kb, g1, hg]
    with_reducible refine nwC_intro fun i6 hi6 => ?_
    have hB2 := hB1.put hi6 (.cells [.str [], .str [], .bool false])
    have f2 := f1.trans (Fr.new hi6 (.cells [.str [], .str [], .bool false]) [i1, i2])
    have gc2 : (G1.put i6 (.cells [.str [], .str [], .bool false])) ic = some (.cells [.str x.path, .str x.data, .bool x.runs]) := by rw [put_ne _ _ _ _ (obj_ne gc hi6)]; exact gc
    try simp -implicitDefEqProofs only [go_sem, gc2]
    generalize G1.put i6 _ = G2 at *
    try simp -implicitDefEqProofs only [go_sem, gc2]
    refine (countB_calls 1 x.path hB2 hp fun d => ?_).mono ?_
    · have := cntU_le lf d
      omega
    rintro y G3 ⟨rfl, hB3, f3⟩
    have kb3 := hB3.b
    obtain ⟨es2, k1, mm⟩ := hB3.f
    have gc3 := f3 _ _ gc2 (by simpa using dc2)
    simp -implicitDefEqProofs only [go_sem, gc3, kb3, k1]
    refine Done.now ⟨rfl, ((hB3.setF (mm.set x)).eqF fun d => ?_), (f2.trans (f3.wide (by simp))).trans (Fr.set _ _ (by simp))⟩
    rw [hcp d]
    by_cases hu : underB x.path d = true <;> simp [hu]
theorem remove_calls (p : Bytes) (f : FileV) (hB : BW H G ib i1 i2 i3 i4 fs ta lf ls lv fun d => cntU lf d) (hp : p.length ≤ 1099511627776) (hl : lf.length ≤ 100000) (ha : Asc (·.path) lf) (hg : getK (·.path) p lf = some f) :
    ACalls Tryz.prog 121 [.ptr ib 0, .str p] G fun y G' => y = .tup [] ∧ BW H G' ib i1 i2 i3 i4 fs ta (delK (·.path) p lf) ls lv (fun d => cntU (delK (·.path) p lf) d) ∧ Fr G G' [i1, i2] := by
  have hcp := fun d => cntU_del ha hg d
  have kb := hB.b
  obtain ⟨es, g1, m1⟩ := hB.f
  refine ACalls.of_code (X := { pure := pu0 }) pu0_ok Tryz.func121 (by kernel_rfl) rfl (by kernel_rfl) (Nat.le_of_ble_eq_true rfl) ?_
  simp -implicitDefEqProofs only [go_sem, Tryz.f121, kb, g1]
  have hB2 := hB.setF (m1.del p)
  refine (countB_calls (-1) p hB2 hp fun d => ?_).mono ?_
  · have := cntU_le lf d
    omega
  rintro y G3 ⟨rfl, hB3, f3⟩
  simp -implicitDefEqProofs only [go_sem]
  refine Done.now ⟨rfl, hB3.eqF fun d => ?_, (Fr.set _ _ (by simp)).trans (f3.wide (by simp))⟩
  rw [hcp d]
  by_cases hu : underB p d = true <;> simp [hu] <;> omega
theorem conf1_calls (d : Bytes) (c1 : Nat) {F : Bytes → Int} (hB : BW H G ib i1 i2 i3 i4 fs ta lf ls lv F) (h1 : G c1 = some (.cells [.ptr ib 0])) :
    ACalls Tryz.prog 174 [.str d, .ptr c1 0] G fun x G' => x = .bool (getK (·.path) d lf).isNone ∧ G' = G := by
  have kb := hB.b
  obtain ⟨es, g1, m1⟩ := hB.f
  have hg := m1.get d
  cases ho : getK (·.path) d lf with
  | some f =>
    rw [ho] at hg
    simp only [Option.map_some, encFile] at hg
    refine ACalls.of_code (X := { pure := pu0 }) pu0_ok Tryz.func174 (by kernel_rfl) rfl (by kernel_rfl) (Nat.le_of_ble_eq_true rfl) ?_
    simp -implicitDefEqProofs only [go_sem, Tryz.f174, h1, kb, g1, hg]
    with_reducible refine nwC_intro fun i5 hi5 => ?_
    try simp -implicitDefEqProofs only [go_sem]
    exact Done.drop1 hi5 ⟨rfl, rfl⟩
  | none =>
    rw [ho] at hg
    simp only [Option.map_none] at hg
    refine ACalls.of_code (X := { pure := pu0 }) pu0_ok Tryz.func174 (by kernel_rfl) rfl (by kernel_rfl) (Nat.le_of_ble_eq_true rfl) ?_
    simp -implicitDefEqProofs only [go_sem, Tryz.f174, h1, kb, g1, hg]
    with_reducible refine nwC_intro fun i5 hi5 => ?_
    simp -implicitDefEqProofs only [go_sem]
    exact Done.drop1 hi5 ⟨rfl, rfl⟩
theorem conflict_or (l : List FileV) (p : Bytes) : conflictV l p = ((dirsB p).any (fun d => (getK (·.path) d l).isSome) || decide (0 < cntU l p)) := by
  rw [Bool.eq_iff_iff]
  unfold conflictV
  rw [Bool.or_eq_true, decide_eq_true_eq, cntU_pos, List.any_eq_true, List.any_eq_true, List.any_eq_true]
  constructor
  · rintro ⟨f, hf, h⟩
    rw [Bool.or_eq_true] at h
    rcases h with h | h
    · exact .inr ⟨f, hf, h⟩
    · refine .inl ⟨f.path, under_dirs.2 h, ?_⟩
      unfold getK
      rw [List.find?_isSome]
      exact ⟨f, hf, by simp⟩
  · rintro (⟨d, hd, h⟩ | ⟨f, hf, h⟩)
    · unfold getK at h
      rw [List.find?_isSome] at h
      obtain ⟨f, hf, e⟩ := h
      simp only [decide_eq_true_eq] at e
      refine ⟨f, hf, ?_⟩
      rw [e, under_dirs.1 hd]; simp
    · exact ⟨f, hf, by rw [h]; rfl⟩
theorem conflict_calls (p : Bytes) (hB : BW H G ib i1 i2 i3 i4 fs ta lf ls lv fun d => cntU lf d) (hp : p.length ≤ 1099511627776) :
    ACalls Tryz.prog 149 [.ptr ib 0, .str p] G fun x G' => x = .bool (conflictV lf p) ∧ G' = G := by
  rw [conflict_or]
  refine ACalls.of_code (X := { pure := pu0 }) pu0_ok Tryz.func149 (by kernel_rfl) rfl (by kernel_rfl) (Nat.le_of_ble_eq_true rfl) ?_
  simp -implicitDefEqProofs only [go_sem, Tryz.f149]
  with_reducible refine nwC_intro fun c1 hc1 => ?_
  have hB1 := hB.put hc1 (.cells [.ptr ib 0])
  have g1 := put_same G c1 (.cells [.ptr ib 0])
  simp -implicitDefEqProofs only [go_sem]
  have hab := aboveG_calls (f := 174) (caps := [.ptr c1 0]) p hp (fun d => (getK (·.path) d lf).isSome)
    (fun i G' => G' = G.put c1 (.cells [.ptr ib 0])) (fun G' => G' = G.put c1 (.cells [.ptr ib 0]))
    (fun i G' hi hI => by
      subst hI
      refine (conf1_calls (p.take i) c1 hB1 g1).mono ?_
      rintro x G3 ⟨rfl, rfl⟩
      exact ⟨by cases getK (·.path) (p.take i) lf <;> rfl, fun _ => rfl, fun _ => rfl⟩)
    (fun i G' hi hn hI => hI) _ rfl
  refine hab.mono ?_
  have kb := hB1.b
  obtain ⟨es, g2, m2⟩ := hB1.c
  have hg := m2 p
  rintro x G3 (⟨rfl, hany, rfl⟩ | ⟨rfl, hany, rfl⟩)
  · rw [hany]
    simp -implicitDefEqProofs only [go_sem]
    exact Done.drop1 hc1 ⟨rfl, rfl⟩
  · rw [hany]
    simp -implicitDefEqProofs only [go_sem, g1, kb, g2, hg]
    refine Done.drop1 hc1 ⟨?_, rfl⟩
    simp
end
end Go.Proofs

/- Walks: changes of a machine, on the reference's side. -/
namespace Go.Proofs
open Go Go.Abs
set_option linter.unusedSimpArgs false
set_option linter.unusedVariables false
set_option maxRecDepth 20000
theorem pathB_len {s : Bytes} (h : pathB s = true) : s.length ≤ 200 := by
  unfold pathB at h
  simp only [Bool.and_eq_true, decide_eq_true_eq] at h
  omega
theorem nameB_len {s : Bytes} (h : nameB s = true) : s.length ≤ 40 := by
  unfold nameB sEach at h
  simp only [Bool.and_eq_true, decide_eq_true_eq] at h
  omega
theorem valueB_len {s : Bytes} (h : valueB s = true) : s.length ≤ 1000 := by
  unfold valueB sEach at h
  simp only [Bool.or_eq_true, Bool.and_eq_true, decide_eq_true_eq] at h
  rcases h with rfl | h
  · simp
  · omega
theorem fileErr_ok {f : FileV} (h : fileErr f = 0) : pathB f.path = true ∧ f.data.length ≤ 65536 := by
  unfold fileErr at h
  split at h
  · cases h
  split at h
  · cases h
  · exact ⟨by simp_all, by omega⟩
theorem setErr_ok {f : SetV} (h : setErr f = 0) : pathB f.key = true ∧ valueB f.value = true := by
  unfold setErr at h
  split at h
  · cases h
  split at h
  · cases h
  · exact ⟨by simp_all, by simp_all⟩
theorem factErr_ok {f : SetV} (h : factErr f = 0) : nameB f.key = true ∧ valueB f.value = true := by
  unfold factErr at h
  split at h
  · cases h
  split at h
  · cases h
  · exact ⟨by simp_all, by simp_all⟩
theorem svcErr_ok {f : SvcV} (h : svcErr f = 0) : nameB f.name = true ∧ pathB f.path = true := by
  unfold svcErr at h
  split at h
  · cases h
  · exact ⟨by simp_all, by simp_all⟩
theorem MacOK.R {m : MacV} (h : MacOK m) : macR m := by
  refine ⟨⟨by have := h.l1; omega, by have := h.l2; omega, by have := h.l3; omega, by have := h.l4; omega⟩, fun x hx => ?_, fun x hx => ?_, fun x hx => ?_, fun x hx => ?_⟩
  · obtain ⟨a, b⟩ := factErr_ok (h.e1 x hx)
    have := nameB_len a; have := valueB_len b
    exact ⟨by omega, by omega⟩
  · obtain ⟨a, b⟩ := fileErr_ok (h.e2 x hx)
    have := pathB_len a
    exact ⟨by omega, by omega⟩
  · obtain ⟨a, b⟩ := setErr_ok (h.e3 x hx)
    have := pathB_len a; have := valueB_len b
    exact ⟨by omega, by omega⟩
  · obtain ⟨a, b⟩ := svcErr_ok (h.e4 x hx)
    have := nameB_len a; have := pathB_len b
    exact ⟨by omega, by omega⟩
/-- What Apply answers. -/
def applyA (r : Except Int MacV) : AV := match r with
  | .ok n => .tup [.agg (encMac n .unk .unk .unk .unk), .int .i64 0]
  | .error e => .tup [.agg (encMac .zero .unk .unk .unk .unk), .int .i64 e]
def ApQ (H : Heap) (iw i1 i2 i3 i4 : Nat) (ta : Tail) (d : Except Int MacV) (r : Regs) (G : Heap) : Prop := ∃ n, d = .ok n ∧ MacOK n ∧ RWM H G iw i1 i2 i3 ta n ∧ r 4 = .ptr i4 0 ∧ r 7 = .ptr iw 0
set_option maxHeartbeats 3200000 in
theorem rApply_calls (m : MacV) (l : List ChgV) (ta tb tc td t : Tail) (H : Heap) (hr : macR m) (hl : l.length ≤ 1099511627776) (hc : ∀ c ∈ l, chgR c) :
    ACalls Tryz.prog 50 [.agg (encMac m ta tb tc td), .sl (l.map encChg) t] H fun x H' => x = applyA (applyV m l) ∧ H' = H := by
  have hv := applyV.eq_1 m l
  generalize applyV m l = av at *
  have hS := Heap.Sub.rfl' H
  refine ACalls.of_code (X := { pure := pu0 }) pu0_ok Tryz.func50 (by kernel_rfl) rfl (by kernel_rfl) (Nat.le_of_ble_eq_true rfl) ?_
  simp -implicitDefEqProofs only [go_sem, Tryz.f50, encMac]
  with_reducible refine nwC_intro fun im him => ?_
  generalize Em : Heap.put H im _ = G1
  have hO_m := obj_new Em him hS
  have nm := hO_m.1
  have hS := hO_m.2.1
  have gm := hO_m.2.2.1
  clear hO_m
  simp -implicitDefEqProofs only [go_sem]
  with_reducible refine nwC_intro fun i4 hi4 => ?_
  generalize E4 : Heap.put G1 i4 _ = G2
  have hO_4 := obj_new E4 hi4 hS
  have n4 := hO_4.1
  have hS := hO_4.2.1
  have g4 := hO_4.2.2.1
  have dm_4 := obj_ne gm hi4
  have gm := hO_4.2.2.2 _ _ gm
  clear hO_4
  have hck := rCheck_calls m ta tb tc td G2 hr
  have hwo := fun h1 h2 h3 => worldOf_calls m ta tb tc td G2 hr h1 h2 h3
  unfold encMac at hck hwo
  have g40 := g4
  simp -implicitDefEqProofs only [go_sem, gm]
  refine hck.pure_next _ ?_
  by_cases c0 : macErr m = 0
  rotate_left
  · have y0 : decide (¬ macErr m = 0) = true := decide_eq_true c0
    rw [if_pos c0] at hv
    subst hv
    simp -implicitDefEqProofs only [go_sem, y0, g4]
    exact Done.wk 3 (Done.drop (hS.put' n4 _) ⟨rfl, rfl⟩)
  have y0 : decide (¬ macErr m = 0) = false := decide_eq_false (by simpa using c0)
  rw [if_neg (by simpa using c0)] at hv
  have hM := (macErr_ok m).1 c0
  simp -implicitDefEqProofs only [go_sem, y0, gm]
  refine (hwo hM.a2 hM.a3 hM.a4).mono ?_
  rintro x G3 ⟨iw, i1, i2, i3, rfl, hR⟩
  clear hck hwo
  simp -implicitDefEqProofs only [go_sem]
  with_reducible refine aloop_cut 0 (ApQ G2 iw i1 i2 i3 i4 ta av) ?_ ?_
  rotate_left
  · refine aloop_intro (σ := Nat × MacV) (fun s => [(4, .ptr i4 0), (7, .ptr iw 0), (19, .sl (l.map encChg) t), (20, .int .i64 l.length), (21, .int .i64 s.1)])
      (fun s G => s.1 ≤ l.length ∧ MacOK s.2 ∧ RWM G2 G iw i1 i2 i3 ta s.2 ∧ av = doAll s.2 (l.drop s.1)) (fun s => l.length - s.1) (0, m) ?_ ?_ ?_
    · simp -implicitDefEqProofs only [go_sem]
    · exact ⟨Nat.zero_le _, hM, hR, hv⟩
    clear hR hv hM
    rintro ⟨i, n⟩ r G hvv ⟨hi, hM, hR, hv⟩
    simp only at hi hM hR hv
    have e4 := hvv.1
    have e7 := hvv.2.1
    have ea := hvv.2.2.1
    have eb := hvv.2.2.2.1
    have ec := hvv.2.2.2.2.1
    simp only at ec
    clear hvv
    by_cases g : i < l.length
    rotate_left
    · have y0 : decide ((i : Int) < l.length) = false := decide_eq_false (by omega)
      obtain rfl : i = l.length := by omega
      rw [List.drop_length, doAll] at hv
      simp -implicitDefEqProofs only [go_sem, e4, e7, ea, eb, ec, y0]
      exact ⟨n, hv, hM, hR, by simp -implicitDefEqProofs only [go_sem, e4], by simp -implicitDefEqProofs only [go_sem, e7]⟩
    have y1 : decide ((i : Int) < l.length) = true := decide_eq_true (by omega)
    obtain ⟨c, hx⟩ : ∃ x, l[i]? = some x := getD_get' g
    have ws : IntKind.i64.wrap ((i : Int) + 1) = ((i + 1 : Nat) : Int) := by rw [Go.IntWalk.i64_in _ (by omega)]; omega
    have hU : ∀ (a : ChgV), a ∈ l → (encChg a).length = 10 := fun _ _ => rfl
    rw [drop_at hx, doAll] at hv
    have hcc := hc c (List.mem_of_getElem? hx)
    have ht : (encChg c).take 10 = encChg c := rfl
    simp -implicitDefEqProofs only [go_sem, e4, e7, ea, eb, ec, y1, hx]
    refine ⟨hU, Nat.le_refl _, ?_⟩
    rw [ht]
    simp only [encChg]
    with_reducible refine nwC_intro fun i5 hi5 => ?_
    simp -implicitDefEqProofs only [go_sem]
    have hR2 : RWM G2 (G.put i5 (.cells (encChg c))) iw i1 i2 i3 ta n := RW.put hR hi5 _
    have g5 := put_same G i5 (.cells (encChg c))
    unfold encChg at hR2 g5
    generalize G.put i5 _ = G6 at *
    have hdo := rDo_calls hR2 hM.R hcc
    unfold encChg at hdo
    simp -implicitDefEqProofs only [go_sem, e4, e7, ea, eb, ec, g5]
    refine hdo.mono ?_
    clear hdo
    intro x G7 hx7
    cases hd : doV n c with
    | error e =>
      rw [hd] at hx7 hv
      simp only at hv
      obtain ⟨rfl, hR7⟩ := hx7
      subst hv
      have he : ¬ e = 0 := doV_err hd
      have y2 : decide (¬ e = 0) = true := decide_eq_true he
      have g4 := hR7.sub _ _ g40
      simp -implicitDefEqProofs only [go_sem, e4, e7, ea, eb, ec, y2, g4]
      exact Done.wk 3 (Done.drop (Heap.Sub.put' (fun i o hi => hR7.sub _ _ (hS i o hi)) n4 _) ⟨rfl, rfl⟩)
    | ok n2 =>
      rw [hd] at hx7 hv
      simp only at hv
      obtain ⟨rfl, hR7⟩ := hx7
      have y2 : decide (¬ (0 : Int) = 0) = false := rfl
      simp -implicitDefEqProofs only [go_sem, e4, e7, ea, eb, ec, y2, ws]
      exact Again.mk (i + 1, n2) (by simp -implicitDefEqProofs only [go_sem, e4, e7, ea, eb, ec]) ⟨by simp only; omega, doV_ok hM hd, hR7, hv⟩ (by simp only; omega)
  clear hR
  rintro r G ⟨n, hv, hM, hR, e4, e7⟩
  subst hv
  obtain ⟨⟨q1, q2, q3, q4⟩, -, -, -, -⟩ := hM.R
  have hma := machine_calls hR q1 q2 q3 q4
  have g4 := hR.sub _ _ g40
  simp -implicitDefEqProofs only [go_sem, e4, e7]
  refine hma.pure_next _ ?_
  unfold encMac
  simp -implicitDefEqProofs only [go_sem, e4, e7, g4]
  refine Done.drop (Heap.Sub.put' (fun i o hi => hR.sub _ _ (hS i o hi)) n4 _) ⟨rfl, rfl⟩
end Go.Proofs

/- Walks: the program's bench: the error of a change, and the change. -/
namespace Go.Proofs
open Go Go.Abs
set_option linter.unusedSimpArgs false
set_option linter.unusedVariables false
set_option maxRecDepth 20000
def faultI (d : Except Int MacV) : Int := match d with
  | .ok _ => 0
  | .error e => e
theorem chg_kind {c : ChgV} (h : chgErr c = 0) : 1 ≤ c.kind ∧ c.kind ≤ 6 := by
  unfold chgErr at h
  split at h
  · cases h
  · omega
set_option maxHeartbeats 6400000 in
theorem fault_calls {H G : Heap} {ib i1 i2 i3 i4 : Nat} {ta : Tail} {m : MacV} {c : ChgV} (hB : BM H G ib i1 i2 i3 i4 ta m) (hr : macR m) (hc : chgR c) (h0 : chgErr c = 0) :
    ACalls Tryz.prog 120 [.ptr ib 0, .agg (encChg c)] G fun x G' => x = .int .i64 (faultI (doV m c)) ∧ G' = G := by
  obtain ⟨⟨l1, l2, l3, l4⟩, -⟩ := hr
  have hk := chg_kind h0
  have hb := hc.1.1
  have hv := doV.eq_1 m c
  rw [if_neg (by simp [h0])] at hv
  generalize doV m c = dv at *
  refine ACalls.of_code (X := { pure := pu0 }) pu0_ok Tryz.func120 (by kernel_rfl) rfl (by kernel_rfl) (Nat.le_of_ble_eq_true rfl) ?_
  simp -implicitDefEqProofs only [go_sem, Tryz.f120, encChg]
  with_reducible refine nwC_intro fun ic hic => ?_
  have hB1 := BW.put hB hic (.cells (encChg c))
  have gc := put_same G ic (.cells (encChg c))
  unfold encChg at hB1 gc
  have dr : ∀ e : Int, e = faultI dv → Done Tryz.prog (fun x G' => x = .int .i64 (faultI dv) ∧ G' = G) (.int .i64 e) (G.put ic (.cells [.int .i64 c.kind, .str c.file.path, .str c.file.data, .bool c.file.runs, .str c.set.key, .str c.set.value, .str c.svc.name, .str c.svc.path, .bool c.svc.auto, .bool c.svc.on])) := fun e he => Done.drop1 hic ⟨by rw [he], rfl⟩
  simp -implicitDefEqProofs only [go_sem]
  generalize G.put ic _ = G1 at *
  have kb := hB1.b
  obtain ⟨es1, g1, m1⟩ := hB1.f
  obtain ⟨es3, g3, m3⟩ := hB1.s
  obtain ⟨es4, g4, m4⟩ := hB1.v
  have n1 := m1.len
  have n3 := m3.len
  have n4 := m4.len
  have hcf := conflict_calls c.file.path hB1 hb
  have ms1 := missF_calls i1 es1 c.file.path _ G1 g1 (m1.get _)
  have ms3 := missS_calls i3 es3 c.set.key _ G1 g3 (m3.get _)
  have ms4 := missV_calls i4 es4 c.svc.name _ G1 g4 (m4.get _)
  have w1 : IntKind.i64.wrap ((m.files.length : Int) + 1) = m.files.length + 1 := by rw [Go.IntWalk.i64_in _ (by omega)]
  have w3 : IntKind.i64.wrap ((m.sets.length : Int) + 1) = m.sets.length + 1 := by rw [Go.IntWalk.i64_in _ (by omega)]
  have w4 : IntKind.i64.wrap ((m.svcs.length : Int) + 1) = m.svcs.length + 1 := by rw [Go.IntWalk.i64_in _ (by omega)]
  have z1 : decide ((1 : Int) < 0) = false := rfl
  by_cases k1 : c.kind = 1
  · have y1 : decide (c.kind = 1) = true := decide_eq_true k1
    rw [if_neg (by omega)] at hv
    rw [if_neg (by omega)] at hv
    rw [if_neg (by omega)] at hv
    rw [if_pos k1] at hv
    simp -implicitDefEqProofs only [go_sem, y1, gc, kb, g1]
    refine hcf.pure_next _ ?_
    cases hcv : conflictV m.files c.file.path with
    | true =>
      rw [if_pos hcv] at hv
      simp -implicitDefEqProofs only [go_sem]
      exact dr _ (by rw [hv]; rfl)
    | false =>
    rw [if_neg (by rw [hcv]; simp)] at hv
    simp -implicitDefEqProofs only [go_sem, y1, gc, kb, g1]
    refine ms1.pure_next _ ?_
    cases ho : getK (·.path) c.file.path m.files with
    | none =>
      rw [ho] at hv
      by_cases cl : 2000 ≤ m.files.length
      · rw [if_pos (by simp; omega)] at hv
        have yl : decide ((2000 : Int) < m.files.length + 1) = true := decide_eq_true (by omega)
        simp -implicitDefEqProofs only [go_sem, Option.isNone_none, y1, gc, kb, g1, n1, w1, yl]
        exact dr _ (by rw [hv]; rfl)
      · rw [if_neg (by simp; omega)] at hv
        have yl : decide ((2000 : Int) < m.files.length + 1) = false := decide_eq_false (by omega)
        simp -implicitDefEqProofs only [go_sem, Option.isNone_none, y1, gc, kb, g1, n1, w1, yl]
        exact dr _ (by rw [hv]; rfl)
    | some f =>
      rw [ho, if_neg (by simp)] at hv
      simp -implicitDefEqProofs only [go_sem, Option.isNone_some, z1]
      exact dr _ (by rw [hv]; rfl)
  have y1 : decide (c.kind = 1) = false := decide_eq_false k1
  by_cases k2 : c.kind = 2
  · have y2 : decide (c.kind = 2) = true := decide_eq_true k2
    rw [if_pos k2] at hv
    simp -implicitDefEqProofs only [go_sem, y1, y2, gc, kb, g1]
    refine ms1.pure_next _ ?_
    cases ho : getK (·.path) c.file.path m.files with
    | none =>
      rw [ho, if_neg (by simp)] at hv
      simp -implicitDefEqProofs only [go_sem, Option.isNone_none, z1]
      exact dr _ (by rw [hv]; rfl)
    | some f =>
      rw [ho, if_pos (by simp)] at hv
      simp -implicitDefEqProofs only [go_sem, Option.isNone_some, z1]
      exact dr _ (by rw [hv]; rfl)
  have y2 : decide (c.kind = 2) = false := decide_eq_false k2
  by_cases k3 : c.kind = 3
  · have y3 : decide (c.kind = 3) = true := decide_eq_true k3
    rw [if_neg (by omega)] at hv
    rw [if_neg (by omega)] at hv
    rw [if_neg (by omega)] at hv
    rw [if_neg (by omega)] at hv
    rw [if_pos k3] at hv
    simp -implicitDefEqProofs only [go_sem, y1, y2, y3, gc, kb, g3]
    refine ms3.pure_next _ ?_
    cases ho : getK (·.key) c.set.key m.sets with
    | none =>
      rw [ho] at hv
      by_cases cl : 2000 ≤ m.sets.length
      · rw [if_pos (by simp; omega)] at hv
        have yl : decide ((2000 : Int) < m.sets.length + 1) = true := decide_eq_true (by omega)
        simp -implicitDefEqProofs only [go_sem, Option.isNone_none, y1, y2, y3, gc, kb, g3, n3, w3, yl]
        exact dr _ (by rw [hv]; rfl)
      · rw [if_neg (by simp; omega)] at hv
        have yl : decide ((2000 : Int) < m.sets.length + 1) = false := decide_eq_false (by omega)
        simp -implicitDefEqProofs only [go_sem, Option.isNone_none, y1, y2, y3, gc, kb, g3, n3, w3, yl]
        exact dr _ (by rw [hv]; rfl)
    | some f =>
      rw [ho, if_neg (by simp)] at hv
      simp -implicitDefEqProofs only [go_sem, Option.isNone_some, z1]
      exact dr _ (by rw [hv]; rfl)
  have y3 : decide (c.kind = 3) = false := decide_eq_false k3
  by_cases k4 : c.kind = 4
  · have y4 : decide (c.kind = 4) = true := decide_eq_true k4
    rw [if_neg (by omega)] at hv
    rw [if_pos k4] at hv
    simp -implicitDefEqProofs only [go_sem, y1, y2, y3, y4, gc, kb, g3]
    refine ms3.pure_next _ ?_
    cases ho : getK (·.key) c.set.key m.sets with
    | none =>
      rw [ho, if_neg (by simp)] at hv
      simp -implicitDefEqProofs only [go_sem, Option.isNone_none, z1]
      exact dr _ (by rw [hv]; rfl)
    | some f =>
      rw [ho, if_pos (by simp)] at hv
      simp -implicitDefEqProofs only [go_sem, Option.isNone_some, z1]
      exact dr _ (by rw [hv]; rfl)
  have y4 : decide (c.kind = 4) = false := decide_eq_false k4
  by_cases k5 : c.kind = 5
  · have y5 : decide (c.kind = 5) = true := decide_eq_true k5
    rw [if_neg (by omega)] at hv
    rw [if_neg (by omega)] at hv
    rw [if_neg (by omega)] at hv
    rw [if_neg (by omega)] at hv
    rw [if_neg (by omega)] at hv
    simp -implicitDefEqProofs only [go_sem, y1, y2, y3, y4, y5, gc, kb, g4]
    refine ms4.pure_next _ ?_
    cases ho : getK (·.name) c.svc.name m.svcs with
    | none =>
      rw [ho] at hv
      by_cases cl : 100 ≤ m.svcs.length
      · rw [if_pos (by simp; omega)] at hv
        have yl : decide ((100 : Int) < m.svcs.length + 1) = true := decide_eq_true (by omega)
        simp -implicitDefEqProofs only [go_sem, Option.isNone_none, y1, y2, y3, y4, y5, gc, kb, g4, n4, w4, yl]
        exact dr _ (by rw [hv]; rfl)
      · rw [if_neg (by simp; omega)] at hv
        have yl : decide ((100 : Int) < m.svcs.length + 1) = false := decide_eq_false (by omega)
        simp -implicitDefEqProofs only [go_sem, Option.isNone_none, y1, y2, y3, y4, y5, gc, kb, g4, n4, w4, yl]
        exact dr _ (by rw [hv]; rfl)
    | some f =>
      rw [ho, if_neg (by simp)] at hv
      simp -implicitDefEqProofs only [go_sem, Option.isNone_some, z1]
      exact dr _ (by rw [hv]; rfl)
  have y5 : decide (c.kind = 5) = false := decide_eq_false k5
  have k6 : c.kind = 6 := by omega
  have y6 : decide (c.kind = 6) = true := decide_eq_true k6
  rw [if_neg (by omega)] at hv
  rw [if_neg (by omega)] at hv
  rw [if_pos k6] at hv
  simp -implicitDefEqProofs only [go_sem, y1, y2, y3, y4, y5, y6, gc, kb, g4]
  refine ms4.pure_next _ ?_
  cases ho : getK (·.name) c.svc.name m.svcs with
  | none =>
    rw [ho, if_neg (by simp)] at hv
    simp -implicitDefEqProofs only [go_sem, Option.isNone_none, z1]
    exact dr _ (by rw [hv]; rfl)
  | some f =>
    rw [ho, if_pos (by simp)] at hv
    simp -implicitDefEqProofs only [go_sem, Option.isNone_some, z1]
    exact dr _ (by rw [hv]; rfl)
def DoB (H G : Heap) (ib i1 i2 i3 i4 : Nat) (ta : Tail) (m : MacV) (d : Except Int MacV) (x : AV) (G' : Heap) : Prop := Fr G G' [i1, i2, i3, i4] ∧ match d with
  | .ok n => x = .int .i64 0 ∧ BM H G' ib i1 i2 i3 i4 ta n
  | .error e => x = .int .i64 e ∧ BM H G' ib i1 i2 i3 i4 ta m
set_option maxHeartbeats 6400000 in
theorem doB_calls {H G : Heap} {ib i1 i2 i3 i4 : Nat} {ta : Tail} {m : MacV} {c : ChgV} (hB : BM H G ib i1 i2 i3 i4 ta m) (hM : MacOK m) (hc : chgR c) :
    ACalls Tryz.prog 88 [.ptr ib 0, .agg (encChg c)] G (DoB H G ib i1 i2 i3 i4 ta m (doV m c)) := by
  have hr := hM.R
  have hl := hM.l2
  have hb := hc.1.1
  have hv := doV.eq_1 m c
  have hve := fun e (h : doV m c = .error e) => doV_err h
  have hfl := fun G (hB : BM H G ib i1 i2 i3 i4 ta m) h0 => fault_calls (c := c) hB hr hc h0
  generalize doV m c = dv at *
  refine ACalls.of_code (X := { pure := pu0 }) pu0_ok Tryz.func88 (by kernel_rfl) rfl (by kernel_rfl) (Nat.le_of_ble_eq_true rfl) ?_
  simp -implicitDefEqProofs only [go_sem, Tryz.f88, encChg]
  with_reducible refine nwC_intro fun ic hic => ?_
  have hB1 : BM H _ ib i1 i2 i3 i4 ta m := BW.put hB hic (.cells (encChg c))
  have gc := put_same G ic (.cells (encChg c))
  have f1 := Fr.new hic (.cells (encChg c)) [i1, i2, i3, i4]
  unfold encChg at hB1 gc f1
  simp -implicitDefEqProofs only [go_sem]
  generalize G.put ic _ = G1 at *
  have hce := checkChange_calls c G1 hc
  have hfl := hfl G1 hB1
  unfold encChg at hce hfl
  refine hce.pure_next _ ?_
  by_cases h0 : chgErr c = 0
  rotate_left
  · have y0 : decide (¬ chgErr c = 0) = true := decide_eq_true h0
    rw [if_pos h0] at hv
    subst hv
    simp -implicitDefEqProofs only [go_sem, y0]
    exact Done.now ⟨f1, rfl, hB1⟩
  have y0 : decide (¬ chgErr c = 0) = false := decide_eq_false (by simpa using h0)
  have hk := chg_kind h0
  rw [if_neg (by simp [h0])] at hv
  simp -implicitDefEqProofs only [go_sem, y0, gc]
  refine (hfl h0).pure_next _ ?_
  cases dv with
  | error e =>
    have y7 : decide (¬ e = 0) = true := decide_eq_true (hve e rfl)
    unfold faultI
    simp -implicitDefEqProofs only [go_sem, y7]
    exact Done.now ⟨f1, rfl, hB1⟩
  | ok n =>
  have y7 : decide (¬ (0 : Int) = 0) = false := rfl
  unfold faultI
  have kb := hB1.b
  obtain ⟨es1, g1, m1⟩ := hB1.f
  obtain ⟨es3, g3, m3⟩ := hB1.s
  obtain ⟨es4, g4, m4⟩ := hB1.v
  by_cases k1 : c.kind = 1
  · have y1 : decide (c.kind = 1) = true := decide_eq_true k1
    rw [if_neg (by omega)] at hv
    rw [if_neg (by omega)] at hv
    rw [if_neg (by omega)] at hv
    rw [if_pos k1] at hv
    split at hv
    · cases hv
    split at hv
    · cases hv
    cases hv
    have hpc := put_calls c.file hB1 hc.1 (by omega) hM.a2
    unfold encFile at hpc
    simp -implicitDefEqProofs only [go_sem, y7, y1, gc, kb, g1]
    refine hpc.mono ?_
    rintro x G3 ⟨rfl, hB3, f3⟩
    simp -implicitDefEqProofs only [go_sem]
    exact Done.now ⟨f1.trans (f3.wide (by simp)), rfl, hB3⟩
  have y1 : decide (c.kind = 1) = false := decide_eq_false k1
  by_cases k2 : c.kind = 2
  · have y2 : decide (c.kind = 2) = true := decide_eq_true k2
    rw [if_pos k2] at hv
    split at hv
    rotate_left
    · cases hv
    rename_i hgs
    cases hv
    obtain ⟨f, hgf⟩ := Option.isSome_iff_exists.1 hgs
    simp -implicitDefEqProofs only [go_sem, y7, y1, y2, gc, kb, g1]
    refine (remove_calls c.file.path f hB1 hb (by omega) hM.a2 hgf).mono ?_
    rintro x G3 ⟨rfl, hB3, f3⟩
    simp -implicitDefEqProofs only [go_sem]
    exact Done.now ⟨f1.trans (f3.wide (by simp)), rfl, hB3⟩
  have y2 : decide (c.kind = 2) = false := decide_eq_false k2
  by_cases k3 : c.kind = 3
  · have y3 : decide (c.kind = 3) = true := decide_eq_true k3
    rw [if_neg (by omega)] at hv
    rw [if_neg (by omega)] at hv
    rw [if_neg (by omega)] at hv
    rw [if_neg (by omega)] at hv
    rw [if_pos k3] at hv
    split at hv
    · cases hv
    cases hv
    simp -implicitDefEqProofs only [go_sem, y7, y1, y2, y3, gc, kb, g3]
    exact Done.now ⟨f1.trans (Fr.set _ _ (by simp)), rfl, BW.setS hB1 (m3.set c.set)⟩
  have y3 : decide (c.kind = 3) = false := decide_eq_false k3
  by_cases k4 : c.kind = 4
  · have y4 : decide (c.kind = 4) = true := decide_eq_true k4
    rw [if_neg (by omega)] at hv
    rw [if_pos k4] at hv
    split at hv
    rotate_left
    · cases hv
    rename_i hgs
    cases hv
    simp -implicitDefEqProofs only [go_sem, y7, y1, y2, y3, y4, gc, kb, g3]
    exact Done.now ⟨f1.trans (Fr.set _ _ (by simp)), rfl, BW.setS hB1 (m3.del _)⟩
  have y4 : decide (c.kind = 4) = false := decide_eq_false k4
  by_cases k5 : c.kind = 5
  · have y5 : decide (c.kind = 5) = true := decide_eq_true k5
    rw [if_neg (by omega)] at hv
    rw [if_neg (by omega)] at hv
    rw [if_neg (by omega)] at hv
    rw [if_neg (by omega)] at hv
    rw [if_neg (by omega)] at hv
    split at hv
    · cases hv
    cases hv
    simp -implicitDefEqProofs only [go_sem, y7, y1, y2, y3, y4, y5, gc, kb, g4]
    exact Done.now ⟨f1.trans (Fr.set _ _ (by simp)), rfl, BW.setV hB1 (m4.set c.svc)⟩
  have y5 : decide (c.kind = 5) = false := decide_eq_false k5
  have k6 : c.kind = 6 := by omega
  have y6 : decide (c.kind = 6) = true := decide_eq_true k6
  rw [if_neg (by omega)] at hv
  rw [if_neg (by omega)] at hv
  rw [if_pos k6] at hv
  split at hv
  rotate_left
  · cases hv
  rename_i hgs
  cases hv
  simp -implicitDefEqProofs only [go_sem, y7, y1, y2, y3, y4, y5, y6, gc, kb, g4]
  exact Done.now ⟨f1.trans (Fr.set _ _ (by simp)), rfl, BW.setV hB1 (m4.del _)⟩
end Go.Proofs

/- Walks: the program's bench: made of a machine, and a machine again. -/
namespace Go.Proofs
open Go Go.Abs
set_option linter.unusedSimpArgs false
set_option linter.unusedVariables false
set_option maxRecDepth 20000
/-- Behind a loop of benchOf. -/
def BenchQ (H : Heap) (ib i1 i2 i3 i4 im : Nat) (fs : List (List AV)) (lf : List FileV) (ls : List SetV) (lv : List SvcV) (cs : List AV) (r : Regs) (G : Heap) : Prop :=
  BW H G ib i1 i2 i3 i4 fs .unk lf ls lv (fun d => cntU lf d) ∧ G im = some (.cells cs) ∧ r 1 = .ptr im 0 ∧ r 3 = .ptr ib 0
set_option maxHeartbeats 6400000 in
theorem benchOf_calls (m : MacV) (ta tb tc td : Tail) (H : Heap) (hM : MacOK m) :
    ACalls Tryz.prog 86 [.agg (encMac m ta tb tc td)] H fun x H' => ∃ ib i1 i2 i3 i4, x = .ptr ib 0 ∧ BM H H' ib i1 i2 i3 i4 .unk m := by
  obtain ⟨⟨l1, l2, l3, l4⟩, r1, r2, r3, r4⟩ := hM.R
  have h1 := hM.a2
  have h2 := hM.a3
  have h3 := hM.a4
  have hl2 := hM.l2
  refine ACalls.of_code (X := { pure := pu0 }) pu0_ok Tryz.func86 (by kernel_rfl) rfl (by kernel_rfl) (Nat.le_of_ble_eq_true rfl) ?_
  simp -implicitDefEqProofs only [go_sem, Tryz.f86, encMac]
  have hS := Heap.Sub.rfl' H
  with_reducible refine nwC_intro fun im him => ?_
  generalize Em : Heap.put H im _ = G1
  have hO_m := obj_new Em him hS
  have nm := hO_m.1
  have hS := hO_m.2.1
  have gm := hO_m.2.2.1
  clear hO_m
  simp -implicitDefEqProofs only [go_sem, gm]
  refine (cloneSet_calls m.facts ta G1 l1).pure_next _ ?_
  simp -implicitDefEqProofs only [go_sem]
  with_reducible refine nwM_intro fun i1 hi1 => ?_
  generalize E1 : Heap.put G1 i1 _ = G2
  have hO_1 := obj_new E1 hi1 hS
  have n1 := hO_1.1
  have hS := hO_1.2.1
  have g1 := hO_1.2.2.1
  have dm_1 := obj_ne gm hi1
  have gm := hO_1.2.2.2 _ _ gm
  clear hO_1
  simp -implicitDefEqProofs only [go_sem]
  with_reducible refine nwM_intro fun i2 hi2 => ?_
  generalize E2 : Heap.put G2 i2 _ = G3
  have hO_2 := obj_new E2 hi2 hS
  have n2 := hO_2.1
  have hS := hO_2.2.1
  have g2 := hO_2.2.2.1
  have dm_2 := obj_ne gm hi2
  have gm := hO_2.2.2.2 _ _ gm
  have d1_2 := obj_ne g1 hi2
  have g1 := hO_2.2.2.2 _ _ g1
  clear hO_2
  simp -implicitDefEqProofs only [go_sem]
  with_reducible refine nwM_intro fun i3 hi3 => ?_
  generalize E3 : Heap.put G3 i3 _ = G4
  have hO_3 := obj_new E3 hi3 hS
  have n3 := hO_3.1
  have hS := hO_3.2.1
  have g3 := hO_3.2.2.1
  have dm_3 := obj_ne gm hi3
  have gm := hO_3.2.2.2 _ _ gm
  have d1_3 := obj_ne g1 hi3
  have g1 := hO_3.2.2.2 _ _ g1
  have d2_3 := obj_ne g2 hi3
  have g2 := hO_3.2.2.2 _ _ g2
  clear hO_3
  simp -implicitDefEqProofs only [go_sem]
  with_reducible refine nwM_intro fun i4 hi4 => ?_
  generalize E4 : Heap.put G4 i4 _ = G5
  have hO_4 := obj_new E4 hi4 hS
  have n4 := hO_4.1
  have hS := hO_4.2.1
  have g4 := hO_4.2.2.1
  have dm_4 := obj_ne gm hi4
  have gm := hO_4.2.2.2 _ _ gm
  have d1_4 := obj_ne g1 hi4
  have g1 := hO_4.2.2.2 _ _ g1
  have d2_4 := obj_ne g2 hi4
  have g2 := hO_4.2.2.2 _ _ g2
  have d3_4 := obj_ne g3 hi4
  have g3 := hO_4.2.2.2 _ _ g3
  clear hO_4
  simp -implicitDefEqProofs only [go_sem]
  with_reducible refine nwC_intro fun ib hib => ?_
  generalize Eb : Heap.put G5 ib _ = G6
  have hO_b := obj_new Eb hib hS
  have nb := hO_b.1
  have hS := hO_b.2.1
  have gb := hO_b.2.2.1
  have dm_b := obj_ne gm hib
  have gm := hO_b.2.2.2 _ _ gm
  have d1_b := obj_ne g1 hib
  have g1 := hO_b.2.2.2 _ _ g1
  have d2_b := obj_ne g2 hib
  have g2 := hO_b.2.2.2 _ _ g2
  have d3_b := obj_ne g3 hib
  have g3 := hO_b.2.2.2 _ _ g3
  have d4_b := obj_ne g4 hib
  have g4 := hO_b.2.2.2 _ _ g4
  clear hO_b
  have hB : BW H G6 ib i1 i2 i3 i4 (m.facts.map encSet) .unk [] [] [] (fun d => cntU [] d) :=
    ⟨hS, ⟨nb, n1, n2, n3, n4⟩, ⟨d1_b, d2_b, d3_b, d4_b, d1_2, d1_3, d1_4, d2_3, d2_4, d3_4⟩, gb, ⟨[], g1, MapOf.nil⟩, ⟨[], g2, CountOK.nil⟩, ⟨[], g3, MapOf.nil⟩, ⟨[], g4, MapOf.nil⟩⟩
  clear g1 g2 g3 g4 gb hS E1 E2 E3 E4 Em Eb
  simp -implicitDefEqProofs only [go_sem, gm]
  with_reducible refine aloop_cut 0 (BenchQ H ib i1 i2 i3 i4 im (m.facts.map encSet) m.files [] [] (encMac m ta tb tc td)) ?_ ?_
  rotate_left
  · refine aloop_intro (σ := Nat) (fun i => [(1, .ptr im 0), (3, .ptr ib 0), (20, .sl (m.files.map encFile) tb), (21, .int .i64 m.files.length), (22, .int .i64 i)])
      (fun i G => i ≤ m.files.length ∧ BW H G ib i1 i2 i3 i4 (m.facts.map encSet) .unk (m.files.take i) [] [] (fun d => cntU (m.files.take i) d) ∧ G im = some (.cells (encMac m ta tb tc td))) (fun i => m.files.length - i) 0 ?_ ?_ ?_
    · simp -implicitDefEqProofs only [go_sem]
    · exact ⟨Nat.zero_le _, hB, gm⟩
    clear hB
    rintro i r G hv ⟨hi, hB, gm⟩
    have e1 := hv.1
    have e3 := hv.2.1
    have ea := hv.2.2.1
    have eb := hv.2.2.2.1
    have ec := hv.2.2.2.2.1
    clear hv
    by_cases g : i < m.files.length
    rotate_left
    · have y0 : decide ((i : Int) < m.files.length) = false := decide_eq_false (by omega)
      obtain rfl : i = m.files.length := by omega
      rw [List.take_length] at hB
      simp -implicitDefEqProofs only [go_sem, e1, e3, ea, eb, ec, y0]
      exact ⟨hB, gm, by simp -implicitDefEqProofs only [go_sem, e1], by simp -implicitDefEqProofs only [go_sem, e3]⟩
    have y0 : decide ((i : Int) < m.files.length) = true := decide_eq_true (by omega)
    obtain ⟨x, hx⟩ : ∃ x, m.files[i]? = some x := getD_get' g
    have ws : IntKind.i64.wrap ((i : Int) + 1) = ((i + 1 : Nat) : Int) := by rw [Go.IntWalk.i64_in _ (by omega)]; omega
    have hU : ∀ (a : FileV), a ∈ m.files → (encFile a).length = 3 := fun _ _ => rfl
    have hput := putK_take h1 hx
    have hxm := List.mem_of_getElem? hx
    obtain ⟨p, d, ru⟩ := x
    simp -implicitDefEqProofs only [go_sem, e1, e3, ea, eb, ec, y0, hx]
    refine ⟨hU, Nat.le_refl _, ?_⟩
    simp only [encFile, List.take_succ_cons, List.take_zero, List.take_nil]
    with_reducible refine nwC_intro fun i5 hi5 => ?_
    simp -implicitDefEqProofs only [go_sem]
    have hB2 := hB.put hi5 (.cells [.str p, .str d, .bool ru])
    have gm2 : (G.put i5 (.cells [.str p, .str d, .bool ru])) im = some (.cells (encMac m ta tb tc td)) := by rw [put_ne _ _ _ _ (obj_ne gm hi5)]; exact gm
    have g5 := put_same G i5 (.cells [.str p, .str d, .bool ru])
    generalize G.put i5 (.cells [.str p, .str d, .bool ru]) = G7 at *
    have hpc := put_calls ⟨p, d, ru⟩ hB2 (r2 _ hxm) (by rw [List.length_take]; omega) (h1.take i)
    unfold encFile at hpc
    rw [hput] at hpc
    simp -implicitDefEqProofs only [go_sem, e1, e3, ea, eb, ec, g5]
    refine hpc.mono ?_
    rintro y G8 ⟨rfl, hB3, f3⟩
    have gm3 := f3 _ _ gm2 (by simp only [List.mem_cons, List.not_mem_nil, or_false, not_or]; exact ⟨dm_1, dm_2⟩)
    simp -implicitDefEqProofs only [go_sem, e1, e3, ea, eb, ec, ws]
    exact Again.mk (i + 1) (by simp -implicitDefEqProofs only [go_sem, e1, e3, ea, eb]) ⟨by omega, hB3, gm3⟩ (by omega)
  clear hB gm
  rintro r G ⟨hB, gm, e1, e3⟩
  simp -implicitDefEqProofs only [go_sem, e1, e3, gm, encMac]
  with_reducible refine aloop_cut 2 (BenchQ H ib i1 i2 i3 i4 im (m.facts.map encSet) m.files m.sets [] (encMac m ta tb tc td)) ?_ ?_
  rotate_left
  · refine aloop_intro (σ := Nat) (fun i => [(1, .ptr im 0), (3, .ptr ib 0), (31, .sl (m.sets.map encSet) tc), (32, .int .i64 m.sets.length), (33, .int .i64 i)])
      (fun i G => i ≤ m.sets.length ∧ BW H G ib i1 i2 i3 i4 (m.facts.map encSet) .unk m.files (m.sets.take i) [] (fun d => cntU m.files d) ∧ G im = some (.cells (encMac m ta tb tc td))) (fun i => m.sets.length - i) 0 ?_ ?_ ?_
    · simp -implicitDefEqProofs only [go_sem, e1, e3]
    · exact ⟨Nat.zero_le _, hB, gm⟩
    clear hB e1 e3
    rintro i r G hv ⟨hi, hB, gm⟩
    have e1 := hv.1
    have e3 := hv.2.1
    have ea := hv.2.2.1
    have eb := hv.2.2.2.1
    have ec := hv.2.2.2.2.1
    clear hv
    by_cases g : i < m.sets.length
    rotate_left
    · have y0 : decide ((i : Int) < m.sets.length) = false := decide_eq_false (by omega)
      obtain rfl : i = m.sets.length := by omega
      rw [List.take_length] at hB
      simp -implicitDefEqProofs only [go_sem, e1, e3, ea, eb, ec, y0]
      exact ⟨hB, gm, by simp -implicitDefEqProofs only [go_sem, e1], by simp -implicitDefEqProofs only [go_sem, e3]⟩
    have y0 : decide ((i : Int) < m.sets.length) = true := decide_eq_true (by omega)
    obtain ⟨x, hx⟩ : ∃ x, m.sets[i]? = some x := getD_get' g
    have ws : IntKind.i64.wrap ((i : Int) + 1) = ((i + 1 : Nat) : Int) := by rw [Go.IntWalk.i64_in _ (by omega)]; omega
    have hU : ∀ (a : SetV), a ∈ m.sets → (encSet a).length = 2 := fun _ _ => rfl
    have hput := putK_take h2 hx
    have hxm := List.mem_of_getElem? hx
    obtain ⟨p, d⟩ := x
    simp -implicitDefEqProofs only [go_sem, e1, e3, ea, eb, ec, y0, hx]
    refine ⟨hU, Nat.le_refl _, ?_⟩
    simp only [encSet, List.take_succ_cons, List.take_zero, List.take_nil]
    with_reducible refine nwC_intro fun i5 hi5 => ?_
    simp -implicitDefEqProofs only [go_sem]
    have hB2 := hB.put hi5 (.cells [.str p, .str d])
    have gm2 : (G.put i5 (.cells [.str p, .str d])) im = some (.cells (encMac m ta tb tc td)) := by rw [put_ne _ _ _ _ (obj_ne gm hi5)]; exact gm
    have g5 := put_same G i5 (.cells [.str p, .str d])
    generalize G.put i5 (.cells [.str p, .str d]) = G7 at *
    obtain ⟨es, k1, k2⟩ := hB2.s
    have kw := hB2.b
    simp -implicitDefEqProofs only [go_sem, e1, e3, ea, eb, ec, g5, kw, k1, ws]
    exact Again.mk (i + 1) (by simp -implicitDefEqProofs only [go_sem, e1, e3, ea, eb]) ⟨by omega, by rw [← hput]; exact hB2.setS (k2.set ⟨p, d⟩), by rw [put_ne _ _ _ _ dm_3]; exact gm2⟩ (by omega)
  clear hB gm e1 e3
  rintro r G ⟨hB, gm, e1, e3⟩
  simp -implicitDefEqProofs only [go_sem, e1, e3, gm, encMac]
  with_reducible refine aloop_cut 4 (BenchQ H ib i1 i2 i3 i4 im (m.facts.map encSet) m.files m.sets m.svcs (encMac m ta tb tc td)) ?_ ?_
  rotate_left
  · refine aloop_intro (σ := Nat) (fun i => [(1, .ptr im 0), (3, .ptr ib 0), (46, .sl (m.svcs.map encSvc) td), (47, .int .i64 m.svcs.length), (48, .int .i64 i)])
      (fun i G => i ≤ m.svcs.length ∧ BW H G ib i1 i2 i3 i4 (m.facts.map encSet) .unk m.files m.sets (m.svcs.take i) (fun d => cntU m.files d) ∧ G im = some (.cells (encMac m ta tb tc td))) (fun i => m.svcs.length - i) 0 ?_ ?_ ?_
    · simp -implicitDefEqProofs only [go_sem, e1, e3]
    · exact ⟨Nat.zero_le _, hB, gm⟩
    clear hB e1 e3
    rintro i r G hv ⟨hi, hB, gm⟩
    have e1 := hv.1
    have e3 := hv.2.1
    have ea := hv.2.2.1
    have eb := hv.2.2.2.1
    have ec := hv.2.2.2.2.1
    clear hv
    by_cases g : i < m.svcs.length
    rotate_left
    · have y0 : decide ((i : Int) < m.svcs.length) = false := decide_eq_false (by omega)
      obtain rfl : i = m.svcs.length := by omega
      rw [List.take_length] at hB
      simp -implicitDefEqProofs only [go_sem, e1, e3, ea, eb, ec, y0]
      exact ⟨hB, gm, by simp -implicitDefEqProofs only [go_sem, e1], by simp -implicitDefEqProofs only [go_sem, e3]⟩
    have y0 : decide ((i : Int) < m.svcs.length) = true := decide_eq_true (by omega)
    obtain ⟨x, hx⟩ : ∃ x, m.svcs[i]? = some x := getD_get' g
    have ws : IntKind.i64.wrap ((i : Int) + 1) = ((i + 1 : Nat) : Int) := by rw [Go.IntWalk.i64_in _ (by omega)]; omega
    have hU : ∀ (a : SvcV), a ∈ m.svcs → (encSvc a).length = 4 := fun _ _ => rfl
    have hput := putK_take h3 hx
    have hxm := List.mem_of_getElem? hx
    obtain ⟨p, d, au, on⟩ := x
    simp -implicitDefEqProofs only [go_sem, e1, e3, ea, eb, ec, y0, hx]
    refine ⟨hU, Nat.le_refl _, ?_⟩
    simp only [encSvc, List.take_succ_cons, List.take_zero, List.take_nil]
    with_reducible refine nwC_intro fun i5 hi5 => ?_
    simp -implicitDefEqProofs only [go_sem]
    have hB2 := hB.put hi5 (.cells [.str p, .str d, .bool au, .bool on])
    have gm2 : (G.put i5 (.cells [.str p, .str d, .bool au, .bool on])) im = some (.cells (encMac m ta tb tc td)) := by rw [put_ne _ _ _ _ (obj_ne gm hi5)]; exact gm
    have g5 := put_same G i5 (.cells [.str p, .str d, .bool au, .bool on])
    generalize G.put i5 (.cells [.str p, .str d, .bool au, .bool on]) = G7 at *
    obtain ⟨es, k1, k2⟩ := hB2.v
    have kw := hB2.b
    simp -implicitDefEqProofs only [go_sem, e1, e3, ea, eb, ec, g5, kw, k1, ws]
    exact Again.mk (i + 1) (by simp -implicitDefEqProofs only [go_sem, e1, e3, ea, eb]) ⟨by omega, by rw [← hput]; exact hB2.setV (k2.set ⟨p, d, au, on⟩), by rw [put_ne _ _ _ _ dm_4]; exact gm2⟩ (by omega)
  clear hB gm e1 e3
  rintro r G ⟨hB, gm, e1, e3⟩
  simp -implicitDefEqProofs only [go_sem, e1, e3, gm, encMac]
  exact Done.now ⟨ib, i1, i2, i3, i4, rfl, hB⟩
theorem keysOfF_calls (im : Nat) (H : Heap) : ACalls Tryz.prog 154 [.map im] H fun x H' => ∃ b, H b = none ∧ x = .func 176 [.ptr b 0] ∧ H' = H.put b (.cells [.map im]) := by
  refine ACalls.of_code (X := { pure := pu0 }) pu0_ok Tryz.func154 (by kernel_rfl) rfl (by kernel_rfl) (Nat.le_of_ble_eq_true rfl) ?_
  simp -implicitDefEqProofs only [go_sem, Tryz.f154]
  with_reducible refine nwC_intro fun b hb => ?_
  simp -implicitDefEqProofs only [go_sem]
  exact Done.now ⟨b, hb, rfl, rfl⟩
set_option maxHeartbeats 3200000 in
theorem inOrderF_calls (im : Nat) (es : List (Key × AV)) (l : List FileV) (H : Heap) (hm : H im = some (.map .str es)) (hes : MapOf (·.path) (fun x => .agg (encFile x)) es l) (hl : l.length ≤ 1000000) (hk : ∀ x ∈ l, x.path.length ≤ 1000000) :
    ACalls Tryz.prog 124 [.map im] H fun x H' => x = .sl (l.map encFile) .unk ∧ H' = H := by
  have hlen := hes.len
  refine ACalls.of_code (X := { pure := pu0 }) pu0_ok Tryz.func124 (by kernel_rfl) rfl (by kernel_rfl) (Nat.le_of_ble_eq_true rfl) ?_
  simp -implicitDefEqProofs only [go_sem, Tryz.f124]
  refine (keysOfF_calls im H).mono ?_
  rintro x G0 ⟨b, hb, rfl, rfl⟩
  have hm2 : (H.put b (.cells [.map im])) im = some (.map .str es) := by rw [put_ne _ _ _ _ (obj_ne hm hb)]; exact hm
  have hS := (Heap.Sub.rfl' H).put' hb (.cells [.map im])
  have gb := put_same H b (.cells [.map im])
  simp -implicitDefEqProofs only [go_sem]
  generalize H.put b (.cells [.map im]) = G1 at *
  refine (sortedFile_calls b im es G1 gb hm2 (fun e he => ?_) (by omega) hes.nodup).mono ?_
  · have := hes.keys.subset (List.mem_map_of_mem he)
    obtain ⟨x, hx, e2⟩ := List.mem_map.1 this
    have hkx := hk x hx
    rw [← e2]
    simp only [maxLen]
    omega
  rintro x G2 ⟨ss, hp, rfl, rfl⟩
  rw [hes.sorted hp]
  clear hp ss gb hb
  simp -implicitDefEqProofs only [go_sem]
  refine aloop_intro (σ := Nat × Tail) (fun s => [(0, .map im), (3, .sl ((l.take s.1).map encFile) s.2), (8, .sl ((l.map (·.path)).map fun s => [AV.str s]) .unk), (9, .int .i64 l.length), (10, .int .i64 s.1)])
    (fun s G => s.1 ≤ l.length ∧ AppOK H G 3 ((l.take s.1).map encFile) s.2 ∧ G im = some (.map .str es)) (fun s => l.length - s.1) (0, .exact) ?_ ?_ ?_
  · simp -implicitDefEqProofs only [go_sem, List.length_map, List.take_zero, List.map_nil]
  · exact ⟨Nat.zero_le _, AppOK.nil hS, hm2⟩
  clear hm2 hS
  rintro ⟨i, tl⟩ r G hv ⟨hi, hA, g1⟩
  simp only at hi hA
  have e0 := hv.1
  have e3 := hv.2.1
  have e8 := hv.2.2.1
  have e9 := hv.2.2.2.1
  have ec := hv.2.2.2.2.1
  simp only at e3 ec
  clear hv
  by_cases g : i < l.length
  rotate_left
  · have y0 : decide ((i : Int) < l.length) = false := decide_eq_false (by omega)
    obtain rfl : i = l.length := by omega
    rw [List.take_length] at e3
    simp -implicitDefEqProofs only [go_sem, e0, e3, e8, e9, ec, y0]
    exact Done.wk 1 (Done.drop hA.sub ⟨rfl, rfl⟩)
  have y0 : decide ((i : Int) < l.length) = true := decide_eq_true (by omega)
  obtain ⟨x, hx⟩ : ∃ x, l[i]? = some x := getD_get' g
  have ws : IntKind.i64.wrap ((i : Int) + 1) = ((i + 1 : Nat) : Int) := by rw [Go.IntWalk.i64_in _ (by omega)]; omega
  have hU : ∀ x ∈ l.map (·.path), ([AV.str x] : List AV).length = 1 := fun _ _ => rfl
  have hx2 : (l.map (·.path))[i]? = some x.path := by rw [List.getElem?_map, hx]; rfl
  have hg : mget es (.s x.path) = some (.agg (encFile x)) := by rw [hes.get, getK_at hes.1 hx]; rfl
  have hl3 : (encFile x).length = 3 := rfl
  simp -implicitDefEqProofs only [go_sem, e0, e3, e8, e9, ec, y0, hx2, hU, g1, hg, hl3]
  have hnew : (l.take i).map encFile ++ [encFile x] = (l.take (i + 1)).map encFile := by rw [List.take_add_one, hx]; simp
  refine AppOK.step hA (fun c hc => by obtain ⟨a, -, rfl⟩ := List.mem_map.1 hc; rfl) (by simp) (by simp; omega) (by simp; omega) fun tl' G' hA' hK => ?_
  rw [hnew] at hA' ⊢
  have g1' := hK.map g1
  simp -implicitDefEqProofs only [go_sem, e0, e3, e8, e9, ec, ws]
  exact Again.mk (i + 1, tl') (by simp -implicitDefEqProofs only [go_sem, e0, e3, e8, e9, ec]) ⟨by simp only; omega, hA', g1'⟩ (by simp only; omega)
theorem keysOfS_calls (im : Nat) (H : Heap) : ACalls Tryz.prog 155 [.map im] H fun x H' => ∃ b, H b = none ∧ x = .func 177 [.ptr b 0] ∧ H' = H.put b (.cells [.map im]) := by
  refine ACalls.of_code (X := { pure := pu0 }) pu0_ok Tryz.func155 (by kernel_rfl) rfl (by kernel_rfl) (Nat.le_of_ble_eq_true rfl) ?_
  simp -implicitDefEqProofs only [go_sem, Tryz.f155]
  with_reducible refine nwC_intro fun b hb => ?_
  simp -implicitDefEqProofs only [go_sem]
  exact Done.now ⟨b, hb, rfl, rfl⟩
set_option maxHeartbeats 3200000 in
theorem inOrderS_calls (im : Nat) (es : List (Key × AV)) (l : List SetV) (H : Heap) (hm : H im = some (.map .str es)) (hes : MapOf (·.key) (fun x => .agg (encSet x)) es l) (hl : l.length ≤ 1000000) (hk : ∀ x ∈ l, x.key.length ≤ 1000000) :
    ACalls Tryz.prog 125 [.map im] H fun x H' => x = .sl (l.map encSet) .unk ∧ H' = H := by
  have hlen := hes.len
  refine ACalls.of_code (X := { pure := pu0 }) pu0_ok Tryz.func125 (by kernel_rfl) rfl (by kernel_rfl) (Nat.le_of_ble_eq_true rfl) ?_
  simp -implicitDefEqProofs only [go_sem, Tryz.f125]
  refine (keysOfS_calls im H).mono ?_
  rintro x G0 ⟨b, hb, rfl, rfl⟩
  have hm2 : (H.put b (.cells [.map im])) im = some (.map .str es) := by rw [put_ne _ _ _ _ (obj_ne hm hb)]; exact hm
  have hS := (Heap.Sub.rfl' H).put' hb (.cells [.map im])
  have gb := put_same H b (.cells [.map im])
  simp -implicitDefEqProofs only [go_sem]
  generalize H.put b (.cells [.map im]) = G1 at *
  refine (sortedSetting_calls b im es G1 gb hm2 (fun e he => ?_) (by omega) hes.nodup).mono ?_
  · have := hes.keys.subset (List.mem_map_of_mem he)
    obtain ⟨x, hx, e2⟩ := List.mem_map.1 this
    have hkx := hk x hx
    rw [← e2]
    simp only [maxLen]
    omega
  rintro x G2 ⟨ss, hp, rfl, rfl⟩
  rw [hes.sorted hp]
  clear hp ss gb hb
  simp -implicitDefEqProofs only [go_sem]
  refine aloop_intro (σ := Nat × Tail) (fun s => [(0, .map im), (3, .sl ((l.take s.1).map encSet) s.2), (8, .sl ((l.map (·.key)).map fun s => [AV.str s]) .unk), (9, .int .i64 l.length), (10, .int .i64 s.1)])
    (fun s G => s.1 ≤ l.length ∧ AppOK H G 2 ((l.take s.1).map encSet) s.2 ∧ G im = some (.map .str es)) (fun s => l.length - s.1) (0, .exact) ?_ ?_ ?_
  · simp -implicitDefEqProofs only [go_sem, List.length_map, List.take_zero, List.map_nil]
  · exact ⟨Nat.zero_le _, AppOK.nil hS, hm2⟩
  clear hm2 hS
  rintro ⟨i, tl⟩ r G hv ⟨hi, hA, g1⟩
  simp only at hi hA
  have e0 := hv.1
  have e3 := hv.2.1
  have e8 := hv.2.2.1
  have e9 := hv.2.2.2.1
  have ec := hv.2.2.2.2.1
  simp only at e3 ec
  clear hv
  by_cases g : i < l.length
  rotate_left
  · have y0 : decide ((i : Int) < l.length) = false := decide_eq_false (by omega)
    obtain rfl : i = l.length := by omega
    rw [List.take_length] at e3
    simp -implicitDefEqProofs only [go_sem, e0, e3, e8, e9, ec, y0]
    exact Done.wk 1 (Done.drop hA.sub ⟨rfl, rfl⟩)
  have y0 : decide ((i : Int) < l.length) = true := decide_eq_true (by omega)
  obtain ⟨x, hx⟩ : ∃ x, l[i]? = some x := getD_get' g
  have ws : IntKind.i64.wrap ((i : Int) + 1) = ((i + 1 : Nat) : Int) := by rw [Go.IntWalk.i64_in _ (by omega)]; omega
  have hU : ∀ x ∈ l.map (·.key), ([AV.str x] : List AV).length = 1 := fun _ _ => rfl
  have hx2 : (l.map (·.key))[i]? = some x.key := by rw [List.getElem?_map, hx]; rfl
  have hg : mget es (.s x.key) = some (.agg (encSet x)) := by rw [hes.get, getK_at hes.1 hx]; rfl
  have hl3 : (encSet x).length = 2 := rfl
  simp -implicitDefEqProofs only [go_sem, e0, e3, e8, e9, ec, y0, hx2, hU, g1, hg, hl3]
  have hnew : (l.take i).map encSet ++ [encSet x] = (l.take (i + 1)).map encSet := by rw [List.take_add_one, hx]; simp
  refine AppOK.step hA (fun c hc => by obtain ⟨a, -, rfl⟩ := List.mem_map.1 hc; rfl) (by simp) (by simp; omega) (by simp; omega) fun tl' G' hA' hK => ?_
  rw [hnew] at hA' ⊢
  have g1' := hK.map g1
  simp -implicitDefEqProofs only [go_sem, e0, e3, e8, e9, ec, ws]
  exact Again.mk (i + 1, tl') (by simp -implicitDefEqProofs only [go_sem, e0, e3, e8, e9, ec]) ⟨by simp only; omega, hA', g1'⟩ (by simp only; omega)
theorem keysOfV_calls (im : Nat) (H : Heap) : ACalls Tryz.prog 156 [.map im] H fun x H' => ∃ b, H b = none ∧ x = .func 178 [.ptr b 0] ∧ H' = H.put b (.cells [.map im]) := by
  refine ACalls.of_code (X := { pure := pu0 }) pu0_ok Tryz.func156 (by kernel_rfl) rfl (by kernel_rfl) (Nat.le_of_ble_eq_true rfl) ?_
  simp -implicitDefEqProofs only [go_sem, Tryz.f156]
  with_reducible refine nwC_intro fun b hb => ?_
  simp -implicitDefEqProofs only [go_sem]
  exact Done.now ⟨b, hb, rfl, rfl⟩
set_option maxHeartbeats 3200000 in
theorem inOrderV_calls (im : Nat) (es : List (Key × AV)) (l : List SvcV) (H : Heap) (hm : H im = some (.map .str es)) (hes : MapOf (·.name) (fun x => .agg (encSvc x)) es l) (hl : l.length ≤ 1000000) (hk : ∀ x ∈ l, x.name.length ≤ 1000000) :
    ACalls Tryz.prog 126 [.map im] H fun x H' => x = .sl (l.map encSvc) .unk ∧ H' = H := by
  have hlen := hes.len
  refine ACalls.of_code (X := { pure := pu0 }) pu0_ok Tryz.func126 (by kernel_rfl) rfl (by kernel_rfl) (Nat.le_of_ble_eq_true rfl) ?_
  simp -implicitDefEqProofs only [go_sem, Tryz.f126]
  refine (keysOfV_calls im H).mono ?_
  rintro x G0 ⟨b, hb, rfl, rfl⟩
  have hm2 : (H.put b (.cells [.map im])) im = some (.map .str es) := by rw [put_ne _ _ _ _ (obj_ne hm hb)]; exact hm
  have hS := (Heap.Sub.rfl' H).put' hb (.cells [.map im])
  have gb := put_same H b (.cells [.map im])
  simp -implicitDefEqProofs only [go_sem]
  generalize H.put b (.cells [.map im]) = G1 at *
  refine (sortedService_calls b im es G1 gb hm2 (fun e he => ?_) (by omega) hes.nodup).mono ?_
  · have := hes.keys.subset (List.mem_map_of_mem he)
    obtain ⟨x, hx, e2⟩ := List.mem_map.1 this
    have hkx := hk x hx
    rw [← e2]
    simp only [maxLen]
    omega
  rintro x G2 ⟨ss, hp, rfl, rfl⟩
  rw [hes.sorted hp]
  clear hp ss gb hb
  simp -implicitDefEqProofs only [go_sem]
  refine aloop_intro (σ := Nat × Tail) (fun s => [(0, .map im), (3, .sl ((l.take s.1).map encSvc) s.2), (8, .sl ((l.map (·.name)).map fun s => [AV.str s]) .unk), (9, .int .i64 l.length), (10, .int .i64 s.1)])
    (fun s G => s.1 ≤ l.length ∧ AppOK H G 4 ((l.take s.1).map encSvc) s.2 ∧ G im = some (.map .str es)) (fun s => l.length - s.1) (0, .exact) ?_ ?_ ?_
  · simp -implicitDefEqProofs only [go_sem, List.length_map, List.take_zero, List.map_nil]
  · exact ⟨Nat.zero_le _, AppOK.nil hS, hm2⟩
  clear hm2 hS
  rintro ⟨i, tl⟩ r G hv ⟨hi, hA, g1⟩
  simp only at hi hA
  have e0 := hv.1
  have e3 := hv.2.1
  have e8 := hv.2.2.1
  have e9 := hv.2.2.2.1
  have ec := hv.2.2.2.2.1
  simp only at e3 ec
  clear hv
  by_cases g : i < l.length
  rotate_left
  · have y0 : decide ((i : Int) < l.length) = false := decide_eq_false (by omega)
    obtain rfl : i = l.length := by omega
    rw [List.take_length] at e3
    simp -implicitDefEqProofs only [go_sem, e0, e3, e8, e9, ec, y0]
    exact Done.wk 1 (Done.drop hA.sub ⟨rfl, rfl⟩)
  have y0 : decide ((i : Int) < l.length) = true := decide_eq_true (by omega)
  obtain ⟨x, hx⟩ : ∃ x, l[i]? = some x := getD_get' g
  have ws : IntKind.i64.wrap ((i : Int) + 1) = ((i + 1 : Nat) : Int) := by rw [Go.IntWalk.i64_in _ (by omega)]; omega
  have hU : ∀ x ∈ l.map (·.name), ([AV.str x] : List AV).length = 1 := fun _ _ => rfl
  have hx2 : (l.map (·.name))[i]? = some x.name := by rw [List.getElem?_map, hx]; rfl
  have hg : mget es (.s x.name) = some (.agg (encSvc x)) := by rw [hes.get, getK_at hes.1 hx]; rfl
  have hl3 : (encSvc x).length = 4 := rfl
  simp -implicitDefEqProofs only [go_sem, e0, e3, e8, e9, ec, y0, hx2, hU, g1, hg, hl3]
  have hnew : (l.take i).map encSvc ++ [encSvc x] = (l.take (i + 1)).map encSvc := by rw [List.take_add_one, hx]; simp
  refine AppOK.step hA (fun c hc => by obtain ⟨a, -, rfl⟩ := List.mem_map.1 hc; rfl) (by simp) (by simp; omega) (by simp; omega) fun tl' G' hA' hK => ?_
  rw [hnew] at hA' ⊢
  have g1' := hK.map g1
  simp -implicitDefEqProofs only [go_sem, e0, e3, e8, e9, ec, ws]
  exact Again.mk (i + 1, tl') (by simp -implicitDefEqProofs only [go_sem, e0, e3, e8, e9, ec]) ⟨by simp only; omega, hA', g1'⟩ (by simp only; omega)
end Go.Proofs

/- Walks: the program's machine, Apply. -/
namespace Go.Proofs
open Go Go.Abs
set_option linter.unusedSimpArgs false
set_option linter.unusedVariables false
set_option maxRecDepth 20000
def machOT : OT := .seg [0, 1, 2, 3, 5, 6, 7, 10, 11, 12, 15, 16, 17] (.or (.seg [4, 8] (.or (.seg [9, 13] (.or (.seg [14, 18, 19, 20, 21] .done) (.seg [18, 14, 19, 20, 21] .done))) (.or (.seg [13] (.or (.seg [9] (.or (.seg [14, 18, 19, 20, 21] .done) (.seg [18, 14, 19, 20, 21] .done))) (.seg [18, 9, 14, 19, 20, 21] .done))) (.seg [18] (.or (.seg [9, 13, 14, 19, 20, 21] .done) (.seg [13, 9, 14, 19, 20, 21] .done)))))) (.or (.seg [8] (.or (.seg [4] (.or (.seg [9, 13] (.or (.seg [14, 18, 19, 20, 21] .done) (.seg [18, 14, 19, 20, 21] .done))) (.or (.seg [13] (.or (.seg [9] (.or (.seg [14, 18, 19, 20, 21] .done) (.seg [18, 14, 19, 20, 21] .done))) (.seg [18, 9, 14, 19, 20, 21] .done))) (.seg [18] (.or (.seg [9, 13, 14, 19, 20, 21] .done) (.seg [13, 9, 14, 19, 20, 21] .done)))))) (.or (.seg [13] (.or (.seg [4] (.or (.seg [9] (.or (.seg [14, 18, 19, 20, 21] .done) (.seg [18, 14, 19, 20, 21] .done))) (.seg [18, 9, 14, 19, 20, 21] .done))) (.seg [18, 4, 9, 14, 19, 20, 21] .done))) (.seg [18] (.or (.seg [4] (.or (.seg [9, 13, 14, 19, 20, 21] .done) (.seg [13, 9, 14, 19, 20, 21] .done))) (.seg [13, 4, 9, 14, 19, 20, 21] .done)))))) (.or (.seg [13] (.or (.seg [4, 8] (.or (.seg [9] (.or (.seg [14, 18, 19, 20, 21] .done) (.seg [18, 14, 19, 20, 21] .done))) (.seg [18, 9, 14, 19, 20, 21] .done))) (.or (.seg [8] (.or (.seg [4] (.or (.seg [9] (.or (.seg [14, 18, 19, 20, 21] .done) (.seg [18, 14, 19, 20, 21] .done))) (.seg [18, 9, 14, 19, 20, 21] .done))) (.seg [18, 4, 9, 14, 19, 20, 21] .done))) (.seg [18] (.or (.seg [4, 8, 9, 14, 19, 20, 21] .done) (.seg [8, 4, 9, 14, 19, 20, 21] .done)))))) (.seg [18] (.or (.seg [4, 8] (.or (.seg [9, 13, 14, 19, 20, 21] .done) (.seg [13, 9, 14, 19, 20, 21] .done))) (.or (.seg [8] (.or (.seg [4] (.or (.seg [9, 13, 14, 19, 20, 21] .done) (.seg [13, 9, 14, 19, 20, 21] .done))) (.seg [13, 4, 9, 14, 19, 20, 21] .done))) (.seg [13] (.or (.seg [4, 8, 9, 14, 19, 20, 21] .done) (.seg [8, 4, 9, 14, 19, 20, 21] .done)))))))))
set_option maxHeartbeats 12800000 in
theorem machineB_calls {H H0 : Heap} {ib i1 i2 i3 i4 : Nat} {ta : Tail} {m : MacV} (hB : BM H H0 ib i1 i2 i3 i4 ta m) (hM : MacOK m) :
    ACalls Tryz.prog 91 [.ptr ib 0] H0 fun x H' => x = .agg (encMac m .unk .unk .unk .unk) ∧ H' = H0 := by
  obtain ⟨⟨l1, l2, l3, l4⟩, r1, r2, r3, r4⟩ := hM.R
  have q1 := hM.l2
  have q2 := hM.l3
  have q3 := hM.l4
  have hS := Heap.Sub.rfl' H0
  refine ACalls.of_code (X := { pure := pu0, tree := fun n => if n = 1 then some machOT else none }) pu0_ok Tryz.func91 (by kernel_rfl) rfl (by kernel_rfl) (Nat.le_of_ble_eq_true rfl) ?_
  simp -implicitDefEqProofs only [go_sem, Tryz.f91]
  with_reducible refine nwC_intro fun j0 hj0 => ?_
  generalize E0 : Heap.put H0 j0 _ = G0
  have hO_0 := obj_new E0 hj0 hS
  have n0 := hO_0.1
  have hS := hO_0.2.1
  have g0 := hO_0.2.2.1
  clear hO_0
  have hB1 := BW.mono hB (fun i o h => hS i o h)
  have kb := hB1.b
  obtain ⟨es1, g1, m1⟩ := hB1.f
  obtain ⟨es3, g3, m3⟩ := hB1.s
  obtain ⟨es4, g4, m4⟩ := hB1.v
  have c0 := cloneSet_calls m.facts ta G0 l1
  have c1 := inOrderF_calls i1 es1 m.files G0 g1 m1 (by omega) (fun x hx => by have := pathB_len (fileErr_ok (hM.e2 x hx)).1; omega)
  have c3 := inOrderS_calls i3 es3 m.sets G0 g3 m3 (by omega) (fun x hx => by have := pathB_len (setErr_ok (hM.e3 x hx)).1; omega)
  have c4 := inOrderV_calls i4 es4 m.svcs G0 g4 m4 (by omega) (fun x hx => by have := nameB_len (svcErr_ok (hM.e4 x hx)).1; omega)
  simp -implicitDefEqProofs only [go_sem]
  rw [acode_tree (t := machOT) rfl (by rfl)]
  simp -implicitDefEqProofs only [go_sem, machOT, stripO, kb]
  have fin : Done Tryz.prog (fun x H' => x = .agg (encMac m .unk .unk .unk .unk) ∧ H' = H0) (.agg [.sl (m.facts.map encSet) .unk, .sl (m.files.map encFile) .unk, .sl (m.sets.map encSet) .unk, .sl (m.svcs.map encSvc) .unk]) (G0.put j0 (.cells [.sl (m.facts.map encSet) .unk, .sl (m.files.map encFile) .unk, .sl (m.sets.map encSet) .unk, .sl (m.svcs.map encSvc) .unk])) := Done.drop (hS.put' n0 _) ⟨rfl, rfl⟩
  repeat' (first
    | exact fin
    | refine And.intro ?_ ?_
    | (refine c0.pure_next _ ?_; simp -implicitDefEqProofs only [go_sem, kb])
    | (refine c1.pure_next _ ?_; simp -implicitDefEqProofs only [go_sem, kb])
    | (refine c3.pure_next _ ?_; simp -implicitDefEqProofs only [go_sem, kb])
    | (refine c4.pure_next _ ?_; simp -implicitDefEqProofs only [go_sem, kb, g0]))
end Go.Proofs

/- Walks: Apply, on the program's side. -/
namespace Go.Proofs
open Go Go.Abs
set_option linter.unusedSimpArgs false
set_option linter.unusedVariables false
set_option maxRecDepth 20000
end Go.Proofs
