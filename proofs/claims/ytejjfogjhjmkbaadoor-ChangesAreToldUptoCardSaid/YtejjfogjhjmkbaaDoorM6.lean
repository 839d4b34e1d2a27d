/-
  Walks and plain laws, part 6.
-/
import Derived.Test.YtejjfogjhjmkbaaDoorM5
/- Walks: a sign is added to the automaton. -/
namespace Go.Proofs
open Go Go.Abs
set_option linter.unusedSimpArgs false
set_option linter.unusedVariables false
set_option maxRecDepth 20000
structure R1F (S : List Ste) (R : List Ste × Int) (c : UInt8) (e : Nat) : Prop where
  len : R.1.length = S.length + 1
  same : ∀ s, s < S.length → (gS R.1 s).link = (gS S s).link ∧ (gS R.1 s).long = (gS S s).long
  new : gS R.1 S.length = ⟨e, e, 0, []⟩
  at_ : 0 ≤ R.2 → ∃ (a q : Nat), R.2 = (a : Int) ∧ a < S.length ∧ q < S.length ∧ nxE (gS R.1 a).edges c = some q ∧ (gS S a).long < e
theorem ch1_facts {T : Bytes} {S : List Ste} {last : Nat} (h : AOk T S last) (c : UInt8) : R1F S (ch1 c S.length (T.length + 1 + 1) (S ++ [⟨T.length + 1, T.length + 1, 0, []⟩]) (last : Int)) c (T.length + 1) := by
  obtain ⟨⟨str, h, hsl⟩, hlast, _⟩ := h
  have hLlast : (ofL S).L last = T.length := by rw [← h.len last hlast, hsl]
  have hLle : ∀ s, s < S.length → str s <:+ T → (ofL S).L s ≤ T.length := fun s hs hT => by rw [← h.len s hs]; exact hT.length_le
  obtain ⟨X, hR, hx, hX, hp, hn⟩ := ch1_ok h (c := c) (x := ⟨T.length + 1, T.length + 1, 0, []⟩) (T.length + 1 + 1) (S ++ [⟨T.length + 1, T.length + 1, 0, []⟩]) (last : Int) (fun _ => False)
    ⟨by simp, fun s hs => by rw [gS_left hs]; exact ⟨rfl, rfl, rfl⟩, fun s _ _ => rfl, fun s _ hf => hf.elim, fun s d hs _ => by rw [gS_left hs]; rfl⟩ (gS_new _ _)
    (fun s => ⟨fun hf => hf.elim, fun hh => by
      have := hLle s hh.1 hh.2.1
      rcases hh.2.2 with h3 | h3
      · omega
      · rw [Int.toNat_natCast, hLlast] at h3; omega⟩) (fun s hf => hf.elim) (fun _ => ⟨by simpa using hlast, by rw [Int.toNat_natCast, hsl]; exact List.suffix_refl _, by rw [Int.toNat_natCast, hLlast]; omega⟩)
  generalize ch1 c S.length (T.length + 1 + 1) (S ++ [⟨T.length + 1, T.length + 1, 0, []⟩]) (last : Int) = r at *
  refine ⟨hR.len, fun s hs => ⟨(hR.same s hs).2.2, (hR.same s hs).1⟩, hx, fun h0 => ?_⟩
  obtain ⟨h1, h2, ⟨q, hq⟩, hmax⟩ := hp h0
  obtain ⟨a, ha⟩ : ∃ a : Nat, r.2 = a := ⟨r.2.toNat, by omega⟩
  rw [ha, Int.toNat_natCast] at h1 h2 hq
  have hnXa : ¬ X a := fun hh => by rw [((hX a).1 hh).2.2] at hq; cases hq
  have hl := hLle a h1 h2
  have hl2 : (ofL S).L a = (gS S a).long := rfl
  exact ⟨a, q, ha, h1, (h.esome a h1 c q hq).1, (hR.no a c h1 (fun hh => hnXa hh.2)).trans hq, by omega⟩
def AH0 (H G : Heap) (A : Nat) (S : List Ste) (last : Nat) : Prop := (∃ sid ev, AH H G A sid S last ev) ∨ (S = auto0 ∧ last = 0 ∧ H.Sub G ∧ H A = none ∧ G A = some (.cells [.sl [[.int .i64 0, .int .i64 0, .int .i64 (-1), .sl [] .exact]] .exact, .int .i64 0]))
def Mid1A (A : Nat) (c : UInt8) (e n : Nat) (r : Regs) : Prop := agrees r [(0, .ptr A 0), (1, .int .u8 (c.toNat : Int)), (2, .int .i64 (e : Int)), (6, .int .i64 (n : Int))]
def MidCut (H : Heap) (A sid : Nat) (c : UInt8) (e n : Nat) (last : Int) (R : List Ste × Int) (r : Regs) (G : Heap) : Prop := ∃ ev, AH H G A sid R.1 last ev ∧ ND R.1 ∧ agrees r [(0, .ptr A 0), (1, .int .u8 (c.toNat : Int)), (2, .int .i64 (e : Int)), (6, .int .i64 (n : Int)), (7, .int .i64 R.2)]
def Mid2Cut (H : Heap) (A sid n q : Nat) (Z : List Ste) (r : Regs) (G : Heap) : Prop := ∃ ev, AH H G A sid Z n ev ∧ ND Z ∧ Z.length = n + 2 ∧ agrees r [(0, .ptr A 0), (6, .int .i64 (n : Int)), (8, .int .i64 (q : Int)), (9, .int .i64 ((n + 1 : Nat) : Int))]
theorem AH.first {H G : Heap} {A : Nat} (hs : H.Sub G) (hA : H A = none) (hG : G A = some (.cells [.sl [[.int .i64 0, .int .i64 0, .int .i64 (-1), .sl [] .exact]] .exact, .int .i64 0])) {sid : Nat} (hid : G sid = none) (st : Ste) (hst : st.edges = []) :
    AH H ((G.put sid (.cells (cellsSt ⟨0, 0, -1, []⟩ (.sl [] .exact) ++ cellsSt st (.sl [] .exact)))).put A (.cells [.ms sid 0 2 4, .int .i64 0])) A sid (auto0 ++ [st]) 0 (fun _ => .sl [] .exact) := by
  have a1 : ¬ A = sid := fun e => by rw [← e, hG] at hid; cases hid
  refine ⟨(hs.put' (sub_none hs hid) _).put' hA _, hA, sub_none hs hid, a1, put_same _ _ _, ?_, fun s hs' => .inl ⟨rfl, ?_⟩, fun s e n _ he => (by cases he), fun s s' e n n' _ _ he => (by cases he)⟩
  · rw [put_ne _ _ _ _ (fun e => a1 e.symm), put_same]
    rfl
  · have : s = 0 ∨ s = 1 := by simp [auto0] at hs'; omega
    rcases this with rfl | rfl
    · rfl
    · exact hst
theorem repl_getD (n k : Nat) : (Array.replicate n false).getD k false = false := by
  rw [Array.getD_eq_getD_getElem?, Array.getElem?_replicate]
  split <;> rfl
theorem getD_tf {listed : Array Bool} {i : Nat} (hi : i < listed.size) (h : listed.getD i true = true) : listed.getD i false = true := by
  rw [Array.getD_eq_getD_getElem?, Array.getElem?_eq_getElem hi] at h ⊢
  exact h
/-- What an operation waits for is listed. -/
def Clo (ops : Array Oper) (listed : Array Bool) : Prop := ∀ i o, ops[i]? = some o → listed.getD i false = true → ∀ e ∈ o.after, Region.binds .any e = true → listed.getD e.on false = true
theorem aAny_clo {P : Program} {X : Steer} {ops : Array Oper} {K : Regs → Heap → Prop} (I : Array Bool → Regs → Heap → Prop) (hK : ∀ listed r H, Region.ready .any ops listed = [] → I listed r H → K r H)
    (hI : ∀ listed r H, Clo ops listed → I listed r H → ∀ i ∈ Region.ready .any ops listed, aopI P X ops i (fun r' H' => I (listed.setIfInBounds i true) r' H') r H) (hN : ∀ listed r H, I listed r H → listed.size = ops.size)
    (f : Nat) (r : Regs) (H : Heap) (h : I (Array.replicate f false) r H) : aAny P X ops f (Array.replicate f false) r H K := by
  refine aAny_inv (fun l r H => Clo ops l ∧ I l r H) (fun l r H h1 h2 => hK l r H h1 h2.2) (fun l r H h i hi => ?_) (fun l r H h => hN l r H h.2) _ _ _ _ (by simp) ⟨fun i o _ hl => ?_, h⟩
  · refine aopI_mono (fun r' H' hh => ⟨?_, hh⟩) (hI l r H h.1 h.2 i hi)
    obtain ⟨h1, h2, h3⟩ := ready_mem hi
    intro j o ho hl e he hb
    have hsz : i < l.size := by rw [hN l r H h.2]; exact h1
    rw [getD_setB hsz] at hl ⊢
    split
    · rfl
    · by_cases e1 : j = i
      · subst e1; exact h3 o ho e he hb
      · rw [if_neg e1] at hl
        exact h.1 j o ho hl e he hb
  · rw [repl_getD] at hl
    cases hl
set_option maxHeartbeats 25600000 in
theorem add_calls {T : Bytes} {H G : Heap} {A : Nat} {S : List Ste} {last : Nat} (inv : AOk T S last) (hT : T.length < 65536) (hN : ND S) (c : UInt8) (h0 : AH0 H G A S last) :
    ACalls Tryd.prog 34 [.ptr A 0, .int .u8 (c.toNat : Int), .int .i64 ((T.length + 1 : Nat) : Int)] G fun x G' => x = .tup [] ∧ AH0 H G' A (addL S last c (T.length + 1)) S.length ∧ ND (addL S last c (T.length + 1)) := by
  have hF := ch1_facts inv c
  have hadd := addL.eq_1 S last c (T.length + 1)
  try simp only at hadd
  have hSl := inv.le
  have hlast := inv.lt
  obtain ⟨hLk, hLong⟩ := inv.inv.choose_spec.1.lk
  clear inv
  generalize hR : ch1 c S.length (T.length + 1 + 1) (S ++ [⟨T.length + 1, T.length + 1, 0, []⟩]) (last : Int) = R at *
  refine ACalls.of_code (X := { pure := pu0, ms := fun t => decide (t = 25) || decide (t = 135) || decide (t = 138), tree := fun n => if n = 13 then some .any else none }) pu0_ok Tryd.func34 (by kernel_rfl) rfl (by kernel_rfl) (Nat.le_of_ble_eq_true rfl) ?_
  rw [acode_seq]
  with_reducible refine acode_mid (fun r G' => G' = G ∧ Mid1A A c (T.length + 1) S.length r) ?_ ?_
  rotate_left
  · rcases h0 with ⟨sid, ev, h⟩ | ⟨rfl, rfl, hs, hA, hG⟩
    · have hA := h.hA
      simp -implicitDefEqProofs only [go_sem, tys, regs0, Nat.reduceEqDiff, Nat.reduceAdd, Nat.reduceLeDiff, Nat.reduceLT, Nat.reduceMul, Int.natCast_one, Int.natCast_zero, Int.reduceEq, Int.reduceLT, Int.reduceLE, Int.reduceAdd, Int.reduceSub, Int.reduceToNat, UInt8.reduceToNat, hA]
      unfold Mid1A
      simp -implicitDefEqProofs only [go_sem, tys, regs0, Nat.reduceEqDiff, Nat.reduceAdd, Nat.reduceLeDiff, Nat.reduceLT, Nat.reduceMul, Int.natCast_one, Int.natCast_zero, Int.reduceEq, Int.reduceLT, Int.reduceLE, Int.reduceAdd, Int.reduceSub, Int.reduceToNat, UInt8.reduceToNat]
    · simp -implicitDefEqProofs only [go_sem, tys, regs0, Nat.reduceEqDiff, Nat.reduceAdd, Nat.reduceLeDiff, Nat.reduceLT, Nat.reduceMul, Int.natCast_one, Int.natCast_zero, Int.reduceEq, Int.reduceLT, Int.reduceLE, Int.reduceAdd, Int.reduceSub, Int.reduceToNat, UInt8.reduceToNat, hG]
      unfold Mid1A
      simp -implicitDefEqProofs only [go_sem, tys, regs0, Nat.reduceEqDiff, Nat.reduceAdd, Nat.reduceLeDiff, Nat.reduceLT, Nat.reduceMul, Int.natCast_one, Int.natCast_zero, Int.reduceEq, Int.reduceLT, Int.reduceLE, Int.reduceAdd, Int.reduceSub, Int.reduceToNat, UInt8.reduceToNat]
      rfl
  rintro r G1 ⟨rfl, hv⟩
  have g0 := hv.1
  have g1 := hv.2.1
  have g2 := hv.2.2.1
  have g6 := hv.2.2.2.1
  clear hv
  rw [seqK_normal, acode_seq]
  with_reducible refine acode_mid (fun r G' => ∃ sid ev, AH H G' A sid (S ++ [⟨T.length + 1, T.length + 1, 0, []⟩]) last ev ∧ Mid1A A c (T.length + 1) S.length r) ?_ ?_
  rotate_left
  · rcases h0 with ⟨sid, ev, h⟩ | ⟨rfl, rfl, hs, hA, hG⟩
    · have hA := h.hA
      have hlen := flatS_len S.length (gS S) ev
      simp -implicitDefEqProofs only [go_sem, tys, regs0, Nat.reduceEqDiff, Nat.reduceAdd, Nat.reduceLeDiff, Nat.reduceLT, Nat.reduceMul, Int.natCast_one, Int.natCast_zero, Int.reduceEq, Int.reduceLT, Int.reduceLE, Int.reduceAdd, Int.reduceSub, Int.reduceToNat, UInt8.reduceToNat, g0, g1, g2, g6, hA, decide_true, Bool.true_or]
      refine app_ms h.hS (by rw [flatS_len]) (by simp; omega) (by simp; omega) (fun id' hid' => ?_)
      have n1 : ¬ A = sid := h.AS
      have n2 : ¬ A = id' := fun x => by rw [← x, hA] at hid'; cases hid'
      simp -implicitDefEqProofs only [go_sem, tys, regs0, Nat.reduceEqDiff, Nat.reduceAdd, Nat.reduceLeDiff, Nat.reduceLT, Nat.reduceMul, Int.natCast_one, Int.natCast_zero, Int.reduceEq, Int.reduceLT, Int.reduceLE, Int.reduceAdd, Int.reduceSub, Int.reduceToNat, UInt8.reduceToNat, g0, g1, g2, g6, put_ne, n2, del_ne, n1, hA]
      have hp := h.push (sid' := id') (st := ⟨T.length + 1, T.length + 1, 0, []⟩) (v := .sl [] .exact) (by rw [del_ne (fun x => by rw [x, h.hS] at hid'; cases hid')]; exact hid') hid' (.inl ⟨rfl, rfl⟩) (fun e n he => by cases he)
      exact ⟨id', _, hp, by unfold Mid1A; simp -implicitDefEqProofs only [go_sem, tys, regs0, Nat.reduceEqDiff, Nat.reduceAdd, Nat.reduceLeDiff, Nat.reduceLT, Nat.reduceMul, Int.natCast_one, Int.natCast_zero, Int.reduceEq, Int.reduceLT, Int.reduceLE, Int.reduceAdd, Int.reduceSub, Int.reduceToNat, UInt8.reduceToNat, g0, g1, g2, g6]⟩
    · simp -implicitDefEqProofs only [go_sem, tys, regs0, Nat.reduceEqDiff, Nat.reduceAdd, Nat.reduceLeDiff, Nat.reduceLT, Nat.reduceMul, Int.natCast_one, Int.natCast_zero, Int.reduceEq, Int.reduceLT, Int.reduceLE, Int.reduceAdd, Int.reduceSub, Int.reduceToNat, UInt8.reduceToNat, g0, g1, g2, g6, hG, decide_true, Bool.true_or]
      refine ⟨fun e => absurd e (by simp), fun _ => ⟨by simp [Unif], by simp, by simp, fun id' hid' => ?_⟩⟩
      have n2 : ¬ A = id' := fun x => by rw [← x, hG] at hid'; cases hid'
      have hp := AH.first hs hA hG hid' ⟨T.length + 1, T.length + 1, 0, []⟩ rfl
      simp -implicitDefEqProofs only [go_sem, tys, regs0, Nat.reduceEqDiff, Nat.reduceAdd, Nat.reduceLeDiff, Nat.reduceLT, Nat.reduceMul, Int.natCast_one, Int.natCast_zero, Int.reduceEq, Int.reduceLT, Int.reduceLE, Int.reduceAdd, Int.reduceSub, Int.reduceToNat, UInt8.reduceToNat, g0, g1, g2, g6, put_ne, n2, hG]
      refine ⟨id', _, hp, ?_⟩
      unfold Mid1A
      simp -implicitDefEqProofs only [go_sem, tys, regs0, Nat.reduceEqDiff, Nat.reduceAdd, Nat.reduceLeDiff, Nat.reduceLT, Nat.reduceMul, Int.natCast_one, Int.natCast_zero, Int.reduceEq, Int.reduceLT, Int.reduceLE, Int.reduceAdd, Int.reduceSub, Int.reduceToNat, UInt8.reduceToNat, g0, g1, g2, g6]
  clear h0 g0 g1 g2 g6
  rintro r G1 ⟨sid, ev, hAH, hv⟩
  have g0 := hv.1
  have g1 := hv.2.1
  have g2 := hv.2.2.1
  have g6 := hv.2.2.2.1
  clear hv
  have hND0 := hN.push ⟨T.length + 1, T.length + 1, 0, []⟩ (by simp)
  have hA1 := hAH.hA
  simp -implicitDefEqProofs only [go_sem, tys, regs0, Nat.reduceEqDiff, Nat.reduceAdd, Nat.reduceLeDiff, Nat.reduceLT, Nat.reduceMul, Int.natCast_one, Int.natCast_zero, Int.reduceEq, Int.reduceLT, Int.reduceLE, Int.reduceAdd, Int.reduceSub, Int.reduceToNat, UInt8.reduceToNat, g0, g1, g2, g6, hA1]
  with_reducible refine aloop_cut 0 (MidCut H A sid c (T.length + 1) S.length last R) ?_ ?_
  · clear g0 g1 g2 g6 hA1 hAH hND0
    rintro r G2 ⟨ev, hAH, hND, hv⟩
    have g0 := hv.1
    have g1 := hv.2.1
    have g2 := hv.2.2.1
    have g6 := hv.2.2.2.1
    have g7 := hv.2.2.2.2.1
    clear hv
    have hA := hAH.hA
    have hAH1 := hAH.last (S.length : Int)
    simp -implicitDefEqProofs only [go_sem, tys, regs0, Nat.reduceEqDiff, Nat.reduceAdd, Nat.reduceLeDiff, Nat.reduceLT, Nat.reduceMul, Int.natCast_one, Int.natCast_zero, Int.reduceEq, Int.reduceLT, Int.reduceLE, Int.reduceAdd, Int.reduceSub, Int.reduceToNat, UInt8.reduceToNat, g0, g1, g2, g6, g7, hA]
    by_cases hneg : R.2 < 0
    · have y1 : decide (R.2 < 0) = true := decide_eq_true hneg
      rw [if_pos hneg] at hadd
      rw [hadd]
      simp -implicitDefEqProofs only [go_sem, tys, regs0, Nat.reduceEqDiff, Nat.reduceAdd, Nat.reduceLeDiff, Nat.reduceLT, Nat.reduceMul, Int.natCast_one, Int.natCast_zero, Int.reduceEq, Int.reduceLT, Int.reduceLE, Int.reduceAdd, Int.reduceSub, Int.reduceToNat, UInt8.reduceToNat, g0, g1, g2, g6, g7, y1]
      exact Done.now ⟨rfl, .inl ⟨sid, ev, hAH1⟩, hND⟩
    have y1 : decide (R.2 < 0) = false := decide_eq_false hneg
    rw [if_neg hneg] at hadd
    obtain ⟨a, q, ha, han, hqn, hq, hlong⟩ := hF.at_ (by omega)
    have hlen := hF.len
    rw [ha, Int.toNat_natCast, hq] at hadd
    rw [ha] at g7
    try simp only at hadd
    have hA1 := hAH1.hA
    have hS1 := hAH1.hS
    have hal : a < R.1.length := by omega
    have hal' : (a : Int) < (R.1.length : Int) := by omega
    have hql : q < R.1.length := by omega
    have hql' : (q : Int) < (R.1.length : Int) := by omega
    have hnl : S.length < R.1.length := by omega
    have hnl' : (S.length : Int) < (R.1.length : Int) := by omega
    have hj3 := flatS_j (j := 3) hal (gS R.1) ev rfl
    have hj0a := flatS_0 hal (gS R.1) ev
    have hj0q := flatS_0 hql (gS R.1) ev
    have hnx := next_calls (c := c) hAH1.hS hj3 (hAH1.ed a hal) (Nat.le_trans (hND.len a) (by decide))
    have hnI : nxI (gS R.1 a).edges c = (q : Int) := by unfold nxI; rw [hq]
    rw [hnI] at hnx
    have hlq := (hF.same q hqn).2
    have hla := (hF.same a han).2
    have hlq2 := hLong q hqn
    have wl : IntKind.i64.wrap (((gS R.1 a).long : Int) + 1) = (((gS R.1 a).long + 1 : Nat) : Int) := by rw [Go.IntWalk.i64_in _ (by omega)]; omega
    simp -implicitDefEqProofs only [go_sem, tys, regs0, Nat.reduceEqDiff, Nat.reduceAdd, Nat.reduceLeDiff, Nat.reduceLT, Nat.reduceMul, Int.natCast_one, Int.natCast_zero, Int.reduceEq, Int.reduceLT, Int.reduceLE, Int.reduceAdd, Int.reduceSub, Int.reduceToNat, UInt8.reduceToNat, g0, g1, g2, g6, g7, y1, hA1, hal', Int.toNat_natCast, Nat.zero_add]
    refine hnx.pure_next _ ?_
    simp -implicitDefEqProofs only [go_sem, tys, regs0, Nat.reduceEqDiff, Nat.reduceAdd, Nat.reduceLeDiff, Nat.reduceLT, Nat.reduceMul, Int.natCast_one, Int.natCast_zero, Int.reduceEq, Int.reduceLT, Int.reduceLE, Int.reduceAdd, Int.reduceSub, Int.reduceToNat, UInt8.reduceToNat, g0, g1, g2, g6, g7, hA1]
    rw [acode_draw]
    simp -implicitDefEqProofs only [go_sem, tys, regs0, Nat.reduceEqDiff, Nat.reduceAdd, Nat.reduceLeDiff, Nat.reduceLT, Nat.reduceMul, Int.natCast_one, Int.natCast_zero, Int.reduceEq, Int.reduceLT, Int.reduceLE, Int.reduceAdd, Int.reduceSub, Int.reduceToNat, UInt8.reduceToNat, g0, g1, g2, g6, g7, hA1, hS1, hal', hql', Int.toNat_natCast, Nat.zero_add, hj0a, hj0q, wl]
    by_cases hc : (gS R.1 q).long = (gS R.1 a).long + 1
    · have y2 : decide (((gS R.1 q).long : Int) = (((gS R.1 a).long + 1 : Nat) : Int)) = true := decide_eq_true (by omega)
      rw [if_pos hc] at hadd
      have hl2 := hAH1.link hnl q
      have hfl := flatS_len R.1.length (gS R.1) ev
      rw [hadd]
      simp -implicitDefEqProofs only [go_sem, tys, regs0, Nat.reduceEqDiff, Nat.reduceAdd, Nat.reduceLeDiff, Nat.reduceLT, Nat.reduceMul, Int.natCast_one, Int.natCast_zero, Int.reduceEq, Int.reduceLT, Int.reduceLE, Int.reduceAdd, Int.reduceSub, Int.reduceToNat, UInt8.reduceToNat, g0, g1, g2, g6, g7, hA1, hS1, hnl', Int.toNat_natCast, Nat.zero_add, y2, hfl]
      exact ⟨by omega, Done.now ⟨rfl, .inl ⟨sid, ev, hl2⟩, hND.link hnl q⟩⟩
    have y2 : decide (((gS R.1 q).long : Int) = (((gS R.1 a).long + 1 : Nat) : Int)) = false := decide_eq_false (by omega)
    rw [if_neg hc, hlen] at hadd
    have htk := flatS_take hql (gS R.1) ev
    have hfl := flatS_len R.1.length (gS R.1) ev
    have h4 : 4 ≤ (flatS R.1.length (gS R.1) ev).length - q * 4 := by omega
    simp -implicitDefEqProofs only [go_sem, tys, regs0, Nat.reduceEqDiff, Nat.reduceAdd, Nat.reduceLeDiff, Nat.reduceLT, Nat.reduceMul, Int.natCast_one, Int.natCast_zero, Int.reduceEq, Int.reduceLT, Int.reduceLE, Int.reduceAdd, Int.reduceSub, Int.reduceToNat, UInt8.reduceToNat, g0, g1, g2, g6, g7, hA1, hS1, hql', Int.toNat_natCast, Nat.zero_add, y2, List.length_drop, h4, htk, cellsSt]
    with_reducible refine nwC_intro fun W hW => ?_
    have hAH2 := hAH1.put hW (.cells [.int .i64 ((gS R.1 q).long : Int), .int .i64 ((gS R.1 q).fin : Int), .int .i64 (gS R.1 q).link, ev q])
    have hW2 := put_same (G2.put A (.cells [.ms sid 0 R.1.length 4, .int .i64 (S.length : Int)])) W (.cells [.int .i64 ((gS R.1 q).long : Int), .int .i64 ((gS R.1 q).fin : Int), .int .i64 (gS R.1 q).link, ev q])
    clear hW hA1 hS1 hA hAH1 hAH hnx
    simp -implicitDefEqProofs only [go_sem, tys, regs0, Nat.reduceEqDiff, Nat.reduceAdd, Nat.reduceLeDiff, Nat.reduceLT, Nat.reduceMul, Int.natCast_one, Int.natCast_zero, Int.reduceEq, Int.reduceLT, Int.reduceLE, Int.reduceAdd, Int.reduceSub, Int.reduceToNat, UInt8.reduceToNat, g0, g1, g2, g6, g7]
    generalize (G2.put A (.cells [.ms sid 0 R.1.length 4, .int .i64 (S.length : Int)])).put W (.cells [.int .i64 ((gS R.1 q).long : Int), .int .i64 ((gS R.1 q).fin : Int), .int .i64 (gS R.1 q).link, ev q]) = G0 at *
    with_reducible refine acode_mid (fun r G' => ∃ sid2 ev2, AH H G' A sid2 (R.1 ++ [⟨(gS R.1 a).long + 1, (gS R.1 q).fin, (gS R.1 q).link, (gS R.1 q).edges⟩]) S.length ev2 ∧ agrees r [(0, .ptr A 0), (1, .int .u8 (c.toNat : Int)), (6, .int .i64 (S.length : Int)), (7, .int .i64 (a : Int)), (8, .int .i64 (q : Int)), (9, .int .i64 (R.1.length : Int))]) ?_ ?_
    rotate_left
    · rw [acode_any (by rfl)]
      have hfx : ∀ p ∈ ([(0, AV.ptr A 0), (1, .int .u8 (c.toNat : Int)), (6, .int .i64 (S.length : Int)), (7, .int .i64 (a : Int)), (8, .int .i64 (q : Int)), (9, .int .i64 (R.1.length : Int)), (10, .ptr W 0)] : List (Nat × AV)), p.1 < 114 := by
        intro p hp
        simp only [List.mem_cons, List.not_mem_nil, or_false] at hp
        rcases hp with rfl | rfl | rfl | rfl | rfl | rfl | rfl <;> simp
      let I := I13 (tv13 (.ptr A 0) (.ms sid 0 R.1.length 4) (.int .i64 (a : Int)) (.ptr sid (a * 4)) (.int .i64 ((gS R.1 a).long : Int)) (.int .i64 (((gS R.1 a).long + 1 : Nat) : Int)) (.int .i64 ((gS R.1 q).fin : Int)) (.int .i64 (gS R.1 q).link) (ev q) W) [(0, .ptr A 0), (1, .int .u8 (c.toNat : Int)), (6, .int .i64 (S.length : Int)), (7, .int .i64 (a : Int)), (8, .int .i64 (q : Int)), (9, .int .i64 (R.1.length : Int)), (10, .ptr W 0)] G0
        (fun v' G1 => G0.Sub G1 ∧ EdgeV G1 v' (gS R.1 q).edges ∧ ∀ e n, v' = .ms e 0 n 2 → G0 e = none) (fun v' => cellsSt ⟨(gS R.1 a).long + 1, (gS R.1 q).fin, (gS R.1 q).link, (gS R.1 q).edges⟩ v') sid R.1.length A (flatS R.1.length (gS R.1) ev) (.int .i64 (S.length : Int))
      refine aAny_clo I ?_ ?_ (fun listed r H h => by have h1 := h.size; exact h1) _ _ _ ?_
      · intro listed r H hr hI
        have hsz := hI.size
        have hall := ready_nil (by kernel_rfl) hsz hr
        have l21 := getD_tf (by omega) (hall 21 (by decide))
        have l24 := getD_tf (by omega) (hall 24 (by decide))
        have l27 := getD_tf (by omega) (hall 27 (by decide))
        obtain ⟨v', G1, ⟨h1, h2, h3⟩, e1, e2, e3, e4, e5⟩ := hI.h1 l21
        obtain ⟨s', hs', e6, e7, e8⟩ := e5 l24
        have fx := hI.fix
        rw [e8 l27]
        have hpush := (hAH2.grow h1).push (sid' := s') (st := ⟨(gS R.1 a).long + 1, (gS R.1 q).fin, (gS R.1 q).link, (gS R.1 q).edges⟩) (v := v') (by rw [del_ne (fun x => by rw [x, h1 sid _ hAH2.hS] at hs'; cases hs')]; exact hs') hs' h2 (fun e n he => by
          have h4 := h3 e n he
          exact ⟨sub_none hAH2.sub h4, fun x => (by rw [x, hAH2.hA] at h4; cases h4), fun x => (by rw [x, hAH2.hS] at h4; cases h4), fun s n' hs he' => (by rw [((hAH2.ed s hs).there he').1] at h4; cases h4)⟩)
        exact ⟨s', _, hpush, fx.1, fx.2.1, fx.2.2.1, fx.2.2.2.1, fx.2.2.2.2.1, fx.2.2.2.2.2.1, trivial⟩
      · intro listed r H hclo hI i hi
        obtain ⟨hlt, hun, hdep⟩ := ready_mem hi
        have f0 := hI.fix.1
        have f7 := hI.fix.2.2.2.1
        have f10 := hI.fix.2.2.2.2.2.2.1
        obtain rfl | rfl | rfl | rfl | rfl | rfl | rfl | rfl | rfl | rfl | rfl | rfl | rfl | rfl | rfl | rfl | rfl | rfl | rfl | rfl | rfl | rfl | rfl | rfl | rfl | rfl | rfl | rfl : i = 0 ∨ i = 1 ∨ i = 2 ∨ i = 3 ∨ i = 4 ∨ i = 5 ∨ i = 6 ∨ i = 7 ∨ i = 8 ∨ i = 9 ∨ i = 10 ∨ i = 11 ∨ i = 12 ∨ i = 13 ∨ i = 14 ∨ i = 15 ∨ i = 16 ∨ i = 17 ∨ i = 18 ∨ i = 19 ∨ i = 20 ∨ i = 21 ∨ i = 22 ∨ i = 23 ∨ i = 24 ∨ i = 25 ∨ i = 26 ∨ i = 27 := by
          have hlt : i < 28 := hlt
          omega
        · -- 0
          refine aopI_of rfl ?_
          simp -implicitDefEqProofs only [go_sem, tys, regs0, Nat.reduceEqDiff, Nat.reduceAdd, Nat.reduceLeDiff, Nat.reduceLT, Nat.reduceMul, Int.natCast_one, Int.natCast_zero, Int.reduceEq, Int.reduceLT, Int.reduceLE, Int.reduceAdd, Int.reduceSub, Int.reduceToNat, UInt8.reduceToNat, f0]
          exact hI.step hfx (k := 0) rfl
        · -- 1
          refine aopI_of rfl ?_
          simp -implicitDefEqProofs only [go_sem, tys, regs0, Nat.reduceEqDiff, Nat.reduceAdd, Nat.reduceLeDiff, Nat.reduceLT, Nat.reduceMul, Int.natCast_one, Int.natCast_zero, Int.reduceEq, Int.reduceLT, Int.reduceLE, Int.reduceAdd, Int.reduceSub, Int.reduceToNat, UInt8.reduceToNat, f0]
          exact hI.step hfx (k := 1) rfl
        · -- 2
          have d1 := hI.val 1 115 _ rfl (hdep _ rfl ⟨1, .data⟩ (by simp) rfl)
          refine aopI_of rfl ?_
          simp -implicitDefEqProofs only [go_sem, tys, regs0, Nat.reduceEqDiff, Nat.reduceAdd, Nat.reduceLeDiff, Nat.reduceLT, Nat.reduceMul, Int.natCast_one, Int.natCast_zero, Int.reduceEq, Int.reduceLT, Int.reduceLE, Int.reduceAdd, Int.reduceSub, Int.reduceToNat, UInt8.reduceToNat, d1]
          exact hI.step hfx (k := 2) rfl
        · -- 3
          have d2 := hI.val 2 116 _ rfl (hdep _ rfl ⟨2, .data⟩ (by simp) rfl)
          refine aopI_of rfl ?_
          simp -implicitDefEqProofs only [go_sem, tys, regs0, Nat.reduceEqDiff, Nat.reduceAdd, Nat.reduceLeDiff, Nat.reduceLT, Nat.reduceMul, Int.natCast_one, Int.natCast_zero, Int.reduceEq, Int.reduceLT, Int.reduceLE, Int.reduceAdd, Int.reduceSub, Int.reduceToNat, UInt8.reduceToNat, d2]
          exact hI.step hfx (k := 3) rfl
        · -- 4
          have d3 := hI.val 3 117 _ rfl (hdep _ rfl ⟨3, .data⟩ (by simp) rfl)
          have hsub := hI.heap (fun _ _ h => h.1) (k := 4) (.inl rfl) (getD_unl hun)
          have hA' := hsub A _ hAH2.hA
          refine aopI_of rfl ?_
          simp -implicitDefEqProofs only [go_sem, tys, regs0, Nat.reduceEqDiff, Nat.reduceAdd, Nat.reduceLeDiff, Nat.reduceLT, Nat.reduceMul, Int.natCast_one, Int.natCast_zero, Int.reduceEq, Int.reduceLT, Int.reduceLE, Int.reduceAdd, Int.reduceSub, Int.reduceToNat, UInt8.reduceToNat, d3, hA']
          exact hI.step hfx (k := 4) rfl
        · -- 5
          refine aopI_of rfl ?_
          simp -implicitDefEqProofs only [go_sem, tys, regs0, Nat.reduceEqDiff, Nat.reduceAdd, Nat.reduceLeDiff, Nat.reduceLT, Nat.reduceMul, Int.natCast_one, Int.natCast_zero, Int.reduceEq, Int.reduceLT, Int.reduceLE, Int.reduceAdd, Int.reduceSub, Int.reduceToNat, UInt8.reduceToNat, f0]
          exact hI.step hfx (k := 5) rfl
        · -- 6
          have d5 := hI.val 5 119 _ rfl (hdep _ rfl ⟨5, .data⟩ (by simp) rfl)
          refine aopI_of rfl ?_
          simp -implicitDefEqProofs only [go_sem, tys, regs0, Nat.reduceEqDiff, Nat.reduceAdd, Nat.reduceLeDiff, Nat.reduceLT, Nat.reduceMul, Int.natCast_one, Int.natCast_zero, Int.reduceEq, Int.reduceLT, Int.reduceLE, Int.reduceAdd, Int.reduceSub, Int.reduceToNat, UInt8.reduceToNat, d5]
          exact hI.step hfx (k := 6) rfl
        · -- 7
          have d6 := hI.val 6 120 _ rfl (hdep _ rfl ⟨6, .data⟩ (by simp) rfl)
          refine aopI_of rfl ?_
          simp -implicitDefEqProofs only [go_sem, tys, regs0, Nat.reduceEqDiff, Nat.reduceAdd, Nat.reduceLeDiff, Nat.reduceLT, Nat.reduceMul, Int.natCast_one, Int.natCast_zero, Int.reduceEq, Int.reduceLT, Int.reduceLE, Int.reduceAdd, Int.reduceSub, Int.reduceToNat, UInt8.reduceToNat, d6]
          exact hI.step hfx (k := 7) rfl
        · -- 8
          have d7 := hI.val 7 121 _ rfl (hdep _ rfl ⟨7, .data⟩ (by simp) rfl)
          have hsub := hI.heap (fun _ _ h => h.1) (k := 8) (.inr (.inl rfl)) (getD_unl hun)
          have hA' := hsub A _ hAH2.hA
          refine aopI_of rfl ?_
          simp -implicitDefEqProofs only [go_sem, tys, regs0, Nat.reduceEqDiff, Nat.reduceAdd, Nat.reduceLeDiff, Nat.reduceLT, Nat.reduceMul, Int.natCast_one, Int.natCast_zero, Int.reduceEq, Int.reduceLT, Int.reduceLE, Int.reduceAdd, Int.reduceSub, Int.reduceToNat, UInt8.reduceToNat, d7, hA']
          exact hI.step hfx (k := 8) rfl
        · -- 9
          refine aopI_of rfl ?_
          simp -implicitDefEqProofs only [go_sem, tys, regs0, Nat.reduceEqDiff, Nat.reduceAdd, Nat.reduceLeDiff, Nat.reduceLT, Nat.reduceMul, Int.natCast_one, Int.natCast_zero, Int.reduceEq, Int.reduceLT, Int.reduceLE, Int.reduceAdd, Int.reduceSub, Int.reduceToNat, UInt8.reduceToNat, f7]
          exact hI.step hfx (k := 9) rfl
        · -- 10
          have d8 := hI.val 8 122 _ rfl (hdep _ rfl ⟨8, .data⟩ (by simp) rfl)
          have d9 := hI.val 9 123 _ rfl (hdep _ rfl ⟨9, .data⟩ (by simp) rfl)
          refine aopI_of rfl ?_
          simp -implicitDefEqProofs only [go_sem, tys, regs0, Nat.reduceEqDiff, Nat.reduceAdd, Nat.reduceLeDiff, Nat.reduceLT, Nat.reduceMul, Int.natCast_one, Int.natCast_zero, Int.reduceEq, Int.reduceLT, Int.reduceLE, Int.reduceAdd, Int.reduceSub, Int.reduceToNat, UInt8.reduceToNat, d8, d9, hal', Int.toNat_natCast, Nat.zero_add]
          exact hI.step hfx (k := 10) rfl
        · -- 11
          have d10 := hI.val 10 124 _ rfl (hdep _ rfl ⟨10, .data⟩ (by simp) rfl)
          refine aopI_of rfl ?_
          simp -implicitDefEqProofs only [go_sem, tys, regs0, Nat.reduceEqDiff, Nat.reduceAdd, Nat.reduceLeDiff, Nat.reduceLT, Nat.reduceMul, Int.natCast_one, Int.natCast_zero, Int.reduceEq, Int.reduceLT, Int.reduceLE, Int.reduceAdd, Int.reduceSub, Int.reduceToNat, UInt8.reduceToNat, d10]
          exact hI.step hfx (k := 11) rfl
        · -- 12
          have d11 := hI.val 11 125 _ rfl (hdep _ rfl ⟨11, .data⟩ (by simp) rfl)
          have hsub := hI.heap (fun _ _ h => h.1) (k := 12) (.inr (.inr (.inl rfl))) (getD_unl hun)
          have hS' := hsub sid _ hAH2.hS
          refine aopI_of rfl ?_
          simp -implicitDefEqProofs only [go_sem, tys, regs0, Nat.reduceEqDiff, Nat.reduceAdd, Nat.reduceLeDiff, Nat.reduceLT, Nat.reduceMul, Int.natCast_one, Int.natCast_zero, Int.reduceEq, Int.reduceLT, Int.reduceLE, Int.reduceAdd, Int.reduceSub, Int.reduceToNat, UInt8.reduceToNat, d11, hS', hj0a]
          exact hI.step hfx (k := 12) rfl
        · -- 13
          have d12 := hI.val 12 126 _ rfl (hdep _ rfl ⟨12, .data⟩ (by simp) rfl)
          refine aopI_of rfl ?_
          simp -implicitDefEqProofs only [go_sem, tys, regs0, Nat.reduceEqDiff, Nat.reduceAdd, Nat.reduceLeDiff, Nat.reduceLT, Nat.reduceMul, Int.natCast_one, Int.natCast_zero, Int.reduceEq, Int.reduceLT, Int.reduceLE, Int.reduceAdd, Int.reduceSub, Int.reduceToNat, UInt8.reduceToNat, d12, wl]
          exact hI.step hfx (k := 13) rfl
        · -- 14
          refine aopI_of rfl ?_
          simp -implicitDefEqProofs only [go_sem, tys, regs0, Nat.reduceEqDiff, Nat.reduceAdd, Nat.reduceLeDiff, Nat.reduceLT, Nat.reduceMul, Int.natCast_one, Int.natCast_zero, Int.reduceEq, Int.reduceLT, Int.reduceLE, Int.reduceAdd, Int.reduceSub, Int.reduceToNat, UInt8.reduceToNat, f10]
          exact hI.step hfx (k := 14) rfl
        · -- 15
          have d14 := hI.val 14 128 _ rfl (hdep _ rfl ⟨14, .data⟩ (by simp) rfl)
          have hsub := hI.heap (fun _ _ h => h.1) (k := 15) (.inr (.inr (.inr (.inl rfl)))) (getD_unl hun)
          have hW' := hsub W _ hW2
          refine aopI_of rfl ?_
          simp -implicitDefEqProofs only [go_sem, tys, regs0, Nat.reduceEqDiff, Nat.reduceAdd, Nat.reduceLeDiff, Nat.reduceLT, Nat.reduceMul, Int.natCast_one, Int.natCast_zero, Int.reduceEq, Int.reduceLT, Int.reduceLE, Int.reduceAdd, Int.reduceSub, Int.reduceToNat, UInt8.reduceToNat, d14, hW']
          exact hI.step hfx (k := 15) rfl
        · -- 16
          refine aopI_of rfl ?_
          simp -implicitDefEqProofs only [go_sem, tys, regs0, Nat.reduceEqDiff, Nat.reduceAdd, Nat.reduceLeDiff, Nat.reduceLT, Nat.reduceMul, Int.natCast_one, Int.natCast_zero, Int.reduceEq, Int.reduceLT, Int.reduceLE, Int.reduceAdd, Int.reduceSub, Int.reduceToNat, UInt8.reduceToNat, f10]
          exact hI.step hfx (k := 16) rfl
        · -- 17
          have d16 := hI.val 16 130 _ rfl (hdep _ rfl ⟨16, .data⟩ (by simp) rfl)
          have hsub := hI.heap (fun _ _ h => h.1) (k := 17) (.inr (.inr (.inr (.inr (.inl rfl))))) (getD_unl hun)
          have hW' := hsub W _ hW2
          refine aopI_of rfl ?_
          simp -implicitDefEqProofs only [go_sem, tys, regs0, Nat.reduceEqDiff, Nat.reduceAdd, Nat.reduceLeDiff, Nat.reduceLT, Nat.reduceMul, Int.natCast_one, Int.natCast_zero, Int.reduceEq, Int.reduceLT, Int.reduceLE, Int.reduceAdd, Int.reduceSub, Int.reduceToNat, UInt8.reduceToNat, d16, hW']
          exact hI.step hfx (k := 17) rfl
        · -- 18
          refine aopI_of rfl ?_
          simp -implicitDefEqProofs only [go_sem, tys, regs0, Nat.reduceEqDiff, Nat.reduceAdd, Nat.reduceLeDiff, Nat.reduceLT, Nat.reduceMul, Int.natCast_one, Int.natCast_zero, Int.reduceEq, Int.reduceLT, Int.reduceLE, Int.reduceAdd, Int.reduceSub, Int.reduceToNat, UInt8.reduceToNat]
          exact hI.step hfx (k := 18) rfl
        · -- 19
          refine aopI_of rfl ?_
          simp -implicitDefEqProofs only [go_sem, tys, regs0, Nat.reduceEqDiff, Nat.reduceAdd, Nat.reduceLeDiff, Nat.reduceLT, Nat.reduceMul, Int.natCast_one, Int.natCast_zero, Int.reduceEq, Int.reduceLT, Int.reduceLE, Int.reduceAdd, Int.reduceSub, Int.reduceToNat, UInt8.reduceToNat, f10]
          exact hI.step hfx (k := 19) rfl
        · -- 20
          have d19 := hI.val 19 133 _ rfl (hdep _ rfl ⟨19, .data⟩ (by simp) rfl)
          have hsub := hI.heap (fun _ _ h => h.1) (k := 20) (.inr (.inr (.inr (.inr (.inr rfl))))) (getD_unl hun)
          have hW' := hsub W _ hW2
          refine aopI_of rfl ?_
          simp -implicitDefEqProofs only [go_sem, tys, regs0, Nat.reduceEqDiff, Nat.reduceAdd, Nat.reduceLeDiff, Nat.reduceLT, Nat.reduceMul, Int.natCast_one, Int.natCast_zero, Int.reduceEq, Int.reduceLT, Int.reduceLE, Int.reduceAdd, Int.reduceSub, Int.reduceToNat, UInt8.reduceToNat, d19, hW']
          exact hI.step hfx (k := 20) rfl
        · -- 21
          have d18 := hI.val 18 132 _ rfl (hdep _ rfl ⟨18, .data⟩ (by simp) rfl)
          have l20 := hdep _ rfl ⟨20, .data⟩ (by simp) rfl
          have d20 := hI.val 20 134 _ rfl l20
          have hu := getD_unl hun
          have hH0 := hI.h0 hu
          have n22 : listed.getD 22 false = false := by cases hh : listed.getD 22 false with | false => rfl | true => rw [hI.cl.1 hh] at hu; cases hu
          have n23 : listed.getD 23 false = false := by cases hh : listed.getD 23 false with | false => rfl | true => rw [hI.cl.2.1 hh] at n22; cases n22
          have n24 : listed.getD 24 false = false := by cases hh : listed.getD 24 false with | false => rfl | true => rw [hI.cl.2.2.1 hh] at n23; cases n23
          have n27 : listed.getD 27 false = false := by cases hh : listed.getD 27 false with | false => rfl | true => rw [hI.cl.2.2.2 hh] at n24; cases n24
          have fin : ∀ v' G', G0.Sub G' → EdgeV G' v' (gS R.1 q).edges → (∀ e n, v' = .ms e 0 n 2 → G0 e = none) → I (listed.setIfInBounds 21 true) (upd r 135 v') G' := by
            intro v' G' h1 h2 h3
            obtain ⟨b1, b2, b3, hg⟩ := hI.base hfx (k := 21) (t := 135) (v := v') (.inl ⟨rfl, rfl⟩)
            refine ⟨b1, b2, b3, ?_, ?_, ?_, ?_, ?_, ?_⟩
            · simp [hg, n22, n23, n24, n27]
            · simp [hg, n22]
            · simp [hg, n24]
            · simp [hg, l20]
            · simp [hg]
            · intro _
              refine ⟨v', G', ⟨h1, h2, h3⟩, upd_same _ _ _, by simp [hg, n22], by simp [hg, n23], fun _ => rfl, by simp [hg, n24]⟩
          refine aopI_of rfl ?_
          rcases hAH2.ed q hql with ⟨e1, e2⟩ | ⟨e, e1, e2⟩
          · rw [e1] at d20
            simp -implicitDefEqProofs only [go_sem, tys, regs0, Nat.reduceEqDiff, Nat.reduceAdd, Nat.reduceLeDiff, Nat.reduceLT, Nat.reduceMul, Int.natCast_one, Int.natCast_zero, Int.reduceEq, Int.reduceLT, Int.reduceLE, Int.reduceAdd, Int.reduceSub, Int.reduceToNat, UInt8.reduceToNat, d18, d20, decide_true, Bool.true_or, Bool.or_true]
            refine ⟨fun _ => ?_, fun h => absurd rfl h⟩
            exact fin _ _ (by rw [hH0]; exact Heap.Sub.rfl' _) (.inl ⟨rfl, e2⟩) (fun e n h => by cases h)
          · rw [e1] at d20
            have e3 := e2
            rw [← hH0] at e3
            have hch := chunks_of (k := 2) (es := (gS R.1 q).edges.map encE) (fun c hc => by obtain ⟨x, _, rfl⟩ := List.mem_map.1 hc; rfl)
            rw [List.length_map] at hch
            have hfe := flatE_len (gS R.1 q).edges
            have hle := hND.len q
            simp -implicitDefEqProofs only [go_sem, tys, regs0, Nat.reduceEqDiff, Nat.reduceAdd, Nat.reduceLeDiff, Nat.reduceLT, Nat.reduceMul, Int.natCast_one, Int.natCast_zero, Int.reduceEq, Int.reduceLT, Int.reduceLE, Int.reduceAdd, Int.reduceSub, Int.reduceToNat, UInt8.reduceToNat, d18, d20, decide_true, Bool.true_or, Bool.or_true, srcOf, e3, Nat.zero_add]
            refine ⟨by omega, ?_⟩
            have hch' : List.map (fun i => List.take 2 (List.drop (i * 2) (flatE (gS R.1 q).edges))) (List.range (gS R.1 q).edges.length) = (gS R.1 q).edges.map encE := hch
            rw [hch']
            by_cases hE0 : (gS R.1 q).edges = []
            · rw [hE0]
              refine ⟨fun _ => ?_, fun h => absurd rfl h⟩
              exact fin _ _ (by rw [hH0]; exact Heap.Sub.rfl' _) (.inl ⟨rfl, hE0⟩) (fun e n h => by cases h)
            · refine app_ms0 (by simpa using hE0) (by simp; omega) (by simp; omega) (fun id' hid' => ?_)
              rw [List.length_map]
              exact fin _ _ (by rw [hH0] at hid' ⊢; exact (Heap.Sub.rfl' _).put' hid' _) (.inr ⟨id', rfl, put_same _ _ _⟩) (fun e n h => by cases h; rw [← hH0]; exact hid')
        · -- 22
          have l13 := hdep _ rfl ⟨13, .data⟩ (by simp) rfl
          have d13 := hI.val 13 127 _ rfl l13
          have l15 := hdep _ rfl ⟨15, .data⟩ (by simp) rfl
          have d15 := hI.val 15 129 _ rfl l15
          have l17 := hdep _ rfl ⟨17, .data⟩ (by simp) rfl
          have d17 := hI.val 17 131 _ rfl l17
          have l21 := hdep _ rfl ⟨21, .data⟩ (by simp) rfl
          have l12 := hclo 13 _ rfl l13 ⟨12, .data⟩ (by simp) rfl
          have l11 := hclo 12 _ rfl l12 ⟨11, .data⟩ (by simp) rfl
          have l10 := hclo 11 _ rfl l11 ⟨10, .data⟩ (by simp) rfl
          have l8 := hclo 10 _ rfl l10 ⟨8, .data⟩ (by simp) rfl
          have l20 := hI.h20 l21
          have hu := getD_unl hun
          have n23 : listed.getD 23 false = false := by cases hh : listed.getD 23 false with | false => rfl | true => rw [hI.cl.2.1 hh] at hu; cases hu
          have n24 : listed.getD 24 false = false := by cases hh : listed.getD 24 false with | false => rfl | true => rw [hI.cl.2.2.1 hh] at n23; cases n23
          have n27 : listed.getD 27 false = false := by cases hh : listed.getD 27 false with | false => rfl | true => rw [hI.cl.2.2.2 hh] at n24; cases n24
          obtain ⟨v', G1, hAp, e1, e2, e3, e4, e5⟩ := hI.h1 l21
          have hE := hAp.2.1
          rcases hE with ⟨rfl, _⟩ | ⟨e0, rfl, _⟩
          · refine aopI_of rfl ?_
            simp -implicitDefEqProofs only [go_sem, tys, regs0, Nat.reduceEqDiff, Nat.reduceAdd, Nat.reduceLeDiff, Nat.reduceLT, Nat.reduceMul, Int.natCast_one, Int.natCast_zero, Int.reduceEq, Int.reduceLT, Int.reduceLE, Int.reduceAdd, Int.reduceSub, Int.reduceToNat, UInt8.reduceToNat, d13, d15, d17, e1]
            obtain ⟨b1, b2, b3, hg⟩ := hI.base hfx (k := 22) (t := 136) (v := .agg (cellsSt ⟨(gS R.1 a).long + 1, (gS R.1 q).fin, (gS R.1 q).link, (gS R.1 q).edges⟩ (.sl [] .exact))) (.inr (.inl ⟨rfl, rfl⟩))
            refine ⟨b1, b2, b3, ?_, ?_, ?_, ?_, ?_, ?_⟩
            · simp [hg, l21, n23, n24, n27]
            · simp [hg, l8, l12, l15, l17]
            · simp [hg, n24]
            · simp [hg, l20]
            · simp [hg, l21]
            · intro _
              exact ⟨.sl [] .exact, G1, hAp, by rw [upd_ne _ _ _ _ (by decide)]; exact e1, fun _ => upd_same _ _ _, by simp [hg, n23], fun _ => e4 n24, by simp [hg, n24]⟩
          · refine aopI_of rfl ?_
            simp -implicitDefEqProofs only [go_sem, tys, regs0, Nat.reduceEqDiff, Nat.reduceAdd, Nat.reduceLeDiff, Nat.reduceLT, Nat.reduceMul, Int.natCast_one, Int.natCast_zero, Int.reduceEq, Int.reduceLT, Int.reduceLE, Int.reduceAdd, Int.reduceSub, Int.reduceToNat, UInt8.reduceToNat, d13, d15, d17, e1]
            obtain ⟨b1, b2, b3, hg⟩ := hI.base hfx (k := 22) (t := 136) (v := .agg (cellsSt ⟨(gS R.1 a).long + 1, (gS R.1 q).fin, (gS R.1 q).link, (gS R.1 q).edges⟩ (.ms e0 0 (gS R.1 q).edges.length 2))) (.inr (.inl ⟨rfl, rfl⟩))
            refine ⟨b1, b2, b3, ?_, ?_, ?_, ?_, ?_, ?_⟩
            · simp [hg, l21, n23, n24, n27]
            · simp [hg, l8, l12, l15, l17]
            · simp [hg, n24]
            · simp [hg, l20]
            · simp [hg, l21]
            · intro _
              exact ⟨.ms e0 0 (gS R.1 q).edges.length 2, G1, hAp, by rw [upd_ne _ _ _ _ (by decide)]; exact e1, fun _ => upd_same _ _ _, by simp [hg, n23], fun _ => e4 n24, by simp [hg, n24]⟩
        · -- 23
          have l22 := hdep _ rfl ⟨22, .data⟩ (by simp) rfl
          have l21 := hI.cl.1 l22
          have l20 := hI.h20 l21
          have hu := getD_unl hun
          have n24 : listed.getD 24 false = false := by cases hh : listed.getD 24 false with | false => rfl | true => rw [hI.cl.2.2.1 hh] at hu; cases hu
          have n27 : listed.getD 27 false = false := by cases hh : listed.getD 27 false with | false => rfl | true => rw [hI.cl.2.2.2 hh] at n24; cases n24
          obtain ⟨v', G1, hAp, e1, e2, e3, e4, e5⟩ := hI.h1 l21
          have e2 := e2 l22
          obtain ⟨l8, l12, l15, l17⟩ := hI.all l22
          refine aopI_of rfl ?_
          simp -implicitDefEqProofs only [go_sem, tys, regs0, Nat.reduceEqDiff, Nat.reduceAdd, Nat.reduceLeDiff, Nat.reduceLT, Nat.reduceMul, Int.natCast_one, Int.natCast_zero, Int.reduceEq, Int.reduceLT, Int.reduceLE, Int.reduceAdd, Int.reduceSub, Int.reduceToNat, UInt8.reduceToNat, e2]
          obtain ⟨b1, b2, b3, hg⟩ := hI.base hfx (k := 23) (t := 137) (v := .sl [cellsSt ⟨(gS R.1 a).long + 1, (gS R.1 q).fin, (gS R.1 q).link, (gS R.1 q).edges⟩ v'] .exact) (.inr (.inr (.inl ⟨rfl, rfl⟩)))
          refine ⟨b1, b2, b3, ?_, ?_, ?_, ?_, ?_, ?_⟩
          · simp [hg, l21, l22, n24, n27]
          · simp [hg, l8, l12, l15, l17]
          · simp [hg, n24]
          · simp [hg, l20]
          · simp [hg, l21]
          · intro _
            exact ⟨v', G1, hAp, by rw [upd_ne _ _ _ _ (by decide)]; exact e1, fun _ => by rw [upd_ne _ _ _ _ (by decide)]; exact e2, fun _ => upd_same _ _ _, fun _ => e4 n24, by simp [hg, n24]⟩
        · -- 24
          have l23 := hdep _ rfl ⟨23, .data⟩ (by simp) rfl
          have l4 := hdep _ rfl ⟨4, .data⟩ (by simp) rfl
          have d4 := hI.val 4 118 _ rfl l4
          have l22 := hI.cl.2.1 l23
          have l21 := hI.cl.1 l22
          have l20 := hI.h20 l21
          have hu := getD_unl hun
          have n27 : listed.getD 27 false = false := by cases hh : listed.getD 27 false with | false => rfl | true => rw [hI.cl.2.2.2 hh] at hu; cases hu
          obtain ⟨v', G1, hAp, e1, e2, e3, e4, e5⟩ := hI.h1 l21
          have e2 := e2 l22
          have e3 := e3 l23
          have hH := e4 hu
          have hS' := hAp.1 sid _ hAH2.hS
          rw [← hH] at hS'
          obtain ⟨l8, l12, l15, l17⟩ := hI.all l22
          refine aopI_of rfl ?_
          simp -implicitDefEqProofs only [go_sem, tys, regs0, Nat.reduceEqDiff, Nat.reduceAdd, Nat.reduceLeDiff, Nat.reduceLT, Nat.reduceMul, Int.natCast_one, Int.natCast_zero, Int.reduceEq, Int.reduceLT, Int.reduceLE, Int.reduceAdd, Int.reduceSub, Int.reduceToNat, UInt8.reduceToNat, d4, e3, decide_true, Bool.true_or, Bool.or_true]
          refine ⟨rfl, ?_⟩
          refine app_ms hS' (by rw [flatS_len]) (by simp; omega) (by simp; omega) (fun id' hid' => ?_)
          obtain ⟨b1, b2, b3, hg⟩ := hI.base hfx (k := 24) (t := 138) (v := .ms id' 0 (R.1.length + 1) 4) (.inr (.inr (.inr ⟨rfl, rfl⟩)))
          refine ⟨b1, b2, b3, ?_, ?_, ?_, ?_, ?_, ?_⟩
          · simp [hg, l21, l22, l23, n27]
          · simp [hg, l8, l12, l15, l17]
          · simp [hg, l4]
          · simp [hg, l20]
          · simp [hg, l21]
          · intro _
            refine ⟨v', G1, hAp, by rw [upd_ne _ _ _ _ (by decide)]; exact e1, fun _ => by rw [upd_ne _ _ _ _ (by decide)]; exact e2, fun _ => by rw [upd_ne _ _ _ _ (by decide)]; exact e3, by simp [hg], fun _ => ⟨id', by rw [← hH]; exact hid', upd_same _ _ _, fun _ => by rw [hH]; rfl, by simp [hg, n27]⟩⟩
        · -- 25
          have d0 := hI.val 0 114 _ rfl (hdep _ rfl ⟨0, .data⟩ (by simp) rfl)
          refine aopI_of rfl ?_
          simp -implicitDefEqProofs only [go_sem, tys, regs0, Nat.reduceEqDiff, Nat.reduceAdd, Nat.reduceLeDiff, Nat.reduceLT, Nat.reduceMul, Int.natCast_one, Int.natCast_zero, Int.reduceEq, Int.reduceLT, Int.reduceLE, Int.reduceAdd, Int.reduceSub, Int.reduceToNat, UInt8.reduceToNat, d0]
          exact hI.step hfx (k := 25) rfl
        · -- 26
          have d25 := hI.val 25 139 _ rfl (hdep _ rfl ⟨25, .data⟩ (by simp) rfl)
          refine aopI_of rfl ?_
          simp -implicitDefEqProofs only [go_sem, tys, regs0, Nat.reduceEqDiff, Nat.reduceAdd, Nat.reduceLeDiff, Nat.reduceLT, Nat.reduceMul, Int.natCast_one, Int.natCast_zero, Int.reduceEq, Int.reduceLT, Int.reduceLE, Int.reduceAdd, Int.reduceSub, Int.reduceToNat, UInt8.reduceToNat, d25]
          exact hI.step hfx (k := 26) rfl
        · -- 27
          have l26 := hdep _ rfl ⟨26, .data⟩ (by simp) rfl
          have d26 := hI.val 26 140 _ rfl l26
          have l24 := hdep _ rfl ⟨24, .data⟩ (by simp) rfl
          have l23 := hI.cl.2.2.1 l24
          have l22 := hI.cl.2.1 l23
          have l21 := hI.cl.1 l22
          have l20 := hI.h20 l21
          have l4 := hI.all2 l24
          have hu := getD_unl hun
          obtain ⟨l8, l12, l15, l17⟩ := hI.all l22
          obtain ⟨v', G1, hAp, e1, e2, e3, e4, e5⟩ := hI.h1 l21
          obtain ⟨s', hs', e6, e7, e8⟩ := e5 l24
          have hH := e7 hu
          have a1 : ¬ A = s' := fun x => by rw [← x, hAp.1 A _ hAH2.hA] at hs'; cases hs'
          have hA' : H A = some (.cells [.ms sid 0 R.1.length 4, .int .i64 (S.length : Int)]) := by
            rw [hH, put_ne _ _ _ _ a1, del_ne hAH2.AS]
            exact hAp.1 A _ hAH2.hA
          refine aopI_of rfl ?_
          simp -implicitDefEqProofs only [go_sem, tys, regs0, Nat.reduceEqDiff, Nat.reduceAdd, Nat.reduceLeDiff, Nat.reduceLT, Nat.reduceMul, Int.natCast_one, Int.natCast_zero, Int.reduceEq, Int.reduceLT, Int.reduceLE, Int.reduceAdd, Int.reduceSub, Int.reduceToNat, UInt8.reduceToNat, d26, e6, hA']
          have hg : ∀ j, (listed.setIfInBounds 27 true).getD j false = if j = 27 then true else listed.getD j false := fun j => getD_setB (by rw [hI.size]; omega)
          refine ⟨by rw [Array.size_setIfInBounds]; exact hI.size, hI.fix, fun j u w hj hl => ?_, ?_, ?_, ?_, ?_, ?_, ?_⟩
          · have hr := tv13_reg hj
            rw [hg, if_neg (by omega)] at hl
            exact hI.val j u w hj hl
          · simp [hg, l21, l22, l23, l24]
          · simp [hg, l8, l12, l15, l17]
          · simp [hg, l4]
          · simp [hg, l20]
          · simp [hg, l21]
          · intro _
            exact ⟨v', G1, hAp, e1, fun _ => e2 l22, fun _ => e3 l23, by simp [hg, l24], fun _ => ⟨s', hs', e6, by simp [hg], fun _ => by rw [hH]⟩⟩
      · refine ⟨by simp, ?_, fun k t v _ hl => (by rw [repl_getD] at hl; cases hl), (by simp [repl_getD]), (by simp [repl_getD]), (by simp [repl_getD]), (by simp [repl_getD]), fun _ => rfl, fun hl => (by rw [repl_getD] at hl; cases hl)⟩
        simp -implicitDefEqProofs only [go_sem, tys, regs0, Nat.reduceEqDiff, Nat.reduceAdd, Nat.reduceLeDiff, Nat.reduceLT, Nat.reduceMul, Int.natCast_one, Int.natCast_zero, Int.reduceEq, Int.reduceLT, Int.reduceLE, Int.reduceAdd, Int.reduceSub, Int.reduceToNat, UInt8.reduceToNat, g0, g1, g2, g6, g7]
    · have hND2 := hND.push ⟨(gS R.1 a).long + 1, (gS R.1 q).fin, (gS R.1 q).link, (gS R.1 q).edges⟩ (hND q)
      clear hW2 htk hfl h4 hAH2 hND y1 y2 hj3 hj0a hj0q
      rintro r G3 ⟨sid2, ev2, hAH3, hv⟩
      have g0 := hv.1
      have g1 := hv.2.1
      have g6 := hv.2.2.1
      have g7 := hv.2.2.2.1
      have g8 := hv.2.2.2.2.1
      have g9 := hv.2.2.2.2.2.1
      clear hv
      have hZlk : ∀ i, i < S.length → (gS (R.1 ++ [⟨(gS R.1 a).long + 1, (gS R.1 q).fin, (gS R.1 q).link, (gS R.1 q).edges⟩]) i).link = (gS S i).link := fun i hi => by rw [gS_left (by omega)]; exact (hF.same i hi).1
      have hZlen : (R.1 ++ [(⟨(gS R.1 a).long + 1, (gS R.1 q).fin, (gS R.1 q).link, (gS R.1 q).edges⟩ : Ste)]).length = S.length + 2 := by simp; omega
      rw [hlen] at g9
      generalize R.1 ++ [(⟨(gS R.1 a).long + 1, (gS R.1 q).fin, (gS R.1 q).link, (gS R.1 q).edges⟩ : Ste)] = Z0 at *
      generalize hZ : ch2 c q (S.length + 1) (T.length + 1 + 1) Z0 (a : Int) = Z at *
      have hA1 := hAH3.hA
      simp -implicitDefEqProofs only [go_sem, tys, regs0, Nat.reduceEqDiff, Nat.reduceAdd, Nat.reduceLeDiff, Nat.reduceLT, Nat.reduceMul, Int.natCast_one, Int.natCast_zero, Int.reduceEq, Int.reduceLT, Int.reduceLE, Int.reduceAdd, Int.reduceSub, Int.reduceToNat, UInt8.reduceToNat, g0, g1, g6, g7, g8, g9, hA1]
      with_reducible refine aloop_cut 2 (Mid2Cut H A sid2 S.length q Z) ?_ ?_
      · clear g0 g1 g6 g7 g8 g9 hA1 hAH3 hND2
        rintro r G4 ⟨ev3, hAH, hND, hlZ, hv⟩
        have g0 := hv.1
        have g6 := hv.2.1
        have g8 := hv.2.2.1
        have g9 := hv.2.2.2.1
        clear hv
        have hA := hAH.hA
        have hS := hAH.hS
        have hqZ : q < Z.length := by omega
        have hqZ' : (q : Int) < (Z.length : Int) := by omega
        have hnZ : S.length < Z.length := by omega
        have hnZ' : (S.length : Int) < (Z.length : Int) := by omega
        have hl1 := hAH.link hqZ (S.length + 1)
        have heq : (flatS Z.length (gS Z) ev3).set (q * 4 + 2) (.int .i64 ((S.length + 1 : Nat) : Int)) = flatS (linkS Z q (S.length + 1)).length (gS (linkS Z q (S.length + 1))) ev3 := by
          have := hl1.hS
          rw [put_same] at this
          injection this with this
          injection this
        have hl2 := hl1.link (s := S.length) (by rw [linkS_len]; exact hnZ) (S.length + 1)
        rw [← heq, put_put] at hl2
        have hND3 := (hND.link hqZ (S.length + 1)).link (s := S.length) (by rw [linkS_len]; exact hnZ) (S.length + 1)
        have hfl := flatS_len Z.length (gS Z) ev3
        simp -implicitDefEqProofs only [go_sem, tys, regs0, Nat.reduceEqDiff, Nat.reduceAdd, Nat.reduceLeDiff, Nat.reduceLT, Nat.reduceMul, Int.natCast_one, Int.natCast_zero, Int.reduceEq, Int.reduceLT, Int.reduceLE, Int.reduceAdd, Int.reduceSub, Int.reduceToNat, UInt8.reduceToNat]
        rw [acode_draw]
        rw [hadd]
        simp -implicitDefEqProofs only [go_sem, tys, regs0, Nat.reduceEqDiff, Nat.reduceAdd, Nat.reduceLeDiff, Nat.reduceLT, Nat.reduceMul, Int.natCast_one, Int.natCast_zero, Int.reduceEq, Int.reduceLT, Int.reduceLE, Int.reduceAdd, Int.reduceSub, Int.reduceToNat, UInt8.reduceToNat, g0, g6, g8, g9, hA, hS, hqZ', hnZ', Int.toNat_natCast, Nat.zero_add, hfl, List.length_set]
        exact ⟨by omega, by omega, Done.now ⟨rfl, .inl ⟨sid2, ev3, hl2⟩, hND3⟩⟩
      · refine aloop_intro (σ := Nat × List Ste × Int × (Nat → AV)) (fun s => [(0, .ptr A 0), (1, .int .u8 (c.toNat : Int)), (6, .int .i64 (S.length : Int)), (7, .int .i64 s.2.2.1), (8, .int .i64 (q : Int)), (9, .int .i64 ((S.length + 1 : Nat) : Int))])
          (fun s G' => AH H G' A sid2 s.2.1 S.length s.2.2.2 ∧ ND s.2.1 ∧ ch2 c q (S.length + 1) s.1 s.2.1 s.2.2.1 = Z ∧ s.2.1.length = S.length + 2 ∧ (∀ i, i < S.length → (gS s.2.1 i).link = (gS S i).link) ∧ (0 ≤ s.2.2.1 → s.2.2.1.toNat < S.length ∧ (gS S s.2.2.1.toNat).long < s.1)) (fun s => s.1) (T.length + 1 + 1, Z0, (a : Int), ev2) ?_ ?_ ?_
        · simp -implicitDefEqProofs only [go_sem, tys, regs0, Nat.reduceEqDiff, Nat.reduceAdd, Nat.reduceLeDiff, Nat.reduceLT, Nat.reduceMul, Int.natCast_one, Int.natCast_zero, Int.reduceEq, Int.reduceLT, Int.reduceLE, Int.reduceAdd, Int.reduceSub, Int.reduceToNat, UInt8.reduceToNat, g0, g1, g6, g7, g8, g9]
        · exact ⟨hAH3, hND2, hZ, hZlen, hZlk, fun _ => ⟨by simp only [Int.toNat_natCast]; exact han, by simp only [Int.toNat_natCast]; omega⟩⟩
        · clear g0 g1 g6 g7 g8 g9 hA1 hAH3 hND2 hZ hZlen hZlk
          rintro ⟨f, sts, p, ev⟩ r G2 hv ⟨hAH, hND, hch, hlen2, hlk, hp⟩
          have g0 := hv.1
          have g1 := hv.2.1
          have g6 := hv.2.2.1
          have g7 := hv.2.2.2.1
          have g8 := hv.2.2.2.2.1
          have g9 := hv.2.2.2.2.2.1
          clear hv
          simp only at g0 g1 g6 g7 g8 g9 hAH hND hch hlen2 hlk hp
          by_cases hneg : p < 0
          · have y1 : decide (0 ≤ p) = false := decide_eq_false (by omega)
            rw [ch2_neg hneg] at hch
            simp -implicitDefEqProofs only [go_sem, tys, regs0, Nat.reduceEqDiff, Nat.reduceAdd, Nat.reduceLeDiff, Nat.reduceLT, Nat.reduceMul, Int.natCast_one, Int.natCast_zero, Int.reduceEq, Int.reduceLT, Int.reduceLE, Int.reduceAdd, Int.reduceSub, Int.reduceToNat, UInt8.reduceToNat, g0, g1, g6, g7, g8, g9, y1]
            exact ⟨ev, by rw [← hch]; exact hAH, by rw [← hch]; exact hND, by rw [← hch]; exact hlen2, by simp -implicitDefEqProofs only [go_sem, tys, regs0, Nat.reduceEqDiff, Nat.reduceAdd, Nat.reduceLeDiff, Nat.reduceLT, Nat.reduceMul, Int.natCast_one, Int.natCast_zero, Int.reduceEq, Int.reduceLT, Int.reduceLE, Int.reduceAdd, Int.reduceSub, Int.reduceToNat, UInt8.reduceToNat, g0, g6, g8, g9]⟩
          · have y1 : decide (0 ≤ p) = true := decide_eq_true (by omega)
            obtain ⟨hpn, hpl⟩ := hp (by omega)
            obtain ⟨b, rfl⟩ : ∃ b : Nat, p = b := ⟨p.toNat, by omega⟩
            rw [Int.toNat_natCast] at hpn hpl
            obtain ⟨f', rfl⟩ : ∃ f', f = f' + 1 := ⟨f - 1, by omega⟩
            rw [ch2, if_neg hneg, Int.toNat_natCast] at hch
            have hA := hAH.hA
            have hal : b < sts.length := by omega
            have hal' : (b : Int) < (sts.length : Int) := by omega
            have hj3 := flatS_j (j := 3) hal (gS sts) ev rfl
            have hnx := next_calls (c := c) hAH.hS hj3 (hAH.ed b hal) (Nat.le_trans (hND.len b) (by decide))
            simp -implicitDefEqProofs only [go_sem, tys, regs0, Nat.reduceEqDiff, Nat.reduceAdd, Nat.reduceLeDiff, Nat.reduceLT, Nat.reduceMul, Int.natCast_one, Int.natCast_zero, Int.reduceEq, Int.reduceLT, Int.reduceLE, Int.reduceAdd, Int.reduceSub, Int.reduceToNat, UInt8.reduceToNat, g0, g1, g6, g7, g8, g9, y1, hA, hal', Int.toNat_natCast, Nat.zero_add]
            refine hnx.pure_next _ ?_
            by_cases hq : nxE (gS sts b).edges c = some q
            · have hnI : nxI (gS sts b).edges c = (q : Int) := by unfold nxI; rw [hq]
              rw [if_pos hq] at hch
              rw [hnI]
              have hset := set_calls (c := c) (t := S.length + 1) hAH.hS hj3 (hAH.ed b hal) (Nat.le_trans (hND.len b) (by decide)) (fun n e => (hAH.fr b sid2 n hal e).2.2 rfl)
              simp -implicitDefEqProofs only [go_sem, tys, regs0, Nat.reduceEqDiff, Nat.reduceAdd, Nat.reduceLeDiff, Nat.reduceLT, Nat.reduceMul, Int.natCast_one, Int.natCast_zero, Int.reduceEq, Int.reduceLT, Int.reduceLE, Int.reduceAdd, Int.reduceSub, Int.reduceToNat, UInt8.reduceToNat, g0, g1, g6, g7, g8, g9, y1, hA, hal', Int.toNat_natCast, Nat.zero_add, decide_true]
              refine hset.mono ?_
              rintro x G3 ⟨rfl, v', hP⟩
              have hAH3 := hAH.set hal hP
              have hA3 := hAH3.hA
              have hS3 := hAH3.hS
              rw [setS_len] at hA3 hS3
              have hlk2 : (gS (setS sts b c (S.length + 1)) b).link = (gS S b).link := by
                have := gS_set (x := ⟨(gS sts b).long, (gS sts b).fin, (gS sts b).link, setE (gS sts b).edges c (S.length + 1)⟩) (s := b) hal
                rw [if_pos rfl] at this
                show (gS (sts.set b _) b).link = _
                rw [this]
                exact hlk b hpn
              have hj2 := flatS_j (j := 2) hal (gS (setS sts b c (S.length + 1))) (fun i => if i = b then v' else ev i) rfl
              rw [hlk2] at hj2
              simp -implicitDefEqProofs only [go_sem, tys, regs0, Nat.reduceEqDiff, Nat.reduceAdd, Nat.reduceLeDiff, Nat.reduceLT, Nat.reduceMul, Int.natCast_one, Int.natCast_zero, Int.reduceEq, Int.reduceLT, Int.reduceLE, Int.reduceAdd, Int.reduceSub, Int.reduceToNat, UInt8.reduceToNat, g0, g1, g6, g7, g8, g9, hA3, hS3, hal', hj2, Int.toNat_natCast, Nat.zero_add]
              refine Again.mk (f', setS sts b c (S.length + 1), (gS S b).link, fun i => if i = b then v' else ev i) (by simp -implicitDefEqProofs only [go_sem, tys, regs0, Nat.reduceEqDiff, Nat.reduceAdd, Nat.reduceLeDiff, Nat.reduceLT, Nat.reduceMul, Int.natCast_one, Int.natCast_zero, Int.reduceEq, Int.reduceLT, Int.reduceLE, Int.reduceAdd, Int.reduceSub, Int.reduceToNat, UInt8.reduceToNat, g0, g1, g6, g7, g8, g9]) ⟨hAH3, hND.set hal c (S.length + 1), by simp only; rw [← hch, hlk b hpn], by simp only; rw [setS_len]; exact hlen2, fun i hi => ?_, fun hge => ?_⟩ (by simp only; omega)
              · have := gS_set (x := ⟨(gS sts b).long, (gS sts b).fin, (gS sts b).link, setE (gS sts b).edges c (S.length + 1)⟩) (s := i) hal
                show (gS (sts.set b _) i).link = _
                rw [this]
                split
                · rename_i e; subst e; exact hlk i hi
                · exact hlk i hi
              · simp only at hge
                rcases hLk.link b hpn with h1 | ⟨h1, h2⟩
                · omega
                · exact ⟨h1, by simp only; omega⟩
            · have y2 : decide (nxI (gS sts b).edges c = (q : Int)) = false := decide_eq_false (fun e => hq (by
                unfold nxI at e
                cases hh : nxE (gS sts b).edges c with
                | none => rw [hh] at e; simp only at e; omega
                | some t => rw [hh] at e; simp only at e; rw [show t = q by omega]))
              rw [if_neg hq] at hch
              simp -implicitDefEqProofs only [go_sem, tys, regs0, Nat.reduceEqDiff, Nat.reduceAdd, Nat.reduceLeDiff, Nat.reduceLT, Nat.reduceMul, Int.natCast_one, Int.natCast_zero, Int.reduceEq, Int.reduceLT, Int.reduceLE, Int.reduceAdd, Int.reduceSub, Int.reduceToNat, UInt8.reduceToNat, g0, g1, g6, g7, g8, g9, y2]
              exact ⟨ev, by rw [← hch]; exact hAH, by rw [← hch]; exact hND, by rw [← hch]; exact hlen2, by simp -implicitDefEqProofs only [go_sem, tys, regs0, Nat.reduceEqDiff, Nat.reduceAdd, Nat.reduceLeDiff, Nat.reduceLT, Nat.reduceMul, Int.natCast_one, Int.natCast_zero, Int.reduceEq, Int.reduceLT, Int.reduceLE, Int.reduceAdd, Int.reduceSub, Int.reduceToNat, UInt8.reduceToNat, g0, g6, g8, g9]⟩
  · refine aloop_intro (σ := Nat × List Ste × Int × (Nat → AV)) (fun s => [(0, .ptr A 0), (1, .int .u8 (c.toNat : Int)), (2, .int .i64 ((T.length + 1 : Nat) : Int)), (6, .int .i64 (S.length : Int)), (7, .int .i64 s.2.2.1)])
      (fun s G' => AH H G' A sid s.2.1 last s.2.2.2 ∧ ND s.2.1 ∧ ch1 c S.length s.1 s.2.1 s.2.2.1 = R ∧ s.2.1.length = S.length + 1 ∧ (∀ i, i < S.length → (gS s.2.1 i).link = (gS S i).link) ∧ (0 ≤ s.2.2.1 → s.2.2.1.toNat < S.length ∧ (gS S s.2.2.1.toNat).long < s.1)) (fun s => s.1) (T.length + 1 + 1, S ++ [⟨T.length + 1, T.length + 1, 0, []⟩], last, ev) ?_ ?_ ?_
    · simp -implicitDefEqProofs only [go_sem, tys, regs0, Nat.reduceEqDiff, Nat.reduceAdd, Nat.reduceLeDiff, Nat.reduceLT, Nat.reduceMul, Int.natCast_one, Int.natCast_zero, Int.reduceEq, Int.reduceLT, Int.reduceLE, Int.reduceAdd, Int.reduceSub, Int.reduceToNat, UInt8.reduceToNat, g0, g1, g2, g6]
    · refine ⟨hAH, hND0, hR, by simp, fun i hi => by rw [gS_left hi], fun _ => ⟨by simpa using hlast, ?_⟩⟩
      have := hLong last hlast
      simp only [Int.toNat_natCast]
      omega
    · clear g0 g1 g2 g6 hA1 hAH hND0
      rintro ⟨f, sts, p, ev⟩ r G2 hv ⟨hAH, hND, hch, hlen, hlk, hp⟩
      have g0 := hv.1
      have g1 := hv.2.1
      have g2 := hv.2.2.1
      have g6 := hv.2.2.2.1
      have g7 := hv.2.2.2.2.1
      clear hv
      simp only at g0 g1 g2 g6 g7 hAH hND hch hlen hlk hp
      by_cases hneg : p < 0
      · have y1 : decide (0 ≤ p) = false := decide_eq_false (by omega)
        rw [ch1_neg hneg] at hch
        simp -implicitDefEqProofs only [go_sem, tys, regs0, Nat.reduceEqDiff, Nat.reduceAdd, Nat.reduceLeDiff, Nat.reduceLT, Nat.reduceMul, Int.natCast_one, Int.natCast_zero, Int.reduceEq, Int.reduceLT, Int.reduceLE, Int.reduceAdd, Int.reduceSub, Int.reduceToNat, UInt8.reduceToNat, g0, g1, g2, g6, g7, y1]
        exact ⟨ev, by rw [← hch]; exact hAH, by rw [← hch]; exact hND, by rw [← hch]; simp -implicitDefEqProofs only [go_sem, tys, regs0, Nat.reduceEqDiff, Nat.reduceAdd, Nat.reduceLeDiff, Nat.reduceLT, Nat.reduceMul, Int.natCast_one, Int.natCast_zero, Int.reduceEq, Int.reduceLT, Int.reduceLE, Int.reduceAdd, Int.reduceSub, Int.reduceToNat, UInt8.reduceToNat, g0, g1, g2, g6, g7]⟩
      · have y1 : decide (0 ≤ p) = true := decide_eq_true (by omega)
        obtain ⟨hpn, hpl⟩ := hp (by omega)
        obtain ⟨a, rfl⟩ : ∃ a : Nat, p = a := ⟨p.toNat, by omega⟩
        rw [Int.toNat_natCast] at hpn hpl
        obtain ⟨f', rfl⟩ : ∃ f', f = f' + 1 := ⟨f - 1, by omega⟩
        rw [ch1, if_neg hneg, Int.toNat_natCast] at hch
        have hA := hAH.hA
        have hal : a < sts.length := by omega
        have hal' : (a : Int) < (sts.length : Int) := by omega
        have hj3 := flatS_j (j := 3) hal (gS sts) ev rfl
        have hnx := next_calls (c := c) hAH.hS hj3 (hAH.ed a hal) (Nat.le_trans (hND.len a) (by decide))
        simp -implicitDefEqProofs only [go_sem, tys, regs0, Nat.reduceEqDiff, Nat.reduceAdd, Nat.reduceLeDiff, Nat.reduceLT, Nat.reduceMul, Int.natCast_one, Int.natCast_zero, Int.reduceEq, Int.reduceLT, Int.reduceLE, Int.reduceAdd, Int.reduceSub, Int.reduceToNat, UInt8.reduceToNat, g0, g1, g2, g6, g7, y1, hA, hal', Int.toNat_natCast, Nat.zero_add]
        refine hnx.pure_next _ ?_
        cases hq : nxE (gS sts a).edges c with
        | some t =>
          have hnI : nxI (gS sts a).edges c = (t : Int) := by unfold nxI; rw [hq]
          have y2 : decide ((t : Int) < 0) = false := by simp
          rw [hq, if_neg (by simp)] at hch
          rw [hnI]
          simp -implicitDefEqProofs only [go_sem, tys, regs0, Nat.reduceEqDiff, Nat.reduceAdd, Nat.reduceLeDiff, Nat.reduceLT, Nat.reduceMul, Int.natCast_one, Int.natCast_zero, Int.reduceEq, Int.reduceLT, Int.reduceLE, Int.reduceAdd, Int.reduceSub, Int.reduceToNat, UInt8.reduceToNat, g0, g1, g2, g6, g7, y2]
          exact ⟨ev, by rw [← hch]; exact hAH, by rw [← hch]; exact hND, by rw [← hch]; simp -implicitDefEqProofs only [go_sem, tys, regs0, Nat.reduceEqDiff, Nat.reduceAdd, Nat.reduceLeDiff, Nat.reduceLT, Nat.reduceMul, Int.natCast_one, Int.natCast_zero, Int.reduceEq, Int.reduceLT, Int.reduceLE, Int.reduceAdd, Int.reduceSub, Int.reduceToNat, UInt8.reduceToNat, g0, g1, g2, g6, g7]⟩
        | none =>
          have hnI : nxI (gS sts a).edges c = -1 := by unfold nxI; rw [hq]
          rw [hq, if_pos rfl] at hch
          rw [hnI]
          have hset := set_calls (c := c) (t := S.length) hAH.hS hj3 (hAH.ed a hal) (Nat.le_trans (hND.len a) (by decide)) (fun n e => (hAH.fr a sid n hal e).2.2 rfl)
          simp -implicitDefEqProofs only [go_sem, tys, regs0, Nat.reduceEqDiff, Nat.reduceAdd, Nat.reduceLeDiff, Nat.reduceLT, Nat.reduceMul, Int.natCast_one, Int.natCast_zero, Int.reduceEq, Int.reduceLT, Int.reduceLE, Int.reduceAdd, Int.reduceSub, Int.reduceToNat, UInt8.reduceToNat, g0, g1, g2, g6, g7, hA, hal', Int.toNat_natCast, Nat.zero_add]
          refine hset.mono ?_
          rintro x G3 ⟨rfl, v', hP⟩
          have hAH3 := hAH.set hal hP
          have hA3 := hAH3.hA
          have hS3 := hAH3.hS
          rw [setS_len] at hA3 hS3
          have hlk2 : (gS (setS sts a c S.length) a).link = (gS S a).link := by
            have := gS_set (x := ⟨(gS sts a).long, (gS sts a).fin, (gS sts a).link, setE (gS sts a).edges c S.length⟩) (s := a) hal
            rw [if_pos rfl] at this
            show (gS (sts.set a _) a).link = _
            rw [this]
            exact hlk a hpn
          have hj2 := flatS_j (j := 2) hal (gS (setS sts a c S.length)) (fun i => if i = a then v' else ev i) rfl
          rw [hlk2] at hj2
          simp -implicitDefEqProofs only [go_sem, tys, regs0, Nat.reduceEqDiff, Nat.reduceAdd, Nat.reduceLeDiff, Nat.reduceLT, Nat.reduceMul, Int.natCast_one, Int.natCast_zero, Int.reduceEq, Int.reduceLT, Int.reduceLE, Int.reduceAdd, Int.reduceSub, Int.reduceToNat, UInt8.reduceToNat, g0, g1, g2, g6, g7, hA3, hS3, hal', hj2, Int.toNat_natCast, Nat.zero_add]
          refine Again.mk (f', setS sts a c S.length, (gS S a).link, fun i => if i = a then v' else ev i) (by simp -implicitDefEqProofs only [go_sem, tys, regs0, Nat.reduceEqDiff, Nat.reduceAdd, Nat.reduceLeDiff, Nat.reduceLT, Nat.reduceMul, Int.natCast_one, Int.natCast_zero, Int.reduceEq, Int.reduceLT, Int.reduceLE, Int.reduceAdd, Int.reduceSub, Int.reduceToNat, UInt8.reduceToNat, g0, g1, g2, g6, g7]) ⟨hAH3, hND.set hal c S.length, by simp only; rw [← hch, hlk a hpn], by simp only; rw [setS_len]; exact hlen, fun i hi => ?_, fun hge => ?_⟩ (by simp only; omega)
          · have := gS_set (x := ⟨(gS sts a).long, (gS sts a).fin, (gS sts a).link, setE (gS sts a).edges c S.length⟩) (s := i) hal
            show (gS (sts.set a _) i).link = _
            rw [this]
            split
            · rename_i e; subst e; exact hlk i hi
            · exact hlk i hi
          · simp only at hge
            rcases hLk.link a hpn with h1 | ⟨h1, h2⟩
            · omega
            · exact ⟨h1, by simp only; omega⟩
end Go.Proofs

/- Walks: the automaton of a text; how far it reads. -/
namespace Go.Proofs
open Go Go.Abs
set_option linter.unusedSimpArgs false
set_option linter.unusedVariables false
set_option maxRecDepth 20000
theorem ND.auto0 : ND auto0 := fun s => by
  cases s with
  | zero => simp [Go.Proofs.auto0, gS]
  | succ s =>
    have : gS Go.Proofs.auto0 (s + 1) = Ste.z := by unfold gS List.getD; simp [Go.Proofs.auto0]
    rw [this]; simp [Ste.z]
def NewQ (T : Bytes) (H : Heap) (x : AV) (G : Heap) : Prop := ∃ A S last, x = .ptr A 0 ∧ AOk T S last ∧ AH0 H G A S last ∧ ND S
def NewI (T : Bytes) (H : Heap) (A : Nat) (t : Nat × List Ste × Nat) (G : Heap) : Prop := t.1 ≤ T.length ∧ AOk (T.take t.1) t.2.1 t.2.2 ∧ AH0 H G A t.2.1 t.2.2 ∧ ND t.2.1
theorem newAutomaton_calls (T : Bytes) (H : Heap) (hT : T.length ≤ 65536) : ACalls Tryd.prog 17 [.str T] H (NewQ T H) := by
  refine ACalls.of_code (X := { pure := pu0 }) pu0_ok Tryd.func17 (by kernel_rfl) rfl (by kernel_rfl) (Nat.le_of_ble_eq_true rfl) ?_
  simp -implicitDefEqProofs only [go_sem, tys, regs0, Nat.reduceEqDiff, Nat.reduceAdd, Nat.reduceLeDiff, Nat.reduceLT, Nat.reduceMul, Int.natCast_one, Int.natCast_zero, Int.reduceEq, Int.reduceLT, Int.reduceLE, Int.reduceAdd, Int.reduceSub, Int.reduceToNat, UInt8.reduceToNat, Tryd.f17]
  with_reducible refine nwC_intro fun A hA => ?_
  simp -implicitDefEqProofs only [go_sem, tys, regs0, Nat.reduceEqDiff, Nat.reduceAdd, Nat.reduceLeDiff, Nat.reduceLT, Nat.reduceMul, Int.natCast_one, Int.natCast_zero, Int.reduceEq, Int.reduceLT, Int.reduceLE, Int.reduceAdd, Int.reduceSub, Int.reduceToNat, UInt8.reduceToNat]
  refine aloop_intro (σ := Nat × List Ste × Nat) (fun t => [(0, .str T), (3, .ptr A 0), (4, .int .i64 t.1)]) (NewI T H A) (fun t => T.length - t.1) (0, auto0, 0) ?_ ?_ ?_
  · simp -implicitDefEqProofs only [go_sem, tys, regs0, Nat.reduceEqDiff, Nat.reduceAdd, Nat.reduceLeDiff, Nat.reduceLT, Nat.reduceMul, Int.natCast_one, Int.natCast_zero, Int.reduceEq, Int.reduceLT, Int.reduceLE, Int.reduceAdd, Int.reduceSub, Int.reduceToNat, UInt8.reduceToNat]
  · exact ⟨Nat.zero_le _, auto0_ok, .inr ⟨rfl, rfl, (Heap.Sub.rfl' H).put' hA _, hA, put_same _ _ _⟩, ND.auto0⟩
  · rintro ⟨i, S, last⟩ r G hv ⟨hi, hok, hH, hN⟩
    have h0 := hv.1
    have h3 := hv.2.1
    have h4 := hv.2.2.1
    clear hv
    simp only at h0 h3 h4 hi hok hH hN
    by_cases hlt : i < T.length
    · have y1 : decide ((i : Int) < T.length) = true := decide_eq_true (by omega)
      obtain ⟨c, hc⟩ : ∃ c, T[i]? = some c := getD_get' hlt
      have htk : T.take (i + 1) = T.take i ++ [c] := by rw [List.take_add_one, hc]; rfl
      have hl : (T.take i).length = i := by rw [List.length_take]; omega
      have hadd := add_calls hok (by rw [hl]; omega) hN c hH
      have hok2 := hok.add c
      rw [hl] at hadd hok2
      rw [← htk] at hok2
      have w1 : IntKind.i64.wrap ((i : Int) + 1) = ((i + 1 : Nat) : Int) := by rw [Go.IntWalk.i64_in _ (by omega)]; omega
      simp -implicitDefEqProofs only [go_sem, tys, regs0, Nat.reduceEqDiff, Nat.reduceAdd, Nat.reduceLeDiff, Nat.reduceLT, Nat.reduceMul, Int.natCast_one, Int.natCast_zero, Int.reduceEq, Int.reduceLT, Int.reduceLE, Int.reduceAdd, Int.reduceSub, Int.reduceToNat, UInt8.reduceToNat, h0, h3, h4, y1, hc, w1, Int.toNat_natCast]
      refine hadd.mono ?_
      rintro x G2 ⟨rfl, hH2, hN2⟩
      simp -implicitDefEqProofs only [go_sem, tys, regs0, Nat.reduceEqDiff, Nat.reduceAdd, Nat.reduceLeDiff, Nat.reduceLT, Nat.reduceMul, Int.natCast_one, Int.natCast_zero, Int.reduceEq, Int.reduceLT, Int.reduceLE, Int.reduceAdd, Int.reduceSub, Int.reduceToNat, UInt8.reduceToNat, h0, h3, h4, w1]
      exact Again.mk (i + 1, addL S last c (i + 1), S.length) (by simp -implicitDefEqProofs only [go_sem, tys, regs0, Nat.reduceEqDiff, Nat.reduceAdd, Nat.reduceLeDiff, Nat.reduceLT, Nat.reduceMul, Int.natCast_one, Int.natCast_zero, Int.reduceEq, Int.reduceLT, Int.reduceLE, Int.reduceAdd, Int.reduceSub, Int.reduceToNat, UInt8.reduceToNat, h0, h3, h4]) ⟨by simp only; omega, hok2, hH2, hN2⟩ (by simp only; omega)
    · have y1 : decide ((i : Int) < T.length) = false := decide_eq_false (by omega)
      obtain rfl : i = T.length := by omega
      rw [List.take_length] at hok
      simp -implicitDefEqProofs only [go_sem, tys, regs0, Nat.reduceEqDiff, Nat.reduceAdd, Nat.reduceLeDiff, Nat.reduceLT, Nat.reduceMul, Int.natCast_one, Int.natCast_zero, Int.reduceEq, Int.reduceLT, Int.reduceLE, Int.reduceAdd, Int.reduceSub, Int.reduceToNat, UInt8.reduceToNat, h0, h3, h4, y1]
      exact Done.now ⟨A, S, last, rfl, hok, hH, hN⟩
structure ARs (H G : Heap) (A sid : Nat) (S : List Ste) (ev : Nat → AV) : Prop where
  nA : H A = none
  nS : H sid = none
  hA : ∃ last, G A = some (.cells [.ms sid 0 S.length 4, .int .i64 last])
  hS : G sid = some (.cells (flatS S.length (gS S) ev))
  ed : ∀ s, s < S.length → EdgeV G (ev s) (gS S s).edges
  fr : ∀ s e n, s < S.length → ev s = .ms e 0 n 2 → H e = none
/-- The automaton is there, to be read. -/
def AR (H G : Heap) (A : Nat) (S : List Ste) : Prop := (∃ sid ev, ARs H G A sid S ev) ∨ (S = auto0 ∧ H A = none ∧ G A = some (.cells [.sl [[.int .i64 0, .int .i64 0, .int .i64 (-1), .sl [] .exact]] .exact, .int .i64 0]))
theorem AH0.ar {H G : Heap} {A : Nat} {S : List Ste} {last : Nat} (h : AH0 H G A S last) : AR H G A S := by
  rcases h with ⟨sid, ev, h⟩ | ⟨h1, _, h2, h3, h4⟩
  · exact .inl ⟨sid, ev, h.nA, h.nS, ⟨_, h.hA⟩, h.hS, h.ed, fun s e n hs he => (h.fr s e n hs he).1⟩
  · exact .inr ⟨h1, h3, h4⟩
theorem AR.kept {H G G' : Heap} {A : Nat} {S : List Ste} (h : AR H G A S) (hk : Kept G G') : AR H G' A S := by
  rcases h with ⟨sid, ev, h⟩ | ⟨h1, h2, h3⟩
  · obtain ⟨last, hA⟩ := h.hA
    exact .inl ⟨sid, ev, h.nA, h.nS, ⟨last, hk.cells hA⟩, hk.cells h.hS, fun s hs => (h.ed s hs).mono fun e n he => by rw [((h.ed s hs).there he).1, hk.cells ((h.ed s hs).there he).1], h.fr⟩
  · exact .inr ⟨h1, h2, hk.cells h3⟩
theorem AR.put {H G : Heap} {A : Nat} {S : List Ste} (h : AR H G A S) {i : Nat} {o : AObj} (hi : H i = some o) (o' : AObj) : AR H (G.put i o') A S := by
  have ne : ∀ j, H j = none → ¬ j = i := fun j hj e => by rw [e, hi] at hj; cases hj
  rcases h with ⟨sid, ev, h⟩ | ⟨h1, h2, h3⟩
  · obtain ⟨last, hA⟩ := h.hA
    exact .inl ⟨sid, ev, h.nA, h.nS, ⟨last, by rw [put_ne _ _ _ _ (ne _ h.nA)]; exact hA⟩, by rw [put_ne _ _ _ _ (ne _ h.nS)]; exact h.hS, fun s hs => (h.ed s hs).mono fun e n he => put_ne _ _ _ _ (ne _ (h.fr s e n hs he)), h.fr⟩
  · exact .inr ⟨h1, h2, by rw [put_ne _ _ _ _ (ne _ h2)]; exact h3⟩
theorem flatS_1 {n s : Nat} (hs : s < n) (g : Nat → Ste) (ev : Nat → AV) : ((flatS n g ev).drop (s * 4 + 1)).head? = some (.int .i64 ((g s).fin : Int)) := flatS_j (j := 1) hs g ev rfl
theorem next_r (c : UInt8) (G : Heap) : ACalls Tryd.prog 35 [.rptr [.int .i64 0, .int .i64 0, .int .i64 (-1), .sl [] .exact], .int .u8 (c.toNat : Int)] G fun x G' => x = .int .i64 (-1) ∧ G' = G := by
  refine ACalls.of_code (X := { pure := pu0 }) pu0_ok Tryd.func35 (by kernel_rfl) rfl (by kernel_rfl) (Nat.le_of_ble_eq_true rfl) ?_
  simp -implicitDefEqProofs only [go_sem, tys, regs0, Nat.reduceEqDiff, Nat.reduceAdd, Nat.reduceLeDiff, Nat.reduceLT, Nat.reduceMul, Int.natCast_one, Int.natCast_zero, Int.reduceEq, Int.reduceLT, Int.reduceLE, Int.reduceAdd, Int.reduceSub, Int.reduceToNat, UInt8.reduceToNat, Tryd.f35]
  refine aloop_intro (σ := Unit) (fun _ => [(11, .int .i64 0), (12, .int .i64 0)]) (fun _ G' => G' = G) (fun _ => 0) () ?_ rfl ?_
  · simp -implicitDefEqProofs only [go_sem, tys, regs0, Nat.reduceEqDiff, Nat.reduceAdd, Nat.reduceLeDiff, Nat.reduceLT, Nat.reduceMul, Int.natCast_one, Int.natCast_zero, Int.reduceEq, Int.reduceLT, Int.reduceLE, Int.reduceAdd, Int.reduceSub, Int.reduceToNat, UInt8.reduceToNat]
  · rintro u r G' hr rfl
    have h11 := hr.1
    have h12 := hr.2.1
    simp -implicitDefEqProofs only [go_sem, tys, regs0, Nat.reduceEqDiff, Nat.reduceAdd, Nat.reduceLeDiff, Nat.reduceLT, Nat.reduceMul, Int.natCast_one, Int.natCast_zero, Int.reduceEq, Int.reduceLT, Int.reduceLE, Int.reduceAdd, Int.reduceSub, Int.reduceToNat, UInt8.reduceToNat, h11, h12]
    exact Done.now ⟨rfl, rfl⟩
def LongQ (S : List Ste) (w : Bytes) (G : Heap) (x : AV) (G' : Heap) : Prop := x = .tup [.int .i64 (((gS S (readL S 0 w).2).fin : Int) - ((readL S 0 w).1 : Int)), .int .i64 ((readL S 0 w).1 : Int)] ∧ G' = G
def LongI (S : List Ste) (w : Bytes) (G : Heap) (t : Nat × Nat) (G' : Heap) : Prop := G' = G ∧ t.1 ≤ w.length ∧ t.2 < S.length ∧ readL S 0 w = (t.1 + (readL S t.2 (w.drop t.1)).1, (readL S t.2 (w.drop t.1)).2)
theorem longest_calls {H G : Heap} {A : Nat} {S : List Ste} (h : AR H G A S) (hN : ND S) (hL : Lk S) (hfin : ∀ s, s < S.length → (gS S s).fin ≤ 65536) (w : Bytes) (hw : w.length ≤ 65536) :
    ACalls Tryd.prog 18 [.ptr A 0, .str w] G (LongQ S w G) := by
  rcases h with ⟨sid, ev, h⟩ | ⟨rfl, _, hA⟩
  · obtain ⟨last, hA⟩ := h.hA
    have hS := h.hS
    refine ACalls.of_code (X := { pure := pu0 }) pu0_ok Tryd.func18 (by kernel_rfl) rfl (by kernel_rfl) (Nat.le_of_ble_eq_true rfl) ?_
    simp -implicitDefEqProofs only [go_sem, tys, regs0, Nat.reduceEqDiff, Nat.reduceAdd, Nat.reduceLeDiff, Nat.reduceLT, Nat.reduceMul, Int.natCast_one, Int.natCast_zero, Int.reduceEq, Int.reduceLT, Int.reduceLE, Int.reduceAdd, Int.reduceSub, Int.reduceToNat, UInt8.reduceToNat, Tryd.f18]
    refine aloop_intro (σ := Nat × Nat) (fun t => [(0, .ptr A 0), (1, .str w), (5, .int .i64 t.1), (6, .int .i64 t.2)]) (LongI S w G) (fun t => w.length - t.1) (0, 0) ?_ ?_ ?_
    · simp -implicitDefEqProofs only [go_sem, tys, regs0, Nat.reduceEqDiff, Nat.reduceAdd, Nat.reduceLeDiff, Nat.reduceLT, Nat.reduceMul, Int.natCast_one, Int.natCast_zero, Int.reduceEq, Int.reduceLT, Int.reduceLE, Int.reduceAdd, Int.reduceSub, Int.reduceToNat, UInt8.reduceToNat]
    · exact ⟨rfl, Nat.zero_le _, hL.pos, by simp⟩
    · rintro ⟨n, s⟩ r G' hv ⟨rfl, hn, hs, hr⟩
      have h0 := hv.1
      have h1 := hv.2.1
      have h5 := hv.2.2.1
      have h6 := hv.2.2.2.1
      clear hv
      simp only at h0 h1 h5 h6 hn hs hr
      have hs' : (s : Int) < (S.length : Int) := by omega
      have hj1 := flatS_1 hs (gS S) ev
      have hj3 := flatS_j (j := 3) hs (gS S) ev rfl
      have hf := hfin s hs
      have w2 : IntKind.i64.wrap (((gS S s).fin : Int) - (n : Int)) = ((gS S s).fin : Int) - (n : Int) := Go.IntWalk.i64_in _ (by omega)
      by_cases hlt : n < w.length
      · have y1 : decide ((n : Int) < w.length) = true := decide_eq_true (by omega)
        obtain ⟨c, hc⟩ : ∃ c, w[n]? = some c := getD_get' hlt
        have hdc := drop_cons hc
        have hnx := next_calls (c := c) hS hj3 (h.ed s hs) (Nat.le_trans (hN.len s) (by decide))
        have w1 : IntKind.i64.wrap ((n : Int) + 1) = ((n + 1 : Nat) : Int) := by rw [Go.IntWalk.i64_in _ (by omega)]; omega
        rw [hdc, readL] at hr
        simp -implicitDefEqProofs only [go_sem, tys, regs0, Nat.reduceEqDiff, Nat.reduceAdd, Nat.reduceLeDiff, Nat.reduceLT, Nat.reduceMul, Int.natCast_one, Int.natCast_zero, Int.reduceEq, Int.reduceLT, Int.reduceLE, Int.reduceAdd, Int.reduceSub, Int.reduceToNat, UInt8.reduceToNat, h0, h1, h5, h6, y1, hA, hs', hc, Int.toNat_natCast, Nat.zero_add]
        refine hnx.pure_next _ ?_
        cases hq : nxE (gS S s).edges c with
        | some t =>
          have hnI : nxI (gS S s).edges c = (t : Int) := by unfold nxI; rw [hq]
          have y2 : decide ((t : Int) < 0) = false := by simp
          rw [hq] at hr
          simp only at hr
          rw [hnI]
          simp -implicitDefEqProofs only [go_sem, tys, regs0, Nat.reduceEqDiff, Nat.reduceAdd, Nat.reduceLeDiff, Nat.reduceLT, Nat.reduceMul, Int.natCast_one, Int.natCast_zero, Int.reduceEq, Int.reduceLT, Int.reduceLE, Int.reduceAdd, Int.reduceSub, Int.reduceToNat, UInt8.reduceToNat, h0, h1, h5, h6, y2, w1]
          exact Again.mk (n + 1, t) (by simp -implicitDefEqProofs only [go_sem, tys, regs0, Nat.reduceEqDiff, Nat.reduceAdd, Nat.reduceLeDiff, Nat.reduceLT, Nat.reduceMul, Int.natCast_one, Int.natCast_zero, Int.reduceEq, Int.reduceLT, Int.reduceLE, Int.reduceAdd, Int.reduceSub, Int.reduceToNat, UInt8.reduceToNat, h0, h1, h5, h6]) ⟨rfl, by simp only; omega, hL.edge s c t hs hq, by rw [hr]; simp only; congr 1; omega⟩ (by simp only; omega)
        | none =>
          have hnI : nxI (gS S s).edges c = -1 := by unfold nxI; rw [hq]
          rw [hq] at hr
          simp only at hr
          rw [hnI]
          simp -implicitDefEqProofs only [go_sem, tys, regs0, Nat.reduceEqDiff, Nat.reduceAdd, Nat.reduceLeDiff, Nat.reduceLT, Nat.reduceMul, Int.natCast_one, Int.natCast_zero, Int.reduceEq, Int.reduceLT, Int.reduceLE, Int.reduceAdd, Int.reduceSub, Int.reduceToNat, UInt8.reduceToNat, h0, h1, h5, h6, hA, hS, hs', Int.toNat_natCast, Nat.zero_add, hj1, w2]
          refine Done.now ⟨?_, rfl⟩
          rw [hr]
          simp
      · have y1 : decide ((n : Int) < w.length) = false := decide_eq_false (by omega)
        rw [List.drop_eq_nil_of_le (by omega), readL] at hr
        simp -implicitDefEqProofs only [go_sem, tys, regs0, Nat.reduceEqDiff, Nat.reduceAdd, Nat.reduceLeDiff, Nat.reduceLT, Nat.reduceMul, Int.natCast_one, Int.natCast_zero, Int.reduceEq, Int.reduceLT, Int.reduceLE, Int.reduceAdd, Int.reduceSub, Int.reduceToNat, UInt8.reduceToNat, h0, h1, h5, h6, y1, hA, hS, hs', Int.toNat_natCast, Nat.zero_add, hj1, w2]
        refine Done.now ⟨?_, rfl⟩
        rw [hr]
        simp
  · have hr : readL auto0 0 w = (0, 0) := by cases w <;> rfl
    have hz : (gS auto0 0).fin = 0 := rfl
    refine ACalls.of_code (X := { pure := pu0 }) pu0_ok Tryd.func18 (by kernel_rfl) rfl (by kernel_rfl) (Nat.le_of_ble_eq_true rfl) ?_
    simp -implicitDefEqProofs only [go_sem, tys, regs0, Nat.reduceEqDiff, Nat.reduceAdd, Nat.reduceLeDiff, Nat.reduceLT, Nat.reduceMul, Int.natCast_one, Int.natCast_zero, Int.reduceEq, Int.reduceLT, Int.reduceLE, Int.reduceAdd, Int.reduceSub, Int.reduceToNat, UInt8.reduceToNat, Tryd.f18]
    refine aloop_intro (σ := Unit) (fun t => [(0, .ptr A 0), (1, .str w), (5, .int .i64 0), (6, .int .i64 0)]) (fun _ G' => G' = G) (fun t => 0) () ?_ rfl ?_
    · simp -implicitDefEqProofs only [go_sem, tys, regs0, Nat.reduceEqDiff, Nat.reduceAdd, Nat.reduceLeDiff, Nat.reduceLT, Nat.reduceMul, Int.natCast_one, Int.natCast_zero, Int.reduceEq, Int.reduceLT, Int.reduceLE, Int.reduceAdd, Int.reduceSub, Int.reduceToNat, UInt8.reduceToNat]
    · rintro u r G' hv rfl
      have h0 := hv.1
      have h1 := hv.2.1
      have h5 := hv.2.2.1
      have h6 := hv.2.2.2.1
      clear hv
      by_cases hlt : 0 < w.length
      · have y1 : decide ((0 : Int) < w.length) = true := decide_eq_true (by omega)
        obtain ⟨c, hc⟩ : ∃ c, w[0]? = some c := getD_get' hlt
        have hnx := next_r c G'
        simp -implicitDefEqProofs only [go_sem, tys, regs0, Nat.reduceEqDiff, Nat.reduceAdd, Nat.reduceLeDiff, Nat.reduceLT, Nat.reduceMul, Int.natCast_one, Int.natCast_zero, Int.reduceEq, Int.reduceLT, Int.reduceLE, Int.reduceAdd, Int.reduceSub, Int.reduceToNat, UInt8.reduceToNat, h0, h1, h5, h6, y1, hA, hc]
        refine hnx.pure_next _ ?_
        simp -implicitDefEqProofs only [go_sem, tys, regs0, Nat.reduceEqDiff, Nat.reduceAdd, Nat.reduceLeDiff, Nat.reduceLT, Nat.reduceMul, Int.natCast_one, Int.natCast_zero, Int.reduceEq, Int.reduceLT, Int.reduceLE, Int.reduceAdd, Int.reduceSub, Int.reduceToNat, UInt8.reduceToNat, h0, h1, h5, h6, hA]
        refine Done.now ⟨?_, rfl⟩
        rw [hr]; rfl
      · have y1 : decide ((0 : Int) < w.length) = false := decide_eq_false (by omega)
        simp -implicitDefEqProofs only [go_sem, tys, regs0, Nat.reduceEqDiff, Nat.reduceAdd, Nat.reduceLeDiff, Nat.reduceLT, Nat.reduceMul, Int.natCast_one, Int.natCast_zero, Int.reduceEq, Int.reduceLT, Int.reduceLE, Int.reduceAdd, Int.reduceSub, Int.reduceToNat, UInt8.reduceToNat, h0, h1, h5, h6, y1, hA]
        refine Done.now ⟨?_, rfl⟩
        rw [hr]; rfl
end Go.Proofs
