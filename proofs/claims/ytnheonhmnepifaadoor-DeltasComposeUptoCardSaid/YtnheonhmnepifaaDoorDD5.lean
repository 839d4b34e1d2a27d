/- Walks: pieces are joined, both sides. -/
import Derived.Test.YtnheonhmnepifaaDoorDD4
import Derived.Test.YtnheonhmnepifaaDoorPD2
namespace Go.Proofs
open Go Go.Abs
set_option linter.unusedSimpArgs false
set_option linter.unusedVariables false
/-- A list that is made by append, and written. -/
def MsL (H G : Heap) (v : AV) (out : List PieceV) : Prop := (out = [] ∧ v = .sl [] .exact) ∨ ∃ id, out ≠ [] ∧ v = .ms id 0 out.length 3 ∧ H id = none ∧ G id = some (.cells (out.map encPc).flatten)
def puD3 : Pures := putP 61 sJoin puD2
theorem puD3_ok : PuOK Tryd.prog puD3 := by
  refine PuOK.put puD2_ok ?_
  intro xs v hv H
  obtain ⟨x, y, p, q, rfl, h1, h2, h3⟩ := fn2_some hv
  split at h3
  · rename_i hh
    obtain ⟨rfl, hl, hb⟩ := hh
    cases h3
    obtain ⟨t, rfl⟩ := Rd.list_some (enc := encS) (fun _ _ => decS_some) h1
    cases Rd.str_some h2
    exact join_calls _ _ H hl hb
  · cases h3
theorem encPc_unif (l : List PieceV) : Unif 3 (l.map encPc) := by
  intro c hc
  simp only [List.mem_map] at hc
  obtain ⟨b, _, rfl⟩ := hc
  rfl
set_option maxRecDepth 20000 in
set_option maxHeartbeats 3200000 in
theorem joined_calls (l : List PieceV) (t : Tail) (H : Heap) (hr : jR l) : ACalls Tryd.prog 80 [.sl (l.map encPc) t] H fun x H' => x = .sl ((joinedV l).map encPc) .unk ∧ H' = H := by
  refine ACalls.of_code (X := { pure := puD3 }) puD3_ok Tryd.func80 (by kernel_rfl) rfl (by kernel_rfl) (Nat.le_of_ble_eq_true rfl) ?_
  simp -implicitDefEqProofs only [go_sem, tys, regs0, Nat.reduceEqDiff, Nat.reduceAdd, Nat.reduceLeDiff, Nat.reduceLT, Nat.reduceMul, Int.natCast_one, Int.natCast_zero, Int.reduceEq, Int.reduceLT, Int.reduceLE, Int.reduceAdd, Int.reduceSub, Int.reduceToNat, UInt8.reduceToNat, Tryd.f80]
  refine aloop_intro (σ := Nat × List PieceV × Tail) (fun s => [(0, .sl (l.map encPc) t), (3, .sl (s.2.1.map encPc) s.2.2), (4, .int .i64 s.1)])
    (fun s G => AppOK H G 3 (s.2.1.map encPc) s.2.2 ∧ s.1 ≤ l.length ∧ s.2.1.length ≤ s.1 ∧ joinedV l = s.2.1 ++ joinedV (l.drop s.1)) (fun s => l.length - s.1) (0, [], .exact) ?_ ?_ ?_
  · simp -implicitDefEqProofs only [go_sem, tys, regs0, Nat.reduceEqDiff, Nat.reduceAdd, Nat.reduceLeDiff, Nat.reduceLT, Nat.reduceMul, Int.natCast_one, Int.natCast_zero, Int.reduceEq, Int.reduceLT, Int.reduceLE, Int.reduceAdd, Int.reduceSub, Int.reduceToNat, UInt8.reduceToNat]
  · exact ⟨AppOK.nil (Heap.Sub.rfl' H), by omega, by simp, by simp⟩
  · intro s r G hv hI
    obtain ⟨i, out, tl⟩ := s
    have h0 := hv.1
    have h3 := hv.2.1
    have h4 := hv.2.2.1
    have hA := hI.1
    have hi := hI.2.1
    have ho := hI.2.2.1
    have hJ := hI.2.2.2
    clear hv hI
    simp only at h0 h3 h4 hA hi ho hJ
    simp -implicitDefEqProofs only [go_sem, tys, regs0, Nat.reduceEqDiff, Nat.reduceAdd, Nat.reduceLeDiff, Nat.reduceLT, Nat.reduceMul, Int.natCast_one, Int.natCast_zero, Int.reduceEq, Int.reduceLT, Int.reduceLE, Int.reduceAdd, Int.reduceSub, Int.reduceToNat, UInt8.reduceToNat, h0, h3, h4]
    refine cnd_intro (fun g => ?_) (fun g => ?_)
    · simp only [decide_eq_true_eq] at g
      obtain ⟨p, hp⟩ : ∃ p, l[i]? = some p := getD_get' (by omega)
      have hbp := hr.2 p (List.mem_of_getElem? hp)
      have hll := hr.1
      have hJ2 : joinedV l = out ++ joinR p (l.drop (i + 1)) := by rw [hJ, drop_cons hp]; rfl
      simp -implicitDefEqProofs only [go_sem, tys, regs0, Nat.reduceEqDiff, Nat.reduceAdd, Nat.reduceLeDiff, Nat.reduceLT, Nat.reduceMul, Int.natCast_one, Int.natCast_zero, Int.reduceEq, Int.reduceLT, Int.reduceLE, Int.reduceAdd, Int.reduceSub, Int.reduceToNat, UInt8.reduceToNat, h0, h3, h4, hp, encPc]
      with_reducible refine nwC_intro fun id hid => ?_
      have hidH := sub_none hA.sub hid
      simp -implicitDefEqProofs (disch := omega) only [go_sem, tys, regs0, Nat.reduceEqDiff, Nat.reduceAdd, Nat.reduceLeDiff, Nat.reduceLT, Nat.reduceMul, Int.natCast_one, Int.natCast_zero, Int.reduceEq, Int.reduceLT, Int.reduceLE, Int.reduceAdd, Int.reduceSub, Int.reduceToNat, UInt8.reduceToNat, Go.IntWalk.i64_in, h0, h3, h4, hp, encPc]
      have hA0 : AppOK G (G.put id (.cells [.int .i64 p.at_, .int .i64 p.long, .str p.data])) 1 (([] : List Bytes).map encS) .exact := by
        simpa using AppOK.nil ((Heap.Sub.rfl' G).put' hid _)
      with_reducible refine aloop_cut 2 (fun r G' => ∃ (i' : Nat) (long : Int) (ds : List Bytes) (tl' : Tail), agrees r [(0, .sl (l.map encPc) t), (3, .sl (out.map encPc) tl), (4, .int .i64 i'), (5, .ptr id 0), (6, .sl (ds.map encS) tl')] ∧
          AppOK G G' 1 (ds.map encS) tl' ∧ G' id = some (.cells [.int .i64 p.at_, .int .i64 long, .str p.data]) ∧ i < i' ∧ i' ≤ l.length ∧ ds.length ≤ i' ∧ (p.data = [] → ds = []) ∧ bnd (i' - i) ⟨p.at_, long, p.data ++ ds.flatten⟩ ∧
          joinedV l = out ++ ⟨p.at_, long, p.data ++ ds.flatten⟩ :: joinedV (l.drop i')) ?_ ?_
      · rintro r G' ⟨i', long, ds, tl', hv, kA, kP, ki, ki2, kl, kd, kb, kJ⟩
        have k0 := hv.1
        have k3 := hv.2.1
        have k4 := hv.2.2.1
        have k5 := hv.2.2.2.1
        have k6 := hv.2.2.2.2.1
        clear hv
        have hA2 := hA.sub2 kA.sub
        have kb2 := kb.2
        simp only [List.length_append] at kb2
        simp -implicitDefEqProofs only [go_sem, tys, regs0, Nat.reduceEqDiff, Nat.reduceAdd, Nat.reduceLeDiff, Nat.reduceLT, Nat.reduceMul, Int.natCast_one, Int.natCast_zero, Int.reduceEq, Int.reduceLT, Int.reduceLE, Int.reduceAdd, Int.reduceSub, Int.reduceToNat, UInt8.reduceToNat, k0, k3, k4, k5, k6, kP]
        refine cnd_intro (fun g2 => ?_) (fun g2 => ?_)
        · have hj := sJoin_eq ds tl' (by omega) (by omega)
          have hle : (((p.data.length + ds.flatten.length : Nat)) : Int) ≤ 9223372036854775807 := by omega
          simp -implicitDefEqProofs only [go_sem, tys, regs0, Nat.reduceEqDiff, Nat.reduceAdd, Nat.reduceLeDiff, Nat.reduceLT, Nat.reduceMul, Int.natCast_one, Int.natCast_zero, Int.reduceEq, Int.reduceLT, Int.reduceLE, Int.reduceAdd, Int.reduceSub, Int.reduceToNat, UInt8.reduceToNat, k0, k3, k4, k5, k6, kP, puD3, hj, hle]
          refine AppOK.step (hA2.set hidH kP (fun n e => by cases e)) (encPc_unif out) (by simp) (by simp; omega) (by simp; omega) (fun tl2 G2 hA3 hK => ?_)
          simp -implicitDefEqProofs (disch := omega) only [go_sem, tys, regs0, Nat.reduceEqDiff, Nat.reduceAdd, Nat.reduceLeDiff, Nat.reduceLT, Nat.reduceMul, Int.natCast_one, Int.natCast_zero, Int.reduceEq, Int.reduceLT, Int.reduceLE, Int.reduceAdd, Int.reduceSub, Int.reduceToNat, UInt8.reduceToNat, Go.IntWalk.i64_in, k0, k3, k4, k5, k6]
          exact Again.mk (i', out ++ [⟨p.at_, long, p.data ++ ds.flatten⟩], tl2) (by simp -implicitDefEqProofs only [go_sem, tys, regs0, Nat.reduceEqDiff, Nat.reduceAdd, Nat.reduceLeDiff, Nat.reduceLT, Nat.reduceMul, Int.natCast_one, Int.natCast_zero, Int.reduceEq, Int.reduceLT, Int.reduceLE, Int.reduceAdd, Int.reduceSub, Int.reduceToNat, UInt8.reduceToNat, k0, k3, k4, k5, k6]; simp [encPc]) ⟨by simpa [encPc] using hA3, by simp only; omega, by simp only [List.length_append, List.length_singleton]; omega, by simp only [List.append_assoc]; exact kJ⟩ (by simp only; omega)
        · have hds : ds = [] := by
            have : ¬ (0 : Int) < ds.length := by simpa using g2
            exact List.eq_nil_of_length_eq_zero (by omega)
          subst hds
          simp only [List.flatten_nil, List.append_nil] at kJ
          simp -implicitDefEqProofs only [go_sem, tys, regs0, Nat.reduceEqDiff, Nat.reduceAdd, Nat.reduceLeDiff, Nat.reduceLT, Nat.reduceMul, Int.natCast_one, Int.natCast_zero, Int.reduceEq, Int.reduceLT, Int.reduceLE, Int.reduceAdd, Int.reduceSub, Int.reduceToNat, UInt8.reduceToNat, k0, k3, k4, k5, k6, kP]
          refine AppOK.step hA2 (encPc_unif out) (by simp) (by simp; omega) (by simp; omega) (fun tl2 G2 hA3 hK => ?_)
          simp -implicitDefEqProofs (disch := omega) only [go_sem, tys, regs0, Nat.reduceEqDiff, Nat.reduceAdd, Nat.reduceLeDiff, Nat.reduceLT, Nat.reduceMul, Int.natCast_one, Int.natCast_zero, Int.reduceEq, Int.reduceLT, Int.reduceLE, Int.reduceAdd, Int.reduceSub, Int.reduceToNat, UInt8.reduceToNat, Go.IntWalk.i64_in, k0, k3, k4, k5, k6]
          exact Again.mk (i', out ++ [⟨p.at_, long, p.data⟩], tl2) (by simp -implicitDefEqProofs only [go_sem, tys, regs0, Nat.reduceEqDiff, Nat.reduceAdd, Nat.reduceLeDiff, Nat.reduceLT, Nat.reduceMul, Int.natCast_one, Int.natCast_zero, Int.reduceEq, Int.reduceLT, Int.reduceLE, Int.reduceAdd, Int.reduceSub, Int.reduceToNat, UInt8.reduceToNat, k0, k3, k4, k5, k6]; simp [encPc]) ⟨by simpa [encPc] using hA3, by simp only; omega, by simp only [List.length_append, List.length_singleton]; omega, by simp only [List.append_assoc]; exact kJ⟩ (by simp only; omega)
      refine aloop_intro (σ := Nat × Int × List Bytes × Tail) (fun s => [(0, .sl (l.map encPc) t), (3, .sl (out.map encPc) tl), (4, .int .i64 s.1), (5, .ptr id 0), (6, .sl (s.2.2.1.map encS) s.2.2.2)])
        (fun s G' => AppOK G G' 1 (s.2.2.1.map encS) s.2.2.2 ∧ G' id = some (.cells [.int .i64 p.at_, .int .i64 s.2.1, .str p.data]) ∧ i < s.1 ∧ s.1 ≤ l.length ∧ s.2.2.1.length ≤ s.1 ∧ (p.data = [] → s.2.2.1 = []) ∧ bnd (s.1 - i) ⟨p.at_, s.2.1, p.data ++ s.2.2.1.flatten⟩ ∧
          joinedV l = out ++ joinR ⟨p.at_, s.2.1, p.data ++ s.2.2.1.flatten⟩ (l.drop s.1)) (fun s => l.length - s.1) (i + 1, p.long, [], .exact) ?_ ?_ ?_
      · simp -implicitDefEqProofs only [go_sem, tys, regs0, Nat.reduceEqDiff, Nat.reduceAdd, Nat.reduceLeDiff, Nat.reduceLT, Nat.reduceMul, Int.natCast_one, Int.natCast_zero, Int.reduceEq, Int.reduceLT, Int.reduceLE, Int.reduceAdd, Int.reduceSub, Int.reduceToNat, UInt8.reduceToNat, h0, h3, h4]
        simp
      · exact ⟨hA0, put_same _ _ _, by simp only; omega, by simp only; omega, by simp, fun _ => rfl, by simp only; rw [show i + 1 - i = 1 from by omega]; simpa using hbp, by simpa using hJ2⟩
      · intro s r G' hv hI
        obtain ⟨i', long, ds, tl'⟩ := s
        have k0 := hv.1
        have k3 := hv.2.1
        have k4 := hv.2.2.1
        have k5 := hv.2.2.2.1
        have k6 := hv.2.2.2.2.1
        have kA := hI.1
        have kP := hI.2.1
        have ki := hI.2.2.1
        have ki2 := hI.2.2.2.1
        have kl := hI.2.2.2.2.1
        have kd := hI.2.2.2.2.2.1
        have kb := hI.2.2.2.2.2.2.1
        have kJ := hI.2.2.2.2.2.2.2
        clear hv hI
        simp only at k0 k3 k4 k5 k6 kA kP ki ki2 kl kd kb kJ
        simp -implicitDefEqProofs only [go_sem, tys, regs0, Nat.reduceEqDiff, Nat.reduceAdd, Nat.reduceLeDiff, Nat.reduceLT, Nat.reduceMul, Int.natCast_one, Int.natCast_zero, Int.reduceEq, Int.reduceLT, Int.reduceLE, Int.reduceAdd, Int.reduceSub, Int.reduceToNat, UInt8.reduceToNat, k0, k3, k4, k5, k6]
        refine cnd_intro (fun g2 => ?_) (fun g2 => ?_)
        · simp only [decide_eq_true_eq] at g2
          obtain ⟨n, hn⟩ : ∃ n, l[i']? = some n := getD_get' (by omega)
          have hbn := hr.2 n (List.mem_of_getElem? hn)
          have hdr := drop_cons hn
          rw [hdr] at kJ
          have hjn : joinedV (l.drop i') = joinR n (l.drop (i' + 1)) := by rw [hdr]; rfl
          have hq0 : p.data ++ ds.flatten = [] ↔ p.data = [] := by
            constructor
            · intro e; simp at e; exact e.1
            · intro e; rw [e, kd e]; rfl
          have hmg := fun q => hbn |> fun hb => kb.merge (n := n) (q := q) hb
          have hm := pcMerge.eq_1 ⟨p.at_, long, p.data ++ ds.flatten⟩ n
          simp only [hq0, ne_eq] at hm
          simp -implicitDefEqProofs only [go_sem, tys, regs0, Nat.reduceEqDiff, Nat.reduceAdd, Nat.reduceLeDiff, Nat.reduceLT, Nat.reduceMul, Int.natCast_one, Int.natCast_zero, Int.reduceEq, Int.reduceLT, Int.reduceLE, Int.reduceAdd, Int.reduceSub, Int.reduceToNat, UInt8.reduceToNat, k0, k3, k4, k5, k6, hn, encPc]
          with_reducible refine nwC_intro fun id7 hid7 => ?_
          have n7 : ¬ id = id7 := fun e => by subst e; rw [kP] at hid7; cases hid7
          have kA7 := kA.put hid7 (.cells [.int .i64 n.at_, .int .i64 n.long, .str n.data])
          have kP7 : (G'.put id7 (.cells [.int .i64 n.at_, .int .i64 n.long, .str n.data])) id = some (.cells [.int .i64 p.at_, .int .i64 long, .str p.data]) := by rw [put_ne _ _ _ _ n7]; exact kP
          simp +contextual -implicitDefEqProofs only [go_sem, gd_M, tys, regs0, Nat.reduceEqDiff, Nat.reduceAdd, Nat.reduceLeDiff, Nat.reduceLT, Nat.reduceMul, Int.natCast_one, Int.natCast_zero, Int.reduceEq, Int.reduceLT, Int.reduceLE, Int.reduceAdd, Int.reduceSub, Int.reduceToNat, UInt8.reduceToNat, k0, k3, k4, k5, k6, kP7]
          have hw : p.data = [] → IntKind.i64.wrap (p.at_ + long) = p.at_ + long := fun e => by
            have := kb.1 (by simpa using hq0.2 e)
            exact Go.IntWalk.i64_in _ (by simp only at this; omega)
          refine cnd_intro (fun g3 => ?_) (fun g3 => ?_)
          · simp only [Bool.and_eq_true, decide_eq_true_eq] at g3
            obtain ⟨⟨e1, e2⟩, e3⟩ := g3
            rw [hw e1] at e3
            rw [if_pos ⟨e1, e2, e3⟩] at hm
            rw [joinR_some hm] at kJ
            have kb' := hmg _ hm
            have hdn := kd e1
            subst hdn
            have b1 := kb.1 (by simpa using e1)
            have b2 := hbn.1 e2
            simp only at b1
            simp -implicitDefEqProofs (disch := omega) only [go_sem, tys, regs0, Nat.reduceEqDiff, Nat.reduceAdd, Nat.reduceLeDiff, Nat.reduceLT, Nat.reduceMul, Int.natCast_one, Int.natCast_zero, Int.reduceEq, Int.reduceLT, Int.reduceLE, Int.reduceAdd, Int.reduceSub, Int.reduceToNat, UInt8.reduceToNat, Go.IntWalk.i64_in, k0, k3, k4, k5, k6, kP7, put_ne, n7]
            refine Again.mk (i' + 1, long + n.long, [], tl') (by simp -implicitDefEqProofs only [go_sem, tys, regs0, Nat.reduceEqDiff, Nat.reduceAdd, Nat.reduceLeDiff, Nat.reduceLT, Nat.reduceMul, Int.natCast_one, Int.natCast_zero, Int.reduceEq, Int.reduceLT, Int.reduceLE, Int.reduceAdd, Int.reduceSub, Int.reduceToNat, UInt8.reduceToNat, k0, k3, k4, k5, k6]; exact rfl) ⟨kA7.set hid kP7 (fun n e => by cases e), put_same _ _ _, by simp only; omega, by simp only; omega, by simp, fun _ => rfl, ?_, ?_⟩ (by simp only; omega)
            · simp only [List.flatten_nil, List.append_nil, e1]
              rw [show i' + 1 - i = i' - i + 1 from by omega]
              exact kb'
            · simp only [List.flatten_nil, List.append_nil, e1]
              exact kJ
          · have g4 : ¬ (p.data = [] ∧ n.data = [] ∧ n.at_ = p.at_ + long) := by
              rintro ⟨e1, e2, e3⟩
              rw [hw e1] at g3
              simp [e1, e2, e3] at g3
            rw [if_neg g4] at hm
            simp +contextual -implicitDefEqProofs only [go_sem, gd_M, tys, regs0, Nat.reduceEqDiff, Nat.reduceAdd, Nat.reduceLeDiff, Nat.reduceLT, Nat.reduceMul, Int.natCast_one, Int.natCast_zero, Int.reduceEq, Int.reduceLT, Int.reduceLE, Int.reduceAdd, Int.reduceSub, Int.reduceToNat, UInt8.reduceToNat, k0, k3, k4, k5, k6, kP7, put_ne, n7]
            refine cnd_intro (fun g5 => ?_) (fun g5 => ?_)
            · simp only [Bool.and_eq_true, decide_eq_true_eq] at g5
              rw [if_pos g5] at hm
              rw [joinR_some hm] at kJ
              have kb' := hmg _ hm
              simp -implicitDefEqProofs only [go_sem, tys, regs0, Nat.reduceEqDiff, Nat.reduceAdd, Nat.reduceLeDiff, Nat.reduceLT, Nat.reduceMul, Int.natCast_one, Int.natCast_zero, Int.reduceEq, Int.reduceLT, Int.reduceLE, Int.reduceAdd, Int.reduceSub, Int.reduceToNat, UInt8.reduceToNat, k0, k3, k4, k5, k6, kP7, put_ne, n7]
              refine AppOK.step kA7 (encS_unif ds) (by simp) (by simp; omega) (by simp; omega) (fun tl2 G2 hA3 hK => ?_)
              simp -implicitDefEqProofs (disch := omega) only [go_sem, tys, regs0, Nat.reduceEqDiff, Nat.reduceAdd, Nat.reduceLeDiff, Nat.reduceLT, Nat.reduceMul, Int.natCast_one, Int.natCast_zero, Int.reduceEq, Int.reduceLT, Int.reduceLE, Int.reduceAdd, Int.reduceSub, Int.reduceToNat, UInt8.reduceToNat, Go.IntWalk.i64_in, k0, k3, k4, k5, k6]
              have hfl : p.data ++ (ds ++ [n.data]).flatten = p.data ++ ds.flatten ++ n.data := by simp
              refine Again.mk (i' + 1, long, ds ++ [n.data], tl2) (by simp -implicitDefEqProofs only [go_sem, tys, regs0, Nat.reduceEqDiff, Nat.reduceAdd, Nat.reduceLeDiff, Nat.reduceLT, Nat.reduceMul, Int.natCast_one, Int.natCast_zero, Int.reduceEq, Int.reduceLT, Int.reduceLE, Int.reduceAdd, Int.reduceSub, Int.reduceToNat, UInt8.reduceToNat, k0, k3, k4, k5, k6]; simp [encS]) ⟨by simpa [encS] using hA3, hK.cells kP7, by simp only; omega, by simp only; omega, by simp only [List.length_append, List.length_singleton]; omega, fun e => absurd e g5.1, ?_, ?_⟩ (by simp only; omega)
              · simp only [hfl]
                rw [show i' + 1 - i = i' - i + 1 from by omega]
                exact kb'
              · simp only [hfl]
                exact kJ
            · rw [if_neg (by simpa using g5)] at hm
              rw [joinR_none hm, ← hjn] at kJ
              simp -implicitDefEqProofs only [go_sem, tys, regs0, Nat.reduceEqDiff, Nat.reduceAdd, Nat.reduceLeDiff, Nat.reduceLT, Nat.reduceMul, Int.natCast_one, Int.natCast_zero, Int.reduceEq, Int.reduceLT, Int.reduceLE, Int.reduceAdd, Int.reduceSub, Int.reduceToNat, UInt8.reduceToNat, k0, k3, k4, k5, k6]
              exact ⟨i', long, ds, tl', by simp -implicitDefEqProofs only [go_sem, tys, regs0, Nat.reduceEqDiff, Nat.reduceAdd, Nat.reduceLeDiff, Nat.reduceLT, Nat.reduceMul, Int.natCast_one, Int.natCast_zero, Int.reduceEq, Int.reduceLT, Int.reduceLE, Int.reduceAdd, Int.reduceSub, Int.reduceToNat, UInt8.reduceToNat, k0, k3, k4, k5, k6], kA7, kP7, ki, ki2, kl, kd, kb, kJ⟩
        · simp only [decide_eq_false_iff_not] at g2
          have e : i' = l.length := by omega
          simp -implicitDefEqProofs only [go_sem, tys, regs0, Nat.reduceEqDiff, Nat.reduceAdd, Nat.reduceLeDiff, Nat.reduceLT, Nat.reduceMul, Int.natCast_one, Int.natCast_zero, Int.reduceEq, Int.reduceLT, Int.reduceLE, Int.reduceAdd, Int.reduceSub, Int.reduceToNat, UInt8.reduceToNat, k0, k3, k4, k5, k6]
          refine ⟨i', long, ds, tl', by simp -implicitDefEqProofs only [go_sem, tys, regs0, Nat.reduceEqDiff, Nat.reduceAdd, Nat.reduceLeDiff, Nat.reduceLT, Nat.reduceMul, Int.natCast_one, Int.natCast_zero, Int.reduceEq, Int.reduceLT, Int.reduceLE, Int.reduceAdd, Int.reduceSub, Int.reduceToNat, UInt8.reduceToNat, k0, k3, k4, k5, k6], kA, kP, ki, ki2, kl, kd, kb, ?_⟩
          rw [kJ, e, List.drop_length]
          rfl
    · simp only [decide_eq_false_iff_not] at g
      have e : i = l.length := by omega
      rw [e, List.drop_length] at hJ
      have hJ' : joinedV l = out := by rw [hJ]; simp [joinedV]
      simp -implicitDefEqProofs only [go_sem, tys, regs0, Nat.reduceEqDiff, Nat.reduceAdd, Nat.reduceLeDiff, Nat.reduceLT, Nat.reduceMul, Int.natCast_one, Int.natCast_zero, Int.reduceEq, Int.reduceLT, Int.reduceLE, Int.reduceAdd, Int.reduceSub, Int.reduceToNat, UInt8.reduceToNat, h0, h3, h4]
      refine Done.wk 1 ?_
      exact Done.drop hA.sub ⟨by rw [hJ']; rfl, rfl⟩
theorem flat_enc (l : List PieceV) : (l.map encPc).flatten.length = l.length * 3 := by rw [flatten_len (encPc_unif l), List.length_map]
theorem last_split {α : Type} {out : List α} {q : α} (h : out.getLast? = some q) : out = out.dropLast ++ [q] := by
  have hne : out ≠ [] := by rintro rfl; cases h
  have h2 := List.getLast?_eq_some_getLast hne
  rw [h] at h2
  cases h2
  exact (List.dropLast_concat_getLast hne).symm
theorem flat_enc_drop {l : List PieceV} {q : PieceV} (k : Nat) : (((l ++ [q]).map encPc).flatten).drop (l.length * 3 + k) = (encPc q).drop k := by
  rw [List.map_append, List.flatten_append, List.drop_append, flat_enc]
  have : (l.map encPc).flatten.drop (l.length * 3 + k) = [] := List.drop_of_length_le (by rw [flat_enc]; omega)
  rw [this]
  simp
theorem flat_set (l : List PieceV) (q : PieceV) (k : Nat) (v : AV) (hk : k < 3) : (((l ++ [q]).map encPc).flatten).set (l.length * 3 + k) v = (l.map encPc).flatten ++ (encPc q).set k v := by
  rw [List.map_append, List.flatten_append, List.set_append, if_neg (by rw [flat_enc]; omega), flat_enc]
  congr 1
  rw [show l.length * 3 + k - l.length * 3 = k from by omega]
  simp
theorem flat_add (l : List PieceV) (q : PieceV) : (((l ++ [q]).map encPc).flatten) = (l.map encPc).flatten ++ encPc q := by simp
set_option maxRecDepth 20000 in
set_option maxHeartbeats 3200000 in
theorem rJoined_calls (l : List PieceV) (t : Tail) (H : Heap) (hr : jR l) : ACalls Tryd.prog 42 [.sl (l.map encPc) t] H fun x H' => x = .sl ((joinedV l).map encPc) .unk ∧ H' = H := by
  refine ACalls.of_code (X := { pure := pu0, ms := fun t => decide (t = 19) }) pu0_ok Tryd.func42 (by kernel_rfl) rfl (by kernel_rfl) (Nat.le_of_ble_eq_true rfl) ?_
  simp -implicitDefEqProofs only [go_sem, tys, regs0, Nat.reduceEqDiff, Nat.reduceAdd, Nat.reduceLeDiff, Nat.reduceLT, Nat.reduceMul, Int.natCast_one, Int.natCast_zero, Int.reduceEq, Int.reduceLT, Int.reduceLE, Int.reduceAdd, Int.reduceSub, Int.reduceToNat, UInt8.reduceToNat, Tryd.f42]
  refine aloop_intro (σ := Nat × AV) (fun s => [(3, s.2), (7, .sl (l.map encPc) t), (8, .int .i64 l.length), (9, .int .i64 s.1)])
    (fun s G => H.Sub G ∧ MsL H G s.2 ((l.take s.1).foldl jstep []) ∧ s.1 ≤ l.length) (fun s => l.length - s.1) (0, .sl [] .exact) ?_ ?_ ?_
  · simp -implicitDefEqProofs only [go_sem, tys, regs0, Nat.reduceEqDiff, Nat.reduceAdd, Nat.reduceLeDiff, Nat.reduceLT, Nat.reduceMul, Int.natCast_one, Int.natCast_zero, Int.reduceEq, Int.reduceLT, Int.reduceLE, Int.reduceAdd, Int.reduceSub, Int.reduceToNat, UInt8.reduceToNat]
  · exact ⟨Heap.Sub.rfl' H, .inl ⟨rfl, rfl⟩, by omega⟩
  · intro s r G hv hI
    obtain ⟨i, v⟩ := s
    have h3 := hv.1
    have h7 := hv.2.1
    have h8 := hv.2.2.1
    have h9 := hv.2.2.2.1
    have hS := hI.1
    have hM := hI.2.1
    have hi := hI.2.2
    clear hv hI
    simp only at h3 h7 h8 h9 hM hi
    simp -implicitDefEqProofs only [go_sem, tys, regs0, Nat.reduceEqDiff, Nat.reduceAdd, Nat.reduceLeDiff, Nat.reduceLT, Nat.reduceMul, Int.natCast_one, Int.natCast_zero, Int.reduceEq, Int.reduceLT, Int.reduceLE, Int.reduceAdd, Int.reduceSub, Int.reduceToNat, UInt8.reduceToNat, h3, h7, h8, h9]
    refine cnd_intro (fun g => ?_) (fun g => ?_)
    · simp only [decide_eq_true_eq] at g
      obtain ⟨p, hp⟩ : ∃ p, l[i]? = some p := getD_get' (by omega)
      have hbp := hr.2 p (List.mem_of_getElem? hp)
      have hll := hr.1
      have hft := fold_take hp
      simp -implicitDefEqProofs only [go_sem, tys, regs0, Nat.reduceEqDiff, Nat.reduceAdd, Nat.reduceLeDiff, Nat.reduceLT, Nat.reduceMul, Int.natCast_one, Int.natCast_zero, Int.reduceEq, Int.reduceLT, Int.reduceLE, Int.reduceAdd, Int.reduceSub, Int.reduceToNat, UInt8.reduceToNat, h3, h7, h8, h9, hp, encPc]
      with_reducible refine nwC_intro fun id hid => ?_
      have hidH := sub_none hS hid
      have hS' := hS.put' hidH (.cells [.int .i64 p.at_, .int .i64 p.long, .str p.data])
      rcases hM with ⟨ho, rfl⟩ | ⟨idm, hne, rfl, hmH, hmG⟩
      · rw [ho] at hft
        have hft' : (l.take (i + 1)).foldl jstep [] = [p] := hft
        have hw : IntKind.i64.wrap (-1) = -1 := by decide
        simp -implicitDefEqProofs only [go_sem, tys, regs0, Nat.reduceEqDiff, Nat.reduceAdd, Nat.reduceLeDiff, Nat.reduceLT, Nat.reduceMul, Int.natCast_one, Int.natCast_zero, Int.reduceEq, Int.reduceLT, Int.reduceLE, Int.reduceAdd, Int.reduceSub, Int.reduceToNat, UInt8.reduceToNat, h3, h7, h8, h9, hw]
        repeat' (first | (with_reducible refine gd_intro (fun h => ?_) (fun h => ?_) <;> first | (exact absurd h (by decide)) | (simp at h; done) | simp -implicitDefEqProofs (disch := omega) only [go_sem, tys, regs0, Nat.reduceEqDiff, Nat.reduceAdd, Nat.reduceLeDiff, Nat.reduceLT, Nat.reduceMul, Int.natCast_one, Int.natCast_zero, Int.reduceEq, Int.reduceLT, Int.reduceLE, Int.reduceAdd, Int.reduceSub, Int.reduceToNat, UInt8.reduceToNat, Go.IntWalk.i64_in, *]) | (with_reducible refine cnd_intro (fun h => ?_) (fun h => ?_) <;> first | (exact absurd h (by decide)) | (simp at h; done) | simp -implicitDefEqProofs (disch := omega) only [go_sem, tys, regs0, Nat.reduceEqDiff, Nat.reduceAdd, Nat.reduceLeDiff, Nat.reduceLT, Nat.reduceMul, Int.natCast_one, Int.natCast_zero, Int.reduceEq, Int.reduceLT, Int.reduceLE, Int.reduceAdd, Int.reduceSub, Int.reduceToNat, UInt8.reduceToNat, Go.IntWalk.i64_in, *]))
        refine app_ms0 (by simp) (by simp) (by simp) (fun id' hid' => ?_)
        have m3 := (heap_none hid').2.2
        have hidH' := sub_none hS m3
        simp -implicitDefEqProofs (disch := omega) only [go_sem, tys, regs0, Nat.reduceEqDiff, Nat.reduceAdd, Nat.reduceLeDiff, Nat.reduceLT, Nat.reduceMul, Int.natCast_one, Int.natCast_zero, Int.reduceEq, Int.reduceLT, Int.reduceLE, Int.reduceAdd, Int.reduceSub, Int.reduceToNat, UInt8.reduceToNat, Go.IntWalk.i64_in, h3, h7, h8, h9, hw]
        refine Again.mk (i + 1, .ms id' 0 1 3) (by simp -implicitDefEqProofs only [go_sem, tys, regs0, Nat.reduceEqDiff, Nat.reduceAdd, Nat.reduceLeDiff, Nat.reduceLT, Nat.reduceMul, Int.natCast_one, Int.natCast_zero, Int.reduceEq, Int.reduceLT, Int.reduceLE, Int.reduceAdd, Int.reduceSub, Int.reduceToNat, UInt8.reduceToNat, h3, h7, h8, h9]; first | exact rfl | exact ⟨rfl, rfl⟩) ⟨hS'.put' hidH' _, .inr ⟨id', by rw [hft']; simp, by rw [hft']; rfl, hidH', by rw [put_same, hft']; rfl⟩, by simp only; omega⟩ (by simp only; omega)
      · cases hlast : ((l.take i).foldl jstep []).getLast? with
        | none => exact absurd (List.getLast?_eq_none_iff.1 hlast) hne
        | some q =>
        have hsp := last_split hlast
        have hfb := fold_bnd hr.2 i
        generalize ((l.take i).foldl jstep []).dropLast = done at *
        generalize ((l.take i).foldl jstep []) = out at *
        subst hsp
        have hbq := hfb.1 q (by simp)
        have hfl := hfb.2
        simp only [List.length_append, List.length_singleton] at hfl
        have d0 := flat_enc_drop (l := done) (q := q) 0
        have d1 := flat_enc_drop (l := done) (q := q) 1
        have d2 := flat_enc_drop (l := done) (q := q) 2
        have s1 := flat_set done q 1
        have s2 := flat_set done q 2
        have hcl : ((done ++ [q]).map encPc).flatten.length = done.length * 3 + 3 := by rw [flat_enc]; simp; omega
        simp only [Nat.add_zero, encPc, List.drop_zero, List.drop_succ_cons] at d0 d1 d2
        have hlen : (((done ++ [q]).length : Nat) : Int) = (done.length : Int) + 1 := by simp
        have hw : IntKind.i64.wrap ((done.length : Int) + 1 - 1) = done.length := by rw [Int.add_sub_cancel]; exact Go.IntWalk.i64_in _ (by omega)
        have n1 : ¬ idm = id := fun e => by subst e; rw [hmG] at hid; cases hid
        have n2 : ¬ id = idm := fun e => n1 e.symm
        have hlt : (done.length : Int) < done.length + 1 := by omega
        have hm := pcMerge.eq_1 q p
        have hjs := fun q' h => jstep_some (q' := q') hlast (p := p) h
        have hjn := jstep_none hlast (p := p)
        have b2 := hbq.2
        have b3 := hbp.2
        simp +contextual -implicitDefEqProofs only [go_sem, gd_M, tys, regs0, Nat.reduceEqDiff, Nat.reduceAdd, Nat.reduceLeDiff, Nat.reduceLT, Nat.reduceMul, Int.natCast_one, Int.natCast_zero, Int.reduceEq, Int.reduceLT, Int.reduceLE, Int.reduceAdd, Int.reduceSub, Int.reduceToNat, UInt8.reduceToNat, h3, h7, h8, h9, hlen, hw, put_ne, n1, hmG, hlt, d0, d1, d2]
        refine cnd_intro (fun g2 => ?_) (fun g2 => ?_)
        · simp only [Bool.and_eq_true, decide_eq_true_eq] at g2
          rw [if_neg (by rintro ⟨e, _⟩; exact g2.2 e), if_pos ⟨g2.2, g2.1⟩] at hm
          rw [hjs _ hm] at hft
          have hle : (((q.data.length + p.data.length : Nat)) : Int) ≤ 9223372036854775807 := by omega
          simp +contextual -implicitDefEqProofs only [go_sem, gd_M, tys, regs0, Nat.reduceEqDiff, Nat.reduceAdd, Nat.reduceLeDiff, Nat.reduceLT, Nat.reduceMul, Int.natCast_one, Int.natCast_zero, Int.reduceEq, Int.reduceLT, Int.reduceLE, Int.reduceAdd, Int.reduceSub, Int.reduceToNat, UInt8.reduceToNat, h3, h7, h8, h9, hlen, hw, put_ne, n1, hmG, hlt, d0, d1, d2, hle, hcl]
          have hnl : ((done ++ [(⟨q.at_, q.long, q.data ++ p.data⟩ : PieceV)]).map encPc).flatten = ((done ++ [q]).map encPc).flatten.set (done.length * 3 + 2) (.str (q.data ++ p.data)) := by
            rw [s2 _ (by omega), flat_add]; rfl
          rw [List.dropLast_concat] at hft
          have hwi : IntKind.i64.wrap ((i : Int) + 1) = i + 1 := Go.IntWalk.i64_in _ (by omega)
          refine Again.mk (i + 1, .ms idm 0 (done ++ [q]).length 3) (by simp -implicitDefEqProofs only [go_sem, tys, regs0, Nat.reduceEqDiff, Nat.reduceAdd, Nat.reduceLeDiff, Nat.reduceLT, Nat.reduceMul, Int.natCast_one, Int.natCast_zero, Int.reduceEq, Int.reduceLT, Int.reduceLE, Int.reduceAdd, Int.reduceSub, Int.reduceToNat, UInt8.reduceToNat, h3, h7, h8, h9, hwi]; first | exact rfl | exact ⟨rfl, rfl⟩) ⟨hS'.put' hmH _, .inr ⟨idm, by rw [hft]; simp, by rw [hft]; simp, hmH, by rw [put_same, hft, hnl]⟩, by simp only; omega⟩ (by simp only; omega)
        · have g3 : ¬ (q.data ≠ [] ∧ p.data ≠ []) := by
            rintro ⟨e1, e2⟩
            simp [e1, e2] at g2
          rw [if_neg g3] at hm
          have hwq : q.data = [] → IntKind.i64.wrap (q.at_ + q.long) = q.at_ + q.long := fun e => by
            have := hbq.1 e
            exact Go.IntWalk.i64_in _ (by omega)
          simp +contextual -implicitDefEqProofs only [go_sem, gd_M, tys, regs0, Nat.reduceEqDiff, Nat.reduceAdd, Nat.reduceLeDiff, Nat.reduceLT, Nat.reduceMul, Int.natCast_one, Int.natCast_zero, Int.reduceEq, Int.reduceLT, Int.reduceLE, Int.reduceAdd, Int.reduceSub, Int.reduceToNat, UInt8.reduceToNat, h3, h7, h8, h9, hlen, hw, put_ne, n1, hmG, hlt, d0, d1, d2]
          refine cnd_intro (fun g4 => ?_) (fun g4 => ?_)
          · simp only [Bool.and_eq_true, decide_eq_true_eq] at g4
            obtain ⟨⟨e1, e2⟩, e3⟩ := g4
            rw [hwq e2] at e3
            rw [if_pos ⟨e2, e1, e3.symm⟩] at hm
            rw [hjs _ hm] at hft
            have b4 := hbq.1 e2
            have b5 := hbp.1 e1
            have hwl : IntKind.i64.wrap (q.long + p.long) = q.long + p.long := Go.IntWalk.i64_in _ (by omega)
            simp +contextual -implicitDefEqProofs only [go_sem, gd_M, tys, regs0, Nat.reduceEqDiff, Nat.reduceAdd, Nat.reduceLeDiff, Nat.reduceLT, Nat.reduceMul, Int.natCast_one, Int.natCast_zero, Int.reduceEq, Int.reduceLT, Int.reduceLE, Int.reduceAdd, Int.reduceSub, Int.reduceToNat, UInt8.reduceToNat, h3, h7, h8, h9, hlen, hw, put_ne, n1, hmG, hlt, d0, d1, d2, hwl, hcl]
            have hnl : ((done ++ [(⟨q.at_, q.long + p.long, []⟩ : PieceV)]).map encPc).flatten = ((done ++ [q]).map encPc).flatten.set (done.length * 3 + 1) (.int .i64 (q.long + p.long)) := by
              rw [s1 _ (by omega), flat_add]
              simp only [encPc, e2, List.set_cons_succ, List.set_cons_zero]
            rw [List.dropLast_concat] at hft
            have hwi : IntKind.i64.wrap ((i : Int) + 1) = i + 1 := Go.IntWalk.i64_in _ (by omega)
            refine ⟨by omega, ?_⟩
            refine Again.mk (i + 1, .ms idm 0 (done ++ [q]).length 3) (by simp -implicitDefEqProofs only [go_sem, tys, regs0, Nat.reduceEqDiff, Nat.reduceAdd, Nat.reduceLeDiff, Nat.reduceLT, Nat.reduceMul, Int.natCast_one, Int.natCast_zero, Int.reduceEq, Int.reduceLT, Int.reduceLE, Int.reduceAdd, Int.reduceSub, Int.reduceToNat, UInt8.reduceToNat, h3, h7, h8, h9, hwi]; first | exact rfl | exact ⟨rfl, rfl⟩) ⟨hS'.put' hmH _, .inr ⟨idm, by rw [hft]; simp, by rw [hft]; simp, hmH, by rw [put_same, hft, hnl]⟩, by simp only; omega⟩ (by simp only; omega)
          · have g5 : ¬ (q.data = [] ∧ p.data = [] ∧ p.at_ = q.at_ + q.long) := by
              rintro ⟨e1, e2, e3⟩
              rw [hwq e1] at g4
              simp [e1, e2, e3] at g4
            rw [if_neg g5] at hm
            rw [hjn hm] at hft
            simp +contextual -implicitDefEqProofs only [go_sem, gd_M, tys, regs0, Nat.reduceEqDiff, Nat.reduceAdd, Nat.reduceLeDiff, Nat.reduceLT, Nat.reduceMul, Int.natCast_one, Int.natCast_zero, Int.reduceEq, Int.reduceLT, Int.reduceLE, Int.reduceAdd, Int.reduceSub, Int.reduceToNat, UInt8.reduceToNat, h3, h7, h8, h9, hlen, hw, put_ne, n1, n2, hmG, hlt, d0, d1, d2, hcl]
            have hcl2 : ((done ++ [q]).map encPc).flatten.length = (done ++ [q]).length * 3 := by rw [hcl]; simp; omega
            refine app_ms (cs := ((done ++ [q]).map encPc).flatten) (by rw [put_ne _ _ _ _ n1]; exact hmG) hcl2 (by simp; omega) (by simp; omega) (fun id' hid' => ?_)
            have m3 := (heap_none hid').2.2
            have hidH' := sub_none hS m3
            simp -implicitDefEqProofs (disch := omega) only [go_sem, tys, regs0, Nat.reduceEqDiff, Nat.reduceAdd, Nat.reduceLeDiff, Nat.reduceLT, Nat.reduceMul, Int.natCast_one, Int.natCast_zero, Int.reduceEq, Int.reduceLT, Int.reduceLE, Int.reduceAdd, Int.reduceSub, Int.reduceToNat, UInt8.reduceToNat, Go.IntWalk.i64_in, h3, h7, h8, h9, hw]
            refine Again.mk (i + 1, .ms id' 0 ((done ++ [q]).length + 1) 3) (by simp -implicitDefEqProofs only [go_sem, tys, regs0, Nat.reduceEqDiff, Nat.reduceAdd, Nat.reduceLeDiff, Nat.reduceLT, Nat.reduceMul, Int.natCast_one, Int.natCast_zero, Int.reduceEq, Int.reduceLT, Int.reduceLE, Int.reduceAdd, Int.reduceSub, Int.reduceToNat, UInt8.reduceToNat, h3, h7, h8, h9]; first | exact rfl | exact ⟨rfl, rfl⟩) ⟨Heap.Sub.put' (fun k o hk => ?_) hidH' _, .inr ⟨id', by rw [hft]; simp, by rw [hft]; simp, hidH', by rw [put_same, hft]; simp [encPc]⟩, by simp only; omega⟩ (by simp only; omega)
            rw [del_ne (fun e => by subst e; rw [hmH] at hk; cases hk)]; exact hS' k o hk
    · simp only [decide_eq_false_iff_not] at g
      have e : i = l.length := by omega
      subst e
      rw [List.take_length, joined_fold] at hM
      simp -implicitDefEqProofs only [go_sem, tys, regs0, Nat.reduceEqDiff, Nat.reduceAdd, Nat.reduceLeDiff, Nat.reduceLT, Nat.reduceMul, Int.natCast_one, Int.natCast_zero, Int.reduceEq, Int.reduceLT, Int.reduceLE, Int.reduceAdd, Int.reduceSub, Int.reduceToNat, UInt8.reduceToNat, h3, h7, h8, h9]
      rcases hM with ⟨ho, rfl⟩ | ⟨idm, hne, rfl, hmH, hmG⟩
      · refine Done.wk 1 ?_
        exact Done.drop hS ⟨by rw [ho]; rfl, rfl⟩
      · have hch := Ghost.freeze (P := Tryd.prog) (k := 3) (off := 0) (len := (joinedV l).length) hmG (by rw [flat_enc]; omega)
        refine Done.via hch ?_
        refine Done.drop (fun k o hk => ?_) ⟨?_, rfl⟩
        · rw [del_ne (fun e => by subst e; rw [hmH] at hk; cases hk)]; exact hS k o hk
        · congr 1
          have := chunks_of (encPc_unif (joinedV l))
          rw [List.length_map] at this
          rw [List.drop_zero]
          exact this
end Go.Proofs
