/-
  Walks and plain laws, part 7.
-/
import Derived.Test.YtloodfinfbmmkaaDoorM6
/- Walks: Parse, on the reference's side. -/
namespace Go.Proofs
open Go Go.Abs
set_option linter.unusedSimpArgs false
set_option linter.unusedVariables false
set_option maxRecDepth 20000
theorem decS_eq (s : Bytes) : decS [.str s] = some s := rfl
def sIdxS : List AV → Option AV := fn2 (Rd.list decS) .str fun l w => if l.length ≤ 1099511627776 then some (.int .i64 (idxF l w 0)) else none
theorem sIdxS_ok {P : Program} {f : FuncId} (h : ∀ l w t H, l.length ≤ 1099511627776 → ACalls P f [.sl (l.map encS) t, .str w] H fun x H' => x = .int .i64 (idxF l w 0) ∧ H' = H) : ∀ xs v, sIdxS xs = some v → ∀ H, ACalls P f xs H fun x H' => x = v ∧ H' = H := by
  intro xs v hv H
  obtain ⟨x, y, p, q, rfl, h1, h2, h3⟩ := fn2_some hv
  split at h3
  · rename_i hl
    cases h3
    obtain ⟨t, rfl⟩ := Rd.list_some (enc := encS) (fun _ _ => decS_some) h1
    cases Rd.str_some h2
    exact h p q t H hl
  · cases h3
noncomputable def sQd := spF (fun s : Bytes => [AV.str s]) (fun s => s.length ≤ 1099511627776) (fun s => .tup [.str (quotedV s).1, .str (quotedV s).2.1, .bool (quotedV s).2.2])
theorem sQd_eq (s : Bytes) (h : s.length ≤ 1099511627776) : sQd [.str s] = some (.tup [.str (quotedV s).1, .str (quotedV s).2.1, .bool (quotedV s).2.2]) := spF_eq (fun a b e => by cases e; rfl) s h
noncomputable def puM8 : Pures := putP 24 sSvcO (putP 25 sSplit (putP 23 sQd (putP 22 sIdxS (putP 21 sCut (putP 20 sCutL pu0)))))
theorem puM8_dyn : isDyn puM8 = false := by simp only [puM8, go_sem, Nat.reduceEqDiff]
attribute [go_sem] puM8_dyn
theorem puM8_ok : PuOK Tryd.prog puM8 := .put (.put (.put (.put (.put (.put (pu0_ok) (spF_ok fun s H h => cutLines_calls s H h)) (spF_ok fun p H h => cut_calls p.1 p.2 H h)) (sIdxS_ok sIndex_calls)) (spF_ok fun s H h => quoted_calls s H h)) (sSplit_ok splitT_calls)) (spF_ok fun p H h => serviceOf_calls p .unk H h)
theorem rdStep {σ : Type} (step : σ → Bytes → Option σ) (s : σ) (text : Bytes) {i : Nat} {l : Bytes} (h : (cutLV text).1[i]? = some l) :
    rdL step s i ((splitB 10 text).drop i) = if (i : Int) = (cutLV text).2 then .error i else match step s l with
      | some s' => rdL step s' (i + 1) ((splitB 10 text).drop (i + 1))
      | none => .error i := by
  have hp := splitB_pos 10 text
  unfold cutLV at h ⊢
  generalize splitB 10 text = sp at *
  have hlt := (List.getElem?_eq_some_iff.1 h).1
  by_cases c : sp.getLast? = some []
  · rw [if_pos c] at h hlt ⊢
    simp only at h hlt ⊢
    rw [List.length_dropLast] at hlt
    rw [if_neg (by omega)]
    have hi : sp[i]? = some l := by
      rw [List.dropLast_eq_take, List.getElem?_take, if_pos (by omega)] at h
      exact h
    rw [drop_at hi]
    obtain ⟨l2, h2⟩ : ∃ l2, sp[i + 1]? = some l2 := getD_get' (by omega)
    rw [drop_at h2]
    rfl
  · rw [if_neg c] at h hlt ⊢
    simp only at h hlt ⊢
    rw [drop_at h]
    by_cases e : (i : Int) = (sp.length : Int) - 1
    · rw [if_pos e, List.drop_eq_nil_of_le (by omega)]
      have hl : sp.getLast? = some l := by
        rw [List.getLast?_eq_getElem?, ← h]
        congr 1
        omega
      rw [rdL, if_neg (fun e => c (by rw [hl, e]))]
    · rw [if_neg e]
      obtain ⟨l2, h2⟩ : ∃ l2, sp[i + 1]? = some l2 := getD_get' (by omega)
      rw [drop_at h2]
      rfl
theorem rdEnd {σ : Type} (step : σ → Bytes → Option σ) (s : σ) (text : Bytes) {i : Nat} (h : i = (cutLV text).1.length) (hn : i = (splitB 10 text).length → False) : rdL step s i ((splitB 10 text).drop i) = .ok s := by
  have hp := splitB_pos 10 text
  unfold cutLV at h
  generalize splitB 10 text = sp at *
  by_cases c : sp.getLast? = some []
  · rw [if_pos c] at h
    simp only [List.length_dropLast] at h
    rw [List.getLast?_eq_getElem?] at c
    rw [h, drop_at c, List.drop_eq_nil_of_le (by omega), rdL, if_pos rfl]
  · rw [if_neg c] at h
    exact absurd h hn
theorem svcOf_R {s : Bytes} {n : Nat} (h : s.length ≤ n) (hn : n ≤ 1099511627776) : svcR (svcOf (splitB 32 s)).1 := by
  have hl : ∀ p ∈ splitB 32 s, p.length ≤ s.length := fun p hp => splitB_le hp
  generalize splitB 32 s = l at *
  unfold svcOf
  split
  · rename_i a b c d
    split
    · simp [svcR, SvcV.zero]
    · have h1 := hl a (by simp)
      have h2 := hl b (by simp)
      exact ⟨by simp only; omega, by simp only; omega⟩
  · simp [svcR, SvcV.zero]
theorem macN_mono {n : Nat} {m : MacV} (h : macN n m) : macN (n + 1) m := by
  obtain ⟨⟨a, b, c, d⟩, e⟩ := h
  exact ⟨⟨by omega, by omega, by omega, by omega⟩, e⟩
theorem macN_svc {n : Nat} {m : MacV} {x : SvcV} (h : macN n m) (hx : svcR x) : macN (n + 1) { m with svcs := m.svcs ++ [x] } := by
  obtain ⟨⟨a, b, c, d⟩, e, f, g, i⟩ := h
  refine ⟨⟨by simp only; omega, by simp only; omega, by simp only; omega, by simp; omega⟩, e, f, g, fun y hy => ?_⟩
  rcases List.mem_append.1 hy with h | h
  · exact i y h
  · rw [List.mem_singleton.1 h]; exact hx
def RPI (H : Heap) (iM : Nat) (n : Nat) (m : MacV) (G : Heap) : Prop := H.Sub G ∧ macN n m ∧ ∃ ta tb tc td, G iM = some (.cells (encMac m ta tb tc td)) ∧ Mac4 H G m ta tb tc td
set_option maxHeartbeats 12800000 in
theorem rParseM_calls (text : Bytes) (H : Heap) (ht : text.length ≤ 1099511627776) : ACalls Tryd.prog 7 [.str text] H fun x H' => x = parseMA text ∧ H' = H := by
  have hS := Heap.Sub.rfl' H
  have hv := parseMA.eq_1 text
  have hp := parseMV.eq_1 text
  by_cases c0 : 4194304 < text.length
  · have y0 : decide ((4194304 : Int) < text.length) = true := decide_eq_true (by omega)
    rw [if_pos c0] at hp
    rw [hp] at hv
    refine ACalls.of_code (X := { pure := puM8 }) puM8_ok Tryd.func7 (by kernel_rfl) rfl (by kernel_rfl) (Nat.le_of_ble_eq_true rfl) ?_
    simp -implicitDefEqProofs only [go_sem, tys, regs0, Nat.reduceEqDiff, Nat.reduceAdd, Nat.reduceLeDiff, Nat.reduceLT, Nat.reduceMul, Int.natCast_one, Int.natCast_zero, Int.reduceEq, Int.reduceLT, Int.reduceLE, Int.reduceAdd, Int.reduceSub, Int.reduceToNat, UInt8.reduceToNat, Tryd.f7]
    with_reducible refine nwC_intro fun i2 hi2 => ?_
    generalize E2 : Heap.put H i2 _ = G2
    have hO_2 := obj_new E2 hi2 hS
    have n2 := hO_2.1
    have hS := hO_2.2.1
    have g2 := hO_2.2.2.1
    clear hO_2
    simp -implicitDefEqProofs only [go_sem, tys, regs0, Nat.reduceEqDiff, Nat.reduceAdd, Nat.reduceLeDiff, Nat.reduceLT, Nat.reduceMul, Int.natCast_one, Int.natCast_zero, Int.reduceEq, Int.reduceLT, Int.reduceLE, Int.reduceAdd, Int.reduceSub, Int.reduceToNat, UInt8.reduceToNat, y0, g2]
    exact Done.wk 3 (Done.drop (hS.put' n2 _) ⟨by rw [hv]; rfl, rfl⟩)
  have y0 : decide ((4194304 : Int) < text.length) = false := decide_eq_false (by omega)
  rw [if_neg c0] at hp
  have q1 := sCutL_eq text ht
  have hst := fun s i l h => @rdStep _ lineM s text i l h
  have hen := fun s i h1 h2 => @rdEnd _ lineM s text i h1 h2
  have hll : (cutLV text).1.length ≤ text.length + 1 ∧ ∀ l ∈ (cutLV text).1, l.length ≤ text.length := by
    have h1 : (splitB 10 text).length ≤ text.length + 1 := by rw [splitB_len]; have := @List.count_le_length _ _ 10 text; omega
    unfold cutLV
    split
    · exact ⟨by rw [List.length_dropLast]; omega, fun l hl => splitB_le ((List.dropLast_sublist _).subset hl)⟩
    · exact ⟨h1, fun l hl => splitB_le hl⟩
  have htn : ∀ i, i = (cutLV text).1.length → i = (splitB 10 text).length → (cutLV text).2 = (i : Int) - 1 := by
    intro i h1 h2
    have h3 := splitB_pos 10 text
    unfold cutLV at h1 ⊢
    split at h1
    · rw [List.length_dropLast] at h1; omega
    · rename_i hc; rw [if_neg hc]; simp only; omega
  generalize cutLV text = cl at *
  obtain ⟨ls, torn⟩ := cl
  simp only at q1 hst hen hll htn
  refine ACalls.of_code (X := { pure := puM8 }) puM8_ok Tryd.func7 (by kernel_rfl) rfl (by kernel_rfl) (Nat.le_of_ble_eq_true rfl) ?_
  simp -implicitDefEqProofs only [go_sem, tys, regs0, Nat.reduceEqDiff, Nat.reduceAdd, Nat.reduceLeDiff, Nat.reduceLT, Nat.reduceMul, Int.natCast_one, Int.natCast_zero, Int.reduceEq, Int.reduceLT, Int.reduceLE, Int.reduceAdd, Int.reduceSub, Int.reduceToNat, UInt8.reduceToNat, Tryd.f7]
  with_reducible refine nwC_intro fun i2 hi2 => ?_
  generalize E2 : Heap.put H i2 _ = G2
  have hO_2 := obj_new E2 hi2 hS
  have n2 := hO_2.1
  have hS := hO_2.2.1
  have g2 := hO_2.2.2.1
  clear hO_2
  have g20 := g2
  simp -implicitDefEqProofs only [go_sem, tys, regs0, Nat.reduceEqDiff, Nat.reduceAdd, Nat.reduceLeDiff, Nat.reduceLT, Nat.reduceMul, Int.natCast_one, Int.natCast_zero, Int.reduceEq, Int.reduceLT, Int.reduceLE, Int.reduceAdd, Int.reduceSub, Int.reduceToNat, UInt8.reduceToNat, y0, g2]
  with_reducible refine nwC_intro fun i5 hi5 => ?_
  generalize E5 : Heap.put G2 i5 _ = G5
  have hO_5 := obj_new E5 hi5 hS
  have n5 := hO_5.1
  have hS := hO_5.2.1
  have g5 := hO_5.2.2.1
  have d2_5 := obj_ne g2 hi5
  have g2 := hO_5.2.2.2 _ _ g2
  clear hO_5
  have k5 : G2.Sub G5 := fun i o hi => by rw [← E5, put_ne _ _ _ _ (obj_ne hi hi5)]; exact hi
  simp -implicitDefEqProofs only [go_sem, tys, regs0, Nat.reduceEqDiff, Nat.reduceAdd, Nat.reduceLeDiff, Nat.reduceLT, Nat.reduceMul, Int.natCast_one, Int.natCast_zero, Int.reduceEq, Int.reduceLT, Int.reduceLE, Int.reduceAdd, Int.reduceSub, Int.reduceToNat, UInt8.reduceToNat, puM8, pu0, q1]
  refine aloop_intro (σ := Nat × MacV × Int) (fun t => [(2, .ptr i2 0), (5, .ptr i5 0), (6, .int .i64 t.2.2), (8, .int .i64 torn), (30, .sl (ls.map encS) .unk), (31, .int .i64 ls.length), (32, .int .i64 t.1)])
    (fun t G => t.1 ≤ ls.length ∧ 0 ≤ t.2.2 ∧ RPI G2 i5 t.1 t.2.1 G ∧ rdL lineM (MacV.zero, 0) 0 (splitB 10 text) = rdL lineM t.2 t.1 ((splitB 10 text).drop t.1) ∧ (0 < t.1 → torn ≠ (t.1 : Int) - 1)) (fun t => ls.length - t.1) (0, .zero, 0) ?_ ?_ ?_
  · simp -implicitDefEqProofs only [go_sem, tys, regs0, Nat.reduceEqDiff, Nat.reduceAdd, Nat.reduceLeDiff, Nat.reduceLT, Nat.reduceMul, Int.natCast_one, Int.natCast_zero, Int.reduceEq, Int.reduceLT, Int.reduceLE, Int.reduceAdd, Int.reduceSub, Int.reduceToNat, UInt8.reduceToNat]
  · exact ⟨Nat.zero_le _, Int.le_refl _, ⟨k5, macN_zero 0, _, _, _, _, g5, Mac4.new k5⟩, rfl, fun h => absurd h (by decide)⟩
  clear g2 g5 hS
  rintro ⟨i, m, st⟩ r G hvv ⟨hi, hs0, ⟨hS, hmn, ta, tb, tc, td, gM, h4⟩, hE, htr⟩
  have h2 := hvv.1
  have h5 := hvv.2.1
  have h6 := hvv.2.2.1
  have h8 := hvv.2.2.2.1
  have h30 := hvv.2.2.2.2.1
  have h31 := hvv.2.2.2.2.2.1
  have h32 := hvv.2.2.2.2.2.2.1
  clear hvv
  simp only at h2 h5 h6 h8 h30 h31 h32 hi hs0 hmn gM h4 hE htr
  have g2 := hS _ _ g20
  have d25 : ¬ i2 = i5 := obj_ne g20 hi5
  have hSH : H.Sub G := fun i o hi => hS i o (by rw [← E2, put_ne _ _ _ _ (obj_ne hi hi2)]; exact hi)
  by_cases g : i < ls.length
  rotate_left
  · have x0 : decide ((i : Int) < ls.length) = false := decide_eq_false (by omega)
    obtain rfl : i = ls.length := by omega
    have hz := hen (m, st) ls.length rfl (fun e => by
      have h1 := htn _ rfl e
      have h3 := splitB_pos 10 text
      exact htr (by omega) h1)
    rw [hz] at hE
    rw [hE] at hp
    simp only at hp
    have hck := rCheck_calls m ta tb tc td G (macN_R hmn (by omega))
    unfold encMac at gM hck
    simp -implicitDefEqProofs only [go_sem, tys, regs0, Nat.reduceEqDiff, Nat.reduceAdd, Nat.reduceLeDiff, Nat.reduceLT, Nat.reduceMul, Int.natCast_one, Int.natCast_zero, Int.reduceEq, Int.reduceLT, Int.reduceLE, Int.reduceAdd, Int.reduceSub, Int.reduceToNat, UInt8.reduceToNat, h2, h5, h6, h8, h30, h31, h32, x0, gM]
    refine hck.pure_next _ ?_
    by_cases c1 : macErr m = 0
    · have y2 : decide (¬ macErr m = 0) = false := decide_eq_false (by simpa using c1)
      rw [if_neg (by simpa using c1)] at hp
      rw [hp] at hv
      simp -implicitDefEqProofs only [go_sem, tys, regs0, Nat.reduceEqDiff, Nat.reduceAdd, Nat.reduceLeDiff, Nat.reduceLT, Nat.reduceMul, Int.natCast_one, Int.natCast_zero, Int.reduceEq, Int.reduceLT, Int.reduceLE, Int.reduceAdd, Int.reduceSub, Int.reduceToNat, UInt8.reduceToNat, y2, h2, h5, gM, g2]
      exact Done.wk 3 (Done.drop (hSH.put' n2 _) ⟨by rw [hv]; rfl, rfl⟩)
    · have y2 : decide (¬ macErr m = 0) = true := decide_eq_true c1
      rw [if_pos c1] at hp
      rw [hp] at hv
      simp -implicitDefEqProofs only [go_sem, tys, regs0, Nat.reduceEqDiff, Nat.reduceAdd, Nat.reduceLeDiff, Nat.reduceLT, Nat.reduceMul, Int.natCast_one, Int.natCast_zero, Int.reduceEq, Int.reduceLT, Int.reduceLE, Int.reduceAdd, Int.reduceSub, Int.reduceToNat, UInt8.reduceToNat, y2, h2, h5, gM, g2]
      exact Done.wk 3 (Done.drop (hSH.put' n2 _) ⟨by rw [hv]; rfl, rfl⟩)
  have x0 : decide ((i : Int) < ls.length) = true := decide_eq_true (by omega)
  obtain ⟨l, hl⟩ : ∃ l, ls[i]? = some l := getD_get' g
  have hlb := hll.2 l (List.mem_of_getElem? hl)
  have ws : IntKind.i64.wrap ((i : Int) + 1) = ((i + 1 : Nat) : Int) := by rw [Go.IntWalk.i64_in _ (by omega)]; omega
  rw [hst (m, st) i l hl, lineM_eq _ _ hs0] at hE
  unfold lineRV at hE
  have q2 := sCut_eq l 32 (by omega)
  have l2 := cutT_len 32 l
  generalize cutT 32 l = ct at *
  obtain ⟨word, rest, one⟩ := ct
  simp only at q2 l2 hE
  have q3 := sQd_eq rest (by omega)
  have q4 : sSplit [.str rest, .str [32]] = some (.sl ((splitB 32 rest).map encS) .unk) := by rw [sSplit_eq, if_pos (show rest.length ≤ 1099511627776 by omega)]
  have q5 := sSvcO_eq (splitB 32 rest) (by rw [splitB_len]; have := @List.count_le_length _ _ 32 rest; omega)
  have hir := idx_rank word
  have q6 : sIdxS [.sl [[.str wFact], [.str wFile], [.str wSet], [.str wService], [.str wRun]] .exact, .str word] = some (.int .i64 (idxF [wFact, wFile, wSet, wService, wRun] word 0)) := rfl
  generalize idxF [wFact, wFile, wSet, wService, wRun] word 0 = ix at *
  have hri := rankV_in word
  have hrk := rankV_3 (w := word)
  generalize hrr : rankV word = rk at *
  simp -implicitDefEqProofs only [go_sem, tys, regs0, Nat.reduceEqDiff, Nat.reduceAdd, Nat.reduceLeDiff, Nat.reduceLT, Nat.reduceMul, Int.natCast_one, Int.natCast_zero, Int.reduceEq, Int.reduceLT, Int.reduceLE, Int.reduceAdd, Int.reduceSub, Int.reduceToNat, UInt8.reduceToNat, h2, h5, h6, h8, h30, h31, h32, x0, hl, encS, puM8, pu0, q2, q6]
  with_reducible refine cnd_mid (fun r G' => G' = G ∧ agrees r [(2, .ptr i2 0), (5, .ptr i5 0), (6, .int .i64 st), (8, .int .i64 torn), (9, .int .i64 i), (11, .str word), (12, .str rest), (14, .int .i64 rk), (30, .sl (ls.map encS) .unk), (31, .int .i64 ls.length), (32, .int .i64 i)]) ?_ ?_
  rotate_left
  · by_cases c4 : ix = 4
    · have y4 : decide (ix = 4) = true := decide_eq_true c4
      rw [if_pos c4] at hir
      subst hir
      simp -implicitDefEqProofs only [go_sem, tys, regs0, Nat.reduceEqDiff, Nat.reduceAdd, Nat.reduceLeDiff, Nat.reduceLT, Nat.reduceMul, Int.natCast_one, Int.natCast_zero, Int.reduceEq, Int.reduceLT, Int.reduceLE, Int.reduceAdd, Int.reduceSub, Int.reduceToNat, UInt8.reduceToNat, y4, h2, h5, h6, h8, h30, h31, h32]
    · have y4 : decide (ix = 4) = false := decide_eq_false c4
      rw [if_neg c4] at hir
      subst hir
      simp -implicitDefEqProofs only [go_sem, tys, regs0, Nat.reduceEqDiff, Nat.reduceAdd, Nat.reduceLeDiff, Nat.reduceLT, Nat.reduceMul, Int.natCast_one, Int.natCast_zero, Int.reduceEq, Int.reduceLT, Int.reduceLE, Int.reduceAdd, Int.reduceSub, Int.reduceToNat, UInt8.reduceToNat, y4, h2, h5, h6, h8, h30, h31, h32]
  clear h2 h5 h6 h8 h30 h31 h32 q6 hir
  rintro r G' ⟨rfl, hvv⟩
  have h2 := hvv.1
  have h5 := hvv.2.1
  have h6 := hvv.2.2.1
  have h8 := hvv.2.2.2.1
  have h9 := hvv.2.2.2.2.1
  have h11 := hvv.2.2.2.2.2.1
  have h12 := hvv.2.2.2.2.2.2.1
  have h14 := hvv.2.2.2.2.2.2.2.1
  have h30 := hvv.2.2.2.2.2.2.2.2.1
  have h31 := hvv.2.2.2.2.2.2.2.2.2.1
  have h32 := hvv.2.2.2.2.2.2.2.2.2.2.1
  clear hvv
  have hkb : (quotedV rest).1.length ≤ rest.length ∧ (quotedV rest).2.1.length ≤ rest.length := by
    have h1 := cutT_len 32 rest
    have h2 := unqD_len (cutT 32 rest).2.1
    unfold quotedV
    exact ⟨h1.1, by simp only; omega⟩
  generalize quotedV rest = qd at *
  obtain ⟨k, v, is⟩ := qd
  simp only at q3 hE hkb
  simp +contextual -implicitDefEqProofs only [go_sem, gd_M, tys, regs0, Nat.reduceEqDiff, Nat.reduceAdd, Nat.reduceLeDiff, Nat.reduceLT, Nat.reduceMul, Int.natCast_one, Int.natCast_zero, Int.reduceEq, Int.reduceLT, Int.reduceLE, Int.reduceAdd, Int.reduceSub, Int.reduceToNat, UInt8.reduceToNat, h2, h5, h6, h8, h9, h11, h12, h14, h30, h31, h32, puM8, pu0, q3]
  generalize hok : (decide (st ≤ rk) && decide (¬ (i : Int) = torn)) = okb at *
  generalize hEE : (if rk < st then none else if rk = 3 then (if (svcOf (splitB 32 rest)).2 = true then some ({ m with svcs := m.svcs ++ [(svcOf (splitB 32 rest)).1] }, 3) else none) else if is = true then some (addM m rk ⟨[], ⟨k, v, decide (word = wRun)⟩, ⟨k, v⟩, .zero⟩, rk) else (none : Option (MacV × Int))) = E at *
  have hnr : okb = true → ¬ rk < st := fun e => by
    rw [e, Bool.and_eq_true, decide_eq_true_eq] at hok
    omega
  have hlr : ∀ x : LineV, x = ⟨[], ⟨k, v, decide (word = wRun)⟩, ⟨k, v⟩, .zero⟩ → lineR text.length x := fun x e => by
    subst e
    exact ⟨by simp, ⟨by simp only; omega, by simp only; omega⟩, ⟨by simp only; omega, by simp only; omega⟩, by simp [SvcV.zero]⟩
  have hadd := fun r => macN_add hmn (hlr _ rfl) (by omega) r
  have hmn1 := macN_mono hmn
  have hsvr := svcOf_R (s := rest) (n := text.length) (by omega) (by omega)
  have hmsv := macN_svc hmn hsvr
  obtain ⟨⟨b1, b2, b3, b4⟩, _⟩ := hmn
  with_reducible refine cnd_mid (fun r G' => ∃ m' is2, RPI G2 i5 (i + 1) m' G' ∧ (okb = true → E = if is2 = true then some (m', rk) else none) ∧ agrees r [(2, .ptr i2 0), (5, .ptr i5 0), (6, .int .i64 rk), (8, .int .i64 torn), (9, .int .i64 i), (15, .bool okb), (18, .bool is2), (30, .sl (ls.map encS) .unk), (31, .int .i64 ls.length), (32, .int .i64 i)]) ?_ ?_
  rotate_left
  · simp only [encMac] at gM
    by_cases c1 : rk = 0
    · have y1 : decide (rk = 0) = true := decide_eq_true c1
      have ha : ∀ y : LineV, addM m 0 y = { m with facts := m.facts ++ [y.set] } := fun y => by unfold addM; rw [if_pos rfl]
      have hadd := hadd 0
      rw [ha] at hadd
      subst c1
      rw [ha] at hEE
      simp only at hadd hEE
      simp -implicitDefEqProofs only [go_sem, tys, regs0, Nat.reduceEqDiff, Nat.reduceAdd, Nat.reduceLeDiff, Nat.reduceLT, Nat.reduceMul, Int.natCast_one, Int.natCast_zero, Int.reduceEq, Int.reduceLT, Int.reduceLE, Int.reduceAdd, Int.reduceSub, Int.reduceToNat, UInt8.reduceToNat, y1, gM, h2, h5, h6, h8, h9, h11, h12, h30, h31, h32]
      refine AppG.step2 h4.a (encSet_unif _) (by simp) (by simp; omega) (by simp; omega) (fun tl' G5 hA hG => ?_)
      have e : m.facts.map encSet ++ [[.str k, .str v]] = (m.facts ++ [(⟨k, v⟩ : SetV)]).map encSet := by simp [encSet]
      have hA : AppG G2 G5 2 ((m.facts ++ [(⟨k, v⟩ : SetV)]).map encSet) tl' := by rw [← e]; exact hA
      have gM := hG.cells h4.a gM
      have ob := hG.other hA.1 h4.b h4.ab.symm
      have oc := hG.other hA.1 h4.c h4.ac.symm
      have od := hG.other hA.1 h4.d h4.ad.symm
      rw [e]
      simp -implicitDefEqProofs only [go_sem, tys, regs0, Nat.reduceEqDiff, Nat.reduceAdd, Nat.reduceLeDiff, Nat.reduceLT, Nat.reduceMul, Int.natCast_one, Int.natCast_zero, Int.reduceEq, Int.reduceLT, Int.reduceLE, Int.reduceAdd, Int.reduceSub, Int.reduceToNat, UInt8.reduceToNat, gM, h2, h5, h6, h8, h9, h11, h12, h30, h31, h32]
      have h5 : Mac4 G2 G5 { m with facts := m.facts ++ [(⟨k, v⟩ : SetV)] } tl' tb tc td := ⟨hA, ob.1, oc.1, od.1, ob.2.symm, oc.2.symm, od.2.symm, h4.bc, h4.bd, h4.cd⟩
      exact ⟨{ m with facts := m.facts ++ [(⟨k, v⟩ : SetV)] }, is, ⟨hA.1.put' hi5 _, hadd, _, _, _, _, put_same _ _ _, h5.set hi5 gM _⟩, fun e => by rw [← hEE, if_neg (hnr e), if_neg (by decide)], rfl⟩
    have y1 : decide (rk = 0) = false := decide_eq_false c1
    by_cases c2 : rk = 1
    · have y2 : decide (rk = 1) = true := decide_eq_true c2
      have ha : ∀ y : LineV, addM m 1 y = { m with files := m.files ++ [y.file] } := fun y => by unfold addM; rw [if_neg (by decide), if_pos rfl]
      have hadd := hadd 1
      rw [ha] at hadd
      subst c2
      rw [ha] at hEE
      simp only at hadd hEE
      simp -implicitDefEqProofs only [go_sem, tys, regs0, Nat.reduceEqDiff, Nat.reduceAdd, Nat.reduceLeDiff, Nat.reduceLT, Nat.reduceMul, Int.natCast_one, Int.natCast_zero, Int.reduceEq, Int.reduceLT, Int.reduceLE, Int.reduceAdd, Int.reduceSub, Int.reduceToNat, UInt8.reduceToNat, y1, y2, gM, h2, h5, h6, h8, h9, h11, h12, h30, h31, h32]
      refine AppG.step2 h4.b (encFile_unif _) (by simp) (by simp; omega) (by simp; omega) (fun tl' G5 hA hG => ?_)
      have e : m.files.map encFile ++ [[.str k, .str v, .bool (decide (word = wRun))]] = (m.files ++ [(⟨k, v, decide (word = wRun)⟩ : FileV)]).map encFile := by simp [encFile]
      have hA : AppG G2 G5 3 ((m.files ++ [(⟨k, v, decide (word = wRun)⟩ : FileV)]).map encFile) tl' := by rw [← e]; exact hA
      have gM := hG.cells h4.b gM
      have oa := hG.other hA.1 h4.a h4.ab
      have oc := hG.other hA.1 h4.c h4.bc.symm
      have od := hG.other hA.1 h4.d h4.bd.symm
      rw [e]
      simp -implicitDefEqProofs only [go_sem, tys, regs0, Nat.reduceEqDiff, Nat.reduceAdd, Nat.reduceLeDiff, Nat.reduceLT, Nat.reduceMul, Int.natCast_one, Int.natCast_zero, Int.reduceEq, Int.reduceLT, Int.reduceLE, Int.reduceAdd, Int.reduceSub, Int.reduceToNat, UInt8.reduceToNat, gM, h2, h5, h6, h8, h9, h11, h12, h30, h31, h32]
      have h5 : Mac4 G2 G5 { m with files := m.files ++ [(⟨k, v, decide (word = wRun)⟩ : FileV)] } ta tl' tc td := ⟨oa.1, hA, oc.1, od.1, oa.2, h4.ac, h4.ad, oc.2.symm, od.2.symm, h4.cd⟩
      exact ⟨{ m with files := m.files ++ [(⟨k, v, decide (word = wRun)⟩ : FileV)] }, is, ⟨hA.1.put' hi5 _, hadd, _, _, _, _, put_same _ _ _, h5.set hi5 gM _⟩, fun e => by rw [← hEE, if_neg (hnr e), if_neg (by decide)], rfl⟩
    have y2 : decide (rk = 1) = false := decide_eq_false c2
    by_cases c3 : rk = 2
    · have y3 : decide (rk = 2) = true := decide_eq_true c3
      have ha : ∀ y : LineV, addM m 2 y = { m with sets := m.sets ++ [y.set] } := fun y => by unfold addM; rw [if_neg (by decide), if_neg (by decide), if_pos rfl]
      have hadd := hadd 2
      rw [ha] at hadd
      subst c3
      rw [ha] at hEE
      simp only at hadd hEE
      simp -implicitDefEqProofs only [go_sem, tys, regs0, Nat.reduceEqDiff, Nat.reduceAdd, Nat.reduceLeDiff, Nat.reduceLT, Nat.reduceMul, Int.natCast_one, Int.natCast_zero, Int.reduceEq, Int.reduceLT, Int.reduceLE, Int.reduceAdd, Int.reduceSub, Int.reduceToNat, UInt8.reduceToNat, y1, y2, y3, gM, h2, h5, h6, h8, h9, h11, h12, h30, h31, h32]
      refine AppG.step2 h4.c (encSet_unif _) (by simp) (by simp; omega) (by simp; omega) (fun tl' G5 hA hG => ?_)
      have e : m.sets.map encSet ++ [[.str k, .str v]] = (m.sets ++ [(⟨k, v⟩ : SetV)]).map encSet := by simp [encSet]
      have hA : AppG G2 G5 2 ((m.sets ++ [(⟨k, v⟩ : SetV)]).map encSet) tl' := by rw [← e]; exact hA
      have gM := hG.cells h4.c gM
      have oa := hG.other hA.1 h4.a h4.ac
      have ob := hG.other hA.1 h4.b h4.bc
      have od := hG.other hA.1 h4.d h4.cd.symm
      rw [e]
      simp -implicitDefEqProofs only [go_sem, tys, regs0, Nat.reduceEqDiff, Nat.reduceAdd, Nat.reduceLeDiff, Nat.reduceLT, Nat.reduceMul, Int.natCast_one, Int.natCast_zero, Int.reduceEq, Int.reduceLT, Int.reduceLE, Int.reduceAdd, Int.reduceSub, Int.reduceToNat, UInt8.reduceToNat, gM, h2, h5, h6, h8, h9, h11, h12, h30, h31, h32]
      have h5 : Mac4 G2 G5 { m with sets := m.sets ++ [(⟨k, v⟩ : SetV)] } ta tb tl' td := ⟨oa.1, ob.1, hA, od.1, h4.ab, oa.2, h4.ad, ob.2, h4.bd, od.2.symm⟩
      exact ⟨{ m with sets := m.sets ++ [(⟨k, v⟩ : SetV)] }, is, ⟨hA.1.put' hi5 _, hadd, _, _, _, _, put_same _ _ _, h5.set hi5 gM _⟩, fun e => by rw [← hEE, if_neg (hnr e), if_neg (by decide)], rfl⟩
    have y3 : decide (rk = 2) = false := decide_eq_false c3
    by_cases c4 : rk = 3
    · have y4 : decide (rk = 3) = true := decide_eq_true c4
      subst c4
      rw [if_pos rfl] at hEE
      generalize svcOf (splitB 32 rest) = so at *
      obtain ⟨sv, is3⟩ := so
      simp only at hEE hmsv q5
      unfold encSvc at q5
      have hS0 := hS
      simp -implicitDefEqProofs only [go_sem, tys, regs0, Nat.reduceEqDiff, Nat.reduceAdd, Nat.reduceLeDiff, Nat.reduceLT, Nat.reduceMul, Int.natCast_one, Int.natCast_zero, Int.reduceEq, Int.reduceLT, Int.reduceLE, Int.reduceAdd, Int.reduceSub, Int.reduceToNat, UInt8.reduceToNat, y1, y2, y3, y4, gM, h2, h5, h6, h8, h9, h11, h12, h30, h31, h32]
      with_reducible refine nwC_intro fun i19 hi19 => ?_
      simp -implicitDefEqProofs only [go_sem, tys, regs0, Nat.reduceEqDiff, Nat.reduceAdd, Nat.reduceLeDiff, Nat.reduceLT, Nat.reduceMul, Int.natCast_one, Int.natCast_zero, Int.reduceEq, Int.reduceLT, Int.reduceLE, Int.reduceAdd, Int.reduceSub, Int.reduceToNat, UInt8.reduceToNat, y1, y2, y3, y4, gM, h2, h5, h6, h8, h9, h11, h12, h30, h31, h32, puM8, pu0, q4, q5]
      have d5 : ¬ i5 = i19 := obj_ne gM hi19
      have h4 := h4.put hi19 (.cells [.str sv.name, .str sv.path, .bool sv.auto, .bool sv.on])
      have gM : (G'.put i19 (.cells [.str sv.name, .str sv.path, .bool sv.auto, .bool sv.on])) i5 = some (.cells [.sl (m.facts.map encSet) ta, .sl (m.files.map encFile) tb, .sl (m.sets.map encSet) tc, .sl (m.svcs.map encSvc) td]) := by rw [put_ne _ _ _ _ d5]; exact gM
      have g19 := put_same G' i19 (.cells [.str sv.name, .str sv.path, .bool sv.auto, .bool sv.on])
      generalize G'.put i19 (.cells [.str sv.name, .str sv.path, .bool sv.auto, .bool sv.on]) = G9 at *
      simp -implicitDefEqProofs only [go_sem, tys, regs0, Nat.reduceEqDiff, Nat.reduceAdd, Nat.reduceLeDiff, Nat.reduceLT, Nat.reduceMul, Int.natCast_one, Int.natCast_zero, Int.reduceEq, Int.reduceLT, Int.reduceLE, Int.reduceAdd, Int.reduceSub, Int.reduceToNat, UInt8.reduceToNat, y1, y2, y3, y4, gM, g19, h2, h5, h6, h8, h9, h11, h12, h30, h31, h32, puM8, pu0, q4, q5]
      refine AppG.step2 h4.d (encSvc_unif _) (by simp) (by simp; omega) (by simp; omega) (fun tl' G5 hA hG => ?_)
      have e : m.svcs.map encSvc ++ [[.str sv.name, .str sv.path, .bool sv.auto, .bool sv.on]] = (m.svcs ++ [sv]).map encSvc := by simp [encSvc]
      have hA : AppG G2 G5 4 ((m.svcs ++ [sv]).map encSvc) tl' := by rw [← e]; exact hA
      have gM := hG.cells h4.d gM
      have oa := hG.other hA.1 h4.a h4.ad
      have ob := hG.other hA.1 h4.b h4.bd
      have oc := hG.other hA.1 h4.c h4.cd
      rw [e]
      simp -implicitDefEqProofs only [go_sem, tys, regs0, Nat.reduceEqDiff, Nat.reduceAdd, Nat.reduceLeDiff, Nat.reduceLT, Nat.reduceMul, Int.natCast_one, Int.natCast_zero, Int.reduceEq, Int.reduceLT, Int.reduceLE, Int.reduceAdd, Int.reduceSub, Int.reduceToNat, UInt8.reduceToNat, gM, h2, h5, h6, h8, h9, h11, h12, h30, h31, h32]
      have h5 : Mac4 G2 G5 { m with svcs := m.svcs ++ [sv] } ta tb tc tl' := ⟨oa.1, ob.1, oc.1, hA, h4.ab, h4.ac, oa.2, h4.bc, ob.2, oc.2⟩
      exact ⟨{ m with svcs := m.svcs ++ [sv] }, is3, ⟨hA.1.put' hi5 _, hmsv, _, _, _, _, put_same _ _ _, h5.set hi5 gM _⟩, fun e => by rw [← hEE, if_neg (hnr e)], rfl⟩
    have y4 : decide (rk = 3) = false := decide_eq_false c4
    simp -implicitDefEqProofs only [go_sem, tys, regs0, Nat.reduceEqDiff, Nat.reduceAdd, Nat.reduceLeDiff, Nat.reduceLT, Nat.reduceMul, Int.natCast_one, Int.natCast_zero, Int.reduceEq, Int.reduceLT, Int.reduceLE, Int.reduceAdd, Int.reduceSub, Int.reduceToNat, UInt8.reduceToNat, y1, y2, y3, y4, h2, h5, h8, h9, h30, h31, h32]
    exact ⟨m, is, ⟨hS, hmn1, ta, tb, tc, td, gM, h4⟩, fun e => absurd (hnr e) (by omega), rfl⟩
  clear h2 h5 h6 h8 h9 h11 h12 h14 h30 h31 h32 gM h4 g2 hS hSH
  rintro r G ⟨m', is2, ⟨hS, hmn', ta', tb', tc', td', gM, h4⟩, hEm, hvv⟩
  have h2 := hvv.1
  have h5 := hvv.2.1
  have h6 := hvv.2.2.1
  have h8 := hvv.2.2.2.1
  have h9 := hvv.2.2.2.2.1
  have h15 := hvv.2.2.2.2.2.1
  have h18 := hvv.2.2.2.2.2.2.1
  have h30 := hvv.2.2.2.2.2.2.2.1
  have h31 := hvv.2.2.2.2.2.2.2.2.1
  have h32 := hvv.2.2.2.2.2.2.2.2.2.1
  clear hvv
  have g2 := hS _ _ g20
  have hSH : H.Sub G := fun i o hi => hS i o (by rw [← E2, put_ne _ _ _ _ (obj_ne hi hi2)]; exact hi)
  have herr : rdL lineM (MacV.zero, 0) 0 (splitB 10 text) = .error i → parseMA text = .tup [.agg (encMac .zero .unk .unk .unk .unk), .int .i64 i, .int .i64 8] := fun e => by
    rw [e] at hp
    simp only at hp
    rw [hv, hp]
  cases hokb : okb with
  | false =>
    rw [hokb] at h15 hok
    have e : rdL lineM (MacV.zero, 0) 0 (splitB 10 text) = .error i := by
      rw [hE]
      by_cases ct : (i : Int) = torn
      · rw [if_pos ct]
      · rw [if_neg ct, ← hEE, if_pos]
        rw [decide_eq_true ct, Bool.and_true, decide_eq_false_iff_not] at hok
        omega
    simp -implicitDefEqProofs only [go_sem, tys, regs0, Nat.reduceEqDiff, Nat.reduceAdd, Nat.reduceLeDiff, Nat.reduceLT, Nat.reduceMul, Int.natCast_one, Int.natCast_zero, Int.reduceEq, Int.reduceLT, Int.reduceLE, Int.reduceAdd, Int.reduceSub, Int.reduceToNat, UInt8.reduceToNat, h2, h5, h6, h8, h9, h15, h18, h30, h31, h32, g2]
    exact Done.wk 3 (Done.drop (hSH.put' n2 _) ⟨by rw [herr e]; rfl, rfl⟩)
  | true =>
    have hEm := hEm hokb
    rw [hokb] at h15 hok
    have ct : ¬ (i : Int) = torn := by
      rw [Bool.and_eq_true, decide_eq_true_eq, decide_eq_true_eq] at hok
      exact hok.2
    rw [if_neg ct] at hE
    cases is2 with
    | false =>
      rw [if_neg (by simp)] at hEm
      rw [hEm] at hE
      simp -implicitDefEqProofs only [go_sem, tys, regs0, Nat.reduceEqDiff, Nat.reduceAdd, Nat.reduceLeDiff, Nat.reduceLT, Nat.reduceMul, Int.natCast_one, Int.natCast_zero, Int.reduceEq, Int.reduceLT, Int.reduceLE, Int.reduceAdd, Int.reduceSub, Int.reduceToNat, UInt8.reduceToNat, h2, h5, h6, h8, h9, h15, h18, h30, h31, h32, g2]
      exact Done.wk 3 (Done.drop (hSH.put' n2 _) ⟨by rw [herr hE]; rfl, rfl⟩)
    | true =>
      rw [if_pos rfl] at hEm
      rw [hEm] at hE
      simp -implicitDefEqProofs only [go_sem, tys, regs0, Nat.reduceEqDiff, Nat.reduceAdd, Nat.reduceLeDiff, Nat.reduceLT, Nat.reduceMul, Int.natCast_one, Int.natCast_zero, Int.reduceEq, Int.reduceLT, Int.reduceLE, Int.reduceAdd, Int.reduceSub, Int.reduceToNat, UInt8.reduceToNat, h2, h5, h6, h8, h9, h15, h18, h30, h31, h32, ws]
      refine Again.mk (i + 1, m', rk) (by simp -implicitDefEqProofs only [go_sem, tys, regs0, Nat.reduceEqDiff, Nat.reduceAdd, Nat.reduceLeDiff, Nat.reduceLT, Nat.reduceMul, Int.natCast_one, Int.natCast_zero, Int.reduceEq, Int.reduceLT, Int.reduceLE, Int.reduceAdd, Int.reduceSub, Int.reduceToNat, UInt8.reduceToNat, h2, h5, h6, h8, h30, h31]) ⟨by simp only; omega, ?_, ⟨hS, hmn', _, _, _, _, gM, h4⟩, hE, fun _ => by simp only; omega⟩ (by simp only; omega)
      have := hnr hokb
      simp only
      omega
end Go.Proofs

/- Walks: Same, and the law MachinesParse. -/
namespace Go.Proofs
open Go Go.Abs
set_option linter.unusedSimpArgs false
set_option linter.unusedVariables false
set_option maxRecDepth 20000
theorem eqSet_calls_ne (cx cy : Bool) (a b : SetV) : bin Tryd.prog .neq 44 cx cy (.agg (encSet a)) (.agg (encSet b)) = some (.bool (decide ¬ a = b)) := by
  have h : eqT Tryd.prog 6 44 (.agg (encSet a)) (.agg (encSet b)) = some (decide (a = b)) := by
    obtain ⟨xkey, xvalue⟩ := a
    obtain ⟨ykey, yvalue⟩ := b
    simp only [encSet, eqT, eqFields, tys, readC, TD.agg, if_true, List.drop_zero, List.drop_succ_cons, List.head?_cons, Bool.false_eq_true, if_false, Option.some.injEq, Bool.and_true]
    rw [Bool.eq_iff_iff]
    simp [SetV.mk.injEq]
  have e : eqA Tryd.prog 44 cx cy (.agg (encSet a)) (.agg (encSet b)) = some (decide (a = b)) := by
    unfold eqA
    simp only [tys, if_true]
    exact h
  show (eqA Tryd.prog 44 cx cy (.agg (encSet a)) (.agg (encSet b))).map (fun b => AV.bool (!b)) = _
  rw [e]
  simp
theorem eqSet_calls (a b : List SetV) (t t' : Tail) (H : Heap) (ha : a.length ≤ 1099511627776) : ACalls Tryd.prog 27 [.sl (a.map encSet) t, .sl (b.map encSet) t'] H fun x H' => x = .bool (decide (a = b)) ∧ H' = H := by
  by_cases hl : ¬ a.length = b.length
  · have d1 : decide (¬ (a.length : Int) = b.length) = true := by simp; omega
    refine ACalls.of_code (X := { pure := pu0 }) pu0_ok Tryd.func27 (by kernel_rfl) rfl (by kernel_rfl) (Nat.le_of_ble_eq_true rfl) ?_
    simp -implicitDefEqProofs only [go_sem, tys, regs0, Nat.reduceEqDiff, Nat.reduceAdd, Nat.reduceLeDiff, Nat.reduceLT, Nat.reduceMul, Int.natCast_one, Int.natCast_zero, Int.reduceEq, Int.reduceLT, Int.reduceLE, Int.reduceAdd, Int.reduceSub, Int.reduceToNat, UInt8.reduceToNat, Tryd.f27, d1]
    refine Done.now ⟨?_, rfl⟩
    have : ¬ a = b := fun e => hl (by rw [e])
    simp [this]
  · have hl : a.length = b.length := Decidable.not_not.1 hl
    have d1 : decide (¬ (a.length : Int) = b.length) = false := by simp; omega
    refine ACalls.of_code (X := { pure := pu0 }) pu0_ok Tryd.func27 (by kernel_rfl) rfl (by kernel_rfl) (Nat.le_of_ble_eq_true rfl) ?_
    simp -implicitDefEqProofs only [go_sem, tys, regs0, Nat.reduceEqDiff, Nat.reduceAdd, Nat.reduceLeDiff, Nat.reduceLT, Nat.reduceMul, Int.natCast_one, Int.natCast_zero, Int.reduceEq, Int.reduceLT, Int.reduceLE, Int.reduceAdd, Int.reduceSub, Int.reduceToNat, UInt8.reduceToNat, Tryd.f27, d1]
    refine aloop_intro (σ := Nat) (fun i => [(0, .sl (a.map encSet) t), (1, .sl (b.map encSet) t'), (12, .int .i64 a.length), (13, .int .i64 i)])
      (fun i G => G = H ∧ i ≤ a.length ∧ a.take i = b.take i) (fun i => a.length - i) 0 ?_ ?_ ?_
    · simp -implicitDefEqProofs only [go_sem, tys, regs0, Nat.reduceEqDiff, Nat.reduceAdd, Nat.reduceLeDiff, Nat.reduceLT, Nat.reduceMul, Int.natCast_one, Int.natCast_zero, Int.reduceEq, Int.reduceLT, Int.reduceLE, Int.reduceAdd, Int.reduceSub, Int.reduceToNat, UInt8.reduceToNat]
    · simp
    · intro i r G hv hI
      have h0 := hv.1
      have h1 := hv.2.1
      have h12 := hv.2.2.1
      have h13 := hv.2.2.2.1
      have hG := hI.1.symm
      have hi := hI.2.1
      have hp := hI.2.2
      clear hv hI
      subst hG
      simp -implicitDefEqProofs only [go_sem, tys, regs0, Nat.reduceEqDiff, Nat.reduceAdd, Nat.reduceLeDiff, Nat.reduceLT, Nat.reduceMul, Int.natCast_one, Int.natCast_zero, Int.reduceEq, Int.reduceLT, Int.reduceLE, Int.reduceAdd, Int.reduceSub, Int.reduceToNat, UInt8.reduceToNat, h0, h1, h12, h13]
      refine cnd_intro (fun h => ?_) (fun h => ?_)
      · simp only [decide_eq_true_eq] at h
        obtain ⟨x, hx⟩ := get_some (l := a) (i := i) (by omega)
        obtain ⟨y, hy⟩ := get_some (l := b) (i := i) (by omega)
        have ht := take_eq_succ hx hy
        have hn := fun cx cy => eqSet_calls_ne cx cy x y
        obtain ⟨xkey, xvalue⟩ := x
        obtain ⟨ykey, yvalue⟩ := y
        simp only [encSet] at hn
        simp -implicitDefEqProofs only [go_sem, tys, regs0, Nat.reduceEqDiff, Nat.reduceAdd, Nat.reduceLeDiff, Nat.reduceLT, Nat.reduceMul, Int.natCast_one, Int.natCast_zero, Int.reduceEq, Int.reduceLT, Int.reduceLE, Int.reduceAdd, Int.reduceSub, Int.reduceToNat, UInt8.reduceToNat, h0, h1, h12, h13, hx, hy, encSet, hn]
        refine cnd_intro (fun g => ?_) (fun g => ?_)
        · simp -implicitDefEqProofs only [go_sem, tys, regs0, Nat.reduceEqDiff, Nat.reduceAdd, Nat.reduceLeDiff, Nat.reduceLT, Nat.reduceMul, Int.natCast_one, Int.natCast_zero, Int.reduceEq, Int.reduceLT, Int.reduceLE, Int.reduceAdd, Int.reduceSub, Int.reduceToNat, UInt8.reduceToNat]
          refine Done.now ⟨?_, rfl⟩
          have : ¬ a = b := fun e => by subst e; rw [hx] at hy; cases hy; simp at g
          simp [this]
        · simp -implicitDefEqProofs (disch := omega) only [go_sem, tys, regs0, Nat.reduceEqDiff, Nat.reduceAdd, Nat.reduceLeDiff, Nat.reduceLT, Nat.reduceMul, Int.natCast_one, Int.natCast_zero, Int.reduceEq, Int.reduceLT, Int.reduceLE, Int.reduceAdd, Int.reduceSub, Int.reduceToNat, UInt8.reduceToNat, Go.IntWalk.i64_in, h0, h1, h12, h13]
          simp only [decide_eq_false_iff_not, Decidable.not_not] at g
          exact Again.mk (i + 1) (by simp -implicitDefEqProofs only [go_sem, tys, regs0, Nat.reduceEqDiff, Nat.reduceAdd, Nat.reduceLeDiff, Nat.reduceLT, Nat.reduceMul, Int.natCast_one, Int.natCast_zero, Int.reduceEq, Int.reduceLT, Int.reduceLE, Int.reduceAdd, Int.reduceSub, Int.reduceToNat, UInt8.reduceToNat, h0, h1, h12, h13]; exact rfl) ⟨rfl, by omega, ht.2 ⟨hp, g⟩⟩ (by omega)
      · simp only [decide_eq_false_iff_not] at h
        have e : i = a.length := by omega
        rw [e, List.take_length, hl, List.take_length] at hp
        simp -implicitDefEqProofs only [go_sem, tys, regs0, Nat.reduceEqDiff, Nat.reduceAdd, Nat.reduceLeDiff, Nat.reduceLT, Nat.reduceMul, Int.natCast_one, Int.natCast_zero, Int.reduceEq, Int.reduceLT, Int.reduceLE, Int.reduceAdd, Int.reduceSub, Int.reduceToNat, UInt8.reduceToNat]
        exact Done.now ⟨by simp [hp], rfl⟩

theorem eqFile_calls_ne (cx cy : Bool) (a b : FileV) : bin Tryd.prog .neq 42 cx cy (.agg (encFile a)) (.agg (encFile b)) = some (.bool (decide ¬ a = b)) := by
  have h : eqT Tryd.prog 6 42 (.agg (encFile a)) (.agg (encFile b)) = some (decide (a = b)) := by
    obtain ⟨xpath, xdata, xruns⟩ := a
    obtain ⟨ypath, ydata, yruns⟩ := b
    simp only [encFile, eqT, eqFields, tys, readC, TD.agg, if_true, List.drop_zero, List.drop_succ_cons, List.head?_cons, Bool.false_eq_true, if_false, Option.some.injEq, Bool.and_true]
    rw [Bool.eq_iff_iff]
    simp [FileV.mk.injEq]
  have e : eqA Tryd.prog 42 cx cy (.agg (encFile a)) (.agg (encFile b)) = some (decide (a = b)) := by
    unfold eqA
    simp only [tys, if_true]
    exact h
  show (eqA Tryd.prog 42 cx cy (.agg (encFile a)) (.agg (encFile b))).map (fun b => AV.bool (!b)) = _
  rw [e]
  simp
theorem eqFile_calls (a b : List FileV) (t t' : Tail) (H : Heap) (ha : a.length ≤ 1099511627776) : ACalls Tryd.prog 28 [.sl (a.map encFile) t, .sl (b.map encFile) t'] H fun x H' => x = .bool (decide (a = b)) ∧ H' = H := by
  by_cases hl : ¬ a.length = b.length
  · have d1 : decide (¬ (a.length : Int) = b.length) = true := by simp; omega
    refine ACalls.of_code (X := { pure := pu0 }) pu0_ok Tryd.func28 (by kernel_rfl) rfl (by kernel_rfl) (Nat.le_of_ble_eq_true rfl) ?_
    simp -implicitDefEqProofs only [go_sem, tys, regs0, Nat.reduceEqDiff, Nat.reduceAdd, Nat.reduceLeDiff, Nat.reduceLT, Nat.reduceMul, Int.natCast_one, Int.natCast_zero, Int.reduceEq, Int.reduceLT, Int.reduceLE, Int.reduceAdd, Int.reduceSub, Int.reduceToNat, UInt8.reduceToNat, Tryd.f28, d1]
    refine Done.now ⟨?_, rfl⟩
    have : ¬ a = b := fun e => hl (by rw [e])
    simp [this]
  · have hl : a.length = b.length := Decidable.not_not.1 hl
    have d1 : decide (¬ (a.length : Int) = b.length) = false := by simp; omega
    refine ACalls.of_code (X := { pure := pu0 }) pu0_ok Tryd.func28 (by kernel_rfl) rfl (by kernel_rfl) (Nat.le_of_ble_eq_true rfl) ?_
    simp -implicitDefEqProofs only [go_sem, tys, regs0, Nat.reduceEqDiff, Nat.reduceAdd, Nat.reduceLeDiff, Nat.reduceLT, Nat.reduceMul, Int.natCast_one, Int.natCast_zero, Int.reduceEq, Int.reduceLT, Int.reduceLE, Int.reduceAdd, Int.reduceSub, Int.reduceToNat, UInt8.reduceToNat, Tryd.f28, d1]
    refine aloop_intro (σ := Nat) (fun i => [(0, .sl (a.map encFile) t), (1, .sl (b.map encFile) t'), (12, .int .i64 a.length), (13, .int .i64 i)])
      (fun i G => G = H ∧ i ≤ a.length ∧ a.take i = b.take i) (fun i => a.length - i) 0 ?_ ?_ ?_
    · simp -implicitDefEqProofs only [go_sem, tys, regs0, Nat.reduceEqDiff, Nat.reduceAdd, Nat.reduceLeDiff, Nat.reduceLT, Nat.reduceMul, Int.natCast_one, Int.natCast_zero, Int.reduceEq, Int.reduceLT, Int.reduceLE, Int.reduceAdd, Int.reduceSub, Int.reduceToNat, UInt8.reduceToNat]
    · simp
    · intro i r G hv hI
      have h0 := hv.1
      have h1 := hv.2.1
      have h12 := hv.2.2.1
      have h13 := hv.2.2.2.1
      have hG := hI.1.symm
      have hi := hI.2.1
      have hp := hI.2.2
      clear hv hI
      subst hG
      simp -implicitDefEqProofs only [go_sem, tys, regs0, Nat.reduceEqDiff, Nat.reduceAdd, Nat.reduceLeDiff, Nat.reduceLT, Nat.reduceMul, Int.natCast_one, Int.natCast_zero, Int.reduceEq, Int.reduceLT, Int.reduceLE, Int.reduceAdd, Int.reduceSub, Int.reduceToNat, UInt8.reduceToNat, h0, h1, h12, h13]
      refine cnd_intro (fun h => ?_) (fun h => ?_)
      · simp only [decide_eq_true_eq] at h
        obtain ⟨x, hx⟩ := get_some (l := a) (i := i) (by omega)
        obtain ⟨y, hy⟩ := get_some (l := b) (i := i) (by omega)
        have ht := take_eq_succ hx hy
        have hn := fun cx cy => eqFile_calls_ne cx cy x y
        obtain ⟨xpath, xdata, xruns⟩ := x
        obtain ⟨ypath, ydata, yruns⟩ := y
        simp only [encFile] at hn
        simp -implicitDefEqProofs only [go_sem, tys, regs0, Nat.reduceEqDiff, Nat.reduceAdd, Nat.reduceLeDiff, Nat.reduceLT, Nat.reduceMul, Int.natCast_one, Int.natCast_zero, Int.reduceEq, Int.reduceLT, Int.reduceLE, Int.reduceAdd, Int.reduceSub, Int.reduceToNat, UInt8.reduceToNat, h0, h1, h12, h13, hx, hy, encFile, hn]
        refine cnd_intro (fun g => ?_) (fun g => ?_)
        · simp -implicitDefEqProofs only [go_sem, tys, regs0, Nat.reduceEqDiff, Nat.reduceAdd, Nat.reduceLeDiff, Nat.reduceLT, Nat.reduceMul, Int.natCast_one, Int.natCast_zero, Int.reduceEq, Int.reduceLT, Int.reduceLE, Int.reduceAdd, Int.reduceSub, Int.reduceToNat, UInt8.reduceToNat]
          refine Done.now ⟨?_, rfl⟩
          have : ¬ a = b := fun e => by subst e; rw [hx] at hy; cases hy; simp at g
          simp [this]
        · simp -implicitDefEqProofs (disch := omega) only [go_sem, tys, regs0, Nat.reduceEqDiff, Nat.reduceAdd, Nat.reduceLeDiff, Nat.reduceLT, Nat.reduceMul, Int.natCast_one, Int.natCast_zero, Int.reduceEq, Int.reduceLT, Int.reduceLE, Int.reduceAdd, Int.reduceSub, Int.reduceToNat, UInt8.reduceToNat, Go.IntWalk.i64_in, h0, h1, h12, h13]
          simp only [decide_eq_false_iff_not, Decidable.not_not] at g
          exact Again.mk (i + 1) (by simp -implicitDefEqProofs only [go_sem, tys, regs0, Nat.reduceEqDiff, Nat.reduceAdd, Nat.reduceLeDiff, Nat.reduceLT, Nat.reduceMul, Int.natCast_one, Int.natCast_zero, Int.reduceEq, Int.reduceLT, Int.reduceLE, Int.reduceAdd, Int.reduceSub, Int.reduceToNat, UInt8.reduceToNat, h0, h1, h12, h13]; exact rfl) ⟨rfl, by omega, ht.2 ⟨hp, g⟩⟩ (by omega)
      · simp only [decide_eq_false_iff_not] at h
        have e : i = a.length := by omega
        rw [e, List.take_length, hl, List.take_length] at hp
        simp -implicitDefEqProofs only [go_sem, tys, regs0, Nat.reduceEqDiff, Nat.reduceAdd, Nat.reduceLeDiff, Nat.reduceLT, Nat.reduceMul, Int.natCast_one, Int.natCast_zero, Int.reduceEq, Int.reduceLT, Int.reduceLE, Int.reduceAdd, Int.reduceSub, Int.reduceToNat, UInt8.reduceToNat]
        exact Done.now ⟨by simp [hp], rfl⟩

theorem eqSvc_calls_ne (cx cy : Bool) (a b : SvcV) : bin Tryd.prog .neq 46 cx cy (.agg (encSvc a)) (.agg (encSvc b)) = some (.bool (decide ¬ a = b)) := by
  have h : eqT Tryd.prog 6 46 (.agg (encSvc a)) (.agg (encSvc b)) = some (decide (a = b)) := by
    obtain ⟨xname, xpath, xauto, xon⟩ := a
    obtain ⟨yname, ypath, yauto, yon⟩ := b
    simp only [encSvc, eqT, eqFields, tys, readC, TD.agg, if_true, List.drop_zero, List.drop_succ_cons, List.head?_cons, Bool.false_eq_true, if_false, Option.some.injEq, Bool.and_true]
    rw [Bool.eq_iff_iff]
    simp [SvcV.mk.injEq]
  have e : eqA Tryd.prog 46 cx cy (.agg (encSvc a)) (.agg (encSvc b)) = some (decide (a = b)) := by
    unfold eqA
    simp only [tys, if_true]
    exact h
  show (eqA Tryd.prog 46 cx cy (.agg (encSvc a)) (.agg (encSvc b))).map (fun b => AV.bool (!b)) = _
  rw [e]
  simp
theorem eqSvc_calls (a b : List SvcV) (t t' : Tail) (H : Heap) (ha : a.length ≤ 1099511627776) : ACalls Tryd.prog 29 [.sl (a.map encSvc) t, .sl (b.map encSvc) t'] H fun x H' => x = .bool (decide (a = b)) ∧ H' = H := by
  by_cases hl : ¬ a.length = b.length
  · have d1 : decide (¬ (a.length : Int) = b.length) = true := by simp; omega
    refine ACalls.of_code (X := { pure := pu0 }) pu0_ok Tryd.func29 (by kernel_rfl) rfl (by kernel_rfl) (Nat.le_of_ble_eq_true rfl) ?_
    simp -implicitDefEqProofs only [go_sem, tys, regs0, Nat.reduceEqDiff, Nat.reduceAdd, Nat.reduceLeDiff, Nat.reduceLT, Nat.reduceMul, Int.natCast_one, Int.natCast_zero, Int.reduceEq, Int.reduceLT, Int.reduceLE, Int.reduceAdd, Int.reduceSub, Int.reduceToNat, UInt8.reduceToNat, Tryd.f29, d1]
    refine Done.now ⟨?_, rfl⟩
    have : ¬ a = b := fun e => hl (by rw [e])
    simp [this]
  · have hl : a.length = b.length := Decidable.not_not.1 hl
    have d1 : decide (¬ (a.length : Int) = b.length) = false := by simp; omega
    refine ACalls.of_code (X := { pure := pu0 }) pu0_ok Tryd.func29 (by kernel_rfl) rfl (by kernel_rfl) (Nat.le_of_ble_eq_true rfl) ?_
    simp -implicitDefEqProofs only [go_sem, tys, regs0, Nat.reduceEqDiff, Nat.reduceAdd, Nat.reduceLeDiff, Nat.reduceLT, Nat.reduceMul, Int.natCast_one, Int.natCast_zero, Int.reduceEq, Int.reduceLT, Int.reduceLE, Int.reduceAdd, Int.reduceSub, Int.reduceToNat, UInt8.reduceToNat, Tryd.f29, d1]
    refine aloop_intro (σ := Nat) (fun i => [(0, .sl (a.map encSvc) t), (1, .sl (b.map encSvc) t'), (12, .int .i64 a.length), (13, .int .i64 i)])
      (fun i G => G = H ∧ i ≤ a.length ∧ a.take i = b.take i) (fun i => a.length - i) 0 ?_ ?_ ?_
    · simp -implicitDefEqProofs only [go_sem, tys, regs0, Nat.reduceEqDiff, Nat.reduceAdd, Nat.reduceLeDiff, Nat.reduceLT, Nat.reduceMul, Int.natCast_one, Int.natCast_zero, Int.reduceEq, Int.reduceLT, Int.reduceLE, Int.reduceAdd, Int.reduceSub, Int.reduceToNat, UInt8.reduceToNat]
    · simp
    · intro i r G hv hI
      have h0 := hv.1
      have h1 := hv.2.1
      have h12 := hv.2.2.1
      have h13 := hv.2.2.2.1
      have hG := hI.1.symm
      have hi := hI.2.1
      have hp := hI.2.2
      clear hv hI
      subst hG
      simp -implicitDefEqProofs only [go_sem, tys, regs0, Nat.reduceEqDiff, Nat.reduceAdd, Nat.reduceLeDiff, Nat.reduceLT, Nat.reduceMul, Int.natCast_one, Int.natCast_zero, Int.reduceEq, Int.reduceLT, Int.reduceLE, Int.reduceAdd, Int.reduceSub, Int.reduceToNat, UInt8.reduceToNat, h0, h1, h12, h13]
      refine cnd_intro (fun h => ?_) (fun h => ?_)
      · simp only [decide_eq_true_eq] at h
        obtain ⟨x, hx⟩ := get_some (l := a) (i := i) (by omega)
        obtain ⟨y, hy⟩ := get_some (l := b) (i := i) (by omega)
        have ht := take_eq_succ hx hy
        have hn := fun cx cy => eqSvc_calls_ne cx cy x y
        obtain ⟨xname, xpath, xauto, xon⟩ := x
        obtain ⟨yname, ypath, yauto, yon⟩ := y
        simp only [encSvc] at hn
        simp -implicitDefEqProofs only [go_sem, tys, regs0, Nat.reduceEqDiff, Nat.reduceAdd, Nat.reduceLeDiff, Nat.reduceLT, Nat.reduceMul, Int.natCast_one, Int.natCast_zero, Int.reduceEq, Int.reduceLT, Int.reduceLE, Int.reduceAdd, Int.reduceSub, Int.reduceToNat, UInt8.reduceToNat, h0, h1, h12, h13, hx, hy, encSvc, hn]
        refine cnd_intro (fun g => ?_) (fun g => ?_)
        · simp -implicitDefEqProofs only [go_sem, tys, regs0, Nat.reduceEqDiff, Nat.reduceAdd, Nat.reduceLeDiff, Nat.reduceLT, Nat.reduceMul, Int.natCast_one, Int.natCast_zero, Int.reduceEq, Int.reduceLT, Int.reduceLE, Int.reduceAdd, Int.reduceSub, Int.reduceToNat, UInt8.reduceToNat]
          refine Done.now ⟨?_, rfl⟩
          have : ¬ a = b := fun e => by subst e; rw [hx] at hy; cases hy; simp at g
          simp [this]
        · simp -implicitDefEqProofs (disch := omega) only [go_sem, tys, regs0, Nat.reduceEqDiff, Nat.reduceAdd, Nat.reduceLeDiff, Nat.reduceLT, Nat.reduceMul, Int.natCast_one, Int.natCast_zero, Int.reduceEq, Int.reduceLT, Int.reduceLE, Int.reduceAdd, Int.reduceSub, Int.reduceToNat, UInt8.reduceToNat, Go.IntWalk.i64_in, h0, h1, h12, h13]
          simp only [decide_eq_false_iff_not, Decidable.not_not] at g
          exact Again.mk (i + 1) (by simp -implicitDefEqProofs only [go_sem, tys, regs0, Nat.reduceEqDiff, Nat.reduceAdd, Nat.reduceLeDiff, Nat.reduceLT, Nat.reduceMul, Int.natCast_one, Int.natCast_zero, Int.reduceEq, Int.reduceLT, Int.reduceLE, Int.reduceAdd, Int.reduceSub, Int.reduceToNat, UInt8.reduceToNat, h0, h1, h12, h13]; exact rfl) ⟨rfl, by omega, ht.2 ⟨hp, g⟩⟩ (by omega)
      · simp only [decide_eq_false_iff_not] at h
        have e : i = a.length := by omega
        rw [e, List.take_length, hl, List.take_length] at hp
        simp -implicitDefEqProofs only [go_sem, tys, regs0, Nat.reduceEqDiff, Nat.reduceAdd, Nat.reduceLeDiff, Nat.reduceLT, Nat.reduceMul, Int.natCast_one, Int.natCast_zero, Int.reduceEq, Int.reduceLT, Int.reduceLE, Int.reduceAdd, Int.reduceSub, Int.reduceToNat, UInt8.reduceToNat]
        exact Done.now ⟨by simp [hp], rfl⟩

def sEqL {α : Type} [DecidableEq α] (dec : List AV → Option α) : List AV → Option AV := fn2 (Rd.list dec) (Rd.list dec) fun a b => if a.length ≤ 1099511627776 then some (.bool (decide (a = b))) else none
theorem sEqL_ok {α : Type} [DecidableEq α] {dec : List AV → Option α} {enc : α → List AV} (hd : ∀ c a, dec c = some a → c = enc a) {P : Program} {f : FuncId}
    (h : ∀ (a b : List α) (t t' : Tail) (H : Heap), a.length ≤ 1099511627776 → ACalls P f [.sl (a.map enc) t, .sl (b.map enc) t'] H fun x H' => x = .bool (decide (a = b)) ∧ H' = H) : ∀ xs v, sEqL dec xs = some v → ∀ H, ACalls P f xs H fun x H' => x = v ∧ H' = H := by
  intro xs v hv H
  obtain ⟨x, y, p, q, rfl, h1, h2, h3⟩ := fn2_some hv
  split at h3
  · rename_i hl
    cases h3
    obtain ⟨t, rfl⟩ := Rd.list_some (enc := enc) hd h1
    obtain ⟨t', rfl⟩ := Rd.list_some (enc := enc) hd h2
    exact h p q t t' H hl
  · cases h3
theorem sEqL_eq {α : Type} [DecidableEq α] {dec : List AV → Option α} {enc : α → List AV} (he : ∀ a, dec (enc a) = some a) (a b : List α) (t t' : Tail) (h : a.length ≤ 1099511627776) : sEqL dec [.sl (a.map enc) t, .sl (b.map enc) t'] = some (.bool (decide (a = b))) := by
  unfold sEqL
  rw [fn2_eq, Rd.list_eq he, Rd.list_eq he]
  simp only [Option.bind_some, if_pos h]
noncomputable def puM9 : Pures := putP 29 (sEqL decSvc) (putP 28 (sEqL decFile) (putP 27 (sEqL decSet) pu0))
theorem puM9_dyn : isDyn puM9 = false := by simp only [puM9, go_sem, Nat.reduceEqDiff]
attribute [go_sem] puM9_dyn
theorem puM9_ok : PuOK Tryd.prog puM9 := .put (.put (.put (pu0_ok) (sEqL_ok (fun _ _ => decSet_some) eqSet_calls)) (sEqL_ok (fun _ _ => decFile_some) eqFile_calls)) (sEqL_ok (fun _ _ => decSvc_some) eqSvc_calls)
set_option maxHeartbeats 1600000 in
theorem rSame_calls (m n : MacV) (a b c d a' b' c' d' : Tail) (H : Heap) (hr : macR m) : ACalls Tryd.prog 8 [.agg (encMac m a b c d), .agg (encMac n a' b' c' d')] H fun x H' => x = .bool (decide (m = n)) ∧ H' = H := by
  obtain ⟨⟨l1, l2, l3, l4⟩, _⟩ := hr
  have hS := Heap.Sub.rfl' H
  have q1 := sEqL_eq decSet_enc m.facts n.facts a a' l1
  have q2 := sEqL_eq decFile_enc m.files n.files b b' l2
  have q3 := sEqL_eq decSet_enc m.sets n.sets c c' l3
  have q4 := sEqL_eq decSvc_enc m.svcs n.svcs d d' l4
  have hd : decide (m = n) = (decide (m.facts = n.facts) && (decide (m.files = n.files) && (decide (m.sets = n.sets) && decide (m.svcs = n.svcs)))) := by
    obtain ⟨x1, x2, x3, x4⟩ := m
    obtain ⟨y1, y2, y3, y4⟩ := n
    rw [Bool.eq_iff_iff]
    simp
  rw [hd]
  clear hd
  generalize decide (m.facts = n.facts) = e1 at *
  generalize decide (m.files = n.files) = e2 at *
  generalize decide (m.sets = n.sets) = e3 at *
  generalize decide (m.svcs = n.svcs) = e4 at *
  refine ACalls.of_code (X := { pure := puM9 }) puM9_ok Tryd.func8 (by kernel_rfl) rfl (by kernel_rfl) (Nat.le_of_ble_eq_true rfl) ?_
  simp -implicitDefEqProofs only [go_sem, tys, regs0, Nat.reduceEqDiff, Nat.reduceAdd, Nat.reduceLeDiff, Nat.reduceLT, Nat.reduceMul, Int.natCast_one, Int.natCast_zero, Int.reduceEq, Int.reduceLT, Int.reduceLE, Int.reduceAdd, Int.reduceSub, Int.reduceToNat, UInt8.reduceToNat, Tryd.f8, encMac]
  with_reducible refine nwC_intro fun i2 hi2 => ?_
  generalize E2 : Heap.put H i2 _ = G2
  have hO_2 := obj_new E2 hi2 hS
  have n2 := hO_2.1
  have hS := hO_2.2.1
  have g2 := hO_2.2.2.1
  clear hO_2
  simp -implicitDefEqProofs only [go_sem, tys, regs0, Nat.reduceEqDiff, Nat.reduceAdd, Nat.reduceLeDiff, Nat.reduceLT, Nat.reduceMul, Int.natCast_one, Int.natCast_zero, Int.reduceEq, Int.reduceLT, Int.reduceLE, Int.reduceAdd, Int.reduceSub, Int.reduceToNat, UInt8.reduceToNat]
  with_reducible refine nwC_intro fun i3 hi3 => ?_
  generalize E3 : Heap.put G2 i3 _ = G3
  have hO_3 := obj_new E3 hi3 hS
  have n3 := hO_3.1
  have hS := hO_3.2.1
  have g3 := hO_3.2.2.1
  have d2_3 := obj_ne g2 hi3
  have g2 := hO_3.2.2.2 _ _ g2
  clear hO_3
  cases e1 <;> cases e2 <;> cases e3 <;> cases e4
  all_goals
    simp -implicitDefEqProofs only [go_sem, tys, regs0, Nat.reduceEqDiff, Nat.reduceAdd, Nat.reduceLeDiff, Nat.reduceLT, Nat.reduceMul, Int.natCast_one, Int.natCast_zero, Int.reduceEq, Int.reduceLT, Int.reduceLE, Int.reduceAdd, Int.reduceSub, Int.reduceToNat, UInt8.reduceToNat, g2, g3, puM9, pu0, q1, q2, q3, q4]
    exact Done.drop hS ⟨rfl, rfl⟩
theorem landedM_calls (H : Heap) : ACalls Tryd.prog 5 [] H fun x H' => x = .bool true ∧ H' = H := by
  have hR : Room = 1099511627776 := rfl
  have hn : nameB [97] = true := by decide
  refine ACalls.of_code (X := { pure := puN }) puN_ok Tryd.func5 (by kernel_rfl) rfl (by kernel_rfl) (Nat.le_of_ble_eq_true rfl) ?_
  simp -implicitDefEqProofs only [go_sem, tys, regs0, Nat.reduceEqDiff, Nat.reduceAdd, Nat.reduceLeDiff, Nat.reduceLT, Nat.reduceMul, Int.natCast_one, Int.natCast_zero, Int.reduceEq, Int.reduceLT, Int.reduceLE, Int.reduceAdd, Int.reduceSub, Int.reduceToNat, UInt8.reduceToNat, Tryd.f5, puN, sStr_eq, hR, hn]
  exact Done.now ⟨rfl, rfl⟩
theorem lineM_N {n k : Nat} {s s2 : MacV × Int} {l : Bytes} (h : lineM s l = some s2) (hm : macN n s.1) (hl : l.length ≤ k) (hk : k ≤ 1099511627776) : macN (n + 1) s2.1 := by
  unfold lineM at h
  split at h
  · unfold stepM at h
    split at h
    · cases h
    · cases h
      have := readLineV_len l
      obtain ⟨a, ⟨b, c⟩, ⟨d, e⟩, f, g⟩ := this
      exact macN_add (k := k) hm ⟨by omega, ⟨by omega, by omega⟩, ⟨by omega, by omega⟩, by omega, by omega⟩ hk _
  · cases h
theorem rdL_N {k : Nat} (hk : k ≤ 1099511627776) : ∀ (ls : List Bytes) (n j : Nat) (s s2 : MacV × Int), rdL lineM s j ls = .ok s2 → macN n s.1 → (∀ l ∈ ls, l.length ≤ k) → macN (n + ls.length) s2.1
  | [], n, j, s, s2, h, hm, _ => by cases h; exact hm
  | [l], n, j, s, s2, h, hm, _ => by
    rw [rdL] at h
    split at h
    · cases h; exact macN_mono hm
    · cases h
  | l :: l2 :: ls, n, j, s, s2, h, hm, hl => by
    rw [rdL] at h
    cases hs : lineM s l with
    | none => rw [hs] at h; cases h
    | some s3 =>
      rw [hs] at h
      have h1 := lineM_N hs hm (hl l (List.mem_cons_self ..)) hk
      have h2 := rdL_N hk (l2 :: ls) (n + 1) (j + 1) s3 s2 h h1 fun x hx => hl x (List.mem_cons_of_mem _ hx)
      rw [show n + (l :: l2 :: ls).length = n + 1 + (l2 :: ls).length by simp only [List.length_cons]; omega]
      exact h2
theorem parseMV_R (text : Bytes) (h : text.length ≤ 1048576) : macR (parseMV text).1 := by
  unfold parseMV
  rw [if_neg (by omega)]
  cases hr : rdL lineM (MacV.zero, 0) 0 (splitB 10 text) with
  | error n => exact macN_R (macN_zero 0) (by omega)
  | ok s =>
    have h1 : (splitB 10 text).length ≤ text.length + 1 := by rw [splitB_len]; have := @List.count_le_length _ _ 10 text; omega
    have := rdL_N (k := text.length) (by omega) _ 0 0 _ _ hr (macN_zero 0) fun l hl => splitB_le hl
    simp only
    split
    · exact macN_R (macN_zero 0) (by omega)
    · exact macN_R this (by omega)
noncomputable def sPM := spF (fun s : Bytes => [AV.str s]) (fun s => s.length ≤ 1099511627776) parseMA
theorem sPM_eq (s : Bytes) (h : s.length ≤ 1099511627776) : sPM [.str s] = some (.tup [.agg (encMac (parseMV s).1 .unk .unk .unk .unk), .int .i64 (parseMV s).2.1, .int .i64 (parseMV s).2.2]) := spF_eq (fun a b e => by cases e; rfl) s h
noncomputable def puM10 : Pures := putP 7 sPM (putP 6 sPM pu0)
theorem puM10_dyn : isDyn puM10 = false := by simp only [puM10, go_sem, Nat.reduceEqDiff]
attribute [go_sem] puM10_dyn
theorem puM10_ok : PuOK Tryd.prog puM10 := .put (.put (pu0_ok) (spF_ok fun s H h => parseM_calls s H h)) (spF_ok fun s H h => rParseM_calls s H h)
theorem machinesParse_calls (text : Bytes) (H : Heap) (ht : text.length ≤ 1048576) : ACalls Tryd.prog 3 [.str text] H fun x H' => x = .bool true ∧ H' = H := by
  have hS := Heap.Sub.rfl' H
  have q1 := sPM_eq text (by omega)
  have hr := parseMV_R text (by omega)
  generalize parseMV text = pv at *
  obtain ⟨m, n, e⟩ := pv
  simp only at q1 hr
  have hsm := fun G => rSame_calls m m .unk .unk .unk .unk .unk .unk .unk .unk G hr
  rw [decide_eq_true rfl] at hsm
  unfold encMac at q1 hsm
  refine ACalls.of_code (X := { pure := puM10 }) puM10_ok Tryd.func3 (by kernel_rfl) rfl (by kernel_rfl) (Nat.le_of_ble_eq_true rfl) ?_
  simp -implicitDefEqProofs only [go_sem, tys, regs0, Nat.reduceEqDiff, Nat.reduceAdd, Nat.reduceLeDiff, Nat.reduceLT, Nat.reduceMul, Int.natCast_one, Int.natCast_zero, Int.reduceEq, Int.reduceLT, Int.reduceLE, Int.reduceAdd, Int.reduceSub, Int.reduceToNat, UInt8.reduceToNat, Tryd.f3]
  refine (landedM_calls _).pure_next _ ?_
  simp -implicitDefEqProofs only [go_sem, tys, regs0, Nat.reduceEqDiff, Nat.reduceAdd, Nat.reduceLeDiff, Nat.reduceLT, Nat.reduceMul, Int.natCast_one, Int.natCast_zero, Int.reduceEq, Int.reduceLT, Int.reduceLE, Int.reduceAdd, Int.reduceSub, Int.reduceToNat, UInt8.reduceToNat, puM10, pu0, q1]
  with_reducible refine nwC_intro fun i3 hi3 => ?_
  simp -implicitDefEqProofs only [go_sem, tys, regs0, Nat.reduceEqDiff, Nat.reduceAdd, Nat.reduceLeDiff, Nat.reduceLT, Nat.reduceMul, Int.natCast_one, Int.natCast_zero, Int.reduceEq, Int.reduceLT, Int.reduceLE, Int.reduceAdd, Int.reduceSub, Int.reduceToNat, UInt8.reduceToNat, puM10, pu0, q1]
  generalize E3 : Heap.put H i3 _ = G3
  have hO_3 := obj_new E3 hi3 hS
  have n3 := hO_3.1
  have hS := hO_3.2.1
  have g3 := hO_3.2.2.1
  clear hO_3
  with_reducible refine nwC_intro fun i6 hi6 => ?_
  simp -implicitDefEqProofs only [go_sem, tys, regs0, Nat.reduceEqDiff, Nat.reduceAdd, Nat.reduceLeDiff, Nat.reduceLT, Nat.reduceMul, Int.natCast_one, Int.natCast_zero, Int.reduceEq, Int.reduceLT, Int.reduceLE, Int.reduceAdd, Int.reduceSub, Int.reduceToNat, UInt8.reduceToNat, puM10, pu0, q1]
  generalize E6 : Heap.put G3 i6 _ = G6
  have hO_6 := obj_new E6 hi6 hS
  have n6 := hO_6.1
  have hS := hO_6.2.1
  have g6 := hO_6.2.2.1
  have d3_6 := obj_ne g3 hi6
  have g3 := hO_6.2.2.2 _ _ g3
  clear hO_6
  simp -implicitDefEqProofs only [go_sem, tys, regs0, Nat.reduceEqDiff, Nat.reduceAdd, Nat.reduceLeDiff, Nat.reduceLT, Nat.reduceMul, Int.natCast_one, Int.natCast_zero, Int.reduceEq, Int.reduceLT, Int.reduceLE, Int.reduceAdd, Int.reduceSub, Int.reduceToNat, UInt8.reduceToNat, g3, g6]
  refine (hsm _).pure_next _ ?_
  simp -implicitDefEqProofs only [go_sem, tys, regs0, Nat.reduceEqDiff, Nat.reduceAdd, Nat.reduceLeDiff, Nat.reduceLT, Nat.reduceMul, Int.natCast_one, Int.natCast_zero, Int.reduceEq, Int.reduceLT, Int.reduceLE, Int.reduceAdd, Int.reduceSub, Int.reduceToNat, UInt8.reduceToNat]
  exact Done.drop hS ⟨rfl, rfl⟩
end Go.Proofs
