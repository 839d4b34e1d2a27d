import Derived.Test.YtnheonhmnepifaaW3
import Derived.Test.YtnheonhmnepifaaAbs4

namespace Go.Proofs
open Go Go.Abs
set_option linter.unusedSimpArgs false

theorem rawWays_calls (l : List Way) (sizes : List Int) (t1 t2 : Tail) (H : Heap) (hl : l.length ≤ 9223372036854775807) (hs : sizes.length ≤ 9223372036854775807) :
    ACalls Try.prog 3 [.sl (l.map encWay) t1, .sl (sizes.map encI) t2] H fun x _ => x = .bool true := by
  refine ACalls.of_code (X := { pure := puA }) puA_ok Try.func3 (by kernel_rfl) rfl (by kernel_rfl) (Nat.le_of_ble_eq_true rfl) ?_
  simp -implicitDefEqProofs only [go_sem, tys, regs0, Try.f3, Nat.reduceEqDiff]
  refine ACalls.pure_next _ (landed_calls H) ?_
  simp -implicitDefEqProofs only [go_sem, tys, regs0, Nat.reduceEqDiff]
  refine ACalls.pure_next _ (checkWays_calls l sizes t1 t2 H hl hs) ?_
  simp -implicitDefEqProofs only [go_sem, tys, regs0, Nat.reduceEqDiff]
  refine ACalls.pure_next _ (waysError_calls l sizes t1 t2 H hl hs) ?_
  simp -implicitDefEqProofs only [go_sem, tys, regs0, Nat.reduceEqDiff]
  exact Done.now rfl

def TyI : Ty := .int .i64
def TyWay : Ty := .st (.cons TyI (.cons TyI (.cons TyI .nil)))
theorem wt_int {n : Nat} {c : List AV} (h : WT n TyI c) : ∃ a, c = encI a := by
  obtain ⟨a, rfl, _⟩ := h
  exact ⟨a, rfl⟩
theorem wt_way {n : Nat} {c : List AV} (h : WT n TyWay c) : ∃ a, c = encWay a := by
  obtain ⟨x, y, rfl, h1, x2, y2, rfl, h2, x3, y3, rfl, h3, rfl⟩ := h
  obtain ⟨a, rfl⟩ := wt_int h1
  obtain ⟨b, rfl⟩ := wt_int h2
  obtain ⟨d, rfl⟩ := wt_int h3
  exact ⟨(a, b, d), rfl⟩
theorem wa_rawWays {n : Nat} {xs : List AV} (h : WA n [.sl TyWay, .sl TyI] xs) : ∃ (l : List Way) (sizes : List Int) (t1 t2 : Tail), xs = [.sl (l.map encWay) t1, .sl (sizes.map encI) t2] ∧ l.length ≤ n ∧ sizes.length ≤ n := by
  obtain ⟨a1, ys, rfl, ⟨es, t1, rfl, h1, h2⟩, bs, zs, rfl, ⟨fs, t2, rfl, h3, h4⟩, rfl⟩ := h
  obtain ⟨l, rfl⟩ := list_map_of encWay es fun c hc => wt_way (h2 c hc)
  obtain ⟨k, rfl⟩ := list_map_of encI fs fun c hc => wt_int (h4 c hc)
  exact ⟨l, k, t1, t2, rfl, by simpa using h1, by simpa using h3⟩
theorem rawWays_law (xs : List AV) (h : WA maxLen [.sl TyWay, .sl TyI] xs) : ACalls Try.prog 3 xs H0 fun x _ => x = .bool true := by
  obtain ⟨l, s, t1, t2, rfl, h1, h2⟩ := wa_rawWays h
  exact rawWays_calls l s t1 t2 H0 (by simpa [maxLen] using h1) (by simpa [maxLen] using h2)
end Go.Proofs
