/- Own text of this claim: Sb7. -/
import Derived.Test.YtlapclajdfaajaaSb2
set_option maxRecDepth 20000
namespace Go.Vc.B
open Go Go.Vc Go.RowKit Go.Proofs Vcb

/-! ### RatioOrders -/
theorem cmp_anti (a b c d : Int) : frCmp c d a b = - frCmp a b c d := by
  unfold frCmp cmpI
  by_cases h : right a b ∧ right c d
  · rw [if_pos h, if_pos h.symm]
    rcases Int.lt_trichotomy (a * d) (c * b) with h1 | h1 | h1
    · rw [if_neg (by omega), if_neg (by omega), if_neg (by omega), if_pos h1]; rfl
    · rw [if_pos h1.symm, if_pos h1]; rfl
    · rw [if_neg (by omega), if_pos h1, if_neg (by omega), if_neg (by omega)]
  · rw [if_neg h, if_neg (fun k => h k.symm)]; rfl
theorem cmp_self (a b : Int) : frCmp a b a b = 0 := by
  unfold frCmp cmpI
  split <;> simp
theorem frCmp_range (a b c d : Int) : frCmp a b c d = -1 ∨ frCmp a b c d = 0 ∨ frCmp a b c d = 1 := by
  unfold frCmp cmpI
  repeat' split
  all_goals simp

theorem cmp_le {a b c d : Int} (h1 : right a b) (h2 : right c d) : (frCmp a b c d ≤ 0 ↔ a * d ≤ c * b) ∧ (frCmp a b c d < 0 ↔ a * d < c * b) := by
  unfold frCmp cmpI
  rw [if_pos ⟨h1, h2⟩]
  split
  · omega
  · split <;> omega

theorem cmp_trans {a b c d e f : Int} (h1 : right a b) (h2 : right c d) (h3 : right e f) (h4 : frCmp a b c d ≤ 0) (h5 : frCmp c d e f ≤ 0) : frCmp a b e f ≤ 0 ∧ (frCmp a b e f = 0 → frCmp a b c d = 0 ∧ frCmp c d e f = 0) := by
  have k1 := (cmp_le h1 h2).1.1 h4
  have k2 := (cmp_le h2 h3).1.1 h5
  obtain ⟨a0, b0⟩ := h1
  obtain ⟨c0, d0⟩ := h2
  obtain ⟨e0, f0⟩ := h3
  have m1 : a * d * f ≤ c * b * f := Int.mul_le_mul_of_nonneg_right k1 (by omega)
  have m2 : c * f * b ≤ e * d * b := Int.mul_le_mul_of_nonneg_right k2 (by omega)
  have e1 : c * f * b = c * b * f := Int.mul_right_comm ..
  have e2 : a * d * f = a * f * d := Int.mul_right_comm ..
  have e3 : e * d * b = e * b * d := Int.mul_right_comm ..
  have m3 : a * f * d ≤ e * b * d := by omega
  have m4 : a * f ≤ e * b := Int.le_of_mul_le_mul_right m3 (by omega)
  refine ⟨(cmp_le ⟨a0, b0⟩ ⟨e0, f0⟩).1.2 m4, fun hz => ?_⟩
  have n1 : ¬ a * f < e * b := fun hlt => by
    have := (cmp_le ⟨a0, b0⟩ ⟨e0, f0⟩).2.2 hlt
    omega
  have q : a * f * d = e * b * d := by rw [show a * f = e * b by omega]
  have q1 : a * d * f = c * b * f := by omega
  have q2 : c * f * b = e * d * b := by omega
  have r1 : a * d = c * b := Int.eq_of_mul_eq_mul_right (by omega) q1
  have r2 : c * f = e * d := Int.eq_of_mul_eq_mul_right (by omega) q2
  constructor
  · have := (cmp_le (a := a) (b := b) (c := c) (d := d) ⟨a0, b0⟩ ⟨c0, d0⟩).2
    omega
  · have := (cmp_le (a := c) (b := d) (c := e) (d := f) ⟨c0, d0⟩ ⟨e0, f0⟩).2
    omega

end Go.Vc.B
