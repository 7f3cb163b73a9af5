/- Own text of this claim: Ra4. -/
import Derived.Test.YtjpmpdckkdhidaaRa3
set_option maxRecDepth 20000
namespace Go.Vc.A
open Go Go.Vc Go.RowKit Go.Proofs Vca

theorem c16 (w : World) : Ret Try.prog 16 #[] w (.bool true) := by
  intro R h
  refine f16_calls w R ?_
  unfold f16_vc
  refine opw_buildSlice (e := 23) (cs := [.int .i64 1, .int .i64 2, .int .i64 2, .int .i64 3, .int .i64 4, .int .i64 6]) (by kernel_rfl) ?_
  refine ⟨_, _, _, rfl, ?_⟩
  have hA : At w [] (w.alloc (.cells #[.int .i64 1, .int .i64 2, .int .i64 2, .int .i64 3, .int .i64 4, .int .i64 6] 23)) := (At.refl w).call (below_alloc _)
  have hs : SlR (w.alloc (.cells [Value.int .i64 1, .int .i64 2, .int .i64 2, .int .i64 3, .int .i64 4, .int .i64 6].toArray 23)) 2 (fracG.R (w.alloc (.cells [Value.int .i64 1, .int .i64 2, .int .i64 2, .int .i64 3, .int .i64 4, .int .i64 6].toArray 23))) [(1, 2, ()), (2, 3, ()), (4, 6, ())] (some ⟨w.heap.size, 0, none⟩) 3 3 := by
    refine SlR_alloc rfl (by decide) rfl fun i x hx => ?_
    rcases i with _ | _ | _ | i
    all_goals simp at hx
    all_goals subst hx
    all_goals exact ⟨[_], [_], rfl, ⟨rfl, by decide, by decide⟩, [_], [], rfl, ⟨rfl, by decide, by decide⟩, rfl⟩
  refine at_call hA (c10 _ hs) (fun _ hA hk => ⟨_, _, _, rfl, ?_⟩)
  rw [show mx [(1, 2, ()), (2, 3, ()), (4, 6, ())] = (2, 3, 1) by kernel_rfl]
  refine go_n hA fun n1 h1 => ?_
  refine go_evo hA (by simp [*]) fun w12 hA => ?_
  refine at_call hA (c12 _ _ _ _ (by decide) (by decide) (by decide) (by decide) _) (fun _ hA hk => ⟨_, rfl, hk, ?_⟩)
  rw [show frCmp 2 3 3 5 = 1 by kernel_rfl]
  refine ⟨fun _ => ?_, fun h => by cases h⟩
  refine at_call hA (c17 _ _ (by decide) (by decide) _) (fun _ hA hk => ⟨_, _, by rw [if_pos (by decide)], hk, ?_⟩)
  refine ⟨fun _ => ⟨fun _ => ?_, fun h => by cases h⟩, fun h => by cases h⟩
  exact leaf h hA rfl

/-! ### RatioOrders -/
theorem cmp_anti (a b c d : Int) : frCmp c d a b = - frCmp a b c d := by
  unfold frCmp cmpI
  by_cases h : right a b ∧ right c d
  · rw [if_pos h, if_pos h.symm]
    rcases Int.lt_trichotomy (a * d) (c * b) with h1 | h1 | h1
    · rw [if_neg (by omega), if_neg (by omega), if_neg (by omega), if_pos h1]; rfl
    · rw [if_pos h1.symm, if_pos h1]; rfl
    · rw [if_neg (by omega), if_pos h1, if_neg (by omega), if_neg (by omega)]
  · rw [if_neg h, if_neg (fun k => h k.symm)]; rfl
theorem cmp_self (a b : Int) : frCmp a b a b = 0 := by
  unfold frCmp cmpI
  split <;> simp
theorem frCmp_range (a b c d : Int) : frCmp a b c d = -1 ∨ frCmp a b c d = 0 ∨ frCmp a b c d = 1 := by
  unfold frCmp cmpI
  repeat' split
  all_goals simp

theorem cmp_le {a b c d : Int} (h1 : right a b) (h2 : right c d) : (frCmp a b c d ≤ 0 ↔ a * d ≤ c * b) ∧ (frCmp a b c d < 0 ↔ a * d < c * b) := by
  unfold frCmp cmpI
  rw [if_pos ⟨h1, h2⟩]
  split
  · omega
  · split <;> omega

theorem cmp_trans {a b c d e f : Int} (h1 : right a b) (h2 : right c d) (h3 : right e f) (h4 : frCmp a b c d ≤ 0) (h5 : frCmp c d e f ≤ 0) : frCmp a b e f ≤ 0 ∧ (frCmp a b e f = 0 → frCmp a b c d = 0 ∧ frCmp c d e f = 0) := by
  have k1 := (cmp_le h1 h2).1.1 h4
  have k2 := (cmp_le h2 h3).1.1 h5
  obtain ⟨a0, b0⟩ := h1
  obtain ⟨c0, d0⟩ := h2
  obtain ⟨e0, f0⟩ := h3
  have m1 : a * d * f ≤ c * b * f := Int.mul_le_mul_of_nonneg_right k1 (by omega)
  have m2 : c * f * b ≤ e * d * b := Int.mul_le_mul_of_nonneg_right k2 (by omega)
  have e1 : c * f * b = c * b * f := Int.mul_right_comm ..
  have e2 : a * d * f = a * f * d := Int.mul_right_comm ..
  have e3 : e * d * b = e * b * d := Int.mul_right_comm ..
  have m3 : a * f * d ≤ e * b * d := by omega
  have m4 : a * f ≤ e * b := Int.le_of_mul_le_mul_right m3 (by omega)
  refine ⟨(cmp_le ⟨a0, b0⟩ ⟨e0, f0⟩).1.2 m4, fun hz => ?_⟩
  have n1 : ¬ a * f < e * b := fun hlt => by
    have := (cmp_le ⟨a0, b0⟩ ⟨e0, f0⟩).2.2 hlt
    omega
  have q : a * f * d = e * b * d := by rw [show a * f = e * b by omega]
  have q1 : a * d * f = c * b * f := by omega
  have q2 : c * f * b = e * d * b := by omega
  have r1 : a * d = c * b := Int.eq_of_mul_eq_mul_right (by omega) q1
  have r2 : c * f = e * d := Int.eq_of_mul_eq_mul_right (by omega) q2
  constructor
  · have := (cmp_le (a := a) (b := b) (c := c) (d := d) ⟨a0, b0⟩ ⟨c0, d0⟩).2
    omega
  · have := (cmp_le (a := c) (b := d) (c := e) (d := f) ⟨c0, d0⟩ ⟨e0, f0⟩).2
    omega

theorem law4 (a0 a1 b0 b1 c0 c1 : Int) (ha : I64 a0 ∧ I64 a1) (hb : I64 b0 ∧ I64 b1) (hc : I64 c0 ∧ I64 c1) (w : World) : Ret Try.prog 4 #[fracV a0 a1, fracV b0 b1, fracV c0 c1] w (.bool true) := by
  intro R h
  refine f4_calls a0 a1 b0 b1 c0 c1 w R ?_
  unfold f4_vc
  have hA := At.refl w
  refine go_n hA fun n1 h1 => ?_
  refine go_n hA fun n2 h2 => ?_
  refine go_n hA fun n3 h3 => ?_
  refine go_below hA fun w3 hA => ?_
  refine at_call hA (c12 _ _ _ _ ha.1 ha.2 hb.1 hb.2 _) (fun _ hA hk => ⟨_, rfl, hk, ?_⟩)
  refine at_call hA (c12 _ _ _ _ hb.1 hb.2 hc.1 hc.2 _) (fun _ hA hk => ⟨_, rfl, hk, ?_⟩)
  refine at_call hA (c12 _ _ _ _ ha.1 ha.2 hc.1 hc.2 _) (fun _ hA hk => ⟨_, rfl, hk, ?_⟩)
  refine at_call hA (c12 _ _ _ _ hb.1 hb.2 ha.1 ha.2 _) (fun _ hA hk => ⟨_, rfl, hk, ?_⟩)
  have r1 := frCmp_range a0 a1 b0 b1
  have t := @cmp_trans a0 a1 b0 b1 c0 c1
  rw [cmp_anti a0 a1 b0 b1]
  refine brN (fun hn => ?_) (fun _ => ?_)
  · rw [wrap_i64 (by omega) (by omega)] at hn
    omega
  refine at_call hA (c12 _ _ _ _ ha.1 ha.2 ha.1 ha.2 _) (fun _ hA hk => ⟨_, rfl, hk, ?_⟩)
  refine brN (fun hn => absurd (cmp_self _ _) hn) (fun _ => ?_)
  have fin : ∀ W, At w [n1, n2, n3] W → Calls Try.prog 16 #[] W fun e w' => ∃ b, e = Ending.returned (Value.bool b) ∧ Keeps [n1, n2, n3] W w' ∧ R (Ending.returned (Value.bool b)) w' := fun W hA =>
    at_call hA (c16 _) (fun _ hA hk => ⟨_, rfl, hk, leaf h hA rfl⟩)
  refine at_call hA (c14 _ _ _) (fun _ hA hk => ⟨_, rfl, hk, ?_⟩)
  refine brD (fun hra => ?_) (fun _ => fin _ hA)
  refine at_call hA (c14 _ _ _) (fun _ hA hk => ⟨_, rfl, hk, ?_⟩)
  refine brD (fun hrb => ?_) (fun _ => fin _ hA)
  refine at_call hA (c14 _ _ _) (fun _ hA hk => ⟨_, rfl, hk, ?_⟩)
  refine brD (fun hrc => ?_) (fun _ => fin _ hA)
  refine brD (fun hx => ?_) (fun _ => fin _ hA)
  refine brD (fun hy => ?_) (fun _ => fin _ hA)
  have t := t hra hrb hrc hx hy
  refine brD (fun hz => by omega) (fun _ => ?_)
  refine brE (fun hz => ?_) (fun _ => fin _ hA)
  have t := t.2 hz
  refine brD (fun _ => by omega) (fun _ => ?_)
  refine brD (fun _ => by omega) (fun _ => fin _ hA)
end Go.Vc.A
