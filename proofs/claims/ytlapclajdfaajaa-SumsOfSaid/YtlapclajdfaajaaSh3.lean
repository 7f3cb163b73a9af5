/- Own text of this claim: Sh3. -/
import Derived.Test.YtlapclajdfaajaaSh2
import Derived.Test.YtlapclajdfaajaaSb7
set_option maxRecDepth 20000
namespace Go.Vc.B
open Go Go.Vc Go.RowKit Go.Proofs Vcb Go.Vc.BQ Go.Vc.BT

theorem c16 (w : World) : Ret Try.prog 16 #[] w (.bool true) := by
  intro R h
  refine f16_calls w R ?_
  unfold f16_vc
  have hA := At.refl w
  intro n1 h1 n2 h2
  refine go_evo hA (by intro d hd; simp at hd; omega) fun w3 hA => ?_
  refine opw_lit hA (e' := 25) (cs := [(1, 2, 1), (2, 3, 2), (2, 3, 2)].flatMap shE) (by kernel_rfl) fun w5 hA5 hk hb hc hh => ⟨_, _, _, rfl, hk, ?_⟩
  have ho : OwnL w [n1, n2] w5 25 3 shE (.slice (some ⟨w3.heap.size, 0, none⟩) 3 3) [(1, 2, 1), (2, 3, 2), (2, 3, 2)] :=
    OwnL.ret (n := 3) hA ⟨rfl, .inr ⟨_, 3, _, rfl, Nat.le_refl _, hh, Nat.le_refl _, by decide, rfl, rfl⟩⟩ rfl rfl
  have hl : least [(1, 2, 1), (2, 3, 2), (2, 3, 2)] = [1, 2] := by kernel_rfl
  refine at_calll hA5 (c15 _ (ho.sl (by simp)) (by simp)) (by simp) fun a c w10 hA hk hb ho hs => ⟨_, _, _, rfl, hk, ?_⟩
  rw [hl] at ho hs ⊢
  refine at_callq (Q := fun v _ => v = .int .i64 (-1)) hA (fun R h => c11 _ _ _ _ _ _ _ R fun w' hb => h _ w' hb (by rw [show sCmp 2 3 2 1 2 1 = -1 by kernel_rfl])) (fun v w15 hA hk hb hv => ?_)
  subst hv
  refine ⟨_, rfl, hk, ?_⟩
  refine ⟨fun _ => ⟨fun _ => ?_, fun h => by cases h⟩, fun h => by cases h⟩
  obtain ⟨ad, g1, r1⟩ := rd_one (te := 3) (ds := []) (k := .i64) (t := 31) (P := Try.prog) (e := 3) (i := 0) (hs.call hb) rfl rfl (by kernel_rfl) (by kernel_rfl) (by kernel_rfl) (fun _ h => by cases h)
  refine ⟨_, g1, _, r1, ⟨fun _ => ?_, fun h => by cases h⟩⟩
  refine at_call hA (c17 2 3 2 (by decide) (by decide) _) (fun _ hA hk => ⟨_, rfl, hk, ?_⟩)
  refine leaf h hA ?_
  have ht : sText 2 3 2 = ByteArray.mk #[50, 47, 51, 58, 50] := by
    rw [sText, if_pos (by decide), ftext, if_pos (by decide), digit1 (by decide), digit1 (by decide)]
    rfl
  rw [ht]
  simp

theorem sCmp_fr {a0 a1 a2 b0 b1 b2 : Int} (ha : sRight a0 a1 a2) (hb : sRight b0 b1 b2) : sCmp a0 a1 a2 b0 b1 b2 = frCmp a0 (a1 * a2) b0 (b1 * b2) ∧ right a0 (a1 * a2) ∧ right b0 (b1 * b2) := by
  obtain ⟨⟨p0, p1⟩, p2, p3, p4, p5⟩ := ha
  obtain ⟨⟨q0, q1⟩, q2, q3, q4, q5⟩ := hb
  have m1 : 1 * 1 ≤ a1 * a2 := Int.le_trans (Int.mul_le_mul_of_nonneg_right p1 (by omega)) (Int.mul_le_mul_of_nonneg_left p4 (by omega))
  have m2 : 1 * 1 ≤ b1 * b2 := Int.le_trans (Int.mul_le_mul_of_nonneg_right q1 (by omega)) (Int.mul_le_mul_of_nonneg_left q4 (by omega))
  have r1 : right a0 (a1 * a2) := ⟨p0, by omega⟩
  have r2 : right b0 (b1 * b2) := ⟨q0, by omega⟩
  exact ⟨by rw [sCmp, frCmp, if_pos ⟨⟨⟨p0, p1⟩, p2, p3, p4, p5⟩, ⟨q0, q1⟩, q2, q3, q4, q5⟩, if_pos ⟨r1, r2⟩], r1, r2⟩
theorem sCmp_anti (a0 a1 a2 b0 b1 b2 : Int) : sCmp b0 b1 b2 a0 a1 a2 = - sCmp a0 a1 a2 b0 b1 b2 := by
  by_cases h : sRight a0 a1 a2 ∧ sRight b0 b1 b2
  · rw [(sCmp_fr h.1 h.2).1, (sCmp_fr h.2 h.1).1]
    exact cmp_anti ..
  · rw [sCmp, sCmp, if_neg h, if_neg (fun hh => h hh.symm)]
    rfl
theorem sCmp_self (a0 a1 a2 : Int) : sCmp a0 a1 a2 a0 a1 a2 = 0 := by
  unfold sCmp cmpI
  split <;> simp
theorem sCmp_range (a0 a1 a2 b0 b1 b2 : Int) : sCmp a0 a1 a2 b0 b1 b2 = -1 ∨ sCmp a0 a1 a2 b0 b1 b2 = 0 ∨ sCmp a0 a1 a2 b0 b1 b2 = 1 := by
  unfold sCmp cmpI
  repeat' split
  all_goals simp

theorem sCmp_weight {a0 a1 b0 b1 c : Int} (ha : sRight a0 a1 c) (hb : sRight b0 b1 c) : sCmp a0 a1 c b0 b1 c = frCmp a0 a1 b0 b1 := by
  rw [sCmp, frCmp, if_pos ⟨ha, hb⟩, if_pos ⟨ha.1, hb.1⟩]
  have hc : 0 < c := by have := ha.2.2.2.1; omega
  have e1 : a0 * (b1 * c) = a0 * b1 * c := (Int.mul_assoc ..).symm
  have e2 : b0 * (a1 * c) = b0 * a1 * c := (Int.mul_assoc ..).symm
  rw [e1, e2]
  unfold cmpI
  have k1 : a0 * b1 * c = b0 * a1 * c ↔ a0 * b1 = b0 * a1 := ⟨fun h => Int.eq_of_mul_eq_mul_right (by omega) h, fun h => by rw [h]⟩
  have k2 : a0 * b1 * c < b0 * a1 * c ↔ a0 * b1 < b0 * a1 := ⟨fun h => Int.lt_of_mul_lt_mul_right h (by omega), fun h => Int.mul_lt_mul_of_pos_right h hc⟩
  simp only [k1, k2]

theorem law5 (a0 a1 a2 b0 b1 b2 c0 c1 c2 : Int) (ha : BQ.I64 a0 ∧ BQ.I64 a1) (hb : BQ.I64 b0 ∧ BQ.I64 b1) (w : World) : Ret Try.prog 5 #[shV a0 a1 a2, shV b0 b1 b2, shV c0 c1 c2] w (.bool true) := by
  intro R h
  refine f5_calls a0 a1 a2 b0 b1 b2 c0 c1 c2 w R ?_
  unfold f5_vc
  have hA := At.refl w
  refine go_n hA fun n1 h1 => ?_
  refine go_n hA fun n2 h2 => ?_
  refine go_n hA fun n3 h3 => ?_
  refine go_below hA fun w3 hA => ?_
  refine at_call hA (c11 _ _ _ _ _ _ _) (fun _ hA hk => ⟨_, rfl, hk, ?_⟩)
  refine at_call hA (c11 _ _ _ _ _ _ _) (fun _ hA hk => ⟨_, rfl, hk, ?_⟩)
  refine at_call hA (c11 _ _ _ _ _ _ _) (fun _ hA hk => ⟨_, rfl, hk, ?_⟩)
  refine at_call hA (c11 _ _ _ _ _ _ _) (fun _ hA hk => ⟨_, rfl, hk, ?_⟩)
  have r1 := sCmp_range a0 a1 a2 b0 b1 b2
  rw [sCmp_anti a0 a1 a2 b0 b1 b2]
  refine brN (fun hn => ?_) (fun _ => ?_)
  · rw [wrap_i64 (by omega) (by omega)] at hn
    omega
  refine at_call hA (c11 _ _ _ _ _ _ _) (fun _ hA hk => ⟨_, rfl, hk, ?_⟩)
  refine brN (fun hn => absurd (sCmp_self _ _ _) hn) (fun _ => ?_)
  have fin : ∀ W, At w [n1, n2, n3] W → Calls Try.prog 16 #[] W fun e w' => ∃ b, e = Ending.returned (Value.bool b) ∧ Keeps [n1, n2, n3] W w' ∧ R (Ending.returned (Value.bool b)) w' := fun W hA =>
    at_call hA (c16 _) (fun _ hA hk => ⟨_, rfl, hk, leaf h hA rfl⟩)
  refine at_call hA (c13 _ _ _ _) (fun _ hA hk => ⟨_, rfl, hk, ?_⟩)
  refine brND (fun _ => fin _ hA) (fun hra => ?_)
  refine at_call hA (c13 _ _ _ _) (fun _ hA hk => ⟨_, rfl, hk, ?_⟩)
  refine brND (fun _ => fin _ hA) (fun hrb => ?_)
  refine at_call hA (c13 _ _ _ _) (fun w33 hA hk => ⟨_, rfl, hk, ?_⟩)
  refine brND (fun _ => fin _ hA) (fun hrc => ?_)
  obtain ⟨e1, r1, r2⟩ := sCmp_fr hra hrb
  obtain ⟨e2, _, r3⟩ := sCmp_fr hrb hrc
  obtain ⟨e3, _, _⟩ := sCmp_fr hra hrc
  have t := @cmp_trans _ _ _ _ _ _ r1 r2 r3
  rw [← e1, ← e2, ← e3] at t
  have tail : ((a2 != b2) = true → Calls Try.prog 16 #[] w33 fun e w' => ∃ b, e = Ending.returned (Value.bool b) ∧ Keeps [n1, n2, n3] w33 w' ∧ R (Ending.returned (Value.bool b)) w') ∧ ((a2 != b2) = false → Calls Try.prog 19 #[fracV a0 a1, fracV b0 b1] w33 fun e w42 => ∃ x43, e = .returned (.int .i64 x43) ∧ Keeps [n1, n2, n3] w33 w42 ∧ ((sCmp a0 a1 a2 b0 b1 b2 == x43) = true → Calls Try.prog 16 #[] w42 fun e w' => ∃ b, e = Ending.returned (Value.bool b) ∧ Keeps [n1, n2, n3] w42 w' ∧ R (Ending.returned (Value.bool b)) w') ∧ ((sCmp a0 a1 a2 b0 b1 b2 == x43) = false → R (.returned (.bool false)) w42)) := by
    refine brN (fun _ => fin _ hA) (fun he => ?_)
    subst he
    refine at_call hA (c19 _ _ _ _ ha.1 ha.2 hb.1 hb.2 _) (fun _ hA hk => ⟨_, rfl, hk, ?_⟩)
    exact brE (fun _ => fin _ hA) (fun hne => absurd (sCmp_weight hra hrb) hne)
  refine brD (fun hx => ?_) (fun _ => tail)
  refine brD (fun hy => ?_) (fun _ => tail)
  have t := t hx hy
  refine brD (fun hz => by omega) (fun _ => ?_)
  refine brE (fun hz => ?_) (fun _ => tail)
  have t := t.2 hz
  refine brD (fun _ => by omega) (fun _ => ?_)
  exact brD (fun _ => by omega) (fun _ => tail)
end Go.Vc.B
