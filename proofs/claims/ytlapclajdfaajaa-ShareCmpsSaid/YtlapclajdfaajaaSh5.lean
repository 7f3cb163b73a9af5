/- Own text of this claim: Sh5. -/
import Derived.Test.YtlapclajdfaajaaSh4
set_option maxRecDepth 20000
namespace Go.Vc.B
open Go Go.Vc Go.RowKit Go.Proofs Vcb Go.Vc.BQ Go.Vc.BT

theorem c38 (a b c : Int) (ha : 0 ≤ a ∧ a < 18446744073709551616) (hb : 0 ≤ b ∧ b < 18446744073709551616) (hc : 0 ≤ c ∧ c < 18446744073709551616) (w : World) :
    RetQ Try.prog 38 #[.int .i64 a, .int .i64 b, .int .i64 c] w (fun v w' => ∃ l : List Int, w'.ownsRow w.heap.size 3 1 v l.length (l.flatMap one) ∧ Dig l ∧ l.length = 24 ∧ val l = a * b * c) := by
  intro R h
  refine f38_calls a b c w R ?_
  unfold f38_vc
  have hA := At.refl w
  rw [wrap_u64_id ha.1 ha.2, wrap_u64_id hb.1 hb.2, wrap_u64_id hc.1 hc.2]
  obtain ⟨p0, v0, l0⟩ := dig128 ha
  obtain ⟨p1, v1, l1⟩ := dig128 hb
  obtain ⟨p2, v2, l2⟩ := dig128 hc
  refine at_calll hA (c52 0 a (by decide) ha _) (by simp) fun aa ac wa hA hk hb1 hoa hsa => ⟨_, _, _, rfl, ?_⟩
  refine at_calll hA (c52 0 b (by decide) hb _) (by simp) fun ba bc wb hA hk hb2 hob hsb => ⟨_, _, _, rfl, ?_⟩
  refine at_callq hA (c51 _ (hsa.call hb2) hsb p0 p1 (by omega) (by omega)) fun v wx hA hk hb3 hq => ?_
  obtain ⟨X, hx, dX, lX, vX⟩ := hq
  have hoX : OwnL w [] wx 3 1 one v X := OwnL.ret (by assumption) hx rfl rfl
  obtain ⟨xa, xc, rfl, hsX⟩ := hoX.slice (by simp)
  refine ⟨_, _, _, rfl, ?_⟩
  refine at_calll hA (c52 0 c (by decide) hc _) (by simp) fun ca cc wc hA hk hb4 hoc hsc => ⟨_, _, _, rfl, ?_⟩
  refine at_callq hA (c51 _ (hsX.call hb4) hsc dX p2 (by omega) (by omega)) fun v wy hA hk hb5 hq => ?_
  obtain ⟨Y, hy, dY, lY, vY⟩ := hq
  have hoY : OwnL w [] wy 3 1 one v Y := OwnL.ret (by assumption) hy rfl rfl
  obtain ⟨ya, yc, rfl, hsY⟩ := hoY.slice (by simp)
  refine ⟨_, _, _, rfl, ?_⟩
  refine h _ wy hA.below ⟨Y, hoY.row, dY, by omega, ?_⟩
  rw [vY, vX, v0, v1, v2]

theorem c12 (a0 a1 a2 b0 b1 b2 : Int) (w : World) : Ret Try.prog 12 #[fracV a0 a1, .int .i64 a2, fracV b0 b1, .int .i64 b2] w (.int .i64 (sCmp a0 a1 a2 b0 b1 b2)) := by
  intro R h
  refine f12_calls a0 a1 a2 b0 b1 b2 w R ?_
  unfold f12_vc
  have hA := At.refl w
  refine go_n hA fun n1 h1 => ?_
  refine go_n hA fun n2 h2 => ?_
  refine go_below hA fun w3 hA => ?_
  refine at_call hA (c14 _ _ _ _) (fun _ hA hk => ⟨_, rfl, hk, ?_⟩)
  refine brND (fun hr => leaf h hA (by rw [sCmp, if_neg (fun hh => hr hh.1)])) (fun hr => ?_)
  refine at_call hA (c14 _ _ _ _) (fun _ hA hk => ⟨_, rfl, hk, ?_⟩)
  refine brND (fun hs => leaf h hA (by rw [sCmp, if_neg (fun hh => hs hh.2)])) (fun hs => ?_)
  rw [sCmp, if_pos ⟨hr, hs⟩] at h
  obtain ⟨⟨p0, p1⟩, p2, p3, p4, p5⟩ := hr
  obtain ⟨⟨q0, q1⟩, q2, q3, q4, q5⟩ := hs
  refine go_below hA fun w10 hA => ?_
  refine at_callq hA (c38 a0 b1 b2 (by omega) (by omega) (by omega) _) fun v wx hA hk hb3 hq => ?_
  obtain ⟨X, hx, dX, lX, vX⟩ := hq
  have hoX : OwnL w [n1, n2] wx 3 1 one v X := OwnL.ret (by assumption) hx rfl rfl
  obtain ⟨xa, xc, rfl, hsX⟩ := hoX.slice (by simp)
  refine ⟨_, _, _, rfl, hk, ?_⟩
  refine at_callq hA (c38 b0 a1 a2 (by omega) (by omega) (by omega) _) fun v wy hA hk hb4 hq => ?_
  obtain ⟨Y, hy, dY, lY, vY⟩ := hq
  have hoY : OwnL w [n1, n2] wy 3 1 one v Y := OwnL.ret (by assumption) hy rfl rfl
  obtain ⟨ya, yc, rfl, hsY⟩ := hoY.slice (by simp)
  refine ⟨_, _, _, rfl, hk, ?_⟩
  have hsX' := hsX.call hb4
  rw [Int.mul_assoc] at vX vY
  rw [← vX, ← vY] at h
  refine at_callq (Q := fun v w' => v = .bool (decide (val X < val Y))) hA (fun R h => c39 _ hsX' hsY dX dY (by omega) R fun w' hb => h _ w' hb rfl) (fun v w' hA hk hb hv => ?_)
  subst hv
  refine ⟨_, rfl, hk, ?_⟩
  refine brD (fun hlt => ?_) (fun hge => ?_)
  · refine leaf h hA ?_
    rw [cmpI, if_neg (by omega), if_pos hlt]
  · refine at_call hA (c39 _ (hsY.call hb) (hsX'.call hb) dY dX (by omega)) (fun _ hA hk => ⟨_, rfl, hk, ?_⟩)
    refine brD (fun hlt => ?_) (fun hge => ?_)
    · refine leaf h hA ?_
      rw [cmpI, if_neg (by omega), if_neg (by omega)]
    · refine leaf h hA ?_
      rw [cmpI, if_pos (by omega)]
end Go.Vc.B
