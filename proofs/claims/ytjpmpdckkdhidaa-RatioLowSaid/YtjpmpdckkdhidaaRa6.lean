/- Own text of this claim: Ra6. -/
import Derived.Test.YtjpmpdckkdhidaaRa4
set_option maxRecDepth 20000
namespace Go.Vc.A
open Go Go.Vc Go.RowKit Go.Proofs Vca

theorem tmod_zero {a g : Int} (ha : 0 ≤ a) : a.tmod g = a % g := Int.tmod_eq_emod_of_nonneg ha

theorem law5 (a b by' : Int) (ha : I64 a) (hb : I64 b) (w : World) : Ret Try.prog 5 #[fracV a b, .int .i64 by'] w (.bool true) := by
  intro R h
  refine f5_calls a b by' w R ?_
  unfold f5_vc
  have hA := At.refl w
  refine go_n hA fun n1 h1 => ?_
  refine go_below hA fun w2 hA => ?_
  have fin : ∀ gs W, At w gs W → ∀ {gs'}, gs' = gs → Calls Try.prog 16 #[] W fun e w' => ∃ b, e = Ending.returned (Value.bool b) ∧ Keeps gs' W w' ∧ R (Ending.returned (Value.bool b)) w' := fun gs W hA gs' e => e ▸
    at_call hA (c16 _) (fun _ hA hk => ⟨_, rfl, hk, leaf h hA rfl⟩)
  by_cases hr : right a b
  · refine at_call hA (c17 _ _ ha hb _) (fun _ hA hk => ⟨_, _, by rw [if_pos hr], hk, ?_⟩)
    refine go_n hA fun n7 h7 => ?_
    refine go_evo hA (by intro d hd; simp at hd; omega) fun w8 hA => ?_
    refine at_call hA (c18 _ _ ha hb _) (fun _ hA hk => ⟨_, rfl, hk, ?_⟩)
    refine at_call hA (c14 _ _ _) (fun _ hA hk => ⟨_, rfl, hk, ?_⟩)
    refine brND (fun h => absurd hr h) (fun _ => ?_)
    refine at_call hA (c14 _ _ _) (fun _ hA hk => ⟨_, rfl, hk, ?_⟩)
    obtain ⟨a0, b1⟩ := hr
    have hg : 0 < Int.gcd a b := Int.gcd_pos_of_ne_zero_right a (by omega)
    have hgl : (Int.gcd a b : Int) ≤ b := Int.le_of_dvd (by omega) (Int.gcd_dvd_right ..)
    have hda : (Int.gcd a b : Int) ∣ a := Int.gcd_dvd_left ..
    have hdb : (Int.gcd a b : Int) ∣ b := Int.gcd_dvd_right ..
    have hq := Int.gcd_ediv_gcd_ediv_gcd_of_ne_zero_right (n := a) (m := b) (by omega)
    have hby : ∀ k : Int, k ∣ a → k ∣ b → k ∣ (Int.gcd a b : Int) := fun k h1 h2 => Int.dvd_coe_gcd h1 h2
    rw [if_neg (show ¬ (a < 0 ∨ b < 0) by omega)]
    generalize hgg : (Int.gcd a b : Int) = g at *
    obtain ⟨x, rfl⟩ := hda
    obtain ⟨y, rfl⟩ := hdb
    have hg0 : 0 < g := by omega
    have e1 : g * x / g = x := Int.mul_ediv_cancel_left _ (by omega)
    have e2 : g * y / g = y := Int.mul_ediv_cancel_left _ (by omega)
    rw [e1, e2] at hq
    simp only [e1, e2]
    have hx : 0 ≤ x := Int.le_of_mul_le_mul_left (show g * 0 ≤ g * x by omega) hg0
    have hy : 1 ≤ y := by
      rcases Int.lt_or_le 0 y with h | h
      · omega
      · have := Int.mul_nonpos_of_nonneg_of_nonpos (a := g) (by omega) h
        omega
    have hxg : x ≤ g * x := by have := Int.mul_le_mul_of_nonneg_right (show 1 ≤ g by omega) hx; omega
    have hyg : y ≤ g * y := by have := Int.mul_le_mul_of_nonneg_right (show 1 ≤ g by omega) (show 0 ≤ y by omega); omega
    refine brND (fun h => absurd ⟨hx, hy⟩ h) (fun _ => ?_)
    refine at_call hA (c12 _ _ _ _ ha hb (by omega) (by omega) _) (fun _ hA hk => ⟨_, rfl, hk, ?_⟩)
    have hc : frCmp (g * x) (g * y) x y = 0 := by
      unfold frCmp cmpI
      rw [if_pos ⟨⟨a0, b1⟩, ⟨hx, hy⟩⟩, if_pos]
      rw [Int.mul_assoc, Int.mul_left_comm x g y]
    refine brN (fun h => absurd hc h) (fun _ => ?_)
    refine at_call hA (c18 _ _ (by omega) (by omega) _) (fun _ hA hk => ⟨_, rfl, hk, ?_⟩)
    rw [if_neg (show ¬ (x < 0 ∨ y < 0) by omega), hq]
    refine brN (fun h => absurd rfl h) (fun _ => ?_)
    refine brD (fun h => by omega) (fun _ => ?_)
    refine ⟨_, gives_rem (by omega), ?_⟩
    refine brN (fun h => absurd (by rw [tmod_zero a0, Int.mul_emod_right]) h) (fun _ => ?_)
    refine ⟨_, gives_rem (by omega), ?_⟩
    refine brN (fun h => absurd (by rw [tmod_zero (by omega), Int.mul_emod_right]) h) (fun _ => ?_)
    refine brD (fun h => fin _ _ hA rfl) (fun hb1 => ?_)
    refine ⟨_, gives_rem (by omega), ?_⟩
    refine brN (fun h => fin _ _ hA rfl) (fun k1 => ?_)
    refine ⟨_, gives_rem (by omega), ?_⟩
    refine brN (fun h => fin _ _ hA rfl) (fun k2 => ?_)
    refine ⟨_, gives_rem (by omega), ?_⟩
    refine brE (fun h => fin _ _ hA rfl) (fun k3 => ?_)
    refine absurd ?_ k3
    rw [tmod_zero (by omega)]
    rw [tmod_zero (by omega)] at k1 k2
    exact Int.emod_eq_zero_of_dvd (hby by' (Int.dvd_of_emod_eq_zero k1) (Int.dvd_of_emod_eq_zero k2))
  · refine at_call hA (c17 _ _ ha hb _) (fun _ hA hk => ⟨_, _, by rw [if_neg hr], hk, ?_⟩)
    refine go_n hA fun n7 h7 => ?_
    refine go_evo hA (by intro d hd; simp at hd; omega) fun w8 hA => ?_
    refine at_call hA (c18 _ _ ha hb _) (fun _ hA hk => ⟨_, rfl, hk, ?_⟩)
    refine at_call hA (c14 _ _ _) (fun _ hA hk => ⟨_, rfl, hk, ?_⟩)
    refine brND (fun _ => ?_) (fun h => absurd h hr)
    refine ⟨fun _ => ?_, fun h => by simp at h⟩
    refine brD (fun hx => brD (fun hy => fin _ _ hA rfl) (fun hy => ?_)) (fun hx => ?_)
    · have : b = 0 ∨ b < 0 := by unfold right at hr; omega
      refine brE (fun _ => fin _ _ hA rfl) (fun k => ?_)
      rw [if_pos (by omega)] at k
      exact absurd rfl k
    · refine brE (fun _ => fin _ _ hA rfl) (fun k => ?_)
      rw [if_pos (by omega)] at k
      exact absurd rfl k
end Go.Vc.A
