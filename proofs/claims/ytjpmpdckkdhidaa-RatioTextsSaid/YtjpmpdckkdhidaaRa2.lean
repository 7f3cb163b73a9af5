/- Own text of this claim: Ra2. -/
import Derived.Test.YtjpmpdckkdhidaaRa1
import Derived.Test.YtjpmpdckkdhidaaVcMem
set_option maxRecDepth 20000
namespace Go.Vc.A
open Go Go.Vc Go.RowKit Go.Proofs Vca

abbrev I64 (x : Int) : Prop := -9223372036854775808 ≤ x ∧ x ≤ 9223372036854775807

noncomputable def frCmp (a b c d : Int) : Int := if right a b ∧ right c d then cmpI (a * d) (c * b) else 0

theorem c12 (a0 a1 b0 b1 : Int) (h0 : I64 a0) (h1 : I64 a1) (h2 : I64 b0) (h3 : I64 b1) (w : World) : Ret Try.prog 12 #[fracV a0 a1, fracV b0 b1] w (.int .i64 (frCmp a0 a1 b0 b1)) := by
  intro R h
  refine f12_calls a0 a1 b0 b1 w R ?_
  unfold f12_vc
  have hA := At.refl w
  refine go_n hA fun n1 h1 => ?_
  refine go_n hA fun n2 h2 => ?_
  refine go_below hA fun w3 hA => ?_
  refine at_call hA (c14 _ _ _) (fun _ hA hk => ⟨_, rfl, hk, ?_⟩)
  refine brND (fun hr => ?_) (fun hr => ?_)
  · refine leaf h hA ?_
    simp [frCmp, hr]
  refine at_call hA (c14 _ _ _) (fun _ hA hk => ⟨_, rfl, hk, ?_⟩)
  refine brND (fun hs => ?_) (fun hs => ?_)
  · refine leaf h hA ?_
    simp [frCmp, hs]
  refine go_below hA fun w3 hA => ?_
  have g1 := hr.1; have g2 := hr.2; have g3 := hs.1; have g4 := hs.2
  rw [wrap_u64_id (x := a0) (by omega) (by omega), wrap_u64_id (x := a1) (by omega) (by omega), wrap_u64_id (x := b0) (by omega) (by omega), wrap_u64_id (x := b1) (by omega) (by omega)]
  refine at_call hA (c34 _ _ (by omega) (by omega) _) (fun _ hA hk => ⟨_, _, rfl, hk, ?_⟩)
  refine at_call hA (c34 _ _ (by omega) (by omega) _) (fun _ hA hk => ⟨_, _, rfl, hk, ?_⟩)
  refine at_call hA (c35 _ _ _ _ ⟨Int.emod_nonneg _ (by decide), Int.emod_lt_of_pos _ (by decide)⟩ ⟨Int.emod_nonneg _ (by decide), Int.emod_lt_of_pos _ (by decide)⟩ _) (fun _ hA hk => ⟨_, rfl, hk, ?_⟩)
  refine leaf h hA ?_
  have e : ∀ x : Int, x / 18446744073709551616 * 18446744073709551616 + x % 18446744073709551616 = x := fun x => by omega
  rw [e, e, frCmp, if_pos ⟨hr, hs⟩]

/-! ### The greatest common divisor -/
theorem c18 (a b : Int) (h0 : I64 a) (h1 : I64 b) (w : World) : Ret Try.prog 18 #[.int .i64 a, .int .i64 b] w (.int .i64 (if a < 0 ∨ b < 0 then 0 else (Int.gcd a b : Int))) := by
  intro R h
  refine f18_calls a b w R ?_
  unfold f18_vc
  have hA := At.refl w
  refine brD (fun ha => leaf h hA (by rw [if_pos (.inl ha)])) (fun ha => brD (fun hb => leaf h hA (by rw [if_pos (.inr hb)])) (fun hb => ?_))
  rw [if_neg (by omega)] at h
  refine ⟨fun s W => At w [] W ∧ 0 ≤ s.1 ∧ 0 ≤ s.2.1 ∧ Int.gcd s.1 s.2.1 = Int.gcd a b, fun s _ => s.2.1.toNat, ⟨hA, by show (0 : Int) ≤ a; omega, by show (0 : Int) ≤ b; omega, rfl⟩, ?_⟩
  intro x y W ⟨hA, hx, hy, hg⟩
  simp only at hx hy hg
  refine brD (fun hp => ?_) (fun hp => ?_)
  · refine ⟨_, gives_rem (by omega), ?_⟩
    refine go_below0 hA fun W' hA => ?_
    have e : x.tmod y = x % y := Int.tmod_eq_emod_of_nonneg hx
    have l1 := Int.emod_nonneg x (show y ≠ 0 by omega)
    have l2 := Int.emod_lt_of_pos x hp
    rw [e]
    refine ⟨⟨hA, hy, l1, ?_⟩, ?_⟩
    · rw [← hg]
      simp only
      rw [Int.emod_def, Int.gcd_sub_mul_left_right, Int.gcd_comm]
    · simp only
      omega
  · refine leaf h hA ?_
    have : y = 0 := by omega
    subst this
    rw [Int.gcd_zero_right] at hg
    congr 2
    omega

theorem c17 (a b : Int) (h0 : I64 a) (h1 : I64 b) (w : World) : Ret Try.prog 17 #[fracV a b] w (if right a b then fracV (a / Int.gcd a b) (b / Int.gcd a b) else fracV 0 0) := by
  intro R h
  refine f17_calls a b w R ?_
  unfold f17_vc
  have hA := At.refl w
  refine go_n hA fun n1 h1 => ?_
  refine go_n hA fun n2 h2 => ?_
  refine go_below hA fun w3 hA => ?_
  refine at_call hA (c14 _ _ _) (fun _ hA hk => ⟨_, rfl, hk, ?_⟩)
  refine brND (fun hr => ?_) (fun hr => ?_)
  · refine go_evo hA (by simp [*]) fun w2 hA => leaf h hA ?_
    rw [if_neg hr]
  refine at_call hA (c18 _ _ h0 ‹_› _) (fun _ hA hk => ⟨_, rfl, hk, ?_⟩)
  have g1 := hr.1; have g2 := hr.2
  have hg : 0 < Int.gcd a b := Int.gcd_pos_of_ne_zero_right a (by omega)
  have hgl : (Int.gcd a b : Int) ≤ b := Int.le_of_dvd (by omega) (Int.gcd_dvd_right ..)
  rw [if_neg (by omega)]
  refine ⟨_, gives_quo (by omega), _, gives_quo (by omega), ?_⟩
  refine go_evo hA (by simp [*]) fun w2 hA => leaf h hA ?_
  have d1 : ∀ x : Int, 0 ≤ x → I64 x → IntKind.i64.wrap (x.tdiv (Int.gcd a b)) = x / (Int.gcd a b : Int) := by
    intro x hx hi
    rw [Int.tdiv_eq_ediv_of_nonneg hx]
    have l1 : 0 ≤ x / (Int.gcd a b : Int) := Int.ediv_nonneg hx (by omega)
    have l2 : x / (Int.gcd a b : Int) ≤ x := Int.ediv_le_self _ hx
    exact wrap_i64 (by omega) (by omega)
  rw [if_pos hr, d1 a g1 h0, d1 b (by omega) ‹_›]
end Go.Vc.A
