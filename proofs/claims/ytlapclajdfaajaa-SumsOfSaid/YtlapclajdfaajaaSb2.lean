/- Own text of this claim: Sb2. -/
import Derived.Test.YtlapclajdfaajaaSb1
import Derived.Test.YtlapclajdfaajaaVcMem
set_option maxRecDepth 20000
namespace Go.Vc.B
open Go Go.Vc Go.RowKit Go.Proofs Vcb

abbrev I64 (x : Int) : Prop := -9223372036854775808 ≤ x ∧ x ≤ 9223372036854775807

noncomputable def frCmp (a b c d : Int) : Int := if right a b ∧ right c d then cmpI (a * d) (c * b) else 0

theorem c19 (a0 a1 b0 b1 : Int) (h0 : I64 a0) (h1 : I64 a1) (h2 : I64 b0) (h3 : I64 b1) (w : World) : Ret Try.prog 19 #[fracV a0 a1, fracV b0 b1] w (.int .i64 (frCmp a0 a1 b0 b1)) := by
  intro R h
  refine f19_calls a0 a1 b0 b1 w R ?_
  unfold f19_vc
  have hA := At.refl w
  refine go_n hA fun n1 h1 => ?_
  refine go_n hA fun n2 h2 => ?_
  refine go_below hA fun w3 hA => ?_
  refine at_call hA (c40 _ _ _) (fun _ hA hk => ⟨_, rfl, hk, ?_⟩)
  refine brND (fun hr => ?_) (fun hr => ?_)
  · refine leaf h hA ?_
    simp [frCmp, hr]
  refine at_call hA (c40 _ _ _) (fun _ hA hk => ⟨_, rfl, hk, ?_⟩)
  refine brND (fun hs => ?_) (fun hs => ?_)
  · refine leaf h hA ?_
    simp [frCmp, hs]
  refine go_below hA fun w3 hA => ?_
  have g1 := hr.1; have g2 := hr.2; have g3 := hs.1; have g4 := hs.2
  rw [wrap_u64_id (x := a0) (by omega) (by omega), wrap_u64_id (x := a1) (by omega) (by omega), wrap_u64_id (x := b0) (by omega) (by omega), wrap_u64_id (x := b1) (by omega) (by omega)]
  refine at_call hA (c44 _ _ (by omega) (by omega) _) (fun _ hA hk => ⟨_, _, rfl, hk, ?_⟩)
  refine at_call hA (c44 _ _ (by omega) (by omega) _) (fun _ hA hk => ⟨_, _, rfl, hk, ?_⟩)
  refine at_call hA (c37 _ _ _ _ ⟨Int.emod_nonneg _ (by decide), Int.emod_lt_of_pos _ (by decide)⟩ ⟨Int.emod_nonneg _ (by decide), Int.emod_lt_of_pos _ (by decide)⟩ _) (fun _ hA hk => ⟨_, rfl, hk, ?_⟩)
  refine leaf h hA ?_
  have e : ∀ x : Int, x / 18446744073709551616 * 18446744073709551616 + x % 18446744073709551616 = x := fun x => by omega
  rw [e, e, frCmp, if_pos ⟨hr, hs⟩]

/-! ### The greatest common divisor -/
end Go.Vc.B
