/- Own text of this claim: Sh1. -/
import Derived.Test.YtlapclajdfaajaaSb4
import Derived.Test.YtlapclajdfaajaaSb6
set_option maxRecDepth 20000
namespace Go.Vc.B
open Go Go.Vc Go.RowKit Go.Proofs Vcb

abbrev shV (a b c : Int) : Value := .agg #[.int .i64 a, .int .i64 b, .int .i64 c]
def sRight (a b c : Int) : Prop := right a b ∧ a ≤ 9007199254740992 ∧ b ≤ 9007199254740992 ∧ 1 ≤ c ∧ c ≤ 1000
instance (a b c : Int) : Decidable (sRight a b c) := by unfold sRight; infer_instance
noncomputable def sCmp (a0 a1 a2 b0 b1 b2 : Int) : Int := if sRight a0 a1 a2 ∧ sRight b0 b1 b2 then cmpI (a0 * (b1 * b2)) (b0 * (a1 * a2)) else 0

theorem c13 (a b c : Int) (w : World) : Ret Try.prog 13 #[shV a b c] w (.bool (decide (sRight a b c))) := by
  intro R h
  refine f13_calls a b c w R ?_
  unfold f13_vc
  have hA := At.refl w
  refine go_n hA fun n1 h1 => ?_
  refine go_below hA fun w2 hA => ?_
  refine at_call hA (c40 _ _ _) (fun _ hA hk => ⟨_, rfl, hk, ?_⟩)
  refine brD (fun h1 => brD (fun h2 => brD (fun h3 => brD (fun h4 => leaf h hA ?_) (fun h4 => leaf h hA ?_)) (fun h3 => leaf h hA ?_)) (fun h2 => leaf h hA ?_)) (fun h1 => leaf h hA ?_)
  · rw [show decide (sRight a b c) = decide (c ≤ 1000) from decide_eq_decide.2 ⟨fun hh => hh.2.2.2.2, fun hh => ⟨h1, h2, h3, h4, hh⟩⟩]
  · rw [decide_eq_false (show ¬ sRight a b c from fun hh => h4 hh.2.2.2.1)]
  · rw [decide_eq_false (show ¬ sRight a b c from fun hh => h3 hh.2.2.1)]
  · rw [decide_eq_false (show ¬ sRight a b c from fun hh => h2 hh.2.1)]
  · rw [decide_eq_false (show ¬ sRight a b c from fun hh => h1 hh.1)]

theorem c14 (a b c : Int) (w : World) : Ret Try.prog 14 #[fracV a b, .int .i64 c] w (.bool (decide (sRight a b c))) := by
  intro R h
  refine f14_calls a b c w R ?_
  unfold f14_vc
  have hA := At.refl w
  refine go_n hA fun n1 h1 => ?_
  refine go_below hA fun w2 hA => ?_
  refine at_call hA (c41 _ _ _) (fun _ hA hk => ⟨_, rfl, hk, ?_⟩)
  refine brD (fun h1 => brD (fun h2 => brD (fun h3 => brD (fun h4 => leaf h hA ?_) (fun h4 => leaf h hA ?_)) (fun h3 => leaf h hA ?_)) (fun h2 => leaf h hA ?_)) (fun h1 => leaf h hA ?_)
  · rw [show decide (sRight a b c) = decide (c ≤ 1000) from decide_eq_decide.2 ⟨fun hh => hh.2.2.2.2, fun hh => ⟨h1, h2, h3, h4, hh⟩⟩]
  · rw [decide_eq_false (show ¬ sRight a b c from fun hh => h4 hh.2.2.2.1)]
  · rw [decide_eq_false (show ¬ sRight a b c from fun hh => h3 hh.2.2.1)]
  · rw [decide_eq_false (show ¬ sRight a b c from fun hh => h2 hh.2.1)]
  · rw [decide_eq_false (show ¬ sRight a b c from fun hh => h1 hh.1)]

theorem mul_le {a b : Int} {A B : Int} (ha : 0 ≤ a ∧ a ≤ A) (hb : 0 ≤ b ∧ b ≤ B) : 0 ≤ a * b ∧ a * b ≤ A * B :=
  ⟨Int.mul_nonneg ha.1 hb.1, Int.le_trans (Int.mul_le_mul_of_nonneg_right ha.2 hb.1) (Int.mul_le_mul_of_nonneg_left hb.2 (by omega))⟩

theorem c36 (a0 a1 a2 b0 b1 b2 : Int) (ha : sRight a0 a1 a2) (hb : sRight b0 b1 b2) (w : World) : Ret Try.prog 36 #[shV a0 a1 a2, shV b0 b1 b2] w (wideV (a0 * (b1 * b2) / 18446744073709551616) (a0 * (b1 * b2) % 18446744073709551616)) := by
  intro R h
  refine f36_calls a0 a1 a2 b0 b1 b2 w R ?_
  unfold f36_vc
  have hA := At.refl w
  obtain ⟨⟨p0, p1⟩, p2, p3, p4, p5⟩ := ha
  obtain ⟨⟨q0, q1⟩, q2, q3, q4, q5⟩ := hb
  have hm := mul_le (a := b1) (b := b2) (A := 9007199254740992) (B := 1000) (by omega) (by omega)
  rw [wrap_u64_id (x := a0) (by omega) (by omega), wrap_u64_id (x := b1) (by omega) (by omega), wrap_u64_id (x := b2) (by omega) (by omega), wrap_u64_id (x := b1 * b2) (by omega) (by omega)]
  refine go_n hA fun n1 h1 => ?_
  refine go_n hA fun n2 h2 => ?_
  refine go_n hA fun n3 h3 => ?_
  refine go_below hA fun w4 hA => ?_
  refine at_call hA (c44 _ _ (by omega) (by omega) _) (fun _ hA hk => ⟨_, _, rfl, hk, ?_⟩)
  exact go_evo hA (by intro d hd; simp at hd; omega) fun w9 hA => leaf h hA rfl

theorem c11 (a0 a1 a2 b0 b1 b2 : Int) (w : World) : Ret Try.prog 11 #[shV a0 a1 a2, shV b0 b1 b2] w (.int .i64 (sCmp a0 a1 a2 b0 b1 b2)) := by
  intro R h
  refine f11_calls a0 a1 a2 b0 b1 b2 w R ?_
  unfold f11_vc
  have hA := At.refl w
  refine go_n hA fun n1 h1 => ?_
  refine go_n hA fun n2 h2 => ?_
  refine ⟨fun he => go_below hA fun w3 hA => leaf h hA ?_, fun hne => go_below hA fun w4 hA => ?_⟩
  · simp at he
    obtain ⟨⟨rfl, rfl⟩, rfl⟩ := he
    unfold sCmp cmpI
    split <;> simp
  refine at_call hA (c13 _ _ _ _) (fun _ hA hk => ⟨_, rfl, hk, ?_⟩)
  refine brND (fun hr => leaf h hA (by rw [sCmp, if_neg (fun hh => hr hh.1)])) (fun hr => ?_)
  refine at_call hA (c13 _ _ _ _) (fun _ hA hk => ⟨_, rfl, hk, ?_⟩)
  refine brND (fun hs => leaf h hA (by rw [sCmp, if_neg (fun hh => hs hh.2)])) (fun hs => ?_)
  refine go_below hA fun w11 hA => ?_
  refine at_call hA (c36 _ _ _ _ _ _ hr hs _) (fun _ hA hk => ⟨_, _, rfl, hk, ?_⟩)
  refine at_call hA (c36 _ _ _ _ _ _ hs hr _) (fun _ hA hk => ⟨_, _, rfl, hk, ?_⟩)
  refine at_call hA (c37 _ _ _ _ ⟨Int.emod_nonneg _ (by decide), Int.emod_lt_of_pos _ (by decide)⟩ ⟨Int.emod_nonneg _ (by decide), Int.emod_lt_of_pos _ (by decide)⟩ _) (fun _ hA hk => ⟨_, rfl, hk, ?_⟩)
  refine leaf h hA ?_
  have e : ∀ x : Int, x / 18446744073709551616 * 18446744073709551616 + x % 18446744073709551616 = x := fun x => by omega
  rw [e, e, sCmp, if_pos ⟨hr, hs⟩]
end Go.Vc.B
