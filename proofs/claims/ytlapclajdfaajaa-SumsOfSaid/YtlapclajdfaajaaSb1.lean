/- Own text of this claim: Sb1. -/
import Derived.Test.YtlapclajdfaajaaFb1
import Derived.Test.YtlapclajdfaajaaVcEq
import Derived.Test.YtlapclajdfaajaaVcMath
set_option maxRecDepth 20000
namespace Go.Vc.B
open Go Go.Vc Go.RowKit Go.Proofs Vcb

noncomputable abbrev fracV (a b : Int) : Value := .agg #[.int .i64 a, .int .i64 b]
noncomputable abbrev wideV (a b : Int) : Value := .agg #[.int .u64 a, .int .u64 b]
noncomputable def right (a b : Int) : Prop := 0 ≤ a ∧ 1 ≤ b
instance (a b : Int) : Decidable (right a b) := by unfold right; infer_instance

theorem c40 (a b : Int) (w : World) : Ret Try.prog 40 #[fracV a b] w (.bool (decide (right a b))) := by
  intro R h
  refine f40_calls a b w R ?_
  unfold f40_vc
  have hA := At.refl w
  refine go_n hA fun n1 h1 => ?_
  refine brD (fun ha => ?_) (fun ha => ?_)
  · refine go_below hA fun w2 hA => leaf h hA ?_
    simp only [right, ge_iff_le] at *
    simp [*]
  · refine go_below hA fun w2 hA => leaf h hA ?_
    simp only [right, ge_iff_le] at *
    simp [*]

def cmpI (x y : Int) : Int := if x = y then 0 else if x < y then -1 else 1

theorem c37 (a0 a1 b0 b1 : Int) (ha : 0 ≤ a1 ∧ a1 < 18446744073709551616) (hb : 0 ≤ b1 ∧ b1 < 18446744073709551616) (w : World) :
    Ret Try.prog 37 #[wideV a0 a1, wideV b0 b1] w (.int .i64 (cmpI (a0 * 18446744073709551616 + a1) (b0 * 18446744073709551616 + b1))) := by
  intro R h
  refine f37_calls a0 a1 b0 b1 w R ?_
  unfold f37_vc
  have hA := At.refl w
  refine go_n hA fun n1 h1 => ?_
  refine go_n hA fun n2 h2 => ?_
  refine brB (fun hc => ?_) (fun hc => ?_)
  · refine go_below hA fun w2 hA => leaf h hA ?_
    simp at hc
    simp [cmpI, hc]
  · refine brD (fun hd => ?_) (fun hd => ?_)
    · refine go_below hA fun w2 hA => leaf h hA ?_
      simp only [cmpI]
      rw [if_neg (by omega), if_pos (by omega)]
    · refine brE (fun he => brD (fun hf => ?_) (fun hf => ?_)) (fun he => ?_)
      all_goals (refine go_below hA fun w2 hA => leaf h hA ?_)
      all_goals simp only [cmpI]
      · rw [if_neg (by omega), if_pos (by omega)]
      · simp [he] at hc
        rw [if_neg (by omega), if_neg (by omega)]
      · rw [if_neg (by omega), if_neg (by omega)]

theorem c44 (a b : Int) (ha : 0 ≤ a ∧ a < 18446744073709551616) (hb : 0 ≤ b ∧ b < 18446744073709551616) (w : World) :
    Ret Try.prog 44 #[.int .u64 a, .int .u64 b] w (wideV (a * b / 18446744073709551616) (a * b % 18446744073709551616)) := by
  intro R h
  refine f44_calls a b w R ?_
  unfold f44_vc
  have hA := At.refl w
  refine go_n hA fun n1 h1 => ?_
  refine go_evo hA (by simp [*]) fun w2 hA => leaf h hA ?_
  obtain ⟨ah, al, bh, bl, p, q, r, t, e1, e2, e3, e4, e5, e6, e7, e8, hp, hq, hr, ht, hm⟩ := quarters ha.1 ha.2 hb.1 hb.2
  have k1 : ∀ x, 0 ≤ x → x < 18446744073709551616 → ((BitVec.ofInt 64 x &&& BitVec.ofInt 64 4294967295).toNat : Int) = x % 4294967296 := fun x h1 h2 => and_low32 h1 h2
  simp only [fdiv_pos _ (show (0 : Int) ≤ 4294967296 by decide), k1 a ha.1 ha.2, k1 b hb.1 hb.2, e1, e2, e3, e4]
  have w1 : IntKind.u64.wrap al = al := wrap_u64_id (by omega) (by omega)
  have w2 : IntKind.u64.wrap bl = bl := wrap_u64_id (by omega) (by omega)
  simp only [w1, w2, e5, e6, e7, e8]
  have w3 : IntKind.u64.wrap t = t := wrap_u64_id (by omega) (by omega)
  have w4 : IntKind.u64.wrap p = p := wrap_u64_id (by omega) (by omega)
  have w5 : IntKind.u64.wrap q = q := wrap_u64_id (by omega) (by omega)
  have w6 : IntKind.u64.wrap r = r := wrap_u64_id (by omega) (by omega)
  simp only [w3, w4, w5, w6]
  have w7 : IntKind.u64.wrap (q + t / 4294967296) = q + t / 4294967296 := wrap_u64_id (by omega) (by omega)
  simp only [w7, k1 t (by omega) (by omega), k1 (q + t / 4294967296) (by omega) (by omega)]
  simp only [wrap_u64]
  have z1 : ((p + (q + t / 4294967296) / 4294967296) % 18446744073709551616 + (r + (q + t / 4294967296) % 4294967296 % 18446744073709551616) % 18446744073709551616 / 4294967296) % 18446744073709551616 = a * b / 18446744073709551616 := by omega
  have z2 : ((r + (q + t / 4294967296) % 4294967296 % 18446744073709551616) % 18446744073709551616 * 4294967296 % 18446744073709551616 + t % 4294967296 % 18446744073709551616) % 18446744073709551616 = a * b % 18446744073709551616 := by omega
  rw [z1, z2]
end Go.Vc.B
