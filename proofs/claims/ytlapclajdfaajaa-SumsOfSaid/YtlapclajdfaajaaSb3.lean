/- Own text of this claim: Sb3. -/
import Derived.Test.YtlapclajdfaajaaSb2
import Derived.Test.YtlapclajdfaajaaVcOwn2
set_option maxRecDepth 20000
namespace Go.Vc.B
open Go Go.Vc Go.RowKit Go.Proofs Vcb

abbrev one (x : Int) : List Value := [.int .i64 x]
def dg : Nat → Int → List Int
  | 0, _ => []
  | k + 1, x => (x % 65536) :: dg k (x / 65536)

theorem dg_len : ∀ (k : Nat) (x : Int), (dg k x).length = k
  | 0, _ => rfl
  | k + 1, x => by simp [dg, dg_len k]

theorem c52 (hi lo : Int) (hh : 0 ≤ hi ∧ hi < 18446744073709551616) (hl : 0 ≤ lo ∧ lo < 18446744073709551616) (w : World) : RetL Try.prog 52 #[.int .u64 hi, .int .u64 lo] w 3 1 one (dg 4 lo ++ dg 4 hi) := by
  intro R h
  refine f52_calls hi lo w R ?_
  unfold f52_vc
  have hA := At.refl w
  refine ⟨fun s W => At w [] W ∧ ∃ k : Nat, s.2.2.1 = k ∧ k ≤ 4 ∧ (0 ≤ s.1 ∧ s.1 < 18446744073709551616) ∧ ∃ l : List Int, OwnL w [] W 3 1 one (.slice s.2.1.1 s.2.1.2.1 s.2.1.2.2) l ∧ l.length = k ∧ l ++ dg (4 - k) s.1 = dg 4 lo, fun s _ => 4 - s.2.2.1.toNat, ⟨hA, 0, rfl, by omega, hl, [], OwnL.nil, rfl, rfl⟩, ?_⟩
  intro x a n c i W ⟨hA, k, hik, hk, hx, l, ho, hll, hd⟩
  simp only at hik hk hx ho hd
  subst hik
  refine brD (fun hlt => ?_) (fun hge => ?_)
  · refine opw_lit hA (e' := 3) (cs := one (IntKind.i64.wrap (x.tmod 65536))) (by kernel_rfl) fun w' hA hk hb hc _ => ⟨_, _, _, rfl, ?_⟩
    have e1 : IntKind.i64.wrap (x.tmod 65536) = x % 65536 := by
      rw [Int.tmod_eq_emod_of_nonneg hx.1]
      exact wrap_i64 (by omega) (by omega)
    have e2 : IntKind.u64.wrap (x.tdiv 65536) = x / 65536 := by
      rw [Int.tdiv_eq_ediv_of_nonneg hx.1]
      exact wrap_u64_id (by omega) (by omega)
    have e3 : IntKind.i64.wrap ((k : Int) + 1) = ((k + 1 : Nat) : Int) := by rw [wrap_i64 (by omega) (by omega)]; rfl
    rw [e1] at hc
    rw [e2, e3]
    refine opw_append1 (bytes := 8) (by kernel_rfl) hA (ho.call hb) (x := x % 65536) rfl hc (by simp [Value.oneCell']) (by omega) (.inr (by omega)) fun v' w' hA hk hg ho' _ => ?_
    obtain ⟨a', c', rfl, _⟩ := ho'.slice (by simp)
    refine ⟨_, _, _, rfl, ⟨hA, k + 1, rfl, by omega, by omega, _, ho', by simp [hll], ?_⟩, ?_⟩
    · rw [← hd, show 4 - k = (4 - (k + 1)) + 1 by omega]
      simp [dg]
    · simp only
      omega
  · have hk4 : k = 4 := by omega
    subst hk4
    have hl4 : l = dg 4 lo := by simpa [dg] using hd
    subst hl4
    refine ⟨fun s W => At w [] W ∧ ∃ k : Nat, s.2.2.1 = k ∧ k ≤ 4 ∧ (0 ≤ s.1 ∧ s.1 < 18446744073709551616) ∧ ∃ l : List Int, OwnL w [] W 3 1 one (.slice s.2.1.1 s.2.1.2.1 s.2.1.2.2) l ∧ l.length = 4 + k ∧ l ++ dg (4 - k) s.1 = dg 4 lo ++ dg 4 hi, fun s _ => 4 - s.2.2.1.toNat, ⟨hA, 0, rfl, by omega, hh, _, ho, dg_len _ _, rfl⟩, ?_⟩
    clear ho hx hd
    intro x a n c i W ⟨hA, k, hik, hk, hx, l, ho, hll, hd⟩
    simp only at hik hk hx ho hd
    subst hik
    refine brD (fun hlt => ?_) (fun hge => ?_)
    · refine opw_lit hA (e' := 3) (cs := one (IntKind.i64.wrap (x.tmod 65536))) (by kernel_rfl) fun w' hA hk hb hc _ => ⟨_, _, _, rfl, ?_⟩
      have e1 : IntKind.i64.wrap (x.tmod 65536) = x % 65536 := by
        rw [Int.tmod_eq_emod_of_nonneg hx.1]
        exact wrap_i64 (by omega) (by omega)
      have e2 : IntKind.u64.wrap (x.tdiv 65536) = x / 65536 := by
        rw [Int.tdiv_eq_ediv_of_nonneg hx.1]
        exact wrap_u64_id (by omega) (by omega)
      have e3 : IntKind.i64.wrap ((k : Int) + 1) = ((k + 1 : Nat) : Int) := by rw [wrap_i64 (by omega) (by omega)]; rfl
      rw [e1] at hc
      rw [e2, e3]
      refine opw_append1 (bytes := 8) (by kernel_rfl) hA (ho.call hb) (x := x % 65536) rfl hc (by simp [Value.oneCell']) (by omega) (.inr (by omega)) fun v' w' hA hk hg ho' _ => ?_
      obtain ⟨a', c', rfl, _⟩ := ho'.slice (by simp)
      refine ⟨_, _, _, rfl, ⟨hA, k + 1, rfl, by omega, by omega, _, ho', by simp [hll]; omega, ?_⟩, ?_⟩
      · rw [← hd, show 4 - k = (4 - (k + 1)) + 1 by omega]
        simp [dg]
      · simp only
        omega
    · have hk4 : k = 4 := by omega
      subst hk4
      exact leafl h hA ho (by simpa [dg] using hd)
end Go.Vc.B
