/- Own text of this claim: Sq1. -/
import Derived.Test.YtlapclajdfaajaaFb3
import Derived.Test.YtlapclajdfaajaaVcStr
import Derived.Test.YtlapclajdfaajaaVcMath
import Derived.Test.YtlapclajdfaajaaVcRow
set_option maxRecDepth 20000
namespace Go.Vc.BQ
open Go Go.Vc Go.RowKit Go.Proofs Vcb

abbrev I64 (x : Int) : Prop := -9223372036854775808 ≤ x ∧ x ≤ 9223372036854775807
abbrev one (x : Int) : List Value := [.int .i64 x]

def qgo (most : Int) : Int → List Int → Int × Bool
  | s, [] => (s, true)
  | s, n :: r => if n < 0 ∨ n > most - s then (0, false) else qgo most (s + n) r
def qsum (most : Int) (l : List Int) : Int × Bool := if most < 0 then (0, false) else qgo most 0 l

abbrev pairV (p : Int × Bool) : Value := .tuple #[.int .i64 p.1, .bool p.2]

theorem c53 {most : Int} {l : List Int} {a : Option Addr} {n c : Nat} (w : World) (hm : I64 most) (hs : SlE w 1 one l a n c) (hI : ∀ x ∈ l, I64 x) : Ret Try.prog 53 #[.int .i64 most, .slice a n c] w (pairV (qsum most l)) := by
  intro R h
  refine f53_calls most a n c w R ?_
  unfold f53_vc
  have hA := At.refl w
  have hlen := hs.len_le
  have hn := hlen.1
  subst hn
  refine brD (fun hneg => leaf h hA (by rw [qsum, if_pos hneg])) (fun hpos => ?_)
  rw [qsum, if_neg hpos] at h
  refine ⟨fun s W => At w [] W ∧ ∃ k : Nat, s.2.1 = k ∧ k ≤ l.length ∧ (0 ≤ s.1 ∧ s.1 ≤ most) ∧ qgo most s.1 (l.drop k) = qgo most 0 l, fun s _ => l.length - s.2.1.toNat, ⟨hA, 0, rfl, Nat.zero_le _, by show (0 : Int) ≤ 0 ∧ (0 : Int) ≤ most; omega, rfl⟩, ?_⟩
  intro s i W ⟨hA, k, hik, hk, hb, hg⟩
  simp only at hik hb hg
  subst hik
  refine brD (fun hlt => ?_) (fun hge => ?_)
  · obtain ⟨x, hx⟩ : ∃ x, l[k]? = some x := ⟨_, List.getElem?_eq_getElem (by omega)⟩
    have hIx := hI x (List.mem_of_getElem? hx)
    obtain ⟨ad, g1, r1⟩ := rd_one (te := 2) (ds := []) (k := .i64) (t := 87) (P := Try.prog) (e := 2) (hs.call hA.below) hx rfl (by kernel_rfl) (by kernel_rfl) (by kernel_rfl) (fun _ h => by cases h)
    rw [drop_cons hx, qgo] at hg
    refine ⟨_, g1, _, r1, ?_⟩
    rw [wrap_i64 (x := most - s) (by omega) (by omega), wrap_i64 (x := (k : Int) + 1) (by omega) (by omega)]
    refine brD (fun h1 => ?_) (fun h1 => brD (fun h2 => ?_) (fun h2 => ?_))
    · rw [if_pos (.inl h1)] at hg
      exact leaf h hA (by rw [← hg])
    · rw [if_pos (.inr h2)] at hg
      exact leaf h hA (by rw [← hg])
    · rw [if_neg (by omega)] at hg
      rw [wrap_i64 (x := s + x) (by omega) (by omega)]
      exact ⟨⟨hA, k + 1, rfl, by omega, by show (0 : Int) ≤ s + x ∧ s + x ≤ most; omega, hg⟩, by simp only; omega⟩
  · have hke : k = l.length := by omega
    subst hke
    rw [List.drop_length, qgo] at hg
    exact leaf h hA (by rw [← hg])

def qtimes (a n most : Int) : Int × Bool := if a < 0 ∨ n < 0 ∨ most < 0 ∨ (a > 0 ∧ n > most / a) then (0, false) else (a * n, true)

theorem times_fits {a n most : Int} (hm : I64 most) (hn : I64 n) (h : ¬ (a < 0 ∨ n < 0 ∨ most < 0 ∨ (a > 0 ∧ n > most / a))) : 0 ≤ a * n ∧ (a * n ≤ most ∨ a = 0) ∧ IntKind.i64.wrap (a * n) = a * n := by
  have h0 : 0 ≤ a * n := Int.mul_nonneg (by omega) (by omega)
  rcases Int.lt_or_eq_of_le (show 0 ≤ a by omega) with ha | ha
  · have h1 : n ≤ most / a := by omega
    have h2 : a * n ≤ a * (most / a) := Int.mul_le_mul_of_nonneg_left h1 (by omega)
    have h3 := Int.mul_ediv_self_le (x := most) (k := a) (by omega)
    exact ⟨h0, .inl (by omega), wrap_i64 (by omega) (by omega)⟩
  · subst ha
    simp
    decide

theorem c48 (n : Int) (w : World) : Ret Try.prog 48 #[.int .i64 n] w (.bool (decide (0 ≤ n ∧ n ≤ 9007199254740992))) := by
  intro R h
  refine f48_calls n w R ?_
  unfold f48_vc
  have hA := At.refl w
  refine brD (fun h1 => leaf h hA ?_) (fun h1 => leaf h hA ?_)
  · simp [h1]
  · simp only [ge_iff_le] at h1
    simp [h1]

theorem c50 (a b most : Int) (ha : I64 a) (hb : I64 b) (hm : I64 most) (w : World) : Ret Try.prog 50 #[.int .i64 a, .int .i64 b, .int .i64 most] w (pairV (qsum most [a, b])) := by
  intro R h
  refine f50_calls a b most w R ?_
  unfold f50_vc
  have hA := At.refl w
  refine opw_lit hA (e' := 2) (cs := [a, b].flatMap one) (by kernel_rfl) fun w' hA hk hbw hc hh => ⟨_, _, _, rfl, ?_⟩
  have ho : OwnL w [] w' 2 1 one (.slice (some ⟨w.heap.size, 0, none⟩) 2 2) [a, b] :=
    ⟨⟨rfl, .inr ⟨_, 2, _, rfl, Nat.le_refl _, hh, Nat.le_refl _, by decide, rfl, rfl⟩⟩, fun _ h => by cases h⟩
  refine at_call hA (c53 (l := [a, b]) _ hm (ho.sl (by simp)) (by simp; exact ⟨ha, hb⟩)) (fun _ hA hk => ⟨_, _, rfl, ?_⟩)
  exact leaf h hA rfl
end Go.Vc.BQ
