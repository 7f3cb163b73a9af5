/- Own text of this claim: Rq1. -/
import Derived.Test.YtjpmpdckkdhidaaFa2
import Derived.Test.YtjpmpdckkdhidaaVcStr
import Derived.Test.YtjpmpdckkdhidaaVcMath
import Derived.Test.YtjpmpdckkdhidaaVcRow
set_option maxRecDepth 20000
namespace Go.Vc.Q
open Go Go.Vc Go.RowKit Go.Proofs Vca

abbrev I64 (x : Int) : Prop := -9223372036854775808 ≤ x ∧ x ≤ 9223372036854775807
abbrev one (x : Int) : List Value := [.int .i64 x]

def qgo (most : Int) : Int → List Int → Int × Bool
  | s, [] => (s, true)
  | s, n :: r => if n < 0 ∨ n > most - s then (0, false) else qgo most (s + n) r
def qsum (most : Int) (l : List Int) : Int × Bool := if most < 0 then (0, false) else qgo most 0 l

abbrev pairV (p : Int × Bool) : Value := .tuple #[.int .i64 p.1, .bool p.2]

theorem c19 {most : Int} {l : List Int} {a : Option Addr} {n c : Nat} (w : World) (hm : I64 most) (hs : SlE w 1 one l a n c) (hI : ∀ x ∈ l, I64 x) : Ret Try.prog 19 #[.int .i64 most, .slice a n c] w (pairV (qsum most l)) := by
  intro R h
  refine f19_calls most a n c w R ?_
  unfold f19_vc
  have hA := At.refl w
  have hlen := hs.len_le
  have hn := hlen.1
  subst hn
  refine brD (fun hneg => leaf h hA (by rw [qsum, if_pos hneg])) (fun hpos => ?_)
  rw [qsum, if_neg hpos] at h
  refine ⟨fun s W => At w [] W ∧ ∃ k : Nat, s.2.1 = k ∧ k ≤ l.length ∧ (0 ≤ s.1 ∧ s.1 ≤ most) ∧ qgo most s.1 (l.drop k) = qgo most 0 l, fun s _ => l.length - s.2.1.toNat, ⟨hA, 0, rfl, Nat.zero_le _, by show (0 : Int) ≤ 0 ∧ (0 : Int) ≤ most; omega, rfl⟩, ?_⟩
  intro s i W ⟨hA, k, hik, hk, hb, hg⟩
  simp only at hik hb hg
  subst hik
  refine brD (fun hlt => ?_) (fun hge => ?_)
  · obtain ⟨x, hx⟩ : ∃ x, l[k]? = some x := ⟨_, List.getElem?_eq_getElem (by omega)⟩
    have hIx := hI x (List.mem_of_getElem? hx)
    obtain ⟨ad, g1, r1⟩ := rd_one (te := 2) (ds := []) (k := .i64) (t := 36) (P := Try.prog) (e := 2) (hs.call hA.below) hx rfl (by kernel_rfl) (by kernel_rfl) (by kernel_rfl) (fun _ h => by cases h)
    rw [drop_cons hx, qgo] at hg
    refine ⟨_, g1, _, r1, ?_⟩
    rw [wrap_i64 (x := most - s) (by omega) (by omega), wrap_i64 (x := (k : Int) + 1) (by omega) (by omega)]
    refine brD (fun h1 => ?_) (fun h1 => brD (fun h2 => ?_) (fun h2 => ?_))
    · rw [if_pos (.inl h1)] at hg
      exact leaf h hA (by rw [← hg])
    · rw [if_pos (.inr h2)] at hg
      exact leaf h hA (by rw [← hg])
    · rw [if_neg (by omega)] at hg
      rw [wrap_i64 (x := s + x) (by omega) (by omega)]
      exact ⟨⟨hA, k + 1, rfl, by omega, by show (0 : Int) ≤ s + x ∧ s + x ≤ most; omega, hg⟩, by simp only; omega⟩
  · have hke : k = l.length := by omega
    subst hke
    rw [List.drop_length, qgo] at hg
    exact leaf h hA (by rw [← hg])

theorem c20 {most : Int} {l : List Int} {a : Option Addr} {n c : Nat} (w : World) (hm : I64 most) (hs : SlE w 1 one l a n c) (hI : ∀ x ∈ l, I64 x) : Ret Try.prog 20 #[.int .i64 most, .slice a n c] w (pairV (qsum most l)) := by
  intro R h
  refine f20_calls most a n c w R ?_
  unfold f20_vc
  have hA := At.refl w
  have hlen := hs.len_le
  have hn := hlen.1
  subst hn
  refine ⟨fun s W => At w [] W ∧ ∃ k : Nat, s.2.1 = k ∧ k ≤ l.length ∧ ((most < 0 ∧ s.1 = most) ∨ (0 ≤ most ∧ 0 ≤ s.1 ∧ s.1 ≤ most ∧ qgo most (most - s.1) (l.drop k) = qgo most 0 l)), fun s _ => l.length - s.2.1.toNat, ⟨hA, 0, rfl, Nat.zero_le _, ?_⟩, ?_⟩
  · rcases Int.lt_or_le most 0 with h | h
    · exact .inl ⟨h, rfl⟩
    · exact .inr ⟨h, h, Int.le_refl _, by simp⟩
  intro s i W ⟨hA, k, hik, hk, hb⟩
  simp only at hik hb
  subst hik
  refine brD (fun hlt => ?_) (fun hge => ?_)
  · obtain ⟨x, hx⟩ : ∃ x, l[k]? = some x := ⟨_, List.getElem?_eq_getElem (by omega)⟩
    have hIx := hI x (List.mem_of_getElem? hx)
    obtain ⟨ad, g1, r1⟩ := rd_one (te := 2) (ds := []) (k := .i64) (t := 36) (P := Try.prog) (e := 2) (hs.call hA.below) hx rfl (by kernel_rfl) (by kernel_rfl) (by kernel_rfl) (fun _ h => by cases h)
    refine ⟨_, g1, _, r1, ?_⟩
    rcases hb with ⟨hneg, rfl⟩ | ⟨h0, h1, h2, hg⟩
    · rw [qsum, if_pos hneg] at h
      refine brD (fun _ => leaf h hA rfl) (fun _ => brD (fun _ => leaf h hA rfl) (fun hh => absurd hneg hh))
    · rw [qsum, if_neg (by omega)] at h
      rw [drop_cons hx, qgo] at hg
      refine brD (fun h1 => ?_) (fun h1 => ?_)
      · rw [if_pos (.inl h1)] at hg
        exact leaf h hA (by rw [← hg])
      · refine brD (fun h2 => by omega) (fun h2 => ⟨_, g1, _, r1, brD (fun h3 => ?_) (fun h3 => ⟨_, g1, _, r1, ?_⟩)⟩)
        · rw [if_pos (.inr (by omega))] at hg
          exact leaf h hA (by rw [← hg])
        · rw [if_neg (by omega)] at hg
          rw [wrap_i64 (x := (k : Int) + 1) (by omega) (by omega), wrap_i64 (x := s - x) (by omega) (by omega)]
          refine ⟨⟨hA, k + 1, rfl, by omega, .inr ⟨h0, ?_, ?_, ?_⟩⟩, by simp only; omega⟩
          · show 0 ≤ s - x
            omega
          · show s - x ≤ most
            omega
          · rw [← hg]
            show qgo most (most - (s - x)) _ = _
            rw [show most - (s - x) = most - s + x by omega]
  · have hke : k = l.length := by omega
    subst hke
    rcases hb with ⟨hneg, rfl⟩ | ⟨h0, h1, h2, hg⟩
    · rw [qsum, if_pos hneg] at h
      exact brD (fun _ => leaf h hA rfl) (fun hh => absurd hneg hh)
    · rw [qsum, if_neg (by omega)] at h
      rw [List.drop_length, qgo] at hg
      refine brD (fun _ => by omega) (fun _ => leaf h hA ?_)
      rw [← hg, wrap_i64 (by omega) (by omega)]

def qtimes (a n most : Int) : Int × Bool := if a < 0 ∨ n < 0 ∨ most < 0 ∨ (a > 0 ∧ n > most / a) then (0, false) else (a * n, true)

theorem times_fits {a n most : Int} (hm : I64 most) (hn : I64 n) (h : ¬ (a < 0 ∨ n < 0 ∨ most < 0 ∨ (a > 0 ∧ n > most / a))) : 0 ≤ a * n ∧ (a * n ≤ most ∨ a = 0) ∧ IntKind.i64.wrap (a * n) = a * n := by
  have h0 : 0 ≤ a * n := Int.mul_nonneg (by omega) (by omega)
  rcases Int.lt_or_eq_of_le (show 0 ≤ a by omega) with ha | ha
  · have h1 : n ≤ most / a := by omega
    have h2 : a * n ≤ a * (most / a) := Int.mul_le_mul_of_nonneg_left h1 (by omega)
    have h3 := Int.mul_ediv_self_le (x := most) (k := a) (by omega)
    exact ⟨h0, .inl (by omega), wrap_i64 (by omega) (by omega)⟩
  · subst ha
    simp
    decide

theorem c22 (a n most : Int) (hn : I64 n) (hm : I64 most) (w : World) : Ret Try.prog 22 #[.int .i64 a, .int .i64 n, .int .i64 most] w (pairV (qtimes a n most)) := by
  intro R h
  refine f22_calls a n most w R ?_
  unfold f22_vc
  have hA := At.refl w
  unfold qtimes at h
  refine brD (fun h1 => leaf h hA (by rw [if_pos (.inl h1)])) (fun h1 => ?_)
  refine brD (fun h2 => leaf h hA (by rw [if_pos (.inr (.inl h2))])) (fun h2 => ?_)
  refine brD (fun h3 => leaf h hA (by rw [if_pos (.inr (.inr (.inl h3)))])) (fun h3 => ?_)
  refine brD (fun h4 => ⟨_, gives_quo (by omega), ?_⟩) (fun h4 => ?_)
  · have l1 := Int.ediv_nonneg (show 0 ≤ most by omega) (show 0 ≤ a by omega)
    have l2 := Int.ediv_le_self (a := most) a (by omega)
    rw [Int.tdiv_eq_ediv_of_nonneg (by omega), wrap_i64 (x := most / a) (by omega) (by omega)]
    refine brD (fun h5 => leaf h hA (by rw [if_pos (.inr (.inr (.inr ⟨h4, h5⟩)))])) (fun h5 => ?_)
    have hno : ¬ (a < 0 ∨ n < 0 ∨ most < 0 ∨ (a > 0 ∧ n > most / a)) := by omega
    exact leaf h hA (by rw [if_neg hno, (times_fits hm hn hno).2.2])
  · have hno : ¬ (a < 0 ∨ n < 0 ∨ most < 0 ∨ (a > 0 ∧ n > most / a)) := by omega
    exact leaf h hA (by rw [if_neg hno, (times_fits hm hn hno).2.2])

theorem c23 (a n most : Int) (hn : I64 n) (hm : I64 most) (w : World) : Ret Try.prog 23 #[.int .i64 a, .int .i64 n, .int .i64 most] w (pairV (qtimes a n most)) := by
  intro R h
  refine f23_calls a n most w R ?_
  unfold f23_vc
  have hA := At.refl w
  unfold qtimes at h
  refine brD (fun h1 => leaf h hA (by rw [if_pos (.inl h1)])) (fun h1 => ?_)
  refine brD (fun h2 => leaf h hA (by rw [if_pos (.inr (.inl h2))])) (fun h2 => ?_)
  refine brD (fun h3 => leaf h hA (by rw [if_pos (.inr (.inr (.inl h3)))])) (fun h3 => ?_)
  refine brD (fun h4 => ⟨_, gives_quo (by omega), ?_⟩) (fun h4 => ?_)
  · have l1 := Int.ediv_nonneg (show 0 ≤ most by omega) (show 0 ≤ a by omega)
    have l2 := Int.ediv_le_self (a := most) a (by omega)
    rw [Int.tdiv_eq_ediv_of_nonneg (by omega), wrap_i64 (x := most / a) (by omega) (by omega)]
    refine brD (fun h5 => leaf h hA (by rw [if_pos (.inr (.inr (.inr ⟨h4, h5⟩)))])) (fun h5 => ?_)
    have hno : ¬ (a < 0 ∨ n < 0 ∨ most < 0 ∨ (a > 0 ∧ n > most / a)) := by omega
    exact leaf h hA (by rw [if_neg hno, (times_fits hm hn hno).2.2])
  · have hno : ¬ (a < 0 ∨ n < 0 ∨ most < 0 ∨ (a > 0 ∧ n > most / a)) := by omega
    exact leaf h hA (by rw [if_neg hno, (times_fits hm hn hno).2.2])

theorem c28 (n : Int) (w : World) : Ret Try.prog 28 #[.int .i64 n] w (.bool (decide (0 ≤ n ∧ n ≤ 9007199254740992))) := by
  intro R h
  refine f28_calls n w R ?_
  unfold f28_vc
  have hA := At.refl w
  refine brD (fun h1 => leaf h hA ?_) (fun h1 => leaf h hA ?_)
  · simp [h1]
  · simp only [ge_iff_le] at h1
    simp [h1]

theorem c29 (a b : Int) (ha : I64 a) (w : World) : Ret Try.prog 29 #[.int .i64 a, .int .i64 b] w (pairV (if b < 0 ∨ b > a then (0, false) else (a - b, true))) := by
  intro R h
  refine f29_calls a b w R ?_
  unfold f29_vc
  have hA := At.refl w
  refine brD (fun h1 => leaf h hA (by rw [if_pos (.inl h1)])) (fun h1 => ?_)
  refine brD (fun h2 => leaf h hA (by rw [if_pos (.inr h2)])) (fun h2 => ?_)
  exact leaf h hA (by rw [if_neg (by omega), wrap_i64 (by omega) (by omega)])

theorem c21 (a b most : Int) (ha : I64 a) (hb : I64 b) (hm : I64 most) (w : World) : Ret Try.prog 21 #[.int .i64 a, .int .i64 b, .int .i64 most] w (pairV (qsum most [a, b])) := by
  intro R h
  refine f21_calls a b most w R ?_
  unfold f21_vc
  have hA := At.refl w
  refine opw_lit hA (e' := 2) (cs := [a, b].flatMap one) (by kernel_rfl) fun w' hA hk hbw hc hh => ⟨_, _, _, rfl, ?_⟩
  have ho : OwnL w [] w' 2 1 one (.slice (some ⟨w.heap.size, 0, none⟩) 2 2) [a, b] :=
    ⟨⟨rfl, .inr ⟨_, 2, _, rfl, Nat.le_refl _, hh, Nat.le_refl _, by decide, rfl, rfl⟩⟩, fun _ h => by cases h⟩
  refine at_call hA (c19 (l := [a, b]) _ hm (ho.sl (by simp)) (by simp; exact ⟨ha, hb⟩)) (fun _ hA hk => ⟨_, _, rfl, ?_⟩)
  exact leaf h hA rfl
end Go.Vc.Q
