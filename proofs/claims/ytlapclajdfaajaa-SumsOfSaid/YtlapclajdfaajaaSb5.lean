/- Own text of this claim: Sb5. -/
import Derived.Test.YtlapclajdfaajaaSq3
import Derived.Test.YtlapclajdfaajaaSb4
import Derived.Test.YtlapclajdfaajaaFb1
import Derived.Test.YtlapclajdfaajaaVcArr
set_option maxRecDepth 20000
namespace Go.Vc.BT
open Go Go.Vc Go.RowKit Go.Proofs Vcb Go.Vc.BQ

theorem set_zeros {t : List Int} {m : Nat} {y : Int} : (List.replicate (m + 1) 0 ++ t).set m y = List.replicate m 0 ++ (y :: t) := by
  rw [List.replicate_succ', List.append_assoc, List.set_append_right _ _ (by simp)]
  simp

theorem c43 (n : Int) (w : World) (hn : 0 ≤ n ∧ n ≤ 9223372036854775807) : Ret Try.prog 43 #[.int .i64 n] w (.string (strOfNums (decL n 1))) := by
  intro R h
  refine f43_calls n w R ?_
  unfold f43_vc
  have hA := At.refl w
  have hlen := decL_short 18 n hn.1 (by omega)
  refine opw_allocArr (f := u8e) (n := 20) (size := 1) (z := (0 : Int)) (zv := .agg (Array.replicate 20 (.int .u8 0))) hA (by kernel_rfl) (by kernel_rfl) rfl (by decide) fun w' hA hk ho => ⟨_, rfl, ?_⟩
  generalize w.heap.size = g at ho ⊢
  refine ⟨fun s W => At w [] W ∧ ∃ (m : Nat) (t : List Int), s.2.1 = m ∧ m + t.length = 20 ∧ OwnL w [] W 84 1 u8e (.slice (some ⟨g, 0, none⟩) 20 20) (List.replicate m 0 ++ t) ∧ (0 ≤ s.1 ∧ s.1 ≤ n) ∧ (if s.2.2.1 = true ∨ 0 < s.1 then decL s.1 1 ++ t = decL n 1 else t = decL n 1),
    fun s _ => s.1.toNat + (if s.2.2.1 = true then 1 else 0), ⟨hA, 20, [], rfl, rfl, ho, by show 0 ≤ n ∧ n ≤ n; omega, by simp⟩, ?_⟩
  intro x at_ first W ⟨hA, m, t, hm, hmt, ho, hx, ht⟩
  simp only at hm hx ht
  subst hm
  have step : (first = true ∨ 0 < x) → ∃ a10, Gives Try.prog (Instr.indexAt 84 (.pointer (some ⟨g, 0, none⟩)) (.int .i64 (IntKind.i64.wrap ((m : Int) - 1)))) (.pointer (some a10)) ∧ OpW Try.prog (skipS (Instr.storeAt 5 (.pointer (some a10)) (.int .u8 (IntKind.u8.wrap (IntKind.i64.wrap (48 + x.tmod 10)))))) W fun _ w12 =>
      (At w [] w12 ∧ ∃ (m' : Nat) (t' : List Int), IntKind.i64.wrap ((m : Int) - 1) = m' ∧ m' + t'.length = 20 ∧ OwnL w [] w12 84 1 u8e (.slice (some ⟨g, 0, none⟩) 20 20) (List.replicate m' 0 ++ t') ∧ (0 ≤ IntKind.i64.wrap (x.tdiv 10) ∧ IntKind.i64.wrap (x.tdiv 10) ≤ n) ∧ (if false = true ∨ 0 < IntKind.i64.wrap (x.tdiv 10) then decL (IntKind.i64.wrap (x.tdiv 10)) 1 ++ t' = decL n 1 else t' = decL n 1)) ∧ (IntKind.i64.wrap (x.tdiv 10)).toNat + (if false = true then 1 else 0) < x.toNat + (if first = true then 1 else 0) := by
    intro hc
    rw [if_pos hc] at ht
    have hl := congrArg List.length ht
    rw [List.length_append] at hl
    have hpos : 0 < (decL x 1).length := by rw [decL]; split <;> simp
    obtain ⟨m', rfl⟩ : ∃ m', m = m' + 1 := ⟨m - 1, by omega⟩
    have em : IntKind.i64.wrap (((m' + 1 : Nat) : Int) - 1) = (m' : Int) := by rw [wrap_i64 (by omega) (by omega)]; omega
    rw [em, u8_digit hx.1, Int.tdiv_eq_ediv_of_nonneg hx.1, wrap_i64 (by omega) (by omega)]
    refine ⟨_, gives_index_arr (e := 5) (n := 1) (m := 20) (by kernel_rfl) (by kernel_rfl) (by omega), ?_⟩
    refine opw_store (y := 48 + x % 10) (i := m') hA ho (fun _ _ => rfl) (by simp; omega) rfl rfl rfl (by kernel_rfl) (fun w' hA hk hg ho => ?_) (fun g hg => ?_)
    · rw [set_zeros] at ho
      refine ⟨⟨hA, m', _, rfl, by simp; omega, ho, by omega, ?_⟩, ?_⟩
      · rw [decL] at ht
        by_cases h10 : 10 ≤ x
        · rw [if_pos (.inl h10), decL_one _ (1 - 1) (by omega)] at ht
          rw [if_pos (.inr (by omega)), ← ht]
          simp
        · rw [if_neg (by omega)] at ht
          rw [if_neg (by simp; omega), ← ht]
          rfl
      · simp only [Bool.false_eq_true, if_false]
        rcases hc with hc | hc
        · subst hc
          simp only [if_true]
          omega
        · omega
    · cases hg
      rw [addr_add, Nat.zero_add, Nat.mul_one]
  refine brB (fun hb => step (.inl hb)) (fun hb => brD (fun hp => step (.inr hp)) (fun hz => ?_))
  rw [if_neg (by simp [hb]; omega)] at ht
  subst ht
  have e20 : IntKind.i64.wrap (20 - (m : Int)) = (((decL n 1).length : Nat) : Int) := by rw [wrap_i64 (by omega) (by omega)]; omega
  rw [e20]
  refine opw_make (bytes := 1) (e := 5) (size := 1) (f := u8e) (z := (0 : Int)) (by kernel_rfl) hA ⟨_, _, rfl, rfl, by kernel_rfl⟩ (by omega) (by simp only [maxLen]; omega) fun w2 hA hk ho2 hg => ⟨_, _, _, rfl, ?_⟩
  have hpos : 0 < (decL n 1).length := by rw [decL]; split <;> simp
  refine ⟨_, _, _, gives_slice_arr (e := 5) (n := 1) (m := 20) (i := m) (by kernel_rfl) (by kernel_rfl) (by omega), ?_⟩
  have ho := ho.grown hg (by simp [Value.ownBlock])
  have hsl := (ho.sl (fun _ _ => rfl)).from_ (i := m) rfl (by omega)
  have ed : (List.replicate m (0 : Int) ++ decL n 1).drop m = decL n 1 := by
    have := List.drop_left (l₁ := List.replicate m (0 : Int)) (l₂ := decL n 1)
    rwa [List.length_replicate] at this
  rw [ed] at hsl
  refine opw_copy hA (e := 5) (by kernel_rfl) (by kernel_rfl) ho2 hsl (by simp) fun w3 hA hk hg ho3 => ⟨_, rfl, ?_⟩
  refine opw_b2s (e := 5) (by kernel_rfl) (by kernel_rfl) (by kernel_rfl) (ho3.sl (by simp)) ⟨_, rfl, ?_⟩
  exact leaf h hA rfl
end Go.Vc.BT
