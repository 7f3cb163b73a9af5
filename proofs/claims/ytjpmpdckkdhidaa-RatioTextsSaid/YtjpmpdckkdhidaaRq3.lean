/- Own text of this claim: Rq3. -/
import Derived.Test.YtjpmpdckkdhidaaRq2
set_option maxRecDepth 20000
namespace Go.Vc.Q
open Go Go.Vc Go.RowKit Go.Proofs Vca

theorem strOfNums_append (a b : List Int) : strOfNums a ++ strOfNums b = strOfNums (a ++ b) := by
  show (⟨_⟩ : ByteArray) ++ ⟨_⟩ = ⟨_⟩
  rw [ByteArray.mk_append_mk, List.map_append]

theorem decL_short : ∀ (k : Nat) (n : Int), 0 ≤ n → n < 10 ^ (k + 1) → (decL n 1).length ≤ k + 1
  | 0, n, h0, h => by
    rw [decL, if_neg (by omega)]
    simp
  | k + 1, n, h0, h => by
    rw [decL]
    split
    · rw [decL_one _ (1 - 1) (by omega), List.length_append, List.length_singleton]
      have e : (10 : Int) ^ (k + 1 + 1) = 10 ^ (k + 1) * 10 := Int.pow_succ ..
      have := decL_short k (n / 10) (by omega) (by rw [e] at h; omega)
      omega
    · simp

/-- Digits by the reference: put in front, one by one. -/
theorem c39 (n : Int) (w : World) (hn : 0 ≤ n ∧ n ≤ 9223372036854775807) : Ret Try.prog 39 #[.int .i64 n] w (.string (strOfNums (decL n 1))) := by
  intro R h
  refine f39_calls n w R ?_
  unfold f39_vc
  have hA := At.refl w
  have hlen := decL_short 18 n hn.1 (by omega)
  refine ⟨fun s W => At w [] W ∧ ∃ t : List Int, s.2.1 = strOfNums t ∧ (0 ≤ s.1 ∧ s.1 ≤ n) ∧ (if s.2.2.1 = true then decL s.1 1 ++ t = decL n 1 else t = decL n 1), fun s _ => if s.2.2.1 = true then s.1.toNat + 1 else 0, ⟨hA, [], rfl, by show 0 ≤ n ∧ n ≤ n; omega, by simp⟩, ?_⟩
  intro x s b W ⟨hA, t, hs, hx, ht⟩
  simp only at hs hx ht
  subst hs
  refine brB (fun hb => ?_) (fun hb => ?_)
  · rw [if_pos hb] at ht
    rw [u8_digit hx.1, Int.tdiv_eq_ediv_of_nonneg hx.1, wrap_i64 (by omega) (by omega)]
    refine opw_lit hA (e' := 5) (cs := u8e (48 + x % 10)) (by kernel_rfl) fun w' hA hk hbw hc hh => ⟨_, _, _, rfl, ?_⟩
    have ho : OwnL w [] w' 5 1 u8e (.slice (some ⟨W.heap.size, 0, none⟩) 1 1) [48 + x % 10] :=
      ⟨⟨rfl, .inr ⟨_, 1, _, rfl, (by assumption : At w [] W).size, hh, Nat.le_refl _, by decide, rfl, rfl⟩⟩, fun _ h => by cases h⟩
    refine opw_b2s (e := 5) (by kernel_rfl) (by kernel_rfl) (by kernel_rfl) (ho.sl (by simp)) ⟨_, rfl, ?_⟩
    have hsz : (strOfNums [48 + x % 10]).size + (strOfNums t).size ≤ 9223372036854775807 := by
      rw [strOfNums_size, strOfNums_size]
      have := congrArg List.length ht
      rw [List.length_append] at this
      simp
      omega
    refine ⟨_, gives_sadd hsz, ?_⟩
    rw [strOfNums_append]
    have hst : (if 0 < x / 10 then decL (x / 10) 1 ++ ([48 + x % 10] ++ t) = decL n 1 else [48 + x % 10] ++ t = decL n 1) := by
      rw [decL] at ht
      by_cases h10 : 10 ≤ x
      · rw [if_pos (.inl h10), decL_one _ (1 - 1) (by omega)] at ht
        rw [if_pos (by omega), ← ht, List.append_assoc]
      · rw [if_neg (by omega)] at ht
        rw [if_neg (by omega), ← ht]
    refine ⟨⟨hA, _, rfl, by show 0 ≤ x / 10 ∧ x / 10 ≤ n; omega, ?_⟩, ?_⟩
    · simp only [decide_eq_true_eq]
      exact hst
    · simp only [decide_eq_true_eq, hb, if_true]
      split <;> omega
  · rw [if_neg (by simp [hb])] at ht
    subst ht
    exact leaf h hA rfl

theorem digit1 {d : Int} (h : 0 ≤ d ∧ d < 10) : decL d 1 = [48 + d] := by
  rw [decL, if_neg (by omega), Int.emod_eq_of_lt h.1 h.2]
theorem decL3 {r : Int} (h : 0 ≤ r ∧ r < 1000) : decL r 3 = [48 + r / 100, 48 + r / 10 % 10, 48 + r % 10] := by
  rw [decL, if_pos (.inr (by omega)), decL, if_pos (.inr (by omega)), decL, if_neg (by omega)]
  have e1 : r / 10 / 10 % 10 = r / 100 := by omega
  rw [e1]
  rfl

/-- What is behind the point. -/
def frac3 (r : Int) : List Int := if r % 10 = 0 then (if r / 10 % 10 = 0 then [48 + r / 100] else [48 + r / 100, 48 + r / 10 % 10]) else [48 + r / 100, 48 + r / 10 % 10, 48 + r % 10]
theorem strip3 (l : List Int) {r : Int} (h : 0 < r ∧ r < 1000) : strip (l ++ decL r 3) = l ++ frac3 r := by
  rw [decL3 (by omega), frac3]
  have e3 : l ++ [48 + r / 100, 48 + r / 10 % 10, 48 + r % 10] = (l ++ [48 + r / 100, 48 + r / 10 % 10]) ++ [48 + r % 10] := by simp
  have e2 : l ++ [48 + r / 100, 48 + r / 10 % 10] = (l ++ [48 + r / 100]) ++ [48 + r / 10 % 10] := by simp
  rw [e3]
  by_cases h1 : r % 10 = 0
  · rw [if_pos h1, h1, show (48 : Int) + 0 = 48 from rfl, strip_snoc, e2]
    by_cases h2 : r / 10 % 10 = 0
    · rw [if_pos h2, h2, show (48 : Int) + 0 = 48 from rfl, strip_snoc, strip_keep _ (by omega)]
    · rw [if_neg h2, strip_keep _ (by omega)]
      simp
  · rw [if_neg h1, strip_keep _ (by omega)]
    simp

theorem c26 (n : Int) (w : World) (hn : I64 n) : Ret Try.prog 26 #[.int .i64 n] w (.string (strOfNums (txtL n))) := by
  intro R h
  refine f26_calls n w R ?_
  unfold f26_vc
  have hA := At.refl w
  refine brD (fun h1 => leaf h hA (by rw [txtL, if_neg (by omega)]; rfl)) (fun h1 => ?_)
  refine brD (fun h2 => leaf h hA (by rw [txtL, if_neg (by omega)]; rfl)) (fun h2 => ?_)
  rw [txtL, if_pos (by omega)] at h
  rw [Int.tdiv_eq_ediv_of_nonneg (by omega), Int.tmod_eq_emod_of_nonneg (by omega), wrap_i64 (by omega) (by omega)]
  refine at_call hA (c39 _ _ (by omega)) (fun _ hA hk => ⟨_, rfl, ?_⟩)
  have hlen := decL_len (n / 1000) 1
  refine brE (fun h0 => ?_) (fun h0 => ?_)
  · rw [if_pos h0] at h
    exact leaf h hA rfl
  · rw [if_neg h0] at h
    have hdot : (ByteArray.mk #[46]) = strOfNums [46] := rfl
    rw [hdot]
    refine ⟨_, gives_sadd (by rw [strOfNums_size, strOfNums_size]; simp; omega), ?_⟩
    rw [strOfNums_append]
    generalize hp : decL (n / 1000) 1 ++ [46] = p at *
    have hpl : p.length ≤ 70368744177000 := by rw [← hp]; simp; omega
    have hr : 0 < n % 1000 ∧ n % 1000 < 1000 := by omega
    rw [strip3 _ hr] at h
    generalize n % 1000 = r at *
    -- after i rounds: what is left, and what has been put behind the point
    refine ⟨fun s W => At w [] W ∧ ∃ t : List Int, s.1 = strOfNums (p ++ t) ∧ ((s.2.1 = r ∧ s.2.2.1 = 100 ∧ t = []) ∨ (s.2.1 = r % 100 ∧ s.2.2.1 = 10 ∧ t = [48 + r / 100]) ∨ (s.2.1 = r % 10 ∧ s.2.2.1 = 1 ∧ t = [48 + r / 100, 48 + r / 10 % 10] ∧ r % 100 ≠ 0) ∨ (s.2.1 = 0 ∧ s.2.2.1 = 0 ∧ t = [48 + r / 100, 48 + r / 10 % 10, 48 + r % 10] ∧ r % 10 ≠ 0)), fun s _ => s.2.2.1.toNat, ⟨hA, [], by simp, .inl ⟨rfl, rfl, rfl⟩⟩, ?_⟩
    intro s x k W ⟨hA, t, hs, hst⟩
    simp only at hs hst
    subst hs
    have round : ∀ {x k : Int} {t : List Int}, 0 < x → 0 < k → k ≤ 100 → x / k < 10 → x < 1000 → t.length ≤ 3 → ∀ {w0 : World}, At w [] w0 → (∀ w', At w [] w' → (At w [] w' ∧ ∃ t' : List Int, strOfNums (p ++ (t ++ [48 + x / k])) = strOfNums (p ++ t') ∧ ((x % k = r ∧ k / 10 = 100 ∧ t' = []) ∨ (x % k = r % 100 ∧ k / 10 = 10 ∧ t' = [48 + r / 100]) ∨ (x % k = r % 10 ∧ k / 10 = 1 ∧ t' = [48 + r / 100, 48 + r / 10 % 10] ∧ r % 100 ≠ 0) ∨ (x % k = 0 ∧ k / 10 = 0 ∧ t' = [48 + r / 100, 48 + r / 10 % 10, 48 + r % 10] ∧ r % 10 ≠ 0)))) →
        ∃ x11, Gives Try.prog (binOpS BinOp.quo 2 (Operand.tmp 27) (Operand.tmp 28) (.int .i64 x) (.int .i64 k)) (.int .i64 x11) ∧ Calls Try.prog 39 #[.int .i64 x11] w0 fun e w13 => ∃ s14, e = .returned (.string s14) ∧ ∃ s15, Gives Try.prog (binOpS BinOp.add 9 (Operand.tmp 26) (Operand.tmp 30) (.string (strOfNums (p ++ t))) (.string s14)) (.string s15) ∧ ∃ x16, Gives Try.prog (binOpS BinOp.rem 2 (Operand.tmp 32) (Operand.tmp 33) (.int .i64 x) (.int .i64 k)) (.int .i64 x16) ∧
          (At w [] w13 ∧ ∃ t' : List Int, s15 = strOfNums (p ++ t') ∧ ((x16 = r ∧ IntKind.i64.wrap (k.tdiv 10) = 100 ∧ t' = []) ∨ (x16 = r % 100 ∧ IntKind.i64.wrap (k.tdiv 10) = 10 ∧ t' = [48 + r / 100]) ∨ (x16 = r % 10 ∧ IntKind.i64.wrap (k.tdiv 10) = 1 ∧ t' = [48 + r / 100, 48 + r / 10 % 10] ∧ r % 100 ≠ 0) ∨ (x16 = 0 ∧ IntKind.i64.wrap (k.tdiv 10) = 0 ∧ t' = [48 + r / 100, 48 + r / 10 % 10, 48 + r % 10] ∧ r % 10 ≠ 0))) ∧ (IntKind.i64.wrap (k.tdiv 10)).toNat < k.toNat := by
      intro x k t hx hk hk2 hd hx2 ht w0 hA hfin
      have l0 : 0 ≤ x / k := Int.ediv_nonneg (by omega) (by omega)
      refine ⟨_, gives_quo (by omega), ?_⟩
      rw [Int.tdiv_eq_ediv_of_nonneg (by omega), wrap_i64 (by omega) (by omega)]
      refine at_call hA (c39 _ _ (by omega)) (fun w13 hA _ => ⟨_, rfl, _, gives_sadd (by rw [strOfNums_size, strOfNums_size, digit1 ⟨l0, hd⟩]; simp; omega), _, gives_rem (by omega), ?_⟩)
      rw [digit1 ⟨l0, hd⟩, strOfNums_append, List.append_assoc, Int.tmod_eq_emod_of_nonneg (by omega), Int.tdiv_eq_ediv_of_nonneg (by omega), wrap_i64 (x := k / 10) (by omega) (by omega)]
      exact ⟨hfin w13 hA, by omega⟩
    refine brD (fun hpos => ?_) (fun hneg => ?_)
    · rcases hst with ⟨rfl, rfl, rfl⟩ | ⟨rfl, rfl, rfl⟩ | ⟨rfl, rfl, rfl, hne⟩ | ⟨rfl, rfl, rfl, hne⟩
      · refine round hpos (by omega) (by omega) (by omega) (by omega) (by simp) hA fun w' hA => ⟨hA, _, rfl, .inr (.inl ⟨rfl, rfl, rfl⟩)⟩
      · refine round hpos (by omega) (by omega) (by omega) (by omega) (by simp) hA fun w' hA => ⟨hA, _, rfl, .inr (.inr (.inl ⟨by omega, rfl, ?_, by omega⟩))⟩
        rw [show r % 100 / 10 = r / 10 % 10 by omega]
        rfl
      · refine round hpos (by omega) (by omega) (by omega) (by omega) (by simp) hA fun w' hA => ⟨hA, _, rfl, .inr (.inr (.inr ⟨by omega, rfl, ?_, by omega⟩))⟩
        rw [show r % 10 / 1 = r % 10 by omega]
        rfl
      · omega
    · refine leaf h hA ?_
      rcases hst with ⟨rfl, rfl, rfl⟩ | ⟨rfl, rfl, rfl⟩ | ⟨rfl, rfl, rfl, hne⟩ | ⟨rfl, rfl, rfl, hne⟩
      · omega
      · rw [frac3, if_pos (by omega), if_pos (by omega)]
      · rw [frac3, if_pos (by omega), if_neg (by omega)]
      · rw [frac3, if_neg hne]
end Go.Vc.Q
