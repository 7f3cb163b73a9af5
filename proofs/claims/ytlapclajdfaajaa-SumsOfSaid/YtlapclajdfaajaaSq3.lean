/- Own text of this claim: Sq3. -/
import Derived.Test.YtlapclajdfaajaaSq2
set_option maxRecDepth 20000
namespace Go.Vc.BQ
open Go Go.Vc Go.RowKit Go.Proofs Vcb

theorem strOfNums_append (a b : List Int) : strOfNums a ++ strOfNums b = strOfNums (a ++ b) := by
  show (⟨_⟩ : ByteArray) ++ ⟨_⟩ = ⟨_⟩
  rw [ByteArray.mk_append_mk, List.map_append]

theorem decL_short : ∀ (k : Nat) (n : Int), 0 ≤ n → n < 10 ^ (k + 1) → (decL n 1).length ≤ k + 1
  | 0, n, h0, h => by
    rw [decL, if_neg (by omega)]
    simp
  | k + 1, n, h0, h => by
    rw [decL]
    split
    · rw [decL_one _ (1 - 1) (by omega), List.length_append, List.length_singleton]
      have e : (10 : Int) ^ (k + 1 + 1) = 10 ^ (k + 1) * 10 := Int.pow_succ ..
      have := decL_short k (n / 10) (by omega) (by rw [e] at h; omega)
      omega
    · simp

/-- Digits by the reference: put in front, one by one. -/
theorem digit1 {d : Int} (h : 0 ≤ d ∧ d < 10) : decL d 1 = [48 + d] := by
  rw [decL, if_neg (by omega), Int.emod_eq_of_lt h.1 h.2]
theorem decL3 {r : Int} (h : 0 ≤ r ∧ r < 1000) : decL r 3 = [48 + r / 100, 48 + r / 10 % 10, 48 + r % 10] := by
  rw [decL, if_pos (.inr (by omega)), decL, if_pos (.inr (by omega)), decL, if_neg (by omega)]
  have e1 : r / 10 / 10 % 10 = r / 100 := by omega
  rw [e1]
  rfl

/-- What is behind the point. -/
def frac3 (r : Int) : List Int := if r % 10 = 0 then (if r / 10 % 10 = 0 then [48 + r / 100] else [48 + r / 100, 48 + r / 10 % 10]) else [48 + r / 100, 48 + r / 10 % 10, 48 + r % 10]
theorem strip3 (l : List Int) {r : Int} (h : 0 < r ∧ r < 1000) : strip (l ++ decL r 3) = l ++ frac3 r := by
  rw [decL3 (by omega), frac3]
  have e3 : l ++ [48 + r / 100, 48 + r / 10 % 10, 48 + r % 10] = (l ++ [48 + r / 100, 48 + r / 10 % 10]) ++ [48 + r % 10] := by simp
  have e2 : l ++ [48 + r / 100, 48 + r / 10 % 10] = (l ++ [48 + r / 100]) ++ [48 + r / 10 % 10] := by simp
  rw [e3]
  by_cases h1 : r % 10 = 0
  · rw [if_pos h1, h1, show (48 : Int) + 0 = 48 from rfl, strip_snoc, e2]
    by_cases h2 : r / 10 % 10 = 0
    · rw [if_pos h2, h2, show (48 : Int) + 0 = 48 from rfl, strip_snoc, strip_keep _ (by omega)]
    · rw [if_neg h2, strip_keep _ (by omega)]
      simp
  · rw [if_neg h1, strip_keep _ (by omega)]
    simp

end Go.Vc.BQ
