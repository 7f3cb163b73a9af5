/- Own text of this claim: Sq2. -/
import Derived.Test.YtlapclajdfaajaaSq1
set_option maxRecDepth 20000
namespace Go.Vc.BQ
open Go Go.Vc Go.RowKit Go.Proofs Vcb

/-- A number's digits, at least so many. -/
def decL (n least : Int) : List Int := if 10 ≤ n ∨ (1 < least ∧ 0 ≤ n) then decL (n / 10) (least - 1) ++ [48 + n % 10] else [48 + n % 10]
termination_by n.toNat + least.toNat
decreasing_by
  rename_i h
  rcases h with h | h <;> omega

theorem decL_len (n least : Int) : (decL n least).length ≤ n.toNat + least.toNat + 1 := by
  rw [decL]
  split
  · rename_i h
    have := decL_len (n / 10) (least - 1)
    rw [List.length_append, List.length_singleton]
    rcases h with h | h <;> omega
  · simp
termination_by n.toNat + least.toNat
decreasing_by
  rename_i h
  rcases h with h | h <;> omega

theorem decL_byte (n least : Int) (hn : 0 ≤ n) : ∀ x ∈ decL n least, 48 ≤ x ∧ x ≤ 57 := by
  rw [decL]
  split
  · rename_i h
    intro x hx
    rcases List.mem_append.1 hx with hx | hx
    · exact decL_byte (n / 10) (least - 1) (by omega) x hx
    · simp at hx
      omega
  · intro x hx
    simp at hx
    omega
termination_by n.toNat + least.toNat
decreasing_by
  all_goals omega

theorem decL_one (n least : Int) (h : least ≤ 1) : decL n least = decL n 1 := by
  rw [decL, decL.eq_def n 1]
  by_cases hn : 10 ≤ n
  · rw [if_pos (.inl hn), if_pos (.inl hn), decL_one (n / 10) (least - 1) (by omega), decL_one (n / 10) (1 - 1) (by omega)]
  · rw [if_neg (by omega), if_neg (by omega)]
termination_by n.toNat
decreasing_by
  all_goals omega

theorem u8_digit {x : Int} (h : 0 ≤ x) : IntKind.u8.wrap (IntKind.i64.wrap (48 + x.tmod 10)) = 48 + x % 10 := by
  rw [Int.tmod_eq_emod_of_nonneg h, wrap_i64 (by omega) (by omega), wrap_u8]
  omega

/-! ### Text -/
def strip (l : List Int) : List Int := (l.reverse.dropWhile (· == 48)).reverse
def txtL (n : Int) : List Int := if 0 ≤ n ∧ n ≤ 9007199254740992 then (if n % 1000 = 0 then decL (n / 1000) 1 else strip (decL (n / 1000) 1 ++ [46] ++ decL (n % 1000) 3)) else []

theorem strip_snoc (l : List Int) : strip (l ++ [48]) = strip l := by simp [strip]
theorem strip_keep (l : List Int) {x : Int} (h : x ≠ 48) : strip (l ++ [x]) = l ++ [x] := by
  simp [strip, h]

end Go.Vc.BQ
