/- Arguments of the law, read. -/
import Derived.Test.YtfipbnoidoljoaaVcRow
import Derived.Test.YtfipbnoidoljoaaVcOwn
namespace Go.Vc
open Go Go.RowKit
theorem i64_bounds' {x : Int} (h1 : IntKind.i64.min ≤ x) (h2 : x ≤ IntKind.i64.max) : -9223372036854775808 ≤ x ∧ x ≤ 9223372036854775807 := by
  have e1 : IntKind.i64.min = -9223372036854775808 := by decide
  have e2 : IntKind.i64.max = 9223372036854775807 := by decide
  omega
theorem int_V {w : World} {x : Int} {v : Value} (h : GT.V w (.int .i64) x v) : v = .int .i64 x ∧ (-9223372036854775808 ≤ x ∧ x ≤ 9223372036854775807) := by
  obtain ⟨h, h1, h2⟩ := h
  simp at h
  exact ⟨h, i64_bounds' h1 h2⟩
theorem str_V {w : World} {x : ByteArray} {v : Value} (h : GT.V w .str x v) : v = .string x ∧ x.size ≤ maxLen := by
  obtain ⟨h, h1⟩ := h
  simp at h
  exact ⟨h, h1⟩
theorem ints_V {w : World} {l : List Int} {v : Value} (h : GT.V w (.sl (.int .i64)) l v) : ∃ a n c, v = .slice a n c ∧ SlE w 1 (fun x => [Value.int .i64 x]) l a n c ∧ ∀ x ∈ l, -9223372036854775808 ≤ x ∧ x ≤ 9223372036854775807 := by
  obtain ⟨a, n, c, hv, hs⟩ := h
  simp at hv
  refine ⟨a, n, c, hv, hs.imp fun _ _ h => h.1, fun x hx => ?_⟩
  obtain ⟨cs, hr⟩ := hs.each hx
  exact i64_bounds' hr.2.1 hr.2.2
end Go.Vc
