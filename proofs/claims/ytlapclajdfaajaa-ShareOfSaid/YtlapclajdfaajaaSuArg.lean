/- Own text of this claim: SuArg. -/
import Derived.Test.YtlapclajdfaajaaVcArg
import Derived.Test.YtlapclajdfaajaaSu4
namespace Go.Vc.B
open Go Go.Vc Go.RowKit
abbrev arG : GT := .st (.pair (.int .i64) (.pair (.int .i64) (.pair (.int .i64) (.pair (.int .i64) .unit))))
abbrev ArA := Int × Int × Int × Int × Unit
theorem ar_V {w : World} {x : ArA} {v : Value} (h : GT.V w arG x v) : v = arrV x.1 x.2.1 x.2.2.1 x.2.2.2.1 := by
  obtain ⟨cs, rfl, c1, c2, rfl, ⟨rfl, _, _⟩, c3, c4, rfl, ⟨rfl, _, _⟩, c5, c6, rfl, ⟨rfl, _, _⟩, c7, c8, rfl, ⟨rfl, _, _⟩, rfl⟩ := h
  rfl
end Go.Vc.B
