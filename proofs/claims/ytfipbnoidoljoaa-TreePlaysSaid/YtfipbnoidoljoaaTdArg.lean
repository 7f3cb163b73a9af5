/- Own text of this claim: TdArg. -/
import Derived.Test.YtfipbnoidoljoaaVcArg
import Derived.Test.YtfipbnoidoljoaaTd9
namespace Go.Vc.T
open Go Go.Vc Go.RowKit
abbrev acG : GT := .st (.pair .bool (.pair (.int .i64) .unit))
abbrev AcA := Bool × Int × Unit
theorem ac_R {w : World} {x : AcA} {cs : List Value} (h : acG.R w x cs) : cs = [.bool x.1, .int .i64 x.2.1] := by
  obtain ⟨c1, c2, rfl, rfl, c3, c4, rfl, ⟨rfl, _, _⟩, rfl⟩ := h
  rfl
theorem acs_V {w : World} {l : List AcA} {v : Value} (h : GT.V w (.sl acG) l v) : ∃ a n c, v = .slice a n c ∧ SlE w 2 acE (l.map fun x => (x.1, x.2.1)) a n c := by
  obtain ⟨a, n, c, hv, hs⟩ := h
  simp at hv
  refine ⟨a, n, c, hv, ⟨by rw [List.length_map]; exact hs.1, hs.2.1, hs.2.2.1, hs.2.2.2.1, fun i y hy => ?_⟩⟩
  rw [List.getElem?_map] at hy
  cases hx : l[i]? with
  | none => rw [hx] at hy; cases hy
  | some x =>
    rw [hx] at hy
    simp only [Option.map_some, Option.some.injEq] at hy
    subst hy
    obtain ⟨ad, cs, ha, hl, hcs, hr⟩ := hs.at_ hx
    exact ⟨ad, cs, ha, hl, hcs, ac_R hr⟩
end Go.Vc.T
