/- Own text of this claim: ShArg. -/
import Derived.Test.YtlapclajdfaajaaVcArg
import Derived.Test.YtlapclajdfaajaaSh4
namespace Go.Vc.B
open Go Go.Vc Go.RowKit
abbrev shG : GT := .st (.pair (.st (.pair (.int .i64) (.pair (.int .i64) .unit))) (.pair (.int .i64) .unit))
abbrev ShA := (Int × Int × Unit) × Int × Unit
theorem sh_R {w : World} {x : ShA} {cs : List Value} (h : shG.R w x cs) : cs = [.int .i64 x.1.1, .int .i64 x.1.2.1, .int .i64 x.2.1] ∧ BQ.I64 x.1.1 ∧ BQ.I64 x.1.2.1 ∧ BQ.I64 x.2.1 := by
  obtain ⟨c1, c2, rfl, ⟨c3, c4, rfl, ⟨rfl, h1, h2⟩, c5, c6, rfl, ⟨rfl, h3, h4⟩, rfl⟩, c7, c8, rfl, ⟨rfl, h5, h6⟩, rfl⟩ := h
  exact ⟨rfl, i64_bounds' h1 h2, i64_bounds' h3 h4, i64_bounds' h5 h6⟩
theorem sh_V {w : World} {x : ShA} {v : Value} (h : GT.V w shG x v) : v = shV x.1.1 x.1.2.1 x.2.1 ∧ BQ.I64 x.1.1 ∧ BQ.I64 x.1.2.1 ∧ BQ.I64 x.2.1 := by
  obtain ⟨cs, rfl, hR⟩ := h
  obtain ⟨rfl, h1⟩ := sh_R (w := w) hR
  exact ⟨rfl, h1⟩
theorem shs_V {w : World} {l : List ShA} {v : Value} (h : GT.V w (.sl shG) l v) : ∃ a n c, v = .slice a n c ∧ SlE w 3 shE (l.map fun x => (x.1.1, x.1.2.1, x.2.1)) a n c ∧ ∀ x ∈ l, BQ.I64 x.1.1 ∧ BQ.I64 x.1.2.1 ∧ BQ.I64 x.2.1 := by
  obtain ⟨a, n, c, hv, hs⟩ := h
  simp at hv
  refine ⟨a, n, c, hv, ⟨by rw [List.length_map]; exact hs.1, hs.2.1, hs.2.2.1, hs.2.2.2.1, fun i y hy => ?_⟩, fun x hx => ?_⟩
  · rw [List.getElem?_map] at hy
    cases hx : l[i]? with
    | none => rw [hx] at hy; cases hy
    | some x =>
      rw [hx] at hy
      simp only [Option.map_some, Option.some.injEq] at hy
      subst hy
      obtain ⟨ad, cs, ha, hl, hcs, hr⟩ := hs.at_ hx
      exact ⟨ad, cs, ha, hl, hcs, (sh_R hr).1⟩
  · obtain ⟨cs, hr⟩ := hs.each hx
    exact (sh_R hr).2
end Go.Vc.B
