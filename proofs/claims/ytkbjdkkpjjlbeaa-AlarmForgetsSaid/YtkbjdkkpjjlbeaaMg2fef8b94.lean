/- Own texts of this claim, laid together: AlArg. -/
import Derived.Test.YtkbjdkkpjjlbeaaMg633e9ea8

/- Own text of this claim: AlArg. -/
namespace Go.Vc.A
open Go Go.Vc Go.RowKit
abbrev kyG : GT := .st (.pair (.int .i64) (.pair (.int .i64) (.pair (.int .i64) .unit)))
abbrev KyA := Int × Int × Int × Unit
abbrev acG : GT := .st (.pair (.int .i64) (.pair kyG (.pair (.int .i64) .unit)))
abbrev AcA := Int × KyA × Int × Unit
def kyOf (x : KyA) : Ky := (x.1, x.2.1, x.2.2.1)
def acOf (x : AcA) : Ac := (x.1, kyOf x.2.1, x.2.2.1)
theorem ky_R {w : World} {x : KyA} {cs : List Value} (h : kyG.R w x cs) : cs = kyE (kyOf x) := by
  obtain ⟨c1, c2, rfl, ⟨rfl, _, _⟩, c3, c4, rfl, ⟨rfl, _, _⟩, c5, c6, rfl, ⟨rfl, _, _⟩, rfl⟩ := h
  rfl
theorem ac_R {w : World} {x : AcA} {cs : List Value} (h : acG.R w x cs) : cs = acE (acOf x) := by
  obtain ⟨c1, c2, rfl, ⟨rfl, _, _⟩, c3, c4, rfl, hk, c5, c6, rfl, ⟨rfl, _, _⟩, rfl⟩ := h
  rw [ky_R hk]
  rfl
theorem row_V {α β : Type} {w : World} {n : Nat} {R : α → List Value → Prop} {f : β → List Value} {k : α → β} {l : List α} {a : Option Addr} {len c : Nat} (hs : SlR w n R l a len c) (hR : ∀ x cs, R x cs → cs = f (k x)) : SlE w n f (l.map k) a len c := by
  refine ⟨by rw [List.length_map]; exact hs.1, hs.2.1, hs.2.2.1, hs.2.2.2.1, fun i y hy => ?_⟩
  rw [List.getElem?_map] at hy
  cases hx : l[i]? with
  | none => rw [hx] at hy; cases hy
  | some x =>
    rw [hx] at hy
    simp only [Option.map_some, Option.some.injEq] at hy
    subst hy
    obtain ⟨ad, cs, ha, hl, hcs, hr⟩ := hs.at_ hx
    exact ⟨ad, cs, ha, hl, hcs, hR _ _ hr⟩
theorem kys_V {w : World} {l : List KyA} {v : Value} (h : GT.V w (.sl kyG) l v) : ∃ a n c, v = .slice a n c ∧ SlE w 3 kyE (l.map kyOf) a n c := by
  obtain ⟨a, n, c, hv, hs⟩ := h
  simp at hv
  exact ⟨a, n, c, hv, row_V hs fun _ _ => ky_R⟩
theorem acs_V {w : World} {l : List AcA} {v : Value} (h : GT.V w (.sl acG) l v) : ∃ a n c, v = .slice a n c ∧ SlE w 5 acE (l.map acOf) a n c := by
  obtain ⟨a, n, c, hv, hs⟩ := h
  simp at hv
  exact ⟨a, n, c, hv, row_V hs fun _ _ => ac_R⟩
end Go.Vc.A

