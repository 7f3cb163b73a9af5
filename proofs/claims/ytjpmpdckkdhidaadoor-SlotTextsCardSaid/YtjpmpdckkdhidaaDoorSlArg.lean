/- Own text of this claim: SlArg. -/
import Derived.Test.YtjpmpdckkdhidaaDoorSl3
import Derived.Test.YtjpmpdckkdhidaaDoorVcRow
import Derived.Test.YtjpmpdckkdhidaaDoorVcArg
import Derived.ProofKit
import Derived.OpenShut
import Derived.LaidMore
import Derived.Test.YtjpmpdckkdhidaaDoorRows
namespace Go.Vc.D
open Go Go.Vc Go.RowKit Go.Proofs Go.Proofs.YtjpmpdckkdhidaaDoor

abbrev laidD : List (String × DataW Unit) := [("manciple/slot.table", Rows.laid_manciple_slot_table)]
theorem gTab : Tryd.prog.globalNamed "manciple/slot.table" = some 0 := by kernel_rfl
theorem tTab : (Tryd.prog.globals[0]?).map (·.type) = some 46 := by kernel_rfl
theorem u46 : Tryd.prog.underlying 46 = some (.array 4 9) := by kernel_rfl
theorem u9 : Tryd.prog.underlying 9 = some .string := by kernel_rfl
theorem ba_of {s t : ByteArray} (h : s.data.toList = t.data.toList) : s = t := by
  cases s; cases t
  simp only at h
  congr 1
  exact Array.ext' h
theorem tab_of {W : World} (h : laidMetH Tryd.prog laidD W) : Tab W := by
  rw [MakeChecks.laidMetH_plain _ _ _ (by kernel_rfl)] at h
  obtain ⟨ps, ⟨g0, t0, cs0, f0, p0, q0, hg0, ht0, hv0, hd0, _, _⟩, _, _⟩ := h
  obtain rfl := Option.some.inj (gTab.symm.trans hg0)
  obtain rfl := Option.some.inj (tTab.symm.trans ht0)
  obtain ⟨xs, m, rfl, hx, hlen, hn, hel⟩ := DataW.trod_array u46 hd0
  have c9 : Tryd.prog.cellsOf 9 = 1 := by kernel_rfl
  have c46 : Tryd.prog.cellsOf 46 = 4 := by kernel_rfl
  rw [c46] at hlen
  have hel' : ∀ i, i < 4 → ∃ s : ByteArray, cs0[i]? = some (.string s) ∧ (xs.map (·.1))[i]? = some (.lit (.string s.data.toList)) := by
    intro i hi
    have := hel i hi
    rw [c9, Nat.mul_one] at this
    have hxi : xs[i]? = some xs[i] := List.getElem?_eq_getElem (by omega)
    rw [hxi] at this
    obtain ⟨s, e1, e2, _⟩ := DataW.trod_string u9 this
    refine ⟨s, ?_, by rw [List.getElem?_map, hxi, e2]; rfl⟩
    have h2 := congrArg (·[0]?) e1
    simp only [List.getElem?_take, List.getElem?_drop] at h2
    simpa using h2
  have hx' : xs.map (·.1) = [.lit (.string [99, 112, 117, 115]), .lit (.string [109, 101, 109]), .lit (.string [100, 105, 115, 107]), .lit (.string [103, 112, 117, 115])] := by
    have := (Prod.mk.inj hx).1
    simp only [Rows.laid_manciple_slot_table, DataW.agg.injEq] at this
    exact this.symm
  intro j v hv
  have hj : j < 4 := (List.getElem?_eq_some_iff.1 hv).1
  obtain ⟨s, hs, hd⟩ := hel' j hj
  have hcell := World.var?_cell hg0 hv0 j
  rw [addr_add]
  simp only [Nat.zero_add]
  rw [show W.cell? ⟨0, j, none⟩ = some (.string s) by rw [hcell]; exact hs]
  rw [hx'] at hd
  have hc : j = 0 ∨ j = 1 ∨ j = 2 ∨ j = 3 := by omega
  rcases hc with rfl | rfl | rfl | rfl
  all_goals
    simp only [List.getElem?_cons_zero, List.getElem?_cons_succ, Option.some.injEq, DataW.lit.injEq, Lit.string.injEq] at hd
    rw [← hv]
    congr 2
    exact ba_of (by rw [← hd]; rfl)

abbrev slG : GT := .st (.pair (.int .i64) (.pair (.int .i64) .unit))
abbrev SlA := Int × Int × Unit
theorem sl_V {w : World} {x : SlA} {v : Value} (h : GT.V w slG x v) : v = slotV x.1 x.2.1 := by
  obtain ⟨cs, rfl, c1, c2, rfl, ⟨rfl, _, _⟩, c3, c4, rfl, ⟨rfl, _, _⟩, rfl⟩ := h
  rfl
theorem u16_bounds' {x : Int} (h1 : IntKind.u16.min ≤ x) (h2 : x ≤ IntKind.u16.max) : 0 ≤ x ∧ x < 65536 := by
  have e1 : IntKind.u16.min = 0 := by decide
  have e2 : IntKind.u16.max = 65535 := by decide
  omega
theorem u16_V {w : World} {x : Int} {v : Value} (h : GT.V w (.int .u16) x v) : v = .int .u16 x ∧ 0 ≤ x ∧ x < 65536 := by
  obtain ⟨h, h1, h2⟩ := h
  simp at h
  exact ⟨h, u16_bounds' h1 h2⟩
end Go.Vc.D
