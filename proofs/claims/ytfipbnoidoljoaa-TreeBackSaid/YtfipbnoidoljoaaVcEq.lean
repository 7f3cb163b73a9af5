/- Comparing two values, and dividing: what a formula asks of them. -/
import Derived.Test.YtfipbnoidoljoaaVcGo
namespace Go.Vc
open Go Go.RowKit

section
variable {P : Program}

theorem gives_eql {t : TypeId} {x y : Operand} {a b : Array Value} {r : Bool} (hg : P.eqGuardType P.depth t = false) (h : eqB P 30 t (.agg a) (.agg b) = some r) : Gives P (binOpS .eql t x y (.agg a) (.agg b)) (.bool r) := run_eqlS hg h
theorem gives_neq {t : TypeId} {x y : Operand} {a b : Array Value} {r : Bool} (hg : P.eqGuardType P.depth t = false) (h : eqB P 30 t (.agg a) (.agg b) = some r) : Gives P (binOpS .neq t x y (.agg a) (.agg b)) (.bool (!r)) := run_neqS hg h

/-! ### Division -/
theorem gives_quo {t : TypeId} {x y : Operand} {k : IntKind} {a b : Int} (hb : b ≠ 0) : Gives P (binOpS .quo t x y (.int k a) (.int k b)) (.int k (k.wrap (a.tdiv b))) := by
  intro W
  unfold binOpS
  rw [run_bind_ok (show (eqGuard .quo t x y (.int k a) (.int k b)).run P W = .ok () W from rfl)]
  simp [binOp, Op.intDiv, hb]
theorem gives_rem {t : TypeId} {x y : Operand} {k : IntKind} {a b : Int} (hb : b ≠ 0) : Gives P (binOpS .rem t x y (.int k a) (.int k b)) (.int k (a.tmod b)) := by
  intro W
  unfold binOpS
  rw [run_bind_ok (show (eqGuard .rem t x y (.int k a) (.int k b)).run P W = .ok () W from rfl)]
  simp [binOp, Op.intDiv, hb]
end
end Go.Vc
