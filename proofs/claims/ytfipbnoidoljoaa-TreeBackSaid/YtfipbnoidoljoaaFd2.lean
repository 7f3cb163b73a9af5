/- Own text of this claim: Fd2. -/
import Derived.Test.YtfipbnoidoljoaaVcFn
import Derived.Test.YtfipbnoidoljoaaProg
set_option maxRecDepth 20000
namespace Vcd1
open Go Go.Vc
/-! tree.New[int], of a function that is not nil -/
def h10 : Hints := ⟨[], [4], [4], [], [], [], [], [], []⟩
def f10_vc (fn : Fn) (a b : Array Value) (w : World) (R : Ending → World → Prop) : Prop :=
 ∃ (b1 : Bool),
 Gives Proofs.Try.prog (binOpS BinOp.eql 26 (Operand.tmp 3) (Operand.const Value.nilFunc) (Value.func fn a b) Value.nilFunc) (Value.bool b1) ∧
 (b1 = true → R (Ending.returned (Value.pointer none)) w) ∧
 (b1 = false →
 OpW Proofs.Try.prog (valueS (Instr.box 45 (Value.agg #[Value.func fn a b, Value.pointer none]))) w fun (v2 : Value) (w3 : World) =>
 ∃ (ad4 : Addr), v2 = Value.pointer (some ad4) ∧ R (Ending.returned (Value.pointer (some ad4))) w3)
theorem f10_eq (fn : Fn) (a b : Array Value) (w : World) (R : Ending → World → Prop) : (fnF Go.Proofs.Try.prog h10 Go.Proofs.Try.f10 [Value.func fn a b] w R).den = f10_vc fn a b w R := by kernel_rfl
theorem f10_calls (fn : Fn) (a b : Array Value) (w : World) (R : Ending → World → Prop) (h : f10_vc fn a b w R) : Calls Go.Proofs.Try.prog 10 (List.toArray [Value.func fn a b]) w R :=
 fn_sound (H := h10) (fn := Go.Proofs.Try.f10) (by kernel_rfl) (by kernel_rfl) (by kernel_rfl) ((f10_eq fn a b w R).mpr h)
end Vcd1
