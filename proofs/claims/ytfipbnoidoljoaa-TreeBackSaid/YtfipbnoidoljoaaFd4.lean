/- The formulas of functions, printed by a program (VcTool.lean): each is what the generator's formula comes to, by the kernel's reckoning; whoever proves one has the function's contract. -/
import Derived.Test.YtfipbnoidoljoaaVcFn
import Derived.Test.YtfipbnoidoljoaaProg
set_option maxRecDepth 100000
set_option maxHeartbeats 1000000
set_option linter.unusedVariables false
namespace Vcd2
open Go Go.Vc Go.RowKit
/-! manciple/manciplelaw08.TreeBack -/
def h4 : Hints := ⟨[], [26, 40, 44], [15, 20, 34, 46, 67, 50, 56, 61, 77, 82, 87, 91, 96, 100, 104], [(12, [0, 1, 2, 3, 4, 5, 6, 7, 8, 9])], [], [(5, ⟨[(6, .int .i64)], []⟩), (10, ⟨[(8, .int .i64)], []⟩)], [(13, ⟨[(46, .bool)], []⟩), (15, ⟨[(67, .bool)], []⟩)], [], []⟩
def f4_vc (la : Option Addr) (ln : Nat) (lc : Nat) (k : Int) (w : World) (R : Ending → World → Prop) : Prop :=
 (decide ((↑ln : Int) > 120) = true → R (Ending.returned (Value.bool true)) w) ∧
 (decide ((↑ln : Int) > 120) = false →
 Calls Proofs.Try.prog 10 #[Value.func (Fn.func 26) #[] #[]] w fun (e1 : Ending) (w2 : World) =>
 ∃ (a3 : Option Addr),
 e1 = Ending.returned (Value.pointer a3) ∧
 ∃ (J4 : Int × Unit → World → Prop),
 ∃ (J5 : Int × Unit → World → Nat),
 J4 (0, ()) w2 ∧
 ∀ (x6 : Int) (w7 : World),
 J4 (x6, ()) w7 →
 (decide (x6 < (↑ln : Int)) = true →
 ∃ (ad8 : Addr),
 Gives Proofs.Try.prog (Instr.indexAt 27 (Value.slice la ln lc) (Value.int IntKind.i64 x6)) (Value.pointer (some ad8)) ∧
 ∃ (x9 : Int),
 Reads Proofs.Try.prog [] (Instr.loadAt 3 (Value.pointer (some ad8))) w7 (Value.int IntKind.i64 x9) ∧
 Calls Proofs.Try.prog 17 #[Value.pointer a3, Value.int IntKind.i64 x9] w7 fun (e10 : Ending) (w11 : World) =>
 ∃ (b12 : Bool), e10 = Ending.returned (Value.bool b12) ∧ J4 (IntKind.i64.wrap (x6 + 1), ()) w11 ∧ J5 (IntKind.i64.wrap (x6 + 1), ()) w11 < J5 (x6, ()) w7) ∧
 (decide (x6 < (↑ln : Int)) = false →
 Calls Proofs.Try.prog 24 #[Value.pointer a3] w7 fun (e13 : Ending) (w14 : World) =>
 ∃ (a15 : Option Addr),
 ∃ (n16 : Nat),
 ∃ (n17 : Nat),
 e13 = Ending.returned (Value.slice a15 n16 n17) ∧
 ∃ (J18 : Int × Unit → World → Prop),
 ∃ (J19 : Int × Unit → World → Nat),
 J18 (1, ()) w14 ∧
 ∀ (x20 : Int) (w21 : World),
 J18 (x20, ()) w21 →
 (decide (x20 < (↑n16 : Int)) = true →
 ∃ (J22 : Bool × Unit → World → Prop),
 (∃ (ad23 : Addr),
 Gives Proofs.Try.prog (Instr.indexAt 27 (Value.slice a15 n16 n17) (Value.int IntKind.i64 (IntKind.i64.wrap (x20 - 1)))) (Value.pointer (some ad23)) ∧
 ∃ (x24 : Int),
 Reads Proofs.Try.prog [] (Instr.loadAt 3 (Value.pointer (some ad23))) w21 (Value.int IntKind.i64 x24) ∧
 ∃ (ad25 : Addr),
 Gives Proofs.Try.prog (Instr.indexAt 27 (Value.slice a15 n16 n17) (Value.int IntKind.i64 x20)) (Value.pointer (some ad25)) ∧
 ∃ (x26 : Int),
 Reads Proofs.Try.prog [] (Instr.loadAt 3 (Value.pointer (some ad25))) w21 (Value.int IntKind.i64 x26) ∧ ∀ (w27 : World), Bel w21 w27 → J22 (decide (x24 ≥ x26), ()) w27) ∧
 ∀ (b28 : Bool) (w29 : World),
 J22 (b28, ()) w29 →
 (b28 = true → R (Ending.returned (Value.bool false)) w29) ∧ (b28 = false → J18 (IntKind.i64.wrap (x20 + 1), ()) w29 ∧ J19 (IntKind.i64.wrap (x20 + 1), ()) w29 < J19 (x20, ()) w21)) ∧
 (decide (x20 < (↑n16 : Int)) = false →
 ∃ (J30 : Bool × Unit → World → Prop),
 (Calls Proofs.Try.prog 17 #[Value.pointer a3, Value.int IntKind.i64 k] w21 fun (e31 : Ending) (w32 : World) =>
 ∃ (b33 : Bool),
 e31 = Ending.returned (Value.bool b33) ∧
 (b33 = true →
 Calls Proofs.Try.prog 15 #[Value.pointer a3, Value.int IntKind.i64 k] w32 fun (e34 : Ending) (w35 : World) =>
 ∃ (b36 : Bool),
 e34 = Ending.returned (Value.bool b36) ∧
 ((!b36) = true → J30 (true, ()) w35) ∧
 ((!b36) = false →
 Calls Proofs.Try.prog 14 #[Value.pointer a3, Value.int IntKind.i64 k] w35 fun (e37 : Ending) (w38 : World) =>
 ∃ (b39 : Bool),
 e37 = Ending.returned (Value.bool b39) ∧
 ((!b39) = true →
 Calls Proofs.Try.prog 20 #[Value.pointer a3, Value.int IntKind.i64 k] w38 fun (e40 : Ending) (w41 : World) =>
 ∃ (x42 : Int), e40 = Ending.returned (Value.int IntKind.i64 x42) ∧ J30 (x42 != -1, ()) w41) ∧
 ((!b39) = false → J30 (false, ()) w38))) ∧
 (b33 = false →
 Calls Proofs.Try.prog 14 #[Value.pointer a3, Value.int IntKind.i64 k] w32 fun (e43 : Ending) (w44 : World) =>
 ∃ (b45 : Bool),
 e43 = Ending.returned (Value.bool b45) ∧
 ((!b45) = true →
 Calls Proofs.Try.prog 20 #[Value.pointer a3, Value.int IntKind.i64 k] w44 fun (e46 : Ending) (w47 : World) =>
 ∃ (x48 : Int), e46 = Ending.returned (Value.int IntKind.i64 x48) ∧ J30 (x48 != -1, ()) w47) ∧
 ((!b45) = false → J30 (false, ()) w44))) ∧
 ∀ (b49 : Bool) (w50 : World),
 J30 (b49, ()) w50 →
 (b49 = true → R (Ending.returned (Value.bool false)) w50) ∧
 (b49 = false →
 Calls Proofs.Try.prog 22 #[Value.pointer none] w50 fun (e51 : Ending) (w52 : World) =>
 ∃ (x53 : Int),
 ∃ (b54 : Bool),
 e51 = Ending.returned (Value.tuple #[Value.int IntKind.i64 x53, Value.bool b54]) ∧
 OpW Proofs.Try.prog (valueS (Instr.alloc 45 true (Value.tuple #[]))) w52 fun (v55 : Value) (w56 : World) =>
 ∃ (ad57 : Addr),
 v55 = Value.pointer (some ad57) ∧
 Calls Proofs.Try.prog 24 #[Value.pointer a3] w56 fun (e58 : Ending) (w59 : World) =>
 ∃ (a60 : Option Addr),
 ∃ (n61 : Nat),
 ∃ (n62 : Nat),
 e58 = Ending.returned (Value.slice a60 n61 n62) ∧
 Calls Proofs.Try.prog 23 #[Value.slice a60 n61 n62, Value.slice a15 n16 n17] w59 fun (e63 : Ending) (w64 : World) =>
 ∃ (b65 : Bool),
 e63 = Ending.returned (Value.bool b65) ∧
 (b65 = true →
 Calls Proofs.Try.prog 17 #[Value.pointer none, Value.int IntKind.i64 1] w64 fun (e66 : Ending) (w67 : World) =>
 ∃ (b68 : Bool),
 e66 = Ending.returned (Value.bool b68) ∧
 ((!b68) = true →
 Calls Proofs.Try.prog 15 #[Value.pointer none, Value.int IntKind.i64 1] w67 fun (e69 : Ending) (w70 : World) =>
 ∃ (b71 : Bool),
 e69 = Ending.returned (Value.bool b71) ∧
 ((!b71) = true →
 ((!b54) = true →
 Calls Proofs.Try.prog 19 #[Value.pointer none] w70 fun (e72 : Ending) (w73 : World) =>
 ∃ (x74 : Int),
 e72 = Ending.returned (Value.int IntKind.i64 x74) ∧
 ((x74 == 0) = true →
 Calls Proofs.Try.prog 17 #[Value.pointer (some ad57), Value.int IntKind.i64 1] w73
 fun (e75 : Ending) (w76 : World) =>
 ∃ (b77 : Bool),
 e75 = Ending.returned (Value.bool b77) ∧
 ((!b77) = true →
 Calls Proofs.Try.prog 19 #[Value.pointer (some ad57)] w76 fun (e78 : Ending) (w79 : World) =>
 ∃ (x80 : Int),
 e78 = Ending.returned (Value.int IntKind.i64 x80) ∧
 ((x80 == 0) = true →
 Calls Proofs.Try.prog 25 #[] w79 fun (e81 : Ending) (w82 : World) =>
 ∃ (b83 : Bool),
 e81 = Ending.returned (Value.bool b83) ∧ R (Ending.returned (Value.bool b83)) w82) ∧
 ((x80 == 0) = false → R (Ending.returned (Value.bool false)) w79)) ∧
 ((!b77) = false → R (Ending.returned (Value.bool false)) w76)) ∧
 ((x74 == 0) = false → R (Ending.returned (Value.bool false)) w73)) ∧
 ((!b54) = false → R (Ending.returned (Value.bool false)) w70)) ∧
 ((!b71) = false → R (Ending.returned (Value.bool false)) w70)) ∧
 ((!b68) = false → R (Ending.returned (Value.bool false)) w67)) ∧
 (b65 = false → R (Ending.returned (Value.bool false)) w64)))))
theorem f4_eq (la : Option Addr) (ln : Nat) (lc : Nat) (k : Int) (w : World) (R : Ending → World → Prop) : (fnF Go.Proofs.Try.prog h4 Go.Proofs.Try.f4 [Value.slice la ln lc, Value.int IntKind.i64 k] w R).den = f4_vc la ln lc k w R := by kernel_rfl
theorem f4_calls (la : Option Addr) (ln : Nat) (lc : Nat) (k : Int) (w : World) (R : Ending → World → Prop) (h : f4_vc la ln lc k w R) : Calls Go.Proofs.Try.prog 4 (List.toArray [Value.slice la ln lc, Value.int IntKind.i64 k]) w R :=
 fn_sound (H := h4) (fn := Go.Proofs.Try.f4) (by kernel_rfl) (by kernel_rfl) (by kernel_rfl) ((f4_eq la ln lc k w R).mpr h)

end Vcd2
